/-
 Texts,merged,without what is not reached.
-/
import Derived.Test.YtgkdikddjfgajaaGreatDoorKMf
set_option linter.unusedSimpArgs false
set_option linter.unusedVariables false
open Go.IntKind (i64 u64)
namespace Go.Proofs.YtgkdikddjfgajaaGreatDoor
open Go Go.G Go.Proofs Go.PL
theorem Ku (ed:List UInt8→Option (E × Nat)) (l:Int) (s:List UInt8) (f n k:Nat):BR ed l (f+1) n (s.drop k)=if El (s.drop k)=93 then some ([],0) else match B9 n (s.drop k) with
  |none=>none
  |some k0=>match CH ed l (s.drop (k+k0)) with
   |none=>none
   |some (w,k1)=>match BR ed l f (n+1) (s.drop (k+k0+k1)) with
    |none=>none
    |some (ws,k2)=>some (w::ws,k0+k1+k2):=by
 rw[BR];simp only[List.drop_drop,Nat.add_assoc];rfl
def lE (l:Int) (O:A):List A:=[iv 3,iv 0,.sl true [],.sl true [],iv 0,.sl true [],.sl true [],.sl true [],.sl true [],iv l,O]
variable {φ:Prop} {n0:Nat} {w0:World} {I0:Nat→Prop} {M0:Nm→Nat→Prop} {m0:Mu} {Q:Exit→Sta→Prop}
set_option maxHeartbeats 8000000 in
theorem nV {s:List UInt8} (hs:s.length≤1000000000) {d:Nat} (hd:d≤1000) (hT:sm d s) (l:Int) {u7:Nat} {O1:VOb}:∀ (f k v:Nat) (acc:List OP) (H:Hp),k≤s.length→s.length-k<f→acc.length≤k→(∀ p,H (0::p)=(CF s k).F 0 p)→H [1]=O1→H [3]=⟨u7,.cells (lE l (.osl [4] v 14 0 acc.length))⟩→H [4]=⟨v,.arr 14 (acc.map oX)⟩ →
  (BR (Bb d) l f acc.length (s.drop k)=none→φ) →
  (∀ (ws:List OP) (n:Nat),BR (Bb d) l f acc.length (s.drop k)=some (ws,n)→∀ (H':Hp) (v':Nat),(∀ p,H' (0::p)=(CF s (k+n)).F 0 p)→H' [1]=O1→H' [3]=⟨u7,.cells (lE l (.osl [4] v' 14 0 (acc++ws).length))⟩→H' [4]=⟨v',.arr 14 ((acc++ws).map oX)⟩ →
   Q (.exit 0) ⟨lk [(0,pp 0),(1,iv (d+1:Nat)),(4,.pob [1] 1 0),(7,.pob [3] u7 0),(54,bv false)],H'⟩) →
  LoopC (OB MS φ Tryz.prog w0 I0 M0 n0 m0) HF Q ⟨lk [(0,pp 0),(1,iv (d+1:Nat)),(4,.pob [1] 1 0),(7,.pob [3] u7 0)],H⟩:=by
 intro f;induction f with
 |zero=>intro k v acc H hk hf;omega
 |succ f ih=>
  intro k v acc H hk hf hac hH h1 h3 h4 hφ hq;have hn:=Dw s k hk;refine Ad mixed HF.eq_1 ?_;simp;refine Ai 0 hn hH (by simp) (by simp) ?_;by_cases hx:El (s.drop k)=93
  ·rw[hx];simp;exact hq [] 0 (by unfold BR;rw[if_pos hx]) _ v (fun p=>by simp) (by simp[h1]) (by simp[h3]) (by simp[h4])
  ·have hx1:¬ ((El (s.drop k)).toNat:Int)=93:=fun e=>hx ((u8_inj (b:=93)).1 e);have hx2:¬ (El (s.drop k)).toNat=93:=fun e=>hx1 (by omega);simp[hx1,hx2,hx];have t0:=Qc (n:=acc.length) hk hs;have hdl:(s.drop k).length=s.length-k:=by simp
   simp[h3,lE];cases e0:B9 acc.length (s.drop k) with
   |none=>
    rw[e0] at t0;refine AE (.tup []) 0 t0 ⟨rfl,hφ (by rw[Ku,if_neg hx,e0])⟩ (fun p=>by simp) (by simp) (by simp) ?_;simp;exact Au (AF 0 (by simp[AW]))
   |some k0=>
    rw[e0] at t0;have b0:=GK e0;rw[hdl] at b0;refine Ai 0 t0 (fun p=>by simp) (by simp) (by simp) ?_;simp;refine Ay ?_;simp[h3,lE];have t1:=bo hs hd hT l (k+k0) (by omega);cases e1:CH (Bb d) l (s.drop (k+k0)) with
    |none=>
     rw[e1] at t1;refine AE (oX (.mk 0 0 [] E0)) 0 t1 ⟨rfl,hφ (by rw[Ku,if_neg hx,e0];simp only;rw[e1])⟩ (fun p=>by simp) (by simp) (by simp[List.isPrefixOf]) ?_;simp[h3,h4,lE,Aa,splice];exact⟨by omega,LoopC.dead (AF 0 (by simp[AW]))⟩
    |some q1=>
     obtain⟨a,k1⟩:=q1;rw[e1] at t1;have b1:=UY (J0 d) e1;simp only[List.length_drop] at b1;refine Ai 0 t1 (fun p=>by simp) (by simp) (by simp[List.isPrefixOf]) ?_;simp[h3,h4,lE,Aa,splice];refine⟨by omega,?_⟩;have ew:∀ ws n,BR (Bb d) l f (acc++[a]).length (s.drop (k+k0+k1))=some (ws,n)→BR (Bb d) l (f+1) acc.length (s.drop k)=some (a::ws,k0+k1+n):=fun ws n h=>by
      rw[Ku,if_neg hx,e0];simp only;rw[e1];simp only;rw[List.length_append,List.length_singleton] at h;rw[h]
     have ew2:BR (Bb d) l f (acc++[a]).length (s.drop (k+k0+k1))=none→BR (Bb d) l (f+1) acc.length (s.drop k)=none:=fun h=>by
      rw[Ku,if_neg hx,e0];simp only;rw[e1];simp only;rw[List.length_append,List.length_singleton] at h;rw[h]
     refine ih (k+k0+k1) (v+1) (acc++[a]) _ (by omega) (by omega) (by simp;omega) (fun p=>by simp) (by simp[Aa,h1]) (by simp[Aa,lE]) (by simp[Aa,Dz]) (fun hN=>hφ (ew2 hN)) (fun ws n h H' v' g0 g1 g3 g4=>?_);refine hq (a::ws) _ (ew ws n h) H' v' (fun p=>?_) g1 ?_ ?_
     ·rw[g0];congr 2;omega
     ·rw[g3];simp
     ·rw[g4];simp
theorem PV (ed:List UInt8→Option (E × Nat)) (s:List UInt8) (p:Nat):Ee ed (s.drop p)=if 2≤(s.drop p).length∧Uk AB ((s.drop p).take 2++[93])=true then
  match BR ed (B0 AB ((s.drop p).take 2++[93])).kind ((s.drop p).length+1) 0 (s.drop (p+2)) with
  |none=>none
  |some (os,k1)=>match AK 93 (s.drop (p+2+k1)) with
   |none=>none
   |some _=>some (.mk 3 T0 T0 [] [] (B0 AB ((s.drop p).take 2++[93])).kind os,2+k1+1)
 else none:=by
 unfold Ee;simp only[List.drop_drop,Nat.add_assoc];rfl
set_option maxHeartbeats 4000000 in
theorem XS {s:List UInt8} (hs:s.length≤1000000000) {d:Nat} (hd:d≤1000) (hT:sm d s) (k:Nat) (hk:k≤s.length):Nk MS Tryz.prog 126 (fun r=>[pp r,iv (d+1:Nat)]) (CF s k) (Jt eX s k (Ee (Bb d) (s.drop k))):=by
 refine Ig TN (by simp) (Ag AJ (Ag AO Al)) (FW Pj) fun w0 I0 M0 m0 hM=>?_;have hdl:(s.drop k).length=s.length-k:=by simp
 have e2:i64.wrap ((k:Int)+2)=((k+2:Nat):Int):=HZ;unfold L6;by_cases h2:2≤(s.drop k).length
 ·have hle:k+2≤s.length:=by omega
  simp[e2,show ¬ ((s.length:Int)<(k:Int)+2) by omega];refine Ay ?_;rw[Li.eq_1];have hp:=Lz (s:=(s.drop k).take 2++[93]) (by simp;omega);have c1:(0≤(k:Int)+2∧(k:Int)+2≤s.length)=True:=eq_true (by omega);have c2:((k:Int)+2).toNat=k+2:=by omega
  have hadd:=BD (l:=(s.drop k).take 2) (m:=[93]) (by simp;omega);simp[e2,c1,c2,show(k:Int)≤(k:Int)+2 by omega,hadd];refine Af hp rfl ?_;have hN:Uk AB ((s.drop k).take 2++[93])=false→Ee (Bb d) (s.drop k)=none:=fun h=>by rw[PV,if_neg (fun h2=>by rw[h] at h2;cases h2.2)]
  have hY:Uk AB ((s.drop k).take 2++[93])=true→Ee (Bb d) (s.drop k)=(match BR (Bb d) (B0 AB ((s.drop k).take 2++[93])).kind ((s.drop k).length+1) 0 (s.drop (k+2)) with
   |none=>none
   |some (os,k1)=>match AK 93 (s.drop (k+2+k1)) with
    |none=>none
    |some _=>some (.mk 3 T0 T0 [] [] (B0 AB ((s.drop k).take 2++[93])).kind os,2+k1+1)):=fun h=>by rw[PV,if_pos ⟨h2,h⟩]
  generalize B0 AB ((s.drop k).take 2++[93])=T at *;cases hok:Uk AB ((s.drop k).take 2++[93]) with
  |false=>
   rw[hN hok];simp;refine AE (.tup []) 0 (CY (CF s k)) ⟨rfl,by simp⟩ (fun p=>by by_cases hp:p=[]<;>simp[hp,Aa]) (by simp) (by simp) ?_;simp;exact Au (AF 0 (by simp[AW]))
  |true=>
   have hY:=hY hok;simp;refine Ay ?_;rw[KN.eq_1];simp[e2,Aa];refine LoopC.le (C3 (d:=[3]) (u:=1) (cs:=lE T.kind (.sl true [])) 10 [4] 14 (by simp[Aa,lE]) rfl (by simp)) ?_;refine LoopC.le (Be [(0,pp 0),(1,iv (d+1:Nat)),(4,.pob [1] 1 0),(7,.pob [3] 1 0)] (by simp)) ?_;refine nV (O1:=⟨1,.cells (qK)⟩) hs hd hT T.kind ((s.drop k).length+1) (k+2) 1 [] _ (by omega) (by omega) (by simp) (fun p=>by by_cases hp:p=[]<;>simp[hp,Aa]) (by simp[Aa,qK]) (by simp[Aa,lE]) (by simp[Aa]) (fun hN2=>?_) (fun os k1 hW H' v' g0 g1 g3 g4=>?_)
   ·rw[hY,show BR (Bb d) T.kind ((s.drop k).length+1) 0 (s.drop (k+2))=none from hN2];rfl
   ·have hW':BR (Bb d) T.kind ((s.drop k).length+1) 0 (s.drop (k+2))=some (os,k1):=hW;have b1:=NJ (J0 d) _ _ _ _ _ hW';simp only[List.length_drop] at b1;have t2:=EY (s:=s) (k:=k+2+k1) (c:=93) (by omega) hs (by decide);simp;cases e3:AK 93 (s.drop (k+2+k1)) with
    |none=>
     rw[e3] at t2;refine AE (.tup []) 0 t2 ⟨rfl,by rw[hY,hW'];simp only;rw[e3];rfl⟩ (fun p=>by simp[g0]) (by simp) (by simp) ?_;simp;exact Au (AF 0 (by simp[AW]))
    |some n2=>
     rw[e3] at t2;obtain⟨rfl,b2⟩:=Bu e3;rw[hW'] at hY;simp only at hY;rw[e3] at hY;rw[hY];refine Ai 0 t2 (fun p=>by simp[g0]) (by simp) (by simp) ?_;simp;refine Ay ?_;simp[g1,g3,lE,qK,splice,HP];rw[show k+(2+k1+1)=k+2+k1+1 by omega];refine GN hM (fun r=>r=4) (fun r h=>by omega) (e:=.mk 3 T0 T0 [] [] T.kind os) (cs:=[iv 3,iv 0,.sl true [],.sl true [],iv 0,.sl true [],.sl true [],.sl true [],.sl true [],iv T.kind,.osl [4] v' 14 0 os.length]) (by simp[Aa]) (fun H1 h1=>⟨Ab rfl,Ab rfl,Ae,Ae,Ab rfl,Ae,Ae,Ae,Ae,Ab rfl,DU (f:=oA) (l:=os) (by rw[h1 4 [] (by simp)];simp[Aa,g4]) rfl (fun x=>by simp),trivial⟩) (fun p=>by simp)
 ·have hN:Ee (Bb d) (s.drop k)=none:=by rw[PV,if_neg (fun h=>h2 h.1)]
  rw[hN];simp[e2,show((s.length:Int)<(k:Int)+2) by omega];refine AE (.tup []) 0 (CY (CF s k)) ⟨rfl,by simp⟩ (fun p=>by by_cases hp:p=[]<;>simp[hp,Aa]) (by simp) (by simp) ?_;simp;exact Au (AF 0 (by simp[AW]))
theorem JR (s:List UInt8) (p:Nat):MI (s.drop p)=match Cs (s.drop p) with
 |none=>none
 |some (o,k1)=>match AK 62 (s.drop (p+k1)) with
  |none=>none
  |some _=>match Cs (s.drop (p+k1+1)) with
   |none=>none
   |some (n,k2)=>match AK 41 (s.drop (p+k1+1+k2)) with
    |none=>none
    |some _=>some (.mk 1 o n [] [] 0 [],k1+1+k2+1):=by
 unfold MI;simp only[List.drop_drop,Nat.add_assoc];rfl
theorem T2 {s:List UInt8} {k:Nat} {c:UInt8} (h:Bt (s.drop k) c=true):k<s.length:=by
 rcases Nat.lt_or_ge k s.length with h1 | h1
 ·exact h1
 ·rw[List.drop_eq_nil_of_le h1] at h;simp[Bt] at h
theorem ND {α:Type} {f:α→A} {s:List UInt8} {k:Nat} {o:Option (α × Nat)}:Jt f s k (Jw 1 o)=Jt f s (k+1) o:=by
 rcases o with _ | ⟨x,n⟩
 ·rfl
 ·simp[Jw,Jt,Nat.add_assoc]
def zE:List A:=[iv 0,iv 0,.sl true [],.sl true [],iv 0,.sl true [],.sl true [],.sl true [],.sl true [],iv 0,.sl true []]
set_option maxHeartbeats 8000000 in
theorem QL {s:List UInt8} (hs:s.length≤1000000000):∀ d,d≤1000→sm d s:=by
 intro d;induction d with
 |zero=>
  intro _ k hk;refine Ig ME (by simp) (Ag AJ (Ag AO Al)) (FW Pj) fun w0 I0 M0 m0 hM=>?_;unfold Jh;simp;refine AE (.tup []) 0 (CY (CF s k)) ⟨rfl,by simp[Bb]⟩ (fun p=>by simp[Aa]) (by simp) (by simp) ?_;simp;exact Au (AF 0 (by simp[AW]))
 |succ d ih=>
  intro hd k hk;have hT:=ih (by omega);refine Ig ME (by simp) (Ag AJ (Ag AO Al)) (FW Pj) fun w0 I0 M0 m0 hM=>?_;unfold Jh;simp[show ¬ ((d:Int)+1=0) by omega];have t0:=Kr s k 61 hk hs (by decide);rw[Bb];cases e0:Bt (s.drop k) 61 with
  |true=>
   rw[e0] at t0;refine Ai 0 t0 (fun p=>by simp[Aa]) (by simp) (by simp[List.isPrefixOf]) ?_;simp;refine Ay ?_;simp[Aa,HP];refine GN hM (fun _=>False) (fun r h=>h.elim) (e:=E0) (cs:=zE) (by simp[Aa,zE]) (fun H1 h1=>⟨Ab rfl,Ab rfl,Ae,Ae,Ab rfl,Ae,Ae,Ae,Ae,Ab rfl,Ae,trivial⟩) (fun p=>by simp)
  |false=>
   rw[e0] at t0;refine Ai 0 t0 (fun p=>by simp[Aa]) (by simp) (by simp[List.isPrefixOf]) ?_;simp;have t1:=Kr s k 40 hk hs (by decide);cases e1:Bt (s.drop k) 40 with
   |true=>
    have hlt:=T2 e1;rw[e1] at t1;refine Ai 0 t1 (fun p=>by simp) (by simp) (by simp[List.isPrefixOf]) ?_;simp[ND,List.drop_drop];have t2:=IC hs (k+1) (by omega);cases e2:Cs (s.drop (k+1)) with
    |none=>
     rw[e2] at t2;refine AE (tX T0) 0 t2 ⟨rfl,by rw[JR,e2];rfl⟩ (fun p=>by simp) (by simp) (by simp[List.isPrefixOf]) ?_;simp[Aa];exact Au (AF 0 (by simp[AW]))
    |some q2=>
     obtain⟨o,k1⟩:=q2;rw[e2] at t2;have b2:=Jz e2;simp only[List.length_drop] at b2;refine Ai 0 t2 (fun p=>by simp) (by simp) (by simp[List.isPrefixOf]) ?_;simp[Aa,splice];refine Ay ?_;have t3:=EY (s:=s) (k:=k+1+k1) (c:=62) (by omega) hs (by decide);simp;cases e3:AK 62 (s.drop (k+1+k1)) with
     |none=>
      rw[e3] at t3;refine AE (.tup []) 0 t3 ⟨rfl,by rw[JR,e2];simp only;rw[e3];rfl⟩ (fun p=>by simp) (by simp) (by simp[List.isPrefixOf]) ?_;simp;exact Au (AF 0 (by simp[AW]))
     |some n3=>
      rw[e3] at t3;obtain⟨rfl,b3⟩:=Bu e3;simp only[List.length_drop] at b3;refine Ai 0 t3 (fun p=>by simp) (by simp) (by simp[List.isPrefixOf]) ?_;simp;refine Ay ?_;have t4:=IC hs (k+1+k1+1) (by omega);simp;cases e4:Cs (s.drop (k+1+k1+1)) with
      |none=>
       rw[e4] at t4;refine AE (tX T0) 0 t4 ⟨rfl,by rw[JR,e2];simp only;rw[e3];simp only;rw[e4];rfl⟩ (fun p=>by simp) (by simp) (by simp[List.isPrefixOf]) ?_;simp[Aa,splice];exact Au (AF 0 (by simp[AW]))
      |some q4=>
       obtain⟨n,k2⟩:=q4;rw[e4] at t4;have b4:=Jz e4;simp only[List.length_drop] at b4;refine Ai 0 t4 (fun p=>by simp) (by simp) (by simp[List.isPrefixOf]) ?_;simp[Aa,splice];refine Ay ?_;have t5:=EY (s:=s) (k:=k+1+k1+1+k2) (c:=41) (by omega) hs (by decide);simp;cases e5:AK 41 (s.drop (k+1+k1+1+k2)) with
       |none=>
        rw[e5] at t5;refine AE (.tup []) 0 t5 ⟨rfl,by rw[JR,e2];simp only;rw[e3];simp only;rw[e4];simp only;rw[e5];rfl⟩ (fun p=>by simp) (by simp) (by simp[List.isPrefixOf]) ?_;simp;exact Au (AF 0 (by simp[AW]))
       |some n5=>
        rw[e5] at t5;obtain⟨rfl,b5⟩:=Bu e5;have hE:MI (s.drop (k+1))=some (.mk 1 o n [] [] 0 [],k1+1+k2+1):=by rw[JR,e2];simp only;rw[e3];simp only;rw[e4];simp only;rw[e5]
        rw[hE];refine Ai 0 t5 (fun p=>by simp) (by simp) (by simp[List.isPrefixOf]) ?_;simp;refine Ay ?_;simp[Aa,HP];rw[show k+1+(k1+1+k2+1)=k+1+k1+1+k2+1 by omega];refine GN hM (fun _=>False) (fun r h=>h.elim) (e:=.mk 1 o n [] [] 0 []) (cs:=[iv 1,iv o.kind,Gm o.words,DV o.kids,iv n.kind,Gm n.words,DV n.kids,.sl true [],.sl true [],iv 0,.sl true []]) (by simp[Aa]) (fun H1 h1=>⟨Ab rfl,Ab rfl,Ae,Ae,Ab rfl,Ae,Ae,Ae,Ae,Ab rfl,Ae,trivial⟩) (fun p=>by simp)
   |false=>
    rw[e1] at t1;refine Ai 0 t1 (fun p=>by simp) (by simp) (by simp[List.isPrefixOf]) ?_;simp;have t2:=Kr s k 115 hk hs (by decide);cases e2:Bt (s.drop k) 115 with
    |true=>
     have hlt:=T2 e2;rw[e2] at t2;refine Ai 0 t2 (fun p=>by simp) (by simp) (by simp[List.isPrefixOf]) ?_;simp[ND,List.drop_drop];have t3:=TU hs (by omega) hT (k+1) (by omega);cases e3:Ei (Bb d) (s.drop (k+1)) with
     |none=>
      rw[e3] at t3;refine AE (eX E0) 0 t3 ⟨rfl,rfl⟩ (fun p=>by simp) (by simp) (by simp[List.isPrefixOf]) ?_;simp[Aa];exact Au (AF 0 (by simp[AW]))
     |some q3=>
      obtain⟨e,k1⟩:=q3;rw[e3] at t3;refine Ai 0 t3 (fun p=>by simp) (by simp) (by simp[List.isPrefixOf]) ?_;simp[Aa,splice];refine Ay ?_;simp[Aa,HP];refine GN hM (fun _=>False) (fun r h=>h.elim) (e:=e) (cs:=eL e) (by simp[Aa]) (fun H1 h1=>⟨Ab rfl,Ab rfl,Ae,Ae,Ab rfl,Ae,Ae,Ae,Ae,Ab rfl,Ae,trivial⟩) (fun p=>by simp)
    |false=>
     rw[e2] at t2;refine Ai 0 t2 (fun p=>by simp) (by simp) (by simp[List.isPrefixOf]) ?_;simp;have t3:=EY (s:=s) (k:=k) (c:=108) hk hs (by decide);cases e3:Bt (s.drop k) 108 with
     |false=>
      rw[show AK 108 (s.drop k)=none by unfold AK;rw[e3];rfl] at t3;refine AE (.tup []) 0 t3 ⟨rfl,rfl⟩ (fun p=>by simp) (by simp) (by simp[List.isPrefixOf]) ?_;simp;exact Au (AF 0 (by simp[AW]))
     |true=>
      have hlt:=T2 e3;rw[show AK 108 (s.drop k)=some 1 by unfold AK;rw[e3];rfl] at t3;refine Ai 0 t3 (fun p=>by simp) (by simp) (by simp[List.isPrefixOf]) ?_;simp[ND,List.drop_drop];refine Ay ?_;have t4:=XS hs (by omega) hT (k+1) (by omega);simp;cases e4:Ee (Bb d) (s.drop (k+1)) with
      |none=>
       rw[e4] at t4;refine AE (eX E0) 0 t4 ⟨rfl,rfl⟩ (fun p=>by simp) (by simp) (by simp[List.isPrefixOf]) ?_;simp[Aa];exact Au (AF 0 (by simp[AW]))
      |some q4=>
       obtain⟨e,k1⟩:=q4;rw[e4] at t4;refine Ai 0 t4 (fun p=>by simp) (by simp) (by simp[List.isPrefixOf]) ?_;simp[Aa,splice];refine Ay ?_;simp[Aa,HP];refine GN hM (fun _=>False) (fun r h=>h.elim) (e:=e) (cs:=eL e) (by simp[Aa]) (fun H1 h1=>⟨Ab rfl,Ab rfl,Ae,Ae,Ab rfl,Ae,Ae,Ae,Ae,Ab rfl,Ae,trivial⟩) (fun p=>by simp)
end Go.Proofs.YtgkdikddjfgajaaGreatDoor
namespace Go.Proofs.YtgkdikddjfgajaaGreatDoor
set_option maxRecDepth 20000
open Go Go.G Go.Proofs Go.PL Go.RowKit
theorem QX {c:Cx} {nms:Nat→Nm} {need:Nat→Nat→Bool} {ops:Array Oper} {K:Sta→Prop} {Q:Exit→Act→List Frame→World→Prop} {cs:List Frame} (hd:FC c.n ops=true) (hdie:∀ t,¬ c.die t) (hQ:∀ st a w I μ,SR c st a w I μ→K st→Q .normal a cs w) :
  ∀ (l:List Oper) (k:Nat) (lg:Lg) (st:Sta) (a:Act) (w:World) (I:Nat→Prop) (μ:Mu),(∀ j,l[j]? = ops[k+j]?)→SR c st a w I μ→Vc c.P c.die nms need ops K l k lg st→wpOpsS c.P ops Q (List.range' k l.length) a cs w
 |[],k,lg,st,a,w,I,μ,_,h,hs=>hQ st a w I μ h hs
 |o::l,k,lg,st,a,w,I,μ,hl,h,hs=>by
  obtain⟨x,E,f,⟨q,x0,hg,h1,rfl,h2⟩,_,hs⟩:=hs;have h0:ops[k]? = some o:=by simpa using (hl 0).symm
  have hw:=GD h hd hg;have hdst:=GZ hd h0;have next:∀ a' w' I' μ',SR c (st.put o.dst (gd q x0) (E.app st.H)) a' w' I' μ'→wpOpsS c.P ops Q (List.range' (k+1) l.length) a' cs w':=fun a' w' I' μ' h'=>
   QX hd hdie hQ l (k+1) _ _ a' w' I' μ' (fun j=>by have:=hl (j+1);simpa[Nat.add_assoc,Nat.add_comm 1 j] using this) h' hs
  simp only[List.length_cons,List.range'_succ,wpOpsS,h0,hw];cases q with
  |true=>
   rw[if_pos rfl];have:=LP (Q:=fun e a' w'=>Q e a' cs w') h hdst (h1 rfl) (fun t w' e k'=>(hdie t e).elim) next
   unfold Oper.wp at this;split
   ·rename_i w' hr;rw[hr] at this;exact this.elim
   ·exact this
  |false=>
   rw[if_neg (by simp)];obtain⟨rfl,_,_⟩:=h2 rfl;exact next _ _ I μ (IZ h hdst)
noncomputable def wR:Code:=Tryz.f89.body.getD .ret
def D6:Code→Array Oper
 |.seq (.region _ ops _) _=>ops
 |_=>#[]
def Ea:Code→Code
 |.seq _ y=>y
 |_=>.ret
def gr:List CO:=[
 co (some 4) (.move (.tmp 6)) none,
 co (some 7) (.extract (.tmp 4) 0) none,
 co (some 8) (.extract (.tmp 4) 1) none,
 cn (some 2) (.alloc 159) none [2],
 co none (.store 159 (.tmp 2) (.tmp 7)) none,
 co (some 3) (.assign (.tmp 8)) none]
def SE:CC:=.seq (.reg [co (some 9) (.move (.tmp 3)) none] [0,1,9]) (.cond (.tmp 9)
 (.reg [co (some 10) (.build 73 #[]) none,co none (.store 73 (.tmp 0) (.tmp 10)) none,co none (.store 4 (.tmp 1) (.const (.bool false))) none] []) .skip)
theorem ld:Jl (D6 wR) false (OU (D6 wR)) [(5,[2])] 2 ((D6 wR).toList.drop 2)=some gr:=by kernel_rfl
theorem gh:C8 11 (Ea wR) [([0,1,9],[]),([],[]),([],[])]=some (SE,[]):=by kernel_rfl
theorem wT:wR = .seq (.region 0 (D6 wR) false) (Ea wR):=by kernel_rfl
theorem Wn {P:Program} {ops:Array Oper} {Q:Exit→Act→List Frame→World→Prop} {i:Nat} {rest:List Nat} {a:Act} {cs cs':List Frame} {w:World} {o:Oper} {v:Value} (ho:ops[i]? = some o) (hw:Region.wanted o (yielded ops a.tmps)=true) (hr:(execOp a.eval o).run P w = .ok .recover w)
  (hv:recoverD cs=some (v,cs')∨(recoverD cs=none∧v = .nilIface∧cs'=cs)) (h:wpOpsS P ops Q rest (a.put o.dst v) cs' w):wpOpsS P ops Q (i::rest) a cs w:=by
 simp only[wpOpsS,ho,hw,if_true,hr];rcases hv with hv | ⟨hv,rfl,rfl⟩
 ·rw[hv];exact h
 ·rw[hv];exact h
theorem ZO {P:Program} {ops:Array Oper} {Q:Exit→Act→List Frame→World→Prop} {i:Nat} {rest:List Nat} {a:Act} {cs:List Frame} {w w':World} {o:Oper} {v:Value} (ho:ops[i]? = some o) (hw:Region.wanted o (yielded ops a.tmps)=true) (hr:(execOp a.eval o).run P w = .ok (.value v) w')
  (h:wpOpsS P ops Q rest (a.put o.dst v) cs w'):wpOpsS P ops Q (i::rest) a cs w:=by
 simp only[wpOpsS,ho,hw,if_true,hr];exact h
theorem SU {w:World} {I:Nat→Prop} {μ:Mu} {H:Hp} {c:Cx} (hP:c.P=Tryz.prog) (hn:c.n=11) (hds:c.ds=[]) (hdie:∀ t,¬ c.die t) (hs:Sim c w I μ H) {p q:Value} {a0 a1 x6:A} (h0:Rel w I μ a0 p) (h1:Rel w I μ a1 q)
  {u u':FrameMode} {v5 v6:Value} (hrec:∀ (c₀:Frame) (cs:List Frame),c₀.mode=u→(recoverD (c₀::cs)=some (v5,{ c₀ with mode:=u' }::cs))∨(recoverD (c₀::cs)=none∧v5 = .nilIface∧u'=u))
  (h6:(Instr.typeAssert v5 20 159 true).run Tryz.prog w = .ok v6 w) (hr6:Rel w I μ x6 v6) {Q:Sta→Prop}
  (h:An Tryz.prog ⟨c.die,fun st=>WPC c SE (fun e st=>e = .normal∧Q st) (st.keep [0,1,3])⟩ gr [] ⟨lk [(0,a0),(1,a1),(6,x6)],H⟩) :
  CallsD Tryz.prog 89 #[p,q] u w fun e u2 w'=>e = .returned (.tuple #[])∧u2=u'∧∃ st' I' μ',Sim c w' I' μ' st'.H∧Q st':=by
 have hb:Tryz.f89.body=some wR:=by kernel_rfl
 refine callsD_of_wpS Tryz.func89 hb fun c₀ cs hu=>?_;rw[wT];apply wpS_seq;apply wpS_region;have hn2:Tryz.f89.ntmps=11:=by kernel_rfl
 have hsz:List.range (D6 wR).size=0::1::List.range' 2 ((D6 wR).toList.drop 2).length:=by kernel_rfl
 have ha:(⟨#[p,q]++Array.replicate (Tryz.f89.ntmps - #[p,q].size) undef,[]⟩:Act)=⟨#[p,q,undef,undef,undef,undef,undef,undef,undef,undef,undef],[]⟩:=by rw[hn2];rfl
 rw[hsz,ha];obtain⟨o0,q0⟩:∃ o,o=(D6 wR)[0]?.getD default:=⟨_,rfl⟩;have o00:(D6 wR)[0]? = some ⟨some 5,.call { callee:=.builtin .recover,args:=#[],argTypes:=#[] },20,"etext.go:233",#[],none⟩:=by kernel_rfl
 have o01:(D6 wR)[1]? = some ⟨some 6,.typeAssert (.tmp 5) 20 159 true,160,"etext.go:233",#[{ on:=0,ground:=.data }],none⟩:=by kernel_rfl
 refine Wn (v:=v5) (cs':={ c₀ with mode:=u' }::cs) o00 rfl rfl ((hrec c₀ cs hu).imp id fun ⟨k1,k2,k3⟩=>⟨k1,k2,by subst k3;subst hu;rfl⟩) ?_;refine ZO (v:=v6) (w':=w) o01 rfl ?_ ?_
 ·have e1:∀ ρ:Operand→Value,execOp ρ ⟨some 6,.typeAssert (.tmp 5) 20 159 true,160,"etext.go:233",#[{ on:=0,ground:=.data }],none⟩=(do pure (.value (← Instr.typeAssert (ρ (.tmp 5)) 20 159 true))):=fun _=>rfl;rw[e1];simp only[Sem.run_bind];rw[show ∀ a:Act,(a.put (some 5) v5).eval (.tmp 5)=(a.tmps.setIfInBounds 5 v5).getD 5 undef from fun _=>rfl];simp[h6]
 ·obtain⟨a2,ha2⟩:∃ a2,a2=((⟨#[p,q,undef,undef,undef,undef,undef,undef,undef,undef,undef],[]⟩:Act).put (some 5) v5).put (some 6) v6:=⟨_,rfl⟩;have ha3:a2=⟨#[p,q,undef,undef,undef,v5,v6,undef,undef,undef,undef],[]⟩:=by rw[ha2];rfl
  rw[← ha2];have sr:SR c ⟨lk [(0,a0),(1,a1),(6,x6)],H⟩ a2 w I μ:=by
   refine⟨hs,by rw[ha3,hn];rfl,by rw[ha3,hds],fun t=>?_⟩;rw[ha3];show Rel w I μ (lk [(0,a0),(1,a1),(6,x6)] t) _;simp only[Pm,WV];by_cases t0:0=t
   ·subst t0;exact h0
   by_cases t1:1=t
   ·subst t1;exact h1
   by_cases t6:6=t
   ·subst t6;exact hr6
   rw[if_neg t0,if_neg t1,if_neg t6];exact .any _ _
  have hd:FC 11 (D6 wR)=true:=by kernel_rfl
  have hl:=Lk (P:=Tryz.prog) (ops:=D6 wR) (draw:=false) (K:=⟨c.die,fun st=>WPC c SE (fun e st=>e = .normal∧Q st) (st.keep [0,1,3])⟩) ((D6 wR).toList.drop 2) 2 gr [] [] _ ld (by kernel_rfl) (fun p hp=>by simp at hp) h;have hh:=QX (c:=c) (Q:=Exit.thenS ((Ea wR).wpS Tryz.prog (bodyPostS Tryz.prog Tryz.f89 c₀ cs fun e u2 w'=>e = .returned (.tuple #[])∧u2=u'∧∃ st' I' μ',Sim c w' I' μ' st'.H∧Q st')) (bodyPostS Tryz.prog Tryz.f89 c₀ cs fun e u2 w'=>e = .returned (.tuple #[])∧u2=u'∧∃ st' I' μ',Sim c w' I' μ' st'.H∧Q st')) (cs:={ c₀ with mode:=u' }::cs) (ops:=D6 wR) (K:=fun st=>WPC c SE (fun e st=>e = .normal∧Q st) (st.keep [0,1,3])) (by rw[hn];exact hd) hdie (fun st a w I μ hsr hK=>?_) ((D6 wR).toList.drop 2) 2 [] _ a2 w I μ (fun j=>by simp) sr (by rw[hP];exact hl)
  ·rw[hP] at hh;exact hh
  ·obtain⟨I2,μ2,h3⟩:=Mq [0,1,3] a w I μ hsr;have hw:=DG (c:=c) (by rw[hP];exact mixed) (by rw[hn];exact B8 gh) hK a w I2 μ2 h3;rw[hP] at hw;refine wpS_of_wp (wp_mono hw fun e a' w' hu=>?_);rcases hu with ⟨st',I',μ',g1,rfl,g2⟩ | ⟨t,k,_⟩
   ·exact⟨g1.defers.trans hds,u',rfl,.tuple #[],by kernel_rfl,rfl,rfl,st',I',μ',g1.sim,g2⟩
   ·exact(hdie t k).elim
@[simp] theorem uD:A1 Tryz.prog 159=some (.agg #[]):=by kernel_rfl
@[simp] theorem Ab4:B2 Tryz.prog 159=some 0:=by kernel_rfl
@[simp] theorem AcG:B2 Tryz.prog 4=some 1:=by kernel_rfl
@[simp] theorem AaM:CA Tryz.prog 4=some false:=by kernel_rfl
@[simp] theorem wG:A1 Tryz.prog 4=some (.bool false):=by kernel_rfl
theorem XJ {w:World} {I:Nat→Prop} (hI:∀ b,I b→b<w.heap.size) (ht:Tabs Tryz.prog w I) (p q:Value):CallsD Tryz.prog 89 #[p,q] .returning w fun e u2 w'=>e = .returned (.tuple #[])∧u2 = .returning∧w.grownBy w' none:=by
 refine(SU (c:=cx Tryz.prog w I 11) (w:=w) (I:=I) (μ:=Jq) (H:=H0) rfl rfl rfl (fun _ h=>h) (Ib hI ht) (a0:=.any) (a1:=.any) (x6:=.tup [.agg [],bv false]) (.any _ _) (.any _ _) (u':=.returning) (v5:=.nilIface) (v6:=.tuple #[.agg #[],.bool false]) (fun c₀ cs hu=>.inr ⟨by simp[recoverD,hu],rfl,rfl⟩) (by kernel_rfl) ?_ (Q:=fun _=>True) ?_).mono fun e u2 w' ⟨h1,h2,st',I',μ',h3,_⟩=>⟨h1,h2,?_⟩
 ·refine .tup _ _ _ rfl fun k y hk=>?_
  match k,hk with
  |0,hk=>simp at hk;subst hk;exact .agg _ _ _ rfl fun k y hk=>by simp at hk
  |1,hk=>simp at hk;subst hk;exact .v _ _
 ·unfold gr SE;simp
 ·have k:=h3.kept;exact⟨k.os,k.tape,k.output,k.size,fun b hb _=>k.block b hb (fun ⟨_,h⟩=>h)⟩
theorem VR {w:World} {I:Nat→Prop} {μ:Mu} {H:Hp} {c:Cx} (hP:c.P=Tryz.prog) (hn:c.n=11) (hds:c.ds=[]) (hdie:∀ t,¬ c.die t) (hs:Sim c w I μ H) {p q:Value} (h0:Rel w I μ (.pob [0] 1 0) p) (h1:Rel w I μ (.pob [1] 1 0) q) {x y:A} {cs:List A} (hc:cs.length=11) (g0:H [0]=⟨1,.cells cs⟩) (g1:H [1]=⟨1,.cells [y]⟩) :
  CallsD Tryz.prog 89 #[p,q] (.panicking [Lq MS]) w fun e u2 w'=>e = .returned (.tuple #[])∧u2 = .panicking [{ v:=.iface MS (.agg #[]),recovered:=true }]∧∃ H' I' μ',Sim c w' I' μ' H'∧H' [0]=⟨1,.cells zE⟩∧H' [1]=⟨1,.cells [bv false]⟩:=by
 refine(SU (c:=c) (w:=w) (I:=I) (μ:=μ) (H:=H) hP hn hds hdie hs (a0:=.pob [0] 1 0) (a1:=.pob [1] 1 0) (x6:=.tup [.agg [],bv true]) h0 h1 (u':=.panicking [{ v:=.iface MS (.agg #[]),recovered:=true }]) (v5:=.iface MS (.agg #[])) (v6:=.tuple #[.agg #[],.bool true]) (fun c₀ cs hu=>.inl (by simp[recoverD,hu,Lq])) (by kernel_rfl) ?_ (Q:=fun st=>st.H [0]=⟨1,.cells zE⟩∧st.H [1]=⟨1,.cells [bv false]⟩) ?_).mono fun e u2 w' ⟨h1,h2,st',I',μ',h3,h4⟩=>⟨h1,h2,st'.H,I',μ',h3,h4.1,h4.2⟩
 ·refine .tup _ _ _ rfl fun k y hk=>?_
  match k,hk with
  |0,hk=>simp at hk;subst hk;exact .agg _ _ _ rfl fun k y hk=>by simp at hk
  |1,hk=>simp at hk;subst hk;exact .v _ _
 ·unfold gr SE;simp[hP,g0,g1,Aa,hc,zE]
noncomputable def wB:Code:=Tryz.f54.body.getD .ret
def Zr:Code→Code
 |.seq x _=>x
 |_=>.ret
noncomputable def mH:Code:=Ea (Ea (Ea wB))
def cR0:CC:=.reg [cn (some 2) (.alloc 73) none [0],cn (some 3) (.alloc 4) none [1]] [0,2,3]
def cR2:CC:=.reg [co (some 6) (.move (.tmp 0)) none,co (some 7) (.build 163 #[(0,.tmp 6)]) none,cn (some 8) (.box 163 (.tmp 7)) none [2],co (some 4) (.assign (.tmp 8)) none] [0,2,3,4]
def c34:CC:=.seq (.reg [co (some 9) (.move (.tmp 4)) none,
  co (some 10) (.call { callee:=(.value (.func 90)),args:=#[(.tmp 9),(.const (.int .i64 64))],argTypes:=#[161,3] }) none,
  co none (.store 73 (.tmp 2) (.tmp 10)) none] [0,2,3,4])
 (.seq (.reg [co (some 11) (.load 73 (.tmp 2)) none,
  co (some 12) (.move (.tmp 4)) none,
  co (some 13) (.nilCheck (.tmp 12)) none,
  co (some 14) (.fieldAddr 163 (.tmp 13) 1) none,
  ⟨some 15,.load 3 (.tmp 14),none,[],4,[],true⟩,
  co (some 16) (.move (.tmp 0)) none,
  co (some 17) (.call { callee:=(.builtin .len),args:=#[(.tmp 16)],argTypes:=#[9] }) none,
  co (some 18) (.binOp .eql 3 (.tmp 15) (.tmp 17) 3) none,
  ⟨none,.store 73 (.tmp 2) (.tmp 11),none,[],8,[4],false⟩,
  co none (.store 4 (.tmp 3) (.tmp 18)) none] [2,3])
 .ret)
theorem qD:C8 19 (Zr wB) [([0,2,3],[(0,[0]),(1,[1])])]=some (cR0,[]):=by kernel_rfl
theorem oP:C8 19 (Zr (Ea (Ea wB))) [([0,2,3,4],[(2,[2])])]=some (cR2,[]):=by kernel_rfl
theorem qg:C8 19 mH [([0,2,3,4],[]),([],[]),([2,3],[]),([],[])]=some (c34,[]):=by kernel_rfl
theorem uQ:wB = .seq (Zr wB) (.seq (.region 1 (D6 (Ea wB)) false) (.seq (Zr (Ea (Ea wB))) mH)):=by kernel_rfl
def jy (p q:Value):Deferred:=⟨.fn (.func 89) #[p,q],#[]⟩
theorem xk {Q:Exit→Act→World→Prop} {a:Act} {w:World} (hs:a.tmps.size=19) (hd:a.defers=[]) (h:Q .normal ⟨a.tmps.setIfInBounds 5 (.func (.func 89) #[] #[a.eval (.tmp 2),a.eval (.tmp 3)]),[jy (a.eval (.tmp 2)) (a.eval (.tmp 3))]⟩ w):(Code.region 1 (D6 (Ea wB)) false).wp Tryz.prog Q a w:=by
 apply wp_region;have o0:(D6 (Ea wB))[0]? = some ⟨some 5,.makeFunc (.func 89) #[] #[.tmp 2,.tmp 3],1,"etext.go:232",#[],none⟩:=by kernel_rfl
 have o1:(D6 (Ea wB))[1]? = some ⟨none,.defer { callee:=.value (.tmp 5),args:=#[],argTypes:=#[] },0,"etext.go:232",#[{ on:=0,ground:=.data }],none⟩:=by kernel_rfl
 have hsz:List.range (D6 (Ea wB)).size=[0,1]:=by kernel_rfl
 rw[hsz];simp only[wpOps,o0,o1];rw[if_pos (by rfl)];refine .inl ?_;have e0:∀ ρ:Operand→Value,(execOp ρ ⟨some 5,.makeFunc (.func 89) #[] #[.tmp 2,.tmp 3],1,"etext.go:232",#[],none⟩).run Tryz.prog w = .ok (.value (.func (.func 89) #[] #[ρ (.tmp 2),ρ (.tmp 3)])) w:=fun ρ=>by
  have:execOp ρ ⟨some 5,.makeFunc (.func 89) #[] #[.tmp 2,.tmp 3],1,"etext.go:232",#[],none⟩=(do pure (.value (← Instr.makeFunc (.func 89) ((#[]:Array Operand).map ρ) (#[.tmp 2,.tmp 3].map ρ)))):=rfl;rw[this];simp only[List.map_toArray,List.map_cons,List.map_nil];rfl
 unfold Oper.wp;rw[e0,Oper.upon_value];rw[if_pos (by rfl)];refine .inl ?_;have e1:∀ (ρ:Operand→Value) (x y:Value),ρ (.tmp 5) = .func (.func 89) #[] #[x,y]→(execOp ρ ⟨none,.defer { callee:=.value (.tmp 5),args:=#[],argTypes:=#[] },0,"etext.go:232",#[{ on:=0,ground:=.data }],none⟩).run Tryz.prog w = .ok (.defer (jy x y)) w:=fun ρ x y hx=>by
  have:execOp ρ ⟨none,.defer { callee:=.value (.tmp 5),args:=#[],argTypes:=#[] },0,"etext.go:232",#[{ on:=0,ground:=.data }],none⟩=(do pure (.defer (← resolve ρ { callee:=.value (.tmp 5),args:=#[],argTypes:=#[] } 0))):=rfl;rw[this];simp only[resolve,hx,List.map_toArray,List.map_nil];rfl
 rw[e1 _ (a.eval (.tmp 2)) (a.eval (.tmp 3)) (by simp[Act.eval,Act.put,hs])];rw[Oper.upon_defer];simp only[Act.put,hd];exact h
theorem Sb {w w5:World} {I I5:Nat→Prop} {μ5:Mu} {H5:Hp} {c:Cx} (hP:c.P=Tryz.prog) (hs:Sim c w5 I5 μ5 H5) (hN:∀ b,I5 b→I b∨(w.heap.size≤b∧b<w5.heap.size)) (hO:∀ o,BJ (μ5 o) (H5 o).ob=true→w.heap.size≤(μ5 o).b) {tmps:Array Value} (hsz:tmps.size=19) (h2:Rel w5 I5 μ5 (.pob [0] 1 0) (tmps.getD 2 undef)) (h3:Rel w5 I5 μ5 (.pob [1] 1 0) (tmps.getD 3 undef)) {e:E} {b:Bool} {cs:List A}
  (g0:H5 [0]=⟨1,.cells cs⟩) (hcs:cs.length=11) (hcf:Fv H5 cs (eL e)) (g1:H5 [1]=⟨1,.cells [bv b]⟩):∃ v,(results Tryz.f54 tmps).run Tryz.prog w5 = .ok v w5∧Rel w5 (MF w I w5) Jq (.tup [eX e,bv b]) v:=by
 have hs2:Sim { c with n:=19,ds:=[] } w5 I5 μ5 H5:=⟨hs.kept,hs.lt,hs.old,hs.new,hs.ver,hs.ob,hs.apart,hs.own,hs.mle,hs.tag,hs.tab⟩;have sr:SR { c with n:=19,ds:=[] } ⟨lk [(2,.pob [0] 1 0),(3,.pob [1] 1 0)],H5⟩ ⟨tmps,[]⟩ w5 I5 μ5:=by
  refine⟨hs2,hsz,rfl,fun t=>?_⟩;show Rel w5 I5 μ5 (lk [(2,.pob [0] 1 0),(3,.pob [1] 1 0)] t) (tmps.getD t undef);simp only[Pm,WV];by_cases t0:2=t
  ·subst t0;exact h2
  by_cases t1:3=t
  ·subst t1;exact h3
  rw[if_neg t0,if_neg t1];exact .any _ _
 have hre:Tryz.f54.results.toList=[.cell 2 73,.cell 3 4]:=by kernel_rfl
 obtain⟨v,k1,k2⟩:=HE (fn:=Tryz.f54) sr (x:=.tup [.agg cs,bv b]) (by rw[hre];simp[hP,FR,g0,g1,hcs,Dz]);refine⟨v,by rw[← hP];exact k1,?_⟩;have hf:Jv H5 (.tup [.agg cs,bv b]) (.tup [eX e,bv b]):=BK ⟨CN hcf,Ab rfl,trivial⟩;refine(hf _ w5 I5 μ5 v hs2 k2).mono0 (fun x hx=>?_) (fun _ _=>rfl);rcases hx with hx | ⟨o,g,rfl⟩
 ·exact hN x hx
 ·exact .inr ⟨hO o g,(hs.own o g).2.2⟩
def only (r:Nat) (H:Hp):Hp:=fun o=>match o with
 |j::p=>if j=r then H (j::p) else ⟨(H (j::p)).u,.none⟩
 |[]=>⟨(H []).u,.none⟩
theorem ZC {r:Nat} {H:Hp}:Part H (only r H):=fun o=>by
 cases o with
 |nil=>exact .inr rfl
 |cons j p=>
  unfold only;by_cases hj:j=r
  ·simp[hj]
  ·simp[hj]
theorem eu {dt:TypeId} {P:Program} {f:FuncId} {az:Nat→List A} {F:Fam} (hS:YT dt P f az F) {c:Cx} (hP:c.P=P) {w:World} {I:Nat→Prop} {μ:Mu} {H:Hp} (r:Nat) (hs:Sim c w I μ H) (hF:∀ p,H (r::p)=F.F r p) {vs:Array Value} (hl:vs.size=(az r).length) (hr:∀ (k:Nat) (y:A),(az r)[k]? = some y→Rel w I μ y (vs.getD k undef)) :
  Calls P f vs w fun e w'=>e = .panicked [Lq dt]∧Kept (fun b=>∃ p,BJ (μ (r::p)) (H (r::p)).ob=true∧b=(μ (r::p)).b) w w':=by
 have ho:∀ p,(only r H) (r::p)=H (r::p):=fun p=>by unfold only;simp
 have hF2:∀ p,(only r H) (r::p)=F.F r p:=fun p=>(ho p).trans (hF p);have hH:=WO hF2;have hcl:=Ly hF2;have e1:A.renL (V8 [r]) (fun _=>0) (az r)=az 0:=hS.fa.ren (fun q=>by simp[V8]) (fun _=>rfl);have e2:A.refsL (Y6 [r] 1) (az r):=hS.fa.refs (fun q=>by simp[Y6]);have hk:=UJ (dt:=dt) (P:=P) (f:=f) (rs:=[r]) (m:=1) (args:=az r) (Hc:=ov 0 (F.F 0) (Dn [])) (H:=only r H) (by simp) (by simp) (by rw[e1];exact hS.h)
   (fun i p hi=>by
    have:i=0:=by omega
    subst this;rw[← hH];simp only[Ny,if_pos hi])
   (fun i p hi=>by rw[← hH];simp only[Ny];rw[if_neg (by omega)]) (by rw[← hH];rfl) e2
   (fun i p hi=>by
    have:i=0:=by omega
    subst this;exact hcl _ _ (by simp)) (x:=.any) (E:=Eff.fn [r] (ov r (Fam.dead.F r) (only r H)))
 have hs1:=hs.part (ZC (r:=r));have hs2:Sim ⟨P,w,I,fun o b=>∃ p,o=r::p∧BJ (μ (r::p)) (H (r::p)).ob=true∧b=(μ (r::p)).b,0,μ,fun _=>False,[]⟩ w I μ (only r H):=by
  refine⟨⟨rfl,rfl,rfl,CB _,fun _ _ _=>rfl⟩,hs1.lt,fun _ h=>h,fun b hb=>.inl hb,hs1.ver,hs1.ob,hs1.apart,fun o k=>?_,MuLe.refl _,hs1.tag,by subst hP;exact hs1.tab⟩;obtain⟨g1,_,g3⟩:=hs1.own o k;refine⟨g1,.inl ?_,g3⟩;cases o with
  |nil=>cases k
  |cons j p=>
   by_cases hj:j=r
   ·subst hj;rw[ho] at k;exact⟨p,rfl,k,rfl⟩
   ·unfold only at k;simp only[if_neg hj] at k;cases k
 refine(hk.2 _ w I μ vs rfl hs2 hl hr).mono fun e w' hh=>?_;rcases hh with ⟨v,_,I',μ',_,h2,_⟩ | ⟨t,rfl,h2,h3⟩
 ·have:=h2.ob [r];rw[show(Eff.fn [r] (ov r (Fam.dead.F r) (only r H))).app (only r H) [r]=⟨1,.cells [.any]⟩ by simp[Eff.app,AW]] at this;obtain⟨vs,_,_,h3⟩:=this;have:=(h3 0 .any rfl).1;cases this
 ·exact⟨h2,h3.os,h3.tape,h3.output,h3.size,fun b hb hn=>h3.block b hb fun ⟨o,p,_,k1,k2⟩=>hn ⟨p,k1,k2⟩⟩
def D3 (s:List UInt8):E × Bool:=match Bb 64 s with
 |some (e,n)=>(e,decide (n=s.length))
 |none=>(E0,false)
def lq (P:Program) (w:World) (I:Nat→Prop) (d:Deferred) (m:Mu):Cx:=⟨P,w,I,fun _ _=>False,19,m,fun _=>False,[d]⟩
def wQ:Hp:=Dn [([0],⟨1,.cells zE⟩),([1],⟨1,.cells [bv false]⟩)]
def cu (s:List UInt8):Hp:=Dn [([0],⟨1,.cells zE⟩),([1],⟨1,.cells [bv false]⟩),([2],⟨1,.cells [S s,iv 0]⟩)]
@[simp] theorem tE (ps:List (Nat × A)):Bz Tryz.prog 163 ps=(BV (fun i=>([(0,1),(1,1)]:List (Nat × Nat))[i]?) [A.v (Value.string ByteArray.empty),iv 0] ps).map A.agg:=by kernel_rfl
theorem eW {w:World} {I:Nat→Prop} (s:List UInt8):WPC (cx Tryz.prog w I 19) cR0 (fun e st=>e = .normal∧st=⟨lk [(0,S s),(2,.pob [0] 1 0),(3,.pob [1] 1 0)],wQ⟩) ⟨Fk [S s],H0⟩:=by
 unfold cR0;simp[wQ,H0,zE]
theorem iW {w:World} {I:Nat→Prop} {d:Deferred} {m:Mu} (s:List UInt8):WPC (lq Tryz.prog w I d m) cR2 (fun e st=>e = .normal∧st=⟨lk [(0,S s),(2,.pob [0] 1 0),(3,.pob [1] 1 0),(4,.pob [2] 1 0)],cu s⟩) ⟨lk [(0,S s),(2,.pob [0] 1 0),(3,.pob [1] 1 0)],wQ⟩:=by
 unfold cR2;simp[wQ,cu,lq]
theorem bJ {w:World} {I:Nat→Prop} {d:Deferred} {m:Mu} {s:List UInt8} (hs:s.length≤1000000000) {e:E} {n:Nat} (he:Bb 64 s=some (e,n)):WPC (lq Tryz.prog w I d m) c34 (fun ex st=>ex = .ret∧st.s 2 = .pob [0] 1 0∧st.s 3 = .pob [1] 1 0∧st.H [0]=⟨1,.cells (eL e)⟩∧st.H [1]=⟨1,.cells [bv (decide (n=s.length))]⟩) ⟨lk [(0,S s),(2,.pob [0] 1 0),(3,.pob [1] 1 0),(4,.pob [2] 1 0)],cu s⟩:=by
 have t0:=QL hs 64 (by omega) 0 (by omega);rw[List.drop_zero,he] at t0;unfold c34;simp[lq];refine Ai 2 t0 (fun p=>?_) (by simp) (by simp) ?_
 ·by_cases hp:p=[]<;>simp[hp,cu]
 simp[cu,zE];exact⟨fun h=>by omega,fun h=>by omega⟩
theorem qz:mH = .seq (.region 3 (D6 mH) false) (Ea mH):=by kernel_rfl
theorem Z6 {P:Program} {g:FuncId} (hk:Iw P g=true) (vs:Array Value) (w:World):(callFunc g vs).run P w = .ok (.enter g vs) w:=by
 unfold Iw at hk;cases hf:P.funcs[g]? with
 |none=>simp[hf] at hk
 |some fn=>
  simp only[hf,Bool.and_eq_true,Bool.not_eq_true'] at hk;have hb:fn.body.isNone=false:=by cases hq:fn.body<;>simp_all
  simp only[callFunc,Sem.run_bind,run_program,Result.andThen_ok,hf,hk.2,hb,Bool.false_eq_true,if_false,Sem.run_pure]
theorem ZE {s:List UInt8} {w:World} {I:Nat→Prop} {vs:Array Value} (hI:∀ b,I b→b<w.heap.size) (htb:Tabs Tryz.prog w I) (hl:vs.size=[S s].length) (hr:∀ (k:Nat) (y:A),[S s][k]? = some y→Rel w I Jq y (vs.getD k undef)) :
  SR (cx Tryz.prog w I 19) ⟨Fk [S s],H0⟩ ⟨vs++Array.replicate (Tryz.f54.ntmps-vs.size) undef,[]⟩ w I Jq:=by
 have hn2:Tryz.f54.ntmps=19:=by kernel_rfl
 rw[hn2];refine⟨Ib hI htb,?_,rfl,fun t=>?_⟩
 ·simp at hl ⊢;show _=19;omega
 ·show Rel w I Jq (Fk [S s] t) _;unfold Fk;cases hq:[S s][t]? with
  |none=>exact .any _ _
  |some y=>
   have hlt:=(List.getElem?_eq_some_iff.1 hq).1;have e:(vs++Array.replicate (19-vs.size) undef).getD t undef=vs.getD t undef:=by
    simp only[Array.getD_eq_getD_getElem?];rw[Array.getElem?_append_left (by omega)]
   rw[e];exact hr t y hq
theorem Tg {w w':World} {I I':Nat→Prop} {μ μ':Mu} {o:Nm} {u off:Nat} {v:Value} (h:Rel w I μ (.pob o u off) v) (hm:MuLe μ μ'):Rel w' I' μ' (.pob o u off) v:=by
 cases h with
 |pob _ _ _ _ b k h1 h2 h3=>
  have:=hm o;refine .pob _ _ _ _ _ _ h1 (by omega) fun e=>?_;have e2:(μ' o).u=(μ o).u:=by omega
  rw[this.2 e2];exact h3 (by omega)
theorem US {s:List UInt8} (hs:s.length≤1000000000):G.Spec Tryz.prog 54 [S s] (.tup [eX (D3 s).1,bv (D3 s).2]):=by
 refine⟨by kernel_rfl,fun w I vs hI htb hl hr=>?_⟩;have hb:Tryz.f54.body=some wB:=by kernel_rfl
 refine calls_of_wp_defers Tryz.func54 hb ?_;have sr0:=ZE hI htb hl hr;revert sr0;generalize (⟨vs++Array.replicate (Tryz.f54.ntmps-vs.size) undef,[]⟩:Act)=a0;intro sr0;rw[uQ];have g0:=DG (c:=cx Tryz.prog w I 19) mixed (B8 qD) (eW s) a0 w I Jq sr0;refine wp_seq (wp_mono g0 fun ex a1 w1 hu=>?_);rcases hu with ⟨_,I1,μ1,k1,rfl,rfl⟩ | ⟨_,k,_⟩
 case inr=>exact k.elim
 refine wp_seq (xk k1.size k1.defers ?_);obtain⟨p,hp⟩:∃ p,p=a1.eval (.tmp 2):=⟨_,rfl⟩;obtain⟨q,hq⟩:∃ q,q=a1.eval (.tmp 3):=⟨_,rfl⟩;rw[← hp,← hq];have sr1:SR (lq Tryz.prog w I (jy p q) μ1) ⟨lk [(0,S s),(2,.pob [0] 1 0),(3,.pob [1] 1 0)],wQ⟩ ⟨a1.tmps.setIfInBounds 5 (.func (.func 89) #[] #[p,q]),[jy p q]⟩ w1 I1 μ1:=by
  refine⟨⟨k1.sim.kept,k1.sim.lt,k1.sim.old,k1.sim.new,k1.sim.ver,k1.sim.ob,k1.sim.apart,k1.sim.own,MuLe.refl _,k1.sim.tag,k1.sim.tab⟩,(Array.size_setIfInBounds ..).trans k1.size,rfl,fun t=>?_⟩;by_cases t5:t=5
  ·subst t5;simp;exact .any _ _
  ·have e:(a1.tmps.setIfInBounds 5 (.func (.func 89) #[] #[p,q])).getD t undef=a1.tmps.getD t undef:=by
    simp only[Array.getD_eq_getD_getElem?];rw[Array.getElem?_setIfInBounds_ne (Ne.symm t5)]
   rw[e];exact k1.rel t
 have hpp:Rel w1 I1 μ1 (.pob [0] 1 0) p:=by rw[hp];exact k1.rel 2
 have hqq:Rel w1 I1 μ1 (.pob [1] 1 0) q:=by rw[hq];exact k1.rel 3
 have g2:=DG (c:=lq Tryz.prog w I (jy p q) μ1) mixed (B8 oP) (iW s) _ w1 I1 μ1 sr1;refine wp_seq (wp_mono g2 fun ex a2 w2 hu=>?_);rcases hu with ⟨_,I2,μ2,k2,rfl,rfl⟩ | ⟨_,k,_⟩
 case inr=>exact k.elim
 have hinv:∀ w',(invoke (jy p q).target #[]).run Tryz.prog w' = .ok (.enter 89 #[p,q]) w':=fun _=>by kernel_rfl
 cases hE:Bb 64 s with
 |some r=>
  obtain⟨e,n⟩:=r;have hW:D3 s=(e,decide (n=s.length)):=by unfold D3;rw[hE]
  rw[hW];have g3:=DG (c:=lq Tryz.prog w I (jy p q) μ1) mixed (B8 qg) (bJ hs hE) _ w2 I2 μ2 k2;refine wp_mono g3 fun ex a3 w3 hu=>?_;rcases hu with ⟨st,I3,μ3,k3,rfl,j2,j3,j0,j1⟩ | ⟨_,k,_⟩
  case inr=>exact k.elim
  show Leaves Tryz.prog _ a3.tmps _ a3.defers .returning w3;rw[k3.defers];refine leaves_cons (by simp) (hinv w3) ((XJ k3.sim.lt k3.sim.tab p q).mono fun e2 u w' hh=>?_);obtain⟨rfl,rfl,hg⟩:=hh;obtain⟨hx,hs'⟩:=k3.sim.same hg (fun _ h=>h) (fun _ h=>.inl h);have r2:=k3.rel 2;have r3:=k3.rel 3;rw[j2] at r2;rw[j3] at r3;obtain⟨v,f1,f2⟩:=Sb (w:=w) (I:=I) rfl hs' (fun b hb=>(hs'.new b hb).imp id fun h=>⟨h,hs'.lt b hb⟩) (fun o k=>(hs'.own o k).2.1.resolve_left id) k3.size (hx.rel r2) (hx.rel r3) j0 rfl ⟨Ab rfl,Ab rfl,Ae,Ae,Ab rfl,Ae,Ae,Ae,Ae,Ab rfl,Ae,trivial⟩ j1;have kp:=hs'.kept;exact⟨v,f1,v,rfl,⟨kp.os,kp.tape,kp.output,kp.size,fun b hb=>kp.block b hb (fun ⟨_,h⟩=>h)⟩,f2⟩
 |none=>
  have hW:D3 s=(E0,false):=by unfold D3;rw[hE]
  rw[hW];rw[qz];refine wp_seq (wp_region ?_);have o0:(D6 mH)[0]? = some ⟨some 9,.move (.tmp 4),161,"etext.go:238",#[],none⟩:=by kernel_rfl
  have o1:(D6 mH)[1]? = some ⟨some 10,.call { callee:=.value (.func 90),args:=#[.tmp 9,.const (.int .i64 64)],argTypes:=#[161,3] },73,"etext.go:238",#[{ on:=0,ground:=.data }],none⟩:=by kernel_rfl
  have hsz:List.range (D6 mH).size=[0,1,2]:=by kernel_rfl
  rw[hsz];have x0:∀ ρ:Operand→Value,(execOp ρ ⟨some 9,.move (.tmp 4),161,"etext.go:238",#[],none⟩).run Tryz.prog w2 = .ok (.value (ρ (.tmp 4))) w2:=fun _=>rfl;have x1:∀ a:Act,(execOp a.eval ⟨some 10,.call { callee:=.value (.func 90),args:=#[.tmp 9,.const (.int .i64 64)],argTypes:=#[161,3] },73,"etext.go:238",#[{ on:=0,ground:=.data }],none⟩).run Tryz.prog w2 = .ok (.enter 90 #[a.eval (.tmp 9),.int .i64 64]) w2:=fun a=>by
   rw[show execOp a.eval ⟨some 10,.call { callee:=.value (.func 90),args:=#[.tmp 9,.const (.int .i64 64)],argTypes:=#[161,3] },73,"etext.go:238",#[{ on:=0,ground:=.data }],none⟩=callFunc 90 (#[] ++ #[Operand.tmp 9,.const (.int .i64 64)].map a.eval ++ #[]) from rfl];rw[show(#[] ++ #[Operand.tmp 9,.const (.int .i64 64)].map a.eval ++ #[]:Array Value) = #[a.eval (.tmp 9),.int .i64 64] by simp[Act.eval]];exact Z6 (by kernel_rfl) _ _
  rw[wpOps,o0];simp only;rw[if_pos (by rfl)];refine .inl ?_;unfold Oper.wp;rw[x0,Oper.upon_value];rw[wpOps,o1];simp only;rw[if_pos (by rfl)];refine .inl ?_;unfold Oper.wp;rw[x1,Oper.upon_enter];obtain⟨a3,ha3⟩:∃ a3,a3=a2.put (some 9) (a2.eval (.tmp 4)):=⟨_,rfl⟩;rw[← ha3];have t0:=QL hs 64 (by omega) 0 (by omega);rw[List.drop_zero,hE] at t0;have hv:a3.eval (.tmp 9)=a2.tmps.getD 4 undef:=by
   rw[ha3];have:=k2.size;have:9<a2.tmps.size:=by rw[this];show 9<19;omega
   simp[Act.eval,Act.put,this]
  have e3:a3.tmps.size=19:=by
   rw[ha3];simp only[Act.put,Array.size_setIfInBounds];exact k2.size
  have e4:a3.defers=[jy p q]:=by rw[ha3];exact k2.defers
  have e5:∀ t,t ≠ 9→a3.tmps.getD t undef=a2.tmps.getD t undef:=fun t ht=>by
   rw[ha3];simp only[Act.put,Array.getD_eq_getD_getElem?];rw[Array.getElem?_setIfInBounds_ne (Ne.symm ht)]
  have r4:=k2.rel 4;refine(eu t0 (c:=lq Tryz.prog w I (jy p q) μ1) rfl 2 k2.sim (fun p=>by by_cases hp:p=[]<;>simp[hp,cu]) (vs:=#[a3.eval (.tmp 9),.int .i64 64]) (by simp) (fun k y hk=>?_)).mono fun e2 w3 hh=>?_
  ·match k,hk with
   |0,hk=>simp at hk;subst hk;show Rel _ _ _ _ (a3.eval (.tmp 9));rw[hv];exact r4
   |1,hk=>simp at hk;subst hk;exact .v _ _
  ·obtain⟨rfl,hkp⟩:=hh;show Leaves Tryz.prog _ a3.tmps _ a3.defers (.panicking [Lq MS]) w3;rw[e4];have hg:w2.grownBy w3 (some (μ2 [2]).b):=⟨hkp.os,hkp.tape,hkp.output,hkp.size,fun b hb hne=>hkp.block b hb fun ⟨p,k,e⟩=>by
    by_cases hp:p=[]
    ·subst hp;exact hne (by rw[e])
    ·simp[cu,hp] at k;cases k⟩
   have hB2:BJ (μ2 [2]) (cu s [2]).ob=true:=by simp[cu];rfl
   obtain⟨_,hs3⟩:=k2.sim.upd hg [2] (μ2 [2]) .none (.inr ⟨rfl,hB2⟩) (.inr rfl) (fun h=>nomatch h) (fun h=>nomatch h) (fun _=>trivial);have eμ:Ar μ2 [2] (μ2 [2])=μ2:=by funext o;unfold Ar;split<;>simp_all
   rw[eμ] at hs3;obtain⟨H3,hH3⟩:∃ H3,H3=(Ar (cu s) [2] ⟨(μ2 [2]).u,.none⟩:Hp):=⟨_,rfl⟩;have g30:H3 [0]=⟨1,.cells zE⟩:=by rw[hH3];simp[cu]
   have g31:H3 [1]=⟨1,.cells [bv false]⟩:=by rw[hH3];simp[cu]
   have hs3:Sim (lq Tryz.prog w I (jy p q) μ1) w3 I2 μ2 H3:=by rw[hH3];exact hs3
   have hsC:Sim ⟨Tryz.prog,w3,I2,fun o b=>BJ (μ2 o) (H3 o).ob=true∧b=(μ2 o).b,11,μ2,fun _=>False,[]⟩ w3 I2 μ2 H3:=
    ⟨⟨rfl,rfl,rfl,CB _,fun _ _ _=>rfl⟩,hs3.lt,fun _ h=>h,fun b hb=>.inl hb,hs3.ver,hs3.ob,hs3.apart,fun o k=>⟨(hs3.own o k).1,.inl ⟨k,rfl⟩,(hs3.own o k).2.2⟩,MuLe.refl _,hs3.tag,hs3.tab⟩
   have hpe:Rel w3 I2 μ2 (.pob [0] 1 0) p:=Tg hpp k2.sim.mle;have hqe:Rel w3 I2 μ2 (.pob [1] 1 0) q:=Tg hqq k2.sim.mle;have r2:Rel w3 I2 μ2 (.pob [0] 1 0) (a3.tmps.getD 2 undef):=by rw[e5 2 (by omega)];exact Tg (k2.rel 2) (MuLe.refl _)
   have r3:Rel w3 I2 μ2 (.pob [1] 1 0) (a3.tmps.getD 3 undef):=by rw[e5 3 (by omega)];exact Tg (k2.rel 3) (MuLe.refl _)
   refine leaves_cons (by simp) (hinv w3) ((VR rfl rfl rfl (fun _ h=>h) hsC hpe hqe (x:=.any) rfl g30 g31).mono fun e2 u w4 hh=>?_);obtain⟨rfl,rfl,H4,I4,μ4,hs4,g40,g41⟩:=hh;have kp:=hs4.kept;have ow:∀ o,BJ (μ2 o) (H3 o).ob=true→w.heap.size≤(μ2 o).b:=fun o k=>(hs3.own o k).2.1.resolve_left id;have hsz3:w.heap.size≤w3.heap.size:=hs3.kept.size;have hx:Ext I2 μ2 w3 I4 μ4 w4:=⟨hs4.old,fun b hb=>kp.block b (hs3.lt b hb) fun ⟨o,k,e⟩=>(hs3.own o k).1 (by rw[← e];exact hb),hs4.mle⟩;obtain⟨v,f1,f2⟩:=Sb (w:=w) (I:=I) (e:=E0) rfl hs4 (fun b hb=>by
    have hlt:=hs4.lt b hb;rcases hs4.new b hb with h | h
    ·exact(hs3.new b h).imp id fun h=>⟨h,hlt⟩
    ·exact .inr ⟨Nat.le_trans hsz3 h,hlt⟩) (fun o k=>by
    rcases (hs4.own o k).2.1 with ⟨h1,h2⟩ | h
    ·rw[h2];exact ow o h1
    ·exact Nat.le_trans hsz3 h) e3 (hx.rel r2) (hx.rel r3) g40 rfl ⟨Ab rfl,Ab rfl,Ae,Ae,Ab rfl,Ae,Ae,Ae,Ae,Ab rfl,Ae,trivial⟩ g41
   have kp0:=hs3.kept;exact⟨v,f1,v,rfl,⟨kp.os.trans kp0.os,kp.tape.trans kp0.tape,kp.output.trans kp0.output,Nat.le_trans kp0.size kp.size,fun b hb=>(kp.block b (Nat.lt_of_lt_of_le hb hsz3) fun ⟨o,k,e⟩=>by
    have:=ow o k;omega).trans (kp0.block b hb (fun ⟨_,h⟩=>h))⟩,f2⟩
end Go.Proofs.YtgkdikddjfgajaaGreatDoor
namespace Go.Proofs.YtgkdikddjfgajaaGreatDoor
set_option maxRecDepth 10000
open Go Go.G Go.Proofs Go.PL
def PQ (s:List UInt8):E × Bool:=if (D3 s).2=true∧Bp 64 (D3 s).1=true then ((D3 s).1,true) else (E0,false)
theorem W4 {s:List UInt8} (h:(D3 s).2=true):CW (D3 s).1=s∧(s.length≤1000000000→Nc (D3 s).1):=by
 unfold D3 at h ⊢;cases e:Bb 64 s with
 |none=>rw[e] at h;cases h
 |some q=>
  obtain⟨x,n⟩:=q;rw[e] at h;simp at h;subst h;obtain⟨g1,g2⟩:=St 64 _ _ _ e;exact⟨by rw[g1,List.take_length],g2⟩
set_option maxHeartbeats 1000000 in
theorem VZ {s:List UInt8} (hs:s.length≤1000000000):G.Spec Tryz.prog 33 [S s] (.tup [eX (PQ s).1,iv (if (PQ s).2=true then 0 else 11)]):=by
 have t1:=US hs;have hW:=@W4 s;refine Ap RL (by simp) fun w0 I0=>?_;unfold K3 PQ;generalize (D3 s).1=e at *;generalize (D3 s).2=ok at *;cases ok with
 |false=>
  simp;refine Af t1 rfl ?_;simp[Aa,splice];refine Bw (L:=[]) (x:=bv false) (q:=true) rfl (fun h=>by cases h) (fun h=>by cases h) rfl ?_;simp;refine Bw (L:=[]) (x:=S []) (q:=true) rfl (fun h=>by cases h) (fun h=>by cases h) rfl ?_;simp[Aa,splice];refine BK ⟨CN ⟨Ab rfl,Ab rfl,Ae,Ae,Ab rfl,Ae,Ae,Ae,Ae,Ab rfl,Ae,trivial⟩,Ab rfl,trivial⟩
 |true=>
  obtain⟨hsh,hwf⟩:=hW rfl;have hwf:=hwf hs;have t2:=GG hwf;simp;refine Af t1 rfl ?_;simp[Aa,splice];refine Bw (q:=false) rfl (fun _=>t2) (fun _=>rfl) rfl ?_;cases hr:Bp 64 e with
  |false=>
   simp;refine Bw (L:=[]) (x:=S []) (q:=true) rfl (fun h=>by cases h) (fun h=>by cases h) rfl ?_;simp[Aa,splice];refine BK ⟨CN ⟨Ab rfl,Ab rfl,Ae,Ae,Ab rfl,Ae,Ae,Ae,Ae,Ab rfl,Ae,trivial⟩,Ab rfl,trivial⟩
  |true=>
   have t3:=Vl e 64 hr hwf (by rw[hsh];exact hs);rw[hsh] at t3;simp;refine Bw (q:=false) rfl (fun _=>t3) (fun _=>rfl) rfl ?_;simp[Aa,splice,Wl];refine BK ⟨CN ⟨Ab rfl,Ab rfl,Ae,Ae,Ab rfl,Ae,Ae,Ae,Ae,Ab rfl,Ae,trivial⟩,Ab rfl,trivial⟩
end Go.Proofs.YtgkdikddjfgajaaGreatDoor
namespace Go.Proofs.YtgkdikddjfgajaaGreatDoor
open Go Go.G Go.Proofs Go.PL
theorem Z3 {e:E} (hr:Bp 64 e=true) (hw:Nc e):PQ (CW e)=(e,true):=by
 have h:=il e 64 hr hw [];rw[List.append_nil] at h;have hW:D3 (CW e)=(e,true):=by unfold D3;rw[h];simp
 unfold PQ;rw[hW,if_pos ⟨rfl,hr⟩]
end Go.Proofs.YtgkdikddjfgajaaGreatDoor
namespace Go.Proofs.YtgkdikddjfgajaaGreatDoor
set_option maxRecDepth 20000
open Go Go.G Go.Proofs Go.PL Go.RowKit
def NF:E:=.mk 2 T0 T0 [⟨0,1,1,2⟩] [] 0 []
def GQ:T:=.mk 1 [1] []
def K4:T:=.mk 1 [2] []
theorem dU:CG GQ:=wfT_iff.2 ⟨by simp[GQ,Bm],fun x hx=>by simp[GQ] at hx;subst hx;exact⟨by omega,by omega⟩,by simp[GQ],by simp[GQ],by simp[GQ]⟩
theorem Tj:CG K4:=wfT_iff.2 ⟨by simp[K4,Bm],fun x hx=>by simp[K4] at hx;subst hx;exact⟨by omega,by omega⟩,by simp[K4],by simp[K4],by simp[K4]⟩
theorem fL:Aq GQ=GQ:=by kernel_rfl
theorem dQ:Aq K4=K4:=by kernel_rfl
theorem ae:Az 64 GQ=true:=by decide +kernel
theorem S0:Az 64 K4=true:=by decide +kernel
theorem Gv:Km NF=NF:=by kernel_rfl
theorem Kq:Bp 64 NF=true:=by decide +kernel
theorem QU:Nc NF:=by
 unfold NF;refine wfE_iff.2 ⟨by simp[E.kind,Bm],by simp[E.list,Bm],jh,jh,fun x hx=>?_,by simp[E.words],by simp[E.kids],by simp[E.ops],fun x hx=>by simp[E.kids] at hx,fun x hx=>by simp[E.ops] at hx⟩;simp[E.words] at hx;subst hx;exact⟨⟨by simp,by simp⟩,⟨by simp,by simp⟩,⟨by simp,by simp⟩,⟨by simp,by simp⟩⟩
theorem jS:jI NF:=by
 unfold NF;rw[jI];simp[gD,jj,Xy]
theorem Wb:G.Spec Tryz.prog 94 [eX NF] (eX NF):=by
 have:=Xk NF jS
 rwa [Gv] at this
theorem gq:G.Spec Tryz.prog 92 [eX NF,tX GQ] (.tup [tX K4,bv true]):=by
 obtain⟨u,U1,U2⟩:=xg 1 NF GQ K4 QU dU Tj (by simp[Sz,GQ]) (by simp[Sz,K4]) (.inr (.inl ⟨[⟨0,1,1,2⟩],[],rfl,rfl,rfl,by
  refine .cons 0 0 1 1 2 [] (by omega) (fun j _ h=>by omega) (by decide) (by decide) (by decide +kernel) (by decide +kernel) (by decide +kernel) (by decide +kernel) (.nil 1 fun i hi=>?_)
  match i,hi with
  |i+1,_=>simp[GQ,K4],.nil 0 fun i _=>by simp[GQ,K4]⟩))
 have:=UQ U1
 rwa [U2,dQ] at this
theorem U0:CW NF=[115,123,48,58,49,58,49,58,50,124,125]:=by decide +kernel
theorem bE:G.Spec Tryz.prog 33 [S [115,123,48,58,49,58,49,58,50,124,125]] (.tup [eX NF,iv 0]):=by
 have h:=VZ (s:=[115,123,48,58,49,58,49,58,50,124,125]) (by simp);rw[← U0,Z3 Kq QU,U0] at h;exact h
theorem bb:G.Spec Tryz.prog 18 [S [123,49,125]] (.tup [tX GQ,iv 0]):=by
 have h:=Lz (s:=[123,49,125]) (by simp);have e1:B0 AB [123,49,125]=GQ:=by kernel_rfl
 have e2:Uk AB [123,49,125]=true:=by decide +kernel
 rw[e1,e2] at h;exact h
theorem ZA:G.Spec Tryz.prog 30 [tX K4] (S [123,50,125]):=by
 have e:Am K4=[123,50,125]:=by decide +kernel
 have h:=IE Tj (by rw[e];simp)
 rwa [e] at h
theorem Wz {e:E}:G.Spec Tryz.prog 93 [eX E0,eX e] (.tup [eX e,bv true]):=by
 refine Ap Pu (by simp) fun w0 I0=>?_;unfold JZ;simp;exact Ab rfl
theorem V6 {e:E} (hn:G.Spec Tryz.prog 94 [eX e] (eX (Km e))):G.Spec Tryz.prog 57 [eX E0,eX e] (.tup [eX (Km e),bv true]):=by
 refine Ap Pq (by simp) fun w0 I0=>?_;unfold JN;simp;refine Af Wz (by simp) ?_;simp[Aa];refine Af hn (by simp) ?_;simp[Aa];exact Ab rfl
end Go.Proofs.YtgkdikddjfgajaaGreatDoor
namespace Go.Proofs.YtgkdikddjfgajaaGreatDoor
set_option maxRecDepth 20000
open Go Go.G Go.Proofs Go.PL Go.RowKit
set_option maxHeartbeats 4000000 in
theorem jk {t u:T} {n:Int} {e:E} (hw:Nc e) (hr:Bp 64 e=true) (hn:G.Spec Tryz.prog 94 [eX e] (eX (Km e))) (hw2:Nc (Km e)) (hr2:Bp 64 (Km e)=true)
  (ha:G.Spec Tryz.prog 92 [eX e,tX t] (.tup [tX u,bv true])) (hu:CG u) (hru:Az 64 u=true) :
  SpecK Tryz.prog 34 1 1 (fun ρ=>[.pob [ρ 0] 1 0,eX e]) (K8 t n E0) (fun _=>iv 0) (K8 u n (Km e)):=by
 have hd:=P4 ha (fun _=>hu);have e1:Ms u true=(u,0):=by simp[Ms,hru]
 rw[e1] at hd;have hE:eL E0=[iv 0,iv 0,.sl false [],.sl false [],iv 0,.sl false [],.sl false [],.sl false [],.sl false [],iv 0,.sl false []]:=rfl;have hc:G.Spec Tryz.prog 57 [eX E0,eX e] (.tup [eX (Km e),bv true]):=V6 hn;refine Bq RE (by simp) (by omega) (A4 (B5 (i:=0) (by omega)) (A4 (DT (HY fun x hx=>?_)) EB)) LG (fun i h1 h2 p=>by omega) fun w0 I0 M0 m0 hM=>?_
 ·simp only[List.mem_cons,List.not_mem_nil,or_false] at hx;rcases hx with rfl | rfl | rfl | rfl | rfl | rfl | rfl | rfl | rfl | rfl | rfl<;>simp
 ·unfold KV;simp[EJ];refine Af (GG hw) (by simp) ?_;simp[hr,EJ];refine Af hd (by simp) ?_;simp[Aa,EJ];refine Af hc (by simp) ?_;simp[Aa,EJ];refine Bw rfl (fun _=>GG hw2) (fun _=>rfl) (by simp) ?_;simp[hr2,Aa,EJ];refine Bf (r0:=iv 0) (by simp) rfl fun i hi p=>?_;have:i=0:=by omega
  subst this;by_cases p0:p=[]
  ·subst p0;simp[EJ]
  ·simp[p0,Aa]
end Go.Proofs.YtgkdikddjfgajaaGreatDoor
namespace Go.Proofs.YtgkdikddjfgajaaGreatDoor
set_option maxRecDepth 20000
open Go Go.G Go.Proofs Go.PL Go.RowKit
def o6:Nat→Dk:=fun _=>(GQ,0,E0)
def cC:Nat→Dk:=fun i=>if i=0 then (K4,0,NF) else (GQ,0,E0)
def jo:Nat→Dk:=fun i=>if i=0 then (K4,1,E0) else (GQ,0,E0)
def UD:List UInt8:=[116,114,101,101,32,123,49,125]
def xC:List UInt8:=[100,111,32,48,32,115,123,48,58,49,58,49,58,50,124,125]
def Wr:List UInt8:=[115,121,110,99,32,48]
def TR:List UInt8:=[104,117,98]
theorem WS:G.Spec Tryz.prog 15 [S UD,S [32]] (.sl true [S [116,114,101,101],S [123,49,125]]):=by
 have h:=GV UD (by decide);have e:Bs UD=[[116,114,101,101],[123,49,125]]:=by decide +kernel
 rwa [e] at h
theorem iL:G.Spec Tryz.prog 15 [S xC,S [32]] (.sl true [S [100,111],S [48],S [115,123,48,58,49,58,49,58,50,124,125]]):=by
 have h:=GV xC (by decide);have e:Bs xC=[[100,111],[48],[115,123,48,58,49,58,49,58,50,124,125]]:=by decide +kernel
 rwa [e] at h
theorem Xn:G.Spec Tryz.prog 15 [S Wr,S [32]] (.sl true [S [115,121,110,99],S [48]]):=by
 have h:=GV Wr (by decide);have e:Bs Wr=[[115,121,110,99],[48]]:=by decide +kernel
 rwa [e] at h
theorem aU:G.Spec Tryz.prog 15 [S TR,S [32]] (.sl true [S TR]):=by
 have h:=GV TR (by decide);have e:Bs TR=[TR]:=by decide +kernel
 rwa [e] at h
theorem bF {f t:T} {l:List E} {d:Nat→Dk}:dT (Cc f t l d) UD [111,107] (Cc GQ GQ [] o6):=by
 have hb:=W0 (f:=f) (t':=t) (l:=l) (d:=d) dU ae (by decide);rw[fL] at hb;refine Bq Ch (by simp) (by omega) IQ LG hb.n fun w0 I0 M0 m0 hM=>?_;unfold BQ;simp;refine Af WS (by simp) ?_;simp[Cr];refine Af bb (by simp) ?_;simp[Aa];refine JW hb (fun i hi p=>?_) (fun i h1 h2 p=>?_) (by simp) (by simp) ?_
 ·rw[Ao (fun e=>by simp at e;omega),AH,if_pos hi]
 ·rw[Ao (fun e=>by simp at e;omega),AH,if_neg (by omega)];rfl
 simp;refine Af Lw (by simp) ?_;simp;exact Bf (r0:=S [111,107]) (by simp) rfl fun i hi p=>by
  show It (List.range 11) _ _ (i::p)=_;rw[AH,if_pos hi];rfl
theorem ML {f t:T} {l:List E} {d:Nat→Dk} {H:Hp}:It (List.range 6) ((Cc f t l d).F id) H [0]=⟨1,.cells (JI f id)⟩:=by
 rw[AH,if_pos (by omega),KB,if_pos rfl]
theorem Qk {f t:T} {l:List E} {d d':Nat→Dk} {j:Nat} {H:Hp} {x:Nm→VOb} (hH:∀ i,i<6→∀ p,H (i::p)=(Cc f t l d).F id i p) (hd:∀ i,i ≠ j→d' i=d i) (hx:∀ p,x p=if p=[] then ⟨1,.cells (VX (d' j))⟩ else ⟨0,.none⟩) (i:Nat) (hi:i<6) (p:Nm):ov (j+2) x H (i::p)=(Cc f t l d').F id i p:=by
 rw[Bo];by_cases e:i=j+2
 ·subst e;rw[if_pos rfl,hx,Dh]
 ·rw[if_neg e,hH i hi p]
  match i,e with
  |0,_=>rw[KB,KB]
  |1,_=>rw[tellM_1,tellM_1]
  |i+2,e=>rw[Dh,Dh,hd i (by omega)]
theorem Zp {f t t':T} {l l':List E} {d:Nat→Dk} {H:Hp} {x:Nm→VOb} (hH:∀ i,i<6→∀ p,H (i::p)=(Cc f t l d).F id i p) (hx:∀ p,x p=if p=[] then ⟨1,.cells (Ik t' l')⟩ else ⟨0,.none⟩) (i:Nat) (hi:i<6) (p:Nm):ov 1 x H (i::p)=(Cc f t' l' d).F id i p:=by
 rw[Bo];by_cases e:i=1
 ·subst e;rw[if_pos rfl,hx,tellM_1]
 ·rw[if_neg e,hH i hi p]
  match i,e with
  |0,_=>rw[KB,KB]
  |i+2,e=>rw[Dh,Dh]
theorem ln:SpecK Tryz.prog 17 6 6 (fun ρ=>[.pob [ρ 0] 1 0,.sl true [S [100,111],S [48],S [115,123,48,58,49,58,49,58,50,124,125]]]) (Cc GQ GQ [] o6) (fun _=>S [111,107]) (Cc GQ GQ [] cC):=by
 have hd:=jk (t:=GQ) (u:=K4) (n:=0) QU Kq (by rw[Gv];exact Wb) (by rw[Gv];exact QU) (by rw[Gv];exact Kq) gq Tj S0;rw[Gv] at hd;refine Bq Ln (by simp) (by omega) (A4 (B5 (i:=0) (by omega)) (A4 xS EB)) LG (fun i h1 h2 p=>by omega) fun w0 I0 M0 m0 hM=>?_;unfold G3;simp;refine Af bE (by simp) ?_;simp[Aa,Cr];refine Af L4 (by simp) ?_;simp[Aa,ML,JI];refine BE [2] hd (by simp) (fun i hi p=>?_) (fun i h1 h2=>by simp at h2;omega) (by simp) (by simp[List.isPrefixOf]) ?_
 ·have:i=0:=by omega
  subst this;rw[Ao (by simp),Zv,AH,if_pos (by omega)];exact(Dh (i:=0)).trans (by simp[o6,VX])
 simp[Aa];refine Af Lw (by simp) ?_;simp;refine Bf (k:=6) (r0:=S [111,107]) (by simp) rfl (Qk (j:=0) (d:=o6) (fun i hi p=>?_) (fun i hi=>by simp[o6,cC,hi]) (fun p=>by simp[cC,VX]));rw[Ao (fun e=>by simp at e;omega),AH,if_pos hi]
theorem lW:SG (Cc GQ GQ [] o6) xC [111,107] (Cc GQ GQ [] cC):=by
 refine Bq Ch (by simp) (by omega) IQ LG (fun i h1 h2 p=>by omega) fun w0 I0 M0 m0 hM=>?_;unfold BQ;simp;refine Af iL (by simp) ?_;simp;refine JW ln (fun i hi p=>by rw[AH,if_pos hi]) (fun i h1 h2=>by omega) (by simp) (by simp) ?_;simp;exact Bf (r0:=S [111,107]) (by simp) rfl fun i hi p=>MD hi
theorem ZN:SpecK Tryz.prog 21 6 6 (fun ρ=>[.pob [ρ 0] 1 0,S [115,121,110,99],.pob [ρ 2] 1 0]) (Cc GQ GQ [] cC) (fun _=>S [111,107]) (Cc GQ K4 [NF] jo):=by
 have hd:=X5 (t:=GQ) (d:=K4) (u:=K4) (e:=NF) QU Kq (by rw[Gv];decide) (by rw[Gv];exact Wb) (by rw[Gv];exact gq) Tj S0;rw[Gv] at hd;have hn:=Ub (t:=K4) (n:=0) (e:=NF);refine Bq LI (by simp) (by omega) (A4 (B5 (i:=0) (by omega)) (A4 LG (A4 (B5 (i:=2) (by omega)) EB))) LG (fun i h1 h2 p=>by omega) fun w0 I0 M0 m0 hM=>?_;unfold G7;simp;refine BE [2] hn (by simp) (fun i hi p=>?_) (fun i h1 h2=>by simp at h2;omega) (by simp) (by simp[List.isPrefixOf]) ?_
 ·have:i=0:=by omega
  subst this;rw[Zv,AH,if_pos (by omega)];exact(Dh (i:=0)).trans (by simp[cC,VX])
 simp[Aa,Cr,ML,JI];refine BE [2,1] hd (by simp) (fun i hi p=>?_) (fun i h1 h2=>by simp at h2;omega) (by simp) (by simp[List.isPrefixOf]) ?_
 ·have:i=0∨i=1:=by omega
  rcases this with rfl | rfl
  ·rw[Bg (by omega)];simp
  ·rw[A9 (by omega),yn,Zv,Bo,if_neg (by omega),Ao (by simp),Ao (by simp),Ao (by simp),Ao (by simp),AH,if_pos (by omega),tellM_1];simp
 simp[Aa];refine Af Lw (by simp) ?_;simp;refine Bf (k:=6) (r0:=S [111,107]) (by simp) rfl (Qk (j:=0) (d:=cC) (fun i hi p=>Zp (t:=GQ) (l:=[]) (fun i hi p=>?_) (fun p=>?_) i hi p) (fun i hi=>by simp[jo,cC,hi]) (fun p=>?_))
 ·refine Qk (j:=0) (d:=cC) (fun i hi p=>?_) (fun _ _=>rfl) (fun p=>by simp[cC,VX]) i hi p;rw[Ao (fun e=>by simp at e;omega),Ao (fun e=>by simp at e;omega),Ao (fun e=>by simp at e;omega),Ao (fun e=>by simp at e;omega),AH,if_pos hi]
 ·rw[A9 (by omega)];simp
 ·rw[Bg (by omega)];simp[jo,VX]
theorem ZM:SG (Cc GQ GQ [] cC) Wr [111,107] (Cc GQ K4 [NF] jo):=by
 refine Bq Ch (by simp) (by omega) IQ LG (fun i h1 h2 p=>by omega) fun w0 I0 M0 m0 hM=>?_;unfold BQ;simp;refine Af Xn (by simp) ?_;simp[Cr];refine Af L4 (by simp) ?_;simp[ML,JI];refine JW ZN (fun i hi p=>by rw[AH,if_pos hi]) (fun i h1 h2=>by omega) (by simp) (by simp) ?_;simp;exact Bf (r0:=S [111,107]) (by simp) rfl fun i hi p=>MD hi
theorem kK:SpecK Tryz.prog 16 6 6 (fun ρ=>[.pob [ρ 0] 1 0,S TR]) (Cc GQ K4 [NF] jo) (fun _=>S [123,50,125,32,49]) (Cc GQ K4 [NF] jo):=by
 have hn:=Oc (t:=K4) (l:=[NF]);have h1:=Nl 1 (by omega) (by omega);have e1:Lib.itoa 1=[49]:=by decide +kernel
 rw[e1] at h1;refine Bq Hy (by simp) (by omega) IQ LG (fun i h1 h2 p=>by omega) fun w0 I0 M0 m0 hM=>?_;unfold ES;simp[Cr,TR,ML,JI];refine BE [1] hn (by simp) (fun i hi p=>?_) (fun i h1 h2=>by simp at h2;omega) (by simp) (by simp[List.isPrefixOf]) ?_
 ·have:i=0:=by omega
  subst this;rw[Zv,AH,if_pos (by omega)];exact tellM_1.trans (by simp)
 simp[Aa];refine Af ZA (by simp) ?_;simp[Aa,BD (l:=[123,50,125]) (m:=[32]) (by simp)];refine Af h1 (by simp) ?_;simp[BD (l:=[123,50,125,32]) (m:=[49]) (by simp)];refine Bf (k:=6) (r0:=S [123,50,125,32,49]) (by simp) rfl (Zp (t:=K4) (l:=[NF]) (fun i hi p=>?_) (fun p=>by simp));rw[Ao (fun e=>by simp at e;omega),AH,if_pos hi]
theorem gI:SG (Cc GQ K4 [NF] jo) TR [123,50,125,32,49] (Cc GQ K4 [NF] jo):=by
 refine Bq Ch (by simp) (by omega) IQ LG (fun i h1 h2 p=>by omega) fun w0 I0 M0 m0 hM=>?_;unfold BQ;simp;refine Af aU (by simp) ?_;simp;refine JW kK (fun i hi p=>by rw[AH,if_pos hi]) (fun i h1 h2=>by omega) (by simp) (by simp) ?_;simp;exact Bf (r0:=S [123,50,125,32,49]) (by simp) rfl fun i hi p=>MD hi
noncomputable def rB:Code:=Tryz.f4.body.getD .ret
def rfA:Code→Code
 |.rangeFunc _ _ a _=>a
 |_=>.ret
def rfB:Code→Code
 |.rangeFunc _ _ _ b=>b
 |_=>.ret
noncomputable def rR0:Code:=U7 rB
noncomputable def rR1:Code:=U7 (LC rB)
noncomputable def rR2:Code:=U7 (LC (LC rB))
noncomputable def rR3:Code:=U7 (LC (LC (LC rB)))
noncomputable def rR4:Code:=U7 (LC (LC (LC (LC rB))))
noncomputable def rX:Code:=LC (LC (LC (LC (LC rB))))
noncomputable def rR5:Code:=U7 (U7 rX)
noncomputable def rRf:Code:=bk1 (LC (U7 rX))
noncomputable def yl:Code:=rfA rRf
noncomputable def wI:Code:=rfB rRf
noncomputable def rEnd:Code:=LC rX
theorem vi:rB = .seq rR0 (.seq rR1 (.seq rR2 (.seq rR3 (.seq rR4 (.seq (.seq rR5 (.block 0 (.rangeFunc (.tmp 13) #[14] yl wI))) rEnd))))):=by kernel_rfl
def zG:CC:=.reg [co (some 6) (.assign (.tmp 14)) none] [3,4,5,6]
def fj:CC:=.block 1 (.seq (.seq (.reg [co (some 15) (.move (.tmp 6)) none,
   co (some 16) (.binOp .eql 9 (.tmp 15) (.const (.string ⟨#[]⟩)) 9) none] [3,4,5,6,16]) (.cond (.tmp 16) (.exit 1) .skip))
  (.seq (.seq (.reg [co (some 17) (.load 3 (.tmp 5)) none,
    co (some 18) (.binOp .add 3 (.tmp 17) (.const (.int .i64 1)) 3) none,
    co none (.store 3 (.tmp 5) (.tmp 18)) none] [3,4,5,6])
   (.seq (.reg [co (some 19) (.load 3 (.tmp 5)) none,
    co (some 20) (.binOp .gtr 3 (.tmp 19) (.const (.int .i64 200)) 3) none] [3,4,6,20])
    (.cond (.tmp 20) (.exit 0) .skip)))
  (.reg [co (some 21) (.load 25 (.tmp 3)) none,
   co (some 22) (.move (.tmp 6)) none,
   co (some 23) (.call { callee:=(.value (.func 9)),args:=#[.tmp 21,.tmp 22],argTypes:=#[25,9] }) none,
   co (some 24) (.binOp .add 9 (.tmp 23) (.const (.string ⟨#[10]⟩)) 9) none,
   co (some 25) (.call { callee:=(.value (.func 8)),args:=#[.tmp 4,.tmp 24],argTypes:=#[39,9] }) none] [])))
theorem pd:C8 27 yl [([3,4,5,6],[])]=some (zG,[]):=by kernel_rfl
theorem pg:C8 27 wI [([3,4,5,6,16],[]),([],[]),([],[]),([3,4,5,6],[]),([],[]),([3,4,6,20],[]),([],[]),([],[]),([],[])]=some (fj,[]):=by kernel_rfl
@[simp] theorem Ab1:B2 Tryz.prog 25=some 1:=by kernel_rfl
@[simp] theorem zf:CA Tryz.prog 25=some false:=by kernel_rfl
abbrev rS (v:A):List (Nat × A):=[(3,.pob [5000] 1 0),(4,bp 5001),(5,.pob [5002] 1 0),(13,v)]
abbrev ry (l:List UInt8):List (Nat × A):=[(3,.pob [5000] 1 0),(4,bp 5001),(5,.pob [5002] 1 0),(6,S l)]
section
variable {c:Cx} (hP:c.P=Tryz.prog)
include hP
theorem pP {v:A} {l:List UInt8} {H:Hp}:WPC c zG (fun e st=>e = .normal∧st=⟨lk (ry l),H⟩) ⟨upd (lk (rS v)) 14 (S l),H⟩:=by
 unfold zG;simp[hP]
theorem ik {H:Hp}:WPC c fj (fun e st=>st.H=H∧e = .normal) ⟨lk (ry []),H⟩:=by
 unfold fj;simp[hP,Cr]
theorem eF {t:Tst} (h:Tinv t) (hn:200≤t.n) {l:List UInt8} (hl:l ≠ []) (r:List UInt8):WPC c fj (fun e st=>st.H=t.over.G r∧e = .exit 0) ⟨lk (ry l),t.G r⟩:=by
 have h1:=h.nn r;have h2:=h.nl;have e1:i64.wrap ((t.n:Int)+1)=(t.n:Int)+1:=Il;have e2:(200:Int)<(t.n:Int)+1:=by omega
 unfold fj;simp[hP,hl,h1,e1,e2,Aa,h.tv r,Cr];show _∧_;refine⟨?_,rfl⟩;unfold Tst.over;simp
theorem fH {t:Tst} (h:Tinv t) (hn:t.n<200) {l o:List UInt8} (hl:l ≠ []) (ho:o.length<1000000000) {F':FamK 6} (hK:SG t.F l o F') (r:List UInt8):WPC c fj (fun e st=>st.H=(t.same o F').G r∧e = .normal) ⟨lk (ry l),t.G r⟩:=by
 have h1:=h.nn r;have h2:=h.nl;have h3:=h.ol;have hj:t.j≤201:=by have:=h.jn;omega
 have h4:t.n*1000000000≤201*1000000000:=Nat.mul_le_mul_right _ h2;have e1:i64.wrap ((t.n:Int)+1)=(t.n:Int)+1:=Il;have e2:¬ (200:Int)<(t.n:Int)+1:=by omega
 unfold fj;simp[hP,hl,h1,e1,e2,Aa,h.tv r,Cr];refine BE (Jm t.j) hK (iV _) (fun i hi p=>?_) (fun i a b=>by have:i<6:=b;omega) (by simp[Jm]) (by simp) ?_
 ·have:=PF hj (IY (l:=Jm t.j) hi);rw[Ao (fun e=>by simp at e;omega)];exact h.ro r i hi p
 simp[BD (l:=o) (m:=[10]) (by simp;omega)];refine Ai 5001 (HX t.a t.out t.v (o++[10]) (by simp;omega)) (fun p=>?_) (by simp) (by simp) ?_
 ·rw[Gi,if_neg (fun hm=>by have:=PF hj hm;omega),Ao (fun e=>by simp at e)];exact h.bd r p
 simp;unfold Tst.same;simp
theorem gx {t:Tst} (h:Tinv t) (hn:t.n<200) {l o:List UInt8} (hl:l ≠ []) (ho:o.length<1000000000) {F':FamK 6} (hK:dT t.F l o F') (r:List UInt8):WPC c fj (fun e st=>st.H=(t.anew o F').G r∧e = .normal) ⟨lk (ry l),t.G r⟩:=by
 have h1:=h.nn r;have h2:=h.nl;have h3:=h.ol;have hj:t.j≤201:=by have:=h.jn;omega
 have h4:t.n*1000000000≤201*1000000000:=Nat.mul_le_mul_right _ h2;have e1:i64.wrap ((t.n:Int)+1)=(t.n:Int)+1:=Il;have e2:¬ (200:Int)<(t.n:Int)+1:=by omega
 unfold fj;simp[hP,hl,h1,e1,e2,Aa,h.tv r,Cr];refine BE (EP t.j) hK (Ua _) (fun i hi p=>?_) (fun i a b p=>?_) (by simp[EP]) (by simp) ?_
 ·have:=TH hj (IY (l:=EP t.j) (i:=i) (by simp[EP];omega));rw[Ao (fun e=>by simp at e;omega),Mi t.F (ρ:=DX (EP t.j)) (ρ':=DX (Jm t.j)) (fun i hi=>gp hi) hi,gp hi];exact h.ro r i hi p
 ·have hb:i<11:=b;have:i=6∨i=7∨i=8∨i=9∨i=10:=by omega
  have e:DX (EP t.j) i=5*t.j+i:=by rcases this with rfl | rfl | rfl | rfl | rfl<;>rfl
  rw[e,Ao (fun e=>by simp at e;omega)];exact h.fr r _ p (by omega) (by omega)
 simp[BD (l:=o) (m:=[10]) (by simp;omega)];refine Ai 5001 (HX t.a t.out t.v (o++[10]) (by simp;omega)) (fun p=>?_) (by simp) (by simp) ?_
 ·rw[Gi,if_neg (fun hm=>by have:=TH hj hm;omega),Ao (fun e=>by simp at e)];exact h.bd r p
 simp;unfold Tst.anew;simp
end
def TStep (a:Tst) (l:List UInt8) (b:Tst) (go:Bool):Prop:=
 (l=[]∧b=a∧go=true)∨(l ≠ []∧a.n=200∧b=a.over∧go=false) ∨
 (l ≠ []∧a.n<200∧go=true∧∃ o F',o.length<1000000000∧((SG a.F l o F'∧b=a.same o F')∨(dT a.F l o F'∧b=a.anew o F')))
theorem Ii {c:Cx} {x:CC} {Q Q':Exit→Sta→Prop} {st:Sta} (h:WPC c x Q st) (hq:∀ e st,Q e st→Q' e st):WPC c x Q' st:=WPC.mono hq h
theorem TStep.inv {a b:Tst} {l:List UInt8} {go:Bool} (h:TStep a l b go) (ha:Tinv a):Tinv b:=by
 rcases h with ⟨_,rfl,_⟩ | ⟨_,h2,rfl,_⟩ | ⟨_,h2,_,o,F',h3,⟨_,rfl⟩ | ⟨_,rfl⟩⟩
 ·exact ha
 ·exact ha.over (by omega)
 ·exact ha.same h2 h3
 ·exact ha.anew h2 h3
theorem TStep.run {a b:Tst} {l:List UInt8} {go:Bool} (h:TStep a l b go) (ha:Tinv a) {c:Cx} (hP:c.P=Tryz.prog) (r:List UInt8):WPC c fj (fun e st=>st.H=b.G r∧((go=true∧e = .normal)∨(go=false∧e = .exit 0))) ⟨lk (ry l),a.G r⟩:=by
 rcases h with ⟨rfl,rfl,rfl⟩ | ⟨h1,h2,rfl,rfl⟩ | ⟨h1,h2,rfl,o,F',h3,⟨h4,rfl⟩ | ⟨h4,rfl⟩⟩
 ·have:=ik hP (H:=b.G r);refine Ii this fun e st hh=>⟨hh.1,.inl ⟨rfl,hh.2⟩⟩
 ·have:=eF hP ha (by omega) h1 r;refine Ii this fun e st hh=>⟨hh.1,.inr ⟨rfl,hh.2⟩⟩
 ·have:=fH hP ha h2 h1 h3 h4 r;refine Ii this fun e st hh=>⟨hh.1,.inl ⟨rfl,hh.2⟩⟩
 ·have:=gx hP ha h2 h1 h3 h4 r;refine Ii this fun e st hh=>⟨hh.1,.inl ⟨rfl,hh.2⟩⟩
structure Trace (X:List UInt8) (e:Nat) (br:Bool) (sq:Nat→Tst):Prop where
 inv:Tinv (sq 0)
 len:X.length≤1000000000
 e1:1≤e
 more:∀ i,i+1<e→A6 (Av X i) 10 ≠ -1
 last:br=false→A6 (Av X (e-1)) 10 = -1
 st:∀ i,i<e→TStep (sq i) (F2 X i) (sq (i+1)) (decide (i+1<e) || !br)
theorem Trace.all {X:List UInt8} {e:Nat} {br:Bool} {sq:Nat→Tst} (h:Trace X e br sq):∀ i,i≤e→Tinv (sq i)
 |0,_=>h.inv
 |i+1,hi=>(h.st i (by omega)).inv (h.all i (by omega))
def jt (e:Nat) (sq:Nat→Tst) (i:Nat):List UInt8→Hp:=(sq (min i e)).G
theorem Trace.rounds {X:List UInt8} {e:Nat} {br:Bool} {sq:Nat→Tst} (h:Trace X e br sq) {c:Cx} (hP:c.P=Tryz.prog) (hds:c.ds=[]) (hn:c.n=27) {T:Array Value} (hT:T.size=c.n) {v:A} {l D fn:Nat} :
  PY c T (lk (rS v)) l D fn 14 yl wI 0 5003 (jt e sq) X e br:=by
 have hall:∀ i,Tinv (sq (min i e)):=fun i=>h.all _ (by omega);refine⟨fun i r=>(hall i).bx r,fun i r r'=>(hall i).up r r',h.e1,h.len,h.more,h.last,fun i hi w I μ hs y hy=>?_⟩;have hm:c.P.follows .mixedOrders=true:=by rw[hP];exact mixed
 have e1:min i e=i:=by omega
 have e2:min (i+1) e=i+1:=by omega
 have hst:=h.st i hi;have hiv:=h.all i (by omega);have key:=Zy hm hds hT (p:=14) (by omega) (ax:=zG) (bx:=fj) (assign:=yl) (body:=wI) (by rw[hn];exact B8 pd) (by rw[hn];exact B8 pg) (by kernel_rfl) (by kernel_rfl) hs hy (b:=decide (i+1<e) || !br) (j:=0) (H':=jt e sq (i+1) (Av X i)) (fun c' h1 h2 h3=>by
  refine Ii (pP (c:=c') (h1.trans hP) (v:=v) (l:=F2 X i) (H:=jt e sq i (Av X i))) fun e0 st0 hh=>⟨hh.1,fun c'' g1 g2 g3=>?_⟩;rw[hh.2];unfold jt;rw[e1,e2];refine Ii (hst.run hiv (c:=c'') (g1.trans hP) (Av X i)) fun e3 st3 hh=>⟨hh.1,?_⟩;rcases hh.2 with k | k
  ·exact .inl k
  ·exact .inr k)
 rw[hP] at key;exact key
def fc0:CC:=.reg [co (some 2) (.assign (.const (.string ⟨#[]⟩))) none] [0]
def fc1:CC:=.reg [co (some 7) (.build 34 #[]) none,cn (some 8) (.box 34 (.tmp 7)) none [0],cn (some 3) (.alloc 25) none [5000],co none (.store 25 (.tmp 3) (.tmp 8)) none] [0,3]
def fc2:CC:=.reg [co (some 9) (.load 25 (.tmp 3)) none,co (some 10) (.build 29 #[]) none,
 co (some 11) (.call { callee:=(.value (.func 6)),args:=#[.tmp 9,.tmp 10],argTypes:=#[25,29] }) none] [0,3]
def fc3:CC:=.reg [cn (some 4) (.alloc 39) none [5001,777777,39]] [0,3,4]
def fc4:CC:=.reg [cn (some 5) (.alloc 3) none [5002],co none (.store 3 (.tmp 5) (.const (.int .i64 0))) none] [0,3,4,5]
def fc5:CC:=.reg [co (some 12) (.move (.tmp 0)) none,co (some 13) (.call { callee:=(.value (.func 7)),args:=#[.tmp 12,.const (.string ⟨#[10]⟩)],argTypes:=#[9,9] }) none] [3,4,5,13]
def zk:CC:=.seq (.reg [co (some 26) (.call { callee:=(.value (.func 10)),args:=#[.tmp 4],argTypes:=#[39] }) none,co (some 2) (.assign (.tmp 26)) none] [2]) .ret
theorem nP:C8 27 rR0 [([0],[])]=some (fc0,[]):=by kernel_rfl
theorem pU:C8 27 rR1 [([0,3],[(1,[0]),(2,[5000])])]=some (fc1,[]):=by kernel_rfl
theorem pw:C8 27 rR2 [([0,3],[])]=some (fc2,[]):=by kernel_rfl
theorem qY:C8 27 rR3 [([0,3,4],[(0,[5001,777777,39])])]=some (fc3,[]):=by kernel_rfl
theorem qR:C8 27 rR4 [([0,3,4,5],[(0,[5002])])]=some (fc4,[]):=by kernel_rfl
theorem o9:C8 27 rR5 [([3,4,5,13],[])]=some (fc5,[]):=by kernel_rfl
theorem qa:C8 27 rEnd [([2],[]),([],[])]=some (zk,[]):=by kernel_rfl
@[simp] theorem tW:A1 Tryz.prog 25=some (.pointer none):=by kernel_rfl
@[simp] theorem xm:A1 Tryz.prog 34=some (.agg #[.int .i64 0,.slice none 0 0,.slice none 0 0,.pointer none,.pointer none,.pointer none,.pointer none,.pointer none]):=by kernel_rfl
@[simp] theorem AbG:B2 Tryz.prog 34=some 8:=by kernel_rfl
def V0:List A:=[iv 0,.sl true [],.sl true [],.v (.pointer none),.v (.pointer none),.v (.pointer none),.v (.pointer none),.v (.pointer none)]
theorem Xc:∀ x,x ∈ V0→Eo x:=by simp[V0]
@[simp] theorem xq:Bz Tryz.prog 34 []=some (.agg V0):=by kernel_rfl
@[simp] theorem yo:A1 Tryz.prog 3=some (.int .i64 0):=by kernel_rfl
def fcX:CC:=.seq fc0 (.seq fc1 (.seq fc2 (.seq fc3 (.seq fc4 fc5))))
def F00:FamK 6:=Cc T0 (Aq T0) [] fun _=>(Aq T0,0,E0)
structure zl (H:Hp) (X:List UInt8):Prop where
 ro:∀ i,i<6→∀ p,H (DX (Jm 0) i::p)=F00.F (DX (Jm 0)) i p
 fr:∀ m p,5<m→m<5000→(H (m::p)).u=0
 tv:H [5000]=⟨1,.cells [.pob [0] 1 0]⟩
 bd:∀ p,H (5001::p)=if p=[777777,39] then ⟨1,.cells [.v (.pointer none),.sl true []]⟩ else ⟨0,.none⟩
 nn:H [5002]=⟨1,.cells [iv 0]⟩
 bx:Bx 5003 H X
theorem ZV {c:Cx} (hP:c.P=Tryz.prog) {X:List UInt8}:WPC c fcX (fun e st=>e = .normal∧st.s=lk (rS (dR (DX [5003])))∧zl st.H X) ⟨Fk [S X],H0⟩:=by
 have hb:=(Uv (t:=T0) jh (by decide +kernel) (by decide) (cs:=V0) (hf:=Xc) rfl).soft (xs:=fun ρ=>[.pob [ρ 0] 1 0,.agg [iv 0,.sl true [],.sl true []]]) (A4 (B5 (by omega)) (HA fun x hx=>by simp at hx;subst hx;exact HY fun y hy=>by simp at hy;rcases hy with rfl | rfl<;>simp)) (by simp[BB,A.soft]);unfold fcX fc0 fc1 fc2 fc3 fc4 fc5;simp[hP];refine⟨by simp[V0,A.ones,A.one,Value.oneCell'],?_⟩;refine BE [0,1,2,3,4,5] hb (by simp) (fun i hi p=>?_) (fun i h1 h2 p=>?_) (by simp) (by simp) ?_
 ·have:i=0:=by omega
  subst this;by_cases p0:p=[]
  ·subst p0;rw[gj,if_pos rfl];simp
  ·rw[gj,if_neg p0];simp[p0]
 ·have:i=1∨i=2∨i=3∨i=4∨i=5:=by simp at h2;omega
  rcases this with rfl | rfl | rfl | rfl | rfl<;>simp
 simp[hP];refine BE [5003] (Rm X [10]) (by simp) (fun i hi=>by omega) (fun i h1 h2 p=>?_) (by simp) (by simp) ?_
 ·have:i=0:=by simp at h2;omega
  subst this;simp
 simp;refine⟨fun i hi p=>?_,fun m p h1 h2=>?_,?_,fun p=>?_,?_,?_⟩
 ·have:i=0∨i=1∨i=2∨i=3∨i=4∨i=5:=by omega
  rcases this with rfl | rfl | rfl | rfl | rfl | rfl<;>simp[Jm,F00]<;>rfl
 ·have:m ≠ 0∧m ≠ 1∧m ≠ 2∧m ≠ 3∧m ≠ 4∧m ≠ 5∧m ≠ 5003∧m ≠ 5000∧m ≠ 5001∧m ≠ 5002:=by omega
  obtain⟨n0,n1,n2,n3,n4,n5,n6,n7,n8,n9⟩:=this;simp[Bo,n0,n1,n2,n3,n4,n5,n6,n7,n8,n9,Ne.symm n0,Ne.symm n7,Ne.symm n8,Ne.symm n9]
 ·simp
 ·by_cases p0:p=[777777,39]
  ·subst p0;simp
  ·simp[p0,Ne.symm p0]
 ·simp
 ·exact⟨by simp,by simp,by simp⟩
theorem HV {c:Cx} {x y:CC} {a b:Code} {Q:Exit→Sta→Prop} {K:Exit→Act→World→Prop} {st:Sta} (hm:c.P.follows .mixedOrders=true) (hdie:∀ t,¬ c.die t) (hi:Is c.n x a) (hs:BZ a=true) (hq:∀ e st,Q e st→e = .normal) (h:WPC c (.seq x y) Q st)
  {act:Act} {w:World} {I:Nat→Prop} {μ:Mu} (hsr:SR c st act w I μ) (next:∀ st' a' w' I' μ',SR c st' a' w' I' μ'→WPC c y Q st'→b.wpIn Fence.wide 0 c.P K a' w'):(Code.seq a b).wpIn Fence.wide 0 c.P K act w:=by
 have h':WPC c x (G0 (WPC c y Q) Q) st:=h;refine wpIn_seq (wpIn_mono (Lu C0 (m:=0) hdie hm hi hs h' act w I μ hsr) fun e a' w' hh=>?_);obtain⟨st',I',μ',g1,g2⟩:=hh;cases e<;>first | exact next st' a' w' I' μ' g1 g2 | exact absurd (hq _ _ g2) (by simp)
def bN:Nm:=[5001,777777,39]
def bV:Nm:=[5001,777777,39,777777,5]
def Tt (H:Hp):Hp:=Ar (Ar H bV ⟨1,.arr 1 []⟩) bN ⟨1,.cells [.v (.pointer none),.osl bV 1 1 0 0]⟩
def wk (G:List UInt8→Hp):Tst:=⟨F00,0,[],0,1,false,G⟩
def KF (H:Hp) (r:List UInt8):Hp:=Ar (Tt H) [5003,0] ⟨1,.cells [S r]⟩
theorem Zq {H:Hp} {m:Nat} {p:Nm} (h:m ≠ 5001):Tt H (m::p)=H (m::p):=by
 unfold Tt bN bV;rw[Ao (fun e=>by simp at e;omega),Ao (fun e=>by simp at e;omega)]
theorem ab {H:Hp} {X:List UInt8} (h:zl H X):KF H X=Tt H:=by
 funext o;unfold KF Ar;by_cases e:o=[5003,0]
 ·subst e;rw[if_pos rfl,Zq (by omega)];exact h.bx.s.symm
 ·rw[if_neg e]
theorem Kv {H:Hp} {r:List UInt8} {m:Nat} {p:Nm} (h:m ≠ 5001) (h2:m::p ≠ [5003,0]):KF H r (m::p)=H (m::p):=by
 unfold KF;rw[Ao h2,Zq h]
theorem Acp {H:Hp} {X:List UInt8} (h:zl H X):Tinv (wk (KF H)):=by
 refine⟨fun r=>⟨?_,?_,?_⟩,fun r r'=>?_,fun r i hi p=>?_,fun r m p h1 h2=>?_,fun r=>?_,fun r p=>?_,fun r=>?_,?_,?_,?_⟩
 ·show KF H r [5003,0]=_;unfold KF;rw[A5]
 ·show KF H r [5003,1]=_;rw[Kv (by omega) (by simp)];exact h.bx.p
 ·show KF H r [5003,2]=_;rw[Kv (by omega) (by simp)];exact h.bx.z
 ·show Ar (Ar (Tt H) [5003,0] _) [5003,0] _=Ar (Tt H) [5003,0] _;funext o;unfold Ar;split<;>rfl
 ·have hlt:=PF (j:=0) (by omega) (IY (l:=Jm 0) hi);show KF H r (DX (Jm 0) i::p)=_;rw[Kv (by omega) (fun e=>by simp at e;omega)];exact h.ro i hi p
 ·have h1':5*0+5<m:=h1;show(KF H r (m::p)).u=0;rw[Kv (by omega) (fun e=>by simp at e;omega)];exact h.fr m p (by omega) h2
 ·show KF H r [5000]=_;rw[Kv (by omega) (by simp)];exact h.tv
 ·show KF H r (5001::p)=(Nu false [] 1).F 5001 p;unfold KF Tt bN bV;rw[Ao (by simp),fB];by_cases p0:p=[777777,39]
  ·subst p0;simp
  ·rw[if_neg p0,Ao (by simp[p0])];by_cases p1:p=[777777,39,777777,5]
   ·subst p1;simp
   ·rw[if_neg p1,Ao (by simp[p1]),h.bd p,if_neg p0]
 ·show KF H r [5002]=_;rw[Kv (by omega) (by simp)];exact h.nn
 ·exact CB 0
 ·exact Nat.zero_le _
 ·exact Nat.zero_le _
theorem lJ {c:Cx} (hP:c.P=Tryz.prog) {t:Tst} (h:Tinv t) (ha:t.a=true) (ho:t.out ≠ []) (r:List UInt8) {v:A}:WPC c zk (fun e st=>e = .ret∧st.s 2=S t.out) ⟨lk (rS v),t.G r⟩:=by
 have h2:=h.nl;have h3:=h.ol;have h4:t.n*1000000000≤201*1000000000:=Nat.mul_le_mul_right _ h2;have hbd:=h.bd r;rw[ha] at hbd;unfold zk;simp[hP];refine Ai 5001 (LW t.out t.v ho (by omega)) hbd (by simp) (by simp) ?_;simp
theorem k8 {X:List UInt8} {w:World} {I:Nat→Prop} {vs:Array Value} (hI:∀ b,I b→b<w.heap.size) (htb:Tabs Tryz.prog w I) (hl:vs.size=[S X].length) (hr:∀ (k:Nat) (y:A),[S X][k]? = some y→Rel w I Jq y (vs.getD k undef)) :
  SR (cx Tryz.prog w I 27) ⟨Fk [S X],H0⟩ ⟨vs++Array.replicate (Tryz.f4.ntmps-vs.size) undef,[]⟩ w I Jq:=by
 have hn2:Tryz.f4.ntmps=27:=by kernel_rfl
 rw[hn2];refine⟨Ib hI htb,?_,rfl,fun t=>?_⟩
 ·simp at hl ⊢;show _=27;omega
 ·show Rel w I Jq (Fk [S X] t) _;unfold Fk;cases hq:[S X][t]? with
  |none=>exact .any _ _
  |some y=>
   have hlt:=(List.getElem?_eq_some_iff.1 hq).1;have e:(vs++Array.replicate (27-vs.size) undef).getD t undef=vs.getD t undef:=by
    simp only[Array.getD_eq_getD_getElem?];rw[Array.getElem?_append_left (by simp at hl hlt;omega)]
   show Rel w I Jq y ((vs++Array.replicate (27-vs.size) undef).getD t undef);rw[e];exact hr t y hq
theorem Wm {X out:List UInt8} (ho:out ≠ []) (hT:∀ G,Tinv (wk G)→∃ e br sq,sq 0=wk G∧Trace X e br sq∧(sq e).out=out∧(sq e).a=true):G.Spec Tryz.prog 4 [S X] (S out):=by
 refine⟨by kernel_rfl,fun w I vs hI htb hl hr=>?_⟩;have hb:Tryz.f4.body=some rB:=by kernel_rfl
 refine(callsIn_wide (n:=0)).1 ?_;refine callsIn_of_wp_marks Tryz.func4 hb trivial ?_;have sr0:=k8 hI htb hl hr;revert sr0;generalize (⟨vs++Array.replicate (Tryz.f4.ntmps-vs.size) undef,[]⟩:Act)=a0;intro sr0;obtain⟨c,hc⟩:∃ c,c=cx Tryz.prog w I 27:=⟨_,rfl⟩;have hcP:c.P=Tryz.prog:=by rw[hc];rfl
 have hcn:c.n=27:=by rw[hc];rfl
 have hcd:c.ds=[]:=by rw[hc];rfl
 have hdie:∀ t,¬ c.die t:=by rw[hc];exact fun t h=>h
 have hm:c.P.follows .mixedOrders=true:=by rw[hcP];exact mixed
 have hq:∀ (e:Exit) (st:Sta),(e = .normal∧st.s=lk (rS (dR (DX [5003])))∧zl st.H X)→e = .normal:=fun e st h=>h.1;rw[← hc] at sr0;rw[vi];have hf:=ZV hcP (X:=X);unfold fcX at hf;rw[← hcP];refine HV hm hdie (by rw[hcn];exact B8 nP) (by kernel_rfl) hq hf sr0 fun s1 a1 w1 I1 μ1 sr1 hf1=>?_;refine HV hm hdie (by rw[hcn];exact B8 pU) (by kernel_rfl) hq hf1 sr1 fun s2 a2 w2 I2 μ2 sr2 hf2=>?_;refine HV hm hdie (by rw[hcn];exact B8 pw) (by kernel_rfl) hq hf2 sr2 fun s3 a3 w3 I3 μ3 sr3 hf3=>?_;refine HV hm hdie (by rw[hcn];exact B8 qY) (by kernel_rfl) hq hf3 sr3 fun s4 a4 w4 I4 μ4 sr4 hf4=>?_;refine HV hm hdie (by rw[hcn];exact B8 qR) (by kernel_rfl) hq hf4 sr4 fun s5 a5 w5 I5 μ5 sr5 hf5=>?_;refine wpIn_seq (wpIn_seq (wpIn_mono (Lu C0 (m:=0) hdie hm (by rw[hcn];exact B8 o9) (by kernel_rfl) hf5 a5 w5 I5 μ5 sr5) fun e a6 w6 hh=>?_));obtain⟨⟨s6,H6⟩,I6,μ6,sr6,rfl,hs6,hF0⟩:=hh;simp only at hs6 hF0;subst hs6;have hbd:=hF0.bd;obtain⟨I7,μ7,sr7⟩:=C3 (c:=c) (s:=lk (rS (dR (DX [5003])))) (H:=H6) (d:=bN) (u:=1) (cs:=[.v (.pointer none),.sl true []]) 1 bV 1 (by unfold bN;rw[hbd];simp) rfl (by simp[bN,bV]) a6 w6 I6 μ6 sr6;have eb:(H6 bV).u=0:=by unfold bV;rw[hbd];simp
 have eH:Ar (Ar H6 bV ⟨(H6 bV).u+1,.arr 1 []⟩) bN ⟨1,.cells (List.set [.v (.pointer none),.sl true []] 1 (.osl bV ((H6 bV).u+1) 1 0 0))⟩=Tt H6:=by rw[eb];rfl
 rw[eH] at sr7;obtain⟨e,br,sq,q0,tr,q1,q2⟩:=hT (KF H6) (Acp hF0);have eX:Tt H6=jt e sq 0 X:=by
  unfold jt;rw[show min 0 e=0 by omega,q0];exact(ab hF0).symm
 have ee:jt e sq e (Av X (e-1))=(sq e).G (Av X (e-1)):=by unfold jt;rw[Nat.min_self]
 rw[eX] at sr7;show(Code.block 0 (.rangeFunc (.tmp 13) #[14] yl wI)).wpIn Fence.wide 0 c.P _ a6 w6;refine wpIn_block ?_;refine eO hcd (g:=.tmp 13) (p:=14) (gf:=25) (caps:=[.pob [5003,1] 1 0,.pob [5003,0] 1 0,.pob [5003,2] 1 0]) (by simp[evs]) (by rw[hcP];kernel_rfl) (br:=br) (j:=0) (He:=jt e sq e (Av X (e-1))) (fun l D fn T lb w8 I8 μ8 hT8 hLS hlb hrel=>?_) (fun D a8 w8 I8 μ8 sr8 hFo hD=>?_) sr7
 ·have R:=tr.rounds hcP hcd hcn hT8 (v:=dR (DX [5003])) (l:=l) (D:=D) (fn:=fn);have key:=gX hcP R hLS (by simpa using hlb) hrel;rw[hcP];exact key
 ·have key:rEnd.wpIn Fence.wide 0 c.P (bodyPostM Fence.wide 0 c.P Tryz.f4 fun x w2=>∃ v,x = .returned v∧Below w.heap.size w w2∧Rel w2 (MF w I w2) Jq (S out) v) a8 w8:=by
   have hinv:=tr.all e (CB e);have srf:SRF { c with ds:=[{ target:=.collected D,args:=#[] }] } [(D,.deferred (some []))] ⟨lk (rS (dR (DX [5003]))),jt e sq e (Av X (e-1))⟩ a8 w8 I8 μ8:=⟨sr8,fun p hp=>by
    simp only[List.mem_cons,List.not_mem_nil,or_false] at hp;subst hp;exact⟨⟨hFo.i,hFo.o,hFo.lt,hFo.ge⟩,hD⟩⟩
   have k9:=Eb C0 (m:=0) (c:={ c with ds:=[{ target:=.collected D,args:=#[] }] }) hm (x:=zk) (a:=rEnd) (Q:=fun e st=>e = .ret∧st.s 2=S out) (by show Is c.n _ _;rw[hcn];exact B8 qa) (by kernel_rfl) (fun c' h1 h2 h3=>by
    have:=lJ (c:=c') (h1.trans hcP) hinv q2 (by rw[q1];exact ho) (Av X (e-1)) (v:=dR (DX [5003]));rw[q1] at this;rw[ee];exact this) srf
   refine wpIn_mono k9 fun e9 a9 w9 hh=>?_;obtain⟨st9,I9,μ9,g1,g2,rfl,g3⟩:=hh;show LeavesInM Fence.wide 0 c.P Tryz.f4 a9.tmps _ a9.defers .returning w9;rw[g1.sr.defers];obtain⟨f1,f2⟩:=g1.f (D,.deferred (some [])) (by simp);refine⟨by simp,.inl ⟨D,w9.putObj D (.deferred none),rfl,run_takeDeferred f2,?_⟩⟩;obtain⟨x1,x2⟩:=g1.sr.sim.other f1 (grownBy_putObj' w9 D (.deferred none));have sr10:SR { c with ds:=[{ target:=.collected D,args:=#[] }] } st9 a9 (w9.putObj D (.deferred none)) I9 μ9:=⟨x2,g1.sr.size,g1.sr.defers,fun t=>x1.rel (g1.sr.rel t)⟩;have hre:Tryz.f4.results.toList=[.tmp 2]:=by kernel_rfl
   obtain⟨v,k1,k2⟩:=HE (fn:=Tryz.f4) sr10 (x:=S out) (by rw[hre];simp[FR,g3]);have kp:=sr10.sim.kept;refine⟨v,k1,v,rfl,?_,?_⟩
   ·rw[hc] at kp;exact⟨kp.os,kp.tape,kp.output,kp.size,fun b hb=>kp.block b hb (fun ⟨_,h⟩=>h)⟩
   ·rw[Wi k2];exact .v _ _
  cases br<;>exact key
def uU:List UInt8:=[116,114,101,101,32,123,49,125,10,100,111,32,48,32,115,123,48,58,49,58,49,58,50,124,125,10,115,121,110,99,32,48,10,104,117,98]
def oAw:List UInt8:=[111,107,10,111,107,10,111,107,10,123,50,125,32,49,10]
theorem pM:G.Spec Tryz.prog 4 [S uU] (S oAw):=by
 refine Wm (by decide) fun G hG=>?_
 let t0:=wk G
 let t1:=t0.anew [111,107] (Cc GQ GQ [] o6)
 let t2:=t1.same [111,107] (Cc GQ GQ [] cC)
 let t3:=t2.same [111,107] (Cc GQ K4 [NF] jo)
 let t4:=t3.same [123,50,125,32,49] (Cc GQ K4 [NF] jo)
 have l0:F2 uU 0=UD:=by decide +kernel
 have l1:F2 uU 1=xC:=by decide +kernel
 have l2:F2 uU 2=Wr:=by decide +kernel
 have l3:F2 uU 3=TR:=by decide +kernel
 refine⟨4,false,fun i=>match i with | 0=>t0 | 1=>t1 | 2=>t2 | 3=>t3 | _=>t4,rfl,⟨hG,by decide,by omega,fun i hi=>?_,fun _=>by decide +kernel,fun i hi=>?_⟩,rfl,rfl⟩
 ·have:i=0∨i=1∨i=2:=by omega
  rcases this with rfl | rfl | rfl<;>decide +kernel
 ·have:i=0∨i=1∨i=2∨i=3:=by omega
  rcases this with rfl | rfl | rfl | rfl
  ·rw[l0];exact .inr (.inr ⟨by decide,by show 0<200;omega,rfl,_,_,by decide,.inr ⟨bF,rfl⟩⟩)
  ·rw[l1];exact .inr (.inr ⟨by decide,by show 0+1<200;omega,rfl,_,_,by decide,.inl ⟨lW,rfl⟩⟩)
  ·rw[l2];exact .inr (.inr ⟨by decide,by show 0+1+1<200;omega,rfl,_,_,by decide,.inl ⟨ZM,rfl⟩⟩)
  ·rw[l3];exact .inr (.inr ⟨by decide,by show 0+1+1+1<200;omega,rfl,_,_,by decide,.inl ⟨gI,rfl⟩⟩)
theorem Th:G.Spec Tryz.prog 5 [] (bv true):=by
 have hr:G.Spec Tryz.prog 4 [S [116,114,101,101,32,123,49,125,10,100,111,32,48,32,115,123,48,58,49,58,49,58,50,124,125,10,115,121,110,99,32,48,10,104,117,98]] (S [111,107,10,111,107,10,111,107,10,123,50,125,32,49,10]):=pM;refine Ap LN (by simp) fun w0 I0=>?_;unfold Hi;simp;refine Af hr (by simp) ?_;simp[Cr];exact Ab rfl
def xB:Nat→List UInt8
 |0=>[]
 |m+1=>[120,10]++xB m
theorem YQ:∀ m,xB m++[120,10]=xB (m+1)
 |0=>rfl
 |m+1=>by
  show [120,10]++xB m++[120,10]=[120,10]++xB (m+1);rw[List.append_assoc,YQ m]
theorem X1:∀ m,(xB m).length=2*m
 |0=>rfl
 |m+1=>by
  show([120,10]++xB m).length=_;rw[List.length_append,X1 m];simp;omega
theorem Xs (m:Nat):A6 (xB (m+1)) 10=1:=by
 show A6 (120::10::xB m) 10=1;simp[A6]
theorem TC (m:Nat):∀ i,i≤m→Av (xB m) i=xB (m-i)
 |0,_=>rfl
 |i+1,h=>by
  rw[Av,TC m i (by omega)];obtain⟨k,hk⟩:∃ k,m-i=k+1:=⟨m-i-1,by omega⟩;rw[hk,Xs,show m-(i+1)=k by omega];rfl
theorem Pe {m i:Nat} (h:i<m):F2 (xB m) i=[120]∧A6 (Av (xB m) i) 10 ≠ -1:=by
 obtain⟨k,hk⟩:∃ k,m-i=k+1:=⟨m-i-1,by omega⟩;have e:Av (xB m) i=xB (k+1):=by rw[TC m i (by omega),hk]
 have h1:A6 (Av (xB m) i) 10 ≠ -1:=by rw[e,Xs];decide
 refine⟨?_,h1⟩;unfold F2;rw[if_neg h1,e,Xs];rfl
theorem YY (m:Nat):F2 (xB m) m=[]∧A6 (Av (xB m) m) 10 = -1:=by
 have e:Av (xB m) m=[]:=by rw[TC m m (CB m),Nat.sub_self];rfl
 have h1:A6 (Av (xB m) m) 10 = -1:=by rw[e];rfl
 refine⟨?_,h1⟩;unfold F2;rw[if_pos h1,e]
def Rr:Nat→List UInt8
 |0=>[]
 |k+1=>Rr k++(OV++[10])
theorem PK:∀ k,(Rr k).length=9*k
 |0=>rfl
 |k+1=>by
  rw[Rr,List.length_append,PK k];simp[OV];omega
def Ue (G:List UInt8→Hp):Nat→Tst
 |0=>wk G
 |k+1=>(Ue G k).same OV F00
theorem vw (G:List UInt8→Hp):∀ k,(Ue G k).F=F00
 |0=>rfl
 |k+1=>rfl
theorem eI (G:List UInt8→Hp):∀ k,(Ue G k).n=k
 |0=>rfl
 |k+1=>by show(Ue G k).n+1=k+1;rw[eI G k]
theorem eD (G:List UInt8→Hp):∀ k,(Ue G k).out=Rr k
 |0=>rfl
 |k+1=>by show(Ue G k).out++(OV++[10])=Rr k++(OV++[10]);rw[eD G k]
theorem Ur (G:List UInt8→Hp) {k:Nat} (h:k<200):TStep (Ue G k) [120] (Ue G (k+1)) true:=by
 refine .inr (.inr ⟨by decide,by rw[eI];exact h,rfl,OV,F00,by decide,.inl ⟨?_,rfl⟩⟩);rw[vw];exact oh
theorem yR {m:Nat} (h1:1≤m) (h2:m≤300):G.Spec Tryz.prog 4 [S (xB m)] (S (Rr (min m 200))):=by
 have hl:=X1 m;have ho:=PK (min m 200);refine Wm (fun e=>by rw[e] at ho;simp at ho;omega) fun G hG=>?_;by_cases hm:m≤200
 ·have e0:min m 200=m:=by omega
  rw[e0];refine⟨m+1,false,fun i=>Ue G (min i m),by simp[Ue],⟨by simpa[Ue] using hG,by omega,by omega,fun i hi=>(Pe (by omega)).2,fun _=>(YY m).2,fun i hi=>?_⟩,?_,?_⟩
  ·by_cases hi2:i<m
   ·rw[(Pe hi2).1,show min i m=i by omega,show min (i+1) m=i+1 by omega];have:(decide (i+1<m+1) || !false)=true:=by simp
    rw[this];exact Ur G (by omega)
   ·have:i=m:=by omega
    subst this;rw[(YY i).1];refine .inl ⟨rfl,?_,by simp⟩;rw[show min (i+1) i=min i i by omega]
  ·show(Ue G (min (m+1) m)).out=Rr m;rw[eD,show min (m+1) m=m by omega]
  ·show(Ue G (min (m+1) m)).a=true;obtain⟨k,hk⟩:∃ k,min (m+1) m=k+1:=⟨m-1,by omega⟩;rw[hk];rfl
 ·have e0:min m 200=200:=by omega
  rw[e0];refine⟨201,true,fun i=>if i≤200 then Ue G i else (Ue G 200).over,by simp[Ue],⟨by simpa[Ue] using hG,by omega,by omega,fun i hi=>(Pe (by omega)).2,(fun h=>nomatch h),fun i hi=>?_⟩,?_,?_⟩
  ·rw[(Pe (by omega)).1];by_cases hi2:i<200
   ·have:(decide (i+1<201) || !true)=true:=by simp;omega
    rw[this];simp only[show i≤200 by omega,show i+1≤200 by omega,if_true];exact Ur G hi2
   ·have:i=200:=by omega
    subst this;refine .inr (.inl ⟨by decide,?_,?_,by simp⟩)
    ·simp only[show 200≤200 by omega,if_true];exact eI G 200
    ·simp
  ·show(Ue G 200).out=Rr 200;exact eD G 200
  ·show(Ue G 200).a=true;rfl
theorem fM (n:Int):bits .and .i64 n 7=n % 8:=by
 have h7:(BitVec.ofInt 64 7).toNat=2 ^ 3-1:=by decide
 have key:(BitVec.ofInt 64 n &&& BitVec.ofInt 64 7).toNat=(n % ((2 ^ 64:Nat):Int)).toNat % 2 ^ 3:=by
  rw[BitVec.toNat_and,BitVec.toNat_ofInt,h7,Nat.and_two_pow_sub_one_eq_mod]
 show i64.wrap ((BitVec.ofInt 64 n &&& BitVec.ofInt 64 7).toNat:Nat)=n % 8;rw[key,IntKind.wrap_i64];omega
theorem kq {w0:World} {I0:Nat→Prop} {n0:Nat} {Q:Exit→Sta→Prop} {m:Nat} (hm:m≤300) (hq:Q (.exit 0) ⟨lk [(0,iv m),(3,S (xB m)),(4,iv m),(10,bv false)],Dn []⟩):∀ (j i:Nat),i+j=m →
  LoopC (cx Tryz.prog w0 I0 n0) Ca Q ⟨lk [(0,iv m),(3,S (xB i)),(4,iv i)],Dn []⟩:=by
 intro j;induction j with
 |zero=>
  intro i hi;have:i=m:=by omega
  subst this;refine Ad mixed Ca.eq_1 ?_;simp;exact hq
 |succ j ih=>
  intro i hi;have e1:=BX i;have hl:=X1 i;have hgo:=ih (i+1) (by omega);rw[← YQ] at hgo;refine Ad mixed Ca.eq_1 ?_;simp[show i<m by omega,show(i:Int)<m by omega,BD (l:=xB i) (m:=[120,10]) (by simp;omega),e1];simpa using hgo
theorem RC (n:Int):G.Spec Tryz.prog 3 [iv n] (bv true):=by
 refine Ap Js (by simp) fun w0 I0=>?_;unfold Fo;obtain⟨k,hk⟩:∃ k:Nat,(k:Int)=n % 8:=⟨(n % 8).toNat,by omega⟩;obtain⟨m,hm⟩:∃ m:Nat,m=197+k:=⟨_,rfl⟩;have e1:i64.wrap (197+(k:Int))=m:=HZ;have hr:=yR (m:=m) (by omega) (by omega);have ho:=PK (min m 200);have hol:(S (Rr (min m 200)))=S (Rr (min m 200)):=rfl;simp[fM,← hk,e1];refine kq (by omega) ?_ m 0 (by omega);have key:WPC (cx Tryz.prog w0 I0 26) Dx (Rl Tryz.prog [ResultVar.tmp 2] (bv true)) ⟨lk [(0,iv (min m 200:Nat)),(3,S (xB m))],Dn []⟩:=by
  have e2:i64.wrap (9*((min m 200:Nat):Int))=((9*min m 200:Nat):Int):=HZ;generalize min m 200=q at *;unfold Dx;simp;refine Af hr (by simp) ?_;simp[e2,ho];refine BI rfl (fun _=>Th) (fun _=>rfl) rfl ?_;simp;exact Ak rfl
 simp;refine⟨fun h=>?_,fun h=>?_⟩
 ·have:min m 200=200:=by omega
  rw[this] at key;exact key
 ·have:min m 200=m:=by omega
  rw[this] at key;exact key
end Go.Proofs.YtgkdikddjfgajaaGreatDoor
namespace Go.Proofs.YtgkdikddjfgajaaGreatDoor
open Go Go.G Go.Proofs Go.PL Go.RowKit
theorem jY {m:Int} (h:(Lit.int .i64 m).wf=true):Bm m:=by
 simp[Lit.wf,IntKind.min,IntKind.max,IntKind.bits,IntKind.signed] at h;unfold Bm;omega
theorem UK:Tryz.prog.underlying 3=some (.int .i64):=by kernel_rfl
theorem Adf {n:Nat} {b:List A} (h:Has Tryz.prog n 3 b):∃ m,Bm m∧b=[iv m]:=by
 cases n with
 |zero=>exact h.elim
 |succ n=>
  unfold Has at h;rw[UK] at h;obtain⟨m,hm,rfl⟩:=h;exact⟨m,jY hm,rfl⟩
theorem qn (b:List A):mk Tryz.prog 3 b=b.headD .any:=by unfold mk;rw[UK]
end Go.Proofs.YtgkdikddjfgajaaGreatDoor
namespace Go.Proofs.YtgkdikddjfgajaaGreatDoor
open Go Go.G Go.Proofs Go.PL Go.RowKit
set_option maxRecDepth 100000 in
theorem said_taleMost (xs:List A) (h:ArgsHas Tryz.prog Tryz.f3.params.toList xs):G.Spec Tryz.prog 3 xs (.v (.bool true)):=by
 have h:ArgsHas Tryz.prog [3] xs:=h
 match xs,h with
 |[a],⟨⟨n,b,h1,h2⟩,_⟩=>
  obtain⟨m,hm,rfl⟩:=Adf h1;rw[h2,qn];exact RC m
end Go.Proofs.YtgkdikddjfgajaaGreatDoor
