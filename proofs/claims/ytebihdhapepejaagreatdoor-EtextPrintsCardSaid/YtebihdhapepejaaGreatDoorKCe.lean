/-
 Texts,merged,without what is not reached.
-/
import Derived.Test.YtebihdhapepejaaGreatDoorKCd
set_option linter.unusedSimpArgs false
set_option linter.unusedVariables false
open Go.IntKind (i64 u64)
namespace Go.Proofs.YtebihdhapepejaaGreatDoor
open Go Go.G Go.Proofs Go.PL
def DV:List (List UInt8)→List UInt8
 |[]=>[]
 |x::l=>44::(x++DV l)
theorem Q3:∀ (l:List (List UInt8)) (x:List UInt8),Ag (x::l)=x++DV l
 |[],x=>by simp[DV]
 |y::l,x=>by rw[Ag,Q3 l y];simp[DV]
def Fq (n:Nat) (l:List (List UInt8)):List UInt8:=if n=0 then Ag l else DV l
theorem Hn (n:Nat) (x:List UInt8) (l:List (List UInt8)):Fq n (x::l)=(if n=0 then [] else [44])++(x++Fq (n+1) l):=by
 unfold Fq;by_cases h:n=0
 ·rw[if_pos h,if_pos h,if_neg (by omega),Q3];rfl
 ·rw[if_neg h,if_neg h,if_neg (by omega)];rfl
theorem Jd {r:List UInt8} {c:UInt8} (h:A1 r c=true):r.take 1=[c]:=by
 cases r with
 |nil=>simp at h
 |cons x r=>simp at h;subst h;rfl
theorem Co {c:UInt8} {r:List UInt8} {k:Nat} (h:AY c r=some k):k=1∧r.take 1=[c]:=by
 unfold AY at h;split at h
 ·rename_i he;cases h;exact⟨rfl,Jd he⟩
 ·cases h
theorem Mf {n:Nat} {r:List UInt8} {k:Nat} (h:Cg n r=some k):r.take k=if n=0 then [] else [44]:=by
 unfold Cg at h;split at h
 ·rename_i h0;cases h;rw[if_pos h0];simp
 ·rename_i h0;rw[if_neg h0];obtain⟨rfl,e⟩:=Co h;exact e
theorem NZ {r:List UInt8} {t:T} {n:Nat} (h:CE r=some (t,n)):Ah t=r.take n∧Cd 64 t∧Ax 64 t=true∧(r.length≤1000000000→Gc t):=by
 unfold CE at h;split at h
 ·rename_i ho;cases h;obtain⟨h1,h2,h3⟩:=K1 G0 ho;exact⟨h1,h2,h3,fun hl=>Hm 64 _ h2 (by rw[h1,List.length_take];omega)⟩
 ·cases h
theorem YG {r:List UInt8} {w:WE} {n:Nat} (h:Jh r=some (w,n)):Aq w=r.take n:=by
 unfold Jh at h;cases h1:DN 1048576 r with
 |none=>rw[h1] at h;cases h
 |some q1=>
  obtain⟨a,k1⟩:=q1;rw[h1] at h;simp only at h;cases h2:AY 58 (r.drop k1) with
  |none=>rw[h2] at h;cases h
  |some m2=>
   rw[h2] at h;simp only at h;cases h3:DN 255 (r.drop (k1+1)) with
   |none=>rw[h3] at h;cases h
   |some q3=>
    obtain⟨b,k3⟩:=q3;rw[h3] at h;simp only at h;cases h4:AY 58 (r.drop (k1+1+k3)) with
    |none=>rw[h4] at h;cases h
    |some m4=>
     rw[h4] at h;simp only at h;cases h5:DN 18446744073709551615 (r.drop (k1+1+k3+1)) with
     |none=>rw[h5] at h;cases h
     |some q5=>
      obtain⟨c,k5⟩:=q5;rw[h5] at h;simp only at h;cases h6:AY 58 (r.drop (k1+1+k3+1+k5)) with
      |none=>rw[h6] at h;cases h
      |some m6=>
       rw[h6] at h;simp only at h;cases h7:DN 18446744073709551615 (r.drop (k1+1+k3+1+k5+1)) with
       |none=>rw[h7] at h;cases h
       |some q7=>
        obtain⟨d,k7⟩:=q7;rw[h7] at h;simp only at h;cases h;have e1:=(Io h1).2.2.1;have e2:=(Co h2).2;have e3:=(Io h3).2.2.1;have e4:=(Co h4).2;have e5:=(Io h5).2.2.1;have e6:=(Co h6).2;have e7:=(Io h7).2.2.1;simp only[List.take_add,e1,e2,e3,e4,e5,e6,e7];simp[Aq]
theorem RB:∀ (f n:Nat) (r:List UInt8) (ws:List WE) (k:Nat),B5 f n r=some (ws,k)→Fq n (ws.map Aq)=r.take k
 |0,n,r,ws,k,h=>by cases h
 |f+1,n,r,ws,k,h=>by
  unfold B5 at h;split at h
  ·cases h;unfold Fq;split<;>rfl
  ·cases h1:Cg n r with
   |none=>rw[h1] at h;cases h
   |some k0=>
    rw[h1] at h;simp only at h;cases h2:Jh (r.drop k0) with
    |none=>rw[h2] at h;cases h
    |some q2=>
     obtain⟨w,k1⟩:=q2;rw[h2] at h;simp only at h;cases h3:B5 f (n+1) (r.drop (k0+k1)) with
     |none=>rw[h3] at h;cases h
     |some q3=>
      obtain⟨ws',k2⟩:=q3;rw[h3] at h;simp only at h;cases h;have e1:=Mf h1;have e2:=YG h2;have e3:=RB f (n+1) _ _ _ h3;rw[List.map_cons,Hn];simp only[List.take_add,e1,e2,e3];simp
def jn (ed:List UInt8→Option (E × Nat)):Prop:=∀ (r:List UInt8) (e:E) (n:Nat),ed r=some (e,n)→Bb e=r.take n∧(r.length≤1000000000→HT e)
section
variable {ed:List UInt8→Option (E × Nat)}
theorem cf (hed:jn ed) {r:List UInt8} {x:KE} {n:Nat} (h:N9 ed r=some (x,n)):Av x=r.take n∧(r.length≤1000000000→AU x.at_∧HT x.e):=by
 unfold N9 at h;cases h1:DN 1048576 r with
 |none=>rw[h1] at h;cases h
 |some q1=>
  obtain⟨a,k1⟩:=q1;rw[h1] at h;simp only at h;cases h2:AY 58 (r.drop k1) with
  |none=>rw[h2] at h;cases h
  |some m2=>
   rw[h2] at h;simp only at h;cases h3:ed (r.drop (k1+1)) with
   |none=>rw[h3] at h;cases h
   |some q3=>
    obtain⟨e,k3⟩:=q3;rw[h3] at h;simp only at h;cases h;have e0:=Io h1;have e1:=e0.2.2.1;have e2:=(Co h2).2;obtain⟨e3,e4⟩:=hed _ _ _ h3;refine⟨?_,fun hl=>⟨?_,e4 (by rw[List.length_drop];omega)⟩⟩
    ·simp only[List.take_add,e1,e2,← e3];simp[Av]
    ·have:=e0.1;unfold AU;simp;omega
theorem Sw (hed:jn ed):∀ (f n:Nat) (r:List UInt8) (ws:List KE) (k:Nat),Dq ed f n r=some (ws,k)→Fq n (ws.map Av)=r.take k∧(r.length≤1000000000→∀ x,x ∈ ws→AU x.at_∧HT x.e)
 |0,n,r,ws,k,h=>by cases h
 |f+1,n,r,ws,k,h=>by
  unfold Dq at h;split at h
  ·cases h;exact⟨by unfold Fq;split<;>rfl,fun _ x hx=>nomatch hx⟩
  ·cases h1:Cg n r with
   |none=>rw[h1] at h;cases h
   |some k0=>
    rw[h1] at h;simp only at h;cases h2:N9 ed (r.drop k0) with
    |none=>rw[h2] at h;cases h
    |some q2=>
     obtain⟨w,k1⟩:=q2;rw[h2] at h;simp only at h;cases h3:Dq ed f (n+1) (r.drop (k0+k1)) with
     |none=>rw[h3] at h;cases h
     |some q3=>
      obtain⟨ws',k2⟩:=q3;rw[h3] at h;simp only at h;cases h;have e1:=Mf h1;obtain⟨e2,g2⟩:=cf hed h2;obtain⟨e3,g3⟩:=Sw hed f (n+1) _ _ _ h3;refine⟨?_,fun hl x hx=>?_⟩
      ·rw[List.map_cons,Hn];simp only[List.take_add,e1,e2,e3];simp
      ·rcases List.mem_cons.1 hx with rfl | hx
       ·exact g2 (by rw[List.length_drop];omega)
       ·exact g3 (by rw[List.length_drop];omega) x hx
theorem Wb (hed:jn ed) {r:List UInt8} {e:E} {n:Nat} (h:EM ed r=some (e,n)):Bb e=115::r.take n∧(r.length≤1000000000→HT e):=by
 unfold EM at h;cases h1:AY 123 r with
 |none=>rw[h1] at h;cases h
 |some m1=>
  rw[h1] at h;simp only at h;cases h2:B5 (r.length+1) 0 (r.drop 1) with
  |none=>rw[h2] at h;cases h
  |some q2=>
   obtain⟨ws,k1⟩:=q2;rw[h2] at h;simp only at h;cases h3:AY 124 (r.drop (1+k1)) with
   |none=>rw[h3] at h;cases h
   |some m3=>
    rw[h3] at h;simp only at h;cases h4:Dq ed (r.length+1) 0 (r.drop (1+k1+1)) with
    |none=>rw[h4] at h;cases h
    |some q4=>
     obtain⟨ks,k2⟩:=q4;rw[h4] at h;simp only at h;cases h5:AY 125 (r.drop (1+k1+1+k2)) with
     |none=>rw[h5] at h;cases h
     |some m5=>
      rw[h5] at h;simp only at h;cases h;have e1:=(Co h1).2;have e2:=RB _ _ _ _ _ h2;have e3:=(Co h3).2;obtain⟨e4,g4⟩:=Sw hed _ _ _ _ _ h4;have e5:=(Co h5).2;have b2:=Lo _ _ _ _ h2;refine⟨?_,fun hl=>wfE_iff.2 ?_⟩
      ·rw[C9,if_neg (by omega),if_pos rfl];simp only[List.take_add,e1,← e2,e3,← e4,e5,Fq,if_true];simp
      ·have c1:=congrArg List.length e2;have c2:=congrArg List.length e4;have n1:=BG (l:=ws.map Aq);have n2:=BG (l:=ks.map Av);simp only[Fq,if_true,List.length_take,List.length_map,List.length_drop] at c1 c2 n1 n2;exact⟨by simp[AU],by simp[AU],wfT_iff.2 ⟨by simp[AU],by simp,by simp,by simp,by simp⟩,wfT_iff.2 ⟨by simp[AU],by simp,by simp,by simp,by simp⟩,fun w hw=>by
        obtain⟨u1,u2,u3,u4,u5,u6,u7,u8⟩:=b2.2.2 w hw;exact⟨by unfold AU;omega,by omega,by unfold D5;omega,by unfold D5;omega⟩,by show ws.length*32≤_;omega,by show ks.length*208≤_;omega,by simp,g4 (by rw[List.length_drop];omega),by simp⟩
theorem P9 {r:List UInt8} {c:UInt8} (h:Ey r=c) (hc:c ≠ 0):r.take 1=[c]:=by
 cases r with
 |nil=>exact(hc (by rw[← h];rfl)).elim
 |cons x r=>have:x=c:=h;subst this;rfl
theorem Xh:HT E0:=wfE_iff.2 ⟨by simp[AU],by simp[AU],wfT_iff.2 ⟨by simp[AU],by simp,by simp,by simp,by simp⟩,wfT_iff.2 ⟨by simp[AU],by simp,by simp,by simp,by simp⟩,by simp,by simp,by simp,by simp,by simp,by simp⟩
theorem O6 {t:T} {l:Int} (hp:Cd 64 t) (hk:t.kind=l) (h2:2≤l):t = .mk l [] t.kids:=by
 rcases hp with h | ⟨h,_⟩ | ⟨_,_,h,_⟩
 ·rw[h] at hk;simp at hk;omega
 ·omega
 ·exact T.mkOf hk h rfl
theorem Zw (hed:jn ed) {l:Int} (hl2:2≤l) {r:List UInt8} {x:OP} {n:Nat} (h:CZ ed l r=some (x,n)):Au l x=r.take n∧(r.length≤1000000000→Uv x):=by
 unfold CZ at h;split at h
 ·rename_i hc;have e0:=P9 hc (by decide);cases h1:DN 1048576 (r.drop 1) with
  |none=>rw[h1] at h;cases h
  |some q=>
   obtain⟨m,k⟩:=q;rw[h1] at h;simp only at h;cases h;have hn:=Io h1;refine⟨?_,fun hl=>⟨by simp[AU],by simp[AU];omega,by simp,by simp,Xh⟩⟩;simp only[List.take_add,e0,hn.2.2.1];simp[Au]
 ·split at h
  ·rename_i hc;have e0:=P9 hc (by decide);cases h1:ed (r.drop 1) with
   |none=>rw[h1] at h;cases h
   |some q=>
    obtain⟨e,k⟩:=q;rw[h1] at h;simp only at h;cases h;obtain⟨g1,g2⟩:=hed _ _ _ h1;refine⟨?_,fun hl=>⟨by simp[AU],by simp[AU],by simp,by simp,g2 (by rw[List.length_drop];omega)⟩⟩;simp only[List.take_add,e0,← g1];simp[Au]
  ·split at h
   ·rename_i hc;cases h1:CE (r.drop 1) with
    |none=>rw[h1] at h;cases h
    |some q=>
     obtain⟨t,k⟩:=q;rw[h1] at h;simp only at h;split at h
     ·rename_i hk;cases h;obtain⟨g1,g2,g3,g4⟩:=NZ h1;have ht:=O6 g2 hk hl2;refine⟨?_,fun hl=>?_⟩
      ·simp only[List.take_add,← g1];by_cases h45:Ey r=45
       ·rw[P9 h45 (by decide)];simp[Au,h45];exact congrArg Ah ht.symm
       ·have h43:=hc.resolve_left h45;rw[P9 h43 (by decide)];simp[Au,h45];exact congrArg Ah ht.symm
      ·have hw:=wfT_iff.1 (g4 (by rw[List.length_drop];omega));exact⟨by show AU (if Ey r=45 then 1 else 2);split<;>simp[AU],by simp[AU],hw.ks,hw.kl,Xh⟩
     ·cases h
   ·cases h
theorem QU (hed:jn ed) {l:Int} (hl2:2≤l):∀ (f n:Nat) (r:List UInt8) (ws:List OP) (k:Nat),BT ed l f n r=some (ws,k)→Fq n (ws.map (Au l))=r.take k∧(r.length≤1000000000→∀ x,x ∈ ws→Uv x)
 |0,n,r,ws,k,h=>by cases h
 |f+1,n,r,ws,k,h=>by
  unfold BT at h;split at h
  ·cases h;exact⟨by unfold Fq;split<;>rfl,fun _ x hx=>nomatch hx⟩
  ·cases h1:Cg n r with
   |none=>rw[h1] at h;cases h
   |some k0=>
    rw[h1] at h;simp only at h;cases h2:CZ ed l (r.drop k0) with
    |none=>rw[h2] at h;cases h
    |some q2=>
     obtain⟨w,k1⟩:=q2;rw[h2] at h;simp only at h;cases h3:BT ed l f (n+1) (r.drop (k0+k1)) with
     |none=>rw[h3] at h;cases h
     |some q3=>
      obtain⟨ws',k2⟩:=q3;rw[h3] at h;simp only at h;cases h;have e1:=Mf h1;obtain⟨e2,g2⟩:=Zw hed hl2 h2;obtain⟨e3,g3⟩:=QU hed hl2 f (n+1) _ _ _ h3;refine⟨?_,fun hl x hx=>?_⟩
      ·rw[List.map_cons,Hn];simp only[List.take_add,e1,e2,e3];simp
      ·rcases List.mem_cons.1 hx with rfl | hx
       ·exact g2 (by rw[List.length_drop];omega)
       ·exact g3 (by rw[List.length_drop];omega) x hx
theorem Zi {r:List UInt8} (h2:2≤r.length) (ho:Kb AG (r.take 2++[93])=true):2≤(A0 AG (r.take 2++[93])).kind∧(A0 AG (r.take 2++[93])).kind≤9∧r.take 2=[A9 (A0 AG (r.take 2++[93])).kind,91]:=by
 obtain⟨h1,hp,_⟩:=K1 G0 ho;generalize A0 AG (r.take 2++[93])=t at *;obtain⟨k,w,l⟩:=t;rcases hp with h | ⟨h,_⟩ | ⟨a1,a2,a3,_⟩
 ·rw[h,show Ah T0=[95] by rw[AO];rfl] at h1;have:=congrArg List.length h1;simp only[List.length_append,List.length_take,List.length_cons,List.length_nil] at this;omega
 ·simp at h;subst h;rw[AO,if_neg (by simp),if_pos rfl] at h1;have e:∀ A B:List UInt8,123::(A++(B++[125]))=(123::(A++B))++[125]:=fun A B=>by simp
  rw[e] at h1;have:=congrArg List.getLast? h1;rw[List.getLast?_concat,List.getLast?_concat] at this;cases this
 ·simp at a1 a2;refine⟨a1,a2,?_⟩;rw[AO,if_neg (by simp;omega),if_neg (by omega),if_pos ⟨a1,a2⟩] at h1;obtain⟨a,b,r,rfl⟩:∃ a b r',r=a::b::r':=by
   match r,h2 with
   |a::b::r',_=>exact⟨a,b,r',rfl⟩
  simp at h1;simp[h1.1,h1.2.1]
theorem Y6 (hed:jn ed) {r:List UInt8} {e:E} {n:Nat} (h:EP ed r=some (e,n)):Bb e=108::r.take n∧(r.length≤1000000000→HT e):=by
 unfold EP at h;split at h
 ·rename_i hc;obtain⟨l2,l9,e0⟩:=Zi hc.1 hc.2;generalize (A0 AG (r.take 2++[93])).kind=l at *;cases h2:BT ed l (r.length+1) 0 (r.drop 2) with
  |none=>rw[h2] at h;cases h
  |some q2=>
   obtain⟨os,k1⟩:=q2;rw[h2] at h;simp only at h;cases h3:AY 93 (r.drop (2+k1)) with
   |none=>rw[h3] at h;cases h
   |some m3=>
    rw[h3] at h;simp only at h;cases h;obtain⟨e2,g2⟩:=QU hed l2 _ _ _ _ _ h2;have e3:=(Co h3).2;refine⟨?_,fun hl=>wfE_iff.2 ?_⟩
    ·rw[C9,if_neg (by omega),if_neg (by omega),if_pos rfl];simp only[List.take_add,e0,← e2,e3,Fq,if_true];simp
    ·have c1:=congrArg List.length e2;have n1:=BG (l:=os.map (Au l));simp only[Fq,if_true,List.length_take,List.length_map,List.length_drop] at c1 n1;exact⟨by simp[AU],by simp[AU];omega,wfT_iff.2 ⟨by simp[AU],by simp,by simp,by simp,by simp⟩,wfT_iff.2 ⟨by simp[AU],by simp,by simp,by simp,by simp⟩,by simp,by simp,by simp,by show os.length*240≤_;omega,by simp,g2 (by rw[List.length_drop];omega)⟩
 ·cases h
end
theorem ZI {r:List UInt8} {e:E} {n:Nat} (h:NK r=some (e,n)):Bb e=40::r.take n∧(r.length≤1000000000→HT e):=by
 unfold NK at h;cases h1:CE r with
 |none=>rw[h1] at h;cases h
 |some q1=>
  obtain⟨o,k1⟩:=q1;rw[h1] at h;simp only at h;cases h2:AY 62 (r.drop k1) with
  |none=>rw[h2] at h;cases h
  |some m2=>
   rw[h2] at h;simp only at h;cases h3:CE (r.drop (k1+1)) with
   |none=>rw[h3] at h;cases h
   |some q3=>
    obtain⟨t,k3⟩:=q3;rw[h3] at h;simp only at h;cases h4:AY 41 (r.drop (k1+1+k3)) with
    |none=>rw[h4] at h;cases h
    |some m4=>
     rw[h4] at h;simp only at h;cases h;obtain⟨e1,_,_,g1⟩:=NZ h1;have e2:=(Co h2).2;obtain⟨e3,_,_,g3⟩:=NZ h3;have e4:=(Co h4).2;refine⟨?_,fun hl=>wfE_iff.2 ⟨by simp[AU],by simp[AU],g1 hl,g3 (by rw[List.length_drop];omega),by simp,by simp,by simp,by simp,by simp,by simp⟩⟩;rw[C9,if_pos rfl];simp only[List.take_add,← e1,e2,← e3,e4];simp
theorem SN:∀ d,jn (Be d)
 |0,r,e,n,h=>by cases h
 |d+1,r,e,n,h=>by
  have ih:=SN d;have plus:∀ {o:Option (E × Nat)},KX 1 o=some (e,n)→∃ m,o=some (e,m)∧n=1+m:=fun {o} h=>by
   cases o with
   |none=>cases h
   |some q=>obtain⟨x,m⟩:=q;cases h;exact⟨m,rfl,rfl⟩
  unfold Be at h;split at h
  ·rename_i hc;cases h;exact⟨by rw[Jd hc];rfl,fun _=>Xh⟩
  ·split at h
   ·rename_i hc;obtain⟨m,h1,rfl⟩:=plus h;obtain⟨g1,g2⟩:=ZI h1;exact⟨by rw[g1,List.take_add,Jd hc];rfl,fun hl=>g2 (by rw[List.length_drop];omega)⟩
   ·split at h
    ·rename_i hc;obtain⟨m,h1,rfl⟩:=plus h;obtain⟨g1,g2⟩:=Wb ih h1;exact⟨by rw[g1,List.take_add,Jd hc];rfl,fun hl=>g2 (by rw[List.length_drop];omega)⟩
    ·split at h
     ·rename_i hc;obtain⟨m,h1,rfl⟩:=plus h;obtain⟨g1,g2⟩:=Y6 ih h1;exact⟨by rw[g1,List.take_add,Jd hc];rfl,fun hl=>g2 (by rw[List.length_drop];omega)⟩
     ·cases h
end Go.Proofs.YtebihdhapepejaaGreatDoor
namespace Go.Proofs.YtebihdhapepejaaGreatDoor
set_option maxRecDepth 20000
open Go Go.G Go.Proofs
@[simp] theorem xw:Tryz.prog.underlying 35=some (.int .i64):=by kernel_rfl
@[simp] theorem xH:Tryz.prog.underlying 57=some (.slice 9):=by kernel_rfl
@[simp] theorem xn:Tryz.prog.underlying 105=some (.pointer 5):=by kernel_rfl
@[simp] theorem xF:El Tryz.prog 75=some 1:=by kernel_rfl
@[simp] theorem xo:I9 Tryz.prog 75=some false:=by kernel_rfl
@[simp] theorem w8:CL Tryz.prog 9=some (Value.string ByteArray.empty):=by kernel_rfl
@[simp] theorem nG:CL Tryz.prog 30=some (Value.agg #[Value.int i64 0,Value.int i64 0,Value.slice none 0 0,Value.slice none 0 0,Value.int i64 0,Value.slice none 0 0,Value.slice none 0 0,Value.slice none 0 0,Value.slice none 0 0,Value.int i64 0,Value.slice none 0 0]):=by kernel_rfl
@[simp] theorem vZ:Ev Tryz.prog 9=some 16:=by kernel_rfl
@[simp] theorem sJ:BV Tryz.prog 84 0=some 0:=by kernel_rfl
@[simp] theorem sI:BV Tryz.prog 84 1=some 1:=by kernel_rfl
@[simp] theorem kN (ps:List (Nat × A)):JV Tryz.prog 30 ps=(H7 (fun i=>([(0,1),(1,3),(4,3),(7,1),(8,1),(9,1),(10,1)]:List (Nat × Nat))[i]?) [iv 0,iv 0,A.sl true [],A.sl true [],iv 0,A.sl true [],A.sl true [],A.sl true [],A.sl true [],iv 0,A.sl true []] ps).map A.agg:=by kernel_rfl
@[simp] theorem va (ps:List (Nat × A)):JV Tryz.prog 47 ps=(H7 (fun i=>([(0,1),(1,1),(2,1),(3,1)]:List (Nat × Nat))[i]?) [iv 0,A.v (Value.int IntKind.u8 0),A.v (Value.int u64 0),A.v (Value.int u64 0)] ps).map A.agg:=by kernel_rfl
@[simp] theorem uR (ps:List (Nat × A)):JV Tryz.prog 50 ps=(H7 (fun i=>([(0,1),(1,11)]:List (Nat × Nat))[i]?) [iv 0,iv 0,iv 0,A.sl true [],A.sl true [],iv 0,A.sl true [],A.sl true [],A.sl true [],A.sl true [],iv 0,A.sl true []] ps).map A.agg:=by kernel_rfl
@[simp] theorem vw (ps:List (Nat × A)):JV Tryz.prog 53 ps=(H7 (fun i=>([(0,1),(1,1),(2,1),(3,11)]:List (Nat × Nat))[i]?) [iv 0,iv 0,A.sl true [],iv 0,iv 0,A.sl true [],A.sl true [],iv 0,A.sl true [],A.sl true [],A.sl true [],A.sl true [],iv 0,A.sl true []] ps).map A.agg:=by kernel_rfl
@[simp] theorem uf (ps:List (Nat × A)):JV Tryz.prog 173 ps=(H7 (fun i=>([(0,1),(1,1),(2,1)]:List (Nat × Nat))[i]?) [A.v (Value.string ByteArray.empty),A.v (Value.string ByteArray.empty),A.v (Value.nilIface)] ps).map A.agg:=by kernel_rfl
def G9:CC:=sR [oO 6 (.assign (.const (.int .u64 0))),oO 7 (.assign (.const .nilIface))] [0,1,2] (sR [mO 11 0,mO 12 1,mO 13 2,cE 14 117 11 12 13 9 3 3,mO 10 14,xO 15 10 0,xO 16 10 1,aO 8 15,aO 9 16] [0,1,2,8,9] (sQ [mO 17 9,oO 18 (.binOp .neq 75 (xT 17) (.const .nilIface) 75)] [0,1,2,8,9,18] (cD 18 (sR [mO 19 8,mO 20 0,mO 21 1,mO 22 2,mO 23 9,oO 24 (.call { callee:=(.value (.func 118)),args:=#[(.const (.string { data:=#[80,97,114,115,101,85,105,110,116] })),(xT 20),(xT 21),(xT 22),(xT 23)],argTypes:=#[9,9,3,3,75] }),aO 6 19,aO 7 24] [6,7] (.ret)) (.skip)) [8] (sR [mO 25 8,aO 6 25,oO 7 (.assign (.const .nilIface))] [6,7] (.ret))))
theorem Lz:BP Tryz.prog 102 26 [(.tmp 6),(.tmp 7)] G9:=AP Tryz.func102
def B2:CC:=sQ [mO 134 16,mO 135 1,oO 136 (.convert 3 5 (xT 135)),bB .geq 137 5 134 136 5] [1,8,9,10,11,12,13,16,99,100,101,137] (cD 137 (sR [oO 138 (.makeInterface 165 (nI 2)),oO 6 (.assign (.const (.int .u64 0))),aO 7 138] [6,7] (.ret)) (.skip)) [1,8,9,10,11,12,13,16,99,100,101] (sQ [mO 139 13,mO 140 10,bB .geq 141 45 139 140 45] [1,8,9,10,11,12,13,16,99,100,101,141] (cD 141 (sR [mO 142 11,oO 143 (.makeInterface 165 (nI 1)),aO 6 142,aO 7 143] [6,7] (.ret)) (.skip)) [1,8,9,10,11,12,13,16,99,100,101] (sR [mO 144 13,mO 145 1,oO 146 (.convert 3 45 (xT 145)),bB .mul 147 45 144 146 45,aO 13 147] [1,8,9,10,11,12,13,16,99,100,101] (sR [mO 148 13,mO 149 16,oO 150 (.convert 5 45 (xT 149)),bB .add 151 45 148 150 45,aO 17 151] [1,8,9,10,11,12,13,17,99,100,101] (sQ [mO 152 17,mO 153 13,bB .lss 154 45 152 153 45,mO 155 154,mG 156 17 155 false,mG 157 11 155 false,oG 158 (bO .gtr 45 156 157 45) 155 false,pT 159 155 158] [1,8,9,10,11,12,17,99,100,101,159] (cD 159 (sR [mO 160 11,oO 161 (.makeInterface 165 (nI 1)),aO 6 160,aO 7 161] [6,7] (.ret)) (.skip)) [1,8,9,10,11,12,17,99,100,101] (.reg [mO 162 17,aO 13 162] [1,8,9,10,11,12,13,99,100,101])))))
def A3:CC:=sR [bB .lss 102 3 101 100 3] [1,8,9,10,11,12,13,99,100,101,102] (.seq (cD 102 (.skip) (.exit 3)) (.keep [1,8,9,10,11,12,13,99,100,101] (.seq (.block 4 (sR [iO 103 68 99 101,lO 104 5 103,aO 15 104] [1,8,9,10,11,12,13,15,99,100,101] (sR [oO 16 (.assign (.const (.int .u8 0)))] [1,8,9,10,11,12,13,15,99,100,101] (.seq (.block 5 (sR [mO 107 15,oO 108 (.binOp .eql 5 (xT 107) (.const (.int .u8 95)) 5),mO 109 108,mG 110 8 109 true,pF 111 109 110,aO 106 111] [1,8,9,10,11,12,13,15,99,100,101,106] (cD 106 (sR [aB 12 true] [1,8,9,10,11,12,13,99,100,101] (.exit 4)) (sR [mO 113 15,oO 114 (.binOp .leq 5 (.const (.int .u8 48)) (xT 113) 5),mO 115 114,mG 116 15 115 true,oG 117 (.binOp .leq 5 (xT 116) (.const (.int .u8 57)) 5) 115 true,pF 118 115 117,aO 112 118] [1,8,9,10,11,12,13,15,99,100,101,112] (cD 112 (.reg [mO 119 15,oO 120 (.binOp .sub 5 (xT 119) (.const (.int .u8 48)) 5),aO 16 120] [1,8,9,10,11,12,13,16,99,100,101]) (sR [mO 122 15,cA 123 125 122 5,oO 124 (.binOp .leq 5 (.const (.int .u8 97)) (xT 123) 5),mO 125 124,mG 126 15 125 true,oG 127 (cL 125 #[(xT 126)] #[5]) 125 true,oG 128 (.binOp .leq 5 (xT 127) (.const (.int .u8 122)) 5) 125 true,pF 129 125 128,aO 121 129] [1,8,9,10,11,12,13,15,99,100,101,121] (cD 121 (.reg [mO 130 15,cA 131 125 130 5,oO 132 (.binOp .sub 5 (xT 131) (.const (.int .u8 97)) 5),oO 133 (.binOp .add 5 (xT 132) (.const (.int .u8 10)) 5),aO 16 133] [1,8,9,10,11,12,13,16,99,100,101]) (sR [oO 105 (.makeInterface 165 (nI 2)),oO 6 (.assign (.const (.int .u64 0))),aO 7 105] [6,7] (.ret))))))))) (.keep [1,8,9,10,11,12,13,16,99,100,101] B2))))) (.keep [1,8,9,10,11,12,13,99,100,101] (.reg [bQ .add 163 3 101 1 3,mO 101 163] [1,8,9,10,11,12,13,99,100,101])))))
def Du:CC:=sR [mO 94 2,oO 95 (.convert 3 140 (xT 94)),oO 96 (.binOp .shl 45 (.const (.int .u64 1)) (xT 95) 140),oO 97 (.binOp .sub 45 (xT 96) (.const (.int .u64 1)) 45),aO 11 97] [0,1,8,9,10,11] (sR [aB 12 false] [0,1,8,9,10,11,12] (sR [oO 13 (.assign (.const (.int .u64 0)))] [0,1,8,9,10,11,12,13] (sQ [mO 98 0,oO 99 (.convert 9 68 (xT 98)),bN 100 99 68,oO 101 (.move (nI 0))] [1,8,9,10,11,12,13,99,100,101] (.block 3 (.loop A3)) [9,12,13] (sQ [mO 164 12,mO 165 164,mG 166 9 165 true,oG 167 (cL 126 #[(xT 166)] #[9]) 165 true,oG 168 (.unOp .not 4 (xT 167)) 165 true,pF 169 165 168] [13,169] (cD 169 (sR [oO 170 (.makeInterface 165 (nI 2)),oO 6 (.assign (.const (.int .u64 0))),aO 7 170] [6,7] (.ret)) (.skip)) [13] (sR [mO 171 13,aO 6 171,oO 7 (.assign (.const .nilIface))] [6,7] (.ret))))))
def Ds:CC:=sR [oO 10 (.assign (.const (.int .u64 0)))] [0,1,2,8,9] (sQ [mO 85 1] [0,1,2,8,9,85] (.block 2 (sR [bQ .eql 91 3 85 10 3,aO 90 91] [0,1,2,8,9,85,90] (cD 90 (.reg [oO 10 (.assign (.const (.int .u64 1844674407370955162)))] [0,1,2,8,9,10]) (sR [bQ .eql 93 3 85 16 3,aO 92 93] [0,1,2,8,9,92] (cD 92 (.reg [oO 10 (.assign (.const (.int .u64 1152921504606846976)))] [0,1,2,8,9,10]) (.reg [mO 86 1,oO 87 (.convert 3 45 (xT 86)),oO 88 (.binOp .quo 45 (.const (.int .u64 18446744073709551615)) (xT 87) 45),oO 89 (.binOp .add 45 (xT 88) (.const (.int .u64 1)) 45),aO 10 89] [0,1,2,8,9,10])))))) [0,1,2,8,9,10] Du)
def Dv:CC:=sQ [mO 76 2,bQ .eql 77 3 76 0 3] [0,1,2,8,9,77] (cD 77 (.reg [aI 2 64] [0,1,2,8,9]) (sR [mO 78 2,bQ .lss 79 3 78 0 3,mO 80 79,mG 81 2 80 false,oG 82 (.binOp .gtr 3 (xT 81) (nI 64) 3) 80 false,pT 83 80 82] [0,1,2,8,9,83] (cD 83 (sR [oO 84 (.makeInterface 165 (nI 4)),oO 6 (.assign (.const (.int .u64 0))),aO 7 84] [6,7] (.ret)) (.skip)))) [0,1,2,8,9] Ds 
def DS:CC:=sR [oO 6 (.assign (.const (.int .u64 0))),oO 7 (.assign (.const .nilIface))] [0,1,2] (sQ [mO 18 0,oO 19 (.binOp .eql 9 (xT 18) (.const (.string { data:=#[] })) 9)] [0,1,2,19] (cD 19 (sR [oO 20 (.makeInterface 165 (nI 2)),oO 6 (.assign (.const (.int .u64 0))),aO 7 20] [6,7] (.ret)) (.skip)) [0,1,2] (sR [mO 21 1,bQ .eql 22 3 21 0 3,aO 8 22] [0,1,2,8] (sR [mO 23 0,aO 9 23] [0,1,2,8,9] (.seq (.block 0 (sR [mO 26 1,oO 27 (.binOp .leq 3 (nI 2) (xT 26) 3),mO 28 27,mG 29 1 28 true,oG 30 (.binOp .leq 3 (xT 29) (nI 36) 3) 28 true,pF 31 28 30,aO 25 31] [0,1,2,8,9,25] (cD 25 (.skip) (sR [mO 33 1,bQ .eql 34 3 33 0 3,aO 32 34] [0,2,8,9,32] (cD 32 (sR [aI 1 10] [0,1,2,8,9] (sR [mO 35 0,oO 36 (.index 9 (xT 35) (nI 0)),oO 37 (.binOp .eql 5 (xT 36) (.const (.int .u8 48)) 5)] [0,1,2,8,9,37] (cD 37 (.block 1 (sR [mO 41 0,bN 42 41 9,bQ .geq 43 3 42 3 3,mO 44 43,mG 45 0 44 true,oG 46 (.index 9 (xT 45) (nI 1)) 44 true,oG 47 (cL 125 #[(xT 46)] #[5]) 44 true,oG 48 (.binOp .eql 5 (xT 47) (.const (.int .u8 98)) 5) 44 true,pF 49 44 48,aO 40 49] [0,2,8,9,40] (cD 40 (sR [aI 1 2] [0,1,2,8,9] (.reg [mO 50 0,oO 51 (.slice 9 (xT 50) (some (nI 2)) none none),aO 0 51] [0,1,2,8,9])) (sR [mO 53 0,bN 54 53 9,bQ .geq 55 3 54 3 3,mO 56 55,mG 57 0 56 true,oG 58 (.index 9 (xT 57) (nI 1)) 56 true,oG 59 (cL 125 #[(xT 58)] #[5]) 56 true,oG 60 (.binOp .eql 5 (xT 59) (.const (.int .u8 111)) 5) 56 true,pF 61 56 60,aO 52 61] [0,2,8,9,52] (cD 52 (sR [aI 1 8] [0,1,2,8,9] (.reg [mO 62 0,oO 63 (.slice 9 (xT 62) (some (nI 2)) none none),aO 0 63] [0,1,2,8,9])) (sR [mO 65 0,bN 66 65 9,bQ .geq 67 3 66 3 3,mO 68 67,mG 69 0 68 true,oG 70 (.index 9 (xT 69) (nI 1)) 68 true,oG 71 (cL 125 #[(xT 70)] #[5]) 68 true,oG 72 (.binOp .eql 5 (xT 71) (.const (.int .u8 120)) 5) 68 true,pF 73 68 72,aO 64 73] [0,2,8,9,64] (cD 64 (sR [aI 1 16] [0,1,2,8,9] (.reg [mO 74 0,oO 75 (.slice 9 (xT 74) (some (nI 2)) none none),aO 0 75] [0,1,2,8,9])) (sR [aI 1 8] [0,1,2,8,9] (.reg [mO 38 0,oO 39 (.slice 9 (xT 38) (some (nI 1)) none none),aO 0 39] [0,1,2,8,9]))))))))) (.skip)))) (sR [oO 24 (.makeInterface 165 (nI 3)),oO 6 (.assign (.const (.int .u64 0))),aO 7 24] [6,7] (.ret))))))) (.keep [0,1,2,8,9] Dv)))))
theorem G4:BP Tryz.prog 117 172 [(.tmp 6),(.tmp 7)] DS:=AP Tryz.func117
def E5:CC:=sR [oO 2 (.assign (.const (.int .u8 0)))] [0] (sR [mO 3 0,oO 4 (.binOp .or 5 (xT 3) (.const (.int .u8 32)) 5),aO 2 4] [2] (.ret))
theorem IK:BP Tryz.prog 125 5 [(.tmp 2)] E5:=AP Tryz.func125
def Pc:CC:=sR [oO 2 (.assign (.const (.string { data:=#[] })))] [0] (sR [mO 3 0,oO 4 (cL 38 #[(xT 3),(nI 16)] #[45,3]),aO 2 4] [2] (.ret))
theorem UT:BP Tryz.prog 21 5 [(.tmp 2)] Pc:=AP Tryz.func21
def Qh:CC:=sR [bX 3 53 1 [0],oO 4 (.assign (.const (.string { data:=#[] })))] [0,3] (sQ [fO 5 53 3 0,lO 6 3 5] [0,3,6] (.block 0 (sR [bQ .eql 8 3 6 1 3,aO 7 8] [0,3,6,7] (cD 7 (sR [mO 9 0,fO 10 53 3 2,lO 11 23 10,oO 12 (.build 25 #[(0,(xT 9)),(2,(xT 11))]),cA 13 19 12 25,oO 14 (.binOp .add 9 (.const (.string { data:=#[45] })) (xT 13) 9),aO 4 14] [4] (.ret)) (sR [bQ .eql 16 3 6 2 3,aO 15 16] [0,3,6,15] (cD 15 (sR [mO 17 0,fO 18 53 3 2,lO 19 23 18,oO 20 (.build 25 #[(0,(xT 17)),(2,(xT 19))]),cA 21 19 20 25,oO 22 (.binOp .add 9 (.const (.string { data:=#[43] })) (xT 21) 9),aO 4 22] [4] (.ret)) (sR [bQ .eql 24 3 6 3 3,aO 23 24] [3,23] (cD 23 (sR [fO 25 53 3 3,lO 26 30 25,cA 27 8 26 30,oO 28 (.binOp .add 9 (.const (.string { data:=#[42] })) (xT 27) 9),aO 4 28] [4] (.ret)) (.skip)))))))) [3] (sR [fO 29 53 3 1,lO 30 3 29,oO 31 (.convert 3 45 (xT 30)),cA 32 21 31 45,oO 33 (.binOp .add 9 (.const (.string { data:=#[107] })) (xT 32) 9),aO 4 33] [4] (.ret)))
theorem Wl:BP Tryz.prog 22 34 [(.tmp 4)] Qh:=AP Tryz.func22
def F4:CC:=sR [bB .lss 33 3 32 31 3] [1,3,4,30,31,32,33] (.seq (cD 33 (.skip) (.exit 1)) (.keep [1,3,4,30,31,32] (.seq (.block 2 (sR [iO 34 26 30 32,lO 35 47 34,aL 6 47 [1],sT 47 6 35] [1,3,4,6,30,31,32] (.reg [mO 36 3,fO 37 47 6 0,lO 38 3 37,oO 39 (.convert 3 45 (xT 38)),⟨some 40,(cL 21 #[(xT 39)] #[45]),none,[],4,[],true⟩,fO 41 47 6 1,⟨some 42,(lD 5 41),none,[],6,[4],false⟩,oO 43 (.convert 5 45 (xT 42)),⟨some 44,(cL 21 #[(xT 43)] #[45]),none,[],8,[],true⟩,fO 45 47 6 2,⟨some 46,(lD 45 45),none,[],10,[4,8],false⟩,⟨some 47,(cL 21 #[(xT 46)] #[45]),none,[],11,[],true⟩,fO 48 47 6 3,⟨some 49,(lD 45 48),none,[],13,[4,8,11],false⟩,cA 50 21 49 45,oO 51 (.buildSlice 57 4 #[(0,(xT 40)),(1,(xT 44)),(2,(xT 47)),(3,(xT 50))]),oO 52 (.call { callee:=(.value (.func 20)),args:=#[(xT 51),(.const (.string { data:=#[58] }))],argTypes:=#[57,9] }),oO 53 (.buildSlice 57 1 #[(0,(xT 52))]),aP 54 36 53 57 57 [2],aO 3 54] [1,3,4,30,31,32]))) (.reg [bQ .add 55 3 32 1 3,mO 32 55] [1,3,4,30,31,32]))))
def FQ:CC:=sR [bB .lss 60 3 59 58 3] [3,4,57,58,59,60] (.seq (cD 60 (.skip) (.exit 3)) (.keep [3,4,57,58,59] (.seq (.block 4 (sR [iO 61 27 57 59,lO 62 50 61,aL 8 50 [3],sT 50 8 62] [3,4,8,57,58,59] (.reg [mO 63 4,fO 64 50 8 0,lO 65 3 64,oO 66 (.convert 3 45 (xT 65)),⟨some 67,(cL 21 #[(xT 66)] #[45]),none,[],4,[],true⟩,oO 68 (.binOp .add 9 (xT 67) (.const (.string { data:=#[58] })) 9),fO 69 50 8 1,⟨some 70,(lD 30 69),none,[],7,[4],false⟩,cA 71 8 70 30,bB .add 72 9 68 71 9,oO 73 (.buildSlice 57 1 #[(0,(xT 72))]),aP 74 63 73 57 57 [4],aO 4 74] [3,4,57,58,59]))) (.reg [bQ .add 75 3 59 1 3,mO 59 75] [3,4,57,58,59]))))
def FO:CC:=sR [bB .lss 90 3 89 88 3] [1,9,87,88,89,90] (.seq (cD 90 (.skip) (.exit 5)) (.keep [1,9,87,88,89] (.seq (.block 6 (sR [iO 91 28 87 89,lO 92 53 91,aL 11 53 [5],sT 53 11 92] [1,9,11,87,88,89] (.reg [mO 93 9,fO 94 30 1 5,lO 95 3 94,lO 96 53 11,cB 97 22 95 96 3 53,oO 98 (.buildSlice 57 1 #[(0,(xT 97))]),aP 99 93 98 57 57 [6],aO 9 99] [1,9,87,88,89]))) (.reg [bQ .add 100 3 89 1 3,mO 89 100] [1,9,87,88,89])))) 
def LH:CC:=sR [bX 1 30 0 [0],oO 2 (.assign (.const (.string { data:=#[] })))] [1] (sQ [fO 13 30 1 0,lO 14 3 13] [1,14] (.block 0 (sR [bQ .eql 16 3 14 1 3,aO 15 16] [1,14,15] (cD 15 (sR [fO 17 30 1 1,lO 18 25 17,⟨some 19,(cL 19 #[(xT 18)] #[25]),none,[],2,[],true⟩,oO 20 (.binOp .add 9 (.const (.string { data:=#[40] })) (xT 19) 9),oO 21 (.binOp .add 9 (xT 20) (.const (.string { data:=#[62] })) 9),fO 22 30 1 2,⟨some 23,(lD 25 22),none,[],6,[2],false⟩,cA 24 19 23 25,bB .add 25 9 21 24 9,oO 26 (.binOp .add 9 (xT 25) (.const (.string { data:=#[41] })) 9),aO 2 26] [2] (.ret)) (sR [bQ .eql 28 3 14 2 3,aO 27 28] [1,14,27] (cD 27 (sR [aN 3,aN 4] [1,3,4] (sQ [fO 29 30 1 3,lO 30 26 29,bN 31 30 26,oO 32 (.move (nI 0))] [1,3,4,30,31,32] (.block 1 (.loop F4)) [1,3,4] (sQ [fO 56 30 1 4,lO 57 27 56,bN 58 57 27,oO 59 (.move (nI 0))] [3,4,57,58,59] (.block 3 (.loop FQ)) [3,4] (sR [mO 76 3,oO 77 (.call { callee:=(.value (.func 20)),args:=#[(xT 76),(.const (.string { data:=#[44] }))],argTypes:=#[57,9] }),oO 78 (.binOp .add 9 (.const (.string { data:=#[115,123] })) (xT 77) 9),oO 79 (.binOp .add 9 (xT 78) (.const (.string { data:=#[124] })) 9),mO 80 4,oO 81 (.call { callee:=(.value (.func 20)),args:=#[(xT 80),(.const (.string { data:=#[44] }))],argTypes:=#[57,9] }),bB .add 82 9 79 81 9,oO 83 (.binOp .add 9 (xT 82) (.const (.string { data:=#[125] })) 9),aO 2 83] [2] (.ret))))) (sR [bQ .eql 85 3 14 3 3,aO 84 85] [1,84] (cD 84 (sR [aN 9] [1,9] (sQ [fO 86 30 1 6,lO 87 28 86,bN 88 87 28,oO 89 (.move (nI 0))] [1,9,87,88,89] (.block 5 (.loop FO)) [1,9] (sR [fO 101 30 1 5,lO 102 3 101,oO 103 (.build 25 #[(0,(xT 102))]),cA 104 19 103 25,aO 12 104] [9,12] (sR [mO 105 12,oO 106 (.slice 9 (xT 105) none (some (nI 2)) none),oO 107 (.binOp .add 9 (.const (.string { data:=#[108] })) (xT 106) 9),mO 108 9,oO 109 (.call { callee:=(.value (.func 20)),args:=#[(xT 108),(.const (.string { data:=#[44] }))],argTypes:=#[57,9] }),bB .add 110 9 107 109 9,oO 111 (.binOp .add 9 (xT 110) (.const (.string { data:=#[93] })) 9),aO 2 111] [2] (.ret))))) (.skip)))))))) [] (sR [oO 2 (.assign (.const (.string { data:=#[61] })))] [2] (.ret)))
theorem R7:BP Tryz.prog 8 112 [(.tmp 2)] LH:=AP Tryz.func8
def NI:CC:=sR [oO 2 (.assign (.const (.int .u8 0)))] [0] (sQ [mO 3 0,nC 4 3,fO 5 84 4 1,lO 6 3 5,mO 7 0,nC 8 7,fO 9 84 8 0,lO 10 9 9,bN 11 10 9,bB .geq 12 3 6 11 3] [0,12] (cD 12 (sR [oO 2 (.assign (.const (.int .u8 0)))] [2] (.ret)) (.skip)) [0] (sR [mO 13 0,nC 14 13,fO 15 84 14 0,lO 16 9 15,mO 17 0,nC 18 17,fO 19 84 18 1,lO 20 3 19,oO 21 (.index 9 (xT 16) (xT 20)),aO 2 21] [2] (.ret)))
theorem Un:BP Tryz.prog 80 22 [(.tmp 2)] NI:=AP Tryz.func80
def OV:CC:=sR [aB 4 false] [0,1] (sQ [mO 5 0,cA 6 80 5 82,mO 7 1,bB .neq 8 5 6 7 5] [0,8] (cD 8 (sR [aB 4 false] [4] (.ret)) (.skip)) [0] (sR [mO 9 0,nC 10 9,fO 11 84 10 1,lO 12 3 11,bQ .add 13 3 12 1 3,nC 14 9,fO 15 84 14 1,sT 3 15 13] [] (sR [aB 4 true] [4] (.ret))))
theorem V7:BP Tryz.prog 61 16 [(.tmp 4)] OV:=AP Tryz.func61
def NL:CC:=sR [mO 4 0,mO 5 1,cB 6 61 4 5 82 5,oO 7 (.unOp .not 4 (xT 6))] [7] (cD 7 (.reg [oO 8 (cL 60 #[] #[])] []) (.skip))
theorem TU:BP Tryz.prog 63 9 [] NL:=AP Tryz.func63
def LI:CC:=sR [mO 4 1,bQ .gtr 5 3 4 0 3] [0,5] (cD 5 (.reg [mO 6 0,oO 7 (cL 63 #[(xT 6),(.const (.int .u8 44))] #[82,5])] []) (.skip))
theorem Sd:BP Tryz.prog 82 8 [] LI:=AP Tryz.func82
def Fg:CC:=sQ [mO 13 0,cA 14 80 13 82,oO 15 (.call { callee:=(.value (.func 101)),args:=#[(.const (.string { data:=#[48,49,50,51,52,53,54,55,56,57,97,98,99,100,101,102] })),(xT 14)],argTypes:=#[9,5] }),bQ .geq 16 3 15 0 3] [0,1,5,16] (cD 16 (.skip) (.exit 0)) [0,1,5] (.block 1 (.reg [mO 17 0,nC 18 17,fO 19 84 18 1,lO 20 3 19,bQ .add 21 3 20 1 3,nC 22 17,fO 23 84 22 1,sT 3 23 21] [0,1,5])) 
def Km:CC:=sR [oO 4 (.assign (.const (.int .u64 0)))] [0,1] (sR [mO 9 0,nC 10 9,fO 11 84 10 1,lO 12 3 11,aO 5 12] [0,1,5] (.seq (.block 0 (.loop Fg)) (.keep [0,1,5] (sR [mO 24 0,nC 25 24,fO 26 84 25 0,lO 27 9 26,mO 28 5,mO 29 0,nC 30 29,fO 31 84 30 1,lO 32 3 31,oO 33 (.slice 9 (xT 27) (some (xT 28)) (some (xT 32)) none),aO 6 33] [1,6] (sR [mO 35 6,oO 36 (cL 102 #[(xT 35),(nI 16),(nI 64)] #[9,3,3]),mO 34 36,xO 37 34 0,xO 38 34 1,aO 7 37,aO 8 38] [1,6,7,8] (sQ [mO 39 8,oO 40 (.binOp .neq 75 (xT 39) (.const .nilIface) 75),mO 41 40,mG 42 7 41 false,oG 43 (cL 21 #[(xT 42)] #[45]) 41 false,mG 44 6 41 false,oG 45 (bO .neq 9 43 44 9) 41 false,pT 46 41 45,mO 47 46,mG 48 7 47 false,mG 49 1 47 false,oG 50 (bO .gtr 45 48 49 45) 47 false,pT 51 47 50] [7,51] (cD 51 (.reg [oO 52 (cL 60 #[] #[])] [7]) (.skip)) [7] (.stop (sR [mO 53 7,aO 4 53] [4] (.ret)))))))))
theorem Qc:BP Tryz.prog 84 54 [(.tmp 4)] Km:=AP Tryz.func84
def LJ:CC:=sR [aI 2 0] [0] (sR [mO 3 0,oO 4 (cL 84 #[(xT 3),(.const (.int .u64 1048576))] #[82,45]),oO 5 (.convert 45 3 (xT 4)),aO 2 5] [2] (.stop (.ret)))
theorem Sc:BP Tryz.prog 83 6 [(.tmp 2)] LJ:=AP Tryz.func83
def CJ:CC:=cD 25 (.reg [mO 28 4,bQ .add 29 3 28 1 3,aO 4 29] [0,2,3,4]) (sQ [oO 31 (.binOp .eql 5 (xT 24) (.const (.int .u8 125)) 5),aO 30 31] [0,2,3,4,24,30] (cD 30 (.skip) (.reg [oO 32 (.binOp .eql 5 (xT 24) (.const (.int .u8 93)) 5),aO 30 32] [0,2,3,4,24,30])) [0,2,3,4,24,30] (cD 30 (.reg [mO 33 4,bQ .sub 34 3 33 1 3,aO 4 34] [0,2,3,4]) (sR [oO 36 (.binOp .eql 5 (xT 24) (.const (.int .u8 95)) 5),aO 35 36] [0,2,3,4,35] (cD 35 (.skip) (.exit 1)))))
def Gz:CC:=sQ [mO 12 0,cA 13 80 12 82,oO 14 (.binOp .neq 5 (xT 13) (.const (.int .u8 0)) 5)] [0,2,3,4,14] (cD 14 (.skip) (.exit 0)) [0,2,3,4] (.block 1 (sR [mO 15 0,cA 16 80 15 82,aO 5 16] [0,2,3,4,5] (sR [mO 17 0,nC 18 17,fO 19 84 18 1,lO 20 3 19,bQ .add 21 3 20 1 3,nC 22 17,fO 23 84 22 1,sT 3 23 21] [0,2,3,4,5] (sQ [mO 24 5] [0,2,3,4,24] (.block 2 (sQ [oO 26 (.binOp .eql 5 (xT 24) (.const (.int .u8 123)) 5),aO 25 26] [0,2,3,4,24,25] (cD 25 (.skip) (.reg [oO 27 (.binOp .eql 5 (xT 24) (.const (.int .u8 91)) 5),aO 25 27] [0,2,3,4,24,25])) [0,2,3,4,24,25] CJ)) [0,2,3,4] (sR [mO 37 4,bQ .leq 38 3 37 0 3] [0,2,3,4,38] (cD 38 (.exit 0) (.skip)))))))
def II:CC:=sR [mO 40 0,nC 41 40,fO 42 84 41 0,lS 43 9 42 3,mO 44 3,mO 45 0,nC 46 45,fO 47 84 46 1,lS 48 3 47 8,oO 49 (.slice 9 (xT 43) (some (xT 44)) (some (xT 48)) none),⟨some 50,(cL 81 #[(xT 49)] #[9]),none,[],10,[],true⟩,mO 39 50,xO 51 39 0,xO 52 39 1,⟨some 6,(.alloc 25),none,[2],14,[3,8,10],false⟩,sT 25 6 51,aO 7 52] [2,6,7] (sQ [mO 53 7,bQ .neq 54 35 53 0 35] [2,6,54] (cD 54 (.reg [oO 55 (cL 60 #[] #[])] [2,6]) (.skip)) [2,6] (.stop (sR [lO 56 25 6,sT 25 2 56] [2] (.ret)))) 
def ND:CC:=sR [aL 2 25 [1]] [0,2] (sR [mO 8 0,nC 9 8,fO 10 84 9 1,lO 11 3 10,aO 3 11,aI 4 0] [0,2,3,4] (.seq (.block 0 (.loop Gz)) (.keep [0,2,3] II)))
theorem T7:BP Tryz.prog 62 57 [(.cell 2 25)] ND:=AP Tryz.func62
def J0:CC:=sR [aL 4 30 [1]] [0,1,4] (sR [oO 6 (.build 30 #[]),aL 5 30 [2],sT 30 5 6] [0,1,4,5] (.seq (.block 0 (sR [mO 13 1,bQ .eql 14 3 13 0 3,aO 12 14] [0,1,4,5,12] (cD 12 (.reg [oO 15 (cL 60 #[] #[])] [4,5]) (sR [mO 17 0,oO 18 (cL 61 #[(xT 17),(.const (.int .u8 61))] #[82,5]),aO 16 18] [0,1,4,5,16] (cD 16 (.skip) (sR [mO 20 0,oO 21 (cL 61 #[(xT 20),(.const (.int .u8 40))] #[82,5]),aO 19 21] [0,1,4,5,19] (cD 19 (sR [mO 22 0,cA 23 62 22 82,fO 24 30 5 0,oS (.store 3 (xT 24) (nI 1)),fO 25 30 5 1,sT 25 25 23] [0,4,5] (.stop (sR [mO 26 0,oO 27 (cL 63 #[(xT 26),(.const (.int .u8 62))] #[82,5])] [0,4,5] (.stop (sR [mO 28 0,cA 29 62 28 82,fO 30 30 5 2,sT 25 30 29] [0,4,5] (.stop (.reg [mO 31 0,oO 32 (cL 63 #[(xT 31),(.const (.int .u8 41))] #[82,5])] [4,5]))))))) (sR [mO 34 0,oO 35 (cL 61 #[(xT 34),(.const (.int .u8 115))] #[82,5]),aO 33 35] [0,1,4,5,33] (cD 33 (.reg [mO 36 0,mO 37 1,cB 38 64 36 37 82 3,sT 30 5 38] [4,5]) (sR [mO 7 0,oO 8 (cL 63 #[(xT 7),(.const (.int .u8 108))] #[82,5])] [0,1,4,5] (.stop (.reg [mO 9 0,mO 10 1,cB 11 65 9 10 82 3,sT 30 5 11] [4,5])))))))))))) (.keep [4,5] (.stop (sR [lO 39 30 5,sT 30 4 39] [4] (.ret))))))
theorem M8:BP Tryz.prog 40 40 [(.cell 4 30)] J0:=AP Tryz.func40
def Fy:CC:=sQ [mO 11 0,cA 12 80 11 82,oO 13 (.binOp .neq 5 (xT 12) (.const (.int .u8 124)) 5)] [0,1,4,5,13] (cD 13 (.skip) (.exit 0)) [0,1,4,5] (.block 1 (sR [mO 14 0,fO 15 30 5 3,lO 16 26 15,bN 17 16 26,cB 18 82 14 17 82 3] [0,1,4,5] (.stop (sR [mO 19 0,cA 20 83 19 82,oO 21 (.build 47 #[(0,(xT 20))]),aL 6 47 [3],sT 47 6 21] [0,1,4,5,6] (.stop (sR [mO 22 0,oO 23 (cL 63 #[(xT 22),(.const (.int .u8 58))] #[82,5])] [0,1,4,5,6] (.stop (sR [mO 24 0,oO 25 (cL 84 #[(xT 24),(.const (.int .u64 255))] #[82,45]),oO 26 (.convert 45 5 (xT 25)),fO 27 47 6 1,sT 5 27 26] [0,1,4,5,6] (.stop (sR [mO 28 0,oO 29 (cL 63 #[(xT 28),(.const (.int .u8 58))] #[82,5])] [0,1,4,5,6] (.stop (sR [mO 30 0,oO 31 (cL 84 #[(xT 30),(.const (.int .u64 18446744073709551615))] #[82,45]),fO 32 47 6 2,sT 45 32 31] [0,1,4,5,6] (.stop (sR [mO 33 0,oO 34 (cL 63 #[(xT 33),(.const (.int .u8 58))] #[82,5])] [0,1,4,5,6] (.stop (sR [mO 35 0,oO 36 (cL 84 #[(xT 35),(.const (.int .u64 18446744073709551615))] #[82,45]),fO 37 47 6 3,sT 45 37 36] [0,1,4,5,6] (.stop (.reg [fO 38 30 5 3,lO 39 26 38,lO 40 47 6,oO 41 (.buildSlice 26 1 #[(0,(xT 40))]),aP 42 39 41 26 26 [4],fO 43 30 5 3,sT 26 43 42] [0,1,4,5]))))))))))))))))))
def Fs:CC:=sQ [mO 46 0,cA 47 80 46 82,oO 48 (.binOp .neq 5 (xT 47) (.const (.int .u8 125)) 5)] [0,1,4,5,48] (cD 48 (.skip) (.exit 2)) [0,1,4,5] (.block 3 (sR [mO 49 0,fO 50 30 5 4,lO 51 27 50,bN 52 51 27,cB 53 82 49 52 82 3] [0,1,4,5] (.stop (sR [mO 54 0,cA 55 83 54 82,oO 56 (.build 50 #[(0,(xT 55))]),aL 7 50 [5],sT 50 7 56] [0,1,4,5,7] (.stop (sR [mO 57 0,oO 58 (cL 63 #[(xT 57),(.const (.int .u8 58))] #[82,5])] [0,1,4,5,7] (.stop (sR [mO 59 0,mO 60 1,bQ .sub 61 3 60 1 3,cB 62 40 59 61 82 3,fO 63 50 7 1,sT 30 63 62] [0,1,4,5,7] (.stop (.reg [fO 64 30 5 4,lO 65 27 64,lO 66 50 7,oO 67 (.buildSlice 27 1 #[(0,(xT 66))]),aP 68 65 67 27 27 [6],fO 69 30 5 4,sT 27 69 68] [0,1,4,5])))))))))) 
def It:CC:=sR [aL 4 30 [1]] [0,1,4] (sR [oO 8 (.build 30 #[(0,(nI 2))]),aL 5 30 [2],sT 30 5 8] [0,1,4,5] (sR [mO 9 0,oO 10 (cL 63 #[(xT 9),(.const (.int .u8 123))] #[82,5])] [0,1,4,5] (.stop (.seq (.block 0 (.loop Fy)) (.keep [0,1,4,5] (sR [mO 44 0,oO 45 (cL 63 #[(xT 44),(.const (.int .u8 124))] #[82,5])] [0,1,4,5] (.stop (.seq (.block 2 (.loop Fs)) (.keep [0,4,5] (sR [mO 70 0,oO 71 (cL 63 #[(xT 70),(.const (.int .u8 125))] #[82,5])] [4,5] (.stop (sR [lO 72 30 5,sT 30 4 72] [4] (.ret)))))))))))))
theorem Nc:BP Tryz.prog 64 73 [(.cell 4 30)] It:=AP Tryz.func64
def IC:CC:=sQ [mO 52 0,cA 53 80 52 82,oO 54 (.binOp .neq 5 (xT 53) (.const (.int .u8 93)) 5)] [0,1,4,7,54] (cD 54 (.skip) (.exit 0)) [0,1,4,7] (.block 1 (sR [mO 55 0,fO 56 30 7 6,lO 57 28 56,bN 58 57 28,cB 59 82 55 58 82 3] [0,1,4,7] (.stop (.reg [fO 60 30 7 6,lS 61 28 60 1,mO 62 0,fO 63 30 7 5,lO 64 3 63,mO 65 1,⟨some 66,(cL 85 #[(xT 62),(xT 64),(xT 65)] #[82,3,3]),none,[],6,[1],false⟩,⟨some 67,(.buildSlice 28 1 #[(0,(xT 66))]),none,[],7,[1],false⟩,aP 68 61 67 28 28 [4],fO 69 30 7 6,sT 28 69 68] [0,1,4,7]))))
def LR:CC:=sR [fO 42 25 5 0,lO 43 3 42,oO 44 (.build 30 #[(0,(nI 3)),(5,(xT 43))]),aL 7 30 [3],sT 30 7 44] [0,1,4,7] (sR [mO 45 0,nC 46 45,fO 47 84 46 1,lO 48 3 47,bQ .add 49 3 48 2 3,nC 50 45,fO 51 84 50 1,sT 3 51 49] [0,1,4,7] (.seq (.block 0 (.loop IC)) (.keep [0,4,7] (sR [mO 70 0,oO 71 (cL 63 #[(xT 70),(.const (.int .u8 93))] #[82,5])] [4,7] (.stop (sR [lO 72 30 7,sT 30 4 72] [4] (.ret)))))))
def LW:CC:=sR [mO 21 0,nC 22 21,fO 23 84 22 0,lS 24 9 23 3,mO 25 0,nC 26 25,fO 27 84 26 1,lS 28 3 27 7,mO 29 0,nC 30 29,fO 31 84 30 1,lS 32 3 31 11,bQ .add 33 3 32 2 3,oO 34 (.slice 9 (xT 24) (some (xT 28)) (some (xT 33)) none),oO 35 (.binOp .add 9 (xT 34) (.const (.string { data:=#[93] })) 9),⟨some 36,(cL 81 #[(xT 35)] #[9]),none,[],15,[],true⟩,mO 20 36,xO 37 20 0,xO 38 20 1,⟨some 5,(.alloc 25),none,[2],19,[3,7,11,15],false⟩,sT 25 5 37,aO 6 38] [0,1,4,5,6] (sQ [mO 39 6,bQ .neq 40 35 39 0 35] [0,1,4,5,40] (cD 40 (.reg [oO 41 (cL 60 #[] #[])] [0,1,4,5]) (.skip)) [0,1,4,5] (.stop LR)) 
def NH:CC:=sR [aL 4 30 [1]] [0,1,4] (sQ [mO 8 0,nC 9 8,fO 10 84 9 1,lO 11 3 10,bQ .add 12 3 11 2 3,mO 13 0,nC 14 13,fO 15 84 14 0,lO 16 9 15,bN 17 16 9,bB .gtr 18 3 12 17 3] [0,1,4,18] (cD 18 (.reg [oO 19 (cL 60 #[] #[])] [0,1,4]) (.skip)) [0,1,4] (.stop LW))
theorem Ue:BP Tryz.prog 65 73 [(.cell 4 30)] NH:=AP Tryz.func65
def FJ:CC:=sR [mO 16 0,nC 17 16,fO 18 84 17 1,lO 19 3 18,bQ .add 20 3 19 1 3,nC 21 16,fO 22 84 21 1,sT 3 22 20] [0,1,2,6,7] (sR [mO 23 7,oO 24 (.build 53 #[(0,(xT 23))]),aL 8 53 [2],sT 53 8 24] [0,1,2,6,7,8] (sQ [mO 25 7] [0,1,2,6,8,25] (.block 0 (sR [bQ .eql 37 3 25 0 3,aO 36 37] [0,1,2,6,8,25,36] (cD 36 (.reg [mO 38 0,cA 39 83 38 82,fO 40 53 8 1,sT 3 40 39] [6,8]) (sR [bQ .eql 42 3 25 3 3,aO 41 42] [0,1,2,6,8,41] (cD 41 (.reg [mO 43 0,mO 44 2,bQ .sub 45 3 44 1 3,cB 46 40 43 45 82 3,fO 47 53 8 3,sT 30 47 46] [6,8]) (sR [mO 26 0,cA 27 62 26 82,aL 9 25 [3],sT 25 9 27] [1,6,8,9] (.stop (sQ [fO 28 25 9 0,lO 29 3 28,mO 30 1,bB .neq 31 3 29 30 3] [6,8,9,31] (cD 31 (.reg [oO 32 (cL 60 #[] #[])] [6,8,9]) (.skip)) [6,8,9] (.stop (.reg [fO 33 25 9 2,lO 34 23 33,fO 35 53 8 2,sT 23 35 34] [6,8])))))))))) [6,8] (.stop (sR [lO 48 53 8,sT 53 6 48] [6] (.ret))))) 
def PB:CC:=sR [aL 6 53 [1]] [0,1,2,6] (sR [mO 10 0,cA 11 80 10 82,oO 12 (.call { callee:=(.value (.func 101)),args:=#[(.const (.string { data:=#[107,45,43,42] })),(xT 11)],argTypes:=#[9,5] }),aO 7 12] [0,1,2,6,7] (sQ [mO 13 7,bQ .lss 14 3 13 0 3] [0,1,2,6,7,14] (cD 14 (.reg [oO 15 (cL 60 #[] #[])] [0,1,2,6,7]) (.skip)) [0,1,2,6,7] (.stop FJ)))
theorem Vj:BP Tryz.prog 85 49 [(.cell 6 53)] PB:=AP Tryz.func85
def LY:CC:=sR [aL 2 30 [0],aI 3 0] [0,2] (sR [mO 7 0,cA 8 23 7 9,mO 6 8,xO 9 6 0,xO 10 6 1,aL 4 30 [1],sT 30 4 9,aO 5 10] [0,2,4,5] (sQ [mO 11 5,oO 12 (.unOp .not 4 (xT 11)),mO 13 12,lG 14 30 4 13 false,oG 15 (cL 24 #[(xT 14)] #[30]) 13 false,oG 16 (.unOp .not 4 (xT 15)) 13 false,pT 17 13 16,mO 18 17,lG 19 30 4 18 false,oG 20 (cL 8 #[(xT 19)] #[30]) 18 false,mG 21 0 18 false,oG 22 (bO .neq 9 20 21 9) 18 false,pT 23 18 22] [2,4,23] (cD 23 (sR [oO 24 (.build 30 #[]),sT 30 2 24,aI 3 11] [2,3] (.ret)) (.skip)) [2,4] (sR [lO 25 30 4,sT 30 2 25,aI 3 0] [2,3] (.ret))))
theorem RK:BP Tryz.prog 9 26 [(.cell 2 30),(.tmp 3)] LY:=AP Tryz.func9
def EU:CC:=sR [fO 39 30 1 3,lO 40 26 39,mO 41 4,iO 42 26 40 41,lO 43 47 42,aL 5 47 [1],sT 47 5 43] [1,3,4,5] (.reg [mO 44 3,fO 45 47 5 0,lO 46 3 45,oO 47 (.convert 3 45 (xT 46)),⟨some 48,(cL 26 #[(xT 47)] #[45]),none,[],4,[],true⟩,bB .add 49 9 44 48 9,oO 50 (.binOp .add 9 (xT 49) (.const (.string { data:=#[58] })) 9),fO 51 47 5 1,⟨some 52,(lD 5 51),none,[],8,[4],false⟩,oO 53 (.convert 5 45 (xT 52)),⟨some 54,(cL 26 #[(xT 53)] #[45]),none,[],10,[],true⟩,bB .add 55 9 50 54 9,oO 56 (.binOp .add 9 (xT 55) (.const (.string { data:=#[58] })) 9),fO 57 47 5 2,⟨some 58,(lD 45 57),none,[],14,[4,10],false⟩,⟨some 59,(cL 26 #[(xT 58)] #[45]),none,[],15,[],true⟩,bB .add 60 9 56 59 9,oO 61 (.binOp .add 9 (xT 60) (.const (.string { data:=#[58] })) 9),fO 62 47 5 3,⟨some 63,(lD 45 62),none,[],19,[4,10,15],false⟩,cA 64 26 63 45,bB .add 65 9 61 64 9,aO 3 65] [1,3,4])
def Bt:CC:=sQ [mO 28 4,fO 29 30 1 3,lO 30 26 29,bN 31 30 26,bB .lss 32 3 28 31 3] [1,3,4,32] (cD 32 (.skip) (.exit 1)) [1,3,4] (.seq (.block 2 (sQ [mO 35 4,bQ .gtr 36 3 35 0 3] [1,3,4,36] (cD 36 (.reg [mO 37 3,oO 38 (.binOp .add 9 (xT 37) (.const (.string { data:=#[44] })) 9),aO 3 38] [1,3,4]) (.skip)) [1,3,4] EU)) (.keep [1,3,4] (.reg [mO 33 4,bQ .add 34 3 33 1 3,aO 4 34] [1,3,4])))
def EV:CC:=.reg [mO 79 3,fO 80 30 1 4,lO 81 27 80,mO 82 6,iO 83 27 81 82,fO 84 50 83 0,lO 85 3 84,oO 86 (.convert 3 45 (xT 85)),⟨some 87,(cL 26 #[(xT 86)] #[45]),none,[],8,[],true⟩,bB .add 88 9 79 87 9,oO 89 (.binOp .add 9 (xT 88) (.const (.string { data:=#[58] })) 9),fO 90 30 1 4,⟨some 91,(lD 27 90),none,[],12,[8],false⟩,mO 92 6,iO 93 27 91 92,fO 94 50 93 1,⟨some 95,(lD 30 94),none,[],16,[8],false⟩,cA 96 10 95 30,bB .add 97 9 89 96 9,aO 3 97] [1,3,6]
def Bw:CC:=sQ [mO 68 6,fO 69 30 1 4,lO 70 27 69,bN 71 70 27,bB .lss 72 3 68 71 3] [1,3,6,72] (cD 72 (.skip) (.exit 3)) [1,3,6] (.seq (.block 4 (sQ [mO 75 6,bQ .gtr 76 3 75 0 3] [1,3,6,76] (cD 76 (.reg [mO 77 3,oO 78 (.binOp .add 9 (xT 77) (.const (.string { data:=#[44] })) 9),aO 3 78] [1,3,6]) (.skip)) [1,3,6] EV)) (.keep [1,3,6] (.reg [mO 73 6,bQ .add 74 3 73 1 3,aO 6 74] [1,3,6])))
def ET:CC:=sR [fO 119 30 1 6,lO 120 28 119,mO 121 8,iO 122 28 120 121,lO 123 53 122,aL 9 53 [2],sT 53 9 123] [1,7,8,9] (sR [fO 124 53 9 0,lO 125 3 124] [1,7,8,9,125] (.block 7 (sR [bQ .eql 133 3 125 0 3,aO 132 133] [1,7,8,9,125,132] (cD 132 (.reg [mO 134 7,oO 135 (.binOp .add 9 (xT 134) (.const (.string { data:=#[107] })) 9),fO 136 53 9 1,lO 137 3 136,oO 138 (.convert 3 45 (xT 137)),cA 139 26 138 45,bB .add 140 9 135 139 9,aO 7 140] [1,7,8]) (sR [bQ .eql 142 3 125 1 3,aO 141 142] [1,7,8,9,125,141] (cD 141 (.reg [mO 143 7,oO 144 (.binOp .add 9 (xT 143) (.const (.string { data:=#[45] })) 9),fO 145 30 1 5,lO 146 3 145,fO 147 53 9 2,lO 148 23 147,oO 149 (.build 25 #[(0,(xT 146)),(2,(xT 148))]),cA 150 25 149 25,bB .add 151 9 144 150 9,aO 7 151] [1,7,8]) (sR [bQ .eql 153 3 125 2 3,aO 152 153] [1,7,8,9,152] (cD 152 (.reg [mO 154 7,oO 155 (.binOp .add 9 (xT 154) (.const (.string { data:=#[43] })) 9),fO 156 30 1 5,lO 157 3 156,fO 158 53 9 2,lO 159 23 158,oO 160 (.build 25 #[(0,(xT 157)),(2,(xT 159))]),cA 161 25 160 25,bB .add 162 9 155 161 9,aO 7 162] [1,7,8]) (.reg [mO 126 7,oO 127 (.binOp .add 9 (xT 126) (.const (.string { data:=#[42] })) 9),fO 128 53 9 3,lO 129 30 128,cA 130 10 129 30,bB .add 131 9 127 130 9,aO 7 131] [1,7,8])))))))))
def Bv:CC:=sQ [mO 108 8,fO 109 30 1 6,lO 110 28 109,bN 111 110 28,bB .lss 112 3 108 111 3] [1,7,8,112] (cD 112 (.skip) (.exit 5)) [1,7,8] (.seq (.block 6 (sQ [mO 115 8,bQ .gtr 116 3 115 0 3] [1,7,8,116] (cD 116 (.reg [mO 117 7,oO 118 (.binOp .add 9 (xT 117) (.const (.string { data:=#[44] })) 9),aO 7 118] [1,7,8]) (.skip)) [1,7,8] ET)) (.keep [1,7,8] (.reg [mO 113 8,bQ .add 114 3 113 1 3,aO 8 114] [1,7,8]))) 
def Hw:CC:=sR [bX 1 30 0 [0],oO 2 (.assign (.const (.string { data:=#[] })))] [1] (sQ [fO 10 30 1 0,lO 11 3 10] [1,11] (.block 0 (sR [bQ .eql 13 3 11 0 3,aO 12 13] [1,11,12] (cD 12 (sR [oO 2 (.assign (.const (.string { data:=#[61] })))] [2] (.ret)) (sR [bQ .eql 15 3 11 1 3,aO 14 15] [1,11,14] (cD 14 (sR [fO 16 30 1 1,lO 17 25 16,⟨some 18,(cL 25 #[(xT 17)] #[25]),none,[],2,[],true⟩,oO 19 (.binOp .add 9 (.const (.string { data:=#[40] })) (xT 18) 9),oO 20 (.binOp .add 9 (xT 19) (.const (.string { data:=#[62] })) 9),fO 21 30 1 2,⟨some 22,(lD 25 21),none,[],6,[2],false⟩,cA 23 25 22 25,bB .add 24 9 20 23 9,oO 25 (.binOp .add 9 (xT 24) (.const (.string { data:=#[41] })) 9),aO 2 25] [2] (.ret)) (sR [bQ .eql 27 3 11 2 3,aO 26 27] [1,26] (cD 26 (sR [oO 3 (.assign (.const (.string { data:=#[115,123] })))] [1,3] (sQ [aI 4 0] [1,3,4] (.block 1 (.loop Bt)) [1,3] (sR [mO 66 3,oO 67 (.binOp .add 9 (xT 66) (.const (.string { data:=#[124] })) 9),aO 3 67] [1,3] (sQ [aI 6 0] [1,3,6] (.block 3 (.loop Bw)) [3] (sR [mO 98 3,oO 99 (.binOp .add 9 (xT 98) (.const (.string { data:=#[125] })) 9),aO 2 99] [2] (.ret)))))) (.skip)))))))) [1] (sR [fO 100 30 1 5,lO 101 3 100,fO 102 30 1 5,lO 103 3 102,bQ .add 104 3 103 1 3,oO 105 (.slice 9 (.const (.string { data:=#[46,46,118,98,121,116,102,101,112,99] })) (some (xT 101)) (some (xT 104)) none),oO 106 (.binOp .add 9 (.const (.string { data:=#[108] })) (xT 105) 9),oO 107 (.binOp .add 9 (xT 106) (.const (.string { data:=#[91] })) 9),aO 7 107] [1,7] (sQ [aI 8 0] [1,7,8] (.block 5 (.loop Bv)) [7] (sR [mO 163 7,oO 164 (.binOp .add 9 (xT 163) (.const (.string { data:=#[93] })) 9),aO 2 164] [2] (.ret)))))
theorem MB:BP Tryz.prog 10 165 [(.tmp 2)] Hw:=AP Tryz.func10
def B9:CC:=cD 22 (.reg [mO 26 4,bQ .sub 27 3 26 1 3,aO 4 27] [0,3,4,5,6]) (sR [oO 29 (.binOp .eql 5 (xT 15) (.const (.int .u8 44)) 5),aO 28 29] [0,3,4,5,6,28] (cD 28 (sR [mO 30 4,bQ .eql 31 3 30 0 3] [0,3,4,5,6,31] (cD 31 (sR [mO 32 3,mO 33 0,mO 34 5,mO 35 6,oO 36 (.slice 9 (xT 33) (some (xT 34)) (some (xT 35)) none),oO 37 (.buildSlice 57 1 #[(0,(xT 36))]),aP 38 32 37 57 57 [0],aO 3 38] [0,3,4,6] (.reg [mO 39 6,bQ .add 40 3 39 1 3,aO 5 40] [0,3,4,5,6])) (.skip))) (.skip)))
def BN:CC:=cD 16 (.reg [mO 20 4,bQ .add 21 3 20 1 3,aO 4 21] [0,3,4,5,6]) (sQ [oO 23 (.binOp .eql 5 (xT 15) (.const (.int .u8 125)) 5),aO 22 23] [0,3,4,5,6,15,22] (cD 22 (.skip) (sR [oO 24 (.binOp .eql 5 (xT 15) (.const (.int .u8 93)) 5),aO 22 24] [0,3,4,5,6,15,22] (cD 22 (.skip) (.reg [oO 25 (.binOp .eql 5 (xT 15) (.const (.int .u8 41)) 5),aO 22 25] [0,3,4,5,6,15,22])))) [0,3,4,5,6,15,22] B9)
def CX:CC:=sQ [mO 7 6,mO 8 0,bN 9 8 9,bB .lss 10 3 7 9 3] [0,3,4,5,6,10] (cD 10 (.skip) (.exit 0)) [0,3,4,5,6] (.seq (.block 1 (sR [mO 13 0,mO 14 6,oO 15 (.index 9 (xT 13) (xT 14))] [0,3,4,5,6,15] (.block 2 (sQ [oO 17 (.binOp .eql 5 (xT 15) (.const (.int .u8 123)) 5),aO 16 17] [0,3,4,5,6,15,16] (cD 16 (.skip) (sR [oO 18 (.binOp .eql 5 (xT 15) (.const (.int .u8 91)) 5),aO 16 18] [0,3,4,5,6,15,16] (cD 16 (.skip) (.reg [oO 19 (.binOp .eql 5 (xT 15) (.const (.int .u8 40)) 5),aO 16 19] [0,3,4,5,6,15,16])))) [0,3,4,5,6,15,16] BN)))) (.keep [0,3,4,5,6] (.reg [mO 11 6,bQ .add 12 3 11 1 3,aO 6 12] [0,3,4,5,6]))) 
def HD:CC:=sR [aN 2] [0] (sR [aN 3] [0,3] (sR [aI 4 0,aI 5 0] [0,3,4,5] (sQ [aI 6 0] [0,3,4,5,6] (.block 0 (.loop CX)) [0,3,5] (sR [mO 41 3,mO 42 0,mO 43 5,oO 44 (.slice 9 (xT 42) (some (xT 43)) none none),oO 45 (.buildSlice 57 1 #[(0,(xT 44))]),aP 46 41 45 57 57 [1],aO 2 46] [2] (.ret)))))
theorem Me:BP Tryz.prog 48 47 [(.tmp 2)] HD:=AP Tryz.func48
def BK:CC:=cD 34 (.reg [mO 38 7,bQ .add 39 3 38 1 3,aO 7 39] [0,1,7,8]) (sQ [oO 41 (.binOp .eql 5 (xT 33) (.const (.int .u8 125)) 5),aO 40 41] [0,1,7,8,33,40] (cD 40 (.skip) (sR [oO 42 (.binOp .eql 5 (xT 33) (.const (.int .u8 93)) 5),aO 40 42] [0,1,7,8,33,40] (cD 40 (.skip) (.reg [oO 43 (.binOp .eql 5 (xT 33) (.const (.int .u8 41)) 5),aO 40 43] [0,1,7,8,40])))) [0,1,7,8,40] (cD 40 (.reg [mO 44 7,bQ .sub 45 3 44 1 3,aO 7 45] [0,1,7,8]) (.skip)))
def Ea:CC:=sQ [mO 9 8,mO 10 0,bN 11 10 9,bB .lss 12 3 9 11 3] [0,1,7,8,12] (cD 12 (.skip) (.exit 0)) [0,1,7,8] (.seq (.block 1 (sQ [mO 15 7,bQ .eql 16 3 15 0 3,mO 17 16,mG 18 0 17 true,mG 19 8 17 true,oG 20 (.index 9 (xT 18) (xT 19)) 17 true,mG 21 1 17 true,oG 22 (bO .eql 5 20 21 5) 17 true,pF 23 17 22] [0,1,7,8,23] (cD 23 (sR [mO 24 0,mO 25 8,oO 26 (.slice 9 (xT 24) none (some (xT 25)) none),mO 27 0,mO 28 8,bQ .add 29 3 28 1 3,oO 30 (.slice 9 (xT 27) (some (xT 29)) none none),aO 4 26,aO 5 30,aB 6 true] [4,5,6] (.ret)) (.skip)) [0,1,7,8] (sR [mO 31 0,mO 32 8,oO 33 (.index 9 (xT 31) (xT 32))] [0,1,7,8,33] (.block 2 (sQ [oO 35 (.binOp .eql 5 (xT 33) (.const (.int .u8 123)) 5),aO 34 35] [0,1,7,8,33,34] (cD 34 (.skip) (sR [oO 36 (.binOp .eql 5 (xT 33) (.const (.int .u8 91)) 5),aO 34 36] [0,1,7,8,33,34] (cD 34 (.skip) (.reg [oO 37 (.binOp .eql 5 (xT 33) (.const (.int .u8 40)) 5),aO 34 37] [0,1,7,8,33,34])))) [0,1,7,8,33,34] BK))))) (.keep [0,1,7,8] (.reg [mO 13 8,bQ .add 14 3 13 1 3,aO 8 14] [0,1,7,8]))) 
def IZ:CC:=sR [oO 4 (.assign (.const (.string { data:=#[] }))),oO 5 (.assign (.const (.string { data:=#[] }))),aB 6 false] [0,1] (sR [aI 7 0] [0,1,7] (sQ [aI 8 0] [0,1,7,8] (.block 0 (.loop Ea)) [] (sR [oO 4 (.assign (.const (.string { data:=#[] }))),oO 5 (.assign (.const (.string { data:=#[] }))),aB 6 false] [4,5,6] (.ret))))
theorem N2:BP Tryz.prog 45 46 [(.tmp 4),(.tmp 5),(.tmp 6)] IZ:=AP Tryz.func45
def B4:CC:=sQ [mO 25 5,mO 26 0,bN 27 26 9,bB .lss 28 3 25 27 3] [0,4,5,28] (cD 28 (.skip) (.exit 0)) [0,4,5] (.seq (.block 1 (sR [aI 6 0] [0,4,5] (sQ [mO 31 0,mO 32 5,oO 33 (.index 9 (xT 31) (xT 32)),oO 34 (.binOp .geq 5 (xT 33) (.const (.int .u8 48)) 5),mO 35 34,mG 36 0 35 true,mG 37 5 35 true,oG 38 (.index 9 (xT 36) (xT 37)) 35 true,oG 39 (.binOp .leq 5 (xT 38) (.const (.int .u8 57)) 5) 35 true,pF 40 35 39] [0,4,5,40] (cD 40 (.reg [mO 41 0,mO 42 5,oO 43 (.index 9 (xT 41) (xT 42)),oO 44 (.binOp .sub 5 (xT 43) (.const (.int .u8 48)) 5),oO 45 (.convert 5 3 (xT 44)),aO 6 45] [0,4,5,6]) (sR [mO 46 0,mO 47 5,oO 48 (.index 9 (xT 46) (xT 47)),oO 49 (.binOp .geq 5 (xT 48) (.const (.int .u8 97)) 5),mO 50 49,mG 51 0 50 true,mG 52 5 50 true,oG 53 (.index 9 (xT 51) (xT 52)) 50 true,oG 54 (.binOp .leq 5 (xT 53) (.const (.int .u8 102)) 5) 50 true,pF 55 50 54] [0,4,5,55] (cD 55 (.reg [mO 56 0,mO 57 5,oO 58 (.index 9 (xT 56) (xT 57)),oO 59 (.binOp .sub 5 (xT 58) (.const (.int .u8 97)) 5),oO 60 (.convert 5 3 (xT 59)),bQ .add 61 3 60 10 3,aO 6 61] [0,4,5,6]) (sR [oO 2 (.assign (.const (.int .u64 0))),aB 3 false] [2,3] (.ret))))) [0,4,5,6] (.reg [mO 62 4,oO 63 (.binOp .mul 45 (.const (.int .u64 16)) (xT 62) 45),mO 64 6,oO 65 (.convert 3 45 (xT 64)),bB .add 66 45 63 65 45,aO 4 66] [0,4,5])))) (.keep [0,4,5] (.reg [mO 29 5,bQ .add 30 3 29 1 3,aO 5 30] [0,4,5]))) 
def G5:CC:=sR [oO 2 (.assign (.const (.int .u64 0))),aB 3 false] [0] (sQ [mO 7 0,bN 8 7 9,bQ .eql 9 3 8 0 3,mO 10 9,mG 11 0 10 false,oG 12 (bL 11 9) 10 false,oG 13 (.binOp .gtr 3 (xT 12) (nI 16) 3) 10 false,pT 14 10 13,mO 15 14,mG 16 0 15 false,oG 17 (bL 16 9) 15 false,oG 18 (.binOp .gtr 3 (xT 17) (nI 1) 3) 15 false,mG 19 18 15 false,mG 20 0 19 true,oG 21 (.index 9 (xT 20) (nI 0)) 19 true,oG 22 (.binOp .eql 5 (xT 21) (.const (.int .u8 48)) 5) 19 true,oG 23 (.pick (xT 19) (xT 22) (nB false)) 15 false,pT 24 15 23] [0,24] (cD 24 (sR [oO 2 (.assign (.const (.int .u64 0))),aB 3 false] [2,3] (.ret)) (.skip)) [0] (sR [oO 4 (.assign (.const (.int .u64 0)))] [0,4] (sQ [aI 5 0] [0,4,5] (.block 0 (.loop B4)) [4] (sR [mO 67 4,aO 2 67,aB 3 true] [2,3] (.ret)))))
theorem LD:BP Tryz.prog 94 68 [(.tmp 2),(.tmp 3)] G5:=AP Tryz.func94
def HL:CC:=sR [aI 2 0] [0] (sR [mO 6 0,cA 7 94 6 9,mO 5 7,xO 8 5 0,xO 9 5 1,aO 3 8,aO 4 9] [3,4] (sQ [mO 10 4,oO 11 (.unOp .not 4 (xT 10)),mO 12 11,mG 13 3 12 false,oG 14 (.binOp .gtr 45 (xT 13) (.const (.int .u64 1048576)) 45) 12 false,pT 15 12 14] [3,15] (cD 15 (sR [oO 2 (.assign (.const (.int .i64 (-1))))] [2] (.ret)) (.skip)) [3] (sR [mO 16 3,oO 17 (.convert 45 3 (xT 16)),aO 2 17] [2] (.ret))))
theorem Ma:BP Tryz.prog 73 18 [(.tmp 2)] HL:=AP Tryz.func73
def HX:CC:=sR [aL 2 47 [0],aB 3 false] [0,2] (sR [mO 20 0,oO 21 (cL 45 #[(xT 20),(.const (.int .u8 58))] #[9,5]),mO 19 21,xO 22 19 0,xO 23 19 1,xO 24 19 2,aO 4 22,aO 5 23,aO 6 24] [2,4,5,6] (sR [mO 26 5,oO 27 (cL 45 #[(xT 26),(.const (.int .u8 58))] #[9,5]),mO 25 27,xO 28 25 0,xO 29 25 1,xO 30 25 2,aO 7 28,aO 8 29,aO 9 30] [2,4,6,7,8,9] (sR [mO 32 8,oO 33 (cL 45 #[(xT 32),(.const (.int .u8 58))] #[9,5]),mO 31 33,xO 34 31 0,xO 35 31 1,xO 36 31 2,aO 10 34,aO 11 35,aO 12 36] [2,4,6,7,9,10,11,12] (sQ [mO 37 6,oO 38 (.unOp .not 4 (xT 37)),mO 39 38,mG 40 9 39 false,oG 41 (.unOp .not 4 (xT 40)) 39 false,pT 42 39 41,mO 43 42,mG 44 12 43 false,oG 45 (.unOp .not 4 (xT 44)) 43 false,pT 46 43 45] [2,4,7,10,11,46] (cD 46 (sR [oO 47 (.build 47 #[]),sT 47 2 47,aB 3 false] [2,3] (.ret)) (.skip)) [2,4,7,10,11] (sR [mO 49 7,cA 50 94 49 9,mO 48 50,xO 51 48 0,xO 52 48 1,aO 13 51,aO 14 52] [2,4,10,11,13,14] (sR [mO 54 10,cA 55 94 54 9,mO 53 55,xO 56 53 0,xO 57 53 1,aO 15 56,aO 16 57] [2,4,11,13,14,15,16] (sR [mO 59 11,cA 60 94 59 9,mO 58 60,xO 61 58 0,xO 62 58 1,aO 17 61,aO 18 62] [2,4,13,14,15,16,17,18] (sQ [mO 63 14,oO 64 (.unOp .not 4 (xT 63)),mO 65 64,mG 66 16 65 false,oG 67 (.unOp .not 4 (xT 66)) 65 false,pT 68 65 67,mO 69 68,mG 70 18 69 false,oG 71 (.unOp .not 4 (xT 70)) 69 false,pT 72 69 71,mO 73 72,mG 74 13 73 false,oG 75 (.binOp .gtr 45 (xT 74) (.const (.int .u64 255)) 45) 73 false,pT 76 73 75,mO 77 76,mG 78 4 77 false,oG 79 (cL 73 #[(xT 78)] #[9]) 77 false,oG 80 (.binOp .lss 3 (xT 79) (nI 0) 3) 77 false,pT 81 77 80] [2,4,13,15,17,81] (cD 81 (sR [oO 82 (.build 47 #[]),sT 47 2 82,aB 3 false] [2,3] (.ret)) (.skip)) [2,4,13,15,17] (sR [mO 83 4,cA 84 73 83 9,mO 85 13,oO 86 (.convert 45 5 (xT 85)),mO 87 15,mO 88 17,oO 89 (.build 47 #[(0,(xT 84)),(1,(xT 86)),(2,(xT 87)),(3,(xT 88))]),sT 47 2 89,aB 3 true] [2,3] (.ret))))))))))
theorem Ns:BP Tryz.prog 72 90 [(.cell 2 47),(.tmp 3)] HX:=AP Tryz.func72
def Gr:CC:=sR [lO 57 53 12,mO 58 11,mO 59 58,fG 60 25 10 0 59 true,⟨some 61,(lD 3 60),(some (59,true)),[],4,[],true⟩,mG 62 1 59 true,oG 63 (bO .eql 3 61 62 3) 59 true,pF 64 59 63,⟨none,(.store 53 (xT 6) (xT 57)),none,[],8,[4],false⟩,aO 7 64] [6,7] (.ret)
def EN:CC:=cD 41 (sR [mO 45 0,oO 46 (.slice 9 (xT 45) (some (nI 1)) none none),cA 47 46 46 9,mO 44 47,xO 48 44 0,xO 49 44 1,aL 10 25 [2],sT 25 10 48,aO 11 49] [0,1,6,10,11] (sR [fO 50 25 10 2,lO 51 23 50,oO 52 (.build 53 #[(0,(nI 1)),(2,(xT 51))]),aL 12 53 [3],sT 53 12 52] [0,1,6,10,11,12] (sQ [mO 53 0,oO 54 (.index 9 (xT 53) (nI 0)),oO 55 (.binOp .eql 5 (xT 54) (.const (.int .u8 43)) 5)] [1,6,10,11,12,55] (cD 55 (.reg [fO 56 53 12 0,oS (.store 3 (xT 56) (nI 2))] [1,6,10,11,12]) (.skip)) [1,6,10,11,12] Gr))) (.skip) 
def J7:CC:=sR [aL 6 53 [0],aB 7 false] [0,1,2,6] (sQ [mO 13 0,oO 14 (.binOp .eql 9 (xT 13) (.const (.string { data:=#[] })) 9)] [0,1,2,6,14] (cD 14 (sR [oO 15 (.build 53 #[]),sT 53 6 15,aB 7 false] [6,7] (.ret)) (.skip)) [0,1,2,6] (sQ [mO 16 0,oO 17 (.index 9 (xT 16) (nI 0))] [0,1,2,6,17] (.block 0 (sR [oO 19 (.binOp .eql 5 (xT 17) (.const (.int .u8 107)) 5),aO 18 19] [0,1,2,6,17,18] (cD 18 (sR [mO 20 0,oO 21 (.slice 9 (xT 20) (some (nI 1)) none none),cA 22 73 21 9,oO 23 (.build 53 #[(1,(xT 22))]),mO 24 0,oO 25 (.slice 9 (xT 24) (some (nI 1)) none none),cA 26 73 25 9,bQ .geq 27 3 26 0 3,sT 53 6 23,aO 7 27] [6,7] (.ret)) (sR [oO 29 (.binOp .eql 5 (xT 17) (.const (.int .u8 42)) 5),aO 28 29] [0,1,2,6,17,28] (cD 28 (sR [mO 31 0,oO 32 (.slice 9 (xT 31) (some (nI 1)) none none),mO 33 2,bQ .sub 34 3 33 1 3,cB 35 29 32 34 9 3,mO 30 35,xO 36 30 0,xO 37 30 1,aL 8 30 [1],sT 30 8 36,aO 9 37] [6,8,9] (sR [lO 38 30 8,oO 39 (.build 53 #[(0,(nI 3)),(3,(xT 38))]),mO 40 9,sT 53 6 39,aO 7 40] [6,7] (.ret))) (sQ [oO 42 (.binOp .eql 5 (xT 17) (.const (.int .u8 45)) 5),aO 41 42] [0,1,6,17,41] (cD 41 (.skip) (.reg [oO 43 (.binOp .eql 5 (xT 17) (.const (.int .u8 43)) 5),aO 41 43] [0,1,6,41])) [0,1,6,41] EN)))))) [6] (sR [oO 65 (.build 53 #[]),sT 53 6 65,aB 7 false] [6,7] (.ret))))
theorem PV:BP Tryz.prog 49 66 [(.cell 6 53),(.tmp 7)] J7:=AP Tryz.func49
def HG:CC:=sR [oO 6 (.assign (.const (.string { data:=#[] }))),aB 7 false] [0,1,2] (sR [mO 9 1,bN 10 9 9,aO 8 10] [0,1,2,8] (sQ [mO 11 0,bN 12 11 9,mO 13 8,bQ .add 14 3 13 1 3,bB .lss 15 3 12 14 3,mO 16 15,mG 17 0 16 false,mG 18 8 16 false,oG 19 (.slice 9 (xT 17) none (some (xT 18)) none) 16 false,mG 20 1 16 false,oG 21 (bO .neq 9 19 20 9) 16 false,pT 22 16 21,mO 23 22,mG 24 0 23 false,mG 25 0 23 false,oG 26 (bL 25 9) 23 false,oG 27 (.binOp .sub 3 (xT 26) (nI 1) 3) 23 false,oG 28 (.index 9 (xT 24) (xT 27)) 23 false,mG 29 2 23 false,oG 30 (bO .neq 5 28 29 5) 23 false,pT 31 23 30] [0,8,31] (cD 31 (sR [oO 6 (.assign (.const (.string { data:=#[] }))),aB 7 false] [6,7] (.ret)) (.skip)) [0,8] (sR [mO 32 0,mO 33 8,mO 34 0,bN 35 34 9,bQ .sub 36 3 35 1 3,oO 37 (.slice 9 (xT 32) (some (xT 33)) (some (xT 36)) none),aO 6 37,aB 7 true] [6,7] (.ret))))
theorem Md:BP Tryz.prog 44 38 [(.tmp 6),(.tmp 7)] HG:=AP Tryz.func44
def BQ:CC:=sQ [mO 35 12,mO 36 10,bN 37 36 57,bB .lss 38 3 35 37 3,mO 39 38,mG 40 7 39 true,oG 41 (.binOp .neq 9 (xT 40) (.const (.string { data:=#[] })) 9) 39 true,pF 42 39 41] [1,4,6,7,8,10,11,12,42] (cD 42 (.skip) (.exit 0)) [1,4,6,7,8,10,11,12] (.seq (.block 1 (sR [mO 46 10,mO 47 12,iO 48 57 46 47,lO 49 9 48,cA 50 72 49 9,mO 45 50,xO 51 45 0,xO 52 45 1,aL 13 47 [2],sT 47 13 51,aO 14 52] [1,4,6,7,8,10,11,12,13,14] (sQ [mO 53 14,oO 54 (.unOp .not 4 (xT 53))] [1,4,6,7,8,10,11,12,13,54] (cD 54 (sR [lO 55 30 6,sT 30 4 55,aB 5 false] [4,5] (.ret)) (.skip)) [1,4,6,7,8,10,11,12,13] (.reg [fO 56 30 6 3,lO 57 26 56,lO 58 47 13,oO 59 (.buildSlice 26 1 #[(0,(xT 58))]),aP 60 57 59 26 26 [3],fO 61 30 6 3,sT 26 61 60] [1,4,6,7,8,10,11,12])))) (.keep [1,4,6,7,8,10,11,12] (.reg [mO 43 12,bQ .add 44 3 43 1 3,aO 12 44] [1,4,6,7,8,10,11,12])))
def BA:CC:=sQ [mO 62 15,mO 63 11,bN 64 63 57,bB .lss 65 3 62 64 3,mO 66 65,mG 67 8 66 true,oG 68 (.binOp .neq 9 (xT 67) (.const (.string { data:=#[] })) 9) 66 true,pF 69 66 68] [1,4,6,8,11,15,69] (cD 69 (.skip) (.exit 2)) [1,4,6,8,11,15] (.seq (.block 3 (sR [mO 73 11,mO 74 15,iO 75 57 73 74,lO 76 9 75,oO 77 (cL 45 #[(xT 76),(.const (.int .u8 58))] #[9,5]),mO 72 77,xO 78 72 0,xO 79 72 1,xO 80 72 2,aO 16 78,aO 17 79,aO 18 80] [1,4,6,8,11,15,16,17,18] (sR [mO 82 17,mO 83 1,bQ .sub 84 3 83 1 3,cB 85 29 82 84 9 3,mO 81 85,xO 86 81 0,xO 87 81 1,aL 19 30 [4],sT 30 19 86,aO 20 87] [1,4,6,8,11,15,16,18,19,20] (sQ [mO 88 18,oO 89 (.unOp .not 4 (xT 88)),mO 90 89,mG 91 20 90 false,oG 92 (.unOp .not 4 (xT 91)) 90 false,pT 93 90 92,mO 94 93,mG 95 16 94 false,oG 96 (cL 73 #[(xT 95)] #[9]) 94 false,oG 97 (.binOp .lss 3 (xT 96) (nI 0) 3) 94 false,pT 98 94 97] [1,4,6,8,11,15,16,19,98] (cD 98 (sR [lO 99 30 6,sT 30 4 99,aB 5 false] [4,5] (.ret)) (.skip)) [1,4,6,8,11,15,16,19] (.reg [fO 100 30 6 4,lS 101 27 100 1,mO 102 16,⟨some 103,(cL 73 #[(xT 102)] #[9]),none,[],3,[1],true⟩,⟨some 104,(lD 30 19),none,[],4,[3],false⟩,oO 105 (.build 50 #[(0,(xT 103)),(1,(xT 104))]),⟨some 106,(.buildSlice 27 1 #[(0,(xT 105))]),none,[],6,[1],false⟩,aP 107 101 106 27 27 [5],fO 108 30 6 4,sT 27 108 107] [1,4,6,8,11,15]))))) (.keep [1,4,6,8,11,15] (.reg [mO 70 15,bQ .add 71 3 70 1 3,aO 15 71] [1,4,6,8,11,15]))) 
def GP:CC:=sR [aL 4 30 [0],aB 5 false] [0,1,4] (sR [oO 21 (.build 30 #[(0,(nI 2))]),aL 6 30 [1],sT 30 6 21] [0,1,4,6] (sR [mO 23 0,oO 24 (cL 45 #[(xT 23),(.const (.int .u8 124))] #[9,5]),mO 22 24,xO 25 22 0,xO 26 22 1,xO 27 22 2,aO 7 25,aO 8 26,aO 9 27] [1,4,6,7,8,9] (sQ [mO 28 9,oO 29 (.unOp .not 4 (xT 28))] [1,4,6,7,8,29] (cD 29 (sR [lO 30 30 6,sT 30 4 30,aB 5 false] [4,5] (.ret)) (.skip)) [1,4,6,7,8] (sR [mO 31 7,cA 32 48 31 9,mO 33 8,cA 34 48 33 9,aO 10 32,aO 11 34] [1,4,6,7,8,10,11] (sQ [aI 12 0] [1,4,6,7,8,10,11,12] (.block 0 (.loop BQ)) [1,4,6,8,11] (sQ [aI 15 0] [1,4,6,8,11,15] (.block 2 (.loop BA)) [4,6] (sR [lO 109 30 6,sT 30 4 109,aB 5 true] [4,5] (.ret))))))))
theorem Kp:BP Tryz.prog 47 110 [(.cell 4 30),(.tmp 5)] GP:=AP Tryz.func47
def Cn:CC:=sQ [mO 95 22,mO 96 21,bN 97 96 57,bB .lss 98 3 95 97 3,mO 99 98,mG 100 18 99 true,oG 101 (.binOp .neq 9 (xT 100) (.const (.string { data:=#[] })) 9) 99 true,pF 102 99 101] [1,4,17,18,20,21,22,102] (cD 102 (.skip) (.exit 2)) [1,4,17,18,20,21,22] (.seq (.block 3 (sR [mO 106 21,mO 107 22,iO 108 57 106 107,lO 109 9 108,mO 110 17,mO 111 1,cE 112 49 109 110 111 9 3 3,mO 105 112,xO 113 105 0,xO 114 105 1,aL 23 53 [4],sT 53 23 113,aO 24 114] [1,4,17,18,20,21,22,23,24] (sQ [mO 115 24,oO 116 (.unOp .not 4 (xT 115))] [1,4,17,18,20,21,22,23,116] (cD 116 (sR [lO 117 30 20,sT 30 4 117,aB 5 false] [4,5] (.ret)) (.skip)) [1,4,17,18,20,21,22,23] (.reg [fO 118 30 20 6,lO 119 28 118,lO 120 53 23,oO 121 (.buildSlice 28 1 #[(0,(xT 120))]),aP 122 119 121 28 28 [5],fO 123 30 20 6,sT 28 123 122] [1,4,17,18,20,21,22])))) (.keep [1,4,17,18,20,21,22] (.reg [mO 103 22,bQ .add 104 3 103 1 3,aO 22 104] [1,4,17,18,20,21,22])))
def DR:CC:=sQ [mO 74 17,bQ .lss 75 3 74 10 3] [0,1,4,17,75] (cD 75 (.skip) (.exit 0)) [0,1,4,17] (.seq (.block 1 (sR [mO 79 0,mO 80 17,mO 81 17,bQ .add 82 3 81 1 3,oO 83 (.slice 9 (.const (.string { data:=#[46,46,118,98,121,116,102,101,112,99] })) (some (xT 80)) (some (xT 82)) none),oO 84 (.binOp .add 9 (.const (.string { data:=#[108] })) (xT 83) 9),oO 85 (.binOp .add 9 (xT 84) (.const (.string { data:=#[91] })) 9),oO 86 (cL 44 #[(xT 79),(xT 85),(.const (.int .u8 93))] #[9,9,5]),mO 78 86,xO 87 78 0,xO 88 78 1,aO 18 87,aO 19 88] [0,1,4,17,18,19] (sQ [mO 89 19,oO 90 (.unOp .not 4 (xT 89))] [0,1,4,17,18,90] (cD 90 (.exit 1) (.skip)) [1,4,17,18] (sR [mO 91 17,oO 92 (.build 30 #[(0,(nI 3)),(5,(xT 91))]),aL 20 30 [3],sT 30 20 92] [1,4,17,18,20] (sR [mO 93 18,cA 94 48 93 9,aO 21 94] [1,4,17,18,20,21] (sQ [aI 22 0] [1,4,17,18,20,21,22] (.block 2 (.loop Cn)) [4,20] (sR [lO 124 30 20,sT 30 4 124,aB 5 true] [4,5] (.ret)))))))) (.keep [0,1,4,17] (.reg [mO 76 17,bQ .add 77 3 76 1 3,aO 17 77] [0,1,4,17]))) 
def F2:CC:=sR [aL 4 30 [0],aB 5 false] [0,1,4] (sQ [mO 25 1,bQ .eql 26 3 25 0 3] [0,1,4,26] (cD 26 (sR [oO 27 (.build 30 #[]),sT 30 4 27,aB 5 false] [4,5] (.ret)) (.skip)) [0,1,4] (sQ [mO 28 0,oO 29 (.binOp .eql 9 (xT 28) (.const (.string { data:=#[61] })) 9)] [0,1,4,29] (cD 29 (sR [oO 30 (.build 30 #[]),sT 30 4 30,aB 5 true] [4,5] (.ret)) (.skip)) [0,1,4] (sQ [mO 32 0,oO 33 (.call { callee:=(.value (.func 44)),args:=#[(xT 32),(.const (.string { data:=#[40] })),(.const (.int .u8 41))],argTypes:=#[9,9,5] }),mO 31 33,xO 34 31 0,xO 35 31 1,aO 6 34,aO 7 35] [0,1,4,6,7] (sR [mO 36 7] [0,1,4,6,36] (cD 36 (sR [mO 38 6,oO 39 (cL 45 #[(xT 38),(.const (.int .u8 62))] #[9,5]),mO 37 39,xO 40 37 0,xO 41 37 1,xO 42 37 2,aO 8 40,aO 9 41,aO 10 42] [4,8,9,10] (sR [mO 44 8,cA 45 46 44 9,mO 43 45,xO 46 43 0,xO 47 43 1,aL 11 25 [1],sT 25 11 46,aO 12 47] [4,9,10,11,12] (sR [mO 49 9,cA 50 46 49 9,mO 48 50,xO 51 48 0,xO 52 48 1,aL 13 25 [2],sT 25 13 51,aO 14 52] [4,10,11,12,13,14] (sR [lO 53 25 11,lO 54 25 13,oO 55 (.build 30 #[(0,(nI 1)),(1,(xT 53)),(2,(xT 54))]),mO 56 10,mO 57 56,mG 58 12 57 true,pF 59 57 58,mO 60 59,mG 61 14 60 true,pF 62 60 61,sT 30 4 55,aO 5 62] [4,5] (.ret))))) (.skip))) [0,1,4] (sQ [mO 64 0,oO 65 (.call { callee:=(.value (.func 44)),args:=#[(xT 64),(.const (.string { data:=#[115,123] })),(.const (.int .u8 125))],argTypes:=#[9,9,5] }),mO 63 65,xO 66 63 0,xO 67 63 1,aO 15 66,aO 16 67] [0,1,4,15,16] (sR [mO 68 16] [0,1,4,15,68] (cD 68 (sR [mO 69 15,mO 70 1,cB 71 47 69 70 9 3,xO 72 71 0,xO 73 71 1,sT 30 4 72,aO 5 73] [4,5] (.ret)) (.skip))) [0,1,4] (sQ [aI 17 2] [0,1,4,17] (.block 0 (.loop DR)) [4] (sR [oO 125 (.build 30 #[]),sT 30 4 125,aB 5 false] [4,5] (.ret)))))))
theorem Iu:BP Tryz.prog 29 126 [(.cell 4 30),(.tmp 5)] F2:=AP Tryz.func29
def HM:CC:=sR [aL 2 30 [0],aB 3 false] [0,2] (sR [mO 7 0,oO 8 (cL 29 #[(xT 7),(nI 64)] #[9,3]),mO 6 8,xO 9 6 0,xO 10 6 1,aL 4 30 [1],sT 30 4 9,aO 5 10] [0,2,4,5] (sQ [mO 11 5,oO 12 (.unOp .not 4 (xT 11)),mO 13 12,lG 14 30 4 13 false,oG 15 (cL 6 #[(xT 14),(nI 64)] #[30,3]) 13 false,oG 16 (.unOp .not 4 (xT 15)) 13 false,pT 17 13 16,mO 18 17,lG 19 30 4 18 false,oG 20 (cL 10 #[(xT 19)] #[30]) 18 false,mG 21 0 18 false,oG 22 (bO .neq 9 20 21 9) 18 false,pT 23 18 22] [2,4,23] (cD 23 (sR [oO 24 (.build 30 #[]),sT 30 2 24,aB 3 false] [2,3] (.ret)) (.skip)) [2,4] (sR [lO 25 30 4,sT 30 2 25,aB 3 true] [2,3] (.ret))))
theorem MF:BP Tryz.prog 12 26 [(.cell 2 30),(.tmp 3)] HM:=AP Tryz.func12
def HC:CC:=sR [aB 0 false] [] (sR [oO 4 (.call { callee:=(.value (.func 9)),args:=#[(.const (.string { data:=#[108,121,91,107,50,44,45,121,91,53,93,44,43,121,91,54,44,55,93,93] }))],argTypes:=#[9] }),mO 3 4,xO 5 3 0,xO 6 3 1,aL 1 30 [0],sT 30 1 5,aO 2 6] [1,2] (sR [mO 7 2,bQ .eql 8 35 7 0 35,mO 9 8,fG 10 30 1 0 9 true,lG 11 3 10 9 true,oG 12 (.binOp .eql 3 (xT 11) (nI 3) 3) 9 true,pF 13 9 12,mO 14 13,fG 15 30 1 5 14 true,lG 16 3 15 14 true,oG 17 (.binOp .eql 3 (xT 16) (nI 4) 3) 14 true,pF 18 14 17,mO 19 18,fG 20 30 1 6 19 true,lG 21 28 20 19 true,oG 22 (bL 21 28) 19 true,oG 23 (.binOp .eql 3 (xT 22) (nI 3) 3) 19 true,pF 24 19 23,mO 25 24,fG 26 30 1 6 25 true,lG 27 28 26 25 true,oG 28 (.indexAddr 28 (xT 27) (nI 0)) 25 true,fG 29 53 28 1 25 true,lG 30 3 29 25 true,oG 31 (.binOp .eql 3 (xT 30) (nI 2) 3) 25 true,pF 32 25 31,mO 33 32,fG 34 30 1 6 33 true,lG 35 28 34 33 true,oG 36 (.indexAddr 28 (xT 35) (nI 2)) 33 true,fG 37 53 36 2 33 true,lG 38 23 37 33 true,oG 39 (bL 38 23) 33 true,oG 40 (.binOp .eql 3 (xT 39) (nI 2) 3) 33 true,pF 41 33 40,mO 42 41,lG 43 30 1 42 true,oG 44 (cL 8 #[(xT 43)] #[30]) 42 true,oG 45 (.binOp .eql 9 (xT 44) (.const (.string { data:=#[108,121,91,107,50,44,45,121,91,53,93,44,43,121,91,54,44,55,93,93] })) 9) 42 true,pF 46 42 45,aO 0 46] [0] (.ret)))
theorem L6:BP Tryz.prog 7 47 [(.tmp 0)] HC:=AP Tryz.func7
def Fc:CC:=sR [bX 1 30 0 [0],aB 2 false] [1] (sQ [lO 6 30 1,cA 7 5 6 30,oO 8 (.unOp .not 4 (xT 7)),mO 9 8,lG 10 30 1 9 false,oG 11 (cL 6 #[(xT 10),(nI 64)] #[30,3]) 9 false,oG 12 (.unOp .not 4 (xT 11)) 9 false,pT 13 9 12] [1,13] (cD 13 (sR [oO 14 (cL 7 #[] #[]),aO 2 14] [2] (.ret)) (.skip)) [1] (sR [lO 15 30 1,cA 16 8 15 30,aO 3 16] [1,3] (sR [mO 18 3,cA 19 9 18 9,mO 17 19,xO 20 17 0,xO 21 17 1,aL 4 30 [1],sT 30 4 20,aO 5 21] [1,3,4,5] (sR [mO 22 3,lO 23 30 1,cA 24 10 23 30,bB .eql 25 9 22 24 9,mO 26 25,mG 27 5 26 true,oG 28 (.binOp .eql 35 (xT 27) (nI 0) 35) 26 true,pF 29 26 28,mO 30 29,lG 31 30 1 30 true,lG 32 30 4 30 true,oG 33 (cL 11 #[(xT 31),(xT 32)] #[30,30]) 30 true,pF 34 30 33,mO 35 34,oG 36 (cL 7 #[] #[]) 35 true,pF 37 35 36,aO 2 37] [2] (.ret)))))
theorem IP:BP Tryz.prog 3 38 [(.tmp 2)] Fc:=AP Tryz.func3
def Cw:CC:=sR [mO 13 0,cA 14 9 13 9,mO 12 14,xO 15 12 0,xO 16 12 1,aL 3 30 [0],sT 30 3 15,aO 4 16] [0,3,4] (sR [mO 18 0,cA 19 12 18 9,mO 17 19,xO 20 17 0,xO 21 17 1,aL 5 30 [1],sT 30 5 20,aO 6 21] [0,3,4,5,6] (sQ [mO 22 6,mO 23 4,bQ .eql 24 35 23 0 35,bB .neq 25 4 22 24 4,mO 26 25,mG 27 6 26 false,oG 28 (.unOp .not 4 (xT 27)) 26 false,mG 29 28 26 false,mG 30 4 29 true,oG 31 (.binOp .neq 35 (xT 30) (nI 11) 35) 29 true,oG 32 (.pick (xT 29) (xT 31) (nB false)) 26 false,pT 33 26 32,mO 34 33,lG 35 30 3 34 false,lG 36 30 5 34 false,oG 37 (cL 11 #[(xT 35),(xT 36)] #[30,30]) 34 false,oG 38 (.unOp .not 4 (xT 37)) 34 false,pT 39 34 38] [0,3,6,39] (cD 39 (sR [aB 2 false] [2] (.ret)) (.skip)) [0,3,6] (sR [mO 40 6,oO 41 (.unOp .not 4 (xT 40)),mO 42 41,lG 43 30 3 42 false,oG 44 (cL 8 #[(xT 43)] #[30]) 42 false,mG 45 0 42 false,oG 46 (bO .eql 9 44 45 9) 42 false,pT 47 42 46,mO 48 47,oG 49 (cL 7 #[] #[]) 48 true,pF 50 48 49,aO 2 50] [2] (.ret)))) 
def E3:CC:=sR [aB 2 false] [0] (sQ [mO 7 0,bN 8 7 9,bQ .gtr 9 3 8 800 3] [0,9] (cD 9 (.reg [mO 10 0,oO 11 (.slice 9 (xT 10) none (some (nI 800)) none),aO 0 11] [0]) (.skip)) [0] Cw)
theorem IL:BP Tryz.prog 4 51 [(.tmp 2)] E3:=AP Tryz.func4
end Go.Proofs.YtebihdhapepejaaGreatDoor
namespace Go.G
open Go.RowKit
def Fam.dead:Fam:=⟨fun _ p=>if p=[] then ⟨1,.cells [.any]⟩ else ⟨0,.none⟩,fun {g δ r r'} h1 h2 p=>by
 by_cases hp:p=[]
 ·subst hp;simp[VOb.ren,Ob.ren,A.renL,A.ren]
 ·rw[if_neg hp];rfl,fun {D r} h p=>by
 by_cases hp:p=[]
 ·subst hp;simp[Ob.refs,A.refsL,A.refs]
 ·rw[if_neg hp];trivial⟩
theorem A5 {r:Nat}:Fam.dead.F r []=⟨1,.cells [.any]⟩:=rfl
theorem AK {c:Cx} {s:Nat→A} {H:Hp} (r:Nat) (h:H [r]=⟨1,.cells [.any]⟩):bn c ⟨s,H⟩:=fun a w I μ hs=>by
 have:=hs.sim.ob [r];rw[show(⟨s,H⟩:Sta).H=H from rfl,h] at this;obtain⟨vs,_,_,h3⟩:=this;have:=(h3 0 .any rfl).1;cases this
structure Ye (dt:TypeId) (P:Program) (f:FuncId) (as':Nat→List A) (F:Fam):Prop where
 fa:FamL as'
 h:bD dt P f (as' 0) (ov 0 (F.F 0) (Dl []))
def Ow (dt:TypeId) (P:Program) (f:FuncId) (as':Nat→List A) (F:Fam):Option ((Nat→A) × Fam)→Prop
 |some o=>FK P f as' F o.1 o.2
 |none=>Ye dt P f as' F
def Ix (c:Cx) (rs:List ResultVar):Option ((Nat→A) × Fam)→Exit→Sta→Prop
 |some o=>KN c rs 1 (o.1 0) (ov 0 (o.2.F 0) (Dl []))
 |none=>gv c
theorem I8 {dt:TypeId} {P:Program} {f:FuncId} {n:Nat} {rs:List ResultVar} {cc:CC} {as':Nat→List A} {F:Fam} {o:Option ((Nat→A) × Fam)} (t:BP P f n rs cc) (ha:(as' 0).length≤n) (h0:FamL as') (h1:∀ q,o=some q→Gb q.1)
  (h:∀ w0 I0 M0 m0,(∀ r p b,1≤r→¬ M0 (r::p) b)→WPC (PN dt (o=none) P w0 I0 M0 n m0) cc (Ix (PN dt (o=none) P w0 I0 M0 n m0) rs o) ⟨JN (as' 0),ov 0 (F.F 0) (Dl [])⟩):Ow dt P f as' F o:=by
 have hM:∀ {M0:Nm→Nat→Prop},(∀ (o:Nm) (b:Nat),((ov 0 (F.F 0) (Dl []):Hp) o).ob = .none→¬ M0 o b)→∀ r p b,1≤r→¬ M0 (r::p) b:=fun hM r p b hr=>hM (r::p) b (by
  simp only[JB];rw[if_neg (by omega)];rfl)
 cases o with
 |none=>
  refine⟨h0,cC t ha fun w0 I0 M0 m0 hN=>?_⟩;have:=h w0 I0 M0 m0 (hM hN);rw[show((none:Option ((Nat→A) × Fam))=none)=True from eq_true rfl] at this;exact this
 |some q=>
  refine⟨h0,h1 q rfl,ZR (dt:=dt) t ha fun w0 I0 M0 m0 hN=>?_⟩;have:=h w0 I0 M0 m0 (hM hN);rw[show(some q=none)=False from eq_false (fun e=>nomatch e)] at this;exact this
theorem M3 {dt:TypeId} {P:Program} {f:FuncId} {n:Nat} {rs:List ResultVar} {cc:CC} {as':Nat→List A} {F:Fam} {o:Option ((Nat→A) × Fam)} (t:BP P f n rs cc) (ha:(as' 0).length≤n) (h0:FamL as') (h1:∀ q,o=some q→Gb q.1)
  (h:∀ w0 I0 M0 m0,WPC (PN dt (o=none) P w0 I0 M0 n m0) cc (Ix (PN dt (o=none) P w0 I0 M0 n m0) rs o) ⟨JN (as' 0),ov 0 (F.F 0) (Dl [])⟩):Ow dt P f as' F o:=I8 t ha h0 h1 fun w0 I0 M0 m0 _=>h w0 I0 M0 m0
section
variable {P:Program} {K:PU} {rest:List CO} {s:Nat→A} {H:Hp} {dd:Option Nat} {nm:Nm} {ix:Nat} {un:List Nat} {l:Bool} {lg:Lg} {g:FuncId} {aa:Array Operand} {ts:Array TypeId}
theorem AL {dt:TypeId} {as':Nat→List A} {F:Fam} (x:A) (r:Nat) (hS:Ye dt P g as' F) (hD:K.D dt) (hF:∀ p,H (r::p)=F.F r p) (ha:aa.toList.map (evs s)=as' r) (hck:Ck un lg ⟨[],[([r],true)]⟩)
  (h:AD P K rest (BJ l ix ⟨[],[([r],true)]⟩ lg) (Sta.put ⟨s,H⟩ dd x (ov r (Fam.dead.F r) H))) :
  AD P K (⟨dd,.call { callee:=.value (.func g),args:=aa,argTypes:=ts },none,nm,ix,un,l⟩::rest) lg ⟨s,H⟩:=by
 have hE:(Eff.fn [r] (ov r (Fam.dead.F r) H)).app H=ov r (Fam.dead.F r) H:=by
  funext o;cases o with
  |nil=>rfl
  |cons j p=>
   by_cases hj:j=r
   ·subst hj;simp[Eff.app]
   ·simp[Eff.app,hj]
 rw[← hE] at h;refine⟨x,Eff.fn [r] (ov r (Fam.dead.F r) H),⟨[],[([r],true)]⟩,⟨g,[],[],rfl,.inr ⟨fun H2 hag=>?_,fun o H2 ho=>?_⟩⟩,hck,h⟩
 ·have ag:∀ p,H2 (r::p)=H (r::p):=fun p=>hag _ (by simp[Vf,RJ,List.isPrefixOf]);have hF2:∀ p,H2 (r::p)=F.F r p:=fun p=>(ag p).trans (hF p);have hH:=Xl hF2;have hcl:=ME hF2;have ha':aa.toList.map (evs s)=as' r:=ha;have e1:A.renL (Wg [r]) (fun _=>0) (as' r)=as' 0:=hS.fa.ren (fun q=>by simp[Wg]) (fun _=>rfl);have e2:A.refsL (XQ [r] 1) (as' r):=hS.fa.refs (fun q=>by simp[XQ]);have:=VS (dt:=dt) (P:=P) (f:=g) (rs:=[r]) (m:=1) (args:=as' r) (Hc:=ov 0 (F.F 0) (Dl [])) (H:=H2) (by simp) (by simp) (by rw[e1];exact hS.h)
   (fun i p hi=>by
    have:i=0:=by omega
    subst this;rw[← hH];simp only[R1,if_pos hi])
   (fun i p hi=>by rw[← hH];simp only[R1];rw[if_neg (by omega)]) (by rw[← hH];rfl) e2
   (fun i p hi=>by
    have:i=0:=by omega
    subst this;exact hcl _ _ (by simp)) (x:=x) (E:=Eff.fn [r] (ov r (Fam.dead.F r) H))
  simp only[List.nil_append,List.append_nil,ha'];exact⟨this.1,fun c w I μ vs hP hs hl hr=>(this.2 c w I μ vs hP hs hl hr).mono fun e w' hh=>hh.imp id fun ⟨t,ht,k⟩=>⟨t,by rw[show t=dt from ht];exact hD,k⟩⟩
 ·cases o with
  |nil=>rfl
  |cons j p=>
   have:¬ j=r:=fun hj=>by subst hj;simp[Vf,RJ,List.isPrefixOf] at ho
   simp[Eff.app,this]
end
end Go.G
namespace Go.PL
theorem VY {t:T} (h:Cv t=true):t=T0:=by
 obtain⟨k,w,l⟩:=t;simp[Cv] at h;obtain⟨⟨h1,rfl⟩,rfl⟩:=h;rw[of_decide_eq_true h1]
theorem V8 {d:Nat} {k:Int} {o n:T} {nw nk:Nat} {l:Int} {no:Nat} (h:¬ Ch d k o n nw nk l no=false):d ≠ 0∧0≤k∧k≤3∧(k ≠ 1→o=T0∧n=T0)∧(k ≠ 2→nw=0∧nk=0)∧(k ≠ 3→l=0∧no=0):=by
 have h:Ch d k o n nw nk l no=true:=by simpa using h
 unfold Ch at h;simp only[Bool.and_eq_true,Bool.not_eq_true',Bool.or_eq_false_iff,Bool.and_eq_false_iff,decide_eq_false_iff_not,decide_eq_true_eq,Bool.not_eq_false'] at h;obtain⟨⟨⟨a,b⟩,c⟩,⟨d1,e⟩,f⟩:=h;refine⟨a,by omega,by omega,fun h1=>?_,fun h2=>?_,fun h3=>?_⟩
 ·rcases d1 with d1 | d1
  ·exact absurd d1 h1
  ·exact⟨VY d1.1,VY d1.2⟩
 ·rcases e with e | e
  ·exact absurd e h2
  ·omega
 ·rcases f with f | f
  ·exact absurd f h3
  ·exact⟨f.1,by omega⟩
def UZ (ws:List WE):Prop:=∀ w,w ∈ ws→0≤w.mask∧w.mask<256
mutual
def Gf:T→Int
 |.mk _ w l=>1+w.length+Gh l
def Gh:List T→Int
 |[]=>0
 |t::l=>Gf t+Gh l
end
@[simp] theorem Zv (k:Int) (w:List Int) (l:List T):Gf (.mk k w l)=1+w.length+Gh l:=by rw[Gf]
@[simp] theorem hZ:Gh []=0:=by rw[Gh]
@[simp] theorem VV (t:T) (l:List T):Gh (t::l)=Gf t+Gh l:=by rw[Gh]
theorem Rq {l:List T} (h:∀ t,t ∈ l→1≤Gf t):(l.length:Int)≤Gh l:=by
 induction l with
 |nil=>simp
 |cons t l ih=>
  have:=h t (by simp);have:=ih fun u hu=>h u (by simp[hu]);simp;omega
theorem HA:∀ t:T,1≤Gf t:=by
 refine T.ind fun k w l ih=>?_;have:=Rq ih;simp;omega
theorem WR (l:List T):(l.length:Int)≤Gh l:=Rq fun t _=>HA t
theorem IM:∀ (t:T) (d:Nat) (n:Int),0≤AV d n t→Gf t≤n-AV d n t:=by
 refine T.ind fun k w l ih d n h=>?_;have hl:∀ (m:List T) (d:Nat) (n:Int),(∀ t,t ∈ m→t ∈ l)→0≤AJ d n m→Gh m≤n-AJ d n m:=by
  intro m;induction m with
  |nil=>intro d n _ _;simp
  |cons t m ihm=>
   intro d n hin h;rw[D1] at h ⊢;split at h
   ·omega
   ·rename_i hc;rw[if_neg hc];have h1:=ihm d (AV d n t) (fun u hu=>hin u (by simp[hu])) h;have h3:0≤AV d n t:=by
     cases m with
     |nil=>simpa using h
     |cons u m=>
      rw[D1] at h;split at h<;>omega
    have:=ih t (hin t (by simp)) d n h3;simp;omega
 rw[Mr] at h ⊢;split at h
 ·omega
 rename_i hc;rw[if_neg hc];have:=hl l (d-1) _ (fun t ht=>ht) h;simp;omega
theorem KH:∀ (m:List T) (d:Nat) (n:Int),0≤AJ d n m→Gh m≤n-AJ d n m∧0≤n
 |[],d,n,h=>by simp at h ⊢; exact h
 |t::m,d,n,h=>by
  rw[D1] at h ⊢;split at h
  ·omega
  ·rename_i hc;rw[if_neg hc];obtain⟨h1,h2⟩:=KH m d _ h;have:=IM t d n h2;simp;omega
theorem RH {α:Type} (f:α→List UInt8) (g:α→Int):∀ (l:List α),(∀ x,x ∈ l→((f x).length:Int)+1≤g x)→((Ag (l.map f)).length:Int)≤(l.map g).sum
 |[],_=>by simp
 |[x],h=>by have:=h x (by simp);simp;omega
 |x::y::l,h=>by
  have h1:=h x (by simp);have h2:=RH f g (y::l) (fun z hz=>h z (by simp[List.mem_cons] at hz ⊢; exact .inr hz));have e1:Ag ((x::y::l).map f)=f x++44::Ag ((y::l).map f):=by rw[List.map_cons,DL (by simp)]
  have e2:((x::y::l).map g).sum=g x+((y::l).map g).sum:=by rw[List.map_cons,List.sum_cons]
  rw[e1,e2];simp only[List.length_append,List.length_cons];omega
theorem Qo:∀ l:List T,(l.map fun t=>20*Gf t).sum=20*Gh l
 |[]=>by simp
 |t::l=>by
  rw[List.map_cons,List.sum_cons,Qo l,VV];omega
theorem VU:∀ w:List Int,(w.map fun _=>(17:Int)).sum=17*w.length
 |[]=>by simp
 |x::w=>by
  rw[List.map_cons,List.sum_cons,VU w,List.length_cons];omega
theorem Zd:∀ (t:T) (D:T→Prop),(∀ k w l,D (.mk k w l)→(∀ x,x ∈ w→x<18446744073709551616)∧∀ c,c ∈ l→D c)→D t→((Ah t).length:Int)+1≤20*Gf t:=by
 refine T.ind fun k w l ih D hD ht=>?_;obtain⟨h1,h2⟩:=hD k w l ht;have hk:=RH Ah (fun t=>20*Gf t) l (fun c hc=>ih c hc D hD (h2 c hc));rw[Qo] at hk;have hx:∀ x:Int,x<18446744073709551616→(Am x.toNat).length≤16:=fun x hx=>Jb 16 _ (by omega) (by omega);have hw:=RH (fun x:Int=>Am x.toNat) (fun _=>17) w (fun x hx'=>by have:=hx x (h1 x hx');omega);rw[VU] at hw;have hp:=WR l;rw[AO,Zv];split
 ·rename_i h;have:(Am (w.headD 0).toNat).length≤16:=by
   cases w with
   |nil=>exact hx 0 (by omega)
   |cons x w=>exact hx x (h1 x (by simp))
  omega
 ·split
  ·split
   ·simp;omega
   ·simp only[List.length_cons,List.length_append,List.length_nil];omega
  ·split
   ·simp only[List.length_cons,List.length_append,List.length_nil];omega
   ·simp;omega
end Go.PL
namespace Go.Proofs.YtebihdhapepejaaGreatDoor
open Go Go.G Go.Proofs Go.PL
abbrev NT:TypeId:=80
set_option maxHeartbeats 1000000 in
theorem df (w:World):Calls Tryz.prog 60 #[] w fun e w'=>e = .panicked [L1 NT]∧w'=w:=by
 go_enter Tryz.func60,Tryz.ntmps60
 go_wp2
 rw[show(Sem.run Tryz.prog (Instr.panic (Value.iface 80 (Value.agg #[]))) w) = .halt (.panic (Value.iface 80 (Value.agg #[]))) w from rfl];exact⟨rfl,rfl,rfl⟩
theorem C6 (F:Fam):Ye NT Tryz.prog 60 (fun _=>[]) F:=
 ⟨Ay,by kernel_rfl,fun w I M0 n μ vs _ _ hl _=>by
  have:vs = #[]:=by
   apply Array.eq_empty_of_size_eq_zero;simpa using hl
  subst this;exact(df w).mono fun e w' ⟨h1,h2⟩=>⟨h1,by subst h2;exact⟨rfl,rfl,rfl,Fa _,fun _ _ _=>rfl⟩⟩⟩
theorem Dz (s:List UInt8) (k:Nat) (hk:k≤s.length):FK Tryz.prog 80 (fun r=>[pp r]) (CW s k) (fun _=>Gy (Ey (s.drop k))) (CW s k):=by
 refine C5 Un (by simp) (Ak A8 Ay) Bi fun w0 I0 M0 m0=>?_;unfold NI;by_cases h:k=s.length
 ·subst h;rw[M5];simp;exact Bh rfl rfl (fun p=>by simp)
 ·have hlt:k<s.length:=by omega
  rw[Gp hlt];simp[show ¬ (s.length:Int)≤k by omega,show ¬ s.length≤k by omega,hlt];exact Bh rfl rfl (fun p=>by simp)
theorem Lq (s:List UInt8) (k:Nat) (c:UInt8) (hk:k≤s.length) (hs:s.length≤1000000000) (hc:c ≠ 0):FK Tryz.prog 61 (fun r=>[pp r,Gy c]) (CW s k) (fun _=>bv (A1 (s.drop k) c)) (CW s (k+one (A1 (s.drop k) c))):=by
 refine C5 V7 (by simp) (Ak A8 (Ak Bi Ay)) Bi fun w0 I0 M0 m0=>?_;unfold OV;have hn:=Dz s k hk;rcases Cj s k c hk with ⟨h1,h2,h3⟩ | ⟨h1,h2⟩
 ·rw[h1];rw[h3] at hn;have e1:=A7 k;simp;refine Al 0 hn (fun p=>by simp) (by simp) (by simp) ?_;simp[e1];exact Bh rfl rfl (fun p=>by by_cases hp:p=[]<;>simp[hp,Aa])
 ·rw[h1];have h3:Ey (s.drop k) ≠ c:=by
   rcases h2 with rfl | h2
   ·rw[M5];exact fun e=>hc e.symm
   ·exact h2
  have h4:¬ ((Ey (s.drop k)).toNat:Int)=c.toNat:=fun e=>h3 (u8_inj.1 e);generalize Ey (s.drop k)=x at hn h4;simp;refine Al 0 hn (fun p=>by simp) (by simp) (by simp) ?_;simp[h4];exact Bh rfl rfl (fun p=>by simp)
theorem V9:Gb (fun _=>A.tup []):=Cb Ay
def Nx (s:List UInt8) (k:Nat) (c:UInt8):Option ((Nat→A) × Fam):=if A1 (s.drop k) c=true then some (fun _=>.tup [],CW s (k+1)) else none
theorem S2 {s:List UInt8} {k:Nat} {c:UInt8}:∀ q,Nx s k c=some q→Gb q.1:=fun q h=>by
 unfold Nx at h;split at h
 ·cases h;exact V9
 ·cases h
theorem Sz (s:List UInt8) (k:Nat) (c:UInt8) (hk:k≤s.length) (hs:s.length≤1000000000) (hc:c ≠ 0):Ow NT Tryz.prog 63 (fun r=>[pp r,Gy c]) (CW s k) (Nx s k c):=by
 refine M3 TU (by simp) (Ak A8 (Ak Bi Ay)) S2 fun w0 I0 M0 m0=>?_;unfold NL;have hn:=Lq s k c hk hs hc;unfold Nx;cases h:A1 (s.drop k) c with
 |true=>
  rw[h] at hn;simp;refine Al 0 hn (fun p=>by simp) (by simp) (by simp) ?_;simp[Ix];exact D0 rfl rfl (fun p=>by simp)
 |false=>
  rw[h] at hn;simp;refine Al 0 hn (fun p=>by simp) (by simp) (by simp) ?_;simp;refine AL (.tup []) 0 (C6 (CW s k)) ⟨rfl,by simp⟩ (fun p=>by simp) (by simp) (by simp) ?_;simp[Ix];exact AK 0 (by simp[A5])
def N5 (s:List UInt8) (k n:Nat):Option ((Nat→A) × Fam):=if n=0 then some (fun _=>.tup [],CW s k) else Nx s k 44
theorem Wv {s:List UInt8} {k n:Nat}:∀ q,N5 s k n=some q→Gb q.1:=fun q h=>by
 unfold N5 at h;split at h
 ·cases h;exact V9
 ·exact S2 q h
theorem WY (s:List UInt8) (k n:Nat) (hk:k≤s.length) (hs:s.length≤1000000000):Ow NT Tryz.prog 82 (fun r=>[pp r,iv n]) (CW s k) (N5 s k n):=by
 refine M3 Sd (by simp) (Ak A8 (Ak Bi Ay)) Wv fun w0 I0 M0 m0=>?_;unfold LI;have hn:=Sz s k 44 hk hs (by decide);unfold N5;by_cases h0:n=0
 ·subst h0;simp[Ix];exact D0 rfl rfl (fun p=>by simp)
 ·rw[if_neg h0];simp[show(0:Int)<n by omega,show 0<n by omega];cases h:Nx s k 44 with
  |none=>
   rw[h] at hn;refine AL (.tup []) 0 hn ⟨rfl,by simp⟩ (fun p=>by simp) (by simp) (by simp) ?_;simp[Ix];exact AK 0 (by simp[A5])
  |some q=>
   rw[h] at hn;have hq:q=(fun _=>.tup [],CW s (k+1)):=by
    unfold Nx at h;split at h
    ·exact(Option.some.inj h).symm
    ·cases h
   subst hq;refine Al 0 hn (fun p=>by simp) (by simp) (by simp) ?_;simp[Ix];exact D0 rfl rfl (fun p=>by simp)
end Go.Proofs.YtebihdhapepejaaGreatDoor
namespace Go.Proofs
open Go.Shelf
def Tryz.lays156_ren:Go.Shelf.Ren:=⟨fun | 156=>20 | 165=>36 | 166=>37 | 169=>35 | 240=>57 | 241=>58 | 276=>74 | 277=>75 | n=>n,fun | 31=>57 | 9=>9 | 3=>3 | 4=>4 | 0=>0 | 20=>20 | 72=>70 | 76=>76 | 70=>67 | 37=>68 | 75=>75 | 127=>105 | 164=>116 | 5=>5 | 80=>72 | n=>n,fun | n=>n⟩
theorem Tryz.lays156:Go.Proofs.Lays.n156 Tryz.prog Tryz.lays156_ren:={
 mixed:=by kernel_rfl
 f156:=Tryz.func20.trans (congrArg some (by kernel_rfl))
 f165:=Tryz.func36.trans (congrArg some (by kernel_rfl))
 f166:=Tryz.func37.trans (congrArg some (by kernel_rfl))
 f169:=Tryz.func35.trans (congrArg some (by kernel_rfl))
 f240:=Tryz.func57.trans (congrArg some (by kernel_rfl))
 f241:=Tryz.func58.trans (congrArg some (by kernel_rfl))
 f276:=Tryz.func74.trans (congrArg some (by kernel_rfl))
 f277:=Tryz.func75.trans (congrArg some (by kernel_rfl))
 t0:=Tryz.underlying0
 a0:=Tryz.isAgg0
 z0:=Tryz.sizeOf0
 v0:=Tryz.zeroValue0
 t3:=Tryz.underlying3
 a3:=Tryz.isAgg3
 z3:=Tryz.sizeOf3
 v3:=Tryz.zeroValue3
 t4:=Tryz.underlying4
 a4:=Tryz.isAgg4
 z4:=Tryz.sizeOf4
 v4:=Tryz.zeroValue4
 t9:=Tryz.underlying9
 a9:=Tryz.isAgg9
 z9:=Tryz.sizeOf9
 v9:=Tryz.zeroValue9
 t20:=Tryz.underlying20
 a20:=Tryz.isAgg20
 z20:=Tryz.sizeOf20
 v20:=Tryz.zeroValue20
 t31:=Tryz.underlying57
 a31:=Tryz.isAgg57
 z31:=Tryz.sizeOf57
 v31:=Tryz.zeroValue57
 t37:=Tryz.underlying68
 a37:=Tryz.isAgg68
 z37:=Tryz.sizeOf68
 v37:=Tryz.zeroValue68
 t70:=Tryz.underlying67
 a70:=Tryz.isAgg67
 z70:=Tryz.sizeOf67
 v70:=Tryz.zeroValue67
 t72:=Tryz.underlying70
 a72:=Tryz.isAgg70
 z72:=Tryz.sizeOf70
 v72:=Tryz.zeroValue70
 t75:=Tryz.underlying75
 a75:=Tryz.isAgg75
 z75:=Tryz.sizeOf75
 v75:=Tryz.zeroValue75
 t76:=Tryz.underlying76
 a76:=Tryz.isAgg76
 z76:=Tryz.sizeOf76
 v76:=Tryz.zeroValue76
 t127:=Tryz.underlying105
 a127:=Tryz.isAgg105
 z127:=Tryz.sizeOf105
 v127:=Tryz.zeroValue105
 t164:=Tryz.underlying116
 a164:=Tryz.isAgg116
 z164:=Tryz.sizeOf116
 v164:=Tryz.zeroValue116 }
theorem Tryz.Builder_Extra_156:Builder.Extra Tryz.prog Tryz.lays156_ren:={
 sizeBuilder:=by kernel_rfl
 liesBuilder:=by kernel_rfl
 t5:=Tryz.underlying5
 a5:=Tryz.isAgg5
 z5:=Tryz.sizeOf5
 v5:=Tryz.zeroValue5
 infoByte:=by kernel_rfl
 cellsByte:=by kernel_rfl
 sizeByte:=by kernel_rfl
 neB5:=by decide }
def Tryz.laysC245_ren:Go.Shelf.Ren:=⟨fun | 245=>118 | 279=>127 | 280=>128 | 281=>129 | 282=>130 | 316=>133 | 171=>135 | 205=>134 | 243=>137 | 246=>138 | 283=>76 | 284=>77 | 285=>78 | 286=>79 | 129=>96 | 317=>95 | 318=>97 | 319=>98 | 320=>99 | 337=>110 | 338=>111 | n=>n,fun | 9=>9 | 3=>3 | 75=>75 | 167=>165 | 4=>4 | 168=>167 | 210=>173 | 37=>68 | 0=>0 | 127=>105 | 145=>179 | 143=>177 | 2=>2 | 171=>120 | 53=>45 | 5=>5 | 173=>123 | 212=>137 | 51=>138 | 20=>20 | 213=>139 | 46=>140 | 232=>160 | 233=>161 | 80=>72 | n=>n,fun | 15=>4 | 16=>5 | 17=>1 | 18=>2 | 19=>3 | n=>n⟩
theorem Tryz.laysC245:Go.Proofs.LaysC.n245 Tryz.prog Tryz.laysC245_ren:={
 mixed:=by kernel_rfl
 f129:=Tryz.func96.trans (congrArg some (by kernel_rfl))
 f171:=Tryz.func135.trans (congrArg some (by kernel_rfl))
 f205:=Tryz.func134.trans (congrArg some (by kernel_rfl))
 f243:=Tryz.func137.trans (congrArg some (by kernel_rfl))
 f245:=Tryz.func118.trans (congrArg some (by kernel_rfl))
 f246:=Tryz.func138.trans (congrArg some (by kernel_rfl))
 f279:=Tryz.func127.trans (congrArg some (by kernel_rfl))
 f280:=Tryz.func128.trans (congrArg some (by kernel_rfl))
 f281:=Tryz.func129.trans (congrArg some (by kernel_rfl))
 f282:=Tryz.func130.trans (congrArg some (by kernel_rfl))
 f283:=Tryz.func76.trans (congrArg some (by kernel_rfl))
 f284:=Tryz.func77.trans (congrArg some (by kernel_rfl))
 f285:=Tryz.func78.trans (congrArg some (by kernel_rfl))
 f286:=Tryz.func79.trans (congrArg some (by kernel_rfl))
 f316:=Tryz.func133.trans (congrArg some (by kernel_rfl))
 f317:=Tryz.func95.trans (congrArg some (by kernel_rfl))
 f318:=Tryz.func97.trans (congrArg some (by kernel_rfl))
 f319:=Tryz.func98.trans (congrArg some (by kernel_rfl))
 f320:=Tryz.func99.trans (congrArg some (by kernel_rfl))
 f337:=Tryz.func110.trans (congrArg some (by kernel_rfl))
 f338:=Tryz.func111.trans (congrArg some (by kernel_rfl))
 t0:=Tryz.underlying0
 a0:=Tryz.isAgg0
 z0:=Tryz.sizeOf0
 v0:=Tryz.zeroValue0
 t2:=Tryz.underlying2
 a2:=Tryz.isAgg2
 z2:=Tryz.sizeOf2
 v2:=Tryz.zeroValue2
 t3:=Tryz.underlying3
 a3:=Tryz.isAgg3
 z3:=Tryz.sizeOf3
 v3:=Tryz.zeroValue3
 t4:=Tryz.underlying4
 a4:=Tryz.isAgg4
 z4:=Tryz.sizeOf4
 v4:=Tryz.zeroValue4
 t5:=Tryz.underlying5
 a5:=Tryz.isAgg5
 z5:=Tryz.sizeOf5
 v5:=Tryz.zeroValue5
 t9:=Tryz.underlying9
 a9:=Tryz.isAgg9
 z9:=Tryz.sizeOf9
 v9:=Tryz.zeroValue9
 t20:=Tryz.underlying20
 a20:=Tryz.isAgg20
 z20:=Tryz.sizeOf20
 v20:=Tryz.zeroValue20
 t37:=Tryz.underlying68
 a37:=Tryz.isAgg68
 z37:=Tryz.sizeOf68
 v37:=Tryz.zeroValue68
 t46:=Tryz.underlying140
 a46:=Tryz.isAgg140
 z46:=Tryz.sizeOf140
 v46:=Tryz.zeroValue140
 t51:=Tryz.underlying138
 a51:=Tryz.isAgg138
 z51:=Tryz.sizeOf138
 v51:=Tryz.zeroValue138
 t53:=Tryz.underlying45
 a53:=Tryz.isAgg45
 z53:=Tryz.sizeOf45
 v53:=Tryz.zeroValue45
 t75:=Tryz.underlying75
 a75:=Tryz.isAgg75
 z75:=Tryz.sizeOf75
 v75:=Tryz.zeroValue75
 t127:=Tryz.underlying105
 a127:=Tryz.isAgg105
 z127:=Tryz.sizeOf105
 v127:=Tryz.zeroValue105
 t143:=Tryz.underlying177
 a143:=Tryz.isAgg177
 z143:=Tryz.sizeOf177
 v143:=Tryz.zeroValue177
 t145:=Tryz.underlying179
 a145:=Tryz.isAgg179
 z145:=Tryz.sizeOf179
 v145:=Tryz.zeroValue179
 t167:=Tryz.underlying165
 a167:=Tryz.isAgg165
 z167:=Tryz.sizeOf165
 v167:=Tryz.zeroValue165
 t168:=Tryz.underlying167
 a168:=Tryz.isAgg167
 z168:=Tryz.sizeOf167
 v168:=Tryz.zeroValue167
 t171:=Tryz.underlying120
 a171:=Tryz.isAgg120
 z171:=Tryz.sizeOf120
 v171:=Tryz.zeroValue120
 t173:=Tryz.underlying123
 a173:=Tryz.isAgg123
 z173:=Tryz.sizeOf123
 v173:=Tryz.zeroValue123
 t210:=Tryz.underlying173
 a210:=Tryz.isAgg173
 z210:=Tryz.sizeOf173
 v210:=Tryz.zeroValue173
 t212:=Tryz.underlying137
 a212:=Tryz.isAgg137
 z212:=Tryz.sizeOf137
 v212:=Tryz.zeroValue137
 t213:=Tryz.underlying139
 a213:=Tryz.isAgg139
 z213:=Tryz.sizeOf139
 t232:=Tryz.underlying160
 a232:=Tryz.isAgg160
 z232:=Tryz.sizeOf160
 v232:=Tryz.zeroValue160
 t233:=Tryz.underlying161
 a233:=Tryz.isAgg161
 z233:=Tryz.sizeOf161
 v233:=Tryz.zeroValue161
 g15:=by kernel_rfl
 g16:=by kernel_rfl
 g17:=by kernel_rfl
 g18:=by kernel_rfl
 g19:=by kernel_rfl
 t80:=Tryz.underlying72
 a80:=Tryz.isAgg72
 z80:=Tryz.sizeOf72
 v80:=Tryz.zeroValue72
 i0:=by kernel_rfl
 i2:=by kernel_rfl
 i3:=by kernel_rfl
 i4:=by kernel_rfl
 i5:=by kernel_rfl
 i9:=by kernel_rfl
 i20:=by kernel_rfl
 i37:=by kernel_rfl
 i46:=by kernel_rfl
 i51:=by kernel_rfl
 i53:=by kernel_rfl
 i75:=by kernel_rfl
 i80:=by kernel_rfl
 i127:=by kernel_rfl
 i143:=by kernel_rfl
 i145:=by kernel_rfl
 i167:=by kernel_rfl
 i168:=by kernel_rfl
 i171:=by kernel_rfl
 i173:=by kernel_rfl
 i210:=by kernel_rfl
 i212:=by kernel_rfl
 i232:=by kernel_rfl
 i233:=by kernel_rfl
 m15:=by kernel_rfl
 m16:=by kernel_rfl
 m17:=by kernel_rfl
 m18:=by kernel_rfl
 m19:=by kernel_rfl
 c0:=by kernel_rfl
 c2:=by kernel_rfl
 c3:=by kernel_rfl
 c4:=by kernel_rfl
 c5:=by kernel_rfl
 c9:=by kernel_rfl
 c20:=by kernel_rfl
 c37:=by kernel_rfl
 c46:=by kernel_rfl
 c51:=by kernel_rfl
 c53:=by kernel_rfl
 c75:=by kernel_rfl
 c80:=by kernel_rfl
 c127:=by kernel_rfl
 c143:=by kernel_rfl
 c145:=by kernel_rfl
 c167:=by kernel_rfl
 c168:=by kernel_rfl
 c171:=by kernel_rfl
 c173:=by kernel_rfl
 c210:=by kernel_rfl
 c212:=by kernel_rfl
 c213:=by kernel_rfl
 c232:=by kernel_rfl
 c233:=by kernel_rfl }
end Go.Proofs
namespace Go.Proofs.YtebihdhapepejaaGreatDoor
open Go Go.G Go.Proofs Go.RowKit Go.PL
theorem Yd:∀ (xs:List (List UInt8)),(xs.map S).flatMap A.cells=xs.map S
 |[]=>rfl
 |a::l=>by rw[List.map_cons,List.flatMap_cons,Yd l];rfl
theorem Ls (f:Bool) (xs:List (List UInt8)) (sep:List UInt8) (hN:xs.length≤140737488355328) (hlen:(Lib.join xs sep).length≤140737488355328):G.Spec Tryz.prog 20 [.sl f (xs.map S),S sep] (S (Lib.join xs sep)):=by
 refine⟨by kernel_rfl,fun w I vs hI ht hl hr=>?_⟩;have h0:=hr 0 _ rfl;have h1:=hr 1 _ rfl;obtain⟨v0,hv0⟩:∃ v,vs.getD 0 undef=v:=⟨_,rfl⟩;obtain⟨v1,hv1⟩:∃ v,vs.getD 1 undef=v:=⟨_,rfl⟩;have ev:vs = #[v0,v1]:=by
  apply Array.ext
  ·simpa using hl
  ·intro i h2 h3;have hi:vs[i]=vs.getD i undef:=by simp[h2]
   rw[hi];have:i=0∨i=1:=by simp at h3;omega
   rcases this with rfl | rfl
   ·simp[hv0]
   ·simp[hv1]
 rw[hv0] at h0;rw[hv1] at h1;subst ev;cases h1;have hj:∀ (bs:List ByteArray),bs.map (·.data.toList)=xs→(Lib.join (bs.map (·.data.toList)) (⟨sep.toArray⟩:ByteArray).data.toList)=Lib.join xs sep:=fun bs h=>by rw[h]
 generalize hxs:xs.map S=q at h0;cases h0 with
 |slN μ f a cap hc=>
  have:xs=[]:=by simpa using hxs
  subst this;exact(Any.strings_Join_none Tryz.lays156 Tryz.Builder_Extra_156 a cap ⟨sep.toArray⟩ w).mono fun e w' ⟨h1,h2⟩=>⟨_,h1,by rw[h2];exact Below.refl _ _,by exact .v _ _⟩
 |sl μ f b off n cap sz q g hb hn hcap hf hsz h1 h2 h3=>
  subst hxs;have e:=Yd xs;rw[e] at h2 h3;have hbs:(xs.map fun l=>(⟨l.toArray⟩:ByteArray)).map (·.data.toList)=xs:=by
   rw[List.map_map]
   conv=>rhs;rw[← List.map_id xs]
   apply List.map_congr_left;intro x _;simp
  have c:=Any.strings_Join Tryz.lays156 Tryz.Builder_Extra_156 b off cap (xs.map fun l=>(⟨l.toArray⟩:ByteArray)) ⟨sep.toArray⟩ w (fun j x hx=>by
    rw[List.getElem?_map] at hx;obtain⟨l,hl,rfl⟩:=Option.map_eq_some_iff.1 hx;have hy:(xs.map S)[j]? = some (S l):=by simp[hl]
    rw[h2 j _ hy];have:=h3 j _ hy;generalize g j=q at this;cases this;rfl) (hI b hb) (by simpa using hN) (by simpa using hcap) (by rw[hj _ hbs];exact hlen)
  rw[hj _ hbs] at c;have en:n=(xs.map fun l=>(⟨l.toArray⟩:ByteArray)).length:=by simpa using hn
  subst en;exact c.mono fun e w' ⟨h1,h2⟩=>⟨_,h1,h2,.v _ _⟩
theorem Rg (k:Int) (hk:k=1∨k=2) (fn l:List UInt8) (hl:l.length≤281474976710656):G.Spec Tryz.prog 118 [S fn,S l,iv 16,iv 64,.ifc 165 (iv k)] (.ifc 167 .any):=by
 refine⟨by kernel_rfl,fun w I vs hI ht hlv hr=>?_⟩;have ev:vs = #[.string ⟨fn.toArray⟩,.string ⟨l.toArray⟩,.int .i64 16,.int .i64 64,.iface 165 (.int .i64 k)]:=by
  have h0:=hr 0 _ rfl;have h1:=hr 1 _ rfl;have h2:=hr 2 _ rfl;have h3:=hr 3 _ rfl;have h4:=hr 4 _ rfl;apply Array.ext
  ·simpa using hlv
  ·intro i g1 g2;have hi:vs[i]=vs.getD i undef:=by simp[g1]
   rw[hi];have:i=0∨i=1∨i=2∨i=3∨i=4:=by simp at g2;omega
   rcases this with rfl | rfl | rfl | rfl | rfl
   ·generalize vs.getD 0 undef=x at h0;cases h0;rfl
   ·generalize vs.getD 1 undef=x at h1;cases h1;rfl
   ·generalize vs.getD 2 undef=x at h2;cases h2;rfl
   ·generalize vs.getD 3 undef=x at h3;cases h3;rfl
   ·generalize vs.getD 4 undef=x at h4;cases h4 with
    |ifc _ _ _ y hy=>cases hy;rfl
 subst ev;have hs:(⟨l.toArray⟩:ByteArray).size≤281474976710656:=by show l.toArray.size≤_;simpa using hl
 rcases hk with rfl | rfl
 ·obtain⟨_,te,pe,hv⟩:=ht.err 5 (by kernel_rfl);exact(Any.strconv_toError_range Tryz.laysC245 ⟨fn.toArray⟩ ⟨l.toArray⟩ 16 64 _ w hs hv (Or.inr ⟨te,pe,rfl⟩)).mono fun e w' ⟨N,h1,_,_,h2⟩=>⟨_,h1,h2,.ifc _ _ _ _ (.any _ _)⟩
 ·obtain⟨_,te,pe,hv⟩:=ht.err 4 (by kernel_rfl);exact(Any.strconv_toError_syntax Tryz.laysC245 ⟨fn.toArray⟩ ⟨l.toArray⟩ 16 64 _ w hs hv (Or.inr ⟨te,pe,rfl⟩)).mono fun e w' ⟨N,h1,_,_,h2⟩=>⟨_,h1,h2,.ifc _ _ _ _ (.any _ _)⟩
theorem S1 {P:Program} {f:FuncId} {args:List A} {t:TypeId} (h:G.Spec P f args (.ifc t .any)):SpecB P f args (.ifc t .any):=
 ⟨h.1,fun w I J vs hI hJ ht hl ha=>(h.2 w (fun b=>I b∨J b) vs (fun b hb=>hb.elim (hI b) (hJ b)) (ht.mono (fun _ h=>.inl h) (fun _ _=>rfl)) hl ha).mono fun e w' ⟨v,he,hB,hr'⟩=>⟨v,he,hB,by
  cases hr' with
  |ifc _ _ _ y hy=>exact .ifc _ _ _ _ (.any _ _)⟩⟩
theorem Dh {l m:List UInt8}:TX .eql ⟨l.toArray⟩ ⟨m.toArray⟩=some (bv (decide (l=m))):=by
 unfold TX;simp only[Lib.toList_data,List.toList_toArray];rw[show(l == m)=decide (l=m) by by_cases h:l=m<;>simp[h]]
theorem DY {l m:List UInt8}:TX .neq ⟨l.toArray⟩ ⟨m.toArray⟩=some (bv (decide (l ≠ m))):=by
 by_cases h:l=m
 ·subst h;simp[TX]
 ·have:¬ (ByteArray.mk l.toArray=ByteArray.mk m.toArray):=by rw[dU];exact h
  simp[TX,h]
theorem MP {H:Hp} {t:TypeId} {k:Int}:Jr H (.ifc t (iv k)) (.ifc t (iv k)):=fun c w I μ v hs hr=>by
 cases hr with
 |ifc _ _ _ y hy=>cases hy;exact .ifc _ _ _ _ (.v _ _)
theorem Ym {k:Int}:fW Tryz.prog 165 (iv k)=some (.ifc 165 (iv k)):=by kernel_rfl
theorem WT (c:UInt8):G.Spec Tryz.prog 125 [Gy c] (.v (.int .u8 (bits .or .u8 c.toNat 32))):=by
 refine Aj IK (by simp) fun w0 I0=>?_;unfold E5;simp;exact Ab rfl
theorem YY {c:UInt8} {d:Nat} (h:Bg c=some d) (hc:¬ c.toNat≤57):bits .or .u8 c.toNat 32=c.toNat∧97≤c.toNat∧c.toNat≤102∧d=c.toNat-87:=by
 have h1:97≤c.toNat∧c.toNat≤102∧d=c.toNat-87:=by
  unfold Bg at h;rw[if_neg (by omega)] at h;split at h
  ·cases h;omega
  ·cases h
 refine⟨?_,h1⟩;have:∀ n:Nat,n<6→bits .or .u8 ((97+n:Nat):Int) 32=((97+n:Nat):Int):=by decide
 have:=this (c.toNat-97) (by omega)
 rwa [show 97+(c.toNat-97)=c.toNat by omega] at this
variable {n0:Nat} {w0:World} {I0:Nat→Prop} {Q:Exit→Sta→Prop} {H:Hp}
set_option maxHeartbeats 2000000 in
theorem oe {dg:List UInt8} (hl:dg.length≤1000000000) (hd:∀ c,c ∈ dg→∃ d,Bg c=some d) (hq:∀ m,Jo 0 dg=some m→Q (.exit 3) ⟨lk [(1,iv 16),(8,bv false),(9,S dg),(10,uv 1152921504606846976),(11,uv 18446744073709551615),(12,bv false),(13,uv m),(99,.sl false (dg.map Gy)),(100,iv dg.length),(101,iv dg.length),(102,bv false)],H⟩)
  (hr:Jo 0 dg=none→Q .ret ⟨lk [(6,uv 18446744073709551615),(7,.ifc 165 (iv 1))],H⟩) :
  ∀ (j i n:Nat),i+j=dg.length→n<18446744073709551616→Jo 0 dg=Jo n (dg.drop i)→LoopC (cx Tryz.prog w0 I0 n0) A3 Q ⟨lk [(1,iv 16),(8,bv false),(9,S dg),(10,uv 1152921504606846976),(11,uv 18446744073709551615),(12,bv false),(13,uv n),(99,.sl false (dg.map Gy)),(100,iv dg.length),(101,iv i)],H⟩:=by
 intro j;induction j with
 |zero=>
  intro i n hi hn he;have:i=dg.length:=by omega
  subst this;rw[List.drop_length] at he;refine Ae mixed A3.eq_1 ?_;simp;exact hq n he
 |succ j ih=>
  intro i n hi hn he;have hlt:i<dg.length:=by omega
  obtain⟨d,hx⟩:=hd dg[i] (B0 hlt);rw[List.drop_eq_getElem_cons hlt,Jo,hx] at he;simp only at he;have hd16:=(Gl hx).1;have hc:=WT dg[i];have ei:=A7 i;have h95:¬ (dg[i].toNat:Int)=95:=by
   unfold Bg at hx;split at hx
   ·omega
   ·split at hx
    ·omega
    ·cases hx
  have k1:WPC (cx Tryz.prog w0 I0 n0) B2 (Dn (fun st=>WPC (cx Tryz.prog w0 I0 n0) (.keep [1,8,9,10,11,12,13,99,100,101] (.reg [co (some 163) (.binOp .add 3 (.tmp 101) (.const (.int .i64 1)) 3) none,co (some 101) (.move (.tmp 163)) none] [1,8,9,10,11,12,13,99,100,101])) (Dn (LoopC (cx Tryz.prog w0 I0 n0) A3 Q) Q) st) (Dn (LoopC (cx Tryz.prog w0 I0 n0) A3 Q) Q)) ⟨lk [(1,iv 16),(8,bv false),(9,S dg),(10,uv 1152921504606846976),(11,uv 18446744073709551615),(12,bv false),(13,uv n),(16,.v (.int .u8 d)),(99,.sl false (dg.map Gy)),(100,iv dg.length),(101,iv i)],H⟩:=by
   rw[B2.eq_1];have e8:IntKind.u8.wrap 16=16:=by decide
   by_cases hlt2:n<1152921504606846976
   ·rw[if_pos hlt2] at he;have e1:u64.wrap ((n:Int)*16)=((n*16:Nat):Int):=by rw[AX (by omega) (by omega)];omega
    have e2:u64.wrap (((n*16:Nat):Int)+(d:Int))=((n*16+d:Nat):Int):=by rw[AX (by omega) (by omega)];omega
    have e3:u64.wrap (d:Int)=d:=AX (by omega) (by omega);have e4:u64.wrap 16=16:=by decide
    have e5:u64.wrap ((n:Int)*16+(d:Int))=(n:Int)*16+d:=AX (by omega) (by omega);simp[show ¬ (16:Int)≤d by omega,show ¬ 16≤d by omega,show ¬ (1152921504606846976:Int)≤n by omega,e1,e5,e3,e4,e8,ei,show ¬ ((n:Int)*16+d<n*16∨18446744073709551615<(n:Int)*16+d) by omega];intro _ _;exact ih (i+1) (n*16+d) (by omega) (by omega) he
   ·rw[if_neg hlt2] at he;simp[show ¬ (16:Int)≤d by omega,show ¬ 16≤d by omega,show(1152921504606846976:Int)≤n by omega,e8,Ym];exact hr he
  refine Ae mixed A3.eq_1 ?_;by_cases h57:dg[i].toNat≤57
  ·have h48:48≤dg[i].toNat∧d=dg[i].toNat-48:=by
    unfold Bg at hx;split at hx
    ·cases hx;omega
    ·split at hx
     ·omega
     ·cases hx
   have ed:IntKind.u8.wrap ((dg[i].toNat:Int)-48)=d:=by
    have:(dg[i].toNat:Int)-48=d:=by omega
    rw[this];have:∀ d:Nat,d<16→IntKind.u8.wrap (d:Int)=d:=by decide
    exact this d hd16
   simp[hlt,h95,show(48:Int)≤dg[i].toNat by omega,show(dg[i].toNat:Int)≤57 by omega,ed];exact k1
  ·obtain⟨b1,b2,b3,b4⟩:=YY hx h57;rw[b1] at hc;have ed:IntKind.u8.wrap (IntKind.u8.wrap ((dg[i].toNat:Int)-97)+10)=d:=by
    have:∀ n:Nat,n<6→IntKind.u8.wrap (IntKind.u8.wrap (((97+n:Nat):Int)-97)+10)=((10+n:Nat):Int):=by decide
    have:=this (dg[i].toNat-97) (by omega);rw[show 97+(dg[i].toNat-97)=dg[i].toNat by omega] at this;rw[this];omega
   simp[hlt,h95,show(48:Int)≤dg[i].toNat by omega,show ¬ (dg[i].toNat:Int)≤57 by omega];refine Af hc rfl ?_;simp[show(97:Int)≤dg[i].toNat by omega];refine AH (q:=true) rfl (fun _=>hc) (fun _=>rfl) rfl ?_;simp[show(dg[i].toNat:Int)≤122 by omega];refine Af hc rfl ?_;simp[ed];exact k1
def ry (dg:List UInt8):A:=if dg=[] then .tup [uv 0,.ifc 165 (iv 2)] else match Jo 0 dg with
 |some m=>.tup [uv m,.v .nilIface]
 |none=>.tup [uv 18446744073709551615,.ifc 165 (iv 1)]
set_option maxHeartbeats 1000000 in
theorem YO (dg:List UInt8) (hl:dg.length≤1000000000) (hd:∀ c,c ∈ dg→∃ d,Bg c=some d):G.Spec Tryz.prog 117 [S dg,iv 16,iv 64] (ry dg):=by
 refine Aj G4 (by simp) fun w0 I0=>?_;unfold DS ry;by_cases h0:dg=[]
 ·subst h0;simp[Dh,Ym];exact AF ⟨Ab rfl,MP,trivial⟩
 ·rw[if_neg h0];simp[Dh,h0];rw[Dv.eq_1];simp;rw[Ds.eq_1];simp;rw[Du.eq_1];simp;refine⟨by decide,?_⟩;have e11:u64.wrap (u64.wrap (2 ^ min (u64.wrap 64).toNat u64.bits)-1)=18446744073709551615:=by decide
  refine LoopC.le (A4 [(1,iv 16),(8,bv false),(9,S dg),(10,uv 1152921504606846976),(11,uv 18446744073709551615),(12,bv false),(13,uv (0:Nat)),(99,.sl false (dg.map Gy)),(100,iv dg.length),(101,iv (0:Nat))] (by simp[e11])) ?_;refine oe hl hd (fun m hm=>?_) (fun hm=>?_) dg.length 0 0 (by omega) (by omega) rfl
  ·rw[hm];simp;refine AH (L:=[]) (x:=bv false) (q:=false) rfl (fun h=>by cases h) (fun h=>by cases h) rfl ?_;simp;exact Ab rfl
  ·rw[hm];simp;exact AF ⟨Ab rfl,MP,trivial⟩
def jz (dg:List UInt8):A:=if dg=[] then .tup [uv 0,.ifc 167 .any] else match Jo 0 dg with
 |some m=>.tup [uv m,.v .nilIface]
 |none=>.tup [uv 18446744073709551615,.ifc 167 .any]
theorem Vv {H:Hp} {t:TypeId}:Jr H (.ifc t .any) (.ifc t .any):=fun c w I μ v hs hr=>by
 cases hr with
 |ifc _ _ _ y hy=>exact .ifc _ _ _ _ (.any _ _)
theorem fP (dg:List UInt8) (hl:dg.length≤1000000000) (hd:∀ c,c ∈ dg→∃ d,Bg c=some d):G.Spec Tryz.prog 102 [S dg,iv 16,iv 64] (jz dg):=by
 have h:=YO dg hl hd;refine Aj Lz (by simp) fun w0 I0=>?_;unfold G9 jz;unfold ry at h;by_cases h0:dg=[]
 ·rw[if_pos h0] at h ⊢;simp;refine Af h rfl ?_;simp;refine Ku [S [80,97,114,115,101,85,105,110,116],S dg,iv 16,iv 64,.ifc 165 (iv 2)] (S1 (Rg 2 (by decide) _ dg (by omega))) ?_ (by simp) ?_
  ·simp;exact⟨Ab rfl,Ab rfl,Ab rfl,Ab rfl,MP⟩
  ·simp;exact AF ⟨Ab rfl,Vv,trivial⟩
 ·rw[if_neg h0] at h ⊢;cases e:Jo 0 dg with
  |some m=>
   rw[e] at h;simp;refine Af h rfl ?_;simp;exact Ab rfl
  |none=>
   rw[e] at h;simp;refine Af h rfl ?_;simp;refine Ku [S [80,97,114,115,101,85,105,110,116],S dg,iv 16,iv 64,.ifc 165 (iv 1)] (S1 (Rg 1 (by decide) _ dg (by omega))) ?_ (by simp) ?_
   ·simp;exact⟨Ab rfl,Ab rfl,Ab rfl,Ab rfl,MP⟩
   ·simp;exact AF ⟨Ab rfl,Vv,trivial⟩
end Go.Proofs.YtebihdhapepejaaGreatDoor
namespace Go.Proofs.YtebihdhapepejaaGreatDoor
open Go Go.G Go.Proofs Go.PL
def LF {α:Type} (f:α→A) (s:List UInt8) (k:Nat) (o:Option (α × Nat)):Option ((Nat→A) × Fam):=o.map fun q=>(fun _=>f q.1,CW s (k+q.2))
theorem GI {α:Type} {f:α→A} (hf:∀ x,Gb (fun _=>f x)) {s:List UInt8} {k:Nat} {o:Option (α × Nat)}:∀ q,LF f s k o=some q→Gb q.1:=fun q h=>by
 unfold LF at h;cases o with
 |none=>cases h
 |some x=>cases h;exact hf _
@[simp] theorem uX {α:Type} {f:α→A} {s:List UInt8} {k:Nat}:LF f s k none=none:=rfl
@[simp] theorem vB {α:Type} {f:α→A} {s:List UInt8} {k:Nat} {q:α × Nat}:LF f s k (some q)=some (fun _=>f q.1,CW s (k+q.2)):=rfl
theorem Ge (n:Nat) (hn:n<18446744073709551616):G.Spec Tryz.prog 21 [uv n] (S (Am n)):=by
 refine Aj UT (by simp) fun w0 I0=>?_;unfold Pc;simp;refine Af (JX n hn) rfl ?_;simp;exact Ab rfl
theorem XU {s:List UInt8} {k:Nat} (hk:k≤s.length):(∃ d,Bg (Ey (s.drop k))=some d∧k<s.length∧R6 (s.drop k)=Ey (s.drop k)::R6 (s.drop (k+1)))∨(Bg (Ey (s.drop k))=none∧R6 (s.drop k)=[]):=by
 by_cases h:k=s.length
 ·right;subst h;rw[M5,List.drop_length];exact⟨by decide,rfl⟩
 ·have hlt:k<s.length:=by omega
  rw[Gp hlt,BR hlt];cases hx:Bg s[k] with
  |none=>
   right;exact⟨rfl,List.takeWhile_cons_of_neg (p:=fun c=>(Bg c).isSome) (by rw[hx];simp)⟩
  |some d=>
   left;exact⟨d,rfl,hlt,List.takeWhile_cons_of_pos (p:=fun c=>(Bg c).isSome) (by rw[hx];rfl)⟩
variable {φ:Prop} {n0:Nat} {w0:World} {I0:Nat→Prop} {M0:Nm→Nat→Prop} {m0:Mu} {Q:Exit→Sta→Prop}
theorem eF {s:List UInt8} (hs:s.length≤1000000000) {k0:Nat} {y:A}:∀ (l:List UInt8) (k:Nat) (H:Hp),R6 (s.drop k)=l→k≤s.length→(∀ p,H (0::p)=(CW s k).F 0 p) →
  (∀ (H':Hp),(∀ p,H' (0::p)=(CW s (k+l.length)).F 0 p)→Q (.exit 0) ⟨lk [(0,pp 0),(1,y),(5,iv k0),(16,bv false)],H'⟩) →
  LoopC (PN NT φ Tryz.prog w0 I0 M0 n0 m0) Fg Q ⟨lk [(0,pp 0),(1,y),(5,iv k0)],H⟩:=by
 intro l;induction l with
 |nil=>
  intro k H hl hk hH hq;have hn:=Dz s k hk;refine Ae mixed Fg.eq_1 ?_;simp;refine Al 0 hn hH (by simp) (by simp) ?_;rcases XU hk with ⟨d,h1,h2,h3⟩ | ⟨h1,h2⟩
  ·rw[hl] at h3;cases h3
  ·have hi:=Kz [48,49,50,51,52,53,54,55,56,57,97,98,99,100,101,102] (Ey (s.drop k));rw[QP,h1] at hi;simp;refine Af hi rfl ?_;simp;exact hq _ (fun p=>by simp)
 |cons c l ih=>
  intro k H hl hk hH hq;have hn:=Dz s k hk;refine Ae mixed Fg.eq_1 ?_;simp;refine Al 0 hn hH (by simp) (by simp) ?_;rcases XU hk with ⟨d,h1,h2,h3⟩ | ⟨h1,h2⟩
  ·have hi:=Kz [48,49,50,51,52,53,54,55,56,57,97,98,99,100,101,102] (Ey (s.drop k));rw[QP,h1] at hi;rw[hl] at h3;have e1:=A7 k;simp;refine Af hi rfl ?_;simp[e1,show(0:Int)≤d by omega];refine ih (k+1) _ (List.cons.inj h3).2.symm (by omega) (fun p=>by by_cases hp:p=[]<;>simp[hp,Aa]) (fun H' g=>?_);exact hq H' (by rw[List.length_cons,show k+(l.length+1)=k+1+l.length by omega];exact g)
  ·rw[hl] at h2;cases h2
theorem JJ {s:List UInt8} (hs:s.length≤1000000000) (k most:Nat) (hk:k≤s.length) (hm:most<18446744073709551616):Ow NT Tryz.prog 84 (fun r=>[pp r,uv most]) (CW s k) (LF (fun n:Nat=>uv n) s k (DN most (s.drop k))):=by
 refine M3 Qc (by simp) (Ak A8 (Ak Bi Ay)) (GI fun _=>Bi) fun w0 I0 M0 m0=>?_;have hle:=Z5 (s.drop k);rw[List.length_drop] at hle;have htk:=Vl (s.drop k);have hpu:=fP (R6 (s.drop k)) (by omega) Yh;unfold Km;simp;refine LoopC.le (A4 [(0,pp 0),(1,uv most),(5,iv k)] (by simp)) ?_;refine eF hs (R6 (s.drop k)) k _ rfl hk (fun p=>by simp) (fun H' g=>?_);unfold DN;obtain⟨dg,hdg⟩:∃ dg,dg=R6 (s.drop k):=⟨_,rfl⟩;rw[← hdg] at hle htk hpu g ⊢;have c1:(0≤(k:Int)+dg.length∧(k:Int)+dg.length≤s.length)=True:=eq_true (by omega);have c2:((k:Int)+dg.length).toNat=k+dg.length:=by omega
 have c3:List.take (k+dg.length-k) (List.drop k s)=dg:=by rw[Nat.add_sub_cancel_left];exact htk
 unfold jz at hpu;simp[g,c1,c2,htk,show(k:Int)≤(k:Int)+dg.length by omega];refine Af hpu rfl ?_;by_cases h0:dg=[]
 ·rw[if_pos h0,if_pos h0];simp;refine Ao (L:=[]) (x:=S []) (q:=true) rfl (fun h=>by cases h) (fun h=>by cases h) rfl ?_;simp;refine AL (.tup []) 0 (C6 (CW s (k+dg.length))) ⟨rfl,by simp⟩ (fun p=>by simp[g]) (by simp) (by simp) ?_;simp;exact Aw (AK 0 (by simp[A5]))
 ·rw[if_neg h0,if_neg h0];cases hp:Jo 0 dg with
  |none=>
   simp;refine Ao (L:=[]) (x:=S []) (q:=true) rfl (fun h=>by cases h) (fun h=>by cases h) rfl ?_;simp;refine AL (.tup []) 0 (C6 (CW s (k+dg.length))) ⟨rfl,by simp⟩ (fun p=>by simp[g]) (by simp) (by simp) ?_;simp;exact Aw (AK 0 (by simp[A5]))
  |some n=>
   have hn:=Tz _ _ _ (by omega) hp;simp;refine Ao (q:=false) rfl (fun _=>Ge n hn) (fun _=>rfl) rfl ?_;simp[DY];by_cases hb:Am n=dg∧n≤most
   ·rw[if_pos hb];refine⟨fun h=>(h.elim (fun h=>h hb.1) (fun h=>by omega)).elim,fun _ _=>?_⟩;refine AA ?_;simp[Ix];exact Bh rfl rfl (fun p=>by simp[g])
   ·rw[if_neg hb];refine⟨fun _=>?_,fun h1 h2=>(hb ⟨h1,h2⟩).elim⟩;refine AL (.tup []) 0 (C6 (CW s (k+dg.length))) ⟨rfl,by simp⟩ (fun p=>by simp[g]) (by simp) (by simp) ?_;simp;exact Aw (AK 0 (by simp[A5]))
theorem fJ {most:Nat} {r:List UInt8} {q:Nat × Nat} (h:DN most r=some q):q.1≤most∧q.1<18446744073709551616∧q.2≤r.length∧1≤q.2:=by
 obtain⟨n,k⟩:=q;obtain⟨h1,h2,_,h3,h4⟩:=Io h;exact⟨h1,h2,h3,h4⟩
theorem KA {s:List UInt8} (hs:s.length≤1000000000) (k:Nat) (hk:k≤s.length):Ow NT Tryz.prog 83 (fun r=>[pp r]) (CW s k) (LF (fun n:Nat=>iv n) s k (DN 1048576 (s.drop k))):=by
 refine M3 Sc (by simp) (Ak A8 Ay) (GI fun _=>Bi) fun w0 I0 M0 m0=>?_;have hn:=JJ hs k 1048576 hk (by omega);unfold LJ;simp;cases h:DN 1048576 (s.drop k) with
 |none=>
  rw[h] at hn;refine AL (uv 0) 0 hn ⟨rfl,by simp⟩ (fun p=>by simp) (by simp) (by simp) ?_;simp;exact Aw (AK 0 (by simp[A5]))
 |some q=>
  rw[h] at hn;have hq:=fJ h;have e:i64.wrap (q.1:Int)=q.1:=EK;refine Al 0 hn (fun p=>by simp) (by simp) (by simp) ?_;simp[e];refine AA ?_;simp[Ix];exact Bh rfl rfl (fun p=>by simp)
end Go.Proofs.YtebihdhapepejaaGreatDoor
namespace Go.Proofs.YtebihdhapepejaaGreatDoor
set_option maxRecDepth 10000
open Go Go.G Go.Proofs Go.PL
def Jt (o:Int) (c:UInt8):Int:=if c=123∨c=91∨c=40 then o+1 else if c=125∨c=93∨c=41 then o-1 else o
def GY (c:UInt8):Int→List UInt8→List UInt8→Option (List UInt8 × List UInt8)
 |_,_,[]=>none
 |o,pre,x::r=>if o=0∧x=c then some (pre,r) else GY c (Jt o x) (pre++[x]) r
def eV (q:Option (List UInt8 × List UInt8)):A:=match q with
 |some (a,b)=>.tup [S a,S b,bv true]
 |none=>.tup [S [],S [],bv false]
def AW:Int→List UInt8→List UInt8→List (List UInt8)
 |_,cur,[]=>[cur]
 |o,cur,x::r=>if o=0∧x=44 then cur::AW 0 [] r else AW (Jt o x) (cur++[x]) r
theorem ig (o:Int) (c:UInt8):o-1≤Jt o c∧Jt o c≤o+1:=by unfold Jt;split<;>(try split)<;>omega
theorem HF {c:UInt8} {o:Int} {pre r:List UInt8} {x:UInt8}:GY c o pre (x::r)=if o=0∧x=c then some (pre,r) else GY c (Jt o x) (pre++[x]) r:=by rw[GY]
theorem EB {o:Int} {cur r:List UInt8} {x:UInt8}:AW o cur (x::r)=if o=0∧x=44 then cur::AW 0 [] r else AW (Jt o x) (cur++[x]) r:=by rw[AW]
theorem ub {x c:UInt8} (h:x ≠ c):¬ x.toNat=c.toNat:=fun e=>h (UInt8.toNat_inj.1 e)
theorem Pa {x c:UInt8} (h:x ≠ c):¬ (x.toNat:Int)=(c.toNat:Int):=fun e=>ub h (by omega)
variable {n0:Nat} {w0:World} {I0:Nat→Prop} {Q:Exit→Sta→Prop}
set_option maxHeartbeats 2000000 in
theorem iH {s:List UInt8} {c:UInt8} (hs:s.length≤1000000000)
  (hq1:∀ st:List (Nat × A),GY c 0 [] s=none→Q (.exit 0) ⟨lk st,Dl []⟩)
  (hq2:∀ a b,GY c 0 [] s=some (a,b)→Q .ret ⟨lk [(4,S a),(5,S b),(6,bv true)],Dl []⟩):∀ (r pre:List UInt8) (o:Int),s=pre++r→-(pre.length:Int)≤o→o≤pre.length→GY c 0 [] s=GY c o pre r →
  LoopC (cx Tryz.prog w0 I0 n0) Ea Q ⟨lk [(0,S s),(1,Gy c),(7,iv o),(8,iv pre.length)],Dl []⟩:=by
 intro r;induction r with
 |nil=>
  intro pre o he h1 h2 hc;refine Ae mixed Ea.eq_1 ?_;subst he;simp;exact hq1 _ hc
 |cons x r ih=>
  intro pre o he h1 h2 hc;have hl:pre.length<s.length:=by rw[he];simp
  have hx:s[pre.length]? = some x:=by rw[he];simp
  have hx2:s[pre.length]=x:=by have:=List.getElem?_eq_getElem hl;rw[hx] at this;exact(Option.some.inj this).symm
  have ew:i64.wrap ((pre.length:Int)+1)=((pre++[x]).length:Int):=by rw[Bs (by omega) (by omega)];simp
  have ep:i64.wrap (o+1)=o+1:=EK;have em:i64.wrap (o-1)=o-1:=EK;have htk:s.take pre.length=pre:=by rw[he];simp
  have hdr:(s.drop (pre.length+1)).take (s.length-(pre.length+1))=r:=by
   rw[Fv (by simp),he,← List.drop_drop];simp
  have c1:(0≤(pre.length:Int)+1∧(pre.length:Int)+1≤s.length)=True:=eq_true (by omega);have hle:pre.length≤s.length:=by omega
  refine Ae mixed Ea.eq_1 ?_;rw[HF] at hc;have d1:=ig o x;have next:=ih (pre++[x]) (Jt o x) (by rw[he];simp) (by simp;omega) (by simp;omega)
  by_cases hxc:o=0∧x=c
  ·obtain⟨rfl,rfl⟩:=hxc;rw[if_pos ⟨rfl,rfl⟩] at hc;simp[hl,hx,hx2,ew,htk,hdr,c1,hle];exact hq2 _ _ hc
  ·rw[if_neg hxc] at hc;have next:=next hc
   by_cases h0:o=0
   ·subst h0;have ep:i64.wrap 1=1:=by decide
    have em:i64.wrap (-1) = -1:=by decide
    have hne:x ≠ c:=fun e=>hxc ⟨rfl,e⟩;have k1:=ub hne;have k2:=Pa hne;by_cases a1:x=123∨x=91∨x=40
    ·rw[show Jt 0 x=0+1 by unfold Jt;rw[if_pos a1]] at next
     rcases a1 with rfl | rfl | rfl;all_goals
      simp at k1 k2;simp[hl,hx,hx2,k1,k2];rw[BK.eq_1];simp[ew,ep];simpa using next
    ·by_cases a2:x=125∨x=93∨x=41
     ·rw[show Jt 0 x=0-1 by unfold Jt;rw[if_neg a1,if_pos a2]] at next
      rcases a2 with rfl | rfl | rfl;all_goals
       simp at k1 k2;simp[hl,hx,hx2,k1,k2];rw[BK.eq_1];simp[ew,em];simpa using next
     ·rw[show Jt 0 x=0 by unfold Jt;rw[if_neg a1,if_neg a2]] at next
      simp only[not_or] at a1 a2;have n1:=ub a1.1;have n2:=ub a1.2.1;have n3:=ub a1.2.2;have n4:=ub a2.1;have n5:=ub a2.2.1;have n6:=ub a2.2.2;have m1:=Pa a1.1;have m2:=Pa a1.2.1;have m3:=Pa a1.2.2;have m4:=Pa a2.1;have m5:=Pa a2.2.1;have m6:=Pa a2.2.2;simp at n1 n2 n3 n4 n5 n6 m1 m2 m3 m4 m5 m6;simp[hl,hx,hx2,k1,k2,n1,n2,n3,n4,n5,n6,m1,m2,m3,m4,m5,m6];rw[BK.eq_1];simp[ew,n1,n2,n3,n4,n5,n6,m1,m2,m3,m4,m5,m6];simpa using next
   ·skip
    by_cases a1:x=123∨x=91∨x=40
    ·rw[show Jt o x=o+1 by unfold Jt;rw[if_pos a1]] at next
     rcases a1 with rfl | rfl | rfl;all_goals
      simp[hl,hx,hx2,h0];rw[BK.eq_1];simp[ew,ep];simpa using next
    ·by_cases a2:x=125∨x=93∨x=41
     ·rw[show Jt o x=o-1 by unfold Jt;rw[if_neg a1,if_pos a2]] at next
      rcases a2 with rfl | rfl | rfl;all_goals
       simp[hl,hx,hx2,h0];rw[BK.eq_1];simp[ew,em];simpa using next
     ·rw[show Jt o x=o by unfold Jt;rw[if_neg a1,if_neg a2]] at next
      simp only[not_or] at a1 a2;have n1:=ub a1.1;have n2:=ub a1.2.1;have n3:=ub a1.2.2;have n4:=ub a2.1;have n5:=ub a2.2.1;have n6:=ub a2.2.2;have m1:=Pa a1.1;have m2:=Pa a1.2.1;have m3:=Pa a1.2.2;have m4:=Pa a2.1;have m5:=Pa a2.2.1;have m6:=Pa a2.2.2;simp at n1 n2 n3 n4 n5 n6 m1 m2 m3 m4 m5 m6;simp[hl,hx,hx2,h0,n1,n2,n3,n4,n5,n6,m1,m2,m3,m4,m5,m6];rw[BK.eq_1];simp[ew,n1,n2,n3,n4,n5,n6,m1,m2,m3,m4,m5,m6];simpa using next
theorem ar {s:List UInt8} (hs:s.length≤1000000000) (c:UInt8):G.Spec Tryz.prog 45 [S s,Gy c] (eV (GY c 0 [] s)):=by
 refine Aj N2 (by simp) fun w0 I0=>?_;unfold IZ;simp;refine iH hs (fun st h=>?_) (fun a b h=>?_) s [] 0 rfl (by simp) (by simp) rfl
 ·rw[h];simp[eV];exact Ab rfl
 ·rw[h];simp[eV];exact Ab rfl
set_option maxHeartbeats 4000000 in
theorem a8 {s:List UInt8} (hs:s.length≤1000000000)
  (hq:∀ (H:Hp) (v:Nat) (dn cur:List UInt8) (acc:List (List UInt8)) (o:Int) (i:Nat),s=dn++cur→acc.length≤dn.length→AW 0 [] s=acc++[cur]→H [0]=⟨v,.arr 1 (acc.map S)⟩→Q (.exit 0) ⟨lk [(0,S s),(3,.osl [0] v 1 0 acc.length),(4,iv o),(5,iv dn.length),(6,iv i),(10,bv false)],H⟩):∀ (r dn cur:List UInt8) (o:Int) (v:Nat) (acc:List (List UInt8)) (H:Hp) (i:Nat),i=dn.length+cur.length→s=dn++(cur++r)→-(i:Int)≤o→o≤i→H [0]=⟨v,.arr 1 (acc.map S)⟩→acc.length≤dn.length→AW 0 [] s=acc++AW o cur r →
  LoopC (cx Tryz.prog w0 I0 n0) CX Q ⟨lk [(0,S s),(3,.osl [0] v 1 0 acc.length),(4,iv o),(5,iv dn.length),(6,iv i)],H⟩:=by
 intro r;induction r with
 |nil=>
  intro dn cur o v acc H i hi he h1 h2 hH ha hc;refine Ae mixed CX.eq_1 ?_;rw[List.append_nil] at he;have hlen:s.length=i:=by rw[he,hi];simp
  simp[hlen];exact hq H v dn cur acc o i he ha (by rw[hc,AW]) hH
 |cons x r ih=>
  intro dn cur o v acc H i hi he h1 h2 hH ha hc;have hl:i<s.length:=by rw[he,hi];simp
  have hx:s[i]? = some x:=by rw[he,← List.append_assoc,hi,← List.length_append];simp
  have hx2:s[i]=x:=by have:=List.getElem?_eq_getElem hl;rw[hx] at this;exact(Option.some.inj this).symm
  have ew:=A7 i;have ep:i64.wrap (o+1)=o+1:=EK;have em:i64.wrap (o-1)=o-1:=EK;have htk:(s.drop dn.length).take (i-dn.length)=cur:=by rw[he,hi,Nat.add_sub_cancel_left];simp
  have hle1:dn.length≤i:=by omega
  have hle2:(i:Int)≤s.length:=by omega
  have hi2:∀ y:UInt8,i+1=dn.length+(cur++[y]).length:=fun y=>by simp;omega
  refine Ae mixed CX.eq_1 ?_;rw[EB] at hc;by_cases a1:x=123∨x=91∨x=40
  ·have h44:¬ (o=0∧x=44):=fun e=>by rcases a1 with h | h | h<;>rw[h] at e<;>exact absurd e.2 (by decide)
   rw[if_neg h44,show Jt o x=o+1 by unfold Jt;rw[if_pos a1]] at hc;have next:=ih dn (cur++[x]) (o+1) v acc H (i+1) (hi2 x) (by rw[he];simp) (by omega) (by omega) hH ha hc
   clear h44;rcases a1 with rfl | rfl | rfl;all_goals
    simp[hl,hx,hx2];rw[BN.eq_1];simp[ew,ep];simpa using next
  ·by_cases a2:x=125∨x=93∨x=41
   ·have h44:¬ (o=0∧x=44):=fun e=>by rcases a2 with h | h | h<;>rw[h] at e<;>exact absurd e.2 (by decide)
    rw[if_neg h44,show Jt o x=o-1 by unfold Jt;rw[if_neg a1,if_pos a2]] at hc;have next:=ih dn (cur++[x]) (o-1) v acc H (i+1) (hi2 x) (by rw[he];simp) (by omega) (by omega) hH ha hc
    clear h44;rcases a2 with rfl | rfl | rfl;all_goals
     simp[hl,hx,hx2];rw[BN.eq_1];simp;rw[B9.eq_1];simp[ew,em];simpa using next
   ·rw[show Jt o x=o by unfold Jt;rw[if_neg a1,if_neg a2]] at hc;simp only[not_or] at a1 a2;have n1:=ub a1.1;have n2:=ub a1.2.1;have n3:=ub a1.2.2;have n4:=ub a2.1;have n5:=ub a2.2.1;have n6:=ub a2.2.2;have m1:=Pa a1.1;have m2:=Pa a1.2.1;have m3:=Pa a1.2.2;have m4:=Pa a2.1;have m5:=Pa a2.2.1;have m6:=Pa a2.2.2;simp at n1 n2 n3 n4 n5 n6 m1 m2 m3 m4 m5 m6;by_cases hk:x=44
    ·by_cases h0:o=0
     ·rw[if_pos ⟨h0,hk⟩] at hc;have next:=ih (dn++cur++[x]) [] 0 (v+1) (acc++[cur])
      subst hk h0;simp[hl,hx,hx2];rw[BN.eq_1];simp;rw[B9.eq_1];simp[ew,hH,htk,hle1,hle2];refine⟨by omega,?_⟩;have nx:=next (AR H [0] ⟨v+1,.arr 1 ((acc++[cur]).map S)⟩) (i+1) (by simp;omega) (by rw[he];simp) (by omega) (by omega) (by simp[Aa]) (by simp;omega) (by rw[hc];simp)
      have e44:(dn++cur++[(44:UInt8)]).length=i+1:=by simp;omega
      rw[e44] at nx;simpa[Fv] using nx
     ·rw[if_neg (fun e=>h0 e.1)] at hc;have next:=ih dn (cur++[x]) o v acc H (i+1) (hi2 x) (by rw[he];simp) (by omega) (by omega) hH ha hc
      subst hk;simp[hl,hx,hx2];rw[BN.eq_1];simp;rw[B9.eq_1];simp[ew,h0];simpa using next
    ·rw[if_neg (fun e=>hk e.2)] at hc;have next:=ih dn (cur++[x]) o v acc H (i+1) (hi2 x) (by rw[he];simp) (by omega) (by omega) hH ha hc
     have n7:=ub hk;have m7:=Pa hk;simp at n7 m7;simp[hl,hx,hx2,n1,n2,n3,n4,n5,n6,m1,m2,m3,m4,m5,m6];rw[BN.eq_1];simp[n1,n2,n3,n4,n5,n6,m1,m2,m3,m4,m5,m6];rw[B9.eq_1];simp[ew,n7,m7];simpa using next
theorem Mi {s:List UInt8} (hs:s.length≤1000000000):G.Spec Tryz.prog 48 [S s] (.sl false ((AW 0 [] s).map S)):=by
 refine Aj Me (by simp) fun w0 I0=>?_;unfold HD;simp;refine LoopC.le (Es 3 [0] 1 (by simp)) ?_;refine LoopC.le (A4 [(0,S s),(3,.osl [0] 1 1 0 0),(4,iv 0),(5,iv (0:Nat)),(6,iv (0:Nat))] (by simp)) ?_;refine a8 hs (fun H v dn cur acc o i he ha hc hH=>?_) s [] [] 0 1 [] _ 0 rfl rfl (by simp) (by simp) (by simp[Aa]) (by simp) (by simp);have hdl:dn.length≤s.length:=by rw[he];simp
 have c1:((dn.length:Int)≤s.length):=by omega
 have hdr:(s.drop dn.length).take (s.length-dn.length)=cur:=by rw[Fv (by simp),he];simp
 simp[hdl,hdr,hH];rw[hc];refine⟨by omega,?_⟩;exact Ed (f:=S) (l:=acc++[cur]) (by simp[Aa,Fv]) (by simp) (by simp)
def AE:Nat→List UInt8→Nat × Bool
 |n,[]=>(n,true)
 |n,c::r=>match Bg c with
  |some d=>AE (16*n+d) r
  |none=>(0,false)
def G1 (s:List UInt8):Nat × Bool:=if s.length=0∨16<s.length∨(1<s.length∧s.head? = some 48) then (0,false) else AE 0 s
def RP (q:Nat × Bool):A:=.tup [uv q.1,bv q.2]
set_option maxHeartbeats 2000000 in
theorem Z7 {s:List UInt8} (hs:s.length≤16)
  (hq1:AE 0 s=(0,false)→Q .ret ⟨lk [(2,uv 0),(3,bv false)],Dl []⟩)
  (hq2:∀ n:Nat,n<18446744073709551616→AE 0 s=(n,true)→Q (.exit 0) ⟨lk [(0,S s),(4,uv n),(5,iv s.length),(28,bv false)],Dl []⟩):∀ (r:List UInt8) (i n:Nat),r.length+i=s.length→s.drop i=r→n<16 ^ i→AE 0 s=AE n r →
  LoopC (cx Tryz.prog w0 I0 n0) B4 Q ⟨lk [(0,S s),(4,uv n),(5,iv i)],Dl []⟩:=by
 have pw:∀ i,i≤16→16 ^ i≤18446744073709551616:=fun i hi=>Nat.pow_le_pow_right (by omega) hi;intro r;induction r with
 |nil=>
  intro i n hl hd hn hc;refine Ae mixed B4.eq_1 ?_;have:i=s.length:=by simpa using hl
  subst this;simp;exact hq2 n (Nat.lt_of_lt_of_le hn (pw _ hs)) hc
 |cons x r ih=>
  intro i n hl hd hn hc;have hi:i<s.length:=by simp at hl;omega
  have hx:s[i]? = some x:=by
   have:=congrArg (fun l=>l[0]?) hd;simpa using this
  have hx2:s[i]=x:=by have:=List.getElem?_eq_getElem hi;rw[hx] at this;exact(Option.some.inj this).symm
  have hd2:s.drop (i+1)=r:=by rw[← List.drop_drop,hd];rfl
  have ew:=A7 i;have hp:=pw (i+1) (by omega);rw[Nat.pow_succ] at hp;rw[AE] at hc;have stp:∀ d:Nat,d<16→16*n+d<16 ^ (i+1):=fun d h=>by rw[Nat.pow_succ];omega
  have e1:u64.wrap (16*(n:Int))=16*(n:Int):=AX (by omega) (by omega);refine Ae mixed B4.eq_1 ?_;by_cases h1:48≤x.toNat∧x.toNat≤57
  ·have hv:Bg x=some (x.toNat-48):=by unfold Bg;rw[if_pos h1]
   rw[hv] at hc;have next:=ih (i+1) (16*n+(x.toNat-48)) (by simp at hl;omega) hd2 (stp _ (by omega)) hc
   have e2:IntKind.u8.wrap ((x.toNat:Int)-48)=((x.toNat-48:Nat):Int):=by rw[Lu (by omega) (by omega)];omega
   have e3:i64.wrap ((x.toNat-48:Nat):Int)=((x.toNat-48:Nat):Int):=EK;have e4:u64.wrap ((x.toNat-48:Nat):Int)=((x.toNat-48:Nat):Int):=AX (by omega) (by omega);have e5:u64.wrap (16*(n:Int)+((x.toNat-48:Nat):Int))=((16*n+(x.toNat-48):Nat):Int):=by rw[AX (by omega) (by have:=stp (x.toNat-48) (by omega);rw[Nat.pow_succ] at this;omega)];omega
   have a1:(48:Int)≤x.toNat:=by omega
   have a2:(x.toNat:Int)≤57:=by omega
   generalize hD:x.toNat-48=D at *;simp[hi,hx,hx2,a1,a2,h1.1,h1.2,e2,e3,e4,e1,e5,ew];simpa using next
  ·by_cases h2:97≤x.toNat∧x.toNat≤102
   ·have hv:Bg x=some (x.toNat-87):=by unfold Bg;rw[if_neg h1,if_pos h2]
    rw[hv] at hc;have next:=ih (i+1) (16*n+(x.toNat-87)) (by simp at hl;omega) hd2 (stp _ (by omega)) hc
    have e2:IntKind.u8.wrap ((x.toNat:Int)-97)=((x.toNat-97:Nat):Int):=by rw[Lu (by omega) (by omega)];omega
    have e3:i64.wrap ((x.toNat-97:Nat):Int)=((x.toNat-97:Nat):Int):=EK;have e6:i64.wrap (((x.toNat-97:Nat):Int)+10)=((x.toNat-87:Nat):Int):=DU;have e4:u64.wrap ((x.toNat-87:Nat):Int)=((x.toNat-87:Nat):Int):=AX (by omega) (by omega);have e5:u64.wrap (16*(n:Int)+((x.toNat-87:Nat):Int))=((16*n+(x.toNat-87):Nat):Int):=by rw[AX (by omega) (by have:=stp (x.toNat-87) (by omega);rw[Nat.pow_succ] at this;omega)];omega
    have a1:(48:Int)≤x.toNat:=by omega
    have a2:¬ (x.toNat:Int)≤57:=by omega
    have a3:(97:Int)≤x.toNat:=by omega
    have a4:(x.toNat:Int)≤102:=by omega
    have b1:48≤x.toNat:=by omega
    have b2:¬ x.toNat≤57:=by omega
    generalize hD:x.toNat-87=D at *;generalize hD2:x.toNat-97=D2 at *;simp[hi,hx,hx2,a1,a2,a3,a4,b1,b2,h2.1,h2.2,e2,e3,e4,e1,e5,e6,ew];simpa using next
   ·have hv:Bg x=none:=by unfold Bg;rw[if_neg h1,if_neg h2]
    rw[hv] at hc;have bad:Q .ret ⟨lk [(2,uv 0),(3,bv false)],Dl []⟩:=hq1 hc;by_cases c1:48≤x.toNat
    ·have b2:¬ x.toNat≤57:=by omega
     have a1:(48:Int)≤x.toNat:=by omega
     have a2:¬ (x.toNat:Int)≤57:=by omega
     by_cases c2:97≤x.toNat
     ·have b4:¬ x.toNat≤102:=by omega
      have a3:(97:Int)≤x.toNat:=by omega
      have a4:¬ (x.toNat:Int)≤102:=by omega
      simp[hi,hx,hx2,c1,b2,a1,a2,c2,b4,a3,a4];exact bad
     ·have a3:¬ (97:Int)≤x.toNat:=by omega
      simp[hi,hx,hx2,c1,b2,a1,a2,c2,a3];exact bad
    ·have a1:¬ (48:Int)≤x.toNat:=by omega
     have c2:¬ 97≤x.toNat:=by omega
     have a3:¬ (97:Int)≤x.toNat:=by omega
     simp[hi,hx,hx2,c1,a1,c2,a3];exact bad
theorem JH (s:List UInt8) (hs:s.length≤1000000000):G.Spec Tryz.prog 94 [S s] (RP (G1 s)):=by
 refine Aj LD (by simp) fun w0 I0=>?_;unfold G5 G1;cases s with
 |nil=>
  simp[RP];exact Ab rfl
 |cons x r=>
  by_cases h16:16<(x::r).length
  ·rw[if_pos (.inr (.inl h16))];have h16':(16:Int)<(r.length:Int)+1:=by simp at h16;omega
   simp at h16;simp[RP,h16,h16'];exact Ab rfl
  ·have hle:(x::r).length≤16:=by omega
   have h16':¬ (16:Int)<(r.length:Int)+1:=by simp at h16;omega
   by_cases hz:1<(x::r).length∧(x::r).head? = some 48
   ·rw[if_pos (.inr (.inr hz))];obtain⟨z1,z2⟩:=hz;simp at h16 z1 z2;subst z2;have z1':(1:Int)<(r.length:Int)+1:=by omega
    have hne0:¬ (r.length:Int)+1=0:=by omega
    simp[RP,h16,h16',z1,z1',hne0];exact Ab rfl
   ·rw[if_neg (fun h=>h.elim (fun h=>by simp at h) (fun h=>h.elim h16 hz))];have hne0:¬ (r.length:Int)+1=0:=by omega
    have goal:LoopC (cx Tryz.prog w0 I0 68) B4
      (Ci 0 (Dn (WPC (cx Tryz.prog w0 I0 68) (.keep [4] (.seq (.reg [co (some 67) (.move (.tmp 4)) none,co (some 2) (.assign (.tmp 67)) none,co (some 3) (.assign (.const (.bool true))) none] [2,3]) .ret)) (Ka Tryz.prog [.tmp 2,.tmp 3] (RP (AE 0 (x::r))))) (Ka Tryz.prog [.tmp 2,.tmp 3] (RP (AE 0 (x::r))))))
      ⟨lk [(0,S (x::r)),(4,uv (0:Nat)),(5,iv (0:Nat))],Dl []⟩:=by
     refine Z7 hle (fun h=>?_) (fun n hn h=>?_) (x::r) 0 0 (by simp) rfl (by simp) rfl
     ·rw[h];simp[RP];exact Ab rfl
     ·rw[h];simp[RP];exact Ab rfl
    by_cases z1:1<(x::r).length
    ·have hx:x ≠ 48:=fun e=>hz ⟨z1,by rw[e];rfl⟩;have n1:=ub hx;have m1:=Pa hx;simp at n1 m1 z1;have z1':(1:Int)<(r.length:Int)+1:=by omega
     simp at h16;simp[h16,h16',z1,z1',hne0,n1,m1];simpa using goal
    ·have hr:r=[]:=by simp at z1;exact z1
     subst hr;simp;simpa using goal
theorem UW:∀ (r:List UInt8) (i n:Nat),i+r.length≤16→n<16 ^ i→(AE n r).1<18446744073709551616
 |[],i,n,h,hn=>by
  rw[AE];have:16 ^ i≤16 ^ 16:=Nat.pow_le_pow_right (by omega) (by simpa using h);exact Nat.lt_of_lt_of_le hn this
 |c::r,i,n,h,hn=>by
  rw[AE];cases hv:Bg c with
  |none=>simp
  |some d=>
   have hd:d<16:=(Gl hv).1;exact UW r (i+1) _ (by simp at h;omega) (by rw[Nat.pow_succ];omega)
theorem Ll (s:List UInt8):(G1 s).1<18446744073709551616:=by
 unfold G1;split
 ·simp
 ·rename_i h;exact UW s 0 0 (by omega) (by simp)
def Df (s:List UInt8):Int:=if (G1 s).2=true∧(G1 s).1≤1048576 then ((G1 s).1:Int) else -1
theorem JO {s:List UInt8} (hs:s.length≤1000000000):G.Spec Tryz.prog 73 [S s] (iv (Df s)):=by
 refine Aj Ma (by simp) fun w0 I0=>?_;have t1:=JH s hs;unfold HL Df;unfold RP at t1;generalize (G1 s).1=n at *;generalize (G1 s).2=b at *;simp;refine Af t1 rfl ?_;cases b with
 |false=>
  simp;exact Ab rfl
 |true=>
  by_cases h:n≤1048576
  ·have h2:¬ (1048576:Int)<n:=by omega
   have e:i64.wrap (n:Int)=n:=EK;simp[h,h2,show ¬ 1048576<n by omega,e];exact Ab rfl
  ·have h2:(1048576:Int)<n:=by omega
   simp[h,h2,show 1048576<n by omega];exact Ab rfl
def Bz (c:UInt8) (s:List UInt8):List UInt8 × List UInt8 × Bool:=match GY c 0 [] s with
 |some (a,b)=>(a,b,true)
 |none=>([],[],false)
theorem Su {c:UInt8}:∀ (r pre:List UInt8) (o:Int) (a b:List UInt8),GY c o pre r=some (a,b)→a.length≤pre.length+r.length∧b.length≤r.length
 |[],pre,o,a,b,h=>by cases h
 |x::r,pre,o,a,b,h=>by
  rw[HF] at h;split at h
  ·cases h;simp
  ·have:=Su r _ _ _ _ h;simp at this ⊢;omega
theorem FW (c:UInt8) (s:List UInt8):(Bz c s).1.length≤s.length∧(Bz c s).2.1.length≤s.length:=by
 unfold Bz;cases h:GY c 0 [] s with
 |none=>simp
 |some q=>
  obtain⟨a,b⟩:=q;have:=Su _ _ _ _ _ h;simp at this ⊢;exact this
theorem Hj {s:List UInt8} (hs:s.length≤1000000000) (c:UInt8):G.Spec Tryz.prog 45 [S s,Gy c] (.tup [S (Bz c s).1,S (Bz c s).2.1,bv (Bz c s).2.2]):=by
 have:=ar hs c;unfold Bz;unfold eV at this;cases h:GY c 0 [] s with
 |none=>rw[h] at this;exact this
 |some q=>rw[h] at this;exact this
def F9 (s:List UInt8):WE × Bool:=
 let p:=Bz 58 s
 let q:=Bz 58 p.2.1
 let r:=Bz 58 q.2.1
 if p.2.2&&q.2.2&&r.2.2&&(G1 q.1).2&&(G1 r.1).2&&(G1 r.2.1).2&&decide ((G1 q.1).1≤255)&&decide (0≤Df p.1) then (⟨Df p.1,(G1 q.1).1,(G1 r.1).1,(G1 r.2.1).1⟩,true) else (⟨0,0,0,0⟩,false)
set_option maxHeartbeats 4000000 in
theorem U3 {s:List UInt8} (hs:s.length≤1000000000):G.Spec Tryz.prog 72 [S s] (.tup [wX (F9 s).1,bv (F9 s).2]):=by
 refine Aj Ns (by simp) fun w0 I0=>?_;unfold HX F9;have l1:=FW 58 s;have l2:=FW 58 (Bz 58 s).2.1;have l3:=FW 58 (Bz 58 (Bz 58 s).2.1).2.1;have t1:=Hj hs 58;have t2:=Hj (s:=(Bz 58 s).2.1) (by omega) 58;have t3:=Hj (s:=(Bz 58 (Bz 58 s).2.1).2.1) (by omega) 58;simp only;generalize Bz 58 (Bz 58 (Bz 58 s).2.1).2.1=r at *;generalize Bz 58 (Bz 58 s).2.1=q at *;generalize Bz 58 s=p at *;obtain⟨a,p2,ok⟩:=p;obtain⟨b,q2,is⟩:=q;obtain⟨c,d,was⟩:=r;simp only at *;have t4:=JH b (by omega);have t5:=JH c (by omega);have t6:=JH d (by omega);have t7:=JO (s:=a) (by omega);have b4:=Ll b;have b5:=Ll c;have b6:=Ll d;unfold RP at t4 t5 t6;generalize Df a=sm at *;generalize G1 b=m at *;generalize G1 c=old at *;generalize G1 d=now at *;obtain⟨m,x⟩:=m;obtain⟨old,y⟩:=old;obtain⟨now,z⟩:=now;simp only at *;have bad:∀ {H:Hp},Jr H (.tup [.agg [iv 0,u8 0,uv 0,uv 0],bv false]) (.tup [wX ⟨0,0,0,0⟩,bv false]):=Ab rfl;simp;refine Af t1 rfl ?_;simp;refine Af t2 rfl ?_;simp;refine Af t3 rfl ?_;cases ok with
 |false=>simp[Aa];exact bad
 |true=>
  cases is with
  |false=>simp[Aa];exact bad
  |true=>
   cases was with
   |false=>simp[Aa];exact bad
   |true=>
    simp;refine Af t4 rfl ?_;simp;refine Af t5 rfl ?_;simp;refine Af t6 rfl ?_;cases x with
    |false=>simp;refine Ao (L:=[]) (x:=iv 0) (q:=true) rfl (fun h=>by cases h) (fun h=>by cases h) rfl ?_;simp[Aa];exact bad
    |true=>
     cases y with
     |false=>simp;refine Ao (L:=[]) (x:=iv 0) (q:=true) rfl (fun h=>by cases h) (fun h=>by cases h) rfl ?_;simp[Aa];exact bad
     |true=>
      cases z with
      |false=>simp;refine Ao (L:=[]) (x:=iv 0) (q:=true) rfl (fun h=>by cases h) (fun h=>by cases h) rfl ?_;simp[Aa];exact bad
      |true=>
       by_cases hm:m≤255
       ·have hm1:¬ (255:Int)<m:=by omega
        have hm2:¬ 255<m:=by omega
        have e8:IntKind.u8.wrap (m:Int)=m:=Lu (by omega) (by omega);simp[hm,hm1,hm2];refine Ao (q:=false) rfl (fun _=>t7) (fun _=>rfl) rfl ?_;by_cases hsm:0≤sm
        ·simp[hsm,show ¬ sm<0 by omega];refine Af t7 rfl ?_;simp[e8,Aa];exact Ab rfl
        ·simp[hsm,show sm<0 by omega,Aa];exact bad
       ·have hm1:(255:Int)<m:=by omega
        have hm2:255<m:=by omega
        simp[hm,hm1,hm2];refine Ao (L:=[]) (x:=iv 0) (q:=true) rfl (fun h=>by cases h) (fun h=>by cases h) rfl ?_;simp[Aa];exact bad
abbrev qk:OP:=.mk 0 0 [] E0
def UB (rd:List UInt8→E × Bool) (l:Int):List UInt8→OP × Bool
 |[]=>(qk,false)
 |c::r=>if c=107 then (.mk 0 (Df r) [] E0,decide (0≤Df r))
  else if c=42 then (.mk 3 0 [] (rd r).1,(rd r).2)
  else if c=45∨c=43 then (.mk (if c=43 then 2 else 1) 0 (A0 AI r).kids E0,Kb AI r&&decide ((A0 AI r).kind=l))
  else (qk,false)
def jO (d:Nat) (rd:List UInt8→E × Bool):Prop:=∀ s:List UInt8,s.length≤1000000000→G.Spec Tryz.prog 29 [S s,iv d] (.tup [eX (rd s).1,bv (rd s).2])
theorem IU (rd:List UInt8→E × Bool) (l:Int) (c:UInt8) (r:List UInt8):UB rd l (c::r)=if c=107 then (.mk 0 (Df r) [] E0,decide (0≤Df r))
  else if c=42 then (.mk 3 0 [] (rd r).1,(rd r).2)
  else if c=45∨c=43 then (.mk (if c=43 then 2 else 1) 0 (A0 AI r).kids E0,Kb AI r&&decide ((A0 AI r).kind=l))
  else (qk,false):=rfl
abbrev sf (x:OP):List A:=iv x.kind::iv x.n::Eg x.l::eL x.e
theorem Yv {H:Hp} {cs:List A} {x:OP} {b:Bool} (h:Gv H cs (sf x)):Jr H (.tup [.agg cs,bv b]) (.tup [oX x,bv b]):=AF ⟨Ee h,Ab rfl,trivial⟩
set_option maxHeartbeats 4000000 in
theorem da {rd:List UInt8→E × Bool} {d:Nat} (hd:d≤1000) (hR:jO d rd) (l:Int) {s:List UInt8} (hs:s.length≤1000000000):G.Spec Tryz.prog 49 [S s,iv l,iv (d+1:Nat)] (.tup [oX (UB rd l s).1,bv (UB rd l s).2]):=by
 refine Aj PV (by simp) fun w0 I0=>?_;unfold J7;have bad:∀ {H:Hp},Jr H (.tup [.agg [iv 0,iv 0,.sl true [],iv 0,iv 0,.sl true [],.sl true [],iv 0,.sl true [],.sl true [],.sl true [],.sl true [],iv 0,.sl true []],bv false]) (.tup [oX qk,bv false]):=Yv ⟨Ab rfl,Ab rfl,Ad,Ab rfl,Ab rfl,Ad,Ad,Ab rfl,Ad,Ad,Ad,Ad,Ab rfl,Ad,trivial⟩;cases s with
 |nil=>
  simp[Dh,UB,Aa];exact bad
 |cons c r=>
  have hr:r.length≤1000000000:=by simp at hs;omega
  rw[IU];have h1r:(1:Int)≤(r.length:Int)+1:=by omega
  have ed1:i64.wrap ((d:Int)+1-1)=(d:Int):=DU;simp only[Int.add_sub_cancel] at ed1;by_cases c1:c=107
  ·subst c1;rw[if_pos rfl];have t1:=JO hr;simp[Dh,h1r];refine Af t1 rfl ?_;simp[h1r];refine Af t1 rfl ?_;simp[Aa];exact Yv ⟨Ab rfl,Ab rfl,Ad,Ab rfl,Ab rfl,Ad,Ad,Ab rfl,Ad,Ad,Ad,Ad,Ab rfl,Ad,trivial⟩
  ·rw[if_neg c1];by_cases c2:c=42
   ·subst c2;rw[if_pos rfl];have t1:=hR r hr;simp[Dh,ed1,h1r];refine Af t1 rfl ?_;simp[Aa,splice];exact Yv ⟨Ab rfl,Ab rfl,Ad,Ab rfl,Ab rfl,Ad,Ad,Ab rfl,Ad,Ad,Ad,Ad,Ab rfl,Ad,trivial⟩
   ·rw[if_neg c2];by_cases c3:c=45∨c=43
    ·rw[if_pos c3];have t1:=KC (s:=r) (by omega);have fin:∀ {H:Hp} {k:Int} {b:Bool} {L:List T},Jr H (.tup [.agg [iv k,iv 0,Eg L,iv 0,iv 0,.sl true [],.sl true [],iv 0,.sl true [],.sl true [],.sl true [],.sl true [],iv 0,.sl true []],bv b]) (.tup [oX (.mk k 0 L E0),bv b]):=Yv ⟨Ab rfl,Ab rfl,Ad,Ab rfl,Ab rfl,Ad,Ad,Ab rfl,Ad,Ad,Ad,Ad,Ab rfl,Ad,trivial⟩;generalize A0 AI r=t at *;generalize Kb AI r=b at *;rcases c3 with rfl | rfl
     ·simp[Dh];rw[EN.eq_1];simp[h1r];refine Af t1 rfl ?_;simp[Aa,splice];rw[Gr.eq_1];cases b with
      |false=>simp[Aa,splice];exact fin
      |true=>simp[Aa,splice];exact fin
     ·simp[Dh];rw[EN.eq_1];simp[h1r];refine Af t1 rfl ?_;simp[Aa,splice];rw[Gr.eq_1];cases b with
      |false=>simp[Aa,splice];exact fin
      |true=>simp[Aa,splice];exact fin
    ·rw[if_neg c3];simp only[not_or] at c3;have n1:=ub c1;have n2:=ub c2;have n3:=ub c3.1;have n4:=ub c3.2;have m1:=Pa c1;have m2:=Pa c2;have m3:=Pa c3.1;have m4:=Pa c3.2;simp at n1 n2 n3 n4 m1 m2 m3 m4;simp[Dh,n1,n2,n3,n4,m1,m2,m3,m4];rw[EN.eq_1];simp[Aa];exact bad
def Bu (first:List UInt8) (last:UInt8) (s:List UInt8):List UInt8 × Bool:=if first.length+1≤s.length∧s.take first.length=first∧s[s.length-1]? = some last then ((s.drop first.length).take (s.length-1-first.length),true) else ([],false)
theorem Gn (first:List UInt8) (last:UInt8) (s:List UInt8):(Bu first last s).1.length≤s.length:=by
 unfold Bu;split
 ·simp;omega
 ·simp
set_option maxHeartbeats 2000000 in
theorem Mj {s:List UInt8} (hs:s.length≤1000000000) (first:List UInt8) (hf:first.length≤100) (last:UInt8):G.Spec Tryz.prog 44 [S s,S first,Gy last] (.tup [S (Bu first last s).1,bv (Bu first last s).2]):=by
 refine Aj Md (by simp) fun w0 I0=>?_;unfold HG Bu;have e1:i64.wrap ((first.length:Int)+1)=(first.length:Int)+1:=EK;have e2:i64.wrap ((s.length:Int)-1)=(s.length:Int)-1:=EK;by_cases h1:first.length+1≤s.length
 ·have h1':¬ (s.length:Int)<(first.length:Int)+1:=by omega
  have h1a:first.length≤s.length:=by omega
  have e3:(s.length:Int)-1=((s.length-1:Nat):Int):=by omega
  have hl:s.length-1<s.length:=by omega
  by_cases h2:s.take first.length=first
  ·obtain⟨x,hx⟩:∃ x,s[s.length-1]? = some x:=⟨_,List.getElem?_eq_getElem hl⟩;have hx2:s[s.length-1]=x:=by have:=List.getElem?_eq_getElem hl;rw[hx] at this;exact(Option.some.inj this).symm
   by_cases h3:x=last
   ·rw[if_pos ⟨h1,h2,by rw[hx,h3]⟩];subst h3;rw[e3] at e2;have c1:(first.length:Int)≤((s.length-1:Nat):Int):=by omega
    have c2:((s.length-1:Nat):Int)≤(s.length:Int):=by omega
    have c3:first.length≤s.length-1:=by omega
    have c4:s.length-1≤s.length:=by omega
    generalize s.length-1=L at *;simp[e1,h1',h1a,h2,DY,e3,e2,hl,hx,hx2,c1,c2,c3,c4];exact Ab rfl
   ·rw[if_neg (fun h=>h3 (by have:=h.2.2;rw[hx] at this;exact Option.some.inj this))];have n1:=ub h3;have m1:=Pa h3;rw[e3] at e2;generalize s.length-1=L at *;simp[e1,h1',h1a,h2,DY,e3,e2,hl,hx,hx2,n1,m1];exact Ab rfl
  ·rw[if_neg (fun h=>h2 h.2.1)];simp[e1,h1',h1a,h2,DY];exact Ab rfl
 ·rw[if_neg (fun h=>h1 h.1)];have h1':(s.length:Int)<(first.length:Int)+1:=by omega
  simp[e1,h1'];exact Ab rfl
end Go.Proofs.YtebihdhapepejaaGreatDoor
namespace Go.Proofs.YtebihdhapepejaaGreatDoor
open Go Go.G Go.Proofs Go.PL
variable {φ:Prop} {n0:Nat} {w0:World} {I0:Nat→Prop} {M0:Nm→Nat→Prop} {m0:Mu} {Q:Exit→Sta→Prop}
set_option maxHeartbeats 4000000 in
theorem cW {s:List UInt8} (hs:s.length≤1000000000) {k0:Nat} {O1:VOb}:∀ (r:List UInt8) (k o:Nat) (H:Hp),s.drop k=r→k≤s.length→o≤k→(∀ p,H (0::p)=(CW s k).F 0 p)→H [1]=O1 →
  (∀ (H':Hp) (x y:A),(∀ p,H' (0::p)=(CW s (k+Bf o r)).F 0 p)→H' [1]=O1→Q (.exit 0) ⟨lk [(0,pp 0),(2,.pob [1] 1 0),(3,iv k0),(4,x),(14,y)],H'⟩) →
  (∀ (H':Hp) (x y:A),(∀ p,H' (0::p)=(CW s (k+Bf o r)).F 0 p)→H' [1]=O1→Q (.exit 0) ⟨lk [(0,pp 0),(2,.pob [1] 1 0),(3,iv k0),(4,x),(38,y)],H'⟩) →
  LoopC (PN NT φ Tryz.prog w0 I0 M0 n0 m0) Gz Q ⟨lk [(0,pp 0),(2,.pob [1] 1 0),(3,iv k0),(4,iv o)],H⟩:=by
 intro r;induction r with
 |nil=>
  intro k o H hr hk ho hH h1 hq hq2;have hke:k=s.length:=by
   have:=congrArg List.length hr;simp at this;omega
  have hn:=Dz s k hk;rw[hr] at hn;rw[show Ey ([]:List UInt8)=0 from rfl] at hn;refine Ae mixed Gz.eq_1 ?_;simp;refine Al 0 hn hH (by simp) (by simp) ?_;simp;exact hq _ _ _ (fun p=>by simp[Bf]) (by simp[h1])
 |cons c r ih=>
  intro k o H hr hk ho hH h1 hq hq2;have hlt:k<s.length:=by
   have:=congrArg List.length hr;simp at this;omega
  have hx:s[k]=c:=by
   rw[BR hlt] at hr;exact(List.cons.inj hr).1
  have hr':s.drop (k+1)=r:=by
   rw[BR hlt] at hr;exact(List.cons.inj hr).2
  have hn:=Dz s k hk;rw[Gp hlt,hx] at hn;have e1:=A7 k;refine Ae mixed Gz.eq_1 ?_;by_cases c0:c=0
  ·subst c0;simp;refine Al 0 hn hH (by simp) (by simp) ?_;simp;exact hq _ _ _ (fun p=>by simp[Bf]) (by simp[h1])
  by_cases c123:c=123
  ·subst c123;simp;refine Al 0 hn hH (by simp) (by simp) ?_;simp;refine Al 0 hn (fun p=>by simp) (by simp) (by simp) ?_;simp[e1];rw[CJ.eq_1];have e2:=A7 o;have e3:Bf o (123::r)=1+Bf (o+1) r:=by rw[Bf];simp
   rw[e3] at hq hq2;simp[e2,show ¬ ((o:Int)+1≤0) by omega];refine LoopC.le (A4 [(0,pp 0),(2,.pob [1] 1 0),(3,iv k0),(4,iv ((o+1):Nat))] (by simp)) ?_;exact ih (k+1) (o+1) _ hr' (by omega) (by omega) (fun p=>by by_cases hp:p=[]<;>simp[hp,Aa]) (by simp[Aa,h1]) (fun H' x y g=>hq H' x y (fun p=>by rw[← Nat.add_assoc];exact g p)) (fun H' x y g=>hq2 H' x y (fun p=>by rw[← Nat.add_assoc];exact g p))
  by_cases c91:c=91
  ·subst c91;simp;refine Al 0 hn hH (by simp) (by simp) ?_;simp;refine Al 0 hn (fun p=>by simp) (by simp) (by simp) ?_;simp[e1];rw[CJ.eq_1];have e2:=A7 o;have e3:Bf o (91::r)=1+Bf (o+1) r:=by rw[Bf];simp
   rw[e3] at hq hq2;simp[e2,show ¬ ((o:Int)+1≤0) by omega];refine LoopC.le (A4 [(0,pp 0),(2,.pob [1] 1 0),(3,iv k0),(4,iv ((o+1):Nat))] (by simp)) ?_;exact ih (k+1) (o+1) _ hr' (by omega) (by omega) (fun p=>by by_cases hp:p=[]<;>simp[hp,Aa]) (by simp[Aa,h1]) (fun H' x y g=>hq H' x y (fun p=>by rw[← Nat.add_assoc];exact g p)) (fun H' x y g=>hq2 H' x y (fun p=>by rw[← Nat.add_assoc];exact g p))
  by_cases c125:c=125
  ·subst c125;simp;refine Al 0 hn hH (by simp) (by simp) ?_;simp;refine Al 0 hn (fun p=>by simp) (by simp) (by simp) ?_;simp[e1];rw[CJ.eq_1];have e2:i64.wrap ((o:Int)-1)=(o:Int)-1:=EK;have e3:Bf o (125::r)=if o≤1 then 1 else 1+Bf (o-1) r:=by rw[Bf];simp
   rw[e3] at hq hq2;by_cases ho1:o≤1
   ·rw[if_pos ho1] at hq hq2;simp[e2,show(o:Int)-1≤0 by omega,show(o:Int)≤1 by omega];exact hq2 _ _ _ (fun p=>by by_cases hp:p=[]<;>simp[hp,Aa]) (by simp[Aa,h1])
   ·rw[if_neg ho1] at hq hq2;simp[e2,show ¬ ((o:Int)-1≤0) by omega,show ¬ ((o:Int)≤1) by omega];have e4:(o:Int)-1=((o-1:Nat):Int):=by omega
    rw[e4];refine LoopC.le (A4 [(0,pp 0),(2,.pob [1] 1 0),(3,iv k0),(4,iv ((o-1):Nat))] (by simp)) ?_;exact ih (k+1) (o-1) _ hr' (by omega) (by omega) (fun p=>by by_cases hp:p=[]<;>simp[hp,Aa]) (by simp[Aa,h1]) (fun H' x y g=>hq H' x y (fun p=>by rw[← Nat.add_assoc];exact g p)) (fun H' x y g=>hq2 H' x y (fun p=>by rw[← Nat.add_assoc];exact g p))
  by_cases c93:c=93
  ·subst c93;simp;refine Al 0 hn hH (by simp) (by simp) ?_;simp;refine Al 0 hn (fun p=>by simp) (by simp) (by simp) ?_;simp[e1];rw[CJ.eq_1];have e2:i64.wrap ((o:Int)-1)=(o:Int)-1:=EK;have e3:Bf o (93::r)=if o≤1 then 1 else 1+Bf (o-1) r:=by rw[Bf];simp
   rw[e3] at hq hq2;by_cases ho1:o≤1
   ·rw[if_pos ho1] at hq hq2;simp[e2,show(o:Int)-1≤0 by omega,show(o:Int)≤1 by omega];exact hq2 _ _ _ (fun p=>by by_cases hp:p=[]<;>simp[hp,Aa]) (by simp[Aa,h1])
   ·rw[if_neg ho1] at hq hq2;simp[e2,show ¬ ((o:Int)-1≤0) by omega,show ¬ ((o:Int)≤1) by omega];have e4:(o:Int)-1=((o-1:Nat):Int):=by omega
    rw[e4];refine LoopC.le (A4 [(0,pp 0),(2,.pob [1] 1 0),(3,iv k0),(4,iv ((o-1):Nat))] (by simp)) ?_;exact ih (k+1) (o-1) _ hr' (by omega) (by omega) (fun p=>by by_cases hp:p=[]<;>simp[hp,Aa]) (by simp[Aa,h1]) (fun H' x y g=>hq H' x y (fun p=>by rw[← Nat.add_assoc];exact g p)) (fun H' x y g=>hq2 H' x y (fun p=>by rw[← Nat.add_assoc];exact g p))
  by_cases c95:c=95
  ·subst c95;simp;refine Al 0 hn hH (by simp) (by simp) ?_;simp;refine Al 0 hn (fun p=>by simp) (by simp) (by simp) ?_;simp[e1];rw[CJ.eq_1];have e3:Bf o (95::r)=if o=0 then 1 else 1+Bf o r:=by rw[Bf];simp
   rw[e3] at hq hq2;by_cases ho1:o=0
   ·rw[if_pos ho1] at hq hq2;simp[show(o:Int)≤0 by omega,ho1];exact hq2 _ _ _ (fun p=>by by_cases hp:p=[]<;>simp[hp,Aa]) (by simp[Aa,h1])
   ·rw[if_neg ho1] at hq hq2;simp[show ¬ ((o:Int)≤0) by omega,ho1];refine LoopC.le (A4 [(0,pp 0),(2,.pob [1] 1 0),(3,iv k0),(4,iv (o:Nat))] (by simp)) ?_;exact ih (k+1) o _ hr' (by omega) (by omega) (fun p=>by by_cases hp:p=[]<;>simp[hp,Aa]) (by simp[Aa,h1]) (fun H' x y g=>hq H' x y (fun p=>by rw[← Nat.add_assoc];exact g p)) (fun H' x y g=>hq2 H' x y (fun p=>by rw[← Nat.add_assoc];exact g p))
  have ne:∀ v:UInt8,c ≠ v→¬ (c.toNat:Int)=v.toNat∧¬ c.toNat=v.toNat:=fun v h=>⟨fun e=>h (u8_inj.1 e),fun e=>h (UInt8.toNat_inj.1 e)⟩;have f0:=ne 0 c0;have f1:=ne 123 c123;have f2:=ne 91 c91;have f3:=ne 125 c125;have f4:=ne 93 c93;have f5:=ne 95 c95;simp at f0 f1 f2 f3 f4 f5;have e3:Bf o (c::r)=1+Bf o r:=by rw[Bf];simp[c0,c123,c91,c125,c93,c95]
  rw[e3] at hq hq2;simp;refine Al 0 hn hH (by simp) (by simp) ?_;simp[f0,c0];refine Al 0 hn (fun p=>by simp) (by simp) (by simp) ?_;simp[e1];rw[CJ.eq_1];simp[f1,f2,f3,f4,f5,c123,c91,c125,c93,c95];refine LoopC.le (A4 [(0,pp 0),(2,.pob [1] 1 0),(3,iv k0),(4,iv (o:Nat))] (by simp)) ?_;exact ih (k+1) o _ hr' (by omega) (by omega) (fun p=>by by_cases hp:p=[]<;>simp[hp,Aa]) (by simp[Aa,h1]) (fun H' x y g=>hq H' x y (fun p=>by rw[← Nat.add_assoc];exact g p)) (fun H' x y g=>hq2 H' x y (fun p=>by rw[← Nat.add_assoc];exact g p))
theorem ga (t:T):Gb (fun _=>tX t):=Jl (cs:=[iv t.kind,IT t.words,Eg t.kids]) rfl fun x hx=>by simp at hx;rcases hx with rfl | rfl | rfl<;>rfl
set_option maxHeartbeats 1000000 in
theorem JD {s:List UInt8} (hs:s.length≤1000000000) (k:Nat) (hk:k≤s.length):Ow NT Tryz.prog 62 (fun r=>[pp r]) (CW s k) (LF tX s k (CE (s.drop k))):=by
 refine M3 T7 (by simp) (Ak A8 Ay) (GI ga) fun w0 I0 M0 m0=>?_;have hle:=RE (s.drop k) 0;rw[List.length_drop] at hle;unfold ND;simp;refine LoopC.le (A4 [(0,pp 0),(2,.pob [1] 1 0),(3,iv k),(4,iv (0:Nat))] (by simp)) ?_;have k2:∀ H':Hp,(∀ p,H' (0::p)=(CW s (k+Bf 0 (s.drop k))).F 0 p)→H' [1]=⟨1,.cells [iv 0,.sl true [],.sl true []]⟩ →
   WPC (PN NT (LF tX s k (CE (s.drop k))=none) Tryz.prog w0 I0 M0 57 m0) II (Ix (PN NT (LF tX s k (CE (s.drop k))=none) Tryz.prog w0 I0 M0 57 m0) [.cell 2 25] (LF tX s k (CE (s.drop k)))) ⟨lk [(0,pp 0),(2,.pob [1] 1 0),(3,iv k)],H'⟩:=fun H' g g1=>by
  unfold CE;obtain⟨n,hn⟩:∃ n,n=Bf 0 (s.drop k):=⟨_,rfl⟩;rw[← hn] at hle g ⊢;have hp:=Qb (s:=(s.drop k).take n) (by simp;omega);have c1:(0≤(k:Int)+n∧(k:Int)+n≤s.length)=True:=eq_true (by omega);have c2:((k:Int)+n).toNat=k+n:=by omega
  rw[II.eq_1];simp[g,c1,c2,show(k:Int)≤(k:Int)+n by omega];refine Af hp rfl ?_;generalize hT:A0 AG ((s.drop k).take n)=T;cases hok:Kb AG ((s.drop k).take n) with
  |false=>
   simp;refine AL (.tup []) 0 (C6 (CW s (k+n))) ⟨rfl,by simp⟩ (fun p=>by simp[g,Aa]) (by simp) (by simp) ?_;simp;exact Aw (AK 0 (by simp[A5]))
  |true=>
   simp;refine AA ?_;simp[g1,Ix,Aa];exact Bh (r0:=tX T) (by simp[J9]) rfl (fun p=>by simp[g,Aa])
 exact cW (O1:=⟨1,.cells [iv 0,.sl true [],.sl true []]⟩) hs (s.drop k) k 0 _ rfl hk (by omega) (fun p=>by simp) (by simp) (fun H' x y g g1=>by simp;exact k2 H' g g1) (fun H' x y g g1=>by simp;exact k2 H' g g1)
def c7 (s:List UInt8) (k:Nat) (o:Option Nat):Option ((Nat→A) × Fam):=o.map fun n=>(fun _=>.tup [],CW s (k+n))
theorem Va {s:List UInt8} {k:Nat} {c:UInt8}:Nx s k c=c7 s k (AY c (s.drop k)):=by
 unfold Nx AY c7;split<;>rfl
theorem ZO {s:List UInt8} {k n:Nat}:N5 s k n=c7 s k (Cg n (s.drop k)):=by
 unfold N5 Cg;split
 ·rfl
 ·exact Va
theorem F3 {s:List UInt8} {k:Nat} {c:UInt8} (hk:k≤s.length) (hs:s.length≤1000000000) (hc:c ≠ 0):Ow NT Tryz.prog 63 (fun r=>[pp r,Gy c]) (CW s k) (c7 s k (AY c (s.drop k))):=by
 rw[← Va];exact Sz s k c hk hs hc
theorem Ru {s:List UInt8} {k n:Nat} (hk:k≤s.length) (hs:s.length≤1000000000):Ow NT Tryz.prog 82 (fun r=>[pp r,iv n]) (CW s k) (c7 s k (Cg n (s.drop k))):=by
 rw[← ZO];exact WY s k n hk hs
theorem GN (s:List UInt8) (p:Nat):Jh (s.drop p)=match DN 1048576 (s.drop p) with
 |none=>none
 |some (a,k1)=>match AY 58 (s.drop (p+k1)) with
  |none=>none
  |some _=>match DN 255 (s.drop (p+k1+1)) with
   |none=>none
   |some (m,k2)=>match AY 58 (s.drop (p+k1+1+k2)) with
    |none=>none
    |some _=>match DN 18446744073709551615 (s.drop (p+k1+1+k2+1)) with
     |none=>none
     |some (o,k3)=>match AY 58 (s.drop (p+k1+1+k2+1+k3)) with
      |none=>none
      |some _=>match DN 18446744073709551615 (s.drop (p+k1+1+k2+1+k3+1)) with
       |none=>none
       |some (w,k4)=>some (⟨a,m,o,w⟩,k1+1+k2+1+k3+1+k4):=by
 unfold Jh;simp only[List.drop_drop,Nat.add_assoc];rfl
theorem DZ (s:List UInt8) (f n k:Nat):B5 (f+1) n (s.drop k)=if Ey (s.drop k)=124 then some ([],0) else match Cg n (s.drop k) with
  |none=>none
  |some k0=>match Jh (s.drop (k+k0)) with
   |none=>none
   |some (w,k1)=>match B5 f (n+1) (s.drop (k+k0+k1)) with
    |none=>none
    |some (ws,k2)=>some (w::ws,k0+k1+k2):=by
 rw[B5];simp only[List.drop_drop,Nat.add_assoc];rfl
def sE (W K:A):List A:=[iv 2,iv 0,.sl true [],.sl true [],iv 0,.sl true [],.sl true [],W,K,iv 0,.sl true []]
set_option maxHeartbeats 8000000 in
theorem ir {s:List UInt8} (hs:s.length≤1000000000) {a1:A} {O1:VOb} {K:A}:∀ (f k v:Nat) (acc:List WE) (H:Hp),k≤s.length→s.length-k<f→acc.length≤k→(∀ p,H (0::p)=(CW s k).F 0 p)→H [1]=O1→H [2]=⟨1,.cells (sE (.osl [4] v 4 0 acc.length) K)⟩→H [4]=⟨v,.arr 4 (acc.map wX)⟩ →
  (B5 f acc.length (s.drop k)=none→φ) →
  (∀ (ws:List WE) (n:Nat),B5 f acc.length (s.drop k)=some (ws,n)→∀ (H':Hp) (v':Nat),(∀ p,H' (0::p)=(CW s (k+n)).F 0 p)→H' [1]=O1→H' [2]=⟨1,.cells (sE (.osl [4] v' 4 0 (acc++ws).length) K)⟩→H' [4]=⟨v',.arr 4 ((acc++ws).map wX)⟩ →
   Q (.exit 0) ⟨lk [(0,pp 0),(1,a1),(4,.pob [1] 1 0),(5,.pob [2] 1 0),(13,bv false)],H'⟩) →
  LoopC (PN NT φ Tryz.prog w0 I0 M0 n0 m0) Fy Q ⟨lk [(0,pp 0),(1,a1),(4,.pob [1] 1 0),(5,.pob [2] 1 0)],H⟩:=by
 intro f;induction f with
 |zero=>intro k v acc H hk hf;omega
 |succ f ih=>
  intro k v acc H hk hf hac hH h1 h2 h4 hφ hq;have hn:=Dz s k hk;refine Ae mixed Fy.eq_1 ?_;simp;refine Al 0 hn hH (by simp) (by simp) ?_;by_cases hx:Ey (s.drop k)=124
  ·rw[hx];simp;exact hq [] 0 (by unfold B5;rw[if_pos hx]) _ v (fun p=>by simp) (by simp[h1]) (by simp[h2]) (by simp[h4])
  ·have hx1:¬ ((Ey (s.drop k)).toNat:Int)=124:=fun e=>hx ((u8_inj (b:=124)).1 e);have hx2:¬ (Ey (s.drop k)).toNat=124:=fun e=>hx1 (by omega);simp[hx1,hx2,hx];have t0:=Ru (n:=acc.length) hk hs;have hdl:(s.drop k).length=s.length-k:=by simp
   simp[h2,sE];cases e0:Cg acc.length (s.drop k) with
   |none=>
    rw[e0] at t0;refine AL (.tup []) 0 t0 ⟨rfl,hφ (by rw[DZ,if_neg hx,e0])⟩ (fun p=>by simp) (by simp) (by simp) ?_;simp;exact Aw (AK 0 (by simp[A5]))
   |some k0=>
    rw[e0] at t0;have b0:=Hl e0;rw[hdl] at b0;refine Al 0 t0 (fun p=>by simp) (by simp) (by simp) ?_;simp;refine AA ?_;simp;have t1:=KA hs (k+k0) (by omega);cases e1:DN 1048576 (s.drop (k+k0)) with
    |none=>
     rw[e1] at t1;refine AL (iv 0) 0 t1 ⟨rfl,hφ (by rw[DZ,if_neg hx,e0];simp only;rw[GN,e1])⟩ (fun p=>by simp) (by simp) (by simp) ?_;simp[Aa];exact Aw (AK 0 (by simp[A5]))
    |some q1=>
     obtain⟨a,k1⟩:=q1;rw[e1] at t1;have b1:=F8 e1;simp only[List.length_drop] at b1;refine Al 0 t1 (fun p=>by simp[Aa]) (by simp) (by simp) ?_;simp[Aa];refine AA ?_;simp;have t2:=F3 (s:=s) (k:=k+k0+k1) (c:=58) (by omega) hs (by decide);cases e2:AY 58 (s.drop (k+k0+k1)) with
     |none=>
      rw[e2] at t2;refine AL (.tup []) 0 t2 ⟨rfl,hφ (by rw[DZ,if_neg hx,e0];simp only;rw[GN,e1];simp only;rw[e2])⟩ (fun p=>by simp) (by simp) (by simp) ?_;simp[Aa];exact Aw (AK 0 (by simp[A5]))
     |some n2=>
      rw[e2] at t2;obtain⟨rfl,b2⟩:=BC e2;simp only[List.length_drop] at b2;refine Al 0 t2 (fun p=>by simp[Aa]) (by simp) (by simp) ?_;simp[Aa];refine AA ?_;simp;have t3:=JJ hs (k+k0+k1+1) 255 (by omega) (by omega);cases e3:DN 255 (s.drop (k+k0+k1+1)) with
      |none=>
       rw[e3] at t3;refine AL (uv 0) 0 t3 ⟨rfl,hφ (by rw[DZ,if_neg hx,e0];simp only;rw[GN,e1];simp only;rw[e2];simp only;rw[e3])⟩ (fun p=>by simp) (by simp) (by simp) ?_;simp[Aa];exact Aw (AK 0 (by simp[A5]))
      |some q3=>
       obtain⟨m,k2⟩:=q3;rw[e3] at t3;have b3:=F8 e3;simp only[List.length_drop] at b3;refine Al 0 t3 (fun p=>by simp[Aa]) (by simp) (by simp) ?_;simp[Aa];refine AA ?_;simp;have t4:=F3 (s:=s) (k:=k+k0+k1+1+k2) (c:=58) (by omega) hs (by decide);cases e4:AY 58 (s.drop (k+k0+k1+1+k2)) with
       |none=>
        rw[e4] at t4;refine AL (.tup []) 0 t4 ⟨rfl,hφ (by rw[DZ,if_neg hx,e0];simp only;rw[GN,e1];simp only;rw[e2];simp only;rw[e3];simp only;rw[e4])⟩ (fun p=>by simp) (by simp) (by simp) ?_;simp[Aa];exact Aw (AK 0 (by simp[A5]))
       |some n4=>
        rw[e4] at t4;obtain⟨rfl,b4⟩:=BC e4;simp only[List.length_drop] at b4;refine Al 0 t4 (fun p=>by simp[Aa]) (by simp) (by simp) ?_;simp[Aa];refine AA ?_;simp;have t5:=JJ hs (k+k0+k1+1+k2+1) 18446744073709551615 (by omega) (by omega);cases e5:DN 18446744073709551615 (s.drop (k+k0+k1+1+k2+1)) with
        |none=>
         rw[e5] at t5;refine AL (uv 0) 0 t5 ⟨rfl,hφ (by rw[DZ,if_neg hx,e0];simp only;rw[GN,e1];simp only;rw[e2];simp only;rw[e3];simp only;rw[e4];simp only;rw[e5])⟩ (fun p=>by simp) (by simp) (by simp) ?_;simp[Aa];exact Aw (AK 0 (by simp[A5]))
        |some q5=>
         obtain⟨o,k3⟩:=q5;rw[e5] at t5;have b5:=F8 e5;simp only[List.length_drop] at b5;refine Al 0 t5 (fun p=>by simp[Aa]) (by simp) (by simp) ?_;simp[Aa];refine AA ?_;simp;have t6:=F3 (s:=s) (k:=k+k0+k1+1+k2+1+k3) (c:=58) (by omega) hs (by decide);cases e6:AY 58 (s.drop (k+k0+k1+1+k2+1+k3)) with
         |none=>
          rw[e6] at t6;refine AL (.tup []) 0 t6 ⟨rfl,hφ (by rw[DZ,if_neg hx,e0];simp only;rw[GN,e1];simp only;rw[e2];simp only;rw[e3];simp only;rw[e4];simp only;rw[e5];simp only;rw[e6])⟩ (fun p=>by simp) (by simp) (by simp) ?_;simp[Aa];exact Aw (AK 0 (by simp[A5]))
         |some n6=>
          rw[e6] at t6;obtain⟨rfl,b6⟩:=BC e6;simp only[List.length_drop] at b6;refine Al 0 t6 (fun p=>by simp[Aa]) (by simp) (by simp) ?_;simp[Aa];refine AA ?_;simp;have t7:=JJ hs (k+k0+k1+1+k2+1+k3+1) 18446744073709551615 (by omega) (by omega);cases e7:DN 18446744073709551615 (s.drop (k+k0+k1+1+k2+1+k3+1)) with
          |none=>
           rw[e7] at t7;refine AL (uv 0) 0 t7 ⟨rfl,hφ (by rw[DZ,if_neg hx,e0];simp only;rw[GN,e1];simp only;rw[e2];simp only;rw[e3];simp only;rw[e4];simp only;rw[e5];simp only;rw[e6];simp only;rw[e7])⟩ (fun p=>by simp) (by simp) (by simp) ?_;simp[Aa];exact Aw (AK 0 (by simp[A5]))
          |some q7=>
           obtain⟨w,k4⟩:=q7;rw[e7] at t7;have b7:=F8 e7;simp only[List.length_drop] at b7;refine Al 0 t7 (fun p=>by simp[Aa]) (by simp) (by simp) ?_;simp[Aa];refine AA ?_;simp;have hw:Jh (s.drop (k+k0))=some (⟨a,m,o,w⟩,k1+1+k2+1+k3+1+k4):=by rw[GN,e1];simp only;rw[e2];simp only;rw[e3];simp only;rw[e4];simp only;rw[e5];simp only;rw[e6];simp only;rw[e7]
           obtain⟨w1,w2,_⟩:=UA hw;simp only[List.length_drop] at w2;have e9:IntKind.u8.wrap (m:Int)=m:=Lu (by omega) (by omega);simp[Aa,h2,h4,sE,splice,e9];refine⟨by omega,?_⟩;have ew:∀ ws n,B5 f (acc++[(⟨a,m,o,w⟩:WE)]).length (s.drop (k+k0+k1+1+k2+1+k3+1+k4))=some (ws,n)→B5 (f+1) acc.length (s.drop k)=some (⟨a,m,o,w⟩::ws,k0+(k1+1+k2+1+k3+1+k4)+n):=fun ws n h=>by
            rw[DZ,if_neg hx,e0];simp only;rw[hw];simp only;rw[show k+k0+(k1+1+k2+1+k3+1+k4)=k+k0+k1+1+k2+1+k3+1+k4 by omega];rw[List.length_append,List.length_singleton] at h;rw[h]
           have ew2:B5 f (acc++[(⟨a,m,o,w⟩:WE)]).length (s.drop (k+k0+k1+1+k2+1+k3+1+k4))=none→B5 (f+1) acc.length (s.drop k)=none:=fun h=>by
            rw[DZ,if_neg hx,e0];simp only;rw[hw];simp only;rw[show k+k0+(k1+1+k2+1+k3+1+k4)=k+k0+k1+1+k2+1+k3+1+k4 by omega];rw[List.length_append,List.length_singleton] at h;rw[h]
           refine ih (k+k0+k1+1+k2+1+k3+1+k4) (v+1) (acc++[⟨a,m,o,w⟩]) _ (by omega) (by omega) (by simp;omega) (fun p=>by simp) (by simp[Aa,h1]) (by simp[Aa,sE]) (by simp[Aa,Fv]) (fun hN=>hφ (ew2 hN)) (fun ws n h H' v' g0 g1 g2 g4=>?_);refine hq (⟨a,m,o,w⟩::ws) _ (ew ws n h) H' v' (fun p=>?_) g1 ?_ ?_
           ·rw[g0];congr 2;omega
           ·rw[g2];simp
           ·rw[g4];simp
theorem PY (ed:List UInt8→Option (E × Nat)) (s:List UInt8) (p:Nat):N9 ed (s.drop p)=match DN 1048576 (s.drop p) with
 |none=>none
 |some (a,k1)=>match AY 58 (s.drop (p+k1)) with
  |none=>none
  |some _=>match ed (s.drop (p+k1+1)) with
   |none=>none
   |some (e,k2)=>some (.mk a e,k1+1+k2):=by
 unfold N9;simp only[List.drop_drop,Nat.add_assoc];rfl
theorem Ja (ed:List UInt8→Option (E × Nat)) (s:List UInt8) (f n k:Nat):Dq ed (f+1) n (s.drop k)=if Ey (s.drop k)=125 then some ([],0) else match Cg n (s.drop k) with
  |none=>none
  |some k0=>match N9 ed (s.drop (k+k0)) with
   |none=>none
   |some (w,k1)=>match Dq ed f (n+1) (s.drop (k+k0+k1)) with
    |none=>none
    |some (ws,k2)=>some (w::ws,k0+k1+k2):=by
 rw[Dq];simp only[List.drop_drop,Nat.add_assoc];rfl
theorem P7 (e:E):Gb (fun _=>eX e):=Jl (cs:=eL e) rfl fun x hx=>by simp at hx;rcases hx with rfl | rfl | rfl | rfl | rfl | rfl | rfl | rfl | rfl | rfl | rfl<;>rfl
def kR (d:Nat) (s:List UInt8):Prop:=∀ k,k≤s.length→Ow NT Tryz.prog 40 (fun r=>[pp r,iv d]) (CW s k) (LF eX s k (Be d (s.drop k)))
set_option maxHeartbeats 8000000 in
theorem jx {s:List UInt8} (hs:s.length≤1000000000) {d:Nat} (hd:d≤1000) (hT:kR d s) {O1 O4:VOb} {W:A}:∀ (f k v:Nat) (acc:List KE) (H:Hp),k≤s.length→s.length-k<f→acc.length≤k→(∀ p,H (0::p)=(CW s k).F 0 p)→H [1]=O1→H [2]=⟨1,.cells (sE W (.osl [6] v 12 0 acc.length))⟩→H [4]=O4→H [6]=⟨v,.arr 12 (acc.map kX)⟩ →
  (Dq (Be d) f acc.length (s.drop k)=none→φ) →
  (∀ (ws:List KE) (n:Nat),Dq (Be d) f acc.length (s.drop k)=some (ws,n)→∀ (H':Hp) (v':Nat),(∀ p,H' (0::p)=(CW s (k+n)).F 0 p)→H' [1]=O1→H' [2]=⟨1,.cells (sE W (.osl [6] v' 12 0 (acc++ws).length))⟩→H' [4]=O4→H' [6]=⟨v',.arr 12 ((acc++ws).map kX)⟩ →
   Q (.exit 2) ⟨lk [(0,pp 0),(1,iv (d+1:Nat)),(4,.pob [1] 1 0),(5,.pob [2] 1 0),(48,bv false)],H'⟩) →
  LoopC (PN NT φ Tryz.prog w0 I0 M0 n0 m0) Fs Q ⟨lk [(0,pp 0),(1,iv (d+1:Nat)),(4,.pob [1] 1 0),(5,.pob [2] 1 0)],H⟩:=by
 have ed1:i64.wrap ((d:Int)+1-1)=(d:Int):=DU;simp only[Int.add_sub_cancel] at ed1;intro f;induction f with
 |zero=>intro k v acc H hk hf;omega
 |succ f ih=>
  intro k v acc H hk hf hac hH h1 h2 h4 h6 hφ hq;have hn:=Dz s k hk;refine Ae mixed Fs.eq_1 ?_;simp;refine Al 0 hn hH (by simp) (by simp) ?_;by_cases hx:Ey (s.drop k)=125
  ·rw[hx];simp;exact hq [] 0 (by unfold Dq;rw[if_pos hx]) _ v (fun p=>by simp) (by simp[h1]) (by simp[h2]) (by simp[h4]) (by simp[h6])
  ·have hx1:¬ ((Ey (s.drop k)).toNat:Int)=125:=fun e=>hx ((u8_inj (b:=125)).1 e);have hx2:¬ (Ey (s.drop k)).toNat=125:=fun e=>hx1 (by omega);simp[hx1,hx2,hx];have t0:=Ru (n:=acc.length) hk hs;have hdl:(s.drop k).length=s.length-k:=by simp
   simp[h2,sE];cases e0:Cg acc.length (s.drop k) with
   |none=>
    rw[e0] at t0;refine AL (.tup []) 0 t0 ⟨rfl,hφ (by rw[Ja,if_neg hx,e0])⟩ (fun p=>by simp) (by simp) (by simp) ?_;simp;exact Aw (AK 0 (by simp[A5]))
   |some k0=>
    rw[e0] at t0;have b0:=Hl e0;rw[hdl] at b0;refine Al 0 t0 (fun p=>by simp) (by simp) (by simp) ?_;simp;refine AA ?_;simp;have t1:=KA hs (k+k0) (by omega);cases e1:DN 1048576 (s.drop (k+k0)) with
    |none=>
     rw[e1] at t1;refine AL (iv 0) 0 t1 ⟨rfl,hφ (by rw[Ja,if_neg hx,e0];simp only;rw[PY,e1])⟩ (fun p=>by simp) (by simp) (by simp) ?_;simp[Aa];exact Aw (AK 0 (by simp[A5]))
    |some q1=>
     obtain⟨a,k1⟩:=q1;rw[e1] at t1;have b1:=F8 e1;simp only[List.length_drop] at b1;refine Al 0 t1 (fun p=>by simp[Aa]) (by simp) (by simp) ?_;simp[Aa];refine AA ?_;simp;have t2:=F3 (s:=s) (k:=k+k0+k1) (c:=58) (by omega) hs (by decide);cases e2:AY 58 (s.drop (k+k0+k1)) with
     |none=>
      rw[e2] at t2;refine AL (.tup []) 0 t2 ⟨rfl,hφ (by rw[Ja,if_neg hx,e0];simp only;rw[PY,e1];simp only;rw[e2])⟩ (fun p=>by simp) (by simp) (by simp) ?_;simp[Aa];exact Aw (AK 0 (by simp[A5]))
     |some n2=>
      rw[e2] at t2;obtain⟨rfl,b2⟩:=BC e2;simp only[List.length_drop] at b2;refine Al 0 t2 (fun p=>by simp[Aa]) (by simp) (by simp) ?_;simp[Aa];refine AA ?_;simp[ed1];have t3:=hT (k+k0+k1+1) (by omega);cases e3:Be d (s.drop (k+k0+k1+1)) with
      |none=>
       rw[e3] at t3;refine AL (eX E0) 0 t3 ⟨rfl,hφ (by rw[Ja,if_neg hx,e0];simp only;rw[PY,e1];simp only;rw[e2];simp only;rw[e3])⟩ (fun p=>by simp) (by simp) (by simp) ?_;simp[Aa];exact Aw (AK 0 (by simp[A5]))
      |some q3=>
       obtain⟨e,k2⟩:=q3;rw[e3] at t3;have b3:=KZ _ _ _ e3;simp only[List.length_drop] at b3;refine Al 0 t3 (fun p=>by simp[Aa]) (by simp) (by simp) ?_;simp[Aa];refine AA ?_;simp;have hw:N9 (Be d) (s.drop (k+k0))=some (.mk a e,k1+1+k2):=by rw[PY,e1];simp only;rw[e2];simp only;rw[e3]
       simp[Aa,h2,h6,sE,splice];refine⟨by omega,?_⟩;have ew:∀ ws n,Dq (Be d) f (acc++[KE.mk a e]).length (s.drop (k+k0+k1+1+k2))=some (ws,n)→Dq (Be d) (f+1) acc.length (s.drop k)=some (KE.mk a e::ws,k0+(k1+1+k2)+n):=fun ws n h=>by
        rw[Ja,if_neg hx,e0];simp only;rw[hw];simp only;rw[show k+k0+(k1+1+k2)=k+k0+k1+1+k2 by omega];rw[List.length_append,List.length_singleton] at h;rw[h]
       have ew2:Dq (Be d) f (acc++[KE.mk a e]).length (s.drop (k+k0+k1+1+k2))=none→Dq (Be d) (f+1) acc.length (s.drop k)=none:=fun h=>by
        rw[Ja,if_neg hx,e0];simp only;rw[hw];simp only;rw[show k+k0+(k1+1+k2)=k+k0+k1+1+k2 by omega];rw[List.length_append,List.length_singleton] at h;rw[h]
       refine ih (k+k0+k1+1+k2) (v+1) (acc++[KE.mk a e]) _ (by omega) (by omega) (by simp;omega) (fun p=>by simp) (by simp[Aa,h1]) (by simp[Aa,sE]) (by simp[Aa,h4]) (by simp[Aa,Fv]) (fun hN=>hφ (ew2 hN)) (fun ws n h H' v' g0 g1 g2 g4 g6=>?_);refine hq (KE.mk a e::ws) _ (ew ws n h) H' v' (fun p=>?_) g1 ?_ g4 ?_
       ·rw[g0];congr 2;omega
       ·rw[g2];simp
       ·rw[g6];simp
end Go.Proofs.YtebihdhapepejaaGreatDoor
namespace Go.Proofs.YtebihdhapepejaaGreatDoor
set_option maxRecDepth 10000
open Go Go.G Go.Proofs Go.PL
def Dk {α:Type} (f:List UInt8→α × Bool):List α→List (List UInt8)→List α × Bool
 |acc,[]=>(acc,true)
 |acc,x::r=>if (f x).2=true then Dk f (acc++[(f x).1]) r else (acc,false)
def HU (rd:List UInt8→E × Bool) (x:List UInt8):KE × Bool:=(.mk (Df (Bz 58 x).1) (rd (Bz 58 x).2.1).1,(Bz 58 x).2.2&&(rd (Bz 58 x).2.1).2&&decide (0≤Df (Bz 58 x).1))
def RL:List A:=[iv 0,iv 0,.sl true [],.sl true [],iv 0,.sl true [],.sl true [],.sl true [],.sl true [],iv 0,.sl true []]
def Bp (s:List UInt8):List (List UInt8):=if s=[] then [] else AW 0 [] s
def E9 (rd:List UInt8→E × Bool) (s:List UInt8):E × Bool:=
 if (Bz 124 s).2.2=true then
  (if (Dk F9 [] (Bp (Bz 124 s).1)).2=true then (.mk 2 T0 T0 (Dk F9 [] (Bp (Bz 124 s).1)).1 (Dk (HU rd) [] (Bp (Bz 124 s).2.1)).1 0 [],(Dk (HU rd) [] (Bp (Bz 124 s).2.1)).2)
  else (.mk 2 T0 T0 (Dk F9 [] (Bp (Bz 124 s).1)).1 [] 0 [],false))
 else (.mk 2 T0 T0 [] [] 0 [],false)
theorem OL {α:Type} {f:List UInt8→α × Bool} {acc:List α} {L:List (List UInt8)} {i:Nat} (hi:i<L.length):Dk f acc (L.drop i)=if (f L[i]).2=true then Dk f (acc++[(f L[i]).1]) (L.drop (i+1)) else (acc,false):=by
 rw[(List.getElem_cons_drop hi).symm,Dk]
variable {n0:Nat} {w0:World} {I0:Nat→Prop} {Q:Exit→Sta→Prop}
set_option maxHeartbeats 4000000 in
theorem mi {a b:List UInt8} {L M:List (List UInt8)} (ha:a ≠ []) (hL:∀ x,x ∈ L→x.length≤1000000000) (hl:L.length≤1000000001) {a1:A} {R:List WE × Bool}
  (hq1:∀ (H:Hp) (v:Nat) (ws:List WE),H [0]=⟨1,.cells (sE (.osl [3] v 4 0 ws.length) (.sl true []))⟩→H [3]=⟨v,.arr 4 (ws.map wX)⟩→R=(ws,false)→Q .ret ⟨lk [(4,.pob [0] 1 0),(5,bv false)],H⟩)
  (hq2:∀ (H:Hp) (v:Nat) (ws:List WE) (i:Nat),H [0]=⟨1,.cells RL⟩→H [1]=⟨1,.cells (sE (.osl [3] v 4 0 ws.length) (.sl true []))⟩→H [3]=⟨v,.arr 4 (ws.map wX)⟩→R=(ws,true)→Q (.exit 0) ⟨lk [(1,a1),(4,.pob [0] 1 0),(6,.pob [1] 1 0),(7,S a),(8,S b),(10,.sl false (L.map S)),(11,.sl false (M.map S)),(12,iv i),(42,bv false)],H⟩):∀ (m i v:Nat) (acc:List WE) (H:Hp),i+m=L.length→acc.length≤i→H [0]=⟨1,.cells RL⟩→H [1]=⟨1,.cells (sE (.osl [3] v 4 0 acc.length) (.sl true []))⟩→H [3]=⟨v,.arr 4 (acc.map wX)⟩→R=Dk F9 acc (L.drop i) →
  LoopC (cx Tryz.prog w0 I0 n0) BQ Q ⟨lk [(1,a1),(4,.pob [0] 1 0),(6,.pob [1] 1 0),(7,S a),(8,S b),(10,.sl false (L.map S)),(11,.sl false (M.map S)),(12,iv i)],H⟩:=by
 intro m;induction m with
 |zero=>
  intro i v acc H hm hac h0 h1 h3 hR;refine Ae mixed BQ.eq_1 ?_;have:i=L.length:=by omega
  subst this;rw[List.drop_length,Dk] at hR;simp;exact hq2 H v acc _ h0 h1 h3 hR
 |succ m ih=>
  intro i v acc H hm hac h0 h1 h3 hR;have hi:i<L.length:=by omega
  have ew:=A7 i;have t1:=U3 (hL _ (B0 hi));rw[OL hi] at hR;have next:=ih (i+1) (v+1) (acc++[(F9 L[i]).1])
  generalize F9 L[i]=q at *;obtain⟨w,ok⟩:=q;refine Ae mixed BQ.eq_1 ?_;simp[hi,DY,ha];refine Af t1 rfl ?_;cases ok with
  |false=>
   simp at hR;simp[h0,h1,h3,Aa,RL,sE,splice];exact hq1 _ v acc (by simp[Aa,sE]) (by simp[Aa,h3]) hR
  |true=>
   simp at hR;simp[h0,h1,h3,Aa,RL,sE,splice,ew];refine⟨by omega,?_⟩;have nx:=next (AR (AR (AR H [2] ⟨(H [2]).u+1,.cells [iv w.at_,u8 w.mask,uv w.old,uv w.new]⟩) [3] ⟨v+1,.arr 4 ((acc++[w]).map wX)⟩) [1] ⟨1,.cells (sE (.osl [3] (v+1) 4 0 (acc++[w]).length) (.sl true []))⟩) (by omega) (by simp;omega) (by simp[Aa,h0]) (by simp[Aa]) (by simp[Aa]) hR
   simpa[Fv,sE] using nx
set_option maxHeartbeats 4000000 in
theorem o3 {rd:List UInt8→E × Bool} {d:Nat} (hd:d≤1000) (hRd:jO d rd) {b:List UInt8} {M:List (List UInt8)} (hb:b ≠ []) (hM:∀ x,x ∈ M→x.length≤1000000000) (hl:M.length≤1000000001) {W:A} (hW1:W.one=true) {O3:VOb} {R:List KE × Bool}
  (hq1:∀ (H:Hp) (v:Nat) (ks:List KE),H [0]=⟨1,.cells (sE W (.osl [5] v 12 0 ks.length))⟩→H [3]=O3→H [5]=⟨v,.arr 12 (ks.map kX)⟩→R=(ks,false)→Q .ret ⟨lk [(4,.pob [0] 1 0),(5,bv false)],H⟩)
  (hq2:∀ (H:Hp) (v:Nat) (ks:List KE) (i:Nat),H [0]=⟨1,.cells RL⟩→H [1]=⟨1,.cells (sE W (.osl [5] v 12 0 ks.length))⟩→H [3]=O3→H [5]=⟨v,.arr 12 (ks.map kX)⟩→R=(ks,true)→Q (.exit 2) ⟨lk [(1,iv (d+1:Nat)),(4,.pob [0] 1 0),(6,.pob [1] 1 0),(8,S b),(11,.sl false (M.map S)),(15,iv i),(69,bv false)],H⟩):∀ (m i v:Nat) (acc:List KE) (H:Hp),i+m=M.length→acc.length≤i→H [0]=⟨1,.cells RL⟩→H [1]=⟨1,.cells (sE W (.osl [5] v 12 0 acc.length))⟩→H [3]=O3→H [5]=⟨v,.arr 12 (acc.map kX)⟩→R=Dk (HU rd) acc (M.drop i) →
  LoopC (cx Tryz.prog w0 I0 n0) BA Q ⟨lk [(1,iv (d+1:Nat)),(4,.pob [0] 1 0),(6,.pob [1] 1 0),(8,S b),(11,.sl false (M.map S)),(15,iv i)],H⟩:=by
 have ed1:i64.wrap ((d:Int)+1-1)=(d:Int):=DU;simp only[Int.add_sub_cancel] at ed1;intro m;induction m with
 |zero=>
  intro i v acc H hm hac h0 h1 h3 h5 hR;refine Ae mixed BA.eq_1 ?_;have:i=M.length:=by omega
  subst this;rw[List.drop_length,Dk] at hR;simp;exact hq2 H v acc _ h0 h1 h3 h5 hR
 |succ m ih=>
  intro i v acc H hm hac h0 h1 h3 h5 hR;have hi:i<M.length:=by omega
  have ew:=A7 i;have hx:=hM _ (B0 hi);have t1:=Hj hx 58;have hcl:=FW 58 M[i];have t2:=hRd (Bz 58 M[i]).2.1 (by omega);have t3:=JO (s:=(Bz 58 M[i]).1) (by omega);rw[OL hi] at hR;have next:=ih (i+1) (v+1) (acc++[(HU rd M[i]).1])
  unfold HU at hR next
  generalize Bz 58 M[i]=p at *;obtain⟨x,y,is⟩:=p;simp only at *;generalize rd y=q at *;obtain⟨e,was⟩:=q;generalize Df x=sm at *;simp only at *;refine Ae mixed BA.eq_1 ?_;simp[hi,DY,hb];refine Af t1 rfl ?_;simp[ed1];refine Af t2 rfl ?_;have fin:∀ H':Hp,H' [1]=H [1]→H' [0]=⟨1,.cells (sE W (.osl [5] v 12 0 acc.length))⟩→H' [3]=H [3]→H' [5]=H [5]→R=(acc,false)→Q .ret ⟨lk [(4,.pob [0] 1 0),(5,bv false)],H'⟩:=fun H' g1 g0 g3 g5 hR=>hq1 H' v acc g0 (by rw[g3,h3]) (by rw[g5,h5]) hR;cases is with
  |false=>
   simp at hR;simp[Aa];refine Ao (L:=[]) (x:=iv 0) (q:=true) rfl (fun h=>by cases h) (fun h=>by cases h) rfl ?_;simp[h0,h1,Aa,RL,sE,splice,hW1];refine fin _ (by simp[Aa]) (by simp[Aa,sE]) (by simp[Aa]) (by simp[Aa]) hR
  |true=>
   cases was with
   |false=>
    simp at hR;simp[Aa];refine Ao (L:=[]) (x:=iv 0) (q:=true) rfl (fun h=>by cases h) (fun h=>by cases h) rfl ?_;simp[h0,h1,Aa,RL,sE,splice,hW1];refine fin _ (by simp[Aa]) (by simp[Aa,sE]) (by simp[Aa]) (by simp[Aa]) hR
   |true=>
    simp[Aa];refine Ao (q:=false) rfl (fun _=>t3) (fun _=>rfl) rfl ?_;by_cases hsm:0≤sm
    ·simp[hsm] at hR;simp[hsm,show ¬ sm<0 by omega,h1,sE,Aa];refine Af t3 rfl ?_;simp[h1,h5,ew,Aa,sE,splice];refine⟨by omega,?_⟩;have nx:=next (AR (AR (AR H [4] ⟨(H [4]).u+1,.cells (eL e)⟩) [5] ⟨v+1,.arr 12 ((acc++[KE.mk sm e]).map kX)⟩) [1] ⟨1,.cells (sE W (.osl [5] (v+1) 12 0 (acc++[KE.mk sm e]).length))⟩) (by omega) (by simp;omega) (by simp[Aa,h0]) (by simp[Aa]) (by simp[Aa,h3]) (by simp[Aa]) hR
     simp[sE] at nx;simp[Fv];exact nx
    ·simp[hsm] at hR;simp[show sm<0 by omega,h0,h1,Aa,RL,sE,splice,hW1];refine fin _ (by simp[Aa]) (by simp[Aa,sE]) (by simp[Aa]) (by simp[Aa]) hR
theorem LV {H:Hp} {cs:List A} {x:E} {b:Bool} (h:Gv H cs (eL x)):Jr H (.tup [.agg cs,bv b]) (.tup [eX x,bv b]):=AF ⟨Ee h,Ab rfl,trivial⟩
theorem FD:∀ (r cur:List UInt8) (o:Int),(AW o cur r).length≤r.length+1∧∀ x,x ∈ AW o cur r→x.length≤cur.length+r.length
 |[],cur,o=>by simp[AW]
 |c::r,cur,o=>by
  rw[EB];split
  ·have h:=FD r [] 0;refine⟨by simp;exact h.1,fun x hx=>?_⟩;rcases List.mem_cons.1 hx with rfl | hx
   ·omega
   ·have:=h.2 x hx;simp at this ⊢; omega
  ·have h:=FD r (cur++[c]) (Jt o c);refine⟨by simp;omega,fun x hx=>?_⟩;have:=h.2 x hx;simp at this ⊢;omega
set_option maxHeartbeats 8000000 in
theorem Tq {rd:List UInt8→E × Bool} {d:Nat} (hd:d≤1000) (hR:jO d rd) {s:List UInt8} (hs:s.length≤1000000000):G.Spec Tryz.prog 47 [S s,iv (d+1:Nat)] (.tup [eX (E9 rd s).1,bv (E9 rd s).2]):=by
 refine Aj Kp (by simp) fun w0 I0=>?_;unfold GP E9;have t1:=Hj hs 124;have hcl:=FW 124 s;generalize Bz 124 s=p at *;obtain⟨a,b,ok⟩:=p;simp only at *;have t2:=Mi (s:=a) (by omega);have t3:=Mi (s:=b) (by omega);have l2:=FD a [] 0;have l3:=FD b [] 0;simp;refine Af t1 rfl ?_;cases ok with
 |false=>
  simp[Aa,splice];exact LV ⟨Ab rfl,Ab rfl,Ad,Ad,Ab rfl,Ad,Ad,Ad,Ad,Ab rfl,Ad,trivial⟩
 |true=>
  simp;refine Af t2 rfl ?_;simp;refine Af t3 rfl ?_;simp[Aa]
  -- the kids
  have part2:∀ (H:Hp) (W:A) (ws:List WE) (O3:VOb) (Q':E × Bool),W.one=true→(∀ H',H' [3]=O3→Jr H' W (aV ws))→H [0]=⟨1,.cells RL⟩→H [1]=⟨1,.cells (sE W (.sl true []))⟩→H [3]=O3→Q'=(.mk 2 T0 T0 ws (Dk (HU rd) [] (Bp b)).1 0 [],(Dk (HU rd) [] (Bp b)).2) →
    LoopC (cx Tryz.prog w0 I0 110) BA (Ci 2 (Dn (WPC (cx Tryz.prog w0 I0 110) (.keep [4,6] (.seq (.reg [co (some 109) (.load 30 (.tmp 6)) none,co none (.store 30 (.tmp 4) (.tmp 109)) none,co (some 5) (.assign (.const (.bool true))) none] [4,5]) .ret)) (Ka Tryz.prog [.cell 4 30,.tmp 5] (.tup [eX Q'.1,bv Q'.2]))) (Ka Tryz.prog [.cell 4 30,.tmp 5] (.tup [eX Q'.1,bv Q'.2]))))
     ⟨lk [(1,iv (d+1:Nat)),(4,.pob [0] 1 0),(6,.pob [1] 1 0),(8,S b),(11,.sl false ((AW 0 [] b).map S)),(15,iv (0:Nat))],H⟩:=by
   intro H W ws O3 Q' hW1 hWf h0 h1 h3 hQ';subst hQ';by_cases hb:b=[]
   ·subst hb;refine Ae mixed BA.eq_1 ?_;simp[AW,DY,h0,h1,RL,sE,splice,Aa,hW1,Bp,Dk];exact LV ⟨Ab rfl,Ab rfl,Ad,Ad,Ab rfl,Ad,Ad,hWf _ (by simp[Aa,h3]),Ad,Ab rfl,Ad,trivial⟩
   ·have hp:Bp b=AW 0 [] b:=by unfold Bp;rw[if_neg hb]
    rw[hp];refine LoopC.le (Dg (d:=[1]) (u:=1) (cs:=sE W (.sl true [])) 8 [5] 12 h1 rfl (by simp)) ?_;refine o3 (W:=W) (O3:=O3) hd hR hb (fun x hx=>by have:=l3.2 x hx;simp at this;omega) (by have:=l3.1;omega) hW1 (R:=Dk (HU rd) [] (AW 0 [] b)) (fun H2 v ks g0 g3 g5 hr=>?_) (fun H2 v ks i g0 g1 g3 g5 hr=>?_) (AW 0 [] b).length 0 ((H [5]).u+1) [] _ (by omega) (by simp) (by simp[Aa,h0]) (by simp[Aa,sE]) (by simp[Aa,h3]) (by simp[Aa]) (by simp)
    ·rw[hr];simp[g0,sE,hW1];exact LV ⟨Ab rfl,Ab rfl,Ad,Ad,Ab rfl,Ad,Ad,hWf _ (by simp[Aa,g3]),Ed (f:=kA) (l:=ks) (by simp[Aa,g5]) rfl (fun x=>by simp),Ab rfl,Ad,trivial⟩
    ·rw[hr];simp[g0,g1,sE,RL,hW1,Aa,splice];exact LV ⟨Ab rfl,Ab rfl,Ad,Ad,Ab rfl,Ad,Ad,hWf _ (by simp[Aa,g3]),Ed (f:=kA) (l:=ks) (by simp[Aa,g5]) rfl (fun x=>by simp),Ab rfl,Ad,trivial⟩
  by_cases ha:a=[]
  ·subst ha;refine Ae mixed BQ.eq_1 ?_;simp[AW,DY,Bp,Dk];exact part2 _ (.sl true []) [] ⟨0,.none⟩ (.mk 2 T0 T0 [] (Dk (HU rd) [] (Bp b)).1 0 [],(Dk (HU rd) [] (Bp b)).2) rfl (fun _ _=>Ad) rfl rfl rfl rfl
  ·have hp:Bp a=AW 0 [] a:=by unfold Bp;rw[if_neg ha]
   rw[hp];refine LoopC.le (Dg (d:=[1]) (u:=1) (cs:=sE (.sl true []) (.sl true [])) 7 [3] 4 (by simp[sE]) rfl (by simp)) ?_;refine mi (L:=AW 0 [] a) (M:=AW 0 [] b) ha (fun x hx=>by have:=l2.2 x hx;simp at this;omega) (by have:=l2.1;omega) (R:=Dk F9 [] (AW 0 [] a)) (fun H2 v ws g0 g3 hr=>?_) (fun H2 v ws i g0 g1 g3 hr=>?_) (AW 0 [] a).length 0 1 [] _ (by omega) (by simp) (by simp[Aa,RL]) (by simp[Aa,sE]) (by simp[Aa]) (by simp)
   ·rw[hr];simp[g0,sE];exact LV ⟨Ab rfl,Ab rfl,Ad,Ad,Ab rfl,Ad,Ad,Ed (f:=wA) (l:=ws) (by simp[Aa,g3]) rfl (fun x=>by simp),Ad,Ab rfl,Ad,trivial⟩
   ·rw[hr];simp;exact part2 _ (.osl [3] v 4 0 ws.length) ws ⟨v,.arr 4 (ws.map wX)⟩ (.mk 2 T0 T0 ws (Dk (HU rd) [] (Bp b)).1 0 [],(Dk (HU rd) [] (Bp b)).2) rfl (fun H' h=>Ed (f:=wA) (l:=ws) (by simp[h]) rfl (fun x=>by simp)) g0 g1 g3 rfl
def Hy (rd:List UInt8→E × Bool) (s:List UInt8):Nat→Nat→E × Bool
 |0,_=>(E0,false)
 |m+1,l=>if (Bu [108,A9 l,91] 93 s).2=true then (.mk 3 T0 T0 [] [] l (Dk (UB rd l) [] (Bp (Bu [108,A9 l,91] 93 s).1)).1,(Dk (UB rd l) [] (Bp (Bu [108,A9 l,91] 93 s).1)).2) else Hy rd s m (l+1)
def FI:Nat→List UInt8→E × Bool
 |0,_=>(E0,false)
 |d+1,s=>if s=[61] then (E0,true)
  else if (Bu [40] 41 s).2=true then (.mk 1 (A0 AI (Bz 62 (Bu [40] 41 s).1).1) (A0 AI (Bz 62 (Bu [40] 41 s).1).2.1) [] [] 0 [],(Bz 62 (Bu [40] 41 s).1).2.2&&Kb AI (Bz 62 (Bu [40] 41 s).1).1&&Kb AI (Bz 62 (Bu [40] 41 s).1).2.1)
  else if (Bu [115,123] 125 s).2=true then E9 (FI d) (Bu [115,123] 125 s).1
  else Hy (FI d) s 8 2
def VC (l:Int) (O:A):List A:=[iv 3,iv 0,.sl true [],.sl true [],iv 0,.sl true [],.sl true [],.sl true [],.sl true [],iv l,O]
set_option maxHeartbeats 4000000 in
theorem mI {rd:List UInt8→E × Bool} {d:Nat} (hd:d≤1000) (hRd:jO d rd) {l:Int} {t:List UInt8} {L:List (List UInt8)} (ht:t ≠ []) (hL:∀ x,x ∈ L→x.length≤1000000000) (hl:L.length≤1000000001) {R:List OP × Bool}
  (hq1:∀ (H:Hp) (v:Nat) (os:List OP),H [0]=⟨1,.cells (VC l (.osl [5] v 14 0 os.length))⟩→H [5]=⟨v,.arr 14 (os.map oX)⟩→R=(os,false)→Q .ret ⟨lk [(4,.pob [0] 1 0),(5,bv false)],H⟩)
  (hq2:∀ (H:Hp) (v:Nat) (os:List OP) (i:Nat),H [0]=⟨1,.cells RL⟩→H [3]=⟨1,.cells (VC l (.osl [5] v 14 0 os.length))⟩→H [5]=⟨v,.arr 14 (os.map oX)⟩→R=(os,true)→Q (.exit 2) ⟨lk [(1,iv (d+1:Nat)),(4,.pob [0] 1 0),(17,iv l),(18,S t),(20,.pob [3] 1 0),(21,.sl false (L.map S)),(22,iv i),(102,bv false)],H⟩):∀ (m i v:Nat) (acc:List OP) (H:Hp),i+m=L.length→acc.length≤i→H [0]=⟨1,.cells RL⟩→H [3]=⟨1,.cells (VC l (.osl [5] v 14 0 acc.length))⟩→H [5]=⟨v,.arr 14 (acc.map oX)⟩→R=Dk (UB rd l) acc (L.drop i) →
  LoopC (cx Tryz.prog w0 I0 n0) Cn Q ⟨lk [(1,iv (d+1:Nat)),(4,.pob [0] 1 0),(17,iv l),(18,S t),(20,.pob [3] 1 0),(21,.sl false (L.map S)),(22,iv i)],H⟩:=by
 intro m;induction m with
 |zero=>
  intro i v acc H hm hac h0 h1 h3 hR;refine Ae mixed Cn.eq_1 ?_;have:i=L.length:=by omega
  subst this;rw[List.drop_length,Dk] at hR;simp;exact hq2 H v acc _ h0 h1 h3 hR
 |succ m ih=>
  intro i v acc H hm hac h0 h1 h3 hR;have hi:i<L.length:=by omega
  have ew:=A7 i;have t1:=da hd hRd l (hL _ (B0 hi));rw[OL hi] at hR;have next:=ih (i+1) (v+1) (acc++[(UB rd l L[i]).1])
  generalize UB rd l L[i]=q at *;obtain⟨w,ok⟩:=q;simp only at *;refine Ae mixed Cn.eq_1 ?_;simp[hi,DY,ht];refine Af t1 rfl ?_;cases ok with
  |false=>
   simp at hR;simp[h0,h1,h3,Aa,RL,VC,splice];exact hq1 _ v acc (by simp[Aa,VC]) (by simp[Aa,h3]) hR
  |true=>
   simp at hR;simp[h0,h1,h3,Aa,RL,VC,splice,ew];refine⟨by omega,?_⟩;have nx:=next (AR (AR (AR H [4] ⟨(H [4]).u+1,.cells (sf w)⟩) [5] ⟨v+1,.arr 14 ((acc++[w]).map oX)⟩) [3] ⟨1,.cells (VC l (.osl [5] (v+1) 14 0 (acc++[w]).length))⟩) (by omega) (by simp;omega) (by simp[Aa,h0]) (by simp[Aa]) (by simp[Aa]) hR
   simp[VC] at nx;simp[Fv];exact nx
theorem WJ:∀ l:Nat,l<10→(([46,46,118,98,121,116,102,101,112,99]:List UInt8).drop l).take 1=[A9 l]:=by decide
set_option maxHeartbeats 8000000 in
theorem lf {rd:List UInt8→E × Bool} {d:Nat} (hd:d≤1000) (hRd:jO d rd) {s:List UInt8} (hs:s.length≤1000000000) {H0':Hp} (h0:H0' [0]=⟨1,.cells RL⟩) (h3u:(H0' [3]).u=0) {Q':E × Bool}
  (hq1:∀ (H:Hp) (cs:List A) (e:E) (b:Bool),H [0]=⟨1,.cells cs⟩→cs.length=11→Gv H cs (eL e)→Q'=(e,b)→Q .ret ⟨lk [(4,.pob [0] 1 0),(5,bv b)],H⟩)
  (hq2:Q'=(E0,false)→Q (.exit 0) ⟨lk [(0,S s),(1,iv (d+1:Nat)),(4,.pob [0] 1 0),(17,iv (10:Nat)),(75,bv false)],H0'⟩):∀ (m l:Nat),l+m=10→2≤l→Q'=Hy rd s m l →
  LoopC (cx Tryz.prog w0 I0 n0) DR Q ⟨lk [(0,S s),(1,iv (d+1:Nat)),(4,.pob [0] 1 0),(17,iv l)],H0'⟩:=by
 intro m;induction m with
 |zero=>
  intro l hl hl2 hQ;refine Ae mixed DR.eq_1 ?_;have:l=10:=by omega
  subst this;simp;exact hq2 hQ
 |succ m ih=>
  intro l hl hl2 hQ;have hl9:l<10:=by omega
  have hl9':(l:Int)<10:=by omega
  have ew:=A7 l;have hsl:=WJ l hl9;have c1:(0≤(l:Int)+1∧(l:Int)+1≤10)=True:=eq_true (by omega);have hin:=Mj hs [108,A9 l,91] (by simp) 93;have hlen:=Gn [108,A9 l,91] 93 s;have next:=ih (l+1) (by omega) (by omega)
  rw[Hy] at hQ;generalize Bu [108,A9 l,91] 93 s=p at *;obtain⟨t,ok⟩:=p;simp only at *;have s1:=Ar (l:=[108]) (m:=[A9 l]) (by simp);have s2:=Ar (l:=[108,A9 l]) (m:=[91]) (by simp);simp at s1 s2;refine Ae mixed DR.eq_1 ?_;simp[hl9,hl9',ew,c1,hsl,s1,s2,show(l:Int)≤(l:Int)+1 by omega];refine Af hin rfl ?_;cases ok with
  |false=>
   simp at hQ;have next:=next hQ
   simp[ew];simpa using next
  |true=>
   simp at hQ;have t2:=Mi (s:=t) (by omega);have l2:=FD t [] 0;simp[h0,h3u,Aa];refine Af t2 rfl ?_;simp;by_cases ht:t=[]
   ·subst ht;refine Ae mixed Cn.eq_1 ?_;simp[AW,DY,h0,RL,splice,Aa];exact hq1 _ (VC l (.sl true [])) (.mk 3 T0 T0 [] [] l []) true (by simp[Aa,VC]) rfl ⟨Ab rfl,Ab rfl,Ad,Ad,Ab rfl,Ad,Ad,Ad,Ad,Ab rfl,Ad,trivial⟩ (by rw[hQ];simp[Bp,Dk])
   ·have hp:Bp t=AW 0 [] t:=by unfold Bp;rw[if_neg ht]
    rw[hp] at hQ;have fz:∀ (H:Hp) (v:Nat) (os:List OP),H [5]=⟨v,.arr 14 (os.map oX)⟩→Gv H (VC l (.osl [5] v 14 0 os.length)) (eL (.mk 3 T0 T0 [] [] l os)):=fun H v os h=>⟨Ab rfl,Ab rfl,Ad,Ad,Ab rfl,Ad,Ad,Ad,Ad,Ab rfl,Ed (f:=oA) (l:=os) (by simp[h]) rfl (fun x=>by simp),trivial⟩;refine LoopC.le (Dg (d:=[3]) (u:=1) (cs:=VC l (.sl true [])) 10 [5] 14 (by simp[Aa,VC]) rfl (by simp)) ?_;refine mI (l:=l) (t:=t) (L:=AW 0 [] t) hd hRd ht (fun x hx=>by have:=l2.2 x hx;simp at this;omega) (by have:=l2.1;omega) (R:=Dk (UB rd l) [] (AW 0 [] t)) (fun H2 v os g0 g5 hr=>?_) (fun H2 v os i g0 g3 g5 hr=>?_) (AW 0 [] t).length 0 ((H0' [5]).u+1) [] _ (by omega) (by simp) (by simp[Aa,h0]) (by simp[Aa,VC]) (by simp[Aa]) (by simp)
    ·rw[hr] at hQ;exact hq1 H2 _ _ false g0 rfl (fz H2 v os g5) hQ
    ·rw[hr] at hQ;simp[g0,g3,RL,VC,splice];exact hq1 _ (VC l (.osl [5] v 14 0 os.length)) _ true (by simp[Aa,VC]) rfl (fz _ v os (by simp[Aa,g5])) hQ
theorem iz {b:Bool} {e:E} {H:Hp} {cs:List A} (h0:H [0]=⟨1,.cells cs⟩) (hl:cs.length=11) (hf:Gv H cs (eL e)):Ka Tryz.prog [.cell 4 30,.tmp 5] (.tup [eX e,bv b]) .ret ⟨lk [(4,.pob [0] 1 0),(5,bv b)],H⟩:=by
 simp[h0,hl,Fv];exact AF ⟨Ee hf,Ab rfl,trivial⟩
set_option maxHeartbeats 8000000 in
theorem bd:∀ d,d≤1000→jO d (FI d):=by
 intro d;induction d with
 |zero=>
  intro _ s hs;refine Aj Iu (by simp) fun w0 I0=>?_;unfold F2;simp[FI,Aa,splice];exact LV ⟨Ab rfl,Ab rfl,Ad,Ad,Ab rfl,Ad,Ad,Ad,Ad,Ab rfl,Ad,trivial⟩
 |succ d ih=>
  intro hd s hs;have hR:=ih (by omega);have zf:∀ H:Hp,Gv H RL (eL E0):=fun H=>⟨Ab rfl,Ab rfl,Ad,Ad,Ab rfl,Ad,Ad,Ad,Ad,Ab rfl,Ad,trivial⟩;refine Aj Iu (by simp) fun w0 I0=>?_;unfold F2;rw[FI];have hd0:¬ (d:Int)+1=0:=by omega
  by_cases h61:s=[61]
  ·subst h61;rw[if_pos rfl];simp[hd0,Dh,Aa,splice];exact LV (zf _)
  ·rw[if_neg h61];have t1:=Mj hs [40] (by simp) 41;have l1:=Gn [40] 41 s;have t2:=Mj hs [115,123] (by simp) 125;have l2:=Gn [115,123] 125 s;generalize Bu [40] 41 s=p at *;generalize Bu [115,123] 125 s=q at *;obtain⟨t,ok⟩:=p;obtain⟨u,is⟩:=q;simp only at *;simp[hd0,Dh,h61];refine Af t1 rfl ?_;cases ok with
   |true=>
    simp;have t3:=Hj (s:=t) (by omega) 62;have l3:=FW 62 t;generalize Bz 62 t=c at *;obtain⟨a,b,was⟩:=c;simp only at *;have t4:=KC (s:=a) (by omega);have t5:=KC (s:=b) (by omega);refine Af t3 rfl ?_;simp;refine Af t4 rfl ?_;simp;refine Af t5 rfl ?_;generalize A0 AI a=ta at *;generalize A0 AI b=tb at *;generalize Kb AI a=oa at *;generalize Kb AI b=ob at *;simp[Aa,splice];cases was<;>cases oa<;>simp[Aa,splice]<;>exact LV ⟨Ab rfl,Ab rfl,Ad,Ad,Ab rfl,Ad,Ad,Ad,Ad,Ab rfl,Ad,trivial⟩
   |false=>
    simp;refine Af t2 rfl ?_;cases is with
    |true=>
     have t3:=Tq (by omega) hR (s:=u) (by omega);simp;refine Af t3 rfl ?_;simp[Aa,splice];exact LV ⟨Ab rfl,Ab rfl,Ad,Ad,Ab rfl,Ad,Ad,Ad,Ad,Ab rfl,Ad,trivial⟩
    |false=>
     simp;refine lf (d:=d) (Q':=Hy (FI d) s 8 2) (by omega) hR hs rfl rfl (fun H cs e b g0 gl gf hq=>?_) (fun hq=>?_) 8 2 rfl (by omega) rfl
     ·rw[hq];exact iz g0 gl gf
     ·rw[hq];simp[Aa,splice];exact LV (zf _)
theorem Sn {c:UInt8}:∀ (r pre:List UInt8) (o:Int) (a b:List UInt8),GY c o pre r=some (a,b)→pre++r=a++c::b
 |[],pre,o,a,b,h=>by cases h
 |x::r,pre,o,a,b,h=>by
  rw[HF] at h;split at h
  ·rename_i hh;cases h;rw[hh.2]
  ·have:=Sn r _ _ _ _ h;rw[← this];simp
theorem Jc {c:UInt8} {s:List UInt8} (h:(Bz c s).2.2=true):s=(Bz c s).1++c::(Bz c s).2.1:=by
 unfold Bz at h ⊢;cases hc:GY c 0 [] s with
 |none=>rw[hc] at h;cases h
 |some q=>exact Sn s [] 0 _ _ hc
theorem QX:∀ (r cur:List UInt8) (o:Int),AW o cur r ≠ []
 |[],cur,o=>by simp[AW]
 |x::r,cur,o=>by
  rw[EB];split
  ·simp
  ·exact QX r _ _
theorem Jx:∀ (r cur:List UInt8) (o:Int),Ag (AW o cur r)=cur++r
 |[],cur,o=>by simp[AW]
 |x::r,cur,o=>by
  rw[EB];split
  ·rename_i hh;rw[DL (QX _ _ _),Jx r [] 0,hh.2];rfl
  ·rw[Jx r];simp
theorem Kw (s:List UInt8):Ag (Bp s)=s:=by
 unfold Bp;split
 ·rename_i h;rw[h];rfl
 ·rw[Jx];rfl
theorem Jf:∀ (r:List UInt8) (n v:Nat),1≤n→AE n r=(v,true)→Am v=Am n++r
 |[],n,v,hn,h=>by rw[AE] at h;cases h;simp
 |c::r,n,v,hn,h=>by
  rw[AE] at h;cases hv:Bg c with
  |none=>rw[hv] at h;cases h
  |some d=>
   rw[hv] at h;simp only at h;obtain⟨h1,h2⟩:=Gl hv;rw[Jf r _ v (by omega) h,Nat.mul_comm,N1 hn h1,h2];simp
theorem KW {s:List UInt8} (h:(G1 s).2=true):Am (G1 s).1=s:=by
 unfold G1 at h ⊢;split
 ·rename_i hh;rw[if_pos hh] at h;cases h
 ·rename_i hh;rw[if_neg hh] at h;cases s with
  |nil=>simp at hh
  |cons c r=>
   rw[AE] at h ⊢;cases hv:Bg c with
   |none=>rw[hv] at h;cases h
   |some d=>
    rw[hv] at h;simp only at h ⊢;obtain⟨h1,h2⟩:=Gl hv;by_cases hd:d=0
    ·subst hd;have hr:r=[]:=by
      have hc:c=48:=by rw[← h2];rfl
      cases r with
      |nil=>rfl
      |cons y r=>exact(hh (.inr (.inr ⟨by simp,by rw[hc];rfl⟩))).elim
     subst hr;rw[AE];simp;rw[Ce (by omega),h2]
    ·have e:AE (16*0+d) r=((AE (16*0+d) r).1,true):=by rw[← h]
     rw[Nat.mul_zero,Nat.zero_add] at e ⊢;rw[Jf r d _ (by omega) e,Ce h1,h2];rfl
theorem Mw {s:List UInt8} (h:0≤Df s):Df s≤1048576∧Am (Df s).toNat=s:=by
 unfold Df at h ⊢;split
 ·rename_i hh;exact⟨by omega,by simpa using KW hh.1⟩
 ·rename_i hh;rw[if_neg hh] at h;omega
theorem Wx {s:List UInt8} (h:(F9 s).2=true):Aq (F9 s).1=s∧WE.wf (F9 s).1:=by
 unfold F9 at h ⊢;simp only at h ⊢;split
 ·rename_i hh;simp at hh;obtain⟨⟨⟨⟨⟨⟨⟨h1,h2⟩,h3⟩,h4⟩,h5⟩,h6⟩,h7⟩,h8⟩:=hh;have e1:=Jc h1;have e2:=Jc h2;have e3:=Jc h3;have e4:=KW h4;have e5:=KW h5;have e6:=KW h6;obtain⟨b8,e8⟩:=Mw h8;have l5:=Ll (Bz 58 (Bz 58 (Bz 58 s).2.1).2.1).1;have l6:=Ll (Bz 58 (Bz 58 (Bz 58 s).2.1).2.1).2.1;refine⟨?_,⟨by unfold AU;simp only;omega,by simp only;omega,by unfold D5;simp only;omega,by unfold D5;simp only;omega⟩⟩
  conv=>rhs;rw[e1,e2,e3]
  simp only[Aq,Int.toNat_natCast,e4,e5,e6,e8]
 ·rename_i hh;rw[if_neg hh] at h;cases h
theorem Lw {α:Type} {f:List UInt8→α × Bool} {sh:α→List UInt8} {P:α→Prop} {L0:Nat} (hf:∀ x:List UInt8,x.length≤L0→(f x).2=true→sh (f x).1=x∧P (f x).1):∀ (l:List (List UInt8)) (acc:List α),(∀ x,x ∈ l→x.length≤L0)→(Dk f acc l).2=true→(Dk f acc l).1.map sh=acc.map sh++l∧((∀ y,y ∈ acc→P y)→∀ y,y ∈ (Dk f acc l).1→P y)
 |[],acc,_,h=>by rw[Dk];simp
 |x::l,acc,hl,h=>by
  rw[Dk] at h ⊢;split at h
  ·rename_i hh;obtain⟨h1,h2⟩:=hf x (hl x (by simp)) hh;obtain⟨g1,g2⟩:=Lw hf l (acc++[(f x).1]) (fun y hy=>hl y (by simp[hy])) h;rw[if_pos hh];refine⟨by rw[g1];simp[h1],fun hP=>g2 fun y hy=>?_⟩;rcases List.mem_append.1 hy with hy | hy
   ·exact hP y hy
   ·simp at hy;subst hy;exact h2
  ·cases h
def ni (L0:Nat) (rd:List UInt8→E × Bool):Prop:=∀ s:List UInt8,s.length≤L0→(rd s).2=true→Bb (rd s).1=s∧HT (rd s).1
theorem Y2 {L0:Nat} {rd:List UInt8→E × Bool} (hr:ni L0 rd) {x:List UInt8} (hx:x.length≤L0) (h:(HU rd x).2=true):Av (HU rd x).1=x∧(AU (HU rd x).1.at_∧HT (HU rd x).1.e):=by
 unfold HU at h ⊢;simp at h ⊢;obtain⟨⟨h1,h2⟩,h3⟩:=h;have e1:=Jc h1;have hl:=FW 58 x;obtain⟨e2,g2⟩:=hr _ (by omega) h2;obtain⟨b3,e3⟩:=Mw h3;refine⟨?_,by unfold AU;omega,g2⟩
 conv=>rhs;rw[e1]
 show Am (Df (Bz 58 x).1).toNat++58::Bb (rd (Bz 58 x).2.1).1=_;rw[e3,e2]
theorem Ra {s:List UInt8} (h:Kb AI s=true) (hl:s.length≤1000000000):Ah (A0 AI s)=s∧Cd 64 (A0 AI s)∧Gc (A0 AI s):=by
 obtain⟨q1,q2⟩:=X6 s;rw[q1] at h;rw[q2];obtain⟨h1,h2,_⟩:=K1 G0 h;exact⟨h1,h2,Hm 64 _ h2 (by rw[h1];omega)⟩
theorem bG {L0:Nat} (hL:L0≤1000000000) {rd:List UInt8→E × Bool} (hr:ni L0 rd) {l:Int} (l2:2≤l) {x:List UInt8} (hx:x.length≤L0) (h:(UB rd l x).2=true):Au l (UB rd l x).1=x∧Uv (UB rd l x).1:=by
 cases x with
 |nil=>cases h
 |cons c r=>
  simp at hx;rw[IU] at h ⊢;split
  ·rename_i hc;rw[if_pos hc] at h;simp at h;obtain⟨b,e⟩:=Mw h;exact⟨by simp[Au,e,hc],⟨by simp[AU],by show AU (Df r);unfold AU;omega,by simp,by simp,Xh⟩⟩
  ·rename_i hc;rw[if_neg hc] at h;split
   ·rename_i hc2;rw[if_pos hc2] at h;obtain⟨e,g⟩:=hr r (by omega) h;exact⟨by simp[Au,e,hc2],⟨by simp[AU],by simp[AU],by simp,by simp,g⟩⟩
   ·rename_i hc2;rw[if_neg hc2] at h;split
    ·rename_i hc3;rw[if_pos hc3] at h;simp at h;obtain⟨e1,e2,e3⟩:=Ra h.1 (by omega);have e4:=O6 e2 h.2 l2;have hw:=wfT_iff.1 e3;refine⟨?_,⟨by show AU (if c=43 then 2 else 1);split<;>simp[AU],by simp[AU],hw.ks,hw.kl,Xh⟩⟩;have e5:Ah (.mk l [] (A0 AI r).kids)=r:=by rw[← e4];exact e1
     rcases hc3 with rfl | rfl
     ·simp[Au,e5]
     ·simp[Au,e5]
    ·rename_i hc3;rw[if_neg hc3] at h;cases h
theorem L2 (s:List UInt8):(Bp s).length≤s.length+1∧∀ x,x ∈ Bp s→x.length≤s.length:=by
 unfold Bp;split
 ·simp
 ·have:=FD s [] 0;exact⟨this.1,fun x hx=>by have:=this.2 x hx;simpa using this⟩
theorem R9 {L0:Nat} (hL:L0≤1000000000) {rd:List UInt8→E × Bool} (hr:ni L0 rd) {s:List UInt8} (hs:s.length≤L0) (h:(E9 rd s).2=true):Bb (E9 rd s).1=115::123::(s++[125])∧HT (E9 rd s).1:=by
 unfold E9 at h ⊢;split
 ·rename_i h1;rw[if_pos h1] at h;split
  ·rename_i h2;rw[if_pos h2] at h;have e1:=Jc h1;have hl:=FW 124 s;have p1:=L2 (Bz 124 s).1;have p2:=L2 (Bz 124 s).2.1;obtain⟨g1,w1⟩:=Lw (L0:=L0) (f:=F9) (sh:=Aq) (P:=WE.wf) (fun x _ hx=>Wx hx) _ [] (fun x hx=>by have:=p1.2 x hx;omega) h2;obtain⟨g2,w2⟩:=Lw (L0:=L0) (f:=HU rd) (sh:=Av) (P:=fun y=>AU y.at_∧HT y.e) (fun x hx hy=>Y2 hr hx hy) _ [] (fun x hx=>by have:=p2.2 x hx;omega) h;have w1:=w1 (by simp);have w2:=w2 (by simp);generalize Dk F9 [] (Bp (Bz 124 s).1)=gw at *;generalize Dk (HU rd) [] (Bp (Bz 124 s).2.1)=gk at *;simp only[List.map_nil,List.nil_append] at g1 g2;have n1:=congrArg List.length g1;have n2:=congrArg List.length g2;simp only[List.length_map] at n1 n2;refine⟨?_,wfE_iff.2 ⟨by simp[AU],by simp[AU],wfT_iff.2 ⟨by simp[AU],by simp,by simp,by simp,by simp⟩,wfT_iff.2 ⟨by simp[AU],by simp,by simp,by simp,by simp⟩,w1,by show gw.1.length*32≤_;omega,by show gk.1.length*208≤_;omega,by simp,w2,by simp⟩⟩;rw[C9,if_neg (by omega),if_pos rfl,g1,g2,Kw,Kw]
   conv=>rhs;rw[e1]
   simp
  ·rename_i h2;rw[if_neg h2] at h;cases h
 ·rename_i h1;rw[if_neg h1] at h;cases h
theorem Mp {first:List UInt8} {last:UInt8} {s:List UInt8} (h:(Bu first last s).2=true):s=first++((Bu first last s).1++[last]):=by
 unfold Bu at h ⊢;split
 ·rename_i hh;obtain⟨h1,h2,h3⟩:=hh;have e1:s=s.take (s.length-1)++[last]:=by
   have hl:s.length-1<s.length:=by omega
   have:=List.take_concat_get hl;have hx:s[s.length-1]=last:=by have:=List.getElem?_eq_getElem hl;rw[h3] at this;exact(Option.some.inj this).symm
   rw[hx] at this;rw[List.concat_eq_append] at this;rw[this];rw[show s.length-1+1=s.length by omega,List.take_length]
  have e2:(s.drop first.length).take (s.length-1-first.length)=(s.take (s.length-1)).drop first.length:=by rw[List.drop_take]
  have e3:first=(s.take (s.length-1)).take first.length:=by rw[List.take_take,Nat.min_eq_left (by omega),h2]
  show s=first++((s.drop first.length).take (s.length-1-first.length)++[last])
  rw[e2,← List.append_assoc]
  conv=>rhs;lhs;lhs;rw[e3]
  rw[List.take_append_drop];exact e1
 ·rename_i hh;rw[if_neg hh] at h;cases h
theorem Pz {L0:Nat} (hL:L0≤1000000000) {rd:List UInt8→E × Bool} (hr:ni L0 rd) {s:List UInt8} (hs:s.length≤L0):∀ (m l:Nat),2≤l→l+m≤10→(Hy rd s m l).2=true→Bb (Hy rd s m l).1=s∧HT (Hy rd s m l).1
 |0,l,_,_,h=>by cases h
 |m+1,l,l2,lm,h=>by
  rw[Hy] at h ⊢;split
  ·rename_i h1;rw[if_pos h1] at h;have e1:=Mp h1;have hl:=Gn [108,A9 l,91] 93 s;have p1:=L2 (Bu [108,A9 l,91] 93 s).1;obtain⟨g1,w1⟩:=Lw (L0:=L0) (f:=UB rd l) (sh:=Au l) (P:=Uv) (fun x hx hy=>bG hL hr (by omega) hx hy) _ [] (fun x hx=>by have:=p1.2 x hx;omega) h;have w1:=w1 (by simp);generalize Dk (UB rd l) [] (Bp (Bu [108,A9 l,91] 93 s).1)=go at *;simp only[List.map_nil,List.nil_append] at g1;have n1:=congrArg List.length g1;simp only[List.length_map] at n1;refine⟨?_,wfE_iff.2 ⟨by simp[AU],by show AU (l:Int);unfold AU;omega,wfT_iff.2 ⟨by simp[AU],by simp,by simp,by simp,by simp⟩,wfT_iff.2 ⟨by simp[AU],by simp,by simp,by simp,by simp⟩,by simp,by simp,by simp,by show go.1.length*240≤_;omega,by simp,w1⟩⟩;rw[C9,if_neg (by omega),if_neg (by omega),if_pos rfl,g1,Kw]
   conv=>rhs;rw[e1]
   simp
  ·rename_i h1;rw[if_neg h1] at h;exact Pz hL hr hs m (l+1) (by omega) (by omega) h
theorem L9 {L0:Nat} (hL:L0≤1000000000):∀ d,ni L0 (FI d)
 |0,s,_,h=>by cases h
 |d+1,s,hs,h=>by
  have ih:=L9 hL d;rw[FI] at h ⊢;split
  ·rename_i h0;subst h0;exact⟨rfl,Xh⟩
  ·rename_i h0;rw[if_neg h0] at h;split
   ·rename_i h1;rw[if_pos h1] at h;simp at h;have e1:=Mp h1;have hl:=Gn [40] 41 s;have e2:=Jc h.1.1;have hcl:=FW 62 (Bu [40] 41 s).1;obtain⟨e3,_,w3⟩:=Ra h.1.2 (by omega);obtain⟨e4,_,w4⟩:=Ra h.2 (by omega);refine⟨?_,wfE_iff.2 ⟨by simp[AU],by simp[AU],w3,w4,by simp,by simp,by simp,by simp,by simp,by simp⟩⟩;rw[C9,if_pos rfl,e3,e4]
    conv=>rhs;rw[e1,e2]
    simp
   ·rename_i h1;rw[if_neg h1] at h;split
    ·rename_i h2;rw[if_pos h2] at h;have e1:=Mp h2;have hl:=Gn [115,123] 125 s;obtain⟨g1,g2⟩:=R9 hL ih (by omega) h;refine⟨?_,g2⟩;rw[g1]
     conv=>rhs;rw[e1]
     rfl
    ·rename_i h2;rw[if_neg h2] at h;exact Pz hL ih hs 8 2 (by omega) (by omega) h
end Go.Proofs.YtebihdhapepejaaGreatDoor
namespace Go.Proofs.YtebihdhapepejaaGreatDoor
open Go Go.G Go.Proofs Go.PL
def RO (x:List UInt8):Prop:=∀ (o:Nat) (rest:List UInt8),1≤o→Bf o (x++rest)=x.length+Bf o rest
def Ke (c:UInt8):Prop:=c ≠ 0∧c ≠ 123∧c ≠ 91∧c ≠ 125∧c ≠ 93∧c ≠ 95
instance (c:UInt8):Decidable (Ke c):=by unfold Ke;infer_instance
theorem HS {c:UInt8} (h:Ke c) (o:Nat) (rest:List UInt8):Bf o (c::rest)=1+Bf o rest:=by
 obtain⟨h0,h1,h2,h3,h4,h5⟩:=h;rw[Bf,if_neg h0,if_neg (by simp[h1,h2]),if_neg (by simp[h3,h4]),if_neg h5]
theorem PK:∀ {x:List UInt8},(∀ c,c ∈ x→Ke c)→∀ (o:Nat) (rest:List UInt8),Bf o (x++rest)=x.length+Bf o rest
 |[],_,o,rest=>by simp
 |c::x,h,o,rest=>by
  rw[List.cons_append,HS (h c (by simp)),PK (fun d hd=>h d (by simp[hd])),List.length_cons];omega
theorem ZC {c:UInt8} (h:∃ d,Bg c=some d):Ke c:=by
 obtain⟨d,hd⟩:=h;unfold Bg at hd;have hn:(48≤c.toNat∧c.toNat≤57)∨(97≤c.toNat∧c.toNat≤102):=by
  split at hd
  ·rename_i h;exact .inl h
  ·split at hd
   ·rename_i h;exact .inr h
   ·cases hd
 have ne:∀ k:UInt8,¬ ((48≤k.toNat∧k.toNat≤57)∨(97≤k.toNat∧k.toNat≤102))→c ≠ k:=fun k hk e=>hk (by rw[← e];exact hn);exact⟨ne 0 (by decide),ne 123 (by decide),ne 91 (by decide),ne 125 (by decide),ne 93 (by decide),ne 95 (by decide)⟩
theorem XN (n:Nat):∀ c,c ∈ Am n→Ke c:=fun c hc=>ZC (HO n c hc)
theorem UG (n:Nat):RO (Am n):=fun o rest _=>PK (XN n) o rest
theorem Jj:∀ {l:List (List UInt8)},(∀ x,x ∈ l→RO x)→RO (Ag l)
 |[],_=>fun o rest _=>by simp
 |[x],h=>by simpa using h x (by simp)
 |x::y::l,h=>fun o rest ho=>by
  have ih:=Jj (l:=y::l) (fun z hz=>h z (by simp[hz]));rw[Ag,List.append_assoc,h x (by simp) o _ ho,List.cons_append,HS (by decide),ih o rest ho];simp;omega
theorem Rm {k:Int} (h2:2≤k) (h9:k≤9):Ke (A9 k):=by
 have:∀ n:Nat,n<10→2≤n→Ke (letters.getD n 0):=by
  intro n h1 h2
  match n,h1,h2 with
  |2,_,_=>exact(by decide) | 3,_,_=>exact(by decide) | 4,_,_=>exact(by decide) | 5,_,_=>exact(by decide)
  |6,_,_=>exact(by decide) | 7,_,_=>exact(by decide) | 8,_,_=>exact(by decide) | 9,_,_=>exact(by decide)
 exact this k.toNat (by omega) (by omega)
theorem K7 {c:UInt8} (h:c=123∨c=91) (o:Nat) (rest:List UInt8):Bf o (c::rest)=1+Bf (o+1) rest:=by
 rw[Bf,if_neg (by rcases h with rfl | rfl<;>decide),if_pos h]
theorem Q7 {c:UInt8} (h:c=125∨c=93) {o:Nat} (ho:2≤o) (rest:List UInt8):Bf o (c::rest)=1+Bf (o-1) rest:=by
 rw[Bf,if_neg (by rcases h with rfl | rfl<;>decide),if_neg (by rcases h with rfl | rfl<;>decide),if_pos h,if_neg (by omega)]
theorem S9 {c:UInt8} (h:c=125∨c=93) {o:Nat} (ho:o≤1) (rest:List UInt8):Bf o (c::rest)=1:=by
 rw[Bf,if_neg (by rcases h with rfl | rfl<;>decide),if_neg (by rcases h with rfl | rfl<;>decide),if_pos h,if_pos ho]
theorem SV (w:List Int) (l:List T) (h:∀ t,t ∈ l→RO (Ah t)):RO (Ag (w.map fun x=>Am x.toNat)++(if l=[] then [] else 124::Ag (l.map Ah))):=fun o rest ho=>by
 have p1:RO (Ag (w.map fun x=>Am x.toNat)):=Jj fun x hx=>by
  obtain⟨y,_,rfl⟩:=List.mem_map.1 hx;exact UG _
 have p2:RO (Ag (l.map Ah)):=Jj fun x hx=>by
  obtain⟨y,hy,rfl⟩:=List.mem_map.1 hx;exact h y hy
 rw[List.append_assoc,p1 o _ ho,List.length_append];split
 ·simp
 ·rw[List.cons_append,HS (by decide),p2 o rest ho];simp;omega
theorem SE:∀ t:T,RO (Ah t):=by
 refine T.ind fun k w l ih=>?_;intro o rest ho;rw[AO];split
 ·exact UG _ o rest ho
 ·split
  ·have p:=SV w l ih (o+1) (125::rest) (by omega);rw[show ∀ A B:List UInt8,(123::(A++(B++[125])))++rest=123::((A++B)++125::rest) from fun A B=>by simp];rw[K7 (.inl rfl),p,Q7 (.inl rfl) (by omega),Nat.add_sub_cancel];simp;omega
  ·split
   ·rename_i hk;have p2:RO (Ag (l.map Ah)):=Jj fun x hx=>by
     obtain⟨y,hy,rfl⟩:=List.mem_map.1 hx;exact ih y hy
    rw[show ∀ A:List UInt8,(A9 k::91::(A++[93]))++rest=A9 k::91::(A++93::rest) from fun A=>by simp];rw[HS (Rm hk.1 hk.2),K7 (.inr rfl),p2 (o+1) _ (by omega),Q7 (.inr rfl) (by omega),Nat.add_sub_cancel];simp;omega
   ·rw[List.cons_append,Bf,if_neg (by decide),if_neg (by decide),if_neg (by decide),if_pos rfl,if_neg (by omega)];simp
theorem YU {t:T} (h:¬ (t.kind=10∧t.words.length=1)) (rest:List UInt8):Bf 0 (Ah t++rest)=(Ah t).length:=by
 obtain⟨k,w,l⟩:=t;rw[AO,if_neg (show ¬ (k=10∧w.length=1) from h)];split
 ·have p:=SV w l (fun t _=>SE t) 1 (125::rest) (by omega);rw[show ∀ A B:List UInt8,(123::(A++(B++[125])))++rest=123::((A++B)++125::rest) from fun A B=>by simp];rw[K7 (.inl rfl),p,S9 (.inl rfl) (by omega)];simp;omega
 ·split
  ·rename_i hk;have p2:RO (Ag (l.map Ah)):=Jj fun x hx=>by
    obtain⟨y,hy,rfl⟩:=List.mem_map.1 hx;exact SE y
   rw[show ∀ A:List UInt8,(A9 k::91::(A++[93]))++rest=A9 k::91::(A++93::rest) from fun A=>by simp];rw[HS (Rm hk.1 hk.2),K7 (.inr rfl),p2 1 _ (by omega),S9 (.inr rfl) (by omega)];simp;omega
  ·rw[List.cons_append,Bf,if_neg (by decide),if_neg (by decide),if_neg (by decide),if_pos rfl,if_pos rfl];rfl
theorem Rt {t:T} (hp:Cd 64 t) (hr:Ax 64 t=true) (h:¬ (t.kind=10∧t.words.length=1)) (rest:List UInt8):CE (Ah t++rest)=some (t,(Ah t).length):=by
 have hs:=YU h rest;obtain⟨h1,h2⟩:=Oi G0 hp hr;unfold CE;rw[hs,List.take_left];rw[if_pos h1,h2]
end Go.Proofs.YtebihdhapepejaaGreatDoor
