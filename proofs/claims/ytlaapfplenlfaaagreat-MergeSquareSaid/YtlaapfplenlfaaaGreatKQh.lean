/-
 Texts,merged,without what is not reached.
-/
import Derived.Test.YtlaapfplenlfaaaGreatKQg
set_option linter.unusedSimpArgs false
set_option linter.unusedVariables false
open Go.IntKind (i64 u64)
namespace Go.Proofs.YtlaapfplenlfaaaGreat
open Go Go.G Go.Proofs Go.PL
section
variable {α:Type} (key:α->Int) (cb cb2:α->α->α) (cf:α->α->Bool)
def Me(Q:List α)(a:α):α:=match Q.find? (fun b=>decide (key b=key a)) with
 |some b=>cb a b
 |none=>a
def xG(P Q:List α)(i j:Nat):List α:=(P.take i).map (Me key cb Q)++(((P.drop i).take 1).map (Me key cb (Q.take j))++P.drop (i+1))
def yG(P Q:List α)(i j:Nat):List α:=(Q.take j).map (Me key cb2 (P.take (i+1)))++(Q.drop j).map (Me key cb2 (P.take i))
def zj(P Q:List α):Bool:=P.any fun a=>Q.any fun b=>decide (key a=key b)&&cf a b
def cG(P Q:List α)(i j:Nat):Bool:=zj key cf (P.take i) Q|| zj key cf ((P.drop i).take 1) (Q.take j)
def Pb(P:List α):Prop:=∀(i j:Nat)(h1:i<P.length)(h2:j<P.length),i<j->key P[i]≠key P[j]
variable {key cb cb2 cf}
theorem cm(a:α):Me key cb [] a=a:=rfl
theorem dN{Q:List α}{a b:α}(h:key b≠key a):Me key cb (Q++[b]) a=Me key cb Q a:=by
 unfold Me;rw[List.find?_append];cases Q.find? fun b=>decide (key b=key a) with
 |some x=>rfl
 |none=>simp[h]
theorem oz{Q:List α}{a b:α}(h:key b=key a)(hq:∀x,x∈Q->key x≠key a):Me key cb (Q++[b]) a=cb a b:=by
 unfold Me;rw[List.find?_append,List.find?_eq_none.2 fun x hx=>by simp[hq x hx]];simp[h]
theorem Rt{P:List α}{i:Nat}(h:i<P.length):(P.drop i).take 1=[P[i]]:=by
 rw[List.drop_eq_getElem_cons h];rfl
theorem jG(P Q:List α)(i j:Nat):(xG key cb P Q i j).length=P.length:=by
 simp only[xG,List.length_append,List.length_map,List.length_take,List.length_drop];omega
theorem jL(P Q:List α)(i j:Nat):(yG key cb2 P Q i j).length=Q.length:=by
 simp only[yG,List.length_append,List.length_map,List.length_take,List.length_drop];omega
theorem zk(P Q:List α):xG key cb P Q 0 0=P:=by
 have e:Me key cb ([]:List α)=id:=funext fun a=>cm a;simp only[xG,List.take_zero,List.map_nil,List.nil_append,List.drop_zero,e,List.map_id];exact List.take_append_drop 1 P
theorem ym(P Q:List α):yG key cb2 P Q 0 0=Q:=by
 have e:Me key cb2 ([]:List α)=id:=funext fun a=>cm a;simp[yG,e]
theorem ur{P Q:List α}{i:Nat}(h:i<P.length):xG key cb P Q i Q.length=xG key cb P Q (i+1) 0:=by
 have e:Me key cb ([]:List α)=id:=funext fun a=>cm a;have d:((P.drop (i+1)).take 1)++P.drop (i+2)=P.drop (i+1):=by
  rw[show P.drop (i+2)=(P.drop (i+1)).drop 1 from by rw[List.drop_drop]];exact List.take_append_drop 1 _
 unfold xG;rw[List.take_length,Rt h,List.take_zero,e,List.map_id,d,F5 h,List.map_append];simp
theorem wL{P Q:List α}(i:Nat):yG key cb2 P Q i Q.length=yG key cb2 P Q (i+1) 0:=by
 simp[yG]
theorem vR(P Q:List α):xG key cb P Q P.length 0=P.map (Me key cb Q):=by
 simp[xG]
theorem tE(P Q:List α):yG key cb2 P Q P.length 0=Q.map (Me key cb2 P):=by
 simp[yG]
theorem Agi(P Q:List α):cG key cf P Q 0 0=false:=by
 unfold cG zj;simp
theorem tI{P Q:List α}{i:Nat}(h:i<P.length):cG key cf P Q i Q.length=cG key cf P Q (i+1) 0:=by
 unfold cG zj;rw[List.take_length,Rt h,F5 h,List.any_append];simp
theorem sC(P Q:List α):cG key cf P Q P.length 0=zj key cf P Q:=by
 unfold cG zj;simp
theorem oD{P Q:List α}{i j:Nat}(hi:i<P.length)(hj:j<Q.length):cG key cf P Q i (j+1)=(cG key cf P Q i j|| (decide (key P[i]=key Q[j])&&cf P[i] Q[j])):=by
 unfold cG zj;rw[Rt hi,F5 hj];simp only[List.any_cons,List.any_nil,Bool.or_false,List.any_append,Bool.or_assoc]
theorem V3{P Q:List α}{i j:Nat}(hi:i<P.length):xG key cb P Q i j=(P.take i).map (Me key cb Q)++(Me key cb (Q.take j) P[i]::P.drop (i+1)):=by
 unfold xG;rw[Rt hi];rfl
theorem mn{P Q:List α}{i j:Nat}(hi:i<P.length)(hj:j<Q.length)(h:key P[i]≠key Q[j]):xG key cb P Q i (j+1)=xG key cb P Q i j:=by
 rw[V3 hi,V3 hi,F5 hj,dN fun e=>h e.symm]
theorem uX{P Q:List α}(dq:Pb key Q){i j:Nat}(hi:i<P.length)(hj:j<Q.length)(h:key P[i]=key Q[j]):xG key cb P Q i (j+1)=(xG key cb P Q i j).set i (cb P[i] Q[j]):=by
 rw[List.set_eq_take_append_cons_drop,if_pos (by rw[jG];exact hi)];have l1:((P.take i).map (Me key cb Q)).length=i:=by simp;omega
 rw[V3 hi,V3 hi,F5 hj,oz h.symm fun x hx=>?_]
 ·rw[List.take_left' l1];have:((P.take i).map (Me key cb Q)++Me key cb (Q.take j) P[i]::P.drop (i+1)).drop (i+1)=P.drop (i+1):=by
   rw[show ∀(l:List α)(x:α)(m:List α),l++x::m=(l++[x])++m from fun l x m=>iS];exact List.drop_left' (by simp;omega)
  rw[this]
 ·obtain⟨k,hk,rfl⟩:=List.getElem_of_mem hx;have hk':k<j:=by simp at hk;omega
  rw[List.getElem_take,h];exact dq k j oF hj hk'
theorem lf{P Q:List α}{i j:Nat}(hj:j<Q.length):yG key cb2 P Q i j=(Q.take j).map (Me key cb2 (P.take (i+1)))++(Me key cb2 (P.take i) Q[j]::(Q.drop (j+1)).map (Me key cb2 (P.take i))):=by
 unfold yG;rw[List.drop_eq_getElem_cons hj];rfl
theorem nH{P Q:List α}{i j:Nat}(hj:j<Q.length):yG key cb2 P Q i (j+1)=(Q.take j).map (Me key cb2 (P.take (i+1)))++(Me key cb2 (P.take (i+1)) Q[j]::(Q.drop (j+1)).map (Me key cb2 (P.take i))):=by
 unfold yG;rw[F5 hj,List.map_append];simp
theorem lV{P Q:List α}{i j:Nat}(hi:i<P.length)(hj:j<Q.length)(h:key P[i]≠key Q[j]):yG key cb2 P Q i (j+1)=yG key cb2 P Q i j:=by
 rw[lf hj,nH hj,F5 hi,dN h]
theorem uV{P Q:List α}(dp:Pb key P){i j:Nat}(hi:i<P.length)(hj:j<Q.length)(h:key P[i]=key Q[j]):yG key cb2 P Q i (j+1)=(yG key cb2 P Q i j).set j (cb2 Q[j] P[i]):=by
 rw[List.set_eq_take_append_cons_drop,if_pos (by rw[jL];exact hj)];have l1:((Q.take j).map (Me key cb2 (P.take (i+1)))).length=j:=by simp;omega
 have e:Me key cb2 (P.take (i+1)) Q[j]=cb2 Q[j] P[i]:=by
  rw[F5 hi,oz h fun x hx=>?_];obtain⟨k,hk,rfl⟩:=List.getElem_of_mem hx;have hk':k<i:=by simp at hk;omega
  rw[List.getElem_take,<-h];exact dp k i oF hi hk'
 rw[lf hj,nH hj,e,List.take_left' l1];have:((Q.take j).map (Me key cb2 (P.take (i+1)))++Me key cb2 (P.take i) Q[j]::(Q.drop (j+1)).map (Me key cb2 (P.take i))).drop (j+1)=(Q.drop (j+1)).map (Me key cb2 (P.take i)):=by
  rw[show ∀(l:List α)(x:α)(m:List α),l++x::m=(l++[x])++m from fun l x m=>iS];exact List.drop_left' (by simp;omega)
 rw[this]
end
theorem Aaw(Q:List WE):TP Q=Me WE.at_ (fun a b=>Kp a b.mask) Q:=by
 funext a;unfold TP Me;cases Q.find? fun b=>decide (b.at_=a.at_)<;>rfl
theorem AaY(g:E->E->E)(Q:List KE):XJ g Q=Me KE.at_ (fun k l=>.mk k.at_ (g k.e l.e)) Q:=by
 funext a;unfold XJ Me;cases Q.find? fun b=>decide (b.at_=a.at_)<;>rfl
theorem Agw(P Q:List WE):clW P Q=zj WE.at_ FX P Q:=rfl
theorem Ain(c:E->E->Bool)(P Q:List KE):clK c P Q=zj KE.at_ (fun k l=>c k.e l.e) P Q:=rfl
theorem sG{a b:List Int}{p:Nat}{ws:List WE}(h:Jn a b p ws):Pb WE.at_ ws:=by
 induction h with
 |nil=>intro i j h1;simp at h1
 |cons p i m o n ws hp h hi hm ho hn h1 h2 g ih=>
  intro x y hx hy hxy;cases y with
  |zero=>omega
  |succ y=>
   cases x with
   |zero=>
    have hm:=De (l:=ws) (n:=y) (by simpa using hy);obtain⟨k,k1,k2,_⟩:=FQ g _ hm;show((i:Nat):Int)≠(ws[y]'(by simpa using hy)).at_;omega
   |succ x=>exact ih x y (by simpa using hx) (by simpa using hy) oF
theorem tW{R:E->T->T->Prop}{a b:List T}{p:Nat}{ks:List KE}(h:MA R a b p ks):Pb KE.at_ ks:=by
 induction h with
 |nil=>intro i j h1;simp at h1
 |cons p i e ks hp h hi he hr g ih=>
  intro x y hx hy hxy;cases y with
  |zero=>omega
  |succ y=>
   cases x with
   |zero=>
    have hm:=De (l:=ks) (n:=y) (by simpa using hy);obtain⟨k,k1,k2,_⟩:=Fz g _ hm;show((i:Nat):Int)≠(ks[y]'(by simpa using hy)).at_;omega
   |succ x=>exact ih x y (by simpa using hx) (by simpa using hy) oF
end Go.Proofs.YtlaapfplenlfaaaGreat
namespace Go.Proofs.YtlaapfplenlfaaaGreat
set_option maxRecDepth 20000
open Go Go.G Go.Proofs
@[simp]theorem AlC:DT Tryz.prog 4=some 1:=by kernel_rfl
@[simp]theorem Ajn:DT Tryz.prog 134=some 17:=by kernel_rfl
@[simp]theorem Akd:DT Tryz.prog 136=some 35:=by kernel_rfl
@[simp]theorem AkW:D6 Tryz.prog 4=some false:=by kernel_rfl
@[simp]theorem AgM:D6 Tryz.prog 134=some true:=by kernel_rfl
@[simp]theorem Ad3:BQ Tryz.prog 134=some (Value.agg #[Value.int i64 0,Value.int i64 0,Value.int i64 0,Value.slice none 0 0,Value.slice none 0 0,Value.int i64 0,Value.int i64 0,Value.slice none 0 0,Value.slice none 0 0,Value.int i64 0,Value.slice none 0 0,Value.slice none 0 0,Value.slice none 0 0,Value.slice none 0 0,Value.int i64 0,Value.slice none 0 0,Value.bool false]):=by kernel_rfl
@[simp]theorem AeK:BQ Tryz.prog 136=some (Value.agg #[Value.int i64 0,Value.int i64 0,Value.int i64 0,Value.int i64 0,Value.slice none 0 0,Value.slice none 0 0,Value.int i64 0,Value.int i64 0,Value.slice none 0 0,Value.slice none 0 0,Value.int i64 0,Value.slice none 0 0,Value.slice none 0 0,Value.slice none 0 0,Value.slice none 0 0,Value.int i64 0,Value.slice none 0 0,Value.bool false,Value.int i64 0,Value.int i64 0,Value.int i64 0,Value.slice none 0 0,Value.slice none 0 0,Value.int i64 0,Value.int i64 0,Value.slice none 0 0,Value.slice none 0 0,Value.int i64 0,Value.slice none 0 0,Value.slice none 0 0,Value.slice none 0 0,Value.slice none 0 0,Value.int i64 0,Value.slice none 0 0,Value.bool false]):=by kernel_rfl
@[simp]theorem Ac4:Cc Tryz.prog 134=some 280:=by kernel_rfl
@[simp]theorem Ack:Cc Tryz.prog 136=some 568:=by kernel_rfl
@[simp]theorem qW:Aj Tryz.prog 134 1=some 1:=by kernel_rfl
@[simp]theorem ry:Aj Tryz.prog 134 2=some 2:=by kernel_rfl
@[simp]theorem rL:Aj Tryz.prog 134 3=some 5:=by kernel_rfl
@[simp]theorem qM:Aj Tryz.prog 134 4=some 16:=by kernel_rfl
@[simp]theorem qN:Aj Tryz.prog 136 0=some 0:=by kernel_rfl
@[simp]theorem rI:Aj Tryz.prog 136 1=some 1:=by kernel_rfl
@[simp]theorem rf:Aj Tryz.prog 136 2=some 18:=by kernel_rfl
@[simp]theorem Ab6(ps:List (Nat × A)):Cz Tryz.prog 134 ps=(Dm (fun i=>([(0,1),(1,1),(2,3),(5,11),(16,1)]:List (Nat × Nat))[i]?) [iv 0,iv 0,iv 0,A.sl true [],A.sl true [],iv 0,iv 0,A.sl true [],A.sl true [],iv 0,A.sl true [],A.sl true [],A.sl true [],A.sl true [],iv 0,A.sl true [],A.v (Value.bool false)] ps).map A.agg:=by kernel_rfl
@[simp]theorem AcA(ps:List (Nat × A)):Cz Tryz.prog 136 ps=(Dm (fun i=>([(0,1),(1,17),(18,17)]:List (Nat × Nat))[i]?) [iv 0,iv 0,iv 0,iv 0,A.sl true [],A.sl true [],iv 0,iv 0,A.sl true [],A.sl true [],iv 0,A.sl true [],A.sl true [],A.sl true [],A.sl true [],iv 0,A.sl true [],A.v (Value.bool false),iv 0,iv 0,iv 0,A.sl true [],A.sl true [],iv 0,iv 0,A.sl true [],A.sl true [],iv 0,A.sl true [],A.sl true [],A.sl true [],A.sl true [],iv 0,A.sl true [],A.v (Value.bool false)] ps).map A.agg:=by kernel_rfl
@[simp]theorem Aky:DT Tryz.prog 73=some 1:=by kernel_rfl
@[simp]theorem Aj3:D6 Tryz.prog 73=some false:=by kernel_rfl
@[simp]theorem sA:Aj Tryz.prog 75 0=some 0:=by kernel_rfl
@[simp]theorem sO:Aj Tryz.prog 75 1=some 1:=by kernel_rfl
@[simp]theorem qP:Aj Tryz.prog 144 0=some 0:=by kernel_rfl
@[simp]theorem qV:Aj Tryz.prog 144 1=some 1:=by kernel_rfl
@[simp]theorem rG:Aj Tryz.prog 144 2=some 2:=by kernel_rfl
@[simp]theorem qO:Aj Tryz.prog 144 3=some 3:=by kernel_rfl
@[simp]theorem rD:Aj Tryz.prog 144 4=some 4:=by kernel_rfl
@[simp]theorem Aer(ps:List (Nat × A)):Cz Tryz.prog 75 ps=(Dm (fun i=>([(0,1),(1,1)]:List (Nat × Nat))[i]?) [A.v (Value.bool false),A.v (Value.bool false)] ps).map A.agg:=by kernel_rfl
@[simp]theorem Abe(ps:List (Nat × A)):Cz Tryz.prog 144 ps=(Dm (fun i=>([(0,1),(1,1),(2,1),(3,1),(4,1)]:List (Nat × Nat))[i]?) [A.v (Value.pointer none),A.sl true [],A.sl true [],A.sl true [],A.sl true []] ps).map A.agg:=by kernel_rfl
def PQ:CC:=sR [aL 0 30 [0],aL 1 30 [1]] [0,1] (sR [oO 2 (.build 30 #[]),oO 3 (.build 30 #[]),sT 30 0 2,sT 30 1 3] [0,1] (.ret))
theorem Xt:BT Tryz.prog 69 4 [(.cell 0 30),(.cell 1 30)] PQ:=AA Tryz.func69
def Pz:CC:=sR [bX 2 85 0 [0],aL 4 85 [1],aB 5 false] [1,2,4] (sR [mO 6 1,fO 7 85 2 1,lO 8 5 7,bB .and 9 5 6 8 5,aO 1 9] [1,2,4] (sR [fO 10 85 2 0,lS 11 3 10 1,mO 12 1,fO 13 85 2 2,lO 14 61 13,mO 15 1,⟨some 16,(cL 125 #[(.const (.int .u64 0)),(xT 14),(xT 15)] #[61,61,5]),none,[],6,[1],true⟩,fO 17 85 2 3,⟨some 18,(lD 61 17),none,[],8,[6],false⟩,mO 19 1,⟨some 20,(cL 125 #[(.const (.int .u64 0)),(xT 18),(xT 19)] #[61,61,5]),none,[],10,[1],false⟩,oO 21 (.build 85 #[(0,(xT 11)),(1,(xT 12)),(2,(xT 16)),(3,(xT 20))]),mO 22 1,oO 23 (.binOp .neq 5 (xT 22) (.const (.int .u8 0)) 5),sT 85 4 21,aO 5 23] [4,5] (.ret)))
theorem XS:BT Tryz.prog 109 24 [(.cell 4 85),(.tmp 5)] Pz:=AA Tryz.func109
def Jc:CC:=sR [bX 5 30 1 [1],bX 6 25 2 [2],bX 7 25 3 [3]] [0,5,6,7] (sR [lO 11 30 5,lO 12 25 6,cB 13 25 11 12 30 25,mO 10 13,xO 14 10 0,xO 15 10 1,aL 8 25 [4],sT 25 8 14,aO 9 15] [0,7,8,9] (.block 0 (sR [mO 17 9,oO 18 (.unOp .not 4 (xT 17)),aO 16 18] [0,7,8,16] (cD 16 (.reg [mO 19 0,nC 20 19,fO 21 75 20 1,oS (.store 4 (xT 21) (nB true))] []) (sR [lO 23 25 8,lO 24 25 7,cB 25 57 23 24 25 25,oO 26 (.unOp .not 4 (xT 25)),aO 22 26] [0,22] (cD 22 (.reg [mO 27 0,nC 28 27,fO 29 75 28 0,oS (.store 4 (xT 29) (nB true))] []) (.skip)))))))
theorem Ou:BT Tryz.prog 68 30 [] Jc:=AA Tryz.func68
def Ja:CC:=sR [bX 4 85 1 [1],bX 5 85 2 [2]] [0,4,5] (sR [fO 7 85 4 1,lO 8 5 7,fO 9 85 5 1,lO 10 5 9,bB .and 11 5 8 10 5,aO 6 11] [0,4,5,6] (.block 0 (sR [fO 13 85 4 2,lO 14 61 13,mO 15 6,⟨some 16,(cL 125 #[(.const (.int .u64 0)),(xT 14),(xT 15)] #[61,61,5]),none,[],3,[],true⟩,fO 17 85 5 2,⟨some 18,(lD 61 17),none,[],5,[3],false⟩,mO 19 6,oO 20 (cL 125 #[(.const (.int .u64 0)),(xT 18),(xT 19)] #[61,61,5]),bB .neq 21 61 16 20 61,aO 12 21] [0,4,5,6,12] (cD 12 (.reg [mO 22 0,nC 23 22,fO 24 75 23 1,oS (.store 4 (xT 24) (nB true))] []) (sR [fO 26 85 4 3,lO 27 61 26,mO 28 6,⟨some 29,(cL 125 #[(.const (.int .u64 0)),(xT 27),(xT 28)] #[61,61,5]),none,[],3,[],true⟩,fO 30 85 5 3,⟨some 31,(lD 61 30),none,[],5,[3],false⟩,mO 32 6,oO 33 (cL 125 #[(.const (.int .u64 0)),(xT 31),(xT 32)] #[61,61,5]),bB .neq 34 61 29 33 61,aO 25 34] [0,25] (cD 25 (.reg [mO 35 0,nC 36 35,fO 37 75 36 0,oS (.store 4 (xT 37) (nB true))] []) (.skip)))))))
theorem Nw:BT Tryz.prog 108 38 [] Ja:=AA Tryz.func108
def Bh:CC:=sR [aN 2] [0] (sQ [mO 3 0,oO 4 (.binOp .eql 26 (xT 3) nS 26)] [0,4] (cD 4 (sR [aN 2] [2] (.ret)) (.skip)) [0] (sR [oO 5 (.buildSlice 26 0 #[]),mO 6 0,aP 7 5 6 26 26 [0],aO 2 7] [2] (.ret)))
theorem BS:BT Tryz.prog 107 8 [(.tmp 2)] Bh:=AA Tryz.func107
def Bp:CC:=sR [aN 2] [0] (sQ [mO 3 0,oO 4 (.binOp .eql 27 (xT 3) nS 27)] [0,4] (cD 4 (sR [aN 2] [2] (.ret)) (.skip)) [0] (sR [oO 5 (.buildSlice 27 0 #[]),mO 6 0,aP 7 5 6 27 27 [0],aO 2 7] [2] (.ret)))
theorem B5:BT Tryz.prog 110 8 [(.tmp 2)] Bp:=AA Tryz.func110
def M8:CC:=sR [bX 1 85 0 [0],aB 2 false] [1] (sR [fO 3 85 1 1,lO 4 5 3,oO 5 (.binOp .eql 5 (xT 4) (.const (.int .u8 0)) 5),aO 2 5] [2] (.ret))
theorem Uv:BT Tryz.prog 146 6 [(.tmp 2)] M8:=AA Tryz.func146
def MU:CC:=sR [bX 1 88 0 [0],aB 2 false] [1] (sR [fO 3 88 1 1,fO 4 30 3 0,lO 5 3 4,bQ .eql 6 3 5 0 3,aO 2 6] [2] (.ret))
theorem Uo:BT Tryz.prog 148 7 [(.tmp 2)] MU:=AA Tryz.func148
def AX:CC:=sR [bB .lss 9 3 8 7 3] [0,1,7,8,9] (.seq (cD 9 (.skip) (.exit 0)) (.keep [0,1,7,8] (.seq (.block 1 (sR [mO 10 8,aO 5 10] [0,1,5,7,8] (sR [mO 11 1,mO 12 0,mO 13 5,iO 14 26 12 13,lO 15 85 14,oO 16 (.call { callee:=(.value (xT 11)),args:=#[(xT 15)],argTypes:=#[85] })] [0,1,5,7,8,16] (cD 16 (sR [mO 17 5,aO 4 17] [4] (.ret)) (.skip))))) (.keep [0,1,7,8] (.reg [bQ .add 18 3 8 1 3,mO 8 18] [0,1,7,8]))))) 
def Cv:CC:=sR [aI 4 0] [0,1] (sQ [mO 6 0,bN 7 6 26,oO 8 (.move (nI 0))] [0,1,7,8] (.block 0 (.loop AX)) [] (sR [oO 4 (.assign (.const (.int .i64 (-1))))] [4] (.ret)))
theorem EE:BT Tryz.prog 175 19 [(.tmp 4)] Cv:=AA Tryz.func175
def A6:CC:=sR [bB .lss 9 3 8 7 3] [0,1,7,8,9] (.seq (cD 9 (.skip) (.exit 0)) (.keep [0,1,7,8] (.seq (.block 1 (sR [mO 10 8,aO 5 10] [0,1,5,7,8] (sR [mO 11 1,mO 12 0,mO 13 5,iO 14 27 12 13,lO 15 88 14,oO 16 (.call { callee:=(.value (xT 11)),args:=#[(xT 15)],argTypes:=#[88] })] [0,1,5,7,8,16] (cD 16 (sR [mO 17 5,aO 4 17] [4] (.ret)) (.skip))))) (.keep [0,1,7,8] (.reg [bQ .add 18 3 8 1 3,mO 8 18] [0,1,7,8]))))) 
def CJ:CC:=sR [aI 4 0] [0,1] (sQ [mO 6 0,bN 7 6 27,oO 8 (.move (nI 0))] [0,1,7,8] (.block 0 (.loop A6)) [] (sR [oO 4 (.assign (.const (.int .i64 (-1))))] [4] (.ret)))
theorem EW:BT Tryz.prog 176 19 [(.tmp 4)] CJ:=AA Tryz.func176
def AV:CC:=sQ [mO 16 6,mO 17 0,bN 18 17 26,bB .lss 19 3 16 18 3] [0,1,5,6,19] (cD 19 (.skip) (.exit 0)) [0,1,5,6] (.seq (.block 1 (sR [mO 22 0,mO 23 6,iO 24 26 22 23,lO 25 85 24,aL 7 85 [1],sT 85 7 25] [0,1,5,6,7] (sR [mO 26 1,lO 27 85 7,oO 28 (.call { callee:=(.value (xT 26)),args:=#[(xT 27)],argTypes:=#[85] }),oO 29 (.unOp .not 4 (xT 28))] [0,1,5,6,7,29] (cD 29 (sR [mO 30 0,mO 31 5,lO 32 85 7,iO 33 26 30 31,sT 85 33 32] [0,1,5,6] (.reg [mO 34 5,bQ .add 35 3 34 1 3,aO 5 35] [0,1,5,6])) (.skip))))) (.keep [0,1,5,6] (.reg [mO 20 6,bQ .add 21 3 20 1 3,aO 6 21] [0,1,5,6]))) 
def Cp:CC:=sR [aN 4] [0,1] (sR [mO 8 0,mO 9 1,cB 10 175 8 9 26 194,aO 5 10] [0,1,5] (sQ [mO 11 5,oO 12 (.binOp .eql 3 (xT 11) (.const (.int .i64 (-1))) 3)] [0,1,5,12] (cD 12 (sR [mO 13 0,aO 4 13] [4] (.ret)) (.skip)) [0,1,5] (sQ [mO 14 5,bQ .add 15 3 14 1 3,aO 6 15] [0,1,5,6] (.block 0 (.loop AV)) [0,5] (sR [mO 36 0,mO 37 5,oO 38 (.slice 26 (xT 36) (some (xT 37)) none none),oS (bC .clear #[(xT 38)] #[26])] [0,5] (sR [mO 39 0,mO 40 5,oO 41 (.slice 26 (xT 39) none (some (xT 40)) none),aO 4 41] [4] (.ret))))))
theorem Ev:BT Tryz.prog 145 42 [(.tmp 4)] Cp:=AA Tryz.func145
def AY:CC:=sQ [mO 16 6,mO 17 0,bN 18 17 27,bB .lss 19 3 16 18 3] [0,1,5,6,19] (cD 19 (.skip) (.exit 0)) [0,1,5,6] (.seq (.block 1 (sR [mO 22 0,mO 23 6,iO 24 27 22 23,lO 25 88 24,aL 7 88 [1],sT 88 7 25] [0,1,5,6,7] (sR [mO 26 1,lO 27 88 7,oO 28 (.call { callee:=(.value (xT 26)),args:=#[(xT 27)],argTypes:=#[88] }),oO 29 (.unOp .not 4 (xT 28))] [0,1,5,6,7,29] (cD 29 (sR [mO 30 0,mO 31 5,lO 32 88 7,iO 33 27 30 31,sT 88 33 32] [0,1,5,6] (.reg [mO 34 5,bQ .add 35 3 34 1 3,aO 5 35] [0,1,5,6])) (.skip))))) (.keep [0,1,5,6] (.reg [mO 20 6,bQ .add 21 3 20 1 3,aO 6 21] [0,1,5,6]))) 
def CA:CC:=sR [aN 4] [0,1] (sR [mO 8 0,mO 9 1,cB 10 176 8 9 27 196,aO 5 10] [0,1,5] (sQ [mO 11 5,oO 12 (.binOp .eql 3 (xT 11) (.const (.int .i64 (-1))) 3)] [0,1,5,12] (cD 12 (sR [mO 13 0,aO 4 13] [4] (.ret)) (.skip)) [0,1,5] (sQ [mO 14 5,bQ .add 15 3 14 1 3,aO 6 15] [0,1,5,6] (.block 0 (.loop AY)) [0,5] (sR [mO 36 0,mO 37 5,oO 38 (.slice 27 (xT 36) (some (xT 37)) none none),oS (bC .clear #[(xT 38)] #[27])] [0,5] (sR [mO 39 0,mO 40 5,oO 41 (.slice 27 (xT 39) none (some (xT 40)) none),aO 4 41] [4] (.ret))))))
theorem EM:BT Tryz.prog 147 42 [(.tmp 4)] CA:=AA Tryz.func147
def PA:CC:=sR [bX 1 30 0 [2],aL 2 30 [3]] [1,2] (sR [fO 3 30 1 3,lO 4 26 3,oO 5 (cL 145 #[(xT 4),(.func 146)] #[26,194]),fO 6 30 1 3,sT 26 6 5] [1,2] (sR [fO 7 30 1 4,lO 8 27 7,oO 9 (cL 147 #[(xT 8),(.func 148)] #[27,196]),fO 10 30 1 4,sT 27 10 9] [1,2] (sQ [fO 11 30 1 3,lO 12 26 11,bN 13 12 26,fO 14 30 1 4,lO 15 27 14,bN 16 15 27,bB .add 17 3 13 16 3,bQ .eql 18 3 17 0 3] [1,2,18] (cD 18 (sR [oO 19 (.build 30 #[]),sT 30 2 19] [2] (.ret)) (.skip)) [1,2] (sR [lO 20 30 1,sT 30 2 20] [2] (.ret)))))
theorem Xk:BT Tryz.prog 111 21 [(.cell 2 30)] PA:=AA Tryz.func111
def B0:CC:=sR [bB .lss 40 3 39 38 3] [0,4,5,6,7,8,9,10,11,29,30,31,37,38,39,40] (.seq (cD 40 (.skip) (.exit 2)) (.keep [0,4,5,6,7,8,9,10,11,29,30,31,37,38,39] (.seq (.block 3 (sR [mO 41 39,iO 42 26 37 39,lO 43 85 42,aL 13 85 [8],aO 12 41,sT 85 13 43] [0,4,5,6,7,8,9,10,11,12,13,29,30,31,37,38,39] (sR [fO 44 85 11 0,lO 45 3 44,fO 46 85 13 0,lO 47 3 46,bB .eql 48 3 45 47 3] [0,4,5,6,7,8,9,10,11,12,13,29,30,31,37,38,39,48] (cD 48 (sR [mO 49 0,lO 50 85 11,lO 51 85 13,cE 52 108 49 50 51 73 85 85] [0,4,5,6,7,8,9,10,11,12,13,29,30,31,37,38,39] (sR [fO 54 30 8 3,lS 55 26 54 1,mO 56 10,lO 57 85 11,fO 58 85 13 1,lO 59 5 58,oO 60 (.unOp .xor 5 (xT 59)),⟨some 61,(cL 109 #[(xT 57),(xT 60)] #[85,5]),none,[],7,[1],false⟩,mO 53 61,xO 62 53 0,xO 63 53 1,iO 64 26 55 56,sT 85 64 62] [0,4,5,6,7,8,9,10,11,12,13,29,30,31,37,38,39] (.reg [fO 66 30 9 3,lS 67 26 66 1,mO 68 12,lO 69 85 13,fO 70 85 11 1,lO 71 5 70,oO 72 (.unOp .xor 5 (xT 71)),⟨some 73,(cL 109 #[(xT 69),(xT 72)] #[85,5]),none,[],7,[1],false⟩,mO 65 73,xO 74 65 0,xO 75 65 1,iO 76 26 67 68,sT 85 76 74] [0,4,5,6,7,8,9,10,11,29,30,31,37,38,39]))) (.skip))))) (.keep [0,4,5,6,7,8,9,10,11,29,30,31,37,38,39] (.reg [bQ .add 77 3 39 1 3,mO 39 77] [0,4,5,6,7,8,9,10,11,29,30,31,37,38,39])))))
def CN:CC:=sR [bB .lss 32 3 31 30 3] [0,4,5,6,7,8,9,29,30,31,32] (.seq (cD 32 (.skip) (.exit 0)) (.keep [0,4,5,6,7,8,9,29,30,31] (.seq (.block 1 (sR [mO 33 31,iO 34 26 29 31,lO 35 85 34,aL 11 85 [7],aO 10 33,sT 85 11 35] [0,4,5,6,7,8,9,10,11,29,30,31] (sR [fO 36 30 5 3,lO 37 26 36,bN 38 37 26,oO 39 (.move (nI 0))] [0,4,5,6,7,8,9,10,11,29,30,31,37,38,39] (.block 2 (.loop B0))))) (.keep [0,4,5,6,7,8,9,29,30,31] (.reg [bQ .add 78 3 31 1 3,mO 31 78] [0,4,5,6,7,8,9,29,30,31])))))
def B4:CC:=sR [bB .lss 99 3 98 97 3] [0,5,6,7,8,9,14,15,88,89,90,96,97,98,99] (.seq (cD 99 (.skip) (.exit 6)) (.keep [0,5,6,7,8,9,14,15,88,89,90,96,97,98] (.seq (.block 7 (sR [mO 100 98,iO 101 27 96 98,lO 102 88 101,aL 17 88 [10],aO 16 100,sT 88 17 102] [0,5,6,7,8,9,14,15,16,17,88,89,90,96,97,98] (sR [fO 103 88 15 0,lO 104 3 103,fO 105 88 17 0,lO 106 3 105,bB .eql 107 3 104 106 3] [0,5,6,7,8,9,14,15,16,17,88,89,90,96,97,98,107] (cD 107 (.reg [fO 109 30 8 4,lS 110 27 109 1,mO 111 14,fO 112 30 9 4,lS 113 27 112 4,mO 114 16,mO 115 0,fO 116 88 15 1,lO 117 30 116,fO 118 88 17 1,lO 119 30 118,⟨some 120,(cL 42 #[(xT 115),(xT 117),(xT 119)] #[73,30,30]),none,[],11,[1,4],false⟩,mO 108 120,xO 121 108 0,xO 122 108 1,iO 123 27 110 111,fO 124 88 123 1,⟨none,(.store 30 (xT 124) (xT 121)),none,[],17,[4],false⟩,iO 125 27 113 114,fO 126 88 125 1,sT 30 126 122] [0,5,6,7,8,9,14,15,88,89,90,96,97,98]) (.skip))))) (.keep [0,5,6,7,8,9,14,15,88,89,90,96,97,98] (.reg [bQ .add 127 3 98 1 3,mO 98 127] [0,5,6,7,8,9,14,15,88,89,90,96,97,98])))))
def CH:CC:=sR [bB .lss 91 3 90 89 3] [0,5,6,7,8,9,88,89,90,91] (.seq (cD 91 (.skip) (.exit 4)) (.keep [0,5,6,7,8,9,88,89,90] (.seq (.block 5 (sR [mO 92 90,iO 93 27 88 90,lO 94 88 93,aL 15 88 [9],aO 14 92,sT 88 15 94] [0,5,6,7,8,9,14,15,88,89,90] (sR [fO 95 30 5 4,lO 96 27 95,bN 97 96 27,oO 98 (.move (nI 0))] [0,5,6,7,8,9,14,15,88,89,90,96,97,98] (.block 6 (.loop B4))))) (.keep [0,5,6,7,8,9,88,89,90] (.reg [bQ .add 128 3 90 1 3,mO 90 128] [0,5,6,7,8,9,88,89,90]))))) 
def Gr:CC:=sR [bX 4 30 1 [1],bX 5 30 2 [2],aL 6 30 [3],aL 7 30 [4]] [0,4,5,6,7] (sR [oO 18 (.build 30 #[(0,(nI 2))]),oO 19 (.build 30 #[(0,(nI 2))]),aL 8 30 [5],aL 9 30 [6],sT 30 8 18,sT 30 9 19] [0,4,5,6,7,8,9] (sR [fO 20 30 4 3,lO 21 26 20,⟨some 22,(cL 107 #[(xT 21)] #[26]),none,[],2,[],true⟩,fO 23 30 5 3,⟨some 24,(lD 26 23),none,[],4,[2],false⟩,cA 25 107 24 26,fO 26 30 8 3,sT 26 26 22,fO 27 30 9 3,sT 26 27 25] [0,4,5,6,7,8,9] (sQ [fO 28 30 4 3,lO 29 26 28,bN 30 29 26,oO 31 (.move (nI 0))] [0,4,5,6,7,8,9,29,30,31] (.block 0 (.loop CN)) [0,4,5,6,7,8,9] (sR [fO 79 30 4 4,lO 80 27 79,⟨some 81,(cL 110 #[(xT 80)] #[27]),none,[],2,[],true⟩,fO 82 30 5 4,⟨some 83,(lD 27 82),none,[],4,[2],false⟩,cA 84 110 83 27,fO 85 30 8 4,sT 27 85 81,fO 86 30 9 4,sT 27 86 84] [0,4,5,6,7,8,9] (sQ [fO 87 30 4 4,lO 88 27 87,bN 89 88 27,oO 90 (.move (nI 0))] [0,5,6,7,8,9,88,89,90] (.block 4 (.loop CH)) [6,7,8,9] (sR [lO 129 30 8,⟨some 130,(cL 111 #[(xT 129)] #[30]),none,[],1,[],true⟩,⟨some 131,(lD 30 9),none,[],2,[1],false⟩,cA 132 111 131 30,sT 30 6 130,sT 30 7 132] [6,7] (.ret)))))))
theorem Kq:BT Tryz.prog 70 133 [(.cell 6 30),(.cell 7 30)] Gr:=AA Tryz.func70
def P0:CC:=sR [aN 2] [0] (sQ [mO 3 0,bQ .eql 4 3 3 0 3] [0,4] (cD 4 (sR [aN 2] [2] (.ret)) (.skip)) [0] (sR [mO 5 0,oO 6 (.build 91 #[(1,(xT 5))]),oO 7 (.buildSlice 28 1 #[(0,(xT 6))]),aO 2 7] [2] (.ret)))
theorem Xj:BT Tryz.prog 149 8 [(.tmp 2)] P0:=AA Tryz.func149
def Nb:CC:=sR [aN 2] [0] (sQ [mO 3 0,bN 4 3 23,bQ .eql 5 3 4 0 3] [0,5] (cD 5 (sR [aN 2] [2] (.ret)) (.skip)) [0] (sR [mO 6 0,oO 7 (.build 91 #[(0,(nI 2)),(2,(xT 6))]),oO 8 (.buildSlice 28 1 #[(0,(xT 7))]),aO 2 8] [2] (.ret)))
theorem Us:BT Tryz.prog 150 9 [(.tmp 2)] Nb:=AA Tryz.func150
def PH:CC:=sR [bX 1 30 0 [0],aL 2 91 [1]] [1,2] (sQ [fO 3 30 1 0,lO 4 3 3,bQ .eql 5 3 4 0 3] [1,2,5] (cD 5 (sR [oO 6 (.build 91 #[(1,(nI 1))]),sT 91 2 6] [2] (.ret)) (.skip)) [1,2] (sR [lO 7 30 1,oO 8 (.build 91 #[(0,(nI 3)),(3,(xT 7))]),sT 91 2 8] [2] (.ret)))
theorem Xu:BT Tryz.prog 152 9 [(.cell 2 91)] PH:=AA Tryz.func152
def Gy:CC:=.reg [mO 73 0,mO 74 0,mO 75 0,nC 76 75,fO 77 144 76 1,lS 78 28 77 5,mO 79 0,nC 80 79,fO 81 144 80 4,lO 82 23 81,bN 83 82 23,⟨some 84,(cL 149 #[(xT 83)] #[3]),none,[],11,[5],true⟩,⟨some 85,(bC .append #[(xT 78),(xT 84)] #[28,28]),none,[2],12,[],true⟩,mO 86 0,nC 87 86,fO 88 144 87 2,⟨some 89,(lD 28 88),none,[],16,[11,12],true⟩,mO 90 0,nC 91 90,fO 92 144 91 3,⟨some 93,(lD 23 92),none,[],20,[11,12],false⟩,bN 94 93 23,⟨some 95,(cL 149 #[(xT 94)] #[3]),none,[],22,[16],false⟩,aP 96 89 95 28 28 [3],nC 97 73,fO 98 144 97 1,sT 28 98 85,nC 99 74,fO 100 144 99 2,sT 28 100 96] [0] 
def GZ:CC:=.seq (.block 0 (sR [mO 43 0,nC 44 43,fO 45 144 44 3,lO 46 23 45,bN 47 46 23,bQ .gtr 48 3 47 0 3,mO 49 48,mG 50 0 49 true,oG 51 (.nilCheck (xT 50)) 49 true,fG 52 144 51 4 49 true,lG 53 23 52 49 true,oG 54 (bL 53 23) 49 true,oG 55 (.binOp .gtr 3 (xT 54) (nI 0) 3) 49 true,pF 56 49 55,aO 42 56] [0,42] (cD 42 (sQ [mO 57 0,nC 58 57,fO 59 144 58 3,lO 60 23 59,mO 61 0,nC 62 61,fO 63 144 62 4,lO 64 23 63,oO 65 (cL 126 #[(xT 60),(xT 64),(.func 57)] #[23,23,38]),oO 66 (.unOp .not 4 (xT 65))] [0,66] (cD 66 (.reg [mO 67 0,nC 68 67,fO 69 144 68 0,lO 70 73 69,nC 71 70,fO 72 75 71 0,oS (.store 4 (xT 72) (nB true))] [0]) (.skip)) [0] Gy) (sR [mO 2 0,mO 3 0,nC 4 3,fO 5 144 4 1,lS 6 28 5 4,mO 7 0,nC 8 7,fO 9 144 8 3,lO 10 23 9,⟨some 11,(cL 150 #[(xT 10)] #[23]),none,[],9,[4],true⟩,⟨some 12,(bC .append #[(xT 6),(xT 11)] #[28,28]),none,[4],10,[],true⟩,mO 13 0,nC 14 13,fO 15 144 14 4,⟨some 16,(lD 23 15),none,[],14,[9,10],false⟩,bN 17 16 23,cA 18 149 17 3,aP 19 12 18 28 28 [5],nC 20 2,fO 21 144 20 1,sT 28 21 19] [0] (.reg [mO 22 0,mO 23 0,nC 24 23,fO 25 144 24 2,lS 26 28 25 4,mO 27 0,nC 28 27,fO 29 144 28 3,lO 30 23 29,bN 31 30 23,⟨some 32,(cL 149 #[(xT 31)] #[3]),none,[],10,[4],true⟩,⟨some 33,(bC .append #[(xT 26),(xT 32)] #[28,28]),none,[6],11,[],true⟩,mO 34 0,nC 35 34,fO 36 144 35 4,⟨some 37,(lD 23 36),none,[],15,[10,11],false⟩,cA 38 150 37 23,aP 39 33 38 28 28 [7],nC 40 22,fO 41 144 40 2,sT 28 41 39] [0]))))) (.keep [0] (.reg [mO 101 0,mO 102 0,nC 103 101,fO 104 144 103 3,oS (.store 23 (xT 104) nS),nC 105 102,fO 106 144 105 4,oS (.store 23 (xT 106) nS)] []))
theorem J1:BT Tryz.prog 112 107 [] GZ:=AA Tryz.func112
def Jy:CC:=sR [bX 4 30 1 [2],bX 5 25 2 [3]] [0,4,5] (sQ [lO 9 30 4,lO 10 25 5,cB 11 25 9 10 30 25,mO 8 11,xO 12 8 0,xO 13 8 1,aL 6 25 [4],sT 25 6 12,aO 7 13] [0,7] (sR [mO 14 7,oO 15 (.unOp .not 4 (xT 14))] [0,15] (cD 15 (.reg [mO 16 0,nC 17 16,fO 18 144 17 0,lO 19 73 18,nC 20 19,fO 21 75 20 1,oS (.store 4 (xT 21) (nB true))] [0]) (.skip))) [0] (.reg [mO 22 0,nC 23 22,fO 24 144 23 0,lO 25 73 24,nC 26 25,fO 27 75 26 0,oS (.store 4 (xT 27) (nB true))] []))
theorem Ph:BT Tryz.prog 151 28 [] Jy:=AA Tryz.func151
def Br:CC:=sR [bX 4 91 1 [2],bX 5 91 2 [3]] [0,4,5] (.block 0 (sR [fO 43 91 4 0,lO 44 3 43,bQ .eql 45 3 44 0 3,mO 46 45,fG 47 91 5 0 46 true,lG 48 3 47 46 true,oG 49 (.binOp .eql 3 (xT 48) (nI 1) 3) 46 true,pF 50 46 49,aO 42 50] [0,4,5,42] (cD 42 (.reg [mO 51 0,nC 52 51,fO 53 144 52 2,lS 54 28 53 3,lS 55 91 5 4,bN 56 54 28,⟨some 57,(.buildSlice 28 1 #[(0,(.const (.agg #[(.int .i64 0),(.int .i64 0),(.slice none 0 0),(.int .i64 0),(.int .i64 0),(.slice none 0 0),(.slice none 0 0),(.int .i64 0),(.slice none 0 0),(.slice none 0 0),(.slice none 0 0),(.slice none 0 0),(.int .i64 0),(.slice none 0 0)])))]),none,[],6,[3,4],false⟩,aP 58 54 57 28 28 [4],iO 59 28 58 56,⟨none,(.store 91 (xT 59) (xT 55)),none,[],9,[],true⟩,nC 60 51,fO 61 144 60 2,⟨none,(.store 28 (xT 61) (xT 58)),none,[],12,[9],false⟩] []) (sR [fO 63 91 4 0,lO 64 3 63,bQ .eql 65 3 64 1 3,mO 66 65,fG 67 91 5 0 66 true,lG 68 3 67 66 true,oG 69 (.binOp .eql 3 (xT 68) (nI 0) 3) 66 true,pF 70 66 69,aO 62 70] [0,4,5,62] (cD 62 (.reg [mO 71 0,nC 72 71,fO 73 144 72 1,lS 74 28 73 3,lS 75 91 4 4,bN 76 74 28,⟨some 77,(.buildSlice 28 1 #[(0,(.const (.agg #[(.int .i64 0),(.int .i64 0),(.slice none 0 0),(.int .i64 0),(.int .i64 0),(.slice none 0 0),(.slice none 0 0),(.int .i64 0),(.slice none 0 0),(.slice none 0 0),(.slice none 0 0),(.slice none 0 0),(.int .i64 0),(.slice none 0 0)])))]),none,[],6,[3,4],false⟩,aP 78 74 77 28 28 [5],iO 79 28 78 76,⟨none,(.store 91 (xT 79) (xT 75)),none,[],9,[],true⟩,nC 80 71,fO 81 144 80 1,⟨none,(.store 28 (xT 81) (xT 78)),none,[],12,[9],false⟩] []) (sR [fO 83 91 4 0,lO 84 3 83,bQ .eql 85 3 84 0 3,aO 82 85] [0,4,5,82] (cD 82 (.reg [mO 86 0,mO 87 0,mO 88 0,nC 89 88,fO 90 144 89 1,lS 91 28 90 5,fO 92 91 5 1,lS 93 3 92 7,oO 94 (bC .max #[(xT 93),(nI 1)] #[3,3]),oO 95 (.build 91 #[(1,(xT 94))]),⟨some 96,(.buildSlice 28 1 #[(0,(xT 95))]),none,[],10,[5],true⟩,⟨some 97,(bC .append #[(xT 91),(xT 96)] #[28,28]),none,[6],11,[],true⟩,mO 98 0,nC 99 98,fO 100 144 99 2,⟨some 101,(lD 28 100),none,[],15,[10,11],true⟩,⟨some 102,(lD 91 5),none,[],16,[10,11],false⟩,⟨some 103,(.buildSlice 28 1 #[(0,(xT 102))]),none,[],17,[5,7,10,11,15],false⟩,aP 104 101 103 28 28 [7],nC 105 86,fO 106 144 105 1,sT 28 106 97,nC 107 87,fO 108 144 107 2,sT 28 108 104] []) (sR [fO 110 91 5 0,lO 111 3 110,bQ .eql 112 3 111 0 3,aO 109 112] [0,4,5,109] (cD 109 (.reg [mO 113 0,mO 114 0,mO 115 0,nC 116 115,fO 117 144 116 1,lS 118 28 117 5,lS 119 91 4 6,⟨some 120,(.buildSlice 28 1 #[(0,(xT 119))]),none,[],7,[5],true⟩,⟨some 121,(bC .append #[(xT 118),(xT 120)] #[28,28]),none,[8],8,[],true⟩,mO 122 0,nC 123 122,fO 124 144 123 2,⟨some 125,(lD 28 124),none,[],12,[7,8],true⟩,oO 126 (.build 91 #[(1,(nI 1))]),⟨some 127,(.buildSlice 28 1 #[(0,(xT 126))]),none,[],14,[5,6,7,8,12],false⟩,aP 128 125 127 28 28 [9],nC 129 113,fO 130 144 129 1,sT 28 130 121,nC 131 114,fO 132 144 131 2,sT 28 132 128] []) (sR [fO 134 91 4 0,lO 135 3 134,bQ .eql 136 3 135 1 3,mO 137 136,fG 138 91 5 0 137 true,lG 139 3 138 137 true,oG 140 (.binOp .eql 3 (xT 139) (nI 1) 3) 137 true,pF 141 137 140,aO 133 141] [0,4,5,133] (cD 133 (sR [fO 142 91 4 2,lO 143 23 142,fO 144 91 5 2,lO 145 23 144,oO 146 (cL 126 #[(xT 143),(xT 145),(.func 57)] #[23,23,38]),oO 147 (.unOp .not 4 (xT 146))] [0,147] (cD 147 (.reg [mO 148 0,nC 149 148,fO 150 144 149 0,lO 151 73 150,nC 152 151,fO 153 75 152 1,oS (.store 4 (xT 153) (nB true))] []) (.skip))) (sR [fO 155 91 4 0,lO 156 3 155,bQ .eql 157 3 156 1 3,aO 154 157] [0,4,5,154] (cD 154 (.reg [mO 158 0,fO 159 91 5 3,lO 160 30 159,fO 161 91 4 2,lO 162 23 161,oO 163 (.indexAddr 23 (xT 162) (nI 0)),lO 164 25 163,cE 165 151 158 160 164 142 30 25] []) (sR [fO 167 91 5 0,lO 168 3 167,bQ .eql 169 3 168 1 3,aO 166 169] [0,4,5,166] (cD 166 (.reg [mO 170 0,fO 171 91 4 3,lO 172 30 171,fO 173 91 5 2,lO 174 23 173,oO 175 (.indexAddr 23 (xT 174) (nI 0)),lO 176 25 175,cE 177 151 170 172 176 142 30 25] []) (sR [mO 9 0,nC 10 9,fO 11 144 10 0,lS 12 73 11 3,fO 13 91 4 3,lS 14 30 13 5,fO 15 91 5 3,lS 16 30 15 7,⟨some 17,(cL 42 #[(xT 12),(xT 14),(xT 16)] #[73,30,30]),none,[],8,[],true⟩,mO 8 17,xO 18 8 0,xO 19 8 1,⟨some 6,(.alloc 30),none,[10],12,[3,5,7,8],true⟩,⟨some 7,(.alloc 30),none,[11],13,[3,5,7,8,12],false⟩,sT 30 6 18,sT 30 7 19] [0,6,7] (.reg [mO 20 0,mO 21 0,mO 22 0,nC 23 22,fO 24 144 23 1,lS 25 28 24 5,lO 26 30 6,⟨some 27,(cL 152 #[(xT 26)] #[30]),none,[],7,[5],true⟩,⟨some 28,(.buildSlice 28 1 #[(0,(xT 27))]),none,[],8,[5],true⟩,⟨some 29,(bC .append #[(xT 25),(xT 28)] #[28,28]),none,[12],9,[],true⟩,mO 30 0,nC 31 30,fO 32 144 31 2,⟨some 33,(lD 28 32),none,[],13,[7,8,9],true⟩,⟨some 34,(lD 30 7),none,[],14,[7,8,9],false⟩,⟨some 35,(cL 152 #[(xT 34)] #[30]),none,[],15,[13],false⟩,⟨some 36,(.buildSlice 28 1 #[(0,(xT 35))]),none,[],16,[13],false⟩,aP 37 33 36 28 28 [13],nC 38 20,fO 39 144 38 1,sT 28 39 29,nC 40 21,fO 41 144 40 2,sT 28 41 37] [])))))))))))))))))
theorem BB:BT Tryz.prog 113 178 [] Br:=AA Tryz.func113
def Nc:CC:=sR [bX 1 91 0 [0],aB 2 false] [1] (sR [fO 3 91 1 0,lO 4 3 3,bQ .neq 5 3 4 0 3,aO 2 5] [2] (.ret))
theorem Um:BT Tryz.prog 154 6 [(.tmp 2)] Nc:=AA Tryz.func154
def BM:CC:=sR [bB .lss 9 3 8 7 3] [0,1,7,8,9] (.seq (cD 9 (.skip) (.exit 0)) (.keep [0,1,7,8] (.seq (.block 1 (sR [mO 10 8,aO 5 10] [0,1,5,7,8] (sR [mO 11 1,mO 12 0,mO 13 5,iO 14 28 12 13,lO 15 91 14,oO 16 (.call { callee:=(.value (xT 11)),args:=#[(xT 15)],argTypes:=#[91] })] [0,1,5,7,8,16] (cD 16 (sR [mO 17 5,aO 4 17] [4] (.ret)) (.skip))))) (.keep [0,1,7,8] (.reg [bQ .add 18 3 8 1 3,mO 8 18] [0,1,7,8]))))) 
def Eh:CC:=sR [aI 4 0] [0,1] (sQ [mO 6 0,bN 7 6 28,oO 8 (.move (nI 0))] [0,1,7,8] (.block 0 (.loop BM)) [] (sR [oO 4 (.assign (.const (.int .i64 (-1))))] [4] (.ret)))
theorem HO:BT Tryz.prog 177 19 [(.tmp 4)] Eh:=AA Tryz.func177
def DF:CC:=sR [aB 4 false] [0,1] (sR [mO 5 0,mO 6 1,cB 7 177 5 6 28 202,bQ .geq 8 3 7 0 3,aO 4 8] [4] (.ret))
theorem GK:BT Tryz.prog 153 9 [(.tmp 4)] DF:=AA Tryz.func153
def K9:CC:=sR [aL 4 30 [0]] [0,1,4] (sQ [mO 5 1,oO 6 (cL 153 #[(xT 5),(.func 154)] #[28,202]),oO 7 (.unOp .not 4 (xT 6))] [0,1,4,7] (cD 7 (sR [oO 8 (.build 30 #[]),sT 30 4 8] [4] (.ret)) (.skip)) [0,1,4] (sR [mO 9 0,mO 10 1,oO 11 (.build 30 #[(0,(nI 3)),(5,(xT 9)),(6,(xT 10))]),sT 30 4 11] [4] (.ret)))
theorem PV:BT Tryz.prog 114 12 [(.cell 4 30)] K9:=AA Tryz.func114
def Ci:CC:=sR [bB .lss 35 3 34 33 3] [4,6,7,10,32,33,34,35] (.seq (cD 35 (.skip) (.exit 0)) (.keep [4,6,7,10,32,33,34] (.seq (.block 1 (sR [iO 36 113 32 34,lO 37 117 36,aL 12 117 [6],sT 117 12 37] [4,6,7,10,12,32,33,34] (sR [fO 38 117 12 0,lO 39 3 38] [4,6,7,10,12,32,33,34,39] (.block 2 (sR [bQ .eql 49 3 39 1 3,aO 48 49] [4,6,7,10,12,32,33,34,39,48] (cD 48 (.reg [mO 50 10,mO 51 10,nC 52 51,fO 53 144 52 3,lO 54 23 53,fO 55 117 12 1,fO 56 91 55 2,lO 57 23 56,aP 58 54 57 23 23 [7],nC 59 50,fO 60 144 59 3,sT 23 60 58] [4,6,7,10,32,33,34]) (sR [bQ .eql 62 3 39 2 3,aO 61 62] [4,6,7,10,12,32,33,34,61] (cD 61 (.reg [mO 63 10,mO 64 10,nC 65 64,fO 66 144 65 4,lO 67 23 66,fO 68 117 12 2,fO 69 91 68 2,lO 70 23 69,aP 71 67 70 23 23 [8],nC 72 63,fO 73 144 72 4,sT 23 73 71] [4,6,7,10,32,33,34]) (sR [mO 40 10,cA 41 112 40 142] [4,6,7,10,12,32,33,34] (.reg [mO 42 10,fO 43 117 12 1,lO 44 91 43,fO 45 117 12 2,lO 46 91 45,cE 47 113 42 44 46 142 91 91] [4,6,7,10,32,33,34])))))))))) (.keep [4,6,7,10,32,33,34] (.reg [bQ .add 74 3 34 1 3,mO 34 74] [4,6,7,10,32,33,34]))))) 
def Jg:CC:=sR [bX 4 30 1 [1],bX 5 30 2 [2],aL 6 30 [3],aL 7 30 [4]] [0,4,5,6,7] (sR [fO 14 30 4 6,lO 15 28 14,fO 16 30 5 6,lO 17 28 16,cB 18 86 15 17 28 28,mO 13 18,xO 19 13 0,xO 20 13 1,aO 8 19,aO 9 20] [0,4,6,7,8,9] (sQ [mO 21 9,oO 22 (.unOp .not 4 (xT 21))] [0,4,6,7,8,22] (cD 22 (sR [mO 23 0,nC 24 23,fO 25 75 24 1,oS (.store 4 (xT 25) (nB true))] [6,7] (sR [oO 26 (cL 69 #[] #[]),xO 27 26 0,xO 28 26 1,sT 30 6 27,sT 30 7 28] [6,7] (.ret))) (.skip)) [0,4,6,7,8] (sR [mO 29 0,oO 30 (.build 144 #[(0,(xT 29))]),bX 31 144 30 [5],aO 10 31] [4,6,7,8,10] (sQ [mO 32 8,bN 33 32 113,oO 34 (.move (nI 0))] [4,6,7,10,32,33,34] (.block 0 (.loop Ci)) [4,6,7,10] (.stop (sR [mO 75 10,cA 76 112 75 142] [4,6,7,10] (.stop (sR [fO 77 30 4 5,lO 78 3 77,mO 79 10,nC 80 79,fO 81 144 80 1,lO 82 28 81,⟨some 83,(cL 114 #[(xT 78),(xT 82)] #[3,28]),none,[],6,[],true⟩,fO 84 30 4 5,⟨some 85,(lD 3 84),none,[],8,[6],false⟩,mO 86 10,nC 87 86,fO 88 144 87 2,⟨some 89,(lD 28 88),none,[],12,[6],false⟩,cB 90 114 85 89 3 28,sT 30 6 83,sT 30 7 90] [6,7] (.ret)))))))))
theorem Ov:BT Tryz.prog 71 91 [(.cell 6 30),(.cell 7 30)] Jg:=AA Tryz.func71
def CP:CC:=sR [bX 4 30 1 [1],bX 5 30 2 [2],aL 6 30 [3],aL 7 30 [4]] [0,4,5,6,7] (.seq (.block 0 (sR [fO 9 30 4 0,lO 10 3 9,bQ .eql 11 3 10 0 3,mO 12 11,fG 13 30 5 0 12 false,lG 14 3 13 12 false,oG 15 (.binOp .eql 3 (xT 14) (nI 0) 3) 12 false,pT 16 12 15,aO 8 16] [0,4,5,6,7,8] (cD 8 (sR [lO 17 30 4,lS 18 30 5 1,⟨none,(.store 30 (xT 6) (xT 17)),none,[],2,[1],false⟩,sT 30 7 18] [6,7] (.ret)) (sR [fO 20 30 4 0,lO 21 3 20,bQ .eql 22 3 21 1 3,aO 19 22] [0,4,5,6,7,19] (cD 19 (sR [mO 23 0,lO 24 30 5,fO 25 30 4 1,lO 26 25 25,fO 27 30 4 2,lO 28 25 27,oO 29 (cL 68 #[(xT 23),(xT 24),(xT 26),(xT 28)] #[73,30,25,25])] [6,7] (sR [oO 30 (cL 69 #[] #[]),xO 31 30 0,xO 32 30 1,sT 30 6 31,sT 30 7 32] [6,7] (.ret))) (sR [fO 34 30 5 0,lO 35 3 34,bQ .eql 36 3 35 1 3,aO 33 36] [0,4,5,6,7,33] (cD 33 (sR [mO 37 0,lO 38 30 4,fO 39 30 5 1,lO 40 25 39,fO 41 30 5 2,lO 42 25 41,oO 43 (cL 68 #[(xT 37),(xT 38),(xT 40),(xT 42)] #[73,30,25,25])] [6,7] (sR [oO 44 (cL 69 #[] #[]),xO 45 44 0,xO 46 44 1,sT 30 6 45,sT 30 7 46] [6,7] (.ret))) (sR [fO 48 30 4 0,lO 49 3 48,fO 50 30 5 0,lO 51 3 50,bB .neq 52 3 49 51 3,mO 53 52,fG 54 30 4 5 53 false,lG 55 3 54 53 false,fG 56 30 5 5 53 false,lG 57 3 56 53 false,oG 58 (bO .neq 3 55 57 3) 53 false,pT 59 53 58,aO 47 59] [0,4,5,6,7,47] (cD 47 (sR [mO 60 0,nC 61 60,fO 62 75 61 1,oS (.store 4 (xT 62) (nB true))] [6,7] (sR [oO 63 (cL 69 #[] #[]),xO 64 63 0,xO 65 63 1,sT 30 6 64,sT 30 7 65] [6,7] (.ret))) (sR [fO 67 30 4 0,lO 68 3 67,bQ .eql 69 3 68 2 3,aO 66 69] [0,4,5,6,7,66] (cD 66 (sR [mO 70 0,lO 71 30 4,lO 72 30 5,cE 73 70 70 71 72 73 30 30,xO 74 73 0,xO 75 73 1,sT 30 6 74,sT 30 7 75] [6,7] (.ret)) (.skip)))))))))))) (.keep [0,4,5,6,7] (sR [mO 76 0,lO 77 30 4,lO 78 30 5,cE 79 71 76 77 78 73 30 30,xO 80 79 0,xO 81 79 1,sT 30 6 80,sT 30 7 81] [6,7] (.ret))))
theorem Dx:BT Tryz.prog 42 82 [(.cell 6 30),(.cell 7 30)] CP:=AA Tryz.func42
def Oe:CC:=sR [bX 2 30 0 [0],bX 3 30 1 [1],aL 4 30 [2],aL 5 30 [3],aI 6 0] [2,3,4,5] (sR [oO 10 (.build 75 #[]),bX 11 75 10 [4],aO 7 11] [2,3,4,5,7] (sR [mO 13 7,lS 14 30 2 1,⟨some 15,(cL 43 #[(xT 14)] #[30]),none,[],2,[],true⟩,⟨some 16,(lD 30 3),none,[],3,[2],true⟩,⟨some 17,(cL 43 #[(xT 16)] #[30]),none,[],4,[],true⟩,⟨some 18,(cL 42 #[(xT 13),(xT 15),(xT 17)] #[73,30,30]),none,[],5,[],true⟩,mO 12 18,xO 19 12 0,xO 20 12 1,⟨some 8,(.alloc 30),none,[5],9,[1,2,3,4,5],true⟩,⟨some 9,(.alloc 30),none,[6],10,[1,2,3,4,5,9],false⟩,sT 30 8 19,sT 30 9 20] [4,5,7,8,9] (.seq (.block 0 (sR [mO 22 7,nC 23 22,fO 24 75 23 1,lO 25 4 24,aO 21 25] [4,5,7,8,9,21] (cD 21 (sR [oO 26 (.build 30 #[]),oO 27 (.build 30 #[]),sT 30 4 26,sT 30 5 27,aI 6 14] [4,5,6] (.ret)) (sR [mO 29 7,nC 30 29,fO 31 75 30 0,lO 32 4 31,aO 28 32] [4,5,8,9,28] (cD 28 (sR [oO 33 (.build 30 #[]),oO 34 (.build 30 #[]),sT 30 4 33,sT 30 5 34,aI 6 13] [4,5,6] (.ret)) (.skip)))))) (.keep [4,5,8,9] (sR [lO 35 30 8,⟨some 36,(cL 43 #[(xT 35)] #[30]),none,[],1,[],true⟩,⟨some 37,(lD 30 9),none,[],2,[1],false⟩,cA 38 43 37 30,sT 30 4 36,sT 30 5 38,aI 6 0] [4,5,6] (.ret))))))
theorem W7:BT Tryz.prog 23 39 [(.cell 4 30),(.cell 5 30),(.tmp 6)] Oe:=AA Tryz.func23
def GC:CC:=sR [bX 4 25 0 [0],bX 5 25 1 [1],bX 6 25 2 [2],aB 8 false] [3,4,5,6] (sQ [lO 18 25 4,lO 19 25 5,lO 20 25 6,cE 21 18 18 19 20 25 25 25,oO 22 (.unOp .not 4 (xT 21))] [3,4,5,6,22] (cD 22 (sR [oO 23 (cL 13 #[] #[]),aO 8 23] [8] (.ret)) (.skip)) [3,4,5,6] (sR [lO 25 25 4,lO 26 25 5,lO 27 25 6,mO 28 3,oO 29 (cL 19 #[(xT 25),(xT 26),(xT 27),(xT 28)] #[25,25,25,3]),mO 24 29,xO 30 24 0,xO 31 24 1,aL 9 25 [3],sT 25 9 30,aO 10 31] [3,4,5,6,9,10] (sR [lS 33 25 4 0,lS 34 25 5 1,mO 35 3,⟨some 36,(cL 24 #[(xT 33),(xT 34),(xT 35)] #[25,25,3]),none,[],3,[],true⟩,⟨some 37,(lD 25 4),none,[],4,[3],true⟩,⟨some 38,(lD 25 6),none,[],5,[3],true⟩,mO 39 3,⟨some 40,(cL 24 #[(xT 37),(xT 38),(xT 39)] #[25,25,3]),none,[],7,[],true⟩,⟨some 41,(cL 23 #[(xT 36),(xT 40)] #[30,30]),none,[],8,[],true⟩,mO 32 41,xO 42 32 0,xO 43 32 1,xO 44 32 2,⟨some 11,(.alloc 30),none,[4],13,[0,1,3,4,5,7,8],true⟩,⟨some 12,(.alloc 30),none,[5],14,[0,1,3,4,5,7,8,13],false⟩,sT 30 11 42,sT 30 12 43,aO 13 44] [5,6,9,10,11,12,13] (sQ [mO 45 10,bN 46 45 35,bQ .gtr 47 3 46 0 3] [5,6,9,11,12,13,47] (cD 47 (sR [mO 48 13,bQ .eql 49 52 48 13 52,mO 50 49,oG 51 (cL 13 #[] #[]) 50 true,pF 52 50 51,aO 8 52] [8] (.ret)) (.skip)) [5,6,9,11,12,13] (sR [lO 54 30 12,lO 55 25 5,cB 56 25 54 55 30 25,mO 53 56,xO 57 53 0,xO 58 53 1,aL 14 25 [6],sT 25 14 57,aO 15 58] [6,9,11,13,14,15] (sR [lO 60 30 11,lO 61 25 6,cB 62 25 60 61 30 25,mO 59 62,xO 63 59 0,xO 64 59 1,aL 16 25 [7],sT 25 16 63,aO 17 64] [9,13,14,15,16,17] (sR [mO 65 13,bQ .eql 66 52 65 0 52,mO 67 66,mG 68 15 67 true,pF 69 67 68,mO 70 69,mG 71 17 70 true,pF 72 70 71,mO 73 72,lG 74 25 14 73 true,lG 75 25 9 73 true,oG 76 (cL 16 #[(xT 74),(xT 75)] #[25,25]) 73 true,pF 77 73 76,mO 78 77,lG 79 25 16 78 true,lG 80 25 9 78 true,oG 81 (cL 16 #[(xT 79),(xT 80)] #[25,25]) 78 true,pF 82 78 81,mO 83 82,oG 84 (cL 13 #[] #[]) 83 true,pF 85 83 84,aO 8 85] [8] (.ret))))))))
theorem Lm:BT Tryz.prog 8 86 [(.tmp 8)] GC:=AA Tryz.func8
end Go.Proofs.YtlaapfplenlfaaaGreat
namespace Go.Proofs.YtlaapfplenlfaaaGreat
open Go Go.G Go.Proofs Go.PL
def Q7(v:Nat)(c a:Bool):Fam:=AgT v [bv c,bv a] fun x hx=>by
 simp at hx;rcases hx with rfl|rfl<;>exact Az
@[simp]theorem AlJ{v:Nat}{c a:Bool}{r:Nat}{p:Nm}:(Q7 v c a).F r p=if p=[]then ⟨v,.cells [bv c,bv a]⟩else ⟨0,.none⟩:=rfl
theorem b9:G.Spec Tryz.prog 69 [] (.tup [eX E0,eX E0]):=by
 refine Ak Xt iS fun w0 I0=>?_;unfold PQ;simp;exact EZ ⟨CF (FR _),CF (FR _),trivial⟩
set_option maxRecDepth 10000 in
theorem Adg:∀a:Fin 256,bits .xor .u8 255 ((a.val:Nat):Int)=255-((a.val:Nat):Int):=dO
theorem AaZ{k:Int}(h:0<=k/\k<256):bits .xor .u8 255 k=255-k:=by
 obtain⟨a,rfl⟩:=Int.eq_ofNat_of_zero_le h.1;exact Adg ⟨a,oF⟩
@[simp]theorem AeA{n:Int}:xd .xor (u8 n)=some (u8 (bits .xor .u8 255 n)):=rfl
theorem TX{w:WE}(hw:WE.wf w){k:Int}(hk:0<=k/\k<256):G.Spec Tryz.prog 109 [wX w,u8 (255-k)] (.tup [wX (Kp w k),bv (!decide (LF k w.mask=0))]):=by
 have hm:=UJ hk hw.2.1;have z:Bs 0:=by unfold Bs;omega
 have M1:=C8 z hw.2.2.1 hm.1 hm.2;have M2:=C8 z hw.2.2.2 hm.1 hm.2;have e:bits .and .u8 (255-k) w.mask=LF k w.mask:=rfl;refine Ak XS iS fun w0 I0=>?_;unfold Pz;simp[e];refine Ag M1 iS ?_;simp[e];refine Ag M2 iS ?_;simp[e];exact EZ ⟨Ae (by simp[Kp]),Ae rfl,trivial⟩
theorem aZ{a b:WE}(ha:WE.wf a)(hb:WE.wf b)(ho:A5 0 a.old (Db a.mask b.mask)=A5 0 b.old (Db a.mask b.mask))(v:Nat)(c:Bool):SpecF Tryz.prog 108 (fun r=>[.pob [r] v 0,wX a,wX b]) (Q7 v c false) (fun _=>.tup []) (Q7 v (c|| FX a b) false):=by
 have hm:=Wu ha.2.1 hb.2.1;have z:Bs 0:=by unfold Bs;omega
 have M1:=C8 z ha.2.2.1 hm.1 hm.2;have M2:=C8 z hb.2.2.1 hm.1 hm.2;have M3:=C8 z ha.2.2.2 hm.1 hm.2;have M4:=C8 z hb.2.2.2 hm.1 hm.2;rw[ho]at M1;have e:bits .and .u8 a.mask b.mask=Db a.mask b.mask:=rfl;have hc:FX a b=decide (A5 0 a.new (Db a.mask b.mask)≠A5 0 b.new (Db a.mask b.mask)):=rfl;refine Ao Nw iS (Ab Aq (Ab (DJ (cs:=[iv a.at_,u8 a.mask,uv a.old,uv a.new]) rfl iS) (Ab (DJ (cs:=[iv b.at_,u8 b.mask,uv b.old,uv b.new]) rfl iS) Ah))) (Ay Ah) fun w0 I0 M0 m0=>?_;unfold Ja;simp[e,Aa];refine Ag M1 iS ?_;simp[Aa];refine Ag M2 iS ?_;simp[Aa];refine Ag M3 iS ?_;simp[Aa];refine Ag M4 iS ?_;simp[Aa];by_cases h:A5 0 a.new (Db a.mask b.mask)=A5 0 b.new (Db a.mask b.mask)
 ·simp[h,hc];exact AQ rfl rfl fun p=>iS
 ·simp[h,hc];refine AQ rfl rfl fun p=>?_;by_cases hp:p=[]
  ·subst hp;simp[Aa]
  ·simp[Aa,hp]
theorem Q6{e:E}{o n u:T}(A1:G.Spec Tryz.prog 25 [eX e,tX o] (.tup [tX u,bv true]))(wu:AE u)(wn:AE n)(v:Nat)(c:Bool):SpecF Tryz.prog 68 (fun r=>[.pob [r] v 0,eX e,tX o,tX n]) (Q7 v c false) (fun _=>.tup []) (Q7 v (c|| !J2 u n) false):=by
 have Q:=Jf wu wn;refine Ao Ou iS (Ab Aq (Ab (AF e) (Ab (Bz o) (Ab (Bz n) Ah)))) (Ay Ah) fun w0 I0 M0 m0=>?_;unfold Jc;simp[Aa];refine Ag A1 iS ?_;simp[Aa];refine Ag Q iS ?_;simp[Aa];cases h:J2 u n with
 |true=>
  simp;exact AQ rfl rfl fun p=>iS
 |false=>
  simp[Aa];refine AQ rfl rfl fun p=>?_;by_cases hp:p=[]
  ·subst hp;simp[Aa]
  ·simp[Aa,hp]
theorem jV{H:Hp}(n:Int):Jl H (.agg (iv 0::iv n :: .sl true []::Be)) (oX (.mk 0 n [] E0)):=by
 have h:=Oh (H:=H) (a:=.agg (iv 0::iv n :: .sl true []::Be)) (by simp[Be]);have e:(A.agg (iv 0::iv n :: .sl true []::Be)).soft=oX (.mk 0 n [] E0):=by simp[A.soft,A.softL,Be]
 rw[e]at h;exact h
theorem fW{H:Hp}(n:Int):Jl H (.sl true [.agg (iv 0::iv n :: .sl true []::Be)]) (Jo [OP.mk 0 n [] E0]):=by
 have h:=Oh (H:=H) (a:=.sl true [.agg (iv 0::iv n :: .sl true []::Be)]) (by simp[Be]);have e:(A.sl true [.agg (iv 0::iv n :: .sl true []::Be)]).soft=Jo [OP.mk 0 n [] E0]:=by simp[A.soft,A.softL,Be]
 rw[e]at h;exact h
theorem TQ(n:Nat):G.Spec Tryz.prog 149 [iv n] (Jo (RR n)):=by
 refine Ak Xj iS fun w0 I0=>?_;unfold P0 RR;by_cases h:n=0
 ·subst h;simp;exact Am
 ·have h':¬(n:Int)=0:=oF
  simp[h,h'];exact fW n
theorem VT(l:List T):G.Spec Tryz.prog 150 [B7 l] (Jo (Yj l)):=by
 refine Ak Us iS fun w0 I0=>?_;unfold Nb Yj;by_cases h:l=[]
 ·subst h;simp;exact Am
 ·have h':¬(l.length:Int)=0:=by have:=List.length_pos_iff.2 h;omega
  simp[h,h'];exact dY 2 l
theorem Uc(e:E):G.Spec Tryz.prog 152 [eX e] (oX (Q0 e)):=by
 refine Ak Xu iS fun w0 I0=>?_;unfold PH Q0;by_cases h:e.kind=0
 ·simp[h];exact jV 1
 ·simp[h];have k:=Oh (H:=Gz [([0],⟨1,.cells (eL e)⟩),([1],⟨1,.cells (iv 3::iv 0 :: .sl true []::eL e)⟩)]) (a:=.agg (iv 3::iv 0 :: .sl true []::eL e)) iS;have e':(A.agg (iv 3::iv 0 :: .sl true []::eL e)).soft=oX (.mk 3 0 [] e):=by simp[A.soft,A.softL,JD,FZ,N9,Rc,QX]
  rw[e']at k;exact k
theorem dV(o:OP):G.Spec Tryz.prog 154 [oX o] (bv (!decide (o.kind=0))):=by
 refine Ak Um iS fun w0 I0=>?_;unfold Nc;simp;exact BA rfl
theorem YR(w:WE):G.Spec Tryz.prog 146 [wX w] (bv (decide (w.mask=0))):=by
 refine Ak Uv iS fun w0 I0=>?_;unfold M8;simp;exact BA rfl
theorem Yq(k:KE):G.Spec Tryz.prog 148 [kX k] (bv (decide (k.e.kind=0))):=by
 refine Ak Uo iS fun w0 I0=>?_;unfold MU;simp;exact BA rfl
abbrev IX:∀x,x∈([]:List A)->DV (fun _=>x):=fun x hx=>by simp at hx
theorem pS(x:WE):DV (fun _=>wA x):=by
 rw[wA_eq];exact DJ (cs:=A.cells (wA x)) (by rw[wA_eq];rfl) (by rw[wA_eq];simp)
def HC(v:Nat)(l:List WE)(Z:List A)(hZ:∀x,x∈Z->DV (fun _=>x)):Fam:=uR v 4 (l.map wA++Z) fun x hx=>by
 rcases List.mem_append.1 hx with hx|hx
 ·obtain⟨w,_,rfl⟩:=List.mem_map.1 hx;exact pS w
 ·exact hZ x hx
@[simp]theorem zR{v:Nat}{l:List WE}{Z:List A}{hZ:∀x,x∈Z->DV (fun _=>x)}{r:Nat}{p:Nm}:(HC v l Z hZ).F r p=if p=[]then ⟨v,.arr 4 (l.map wA++Z)⟩else ⟨0,.none⟩:=rfl
def Im:List WE->Nat->Int
 |[],_=>-1
 |x::l,i=>if x.mask=0 then i else Im l (i+1)
abbrev XW:A:=.fnc 146 [] []
variable {n0:Nat} {w0:World} {I0:Nat->Prop} {M0:Nm->Nat->Prop} {m0:Mu} {Q:Exit->Sta->Prop}
theorem zS{l:List WE}{v:Nat}{H:Hp}(hl:l.length<=1000000)(hH:∀p,H (0::p)=(HC v l [] IX).F 0 p)
  (hq:∀y:Int,y=Im l 0->y≠-1->Q .ret ⟨lk [(4,iv y)],H⟩) (hq2:Im l 0=-1->Q (.exit 0) ⟨lk [(0,.osl [0] v 4 0 l.length),(1,XW),(7,iv l.length),(8,iv l.length),(9,bv false)],H⟩):∀(m i:Nat),i+m=l.length->Im (l.drop i) i=Im l 0 ->
  LoopC (DC Tryz.prog w0 I0 M0 n0 m0) AX Q ⟨lk [(0,.osl [0] v 4 0 l.length),(1,XW),(7,iv l.length),(8,iv i)],H⟩:=by
 intro m;induction m with
 |zero=>
  intro i hi he;have:i=l.length:=oF
  subst this;rw[List.drop_length]at he;refine Ad Ai AX.eq_1 ?_;simp;exact hq2 (he.symm.trans rfl)
 |succ m ih=>
  intro i hi he;have hlt:i<l.length:=oF
  have h0:=hH [];simp at h0;have e1:=AR i;rw[List.drop_eq_getElem_cons hlt,Im]at he;have S:=YR l[i];generalize hx:l[i]=x at *;refine Ad Ai AX.eq_1 ?_;simp[h0,hx,hlt,show(i:Int)<l.length by omega];refine GJ (fs:=[]) (caps:=[]) rfl S iS ?_;by_cases hp:x.mask=0
  ·rw[if_pos hp]at he;simp[hp];exact hq _ he oF
  ·rw[if_neg hp]at he;simp[hp,e1];exact ih (i+1) oF he
theorem qa(l:List WE)(v:Nat)(hl:l.length<=1000000):SpecF Tryz.prog 175 (fun r=>[.osl [r] v 4 0 l.length,XW]) (HC v l [] IX) (fun _=>iv (Im l 0)) (HC v l [] IX):=by
 refine Ao EE iS (Ab Bo (Ab (LB Ah Ah) Ah)) Az fun w0 I0 M0 m0=>?_;unfold Cv;simp;refine zS (v:=v) hl (fun p=>iS) (fun y hy hn=>?_) (fun h=>?_) l.length 0 oF rfl
 ·simp;exact An (by rw[hy];rfl) rfl (fun p=>iS)
 ·simp;exact An (by rw[h];rfl) rfl (fun p=>iS)
theorem YB:∀(l:List WE)(i:Nat),Im l i=-1->I3 l=l
 |[],i,_=>rfl
 |x::l,i,h=>by
  rw[Im]at h;by_cases hp:x.mask=0
  ·rw[if_pos hp]at h;omega
  ·rw[if_neg hp]at h;have:=YB l (i+1) h;unfold I3 at this ⊢;rw[List.filter_cons_of_pos (by simp[hp]),this]
theorem Yl:∀(l:List WE)(i:Nat),Im l i≠-1->∃(N:List WE)(x:WE)(r:List WE),Im l i=((i+N.length:Nat):Int)/\l=N++x::r/\I3 (N++[x])=N
 |[],i,hk=>absurd rfl hk
 |x::l,i,hk=>by
  rw[Im]at hk ⊢;by_cases hp:x.mask=0
  ·rw[if_pos hp];refine⟨[],x,l,iS,rfl,?_⟩;unfold I3;simp[hp]
  ·rw[if_neg hp]at hk ⊢;obtain⟨N,y,r,h1,h2,h3⟩:=Yl l (i+1) hk;refine⟨x::N,y,r,by rw[h1,List.length_cons];congr 1;omega,by rw[h2];rfl,?_⟩;unfold I3 at h3 ⊢;rw[List.cons_append,List.filter_cons_of_pos (by simp[hp]),h3]
theorem x7{l:List WE}{v:Nat}(hl:l.length<=1000000)
  (hq:∀(N S:List WE)(H':Hp)(u1:Nat)(cs:List A),N=I3 l->N.length+S.length=l.length->(∀p,H' (0::p)=(HC v (N++S) [] IX).F 0 p)->Q (.exit 0) ⟨lk [(0,.osl [0] v 4 0 l.length),(1,XW),(5,iv N.length),(6,iv l.length),(19,bv false)],H'⟩) :
  ∀(m j:Nat)(N S:List WE)(H:Hp),j+m=l.length->N.length+S.length=j->1<=S.length->N=I3 (l.take j)->(∀p,H (0::p)=(HC v (N++(S++l.drop j)) [] IX).F 0 p) ->
  LoopC (DC Tryz.prog w0 I0 M0 n0 m0) AV Q ⟨lk [(0,.osl [0] v 4 0 l.length),(1,XW),(5,iv N.length),(6,iv j)],H⟩:=by
 intro m;induction m with
 |zero=>
  intro j N S H hj hN hS hn hH;have:j=l.length:=oF
  subst this;rw[List.take_length]at hn;rw[List.drop_length,List.append_nil]at hH;refine Ad Ai AV.eq_1 ?_;simp;exact hq N S H 0 [] hn hN hH
 |succ m ih=>
  intro j N S H hj hN hS hn hH;have hlt:j<l.length:=oF
  have e1:=AR j;have e2:i64.wrap ((N.length:Int)+1)=((N.length+1:Nat):Int):=Bv;have hd:l.drop j=l[j]::l.drop (j+1):=List.drop_eq_getElem_cons hlt;have ht:l.take (j+1)=l.take j++[l[j]]:=F5 hlt;have S1:=YR l[j];have next:=fun N' S'=>ih (j+1) N' S'
  rw[ht]at next
  rw[hd]at hH;have hg:(N++(S++l[j]::l.drop (j+1)))[j]? = some l[j]:=by
   rw[<-List.append_assoc,List.getElem?_append_right (by simp;omega)];simp[hN]
  have hRl:(N++(S++l[j]::l.drop (j+1))).length=l.length:=by simp;omega
  generalize hx:l[j]=x at *;obtain⟨R,hR⟩:∃R,R=N++(S++x::l.drop (j+1)):=⟨_,rfl⟩;rw[<-hR]at hg hRl;have h0:H [0]=⟨v,.arr 4 (R.map wA)⟩:=by have:=hH [];rw[<-hR]at this;simpa using this
  have hjR:j<R.length:=oF
  have hNR:N.length<R.length:=oF
  have hgR:R[j]=x:=by rw[List.getElem?_eq_getElem hjR]at hg;exact Option.some.inj hg
  refine Ad Ai AV.eq_1 ?_;simp[h0,hgR,hjR,hlt,show(j:Int)<l.length by omega,Aa];refine GJ (fs:=[]) (caps:=[]) rfl S1 iS ?_;by_cases hp:x.mask=0
  ·simp[hp];rw[e1];refine next N (S++[x]) _ oF (by simp<;>omega) (by simp<;>omega) ?_ fun p=>?_
   ·unfold I3 at hn ⊢;rw[List.filter_append,<-hn];simp[hp]
   ·rw[List.append_assoc,List.singleton_append,<-hH p];simp[Aa]
  ·simp[hp,h0,Aa,hNR];refine⟨oF,?_⟩;rw[e1,e2];obtain⟨s0,S',rfl⟩:∃s0 S',S=s0::S':=by
    cases S with
    |nil=>simp at hS
    |cons s0 S'=>exact⟨s0,S',rfl⟩
   have hset:R.set N.length x=(N++[x])++((S'++[x])++l.drop (j+1)):=by
    rw[hR];simp
   have fin:=next (N++[x]) (S'++[x]) (AK (AK H [1] ⟨(H [1]).u+1,.cells (A.cells (wX x))⟩) [0] ⟨v,.arr 4 ((R.map wA).set N.length (wX x))⟩) oF (by simp at hN ⊢; omega) iS (by
    unfold I3 at hn ⊢;rw[List.filter_append,<-hn];simp[hp]) fun p=>by
     by_cases hp0:p=[]
     ·subst hp0;rw[<-wA_eq,<-List.map_set,hset];simp only[Aa,if_true,zR,List.append_nil]
     ·have:=hH p;simp[hp0]at this;simp[Aa,hp0,this]
   rw[List.length_append,List.length_singleton]at fin;exact fin
theorem pL:DV (fun _=>.agg [iv 0,u8 0,uv 0,uv 0]):=DJ (cs:=[iv 0,u8 0,uv 0,uv 0]) rfl (by simp[Be])
abbrev WO(k:Nat):List A:=List.replicate k (.agg [iv 0,u8 0,uv 0,uv 0])
theorem MF(k:Nat):∀x,x∈WO k->DV (fun _=>x):=fun x hx=>by rw[List.eq_of_mem_replicate hx];exact pL
theorem pc(l:List WE)(v:Nat)(hl:l.length<=1000000):SpecF Tryz.prog 145 (fun r=>[.osl [r] v 4 0 l.length,XW]) (HC v l [] IX) (fun r=>.osl [r] v 4 0 (I3 l).length) (HC v (I3 l) (WO (l.length-(I3 l).length)) (MF _)):=by
 have I:=qa l v hl;refine Ao Ev iS (Ab Bo (Ab (LB Ah Ah) Ah)) Bo fun w0 I0 M0 m0=>?_;unfold Cp;simp;refine Ap 0 I (fun p=>iS) iS iS ?_;simp;by_cases h:Im l 0=-1
 ·rw[YB l 0 h];simp[h];exact An rfl rfl (fun p=>iS)
 ·obtain⟨N,x,r,h1,h2,h3⟩:=Yl l 0 h;rw[h1]at h ⊢;have e1':i64.wrap ((N.length:Int)+1)=((N.length+1:Nat):Int):=by
   have:N.length<=1000000:=by rw[h2]at hl;simp at hl;omega
   rw[Bq oF oF];omega
  have hlen:N.length+1+r.length=l.length:=by rw[h2];simp;omega
  have hdr:l.drop (N.length+1)=r:=by
   rw[h2,show N++x::r=(N++[x])++r from iS];exact List.drop_left' iS
  have htk:l.take (N.length+1)=N++[x]:=by
   rw[h2,show N++x::r=(N++[x])++r from iS];exact List.take_left' iS
  simp[h];rw[e1'];refine x7 (l:=l) (v:=v) hl (fun N2 S2 H2 u1 cs g1 g2 g3=>?_) r.length (N.length+1) N [x] _ oF iS iS (by rw[htk,h3]) fun p=>?_
  ·have k0:=g3 [];simp at k0;have hle:N2.length<=l.length:=oF
   simp[k0,hle];refine⟨oF,?_⟩;subst g1;have hd0:List.drop l.length ((I3 l).map wA++S2.map wA)=[]:=List.drop_eq_nil_of_le (by simp;omega);rw[hd0];refine An rfl rfl fun p=>?_;by_cases hp:p=[]
   ·subst hp;simp[Aa,Be]
   ·have:=g3 p;simp[hp]at this;simp[Aa,hp,this]
  ·rw[hdr];simp;rw[h2];simp
theorem qt(x:KE):DV (fun _=>kA x):=by
 rw[kA_eq];exact DJ (cs:=A.cells (kA x)) (by rw[kA_eq];rfl) (by rw[kA_eq];simp)
def I8(v:Nat)(l:List KE)(Z:List A)(hZ:∀x,x∈Z->DV (fun _=>x)):Fam:=uR v 12 (l.map kA++Z) fun x hx=>by
 rcases List.mem_append.1 hx with hx|hx
 ·obtain⟨w,_,rfl⟩:=List.mem_map.1 hx;exact qt w
 ·exact hZ x hx
@[simp]theorem yc{v:Nat}{l:List KE}{Z:List A}{hZ:∀x,x∈Z->DV (fun _=>x)}{r:Nat}{p:Nm}:(I8 v l Z hZ).F r p=if p=[]then ⟨v,.arr 12 (l.map kA++Z)⟩else ⟨0,.none⟩:=rfl
def Ip:List KE->Nat->Int
 |[],_=>-1
 |x::l,i=>if x.e.kind=0 then i else Ip l (i+1)
abbrev YC:A:=.fnc 148 [] []
theorem zp{l:List KE}{v:Nat}{H:Hp}(hl:l.length<=1000000)(hH:∀p,H (0::p)=(I8 v l [] IX).F 0 p)
  (hq:∀y:Int,y=Ip l 0->y≠-1->Q .ret ⟨lk [(4,iv y)],H⟩) (hq2:Ip l 0=-1->Q (.exit 0) ⟨lk [(0,.osl [0] v 12 0 l.length),(1,YC),(7,iv l.length),(8,iv l.length),(9,bv false)],H⟩):∀(m i:Nat),i+m=l.length->Ip (l.drop i) i=Ip l 0 ->
  LoopC (DC Tryz.prog w0 I0 M0 n0 m0) A6 Q ⟨lk [(0,.osl [0] v 12 0 l.length),(1,YC),(7,iv l.length),(8,iv i)],H⟩:=by
 intro m;induction m with
 |zero=>
  intro i hi he;have:i=l.length:=oF
  subst this;rw[List.drop_length]at he;refine Ad Ai A6.eq_1 ?_;simp;exact hq2 (he.symm.trans rfl)
 |succ m ih=>
  intro i hi he;have hlt:i<l.length:=oF
  have h0:=hH [];simp at h0;have e1:=AR i;rw[List.drop_eq_getElem_cons hlt,Ip]at he;have S:=Yq l[i];generalize hx:l[i]=x at *;refine Ad Ai A6.eq_1 ?_;simp[h0,hx,hlt,show(i:Int)<l.length by omega];refine GJ (fs:=[]) (caps:=[]) rfl S iS ?_;by_cases hp:x.e.kind=0
  ·rw[if_pos hp]at he;simp[hp];exact hq _ he oF
  ·rw[if_neg hp]at he;simp[hp,e1];exact ih (i+1) oF he
theorem oW(l:List KE)(v:Nat)(hl:l.length<=1000000):SpecF Tryz.prog 176 (fun r=>[.osl [r] v 12 0 l.length,YC]) (I8 v l [] IX) (fun _=>iv (Ip l 0)) (I8 v l [] IX):=by
 refine Ao EW iS (Ab Bo (Ab (LB Ah Ah) Ah)) Az fun w0 I0 M0 m0=>?_;unfold CJ;simp;refine zp (v:=v) hl (fun p=>iS) (fun y hy hn=>?_) (fun h=>?_) l.length 0 oF rfl
 ·simp;exact An (by rw[hy];rfl) rfl (fun p=>iS)
 ·simp;exact An (by rw[h];rfl) rfl (fun p=>iS)
theorem Yi:∀(l:List KE)(i:Nat),Ip l i=-1->IW l=l
 |[],i,_=>rfl
 |x::l,i,h=>by
  rw[Ip]at h;by_cases hp:x.e.kind=0
  ·rw[if_pos hp]at h;omega
  ·rw[if_neg hp]at h;have:=Yi l (i+1) h;unfold IW at this ⊢;rw[List.filter_cons_of_pos (by simp[hp]),this]
theorem YM:∀(l:List KE)(i:Nat),Ip l i≠-1->∃(N:List KE)(x:KE)(r:List KE),Ip l i=((i+N.length:Nat):Int)/\l=N++x::r/\IW (N++[x])=N
 |[],i,hk=>absurd rfl hk
 |x::l,i,hk=>by
  rw[Ip]at hk ⊢;by_cases hp:x.e.kind=0
  ·rw[if_pos hp];refine⟨[],x,l,iS,rfl,?_⟩;unfold IW;simp[hp]
  ·rw[if_neg hp]at hk ⊢;obtain⟨N,y,r,h1,h2,h3⟩:=YM l (i+1) hk;refine⟨x::N,y,r,by rw[h1,List.length_cons];congr 1;omega,by rw[h2];rfl,?_⟩;unfold IW at h3 ⊢;rw[List.cons_append,List.filter_cons_of_pos (by simp[hp]),h3]
theorem zw{l:List KE}{v:Nat}(hl:l.length<=1000000)
  (hq:∀(N S:List KE)(H':Hp)(u1:Nat)(cs:List A),N=IW l->N.length+S.length=l.length->(∀p,H' (0::p)=(I8 v (N++S) [] IX).F 0 p)->Q (.exit 0) ⟨lk [(0,.osl [0] v 12 0 l.length),(1,YC),(5,iv N.length),(6,iv l.length),(19,bv false)],H'⟩) :
  ∀(m j:Nat)(N S:List KE)(H:Hp),j+m=l.length->N.length+S.length=j->1<=S.length->N=IW (l.take j)->(∀p,H (0::p)=(I8 v (N++(S++l.drop j)) [] IX).F 0 p) ->
  LoopC (DC Tryz.prog w0 I0 M0 n0 m0) AY Q ⟨lk [(0,.osl [0] v 12 0 l.length),(1,YC),(5,iv N.length),(6,iv j)],H⟩:=by
 intro m;induction m with
 |zero=>
  intro j N S H hj hN hS hn hH;have:j=l.length:=oF
  subst this;rw[List.take_length]at hn;rw[List.drop_length,List.append_nil]at hH;refine Ad Ai AY.eq_1 ?_;simp;exact hq N S H 0 [] hn hN hH
 |succ m ih=>
  intro j N S H hj hN hS hn hH;have hlt:j<l.length:=oF
  have e1:=AR j;have e2:i64.wrap ((N.length:Int)+1)=((N.length+1:Nat):Int):=Bv;have hd:l.drop j=l[j]::l.drop (j+1):=List.drop_eq_getElem_cons hlt;have ht:l.take (j+1)=l.take j++[l[j]]:=F5 hlt;have S1:=Yq l[j];have next:=fun N' S'=>ih (j+1) N' S'
  rw[ht]at next
  rw[hd]at hH;have hg:(N++(S++l[j]::l.drop (j+1)))[j]? = some l[j]:=by
   rw[<-List.append_assoc,List.getElem?_append_right (by simp;omega)];simp[hN]
  have hRl:(N++(S++l[j]::l.drop (j+1))).length=l.length:=by simp;omega
  generalize hx:l[j]=x at *;obtain⟨R,hR⟩:∃R,R=N++(S++x::l.drop (j+1)):=⟨_,rfl⟩;rw[<-hR]at hg hRl;have h0:H [0]=⟨v,.arr 12 (R.map kA)⟩:=by have:=hH [];rw[<-hR]at this;simpa using this
  have hjR:j<R.length:=oF
  have hNR:N.length<R.length:=oF
  have hgR:R[j]=x:=by rw[List.getElem?_eq_getElem hjR]at hg;exact Option.some.inj hg
  refine Ad Ai AY.eq_1 ?_;simp[h0,hgR,hjR,hlt,show(j:Int)<l.length by omega,Aa];refine GJ (fs:=[]) (caps:=[]) rfl S1 iS ?_;by_cases hp:x.e.kind=0
  ·simp[hp];rw[e1];refine next N (S++[x]) _ oF (by simp<;>omega) (by simp<;>omega) ?_ fun p=>?_
   ·unfold IW at hn ⊢;rw[List.filter_append,<-hn];simp[hp]
   ·rw[List.append_assoc,List.singleton_append,<-hH p];simp[Aa]
  ·simp[hp,h0,Aa,hNR];refine⟨oF,?_⟩;rw[e1,e2];obtain⟨s0,S',rfl⟩:∃s0 S',S=s0::S':=by
    cases S with
    |nil=>simp at hS
    |cons s0 S'=>exact⟨s0,S',rfl⟩
   have hset:R.set N.length x=(N++[x])++((S'++[x])++l.drop (j+1)):=by
    rw[hR];simp
   have fin:=next (N++[x]) (S'++[x]) (AK (AK H [1] ⟨(H [1]).u+1,.cells (A.cells (kX x))⟩) [0] ⟨v,.arr 12 ((R.map kA).set N.length (kX x))⟩) oF (by simp at hN ⊢; omega) iS (by
    unfold IW at hn ⊢;rw[List.filter_append,<-hn];simp[hp]) fun p=>by
     by_cases hp0:p=[]
     ·subst hp0;rw[<-kA_eq,<-List.map_set,hset];simp only[Aa,if_true,yc,List.append_nil]
     ·have:=hH p;simp[hp0]at this;simp[Aa,hp0,this]
   rw[List.length_append,List.length_singleton]at fin;exact fin
theorem qh:DV (fun _=>.agg (iv 0::Be)):=DJ (cs:=(iv 0::Be)) rfl (by simp[Be])
abbrev Wl(k:Nat):List A:=List.replicate k (.agg (iv 0::Be))
theorem Mm(k:Nat):∀x,x∈Wl k->DV (fun _=>x):=fun x hx=>by rw[List.eq_of_mem_replicate hx];exact qh
theorem pr(l:List KE)(v:Nat)(hl:l.length<=1000000):SpecF Tryz.prog 147 (fun r=>[.osl [r] v 12 0 l.length,YC]) (I8 v l [] IX) (fun r=>.osl [r] v 12 0 (IW l).length) (I8 v (IW l) (Wl (l.length-(IW l).length)) (Mm _)):=by
 have I:=oW l v hl;refine Ao EM iS (Ab Bo (Ab (LB Ah Ah) Ah)) Bo fun w0 I0 M0 m0=>?_;unfold CA;simp;refine Ap 0 I (fun p=>iS) iS iS ?_;simp;by_cases h:Ip l 0=-1
 ·rw[Yi l 0 h];simp[h];exact An rfl rfl (fun p=>iS)
 ·obtain⟨N,x,r,h1,h2,h3⟩:=YM l 0 h;rw[h1]at h ⊢;have e1':i64.wrap ((N.length:Int)+1)=((N.length+1:Nat):Int):=by
   have:N.length<=1000000:=by rw[h2]at hl;simp at hl;omega
   rw[Bq oF oF];omega
  have hlen:N.length+1+r.length=l.length:=by rw[h2];simp;omega
  have hdr:l.drop (N.length+1)=r:=by
   rw[h2,show N++x::r=(N++[x])++r from iS];exact List.drop_left' iS
  have htk:l.take (N.length+1)=N++[x]:=by
   rw[h2,show N++x::r=(N++[x])++r from iS];exact List.take_left' iS
  simp[h];rw[e1'];refine zw (l:=l) (v:=v) hl (fun N2 S2 H2 u1 cs g1 g2 g3=>?_) r.length (N.length+1) N [x] _ oF iS iS (by rw[htk,h3]) fun p=>?_
  ·have k0:=g3 [];simp at k0;have hle:N2.length<=l.length:=oF
   simp[k0,hle];refine⟨oF,?_⟩;subst g1;have hd0:List.drop l.length ((IW l).map kA++S2.map kA)=[]:=List.drop_eq_nil_of_le (by simp;omega);rw[hd0];refine An rfl rfl fun p=>?_;by_cases hp:p=[]
   ·subst hp;simp[Aa,Be]
   ·have:=g3 p;simp[hp]at this;simp[Aa,hp,this]
  ·rw[hdr];simp;rw[h2];simp
abbrev Zd(r q vw nw vk nk:Nat):List A:=[iv 2,iv 0,.sl true [],.sl true [],iv 0,.sl true [],.sl true [],.osl [r] vw 4 0 nw,.osl [q] vk 12 0 nk,iv 0,.sl true []]
theorem Vq(vw nw vk nk:Nat):RS (fun r q=>.agg (Zd r q vw nw vk nk)):=⟨fun h1 h2 h3 h4=>by simp[A.ren,A.renL,h1,h2,h3,h4],fun h1 h2=>by simp[A.refs,A.refsL];exact⟨h1 [],h2 []⟩⟩
def J6(P:List WE)(K:List KE)(vw vk r q:Nat):List A:=if (I3 P).length+(IW K).length=0 then Be else Zd r q vw (I3 P).length vk (IW K).length
@[simp]theorem Ad1{P:List WE}{K:List KE}{vw vk r q:Nat}:(J6 P K vw vk r q).length=11:=by unfold J6;split<;>rfl
@[simp]theorem AbI{P:List WE}{K:List KE}{vw vk r q:Nat}:A.ones (J6 P K vw vk r q)=true:=by unfold J6;split<;>rfl
abbrev gY(P:List WE)(K:List KE)(vw vk r q:Nat):A:=.agg (J6 P K vw vk r q)
theorem iR(P:List WE)(K:List KE)(vw vk:Nat):RS (fun r q=>gY P K vw vk r q):=by
 unfold gY J6;by_cases h:(I3 P).length+(IW K).length=0
 ·simp only[if_pos h];exact⟨fun h1 h2 h3 h4=>by simp[Be,A.ren,A.renL],fun h1 h2=>by simp[Be,A.refs,A.refsL]⟩
 ·simp only[if_neg h];exact Vq _ _ _ _
theorem TG(P:List WE)(K:List KE)(vw vk:Nat)(hP:P.length<=1000000)(hK:K.length<=1000000):Hv Tryz.prog 111 (fun r q=>[.agg (Zd r q vw P.length vk K.length)]) (Fam.two (HC vw P [] IX) (I8 vk K [] IX)) (fun r q=>gY P K vw vk r q)
  (Fam.two (HC vw (I3 P) (WO (P.length-(I3 P).length)) (MF _)) (I8 vk (IW K) (Wl (K.length-(IW K).length)) (Mm _))):=by
 have D1:=pc P vw hP;have D2:=pr K vk hK;have l1:=bV P;have l2:=bA K;have ew:i64.wrap (((I3 P).length:Int)+((IW K).length:Int))=(((I3 P).length+(IW K).length:Nat):Int):=Bv;refine BZ Xk iS (Av (Vq _ _ _ _) C5) (iR P K vw vk) fun w0 I0 M0 m0=>?_;unfold PA;simp;refine Ap 0 D1 (fun p=>iS) iS iS ?_;simp[Aa];refine Ap 1 D2 (fun p=>iS) iS iS ?_;simp[Aa];rw[ew];refine⟨fun h=>?_,fun h=>?_⟩
 ·have h':(I3 P).length+(IW K).length=0:=oF
  exact JZ (r0:=.agg Be) (by simp[Et,Be]) (by rw[gY,J6,if_pos h']) (fun p=>iS) (fun p=>iS)
 ·have h':¬(I3 P).length+(IW K).length=0:=oF
  exact JZ (r0:=.agg (Zd 0 1 vw (I3 P).length vk (IW K).length)) (by simp[Et]) (by rw[gY,J6,if_neg h']) (fun p=>iS) (fun p=>iS)
theorem Sd(l:List WE)(h:l.length*32<=140737488355328):SpecF Tryz.prog 107 (fun _=>[Mf l]) Fam.no (fun r=>.osl [r] 1 4 0 l.length) (HC 1 l [] IX):=by
 cases l with
 |nil=>
  refine⟨Ab Bc Ah,Bo,O4 (fun cap=>?_) (fun a cap=>?_)⟩
  ·refine @SpecF.h _ _ (fun _=>[.v (.slice none 0 cap)]) Fam.no (fun r=>.osl [r] 1 4 0 0) (HC 1 [] [] IX) (Ao BS iS (Ab Az Ah) Bo fun w0 I0 M0 m0=>?_);unfold Bh;simp;refine Gp (F0 2 [0] 4 iS) (An (r0:=.osl [0] 1 4 0 0) (by simp[upd]) rfl fun p=>?_);by_cases hp:p=[]
   ·subst hp;simp[Aa]
   ·simp[Aa,hp]
  ·refine @SpecF.h _ _ (fun _=>[.v (.slice (some a) 0 cap)]) Fam.no (fun r=>.osl [r] 1 4 0 0) (HC 1 [] [] IX) (Ao BS iS (Ab Az Ah) Bo fun w0 I0 M0 m0=>?_);unfold Bh;simp;refine An rfl rfl fun p=>?_;by_cases hp:p=[]
   ·subst hp;simp[Aa]
   ·simp[Aa,hp,Ne.symm hp]
 |cons x l=>
  refine Ao BS iS (Ab Bc Ah) Bo fun w0 I0 M0 m0=>?_;unfold Bh;rw[List.length_cons]at h;simp[h,Mf];refine An rfl rfl fun p=>?_;by_cases hp:p=[]
  ·subst hp;simp[Aa]
  ·simp[Aa,hp,Ne.symm hp]
theorem Sk(l:List KE)(h:l.length*208<=140737488355328):SpecF Tryz.prog 110 (fun _=>[MD l]) Fam.no (fun r=>.osl [r] 1 12 0 l.length) (I8 1 l [] IX):=by
 cases l with
 |nil=>
  refine⟨Ab Bc Ah,Bo,O4 (fun cap=>?_) (fun a cap=>?_)⟩
  ·refine @SpecF.h _ _ (fun _=>[.v (.slice none 0 cap)]) Fam.no (fun r=>.osl [r] 1 12 0 0) (I8 1 [] [] IX) (Ao B5 iS (Ab Az Ah) Bo fun w0 I0 M0 m0=>?_);unfold Bp;simp;refine Gp (F0 2 [0] 12 iS) (An (r0:=.osl [0] 1 12 0 0) (by simp[upd]) rfl fun p=>?_);by_cases hp:p=[]
   ·subst hp;simp[Aa]
   ·simp[Aa,hp]
  ·refine @SpecF.h _ _ (fun _=>[.v (.slice (some a) 0 cap)]) Fam.no (fun r=>.osl [r] 1 12 0 0) (I8 1 [] [] IX) (Ao B5 iS (Ab Az Ah) Bo fun w0 I0 M0 m0=>?_);unfold Bp;simp;refine An rfl rfl fun p=>?_;by_cases hp:p=[]
   ·subst hp;simp[Aa]
   ·simp[Aa,hp,Ne.symm hp]
 |cons x l=>
  refine Ao B5 iS (Ab Bc Ah) Bo fun w0 I0 M0 m0=>?_;unfold Bp;rw[List.length_cons]at h;simp[h,MD];refine An rfl rfl fun p=>?_;by_cases hp:p=[]
  ·subst hp;simp[Aa]
  ·simp[Aa,hp,Ne.symm hp]
structure SwH(v:Nat)(c:Bool)(p q:E)(X Y:List WE)(vx vy:Nat)(H:Hp):Prop where
 f:∀r,H (0::r)=(Q7 v c false).F 0 r
 p:H [1]=⟨1,.cells (eL p)⟩
 q:H [2]=⟨1,.cells (eL q)⟩
 a:H [3]=⟨1,.cells Be⟩
 b:H [4]=⟨1,.cells Be⟩
 x:H [5]=⟨1,.cells [iv 2,iv 0,.sl true [],.sl true [],iv 0,.sl true [],.sl true [],.osl [15] vx 4 0 X.length,.sl true [],iv 0,.sl true []]⟩
 y:H [6]=⟨1,.cells [iv 2,iv 0,.sl true [],.sl true [],iv 0,.sl true [],.sl true [],.osl [17] vy 4 0 Y.length,.sl true [],iv 0,.sl true []]⟩
 X:∀r,H (15::r)=(HC vx X [] IX).F 15 r
 Y:∀r,H (17::r)=(HC vy Y [] IX).F 17 r
 n:∀r,H (16::r)=⟨0,.none⟩
 m:∀r,H (18::r)=⟨0,.none⟩
theorem AfR{v:Nat}{c:Bool}{p q:E}{vx vy:Nat}(hp:p.words.length<=100000)(hq:q.words.length<=100000)(wp:∀w,w∈p.words->WE.wf w)(wq:∀w,w∈q.words->WE.wf w)(dp:Pb WE.at_ p.words)(dq:Pb WE.at_ q.words)
  (ho:∀a,a∈p.words->∀b,b∈q.words->a.at_=b.at_->A5 0 a.old (Db a.mask b.mask)=A5 0 b.old (Db a.mask b.mask)) {i:Nat} (hi:i<p.words.length) {u7:Nat}
  (hQ:∀H':Hp,SwH v (c|| cG WE.at_ FX p.words q.words i q.words.length) p q (xG WE.at_ (fun a b=>Kp a b.mask) p.words q.words i q.words.length) (yG WE.at_ (fun a b=>Kp a b.mask) p.words q.words i q.words.length) vx vy H'->Q (.exit 2) ⟨lk [(0,.pob [0] v 0),(4,.pob [1] 1 0),(5,.pob [2] 1 0),(6,.pob [3] 1 0),(7,.pob [4] 1 0),(8,.pob [5] 1 0),(9,.pob [6] 1 0),(10,iv i),(11,.pob [7] u7 0),(29,Mf p.words),(30,iv p.words.length),(31,iv i),(37,Mf q.words),(38,iv q.words.length),(39,iv q.words.length),(40,bv false)],H'⟩) :
  ∀(m j:Nat)(H:Hp),j+m=q.words.length->H [7]=⟨u7,.cells (wX p.words[i]).cells⟩->SwH v (c|| cG WE.at_ FX p.words q.words i j) p q (xG WE.at_ (fun a b=>Kp a b.mask) p.words q.words i j) (yG WE.at_ (fun a b=>Kp a b.mask) p.words q.words i j) vx vy H ->
  LoopC (DC Tryz.prog w0 I0 M0 n0 m0) B0 Q ⟨lk [(0,.pob [0] v 0),(4,.pob [1] 1 0),(5,.pob [2] 1 0),(6,.pob [3] 1 0),(7,.pob [4] 1 0),(8,.pob [5] 1 0),(9,.pob [6] 1 0),(10,iv i),(11,.pob [7] u7 0),(29,Mf p.words),(30,iv p.words.length),(31,iv i),(37,Mf q.words),(38,iv q.words.length),(39,iv j)],H⟩:=by
 intro m;induction m with
 |zero=>
  intro j H hj h7 hH;have:j=q.words.length:=oF
  subst this;refine Ad Ai B0.eq_1 ?_;simp;exact hQ H hH
 |succ m ih=>
  intro j H hj h7 hH;have hlt:j<q.words.length:=oF
  have ew:=AR j;have wa:=wp _ (De hi);have wb:=wq _ (De hlt);have next:=ih (j+1)
  have lx:=jG (key:=WE.at_) (cb:=fun a b=>Kp a b.mask) p.words q.words i j;have ly:=jL (key:=WE.at_) (cb2:=fun a b=>Kp a b.mask) p.words q.words i j;rw[oD hi hlt]at next
  have ho':=ho _ (De hi) _ (De hlt);by_cases he:p.words[i].at_=q.words[j].at_
  ·have S1:=aZ wa wb (ho' he) v (c|| cG WE.at_ FX p.words q.words i j);have S2:=TX wa wb.2.1;have S3:=TX wb wa.2.1;have n1:=AaZ wb.2.1;have n2:=AaZ wa.2.1;rw[uX dq hi hlt he,uV dp hi hlt he,he]at next
   generalize xG WE.at_ (fun a b=>Kp a b.mask) p.words q.words i j=X at *;generalize yG WE.at_ (fun a b=>Kp a b.mask) p.words q.words i j=Y at *;generalize hx:p.words[i]=a at *;generalize hy:q.words[j]=b at *;obtain⟨ta,ma,oa,na⟩:=a;obtain⟨tb,mb,ob,nb⟩:=b;have he:ta=tb:=he;subst he;have h5:=hH.x;have h6:=hH.y;simp only at n1 n2;refine Ad Ai B0.eq_1 ?_;simp[hlt,hy,h7,Aa];refine Ap 0 S1 (fun r=>by rw[<-hH.f r];simp[Aa]) iS iS ?_;simp[h7,Aa,n1,h5];refine Ag S2 iS ?_;have hiX:i<X.length:=oF
   have hjY:j<Y.length:=oF
   have X0:=hH.X [];have Y0:=hH.Y [];simp at X0 Y0;simp[Aa,h5,h6,h7,n2,X0,hiX];refine Ag S3 iS ?_;simp[Aa,Y0,hjY];rw[ew];simp only[decide_true,Bool.true_and]at next
   refine next _ oF (by simp[Aa,h7]) ⟨fun r=>by simp[Bool.or_assoc],by simp[Aa,hH.p],by simp[Aa,hH.q],by simp[Aa,hH.a],by simp[Aa,hH.b],by simp[Aa,h5],by simp[Aa,h6],fun r=>?_,fun r=>?_,fun r=>by simp[Aa,hH.n],fun r=>by simp[Aa,hH.m]⟩
   ·by_cases hr:r=[]
    ·subst hr;simp[Aa]
    ·have:=hH.X r;simp[hr]at this;simp[Aa,hr,this]
   ·by_cases hr:r=[]
    ·subst hr;simp[Aa]
    ·have:=hH.Y r;simp[hr]at this;simp[Aa,hr,this]
  ·rw[mn hi hlt he,lV hi hlt he]at next
   generalize xG WE.at_ (fun a b=>Kp a b.mask) p.words q.words i j=X at *;generalize yG WE.at_ (fun a b=>Kp a b.mask) p.words q.words i j=Y at *;generalize hx:p.words[i]=a at *;generalize hy:q.words[j]=b at *;refine Ad Ai B0.eq_1 ?_;simp[hlt,hy,h7,he,Aa];rw[ew];simp only[he,decide_false,Bool.false_and,Bool.or_false]at next
   refine next _ oF (by simp[Aa,h7]) ⟨fun r=>by rw[<-hH.f r];simp[Aa],by simp[Aa,hH.p],by simp[Aa,hH.q],by simp[Aa,hH.a],by simp[Aa,hH.b],by simp[Aa,hH.x],by simp[Aa,hH.y],fun r=>by rw[<-hH.X r];simp[Aa],fun r=>by rw[<-hH.Y r];simp[Aa],fun r=>by simp[Aa,hH.n],fun r=>by simp[Aa,hH.m]⟩
theorem AfN{v:Nat}{c:Bool}{p q:E}{vx vy:Nat}(hp:p.words.length<=100000)(hq:q.words.length<=100000)(wp:∀w,w∈p.words->WE.wf w)(wq:∀w,w∈q.words->WE.wf w)(dp:Pb WE.at_ p.words)(dq:Pb WE.at_ q.words)
  (ho:∀a,a∈p.words->∀b,b∈q.words->a.at_=b.at_->A5 0 a.old (Db a.mask b.mask)=A5 0 b.old (Db a.mask b.mask))
  (hQ:∀H':Hp,SwH v (c|| clW p.words q.words) p q (p.words.map (TP q.words)) (q.words.map (TP p.words)) vx vy H'->Q (.exit 0) ⟨lk [(0,.pob [0] v 0),(4,.pob [1] 1 0),(5,.pob [2] 1 0),(6,.pob [3] 1 0),(7,.pob [4] 1 0),(8,.pob [5] 1 0),(9,.pob [6] 1 0),(29,Mf p.words),(30,iv p.words.length),(31,iv p.words.length),(32,bv false)],H'⟩) :
  ∀(m i:Nat)(H:Hp),i+m=p.words.length->SwH v (c|| cG WE.at_ FX p.words q.words i 0) p q (xG WE.at_ (fun a b=>Kp a b.mask) p.words q.words i 0) (yG WE.at_ (fun a b=>Kp a b.mask) p.words q.words i 0) vx vy H ->
  LoopC (DC Tryz.prog w0 I0 M0 n0 m0) CN Q ⟨lk [(0,.pob [0] v 0),(4,.pob [1] 1 0),(5,.pob [2] 1 0),(6,.pob [3] 1 0),(7,.pob [4] 1 0),(8,.pob [5] 1 0),(9,.pob [6] 1 0),(29,Mf p.words),(30,iv p.words.length),(31,iv i)],H⟩:=by
 intro m;induction m with
 |zero=>
  intro i H hj hH;have:i=p.words.length:=oF
  subst this;rw[sC,vR,tE,<-Aaw,<-Aaw,<-Agw]at hH;refine Ad Ai CN.eq_1 ?_;simp;exact hQ H hH
 |succ m ih=>
  intro i H hj hH;have hlt:i<p.words.length:=oF
  have ew:=AR i;have next:=ih (i+1)
  have h2:=hH.q;refine Ad Ai CN.eq_1 ?_;simp[hlt,Aa,h2];refine LoopC.le (Ar [(0,.pob [0] v 0),(4,.pob [1] 1 0),(5,.pob [2] 1 0),(6,.pob [3] 1 0),(7,.pob [4] 1 0),(8,.pob [5] 1 0),(9,.pob [6] 1 0),(10,iv i),(11,.pob [7] ((H [7]).u+1) 0),(29,Mf p.words),(30,iv p.words.length),(31,iv i),(37,Mf q.words),(38,iv q.words.length),(39,iv (0:Nat))] iS) ?_;refine AfR (c:=c) (vx:=vx) (vy:=vy) hp hq wp wq dp dq ho hlt (fun H' hH'=>?_) q.words.length 0 _ oF iS ⟨fun r=>by rw[<-hH.f r];simp[Aa],by simp[Aa,hH.p],by simp[Aa,hH.q],by simp[Aa,hH.a],by simp[Aa,hH.b],by simp[Aa,hH.x],by simp[Aa,hH.y],fun r=>by rw[<-hH.X r];simp[Aa],fun r=>by rw[<-hH.Y r];simp[Aa],fun r=>by simp[Aa,hH.n],fun r=>by simp[Aa,hH.m]⟩;rw[tI hlt,ur hlt,wL]at hH';simp;rw[ew];exact next H' oF hH'
structure SkH(v:Nat)(c:Bool)(q:E)(X Y:List WE)(K L:List KE)(vx vy kx ky:Nat)(H:Hp):Prop where
 f:∀r,H (0::r)=(Q7 v c false).F 0 r
 q:H [2]=⟨1,.cells (eL q)⟩
 a:H [3]=⟨1,.cells Be⟩
 b:H [4]=⟨1,.cells Be⟩
 x:H [5]=⟨1,.cells (Zd 15 16 vx X.length kx K.length)⟩
 y:H [6]=⟨1,.cells (Zd 17 18 vy Y.length ky L.length)⟩
 X:∀r,H (15::r)=(HC vx X [] IX).F 15 r
 Y:∀r,H (17::r)=(HC vy Y [] IX).F 17 r
 K:∀r,H (16::r)=(I8 kx K [] IX).F 16 r
 L:∀r,H (18::r)=(I8 ky L [] IX).F 18 r
def BoS(p q:E)(r:(E × E) × Bool):Prop:=∀(v:Nat)(c:Bool),SpecF Tryz.prog 42 (fun o=>[.pob [o] v 0,eX p,eX q]) (Q7 v c false) (fun _=>.tup [eX r.1.1,eX r.1.2]) (Q7 v (c|| r.2) false)
theorem AgQ{v:Nat}{c:Bool}{p q:E}{X Y:List WE}{vx vy kx ky:Nat}{g:E->E->(E × E) × Bool}(hp:p.kids.length<=100000)(hq:q.kids.length<=100000)(dp:Pb KE.at_ p.kids)(dq:Pb KE.at_ q.kids)
  (hB:∀a,a∈p.kids->∀b,b∈q.kids->a.at_=b.at_->BoS a.e b.e (g a.e b.e)) {i:Nat} (hi:i<p.kids.length) {u9:Nat}
  (hQ:∀H':Hp,SkH v (c|| cG KE.at_ (fun k l=>(g k.e l.e).2) p.kids q.kids i q.kids.length) q X Y (xG KE.at_ (fun k l=>.mk k.at_ (g k.e l.e).1.1) p.kids q.kids i q.kids.length) (yG KE.at_ (fun l k=>.mk l.at_ (g k.e l.e).1.2) p.kids q.kids i q.kids.length) vx vy kx ky H'->Q (.exit 6) ⟨lk [(0,.pob [0] v 0),(5,.pob [2] 1 0),(6,.pob [3] 1 0),(7,.pob [4] 1 0),(8,.pob [5] 1 0),(9,.pob [6] 1 0),(14,iv i),(15,.pob [9] u9 0),(88,MD p.kids),(89,iv p.kids.length),(90,iv i),(96,MD q.kids),(97,iv q.kids.length),(98,iv q.kids.length),(99,bv false)],H'⟩) :
  ∀(m j:Nat)(H:Hp),j+m=q.kids.length->H [9]=⟨u9,.cells (kX p.kids[i]).cells⟩->SkH v (c|| cG KE.at_ (fun k l=>(g k.e l.e).2) p.kids q.kids i j) q X Y (xG KE.at_ (fun k l=>.mk k.at_ (g k.e l.e).1.1) p.kids q.kids i j) (yG KE.at_ (fun l k=>.mk l.at_ (g k.e l.e).1.2) p.kids q.kids i j) vx vy kx ky H ->
  LoopC (DC Tryz.prog w0 I0 M0 n0 m0) B4 Q ⟨lk [(0,.pob [0] v 0),(5,.pob [2] 1 0),(6,.pob [3] 1 0),(7,.pob [4] 1 0),(8,.pob [5] 1 0),(9,.pob [6] 1 0),(14,iv i),(15,.pob [9] u9 0),(88,MD p.kids),(89,iv p.kids.length),(90,iv i),(96,MD q.kids),(97,iv q.kids.length),(98,iv j)],H⟩:=by
 intro m;induction m with
 |zero=>
  intro j H hj h9 hH;have:j=q.kids.length:=oF
  subst this;refine Ad Ai B4.eq_1 ?_;simp;exact hQ H hH
 |succ m ih=>
  intro j H hj h9 hH;have hlt:j<q.kids.length:=oF
  have ew:=AR j;have next:=ih (j+1)
  have lx:=jG (key:=KE.at_) (cb:=fun k l=>.mk k.at_ (g k.e l.e).1.1) p.kids q.kids i j;have ly:=jL (key:=KE.at_) (cb2:=fun l k=>.mk l.at_ (g k.e l.e).1.2) p.kids q.kids i j;rw[oD hi hlt]at next
  have hB':=hB _ (De hi) _ (De hlt);by_cases he:p.kids[i].at_=q.kids[j].at_
  ·have S1:=hB' he v (c|| cG KE.at_ (fun k l=>(g k.e l.e).2) p.kids q.kids i j);rw[uX dq hi hlt he,uV dp hi hlt he]at next
   have kx':∀z,(xG KE.at_ (fun k l=>.mk k.at_ (g k.e l.e).1.1) p.kids q.kids i j)[i]? = some z->z.at_=p.kids[i].at_:=fun z hz=>by
    rw[V3 hi,List.getElem?_append_right (by simp;omega)]at hz;have e0:i-((p.kids.take i).map (Me KE.at_ (fun k l=>.mk k.at_ (g k.e l.e).1.1) q.kids)).length=0:=by simp;omega
    rw[e0]at hz;simp at hz;rw[<-hz];unfold Me;split<;>rfl
   have ky':∀z,(yG KE.at_ (fun l k=>.mk l.at_ (g k.e l.e).1.2) p.kids q.kids i j)[j]? = some z->z.at_=q.kids[j].at_:=fun z hz=>by
    rw[lf hlt,List.getElem?_append_right (by simp;omega)]at hz;have e0:j-((q.kids.take j).map (Me KE.at_ (fun l k=>.mk l.at_ (g k.e l.e).1.2) (p.kids.take (i+1)))).length=0:=by simp;omega
    rw[e0]at hz;simp at hz;rw[<-hz];unfold Me;split<;>rfl
   generalize xG KE.at_ (fun k l=>.mk k.at_ (g k.e l.e).1.1) p.kids q.kids i j=K at *;generalize yG KE.at_ (fun l k=>.mk l.at_ (g k.e l.e).1.2) p.kids q.kids i j=L at *;generalize hx:p.kids[i]=a at *;generalize hy:q.kids[j]=b at *;obtain⟨ta,ea⟩:=a;obtain⟨tb,eb⟩:=b;have he:ta=tb:=he;subst he;have h5:=hH.x;have h6:=hH.y;have K0:=hH.K [];have L0:=hH.L [];simp at K0 L0;have hiK:i<K.length:=oF
   have hjL:j<L.length:=oF
   have aK:=kx' K[i] (List.getElem?_eq_getElem hiK);have aL:=ky' L[j] (List.getElem?_eq_getElem hjL);refine Ad Ai B4.eq_1 ?_;simp[hlt,hy,h9,h5,h6,Aa];refine Ap 0 S1 (fun r=>by rw[<-hH.f r];simp[Aa]) iS (by simp[List.isPrefixOf]) ?_;simp[h9,Aa,h5,h6,K0,L0,hiK,hjL];refine⟨rfl,rfl,?_⟩;have aK':K[i].at_=ta:=aK;have aL':L[j].at_=ta:=aL;have eK:(kX K[i]).remake (iv K[i].at_::eL (g ea eb).1.1)=kA (.mk ta (g ea eb).1.1):=by rw[kA_eq,aK'];rfl
   have eL':(kX L[j]).remake (iv L[j].at_::eL (g ea eb).1.2)=kA (.mk ta (g ea eb).1.2):=by rw[kA_eq,aL'];rfl
   rw[ew,eK,eL',<-List.map_set,<-List.map_set];have hd:decide ((KE.mk ta ea).at_=(KE.mk ta eb).at_)=true:=decide_eq_true rfl;rw[hd,Bool.true_and]at next
   refine next _ oF (by simp[Aa,h9]) ⟨fun r=>by simp[Bool.or_assoc],by simp[Aa,hH.q],by simp[Aa,hH.a],by simp[Aa,hH.b],by simp[Aa,h5],by simp[Aa,h6],fun r=>by rw[<-hH.X r];simp[Aa],fun r=>by rw[<-hH.Y r];simp[Aa],fun r=>?_,fun r=>?_⟩
   ·by_cases hr:r=[]
    ·subst hr;simp[Aa]
    ·have:=hH.K r;simp[hr]at this;simp[Aa,hr,this]
   ·by_cases hr:r=[]
    ·subst hr;simp[Aa]
    ·have:=hH.L r;simp[hr]at this;simp[Aa,hr,this]
  ·rw[mn hi hlt he,lV hi hlt he]at next
   generalize xG KE.at_ (fun k l=>.mk k.at_ (g k.e l.e).1.1) p.kids q.kids i j=K at *;generalize yG KE.at_ (fun l k=>.mk l.at_ (g k.e l.e).1.2) p.kids q.kids i j=L at *;generalize hx:p.kids[i]=a at *;generalize hy:q.kids[j]=b at *;refine Ad Ai B4.eq_1 ?_;simp[hlt,hy,h9,he,Aa];rw[ew];simp only[he,decide_false,Bool.false_and,Bool.or_false]at next
   refine next _ oF (by simp[Aa,h9]) ⟨fun r=>by rw[<-hH.f r];simp[Aa],by simp[Aa,hH.q],by simp[Aa,hH.a],by simp[Aa,hH.b],by simp[Aa,hH.x],by simp[Aa,hH.y],fun r=>by rw[<-hH.X r];simp[Aa],fun r=>by rw[<-hH.Y r];simp[Aa],fun r=>by rw[<-hH.K r];simp[Aa],fun r=>by rw[<-hH.L r];simp[Aa]⟩
theorem AhG{v:Nat}{c:Bool}{p q:E}{X Y:List WE}{vx vy kx ky:Nat}{g:E->E->(E × E) × Bool}(hp:p.kids.length<=100000)(hq:q.kids.length<=100000)(dp:Pb KE.at_ p.kids)(dq:Pb KE.at_ q.kids)
  (hB:∀a,a∈p.kids->∀b,b∈q.kids->a.at_=b.at_->BoS a.e b.e (g a.e b.e))
  (hQ:∀H':Hp,SkH v (c|| clK (fun a b=>(g a b).2) p.kids q.kids) q X Y (p.kids.map (XJ (fun a b=>(g a b).1.1) q.kids)) (q.kids.map (XJ (fun b a=>(g a b).1.2) p.kids)) vx vy kx ky H'->Q (.exit 4) ⟨lk [(0,.pob [0] v 0),(5,.pob [2] 1 0),(6,.pob [3] 1 0),(7,.pob [4] 1 0),(8,.pob [5] 1 0),(9,.pob [6] 1 0),(88,MD p.kids),(89,iv p.kids.length),(90,iv p.kids.length),(91,bv false)],H'⟩) :
  ∀(m i:Nat)(H:Hp),i+m=p.kids.length->SkH v (c|| cG KE.at_ (fun k l=>(g k.e l.e).2) p.kids q.kids i 0) q X Y (xG KE.at_ (fun k l=>.mk k.at_ (g k.e l.e).1.1) p.kids q.kids i 0) (yG KE.at_ (fun l k=>.mk l.at_ (g k.e l.e).1.2) p.kids q.kids i 0) vx vy kx ky H ->
  LoopC (DC Tryz.prog w0 I0 M0 n0 m0) CH Q ⟨lk [(0,.pob [0] v 0),(5,.pob [2] 1 0),(6,.pob [3] 1 0),(7,.pob [4] 1 0),(8,.pob [5] 1 0),(9,.pob [6] 1 0),(88,MD p.kids),(89,iv p.kids.length),(90,iv i)],H⟩:=by
 intro m;induction m with
 |zero=>
  intro i H hj hH;have:i=p.kids.length:=oF
  subst this;rw[sC,vR,tE]at hH;rw[AaY,AaY,Ain]at hQ;refine Ad Ai CH.eq_1 ?_;simp;exact hQ H hH
 |succ m ih=>
  intro i H hj hH;have hlt:i<p.kids.length:=oF
  have ew:=AR i;have next:=ih (i+1)
  have h2:=hH.q;refine Ad Ai CH.eq_1 ?_;simp[hlt,Aa,h2];refine LoopC.le (Ar [(0,.pob [0] v 0),(5,.pob [2] 1 0),(6,.pob [3] 1 0),(7,.pob [4] 1 0),(8,.pob [5] 1 0),(9,.pob [6] 1 0),(14,iv i),(15,.pob [9] ((H [9]).u+1) 0),(88,MD p.kids),(89,iv p.kids.length),(90,iv i),(96,MD q.kids),(97,iv q.kids.length),(98,iv (0:Nat))] iS) ?_;refine AgQ (c:=c) (X:=X) (Y:=Y) (vx:=vx) (vy:=vy) (kx:=kx) (ky:=ky) (g:=g) hp hq dp dq hB hlt (fun H' hH'=>?_) q.kids.length 0 _ oF iS ⟨fun r=>by rw[<-hH.f r];simp[Aa],by simp[Aa,hH.q],by simp[Aa,hH.a],by simp[Aa,hH.b],by simp[Aa,hH.x],by simp[Aa,hH.y],fun r=>by rw[<-hH.X r];simp[Aa],fun r=>by rw[<-hH.Y r];simp[Aa],fun r=>by rw[<-hH.K r];simp[Aa],fun r=>by rw[<-hH.L r];simp[Aa]⟩;rw[tI hlt,ur hlt,wL]at hH';simp;rw[ew];exact next H' oF hH'
theorem tc{H:Hp}{o:Nm}{v:Nat}{l:List WE}{Z:List A}(h:vr (H o) v=some (4,l.map wA++Z)):Jl H (.osl o v 4 0 l.length) (Mf l):=by
 have k:=U1 (H:=H) (o:=o) (u:=v) (off:=0) (len:=l.length) (sz:=4) (xs:=l.map wA++Z) (by rw[KF];exact h) iS (by
  simp only[List.drop_zero];rw[List.take_left' iS,List.all_eq_true];intro y hy;obtain⟨x,_,rfl⟩:=List.mem_map.1 hy;simp)
 rw[List.drop_zero,List.take_left' iS]at k;exact k
theorem sZ{H:Hp}{o:Nm}{v:Nat}{l:List KE}{Z:List A}(h:vr (H o) v=some (12,l.map kA++Z)):Jl H (.osl o v 12 0 l.length) (MD l):=by
 have k:=U1 (H:=H) (o:=o) (u:=v) (off:=0) (len:=l.length) (sz:=12) (xs:=l.map kA++Z) (by rw[KF];exact h) iS (by
  simp only[List.drop_zero];rw[List.take_left' iS,List.all_eq_true];intro y hy;obtain⟨x,_,rfl⟩:=List.mem_map.1 hy;simp)
 rw[List.drop_zero,List.take_left' iS]at k;exact k
theorem Yx{H:Hp}{P:List WE}{K:List KE}{vw vk r q:Nat}{Z1 Z2:List A}(h1:vr (H [r]) vw=some (4,(I3 P).map wA++Z1))(h2:vr (H [q]) vk=some (12,(IW K).map kA++Z2)):HF H (J6 P K vw vk r q) (eL (He (I3 P) (IW K))):=by
 unfold J6 He;by_cases h:(I3 P).length+(IW K).length=0
 ·rw[if_pos h,if_pos h];exact FR H
 ·rw[if_neg h,if_neg h];have hE:eL (.mk 2 T0 T0 (I3 P) (IW K) 0 [])=[iv 2,iv 0,.sl false [],.sl false [],iv 0,.sl false [],.sl false [],Mf (I3 P),MD (IW K),iv 0,.sl false []]:=iS
  rw[hE];exact⟨Ae rfl,Ae rfl,Am,Am,Ae rfl,Am,Am,tc h1,sZ h2,Ae rfl,Am,trivial⟩
theorem RV{p q:E}{g:E->E->(E × E) × Bool}(lp:p.words.length<=100000)(lq:q.words.length<=100000)(kp:p.kids.length<=100000)(kq:q.kids.length<=100000)(wp:∀w,w∈p.words->WE.wf w)(wq:∀w,w∈q.words->WE.wf w)(dp:Pb WE.at_ p.words)(dq:Pb WE.at_ q.words)(ep:Pb KE.at_ p.kids)(eq:Pb KE.at_ q.kids)
  (ho:∀a,a∈p.words->∀b,b∈q.words->a.at_=b.at_->A5 0 a.old (Db a.mask b.mask)=A5 0 b.old (Db a.mask b.mask))
  (hB:∀a,a∈p.kids->∀b,b∈q.kids->a.at_=b.at_->BoS a.e b.e (g a.e b.e)) (v:Nat) (c:Bool):SpecF Tryz.prog 70 (fun o=>[.pob [o] v 0,eX p,eX q]) (Q7 v c false) (fun _=>.tup [eX (x9 g p q).1.1,eX (x9 g p q).1.2]) (Q7 v (c|| (x9 g p q).2) false):=by
 have C1:=Sd p.words oF;have C2:=Sd q.words oF;have C3:=Sk p.kids oF;have C4:=Sk q.kids oF;have S1:=TG (p.words.map (TP q.words)) (p.kids.map (XJ (fun a b=>(g a b).1.1) q.kids)) 1 1 (by simp;omega) (by simp;omega);have S2:=TG (q.words.map (TP p.words)) (q.kids.map (XJ (fun b a=>(g a b).1.2) p.kids)) 1 1 (by simp;omega) (by simp;omega);refine Hh Kq iS (Ab Aq (Ab (AF p) (Ab (AF q) Ah))) (Ay (Ab (AF _) (Ab (AF _) Ah))) fun w0 I0 M0 m0 hM=>?_;unfold Gr;simp[Aa];refine Ap 15 C1 (fun p=>iS) iS iS ?_;simp[Aa,List.isPrefixOf];refine Ap 17 C2 (fun p=>iS) iS (by simp[List.isPrefixOf]) ?_;simp[Aa,List.isPrefixOf];refine LoopC.le (Ar [(0,.pob [0] v 0),(4,.pob [1] 1 0),(5,.pob [2] 1 0),(6,.pob [3] 1 0),(7,.pob [4] 1 0),(8,.pob [5] 1 0),(9,.pob [6] 1 0),(29,Mf p.words),(30,iv p.words.length),(31,iv (0:Nat))] iS) ?_;refine AfN (c:=c) (vx:=1) (vy:=1) lp lq wp wq dp dq ho (fun H1 h1=>?_) p.words.length 0 _ oF ⟨fun r=>?_,?_,?_,?_,?_,?_,?_,fun r=>?_,fun r=>?_,fun r=>?_,fun r=>?_⟩;rotate_left
 ·rw[Agi];simp
 ·simp
 ·simp
 ·simp[Be]
 ·simp[Be]
 ·rw[zk];simp
 ·rw[ym];simp
 ·rw[zk];simp
 ·rw[ym];simp
 ·simp
 ·simp
 have b1:=h1.p;have b2:=h1.q;have b3:=h1.a;have b4:=h1.b;have b5:=h1.x;have b6:=h1.y;simp[b1,b2,b5,b6];refine Ap 16 C3 (fun p=>by rw[h1.n];rfl) iS iS ?_;simp[Aa,b1,b2,b5,b6,List.isPrefixOf];refine Ap 18 C4 (fun p=>by simp[Aa,h1.m]) iS (by simp[List.isPrefixOf]) ?_;simp[Aa,b1,b2,b5,b6,List.isPrefixOf];refine LoopC.le (Ar [(0,.pob [0] v 0),(5,.pob [2] 1 0),(6,.pob [3] 1 0),(7,.pob [4] 1 0),(8,.pob [5] 1 0),(9,.pob [6] 1 0),(88,MD p.kids),(89,iv p.kids.length),(90,iv (0:Nat))] iS) ?_;refine AhG (c:=c|| clW p.words q.words) (X:=p.words.map (TP q.words)) (Y:=q.words.map (TP p.words)) (vx:=1) (vy:=1) (kx:=1) (ky:=1) kp kq ep eq hB (fun H2 h2=>?_) p.kids.length 0 _ oF ⟨fun r=>?_,?_,?_,?_,?_,?_,fun r=>?_,fun r=>?_,fun r=>?_,fun r=>?_⟩;rotate_left
 ·rw[Agi,Bool.or_false,<-h1.f r];simp[Aa]
 ·simp[Aa,b2]
 ·simp[Aa,b3]
 ·simp[Aa,b4]
 ·rw[zk];simp[Aa]
 ·rw[ym];simp[Aa]
 ·rw[<-h1.X r];simp[Aa]
 ·rw[<-h1.Y r];simp[Aa]
 ·rw[zk];simp[Aa]
 ·rw[ym];simp[Aa]
 have d3:=h2.a;have d4:=h2.b;have d5:=h2.x;have d6:=h2.y;have r1:(x9 g p q).1.1=He (I3 (p.words.map (TP q.words))) (IW (p.kids.map (XJ (fun a b=>(g a b).1.1) q.kids))):=rfl;have r2:(x9 g p q).1.2=He (I3 (q.words.map (TP p.words))) (IW (q.kids.map (XJ (fun b a=>(g a b).1.2) p.kids))):=rfl;have r3:(x9 g p q).2=(clW p.words q.words|| clK (fun a b=>(g a b).2) p.kids q.kids):=rfl;generalize p.words.map (TP q.words)=X at *;generalize q.words.map (TP p.words)=Y at *;generalize p.kids.map (XJ (fun a b=>(g a b).1.1) q.kids)=K at *;generalize q.kids.map (XJ (fun b a=>(g a b).1.2) p.kids)=L at *;simp[d5,d6];refine Fa 15 16 dO S1 (fun r=>h2.X r) (fun r=>h2.K r) iS iS ?_;simp[Aa,d6,List.isPrefixOf];refine Fa 17 18 dO S2 (fun r=>by rw[AhQ,Bg,if_neg oF,Bg,if_neg oF];exact h2.Y r) (fun r=>by rw[Aaz,Bg,if_neg oF,Bg,if_neg oF];exact h2.L r) iS (by simp[List.isPrefixOf]) ?_;simp[Aa,d3,d4,List.isPrefixOf];refine⟨dO,?_⟩;have ed:List.drop 11 Be=[]:=rfl;rw[ed,List.append_nil,List.append_nil,r1,r2,r3];generalize hH3:(ov 17 ((HC 1 (I3 Y) (WO (Y.length-(I3 Y).length)) (MF _)).F 17) (ov 18 ((I8 1 (IW L) (Wl (L.length-(IW L).length)) (Mm _)).F 18) (ov 15 ((HC 1 (I3 X) (WO (X.length-(I3 X).length)) (MF _)).F 15) (ov 16 ((I8 1 (IW K) (Wl (K.length-(IW K).length)) (Mm _)).F 16) (AK (AK H2 [3] ⟨1,.cells (J6 X K 1 1 15 16)⟩) [4] ⟨1,.cells (J6 Y L 1 1 17 18)⟩)))):Hp)=H3;have q3:H3 [3]=⟨1,.cells (J6 X K 1 1 15 16)⟩:=by rw[<-hH3];simp[Aa]
 have q4:H3 [4]=⟨1,.cells (J6 Y L 1 1 17 18)⟩:=by rw[<-hH3];simp[Aa]
 have q0:∀r,H3 (0::r)=(Q7 v (c|| clW p.words q.words|| clK (fun a b=>(g a b).2) p.kids q.kids) false).F 0 r:=fun r=>by rw[<-hH3,<-h2.f r];simp[Aa]
 have q15:H3 [15]=⟨1,.arr 4 ((I3 X).map wA++WO (X.length-(I3 X).length))⟩:=by rw[<-hH3];simp
 have q16:H3 [16]=⟨1,.arr 12 ((IW K).map kA++Wl (K.length-(IW K).length))⟩:=by rw[<-hH3];simp
 have q17:H3 [17]=⟨1,.arr 4 ((I3 Y).map wA++WO (Y.length-(I3 Y).length))⟩:=by rw[<-hH3];simp
 have q18:H3 [18]=⟨1,.arr 12 ((IW L).map kA++Wl (L.length-(IW L).length))⟩:=by rw[<-hH3];simp
 obtain⟨G1,g1,g2⟩:=G7 (c:=DC Tryz.prog w0 I0 M0 133 m0) (s:=lk [(6,.pob [3] 1 0),(7,.pob [4] 1 0)]) (H:=H3) (fun r=>r=15\/r=16) (fun r p b hr=>hM r p b oF) (r0:=3) (p0:=[]) dO q3 (cs':=eL (He (I3 X) (IW K))) (by simp[A.ones]) (fun H1 e1=>Yx (by rw[e1 15 [] iS,q15];simp;rfl) (by rw[e1 16 [] iS,q16];simp;rfl));obtain⟨G2,g3,g4⟩:=G7 (c:=DC Tryz.prog w0 I0 M0 133 m0) (s:=lk [(6,.pob [3] 1 0),(7,.pob [4] 1 0)]) (H:=AK G1 [3] ⟨1,.cells (eL (He (I3 X) (IW K)))⟩) (fun r=>r=17\/r=18) (fun r p b hr=>hM r p b oF) (r0:=4) (p0:=[]) dO (u:=1) (cs:=J6 Y L 1 1 17 18) (by simp[Aa,g2 4 [] dO,q4]) (cs':=eL (He (I3 Y) (IW L))) (by simp[A.ones]) (fun H1 e1=>Yx (by rw[e1 17 [] iS];simp[Aa,g2 17 [] dO,q17];rfl) (by rw[e1 18 [] iS];simp[Aa,g2 18 [] dO,q18];rfl));refine Gp g1 (Gp g3 (An (r0:=.tup [eX (He (I3 X) (IW K)),eX (He (I3 Y) (IW L))]) ?_ rfl fun r=>?_))
 ·have z3:G2 [3]=⟨1,.cells (eL (He (I3 X) (IW K)))⟩:=by rw[g4 3 [] dO];simp
  simp[Et,Aa,z3]
 ·rw[<-Bool.or_assoc,<-q0 r,<-g2 0 r dO];simp[Aa,g4 0 r dO]
inductive SI where
 |k (n:Int)
 |o (o:OP)
def SI.op:SI->OP
 |.k n=>.mk 0 n [] E0
 |.o y=>y
def ZE:SI->List A
 |.k n=>iv 0::iv n :: .sl true []::Be
 |.o o=>iv o.kind::iv o.n::B7 o.l::eL o.e
def RO(x:SI):A:=.agg (ZE x)
@[simp]theorem Aev{x:SI}:(RO x).cells=ZE x:=rfl
@[simp]theorem Aj8{x:SI}:(ZE x).length=14:=by cases x<;>rfl
theorem Abp{H:Hp}(x:SI):HF H (ZE x) (oA x.op).cells:=by
 cases x with
 |k n=>
  have hE:(oA (SI.k n).op).cells=iv 0::iv n :: .sl false []::eL E0:=by simp[SI.op]
  rw[hE];exact⟨Ae rfl,Ae rfl,Am,FR H⟩
 |o o=>
  have hE:(oA (SI.o o).op).cells=ZE (.o o):=by simp[SI.op,ZE]
  rw[hE];exact LO (by simp[ZE])
theorem oP{H:Hp}{o:Nm}{u n:Nat}{l:List SI}(h1:H o=⟨u,.arr 14 (l.map RO)⟩)(hn:n=l.length):Jl H (.osl o u 14 0 n) (Jo (l.map SI.op)):=by
 subst hn;refine NV (o:=o) (u:=u) (off:=0) (len:=l.length) (sz:=14) (xs:=l.map RO) (ys:=(l.map SI.op).map oA) (by rw[KF,h1];simp) iS iS (fun y hy=>by
  obtain⟨x,_,rfl⟩:=List.mem_map.1 hy;simp) ?_ ?_
 ·have:∀l:List OP,A.ones ((l.map oA).flatMap A.cells)=true:=fun l=>by
   induction l with
   |nil=>rfl
   |cons x l ih=>simp[A.ones]at ih ⊢
  exact this _
 ·rw[List.drop_zero,AO iS,List.map_map];have:∀l:List SI,HF H ((l.map RO).flatMap A.cells) ((l.map (oA ∘ SI.op)).flatMap A.cells):=fun l=>by
   induction l with
   |nil=>trivial
   |cons x l ih=>
    simp only[List.map_cons,List.flatMap_cons];exact RT (Abp x) ih iS
  exact this l
theorem mW{g:Nm->Nm}{δ:Nm->Nat}(x:SI):(RO x).ren g δ=RO x:=by cases x<;>simp[RO,ZE,Be,A.ren,A.renL]
theorem dF{D:Nm->Prop}(x:SI):(RO x).refs D:=by cases x<;>simp[RO,ZE,Be,A.refs,A.refsL]
def rm(v:Nat)(c:Bool)(vx:Nat)(X:List SI)(vy:Nat)(Y:List SI)(m h:Bool × List T)(vs:Nat):Rd:=⟨fun r _=>(Q7 v c false).F r,fun r q p=>if p=[]then ⟨vs,.cells [.pob [r] v 0,.osl [q,0] vx 14 0 X.length,.osl [q,1] vy 14 0 Y.length,Sm m,Sm h]⟩else if p=[0]then ⟨vx,.arr 14 (X.map RO)⟩else if p=[1]then ⟨vy,.arr 14 (Y.map RO)⟩else ⟨0,.none⟩,fun {g δ r r' q q'} h1 h2 h3 h4 p=>by
  refine⟨(Q7 v c false).ren h1 h2 p,?_⟩;by_cases hp:p=[]
  ·simp only[if_pos hp];exact Fam.cells_ren (by simp[A.renL,A.ren,h1,h2,h3,h4])
  ·by_cases hp2:p=[0]
   ·simp only[if_neg hp,if_pos hp2];refine Fam.arr_ren ?_;simp only[Cu,List.map_map];exact List.map_congr_left fun x _=>mW x
   ·by_cases hp3:p=[1]
    ·simp only[if_neg hp,if_neg hp2,if_pos hp3];refine Fam.arr_ren ?_;simp only[Cu,List.map_map];exact List.map_congr_left fun x _=>mW x
    ·simp only[if_neg hp,if_neg hp2,if_neg hp3];rfl,fun {D r q} h1 h2 p=>by
  refine⟨(Q7 v c false).refs h1 p,?_⟩;by_cases hp:p=[]
  ·simp only[if_pos hp];simp[Ob.refs,A.refsL,A.refs,h1,h2]
  ·by_cases hp2:p=[0]
   ·simp only[if_neg hp,if_pos hp2,Ob.refs,refsL_iff];intro y hy;obtain⟨x,_,rfl⟩:=List.mem_map.1 hy;exact dF x
   ·by_cases hp3:p=[1]
    ·simp only[if_neg hp,if_neg hp2,if_pos hp3,Ob.refs,refsL_iff];intro y hy;obtain⟨x,_,rfl⟩:=List.mem_map.1 hy;exact dF x
    ·simp only[if_neg hp,if_neg hp2,if_neg hp3];trivial⟩
@[simp]theorem AlN{v:Nat}{c:Bool}{vx:Nat}{X:List SI}{vy:Nat}{Y:List SI}{m h:Bool × List T}{vs r q:Nat}{p:Nm}:(rm v c vx X vy Y m h vs).B r q p=(Q7 v c false).F r p:=rfl
@[simp]theorem Al3{v:Nat}{c:Bool}{vx:Nat}{X:List SI}{vy:Nat}{Y:List SI}{m h:Bool × List T}{vs r q:Nat}{p:Nm}:(rm v c vx X vy Y m h vs).C r q p=if p=[]then ⟨vs,.cells [.pob [r] v 0,.osl [q,0] vx 14 0 X.length,.osl [q,1] vy 14 0 Y.length,Sm m,Sm h]⟩else if p=[0]then ⟨vx,.arr 14 (X.map RO)⟩else if p=[1]then ⟨vy,.arr 14 (Y.map RO)⟩else ⟨0,.none⟩:=rfl
theorem yB(l:List OP):(l.map SI.o).map RO=l.map oA:=by
 rw[List.map_map];exact List.map_congr_left fun o _=>by show A.agg _=_;rw[oA_eq];rfl
@[simp]theorem Afc(l:List OP):l.map (RO ∘ SI.o)=l.map oA:=by rw[<-yB,List.map_map]
theorem O5(n:Nat):(RR n).length<=1:=by unfold RR;split<;>simp
theorem UE(l:List T):(Yj l).length<=1:=by unfold Yj;split<;>simp
theorem kT{m h:List T}(c:m≠[]/\h≠[]):Dd m h=((RR h.length,RR m.length),!Nx m h):=by
 unfold Dd;rw[if_pos c];have e:∀i:Decidable (m.map Af=h.map Af),@decide _ i=Nx m h:=fun i=>by rw[Bool.eq_iff_iff,decide_eq_true_iff,eqLs_iff]
 rw[e]
theorem lj{m h:List T}(c:¬(m≠[]/\h≠[])):Dd m h=((Yj m++RR h.length,RR m.length++Yj h),false):=if_neg c
theorem VF{v:Nat}{c:Bool}{vx:Nat}{X:List SI}{vy:Nat}{Y:List SI}{mine hers:List T}{vs:Nat}(hm:∀t,t∈mine->AE t)(hh:∀t,t∈hers->AE t)(lm:mine.length<=1000000)(lh:hers.length<=1000000)(lx:X.length<=100000000)(ly:Y.length<=100000000) :
  ∃vx' vy',Hv Tryz.prog 112 (fun r q=>[.pob [q] vs 0]) (rm v c vx X vy Y (false,mine) (false,hers) vs) (fun _ _=>.tup []) (rm v (c|| (Dd mine hers).2) vx' (X++(Dd mine hers).1.1.map SI.o) vy' (Y++(Dd mine hers).1.2.map SI.o) (true,[]) (true,[]) vs):=by
 have E:=Vf hm hh oF;have K1:=TQ hers.length;have K2:=TQ mine.length;have I1:=VT mine;have I2:=VT hers;have ml:0<mine.length↔mine≠[]:=List.length_pos_iff;have hl:0<hers.length↔hers≠[]:=List.length_pos_iff;by_cases c1:mine≠[]/\hers≠[]
 ·have p1:=ml.2 c1.1;have p2:=hl.2 c1.2;rw[kT c1];have l1:=O5 hers.length;have l2:=O5 mine.length;have l3:((RR hers.length).map SI.o).length=(RR hers.length).length:=iS
  have l4:((RR mine.length).map SI.o).length=(RR mine.length).length:=iS
  refine⟨vx+1,vy+1,BZ J1 iS (Av (GR Aq) C5) (AL (Ay Ah)) fun w0 I0 M0 m0=>?_⟩;unfold GZ;simp[p1,p2];refine Ag E iS ?_;cases h:Nx mine hers with
  |true=>
   simp[h];rw[Gy.eq_1];simp;refine Ag K1 iS ?_;simp[Aa];refine⟨oF,?_⟩;refine Ag K2 iS ?_;simp[Aa];refine⟨oF,?_⟩;refine Bf rfl rfl (fun p=>?_) (fun p=>?_)
   ·simp[Aa]
   ·by_cases p1:p=[]
    ·subst p1;simp[Aa]
    ·by_cases p2:p=[0]
     ·subst p2;simp[Aa,AO]
     ·by_cases p3:p=[1]
      ·subst p3;simp[Aa,AO]
      ·simp[Aa,p1,p2,p3]
  |false=>
   simp[h,Aa];rw[Gy.eq_1];simp;refine Ag K1 iS ?_;simp[Aa];refine⟨oF,?_⟩;refine Ag K2 iS ?_;simp[Aa];refine⟨oF,?_⟩;refine Bf rfl rfl (fun p=>?_) (fun p=>?_)
   ·by_cases p1:p=[]
    ·subst p1;simp[Aa]
    ·simp[Aa,p1]
   ·by_cases p1:p=[]
    ·subst p1;simp[Aa]
    ·by_cases p2:p=[0]
     ·subst p2;simp[Aa,AO]
     ·by_cases p3:p=[1]
      ·subst p3;simp[Aa,AO]
      ·simp[Aa,p1,p2,p3]
 ·rw[lj c1];have i1:=UE mine;have i2:=UE hers;have l1:=O5 hers.length;have l2:=O5 mine.length;have hc:¬(0<mine.length/\0<hers.length):=fun h=>c1 ⟨ml.1 h.1,hl.1 h.2⟩;refine⟨vx+1+1,vy+1+1,BZ J1 iS (Av (GR Aq) C5) (AL (Ay Ah)) fun w0 I0 M0 m0=>?_⟩;unfold GZ;by_cases h1:0<mine.length
  ·have h2:¬0<hers.length:=fun h=>hc ⟨h1,h⟩;simp[h1,h2];refine Ag I1 iS ?_;simp[Aa];refine⟨oF,?_⟩;refine Ag K1 iS ?_;simp[Aa];refine⟨oF,?_⟩;refine Ag K2 iS ?_;simp[Aa];refine⟨oF,?_⟩;refine Ag I2 iS ?_;simp[Aa];refine⟨oF,?_⟩;refine Bf rfl rfl (fun p=>?_) (fun p=>?_)
   ·simp[Aa]
   ·by_cases p1:p=[]
    ·subst p1;simp[Aa,Nat.add_assoc]
    ·by_cases p2:p=[0]
     ·subst p2;simp[Aa,AO]
     ·by_cases p3:p=[1]
      ·subst p3;simp[Aa,AO]
      ·simp[Aa,p1,p2,p3]
  ·simp[h1];refine Ag I1 iS ?_;simp[Aa];refine⟨oF,?_⟩;refine Ag K1 iS ?_;simp[Aa];refine⟨oF,?_⟩;refine Ag K2 iS ?_;simp[Aa];refine⟨oF,?_⟩;refine Ag I2 iS ?_;simp[Aa];refine⟨oF,?_⟩;refine Bf rfl rfl (fun p=>?_) (fun p=>?_)
   ·simp[Aa]
   ·by_cases p1:p=[]
    ·subst p1;simp[Aa,Nat.add_assoc]
    ·by_cases p2:p=[0]
     ·subst p2;simp[Aa,AO]
     ·by_cases p3:p=[1]
      ·subst p3;simp[Aa,AO]
      ·simp[Aa,p1,p2,p3]
theorem Ua{e:E}{t u:T}(A1:G.Spec Tryz.prog 25 [eX e,tX t] (.tup [tX u,bv true])){v:Nat}{c:Bool}{vx:Nat}{X:List SI}{vy:Nat}{Y:List SI}{vs:Nat} :
  Hv Tryz.prog 151 (fun r q=>[.pob [q] vs 0,eX e,tX t]) (rm v c vx X vy Y (true,[]) (true,[]) vs) (fun _ _=>.tup []) (rm v true vx X vy Y (true,[]) (true,[]) vs):=by
 refine BZ Ph iS (Av (GR Aq) (Av (AL (AF e)) (Av (AL (Bz t)) C5))) (AL (Ay Ah)) fun w0 I0 M0 m0=>?_;unfold Jy;simp[Aa];refine Ag A1 iS ?_;simp[Aa];refine Bf rfl rfl (fun p=>?_) (fun p=>?_)
 ·by_cases p1:p=[]
  ·subst p1;simp[Aa]
  ·simp[Aa,p1]
 ·simp[Aa]
def yq(g:E->E->(E × E) × Bool)(p q:OP):Prop:=
 (p.kind=0\/p.kind=1\/p.kind=3)/\(q.kind=0\/q.kind=1\/q.kind=3)/\(0<=q.n/\q.n<=100000000) /\
 (p.kind=1/\q.kind=1->(∀t,t∈p.l->AE t)/\(∀t,t∈q.l->AE t)/\p.l.length<=100000000/\Nx p.l q.l=true) /\
 (p.kind=1/\q.kind=3->∃t r u,p.l=t::r/\G.Spec Tryz.prog 25 [eX q.e,tX t] (.tup [tX u,bv true])) /\
 (p.kind=3/\q.kind=1->∃t r u,q.l=t::r/\G.Spec Tryz.prog 25 [eX p.e,tX t] (.tup [tX u,bv true])) /\
 (p.kind=3/\q.kind=3->BoS p.e q.e (g p.e q.e))
set_option maxHeartbeats 4000000 in
theorem jm{g:E->E->(E × E) × Bool}{p q:OP}(h:yq g p q){v:Nat}{c:Bool}{vx:Nat}{X:List SI}{vy:Nat}{Y:List SI}{vs:Nat}(lx:X.length<=100000000)(ly:Y.length<=100000000) :
  ∃vx' vy' X' Y',X'.map SI.op=(DL g p q).1.1/\Y'.map SI.op=(DL g p q).1.2/\Hv Tryz.prog 113 (fun r q'=>[.pob [q'] vs 0,oX p,oX q]) (rm v c vx X vy Y (true,[]) (true,[]) vs) (fun _ _=>.tup []) (rm v (c|| (DL g p q).2) vx' (X++X') vy' (Y++Y') (true,[]) (true,[]) vs):=by
 obtain⟨kp,kq,hn,h11,h13,h31,h33⟩:=h;have fl:Tv (fun (_:Nat) q'=>[.pob [q'] vs 0,oX p,oX q]):=Av (GR Aq) (Av (AL (F8 p)) (Av (AL (F8 q)) C5));by_cases c1:p.kind=0/\q.kind=1
 ·have e:DL g p q=(([],[q]),false):=if_pos c1;rw[e];refine⟨vx,vy+1,[],[.o q],rfl,rfl,BZ BB iS fl (AL (Ay Ah)) fun w0 I0 M0 m0=>?_⟩;unfold Br;simp[c1.1,c1.2,Aa];refine⟨oF,oF,?_⟩;refine Bf rfl rfl (fun r=>?_) (fun r=>?_)
  ·simp[Aa]
  ·by_cases p1:r=[]
   ·subst p1;simp[Aa]
   ·by_cases p2:r=[0]
    ·subst p2;simp[Aa,AO,RO,ZE,Be,c1.2]
    ·by_cases p3:r=[1]
     ·subst p3;simp[Aa,AO,RO,ZE,Be,c1.2]
     ·simp[Aa,p1,p2,p3]
 by_cases c2:p.kind=1/\q.kind=0
 ·have e:DL g p q=(([p],[]),false):=by unfold DL;rw[if_neg c1,if_pos c2]
  rw[e];refine⟨vx+1,vy,[.o p],[],rfl,rfl,BZ BB iS fl (AL (Ay Ah)) fun w0 I0 M0 m0=>?_⟩;unfold Br;simp[c2.1,c2.2,Aa];refine⟨oF,oF,?_⟩;refine Bf rfl rfl (fun r=>?_) (fun r=>?_)
  ·simp[Aa]
  ·by_cases p1:r=[]
   ·subst p1;simp[Aa]
   ·by_cases p2:r=[0]
    ·subst p2;simp[Aa,AO,RO,ZE,Be,c2.1]
    ·by_cases p3:r=[1]
     ·subst p3;simp[Aa,AO,RO,ZE,Be,c2.1]
     ·simp[Aa,p1,p2,p3]
 by_cases c3:p.kind=0
 ·have e:DL g p q=(([.mk 0 (max q.n 1) [] E0],[q]),false):=by unfold DL;rw[if_neg c1,if_neg c2,if_pos c3]
  have q1:¬q.kind=1:=fun h=>c1 ⟨c3,h⟩;rw[e];refine⟨vx+1,vy+1,[.k (max q.n 1)],[.o q],rfl,rfl,BZ BB iS fl (AL (Ay Ah)) fun w0 I0 M0 m0=>?_⟩;unfold Br;simp[c3,q1,Aa];refine⟨oF,oF,?_⟩;refine Bf rfl rfl (fun r=>?_) (fun r=>?_)
  ·simp[Aa]
  ·by_cases p1:r=[]
   ·subst p1;simp[Aa]
   ·by_cases p2:r=[0]
    ·subst p2;simp[Aa,AO,RO,ZE,Be]
    ·by_cases p3:r=[1]
     ·subst p3;simp[Aa,AO,RO,ZE,Be]
     ·simp[Aa,p1,p2,p3]
 by_cases c4:q.kind=0
 ·have e:DL g p q=(([p],[.mk 0 1 [] E0]),false):=by unfold DL;rw[if_neg c1,if_neg c2,if_neg c3,if_pos c4]
  have p1:¬p.kind=1:=fun h=>c2 ⟨h,c4⟩;rw[e];refine⟨vx+1,vy+1,[.o p],[.k 1],rfl,rfl,BZ BB iS fl (AL (Ay Ah)) fun w0 I0 M0 m0=>?_⟩;unfold Br;simp[c3,c4,p1,Aa];refine⟨oF,oF,?_⟩;refine Bf rfl rfl (fun r=>?_) (fun r=>?_)
  ·simp[Aa]
  ·by_cases p1:r=[]
   ·subst p1;simp[Aa]
   ·by_cases p2:r=[0]
    ·subst p2;simp[Aa,AO,RO,ZE,Be]
    ·by_cases p3:r=[1]
     ·subst p3;simp[Aa,AO,RO,ZE,Be]
     ·simp[Aa,p1,p2,p3]
 by_cases c5:p.kind=1/\q.kind=1
 ·have e:DL g p q=(([],[]),false):=by unfold DL;rw[if_neg c1,if_neg c2,if_neg c3,if_neg c4,if_pos c5]
  obtain⟨w1,w2,w3,w4⟩:=h11 c5;have EQ:=Vf w1 w2 oF;rw[w4]at EQ;rw[e];refine⟨vx,vy,[],[],rfl,rfl,BZ BB iS fl (AL (Ay Ah)) fun w0 I0 M0 m0=>?_⟩;unfold Br;simp[c5.1,c5.2,Aa];refine Ag EQ iS ?_;simp;refine Bf rfl rfl (fun r=>?_) (fun r=>?_)
  ·simp
  ·simp
 by_cases c6:p.kind=1
 ·have q3:q.kind=3:=oF
  have e:DL g p q=(([],[]),true):=by unfold DL;rw[if_neg c1,if_neg c2,if_neg c3,if_neg c4,if_neg c5,if_pos (.inl c6)]
  obtain⟨t,l,u,hl,A1⟩:=h13 ⟨c6,q3⟩;have G:=Ua A1 (v:=v) (c:=c) (vx:=vx) (X:=X) (vy:=vy) (Y:=Y) (vs:=vs);rw[e];refine⟨vx,vy,[],[],rfl,rfl,BZ BB iS fl (AL (Ay Ah)) fun w0 I0 M0 m0=>?_⟩;unfold Br;simp[c6,q3,Aa,hl];refine Fa 0 1 dO G (fun r=>iS) (fun r=>iS) iS (by simp[List.isPrefixOf]) ?_;simp;refine Bf rfl rfl (fun r=>?_) (fun r=>?_)
  ·simp
  ·simp
 have p3:p.kind=3:=oF
 by_cases c7:q.kind=1
 ·have e:DL g p q=(([],[]),true):=by unfold DL;rw[if_neg c1,if_neg c2,if_neg c3,if_neg c4,if_neg c5,if_pos (.inr c7)]
  obtain⟨t,l,u,hl,A1⟩:=h31 ⟨p3,c7⟩;have G:=Ua A1 (v:=v) (c:=c) (vx:=vx) (X:=X) (vy:=vy) (Y:=Y) (vs:=vs);rw[e];refine⟨vx,vy,[],[],rfl,rfl,BZ BB iS fl (AL (Ay Ah)) fun w0 I0 M0 m0=>?_⟩;unfold Br;simp[c7,p3,Aa,hl];refine Fa 0 1 dO G (fun r=>iS) (fun r=>iS) iS (by simp[List.isPrefixOf]) ?_;simp;refine Bf rfl rfl (fun r=>?_) (fun r=>?_)
  ·simp
  ·simp
 have q3:q.kind=3:=oF
 have e:DL g p q=(([Q0 (g p.e q.e).1.1],[Q0 (g p.e q.e).1.2]),(g p.e q.e).2):=by unfold DL;rw[if_neg c1,if_neg c2,if_neg c3,if_neg c4,if_neg c5,if_neg oF]
 have B:=h33 ⟨p3,q3⟩ v c;have T1:=Uc (g p.e q.e).1.1;have T2:=Uc (g p.e q.e).1.2;rw[e];generalize g p.e q.e=gr at *;refine⟨vx+1,vy+1,[.o (Q0 gr.1.1)],[.o (Q0 gr.1.2)],rfl,rfl,BZ BB iS fl (AL (Ay Ah)) fun w0 I0 M0 m0=>?_⟩;unfold Br;simp[p3,q3,Aa];refine Ap 0 B (fun r=>iS) iS (by simp[List.isPrefixOf]) ?_;simp[Aa,List.isPrefixOf];refine Ag T1 iS ?_;simp[Aa];refine⟨oF,?_⟩;refine Ag T2 iS ?_;simp[Aa];refine⟨oF,?_⟩;refine Bf rfl rfl (fun r=>?_) (fun r=>?_)
 ·simp[Aa]
 ·by_cases p1:r=[]
  ·subst p1;simp[Aa]
  ·by_cases p2:r=[0]
   ·subst p2;simp[Aa,AO,RO,ZE,Be]
   ·by_cases p3:r=[1]
    ·subst p3;simp[Aa,AO,RO,ZE,Be]
    ·simp[Aa,p1,p2,p3]
def MI:List OP->Nat->Int
 |[],_=>-1
 |x::l,i=>if x.kind=0 then MI l (i+1)else i
theorem VR:∀(l:List OP)(i:Nat),decide (0<=MI l i)=!(l.all fun o=>decide (o.kind=0))
 |[],i=>rfl
 |q::l,i=>by
  unfold MI;by_cases h:q.kind=0
  ·simp[h,VR l (i+1)]
  ·simp[h]
abbrev dJ:A:=.fnc 154 [] []
section
variable {n0:Nat} {w0:World} {I0:Nat->Prop} {Q:Exit->Sta->Prop}
theorem xz{l:List OP}(hl:l.length<=1000000000)
  (hq:∀(y:Int)(H:Hp),y=MI l 0->y≠-1->Q .ret ⟨lk [(4,iv y)],H⟩) (hq2:∀(H:Hp)(st:List (Nat × A)),MI l 0=-1->Q (.exit 0) ⟨lk ([(0,Jo l),(1,dJ)]++st),H⟩):∀(m i:Nat)(H:Hp),i+m=l.length->MI (l.drop i) i=MI l 0 ->
  LoopC (cx Tryz.prog w0 I0 n0) BM Q ⟨lk [(0,Jo l),(1,dJ),(7,iv l.length),(8,iv i)],H⟩:=by
 intro m;induction m with
 |zero=>
  intro i H hi he;have:i=l.length:=oF
  subst this;rw[List.drop_length]at he;refine Ad Ai BM.eq_1 ?_;simp;simpa using hq2 H [(7,iv l.length),(8,iv l.length),(9,bv false)] (he.symm.trans rfl)
 |succ m ih=>
  intro i H hi he;have hlt:i<l.length:=oF
  have e1:=AR i;rw[List.drop_eq_getElem_cons hlt,MI]at he;have S:=dV l[i];generalize hx:l[i]=x at *;refine Ad Ai BM.eq_1 ?_;simp[hx,hlt,show(i:Int)<l.length by omega];refine GJ (fs:=[]) (caps:=[]) rfl S iS ?_;by_cases hp:x.kind=0
  ·rw[if_pos hp]at he;simp[hp,e1];exact ih (i+1) _ oF he
  ·rw[if_neg hp]at he;simp[hp];exact hq _ _ he oF
end
theorem ph(l:List OP)(hl:l.length<=1000000000):G.Spec Tryz.prog 177 [Jo l,dJ] (iv (MI l 0)):=by
 refine Ak HO iS fun w0 I0=>?_;unfold Eh;simp;refine LoopC.le (Ar [(0,Jo l),(1,dJ),(7,iv l.length),(8,iv (0:Nat))] iS) ?_;refine xz hl (fun y H hy hn=>?_) (fun H st h=>?_) l.length 0 _ oF rfl
 ·subst hy;simp;exact Ae rfl
 ·simp;rw[h];exact Ae rfl
theorem lC(l:List OP)(hl:l.length<=1000000000):G.Spec Tryz.prog 153 [Jo l,dJ] (bv (!(l.all fun o=>decide (o.kind=0)))):=by
 have I:=ph l hl;refine Ak GK iS fun w0 I0=>?_;unfold DF;simp;refine Ag I iS ?_;simp;rw[<-VR l 0];exact Ae rfl
theorem TW(list:Int)(l:List OP)(hl:l.length<=1000000000):G.Spec Tryz.prog 114 [iv list,Jo l] (eX (KM list l)):=by
 have C:=lC l hl;cases h:l.all fun o=>decide (o.kind=0) with
 |true=>
  have e:KM list l=E0:=by unfold KM;rw[if_pos h]
  rw[e];rw[h]at C;refine Ak PV iS fun w0 I0=>?_;unfold K9;simp;refine Ag C iS ?_;simp;exact CF (FR _)
 |false=>
  have e:KM list l=.mk 3 T0 T0 [] [] list l:=by unfold KM;rw[if_neg (by rw[h];decide)]
  rw[e];rw[h]at C;refine Ak PV iS fun w0 I0=>?_;unfold K9;simp;refine Ag C iS ?_;simp;refine CF ?_;have hE:eL (.mk 3 T0 T0 [] [] list l)=[iv 3,iv 0,.sl false [],.sl false [],iv 0,.sl false [],.sl false [],.sl false [],.sl false [],iv list,Jo l]:=iS
  rw[hE];exact⟨Ae rfl,Ae rfl,Am,Am,Ae rfl,Am,Am,Am,Am,Ae rfl,Ae rfl,trivial⟩
structure LiH(v:Nat)(c:Bool)(p:E)(vx:Nat)(X:List SI)(vy:Nat)(Y:List SI)(vm vh:Nat)(mine hers:List T)(H:Hp):Prop where
 f:∀r,H (0::r)=(Q7 v c false).F 0 r
 p:H [1]=⟨1,.cells (eL p)⟩
 a:H [3]=⟨1,.cells Be⟩
 b:H [4]=⟨1,.cells Be⟩
 s:H [5]=⟨1,.cells [.pob [0] v 0,.osl [5,0] vx 14 0 X.length,.osl [5,1] vy 14 0 Y.length,.osl [7] vm 3 0 mine.length,.osl [8] vh 3 0 hers.length]⟩
 sx:H [5,0]=⟨vx,.arr 14 (X.map RO)⟩
 sy:H [5,1]=⟨vy,.arr 14 (Y.map RO)⟩
 s0:∀r,r≠[]->r≠[0]->r≠[1]->H (5::r)=⟨0,.none⟩
 m:H [7]=⟨vm,.arr 3 (mine.map tA)⟩
 h:H [8]=⟨vh,.arr 3 (hers.map tA)⟩
structure LjH(v:Nat)(c:Bool)(p:E)(vx:Nat)(X:List SI)(vy:Nat)(Y:List SI)(m h:Bool × List T)(H:Hp):Prop where
 f:∀r,H (0::r)=(rm v c vx X vy Y m h 1).B 0 5 r
 s:∀r,H (5::r)=(rm v c vx X vy Y m h 1).C 0 5 r
 p:H [1]=⟨1,.cells (eL p)⟩
 a:H [3]=⟨1,.cells Be⟩
 b:H [4]=⟨1,.cells Be⟩
theorem vQ{c:Cx}{s:Nat->A}{v:Nat}{cl:Bool}{p:E}{vx:Nat}{X:List SI}{vy:Nat}{Y:List SI}{H:Hp}(hH:LjH v cl p vx X vy Y (true,[]) (true,[]) H):∃(H2:Hp)(vm vh:Nat),Le c ⟨s,H⟩ ⟨s,H2⟩/\LiH v cl p vx X vy Y vm vh [] [] H2:=by
 have h5:H [5]=⟨1,.cells [.pob [0] v 0,.osl [5,0] vx 14 0 X.length,.osl [5,1] vy 14 0 Y.length,Sm (true,[]),Sm (true,[])]⟩:=by rw[hH.s];simp
 have l1:=BO (c:=c) (s:=s) (H:=H) (d:=[5]) 3 [7] 3 h5 rfl iS;have l2:=BO (c:=c) (s:=s) (H:=AK (AK H [7] ⟨(H [7]).u+1,.arr 3 []⟩) [5] ⟨1,.cells [.pob [0] v 0,.osl [5,0] vx 14 0 X.length,.osl [5,1] vy 14 0 Y.length,.osl [7] ((H [7]).u+1) 3 0 0,Sm (true,[])]⟩) (d:=[5]) (u:=1) (cs:=[.pob [0] v 0,.osl [5,0] vx 14 0 X.length,.osl [5,1] vy 14 0 Y.length,.osl [7] ((H [7]).u+1) 3 0 0,Sm (true,[])]) 4 [8] 3 (by simp[Aa]) rfl iS;refine⟨_,(H [7]).u+1,(H [8]).u+1,l1.trans l2,⟨fun r=>?_,?_,?_,?_,?_,?_,?_,fun r r1 r2 r3=>?_,?_,?_⟩⟩
 ·have:=hH.f r;simp[Aa]at this ⊢;exact this
 ·simp[Aa,hH.p]
 ·simp[Aa,hH.a]
 ·simp[Aa,hH.b]
 ·simp[Aa]
 ·have:=hH.s [0];simp[Aa]at this ⊢;exact this
 ·have:=hH.s [1];simp[Aa]at this ⊢;exact this
 ·have:=hH.s r;simp[Aa,r1,r2,r3]at this ⊢;exact this
 ·simp[Aa]
 ·simp[Aa]
theorem Zc{c:Cx}{s:Nat->A}{v:Nat}{cl:Bool}{p:E}{vx:Nat}{X:List SI}{vy:Nat}{Y:List SI}{mine hers:List T}{vm vh:Nat}{H:Hp}(hM:∀r p b,1<=r->¬c.M0 (r::p) b)(hH:LiH v cl p vx X vy Y vm vh mine hers H):∃H2:Hp,Le c ⟨s,H⟩ ⟨s,H2⟩/\LjH v cl p vx X vy Y (false,mine) (false,hers) H2:=by
 obtain⟨H2,g1,g2⟩:=WL (c:=c) (s:=s) (H:=H) (fun r=>r=7\/r=8) (fun r p b h=>hM r p b oF) (r0:=5) (p0:=[]) oF hH.s (cs':=[.pob [0] v 0,.osl [5,0] vx 14 0 X.length,.osl [5,1] vy 14 0 Y.length,Sm (false,mine),Sm (false,hers)]) (by simp[A.ones]) (fun H1 h1=>by
  have f7:Jl H1 (.osl [7] vm 3 0 mine.length) (Sm (false,mine)):=CI (f:=tA) (by rw[h1 7 [] (.inl rfl),hH.m];simp) rfl (fun x=>iS);have f8:Jl H1 (.osl [8] vh 3 0 hers.length) (Sm (false,hers)):=CI (f:=tA) (by rw[h1 8 [] (.inr rfl),hH.h];simp) rfl (fun x=>iS);refine⟨rfl,fun k x y hx hy=>?_⟩
  match k with
  |0=>simp at hx hy;exact .inl (by rw[<-hx,<-hy])
  |1=>simp at hx hy;exact .inl (by rw[<-hx,<-hy])
  |2=>simp at hx hy;exact .inl (by rw[<-hx,<-hy])
  |3=>simp at hx hy;exact .inr (by rw[<-hx,<-hy];exact f7)
  |4=>simp at hx hy;exact .inr (by rw[<-hx,<-hy];exact f8)
  |k+5=>simp at hx)
 refine⟨_,g1,fun r=>?_,fun r=>?_,?_,?_,?_⟩
 ·have:=g2 0 r oF;simp[Aa]at this ⊢;rw[this,hH.f];simp
 ·by_cases p1:r=[]
  ·subst p1;simp[Aa]
  ·have:=g2 5 r oF;simp only[Aa];rw[if_neg (by simp[p1]),this];by_cases p2:r=[0]
   ·subst p2;simp[hH.sx]
   ·by_cases p3:r=[1]
    ·subst p3;simp[hH.sy]
    ·simp[hH.s0 r p1 p2 p3,p1,p2,p3]
 ·have:=g2 1 [] oF;simp[Aa,this,hH.p]
 ·have:=g2 3 [] oF;simp[Aa,this,hH.a]
 ·have:=g2 4 [] oF;simp[Aa,this,hH.b]
theorem vE(g:E->E->(E × E) × Bool)(o o':OP):(DL g o o').1.1.length<=1/\(DL g o o').1.2.length<=1:=by
 unfold DL
 repeat' split
 all_goals simp
theorem Yk(m h:List T):(Dd m h).1.1.length<=2/\(Dd m h).1.2.length<=2:=by
 have:=O5 h.length;have:=O5 m.length;have:=UE m;have:=UE h;unfold Dd;split
 ·exact⟨by show(RR h.length).length<=2;omega,by show(RR m.length).length<=2;omega⟩
 ·exact⟨by show(Yj m++RR h.length).length<=2;rw[List.length_append];omega,by show(RR m.length++Yj h).length<=2;rw[List.length_append];omega⟩
theorem AaJ{c:Cx}{s:Nat->A}{x:CC}{Q:Exit->Sta->Prop}{v:Nat}{cl:Bool}{p:E}{vx:Nat}{X:List SI}{vy:Nat}{Y:List SI}{H:Hp}(hH:LjH v cl p vx X vy Y (true,[]) (true,[]) H)(k:∀(H2:Hp)(vm vh:Nat),LiH v cl p vx X vy Y vm vh [] [] H2->LoopC c x Q ⟨s,H2⟩):LoopC c x Q ⟨s,H⟩:=by
 obtain⟨H2,vm,vh,z1,z2⟩:=vQ (c:=c) (s:=s) hH;exact LoopC.le z1 (k H2 vm vh z2)
theorem AgZ{g:E->E->(E × E) × Bool}(hM:∀r p b,1<=r->¬M0 (r::p) b){v:Nat}{p:E}{l:List Pc}(hl:l.length<=1000000)(hW:∀o,(.a o∈l\/.b o∈l)->∀t,t∈o.l->AE t)(hP:∀o o',.both o o'∈l->yq g o o'){x0 y0:List OP}{c0:Bool}
  (hQ:∀(c:Bool)(vx:Nat)(X:List SI)(vy:Nat)(Y:List SI)(vm vh:Nat)(mF hF:List T)(H':Hp),LiH v c p vx X vy Y vm vh mF hF H'->(∀t,t∈mF->AE t)->(∀t,t∈hF->AE t)->mF.length+hF.length<=1000000->X.length<=10000000->Y.length<=10000000->X.map SI.op++(Dd mF hF).1.1=x0->Y.map SI.op++(Dd mF hF).1.2=y0->(c|| (Dd mF hF).2)=c0->Q (.exit 0) ⟨lk [(4,.pob [1] 1 0),(6,.pob [3] 1 0),(7,.pob [4] 1 0),(10,.pob [5] 1 0),(32,cR l),(33,iv l.length),(34,iv l.length),(35,bv false)],H'⟩) :
  ∀(j k:Nat)(c:Bool)(vx:Nat)(X:List SI)(vy:Nat)(Y:List SI)(vm vh:Nat)(mine hers:List T)(H:Hp),k+j=l.length->LiH v c p vx X vy Y vm vh mine hers H->(∀t,t∈mine->AE t)->(∀t,t∈hers->AE t)->mine.length+hers.length+SH (l.drop k)<=1000000->X.length+3*j<=10000000->Y.length+3*j<=10000000 ->
   X.map SI.op++(Gd g (l.drop k) mine hers).1.1=x0->Y.map SI.op++(Gd g (l.drop k) mine hers).1.2=y0->(c|| (Gd g (l.drop k) mine hers).2)=c0 ->
   LoopC (DC Tryz.prog w0 I0 M0 n0 m0) Ci Q ⟨lk [(4,.pob [1] 1 0),(6,.pob [3] 1 0),(7,.pob [4] 1 0),(10,.pob [5] 1 0),(32,cR l),(33,iv l.length),(34,iv k)],H⟩:=by
 intro j;induction j with
 |zero=>
  intro k c vx X vy Y vm vh mine hers H hk hH wm wh hs lx ly ex ey ec;have:k=l.length:=oF
  subst this;rw[List.drop_length]at hs ex ey ec;refine Ad Ai Ci.eq_1 ?_;simp;exact hQ c vx X vy Y vm vh mine hers H hH wm wh (by simpa[SH]using hs) oF oF ex ey ec
 |succ j ih=>
  intro k c vx X vy Y vm vh mine hers H hk hH wm wh hs lx ly ex ey ec;have hlt:k<l.length:=oF
  have hd:l.drop k=l[k]::l.drop (k+1):=(List.getElem_cons_drop hlt).symm;have hmem:l[k]∈l:=De hlt;have ew:=AR k;rw[hd]at hs ex ey ec;generalize hx:l[k]=x at *;cases x with
  |a oo=>
   simp only[SH,Gd]at hs ex ey ec;have h5:=hH.s;have h7:=hH.m;refine Ad Ai Ci.eq_1 ?_;simp[hlt,hx,xc,h5,h7,Aa];refine⟨oF,?_⟩;rw[ew];refine ih (k+1) c vx X vy Y (vm+1) vh (mine++oo.l) hers _ oF ⟨fun r=>by simp[Aa,hH.f],by simp[Aa,hH.p],by simp[Aa,hH.a],by simp[Aa,hH.b],by simp[Aa],by simp[Aa,hH.sx],by simp[Aa,hH.sy],fun r r1 r2 r3=>by simp[Aa,r1,hH.s0 r r1 r2 r3],by simp[Aa,AO],by simp[Aa,hH.h]⟩ (fun t ht=>?_) wh (by rw[List.length_append];omega) oF oF ex ey ec;rcases List.mem_append.1 ht with ht|ht
   ·exact wm t ht
   ·exact hW oo (.inl hmem) t ht
  |b oo=>
   simp only[SH,Gd]at hs ex ey ec;have h5:=hH.s;have h8:=hH.h;refine Ad Ai Ci.eq_1 ?_;simp[hlt,hx,xc,h5,h8,Aa];refine⟨oF,?_⟩;rw[ew];refine ih (k+1) c vx X vy Y vm (vh+1) mine (hers++oo.l) _ oF ⟨fun r=>by simp[Aa,hH.f],by simp[Aa,hH.p],by simp[Aa,hH.a],by simp[Aa,hH.b],by simp[Aa],by simp[Aa,hH.sx],by simp[Aa,hH.sy],fun r r1 r2 r3=>by simp[Aa,r1,hH.s0 r r1 r2 r3],by simp[Aa,hH.m],by simp[Aa,AO]⟩ wm (fun t ht=>?_) (by rw[List.length_append];omega) oF oF ex ey ec;rcases List.mem_append.1 ht with ht|ht
   ·exact wh t ht
   ·exact hW oo (.inr hmem) t ht
  |both o1 o2=>
   simp only[SH,Gd]at hs ex ey ec;have g1:=Yk mine hers;have g2:=vE g o1 o2;obtain⟨vx1,vy1,G⟩:=VF (v:=v) (c:=c) (vx:=vx) (X:=X) (vy:=vy) (Y:=Y) (vs:=1) wm wh oF oF oF oF;obtain⟨vx2,vy2,X2,Y2,q1,q2,Pi⟩:=jm (hP o1 o2 hmem) (v:=v) (c:=c|| (Dd mine hers).2) (vx:=vx1) (X:=X++(Dd mine hers).1.1.map SI.o) (vy:=vy1) (Y:=Y++(Dd mine hers).1.2.map SI.o) (vs:=1) (by simp;omega) (by simp;omega);have l1:X2.length<=1:=by have:=congrArg List.length q1;simp at this;omega
   have l2:Y2.length<=1:=by have:=congrArg List.length q2;simp at this;omega
   have m1:∀L:List OP,(L.map SI.o).map SI.op=L:=fun L=>by rw[List.map_map];exact(List.map_congr_left fun _ _=>rfl).trans (List.map_id' L)
   obtain⟨H2,y1,y2⟩:=Zc (c:=DC Tryz.prog w0 I0 M0 n0 m0) (s:=lk [(4,.pob [1] 1 0),(6,.pob [3] 1 0),(7,.pob [4] 1 0),(10,.pob [5] 1 0),(32,cR l),(33,iv l.length),(34,iv k)]) hM hH;refine LoopC.le y1 ?_;refine Ad Ai Ci.eq_1 ?_;simp[hlt,hx,xc,Aa];refine Fa 0 5 dO G (fun r=>by simp[Aa,y2.f]) (fun r=>by simp[Aa,y2.s]) iS iS ?_;simp[Aa];refine Fa 0 5 dO Pi (fun r=>iS) (fun r=>iS) iS iS ?_;simp;rw[ew];refine AaJ (v:=v) (cl:=c|| (Dd mine hers).2|| (DL g o1 o2).2) (p:=p) (vx:=vx2) (X:=X++(Dd mine hers).1.1.map SI.o++X2) (vy:=vy2) (Y:=Y++(Dd mine hers).1.2.map SI.o++Y2) ⟨fun r=>iS,fun r=>iS,by simp[Aa,y2.p],by simp[Aa,y2.a],by simp[Aa,y2.b]⟩ fun H3 vm' vh' z2=>?_;refine ih (k+1) _ vx2 _ vy2 _ vm' vh' [] [] H3 oF z2 (fun t ht=>by simp at ht) (fun t ht=>by simp at ht) (by simp;omega) (by simp only[List.length_append,List.length_map];omega) (by simp only[List.length_append,List.length_map];omega) ?_ ?_ ?_
   ·rw[<-ex];simp only[List.map_append,m1,q1,List.append_assoc]
   ·rw[<-ey];simp only[List.map_append,m1,q2,List.append_assoc]
   ·rw[<-ec];simp only[Bool.or_assoc]
end Go.Proofs.YtlaapfplenlfaaaGreat
namespace Go.G
open Go
theorem ko{c:Cx}{s:Nat->A}{H:Hp}(R:Nm->Prop)[DecidablePred R](hM:∀o b,R o->¬c.M0 o b){d:Nm}(hr0:¬R d){u:Nat}{cs cs':List A}(hd:H d=⟨u,.cells cs⟩)(h1:A.ones cs'=true)
  (hf:∀H1:Hp,(∀o,R o->H1 o=H o)->cs.length=cs'.length/\∀(k:Nat)(x y:A),cs[k]? = some x->cs'[k]? = some y->y=x\/Jl H1 x y) :
  ∃H2:Hp,Le c ⟨s,H⟩ ⟨s,AK H2 d ⟨u,.cells cs'⟩⟩/\∀o,¬R o->H2 o=H o:=by
 refine⟨fun o=>if R o then ⟨(H o).u,.none⟩else H o,fun a w I μ hs=>?_,fun o h=>if_neg h⟩;have part1:Part H (fun o=>if R o then H o else ⟨(H o).u,.none⟩):=fun o=>by
  by_cases hr:R o
  ·exact .inl (if_pos hr)
  ·exact .inr (if_neg hr)
 have part2:Part H (fun o=>if R o then ⟨(H o).u,.none⟩else H o):=fun o=>by
  by_cases hr:R o
  ·exact .inr (if_pos hr)
  ·exact .inl (if_neg hr)
 have h3:=hs.sim.freezeAll part1 part2 (fun o=>by
  by_cases hr:R o
  ·exact .inr (by simp[hr])
  ·exact .inl (by simp[hr])) (fun o b h=>by
  by_cases hr:R o
  ·exact hM o b hr
  ·exact absurd (by simp[hr]) h)
 have hd2:(fun o=>if R o then (⟨(H o).u,.none⟩:VOb)else H o:Hp) d=⟨u,.cells cs⟩:=by
  show(if R d then _ else _)=_;rw[if_neg hr0,hd]
 have hob:=hs.sim.ob d;have hob:OSim w I μ (μ d) (.cells cs):=by
  have e:(⟨s,H⟩:Sta).H d=⟨u,.cells cs⟩:=hd;rw[e]at hob;exact hob
 obtain⟨vs,k1,k2,k3⟩:=hob;obtain⟨hl,hg⟩:=(hf (fun o=>if R o then H o else ⟨(H o).u,.none⟩) fun o h=>if_pos h);have hB:Es (μ d) ((fun o=>if R o then (⟨(H o).u,.none⟩:VOb)else H o:Hp) d).ob=true:=by rw[hd2];rfl
 obtain⟨hx2,hs2⟩:=h3.upd (EX w none) d (μ d) (.cells cs') (.inl rfl) (.inr rfl) (fun _=>.inr ⟨hB,rfl⟩) (fun _=>h3.tag _ hB) (fun hx2=>by
  refine⟨vs,k1,by rw[k2,hl],fun k y hk=>?_⟩;rw[D5];have hlt:k<cs.length:=by have:=(List.getElem?_eq_some_iff.1 hk).1;omega
  have hx:cs[k]? = some cs[k]:=List.getElem?_eq_getElem hlt;simp only[A.ones,List.all_eq_true]at h1;refine⟨h1 y (List.mem_of_getElem? hk),?_⟩;rcases hg k _ y hx hk with e|hfx
  ·rw[e];exact(k3 k _ hx).2.mono0 (fun b h=>.inl h) (fun _ _=>rfl)
  ·exact(hfx c w I μ _ (hs.sim.part part1) (k3 k _ hx).2).ofI)
 have hu:(μ d).u=u:=by exact(h3.ver d).trans (congrArg VOb.u hd2)
 rw[hu]at hs2;exact⟨_,_,hs2,hs.size,hs.defers,fun t=>hx2.rel ((hs.rel t).mono0 (fun b h=>.inl h) (fun _ _=>rfl))⟩
end Go.G
namespace Go.Proofs.YtlaapfplenlfaaaGreat
open Go Go.G Go.Proofs Go.PL
theorem vi{c:Cx}{x:CC}{Q:Exit->Sta->Prop}{s:Nat->A}{v:Nat}{cl:Bool}{p:E}{H:Hp}(h0:∀r,H (0::r)=(Q7 v cl false).F 0 r)(h1:H [1]=⟨1,.cells (eL p)⟩)(h3:H [3]=⟨1,.cells Be⟩)(h4:H [4]=⟨1,.cells Be⟩)(h5:H [5]=⟨1,.cells [.pob [0] v 0,.sl true [],.sl true [],.sl true [],.sl true []]⟩)(h6:∀r,r≠[]->H (5::r)=⟨0,.none⟩)
  (k:∀(H2:Hp)(vm vh:Nat),LiH v cl p 1 [] 1 [] vm vh [] [] H2->LoopC c x Q ⟨s,H2⟩):LoopC c x Q ⟨s,H⟩:=by
 have e0:=h6 [0] iS;have e1:=h6 [1] iS;refine LoopC.le (BO (d:=[5]) (u:=1) 1 [5,0] 14 h5 rfl iS) ?_;refine LoopC.le (BO (d:=[5]) (u:=1) (cs:=[.pob [0] v 0,.osl [5,0] 1 14 0 0,.sl true [],.sl true [],.sl true []]) 2 [5,1] 14 (by simp[Aa,e0]) rfl iS) ?_;refine AaJ (v:=v) (cl:=cl) (p:=p) (vx:=1) (X:=[]) (vy:=1) (Y:=[]) ⟨fun r=>?_,fun r=>?_,?_,?_,?_⟩ k
 ·simp[Aa,h0]
 ·by_cases p1:r=[]
  ·subst p1;simp[Aa,e0,e1]
  ·by_cases p2:r=[0]
   ·subst p2;simp[Aa,e0]
   ·by_cases p3:r=[1]
    ·subst p3;simp[Aa,e1]
    ·simp[Aa,p1,p2,p3,h6]
 ·simp[Aa,h1]
 ·simp[Aa,h3]
 ·simp[Aa,h4]
theorem bj{p q:E}{g:E->E->(E × E) × Bool}{l:List Pc}(hT:Xg p.ops q.ops l)(gp:∀o,o∈p.ops->Xe o)(gq:∀o,o∈q.ops->Xe o)(lp:p.ops.length<=1000000)(lq:q.ops.length<=1000000)(hl:l.length<=1000000)(hI:SH l<=1000000)
  (hW:∀o,(.a o∈l\/.b o∈l)->∀t,t∈o.l->AE t) (hP:∀o o',.both o o'∈l->yq g o o') (v:Nat) (c:Bool):SpecF Tryz.prog 71 (fun o=>[.pob [o] v 0,eX p,eX q]) (Q7 v c false) (fun _=>.tup [eX (rbL g p q).1.1,eX (rbL g p q).1.2]) (Q7 v (c|| (rbL g p q).2) false):=by
 have TH:=PJ hT gp gq lp lq oF;have er:rbL g p q=((KM p.list (Gd g l [] []).1.1,KM p.list (Gd g l [] []).1.2),(Gd g l [] []).2):=by unfold rbL;rw[nr hT]
 rw[er];generalize hr:Gd g l [] []=r;refine Hh Ov iS (Ab Aq (Ab (AF p) (Ab (AF q) Ah))) (Ay (Ab (AF _) (Ab (AF _) Ah))) fun w0 I0 M0 m0 hM=>?_;unfold Jg;simp;refine Ag TH iS ?_;simp;refine LoopC.le (Ar [(4,.pob [1] 1 0),(6,.pob [3] 1 0),(7,.pob [4] 1 0),(10,.pob [5] 1 0),(32,cR l),(33,iv l.length),(34,iv (0:Nat))] iS) ?_;refine vi (v:=v) (cl:=c) (p:=p) (fun r=>iS) iS (by simp[Be]) (by simp[Be]) iS (fun r hr=>by simp[hr,Gz,Ne.symm hr]) fun H2 vm vh hH2=>?_;refine AgZ (g:=g) hM hl hW hP (x0:=r.1.1) (y0:=r.1.2) (c0:=c|| r.2) (fun c1 vx X vy Y vm' vh' mF hF H' hH' wm wh ls lx ly ex ey ec=>?_) l.length 0 c 1 [] 1 [] vm vh [] [] H2 oF hH2 (fun t ht=>by simp at ht) (fun t ht=>by simp at ht) (by simpa using hI) (by simp;omega) (by simp;omega) (by rw[List.drop_zero,hr];rfl) (by rw[List.drop_zero,hr];rfl) (by rw[List.drop_zero,hr]);have g1:=Yk mF hF;obtain⟨vx1,vy1,G⟩:=VF (v:=v) (c:=c1) (vx:=vx) (X:=X) (vy:=vy) (Y:=Y) (vs:=1) wm wh oF oF oF oF;rw[ec]at G;have m1:∀L:List OP,(L.map SI.o).map SI.op=L:=fun L=>by rw[List.map_map];exact(List.map_congr_left fun _ _=>rfl).trans (List.map_id' L)
 have ex':(X++(Dd mF hF).1.1.map SI.o).map SI.op=r.1.1:=by rw[List.map_append,m1,ex]
 have ey':(Y++(Dd mF hF).1.2.map SI.o).map SI.op=r.1.2:=by rw[List.map_append,m1,ey]
 have lx':(X++(Dd mF hF).1.1.map SI.o).length<=10000002:=by simp;omega
 have ly':(Y++(Dd mF hF).1.2.map SI.o).length<=10000002:=by simp;omega
 generalize X++(Dd mF hF).1.1.map SI.o=X1 at *;generalize Y++(Dd mF hF).1.2.map SI.o=Y1 at *;have R1:=TW p.list (X1.map SI.op) (by simp;omega);have R2:=TW p.list (Y1.map SI.op) (by simp;omega);rw[ex']at R1;rw[ey']at R2;obtain⟨H3,y1,y2⟩:=Zc (c:=DC Tryz.prog w0 I0 M0 91 m0) (s:=lk [(4,.pob [1] 1 0),(6,.pob [3] 1 0),(7,.pob [4] 1 0),(10,.pob [5] 1 0)]) hM hH';simp;refine GP y1 (Gk ?_);simp;refine Fa 0 5 dO G (fun r=>by simp[y2.f]) (fun r=>by simp[y2.s]) iS iS ?_;simp;generalize hHH:ov 0 ((rm v (c|| r.2) vx1 X1 vy1 Y1 (true,[]) (true,[]) 1).B 0 5) (ov 5 ((rm v (c|| r.2) vx1 X1 vy1 Y1 (true,[]) (true,[]) 1).C 0 5) H3)=HH;have z0:∀p,HH (0::p)=(Q7 v (c|| r.2) false).F 0 p:=fun p=>by rw[<-hHH];simp
 have z1:HH [1]=⟨1,.cells (eL p)⟩:=by rw[<-hHH];simp[y2.p]
 have z3:HH [3]=⟨1,.cells Be⟩:=by rw[<-hHH];simp[y2.a]
 have z4:HH [4]=⟨1,.cells Be⟩:=by rw[<-hHH];simp[y2.b]
 have z5:HH [5]=⟨1,.cells [.pob [0] v 0,.osl [5,0] vx1 14 0 X1.length,.osl [5,1] vy1 14 0 Y1.length,Sm (true,[]),Sm (true,[])]⟩:=by rw[<-hHH];simp
 have z6:HH [5,0]=⟨vx1,.arr 14 (X1.map RO)⟩:=by rw[<-hHH];simp
 have z7:HH [5,1]=⟨vy1,.arr 14 (Y1.map RO)⟩:=by rw[<-hHH];simp
 obtain⟨H5,k1,k2⟩:=ko (c:=DC Tryz.prog w0 I0 M0 91 m0) (s:=lk [(4,.pob [1] 1 0),(6,.pob [3] 1 0),(7,.pob [4] 1 0),(10,.pob [5] 1 0)]) (H:=HH) (fun o=>o=[5,0]\/o=[5,1]) (fun o b h=>by
  rcases h with rfl|rfl
  ·exact hM 5 [0] b oF
  ·exact hM 5 [1] b oF) (d:=[5]) dO z5 (cs':=[.pob [0] v 0,Jo r.1.1,Jo r.1.2,Sm (true,[]),Sm (true,[])]) (by simp[A.ones]) (fun H1 h1=>by
  have f1:Jl H1 (.osl [5,0] vx1 14 0 X1.length) (Jo r.1.1):=by rw[<-ex'];exact oP (by rw[h1 _ (.inl rfl),z6]) rfl
  have f2:Jl H1 (.osl [5,1] vy1 14 0 Y1.length) (Jo r.1.2):=by rw[<-ey'];exact oP (by rw[h1 _ (.inr rfl),z7]) rfl
  refine⟨rfl,fun k x y hx hy=>?_⟩
  match k with
  |0=>simp at hx hy;exact .inl (by rw[<-hx,<-hy])
  |1=>simp at hx hy;exact .inr (by rw[<-hx,<-hy];exact f1)
  |2=>simp at hx hy;exact .inr (by rw[<-hx,<-hy];exact f2)
  |3=>simp at hx hy;exact .inl (by rw[<-hx,<-hy])
  |4=>simp at hx hy;exact .inl (by rw[<-hx,<-hy])
  |k+5=>simp at hx)
 refine GP k1 (Gk ?_);have w1:H5 [1]=⟨1,.cells (eL p)⟩:=by rw[k2 [1] dO,z1]
 have w3:H5 [3]=⟨1,.cells Be⟩:=by rw[k2 [3] dO,z3]
 have w4:H5 [4]=⟨1,.cells Be⟩:=by rw[k2 [4] dO,z4]
 simp[Aa,w1];refine Ag R1 iS ?_;simp[Aa,w1];refine Ag R2 iS ?_;simp[Aa,w3,w4,Be];refine An (r0:=.tup [eX (KM p.list r.1.1),eX (KM p.list r.1.2)]) (by simp[Et,Aa]) rfl fun o=>?_;rw[<-z0 o,<-k2 (0::o) iS];simp[Aa]
theorem YI{e:E}(h:Mg e):∀o,o∈(Hn e).ops->∀t,t∈o.l->Af t=t:=by
 obtain⟨k,o,n,ws,ks,l,os⟩:=e;rw[Mg]at h;obtain⟨hk,hl,hon,hwl,hkl,hol,hsum,hks,hos⟩:=h;rw[EA];split
 ·intro o ho;simp at ho
 ·split
  ·intro o ho;simp at ho
  ·split
   ·rename_i h1 h2 h3;have hw:=Qd (list:=l) (os.map IY) [] [] [] (fun x hx e0 e1 e2=>by
     obtain⟨y,hy,rfl⟩:=List.mem_map.1 hx;obtain⟨g1,g2,g3⟩:=LD (hos h3) y hy;have:y.kind=3:=by
      have e0':y.kind≠0:=e0;have e1':y.kind≠1:=e1;have e2':y.kind≠2:=e2;omega
     exact mI y.e (g3 this)) trivial (by show(4:Int)≠1/\(4:Int)≠2;decide) rfl rfl
    intro o ho t ht;have nl:∀{l:List T},l.map Af=l->∀t,t∈l->Af t=t:=fun {l} g t ht=>by
     have:l.map Af=l.map id:=by rw[g,List.map_id]
     exact List.map_inj_left.1 this t ht
    cases uU hw o ho with
    |keep n=>simp at ht
    |del l h g=>exact nl g t ht
    |ins l h g=>exact nl g t ht
    |desc e h g=>simp at ht
   ·intro o ho;simp at ho
theorem yk{P:T->Prop}{ps qs:List OP}{l:List Pc}(h:Xg ps qs l):(∀o,o∈ps->∀t,t∈o.l->P t)->(∀o,o∈qs->∀t,t∈o.l->P t)->∀c,c∈l->(∀t,t∈(T5 c).1.l->P t)/\(∀t,t∈(T5 c).2.l->P t):=by
 have tk:∀(o:OP)(n:Nat),(∀t,t∈o.l->P t)->∀t,t∈(Jm o n).l->P t:=fun o n h t ht=>by
  unfold Jm at ht;split at ht
  ·exact h t ht
  ·unfold frO at ht;split at ht
   ·exact h t ht
   ·exact h t (QD ht)
 have rs:∀(p:OP)(n:Nat)(ps:List OP),(∀o,o∈p::ps->∀t,t∈o.l->P t)->∀o,o∈Ko p n ps->∀t,t∈o.l->P t:=fun p n ps h o ho t ht=>by
  unfold Ko at ho;split at ho
  ·exact h o (List.mem_cons_of_mem _ ho) t ht
  ·rcases List.mem_cons.1 ho with rfl|ho
   ·have:=h p iS;unfold pj at ht;split at ht
    ·exact this t ht
    ·exact this t (SF ht)
   ·exact h o (List.mem_cons_of_mem _ ho) t ht
 induction h with
 |nil=>intro _ _ c hc;simp at hc
 |fst p ps qs l h g ih=>
  intro hp hq c hc;rcases List.mem_cons.1 hc with rfl|hc
  ·exact⟨hp p iS,fun t ht=>by simp[T5]at ht⟩
  ·exact ih (fun o ho=>hp o (List.mem_cons_of_mem _ ho)) hq c hc
 |snd ps q qs l _ h g ih=>
  intro hp hq c hc;rcases List.mem_cons.1 hc with rfl|hc
  ·exact⟨fun t ht=>by simp[T5]at ht,hq q iS⟩
  ·exact ih hp (fun o ho=>hq o (List.mem_cons_of_mem _ ho)) c hc
 |both p ps q qs n l hpk hqk hn g ih=>
  intro hp hq c hc;rcases List.mem_cons.1 hc with rfl|hc
  ·exact⟨tk p n (hp p iS),tk q n (hq q iS)⟩
  ·exact ih (rs p n ps hp) (rs q n qs hq) c hc
theorem vZ{R:E->T->T->Prop}{l:List Pc}{a x y:List T}(h:v9 R l a x y):∀o1 o2,.both o1 o2∈l->∃a1 x1 y1,((∀t,t∈a1->t∈a)/\a1.length<=a.length)/\LdO R [o1] a1 x1/\LdO R [o2] a1 y1/\o1.kind≠2/\o2.kind≠2:=by
 induction h with
 |nil=>intro o1 o2 hm;simp at hm
 |a L m l a x y hl g ih=>
  intro o1 o2 hm;rcases List.mem_cons.1 hm with hm|hm
  ·cases hm
  ·exact ih o1 o2 hm
 |b L m l a x y hl g ih=>
  intro o1 o2 hm;rcases List.mem_cons.1 hm with hm|hm
  ·cases hm
  ·exact ih o1 o2 hm
 |both o o' l a1 a2 x1 x2 y1 y2 h h' ho ho' g ih=>
  intro o1 o2 hm;rcases List.mem_cons.1 hm with hm|hm
  ·cases hm;exact⟨a1,x1,y1,⟨fun t ht=>List.mem_append_left _ ht,iS⟩,h,h',ho,ho'⟩
  ·obtain⟨b1,c1,d1,k1,k2⟩:=ih o1 o2 hm;exact⟨b1,c1,d1,⟨fun t ht=>List.mem_append_right _ (k1.1 t ht),by have:=k1.2;simp;omega⟩,k2⟩
theorem m6{R:E->T->T->Prop}{o:OP}{a x:List T}(h:LdO R [o] a x)(ho:o.kind≠2):(o.kind=0/\o.n=(a.length:Nat))\/(o.kind=1/\o.n=0/\o.l.map Af=a.map Af)\/(o.kind=3/\o.n=0/\∃k u,a=[k]/\x=[u]/\R o.e k u):=by
 cases h with
 |keep l m hne hl g=>cases g;exact .inl ⟨rfl,iS⟩
 |del l m hne hl g=>cases g;exact .inr (.inl ⟨rfl,rfl,by simpa using hl⟩)
 |ins l m hne hl g=>exact absurd rfl ho
 |desc e x y r g=>cases g;exact .inr (.inr ⟨rfl,rfl,x,y,rfl,rfl,r⟩)
theorem l6{a b:List Int}{p:Nat}{ws:List WE}(h:Jn a b p ws):∀w,w∈ws->∀i:Nat,w.at_=i->w.old=A5 0 (a.getD i 0) w.mask:=by
 induction h with
 |nil p h=>intro w hw;simp at hw
 |cons p i m o n ws hp h hi hm ho hn h1 h2 g ih=>
  intro w hw j hj;rcases List.mem_cons.1 hw with rfl|hw
  ·have hj:((i:Nat):Int)=j:=hj;have:i=j:=oF
   subst this;exact ho.symm
  ·exact ih w hw j hj
theorem jS{o m k:Int}(hm:0<=m/\m<256)(hk:0<=k/\k<256):A5 0 (A5 0 o m) (Db m k)=A5 0 o (Db m k)/\A5 0 (A5 0 o k) (Db m k)=A5 0 o (Db m k):=by
 refine⟨HG (BL _ _ _) (BL _ _ _) fun i hi=>?_,HG (BL _ _ _) (BL _ _ _) fun i hi=>?_⟩;all_goals
  have nb:=Mv hm hk i;rw[Bt _ _ _ hi,Bt _ _ _ hi,Bt _ _ _ hi];cases c1:AH m i<;>cases c2:AH k i<;>simp[nb,c1,c2]
section
variable {most:Int} {f:Nat}
theorem ZC{e:E}{k z:T}(h:NA most f e k z):G.Spec Tryz.prog 25 [eX e,tX k] (.tup [tX z,bv true]):=by
 obtain⟨⟨no,wo,so⟩,nz,wz,sz⟩:=I7 h;obtain⟨u,u1,u2⟩:=fF f e k z h.2 wo wz (PE f k so) (PE f z sz) (Ct h.1);have:=I9 u1
 rwa [u2,nz]at this
theorem Tx{p q:E}{o x y:T}(hp:NA most f p o x)(hq:NA most f q o y)(h2:¬(p.kind=2/\q.kind=2))(h3:¬(p.kind=3/\q.kind=3)):BoS p q (XP p q):=by
 intro v c;obtain⟨so,sx⟩:=I7 hp;obtain⟨_,sy⟩:=I7 hq;have S0:=b9;have fl:FamL (fun o=>[.pob [o] v 0,eX p,eX q]):=Ab Aq (Ab (AF p) (Ab (AF q) Ah));by_cases c0:p.kind=0\/q.kind=0
 ·have e:XP p q=((p,q),false):=if_pos c0;rw[e];refine Ao Dx iS fl (Ay (Ab (AF _) (Ab (AF _) Ah))) fun w0 I0 M0 m0=>?_;unfold CP;have hd:(decide (p.kind=0)|| decide (q.kind=0))=true:=by simpa using c0
  by_cases p0:p.kind=0
  ·simp[p0,Aa];exact An (r0:=.tup [eX p,eX q]) (by simp[Et,p0]) rfl fun r=>iS
  ·have q0:q.kind=0:=c0.resolve_left p0;simp[p0,q0,Aa];exact An (r0:=.tup [eX p,eX q]) (by simp[Et,q0]) rfl fun r=>iS
 ·have p0:¬p.kind=0:=fun h=>c0 (.inl h);have q0:¬q.kind=0:=fun h=>c0 (.inr h);have fe:DV (fun _=>.tup [eX E0,eX E0]):=Ay (Ab (AF _) (Ab (AF _) Ah));by_cases p1:p.kind=1
  ·obtain⟨e1,e2⟩:=bP hp.1 p1;have e:XP p q=((E0,E0),!J2 y p.new):=by
    rw[XP,if_neg c0,if_pos p1,e1,so.1,HS (Ct hq.1),sy.1]
   have W:=Q6 (e:=q) (o:=p.old) (n:=p.new) (u:=y) (by rw[e1,so.1];exact ZC hq) sy.2.1 (by rw[e2,sx.1];exact sx.2.1) v c;rw[e];refine Ao Dx iS fl fe fun w0 I0 M0 m0=>?_;unfold CP;simp[p1,q0,Aa];refine Ap 0 W (fun r=>iS) iS (by simp[List.isPrefixOf]) ?_;simp[Aa];refine Ag S0 iS ?_;simp[Aa];exact An (r0:=.tup [eX E0,eX E0]) (by simp[Et]) rfl fun r=>iS
  ·have q1:q.kind=1:=by
    have Lp:=Ct hp.1;have Lq:=Ct hq.1;cases f with
    |zero=>
     rcases Lp with ⟨rfl,_⟩|⟨_,_,rfl,_⟩
     ·exact absurd rfl p0
     ·exact absurd rfl p1
    |succ f=>
     rcases Lp with h|⟨ws,ks,rfl,a1,_⟩|⟨os,rfl,_,a1,_⟩
     ·rcases h with ⟨rfl,_⟩|⟨_,_,rfl,_⟩
      ·exact absurd rfl p0
      ·exact absurd rfl p1
     ·rcases Lq with h|⟨ws',ks',rfl,b1,_⟩|⟨os',rfl,_,b1,_⟩
      ·rcases h with ⟨rfl,_⟩|⟨_,_,rfl,_⟩
       ·exact absurd rfl q0
       ·rfl
      ·exact absurd ⟨rfl,rfl⟩ h2
      ·omega
     ·rcases Lq with h|⟨ws',ks',rfl,b1,_⟩|⟨os',rfl,_,b1,_⟩
      ·rcases h with ⟨rfl,_⟩|⟨_,_,rfl,_⟩
       ·exact absurd rfl q0
       ·rfl
      ·omega
      ·exact absurd ⟨rfl,rfl⟩ h3
   obtain⟨e1,e2⟩:=bP hq.1 q1;have e:XP p q=((E0,E0),!J2 x q.new):=by
    rw[XP,if_neg c0,if_neg p1,e1,so.1,HS (Ct hp.1),sx.1]
   have W:=Q6 (e:=p) (o:=q.old) (n:=q.new) (u:=x) (by rw[e1,so.1];exact ZC hp) sx.2.1 (by rw[e2,sy.1];exact sy.2.1) v c;rw[e];refine Ao Dx iS fl fe fun w0 I0 M0 m0=>?_;unfold CP;simp[p0,p1,q1,Aa];refine Ap 0 W (fun r=>iS) iS (by simp[List.isPrefixOf]) ?_;simp[Aa];refine Ag S0 iS ?_;simp[Aa];exact An (r0:=.tup [eX E0,eX E0]) (by simp[Et]) rfl fun r=>iS
theorem lH{p q:E}{X Y:E}(hp:p.kind=2)(hq:q.kind=2)(hl:p.list=0/\q.list=0){v:Nat}{c c':Bool}(S:SpecF Tryz.prog 70 (fun o=>[.pob [o] v 0,eX p,eX q]) (Q7 v c false) (fun _=>.tup [eX X,eX Y]) (Q7 v c' false)) :
  SpecF Tryz.prog 42 (fun o=>[.pob [o] v 0,eX p,eX q]) (Q7 v c false) (fun _=>.tup [eX X,eX Y]) (Q7 v c' false):=by
 refine Ao Dx iS (Ab Aq (Ab (AF p) (Ab (AF q) Ah))) (Ay (Ab (AF _) (Ab (AF _) Ah))) fun w0 I0 M0 m0=>?_;obtain⟨kp,op,np,wp,ksp,lp,osp⟩:=p;obtain⟨kq,oq,nq,wq,ksq,lq,osq⟩:=q;have hp:kp=2:=hp;have hq:kq=2:=hq;have h1:lp=0:=hl.1;have h2:lq=0:=hl.2;subst hp;subst hq;subst h1;subst h2;unfold CP;simp;refine Ap 0 S (fun r=>by simp[Aa]) iS (by simp[List.isPrefixOf]) ?_;simp[Aa];exact An (r0:=.tup [eX X,eX Y]) (by simp[Et]) rfl (fun r=>by simp[Aa])
theorem gC{p q:E}{X Y:E}(hp:p.kind=3)(hq:q.kind=3)(hl:p.list=q.list){v:Nat}{c c':Bool}(S:SpecF Tryz.prog 71 (fun o=>[.pob [o] v 0,eX p,eX q]) (Q7 v c false) (fun _=>.tup [eX X,eX Y]) (Q7 v c' false)) :
  SpecF Tryz.prog 42 (fun o=>[.pob [o] v 0,eX p,eX q]) (Q7 v c false) (fun _=>.tup [eX X,eX Y]) (Q7 v c' false):=by
 refine Ao Dx iS (Ab Aq (Ab (AF p) (Ab (AF q) Ah))) (Ay (Ab (AF _) (Ab (AF _) Ah))) fun w0 I0 M0 m0=>?_;obtain⟨kp,op,np,wp,ksp,lp,osp⟩:=p;obtain⟨kq,oq,nq,wq,ksq,lq,osq⟩:=q;have hp:kp=3:=hp;have hq:kq=3:=hq;have hl:lp=lq:=hl;subst hp;subst hq;subst hl;unfold CP;simp;refine Ap 0 S (fun r=>by simp[Aa]) iS (by simp[List.isPrefixOf]) ?_;simp[Aa];exact An (r0:=.tup [eX X,eX Y]) (by simp[Et]) rfl (fun r=>by simp[Aa])
theorem AcE:∀(f:Nat)(p q:E)(o x y:T),NA most f p o x->NA most f q o y->BoS p q (rb f p q):=by
 intro f;induction f with
 |zero=>
  intro p q o x y hp hq;have k1:p.kind=0\/p.kind=1:=by
   rcases Ct hp.1 with ⟨rfl,_⟩|⟨_,_,rfl,_⟩
   ·exact .inl rfl
   ·exact .inr rfl
  exact Tx hp hq (fun h=>oF) (fun h=>oF)
 |succ f ih=>
  intro p q o x y hp hq;by_cases k2:p.kind=2/\q.kind=2
  ·have er:rb (f+1) p q=x9 (rb f) p q:=by rw[rb,if_pos k2]
   rw[er];intro v c;have WP:=wfE_iff.1 hp.2;have WQ:=wfE_iff.1 hq.2;have kd:=fun i=>OE hp k2.1 i;have kd':=fun i=>OE hq k2.2 i;have okx:o.words.length<=1000/\o.kids.length<=1000/\x.words.length<=1000/\x.kids.length<=1000/\y.words.length<=1000/\y.kids.length<=1000:=by
    obtain⟨a,⟨g,b⟩,_⟩:=hp.1;obtain⟨_,⟨g',c⟩,_⟩:=hq.1;have:=Au a;have:=Au b;have:=Au c;omega
   obtain⟨ws,ks,rfl,_,_,hw,hk⟩:∃ws ks,p=.mk 2 T0 T0 ws ks 0 []/\o.kind=1/\x.kind=1/\Jn o.words x.words 0 ws/\MA (Ld f) o.kids x.kids 0 ks:=by
    rcases Ct hp.1 with h|h|⟨os,rfl,_⟩
    ·rcases h with ⟨rfl,_⟩|⟨_,_,rfl,_⟩<;>exact absurd k2.1 iS
    ·exact h
    ·exact absurd k2.1 iS
   obtain⟨ws',ks',rfl,_,_,gw,gk⟩:∃ws ks,q=.mk 2 T0 T0 ws ks 0 []/\o.kind=1/\y.kind=1/\Jn o.words y.words 0 ws/\MA (Ld f) o.kids y.kids 0 ks:=by
    rcases Ct hq.1 with h|h|⟨os,rfl,_⟩
    ·rcases h with ⟨rfl,_⟩|⟨_,_,rfl,_⟩<;>exact absurd k2.2 iS
    ·exact h
    ·exact absurd k2.2 iS
   simp only[E.kids_mk]at kd kd';have wl1:=KO hw;have wl2:=KO gw;have kl:∀{R:E->T->T->Prop} {a b:List T} {p:Nat} {ks:List KE},MA R a b p ks->ks.length+p<=max p (max a.length b.length):=fun h=>by
    induction h with
    |nil p h=>simp;omega
    |cons p i e ks hp h hi he hr g ih=>rw[List.length_cons];omega
   have kl1:=kl hk;have kl2:=kl gk;refine lH rfl rfl ⟨rfl,rfl⟩ (RV (p:=.mk 2 T0 T0 ws ks 0 []) (q:=.mk 2 T0 T0 ws' ks' 0 []) (by show ws.length<=_;omega) (by show ws'.length<=_;omega) (by show ks.length<=_;omega) (by show ks'.length<=_;omega) WP.w WQ.w (sG hw) (sG gw) (tW hk) (tW gk) (fun a ha b hb he=>?_) (fun a ha b hb he=>?_) v c)
   ·obtain⟨i,hi,_⟩:=FQ hw a ha;have m1:=(WP.w a ha).2.1;have m2:=(WQ.w b hb).2.1;rw[l6 hw a ha i hi,l6 gw b hb i (he.symm.trans hi)];obtain⟨n1,n2⟩:=jS (o:=o.words.getD i 0) m1 m2;rw[n1,n2]
   ·obtain⟨ka,ea⟩:=a;obtain⟨kb,eb⟩:=b;have he:ka=kb:=he;subst he;obtain⟨i,hi,_⟩:=Fz hk _ ha;have hi:ka=i:=hi;subst hi;have k1:=kd i;have k2:=kd' i;rw[KL hk i ea ha]at k1;rw[KL gk i eb hb]at k2;exact ih ea eb _ _ _ k1 k2
  ·by_cases k3:p.kind=3/\q.kind=3
   ·have er:rb (f+1) p q=rbL (rb f) p q:=by rw[rb,if_neg k2,if_pos k3]
    rw[er];intro v c;obtain⟨ox,o2,o9,lp⟩:=KH hp.1 k3.1;obtain⟨oy,_,_,lq⟩:=KH hq.1 k3.2;have WP:=wfE_iff.1 hp.2;have WQ:=wfE_iff.1 hq.2;have oko:=hp.1.1;have np:∀o,o∈p.ops->∀t,t∈o.l->Af t=t:=by
     have e:=hp.1.2.2.2.2;obtain⟨_,⟨g,ok⟩,_⟩:=hp.1;rw[e];exact YI (Mw most (f+1) g o x oko ok)
    have nq:∀o,o∈q.ops->∀t,t∈o.l->Af t=t:=by
     have e:=hq.1.2.2.2.2;obtain⟨_,⟨g,ok⟩,_⟩:=hq.1;rw[e];exact YI (Mw most (f+1) g o y oko ok)
    obtain⟨_,⟨gx,okx⟩,_⟩:=hp.1;obtain⟨_,⟨gy,oky⟩,_⟩:=hq.1;have fo:=Au oko;have fx:=Au okx;have fy:=Au oky;have hlist:p.list=q.list:=by
     have a:p.list=o.kind:=by
      rcases Ct hp.1 with h|⟨_,_,rfl,_⟩|⟨os,rfl,_⟩
      ·rcases h with ⟨rfl,_⟩|⟨_,_,rfl,_⟩<;>exact absurd k3.1 iS
      ·exact absurd k3.1 iS
      ·rfl
     have b:q.list=o.kind:=by
      rcases Ct hq.1 with h|⟨_,_,rfl,_⟩|⟨os,rfl,_⟩
      ·rcases h with ⟨rfl,_⟩|⟨_,_,rfl,_⟩<;>exact absurd k3.2 iS
      ·exact absurd k3.2 iS
      ·rfl
     rw[a,b]
    have L1:LdO (NA most f) p.ops o.kids x.kids:=LZ lp fun oo e t ho _ _ _ r=>⟨r.1,(WP.os oo ho).e⟩;have L2:LdO (NA most f) q.ops o.kids y.kids:=LZ lq fun oo e t ho _ _ _ r=>⟨r.1,(WQ.os oo ho).e⟩;obtain⟨f1,f2,f3⟩:=Hi L1;obtain⟨e1,e2,e3⟩:=Hi L2;obtain⟨l,t1,t2,t3,t4⟩:=ji (p.ops.length+q.ops.length+2*o.kids.length) p.ops q.ops o.kids x.kids y.kids L1 L2 (f3 oF oF) (e3 oF oF) (CX _);have SQ:=mc t1 _ _ _ L1 L2 (f3 oF oF) (e3 oF oF);have hW:=vO t1 (fun o ho=>⟨(WP.os o ho).l,(WP.os o ho).e⟩) (fun o ho=>⟨(WQ.os o ho).l,(WQ.os o ho).e⟩);have hN:=yk (P:=fun t=>Af t=t) t1 np nq;have hI:=lL t1;have kn:∀k,k∈o.kids->Af k=k:=fun k hk=>(Au (BI oko k hk)).2.1;have kl:∀{R:E->T->T->Prop} {os:List OP} {a b:List T},LdO R os a b->True:=fun _=>trivial;have hP:∀o1 o2,.both o1 o2∈l->yq (rb f) o1 o2:=fun o1 o2 hm=>by
     obtain⟨a1,x1,y1,h0,h1,h2,n1,n2⟩:=vZ SQ o1 o2 hm;have N:=hN _ hm;have W:=hW _ hm;have s1:=m6 h1 n1;have s2:=m6 h2 n2;have one:∀{l:List T} {k:T},l.map Af=[k].map Af->(∀t,t∈l->Af t=t)->k∈a1->∃r,l=k::r:=fun {l k} hl hn hk=>by
      cases l with
      |nil=>simp at hl
      |cons t r=>
       simp at hl;have:t=k:=by rw[<-hn t iS,hl.1,kn k (h0.1 k hk)]
       exact⟨r,by rw[this]⟩
     have z:=h0.2;refine⟨oF,oF,oF,fun hk=>?_,fun hk=>?_,fun hk=>?_,fun hk=>?_⟩
     ·have b1:o1.l.map Af=a1.map Af:=by
       rcases s1 with s|s|s
       ·omega
       ·exact s.2.2
       ·omega
      have b2:o2.l.map Af=a1.map Af:=by
       rcases s2 with s|s|s
       ·omega
       ·exact s.2.2
       ·omega
      have:=Ff b1;exact⟨W.1.1,W.2.1,oF,eqLs_iff.2 (b1.trans b2.symm)⟩
     ·rcases s2 with s|s|⟨_,_,k,u,rfl,rfl,r⟩
      ·omega
      ·omega
      have b1:o1.l.map Af=[k].map Af:=by
       rcases s1 with s|s|s
       ·omega
       ·exact s.2.2
       ·omega
      obtain⟨rr,e⟩:=one b1 N.1 iS;exact⟨k,rr,u,e,ZC r⟩
     ·rcases s1 with s|s|⟨_,_,k,u,rfl,rfl,r⟩
      ·omega
      ·omega
      have b1:o2.l.map Af=[k].map Af:=by
       rcases s2 with s|s|s
       ·omega
       ·exact s.2.2
       ·omega
      obtain⟨rr,e⟩:=one b1 N.2 iS;exact⟨k,rr,u,e,ZC r⟩
     ·rcases s1 with s|s|⟨_,_,k,u,rfl,rfl,r⟩
      ·omega
      ·omega
      rcases s2 with s|s|⟨_,_,k2,u2,e,rfl,r2⟩
      ·omega
      ·omega
      injection e with e _;subst e;exact ih _ _ _ _ _ r r2
    exact gC k3.1 k3.2 hlist (bj t1 (f3 oF oF) (e3 oF oF) oF oF oF oF (fun oo h=>by
     rcases h with h|h
     ·exact(hW _ h).1.1
     ·exact(hW _ h).2.1) hP v c)
   ·rw[rb,if_neg k2,if_neg k3];exact Tx hp hq k2 k3
end
theorem zr{R:E->T->T->Prop}{os:List OP}{a b:List T}(h:LdO R os a b):DI os<=a.length+b.length:=by
 have e:∀(o:OP)(os:List OP),DI (o::os)=o.l.length+DI os:=fun o os=>by simp[DI]
 induction h with
 |nil=>simp[DI]
 |keep l m hne hl g ih=>rw[e];simp;omega
 |del l m hne hl g ih=>have:=Ff hl;rw[e];simp;omega
 |ins l m hne hl g ih=>have:=Ff hl;rw[e];simp;omega
 |desc e' x y r g ih=>rw[e];simp;omega
theorem xb{R:E->T->T->Prop}{os:List OP}{a b:List T}(h:LdO R os a b):∀o,o∈os->(o.kind=0\/o.kind=1\/o.kind=2\/o.kind=3)/\(o.kind=3->∃x y,x∈a/\y∈b/\R o.e x y):=by
 induction h with
 |nil=>intro o ho;simp at ho
 |keep l m hne hl g ih=>
  intro o ho;rcases List.mem_cons.1 ho with rfl|ho
  ·exact⟨.inl rfl,fun h=>absurd h (by show ¬(0:Int)=3;decide)⟩
  ·obtain⟨h1,h2⟩:=ih o ho;exact⟨h1,fun h=>by obtain⟨x,y,k1,k2,k3⟩:=h2 h;exact⟨x,y,List.mem_append_right _ k1,List.mem_append_right _ k2,k3⟩⟩
 |del l m hne hl g ih=>
  intro o ho;rcases List.mem_cons.1 ho with rfl|ho
  ·exact⟨.inr (.inl rfl),fun h=>absurd h (by show ¬(1:Int)=3;decide)⟩
  ·obtain⟨h1,h2⟩:=ih o ho;exact⟨h1,fun h=>by obtain⟨x,y,k1,k2,k3⟩:=h2 h;exact⟨x,y,List.mem_append_right _ k1,k2,k3⟩⟩
 |ins l m hne hl g ih=>
  intro o ho;rcases List.mem_cons.1 ho with rfl|ho
  ·exact⟨.inr (.inr (.inl rfl)),fun h=>absurd h (by show ¬(2:Int)=3;decide)⟩
  ·obtain⟨h1,h2⟩:=ih o ho;exact⟨h1,fun h=>by obtain⟨x,y,k1,k2,k3⟩:=h2 h;exact⟨x,y,k1,List.mem_append_right _ k2,k3⟩⟩
 |desc e x y r g ih=>
  intro o ho;rcases List.mem_cons.1 ho with rfl|ho
  ·exact⟨.inr (.inr (.inr rfl)),fun _=>⟨x,y,iS,iS,r⟩⟩
  ·obtain⟨h1,h2⟩:=ih o ho;exact⟨h1,fun h=>by obtain⟨x,y,k1,k2,k3⟩:=h2 h;exact⟨x,y,List.mem_cons_of_mem _ k1,List.mem_cons_of_mem _ k2,k3⟩⟩
theorem jo:∀(f:Nat)(e:E)(a b:T),Ld f e a b->Nh e->Sq f a->Sq f b->Mg e:=by
 have base:∀{e:E} {a b:T},mH e a b->Nh e->Mg e:=fun h w=>by
  rcases h with ⟨rfl,_⟩|⟨o,n,rfl,_⟩
  ·exact aH
  ·exact UM (wfE_iff.1 w).o (wfE_iff.1 w).n
 intro f;induction f with
 |zero=>exact fun e a b h w _ _=>base h w
 |succ f ih=>
  intro e a b h w sa sb;have W:=wfE_iff.1 w;rcases h with h|⟨ws,ks,rfl,h1,h2,h3,h4⟩|⟨os,rfl,h1,h2,hv,h3⟩
  ·exact base h w
  ·have l1:=KO h3;have kl:∀{R:E->T->T->Prop} {a b:List T} {p:Nat} {ks:List KE},MA R a b p ks->ks.length+p<=max p (max a.length b.length):=fun h=>by
    induction h with
    |nil p h=>simp;omega
    |cons p i e ks hp h hi he hr g ih=>rw[List.length_cons];omega
   have l2:=kl h4;have s1:=sa.1;have s2:=sa.2.1;have s3:=sb.1;have s4:=sb.2.1;rw[Mg];refine⟨.inr (.inr (.inl rfl)),fun _=>rfl,fun h=>absurd h dO,oF,oF,iS,by simp[DI],fun _=>UH fun x hx=>?_,fun h=>absurd h dO⟩;obtain⟨i,hi,_,_,_,r⟩:=Fz h4 x hx;exact ih _ _ _ r (W.ks x hx).2 (PG sa i) (PG sb i)
  ·have l1:=Hi h3;have l2:=zr h3;have s2:=sa.2.1;have s4:=sb.2.1;rw[Mg];refine⟨.inr (.inr (.inr rfl)),fun h=>absurd rfl h,fun h=>absurd h dO,iS,iS,oF,oF,fun h=>absurd h dO,fun _=>UC fun x hx=>?_⟩;obtain⟨k1,k2⟩:=xb h3 x hx;refine⟨k1,(W.os x hx).l,fun h=>?_⟩;obtain⟨c,d,c1,d1,r⟩:=k2 h;exact ih _ _ _ r (W.os x hx).e (sa.2.2 c c1) (sb.2.2 d d1)
section
variable {o x y:T} {most:Int}
theorem bZ(ho:Hz o)(hx:Hz x):NA most 1000 (JB most o x) (Af o) (Af x):=
 ⟨⟨Ep o ho.w ho.p 1000 ho.p,⟨1000,Ep x hx.w hx.p 1000 hx.p⟩,L6 1000 64 _ (MH o 64 ho.r),L6 1000 64 _ (MH x 64 hx.r),rfl⟩,AaH ho.w hx.w ho.p hx.p⟩
theorem XL(ho:Hz o)(hx:Hz x)(hy:Hz y):G.Spec Tryz.prog 23 [eX (JB most o x),eX (JB most o y)] (if (rb 1000 (JB most o x) (JB most o y)).2=true then .tup [eX E0,eX E0,iv 13]else .tup [eX (Hn (rb 1000 (JB most o x) (JB most o y)).1.1),eX (Hn (rb 1000 (JB most o x) (JB most o y)).1.2),iv 0]):=by
 have d1:=bZ (most:=most) ho hx;have d2:=bZ (most:=most) ho hy;have P1:=Kn _ (Ux (most:=most) ho.w hx.w ho.p hx.p).1;have P2:=Kn _ (Ux (most:=most) ho.w hy.w ho.p hy.p).1;rw[(Ux (most:=most) ho.w hx.w ho.p hx.p).2]at P1;rw[(Ux (most:=most) ho.w hy.w ho.p hy.p).2]at P2;have B:=AcE 1000 _ _ _ _ _ d1 d2 1 false;have K:=(Aaj 1000 _ _ _ _ _ d1 d2 []).2;have N1:(rb 1000 (JB most o x) (JB most o y)).2=false->Mg (rb 1000 (JB most o x) (JB most o y)).1.1/\Mg (rb 1000 (JB most o x) (JB most o y)).1.2:=fun h=>by
  obtain⟨⟨⟨k1,k2,_,_,k3,k4⟩,_⟩,⟨k5,k6,_,_,k7,k8⟩,_⟩:=K h;exact⟨jo _ _ _ _ k1 k2 k3 k4,jo _ _ _ _ k5 k6 k7 k8⟩
 clear K;generalize JB most o x=P at *;generalize JB most o y=Q at *;generalize rb 1000 P Q=R at *;obtain⟨⟨X,Y⟩,c⟩:=R;rw[Bool.false_or]at B;refine Ak W7 iS fun w0 I0=>?_;unfold Oe;simp[Aa];refine Ag P1 iS ?_;simp[Aa];refine Ag P2 iS ?_;simp[Aa];refine Ap 4 B (fun r=>?_) iS (by simp[List.isPrefixOf]) ?_
 ·by_cases hr:r=[]
  ·subst hr;simp
  ·simp[hr,Gz,Ne.symm hr]
 simp[Aa,List.isPrefixOf];cases c with
 |true=>
  simp[Aa];exact EZ ⟨CF (FR _),CF (FR _),Ae rfl,trivial⟩
 |false=>
  obtain⟨n1,n2⟩:=N1 rfl;have Q1:=Kn _ n1;have Q2:=Kn _ n2;simp[Aa];refine Ag Q1 iS ?_;simp[Aa];refine Ag Q2 iS ?_;simp[Aa];exact EZ ⟨Ae iS,Ae iS,Ae rfl,trivial⟩
theorem Aa0{e:E}{t:T}(hx:Hz x)(h:ie 1000 e (Af x) t):G.Spec Tryz.prog 25 [eX (Hn e),tX x] (.tup [tX t,bv true]):=by
 obtain⟨⟨h1,h2,h3,h4,h5,h6⟩,h7⟩:=h;have n:=jo _ _ _ _ h1 h2 h5 h6;have L:=Agb 1000 (Hn e) x t (L6 1000 64 x hx.r) (kO 1000 e (Af x) t (Wg 1000 (Af x) (Og hx.p)) h1);obtain⟨u,u1,u2⟩:=fF 1000 (Hn e) x t (uu e h2 n) hx.w h4 (cN 1000 x hx.p) (PE 1000 t h6) L;have:=I9 u1
 rwa [u2,h7]at this
end
theorem S8{o x y:T}(ho:AE o)(hx:AE x)(hy:AE y){most:Int}(hm:BD most):G.Spec Tryz.prog 8 [tX o,tX x,tX y,iv most] (bv true):=by
 have T3:=kc ho hx hy;refine Ak Lm iS fun w0 I0=>?_;unfold GC;simp;refine Ag T3 iS ?_;cases hg:Ie o&&Ie x&&Ie y with
 |false=>
  simp;refine Ag ME iS ?_;simp;exact Ae rfl
 |true=>
  simp only[Bool.and_eq_true]at hg;have g1:=iP ho hg.1.1;have g2:=iP hx hg.1.2;have g3:=iP hy hg.2;have A1:=oE (most:=most) g1 g2 g3 hm;have D1:=K8 (most:=most) ho hx g1.p g2.p hm;have D2:=K8 (most:=most) ho hy g1.p g3.p hm;have RE:=XL (most:=most) g1 g2 g3;obtain⟨_,_,w3,w4,w5⟩:=AbN (most:=most) g1 g2 g3;have K:(((rb 1000 (JB most o x) (JB most o y)).2=true)↔(Jt most o x y).2≠[])/\((rb 1000 (JB most o x) (JB most o y)).2=false->ie 1000 (rb 1000 (JB most o x) (JB most o y)).1.1 (Af y) (Jt most o x y).1/\ie 1000 (rb 1000 (JB most o x) (JB most o y)).1.2 (Af x) (Jt most o x y).1):=Aaj 1000 _ _ _ _ _ (bZ (most:=most) g1 g2) (bZ (most:=most) g1 g3) [];have S:=TD (Jt most o x y).1 w4 (Jt most o x y).1;rw[show GM (Jt most o x y).1 (Jt most o x y).1=true from sameB_iff.2 rfl]at S;generalize Jt most o x y=M at *;generalize rb 1000 (JB most o x) (JB most o y)=R at *;generalize JB most o x=P at *;generalize JB most o y=Q at *;obtain⟨⟨X,Y⟩,c⟩:=R;obtain⟨t,L⟩:=M;cases c with
  |true=>
   have hne:L≠[]:=K.1.1 rfl;have hpos:0<L.length:=List.length_pos_iff.2 hne;simp only[if_true]at RE;simp;refine Ag A1 iS ?_;simp[Aa];refine Ag D1 iS ?_;simp[Aa];refine Ag D2 iS ?_;simp[Aa];refine Ag RE iS ?_;simp[Aa,hpos];refine CD rfl (fun _=>ME) (fun _=>iS) iS ?_;simp;exact Ae rfl
  |false=>
   have hL:L=[]:=by
    apply Classical.byContradiction;intro h;have:=K.1.2 h;cases this
   subst hL;obtain⟨k1,k2⟩:=K.2 rfl;have AP1:=Aa0 g2 k2;have AP2:=Aa0 g3 k1;simp only[Bool.false_eq_true,if_false]at RE;simp only at AP1 AP2 A1 S;simp;refine Ag A1 iS ?_;simp[Aa];refine Ag D1 iS ?_;simp[Aa];refine Ag D2 iS ?_;simp[Aa];refine Ag RE iS ?_;simp[Aa];refine Ag AP1 iS ?_;simp[Aa];refine Ag AP2 iS ?_;simp[Aa];refine CD rfl (fun _=>S) (fun _=>iS) iS ?_;simp[Aa];refine CD rfl (fun _=>S) (fun _=>iS) iS ?_;simp[Aa];refine CD rfl (fun _=>ME) (fun _=>iS) iS ?_;simp;exact Ae rfl
end Go.Proofs.YtlaapfplenlfaaaGreat
namespace Go.Proofs.YtlaapfplenlfaaaGreat
open Go Go.G Go.Proofs Go.PL Go.RowKit
theorem zy{m:Int}(h:(Lit.int .i64 m).wf=true):BD m:=by
 simp[Lit.wf,IntKind.min,IntKind.max,IntKind.bits,IntKind.signed]at h;unfold BD;omega
theorem zK{m:Int}(h:(Lit.int .u64 m).wf=true):Bs m:=by
 simp[Lit.wf,IntKind.min,IntKind.max,IntKind.bits,IntKind.signed]at h;unfold Bs;omega
theorem cH:Tryz.prog.underlying 3=some (.int .i64):=by kernel_rfl
theorem cF:Tryz.prog.underlying 61=some (.int .u64):=by kernel_rfl
theorem Ah5{n:Nat}{b:List A}(h:Has Tryz.prog n 3 b):∃m,BD m/\b=[iv m]:=by
 cases n with
 |zero=>exact h.elim
 |succ n=>
  unfold Has at h;rw[cH]at h;obtain⟨m,hm,rfl⟩:=h;exact⟨m,zy hm,rfl⟩
theorem Ala{n:Nat}{b:List A}(h:Has Tryz.prog n 61 b):∃m,Bs m/\b=[uv m]:=by
 cases n with
 |zero=>exact h.elim
 |succ n=>
  unfold Has at h;rw[cF]at h;obtain⟨m,hm,rfl⟩:=h;exact⟨m,zK hm,rfl⟩
theorem Afo{α:Type}{xs:List A}{g:α->A}{R:α->Prop}(h:∀x,x∈xs->∃y,R y/\x.soft=g y):∃l:List α,A.softL xs=l.map g/\l.length=xs.length/\∀y,y∈l->R y:=by
 induction xs with
 |nil=>exact⟨[],rfl,rfl,fun y h=>nomatch h⟩
 |cons x xs ih=>
  obtain⟨y,hy,e⟩:=h x iS;obtain⟨l,e2,e3,hl⟩:=ih fun z hz=>h z (by simp[hz]);refine⟨y::l,by simp[A.softL,e,e2],by simp[e3],fun z hz=>?_⟩;rcases List.mem_cons.1 hz with rfl|hz
  ·exact hy
  ·exact hl z hz
theorem AaK{P:Program}{t e:TypeId}{m:Nat}(u:P.underlying t=some (.slice e))(hb:P.bytesOf e=m){n:Nat}{b:List A}(h:Has P n t b){α:Type}{g:α->A}{R:α->Prop}(hx:∀k b,k<n->Has P k e b->∃y,R y/\(mk P e b).soft=g y) :
  ∃(f:Bool)(xs:List A)(l:List α),b=[.sl f xs]/\A.softL xs=l.map g/\l.length*m<=140737488355328/\∀y,y∈l->R y:=by
 cases n with
 |zero=>exact h.elim
 |succ n=>
  unfold Has at h;rw[u]at h;obtain⟨f,xs,rfl,_,hz,hf,hx'⟩:=h;rw[hb]at hz;obtain⟨l,e1,e2,hl⟩:=Afo (g:=g) (R:=R) (xs:=xs) fun x hxx=>by
   obtain⟨b,hb',rfl⟩:=hx' x hxx;exact hx n b oF hb'
  exact⟨f,xs,l,rfl,e1,by rw[e2];exact Nat.le_trans hz dO,hl⟩
theorem Acv(b:List A):mk Tryz.prog 3 b=b.headD .any:=by unfold mk;rw[cH]
theorem AcQ(b:List A):mk Tryz.prog 61 b=b.headD .any:=by unfold mk;rw[cF]
theorem Ag0{n:Nat}{b:List A}(h:Has Tryz.prog n 22 b):∃(f:Bool)(xs:List A)(l:List Int),b=[.sl f xs]/\A.softL xs=l.map uv/\l.length*8<=140737488355328/\∀y,y∈l->Bs y:=
 AaK (e:=61) (by kernel_rfl) (by kernel_rfl) h fun k b _ hb=>by
  obtain⟨m,h1,rfl⟩:=Ala hb;exact⟨m,h1,by rw[AcQ];rfl⟩
theorem dQ:Tryz.prog.underlying 25=some (.struct (Tryz.prog.fieldsOf 25)):=by kernel_rfl
theorem vB:(Tryz.prog.fieldsOf 25).toList.map Field.type=[3,22,23]:=by kernel_rfl
theorem UO(b:List A):mk Tryz.prog 25 b=.agg b:=by unfold mk;rw[dQ]
theorem aA:∀(n:Nat)(b:List A),Has Tryz.prog n 25 b->∃t,AE t/\A.softL b=[iv t.kind,Fu t.words,B7 t.kids]:=by
 intro n;induction n using Nat.strongRecOn with
 |ind n ih=>
  intro b h;cases n with
  |zero=>exact h.elim
  |succ n=>
   unfold Has at h;rw[dQ]at h;simp only at h;rw[WJ,vB]at h;obtain⟨_,_,rfl,h1,_,_,rfl,h2,_,_,rfl,h3,rfl⟩:=h;obtain⟨k,hk,rfl⟩:=Ah5 h1;obtain⟨f,xs,w,rfl,e2,l2,r2⟩:=Ag0 h2;obtain⟨f3,ys,l,rfl,e3,l3,r3⟩:=AaK (m:=56) (e:=25) (g:=tA) (R:=AE) (by kernel_rfl) (by kernel_rfl) h3 fun j b hj hb=>by
    obtain⟨t,ht,e⟩:=ih j oF b hb;exact⟨t,ht,by rw[UO];simp only[A.soft,e];rw[tA_eq]⟩
   refine⟨.mk k w l,wfT_iff.2 ⟨hk,r2,l2,l3,r3⟩,?_⟩;simp only[List.cons_append,List.nil_append,List.append_nil,A.softL,A.soft,e2,e3];rfl
end Go.Proofs.YtlaapfplenlfaaaGreat
namespace Go.Proofs.YtlaapfplenlfaaaGreat
open Go Go.G Go.Proofs Go.PL Go.RowKit
set_option maxRecDepth 100000 in
theorem said_mergeSquare(xs:List A)(h:ArgsHas Tryz.prog Tryz.f8.params.toList xs):G.Spec Tryz.prog 8 xs (.v (.bool true)):=by
 have h:ArgsHas Tryz.prog [25,25,25,3] xs:=h
 match xs,h with
 |[a,a2,a4,a3],⟨⟨n,b,h1,h2⟩,⟨n2,b2,h12,h22⟩,⟨n4,b4,h14,h24⟩,⟨n3,b3,h13,h23⟩,_⟩=>
  obtain⟨t,ht,et⟩:=aA _ _ h1;obtain⟨t2,ht2,et2⟩:=aA _ _ h12;obtain⟨t4,ht4,et4⟩:=aA _ _ h14;obtain⟨m,hm,rfl⟩:=Ah5 h13;rw[h2,UO,h22,UO,h24,UO,h23,Acv];exact(S8 ht ht2 ht4 hm).soft (by simp only[A.softL,A.soft,et,et2,et4];rfl)
end Go.Proofs.YtlaapfplenlfaaaGreat
namespace Go.G
open Go.RowKit Go.ChangeShapes Go.WideShapes
section
variable {H:Type} {enc:TypeId × Value->H} {P:Program}
def Oa(P:Program)(ts:List TypeId):Bool:=ts.all fun t=>P.readableRec t&&decide (t<P.types.size)
theorem PK(hl:laidOutB P=true){W W':World}(hb:Below W.heap.size W W')(sp:Nat->Bool):∀{ts:List TypeId} {vs:List Value} {ds:List (DataW H)} {ps:List MemPlace},Oa P ts=true ->
  DataW.TrodAll enc P W 0 (fun _=>true) true ts vs ds ps->(∀x∈ps,x.block<W.heap.size)->(∀x∈ps,sp x.block=true)->DataW.TrodAll enc P W' 0 sp true ts vs ds ps
 |[],_,_,_,_,h,_,_=>by
  obtain⟨rfl,rfl,rfl⟩:=trodAll_nil h;exact trodAll_mk0
 |t::ts,_,_,_,hr,h,hlt,hsp=>by
  obtain⟨v,vs,d,ds,p,q,rfl,rfl,rfl,h1,h2⟩:=trodAll_cons h;simp only[Oa,List.all_cons,Bool.and_eq_true,decide_eq_true_eq]at hr;exact⟨p,q,WideElems.Trod_stays hl hr.1.1 hr.1.2 h1 (fun x hx=>hb.same (hlt x (by simp[hx]))) (fun x hx=>hsp x (by simp[hx])),
   PK hl hb sp (by simpa[Oa]using hr.2) h2 (fun x hx=>hlt x (by simp[hx])) (fun x hx=>hsp x (by simp[hx])),rfl⟩
theorem NM{w:World}{base:Nat}{spare:Nat->Bool}{held:Bool}:∀{ts:List TypeId} {vs:List Value} {ds:List (DataW H)} {ps:List MemPlace},DataW.TrodAll enc P w base spare held ts vs ds ps->ds.length=ts.length/\vs.length=ts.length
 |[],_,_,_,h=>by
  obtain⟨rfl,rfl,rfl⟩:=trodAll_nil h;exact⟨rfl,rfl⟩
 |t::ts,_,_,_,h=>by
  obtain⟨v,vs,d,ds,p,q,rfl,rfl,rfl,h1,h2⟩:=trodAll_cons h;have:=NM h2;simp[this]
theorem vd{f:Func}{s:ChangeSpec}{apart fresh handsOn again:Bool}{W W':World}{args:Array Value}{ds gs:List (DataW H)}{before:List MemPlace}{t:TypeId}
  (hl:laidOutB P=true) (hp:Oa P f.params.toList=true) (hsv:s.vars=[]) (hW:DataW.Whole enc P f.params.toList s.vars apart W args.toList ds gs before) (hB:Below W.heap.size W W')
  (hrt:f.resultTypes=#[t]) (ht:P.underlying t=some .bool) (hfn:∀ds':List (DataW H),ds'.length=f.params.size->s.fn H ds'={ results:=[.lit (.bool true)],args:=ds' }) :
  s.post enc P f apart fresh handsOn again W args (.bool true) W':=by
 have hlt:=hW.lt;have hW':=hW;obtain⟨p,q,hA,hV,rfl,hz,hn⟩:=hW';rw[hsv]at hV;obtain⟨rfl,rfl⟩:=trodVars_none hV;have hfn:=hfn ds (by have:=(NM hA).1;simpa using this);simp only[List.append_nil]at hlt hz hn;have hA':=fun sp=>PK hl hB sp hp hA hlt;have hr:∀(b:Nat)(sp:Nat->Bool)(hd:Bool),DataW.TrodAll enc P W' b sp hd f.resultTypes.toList ((Value.bool true).resultList f.resultTypes.size) [.lit (.bool true)] []:=fun b sp hd=>by
  rw[hrt];exact trodAll_cons_mk (shut_bool ht _) trodAll_mk0
 refine⟨ds,[],p++[],[],p,[],hW,?_,?_,?_,Below.frame hB _,fun _=>?_⟩
 ·simp only[List.append_nil,hfn];exact hr _ _ _
 ·simp only[List.append_nil,hfn];exact hA' _ (fun x hx=>by simpa using hlt x hx)
 ·simp only[List.append_nil,hfn,hsv];exact rfl
 ·refine⟨ok_one hrt rfl (okWide_bool_mk ht _),_,[],([]++p)++[],⟨[]++p,[],trodAll_append (hA' (fun _=>true) (fun _ _=>rfl)) (hr _ _ _),by rw[hsv];rfl,rfl,?_,?_⟩,?_⟩
  ·intro b off hx;have hx:MemPlace.cell b off∈p:=by simpa using hx
   rw[Below.frozen hB (hlt _ hx)];exact hz b off hx
  ·intro ha;have:=hn ha;simpa using this
  ·intro x hx _;simpa using hx
theorem law_calls{f:Func}{fid:FuncId}{s:ChangeSpec}{apart fresh handsOn again:Bool}{W:World}{base:Nat}{args:Array Value}{ds gs:List (DataW H)}{before:List MemPlace}{t:TypeId}(S:List TypeId)
  (hl:laidOutB P=true) (hp:Oa P f.params.toList=true) (hS:OA P S=true) (hts:f.params.toList.all S.contains=true) (hsv:s.vars=[]) (hrt:f.resultTypes=#[t]) (ht:P.underlying t=some .bool)
  (hfn:∀ds':List (DataW H),ds'.length=f.params.size->s.fn H ds'={ results:=[.lit (.bool true)],args:=ds' })
  (hspec:∀as',ArgsHas P f.params.toList as'->Spec P fid as' (.v (.bool true))) (htb:Tabs P W (Old W))
  (hval:∀(j:Nat) t v,f.params[j]? = some t->args[j]? = some v->Value.okWide P W .any base t v) (hW:DataW.Whole enc P f.params.toList s.vars apart W args.toList ds gs before)
  (hwt:(DataW.weightsEach P (f.params.toList++s.plain.varTypes P) (ds++gs)).all (·<=reachBytes)=true) :
  Calls P fid args W fun e W'=>∃v,e=.returned v/\s.post enc P f apart fresh handsOn again W args v W':=by
 have hW':=hW;obtain⟨p,q,hA,hV,rfl,hz,hn⟩:=hW;have hV':=hV;rw[hsv]at hV';obtain⟨rfl,_⟩:=trodVars_none hV';have hwt':∀m,m∈DataW.weightsEach P f.params.toList ds->m<=reachBytes:=by
  have e:s.plain.varTypes P=[]:=by simp[ChangeSpec.plain,DataSpec.varTypes,hsv]
  rw[e,List.append_nil,List.append_nil,List.all_eq_true]at hwt;exact fun m hm=>by simpa using hwt m hm
 obtain⟨as',h1,h2,h3⟩:=RJ hS (fun t ht=>by rw[List.all_eq_true]at hts;simpa using hts t ht) hwt' hA (fun j u v hj hv=>hval j u v (by simpa using hj) (by simpa using hv));refine((hspec as' h2).2 W (Old W) args (fun _ h=>h) htb (by simpa using h1.symm) (fun k y hk=>?_)).mono fun e W' ⟨v,he,hB,hr⟩=>?_
 ·have:=h3 k y hk;simpa[List.getD,Array.getD_eq_getD_getElem?]using this
 ·cases hr;exact⟨_,he,vd hl hp hsv hW' hB hrt ht hfn⟩
end
end Go.G
