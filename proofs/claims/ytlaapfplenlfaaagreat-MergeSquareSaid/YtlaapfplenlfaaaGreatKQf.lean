/-
 Texts,merged,without what is not reached.
-/
import Derived.Test.YtlaapfplenlfaaaGreatKQe
set_option linter.unusedSimpArgs false
set_option linter.unusedVariables false
open Go.IntKind (i64 u64)
namespace Go.Proofs.YtlaapfplenlfaaaGreat
open Go Go.G Go.Proofs Go.PL
theorem ou{f:Nat}{e:E}{x y:T}{l:Int}(h:Ld f e x y)(hi:Hb l e=true):Af x=Af y:=by
 have base:mH e x y->Af x=Af y:=fun h=>by
  rcases h with h|⟨o,n,rfl,_⟩
  ·exact h.2
  ·unfold Hb at hi;simp at hi
 cases f with
 |zero=>exact base h
 |succ f=>
  rcases h with h|⟨ws,ks,rfl,h1,h2,h3,h4⟩|⟨os,rfl,_⟩
  ·exact base h
  ·unfold Hb at hi;simp at hi;obtain⟨⟨_,rfl⟩,rfl⟩:=hi;cases h3 with
   |nil _ g3=>
    cases h4 with
    |nil _ g4=>
     obtain⟨k,w,c⟩:=x;obtain⟨k',w',c'⟩:=y;simp only[T.kind_mk]at h1 h2;subst h1;subst h2;exact struct_eq.2 ⟨fun i=>g3 i oF,fun i=>g4 i oF⟩
  ·unfold Hb at hi;simp at hi
section
variable {R:E->T->T->Prop}
theorem NT{out:List OP}{a b a2 b2 g d:List T}(h:LdO R out a b)(hg:g.map Af=a2.map Af)(hd:d.map Af=b2.map Af):LdO R (Ji out g d) (a++a2) (b++b2):=by
 unfold Ji;have:=Ex h (Ex (RM (R:=R) hg) (R9 hd));simpa using this
theorem Z5{out:List OP}{a b l m:List T}(h:LdO R out a b)(hne:l≠[])(hl:l.map Af=m.map Af)(hb:a.length+l.length<=1000000000):LdO R (Ni out (l.length:Nat)) (a++l) (b++m):=by
 rcases List.eq_nil_or_concat out with rfl|⟨D,x,rfl⟩
 ·cases h;have:=LdO.keep (R:=R) l m hne hl .nil;rw[SV iS];simpa using this
 ·rw[List.concat_eq_append]at h ⊢;have app:(∀m l e,x≠.mk 0 m l e)->LdO R (Ni (D++[x]) (l.length:Nat)) (a++l) (b++m):=fun hx=>by
   rw[SV (by simpa using hx)];have:=Ex h (LdO.keep (R:=R) l m hne hl .nil);simpa using this
  obtain⟨a1,a2,b1,b2,rfl,rfl,h1,h2⟩:=LK h;cases h2 with
  |keep l1 m1 hne1 hl1 g=>
   cases g;have e:Ni (D++[OP.mk 0 ((l1.length:Nat):Int) [] E0]) (l.length:Nat)=D++[.mk 0 (((l1++l).length:Nat):Int) [] E0]:=by
    unfold Ni;rw[List.getLast?_concat];simp only[List.dropLast_concat];have:i64.wrap (((l1.length:Nat):Int)+(l.length:Nat))=(((l1++l).length:Nat):Int):=by
     simp only[List.length_append]at hb ⊢;rw[Bq oF oF];omega
    rw[this]
   rw[e];have:=Ex h1 (LdO.keep (R:=R) (l1++l) (m1++m) (by simp[hne1]) (by simp[hl1,hl]) .nil);simpa using this
  |del l1 m1 hne1 hl1 g=>exact app iS
  |ins l1 m1 hne1 hl1 g=>exact app iS
  |desc e x y r g=>exact app iS
end
theorem AhY{f:Nat}{list:Int}{P:T->Prop}(hR:∀e x y,P x->Ld f e x y->Ld f (Hn e) x y){os:List OP}{a3 b3:List T}(h:LdO (Ld f) os a3 b3):(∀t,t∈a3->P t)->∀(out:List OP)(g d a1 b1 a2 b2:List T),LdO (Ld f) out a1 b1->g.map Af=a2.map Af->d.map Af=b2.map Af->a1.length+a2.length+a3.length<=1000000000->LdO (Ld f) (Dw list (os.map IY) out g d) (a1++(a2++a3)) (b1++(b2++b3)):=by
 induction h with
 |nil=>
  intro hP out g d a1 b1 a2 b2 h1 hg hd hb;rw[List.map_nil,Dw];simpa using NT h1 hg hd
 |keep l m hne hl _ ih=>
  intro hP out g d a1 b1 a2 b2 h1 hg hd hb;rw[List.length_append]at hb;rw[List.map_cons,Dw,if_pos (show(IY (.mk 0 ((l.length:Nat):Int) [] E0)).kind=0 from rfl)];have:=ih (fun t ht=>hP t (List.mem_append_right _ ht)) (Ni (Ji out g d) ((l.length:Nat):Int)) [] [] _ _ [] [] (Z5 (NT h1 hg hd) hne hl (by rw[List.length_append];omega)) rfl rfl (by simp only[List.length_append,List.length_nil];omega);simp at this ⊢;exact this
 |del l m hne hl _ ih=>
  intro hP out g d a1 b1 a2 b2 h1 hg hd hb;rw[List.length_append]at hb;rw[List.map_cons,Dw,if_neg (show ¬(IY (.mk 1 0 l E0)).kind=0 by show ¬(1:Int)=0;decide),if_pos (show(IY (.mk 1 0 l E0)).kind=1 from rfl)];have:=ih (fun t ht=>hP t (List.mem_append_right _ ht)) out (g++l.map Af) d a1 b1 (a2++m) b2 h1 (by rw[List.map_append,List.map_append,Ch,hg,hl]) hd (by rw[List.length_append];omega);simp at this ⊢;exact this
 |ins l m hne hl _ ih=>
  intro hP out g d a1 b1 a2 b2 h1 hg hd hb;rw[List.map_cons,Dw,if_neg (show ¬(IY (.mk 2 0 l E0)).kind=0 by show ¬(2:Int)=0;decide),if_neg (show ¬(IY (.mk 2 0 l E0)).kind=1 by show ¬(2:Int)=1;decide),if_pos (show(IY (.mk 2 0 l E0)).kind=2 from rfl)];have:=ih hP out g (d++l.map Af) a1 b1 a2 (b2++m) h1 hg (by rw[List.map_append,List.map_append,Ch,hd,hl]) oF;simp at this ⊢;exact this
 |desc e x y r _ ih=>
  intro hP out g d a1 b1 a2 b2 h1 hg hd hb;rw[List.length_cons]at hb;rw[List.map_cons,Dw,if_neg (show ¬(IY (.mk 3 0 [] e)).kind=0 by show ¬(3:Int)=0;decide),if_neg (show ¬(IY (.mk 3 0 [] e)).kind=1 by show ¬(3:Int)=1;decide),if_neg (show ¬(IY (.mk 3 0 [] e)).kind=2 by show ¬(3:Int)=2;decide)];have r':=hR e x y (hP x iS) r;split
  ·rename_i hi;have hn:=ou r' (show Hb list (Hn e)=true from hi);have:=ih (fun t ht=>hP t (List.mem_cons_of_mem _ ht)) (Ni (Ji out g d) (([x]:List T).length:Nat)) [] [] _ _ [] [] (Z5 (l:=[x]) (m:=[y]) (NT h1 hg hd) iS (by simp[hn]) (by rw[List.length_append];simp;omega)) rfl rfl (by simp only[List.length_append,List.length_nil,List.length_cons];omega);simp at this ⊢;exact this
  ·have:=ih (fun t ht=>hP t (List.mem_cons_of_mem _ ht)) (Ji out g d++[.mk 3 0 [] (Hn e)]) [] [] _ _ [] [] (Ex (NT h1 hg hd) (.desc (Hn e) x y r' .nil)) rfl rfl (by simp only[List.length_append,List.length_nil,List.length_cons];omega);simp at this ⊢;exact this
def ah:Nat->T->Prop
 |0,_=>True
 |f+1,t=>t.kids.length<=1000000/\∀k,k∈t.kids->ah f k
theorem yM:∀f,ah f T0
 |0=>trivial
 |f+1=>⟨iS,fun k hk=>by simp at hk⟩
theorem zM{f:Nat}{t:T}(h:ah (f+1) t)(i:Nat):ah f (t.kids.getD i T0):=by
 rw[List.getD_eq_getElem?_getD];cases e:t.kids[i]? with
 |none=>exact yM f
 |some z=>exact h.2 z (List.mem_of_getElem? e)
theorem Wg:∀(f:Nat)(t:T),Bk t<=1000->ah f t
 |0,t,_=>trivial
 |f+1,t,h=>by
  obtain⟨k,w,l⟩:=t;rw[Ey]at h;have hl:=G0 l;exact⟨by show l.length<=1000000;omega,fun x hx=>Wg f x (by have:=Ms (show x∈l from hx);omega)⟩
theorem dC{f:Nat}{e:E}{a b:T}(h:Ld f e a b):(Hn e).kind=e.kind:=by
 have base:mH e a b->(Hn e).kind=e.kind:=fun h=>by
  rcases h with ⟨rfl,_⟩|⟨o,n,rfl,_⟩
  ·rw[Qx]
  ·rw[EA,if_pos rfl];rfl
 cases f with
 |zero=>exact base h
 |succ f=>
  rcases h with h|⟨ws,ks,rfl,_⟩|⟨os,rfl,_⟩
  ·exact base h
  ·rw[EA,if_neg dO,if_pos rfl];rfl
  ·rw[EA,if_neg dO,if_neg dO,if_pos rfl];rfl
theorem xN{R R':E->T->T->Prop}{a b:List T}(hR:∀e i,R e (a.getD i T0) (b.getD i T0)->R' (Hn e) (a.getD i T0) (b.getD i T0)/\(Hn e).kind=e.kind):∀{ks:List KE} {p:Nat},MA R a b p ks->MA R' a b p (ks.map Xf):=by
 intro ks p h;induction h with
 |nil p h=>exact .nil p h
 |cons p i e ks hp h hi he hr _ ih=>
  have:=hR e i hr;exact .cons p i (Hn e) _ hp h hi (by rw[this.2];exact he) this.1 ih
theorem kO:∀(f:Nat)(e:E)(a b:T),ah f a->Ld f e a b->Ld f (Hn e) a b:=by
 have base:∀{e a b},mH e a b->mH (Hn e) a b:=fun {e a b} h=>by
  rcases h with ⟨rfl,h⟩|⟨o,n,rfl,h1,h2⟩
  ·rw[Qx];exact .inl ⟨rfl,h⟩
  ·rw[EA,if_pos rfl];exact .inr ⟨Af o,Af n,rfl,by rw[B8];exact h1,by rw[B8];exact h2⟩
 intro f;induction f with
 |zero=>exact fun e a b _ h=>base h
 |succ f ih=>
  intro e a b hF h;rcases h with h|⟨ws,ks,rfl,h1,h2,h3,h4⟩|⟨os,rfl,h1,h2,hw,h3⟩
  ·exact .inl (base h)
  ·rw[EA,if_neg dO,if_pos rfl];exact .inr (.inl ⟨ws,ks.map Xf,rfl,h1,h2,h3,xN (fun e i r=>⟨ih e _ _ (zM hF i) r,dC r⟩) h4⟩)
  ·rw[EA,if_neg dO,if_neg dO,if_pos rfl];refine .inr (.inr ⟨_,rfl,h1,h2,hw,?_⟩);have:=AhY (list:=a.kind) (P:=ah f) (fun e x y hx r=>ih e x y hx r) h3 hF.2 [] [] [] [] [] [] [] .nil rfl rfl (by have:=hF.1;simp;omega);simpa using this
theorem AaO{a b:T}(ha:AE a)(hb:AE b)(pa:Bk a<=1000)(pb:Bk b<=1000){da db:Nat}(ra:C9 da a=true)(rb:C9 db b=true){most:Int}:Ld 1000 (JB most a b) (Af a) (Af b):=by
 have oa:=Ep a ha pa 1000 pa;have ob:=Ep b hb pb 1000 pb;refine kO 1000 _ _ _ ?_ (az most 1000 1000 _ _ oa ob (L6 1000 da _ (MH a da ra)) (L6 1000 db _ (MH b db rb)));have key:∀(f g:Nat)(t:T),SU g t->ah f t:=fun f=>by
  induction f with
  |zero=>exact fun g t _=>trivial
  |succ f ih=>exact fun g t h=>⟨by have:=(Au h).2.2.2;omega,fun k hk=>ih (g-1) k (BI h k hk)⟩
 exact key 1000 1000 _ oa
end Go.Proofs.YtlaapfplenlfaaaGreat
namespace Go.Proofs.YtlaapfplenlfaaaGreat
set_option maxRecDepth 20000
open Go Go.G Go.Proofs
def BW:CC:=sR [aN 2] [0] (sQ [mO 3 0,oO 4 (.binOp .eql 23 (xT 3) nS 23)] [0,4] (cD 4 (sR [aN 2] [2] (.ret)) (.skip)) [0] (sR [oO 5 (.buildSlice 23 0 #[]),mO 6 0,aP 7 5 6 23 23 [0],aO 2 7] [2] (.ret)))
theorem CM:BT Tryz.prog 124 8 [(.tmp 2)] BW:=AA Tryz.func124
def Al:CC:=sR [bB .lss 18 3 17 16 3] [1,2,15,16,17,18] (.seq (cD 18 (.skip) (.exit 0)) (.keep [1,2,15,16,17] (.seq (.block 1 (sR [mO 19 17,iO 20 23 15 17,lO 21 25 20,aL 8 25 [0],aO 7 19,sT 25 8 21] [1,2,7,8,15,16,17] (sR [mO 22 1,mO 23 7,iO 24 23 22 23,lO 25 25 24,aL 9 25 [1],sT 25 9 25] [1,2,8,9,15,16,17] (sR [mO 26 2,lO 27 25 8,lO 28 25 9,oO 29 (.call { callee:=(.value (xT 26)),args:=#[(xT 27),(xT 28)],argTypes:=#[25,25] }),oO 30 (.unOp .not 4 (xT 29))] [1,2,15,16,17,30] (cD 30 (sR [aB 6 false] [6] (.ret)) (.skip)))))) (.keep [1,2,15,16,17] (.reg [bQ .add 31 3 17 1 3,mO 17 31] [1,2,15,16,17]))))) 
def A4:CC:=sR [aB 6 false] [0,1,2] (sQ [mO 10 0,bN 11 10 23,mO 12 1,bN 13 12 23,bB .neq 14 3 11 13 3] [0,1,2,14] (cD 14 (sR [aB 6 false] [6] (.ret)) (.skip)) [0,1,2] (sQ [mO 15 0,bN 16 15 23,oO 17 (.move (nI 0))] [1,2,15,16,17] (.block 0 (.loop Al)) [] (sR [aB 6 true] [6] (.ret))))
theorem BJ:BT Tryz.prog 126 32 [(.tmp 6)] A4:=AA Tryz.func126
def I4:CC:=sR [bX 2 30 0 [0],bX 3 25 1 [1],aL 4 25 [2],aB 5 false] [2,3,4] (sQ [fO 6 30 2 0,lO 7 3 6] [2,3,4,7] (.block 0 (sR [bQ .eql 9 3 7 0 3,aO 8 9] [2,3,4,7,8] (cD 8 (sR [lO 10 25 3,sT 25 4 10,aB 5 true] [4,5] (.ret)) (sR [bQ .eql 12 3 7 1 3,aO 11 12] [2,3,4,7,11] (cD 11 (sR [fO 13 30 2 2,lS 14 25 13 1,fO 15 30 2 1,lO 16 25 15,lO 17 25 3,⟨some 18,(cL 57 #[(xT 16),(xT 17)] #[25,25]),none,[],5,[1],false⟩,sT 25 4 14,aO 5 18] [4,5] (.ret)) (sR [bQ .eql 20 3 7 2 3,aO 19 20] [2,3,4,7,19] (cD 19 (sR [lO 21 30 2,lO 22 25 3,cB 23 76 21 22 30 25,xO 24 23 0,xO 25 23 1,sT 25 4 24,aO 5 25] [4,5] (.ret)) (sR [bQ .eql 27 3 7 3 3,aO 26 27] [2,3,4,26] (cD 26 (sR [lO 28 30 2,lO 29 25 3,cB 30 77 28 29 30 25,xO 31 30 0,xO 32 30 1,sT 25 4 31,aO 5 32] [4,5] (.ret)) (.skip)))))))))) [4] (sR [oO 33 (.build 25 #[]),sT 25 4 33,aB 5 false] [4,5] (.ret)))
theorem KB:BT Tryz.prog 45 34 [(.cell 4 25),(.tmp 5)] I4:=AA Tryz.func45
def ER:CC:=sQ [fO 44 25 6 1,lO 45 22 44,bN 46 45 22,fO 47 85 8 0,lO 48 3 47,bB .leq 49 3 46 48 3] [2,3,4,6,8,9,26,27,28,49] (cD 49 (.skip) (.exit 2)) [2,3,4,6,8,9,26,27,28] (.block 3 (.reg [fO 50 25 6 1,lO 51 22 50,oO 52 (.buildSlice 22 1 #[(0,(.const (.int .u64 0)))]),aP 53 51 52 22 22 [5],fO 54 25 6 1,sT 22 54 53] [2,3,4,6,8,9,26,27,28]))
def E8:CC:=sR [bB .lss 29 3 28 27 3] [2,3,4,6,26,27,28,29] (.seq (cD 29 (.skip) (.exit 0)) (.keep [2,3,4,6,26,27,28] (.seq (.block 1 (sR [iO 30 26 26 28,lO 31 85 30,aL 8 85 [4],sT 85 8 31] [2,3,4,6,8,26,27,28] (sR [lO 32 25 3,fO 33 85 8 0,lO 34 3 33,cB 35 90 32 34 25 3,aO 9 35] [2,3,4,6,8,9,26,27,28] (sQ [mO 36 9,fO 37 85 8 1,lO 38 5 37,⟨some 39,(cL 125 #[(.const (.int .u64 0)),(xT 36),(xT 38)] #[61,61,5]),none,[],3,[],true⟩,fO 40 85 8 2,⟨some 41,(lD 61 40),none,[],5,[3],false⟩,bB .neq 42 61 39 41 61] [2,3,4,6,8,9,26,27,28,42] (cD 42 (sR [oO 43 (.build 25 #[]),sT 25 4 43,aB 5 false] [4,5] (.ret)) (.skip)) [2,3,4,6,8,9,26,27,28] (.seq (.block 2 (.loop ER)) (.keep [2,3,4,6,8,9,26,27,28] (.reg [fO 55 25 6 1,lS 56 22 55 1,fO 57 85 8 0,lS 58 3 57 3,mO 59 9,fO 60 85 8 3,lO 61 61 60,fO 62 85 8 1,lO 63 5 62,⟨some 64,(cL 125 #[(xT 59),(xT 61),(xT 63)] #[61,61,5]),none,[],9,[1,3],false⟩,iO 65 22 56 58,sT 61 65 64] [2,3,4,6,26,27,28]))))))) (.keep [2,3,4,6,26,27,28] (.reg [bQ .add 66 3 28 1 3,mO 28 66] [2,3,4,6,26,27,28])))))
def E7:CC:=sQ [fO 87 25 6 2,lO 88 23 87,bN 89 88 23,fO 90 88 11 0,lO 91 3 90,bB .leq 92 3 89 91 3] [3,4,6,11,12,68,69,70,92] (cD 92 (.skip) (.exit 6)) [3,4,6,11,12,68,69,70] (.block 7 (.reg [fO 93 25 6 2,lO 94 23 93,oO 95 (.build 25 #[]),oO 96 (.buildSlice 23 1 #[(0,(xT 95))]),aP 97 94 96 23 23 [8],fO 98 25 6 2,sT 23 98 97] [3,4,6,11,12,68,69,70]))
def EU:CC:=sR [bB .lss 71 3 70 69 3] [3,4,6,68,69,70,71] (.seq (cD 71 (.skip) (.exit 4)) (.keep [3,4,6,68,69,70] (.seq (.block 5 (sR [iO 72 27 68 70,lO 73 88 72,aL 11 88 [6],sT 88 11 73] [3,4,6,11,68,69,70] (sR [fO 75 88 11 1,lS 76 30 75 1,lS 77 25 3 2,fO 78 88 11 0,lS 79 3 78 4,⟨some 80,(cL 80 #[(xT 77),(xT 79)] #[25,3]),none,[],5,[1],true⟩,⟨some 81,(cL 45 #[(xT 76),(xT 80)] #[30,25]),none,[],6,[],true⟩,mO 74 81,xO 82 74 0,xO 83 74 1,⟨some 12,(.alloc 25),none,[7],10,[1,2,4,5,6],false⟩,sT 25 12 82,aO 13 83] [3,4,6,11,12,13,68,69,70] (sQ [mO 84 13,oO 85 (.unOp .not 4 (xT 84))] [3,4,6,11,12,68,69,70,85] (cD 85 (sR [oO 86 (.build 25 #[]),sT 25 4 86,aB 5 false] [4,5] (.ret)) (.skip)) [3,4,6,11,12,68,69,70] (.seq (.block 6 (.loop E7)) (.keep [3,4,6,11,12,68,69,70] (.reg [fO 99 25 6 2,lO 100 23 99,fO 101 88 11 0,lO 102 3 101,lO 103 25 12,iO 104 23 100 102,sT 25 104 103] [3,4,6,68,69,70]))))))) (.keep [3,4,6,68,69,70] (.reg [bQ .add 105 3 70 1 3,mO 70 105] [3,4,6,68,69,70]))))) 
def K7:CC:=sR [bX 2 30 0 [0],bX 3 25 1 [1],aL 4 25 [2],aB 5 false] [2,3,4] (sQ [fO 14 25 3 0,lO 15 3 14,bQ .neq 16 3 15 1 3] [2,3,4,16] (cD 16 (sR [oO 17 (.build 25 #[]),sT 25 4 17,aB 5 false] [4,5] (.ret)) (.skip)) [2,3,4] (sR [fO 18 25 3 1,lS 19 22 18 1,⟨some 20,(cL 59 #[(xT 19)] #[22]),none,[],2,[],true⟩,fO 21 25 3 2,⟨some 22,(lD 23 21),none,[],4,[2],true⟩,⟨some 23,(cL 124 #[(xT 22)] #[23]),none,[],5,[],true⟩,oO 24 (.build 25 #[(0,(nI 1)),(1,(xT 20)),(2,(xT 23))]),⟨some 6,(.alloc 25),none,[3],7,[1,2,4,5],false⟩,sT 25 6 24] [2,3,4,6] (sQ [fO 25 30 2 3,lO 26 26 25,bN 27 26 26,oO 28 (.move (nI 0))] [2,3,4,6,26,27,28] (.block 0 (.loop E8)) [2,3,4,6] (sQ [fO 67 30 2 4,lO 68 27 67,bN 69 68 27,oO 70 (.move (nI 0))] [3,4,6,68,69,70] (.block 4 (.loop EU)) [4,6] (sR [lO 106 25 6,sT 25 4 106,aB 5 true] [4,5] (.ret))))))
theorem R4:BT Tryz.prog 76 107 [(.cell 4 25),(.tmp 5)] K7:=AA Tryz.func76
def IK:CC:=sQ [mO 51 10,mO 52 7,bN 53 52 23,bB .gtr 54 3 51 53 3] [4,6,7,9,10,26,27,28,54] (cD 54 (sR [oO 55 (.build 25 #[]),sT 25 4 55,aB 5 false] [4,5] (.ret)) (.skip)) [4,6,7,9,10,26,27,28] (sR [aN 11] [4,6,7,9,10,26,27,28] (sR [mO 56 7,mO 57 10,oO 58 (.slice 23 (xT 56) none (some (xT 57)) none),mO 59 7,mO 60 10,oO 61 (.slice 23 (xT 59) (some (xT 60)) none none),aO 11 58,aO 7 61] [4,6,7,9,11,26,27,28] (.block 3 (sR [fO 81 91 9 0,lO 82 3 81,bQ .eql 83 3 82 0 3,aO 80 83] [4,6,7,9,11,26,27,28,80] (cD 80 (.reg [fO 84 25 6 2,lO 85 23 84,mO 86 11,aP 87 85 86 23 23 [6],fO 88 25 6 2,sT 23 88 87] [4,6,7,26,27,28]) (sR [fO 90 91 9 0,lO 91 3 90,bQ .eql 92 3 91 1 3,aO 89 92] [4,6,7,9,11,26,27,28,89] (cD 89 (sR [fO 93 91 9 2,lO 94 23 93,mO 95 11,oO 96 (cL 126 #[(xT 94),(xT 95),(.func 57)] #[23,23,38]),oO 97 (.unOp .not 4 (xT 96))] [4,6,7,26,27,28,97] (cD 97 (sR [oO 98 (.build 25 #[]),sT 25 4 98,aB 5 false] [4,5] (.ret)) (.skip))) (sR [fO 63 91 9 3,lS 64 30 63 1,mO 65 11,oO 66 (.indexAddr 23 (xT 65) (nI 0)),lS 67 25 66 4,⟨some 68,(cL 45 #[(xT 64),(xT 67)] #[30,25]),none,[],5,[],true⟩,mO 62 68,xO 69 62 0,xO 70 62 1,⟨some 12,(.alloc 25),none,[7],9,[1,4,5],false⟩,sT 25 12 69,aO 13 70] [4,6,7,12,13,26,27,28] (sQ [mO 71 13,oO 72 (.unOp .not 4 (xT 71))] [4,6,7,12,26,27,28,72] (cD 72 (sR [oO 73 (.build 25 #[]),sT 25 4 73,aB 5 false] [4,5] (.ret)) (.skip)) [4,6,7,12,26,27,28] (.reg [fO 74 25 6 2,lO 75 23 74,lO 76 25 12,oO 77 (.buildSlice 23 1 #[(0,(xT 76))]),aP 78 75 77 23 23 [8],fO 79 25 6 2,sT 23 79 78] [4,6,7,26,27,28]))))))))))
def IG:CC:=sR [bB .lss 29 3 28 27 3] [4,6,7,26,27,28,29] (.seq (cD 29 (.skip) (.exit 0)) (.keep [4,6,7,26,27,28] (.seq (.block 1 (sR [iO 30 28 26 28,lO 31 91 30,aL 9 91 [4],sT 91 9 31] [4,6,7,9,26,27,28] (sR [fO 32 91 9 1,lO 33 3 32,aO 10 33] [4,6,7,9,10,26,27,28] (sQ [fO 34 91 9 0,lO 35 3 34] [4,6,7,9,10,26,27,28,35] (.block 2 (sR [bQ .eql 37 3 35 2 3,aO 36 37] [4,6,7,9,10,26,27,28,35,36] (cD 36 (sR [fO 38 25 6 2,lO 39 23 38,fO 40 91 9 2,lO 41 23 40,aP 42 39 41 23 23 [5],fO 43 25 6 2,sT 23 43 42] [4,6,7,26,27,28] (.exit 1)) (sR [bQ .eql 45 3 35 1 3,aO 44 45] [4,6,7,9,10,26,27,28,35,44] (cD 44 (.reg [fO 46 91 9 2,lO 47 23 46,bN 48 47 23,aO 10 48] [4,6,7,9,10,26,27,28]) (sR [bQ .eql 50 3 35 3 3,aO 49 50] [4,6,7,9,10,26,27,28,49] (cD 49 (.reg [aI 10 1] [4,6,7,9,10,26,27,28]) (.skip)))))))) [4,6,7,9,10,26,27,28] IK)))) (.keep [4,6,7,26,27,28] (.reg [bQ .add 99 3 28 1 3,mO 28 99] [4,6,7,26,27,28]))))) 
def Rk:CC:=sR [bX 2 30 0 [0],bX 3 25 1 [1],aL 4 25 [2],aB 5 false] [2,3,4] (sQ [fO 14 25 3 0,lO 15 3 14,fO 16 30 2 5,lO 17 3 16,bB .neq 18 3 15 17 3] [2,3,4,18] (cD 18 (sR [oO 19 (.build 25 #[]),sT 25 4 19,aB 5 false] [4,5] (.ret)) (.skip)) [2,3,4] (sR [fO 20 25 3 0,lO 21 3 20,oO 22 (.build 25 #[(0,(xT 21))]),aL 6 25 [3],sT 25 6 22] [2,3,4,6] (sR [fO 23 25 3 2,lO 24 23 23,aO 7 24] [2,4,6,7] (sQ [fO 25 30 2 6,lO 26 28 25,bN 27 26 28,oO 28 (.move (nI 0))] [4,6,7,26,27,28] (.block 0 (.loop IG)) [4,6,7] (sR [lO 100 25 6,mO 101 7,bN 102 101 23,bQ .eql 103 3 102 0 3,sT 25 4 100,aO 5 103] [4,5] (.ret))))))
theorem ZY:BT Tryz.prog 77 104 [(.cell 4 25),(.tmp 5)] Rk:=AA Tryz.func77
def QW:CC:=sR [bX 2 30 0 [0],bX 3 25 1 [1],aL 4 25 [2],aB 5 false] [2,3,4] (sR [lO 9 30 2,lO 10 25 3,cB 11 45 9 10 30 25,mO 8 11,xO 12 8 0,xO 13 8 1,aL 6 25 [3],sT 25 6 12,aO 7 13] [4,6,7] (sQ [mO 14 7,oO 15 (.unOp .not 4 (xT 14))] [4,6,15] (cD 15 (sR [oO 16 (.build 25 #[]),sT 25 4 16,aB 5 false] [4,5] (.ret)) (.skip)) [4,6] (sR [lO 17 25 6,cA 18 35 17 25,sT 25 4 18,aB 5 true] [4,5] (.ret))))
theorem ZS:BT Tryz.prog 25 19 [(.cell 4 25),(.tmp 5)] QW:=AA Tryz.func25
end Go.Proofs.YtlaapfplenlfaaaGreat
namespace Go.Proofs.YtlaapfplenlfaaaGreat
open Go Go.G Go.Proofs Go.PL
theorem zJ{l:List Int}:∀x,x∈l.map uv->DV (fun _=>x):=fun x hx=>by
 obtain⟨n,_,rfl⟩:=List.mem_map.1 hx;exact Az
abbrev uvM(u:Nat)(l:List Int):Fam:=uR u 1 (l.map uv) zJ
variable {n0:Nat} {w0:World} {I0:Nat->Prop} {M0:Nm->Nat->Prop} {m0:Mu} {Q:Exit->Sta->Prop}
end Go.Proofs.YtlaapfplenlfaaaGreat
namespace Go.G
open Go
theorem O4{P:Program}{f:FuncId}{k:Nat}{fl:Bool}{r:A}{Hc Hr:Hp}(h1:∀cap,SpecH P f k [.v (.slice none 0 cap)] Hc r Hr)(h2:∀a cap,SpecH P f k [.v (.slice (some a) 0 cap)] Hc r Hr):SpecH P f k [.sl fl []] Hc r Hr:=by
 refine⟨(h1 0).1,fun w I M0 n μ vs hM hs hl hr=>?_⟩;have h:=hr 0 _ rfl;have go:∀x,vs.getD 0 undef=x->∀(k:Nat)(y:A),[A.v x][k]? = some y->Rel w I μ y (vs.getD k undef):=fun x hx k y hk=>by
  cases k with
  |zero=>cases hk;rw[hx];exact .v _ _
  |succ k=>simp at hk
 generalize hq:vs.getD 0 undef=x at h;cases h with
 |slN _ _ a cap _=>
  cases a with
  |none=>exact(h1 cap).2 w I M0 n μ vs hM hs hl (go _ hq)
  |some a=>exact(h2 a cap).2 w I M0 n μ vs hM hs hl (go _ hq)
 |sl _ _ b off n0 cap sz _ g k1 k2=>
  have:n0=0:=k2;subst this;exact(h2 _ cap).2 w I M0 n μ vs hM hs hl (go _ hq)
end Go.G
namespace Go.Proofs.YtlaapfplenlfaaaGreat
open Go Go.G Go.Proofs Go.PL
theorem Ug(l:List Int)(h:l.length*8<=140737488355328):SpecF Tryz.prog 59 (fun _=>[Fu l]) Fam.no (fun r=>.osl [r] 1 1 0 l.length) (uvM 1 l):=by
 cases l with
 |nil=>
  refine⟨Ab Bc Ah,Bo,O4 (fun cap=>?_) (fun a cap=>?_)⟩
  ·refine @SpecF.h _ _ (fun _=>[.v (.slice none 0 cap)]) Fam.no (fun r=>.osl [r] 1 1 0 0) (uvM 1 []) (Ao Bn iS (Ab Az Ah) Bo fun w0 I0 M0 m0=>?_);unfold A0;simp;refine Gp (F0 2 [0] 1 iS) (An (r0:=.osl [0] 1 1 0 0) (by simp[upd]) rfl fun p=>?_);by_cases hp:p=[]
   ·subst hp;simp[Aa]
   ·simp[Aa,hp]
  ·refine @SpecF.h _ _ (fun _=>[.v (.slice (some a) 0 cap)]) Fam.no (fun r=>.osl [r] 1 1 0 0) (uvM 1 []) (Ao Bn iS (Ab Az Ah) Bo fun w0 I0 M0 m0=>?_);unfold A0;simp;refine An rfl rfl fun p=>?_;by_cases hp:p=[]
   ·subst hp;simp[Aa]
   ·simp[Aa,hp,Ne.symm hp]
 |cons x l=>
  refine Ao Bn iS (Ab Bc Ah) Bo fun w0 I0 M0 m0=>?_;unfold A0;rw[List.length_cons]at h;simp[h,Fu];refine An rfl rfl fun p=>?_;by_cases hp:p=[]
  ·subst hp;simp[Aa]
  ·simp[Aa,hp,Ne.symm hp]
theorem dM(l:List T)(h:l.length*56<=140737488355328):SpecF Tryz.prog 124 (fun _=>[B7 l]) Fam.no (fun r=>.osl [r] 1 3 0 l.length) (trM 1 l):=by
 cases l with
 |nil=>
  refine⟨Ab Bc Ah,Bo,O4 (fun cap=>?_) (fun a cap=>?_)⟩
  ·refine @SpecF.h _ _ (fun _=>[.v (.slice none 0 cap)]) Fam.no (fun r=>.osl [r] 1 3 0 0) (trM 1 []) (Ao CM iS (Ab Az Ah) Bo fun w0 I0 M0 m0=>?_);unfold BW;simp;refine Gp (F0 2 [0] 3 iS) (An (r0:=.osl [0] 1 3 0 0) (by simp[upd]) rfl fun p=>?_);by_cases hp:p=[]
   ·subst hp;simp[Aa]
   ·simp[Aa,hp]
  ·refine @SpecF.h _ _ (fun _=>[.v (.slice (some a) 0 cap)]) Fam.no (fun r=>.osl [r] 1 3 0 0) (trM 1 []) (Ao CM iS (Ab Az Ah) Bo fun w0 I0 M0 m0=>?_);unfold BW;simp;refine An rfl rfl fun p=>?_;by_cases hp:p=[]
   ·subst hp;simp[Aa]
   ·simp[Aa,hp,Ne.symm hp]
 |cons x l=>
  refine Ao CM iS (Ab Bc Ah) Bo fun w0 I0 M0 m0=>?_;unfold BW;rw[List.length_cons]at h;simp[h,B7];refine An rfl rfl fun p=>?_;by_cases hp:p=[]
  ·subst hp;simp[Aa]
  ·simp[Aa,hp,Ne.symm hp]
variable {n0:Nat} {w0:World} {I0:Nat->Prop} {Q:Exit->Sta->Prop}
theorem AbA{l m:List T}(hl:∀t,t∈l->AE t)(hm:∀t,t∈m->AE t)(h:l.map Af=m.map Af)(hb:l.length<=10000000000000)(hq:∀st H,Q (.exit 0) ⟨lk ([(1,B7 m),(2,.fnc 57 [] [])]++st),H⟩):∀(j i:Nat)(H:Hp),i+j=l.length ->
  LoopC (cx Tryz.prog w0 I0 n0) Al Q ⟨lk [(1,B7 m),(2,.fnc 57 [] []),(15,B7 l),(16,iv l.length),(17,iv i)],H⟩:=by
 have hlen:l.length=m.length:=by simpa using congrArg List.length h
 intro j;induction j with
 |zero=>
  intro i H hj;have:i=l.length:=oF
  subst this;refine Ad Ai Al.eq_1 ?_;simp;have:=hq [(15,B7 l),(16,iv l.length),(17,iv l.length),(18,bv false)] H;simpa using this
 |succ j ih=>
  intro i H hj;have h1:i<l.length:=oF
  have h2:i<m.length:=oF
  have ew:=AR i;have he:J2 l[i] m[i]=true:=by
   rw[eqT_iff];have:(l.map Af)[i]? = (m.map Af)[i]?:=by rw[h]
   simpa[h1,h2]using this
  have E:=Jf (hl _ (De h1)) (hm _ (De h2));rw[he]at E;refine Ad Ai Al.eq_1 ?_;simp[h1,h2,Aa];refine GJ rfl E iS ?_;simp[ew];exact ih (i+1) _ oF
theorem sV{l m:List T}(hl:∀t,t∈l->AE t)(hm:∀t,t∈m->AE t)(h:l.map Af=m.map Af)(hb:l.length<=10000000000000):G.Spec Tryz.prog 126 [B7 l,B7 m,.fnc 57 [] []] (bv true):=by
 have hlen:l.length=m.length:=by simpa using congrArg List.length h
 refine Ak BJ iS fun w0 I0=>?_;unfold A4;simp[hlen];refine LoopC.le (Ar [(1,B7 m),(2,.fnc 57 [] []),(15,B7 l),(16,iv l.length),(17,iv (0:Nat))] (by simp[hlen])) ?_;refine AbA hl hm h hb (fun st H=>?_) l.length 0 _ oF;simp;exact Ae rfl
inductive qn(P:E->T->T->Prop):List OP->List T->List T->Prop
 |nil:qn P [] [] []
 |keep {os:List OP} {a u:List T} (l:List T) (g:qn P os a u):qn P (.mk 0 (l.length:Nat) [] E0::os) (l++a) (l++u)
 |del {os:List OP} {a u:List T} (l m:List T) (h:l.map Af=m.map Af) (g:qn P os a u):qn P (.mk 1 0 l E0::os) (m++a) u
 |ins {os:List OP} {a u:List T} (l:List T) (g:qn P os a u):qn P (.mk 2 0 l E0::os) a (l++u)
 |desc {os:List OP} {a u:List T} (e:E) (x y:T) (h:P e x y) (g:qn P os a u):qn P (.mk 3 0 [] e::os) (x::a) (y::u)
theorem AcZ{R P:E->T->T->Prop}{os:List OP}{a b:List T}(h:LdO R os a b):(∀o,o∈os->o.kind=3->∀x,x∈a->∀y,y∈b->R o.e x y->∃u,P o.e x u/\Af u=Af y)->∃u,qn P os a u/\u.map Af=b.map Af:=by
 induction h with
 |nil=>exact fun _=>⟨[],.nil,rfl⟩
 |keep l m hne hl _ ih=>
  intro hP;obtain⟨u,h1,h2⟩:=ih fun o ho hk x hx y hy=>hP o (List.mem_cons_of_mem _ ho) hk x (List.mem_append_right _ hx) y (List.mem_append_right _ hy);exact⟨l++u,.keep l h1,by rw[List.map_append,List.map_append,hl,h2]⟩
 |del l m hne hl _ ih=>
  intro hP;obtain⟨u,h1,h2⟩:=ih fun o ho hk x hx y hy=>hP o (List.mem_cons_of_mem _ ho) hk x (List.mem_append_right _ hx) y hy;exact⟨u,.del l m hl h1,h2⟩
 |ins l m hne hl _ ih=>
  intro hP;obtain⟨u,h1,h2⟩:=ih fun o ho hk x hx y hy=>hP o (List.mem_cons_of_mem _ ho) hk x hx y (List.mem_append_right _ hy);exact⟨l++u,.ins l h1,by rw[List.map_append,List.map_append,hl,h2]⟩
 |desc e x y r _ ih=>
  intro hP;obtain⟨u,h1,h2⟩:=ih fun o ho hk x hx y hy=>hP o (List.mem_cons_of_mem _ ho) hk x (List.mem_cons_of_mem _ hx) y (List.mem_cons_of_mem _ hy);obtain⟨v,k1,k2⟩:=hP (.mk 3 0 [] e) iS rfl x iS y iS r;exact⟨v::u,.desc e x v k1 h1,by rw[List.map_cons,List.map_cons,k2,h2]⟩
abbrev Vi(e:E)(x u:T):Prop:=AE u/\G.Spec Tryz.prog 45 [eX e,tX x] (.tup [tX u,bv true])
theorem Acn{os:List OP}{a u:List T}(h:qn Vi os a u):(∀t,t∈a->AE t)->(∀o,o∈os->∀t,t∈o.l->AE t)->∀t,t∈u->AE t:=by
 induction h with
 |nil=>intro _ _ t ht;simp at ht
 |keep l _ ih=>
  intro ha ho t ht;rcases List.mem_append.1 ht with ht|ht
  ·exact ha t (List.mem_append_left _ ht)
  ·exact ih (fun t ht=>ha t (List.mem_append_right _ ht)) (fun o h=>ho o (List.mem_cons_of_mem _ h)) t ht
 |del l m _ _ ih=>
  intro ha ho t ht;exact ih (fun t ht=>ha t (List.mem_append_right _ ht)) (fun o h=>ho o (List.mem_cons_of_mem _ h)) t ht
 |ins l _ ih=>
  intro ha ho t ht;rcases List.mem_append.1 ht with ht|ht
  ·exact ho (.mk 2 0 l E0) iS t ht
  ·exact ih ha (fun o h=>ho o (List.mem_cons_of_mem _ h)) t ht
 |desc e x y r _ ih=>
  intro ha ho t ht;rcases List.mem_cons.1 ht with rfl|ht
  ·exact r.1
  ·exact ih (fun t ht=>ha t (List.mem_cons_of_mem _ ht)) (fun o h=>ho o (List.mem_cons_of_mem _ h)) t ht
theorem Ahl{k0:Int}{os:List OP}{R:List T}(hR:R.length<=1000000)(hol:os.length<=1000000000000)(how:∀o,o∈os->∀t,t∈o.l->AE t)(hos:∀o,o∈os->o.l.length<=10000000000000)
  (hq:∀(H':Hp)(v:Nat)(st:List (Nat × A)),H' [2]=⟨1,.cells [iv 0,.sl true [],.sl true []]⟩->H' [3]=⟨1,.cells [iv k0,.sl true [],.osl [5] v 3 0 R.length]⟩->H' [5]=⟨v,.arr 3 (R.map tA)⟩->Q (.exit 0) ⟨lk ([(4,.pob [2] 1 0),(6,.pob [3] 1 0),(7,B7 [])]++st),H'⟩) :
  ∀(m k v:Nat)(a u X:List T)(H:Hp),k+m=os.length->qn Vi (os.drop k) a u->(∀t,t∈a->AE t)->a.length<=1000000->R=X++u->H [2]=⟨1,.cells [iv 0,.sl true [],.sl true []]⟩->H [3]=⟨1,.cells [iv k0,.sl true [],.osl [5] v 3 0 X.length]⟩->H [5]=⟨v,.arr 3 (X.map tA)⟩ ->
  LoopC (cx Tryz.prog w0 I0 n0) IG Q ⟨lk [(4,.pob [2] 1 0),(6,.pob [3] 1 0),(7,B7 a),(26,Jo os),(27,iv os.length),(28,iv k)],H⟩:=by
 intro m;induction m with
 |zero=>
  intro k v a u X H hm h ha hal hX h2 h3 h5;have:k=os.length:=oF
  subst this;rw[List.drop_length]at h;cases h;rw[List.append_nil]at hX;subst hX;refine Ad Ai IG.eq_1 ?_;simp;have:=hq H v [(26,Jo os),(27,iv os.length),(28,iv os.length),(29,bv false)] h2 h3 h5;simpa using this
 |succ m ih=>
  intro k v a u X H hm h ha hal hX h2 h3 h5;have hlt:k<os.length:=oF
  have ew:=AR k;have hd:os.drop k=os[k]::os.drop (k+1):=(List.getElem_cons_drop hlt).symm;have hol1:=hos _ (De hlt);have how1:=how _ (De hlt);rw[hd]at h;have next:=ih (k+1) (v+1)
  generalize hx:os[k]=o at *;refine Ad Ai IG.eq_1 ?_;have eX:List.take X.length (X.map tA)=X.map tA:=AO iS;cases h with
  |keep l g=>
   rename_i a u;have nx:=next a u (X++l)
   rw[List.length_append]at nx hal;have c1:(l.length:Int)<=(l.length:Int)+a.length:=oF
   have c2:¬((l.length:Int)+a.length<(l.length:Int)):=oF
   have hR2:R.length=X.length+(l.length+u.length):=by rw[hX];simp
   have ea:List.take a.length (a.map tA)=a.map tA:=AO iS;simp[hlt,hx,Aa,h3,h5];rw[IK.eq_1];simp[hlt,hx,Aa,h3,h5,ew,c1,c2,eX,ea];refine⟨oF,?_⟩;exact nx _ oF g (fun t ht=>ha t (List.mem_append_right _ ht)) oF (by rw[hX];simp) (by simp[Aa,h2]) (by simp[Aa]) (by simp[Aa])
  |del l mm hn g=>
   rename_i a;have hlen:l.length=mm.length:=by simpa using congrArg List.length hn
   have nx:=ih (k+1) v a u X;rw[List.length_append]at hal;have c1:(l.length:Int)<=(mm.length:Int)+a.length:=oF
   have c2:¬((mm.length:Int)+a.length<(l.length:Int)):=oF
   have ea:List.take a.length (a.map tA)=a.map tA:=AO iS;have et:List.take l.length (mm.map tA++a.map tA)=mm.map tA:=by rw[hlen];exact List.take_left' iS
   have ed:List.drop l.length (mm.map tA++a.map tA)=a.map tA:=by rw[hlen];exact List.drop_left' iS
   have eL:mm.length+a.length-l.length=a.length:=oF
   have E:=sV (l:=l) (m:=mm) (fun t ht=>how1 t ht) (fun t ht=>ha t (List.mem_append_left _ ht)) hn (by have:=hol1;show l.length<=_;have h':l.length<=10000000000000:=hol1;omega);simp[hlt,hx,Aa,h3,h5];rw[IK.eq_1];simp[hlt,hx,Aa,h3,h5,ew,c1,c2,eX,ea,et,ed,eL];refine Ag E iS ?_;simp[ew];exact nx _ oF g (fun t ht=>ha t (List.mem_append_right _ ht)) oF hX (by simp[Aa,h2]) (by simp[Aa,h3]) (by simp[Aa,h5])
  |ins l g=>
   rename_i u;have nx:=next a u (X++l)
   rw[List.length_append]at nx;have hR2:R.length=X.length+(l.length+u.length):=by rw[hX];simp
   simp[hlt,hx,Aa,h3,h5,ew,eX];refine⟨oF,?_⟩;simp[Co,ew];exact nx _ oF g ha oF (by rw[hX];simp) (by simp[Aa,h2]) (by simp[Aa]) (by simp[Aa])
  |desc e x y r g=>
   rename_i a u;have nx:=next a u (X++[y])
   rw[List.length_append,List.length_singleton]at nx;rw[List.length_cons]at hal;have hR2:R.length=X.length+(1+u.length):=by rw[hX];simp;omega
   have c1:(1:Int)<=(a.length:Int)+1:=oF
   have c2:¬((a.length:Int)+1<1):=oF
   have ea:List.take a.length (a.map tA)=a.map tA:=AO iS;simp[hlt,hx,Aa,h3,h5];rw[IK.eq_1];simp[hlt,hx,Aa,h3,h5,ew,c1,c2,eX,ea];refine Ag r.2 iS ?_;simp[hlt,hx,Aa,h3,h5,ew,c1,c2,eX,ea];refine⟨oF,?_⟩;exact nx _ oF g (fun t ht=>ha t (List.mem_cons_of_mem _ ht)) oF (by rw[hX];simp) (by simp[Aa,h2]) (by simp[Aa]) (by simp[Aa])
theorem dU{l:Int}{os:List OP}{t:T}{u:List T}(hw:AE t)(hol:os.length<=1000000000000)(how:∀o,o∈os->∀t,t∈o.l->AE t)(hos:∀o,o∈os->o.l.length<=10000000000000)(hu:u.length<=1000000)(ht:t.kids.length<=1000000)(hk:t.kind=l)(h:qn Vi os t.kids u):G.Spec Tryz.prog 77 [eX (.mk 3 T0 T0 [] [] l os),tX t] (.tup [tX (.mk l [] u),bv true]):=by
 obtain⟨k,w,ks⟩:=t;have hk:k=l:=hk;subst hk;refine Ak ZY iS fun w0 I0=>?_;unfold Rk;simp;refine LoopC.le (BO (d:=[3]) (u:=1) 2 [5] 3 (by simp[Aa];rfl) rfl iS) ?_;refine LoopC.le (Ar [(4,.pob [2] 1 0),(6,.pob [3] 1 0),(7,B7 ks),(26,Jo os),(27,iv os.length),(28,iv (0:Nat))] iS) ?_;refine Ahl (k0:=k) (R:=u) hu hol how hos (fun H' v st h2 h3 h5=>?_) os.length 0 1 ks u [] _ oF (by simpa using h) (fun t ht=>(wfT_iff.1 hw).ks t ht) ht rfl (by simp[Aa]) (by simp[Aa]) (by simp[Aa]);simp[h2,h3];refine EZ ⟨CF ⟨Ae rfl,Am,?_,trivial⟩,Ae rfl,trivial⟩;have:=CI (H:=AK H' [2] ⟨1,.cells [iv k,.sl true [],.osl [5] v 3 0 u.length]⟩) (o:=[5]) (u:=v) (n:=u.length) (sz:=3) (l:=u) (f:=tA) (by simp[Aa,h5]) rfl (fun x=>iS);exact this
def Gw(X:List Int)(i:Nat):List Int:=X++List.replicate (i+1-X.length) 0
theorem Jd(X:List Int)(i:Nat):(Gw X i).length=max X.length (i+1):=by simp[Gw];omega
theorem Wt{α:Type}(X:List α)(n:Nat)(z:α)(j:Nat):(X++List.replicate n z).getD j z=X.getD j z:=by
 rw[List.getD_eq_getElem?_getD,List.getD_eq_getElem?_getD];by_cases h:j<X.length
 ·rw[List.getElem?_append_left h]
 ·rw[List.getElem?_append_right oF,List.getElem?_eq_none (l:=X) oF];by_cases h2:j-X.length<n
  ·rw[List.getElem?_replicate,if_pos h2];rfl
  ·rw[List.getElem?_replicate,if_neg h2]
theorem Vb{α:Type}(X:List α)(i:Nat)(u z:α)(hi:i<X.length)(j:Nat):(X.set i u).getD j z=if j=i then u else X.getD j z:=by
 rw[List.getD_eq_getElem?_getD,List.getD_eq_getElem?_getD,List.getElem?_set];by_cases h:i=j
 ·subst h;rw[if_pos rfl,if_pos hi,if_pos rfl];rfl
 ·rw[if_neg h,if_neg (Ne.symm h)]
def Yb(a:List Int):List WE->List Int->List Int
 |[],X=>X
 |w::ws,X=>Yb a ws ((Gw X w.at_.toNat).set w.at_.toNat (A5 (a.getD w.at_.toNat 0) w.new w.mask))
theorem AbU{a b:List Int}{p:Nat}{ws:List WE}(h:Jn a b p ws):∀X:List Int,(∀j,j<p->X.getD j 0=b.getD j 0)->(∀j,p<=j->X.getD j 0=a.getD j 0)->(∀j,(Yb a ws X).getD j 0=b.getD j 0)/\(Yb a ws X).length<=max X.length (max a.length b.length):=by
 induction h with
 |nil p h=>
  intro X h1 h2;refine⟨fun j=>?_,by show X.length<=_;omega⟩;by_cases hj:j<p
  ·exact h1 j hj
  ·rw[show(Yb a [] X)=X from rfl,h2 j oF,h j oF]
 |cons p i m o n ws hp h hi hm ho hn g1 g2 _ ih=>
  intro X h1 h2;have hl:i<(Gw X i).length:=by rw[Jd];omega
  have e:Yb a (⟨i,m,o,n⟩::ws) X=Yb a ws ((Gw X i).set i (b.getD i 0)):=by
   show Yb a ws ((Gw X ((i:Int)).toNat).set ((i:Int)).toNat (A5 (a.getD ((i:Int)).toNat 0) n m))=_;rw[Int.toNat_natCast,g1]
  have gs:∀j,((Gw X i).set i (b.getD i 0)).getD j 0=if j=i then b.getD i 0 else X.getD j 0:=fun j=>by
   rw[Vb _ _ _ _ hl];unfold Gw;rw[Wt]
  obtain⟨k1,k2⟩:=ih ((Gw X i).set i (b.getD i 0)) (fun j hj=>by
   rw[gs];by_cases e:j=i
   ·rw[if_pos e,e]
   ·rw[if_neg e];by_cases hjp:j<p
    ·exact h1 j hjp
    ·rw[h2 j oF,h j oF oF]) (fun j hj=>by
   rw[gs,if_neg oF];exact h2 j oF)
  rw[e];refine⟨k1,Nat.le_trans k2 ?_⟩;rw[List.length_set,Jd];omega
theorem lR{a:List Int}:∀(ws:List WE)(X:List Int),(∀x,x∈X->Bs x)->∀x,x∈Yb a ws X->Bs x
 |[],X,h=>h
 |w::ws,X,h=>by
  refine lR ws _ fun x hx=>?_;rcases List.mem_or_eq_of_mem_set hx with hx|rfl
  ·unfold Gw at hx;rcases List.mem_append.1 hx with hx|hx
   ·exact h x hx
   ·rw[List.eq_of_mem_replicate hx];exact⟨oF,oF⟩
  ·exact BL _ _ _
abbrev KI:=Bool × T
def cp(x:KI):T:=if x.1=true then T0 else x.2
def kiC(x:KI):List A:=if x.1=true then [iv 0,.sl true [],.sl true []]else [iv x.2.kind,Fu x.2.words,B7 x.2.kids]
def xw(x:KI):A:=.agg (kiC x)
@[simp]theorem AdF{x:KI}:(xw x).cells=kiC x:=rfl
@[simp]theorem AiJ{x:KI}:(kiC x).length=3:=by unfold kiC;split<;>rfl
def MP(Z:List KI)(i:Nat):List KI:=Z++List.replicate (i+1-Z.length) (true,T0)
theorem RY(Z:List KI)(i:Nat):(MP Z i).length=max Z.length (i+1):=by simp[MP];omega
def Y6:List KE->List T->List KI->List KI
 |x::ks,u::us,Z=>Y6 ks us ((MP Z x.at_.toNat).set x.at_.toNat (false,u))
 |_,_,Z=>Z
inductive ApK(P:E->T->T->Prop)(a:List T):List KE->List T->Prop
 |nil:ApK P a [] []
 |cons (i:Nat) (e:E) (u:T) (ks:List KE) (us:List T) (h:P e (a.getD i T0) u) (g:ApK P a ks us):ApK P a (.mk i e::ks) (u::us)
theorem Adf{R P:E->T->T->Prop}{a b:List T}{p:Nat}{ks:List KE}(h:MA R a b p ks):(∀x,x∈ks->∀i,R x.e (a.getD i T0) (b.getD i T0)->∃u,P x.e (a.getD i T0) u/\Af u=Af (b.getD i T0))->∃us,ApK P a ks us/\∀Z:List KI,(∀j,j<p->Af ((Z.map cp).getD j T0)=Af (b.getD j T0))->(∀j,p<=j->Af ((Z.map cp).getD j T0)=Af (a.getD j T0))->(∀j,Af (((Y6 ks us Z).map cp).getD j T0)=Af (b.getD j T0))/\(Y6 ks us Z).length<=max Z.length (max a.length b.length):=by
 induction h with
 |nil p h=>
  intro _;refine⟨[],.nil,fun Z h1 h2=>⟨fun j=>?_,by show Z.length<=_;omega⟩⟩;by_cases hj:j<p
  ·exact h1 j hj
  ·rw[show Y6 [] [] Z=Z from rfl,h2 j oF,h j oF]
 |cons p i e ks hp h hi he hr _ ih=>
  intro hP;obtain⟨u,k1,k2⟩:=hP (.mk i e) iS i hr;obtain⟨us,k3,k4⟩:=ih fun x hx=>hP x (List.mem_cons_of_mem _ hx);refine⟨u::us,.cons i e u ks us k1 k3,fun Z h1 h2=>?_⟩;have hl:i<(MP Z i).length:=by rw[RY];omega
  have ee:Y6 (.mk i e::ks) (u::us) Z=Y6 ks us ((MP Z i).set i (false,u)):=by
   show Y6 ks us ((MP Z ((i:Int)).toNat).set ((i:Int)).toNat (false,u))=_;rw[Int.toNat_natCast]
  have gs:∀j,(((MP Z i).set i (false,u)).map cp).getD j T0=if j=i then u else (Z.map cp).getD j T0:=fun j=>by
   rw[List.map_set,Vb _ _ _ _ (by rw[List.length_map];exact hl)];have e1:(MP Z i).map cp=Z.map cp++List.replicate (i+1-Z.length) T0:=by
    unfold MP;rw[List.map_append,List.map_replicate];rfl
   rw[e1,Wt];rfl
  obtain⟨g1,g2⟩:=k4 ((MP Z i).set i (false,u)) (fun j hj=>by
   rw[gs];by_cases ej:j=i
   ·rw[if_pos ej,ej,k2]
   ·rw[if_neg ej];by_cases hjp:j<p
    ·exact h1 j hjp
    ·rw[h2 j oF,h j oF oF]) (fun j hj=>by
   rw[gs,if_neg oF];exact h2 j oF)
  rw[ee];refine⟨g1,Nat.le_trans g2 ?_⟩;rw[List.length_set,RY];omega
theorem n8{Q:T->Prop}(h0:Q T0):∀(ks:List KE)(us:List T)(Z:List KI),(∀u,u∈us->Q u)->(∀z,z∈Z->Q (cp z))->∀z,z∈Y6 ks us Z->Q (cp z)
 |[],_,Z,_,h=>by
  intro z hz;exact h z (by simpa[Y6]using hz)
 |x::ks,[],Z,_,h=>by
  intro z hz;exact h z (by simpa[Y6]using hz)
 |x::ks,u::us,Z,hu,h=>by
  refine n8 h0 ks us _ (fun v hv=>hu v (List.mem_cons_of_mem _ hv)) fun z hz=>?_;rcases List.mem_or_eq_of_mem_set hz with hz|rfl
  ·unfold MP at hz;rcases List.mem_append.1 hz with hz|hz
   ·exact h z hz
   ·rw[List.eq_of_mem_replicate hz];exact h0
  ·exact hu u iS
theorem Afg{X0:List Int}{i w:Nat}{c0 c1 c2:A}{K B L:A}{N k:Nat}(hX:X0.length<=1000000)(hi:i<=1000000){H0:Hp}(h4:H0 [4]=⟨w,.cells [iv i,c0,c1,c2]⟩)
  (hq:∀(H':Hp)(v:Nat),H' [3]=⟨1,.cells [iv 1,.osl [15] v 1 0 (Gw X0 i).length,K]⟩->H' [15]=⟨v,.arr 1 ((Gw X0 i).map uv)⟩->(∀o,o≠[3]->o≠[15]->H' o=H0 o)->Q (.exit 2) ⟨lk [(2,.pob [0] 1 0),(3,.pob [1] 1 0),(4,.pob [2] 1 0),(6,.pob [3] 1 0),(8,.pob [4] w 0),(9,B),(26,L),(27,iv N),(28,iv k),(49,bv false)],H'⟩) :
  ∀(j n v:Nat)(H:Hp),n+j=i+1-X0.length->H [3]=⟨1,.cells [iv 1,.osl [15] v 1 0 (X0.length+n),K]⟩->H [15]=⟨v,.arr 1 ((X0++List.replicate n 0).map uv)⟩->(∀o,o≠[3]->o≠[15]->H o=H0 o) ->
  LoopC (cx Tryz.prog w0 I0 n0) ER Q ⟨lk [(2,.pob [0] 1 0),(3,.pob [1] 1 0),(4,.pob [2] 1 0),(6,.pob [3] 1 0),(8,.pob [4] w 0),(9,B),(26,L),(27,iv N),(28,iv k)],H⟩:=by
 intro j;induction j with
 |zero=>
  intro n v H hm h3 h15 hH;have g4:=hH [4] iS iS;rw[h4]at g4;have hp:Gw X0 i=X0++List.replicate n 0:=by unfold Gw;rw[<-hm];rfl
  have hc:¬((X0.length:Int)+n<=i):=oF
  refine Ad Ai ER.eq_1 ?_;simp[h3,g4,hc];refine hq H v (by rw[hp];simpa using h3) (by rw[hp];exact h15) hH
 |succ j ih=>
  intro n v H hm h3 h15 hH;have g4:=hH [4] iS iS;rw[h4]at g4;have hc:(X0.length:Int)+n<=i:=oF
  refine Ad Ai ER.eq_1 ?_;simp[h3,g4,hc,h15,Aa];refine⟨oF,?_⟩;refine ih (n+1) (v+1) _ oF (by simp[Aa];omega) ?_ (fun o h1 h2=>by simp[Aa,h1,h2,hH]);simp[Aa,List.replicate_succ'];rw[AO iS];simp
theorem Ah0{t:T}(ht:AE t){ws:List WE}(hwl:ws.length<=10000000000000){b R:List Int}{K:A}{v0 v2 v16:VOb}(hb:max t.words.length b.length<=900000)(hws:∀x,x∈ws->Bs x.old/\Bs x.new)
  (hq:∀(H':Hp)(v:Nat)(st:List (Nat × A)),H' [0]=v0->H' [1]=⟨1,.cells (tL t)⟩->H' [2]=v2->H' [3]=⟨1,.cells [iv 1,.osl [15] v 1 0 R.length,K]⟩->H' [15]=⟨v,.arr 1 (R.map uv)⟩->H' [16]=v16->Q (.exit 0) ⟨lk ([(2,.pob [0] 1 0),(3,.pob [1] 1 0),(4,.pob [2] 1 0),(6,.pob [3] 1 0)]++st),H'⟩) :
  ∀(m k p v:Nat)(X:List Int)(H:Hp),k+m=ws.length->Jn t.words b p (ws.drop k)->R=Yb t.words (ws.drop k) X->X.length<=900000->H [0]=v0->H [1]=⟨1,.cells (tL t)⟩->H [2]=v2->H [3]=⟨1,.cells [iv 1,.osl [15] v 1 0 X.length,K]⟩->H [15]=⟨v,.arr 1 (X.map uv)⟩->H [16]=v16 ->
  LoopC (cx Tryz.prog w0 I0 n0) E8 Q ⟨lk [(2,.pob [0] 1 0),(3,.pob [1] 1 0),(4,.pob [2] 1 0),(6,.pob [3] 1 0),(26,Mf ws),(27,iv ws.length),(28,iv k)],H⟩:=by
 have z0:Bs 0:=⟨dO,dO⟩;intro m;induction m with
 |zero=>
  intro k p v X H hm hL hR hX h0 h1 h2 h3 h15 h16;have:k=ws.length:=oF
  subst this;rw[List.drop_length]at hR;have hR:R=X:=hR;subst hR;refine Ad Ai E8.eq_1 ?_;simp;have:=hq H v [(26,Mf ws),(27,iv ws.length),(28,iv ws.length),(29,bv false)] h0 h1 h2 h3 h15 h16;simpa using this
 |succ m ih=>
  intro k p v X H hm hL hR hX h0 h1 h2 h3 h15 h16;have hlt:k<ws.length:=oF
  have ew:=AR k;have hd:ws.drop k=ws[k]::ws.drop (k+1):=(List.getElem_cons_drop hlt).symm;rw[hd]at hL hR;have hwo:=hws _ (De hlt);have next:=ih (k+1)
  generalize hx:ws[k]=x at *;cases hL with
  |cons _ i mk o n _ hp hh hi hmk ho hn g1 g2 g=>
   have hwa:=Eb (wfT_iff.1 ht).w i;have M1:=C8 (mask:=mk) z0 hwa oF oF;have M2:=C8 (mask:=mk) hwa hwo.2 oF oF;have W1:=Fl t i;simp only at M2;rw[ho]at M1;rw[g1]at M2;have hl:i<(Gw X i).length:=by rw[Jd];omega
   have hR':R=Yb t.words (ws.drop (k+1)) ((Gw X i).set i (b.getD i 0)):=by
    rw[hR];show Yb t.words _ ((Gw X ((i:Int)).toNat).set ((i:Int)).toNat (A5 (t.words.getD ((i:Int)).toNat 0) n mk))=_;rw[Int.toNat_natCast,g1]
   refine Ad Ai E8.eq_1 ?_;simp[hlt,hx,Aa,h1];refine Ag W1 iS ?_;simp[Aa];refine Ag M1 iS ?_;simp[Aa];refine Afg (X0:=X) (i:=i) (w:=(H [4]).u+1) (c0:=u8 mk) (c1:=uv o) (c2:=uv n) (K:=K) oF oF (H0:=AK H [4] ⟨(H [4]).u+1,.cells [iv i,u8 mk,uv o,uv n]⟩) (by simp[Aa]) (fun H' v' k3 k15 kH=>?_) (i+1-X.length) 0 v _ oF (by simp[Aa,h3]) (by simp[Aa,h15]) (fun o _ _=>rfl);have k4:=kH [4] iS iS;have k0:=kH [0] iS iS;have k1:=kH [1] iS iS;have k2:=kH [2] iS iS;have k16:=kH [16] iS iS;simp[Aa]at k4 k0 k1 k2 k16;simp[k3,k4];refine Ag M2 iS ?_;simp[k3,k15,k4,hl,ew];refine next (i+1) v' ((Gw X i).set i (b.getD i 0)) _ oF g hR' (by rw[List.length_set,Jd];omega) (by simp[Aa,k0,h0]) (by simp[Aa,k1,h1]) (by simp[Aa,k2,h2]) (by simp[Aa,k3]) (by simp[Aa,List.map_set]) (by simp[Aa,k16,h16])
theorem Ag7{Z0:List KI}{i w w7:Nat}{c4:List A}{K:A}{L:A}{N k:Nat}(hZ:Z0.length<=1000000)(hi:i<=1000000){H0:Hp}(h6:H0 [6]=⟨w,.cells (iv i::c4)⟩)
  (hq:∀(H':Hp)(v:Nat),H' [3]=⟨1,.cells [iv 1,K,.osl [16] v 3 0 (MP Z0 i).length]⟩->H' [16]=⟨v,.arr 3 ((MP Z0 i).map xw)⟩->(∀o,o≠[3]->o≠[16]->H' o=H0 o)->Q (.exit 6) ⟨lk [(3,.pob [1] 1 0),(4,.pob [2] 1 0),(6,.pob [3] 1 0),(11,.pob [6] w 0),(12,.pob [7] w7 0),(68,L),(69,iv N),(70,iv k),(92,bv false)],H'⟩) :
  ∀(j n v:Nat)(H:Hp),n+j=i+1-Z0.length->H [3]=⟨1,.cells [iv 1,K,.osl [16] v 3 0 (Z0.length+n)]⟩->H [16]=⟨v,.arr 3 ((Z0++List.replicate n (true,T0)).map xw)⟩->(∀o,o≠[3]->o≠[16]->H o=H0 o) ->
  LoopC (cx Tryz.prog w0 I0 n0) E7 Q ⟨lk [(3,.pob [1] 1 0),(4,.pob [2] 1 0),(6,.pob [3] 1 0),(11,.pob [6] w 0),(12,.pob [7] w7 0),(68,L),(69,iv N),(70,iv k)],H⟩:=by
 intro j;induction j with
 |zero=>
  intro n v H hm h3 h16 hH;have g6:=hH [6] iS iS;rw[h6]at g6;have hp:MP Z0 i=Z0++List.replicate n (true,T0):=by unfold MP;rw[<-hm];rfl
  have hc:¬((Z0.length:Int)+n<=i):=oF
  refine Ad Ai E7.eq_1 ?_;simp[h3,g6,hc];refine hq H v (by rw[hp];simpa using h3) (by rw[hp];exact h16) hH
 |succ j ih=>
  intro n v H hm h3 h16 hH;have g6:=hH [6] iS iS;rw[h6]at g6;have hc:(Z0.length:Int)+n<=i:=oF
  refine Ad Ai E7.eq_1 ?_;simp[h3,g6,hc,h16,Aa];refine⟨oF,?_⟩;refine ih (n+1) (v+1) _ oF (by simp[Aa];omega) ?_ (fun o h1 h2=>by simp[Aa,h1,h2,hH]);simp[Aa,List.replicate_succ'];rw[AO iS];simp[xw,kiC]
theorem Ah2{t:T}{ks:List KE}(hkl:ks.length<=10000000000000){Z1:List KI}{K:A}{v2 v15:VOb}(hat:∀x,x∈ks->0<=x.at_/\x.at_<=900000)
  (hq:∀(H':Hp)(v:Nat)(st:List (Nat × A)),H' [2]=v2->H' [3]=⟨1,.cells [iv 1,K,.osl [16] v 3 0 Z1.length]⟩->H' [16]=⟨v,.arr 3 (Z1.map xw)⟩->H' [15]=v15->Q (.exit 4) ⟨lk ([(3,.pob [1] 1 0),(4,.pob [2] 1 0),(6,.pob [3] 1 0)]++st),H'⟩) :
  ∀(m k v:Nat)(us:List T)(Z:List KI)(H:Hp),k+m=ks.length->ApK Vi t.kids (ks.drop k) us->Z1=Y6 (ks.drop k) us Z->Z.length<=900001->H [1]=⟨1,.cells (tL t)⟩->H [2]=v2->H [3]=⟨1,.cells [iv 1,K,.osl [16] v 3 0 Z.length]⟩->H [16]=⟨v,.arr 3 (Z.map xw)⟩->H [15]=v15 ->
  LoopC (cx Tryz.prog w0 I0 n0) EU Q ⟨lk [(3,.pob [1] 1 0),(4,.pob [2] 1 0),(6,.pob [3] 1 0),(68,MD ks),(69,iv ks.length),(70,iv k)],H⟩:=by
 intro m;induction m with
 |zero=>
  intro k v us Z H hm hA hR hZ h1 h2 h3 h16 h15;have:k=ks.length:=oF
  subst this;rw[List.drop_length]at hR hA;cases hA;have hR:Z1=Z:=hR;subst hR;refine Ad Ai EU.eq_1 ?_;simp;have:=hq H v [(68,MD ks),(69,iv ks.length),(70,iv ks.length),(71,bv false)] h2 h3 h16 h15;simpa using this
 |succ m ih=>
  intro k v us Z H hm hA hR hZ h1 h2 h3 h16 h15;have hlt:k<ks.length:=oF
  have ew:=AR k;have hd:ks.drop k=ks[k]::ks.drop (k+1):=(List.getElem_cons_drop hlt).symm;rw[hd]at hA hR;have ha:=hat _ (De hlt);have next:=ih (k+1)
  generalize hx:ks[k]=x at *;cases hA with
  |cons i e u _ us h g=>
   have ha:(0:Int)<=(i:Nat)/\((i:Nat):Int)<=900000:=ha;have K1:=Gj t i;have hl:i<(MP Z i).length:=by rw[RY];omega
   have hR':Z1=Y6 (ks.drop (k+1)) us ((MP Z i).set i (false,u)):=by
    rw[hR];show Y6 _ us ((MP Z ((i:Int)).toNat).set ((i:Int)).toNat (false,u))=_;rw[Int.toNat_natCast]
   refine Ad Ai EU.eq_1 ?_;simp[hlt,hx,Aa,h1];refine Ag K1 iS ?_;simp[Aa];refine Ag h.2 iS ?_;simp[Aa];refine Ag7 (Z0:=Z) (i:=i) (w:=(H [6]).u+1) (w7:=(H [7]).u+1) (c4:=eL e) (K:=K) oF oF (H0:=AK (AK H [6] ⟨(H [6]).u+1,.cells (iv i::eL e)⟩) [7] ⟨(H [7]).u+1,.cells (tL u)⟩) (by simp[Aa]) (fun H' v' k3 k16 kH=>?_) (i+1-Z.length) 0 v _ oF (by simp[Aa,h3]) (by simp[Aa,h16]) (fun o _ _=>by rfl);have k6:=kH [6] iS iS;have k7:=kH [7] iS iS;have k1:=kH [1] iS iS;have k2:=kH [2] iS iS;have k15:=kH [15] iS iS;simp[Aa]at k6 k7 k1 k2 k15;simp[k3,k6,k7,k16,hl,ew];refine next v' us ((MP Z i).set i (false,u)) _ oF g hR' (by rw[List.length_set,RY];omega) (by simp[Aa,k1,h1]) (by simp[Aa,k2,h2]) (by simp[Aa,k3]) (by simp[Aa,List.map_set];rfl) (by simp[Aa,k15,h15])
theorem Acz(l:List T):(l.map fun k=>((false,k):KI)).map xw=l.map tA:=by
 rw[List.map_map];exact List.map_congr_left fun k _=>by simp[xw,kiC]
theorem y7(l:List T):(l.map fun k=>((false,k):KI)).map cp=l:=by
 rw[List.map_map];exact List.map_id'' (fun k=>by simp[cp]) l
theorem js{ws:List WE}{ks:List KE}{t:T}{b:List Int}{us:List T}(ht:AE t)(hk:t.kind=1)(hwl:ws.length<=10000000000000)(hkl:ks.length<=10000000000000)(hl:t.kids.length<=900000)(hb:max t.words.length b.length<=900000)(hws:∀x,x∈ws->Bs x.old/\Bs x.new)(hat:∀x,x∈ks->0<=x.at_/\x.at_<=900000)(hW:Jn t.words b 0 ws)(hK:ApK Vi t.kids ks us) :
  G.Spec Tryz.prog 76 [eX (.mk 2 T0 T0 ws ks 0 []),tX t] (.tup [tX (.mk 1 (Yb t.words ws t.words) ((Y6 ks us (t.kids.map fun k=>(false,k))).map cp)),bv true]):=by
 have C1:=Ug t.words oF;have C2:=dM t.kids oF;have hkr:=Acz t.kids;generalize hZ:(t.kids.map fun k=>((false,k):KI))=Z at *;have hZl:Z.length=t.kids.length:=by rw[<-hZ];simp
 refine Ak R4 iS fun w0 I0=>?_;unfold K7;simp[hk];refine Ap 15 C1 (fun p=>iS) iS iS ?_;simp;refine⟨dO,?_⟩;refine Ap 16 C2 (fun p=>iS) iS iS ?_;simp;refine⟨⟨dO,dO⟩,?_⟩;refine LoopC.le (Ar [(2,.pob [0] 1 0),(3,.pob [1] 1 0),(4,.pob [2] 1 0),(6,.pob [3] 1 0),(26,Mf ws),(27,iv ws.length),(28,iv (0:Nat))] iS) ?_;refine Ah0 (t:=t) (b:=b) (R:=Yb t.words ws t.words) (K:=.osl [16] 1 3 0 t.kids.length) (v0:=⟨1,.cells (eL (.mk 2 T0 T0 ws ks 0 []))⟩) (v2:=⟨1,.cells [iv 0,.sl true [],.sl true []]⟩) (v16:=⟨1,.arr 3 (Z.map xw)⟩) ht hwl hb hws (fun H' v st h0 h1 h2 h3 h15 h16=>?_) ws.length 0 0 1 t.words _ oF (by simpa using hW) iS oF (by simp[Aa]) (by simp[Aa,hk]) (by simp[Aa]) (by simp[Aa]) (by simp[Aa]) (by simp[Aa,hkr]);simp[h0];refine LoopC.le (Ar [(3,.pob [1] 1 0),(4,.pob [2] 1 0),(6,.pob [3] 1 0),(68,MD ks),(69,iv ks.length),(70,iv (0:Nat))] iS) ?_;rw[<-hZl]at h3;refine Ah2 (t:=t) (Z1:=Y6 ks us Z) (K:=.osl [15] v 1 0 (Yb t.words ws t.words).length) (v2:=⟨1,.cells [iv 0,.sl true [],.sl true []]⟩) (v15:=⟨v,.arr 1 ((Yb t.words ws t.words).map uv)⟩) hkl hat (fun H2 v2 st2 k2 k3 k16 k15=>?_) ks.length 0 1 us Z _ oF (by simpa using hK) iS oF h1 h2 h3 h16 h15;simp[k2,k3];refine EZ ⟨CF ⟨Ae rfl,?_,?_,trivial⟩,Ae rfl,trivial⟩
 ·exact CI (o:=[15]) (u:=v) (n:=(Yb t.words ws t.words).length) (sz:=1) (l:=Yb t.words ws t.words) (f:=uv) (by simp[Aa,k15]) rfl (fun x=>iS)
 ·have:=WV (H:=AK H2 [2] ⟨1,.cells [iv 1,.osl [15] v 1 0 (Yb t.words ws t.words).length,.osl [16] v2 3 0 (Y6 ks us Z).length]⟩) (o:=[16]) (u:=v2) (n:=(Y6 ks us Z).length) (sz:=3) (l:=Y6 ks us Z) (f:=xw) (g:=fun z=>tA (cp z)) (by simp[Aa,k16]) rfl (fun x _=>by
   obtain⟨c,t⟩:=x;cases c<;>simp[kiC,cp,A.soft,A.softL,JD,FZ])
  show Jl _ _ (.sl false (((Y6 ks us Z).map cp).map tA));rw[List.map_map];exact this
theorem pG{t:T}(h0:t.kind≠0)(h1:t.kind≠1):(Af t).kids=t.kids.map Af:=by
 obtain⟨k,w,l⟩:=t;have h0:k≠0:=h0;have h1:k≠1:=h1;rw[Cw,if_neg h0,if_neg h1];rfl
theorem W5{e:E}{a b:T}(hw:Nh e)(ha:AE a)(h:mH e a b):∃u,Vi e a u/\Af u=Af b:=by
 rcases h with ⟨rfl,h⟩|⟨o,n,rfl,h1,h2⟩
 ·refine⟨a,⟨ha,?_⟩,h⟩;refine Ak KB iS fun w0 I0=>?_;unfold I4;simp;exact EZ ⟨Ae iS,Ae rfl,trivial⟩
 ·have W:=wfE_iff.1 hw;have E1:=Jf (t:=o) (u:=a) W.o ha;rw[show J2 o a=true from eqT_iff.2 h1]at E1;refine⟨n,⟨W.n,?_⟩,h2⟩;refine Ak KB iS fun w0 I0=>?_;unfold I4;simp;refine Ag E1 iS ?_;simp;exact EZ ⟨Ae iS,Ae rfl,trivial⟩
theorem oU{e:E}{t u:T}(hk:e.kind=2)(h:G.Spec Tryz.prog 76 [eX e,tX t] (.tup [tX u,bv true])):G.Spec Tryz.prog 45 [eX e,tX t] (.tup [tX u,bv true]):=by
 obtain⟨k,o,n,ws,ks,l,os⟩:=e;have hk:k=2:=hk;subst hk;refine Ak KB iS fun w0 I0=>?_;unfold I4;simp;refine Ag h iS ?_;simp;exact EZ ⟨Ae iS,Ae rfl,trivial⟩
theorem jC{e:E}{t u:T}(hk:e.kind=3)(h:G.Spec Tryz.prog 77 [eX e,tX t] (.tup [tX u,bv true])):G.Spec Tryz.prog 45 [eX e,tX t] (.tup [tX u,bv true]):=by
 obtain⟨k,o,n,ws,ks,l,os⟩:=e;have hk:k=3:=hk;subst hk;refine Ak KB iS fun w0 I0=>?_;unfold I4;simp;refine Ag h iS ?_;simp;exact EZ ⟨Ae iS,Ae rfl,trivial⟩
theorem AcW{R:E->T->T->Prop}{a b:List T}{p:Nat}{ks:List KE}(h:MA R a b p ks):∀x,x∈ks->0<=x.at_/\x.at_<max a.length b.length:=by
 induction h with
 |nil p h=>intro x hx;simp at hx
 |cons p i e ks hp h hi he hr _ ih=>
  intro x hx;rcases List.mem_cons.1 hx with rfl|hx
  ·show(0:Int)<=(i:Nat)/\((i:Nat):Int)<_;omega
  ·exact ih x hx
def Sz:Nat->T->Prop
 |0,_=>True
 |f+1,t=>t.words.length<=900000/\t.kids.length<=900000/\∀k,k∈t.kids->Sz f k
theorem AgC:∀f,Sz f T0
 |0=>trivial
 |f+1=>⟨iS,iS,fun k hk=>by simp at hk⟩
theorem Aaf{f:Nat}{t:T}(h:Sz (f+1) t)(i:Nat):Sz f (t.kids.getD i T0):=by
 rw[List.getD_eq_getElem?_getD];cases e:t.kids[i]? with
 |none=>exact AgC f
 |some z=>exact h.2.2 z (List.mem_of_getElem? e)
theorem cN:∀(f:Nat)(t:T),Bk t<=1000->Sz f t
 |0,t,_=>trivial
 |f+1,t,h=>by
  obtain⟨k,w,l⟩:=t;rw[Ey]at h;have hl:=G0 l;exact⟨by show w.length<=900000;omega,by show l.length<=900000;omega,fun x hx=>cN f x (by have:=Ms (show x∈l from hx);omega)⟩
theorem IJ{t:T}(h:AE t)(i:Nat):AE (t.kids.getD i T0):=by
 rw[List.getD_eq_getElem?_getD];cases e:t.kids[i]? with
 |none=>exact D8
 |some z=>exact(wfT_iff.1 h).ks z (List.mem_of_getElem? e)
theorem Ac7{a:List T}{ks:List KE}{us:List T}(h:ApK Vi a ks us):∀u,u∈us->AE u:=by
 induction h with
 |nil=>intro u hu;simp at hu
 |cons i e u ks us h _ ih=>
  intro v hv;rcases List.mem_cons.1 hv with rfl|hv
  ·exact h.1
  ·exact ih v hv
theorem fF:∀(f:Nat)(e:E)(a b:T),Nh e->AE a->AE b->Sz f a->Sz f b->Ld f e a b->∃u,Vi e a u/\Af u=Af b:=by
 intro f;induction f with
 |zero=>exact fun e a b hw ha hb _ _ h=>W5 hw ha h
 |succ f ih=>
  intro e a b hw ha hb sa sb h;have A:=wfT_iff.1 ha;have B:=wfT_iff.1 hb;rcases h with h|⟨ws,ks,rfl,h1,h2,h3,h4⟩|⟨os,rfl,h1,h2,hv,h3⟩
  ·exact W5 hw ha h
  ·have W:=wfE_iff.1 hw;have hwl:ws.length*32<=140737488355328:=W.wl;have hkl:ks.length*208<=140737488355328:=W.kl;obtain⟨us,k1,k2⟩:=Adf (P:=Vi) h4 fun x hx i r=>ih x.e _ _ (W.ks x hx).2 (IJ ha i) (IJ hb i) (Aaf sa i) (Aaf sb i) r;obtain⟨g1,g2⟩:=AbU h3 a.words (fun j hj=>oF) (fun j _=>rfl);have e0:=y7 a.kids;obtain⟨g3,g4⟩:=k2 (a.kids.map fun k=>(false,k)) (fun j hj=>oF) (fun j _=>by rw[e0]);rw[List.length_map]at g4;have l1:=sa.1;have l2:=sb.1;have l3:=sa.2.1;have l4:=sb.2.1;have hat:=AcW h4;have S:=js (ws:=ws) (ks:=ks) (us:=us) (b:=b.words) ha h1 oF oF l3 oF (fun x hx=>⟨(W.w x hx).2.2.1,(W.w x hx).2.2.2⟩) (fun x hx=>by have:=hat x hx;omega) h3 k1;have hu:=n8 (Q:=AE) D8 ks us (a.kids.map fun k=>(false,k)) (Ac7 k1) (fun z hz=>by
    obtain⟨k,hk,rfl⟩:=List.mem_map.1 hz;exact A.ks k hk)
   generalize hZ:Y6 ks us (a.kids.map fun k=>((false,k):KI))=Z at *;refine⟨.mk 1 (Yb a.words ws a.words) (Z.map cp),⟨wfT_iff.2 ⟨by simp[BD],lR ws a.words A.w,by show(Yb a.words ws a.words).length*8<=_;omega,by show(Z.map cp).length*56<=_;rw[List.length_map];omega,fun x hx=>?_⟩,oU rfl S⟩,?_⟩
   ·obtain⟨z,hz,rfl⟩:=List.mem_map.1 (show x∈Z.map cp from hx);exact hu z hz
   ·obtain⟨kb,wb,lb⟩:=b;have h2:kb=1:=h2;subst h2;exact struct_eq.2 ⟨g1,g3⟩
  ·have W:=wfE_iff.1 hw;have hol:os.length*240<=140737488355328:=W.ol;obtain⟨U,k1,k2⟩:=AcZ (P:=Vi) h3 fun o ho hk x hx y hy r=>ih o.e x y (W.os o ho).e (A.ks x hx) (B.ks y hy) (sa.2.2 x hx) (sb.2.2 y hy) r;have hUl:U.length=b.kids.length:=by simpa using congrArg List.length k2
   have l3:=sa.2.1;have l4:=sb.2.1;have hUw:=Acn k1 A.ks (fun o ho=>(W.os o ho).l);have S:=dU (l:=a.kind) (os:=os) (u:=U) ha oF (fun o ho=>(W.os o ho).l) (fun o ho=>by have:=(W.os o ho).ll;omega) oF oF rfl k1;refine⟨.mk a.kind [] U,⟨wfT_iff.2 ⟨A.k,iS,iS,by show U.length*56<=_;omega,hUw⟩,jC rfl S⟩,?_⟩;obtain⟨kb,wb,lb⟩:=b;have h1:kb=a.kind:=h1;have hv2:wb=[]:=hv.2;subst h1;subst hv2;exact(LI (k:=a.kind) oF oF).2 ⟨rfl,k2⟩
theorem AbW{R R':E->T->T->Prop}{as':List T}(hR:∀e x y,x∈as'->R e (Af x) y->R' e x y){os:List OP}{a b:List T}(h:LdO R os a b):∀l:List T,(∀t,t∈l->t∈as')->a=l.map Af->LdO R' os l b:=by
 induction h with
 |nil=>
  intro l _ e;have:l=[]:=by simpa using e.symm
  subst this;exact .nil
 |keep p m hne hl _ ih=>
  intro l hl2 e;obtain⟨l1,l2,rfl,e1,e2⟩:=List.map_eq_append_iff.1 e.symm;have hp:p.length=l1.length:=by rw[<-e1];simp
  rw[hp];refine .keep l1 m (fun h=>hne (by rw[<-e1,h];rfl)) ?_ (ih l2 (fun t ht=>hl2 t (List.mem_append_right _ ht)) e2.symm);rw[<-hl,<-e1,Ch]
 |del p m hne hl _ ih=>
  intro l hl2 e;obtain⟨l1,l2,rfl,e1,e2⟩:=List.map_eq_append_iff.1 e.symm;refine .del p l1 hne ?_ (ih l2 (fun t ht=>hl2 t (List.mem_append_right _ ht)) e2.symm);rw[hl,<-e1,Ch]
 |ins p m hne hl _ ih=>
  intro l hl2 e;exact .ins p m hne hl (ih l hl2 e)
 |desc e0 x y r _ ih=>
  intro l hl2 e;cases l with
  |nil=>simp at e
  |cons z l=>
   rw[List.map_cons]at e;have e1:=(List.cons.inj e).1;have e2:=(List.cons.inj e).2;refine .desc e0 z y (hR e0 z y (hl2 z iS) ?_) (ih l (fun t ht=>hl2 t (List.mem_cons_of_mem _ ht)) e2);rw[<-e1];exact r
theorem MG(t:T)(h:t.kind=1)(i:Nat):(Af t).kids.getD i T0=Af (t.kids.getD i T0)/\(Af t).words.getD i 0=t.words.getD i 0/\(Af t).kids.length<=t.kids.length/\(Af t).words.length<=t.words.length:=by
 obtain⟨k,w,l⟩:=t;have h:k=1:=h;subst h;rw[Cw,if_neg dO,if_pos rfl];refine⟨?_,?_,?_,LG w⟩
 ·show(DG (l.map Af)).getD i T0=_;rw[Uy,F7 _ (fun x hx h0=>?_) i,Fv]
  ·rfl
  ·obtain⟨y,_,rfl⟩:=List.mem_map.1 hx;simp at h0;exact Ir h0
 ·show(EO w).getD i 0=_;rw[UL];exact F7 w (fun x _ h=>by simpa using h) i
 ·have:=LC (l.map Af);rw[List.length_map]at this;exact this
theorem Acg{a a' b:List Int}(ha:∀i,a.getD i 0=a'.getD i 0)(hl:a.length<=a'.length){p:Nat}{ws:List WE}(h:Jn a b p ws):Jn a' b p ws:=by
 induction h with
 |nil p h=>exact .nil p fun i hi=>by rw[<-ha];exact h i hi
 |cons p i m o n ws hp h hi hm ho hn h1 h2 _ ih=>exact .cons p i m o n ws hp (fun j g1 g2=>by rw[<-ha];exact h j g1 g2) oF hm (by rw[<-ha];exact ho) hn (by rw[<-ha];exact h1) (by rw[<-ha];exact h2) ih
theorem Ace{R R':E->T->T->Prop}{a a' b:List T}(ha:∀i,a.getD i T0=Af (a'.getD i T0))(hl:a.length<=a'.length)(hR:∀e i y,R e (Af (a'.getD i T0)) y->R' e (a'.getD i T0) y){p:Nat}{ks:List KE}(h:MA R a b p ks):MA R' a' b p ks:=by
 have hn:∀i,Af (a.getD i T0)=Af (a'.getD i T0):=fun i=>by rw[ha,B8]
 induction h with
 |nil p h=>exact .nil p fun i hi=>by rw[<-hn];exact h i hi
 |cons p i e ks hp h hi he hr _ ih=>exact .cons p i e ks hp (fun j g1 g2=>by rw[<-hn];exact h j g1 g2) oF he (hR e i _ (by rw[<-ha];exact hr)) ih
theorem Agb:∀(f:Nat)(e:E)(a b:T),NW f a->Ld f e (Af a) b->Ld f e a b:=by
 have base:∀{e a b},mH e (Af a) b->mH e a b:=fun {e a b} h=>by
  rcases h with ⟨rfl,h⟩|⟨o,n,rfl,h1,h2⟩
  ·exact .inl ⟨rfl,by rw[<-h,B8]⟩
  ·exact .inr ⟨o,n,rfl,by rw[h1,B8],h2⟩
 intro f;induction f with
 |zero=>exact fun e a b _ h=>base h
 |succ f ih=>
  intro e a b hN h;rcases h with h|⟨ws,ks,rfl,h1,h2,h3,h4⟩|⟨os,rfl,h1,h2,hv,h3⟩
  ·exact .inl (base h)
  ·rw[EC]at h1;have N:=MG a h1;refine .inr (.inl ⟨ws,ks,rfl,h1,h2,Acg (fun i=>(N i).2.1) (N 0).2.2.2 h3,Ace (fun i=>(N i).1) (N 0).2.2.1 (fun e i y r=>ih e _ _ (fT hN i) r) h4⟩)
  ·rw[EC]at h1 h2 ⊢;rw[pG (t:=a) oF oF]at h3;refine .inr (.inr ⟨os,rfl,h1,h2,⟨hN.1 h2.1 h2.2,hv.2⟩,?_⟩);exact AbW (as':=a.kids) (fun e x y hx r=>ih e x y (hN.2 x hx) r) h3 a.kids (fun t ht=>ht) rfl
theorem Bt(a b m:Int){i:Nat}(h:i<8):AP (A5 a b m) i=if AH m i=true then AP b i else AP a i:=by
 rw[<-E5 _ h,Tj,Wb (by simp[Bb,DZ]) h,E5 _ h,E5 _ h]
theorem HG{x y:Int}(hx:Bs x)(hy:Bs y)(h:∀i,i<8->AP x i=AP y i):x=y:=by
 rw[<-Td hx,<-Td hy];congr 1;refine List.ext_getElem (by simp[Bb,DZ]) fun i h1 h2=>?_;have h8:i<8:=by simpa[Bb,DZ]using h1
 have:=h i h8;rw[<-E5 _ h8,<-E5 _ h8]at this;rw[List.getD_eq_getElem?_getD,List.getD_eq_getElem?_getD,List.getElem?_eq_getElem h1,List.getElem?_eq_getElem h2]at this;exact this
theorem Fs(m i:Nat):AH (m:Int) i=m.testBit i:=by
 unfold AH;rw[Nat.testBit_eq_decide_div_mod_eq];have:((m:Int) / 2 ^ i % 2=1)↔(m / 2 ^ i % 2=1):=by
  have e:(m:Int) / 2 ^ i % 2=((m / 2 ^ i % 2:Nat):Int):=iS
  omega
 exact decide_eq_decide.2 this
def Db(m k:Int):Int:=bits .and .u8 m k
theorem OU{m k:Int}(hm:0<=m/\m<256)(hk:0<=k/\k<256):Db m k=((m.toNat &&& k.toNat:Nat):Int):=by
 obtain⟨a,rfl⟩:=Int.eq_ofNat_of_zero_le hm.1;obtain⟨b,rfl⟩:=Int.eq_ofNat_of_zero_le hk.1;have h1:a<256:=oF
 have h2:b<256:=oF
 have h3:a &&& b<256:=Nat.lt_of_le_of_lt Nat.and_le_left h1;have e8:∀x:Nat,x<256->(BitVec.ofInt 8 (x:Int)).toNat=x:=fun x h=>by
  rw[BitVec.toNat_ofInt];omega
 show IntKind.u8.wrap ((BitVec.ofInt 8 (a:Int) &&& BitVec.ofInt 8 (b:Int)).toNat:Nat)=_;rw[BitVec.toNat_and,e8 a h1,e8 b h2];rw[IntKind.wrap_u8,Int.toNat_natCast,Int.toNat_natCast];omega
theorem Mv{m k:Int}(hm:0<=m/\m<256)(hk:0<=k/\k<256)(i:Nat):AH (Db m k) i=(AH m i&&AH k i):=by
 rw[OU hm hk,Fs,Nat.testBit_and,<-Fs,<-Fs];have e1:((m.toNat:Nat):Int)=m:=oF
 have e2:((k.toNat:Nat):Int)=k:=oF
 rw[e1,e2]
theorem jD{m k:Int}(hm:0<=m/\m<256)(hk:0<=k/\k<256):Db m k=Db k m:=by
 rw[OU hm hk,OU hk hm,Nat.and_comm]
theorem Wu{m k:Int}(hm:0<=m/\m<256)(hk:0<=k/\k<256):0<=Db m k/\Db m k<256:=by
 rw[OU hm hk];have h3:m.toNat &&& k.toNat<=m.toNat:=Nat.and_le_left;omega
theorem yZ(x w n m:Int):A5 x (A5 w n m) m=A5 x n m:=by
 refine HG (BL _ _ _) (BL _ _ _) fun i hi=>?_;rw[Bt _ _ _ hi,Bt _ _ _ hi,Bt _ _ _ hi];split<;>rfl
theorem GL{x:Int}(hx:Bs x)(n:Int):A5 x n 0=x:=by
 refine HG (BL _ _ _) hx fun i hi=>?_;rw[Bt _ _ _ hi,if_neg (by simp[AH])]
structure Cf where
 path:List (Int × Int)
 base:T
 ours:T
 theirs:T
abbrev Di:=List (Int × Int)
noncomputable def JG(e:E)(t:T):T:=(xn e t).getD T0
def CS(ws:List WE)(i:Nat):WE:=(ws.find? fun w=>decide (w.at_=(i:Int))).getD ⟨0,0,0,0⟩
def Ek(ks:List KE)(i:Nat):E:=((ks.find? fun k=>decide (k.at_=(i:Int))).map KE.e).getD E0
def FX(a b:WE):Bool:=decide (A5 0 a.new (Db a.mask b.mask)≠A5 0 b.new (Db a.mask b.mask))
def CT(w:Int):T:=.mk 1 [w] []
def JE(w:Int)(a b:WE):Int:=if FX a b=true then w else A5 (A5 w a.new a.mask) b.new b.mask
def Qb(at':Di)(i:Nat)(w:Int)(a b:WE):List Cf:=if FX a b=true then [⟨at'++[(1,(i:Int))],Af (CT w),Af (CT (A5 w a.new a.mask)),Af (CT (A5 w b.new b.mask))⟩]else []
def DK(n:Nat)(ws:List WE):Nat:=ws.foldl (fun n w=>max n (w.at_+1).toNat) n
def CV(n:Nat)(ks:List KE):Nat:=ks.foldl (fun n k=>max n (k.at_+1).toNat) n
inductive U where
 |keep
 |del (t:T)
 |ins (t:T)
 |desc (e:E)
def Qz(o:OP):List U:=if o.kind=0 then List.replicate o.n.toNat .keep else if o.kind=1 then o.l.map .del else if o.kind=2 then o.l.map .ins else [.desc o.e]
def Mc(os:List OP):List U:=os.flatMap Qz
def Ih:List U->List T
 |.ins t::us=>t::Ih us
 |_=>[]
def FK:List U->List U
 |.ins t::us=>FK us
 |us=>us
def eU:U->E
 |.desc e=>e
 |_=>E0
open Classical in
noncomputable def Fx(at':Di)(kind:Int)(n:Nat)(a b:List T):List T × List Cf:=
 if a=[]\/a.map Af=b.map Af then (b.map Af,[])else if b=[]then (a.map Af,[])else ([],[⟨at'++[(2,(n:Int))],Af (.mk kind [] []),Af (.mk kind [] a),Af (.mk kind [] b)⟩])
noncomputable def B6(mg:Di->T->E->E->T × List Cf)(at':Di)(k:T):U->U->List T × List Cf
 |.del _,.desc q=>([Af k],[⟨at',Af k,T0,JG q k⟩])
 |.desc p,.del _=>([Af k],[⟨at',Af k,JG p k,T0⟩])
 |.del _,_=>([],[])
 |_,.del _=>([],[])
 |u,v=>([(mg at' k (eU u) (eU v)).1],(mg at' k (eU u) (eU v)).2)
def de:List U->U
 |u::_=>u
 |[]=>.keep
noncomputable def N7(mg:Di->T->E->E->T × List Cf)(at':Di)(kind:Int):List T->List U->List U->Nat->List T × List Cf
 |[],us,vs,n=>Fx at' kind n (Ih us) (Ih vs)
 |k::ks,us,vs,n=>
  let g:=Fx at' kind n (Ih us) (Ih vs)
  let u:=B6 mg (at'++[(0,(n:Int))]) k (de (FK us)) (de (FK vs))
  let r:=N7 mg at' kind ks (FK us).tail (FK vs).tail (n+1)
  (g.1++(u.1++r.1),g.2++(u.2++r.2))
open Classical in
noncomputable def S9(at':Di)(o:T)(p q:E):T × List Cf:=
 if p.kind=0 then (JG q o,[])else if q.kind=0 then (JG p o,[])else if JG p o=JG q o then (JG p o,[])else (Af o,[⟨at',Af o,JG p o,JG q o⟩])
noncomputable def nR(mg:Di->T->E->E->T × List Cf)(at':Di)(o:T)(p q:E):T × List Cf:=
 (Af (.mk 1 ((List.range (DK (DK o.words.length p.words) q.words)).map fun i:Nat=>JE (o.words.getD i 0) (CS p.words i) (CS q.words i))
  ((List.range (CV (CV o.kids.length p.kids) q.kids)).map fun i:Nat=>(mg (at'++[(0,(i:Int))]) (o.kids.getD i T0) (Ek p.kids i) (Ek q.kids i)).1)),
  (List.range (DK (DK o.words.length p.words) q.words)).flatMap (fun i:Nat=>Qb at' i (o.words.getD i 0) (CS p.words i) (CS q.words i)) ++
  (List.range (CV (CV o.kids.length p.kids) q.kids)).flatMap fun i:Nat=>(mg (at'++[(0,(i:Int))]) (o.kids.getD i T0) (Ek p.kids i) (Ek q.kids i)).2)
noncomputable def mg:Nat->Di->T->E->E->T × List Cf
 |0,at',o,p,q=>S9 at' o p q
 |f+1,at',o,p,q=>if p.kind=2/\q.kind=2 then nR (mg f) at' o p q
  else if p.kind=3/\q.kind=3 then (Af (.mk o.kind [] (N7 (mg f) at' o.kind o.kids (Mc p.ops) (Mc q.ops) 0).1),(N7 (mg f) at' o.kind o.kids (Mc p.ops) (Mc q.ops) 0).2)
  else S9 at' o p q
theorem FQ{a b:List Int}{p:Nat}{ws:List WE}(h:Jn a b p ws):∀w,w∈ws->∃i:Nat,w.at_=i/\p<=i/\i<max a.length b.length/\0<w.mask/\w.mask<256:=by
 induction h with
 |nil p h=>intro w hw;simp at hw
 |cons p i m o n ws hp h hi hm ho hn h1 h2 _ ih=>
  intro w hw;rcases List.mem_cons.1 hw with rfl|hw
  ·exact⟨i,rfl,hp,hi,hm.1,hm.2⟩
  ·obtain⟨j,k1,k2,k3,k4⟩:=ih w hw;exact⟨j,k1,oF,k3,k4⟩
theorem xB{a b:List Int}{p:Nat}{ws:List WE}(h:Jn a b p ws):∀i:Nat,p<=i->(∀w,w∈ws->w.at_<(i:Int))->a.getD i 0=b.getD i 0:=by
 induction h with
 |nil p h=>intro i hi _;exact h i hi
 |cons p i m o n ws hp h hi hm ho hn h1 h2 _ ih=>
  intro j hj hw;have:((i:Nat):Int)<(j:Int):=hw ⟨i,m,o,n⟩ iS;exact ih j oF fun w h=>hw w (List.mem_cons_of_mem _ h)
theorem sS{a b:List Int}{p:Nat}{ws:List WE}(h:Jn a b p ws):∀x,ws.getLast? = some x->∀w,w∈ws->w.at_<=x.at_:=by
 induction h with
 |nil p h=>intro x hx;simp at hx
 |cons p i m o n ws hp h hi hm ho hn h1 h2 g ih=>
  intro x hx w hw;cases ws with
  |nil=>
   simp at hx hw;rw[<-hx,hw];exact Int.le_refl _
  |cons y ys=>
   rw[List.getLast?_cons_cons]at hx;rcases List.mem_cons.1 hw with rfl|hw
   ·have k:=ih x hx y iS;obtain⟨j,k1,k2,_⟩:=FQ g y iS;have:((i:Nat):Int)<=x.at_:=oF
    exact this
   ·exact ih x hx w hw
theorem cd{a b:List Int}:∀(m p:Nat)(ws:List WE),Jn a b p ws->lJ a m p ws=some ((List.range' p m).map fun j=>b.getD j 0)
 |0,p,ws,h=>by rw[lJ];rfl
 |m+1,p,ws,h=>by
  rw[List.range'_succ,List.map_cons];cases h with
  |nil _ h=>
   rw[gA (fun x xs e=>by cases e),cd m (p+1) [] (.nil _ fun i hi=>h i oF),h p (CX _)];rfl
  |cons _ i mk o n ws hp h hi hm ho hn h1 h2 g=>
   by_cases e:p=i
   ·subst e;rw[zV rfl ho,cd m (p+1) ws g];simp only[h1];rfl
   ·rw[gA (fun x xs ex=>by cases ex;show((i:Nat):Int)≠(p:Int);omega),cd m (p+1) _ (.cons (p+1) i mk o n ws oF (fun j h1 h2=>h j oF h2) hi hm ho hn h1 h2 g),h p (CX _) oF];rfl
theorem Fz{R:E->T->T->Prop}{a b:List T}{p:Nat}{ks:List KE}(h:MA R a b p ks):∀w,w∈ks->∃i:Nat,w.at_=i/\p<=i/\i<max a.length b.length/\w.e.kind≠0/\R w.e (a.getD i T0) (b.getD i T0):=by
 induction h with
 |nil p h=>intro w hw;simp at hw
 |cons p i e ks hp h hi he hr _ ih=>
  intro w hw;rcases List.mem_cons.1 hw with rfl|hw
  ·exact⟨i,rfl,hp,hi,he,hr⟩
  ·obtain⟨j,k1,k2,k3⟩:=ih w hw;exact⟨j,k1,oF,k3⟩
theorem yr{R:E->T->T->Prop}{a b:List T}{p:Nat}{ks:List KE}(h:MA R a b p ks):∀i:Nat,p<=i->(∀w,w∈ks->w.at_<(i:Int))->Af (a.getD i T0)=Af (b.getD i T0):=by
 induction h with
 |nil p h=>intro i hi _;exact h i hi
 |cons p i e ks hp h hi he hr _ ih=>
  intro j hj hw;have:((i:Nat):Int)<(j:Int):=hw (.mk i e) iS;exact ih j oF fun w h=>hw w (List.mem_cons_of_mem _ h)
theorem VB{R:E->T->T->Prop}{a b:List T}{p:Nat}{ks:List KE}(h:MA R a b p ks):∀x,ks.getLast? = some x->∀w,w∈ks->w.at_<=x.at_:=by
 induction h with
 |nil p h=>intro x hx;simp at hx
 |cons p i e ks hp h hi he hr g ih=>
  intro x hx w hw;cases ks with
  |nil=>
   simp at hx hw;rw[<-hx,hw];exact Int.le_refl _
  |cons y ys=>
   rw[List.getLast?_cons_cons]at hx;rcases List.mem_cons.1 hw with rfl|hw
   ·have k:=ih x hx y iS;obtain⟨j,k1,k2,_⟩:=Fz g y iS;have:((i:Nat):Int)<=x.at_:=oF
    exact this
   ·exact ih x hx w hw
theorem b7{R:E->T->T->Prop}(hR:∀e x y,R e x y->xn e x=some (Af y)){a b:List T}:∀(m p:Nat)(ks:List KE),MA R a b p ks->∃L,oM a m p (Rs ks)=some L/\L.length=m/\∀j,j<m->Af (L.getD j T0)=Af (b.getD (p+j) T0)
 |0,p,ks,h=>⟨[],by rw[oM],rfl,fun j hj=>oF⟩
 |m+1,p,ks,h=>by
  have ext:∀(u:T)(L:List T),Af u=Af (b.getD p T0)->L.length=m->(∀j,j<m->Af (L.getD j T0)=Af (b.getD (p+1+j) T0))->(u::L).length=m+1/\∀j,j<m+1->Af ((u::L).getD j T0)=Af (b.getD (p+j) T0):=fun u L h0 h1 h2=>by
   refine⟨by simp[h1],fun j hj=>?_⟩;cases j with
   |zero=>simpa using h0
   |succ j=>
    have:=h2 j oF;rw[show p+(j+1)=p+1+j from oF];simpa using this
  cases h with
  |nil _ h=>
   obtain⟨L,k1,k2,k3⟩:=b7 hR m (p+1) [] (.nil _ fun i hi=>h i oF);rw[Rs]at k1 ⊢;refine⟨a.getD p T0::L,by rw[dx (fun x xs e=>by cases e),k1];rfl,ext _ _ (h p (CX _)) k2 k3⟩
  |cons _ i e ks hp h hi he hr g=>
   by_cases ep:p=i
   ·subst ep;obtain⟨L,k1,k2,k3⟩:=b7 hR m (p+1) ks g;refine⟨Af (b.getD p T0)::L,?_,ext _ _ (B8 _) k2 k3⟩;rw[Rs,y4 rfl (hR _ _ _ hr),k1];rfl
   ·obtain⟨L,k1,k2,k3⟩:=b7 hR m (p+1) (.mk i e::ks) (.cons (p+1) i e ks oF (fun j h1 h2=>h j oF h2) hi he hr g);refine⟨a.getD p T0::L,?_,ext _ _ (h p (CX _) oF) k2 k3⟩;rw[Rs]at k1 ⊢;rw[dx (fun x xs ex=>by cases ex;show((i:Nat):Int)≠(p:Int);omega),k1];rfl
theorem me:∀{l m:List T},l.map Af=m.map Af->(l.zip m).all (fun p=>J2 p.1 p.2)=true
 |[],[],_=>rfl
 |[],y::m,h=>by simp at h
 |x::l,[],h=>by simp at h
 |x::l,y::m,h=>by
  rw[List.map_cons,List.map_cons]at h;rw[List.zip_cons_cons,List.all_cons,Bool.and_eq_true];exact⟨eqT_iff.2 (List.cons.inj h).1,me (List.cons.inj h).2⟩
theorem yd{R:E->T->T->Prop}(hR:∀e x y,R e x y->xn e x=some (Af y)){os:List OP}{a b:List T}(h:LdO R os a b):∀(tk:List T)(i:Nat),tk.drop i=a->i<=tk.length->∃B,Wz tk i (ay os)=some (B,tk.length)/\B.map Af=b.map Af:=by
 induction h with
 |nil=>
  intro tk i hd hi;have:tk.length<=i:=by simpa using hd
  exact⟨[],by rw[ay,Wz,show i=tk.length from oF],rfl⟩
 |@keep os a b l m hne hl _ ih=>
  intro tk i hd hi;have hlen:tk.length-i=l.length+a.length:=by rw[<-List.length_drop,hd,List.length_append]
  have hd2:tk.drop (i+l.length)=a:=by rw[<-List.drop_drop,hd,List.drop_left]
  obtain⟨B,k1,k2⟩:=ih tk (i+l.length) hd2 oF;refine⟨l++B,?_,by rw[List.map_append,List.map_append,hl,k2]⟩;rw[ay,Wz,if_pos rfl,Int.toNat_natCast,if_pos oF,k1,hd,List.take_left];rfl
 |@del os a b l m hne hl _ ih=>
  intro tk i hd hi;have hlen:tk.length-i=m.length+a.length:=by rw[<-List.length_drop,hd,List.length_append]
  have hl2:l.length=m.length:=by simpa using congrArg List.length hl
  have hd2:tk.drop (i+l.length)=a:=by rw[<-List.drop_drop,hd,hl2,List.drop_left]
  obtain⟨B,k1,k2⟩:=ih tk (i+l.length) hd2 oF;refine⟨B,?_,k2⟩;rw[ay,Wz,if_neg dO,if_pos rfl,if_pos ⟨oF,by rw[hd,hl2,List.take_left];exact me hl.symm⟩,k1]
 |@ins os a b l m hne hl _ ih=>
  intro tk i hd hi;obtain⟨B,k1,k2⟩:=ih tk i hd hi;refine⟨l++B,?_,by rw[List.map_append,List.map_append,hl,k2]⟩;rw[ay,Wz,if_neg dO,if_neg dO,if_pos rfl,k1];rfl
 |@desc os a b e x y hr _ ih=>
  intro tk i hd hi;have hlen:tk.length-i=a.length+1:=by rw[<-List.length_drop,hd,List.length_cons]
  have hd2:tk.drop (i+1)=a:=by rw[<-List.drop_drop,hd];rfl
  have hx:tk[i]? = some x:=by
   have:=congrArg (fun l:List T=>l[0]?) hd;simpa using this
  obtain⟨B,k1,k2⟩:=ih tk (i+1) hd2 oF;refine⟨Af y::B,?_,by rw[List.map_cons,List.map_cons,k2,B8]⟩;rw[ay,Wz,if_neg dO,if_neg dO,if_neg dO,hx];dsimp only;rw[hR _ _ _ hr];dsimp only;rw[k1];rfl
theorem cI{e:E}{a b:T}(h:mH e a b):xn e a=some (Af b):=by
 rcases h with ⟨rfl,h⟩|⟨o,n,rfl,h1,h2⟩
 ·rw[VE,Wx,if_pos rfl,h]
 ·rw[VE,Wx,if_neg dO,if_pos rfl,if_pos (eqT_iff.2 h1),h2]
theorem Ab4:∀(f:Nat)(e:E)(a b:T),Ld f e a b->xn e a=some (Af b):=by
 intro f;induction f with
 |zero=>exact fun e a b h=>cI h
 |succ f ih=>
  intro e a b h;rcases h with h|⟨ws,ks,rfl,h1,h2,h3,h4⟩|⟨os,rfl,h1,h2,hv,h3⟩
  ·exact cI h
  ·obtain⟨L,k1,k2,k3⟩:=b7 ih (Y4 (Rs ks) a.kids.length) 0 ks h4;rw[VE,Wx,if_neg dO,if_neg dO,if_pos rfl,if_pos h1,cd _ 0 ws h3,k1];dsimp only;obtain⟨kb,wb,lb⟩:=b;have h2:kb=1:=h2;subst h2;congr 1;refine struct_eq.2 ⟨fun i=>?_,fun i=>?_⟩
   ·by_cases hi:i<YN ws a.words.length
    ·simp[List.getD_eq_getElem?_getD,hi,List.getElem?_range']
    ·have hl:∀w,w∈ws->w.at_<(i:Int):=fun w hw=>by
      unfold YN at hi;cases e:ws.getLast? with
      |none=>rw[List.getLast?_eq_none_iff.1 e]at hw;simp at hw
      |some x=>
       rw[e]at hi;have:=sS h3 x e w hw;simp only at hi;omega
     have hal:a.words.length<=i:=by
      unfold YN at hi;split at hi<;>omega
     have:=xB h3 i (Nat.zero_le _) hl;have e1:a.words.getD i 0=0:=by rw[List.getD_eq_getElem?_getD,List.getElem?_eq_none hal];rfl
     have e2:((List.range' 0 (YN ws a.words.length)).map fun j=>wb.getD j 0).getD i 0=0:=by rw[List.getD_eq_getElem?_getD,List.getElem?_eq_none (by simp;omega)];rfl
     have e3:wb.getD i 0=0:=this.symm.trans e1;exact e2.trans e3.symm
   ·by_cases hi:i<Y4 (Rs ks) a.kids.length
    ·have:=k3 i hi;rw[Nat.zero_add]at this;exact this
    ·have hl:∀w,w∈ks->w.at_<(i:Int):=fun w hw=>by
      unfold Y4 at hi;rw[dw,List.getLast?_map]at hi;cases e:ks.getLast? with
      |none=>rw[List.getLast?_eq_none_iff.1 e]at hw;simp at hw
      |some x=>
       rw[e]at hi;have:=VB h4 x e w hw;simp only[Option.map_some]at hi;omega
     have hal:a.kids.length<=i:=by
      unfold Y4 at hi;split at hi<;>omega
     have:=yr h4 i (Nat.zero_le _) hl;have e1:a.kids.getD i T0=T0:=by rw[List.getD_eq_getElem?_getD,List.getElem?_eq_none hal];rfl
     have e2:L.getD i T0=T0:=by rw[List.getD_eq_getElem?_getD,List.getElem?_eq_none oF];rfl
     have e3:Af (lb.getD i T0)=Af T0:=this.symm.trans (by rw[e1]);rw[e2,e3]
  ·obtain⟨B,k1,k2⟩:=yd ih h3 a.kids 0 rfl (Nat.zero_le _);have n1:a.kind≠0:=oF
   rw[VE,Wx,if_neg dO,if_neg dO,if_neg dO,if_pos rfl,if_pos rfl,k1];dsimp only;rw[if_pos rfl];congr 1;obtain⟨kb,wb,lb⟩:=b;have h1:kb=a.kind:=h1;have hv2:wb=[]:=hv.2;subst h1;subst hv2;exact(LI n1 oF).2 ⟨rfl,k2⟩
theorem HS{f:Nat}{e:E}{a b:T}(h:Ld f e a b):JG e a=Af b:=by rw[JG,Ab4 f e a b h];rfl
def AfI(c:Cf):Cf:=⟨c.path,c.base,c.theirs,c.ours⟩
def Lk(m:Int):Prop:=0<=m/\m<256
theorem OJ{a b:WE}(ha:Lk a.mask)(hb:Lk b.mask):FX b a=FX a b:=by
 unfold FX;rw[jD hb ha];exact decide_eq_decide.2 ⟨Ne.symm,Ne.symm⟩
theorem pW{a b:WE}(ha:Lk a.mask)(hb:Lk b.mask)(h:¬FX a b=true){i:Nat}(hi:i<8)(h1:AH a.mask i=true)(h2:AH b.mask i=true):AP a.new i=AP b.new i:=by
 have h:A5 0 a.new (Db a.mask b.mask)=A5 0 b.new (Db a.mask b.mask):=by simpa[FX]using h
 have:=congrArg (fun x=>AP x i) h;simp only[Bt _ _ _ hi,Mv ha hb,h1,h2,Bool.and_self,if_true]at this;exact this
theorem qu{a b:WE}(ha:Lk a.mask)(hb:Lk b.mask)(w:Int):JE w b a=JE w a b:=by
 unfold JE;rw[OJ ha hb];by_cases c:FX a b=true
 ·rw[if_pos c,if_pos c]
 ·rw[if_neg c,if_neg c];refine HG (BL _ _ _) (BL _ _ _) fun i hi=>?_;rw[Bt _ _ _ hi,Bt _ _ _ hi,Bt _ _ _ hi,Bt _ _ _ hi];by_cases h1:AH a.mask i=true
  ·by_cases h2:AH b.mask i=true
   ·rw[if_pos h1,if_pos h2,pW ha hb c hi h1 h2]
   ·rw[if_pos h1,if_neg h2,if_pos h1]
  ·by_cases h2:AH b.mask i=true
   ·rw[if_neg h1,if_pos h2,if_pos h2]
   ·rw[if_neg h1,if_neg h2,if_neg h2,if_neg h1]
theorem uf{a b:WE}(ha:Lk a.mask)(hb:Lk b.mask)(at':Di)(i:Nat)(w:Int):Qb at' i w b a=(Qb at' i w a b).map AfI:=by
 unfold Qb;rw[OJ ha hb];split<;>rfl
theorem Ss{ws:List WE}(h:∀w,w∈ws->Lk w.mask)(i:Nat):Lk (CS ws i).mask:=by
 unfold CS;cases e:ws.find? fun w=>decide (w.at_=(i:Int)) with
 |none=>exact⟨dO,dO⟩
 |some w=>exact h w (List.mem_of_find?_eq_some e)
theorem EK:∀(ws:List WE)(n:Nat),DK n ws=max n (DK 0 ws)
 |[],n=>by simp[DK]
 |w::ws,n=>by
  have e:∀n,DK n (w::ws)=DK (max n (w.at_+1).toNat) ws:=fun n=>rfl;rw[e,e,EK ws,EK ws (max 0 _)];omega
theorem HJ:∀(ws:List KE)(n:Nat),CV n ws=max n (CV 0 ws)
 |[],n=>by simp[CV]
 |w::ws,n=>by
  have e:∀n,CV n (w::ws)=CV (max n (w.at_+1).toNat) ws:=fun n=>rfl;rw[e,e,HJ ws,HJ ws (max 0 _)];omega
section
variable {P:E->Prop} {M:Di->T->E->E->T × List Cf}
end
theorem gP{P:E->Prop}(h0:P E0){ks:List KE}(h:∀x,x∈ks->P x.e)(i:Nat):P (Ek ks i):=by
 unfold Ek;cases e:ks.find? fun k=>decide (k.at_=(i:Int)) with
 |none=>exact h0
 |some w=>exact h w (List.mem_of_find?_eq_some e)
theorem fj{p:E}(h:p.kind=0)(o:T):JG p o=Af o:=by
 obtain⟨k,x,y,ws,ks,l,os⟩:=p;have h:k=0:=h;rw[JG,VE,Wx,if_pos h];rfl
inductive LdU(R:E->T->T->Prop):List U->List T->List T->Prop
 |nil:LdU R [] [] []
 |keep {us:List U} {a b:List T} (x y:T) (h:Af x=Af y) (g:LdU R us a b):LdU R (.keep::us) (x::a) (y::b)
 |del {us:List U} {a b:List T} (t x:T) (h:Af t=Af x) (g:LdU R us a b):LdU R (.del t::us) (x::a) b
 |ins {us:List U} {a b:List T} (t y:T) (h:Af t=Af y) (g:LdU R us a b):LdU R (.ins t::us) a (y::b)
 |desc {us:List U} {a b:List T} (e:E) (x y:T) (h:R e x y) (g:LdU R us a b):LdU R (.desc e::us) (x::a) (y::b)
theorem Y8{R:E->T->T->Prop}{us:List U}{a b:List T}(g:LdU R us a b):∀{l m:List T},l.map Af=m.map Af->LdU R (List.replicate l.length .keep++us) (l++a) (m++b)
 |[],[],_=>g
 |[],y::m,h=>by simp at h
 |x::l,[],h=>by simp at h
 |x::l,y::m,h=>by
  rw[List.map_cons,List.map_cons]at h;exact .keep x y (List.cons.inj h).1 (Y8 g (List.cons.inj h).2)
theorem fc{R:E->T->T->Prop}{us:List U}{a b:List T}(g:LdU R us a b):∀{l m:List T},l.map Af=m.map Af->LdU R (l.map .del++us) (m++a) b
 |[],[],_=>g
 |[],y::m,h=>by simp at h
 |x::l,[],h=>by simp at h
 |x::l,y::m,h=>by
  rw[List.map_cons,List.map_cons]at h;exact .del x y (List.cons.inj h).1 (fc g (List.cons.inj h).2)
theorem dg{R:E->T->T->Prop}{us:List U}{a b:List T}(g:LdU R us a b):∀{l m:List T},l.map Af=m.map Af->LdU R (l.map .ins++us) a (m++b)
 |[],[],_=>g
 |[],y::m,h=>by simp at h
 |x::l,[],h=>by simp at h
 |x::l,y::m,h=>by
  rw[List.map_cons,List.map_cons]at h;exact .ins x y (List.cons.inj h).1 (dg g (List.cons.inj h).2)
theorem DN(o:OP)(os:List OP):Mc (o::os)=Qz o++Mc os:=rfl
theorem ZA{R:E->T->T->Prop}{os:List OP}{a b:List T}(h:LdO R os a b):LdU R (Mc os) a b:=by
 induction h with
 |nil=>exact .nil
 |keep l m hne hl _ ih=>
  rw[DN];have:=Y8 ih hl;simpa[Qz]using this
 |del l m hne hl _ ih=>
  rw[DN];have:=fc ih hl;simpa[Qz]using this
 |ins l m hne hl _ ih=>
  rw[DN];have:=dg ih hl;simpa[Qz]using this
 |desc e x y r _ ih=>
  rw[DN];have:=LdU.desc e x y r ih;simpa[Qz]using this
theorem ZI{R:E->T->T->Prop}{us:List U}{a b:List T}(h:LdU R us a b):∃y1 y2,b=y1++y2/\(Ih us).map Af=y1.map Af/\LdU R (FK us) a y2/\∀t vs,FK us≠.ins t::vs:=by
 induction h with
 |nil=>exact⟨[],[],rfl,rfl,.nil,fun t vs e=>by cases e⟩
 |keep x y h g _=>exact⟨[],_,rfl,rfl,.keep x y h g,fun t vs e=>by cases e⟩
 |del t x h g _=>exact⟨[],_,rfl,rfl,.del t x h g,fun t vs e=>by cases e⟩
 |desc e x y h g _=>exact⟨[],_,rfl,rfl,.desc e x y h g,fun t vs e=>by cases e⟩
 |ins t y h g ih=>
  obtain⟨y1,y2,rfl,h1,h2,h3⟩:=ih;exact⟨y::y1,y2,rfl,by rw[Ih,List.map_cons,List.map_cons,h,h1],h2,h3⟩
theorem ax{a b:List Int}(ha:∀x,x∈a->Bs x){p:Nat}{ws:List WE}(h:Jn a b p ws):∀i:Nat,p<=i->A5 (a.getD i 0) (CS ws i).new (CS ws i).mask=b.getD i 0:=by
 induction h with
 |nil p h=>
  intro i hi;show A5 _ 0 0=_;rw[GL (Eb ha i)];exact h i hi
 |cons p i m o n ws hp h hi hm ho hn h1 h2 g ih=>
  intro j hj;unfold CS;rw[List.find?_cons];by_cases e:i=j
  ·subst e;simpa using h1
  ·rw[show decide (((⟨i,m,o,n⟩:WE)).at_=(j:Int))=false from decide_eq_false (by show ¬((i:Nat):Int)=(j:Int);omega)];by_cases c:i<j
   ·exact ih j oF
   ·have hn:ws.find? (fun w=>decide (w.at_=(j:Int)))=none:=List.find?_eq_none.2 fun w hw=>by
     obtain⟨k,k1,k2,_⟩:=FQ g w hw;simp;omega
    simp only[hn];show A5 _ 0 0=_;rw[GL (Eb ha j)];exact h j hj oF
theorem ai{R:E->T->T->Prop}(h0:∀x y,Af x=Af y->R E0 x y){a b:List T}{p:Nat}{ks:List KE}(h:MA R a b p ks):∀i:Nat,p<=i->R (Ek ks i) (a.getD i T0) (b.getD i T0):=by
 induction h with
 |nil p h=>exact fun i hi=>h0 _ _ (h i hi)
 |cons p i e ks hp h hi he hr g ih=>
  intro j hj;unfold Ek;rw[List.find?_cons];by_cases ei:i=j
  ·subst ei;simpa using hr
  ·rw[show decide ((KE.mk (i:Nat) e).at_=(j:Int))=false from decide_eq_false (by show ¬((i:Nat):Int)=(j:Int);omega)];by_cases c:i<j
   ·exact ih j oF
   ·have hn:ks.find? (fun w=>decide (w.at_=(j:Int)))=none:=List.find?_eq_none.2 fun w hw=>by
     obtain⟨k,k1,k2,_⟩:=Fz g w hw;simp;omega
    simp only[hn];exact h0 _ _ (h j hj oF)
theorem LN:∀{ws:List WE} {n:Nat} {w:WE},w∈ws->w.at_<DK n ws
 |x::ws,n,w,h=>by
  show w.at_<DK (max n (x.at_+1).toNat) ws;rcases List.mem_cons.1 h with rfl|h
  ·rw[EK];omega
  ·exact LN h
theorem Vr:∀{ws:List KE} {n:Nat} {w:KE},w∈ws->w.at_<CV n ws
 |x::ws,n,w,h=>by
  show w.at_<CV (max n (x.at_+1).toNat) ws;rcases List.mem_cons.1 h with rfl|h
  ·rw[HJ];omega
  ·exact Vr h
theorem Oi{α:Type}(g:Nat->α)(z:α)(n i:Nat)(h:n<=i->g i=z):((List.range n).map g).getD i z=g i:=by
 by_cases c:i<n
 ·simp[List.getD_eq_getElem?_getD,c]
 ·rw[List.getD_eq_getElem?_getD,List.getElem?_eq_none (by simp;omega),h oF];rfl
theorem aX{f:Nat}{at':Di}{o:T}{p q:E}(h:p.kind=0):mg f at' o p q=(JG q o,[]):=by
 cases f with
 |zero=>exact if_pos h
 |succ f=>rw[mg,if_neg oF,if_neg oF];exact if_pos h
end Go.Proofs.YtlaapfplenlfaaaGreat
namespace Go.Proofs.YtlaapfplenlfaaaGreat
set_option maxRecDepth 20000
open Go Go.G Go.Proofs
@[simp]theorem Als:DT Tryz.prog 35=some 1:=by kernel_rfl
@[simp]theorem Alc:DT Tryz.prog 49=some 1:=by kernel_rfl
@[simp]theorem AkM:DT Tryz.prog 51=some 10:=by kernel_rfl
@[simp]theorem AkL:DT Tryz.prog 65=some 2:=by kernel_rfl
@[simp]theorem AkV:DT Tryz.prog 66=some 1:=by kernel_rfl
@[simp]theorem Ai6:DT Tryz.prog 110=some 1:=by kernel_rfl
@[simp]theorem Aja:DT Tryz.prog 117=some 29:=by kernel_rfl
@[simp]theorem Akb:D6 Tryz.prog 35=some false:=by kernel_rfl
@[simp]theorem AiW:D6 Tryz.prog 49=some false:=by kernel_rfl
@[simp]theorem AjB:D6 Tryz.prog 66=some false:=by kernel_rfl
@[simp]theorem Aie:D6 Tryz.prog 110=some false:=by kernel_rfl
@[simp]theorem Afb:D6 Tryz.prog 117=some true:=by kernel_rfl
@[simp]theorem AgI:BQ Tryz.prog 22=some (Value.slice none 0 0):=by kernel_rfl
@[simp]theorem AgY:BQ Tryz.prog 27=some (Value.slice none 0 0):=by kernel_rfl
@[simp]theorem Aga:BQ Tryz.prog 51=some (Value.agg #[Value.slice none 0 0,Value.int i64 0,Value.slice none 0 0,Value.slice none 0 0,Value.int i64 0,Value.slice none 0 0,Value.slice none 0 0,Value.int i64 0,Value.slice none 0 0,Value.slice none 0 0]):=by kernel_rfl
@[simp]theorem AfT:BQ Tryz.prog 65=some (Value.agg #[Value.int i64 0,Value.int i64 0]):=by kernel_rfl
@[simp]theorem Adz:BQ Tryz.prog 117=some (Value.agg #[Value.int i64 0,Value.int i64 0,Value.int i64 0,Value.slice none 0 0,Value.int i64 0,Value.int i64 0,Value.slice none 0 0,Value.slice none 0 0,Value.int i64 0,Value.slice none 0 0,Value.slice none 0 0,Value.slice none 0 0,Value.slice none 0 0,Value.int i64 0,Value.slice none 0 0,Value.int i64 0,Value.int i64 0,Value.slice none 0 0,Value.int i64 0,Value.int i64 0,Value.slice none 0 0,Value.slice none 0 0,Value.int i64 0,Value.slice none 0 0,Value.slice none 0 0,Value.slice none 0 0,Value.slice none 0 0,Value.int i64 0,Value.slice none 0 0]):=by kernel_rfl
@[simp]theorem AdA:Cc Tryz.prog 51=some 192:=by kernel_rfl
@[simp]theorem AeJ:Cc Tryz.prog 65=some 16:=by kernel_rfl
@[simp]theorem AcR:Cc Tryz.prog 117=some 488:=by kernel_rfl
@[simp]theorem vS:Aj Tryz.prog 68 0=some 0:=by kernel_rfl
@[simp]theorem rH:Aj Tryz.prog 112 0=some 0:=by kernel_rfl
@[simp]theorem rn:Aj Tryz.prog 112 1=some 1:=by kernel_rfl
@[simp]theorem qT:Aj Tryz.prog 112 2=some 2:=by kernel_rfl
@[simp]theorem rB:Aj Tryz.prog 112 3=some 5:=by kernel_rfl
@[simp]theorem rA:Aj Tryz.prog 112 4=some 6:=by kernel_rfl
@[simp]theorem rE:Aj Tryz.prog 112 5=some 7:=by kernel_rfl
@[simp]theorem rz:Aj Tryz.prog 112 6=some 8:=by kernel_rfl
@[simp]theorem rv:Aj Tryz.prog 117 0=some 0:=by kernel_rfl
@[simp]theorem rp:Aj Tryz.prog 117 1=some 1:=by kernel_rfl
@[simp]theorem q9:Aj Tryz.prog 117 2=some 15:=by kernel_rfl
@[simp]theorem qQ:Aj Tryz.prog 179 0=some 0:=by kernel_rfl
@[simp]theorem rF:Aj Tryz.prog 179 1=some 1:=by kernel_rfl
@[simp]theorem AdD(ps:List (Nat × A)):Cz Tryz.prog 51 ps=(Dm (fun i=>([(0,1),(1,3),(4,3),(7,3)]:List (Nat × Nat))[i]?) [A.sl true [],iv 0,A.sl true [],A.sl true [],iv 0,A.sl true [],A.sl true [],iv 0,A.sl true [],A.sl true []] ps).map A.agg:=by kernel_rfl
@[simp]theorem Aep(ps:List (Nat × A)):Cz Tryz.prog 65 ps=(Dm (fun i=>([(0,1),(1,1)]:List (Nat × Nat))[i]?) [iv 0,iv 0] ps).map A.agg:=by kernel_rfl
@[simp]theorem AeC(ps:List (Nat × A)):Cz Tryz.prog 68 ps=(Dm (fun i=>([(0,1)]:List (Nat × Nat))[i]?) [A.sl true []] ps).map A.agg:=by kernel_rfl
@[simp]theorem AcY(ps:List (Nat × A)):Cz Tryz.prog 112 ps=(Dm (fun i=>([(0,1),(1,1),(2,3),(5,1),(6,1),(7,1),(8,1)]:List (Nat × Nat))[i]?) [A.v (Value.pointer none),A.sl true [],iv 0,A.sl true [],A.sl true [],iv 0,A.sl true [],A.sl true [],A.sl true []] ps).map A.agg:=by kernel_rfl
@[simp]theorem Abz(ps:List (Nat × A)):Cz Tryz.prog 117 ps=(Dm (fun i=>([(0,1),(1,14),(15,14)]:List (Nat × Nat))[i]?) [iv 0,iv 0,iv 0,A.sl true [],iv 0,iv 0,A.sl true [],A.sl true [],iv 0,A.sl true [],A.sl true [],A.sl true [],A.sl true [],iv 0,A.sl true [],iv 0,iv 0,A.sl true [],iv 0,iv 0,A.sl true [],A.sl true [],iv 0,A.sl true [],A.sl true [],A.sl true [],A.sl true [],iv 0,A.sl true []] ps).map A.agg:=by kernel_rfl
@[simp]theorem AbL(ps:List (Nat × A)):Cz Tryz.prog 179 ps=(Dm (fun i=>([(0,1),(1,1)]:List (Nat × Nat))[i]?) [A.sl true [],iv 0] ps).map A.agg:=by kernel_rfl
def Rr:CC:=sR [bX 1 91 0 [0],aI 2 0] [1] (sQ [fO 3 91 1 0,lO 4 3 3,bQ .eql 5 3 4 3 3] [1,5] (cD 5 (sR [aI 2 1] [2] (.ret)) (.skip)) [1] (sR [fO 6 91 1 1,lO 7 3 6,fO 8 91 1 2,lO 9 23 8,bN 10 9 23,bB .add 11 3 7 10 3,aO 2 11] [2] (.ret)))
theorem bc:BT Tryz.prog 166 12 [(.tmp 2)] Rr:=AA Tryz.func166
def JA:CC:=sR [aB 2 false] [0] (sR [mO 3 0,nC 4 3,fO 5 179 4 0,lO 6 28 5,bN 7 6 28,bQ .eql 8 3 7 0 3,aO 2 8] [2] (.ret))
theorem Pm:BT Tryz.prog 167 9 [(.tmp 2)] JA:=AA Tryz.func167
def H9:CC:=sR [aB 2 false] [0] (sR [mO 3 0,cA 4 167 3 177,oO 5 (.unOp .not 4 (xT 4)),mO 6 5,mG 7 0 6 true,oG 8 (.nilCheck (xT 7)) 6 true,fG 9 179 8 0 6 true,lG 10 28 9 6 true,oG 11 (.indexAddr 28 (xT 10) (nI 0)) 6 true,fG 12 91 11 0 6 true,lG 13 3 12 6 true,mG 14 0 6 true,oG 15 (.nilCheck (xT 14)) 6 true,fG 16 179 15 1 6 true,lG 17 3 16 6 true,oG 18 (bO .eql 3 13 17 3) 6 true,pF 19 6 18,aO 2 19] [2] (.ret))
theorem Nj:BT Tryz.prog 164 20 [(.tmp 2)] H9:=AA Tryz.func164
def F9:CC:=sR [mO 50 0,lO 51 91 7,⟨some 52,(.buildSlice 28 1 #[(0,(xT 51))]),none,[5],2,[],true⟩,mO 53 0,nC 54 53,fO 55 179 54 0,⟨some 56,(lD 28 55),none,[],6,[2],false⟩,oO 57 (.slice 28 (xT 56) (some (nI 1)) none none),aP 58 52 57 28 28 [5],nC 59 50,fO 60 179 59 0,sT 28 60 58] [4,6] (sR [lO 61 91 6,sT 91 4 61] [4] (.ret)) 
def Jv:CC:=sR [aL 4 91 [1]] [0,1,4] (sR [mO 8 0,nC 9 8,fO 10 179 9 0,lO 11 28 10,oO 12 (.indexAddr 28 (xT 11) (nI 0)),lO 13 91 12,aL 5 91 [2],sT 91 5 13] [0,1,4,5] (sQ [mO 14 1,lO 15 91 5,cA 16 166 15 91,bB .geq 17 3 14 16 3] [0,1,4,5,17] (cD 17 (sR [mO 18 0,mO 19 0,nC 20 19,fO 21 179 20 0,lO 22 28 21,oO 23 (.slice 28 (xT 22) (some (nI 1)) none none),nC 24 18,fO 25 179 24 0,sT 28 25 23] [4,5] (sR [lO 26 91 5,sT 91 4 26] [4] (.ret))) (.skip)) [0,1,4,5] (sR [lS 27 91 5 0,lS 28 91 5 1,⟨some 6,(.alloc 91),none,[3],2,[0,1],true⟩,⟨some 7,(.alloc 91),none,[4],3,[0,1,2],false⟩,⟨none,(.store 91 (xT 6) (xT 27)),none,[],4,[1],false⟩,sT 91 7 28] [0,1,4,5,6,7] (sQ [fO 29 91 5 0,lO 30 3 29,bQ .eql 31 3 30 0 3] [0,1,4,5,6,7,31] (cD 31 (.reg [mO 32 1,fO 33 91 5 1,lS 34 3 33 2,mO 35 1,bB .sub 36 3 34 35 3,fO 37 91 6 1,⟨none,(.store 3 (xT 37) (xT 32)),none,[],6,[2],false⟩,fO 38 91 7 1,sT 3 38 36] [0,4,6,7]) (.reg [fO 39 91 5 2,lO 40 23 39,mO 41 1,mO 42 1,oO 43 (.slice 23 (xT 40) none (some (xT 41)) (some (xT 42))),fO 44 91 5 2,lS 45 23 44 6,mO 46 1,oO 47 (.slice 23 (xT 45) (some (xT 46)) none none),fO 48 91 6 2,⟨none,(.store 23 (xT 48) (xT 43)),none,[],10,[6],false⟩,fO 49 91 7 2,sT 23 49 47] [0,4,6,7])) [0,4,6,7] F9))))
theorem Pn:BT Tryz.prog 165 62 [(.cell 4 91)] Jv:=AA Tryz.func165
def Fi:CC:=.block 1 (.block 2 (sR [mO 34 0,cA 35 164 34 177,aO 33 35] [0,1,6,33] (cD 33 (.reg [mO 36 6,mO 37 0,mO 38 0,nC 39 38,fO 40 179 39 0,lO 41 28 40,oO 42 (.indexAddr 28 (xT 41) (nI 0)),lO 43 91 42,cA 44 166 43 91,cB 45 165 37 44 177 3,oO 46 (.build 117 #[(0,(nI 1)),(1,(xT 45))]),oO 47 (.buildSlice 113 1 #[(0,(xT 46))]),aP 48 36 47 113 113 [2],aO 6 48] [0,1,6]) (sR [mO 50 1,cA 51 164 50 177,aO 49 51] [0,1,6,49] (cD 49 (.reg [mO 52 6,mO 53 1,mO 54 1,nC 55 54,fO 56 179 55 0,lO 57 28 56,oO 58 (.indexAddr 28 (xT 57) (nI 0)),lO 59 91 58,cA 60 166 59 91,cB 61 165 53 60 177 3,oO 62 (.build 117 #[(0,(nI 2)),(2,(xT 61))]),oO 63 (.buildSlice 113 1 #[(0,(xT 62))]),aP 64 52 63 113 113 [3],aO 6 64] [0,1,6]) (sR [mO 66 0,cA 67 167 66 177,mO 68 67,mG 69 1 68 false,oG 70 (cL 167 #[(xT 69)] #[177]) 68 false,pT 71 68 70,aO 65 71] [0,1,6,65] (cD 65 (sQ [mO 72 0,cA 73 167 72 177,mO 74 1,cA 75 167 74 177,bB .neq 76 4 73 75 4] [6,76] (cD 76 (sR [aN 4,aB 5 false] [4,5] (.ret)) (.skip)) [6] (sR [mO 77 6,aO 4 77,aB 5 true] [4,5] (.ret))) (sR [mO 8 0,nC 9 8,fO 10 179 9 0,lO 11 28 10,oO 12 (.indexAddr 28 (xT 11) (nI 0)),lO 13 91 12,⟨some 14,(cL 166 #[(xT 13)] #[91]),none,[],6,[],true⟩,mO 15 1,nC 16 15,fO 17 179 16 0,⟨some 18,(lD 28 17),none,[],10,[6],false⟩,oO 19 (.indexAddr 28 (xT 18) (nI 0)),⟨some 20,(lD 91 19),none,[],12,[6],false⟩,cA 21 166 20 91,oO 22 (bC .min #[(xT 14),(xT 21)] #[3,3]),aO 7 22] [0,1,6,7] (.reg [mO 23 6,mO 24 0,mO 25 7,cB 26 165 24 25 177 3,mO 27 1,mO 28 7,cB 29 165 27 28 177 3,oO 30 (.build 117 #[(1,(xT 26)),(2,(xT 29))]),oO 31 (.buildSlice 113 1 #[(0,(xT 30))]),aP 32 23 31 113 113 [4],aO 6 32] [0,1,6]))))))))) 
def QM:CC:=sR [aN 4,aB 5 false] [0,1] (sR [aN 6] [0,1,6] (.block 0 (.loop Fi)))
theorem aY:BT Tryz.prog 133 78 [(.tmp 4),(.tmp 5)] QM:=AA Tryz.func133
def MT:CC:=sR [aN 4,aB 5 false] [0,1] (sR [mO 6 0,oO 7 (.build 179 #[(0,(xT 6)),(1,(nI 2))]),bX 8 179 7 [0],mO 9 1,oO 10 (.build 179 #[(0,(xT 9)),(1,(nI 2))]),bX 11 179 10 [1],cB 12 133 8 11 177 177,xO 13 12 0,xO 14 12 1,aO 4 13,aO 5 14] [4,5] (.ret))
theorem Ut:BT Tryz.prog 86 15 [(.tmp 4),(.tmp 5)] MT:=AA Tryz.func86
def BV:CC:=sR [aN 2] [0] (sQ [mO 3 0,oO 4 (.binOp .eql 49 (xT 3) nS 49)] [0,4] (cD 4 (sR [aN 2] [2] (.ret)) (.skip)) [0] (sR [oO 5 (.buildSlice 49 0 #[]),mO 6 0,aP 7 5 6 49 49 [0],aO 2 7] [2] (.ret)))
theorem CG:BT Tryz.prog 91 8 [(.tmp 2)] BV:=AA Tryz.func91
def IP:CC:=sR [bX 7 25 2 [1],bX 8 25 3 [2],bX 9 25 4 [3],aL 10 25 [4]] [0,1,7,8,9,10] (sR [mO 11 0,mO 12 0,nC 13 12,fO 14 68 13 0,lS 15 35 14 4,mO 16 1,⟨some 17,(cL 91 #[(xT 16)] #[49]),none,[],6,[4],true⟩,⟨some 18,(lD 25 7),none,[],7,[6],false⟩,⟨some 19,(cL 35 #[(xT 18)] #[25]),none,[],8,[4],true⟩,⟨some 20,(lD 25 8),none,[],9,[6,8],false⟩,⟨some 21,(cL 35 #[(xT 20)] #[25]),none,[],10,[4],true⟩,⟨some 22,(lD 25 9),none,[],11,[6,8,10],false⟩,⟨some 23,(cL 35 #[(xT 22)] #[25]),none,[],12,[4],false⟩,oO 24 (.build 51 #[(0,(xT 17)),(1,(xT 19)),(2,(xT 21)),(3,(xT 23))]),⟨some 25,(.buildSlice 35 1 #[(0,(xT 24))]),none,[],14,[4],false⟩,aP 26 15 25 35 35 [5],nC 27 11,fO 28 68 27 0,sT 35 28 26] [7,10] (sR [lO 29 25 7,sT 25 10 29] [10] (.ret)))
theorem NH:BT Tryz.prog 58 30 [(.cell 10 25)] IP:=AA Tryz.func58
def MZ:CC:=sR [aN 6] [0,1,2] (sR [mO 7 0,mO 8 0,bN 9 8 49,mO 10 0,bN 11 10 49,oO 12 (.slice 49 (xT 7) none (some (xT 9)) (some (xT 11))),mO 13 1,mO 14 2,oO 15 (.build 65 #[(0,(xT 13)),(1,(xT 14))]),oO 16 (.buildSlice 49 1 #[(0,(xT 15))]),aP 17 12 16 49 49 [0],aO 6 17] [6] (.ret))
theorem Un:BT Tryz.prog 84 18 [(.tmp 6)] MZ:=AA Tryz.func84
def Sb:CC:=sR [bX 2 30 0 [0],bX 3 25 1 [1],aL 4 25 [2]] [2,3,4] (sR [lO 8 30 2,lO 9 25 3,cB 10 25 8 9 30 25,mO 7 10,xO 11 7 0,xO 12 7 1,aL 5 25 [3],sT 25 5 11,aO 6 12] [4,5] (sR [lO 13 25 5,sT 25 4 13] [4] (.ret)))
theorem au:BT Tryz.prog 54 14 [(.cell 4 25)] Sb:=AA Tryz.func54
def Ca:CC:=sR [bX 7 25 2 [1],bX 8 30 3 [2],bX 9 30 4 [3],aL 10 25 [4]] [0,1,7,8,9,10] (.seq (.block 0 (sR [fO 14 30 8 0,lO 15 3 14,bQ .eql 16 3 15 0 3,aO 13 16] [0,1,7,8,9,10,13] (cD 13 (sR [lO 17 30 9,lO 18 25 7,cB 19 54 17 18 30 25,sT 25 10 19] [10] (.ret)) (sR [fO 21 30 9 0,lO 22 3 21,bQ .eql 23 3 22 0 3,aO 20 23] [0,1,7,8,9,10,20] (cD 20 (sR [lO 24 30 8,lO 25 25 7,cB 26 54 24 25 30 25,sT 25 10 26] [10] (.ret)) (sR [fO 28 30 8 0,lO 29 3 28,bQ .eql 30 3 29 2 3,mO 31 30,fG 32 30 9 0 31 true,lG 33 3 32 31 true,oG 34 (.binOp .eql 3 (xT 33) (nI 2) 3) 31 true,pF 35 31 34,aO 27 35] [0,1,7,8,9,10,27] (cD 27 (sR [mO 36 0,mO 37 1,lO 38 25 7,lO 39 30 8,lO 40 30 9,oO 41 (cL 55 #[(xT 36),(xT 37),(xT 38),(xT 39),(xT 40)] #[66,49,25,30,30]),sT 25 10 41] [10] (.ret)) (sR [fO 43 30 8 0,lO 44 3 43,bQ .eql 45 3 44 3 3,mO 46 45,fG 47 30 9 0 46 true,lG 48 3 47 46 true,oG 49 (.binOp .eql 3 (xT 48) (nI 3) 3) 46 true,pF 50 46 49,aO 42 50] [0,1,7,8,9,10,42] (cD 42 (sR [mO 51 0,mO 52 1,lO 53 25 7,lO 54 30 8,lO 55 30 9,oO 56 (cL 56 #[(xT 51),(xT 52),(xT 53),(xT 54),(xT 55)] #[66,49,25,30,30]),sT 25 10 56] [10] (.ret)) (.skip)))))))))) (.keep [0,1,7,8,9,10] (sR [lS 57 30 8 0,lS 58 25 7 1,⟨some 59,(cL 54 #[(xT 57),(xT 58)] #[30,25]),none,[],2,[],true⟩,⟨some 60,(lD 30 9),none,[],3,[2],true⟩,⟨some 61,(lD 25 7),none,[],4,[2],true⟩,⟨some 62,(cL 54 #[(xT 60),(xT 61)] #[30,25]),none,[],5,[],true⟩,⟨some 11,(.alloc 25),none,[5],6,[0,1,2,3,4,5],true⟩,⟨some 12,(.alloc 25),none,[6],7,[0,1,2,3,4,5,6],false⟩,sT 25 11 59,sT 25 12 62] [0,1,7,10,11,12] (sQ [lO 63 25 11,lO 64 25 12,cB 65 57 63 64 25 25] [0,1,7,10,11,12,65] (cD 65 (sR [lO 66 25 11,sT 25 10 66] [10] (.ret)) (.skip)) [0,1,7,10,11,12] (sR [mO 67 0,mO 68 1,lO 69 25 7,lO 70 25 11,lO 71 25 12,oO 72 (cL 58 #[(xT 67),(xT 68),(xT 69),(xT 70),(xT 71)] #[66,49,25,25,25]),sT 25 10 72] [10] (.ret))))))
theorem CR:BT Tryz.prog 34 73 [(.cell 10 25)] Ca:=AA Tryz.func34
def Oo:CC:=sR [aL 2 25 [0]] [0,2] (sR [mO 3 0,oO 4 (.buildSlice 22 1 #[(0,(xT 3))]),oO 5 (.build 25 #[(0,(nI 1)),(1,(xT 4))]),sT 25 2 5] [2] (.ret))
theorem U8:BT Tryz.prog 132 6 [(.cell 2 25)] Oo:=AA Tryz.func132
def Du:CC:=sQ [lO 5 22 2,bN 6 5 22,mO 7 0,bB .leq 8 3 6 7 3] [0,1,2,8] (cD 8 (.skip) (.exit 0)) [0,1,2] (.block 1 (.reg [lO 9 22 2,oO 10 (.buildSlice 22 1 #[(0,(.const (.int .u64 0)))]),aP 11 9 10 22 22 [2],sT 22 2 11] [0,1,2])) 
def Hu:CC:=.seq (.block 0 (.loop Du)) (.keep [0,1,2] (.reg [lO 12 22 2,mO 13 0,mO 14 1,iO 15 22 12 13,sT 61 15 14] []))
theorem Mi:BT Tryz.prog 131 16 [] Hu:=AA Tryz.func131
def DU:CC:=sR [lO 99 25 7,mO 100 15,cB 101 90 99 100 25 3,aO 16 101] [0,1,3,4,7,11,12,13,14,15,16] (sR [mO 102 16,fO 103 85 13 3,lO 104 61 103,fO 105 85 13 1,lO 106 5 105,⟨some 107,(cL 125 #[(xT 102),(xT 104),(xT 106)] #[61,61,5]),none,[],5,[],true⟩,mO 108 16,fO 109 85 14 3,⟨some 110,(lD 61 109),none,[],8,[5],false⟩,fO 111 85 14 1,⟨some 112,(lD 5 111),none,[],10,[5],false⟩,cE 113 125 108 110 112 61 61 5,aO 17 107,aO 18 113] [0,1,3,4,7,11,12,13,14,15,16,17,18] (sQ [fO 114 85 13 1,lO 115 5 114,fO 116 85 14 1,lO 117 5 116,bB .and 118 5 115 117 5,aO 19 118] [0,1,3,4,7,11,12,13,14,15,16,17,18,19] (sR [fO 119 85 13 3,lO 120 61 119,mO 121 19,⟨some 122,(cL 125 #[(.const (.int .u64 0)),(xT 120),(xT 121)] #[61,61,5]),none,[],3,[],true⟩,fO 123 85 14 3,⟨some 124,(lD 61 123),none,[],5,[3],false⟩,mO 125 19,oO 126 (cL 125 #[(.const (.int .u64 0)),(xT 124),(xT 125)] #[61,61,5]),bB .neq 127 61 122 126 61] [0,1,3,4,7,11,12,14,15,16,17,18,127] (cD 127 (sR [mO 128 0,mO 129 1,mO 130 15,oO 131 (cL 84 #[(xT 129),(nI 1),(xT 130)] #[49,3,3]),mO 132 16,cA 133 132 132 61,mO 134 17,cA 135 132 134 61,mO 136 18,cA 137 132 136 61,oO 138 (cL 58 #[(xT 128),(xT 131),(xT 133),(xT 135),(xT 137)] #[66,49,25,25,25])] [0,1,3,4,7,11,12] (.exit 1)) (.skip))) [0,1,3,4,7,11,12,14,15,17] (.reg [mO 139 12,mO 140 15,mO 141 17,fO 142 85 14 3,lO 143 61 142,fO 144 85 14 1,lO 145 5 144,cE 146 125 141 143 145 61 61 5,oO 147 (.call { callee:=(.value (xT 139)),args:=#[(xT 140),(xT 146)],argTypes:=#[3,61] })] [0,1,3,4,7,11,12])))
def AZ:CC:=sQ [mO 24 3,bN 25 24 26,bQ .gtr 26 3 25 0 3,mO 27 26,mG 28 4 27 false,oG 29 (bL 28 26) 27 false,oG 30 (.binOp .gtr 3 (xT 29) (nI 0) 3) 27 false,pT 31 27 30] [0,1,3,4,7,11,12,31] (cD 31 (.skip) (.exit 0)) [0,1,3,4,7,11,12] (.block 1 (sR [aL 13 85 [3],aL 14 85 [4]] [0,1,3,4,7,11,12,13,14] (sR [aI 15 0] [0,1,3,4,7,11,12,13,14] (.seq (.block 2 (sR [mO 47 4,bN 48 47 26,bQ .eql 49 3 48 0 3,mO 50 49,mG 51 3 50 false,oG 52 (bL 51 26) 50 false,oG 53 (.binOp .gtr 3 (xT 52) (nI 0) 3) 50 false,mG 54 53 50 false,mG 55 3 54 true,oG 56 (.indexAddr 26 (xT 55) (nI 0)) 54 true,fG 57 85 56 0 54 true,lG 58 3 57 54 true,mG 59 4 54 true,oG 60 (.indexAddr 26 (xT 59) (nI 0)) 54 true,fG 61 85 60 0 54 true,lG 62 3 61 54 true,oG 63 (bO .lss 3 58 62 3) 54 true,oG 64 (.pick (xT 54) (xT 63) (nB false)) 50 false,pT 65 50 64,aO 46 65] [0,1,3,4,7,11,12,13,14,46] (cD 46 (.reg [mO 66 3,oO 67 (.indexAddr 26 (xT 66) (nI 0)),lO 68 85 67,mO 69 3,oO 70 (.indexAddr 26 (xT 69) (nI 0)),fO 71 85 70 0,lS 72 3 71 6,mO 73 3,oO 74 (.slice 26 (xT 73) (some (nI 1)) none none),⟨none,(.store 85 (xT 13) (xT 68)),none,[],9,[6],false⟩,aO 15 72,aO 3 74] [0,1,3,4,7,11,12,13,14,15]) (sR [mO 76 3,bN 77 76 26,bQ .eql 78 3 77 0 3,mO 79 78,mG 80 4 79 false,oG 81 (.indexAddr 26 (xT 80) (nI 0)) 79 false,fG 82 85 81 0 79 false,lG 83 3 82 79 false,mG 84 3 79 false,oG 85 (.indexAddr 26 (xT 84) (nI 0)) 79 false,fG 86 85 85 0 79 false,lG 87 3 86 79 false,oG 88 (bO .lss 3 83 87 3) 79 false,pT 89 79 88,aO 75 89] [0,1,3,4,7,11,12,13,14,75] (cD 75 (.reg [mO 90 4,oO 91 (.indexAddr 26 (xT 90) (nI 0)),lO 92 85 91,mO 93 4,oO 94 (.indexAddr 26 (xT 93) (nI 0)),fO 95 85 94 0,lS 96 3 95 6,mO 97 4,oO 98 (.slice 26 (xT 97) (some (nI 1)) none none),⟨none,(.store 85 (xT 14) (xT 92)),none,[],9,[6],false⟩,aO 15 96,aO 4 98] [0,1,3,4,7,11,12,13,14,15]) (.reg [mO 32 3,oO 33 (.indexAddr 26 (xT 32) (nI 0)),lO 34 85 33,mO 35 4,oO 36 (.indexAddr 26 (xT 35) (nI 0)),lS 37 85 36 5,mO 38 3,oO 39 (.indexAddr 26 (xT 38) (nI 0)),fO 40 85 39 0,lS 41 3 40 9,mO 42 3,oO 43 (.slice 26 (xT 42) (some (nI 1)) none none),mO 44 4,oO 45 (.slice 26 (xT 44) (some (nI 1)) none none),⟨none,(.store 85 (xT 13) (xT 34)),none,[],14,[5,9],false⟩,⟨none,(.store 85 (xT 14) (xT 37)),none,[],15,[9],false⟩,aO 15 41,aO 3 43,aO 4 45] [0,1,3,4,7,11,12,13,14,15])))))) (.keep [0,1,3,4,7,11,12,13,14,15] DU))))) 
def IQ:CC:=sR [bX 7 25 2 [1],aN 10] [0,1,3,4,7] (sR [fO 20 25 7 1,lO 21 22 20,cA 22 59 21 22,aL 11 22 [2],sT 22 11 22] [0,1,3,4,7,11] (sR [oO 23 (.makeFunc (.func 131) #[] #[(xT 11)]),aO 12 23] [0,1,3,4,7,11,12] (.seq (.block 0 (.loop AZ)) (.keep [11] (sR [lO 148 22 11,aO 10 148] [10] (.ret))))))
theorem Ns:BT Tryz.prog 83 149 [(.tmp 10)] IQ:=AA Tryz.func83
def JJ:CC:=sR [bB .lss 10 3 9 8 3] [1,4,7,8,9,10] (.seq (cD 10 (.skip) (.exit 0)) (.keep [1,4,7,8,9] (.seq (.block 1 (sR [iO 11 27 7 9,lO 12 88 11,aL 6 88 [1],sT 88 6 12] [1,4,6,7,8,9] (sR [fO 13 88 6 0,lO 14 3 13,mO 15 1,bB .eql 16 3 14 15 3] [1,4,6,7,8,9,16] (cD 16 (sR [fO 17 88 6 1,lO 18 30 17,sT 30 4 18] [4] (.ret)) (.skip))))) (.keep [1,4,7,8,9] (.reg [bQ .add 19 3 9 1 3,mO 9 19] [1,4,7,8,9]))))) 
def Uh:CC:=sR [aL 4 30 [0]] [0,1,4] (sQ [mO 7 0,bN 8 7 27,oO 9 (.move (nI 0))] [1,4,7,8,9] (.block 0 (.loop JJ)) [4] (sR [oO 20 (.build 30 #[]),sT 30 4 20] [4] (.ret)))
theorem gE:BT Tryz.prog 85 21 [(.cell 4 30)] Uh:=AA Tryz.func85
def Bd:CC:=sR [bB .lss 36 3 35 34 3] [0,1,7,8,9,10,11,12,33,34,35,36] (.seq (cD 36 (.skip) (.exit 0)) (.keep [0,1,7,8,9,10,11,12,33,34,35] (.seq (.block 1 (sR [iO 37 107 33 35,lO 38 27 37,aO 14 38] [0,1,7,8,9,10,11,12,14,33,34,35] (sR [mO 39 14,bN 40 39 27,aO 15 40] [0,1,7,8,9,10,11,12,14,15,33,34,35] (sR [mO 41 15,bQ .gtr 42 3 41 0 3] [0,1,7,8,9,10,11,12,14,15,33,34,35,42] (cD 42 (.reg [mO 43 12,mO 44 14,mO 45 15,bQ .sub 46 3 45 1 3,iO 47 27 44 46,fO 48 88 47 0,lO 49 3 48,bQ .add 50 3 49 1 3,oO 51 (bC .max #[(xT 43),(xT 50)] #[3,3]),aO 12 51] [0,1,7,8,9,10,11,12,33,34,35]) (.skip)))))) (.keep [0,1,7,8,9,10,11,12,33,34,35] (.reg [bQ .add 52 3 35 1 3,mO 35 52] [0,1,7,8,9,10,11,12,33,34,35])))))
def CB:CC:=sR [bB .lss 55 3 54 53 3] [0,1,7,8,9,10,11,53,54,55] (.seq (cD 55 (.skip) (.exit 2)) (.keep [0,1,7,8,9,10,11,53,54] (.seq (.block 3 (sR [mO 56 54,aO 16 56] [0,1,7,8,9,10,11,16,53,54] (.reg [fO 57 25 11 2,lS 58 23 57 1,mO 59 0,mO 60 1,mO 61 16,⟨some 62,(cL 84 #[(xT 60),(nI 0),(xT 61)] #[49,3,3]),none,[],5,[1],true⟩,⟨some 63,(lD 25 7),none,[],6,[5],false⟩,mO 64 16,⟨some 65,(cL 80 #[(xT 63),(xT 64)] #[25,3]),none,[],8,[1],true⟩,fO 66 30 8 4,⟨some 67,(lD 27 66),none,[],10,[5,8],false⟩,mO 68 16,⟨some 69,(cL 85 #[(xT 67),(xT 68)] #[27,3]),none,[],12,[1],true⟩,fO 70 30 9 4,⟨some 71,(lD 27 70),none,[],14,[5,8,12],false⟩,mO 72 16,⟨some 73,(cL 85 #[(xT 71),(xT 72)] #[27,3]),none,[],16,[1],false⟩,⟨some 74,(cL 34 #[(xT 59),(xT 62),(xT 65),(xT 69),(xT 73)] #[66,49,25,30,30]),none,[],17,[1],false⟩,⟨some 75,(.buildSlice 23 1 #[(0,(xT 74))]),none,[],18,[1],false⟩,aP 76 58 75 23 23 [6],fO 77 25 11 2,sT 23 77 76] [0,1,7,8,9,10,11,53,54]))) (.reg [bQ .add 78 3 54 1 3,mO 54 78] [0,1,7,8,9,10,11,53,54])))) 
def Gs:CC:=sR [bX 7 25 2 [1],bX 8 30 3 [2],bX 9 30 4 [3],aL 10 25 [4]] [0,1,7,8,9,10] (sR [mO 17 0,mO 18 1,lO 19 25 7,fO 20 30 8 3,lO 21 26 20,fO 22 30 9 3,lO 23 26 22,oO 24 (cL 83 #[(xT 17),(xT 18),(xT 19),(xT 21),(xT 23)] #[66,49,25,26,26]),oO 25 (.build 25 #[(0,(nI 1)),(1,(xT 24))]),aL 11 25 [5],sT 25 11 25] [0,1,7,8,9,10,11] (sR [fO 26 25 7 2,lO 27 23 26,bN 28 27 23,aO 12 28] [0,1,7,8,9,10,11,12] (sQ [fO 29 30 8 4,lO 30 27 29,fO 31 30 9 4,lO 32 27 31,oO 33 (.buildSlice 107 2 #[(0,(xT 30)),(1,(xT 32))]),bN 34 33 107,oO 35 (.move (nI 0))] [0,1,7,8,9,10,11,12,33,34,35] (.block 0 (.loop Bd)) [0,1,7,8,9,10,11,12] (sQ [mO 53 12,oO 54 (.move (nI 0))] [0,1,7,8,9,10,11,53,54] (.block 2 (.loop CB)) [10,11] (sR [lO 79 25 11,sT 25 10 79] [10] (.ret))))))
theorem Ks:BT Tryz.prog 55 80 [(.cell 10 25)] Gs:=AA Tryz.func55
def Jz:CC:=sR [aL 3 25 [3]] [0,1,3] (sR [lO 4 110 1,nC 5 4,fO 6 112 5 2,fO 7 25 6 0,lO 8 3 7,mO 9 0,oO 10 (.build 25 #[(0,(xT 8)),(2,(xT 9))]),sT 25 3 10] [3] (.ret))
theorem Pa:BT Tryz.prog 134 11 [(.cell 3 25)] Jz:=AA Tryz.func134
def KG:CC:=sR [bX 1 110 0 [2]] [1] (.seq (.block 0 (sR [lO 33 110 1,nC 34 33,fO 35 112 34 5,lO 36 23 35,bN 37 36 23,bQ .eql 38 3 37 0 3,mO 39 38,lG 40 110 1 39 false,oG 41 (.nilCheck (xT 40)) 39 false,fG 42 112 41 5 39 false,lG 43 23 42 39 false,lG 44 110 1 39 false,oG 45 (.nilCheck (xT 44)) 39 false,fG 46 112 45 6 39 false,lG 47 23 46 39 false,oG 48 (cL 126 #[(xT 43),(xT 47),(.func 57)] #[23,23,38]) 39 false,pT 49 39 48,aO 32 49] [1,32] (cD 32 (.reg [lS 50 110 1 0,lO 51 110 1,nC 52 51,fO 53 112 52 4,lO 54 23 53,lO 55 110 1,nC 56 55,fO 57 112 56 6,lO 58 23 57,⟨some 59,(bC .append #[(xT 54),(xT 58)] #[23,23]),none,[3],9,[0],false⟩,nC 60 50,fO 61 112 60 4,sT 23 61 59] [1]) (sR [lO 63 110 1,nC 64 63,fO 65 112 64 6,lO 66 23 65,bN 67 66 23,bQ .eql 68 3 67 0 3,aO 62 68] [1,62] (cD 62 (.reg [lS 69 110 1 0,lO 70 110 1,nC 71 70,fO 72 112 71 4,lO 73 23 72,lO 74 110 1,nC 75 74,fO 76 112 75 5,lO 77 23 76,⟨some 78,(bC .append #[(xT 73),(xT 77)] #[23,23]),none,[4],9,[0],false⟩,nC 79 69,fO 80 112 79 4,sT 23 80 78] [1]) (sR [oO 3 (.makeFunc (.func 134) #[] #[(xT 1)]),aO 2 3] [1,2] (.reg [lS 4 110 1 0,nC 5 4,fO 6 112 5 0,lS 7 66 6 3,lO 8 110 1,nC 9 8,fO 10 112 9 1,lO 11 49 10,lO 12 110 1,nC 13 12,fO 14 112 13 3,lO 15 3 14,⟨some 16,(cL 84 #[(xT 11),(nI 2),(xT 15)] #[49,3,3]),none,[],12,[0,3],true⟩,mO 17 2,⟨some 18,(.call { callee:=(.value (xT 17)),args:=#[nS],argTypes:=#[23] }),none,[],14,[0,3],true⟩,mO 19 2,⟨some 20,(lD 110 1),none,[],16,[12,14],false⟩,nC 21 20,fO 22 112 21 5,⟨some 23,(lD 23 22),none,[],19,[12,14],false⟩,⟨some 24,(.call { callee:=(.value (xT 19)),args:=#[(xT 23)],argTypes:=#[23] }),none,[],20,[0,3],true⟩,mO 25 2,⟨some 26,(lD 110 1),none,[],22,[12,14,20],false⟩,nC 27 26,fO 28 112 27 6,⟨some 29,(lD 23 28),none,[],25,[12,14,20],false⟩,⟨some 30,(.call { callee:=(.value (xT 25)),args:=#[(xT 29)],argTypes:=#[23] }),none,[],26,[0,3],false⟩,oO 31 (cL 58 #[(xT 7),(xT 16),(xT 18),(xT 24),(xT 30)] #[66,49,25,25,25])] [1]))))))) (.keep [1] (.reg [lO 81 110 1,lS 82 110 1 1,nC 83 81,fO 84 112 83 5,⟨none,(.store 23 (xT 84) nS),none,[],4,[1],false⟩,nC 85 82,fO 86 112 85 6,oS (.store 23 (xT 86) nS)] [])))
theorem QZ:BT Tryz.prog 87 87 [] KG:=AA Tryz.func87
def Ec:CC:=sR [bX 4 91 1 [2],bX 5 91 2 [3]] [0,4,5] (sR [mO 8 0,nC 9 8,fO 10 112 9 2,fO 11 25 10 2,lS 12 23 11 4,mO 13 0,nC 14 13,fO 15 112 14 3,lS 16 3 15 8,iO 17 23 12 16,lS 18 25 17 10,⟨some 6,(.alloc 25),none,[4],11,[4,8,10],false⟩,sT 25 6 18] [0,4,5,6] (sR [mO 19 0,nC 20 19,fO 21 112 20 1,lO 22 49 21,mO 23 0,nC 24 23,fO 25 112 24 3,lO 26 3 25,oO 27 (cL 84 #[(xT 22),(nI 0),(xT 26)] #[49,3,3]),aO 7 27] [0,4,5,6,7] (sR [mO 28 0,nC 29 28,fO 30 112 29 3,lO 31 3 30,bQ .add 32 3 31 1 3,nC 33 28,fO 34 112 33 3,sT 3 34 32] [0,4,5,6,7] (.block 0 (sR [fO 57 91 4 0,lO 58 3 57,bQ .eql 59 3 58 1 3,mO 60 59,fG 61 91 5 0 60 true,lG 62 3 61 60 true,oG 63 (.binOp .eql 3 (xT 62) (nI 3) 3) 60 true,pF 64 60 63,aO 56 64] [0,4,5,6,7,56] (cD 56 (.reg [mO 65 0,nC 66 65,fO 67 112 66 4,lS 68 23 67 3,mO 69 0,nC 70 69,fO 71 112 70 0,lS 72 66 71 7,mO 73 7,lS 74 25 6 9,oO 75 (.build 25 #[]),fO 76 91 5 3,lS 77 30 76 12,lS 78 25 6 13,⟨some 79,(cL 54 #[(xT 77),(xT 78)] #[30,25]),none,[],14,[3,7,9],true⟩,⟨some 80,(cL 58 #[(xT 72),(xT 73),(xT 74),(xT 75),(xT 79)] #[66,49,25,25,25]),none,[],15,[3],true⟩,bN 81 68 23,⟨some 82,(.buildSlice 23 1 #[(0,(.const (.agg #[(.int .i64 0),(.slice none 0 0),(.slice none 0 0)])))]),none,[],17,[3,7,9,12,13,14,15],false⟩,aP 83 68 82 23 23 [5],iO 84 23 83 81,⟨none,(.store 25 (xT 84) (xT 80)),none,[],20,[],true⟩,nC 85 65,fO 86 112 85 4,⟨none,(.store 23 (xT 86) (xT 83)),none,[],23,[20],false⟩] []) (sR [fO 88 91 4 0,lO 89 3 88,bQ .eql 90 3 89 3 3,mO 91 90,fG 92 91 5 0 91 true,lG 93 3 92 91 true,oG 94 (.binOp .eql 3 (xT 93) (nI 1) 3) 91 true,pF 95 91 94,aO 87 95] [0,4,5,6,7,87] (cD 87 (.reg [mO 96 0,nC 97 96,fO 98 112 97 4,lS 99 23 98 3,mO 100 0,nC 101 100,fO 102 112 101 0,lS 103 66 102 7,mO 104 7,lS 105 25 6 9,fO 106 91 4 3,lS 107 30 106 11,lS 108 25 6 12,⟨some 109,(cL 54 #[(xT 107),(xT 108)] #[30,25]),none,[],13,[3,7,9],true⟩,oO 110 (.build 25 #[]),⟨some 111,(cL 58 #[(xT 103),(xT 104),(xT 105),(xT 109),(xT 110)] #[66,49,25,25,25]),none,[],15,[3],true⟩,bN 112 99 23,⟨some 113,(.buildSlice 23 1 #[(0,(.const (.agg #[(.int .i64 0),(.slice none 0 0),(.slice none 0 0)])))]),none,[],17,[3,7,9,11,12,13,15],false⟩,aP 114 99 113 23 23 [6],iO 115 23 114 112,⟨none,(.store 25 (xT 115) (xT 111)),none,[],20,[],true⟩,nC 116 96,fO 117 112 116 4,⟨none,(.store 23 (xT 117) (xT 114)),none,[],23,[20],false⟩] []) (sR [fO 119 91 4 0,lO 120 3 119,bQ .eql 121 3 120 1 3,mO 122 121,fG 123 91 5 0 122 false,lG 124 3 123 122 false,oG 125 (.binOp .eql 3 (xT 124) (nI 1) 3) 122 false,pT 126 122 125,aO 118 126] [0,4,5,6,7,118] (cD 118 (.skip) (.reg [mO 35 0,nC 36 35,fO 37 112 36 4,lS 38 23 37 3,mO 39 0,nC 40 39,fO 41 112 40 0,lS 42 66 41 7,mO 43 7,lS 44 25 6 9,fO 45 91 4 3,lS 46 30 45 11,fO 47 91 5 3,lS 48 30 47 13,⟨some 49,(cL 34 #[(xT 42),(xT 43),(xT 44),(xT 46),(xT 48)] #[66,49,25,30,30]),none,[],14,[3],true⟩,bN 50 38 23,⟨some 51,(.buildSlice 23 1 #[(0,(.const (.agg #[(.int .i64 0),(.slice none 0 0),(.slice none 0 0)])))]),none,[],16,[3,7,9,11,13,14],false⟩,aP 52 38 51 23 23 [7],iO 53 23 52 50,⟨none,(.store 25 (xT 53) (xT 49)),none,[],19,[],true⟩,nC 54 35,fO 55 112 54 4,⟨none,(.store 23 (xT 55) (xT 52)),none,[],22,[19],false⟩] [])))))))))))
theorem FB:BT Tryz.prog 88 127 [] Ec:=AA Tryz.func88
def DS:CC:=sR [bB .lss 49 3 48 47 3] [7,10,11,15,29,30,31,47,48,49] (.seq (cD 49 (.skip) (.exit 3)) (.keep [7,10,11,15,29,30,31,47,48] (.seq (.block 4 (.reg [mO 50 11,fO 51 117 15 1,lO 52 91 51,fO 53 117 15 2,lO 54 91 53,cE 55 88 50 52 54 110 91 91] [7,10,11,15,29,30,31,47,48])) (.reg [bQ .add 56 3 48 1 3,mO 48 56] [7,10,11,15,29,30,31,47,48]))))
def Cg:CC:=sR [bB .lss 32 3 31 30 3] [7,10,11,29,30,31,32] (.seq (cD 32 (.skip) (.exit 0)) (.keep [7,10,11,29,30,31] (.seq (.block 1 (sR [iO 33 113 29 31,lO 34 117 33,aL 15 117 [6],sT 117 15 34] [7,10,11,15,29,30,31] (sR [fO 35 117 15 0,lO 36 3 35] [7,10,11,15,29,30,31,36] (.block 2 (sR [bQ .eql 58 3 36 1 3,aO 57 58] [7,10,11,15,29,30,31,36,57] (cD 57 (.reg [mO 59 11,mO 60 11,nC 61 60,fO 62 112 61 5,lO 63 23 62,fO 64 117 15 1,fO 65 91 64 2,lO 66 23 65,aP 67 63 66 23 23 [7],nC 68 59,fO 69 112 68 5,sT 23 69 67] [7,10,11,29,30,31]) (sR [bQ .eql 71 3 36 2 3,aO 70 71] [7,10,11,15,29,30,31,70] (cD 70 (.reg [mO 72 11,mO 73 11,nC 74 73,fO 75 112 74 6,lO 76 23 75,fO 77 117 15 2,fO 78 91 77 2,lO 79 23 78,aP 80 76 79 23 23 [8],nC 81 72,fO 82 112 81 6,sT 23 82 80] [7,10,11,29,30,31]) (sR [mO 37 11,cA 38 87 37 110] [7,10,11,15,29,30,31] (sR [fO 39 117 15 1,fO 40 91 39 1,lO 41 3 40,fO 42 117 15 1,fO 43 91 42 2,lO 44 23 43,bN 45 44 23,bB .add 46 3 41 45 3,oO 47 (bC .max #[(xT 46),(nI 1)] #[3,3]),oO 48 (.move (nI 0))] [7,10,11,15,29,30,31,47,48] (.block 3 (.loop DS)))))))))))) (.keep [7,10,11,29,30,31] (.reg [bQ .add 83 3 31 1 3,mO 31 83] [7,10,11,29,30,31]))))) 
def Jk:CC:=sR [bX 7 25 2 [1],bX 8 30 3 [2],bX 9 30 4 [3],aL 10 25 [4]] [0,1,7,8,9,10] (sR [mO 16 0,mO 17 1,lO 18 25 7,oO 19 (.build 112 #[(0,(xT 16)),(1,(xT 17)),(2,(xT 18))]),bX 20 112 19 [5],aO 11 20] [7,8,9,10,11] (sR [fO 22 30 8 6,lO 23 28 22,fO 24 30 9 6,lO 25 28 24,cB 26 86 23 25 28 28,mO 21 26,xO 27 21 0,xO 28 21 1,aO 12 27,aO 13 28] [7,10,11,12] (sQ [mO 29 12,bN 30 29 113,oO 31 (.move (nI 0))] [7,10,11,29,30,31] (.block 0 (.loop Cg)) [7,10,11] (.stop (sR [mO 84 11,cA 85 87 84 110] [7,10,11] (sR [fO 86 25 7 0,lO 87 3 86,mO 88 11,nC 89 88,fO 90 112 89 4,lO 91 23 90,oO 92 (.build 25 #[(0,(xT 87)),(2,(xT 91))]),sT 25 10 92] [10] (.ret)))))))
theorem NR:BT Tryz.prog 56 93 [(.cell 10 25)] Jk:=AA Tryz.func56
def PR:CC:=sR [bX 3 25 0 [0],bX 4 30 1 [1],bX 5 30 2 [2],aL 6 25 [3],aN 7,aB 8 false] [3,4,5,6] (sR [lO 16 30 4,lO 17 25 3,cB 18 25 16 17 30 25,mO 15 18,xO 19 15 0,xO 20 15 1,aL 9 25 [4],sT 25 9 19,aO 10 20] [3,4,5,6,10] (sR [lO 22 30 5,lO 23 25 3,cB 24 25 22 23 30 25,mO 21 24,xO 25 21 0,xO 26 21 1,aL 11 25 [5],sT 25 11 25,aO 12 26] [3,4,5,6,10,12] (sQ [mO 27 10,oO 28 (.unOp .not 4 (xT 27)),mO 29 28,mG 30 12 29 false,oG 31 (.unOp .not 4 (xT 30)) 29 false,pT 32 29 31] [3,4,5,6,32] (cD 32 (sR [oO 33 (.build 25 #[]),sT 25 6 33,aN 7,aB 8 false] [6,7,8] (.ret)) (.skip)) [3,4,5,6] (sR [oO 34 (.build 68 #[]),bX 35 68 34 [6],aO 13 35] [3,4,5,6,13] (.stop (sR [mO 36 13,lO 37 25 3,lO 38 30 4,lO 39 30 5,oO 40 (cL 34 #[(xT 36),nS,(xT 37),(xT 38),(xT 39)] #[66,49,25,30,30]),aL 14 25 [7],sT 25 14 40] [6,13,14] (sR [lO 41 25 14,⟨some 42,(cL 35 #[(xT 41)] #[25]),none,[],1,[],true⟩,mO 43 13,nC 44 43,fO 45 68 44 0,⟨some 46,(lD 35 45),none,[],5,[1],true⟩,⟨none,(.store 25 (xT 6) (xT 42)),none,[],6,[5],false⟩,aO 7 46,aB 8 true] [6,7,8] (.ret))))))))
theorem XG:BT Tryz.prog 14 47 [(.cell 6 25),(.tmp 7),(.tmp 8)] PR:=AA Tryz.func14
def PI:CC:=sR [bX 4 25 0 [0],bX 5 25 1 [1],bX 6 25 2 [2],aL 8 25 [3],aN 9] [3,4,5,6,8] (sR [lS 14 25 4 0,⟨some 15,(cL 35 #[(xT 14)] #[25]),none,[],1,[],true⟩,⟨some 16,(lD 25 4),none,[],2,[1],true⟩,⟨some 17,(lD 25 5),none,[],3,[1],true⟩,mO 18 3,⟨some 19,(cL 24 #[(xT 16),(xT 17),(xT 18)] #[25,25,3]),none,[],5,[],true⟩,⟨some 20,(lD 25 4),none,[],6,[1,5],true⟩,⟨some 21,(lD 25 6),none,[],7,[1,5],true⟩,mO 22 3,⟨some 23,(cL 24 #[(xT 20),(xT 21),(xT 22)] #[25,25,3]),none,[],9,[],true⟩,⟨some 24,(cL 14 #[(xT 15),(xT 19),(xT 23)] #[25,30,30]),none,[],10,[],true⟩,mO 13 24,xO 25 13 0,xO 26 13 1,xO 27 13 2,⟨some 10,(.alloc 25),none,[4],15,[0,1,2,3,5,6,7,9,10],false⟩,sT 25 10 25,aO 11 26,aO 12 27] [8,10,11] (sR [lO 28 25 10,mO 29 11,sT 25 8 28,aO 9 29] [8,9] (.ret)))
theorem Xr:BT Tryz.prog 19 30 [(.cell 8 25),(.tmp 9)] PI:=AA Tryz.func19
end Go.Proofs.YtlaapfplenlfaaaGreat
namespace Go.G
open Go
theorem kV{P:Program}{f:FuncId}{n:Nat}{rs:List ResultVar}{cc:CC}{as':Nat->Nat->List A}{F F':Rd}{x:Nat->Nat->A}(t:BT P f n rs cc)(ha:(as' 0 1).length<=n)(h0:Tv as')(h1:RS x)
  (h:∀w0 I0 M0 m0,(∀r p b,2<=r->¬M0 (r::p) b)->WPC (DC P w0 I0 M0 n m0) cc (Pe (DC P w0 I0 M0 n m0) rs 2 (x 0 1) (ov 0 (F'.B 0 1) (ov 1 (F'.C 0 1) (Gz [])))) ⟨QC (as' 0 1),ov 0 (F.B 0 1) (ov 1 (F.C 0 1) (Gz []))⟩):Hv P f as' F x F':=
 ⟨h0,h1,OI t ha fun w0 I0 M0 m0 hM=>h w0 I0 M0 m0 fun r p b hr=>hM (r::p) b (by
  simp only[Bg];rw[if_neg oF,if_neg oF];rfl)⟩
end Go.G
namespace Go.Proofs.YtlaapfplenlfaaaGreat
open Go Go.G Go.Proofs Go.PL
def AgT(u:Nat)(cs:List A)(h:∀x,x∈cs->DV (fun _=>x)):Fam:=⟨fun _ p=>if p=[]then ⟨u,.cells cs⟩else ⟨0,.none⟩,fun {g δ r r'} hg hd p=>by
  by_cases hp:p=[]
  ·rw[if_pos hp];exact Fam.cells_ren ((FamL.all h).ren hg hd)
  ·rw[if_neg hp];rfl,fun {D r} hD p=>by
  by_cases hp:p=[]
  ·rw[if_pos hp];exact(FamL.all h).refs hD
  ·rw[if_neg hp];trivial⟩
theorem F8(o:OP):DV (fun _=>oX o):=DJ (cs:=iv o.kind::iv o.n::B7 o.l::eL o.e) rfl fun x hx=>by simp at hx;rcases hx with rfl|rfl|rfl|rfl|rfl|rfl|rfl|rfl|rfl|rfl|rfl|rfl|rfl|rfl<;>rfl
def Xd(v:Nat)(l:List OP)(al:Int):Fam:=AgT v [Jo l,iv al] fun x hx=>by
 simp at hx;rcases hx with rfl|rfl
 ·exact Bc
 ·exact Az
@[simp]theorem AlP{v:Nat}{l:List OP}{al:Int}{r:Nat}{p:Nm}:(Xd v l al).F r p=if p=[]then ⟨v,.cells [Jo l,iv al]⟩else ⟨0,.none⟩:=rfl
def PN(o:OP):Int:=if o.kind=3 then 1 else o.n+o.l.length
def frO(o:OP)(n:Nat):OP:=if o.kind=0 then .mk o.kind n o.l o.e else .mk o.kind o.n (o.l.take n) o.e
def pj(o:OP)(n:Nat):OP:=if o.kind=0 then .mk o.kind (o.n-n) o.l o.e else .mk o.kind o.n (o.l.drop n) o.e
def Jm(o:OP)(n:Nat):OP:=if PN o<=n then o else frO o n
def Ko(o:OP)(n:Nat)(l:List OP):List OP:=if PN o<=n then l else pj o n::l
def sgO(al:Int):List OP->Bool
 |[]=>false
 |o::_=>decide (o.kind=al)
def Xe(x:OP):Prop:=Akp x/\(x.kind=1\/x.kind=2->x.l≠[])/\x.l.length<=1048576
theorem Lo{x:OP}(h:Xe x):1<=PN x/\PN x<=2097152:=by
 obtain⟨h1,h2,h3⟩:=h;unfold PN;rcases h1 with ⟨k,a,b,c⟩|⟨k,a⟩|⟨k,a⟩|⟨k,a,b⟩
 ·rw[if_neg oF,c];simp;omega
 ·have:=List.length_pos_iff.2 (h2 (.inl k));rw[if_neg oF];omega
 ·have:=List.length_pos_iff.2 (h2 (.inr k));rw[if_neg oF];omega
 ·rw[if_pos k];omega
theorem Kc{o:OP}(h:Xe o):G.Spec Tryz.prog 166 [oX o] (iv (PN o)):=by
 have hs:=Lo h;refine Ak bc iS fun w0 I0=>?_;unfold Rr;by_cases h3:o.kind=3
 ·have:PN o=1:=if_pos h3;rw[this];simp[h3];exact Ae rfl
 ·have e:PN o=o.n+o.l.length:=if_neg h3;rw[e]at hs ⊢;have ew:i64.wrap (o.n+o.l.length)=o.n+o.l.length:=Ga;simp[h3,ew];exact Ae rfl
theorem Kf(v:Nat)(l:List OP)(al:Int):SpecF Tryz.prog 167 (fun q=>[.pob [q] v 0]) (Xd v l al) (fun _=>bv l.isEmpty) (Xd v l al):=by
 refine Ao Pm iS (Ab Aq Ah) Az fun w0 I0 M0 m0=>?_;unfold JA;simp;refine An (r0:=bv l.isEmpty) ?_ rfl (fun p=>iS);cases l<;>simp
theorem ET(v:Nat)(l:List OP)(al:Int):SpecF Tryz.prog 164 (fun q=>[.pob [q] v 0]) (Xd v l al) (fun _=>bv (sgO al l)) (Xd v l al):=by
 refine Ao Nj iS (Ab Aq Ah) Az fun w0 I0 M0 m0=>?_;unfold H9;have D:=Kf v l al;cases l with
 |nil=>
  simp;refine FD 0 D (fun p=>iS) iS iS ?_;simp;exact An (r0:=bv false) iS rfl (fun p=>iS)
 |cons o l=>
  simp;refine FD 0 D (fun p=>iS) iS iS ?_;simp;exact An (r0:=bv (decide (o.kind=al))) iS rfl (fun p=>iS)
def opB(x:Bool × OP):A:=.agg (iv x.2.kind::iv x.2.n :: .sl x.1 (x.2.l.map tA)::eL x.2.e)
@[simp]theorem AdL(x:Bool × OP):(opB x).cells=iv x.2.kind::iv x.2.n :: .sl x.1 (x.2.l.map tA)::eL x.2.e:=rfl
theorem zZ(l:List OP):(l.map fun o=>((false,o):Bool × OP)).map opB=l.map oA:=by
 rw[List.map_map];exact List.map_congr_left fun o _=>by simp[opB]
theorem ya{H:Hp}{u n:Nat}{d:Nm}{l:List (Bool × OP)}(h:vr (H d) u=some (14,l.map opB))(hn:n=l.length):Jl H (.osl d u 14 0 n) (Jo (l.map Prod.snd)):=by
 have:=WV (g:=fun x=>oA x.2) h hn (fun x _=>by
  obtain⟨b,o⟩:=x;simp[A.soft,A.softL,JD,FZ,N9,Rc,QX,A.ones,A.bare])
 rw[show Jo (l.map Prod.snd)=.sl false (l.map fun x=>oA x.2)from by rw[Jo,List.map_map];rfl];exact this
abbrev SO(o:OP):List A:=iv o.kind::iv o.n::B7 o.l::eL o.e
def Xy:List A:=[iv 0,iv 0,.sl true [],iv 0,iv 0,.sl true [],.sl true [],iv 0,.sl true [],.sl true [],.sl true [],.sl true [],iv 0,.sl true []]
section
variable {v:Nat} {al:Int} {w0:World} {I0:Nat->Prop} {M0:Nm->Nat->Prop} {m0:Mu}
theorem r6{l:List OP}(hM:∀(r:Nat)(p:List Nat)(b:Nat),1<=r->¬M0 (r::p) b){o1 o2:OP}{b1 b2:Bool}{H:Hp}(h0:∀p,p≠[]->H (0::p)=⟨0,.none⟩)(h00:H [0]=⟨v,.cells [.osl [5] 2 14 0 (1+l.length),iv al]⟩)
  (h1:H [1]=⟨1,.cells (iv o1.kind::iv o1.n :: .sl b1 (o1.l.map tA)::eL o1.e)⟩) (h5:H [5]=⟨2,.arr 14 (opB (b2,o2)::l.map oA)⟩) :
  Pe (DC Tryz.prog w0 I0 M0 62 m0) [ResultVar.cell 4 91] 1 (oX o1) (ov 0 ((Xd v (o2::l) al).F 0) (Gz [])) .ret ⟨lk [(4,.pob [1] 1 0)],H⟩:=by
 obtain⟨H2,g1,g2⟩:=G7 (c:=DC Tryz.prog w0 I0 M0 62 m0) (s:=lk [(4,.pob [1] 1 0)]) (H:=H) (fun r=>r=5) (fun r p b h=>hM r p b oF) (r0:=0) (p0:=[]) oF (u:=v) (cs:=[.osl [5] 2 14 0 (1+l.length),iv al]) h00 (cs':=[Jo (o2::l),iv al]) (by simp[A.ones]) (fun H1 h1=>⟨by
  have e5:=h1 5 [] rfl;have:=ya (H:=H1) (u:=2) (n:=1+l.length) (d:=[5]) (l:=(b2,o2)::l.map fun o=>(false,o)) (by
   rw[e5,List.map_cons,zZ,h5];simp) (by simp;omega)
  rw[show((b2,o2)::l.map fun o=>((false,o):Bool × OP)).map Prod.snd=o2::l from by simp[Function.comp_def]]at this;exact this,Ae rfl,trivial⟩)
 refine Gp g1 ?_;have k1:=g2 1 [] oF;rw[h1]at k1;obtain⟨H3,g3,g4⟩:=G7 (c:=DC Tryz.prog w0 I0 M0 62 m0) (s:=lk [(4,.pob [1] 1 0)]) (H:=AK H2 [0] ⟨v,.cells [Jo (o2::l),iv al]⟩) (fun _=>False) (fun _ _ _ h=>h.elim) (r0:=1) (p0:=[]) iS (u:=1) (cs:=iv o1.kind::iv o1.n :: .sl b1 (o1.l.map tA)::eL o1.e) (by simp[Aa,k1]) (cs':=SO o1) (by simp[A.ones]) (fun H1 h1=>⟨Ae rfl,Ae rfl,Am,LO iS⟩);refine Gp g3 (An (r0:=oX o1) (by simp[Et]) rfl fun p=>?_);have k2:=g4 0 p iS;by_cases hp:p=[]
 ·subst hp;simp[Aa,k2]
 ·have k3:=g2 0 p oF;rw[h0 p hp]at k3;simp[Aa,hp]at k2 ⊢;rw[k2,k3]
theorem bJ{o:OP}{l:List OP}(hl:l.length<=10000000)(hM:∀(r:Nat)(p:List Nat)(b:Nat),1<=r->¬M0 (r::p) b){o1 o2:OP}{b1 b2:Bool}{H:Hp}(h0:∀p,H (0::p)=(Xd v (o::l) al).F 0 p)(h1:H [1]=⟨1,.cells Xy⟩)
  (h3:H [3]=⟨1,.cells (iv o1.kind::iv o1.n :: .sl b1 (o1.l.map tA)::eL o1.e)⟩) (h4:H [4]=⟨1,.cells (iv o2.kind::iv o2.n :: .sl b2 (o2.l.map tA)::eL o2.e)⟩) (h5:H [5]=⟨0,.none⟩) :
  WPC (DC Tryz.prog w0 I0 M0 62 m0) F9 (Pe (DC Tryz.prog w0 I0 M0 62 m0) [ResultVar.cell 4 91] 1 (oX o1) (ov 0 ((Xd v (o2::l) al).F 0) (Gz []))) ⟨lk [(0,.pob [0] v 0),(4,.pob [1] 1 0),(6,.pob [3] 1 0),(7,.pob [4] 1 0)],H⟩:=by
 have c1':(1:Int)<=(l.length:Int)+1:=oF
 have e00:H [0]=⟨v,.cells [Jo (o::l),iv al]⟩:=by rw[h0];simp
 rw[F9.eq_1];simp[h1,h3,h4,h5,e00,c1',Aa,Xy];refine⟨oF,?_⟩;refine r6 hM (b1:=b1) (b2:=b2) (fun p hp=>?_) ?_ ?_ ?_
 ·have:=h0 p;simp[hp]at this;simp[Aa,hp,this]
 ·simp[Aa]
 ·simp[Aa]
 ·simp[Aa,opB,AO]
end
theorem Mq{o:OP}{l:List OP}(h:Xe o)(hl:l.length<=10000000){n:Nat}(hn:1<=n)(v:Nat)(al:Int):SpecF Tryz.prog 165 (fun q=>[.pob [q] v 0,iv n]) (Xd v (o::l) al) (fun _=>oX (Jm o n)) (Xd v (Ko o n l) al):=by
 have S:=Kc h;have hs:=Lo h;refine Hh Pn iS (Ab Aq (Ab Az Ah)) (F8 _) fun w0 I0 M0 m0 hM=>?_;unfold Jv;simp;refine Ag S iS ?_;by_cases c:PN o<=n
 ·have e1:Jm o n=o:=if_pos c;have e2:Ko o n l=l:=if_pos c;rw[e1,e2];have c1':(1:Int)<=(l.length:Int)+1:=oF
  simp[c,c1',AO];refine An (r0:=oX o) (by simp[Et]) rfl fun p=>?_;by_cases hp:p=[]
  ·subst hp;simp[Aa]
  ·simp[Aa,hp]
 ·have e1:Jm o n=frO o n:=if_neg c;have e2:Ko o n l=pj o n::l:=if_neg c;have c0:=c;rw[e1,e2];unfold PN at c;rcases h.1 with ⟨k,a,b,d⟩|⟨k,a⟩|⟨k,a⟩|⟨k,a,b⟩
  ·have ew:i64.wrap (o.n-n)=o.n-n:=Ga;have e3:frO o n=.mk o.kind n o.l o.e:=if_pos k;have e4:pj o n=.mk o.kind (o.n-n) o.l o.e:=if_pos k;simp[c0,k,ew];rw[e3,e4];exact bJ (o:=o) hl hM (o1:=.mk o.kind n o.l o.e) (o2:=.mk o.kind (o.n-n) o.l o.e) (b1:=false) (b2:=false) (fun p=>iS) (by simp[Xy]) (by simp[k]) (by simp[k]) iS
  ·have e3:frO o n=.mk o.kind o.n (o.l.take n) o.e:=if_neg oF;have e4:pj o n=.mk o.kind o.n (o.l.drop n) o.e:=if_neg oF;rw[if_neg oF,a]at c;have c5:n<=o.l.length:=oF
   have c6:(n:Int)<=o.l.length:=oF
   have c7:DD o.l.length none (some (iv n)) (some (iv n))=some (0,n,some n):=by simp[DD,FT,c5,c6]
   have c8:List.take (o.l.length-n) (List.drop n (o.l.map tA))=(o.l.drop n).map tA:=by rw[List.map_drop];exact AO iS
   have c9:List.take n (o.l.map tA)=(o.l.take n).map tA:=by rw[List.map_take]
   simp[c0,k,c5,c6,c7,c8,HZ];rw[e3,e4,c9];exact bJ (o:=o) hl hM (o1:=.mk o.kind o.n (o.l.take n) o.e) (o2:=.mk o.kind o.n (o.l.drop n) o.e) (b1:=true) (b2:=false) (fun p=>iS) (by simp[Xy]) (by simp[k]) (by simp[k]) iS
  ·have e3:frO o n=.mk o.kind o.n (o.l.take n) o.e:=if_neg oF;have e4:pj o n=.mk o.kind o.n (o.l.drop n) o.e:=if_neg oF;rw[if_neg oF,a]at c;have c5:n<=o.l.length:=oF
   have c6:(n:Int)<=o.l.length:=oF
   have c7:DD o.l.length none (some (iv n)) (some (iv n))=some (0,n,some n):=by simp[DD,FT,c5,c6]
   have c8:List.take (o.l.length-n) (List.drop n (o.l.map tA))=(o.l.drop n).map tA:=by rw[List.map_drop];exact AO iS
   have c9:List.take n (o.l.map tA)=(o.l.take n).map tA:=by rw[List.map_take]
   simp[c0,k,c5,c6,c7,c8,HZ];rw[e3,e4,c9];exact bJ (o:=o) hl hM (o1:=.mk o.kind o.n (o.l.take n) o.e) (o2:=.mk o.kind o.n (o.l.drop n) o.e) (b1:=true) (b2:=false) (fun p=>iS) (by simp[Xy]) (by simp[k]) (by simp[k]) iS
  ·rw[if_pos k]at c;omega
inductive Pc where
 |a (o:OP)
 |b (o:OP)
 |both (o o':OP)
inductive Xg:List OP->List OP->List Pc->Prop
 |nil:Xg [] [] []
 |fst (p:OP) (ps qs:List OP) (l:List Pc) (h:p.kind=2) (g:Xg ps qs l):Xg (p::ps) qs (.a p::l)
 |snd (ps:List OP) (q:OP) (qs:List OP) (l:List Pc) (hp:sgO 2 ps=false) (h:q.kind=2) (g:Xg ps qs l):Xg ps (q::qs) (.b q::l)
 |both (p:OP) (ps:List OP) (q:OP) (qs:List OP) (n:Nat) (l:List Pc) (hp:p.kind≠2) (hq:q.kind≠2) (hn:(n:Int)=min (PN p) (PN q)) (g:Xg (Ko p n ps) (Ko q n qs) l):Xg (p::ps) (q::qs) (.both (Jm p n) (Jm q n)::l)
def XI(R:E->T->T->Prop)(o:OP)(t:T):Prop:=(o.kind=0/\o.e=E0)\/(o.kind=1/\o.e=E0)\/(o.kind=3/\∃x,R o.e t x)
def Kt(o:OP):Nat:=max (o.n.toNat+o.l.length) 1
def Il(o:OP):U:=if o.kind=0 then .keep else if o.kind=1 then .del T0 else .desc o.e
def M6:U->U->Prop
 |.keep,.keep=>True
 |.del _,.del _=>True
 |.desc e,.desc e'=>e=e'
 |_,_=>False
inductive PM(R:E->T->T->Prop):List Pc->List T->Prop
 |nil:PM R [] []
 |a (o:OP) (l:List Pc) (a:List T) (h:o.kind=2) (g:PM R l a):PM R (.a o::l) a
 |b (o:OP) (l:List Pc) (a:List T) (h:o.kind=2) (g:PM R l a):PM R (.b o::l) a
 |both (o o':OP) (l:List Pc) (a1 a2:List T) (hn:a1.length=Kt o) (hl:0<=o.n) (h:∀t,t∈a1->XI R o t/\XI R o' t) (g:PM R l a2):PM R (.both o o'::l) (a1++a2)
noncomputable def EG(mg:Di->T->E->E->T × List Cf)(at':Di)(o o':OP):List T->Nat->List T × List Cf
 |[],n=>([],[])
 |k::ks,n=>((B6 mg (at'++[(0,(n:Int))]) k (Il o) (Il o')).1++(EG mg at' o o' ks (n+1)).1,(B6 mg (at'++[(0,(n:Int))]) k (Il o) (Il o')).2++(EG mg at' o o' ks (n+1)).2)
noncomputable def run(mg:Di->T->E->E->T × List Cf)(at':Di)(kind:Int):List Pc->List T->List T->List T->Nat->List T × List Cf
 |[],mine,hers,ks,n=>Fx at' kind n mine hers
 |.a o::l,mine,hers,ks,n=>run mg at' kind l (mine++o.l) hers ks n
 |.b o::l,mine,hers,ks,n=>run mg at' kind l mine (hers++o.l) ks n
 |.both o o'::l,mine,hers,ks,n=>
  ((Fx at' kind n mine hers).1++((EG mg at' o o' (ks.take (Kt o)) n).1++(run mg at' kind l [] [] (ks.drop (Kt o)) (n+Kt o)).1),
   (Fx at' kind n mine hers).2++((EG mg at' o o' (ks.take (Kt o)) n).2++(run mg at' kind l [] [] (ks.drop (Kt o)) (n+Kt o)).2))
def Ya:List U->Prop
 |.ins _::_=>False
 |_=>True
theorem Ed{l:List T}{us:List U}(h:Ya us):Ih (l.map .ins++us)=l/\FK (l.map .ins++us)=us:=by
 induction l with
 |nil=>
  cases us with
  |nil=>exact⟨rfl,rfl⟩
  |cons u us=>cases u<;>first|exact⟨rfl,rfl⟩|exact h.elim
 |cons x l ih=>exact⟨by rw[List.map_cons,List.cons_append,Ih,ih.1],by rw[List.map_cons,List.cons_append,FK,ih.2]⟩
section
variable {mg:Di->T->E->E->T × List Cf} {at':Di} {kind:Int}
theorem VY(n:Nat):Fx at' kind n [] []=([],[]):=by simp[Fx]
theorem ze{us vs:List U}(hu:Ya us)(hv:Ya vs)(mine hers:List T):∀(ks:List T)(n:Nat),N7 mg at' kind ks (mine.map .ins++us) (hers.map .ins++vs) n=((Fx at' kind n mine hers).1++(N7 mg at' kind ks us vs n).1,(Fx at' kind n mine hers).2++(N7 mg at' kind ks us vs n).2)
 |[],n=>by
  have e1:=Ed (l:=mine) hu;have e2:=Ed (l:=hers) hv;have e3:=Ed (l:=[]) hu;have e4:=Ed (l:=[]) hv;simp only[List.map_nil,List.nil_append]at e3 e4;simp only[N7,e1,e2,e3,e4,VY,List.append_nil]
 |k::ks,n=>by
  have e1:=Ed (l:=mine) hu;have e2:=Ed (l:=hers) hv;have e3:=Ed (l:=[]) hu;have e4:=Ed (l:=[]) hv;simp only[List.map_nil,List.nil_append]at e3 e4;simp only[N7,e1,e2,e3,e4,VY,List.nil_append]
theorem kj(k:T)(a:Di){u u' v v':U}(h1:M6 u u')(h2:M6 v v'):B6 mg a k u v=B6 mg a k u' v':=by
 cases u<;>cases u'<;>first|exact h1.elim|skip
 all_goals cases v<;>cases v'<;>first|exact h2.elim|skip
 all_goals simp only[M6]at h1 h2
 all_goals first|rfl|(subst h1;subst h2;rfl)|(subst h1;rfl)|(subst h2;rfl)
theorem Mo{u u':U}(h:M6 u u')(us:List U):Ya (u::us):=by
 cases u<;>first|trivial|(cases u'<;>exact h.elim)
theorem XX{o o':OP}{us2 vs2:List U}:∀(ks1 ks2:List T)(us1 vs1:List U)(n:Nat),us1.length=ks1.length->vs1.length=ks1.length->(∀u,u∈us1->M6 u (Il o))->(∀u,u∈vs1->M6 u (Il o')) ->
  N7 mg at' kind (ks1++ks2) (us1++us2) (vs1++vs2) n=((EG mg at' o o' ks1 n).1++(N7 mg at' kind ks2 us2 vs2 (n+ks1.length)).1,(EG mg at' o o' ks1 n).2++(N7 mg at' kind ks2 us2 vs2 (n+ks1.length)).2)
 |[],ks2,us1,vs1,n,h1,h2,_,_=>by
  rw[List.eq_nil_of_length_eq_zero h1,List.eq_nil_of_length_eq_zero h2];simp[EG]
 |k::ks1,ks2,[],vs1,n,h1,h2,_,_=>by simp at h1
 |k::ks1,ks2,u::us1,[],n,h1,h2,_,_=>by simp at h2
 |k::ks1,ks2,u::us1,v::vs1,n,h1,h2,h3,h4=>by
  have ih:=XX (us2:=us2) (vs2:=vs2) (o:=o) (o':=o') ks1 ks2 us1 vs1 (n+1) (by simpa using h1) (by simpa using h2) (fun u hu=>h3 u (List.mem_cons_of_mem _ hu)) (fun u hu=>h4 u (List.mem_cons_of_mem _ hu));have e3:=Ed (l:=[]) (Mo (h3 u iS) (us1++us2));have e4:=Ed (l:=[]) (Mo (h4 v iS) (vs1++vs2));simp only[List.map_nil,List.nil_append]at e3 e4;have eu:B6 mg (at'++[(0,(n:Int))]) k u v=B6 mg (at'++[(0,(n:Int))]) k (Il o) (Il o'):=kj k _ (h3 u iS) (h4 v iS);simp only[List.cons_append,N7,e3,e4,VY,List.nil_append,de,List.tail_cons,ih,EG,eu,List.length_cons,List.append_assoc];rw[show n+1+ks1.length=n+(ks1.length+1)from oF]
end
theorem UY(l:List T):Qz (.mk 1 0 l E0)=l.map .del:=by simp[Qz]
theorem sX{R:E->T->T->Prop}{p:OP}{ps:List OP}{a x:List T}(h:LdO R (p::ps) a x)(hp:p.kind≠2){n:Nat}(h1:1<=n)(hn:(n:Int)<=PN p) :
  ∃a1 a2 x2,a=a1++a2/\a1.length=n/\LdO R (Ko p n ps) a2 x2/\(∀t,t∈a1->XI R (Jm p n) t)/\Kt (Jm p n)=n/\0<=(Jm p n).n/\Mc (p::ps)=Qz (Jm p n)++Mc (Ko p n ps)/\(Qz (Jm p n)).length=n/\∀u,u∈Qz (Jm p n)->M6 u (Il (Jm p n)):=by
 cases h with
 |@keep _ a b l m hne hl g=>
  have hs:PN (.mk 0 (l.length:Nat) [] E0)=(l.length:Int):=by simp[PN]
  rw[hs]at hn;have hll:l.length=m.length:=by simpa using congrArg List.length hl
  by_cases c:(l.length:Int)<=n
  ·have e:n=l.length:=oF
   have e1:Jm (.mk 0 (l.length:Nat) [] E0) n=.mk 0 (l.length:Nat) [] E0:=by unfold Jm;rw[if_pos (by rw[hs];exact c)]
   have e2:Ko (.mk 0 (l.length:Nat) [] E0) n ps=ps:=by unfold Ko;rw[if_pos (by rw[hs];exact c)]
   rw[e1,e2];refine⟨l,a,b,rfl,e.symm,g,fun t _=>.inl ⟨rfl,rfl⟩,by simp[Kt];omega,iS,by rw[DN],by simp[Qz,e],fun u hu=>?_⟩;simp[Qz]at hu;rw[hu.2];simp[Il,M6]
  ·have e1:Jm (.mk 0 (l.length:Nat) [] E0) n=.mk 0 n [] E0:=by unfold Jm;rw[if_neg (by rw[hs];exact c)];rfl
   have e2:Ko (.mk 0 (l.length:Nat) [] E0) n ps=.mk 0 ((l.drop n).length:Nat) [] E0::ps:=by
    unfold Ko;rw[if_neg (by rw[hs];exact c)];simp[pj];omega
   rw[e1,e2];refine⟨l.take n,l.drop n++a,m.drop n++b,by rw[<-List.append_assoc,List.take_append_drop],by simp;omega,.keep _ _ (fun h=>by have:=congrArg List.length h;simp at this;omega) (by rw[List.map_drop,List.map_drop,hl]) g,fun t _=>.inl ⟨rfl,rfl⟩,by simp[Kt];omega,iS,?_,by simp[Qz],fun u hu=>?_⟩
   ·rw[DN,DN,<-List.append_assoc];simp[Qz];omega
   ·simp[Qz]at hu;rw[hu.2];simp[Il,M6]
 |@del _ a b l m hne hl g=>
  have hs:PN (.mk 1 0 l E0)=(l.length:Int):=by simp[PN]
  rw[hs]at hn;have hll:l.length=m.length:=by simpa using congrArg List.length hl
  by_cases c:(l.length:Int)<=n
  ·have e:n=l.length:=oF
   have e1:Jm (.mk 1 0 l E0) n=.mk 1 0 l E0:=by unfold Jm;rw[if_pos (by rw[hs];exact c)]
   have e2:Ko (.mk 1 0 l E0) n ps=ps:=by unfold Ko;rw[if_pos (by rw[hs];exact c)]
   rw[e1,e2];refine⟨m,a,x,rfl,oF,g,fun t _=>.inr (.inl ⟨rfl,rfl⟩),by simp[Kt];omega,iS,by rw[DN],by simp[Qz,e],fun u hu=>?_⟩;simp[Qz]at hu;obtain⟨t,_,rfl⟩:=hu;simp[Il,M6]
  ·have e1:Jm (.mk 1 0 l E0) n=.mk 1 0 (l.take n) E0:=by unfold Jm;rw[if_neg (by rw[hs];exact c)];rfl
   have e2:Ko (.mk 1 0 l E0) n ps=.mk 1 0 (l.drop n) E0::ps:=by unfold Ko;rw[if_neg (by rw[hs];exact c)];rfl
   rw[e1,e2];refine⟨m.take n,m.drop n++a,x,by rw[<-List.append_assoc,List.take_append_drop],by simp;omega,.del _ _ (fun h=>by have:=congrArg List.length h;simp at this;omega) (by rw[List.map_drop,List.map_drop,hl]) g,fun t _=>.inr (.inl ⟨rfl,rfl⟩),by simp[Kt];omega,iS,?_,by simp[Qz];omega,fun u hu=>?_⟩
   ·rw[DN,DN,<-List.append_assoc];rw[UY,UY,UY,<-List.map_append,List.take_append_drop]
   ·rw[UY]at hu;obtain⟨t,_,rfl⟩:=List.mem_map.1 hu;simp[Il,M6]
 |ins l m hne hl g=>exact absurd rfl hp
 |@desc _ a b e x y r g=>
  have hs:PN (.mk 3 0 [] e)=1:=by simp[PN]
  rw[hs]at hn;have en:n=1:=oF
  subst en;have e1:Jm (.mk 3 0 [] e) 1=.mk 3 0 [] e:=by unfold Jm;rw[if_pos (by rw[hs];decide)]
  have e2:Ko (.mk 3 0 [] e) 1 ps=ps:=by unfold Ko;rw[if_pos (by rw[hs];decide)]
  rw[e1,e2];refine⟨[x],a,b,rfl,rfl,g,fun t ht=>.inr (.inr ⟨rfl,y,?_⟩),by simp[Kt],iS,by rw[DN],by simp[Qz],fun u hu=>?_⟩
  ·rw[List.mem_singleton.1 ht];exact r
  ·simp[Qz]at hu;rw[hu];simp[Il,M6]
theorem nU{R:E->T->T->Prop}{q:OP}{qs:List OP}{y:List T}(h:LdO R (q::qs) [] y):q.kind=2:=by
 generalize ha:([]:List T)=a at h;cases h with
 |keep l m hne hl g=>exact absurd (List.append_eq_nil_iff.1 ha.symm).1 hne
 |del l m hne hl g=>
  have:=(List.append_eq_nil_iff.1 ha.symm).1;subst this;exact absurd (by simpa using hl) hne
 |ins l m hne hl g=>rfl
 |desc e x y r g=>cases ha
theorem UX(p:OP)(n:Nat)(ps:List OP):(Ko p n ps).length<=ps.length+1:=by unfold Ko;split<;>simp
theorem Acl{o:OP}(h:Xe o){n:Nat}(c:¬PN o<=n):Xe (pj o n):=by
 obtain⟨h1,h2,h3⟩:=h;unfold PN at c;unfold pj;rcases h1 with ⟨k,a,b,d⟩|⟨k,a⟩|⟨k,a⟩|⟨k,a,b⟩
 ·rw[if_neg oF,d]at c;simp at c;rw[if_pos k];exact⟨.inl ⟨k,by simp;omega,by simp;omega,d⟩,fun h=>by simp[k]at h,h3⟩
 ·rw[if_neg oF,a]at c;rw[if_neg oF];exact⟨.inr (.inl ⟨k,a⟩),fun _ h=>by have:=congrArg List.length h;simp at this;omega,by simp;omega⟩
 ·rw[if_neg oF,a]at c;rw[if_neg oF];exact⟨.inr (.inr (.inl ⟨k,a⟩)),fun _ h=>by have:=congrArg List.length h;simp at this;omega,by simp;omega⟩
 ·rw[if_pos k]at c;rw[if_neg oF];exact⟨.inr (.inr (.inr ⟨k,a,by simp[b]⟩)),fun h=>by simp[k]at h,by simp;omega⟩
theorem SS{p:OP}{ps:List OP}(h:∀o,o∈p::ps->Xe o)(n:Nat):∀o,o∈Ko p n ps->Xe o:=by
 intro o ho;unfold Ko at ho;split at ho
 ·exact h o (List.mem_cons_of_mem _ ho)
 ·rename_i c;rcases List.mem_cons.1 ho with rfl|ho
  ·exact Acl (h p iS) c
  ·exact h o (List.mem_cons_of_mem _ ho)
theorem ji{R:E->T->T->Prop}:∀(N:Nat)(ps qs:List OP)(a x y:List T),LdO R ps a x->LdO R qs a y->(∀o,o∈ps->Xe o)->(∀o,o∈qs->Xe o)->ps.length+qs.length+2*a.length<=N ->
  ∃l,Xg ps qs l/\l.length<=N/\PM R l a/\∀(mg:Di->T->E->E->T × List Cf)(at':Di)(kind:Int)(mine hers:List T)(n:Nat),run mg at' kind l mine hers a n=N7 mg at' kind a (mine.map .ins++Mc ps) (hers.map .ins++Mc qs) n:=by
 intro N;induction N with
 |zero=>
  intro ps qs a x y hp hq _ _ hN;have e1:=List.eq_nil_of_length_eq_zero (show ps.length=0 from oF);have e2:=List.eq_nil_of_length_eq_zero (show qs.length=0 from oF);have e3:=List.eq_nil_of_length_eq_zero (show a.length=0 from oF);subst e1;subst e2;subst e3;refine⟨[],.nil,iS,.nil,fun mg at' kind mine hers n=>?_⟩;have i1:=Ed (l:=mine) (us:=[]) trivial;have i2:=Ed (l:=hers) (us:=[]) trivial;simp only[List.append_nil]at i1 i2;simp[run,N7,Mc,i1,i2]
 |succ N ih=>
  intro ps qs a x y hp hq gp gq hN;cases ps with
  |nil=>
   have ha:a=[]:=by cases hp;rfl
   cases qs with
   |nil=>
    subst ha;refine⟨[],.nil,iS,.nil,fun mg at' kind mine hers n=>?_⟩;have i1:=Ed (l:=mine) (us:=[]) trivial;have i2:=Ed (l:=hers) (us:=[]) trivial;simp only[List.append_nil]at i1 i2;simp[run,N7,Mc,i1,i2]
   |cons q qs=>
    have k:q.kind=2:=nU (by rw[ha]at hq;exact hq);cases hq with
    |keep l m hne hl g=>simp at k
    |del l m hne hl g=>simp at k
    |desc e x y r g=>simp at k
    |ins l m hne hl g=>
     obtain⟨r,k1,k2,k3,k4⟩:=ih [] qs a x _ hp g gp (fun o h=>gq o (List.mem_cons_of_mem _ h)) (by simp at hN ⊢; omega);refine⟨.b (.mk 2 0 l E0)::r,.snd _ _ _ _ rfl rfl k1,by simp;omega,.b _ _ _ rfl k3,fun mg at' kind mine hers n=>?_⟩;rw[run,k4,DN];simp[Qz]
  |cons p ps=>
   by_cases c:p.kind=2
   ·cases hp with
    |keep l m hne hl g=>simp at c
    |del l m hne hl g=>simp at c
    |desc e x y r g=>simp at c
    |ins l m hne hl g=>
     obtain⟨r,k1,k2,k3,k4⟩:=ih ps qs a _ y g hq (fun o h=>gp o (List.mem_cons_of_mem _ h)) gq (by simp at hN ⊢; omega);refine⟨.a (.mk 2 0 l E0)::r,.fst _ _ _ _ rfl k1,by simp;omega,.a _ _ _ rfl k3,fun mg at' kind mine hers n=>?_⟩;rw[run,k4,DN];simp[Qz]
   ·cases qs with
    |nil=>
     have ha:a=[]:=by cases hq;rfl
     subst ha;exact absurd (nU hp) c
    |cons q qs=>
     by_cases d:q.kind=2
     ·cases hq with
      |keep l m hne hl g=>simp at d
      |del l m hne hl g=>simp at d
      |desc e x y r g=>simp at d
      |ins l m hne hl g=>
       obtain⟨r,k1,k2,k3,k4⟩:=ih (p::ps) qs a x _ hp g gp (fun o h=>gq o (List.mem_cons_of_mem _ h)) (by simp at hN ⊢; omega);refine⟨.b (.mk 2 0 l E0)::r,.snd _ _ _ _ (decide_eq_false c) rfl k1,by simp;omega,.b _ _ _ rfl k3,fun mg at' kind mine hers n=>?_⟩;rw[run,k4,DN (.mk 2 0 l E0)];simp[Qz]
     ·have s1:=Lo (gp p iS);have s2:=Lo (gq q iS);obtain⟨n,hn⟩:=Int.eq_ofNat_of_zero_le (show 0<=min (PN p) (PN q) by omega);obtain⟨a1,a2,x2,rfl,u1,u2,u3,u4,u5,u6,u7,u8'⟩:=sX hp c (n:=n) oF oF;obtain⟨b1,b2,y2,e,v1,v2,v3,v4,v5,v6,v7,v8⟩:=sX hq d (n:=n) oF oF;obtain⟨rfl,rfl⟩:=List.append_inj e oF;have l1:=UX p n ps;have l2:=UX q n qs;obtain⟨r,k1,k2,k3,k4⟩:=ih (Ko p n ps) (Ko q n qs) a2 x2 y2 u2 v2 (SS gp n) (SS gq n) (by simp at hN ⊢; omega);refine⟨.both (Jm p n) (Jm q n)::r,.both _ _ _ _ n _ c d hn.symm k1,by simp at hN ⊢; omega,.both _ _ _ _ _ oF u5 (fun t ht=>⟨u3 t ht,v3 t ht⟩) k3,fun mg at' kind mine hers m=>?_⟩;have eN1:Ya (Qz (Jm p n)++Mc (Ko p n ps)):=by
       cases e1:Qz (Jm p n) with
       |nil=>rw[e1]at u7;simp at u7;omega
       |cons u us=>exact Mo (u8' u (by rw[e1];simp)) _
      have eN2:Ya (Qz (Jm q n)++Mc (Ko q n qs)):=by
       cases e1:Qz (Jm q n) with
       |nil=>rw[e1]at v7;simp at v7;omega
       |cons u us=>exact Mo (v8 u (by rw[e1];simp)) _
      rw[u6,v6,ze eN1 eN2,XX (o:=Jm p n) (o':=Jm q n) a1 a2 _ _ _ oF oF u8' v8];have k4':=k4 mg at' kind [] [] (m+n);simp only[List.map_nil,List.nil_append]at k4';rw[run,u4,List.take_left' u1,List.drop_left' u1,k4',u1]
theorem uU{list:Int}:∀{W:List OP} {s:Int},Wr list s W->∀o,o∈W->fM list o
 |[],_,_,o,h=>by simp at h
 |x::W,s,h,o,ho=>by
  rcases List.mem_cons.1 ho with rfl|ho
  ·exact h.1
  ·exact uU h.2.2 o ho
def pJ(one:T->T->E)(a b:List T)(o:OP):Prop:=o.kind=3->∃x y,x∈a/\y∈b/\G9 x y≠0/\o.e=one x y
theorem ZZ(one:T->T->E)(a b l:List T):∀o,o∈DX l->pJ one a b o:=fun o ho hk=>by
 unfold DX at ho;split at ho
 ·simp at ho
 ·rw[List.mem_singleton]at ho;subst ho;cases hk
theorem Zu(one:T->T->E)(a b l:List T):∀o,o∈Cm l->pJ one a b o:=fun o ho hk=>by
 unfold Cm at ho;split at ho
 ·simp at ho
 ·rw[List.mem_singleton]at ho;subst ho;cases hk
theorem s9{one:T->T->E}{a b a' b':List T}(hA:∀t,t∈a->t∈a')(hB:∀t,t∈b->t∈b'){o:OP}(h:pJ one a b o):pJ one a' b' o:=fun hk=>by
 obtain⟨x,y,hx,hy,hs,e⟩:=h hk;exact⟨x,y,hA x hx,hB y hy,hs,e⟩
theorem lW(one:T->T->E)(a b:List T):∀(P:List Sc)(i j:Nat)(out:List OP),eZ a.length b.length i j P->(∀x,x∈P->G9 (a.getD x.i T0) (b.getD x.j T0)≠0)->(∀o,o∈out->pJ one a b o)->∀o,o∈HW one a b P i j out->pJ one a b o
 |[],i,j,out,h,_,g=>by
  intro o ho;rw[HW]at ho;rcases List.mem_append.1 ho with ho|ho
  ·rcases List.mem_append.1 ho with ho|ho
   ·exact g o ho
   ·exact ZZ _ _ _ _ o ho
  ·exact Zu _ _ _ _ o ho
 |x::P,i,j,out,h,hs,g=>by
  obtain⟨k1,k2,k3,k4,k5⟩:=h;rw[HW];refine lW one a b P _ _ _ k5 (fun y hy=>hs y (List.mem_cons_of_mem _ hy)) fun o ho=>?_;rcases List.mem_append.1 ho with ho|ho
  ·rcases List.mem_append.1 ho with ho|ho
   ·rcases List.mem_append.1 ho with ho|ho
    ·exact g o ho
    ·exact ZZ _ _ _ _ o ho
   ·exact Zu _ _ _ _ o ho
  ·rw[List.mem_singleton]at ho;subst ho;intro _;refine⟨_,_,?_,?_,hs x iS,rfl⟩
   ·rw[List.getD_eq_getElem?_getD,List.getElem?_eq_getElem k3];exact De k3
   ·rw[List.getD_eq_getElem?_getD,List.getElem?_eq_getElem k4];exact De k4
theorem ns(one:T->T->E)(a b:List T):∀o,o∈G4 one a b->pJ one a b o:=by
 refine lW one a b _ 0 0 [] (S7 a b) (fun x hx=>?_) iS;obtain⟨h,_⟩:=Z9 (Om a b);obtain⟨h1,h2⟩:=Hf h;obtain⟨g1,g2⟩:=QJ h1;obtain⟨_,_,_,hn,r,k1,k2⟩:=OS (h2 x (g2.subset hx));simp[Om]at k1;obtain⟨t,e1,e2⟩:=k1;rw[<-e2]at k2;simp at k2;obtain⟨u,e3,e4⟩:=k2;rw[List.getD_eq_getElem?_getD,List.getD_eq_getElem?_getD,e1,e3];show G9 t u≠0;omega
theorem zf{one:T->T->E}(S:List Sp)(a b:List T):∀o,o∈Dg (G4 one) S a b []->pJ one a b o:=by
 have app:∀{out l:List OP},(∀o,o∈out->pJ one a b o)->(∀o,o∈l->pJ one a b o)->∀o,o∈out++l->pJ one a b o:=fun h1 h2 o ho=>by
  rcases List.mem_append.1 ho with ho|ho
  ·exact h1 o ho
  ·exact h2 o ho
 obtain⟨a',b',_,_,h⟩:=Kk (gap:=G4 one) (S0:=S) (I:=fun a' b' out=>(∀t,t∈a'->t∈a)/\(∀t,t∈b'->t∈b)/\∀o,o∈out->pJ one a b o) (fun s hs x y out h=>⟨fun t ht=>h.1 t (SF ht),fun t ht=>h.2.1 t (SF ht),app h.2.2 fun o ho hk=>by
   simp at ho;subst ho;cases hk⟩) (fun n x y out h=>⟨fun t ht=>h.1 t (SF ht),h.2.1,app h.2.2 (ZZ _ _ _ _)⟩) (fun n x y out h=>⟨h.1,fun t ht=>h.2.1 t (SF ht),app h.2.2 (Zu _ _ _ _)⟩) (fun n m x y out h=>⟨fun t ht=>h.1 t (SF ht),fun t ht=>h.2.1 t (SF ht),app h.2.2 fun o ho=>s9 (fun t ht=>h.1 t (QD ht)) (fun t ht=>h.2.1 t (QD ht)) (ns one _ _ o ho)⟩) S a b [] (fun s hs=>hs) ⟨fun t ht=>ht,fun t ht=>ht,iS⟩
 exact h
theorem yF(one:T->T->E)(most:Int)(a b:T):∀o,o∈QT one most a b->pJ one a.kids b.kids o:=by
 unfold QT;split
 ·exact zf _ _ _
 ·exact ns one _ _
theorem I9{e:E}{a u:T}(h:Vi e a u):G.Spec Tryz.prog 25 [eX e,tX a] (.tup [tX (Af u),bv true]):=by
 refine Ak ZS iS fun w0 I0=>?_;unfold QW;simp;refine Ag h.2 iS ?_;simp;refine Ag (DM u h.1) iS ?_;have e1:tX (Af u)=.agg [iv u.kind,Fu (Af u).words,B7 (Af u).kids]:=by
  show A.agg [iv (Af u).kind,Fu (Af u).words,B7 (Af u).kids]=_;rw[EC]
 simp;rw[e1];exact EZ ⟨Ae iS,Ae rfl,trivial⟩
theorem fS(l:List T)(n:Nat):Cy (l.take n)<=Cy l:=by
 induction l generalizing n with
 |nil=>simp
 |cons x l ih=>
  cases n with
  |zero=>
   have h1:=Ij x;have h2:=G0 l;rw[List.take_zero,Dl];simp;omega
  |succ n=>
   rw[List.take_succ_cons,Dl,Dl];have:=ih n;omega
theorem kL:∀t:T,Bk (Af t)<=Bk t:=by
 refine T.ind fun k w l ih=>?_;have hm:∀m:List T,(∀t,t∈m->Bk (Af t)<=Bk t)->Cy (m.map Af)<=Cy m:=fun m=>by
  induction m with
  |nil=>intro _;simp
  |cons x m ihm=>
   intro h;rw[List.map_cons,Dl,Dl];have h1:=h x iS;have h2:=ihm fun t ht=>h t (List.mem_cons_of_mem _ ht);omega
 have h1:=hm l ih;have h2:=G0 l;rw[Cw,Ey];split
 ·simp;omega
 ·split
  ·have h3:=LG w;have h4:=fS (l.map Af) (DG (l.map Af)).length;rw[<-Kl]at h4;rw[Ey];omega
  ·rw[Ey];omega
abbrev Afa(s:Int × Int):List A:=[iv s.1,iv s.2]
def fX(s:Int × Int):A:=.agg (Afa s)
@[simp]theorem W4(s:Int × Int):(fX s).cells=Afa s:=rfl
abbrev D3(l:Di):A:=.sl false (l.map fX)
@[simp]theorem AiT(l:Di):EN 2 (l.map fX)=true:=by
 rw[Jj];intro x hx;obtain⟨y,_,rfl⟩:=List.mem_map.1 hx;rfl
abbrev Zx(t:T):List A:=[iv t.kind,Fu t.words,B7 t.kids]
abbrev cfC(c:Cf):List A:=[D3 c.path,iv c.base.kind,Fu c.base.words,B7 c.base.kids,iv c.ours.kind,Fu c.ours.words,B7 c.ours.kids,iv c.theirs.kind,Fu c.theirs.words,B7 c.theirs.kids]
def xp(c:Cf):A:=.agg (cfC c)
@[simp]theorem Aew(c:Cf):(xp c).cells=cfC c:=rfl
@[simp]theorem Akh(l:List Cf):EN 10 (l.map xp)=true:=by rw[Jj];simp
abbrev cfs(l:List Cf):A:=.sl false (l.map xp)
def Ps(v w:Nat)(C:List Cf):Fam:=⟨fun r p=>if p=[]then ⟨v,.cells [.osl [r,0] (w+C.length) 10 0 C.length]⟩else if p=[0]then ⟨w+C.length,.arr 10 (C.map xp)⟩else ⟨0,.none⟩,fun {γ δ r r'} hg hd p=>by
  by_cases h1:p=[]
  ·rw[if_pos h1,if_pos h1];refine Fam.cells_ren ?_;simp[A.renL,A.ren,hg,hd]
  ·rw[if_neg h1,if_neg h1];by_cases h2:p=[0]
   ·rw[if_pos h2];refine Fam.arr_ren ?_;simp only[Cu,List.map_map];refine List.map_congr_left fun x _=>?_;simp[xp,A.ren,A.renL]
   ·rw[if_neg h2];rfl,fun {D r} hD p=>by
  by_cases h1:p=[]
  ·rw[if_pos h1];simp[Ob.refs,A.refsL,A.refs,hD]
  ·rw[if_neg h1];by_cases h2:p=[0]
   ·rw[if_pos h2];simp only[Ob.refs,refsL_iff];intro y hy;obtain⟨x,_,rfl⟩:=List.mem_map.1 hy;simp[xp,A.refs,A.refsL]
   ·rw[if_neg h2];trivial⟩
@[simp]theorem AlK{v w:Nat}{C:List Cf}{r:Nat}{p:Nm}:(Ps v w C).F r p=if p=[]then ⟨v,.cells [.osl [r,0] (w+C.length) 10 0 C.length]⟩else if p=[0]then ⟨w+C.length,.arr 10 (C.map xp)⟩else ⟨0,.none⟩:=rfl
theorem Bz(t:T):DV (fun _=>tX t):=DJ (cs:=Zx t) rfl fun x hx=>by simp at hx;rcases hx with rfl|rfl|rfl<;>rfl
theorem AF(e:E):DV (fun _=>eX e):=DJ (cs:=eL e) rfl fun x hx=>by simp at hx;rcases hx with rfl|rfl|rfl|rfl|rfl|rfl|rfl|rfl|rfl|rfl|rfl<;>rfl
theorem JH(l:Di)(k n:Int)(h:l.length<=1000000):G.Spec Tryz.prog 84 [D3 l,iv k,iv n] (D3 (l++[(k,n)])):=by
 refine Ak Un iS fun w0 I0=>?_;unfold MZ;have c:DD l.length none (some (iv l.length)) (some (iv l.length))=some (0,l.length,some l.length):=by simp[DD,FT]
 simp[c,HZ,AO];refine⟨oF,?_⟩;have:=CI (H:=Gz [([0],⟨1,.arr 2 ((l++[(k,n)]).map fX)⟩)]) (o:=[0]) (u:=1) (n:=l.length+1) (sz:=2) (l:=l++[(k,n)]) (f:=fX) iS iS (fun x=>by rw[W4];rfl);simp[fX]at this;rw[show D3 (l++[(k,n)])=.sl false (l.map fX++[.agg [iv k,iv n]])from by rw[D3,List.map_append];rfl];exact this
theorem Ot(w:Int):G.Spec Tryz.prog 132 [uv w] (tX (CT w)):=by
 refine Ak U8 iS fun w0 I0=>?_;unfold Oo;simp;exact CF ⟨Ae rfl,Am,Am,trivial⟩
theorem qg{e:E}{t v:T}{b:Bool}(h:G.Spec Tryz.prog 25 [eX e,tX t] (.tup [tX v,bv b])):G.Spec Tryz.prog 54 [eX e,tX t] (tX v):=by
 refine Ak au iS fun w0 I0=>?_;unfold Sb;simp;refine Ag h iS ?_;simp;exact Ae iS
theorem fC(l:Di)(h:l.length<=1000000):G.Spec Tryz.prog 91 [D3 l] (D3 l):=by
 cases l with
 |nil=>
  refine(YA (fun cap=>?_) (fun a cap=>?_)).spec
  ·refine LW CG iS fun w0 I0=>?_;unfold BV;simp;exact dP
  ·refine LW CG iS fun w0 I0=>?_;unfold BV;simp;exact QR (H:=Gz [([0],⟨1,.arr 2 []⟩)]) (o:=[0]) (u:=1) (off:=0) (len:=0) (sz:=2) (xs:=[]) iS iS iS
 |cons x l=>
  refine Ak CG iS fun w0 I0=>?_;unfold BV;rw[List.length_cons]at h;simp[D3];refine⟨oF,?_⟩;exact CI (o:=[0]) (u:=1) (n:=l.length+1) (sz:=2) (l:=x::l) (f:=fX) iS iS (fun x=>by rw[W4];rfl)
abbrev tXb(f:Bool)(t:T):A:=.agg [iv t.kind,.sl f (t.words.map uv),.sl f (t.kids.map tA)]
theorem lM(f:Bool)(t:T):DV (fun _=>tXb f t):=DJ (cs:=[iv t.kind,.sl f (t.words.map uv),.sl f (t.kids.map tA)]) rfl fun x hx=>by simp at hx;rcases hx with rfl|rfl|rfl<;>rfl
theorem Ny{l:Di}{b o t:T}(f1 f2:Bool)(hl:l.length<=1000000)(wb:AE b)(wo:AE o)(wt:AE t)(v w:Nat){C:List Cf}(hC:C.length<=100000000000) :
  SpecF Tryz.prog 58 (fun r=>[.pob [r] v 0,D3 l,tX b,tXb f1 o,tXb f2 t]) (Ps v w C) (fun _=>tX b) (Ps v w (C++[⟨l,Af b,Af o,Af t⟩])):=by
 have K:=fC l hl;have N1:=DM b wb;have N2:G.Spec Tryz.prog 35 [tXb f1 o] (tX (Af o)):=(DM o wo).soft (by simp[A.softL,A.soft,JD,FZ]);have N3:G.Spec Tryz.prog 35 [tXb f2 t] (tX (Af t)):=(DM t wt).soft (by simp[A.softL,A.soft,JD,FZ]);refine Hh NH iS (Ab Aq (Ab Bc (Ab (Bz b) (Ab (lM f1 o) (Ab (lM f2 t) Ah))))) (Bz b) fun w0 I0 M0 m0 hM=>?_;unfold IP;simp;refine Ag K iS ?_;simp;refine Ag N1 iS ?_;simp;refine Ag N2 iS ?_;simp;refine Ag N3 iS ?_;simp[Aa];refine⟨oF,?_⟩;refine An (r0:=tX b) (by simp[Et]) rfl fun p=>?_;by_cases h1:p=[]
 ·subst h1;simp[Aa];omega
 ·by_cases h2:p=[0]
  ·subst h2;simp[Aa,xp,AO];omega
  ·simp[Aa,h1,h2]
theorem Qs{l:Di}{b o t:T}(hl:l.length<=1000000)(wb:AE b)(wo:AE o)(wt:AE t)(v w:Nat){C:List Cf}(hC:C.length<=100000000000) :
  SpecF Tryz.prog 58 (fun r=>[.pob [r] v 0,D3 l,tX b,tX o,tX t]) (Ps v w C) (fun _=>tX b) (Ps v w (C++[⟨l,Af b,Af o,Af t⟩])):=Ny false false hl wb wo wt v w hC
variable {n0:Nat} {w0:World} {I0:Nat->Prop} {Q:Exit->Sta->Prop}
theorem zN{ks:List KE}(hl:ks.length<=10000000000000){n:Nat}
  (hq:∀(H':Hp)(st:List (Nat × A)),H' [0]=⟨1,.cells (Be)⟩->ks.find? (fun k=>decide (k.at_=(n:Int)))=none->Q (.exit 0) ⟨lk ([(1,iv n),(4,.pob [0] 1 0)]++st),H'⟩)
  (hr:∀(H':Hp)(x:KE),ks.find? (fun k=>decide (k.at_=(n:Int)))=some x->H' [0]=⟨1,.cells (eL x.e)⟩->Q .ret ⟨lk [(4,.pob [0] 1 0)],H'⟩) :
  ∀(j i:Nat)(H:Hp),i+j=ks.length->ks.find? (fun k=>decide (k.at_=(n:Int)))=(ks.drop i).find? (fun k=>decide (k.at_=(n:Int)))->H [0]=⟨1,.cells Be⟩ ->
  LoopC (cx Tryz.prog w0 I0 n0) JJ Q ⟨lk [(1,iv n),(4,.pob [0] 1 0),(7,MD ks),(8,iv ks.length),(9,iv i)],H⟩:=by
 intro j;induction j with
 |zero=>
  intro i H hj hf h0;have:i=ks.length:=oF
  subst this;rw[List.drop_length]at hf;refine Ad Ai JJ.eq_1 ?_;simp;have:=hq H [(7,MD ks),(8,iv ks.length),(9,iv ks.length),(10,bv false)] h0 hf;simpa using this
 |succ j ih=>
  intro i H hj hf h0;have hlt:i<ks.length:=oF
  have ew:=AR i;have hd:ks.drop i=ks[i]::ks.drop (i+1):=(List.getElem_cons_drop hlt).symm;have next:=ih (i+1)
  rw[hd,List.find?_cons]at hf;generalize hx:ks[i]=x at *;refine Ad Ai JJ.eq_1 ?_;by_cases c:x.at_=(n:Int)
  ·rw[decide_eq_true c]at hf;simp[hlt,hx,Aa,c,h0,Be];exact hr _ x hf (by simp[Aa])
  ·rw[decide_eq_false c]at hf;simp[hlt,hx,Aa,c];rw[ew];exact next _ oF hf (by simp[Aa,h0])
theorem FR(H1:Hp):HF H1 Be (eL E0):=by
 have hE:eL E0=[iv 0,iv 0,.sl false [],.sl false [],iv 0,.sl false [],.sl false [],.sl false [],.sl false [],iv 0,.sl false []]:=by simp[E0]
 rw[hE];exact⟨Ae rfl,Ae rfl,Am,Am,Ae rfl,Am,Am,Am,Am,Ae rfl,Am,trivial⟩
theorem YK(ks:List KE)(hl:ks.length<=10000000000000)(n:Nat):G.Spec Tryz.prog 85 [MD ks,iv n] (eX (Ek ks n)):=by
 refine Ak gE iS fun w0 I0=>?_;unfold Uh;simp;refine zN (n:=n) hl (fun H' st h0 hf=>?_) (fun H' x hf h0=>?_) ks.length 0 _ oF iS (by simp[Be])
 ·have:Ek ks n=E0:=by unfold Ek;rw[hf];rfl
  rw[this];simp[h0,Be];exact CF (FR _)
 ·have:Ek ks n=x.e:=by unfold Ek;rw[hf];rfl
  rw[this];simp[h0];exact Ae iS
def uh:Pc->A
 |.a o=>.agg (iv 1::(SO o++Xy))
 |.b o=>.agg (iv 2::(Xy++SO o))
 |.both o o'=>.agg (iv 0::(SO o++SO o'))
abbrev O0:OP:=.mk 0 0 [] E0
def xc:Pc->List A
 |.a o=>iv 1::(SO o++SO O0)
 |.b o=>iv 2::(SO O0++SO o)
 |.both o o'=>iv 0::(SO o++SO o')
def pcA(x:Pc):A:=.agg (xc x)
@[simp]theorem AeF(x:Pc):(pcA x).cells=xc x:=rfl
@[simp]theorem AiK(x:Pc):(uh x).cells.length=29:=by cases x<;>rfl
@[simp]theorem Akl(x:Pc):(xc x).length=29:=by cases x<;>rfl
abbrev cR(l:List Pc):A:=.sl false (l.map pcA)
section
variable {n0:Nat} {w0:World} {I0:Nat->Prop} {M0:Nm->Nat->Prop} {m0:Mu} {Q:Exit->Sta->Prop}
theorem yU{v v':Nat}{R:List Pc}(hR:R.length<=100000000)
  (hq:∀(H':Hp)(u:Nat),(∀p,H' (0::p)=(Xd v [] 2).F 0 p)->(∀p,H' (1::p)=(Xd v' [] 2).F 1 p)->H' [2]=⟨u,.arr 29 (R.map uh)⟩->Q .ret ⟨lk [(4,.osl [2] u 29 0 R.length),(5,bv true)],H'⟩)
  {ps qs:List OP} {l:List Pc} (hT:Xg ps qs l):(∀o,o∈ps->Xe o)->(∀o,o∈qs->Xe o)->ps.length<=1000000->qs.length<=1000000->∀(X:List Pc)(u:Nat)(H:Hp),R=X++l->(∀p,H (0::p)=(Xd v ps 2).F 0 p)->(∀p,H (1::p)=(Xd v' qs 2).F 1 p)->H [2]=⟨u,.arr 29 (X.map uh)⟩ ->
  LoopC (DC Tryz.prog w0 I0 M0 n0 m0) Fi Q ⟨lk [(0,.pob [0] v 0),(1,.pob [1] v' 0),(6,.osl [2] u 29 0 X.length)],H⟩:=by
 induction hT with
 |nil=>
  intro _ _ _ _ X u H hX h0 h1 h2;rw[List.append_nil]at hX;subst hX;have S1:=ET v [] 2;have S2:=ET v' [] 2;have D1:=Kf v [] 2;have D2:=Kf v' [] 2;refine Ad Ai Fi.eq_1 ?_;simp;refine FD 0 S1 (fun p=>by simp[h0]) iS iS ?_;simp[sgO];refine FD 1 S2 (fun p=>by simp[h1]) iS iS ?_;simp[sgO];refine FD 0 D1 (fun p=>by simp[h0]) iS iS ?_;simp;refine BP rfl ?_;simp;refine FD 0 D1 (fun p=>by simp[h0]) iS iS ?_;simp;refine FD 1 D2 (fun p=>by simp[h1]) iS iS ?_;simp;exact hq H u (fun p=>by simp[h0]) (fun p=>by simp[h1]) h2
 |fst p ps qs l h g ih=>
  intro hp hq' lp lq X u H hX h0 h1 h2;have S1:=ET v (p::ps) 2;have Z:=Kc (hp p iS);have z1:=Lo (hp p iS);obtain⟨n,hn⟩:=Int.eq_ofNat_of_zero_le (show 0<=PN p from oF);have T:=Mq (hp p iS) (l:=ps) (by simp at lp;omega) (n:=n) oF v 2;rw[show Jm p n=p from if_pos oF,show Ko p n ps=ps from if_pos oF]at T;have h00:H [0]=⟨v,.cells [Jo (p::ps),iv 2]⟩:=by rw[h0];simp
  have e1:sgO 2 (p::ps)=true:=decide_eq_true h;have hl:R.length=X.length+1+l.length:=by rw[hX];simp;omega
  refine Ad Ai Fi.eq_1 ?_;simp;refine FD 0 S1 (fun p=>by simp[h0]) iS iS ?_;simp[e1,h00];refine Ag Z iS ?_;rw[hn];simp;refine Ap 0 T (fun p=>by simp[h0]) iS iS ?_;simp[h2];refine⟨oF,?_⟩;have:=ih (fun o ho=>hp o (List.mem_cons_of_mem _ ho)) hq' (by simp at lp;omega) lq (X++[.a p]) (u+1) (ov 0 ((Xd v ps 2).F 0) (AK H [2] ⟨u+1,.arr 29 ((X++[Pc.a p]).map uh)⟩)) (by rw[hX];simp) (fun p=>by simp[Aa]) (fun p=>by simp[Aa,h1]) (by simp[Aa]);simpa[uh,Xy,AO]using this
 |snd ps q qs l hp h g ih=>
  intro hp' hq' lp lq X u H hX h0 h1 h2;have S1:=ET v ps 2;have S2:=ET v' (q::qs) 2;have Z:=Kc (hq' q iS);have z1:=Lo (hq' q iS);obtain⟨n,hn⟩:=Int.eq_ofNat_of_zero_le (show 0<=PN q from oF);have T:=Mq (hq' q iS) (l:=qs) (by simp at lq;omega) (n:=n) oF v' 2;rw[show Jm q n=q from if_pos oF,show Ko q n qs=qs from if_pos oF]at T;have h10:H [1]=⟨v',.cells [Jo (q::qs),iv 2]⟩:=by rw[h1];simp
  have e1:sgO 2 (q::qs)=true:=decide_eq_true h;have hl:R.length=X.length+1+l.length:=by rw[hX];simp;omega
  refine Ad Ai Fi.eq_1 ?_;simp;refine FD 0 S1 (fun p=>by simp[h0]) iS iS ?_;simp[hp];refine FD 1 S2 (fun p=>by simp[h1]) iS iS ?_;simp[e1,h10];refine Ag Z iS ?_;rw[hn];simp;refine Ap 1 T (fun p=>by simp[h1]) iS iS ?_;simp[h2];refine⟨oF,?_⟩;have:=ih hp' (fun o ho=>hq' o (List.mem_cons_of_mem _ ho)) lp (by simp at lq;omega) (X++[.b q]) (u+1) (ov 1 ((Xd v' qs 2).F 1) (AK H [2] ⟨u+1,.arr 29 ((X++[Pc.b q]).map uh)⟩)) (by rw[hX];simp) (fun p=>by simp[Aa,h0]) (fun p=>by simp[Aa]) (by simp[Aa]);simpa[uh,Xy,AO]using this
 |both p ps q qs n l hp hq hn g ih=>
  intro gp gq lp lq X u H hX h0 h1 h2;have S1:=ET v (p::ps) 2;have S2:=ET v' (q::qs) 2;have D1:=Kf v (p::ps) 2;have D2:=Kf v' (q::qs) 2;have Z1:=Kc (gp p iS);have z1:=Lo (gp p iS);have Z2:=Kc (gq q iS);have z2:=Lo (gq q iS);have T1:=Mq (gp p iS) (l:=ps) (by simp at lp;omega) (n:=n) oF v 2;have T2:=Mq (gq q iS) (l:=qs) (by simp at lq;omega) (n:=n) oF v' 2;have h00:H [0]=⟨v,.cells [Jo (p::ps),iv 2]⟩:=by rw[h0];simp
  have h10:H [1]=⟨v',.cells [Jo (q::qs),iv 2]⟩:=by rw[h1];simp
  refine Ad Ai Fi.eq_1 ?_;simp;refine FD 0 S1 (fun p=>by simp[h0]) iS iS ?_;simp[sgO,hp];refine FD 1 S2 (fun p=>by simp[h1]) iS iS ?_;simp[sgO,hq];refine FD 0 D1 (fun p=>by simp[h0]) iS iS ?_;simp;rw[AW];simp;refine FD 1 D2 (fun p=>by simp[h1]) iS iS ?_;simp[h00,h10];refine Ag Z1 iS ?_;simp[h00,h10];refine Ag Z2 iS ?_;simp[h00,h10,<-hn];refine Ap 0 T1 (fun p=>by simp[h0]) iS iS ?_;simp;refine Ap 1 T2 (fun p=>by simp[h1]) iS iS ?_;simp[h2];have hl:R.length=X.length+1+l.length:=by rw[hX];simp;omega
  refine⟨oF,?_⟩;have l1:=UX p n ps;have l2:=UX q n qs;have:=ih (SS gp n) (SS gq n) (by simp at lp;omega) (by simp at lq;omega) (X++[.both (Jm p n) (Jm q n)]) (u+1) (ov 1 ((Xd v' (Ko q n qs) 2).F 1) (ov 0 ((Xd v (Ko p n ps) 2).F 0) (AK H [2] ⟨u+1,.arr 29 ((X++[Pc.both (Jm p n) (Jm q n)]).map uh)⟩))) (by rw[hX];simp) (fun p=>iS) (fun p=>iS) (by simp[Aa]);simpa[uh,AO]using this
end
theorem yS{H:Hp}{o:Nm}{u n:Nat}{l:List Pc}(h:vr (H o) u=some (29,l.map uh))(hn:n=l.length):Jl H (.osl o u 29 0 n) (cR l):=
 WV (g:=pcA) h hn fun x _=>by
  have hE:eL E0=[iv 0,iv 0,.sl false [],.sl false [],iv 0,.sl false [],.sl false [],.sl false [],.sl false [],iv 0,.sl false []]:=by simp[E0]
  cases x<;>simp[uh,xc,Xy,A.soft,A.softL,JD,FZ,N9,Rc,QX,A.ones,A.bare]
theorem kS{v v':Nat}{ps qs:List OP}{l:List Pc}(hT:Xg ps qs l)(gp:∀o,o∈ps->Xe o)(gq:∀o,o∈qs->Xe o)(lp:ps.length<=1000000)(lq:qs.length<=1000000)(hl:l.length<=100000000) :
  Hv Tryz.prog 133 (fun r q=>[.pob [r] v 0,.pob [q] v' 0]) ((Xd v ps 2).two (Xd v' qs 2)) (fun _ _=>.tup [cR l,bv true]) ((Xd v [] 2).two (Xd v' [] 2)):=by
 refine kV aY iS (Av (AL Aq) (Av (GR Aq) C5)) (AL (Ay (Ab Bc (Ab Az Ah)))) fun w0 I0 M0 m0 hM=>?_;unfold QM;simp;refine LoopC.le (F0 6 [2] 29 iS) ?_;refine LoopC.le (Ar [(0,.pob [0] v 0),(1,.pob [1] v' 0),(6,.osl [2] 1 29 0 ([]:List Pc).length)] (by simp[upd])) ?_;refine yU hl (fun H' u k0 k1 k2=>?_) hT gp gq lp lq [] 1 _ rfl (fun p=>by simp[Aa]) (fun p=>by simp[Aa]) (by simp[Aa]);obtain⟨H2,g1,g2⟩:=Qm (c:=DC Tryz.prog w0 I0 M0 78 m0) (s:=lk [(4,.osl [2] u 29 0 l.length),(5,bv true)]) (H:=H') (fun r=>r=2) (fun r p b hr=>hM r p b oF) 4 (cR l) (fun H1 e1=>by
  have e2:H1 [2]=H' [2]:=e1 2 [] rfl;simp;exact yS (by rw[e2,k2];simp) rfl)
 refine Gp g1 (JZ (r0:=.tup [cR l,bv true]) (by simp[upd,Et]) rfl (fun p=>?_) (fun p=>?_))
 ·exact(g2 0 p oF).trans (k0 p)
 ·exact(g2 1 p oF).trans (k1 p)
theorem PJ{ps qs:List OP}{l:List Pc}(hT:Xg ps qs l)(gp:∀o,o∈ps->Xe o)(gq:∀o,o∈qs->Xe o)(lp:ps.length<=1000000)(lq:qs.length<=1000000)(hl:l.length<=100000000) :
  G.Spec Tryz.prog 86 [Jo ps,Jo qs] (.tup [cR l,bv true]):=by
 have P:=kS (v:=1) (v':=1) hT gp gq lp lq hl;refine Ak Ut iS fun w0 I0=>?_;unfold MT;simp;refine Fa 0 1 dO P (fun p=>?_) (fun p=>?_) iS iS ?_
 ·by_cases hp:p=[]
  ·subst hp;simp
  ·simp[hp,Gz,Ne.symm hp]
 ·by_cases hp:p=[]
  ·subst hp;simp
  ·simp[hp,Gz,Ne.symm hp]
 simp;exact EZ ⟨Am,Ae rfl,trivial⟩
def xo(v:Nat)(X:List Int):Rd:=⟨fun r q p=>if p=[]then ⟨1,.cells [.osl [q] v 1 0 X.length]⟩else ⟨0,.none⟩,fun r q p=>if p=[]then ⟨v,.arr 1 (X.map uv)⟩else ⟨0,.none⟩,fun {g δ r r' q q'} h1 h2 h3 h4 p=>by
  by_cases hp:p=[]
  ·subst hp;exact⟨Fam.cells_ren (by simp[A.renL,A.ren,h3,h4]),Fam.arr_ren (by simp only[Cu,List.map_map];exact List.map_congr_left fun x _=>by simp[A.ren])⟩
  ·simp only[if_neg hp];exact⟨rfl,rfl⟩,fun {D r q} h1 h2 p=>by
  by_cases hp:p=[]
  ·subst hp;refine⟨by simp[Ob.refs,A.refsL,A.refs,h2],?_⟩;simp only[if_true,Ob.refs,refsL_iff];intro y hy;obtain⟨x,_,rfl⟩:=List.mem_map.1 hy;simp[A.refs]
  ·simp only[if_neg hp];exact⟨trivial,trivial⟩⟩
@[simp]theorem AlQ{v:Nat}{X:List Int}{r q:Nat}{p:Nm}:(xo v X).B r q p=if p=[]then ⟨1,.cells [.osl [q] v 1 0 X.length]⟩else ⟨0,.none⟩:=rfl
@[simp]theorem Amf{v:Nat}{X:List Int}{r q:Nat}{p:Nm}:(xo v X).C r q p=if p=[]then ⟨v,.arr 1 (X.map uv)⟩else ⟨0,.none⟩:=rfl
theorem Bf{c:Cx}{rs:List ResultVar}{x:A}{F' N:Nm->VOb}{r0:A}{st:Sta}(h:Et c.P st rs=some r0)(he:r0=x)(hh:∀p,st.H (0::p)=F' p)(hn:∀p,st.H (1::p)=N p):Pe c rs 2 x (ov 0 F' (ov 1 N (Gz []))) .normal st:=
 TC h he fun i p hi=>by
  by_cases h0:i=0
  ·subst h0;rw[hh];simp
  ·have:i=1:=oF
   subst this;rw[hn];simp
section
variable {n0:Nat} {w0:World} {I0:Nat->Prop} {M0:Nm->Nat->Prop} {m0:Mu} {Q:Exit->Sta->Prop}
theorem Acm{X0:List Int}{i:Nat}{w:Int}{v:Nat}(hX:X0.length<=1000000)(hi:i<=1000000)
  (hq:∀H':Hp,(∀p,H' (0::p)=(xo (v+(i+1-X0.length)) (Gw X0 i)).B 0 1 p)->(∀p,H' (1::p)=(xo (v+(i+1-X0.length)) (Gw X0 i)).C 0 1 p)->Q (.exit 0) ⟨lk [(0,iv i),(1,uv w),(2,.pob [0] 1 0),(8,bv false)],H'⟩) :
  ∀(j n:Nat)(H:Hp),n+j=i+1-X0.length->(∀p,H (0::p)=(xo (v+n) (X0++List.replicate n 0)).B 0 1 p)->(∀p,H (1::p)=(xo (v+n) (X0++List.replicate n 0)).C 0 1 p) ->
  LoopC (DC Tryz.prog w0 I0 M0 n0 m0) Du Q ⟨lk [(0,iv i),(1,uv w),(2,.pob [0] 1 0)],H⟩:=by
 intro j;induction j with
 |zero=>
  intro n H hm h0 h1;have hp:Gw X0 i=X0++List.replicate n 0:=by unfold Gw;rw[<-hm];rfl
  have hc:¬((X0.length:Int)+n<=i):=oF
  have h00:H [0]=⟨1,.cells [.osl [1] (v+n) 1 0 (X0.length+n)]⟩:=by rw[h0];simp
  refine Ad Ai Du.eq_1 ?_;simp[h00,hc];rw[Nat.add_zero]at hm;rw[hp,<-hm]at hq;exact hq H h0 h1
 |succ j ih=>
  intro n H hm h0 h1;have hc:(X0.length:Int)+n<=i:=oF
  have h00:H [0]=⟨1,.cells [.osl [1] (v+n) 1 0 (X0.length+n)]⟩:=by rw[h0];simp
  have h10:H [1]=⟨v+n,.arr 1 ((X0++List.replicate n 0).map uv)⟩:=by rw[h1];simp
  refine Ad Ai Du.eq_1 ?_;simp[h00,h10,hc,Aa];refine⟨oF,?_⟩;refine ih (n+1) _ oF (fun p=>?_) (fun p=>?_)
  ·by_cases hp:p=[]
   ·subst hp;simp[Aa];omega
   ·simp[Aa,hp,h0]
  ·by_cases hp:p=[]
   ·subst hp;simp[Aa,List.replicate_succ'];rw[AO iS];simp;omega
   ·simp[Aa,hp,h1]
end
theorem sW{X:List Int}{i:Nat}{w:Int}{v:Nat}(hX:X.length<=1000000)(hi:i<=1000000):Hv Tryz.prog 131 (fun r q=>[iv i,uv w,.pob [r] 1 0]) (xo v X) (fun _ _=>.tup []) (xo (v+(i+1-X.length)) ((Gw X i).set i w)):=by
 have hl:i<(Gw X i).length:=by rw[Jd];omega
 have hl2:=Jd X i;refine BZ Mi iS (Av (AL Az) (Av (AL Az) (Av (AL Aq) C5))) (AL (Ay Ah)) fun w0 I0 M0 m0=>?_;unfold Hu;simp;refine LoopC.le (Ar [(0,iv i),(1,uv w),(2,.pob [0] 1 0)] iS) ?_;refine Acm (X0:=X) (i:=i) (v:=v) hX hi (fun H' h0 h1=>?_) (i+1-X.length) 0 _ oF (fun p=>iS) (fun p=>iS);have h00:H' [0]=⟨1,.cells [.osl [1] (v+(i+1-X.length)) 1 0 (Gw X i).length]⟩:=by rw[h0];simp
 have h10:H' [1]=⟨v+(i+1-X.length),.arr 1 ((Gw X i).map uv)⟩:=by rw[h1];simp
 simp[h00,h10,hl];refine Bf rfl rfl (fun p=>?_) (fun p=>?_)
 ·simp[Aa,h0]
 ·by_cases hp:p=[]
  ·subst hp;simp[Aa,List.map_set]
  ·simp[Aa,hp,h1]
structure WdH(v w:Nat)(o:T)(C:List Cf)(u:Nat)(X:List Int)(H:Hp):Prop where
 f:∀p,H (0::p)=(Ps v w C).F 0 p
 o:H [1]=⟨1,.cells (Zx o)⟩
 b:∀p,H (2::p)=(xo u X).B 2 15 p
 c:∀p,H (15::p)=(xo u X).C 2 15 p
theorem WdH.put{v w u:Nat}{o:T}{C:List Cf}{X:List Int}{H:Hp}(h:WdH v w o C u X H){d:Nm}(x:VOb)(h0:∀p,d≠0::p)(h1:d≠[1])(h2:∀p,d≠2::p)(h3:∀p,d≠15::p):WdH v w o C u X (AK H d x):=
 ⟨fun p=>by rw[AI (Ne.symm (h0 p))];exact h.f p,by rw[AI (Ne.symm h1)];exact h.o,fun p=>by rw[AI (Ne.symm (h2 p))];exact h.b p,fun p=>by rw[AI (Ne.symm (h3 p))];exact h.c p⟩
theorem J0{w:Int}(h:Bs w):AE (CT w):=wfT_iff.2 ⟨by simp[BD,CT],fun x hx=>by simp[CT]at hx;subst hx;exact h,by simp[CT],by simp[CT],by simp[CT]⟩
abbrev zi(w:WE):List A:=[iv w.at_,u8 w.mask,uv w.old,uv w.new]
section
variable {n0:Nat} {w0:World} {I0:Nat->Prop} {M0:Nm->Nat->Prop} {m0:Mu} {K:Exit->Sta->Prop}
theorem tK{v w u u3 u4 i:Nat}{o:T}(wo:AE o){C:List Cf}{X:List Int}{a b:WE}(ha:Lk a.mask)(hb:Lk b.mask)(na:Bs a.new)(nb:Bs b.new){at':Di}(hat:at'.length<=999999)(hi:i<=900000)(hX:X.length<=1000000)(hC:C.length<=100000000000){ps qs:List WE}{H:Hp}(hH:WdH v w o C u X H)(h3:H [3]=⟨u3,.cells (zi a)⟩)(h4:H [4]=⟨u4,.cells (zi b)⟩)
  (k1:FX a b=true->∀H',WdH v w o (C++[⟨at'++[(1,(i:Int))],Af (CT (o.words.getD i 0)),Af (CT (A5 (o.words.getD i 0) a.new a.mask)),Af (CT (A5 (o.words.getD i 0) b.new b.mask))⟩]) u X H'->K (.exit 1) ⟨lk [(0,.pob [0] v 0),(1,D3 at'),(3,Mf ps),(4,Mf qs),(7,.pob [1] 1 0),(11,.pob [2] 1 0),(12,.fnc 131 [] [.pob [2] 1 0])],H'⟩)
  (k2:¬FX a b=true->∀H',WdH v w o C (u+(i+1-X.length)) ((Gw X i).set i (A5 (A5 (o.words.getD i 0) a.new a.mask) b.new b.mask)) H'->K .normal ⟨lk [(0,.pob [0] v 0),(1,D3 at'),(3,Mf ps),(4,Mf qs),(7,.pob [1] 1 0),(11,.pob [2] 1 0),(12,.fnc 131 [] [.pob [2] 1 0])],H'⟩) :
  WPC (DC Tryz.prog w0 I0 M0 n0 m0) DU K ⟨lk [(0,.pob [0] v 0),(1,D3 at'),(3,Mf ps),(4,Mf qs),(7,.pob [1] 1 0),(11,.pob [2] 1 0),(12,.fnc 131 [] [.pob [2] 1 0]),(13,.pob [3] u3 0),(14,.pob [4] u4 0),(15,iv i)],H⟩:=by
 have z0:Bs 0:=⟨dO,dO⟩;have hwo:Bs (o.words.getD i 0):=Eb (wfT_iff.1 wo).w i;have W1:=Fl o i;have M1:=C8 (mask:=a.mask) hwo na ha.1 ha.2;have M2:=C8 (mask:=b.mask) hwo nb hb.1 hb.2;have hc:=Wu ha hb;have M3:=C8 (mask:=Db a.mask b.mask) z0 na hc.1 hc.2;have M4:=C8 (mask:=Db a.mask b.mask) z0 nb hc.1 hc.2;have M5:=C8 (mask:=b.mask) (BL (o.words.getD i 0) a.new a.mask) nb hb.1 hb.2;have ho:=hH.o;generalize o.words.getD i 0=z at *;rw[DU.eq_1];simp[ho];refine Ag W1 iS ?_;simp[h3,h4];refine Ag M1 iS ?_;simp[h3,h4];refine Ag M2 iS ?_;simp[h3,h4];rw[show bits .and .u8 a.mask b.mask=Db a.mask b.mask from rfl];refine Ag M3 iS ?_;simp[h3,h4];refine Ag M4 iS ?_;by_cases c:FX a b=true
 ·have cc:¬A5 0 a.new (Db a.mask b.mask)=A5 0 b.new (Db a.mask b.mask):=by simpa[FX]using c
  have F:=JH at' 1 i oF;have S1:=Ot z;have S2:=Ot (A5 z a.new a.mask);have S3:=Ot (A5 z b.new b.mask);have CL:=Qs (l:=at'++[(1,(i:Int))]) (b:=CT z) (o:=CT (A5 z a.new a.mask)) (t:=CT (A5 z b.new b.mask)) (by simp;omega) (J0 hwo) (J0 (BL _ _ _)) (J0 (BL _ _ _)) v w hC;simp[cc];refine Ag F iS ?_;simp;refine Ag S1 iS ?_;simp;refine Ag S2 iS ?_;simp;refine Ag S3 iS ?_;simp;refine Ap 0 CL hH.f iS iS ?_;simp;exact k1 c _ ⟨fun p=>iS,by simp[ho],fun p=>by simp[hH.b],fun p=>by simp[hH.c]⟩
 ·have cc:A5 0 a.new (Db a.mask b.mask)=A5 0 b.new (Db a.mask b.mask):=by simpa[FX]using c
  have P:=sW (X:=X) (i:=i) (w:=A5 (A5 z a.new a.mask) b.new b.mask) (v:=u) hX oF;simp[cc,h4];refine Ag M5 iS ?_;simp;refine wV 2 15 (fs:=[]) (caps:=[.pob [2] 1 0]) iS dO P hH.b hH.c iS iS ?_;simp;exact k2 c _ ⟨fun p=>by simp[hH.f],by simp[ho],fun p=>iS,fun p=>iS⟩
end
abbrev dW:WE:=⟨0,0,0,0⟩
theorem ao{a b:List Int}{p:Nat}{w:WE}{ws:List WE}(h:Jn a b p (w::ws)):∃i:Nat,w.at_=i/\p<=i/\i<max a.length b.length/\Lk w.mask/\Bs w.new/\Jn a b (i+1) ws:=by
 cases h with
 |cons _ i m o n ws hp h hi hm ho hn h1 h2 g=>exact⟨i,rfl,hp,hi,⟨Int.le_of_lt hm.1,hm.2⟩,by rw[<-hn];exact BL _ _ _,g⟩
theorem KR{w:WE}{ws:List WE}{i:Nat}(h:w.at_=i):CS (w::ws) i=w:=by
 unfold CS;rw[List.find?_cons,decide_eq_true h];rfl
theorem Dz{w:WE}{ws:List WE}{i:Nat}(h:w.at_≠i):CS (w::ws) i=CS ws i:=by
 unfold CS;rw[List.find?_cons,decide_eq_false h]
theorem Eo{a b:List Int}{p:Nat}{ws:List WE}(h:Jn a b p ws){j:Nat}(hj:j<p):CS ws j=dW:=by
 unfold CS;have hn:ws.find? (fun w=>decide (w.at_=(j:Int)))=none:=List.find?_eq_none.2 fun w hw=>by
  obtain⟨k,k1,k2,_⟩:=FQ h w hw;simp;omega
 rw[hn];rfl
theorem SZ{z:Int}(h:Bs z):JE z dW dW=z:=by
 unfold JE;rw[if_neg (by simp[FX])];rw[GL h,GL h]
theorem fz{a b:List Int}{p q:Nat}(h:Jn a b p [])(hq:p<=q):Jn a b q []:=by
 cases h with
 |nil _ h=>exact .nil q fun i hi=>h i oF
theorem m7{a b:List Int}{p:Nat}{ws:List WE}(h:Jn a b p ws)(q:Nat)(hpq:p<=q)(hw:∀z,z∈ws->(q:Int)<=z.at_):Jn a b q ws:=by
 cases h with
 |nil _ h=>exact .nil _ fun i hi=>h i oF
 |cons _ i m o n ws hp h hi hm ho hn h1 h2 g=>
  have:=hw _ (List.mem_cons_self ..);have this:(q:Int)<=(i:Nat):=this;exact .cons _ i m o n ws oF (fun j q1 q2=>h j oF q2) hi hm ho hn h1 h2 g
structure xX(o:List Int)(gp gq:Nat->WE)(n i0:Nat)(ps qs:List WE)(X:List Int):Prop where
 lp:∀j,i0<=j->CS ps j=gp j
 lq:∀j,i0<=j->CS qs j=gq j
 x1:∀j,j<i0->X.getD j 0=JE (o.getD j 0) (gp j) (gq j)
 x2:∀j,i0<=j->X.getD j 0=o.getD j 0
 xu:∀z,z∈X->Bs z
 xl:X.length<=900000
def nxX(o:List Int)(A B:WE)(i:Nat)(X:List Int):List Int:=if FX A B=true then X else (Gw X i).set i (A5 (A5 (o.getD i 0) A.new A.mask) B.new B.mask)
theorem qi{o:List Int}(ho:∀x,x∈o->Bs x){gp gq:Nat->WE}{n i0 i:Nat}{ps qs ps' qs':List WE}{X:List Int}(h:xX o gp gq n i0 ps qs X)(hi:i0<=i)(hn:i<900000)(e1:∀j,i0<=j->j<i->gp j=dW)(e2:∀j,i0<=j->j<i->gq j=dW)
  (lp:∀j,i+1<=j->CS ps' j=gp j) (lq:∀j,i+1<=j->CS qs' j=gq j):xX o gp gq n (i+1) ps' qs' (nxX o (gp i) (gq i) i X):=by
 have hl:i<(Gw X i).length:=by rw[Jd];omega
 have hl2:=Jd X i;have hxl:=h.xl;have gs:∀z j,((Gw X i).set i z).getD j 0=if j=i then z else X.getD j 0:=fun z j=>by
  rw[Vb _ _ _ _ hl];unfold Gw;rw[Wt]
 have low:∀j,j<i->X.getD j 0=JE (o.getD j 0) (gp j) (gq j):=fun j hj=>by
  by_cases c:j<i0
  ·exact h.x1 j c
  ·rw[h.x2 j oF,e1 j oF hj,e2 j oF hj,SZ (Eb ho j)]
 unfold nxX;by_cases c:FX (gp i) (gq i)=true
 ·rw[if_pos c];refine⟨lp,lq,fun j hj=>?_,fun j hj=>h.x2 j oF,h.xu,h.xl⟩;by_cases e:j=i
  ·subst e;rw[h.x2 j hi,JE,if_pos c]
  ·exact low j oF
 ·rw[if_neg c];refine⟨lp,lq,fun j hj=>?_,fun j hj=>?_,fun z hz=>?_,by rw[List.length_set];omega⟩
  ·rw[gs];by_cases e:j=i
   ·subst e;rw[if_pos rfl,JE,if_neg c]
   ·rw[if_neg e];exact low j oF
  ·rw[gs,if_neg oF];exact h.x2 j oF
  ·rcases List.mem_or_eq_of_mem_set hz with hz|rfl
   ·unfold Gw at hz;rcases List.mem_append.1 hz with hz|hz
    ·exact h.xu z hz
    ·rw[List.eq_of_mem_replicate hz];exact⟨oF,oF⟩
   ·exact BL _ _ _
def l8(at':Di)(o:List Int)(gp gq:Nat->WE)(n i0:Nat):List Cf:=(List.range' i0 (n-i0)).flatMap fun j=>Qb at' j (o.getD j 0) (gp j) (gq j)
theorem dR(i0 i n:Nat)(h1:i0<=i)(h2:i<n):List.range' i0 (n-i0)=List.range' i0 (i-i0)++i::List.range' (i+1) (n-(i+1)):=by
 have e:n-i0=(i-i0)+(1+(n-(i+1))):=oF
 rw[e,<-List.range'_append_1,show i0+(i-i0)=i from oF,<-List.range'_append_1];rfl
theorem gu(at':Di)(i:Nat)(z:Int):Qb at' i z dW dW=[]:=by
 unfold Qb;rw[if_neg (by simp[FX])]
theorem r5(at':Di)(o:List Int){gp gq:Nat->WE}{n i0 i:Nat}(h1:i0<=i)(h2:i<n)(e1:∀j,i0<=j->j<i->gp j=dW)(e2:∀j,i0<=j->j<i->gq j=dW):l8 at' o gp gq n i0=Qb at' i (o.getD i 0) (gp i) (gq i)++l8 at' o gp gq n (i+1):=by
 unfold l8;rw[dR i0 i n h1 h2,List.flatMap_append,List.flatMap_cons];have:(List.range' i0 (i-i0)).flatMap (fun j=>Qb at' j (o.getD j 0) (gp j) (gq j))=[]:=List.flatMap_eq_nil_iff.2 fun j hj=>by
  obtain⟨k,k1,k2⟩:=List.mem_range'.1 hj;rw[e1 j oF oF,e2 j oF oF,gu]
 rw[this,List.nil_append]
theorem zH(at':Di)(o:List Int){gp gq:Nat->WE}{n i0:Nat}(e1:∀j,i0<=j->gp j=dW)(e2:∀j,i0<=j->gq j=dW):l8 at' o gp gq n i0=[]:=by
 unfold l8;exact List.flatMap_eq_nil_iff.2 fun j hj=>by
  obtain⟨k,k1,k2⟩:=List.mem_range'.1 hj;rw[e1 j oF,e2 j oF,gu]
theorem uQ{o x y:List Int}{ot:T}(wo:AE ot)(ho:ot.words=o){gp gq:Nat->WE}{n:Nat}(hn:n<=800000){at':Di}(hat:at'.length<=999999):∀(N:Nat)(ps qs:List WE)(i0:Nat)(X:List Int),ps.length+qs.length<=N->N<=1000000000->Jn o x i0 ps->Jn o y i0 qs->(∀z,z∈ps->z.at_<n)->(∀z,z∈qs->z.at_<n)->xX o gp gq n i0 ps qs X ->
  ∃X':List Int,(∀j,X'.getD j 0=JE (o.getD j 0) (gp j) (gq j))/\(∀z,z∈X'->Bs z)/\X'.length<=900000/\∀{n0:Nat} {w0:World} {I0:Nat->Prop} {M0:Nm->Nat->Prop} {m0:Mu} (Q:Exit->Sta->Prop) (v w u:Nat) (C:List Cf) (H:Hp),C.length+(l8 at' o gp gq n i0).length<=100000000000->WdH v w ot C u X H->(∀(H':Hp)(u':Nat),WdH v w ot (C++l8 at' o gp gq n i0) u' X' H'->Q (.exit 0) ⟨lk [(0,.pob [0] v 0),(1,D3 at'),(3,Mf []),(4,Mf []),(7,.pob [1] 1 0),(11,.pob [2] 1 0),(12,.fnc 131 [] [.pob [2] 1 0]),(31,bv false)],H'⟩) ->
   LoopC (DC Tryz.prog w0 I0 M0 n0 m0) AZ Q ⟨lk [(0,.pob [0] v 0),(1,D3 at'),(3,Mf ps),(4,Mf qs),(7,.pob [1] 1 0),(11,.pob [2] 1 0),(12,.fnc 131 [] [.pob [2] 1 0])],H⟩:=by
 have fin:∀(i0:Nat)(X:List Int),xX o gp gq n i0 [] [] X->∃X':List Int,(∀j,X'.getD j 0=JE (o.getD j 0) (gp j) (gq j))/\(∀z,z∈X'->Bs z)/\X'.length<=900000/\∀{n0:Nat} {w0:World} {I0:Nat->Prop} {M0:Nm->Nat->Prop} {m0:Mu} (Q:Exit->Sta->Prop) (v w u:Nat) (C:List Cf) (H:Hp),C.length+(l8 at' o gp gq n i0).length<=100000000000->WdH v w ot C u X H->(∀(H':Hp)(u':Nat),WdH v w ot (C++l8 at' o gp gq n i0) u' X' H'->Q (.exit 0) ⟨lk [(0,.pob [0] v 0),(1,D3 at'),(3,Mf []),(4,Mf []),(7,.pob [1] 1 0),(11,.pob [2] 1 0),(12,.fnc 131 [] [.pob [2] 1 0]),(31,bv false)],H'⟩) ->
   LoopC (DC Tryz.prog w0 I0 M0 n0 m0) AZ Q ⟨lk [(0,.pob [0] v 0),(1,D3 at'),(3,Mf []),(4,Mf []),(7,.pob [1] 1 0),(11,.pob [2] 1 0),(12,.fnc 131 [] [.pob [2] 1 0])],H⟩:=fun i0 X hI=>by
  have d1:∀j,i0<=j->gp j=dW:=fun j hj=>(hI.lp j hj).symm;have d2:∀j,i0<=j->gq j=dW:=fun j hj=>(hI.lq j hj).symm;refine⟨X,fun j=>?_,hI.xu,hI.xl,fun {n0 w0 I0 M0 m0} Q v w u C H hC hH hq=>?_⟩
  ·by_cases c:j<i0
   ·exact hI.x1 j c
   ·rw[hI.x2 j oF,d1 j oF,d2 j oF,SZ (by rw[<-ho];exact Eb (wfT_iff.1 wo).w j)]
  ·rw[zH at' o d1 d2,List.append_nil]at hq;refine Ad Ai AZ.eq_1 ?_;simp;exact hq H u hH
 intro N;induction N with
 |zero=>
  intro ps qs i0 X hN _ hp hq _ _ hI;have e1:=List.eq_nil_of_length_eq_zero (show ps.length=0 from oF);have e2:=List.eq_nil_of_length_eq_zero (show qs.length=0 from oF);subst e1;subst e2;exact fin i0 X hI
 |succ N ih=>
  intro ps qs i0 X hN hN2 hp hq np nq hI;have hou:∀x,x∈o->Bs x:=by rw[<-ho];exact(wfT_iff.1 wo).w
  have step:∀(Aw Bw:WE)(i:Nat)(ps' qs':List WE),gp i=Aw->gq i=Bw->i0<=i->i<n->Lk Aw.mask->Lk Bw.mask->Bs Aw.new->Bs Bw.new->Jn o x (i+1) ps'->Jn o y (i+1) qs'->(∀j,i+1<=j->CS ps' j=gp j)->(∀j,i+1<=j->CS qs' j=gq j)->(∀j,i0<=j->j<i->gp j=dW)->(∀j,i0<=j->j<i->gq j=dW)->ps'.length+qs'.length<=N->(∀z,z∈ps'->z.at_<n)->(∀z,z∈qs'->z.at_<n) ->
    ∃X':List Int,(∀j,X'.getD j 0=JE (o.getD j 0) (gp j) (gq j))/\(∀z,z∈X'->Bs z)/\X'.length<=900000/\∀{n0:Nat} {w0:World} {I0:Nat->Prop} {M0:Nm->Nat->Prop} {m0:Mu} (Q:Exit->Sta->Prop) (v w u u3 u4:Nat) (C:List Cf) (H:Hp),C.length+(l8 at' o gp gq n i0).length<=100000000000->WdH v w ot C u X H->H [3]=⟨u3,.cells (zi Aw)⟩->H [4]=⟨u4,.cells (zi Bw)⟩->(∀(H':Hp)(u':Nat),WdH v w ot (C++l8 at' o gp gq n i0) u' X' H'->Q (.exit 0) ⟨lk [(0,.pob [0] v 0),(1,D3 at'),(3,Mf []),(4,Mf []),(7,.pob [1] 1 0),(11,.pob [2] 1 0),(12,.fnc 131 [] [.pob [2] 1 0]),(31,bv false)],H'⟩) ->
     WPC (DC Tryz.prog w0 I0 M0 n0 m0) DU (Co 1 (Hk (LoopC (DC Tryz.prog w0 I0 M0 n0 m0) AZ Q) Q)) ⟨lk [(0,.pob [0] v 0),(1,D3 at'),(3,Mf ps'),(4,Mf qs'),(7,.pob [1] 1 0),(11,.pob [2] 1 0),(12,.fnc 131 [] [.pob [2] 1 0]),(13,.pob [3] u3 0),(14,.pob [4] u4 0),(15,iv i)],H⟩:=fun Aw Bw i ps' qs' eA eB h1 h2 mA mB uA uB g1 g2 g3 g4 e1 e2 hl np' nq'=>by
   have hc:=r5 at' o (gp:=gp) (gq:=gq) h1 h2 e1 e2;have hI2:=qi hou hI h1 oF e1 e2 g3 g4;rw[eA,eB]at hc hI2;obtain⟨X',f1,f2,f3,f4⟩:=ih ps' qs' (i+1) (nxX o Aw Bw i X) hl oF g1 g2 np' nq' hI2;refine⟨X',f1,f2,f3,fun {n0 w0 I0 M0 m0} Q v w u u3 u4 C H hC hH h3 h4 hq=>?_⟩;have xl:=hI.xl;rw[hc,<-List.append_assoc]at hq;have hlen:C.length+(Qb at' i (o.getD i 0) Aw Bw).length+(l8 at' o gp gq n (i+1)).length<=100000000000:=by rw[hc,List.length_append]at hC;omega
   refine tK (a:=Aw) (b:=Bw) (i:=i) wo mA mB uA uB hat oF oF oF hH h3 h4 (fun c H' hH'=>?_) (fun c H' hH'=>?_)
   ·have q1:Qb at' i (o.getD i 0) Aw Bw=[⟨at'++[(1,(i:Int))],Af (CT (o.getD i 0)),Af (CT (A5 (o.getD i 0) Aw.new Aw.mask)),Af (CT (A5 (o.getD i 0) Bw.new Bw.mask))⟩]:=if_pos c;have q2:nxX o Aw Bw i X=X:=if_pos c;rw[q2]at f4;rw[q1]at hq hlen;rw[ho]at hH';exact f4 Q v w _ _ H' (by rw[List.length_append];exact hlen) hH' hq
   ·have q1:Qb at' i (o.getD i 0) Aw Bw=[]:=if_neg c;have q2:nxX o Aw Bw i X=(Gw X i).set i (A5 (A5 (o.getD i 0) Aw.new Aw.mask) Bw.new Bw.mask):=if_neg c;rw[q2]at f4;rw[q1,List.append_nil]at hq;rw[q1]at hlen;rw[ho]at hH';exact f4 Q v w _ _ H' (by simpa using hlen) hH' hq
  cases ps with
  |nil=>
   cases qs with
   |nil=>exact fin i0 X hI
   |cons Bw qs=>
    obtain⟨i,h1,h2,h3,h4,h5,h6⟩:=ao hq;have hin:=nq Bw iS;obtain⟨X',f1,f2,f3,f4⟩:=step dW Bw i [] qs (by rw[<-hI.lp i h2];rfl) (by rw[<-hI.lq i h2,KR h1]) h2 oF ⟨dO,dO⟩ h4 ⟨dO,dO⟩ h5 (fz hp oF) h6 (fun j hj=>by rw[<-hI.lp j oF]) (fun j hj=>by rw[<-hI.lq j oF,Dz oF]) (fun j q1 q2=>by rw[<-hI.lp j q1];rfl) (fun j q1 q2=>by rw[<-hI.lq j q1,Dz oF,Eo h6 oF]) (by simp at hN ⊢; omega) (fun z hz=>nomatch hz) (fun z hz=>nq z (List.mem_cons_of_mem _ hz));refine⟨X',f1,f2,f3,fun {n0 w0 I0 M0 m0} Q v w u C H hC hH hq=>?_⟩;have c1:¬((qs.length:Int)+1=0):=oF
    have c2:(1:Int)<=(qs.length:Int)+1:=oF
    have c3:List.take qs.length (qs.map wA)=qs.map wA:=AO iS;refine Ad Ai AZ.eq_1 ?_;simp[h1,c1,c2,c3,Aa];exact f4 Q v w u _ _ C _ hC ((hH.put _ iS iS iS iS).put _ iS iS iS iS) (by simp[Aa]) (by simp[Aa,h1]) hq
  |cons Aw ps=>
   obtain⟨i,h1,h2,h3,h4,h5,h6⟩:=ao hp;have hin:=np Aw iS;have d1:¬((ps.length:Int)+1=0):=oF
   have d2:(1:Int)<=(ps.length:Int)+1:=oF
   have d3:List.take ps.length (ps.map wA)=ps.map wA:=AO iS;cases qs with
   |nil=>
    obtain⟨X',f1,f2,f3,f4⟩:=step Aw dW i ps [] (by rw[<-hI.lp i h2,KR h1]) (by rw[<-hI.lq i h2];rfl) h2 oF h4 ⟨dO,dO⟩ h5 ⟨dO,dO⟩ h6 (fz hq oF) (fun j hj=>by rw[<-hI.lp j oF,Dz oF]) (fun j hj=>by rw[<-hI.lq j oF]) (fun j q1 q2=>by rw[<-hI.lp j q1,Dz oF,Eo h6 oF]) (fun j q1 q2=>by rw[<-hI.lq j q1];rfl) (by simp at hN ⊢; omega) (fun z hz=>np z (List.mem_cons_of_mem _ hz)) (fun z hz=>nomatch hz);refine⟨X',f1,f2,f3,fun {n0 w0 I0 M0 m0} Q v w u C H hC hH hq=>?_⟩;refine Ad Ai AZ.eq_1 ?_;simp[h1,d1,d2,d3,Aa];exact f4 Q v w u _ _ C _ hC (((hH.put _ iS iS iS iS).put _ iS iS iS iS).put _ iS iS iS iS) (by simp[Aa,h1]) (by simp[Aa]) hq
   |cons Bw qs=>
    obtain⟨k,g1,g2,g3,g4,g5,g6⟩:=ao hq;have hkn:=nq Bw iS;have c1:¬((qs.length:Int)+1=0):=oF
    have c2:(1:Int)<=(qs.length:Int)+1:=oF
    have c3:List.take qs.length (qs.map wA)=qs.map wA:=AO iS;by_cases c:(i:Int)<k
    ·obtain⟨X',f1,f2,f3,f4⟩:=step Aw dW i ps (Bw::qs) (by rw[<-hI.lp i h2,KR h1]) (by rw[<-hI.lq i h2,Dz oF,Eo g6 oF]) h2 oF h4 ⟨dO,dO⟩ h5 ⟨dO,dO⟩ h6 (m7 hq (i+1) oF (fun z hz=>by
      rcases List.mem_cons.1 hz with rfl|hz
      ·omega
      ·obtain⟨m,m1,m2,_⟩:=FQ g6 z hz;omega)) (fun j hj=>by rw[<-hI.lp j oF,Dz oF]) (fun j hj=>by rw[<-hI.lq j oF]) (fun j q1 q2=>by rw[<-hI.lp j q1,Dz oF,Eo h6 oF]) (fun j q1 q2=>by rw[<-hI.lq j q1,Dz oF,Eo g6 oF]) (by simp at hN ⊢; omega) (fun z hz=>np z (List.mem_cons_of_mem _ hz)) nq
     refine⟨X',f1,f2,f3,fun {n0 w0 I0 M0 m0} Q v w u C H hC hH hq=>?_⟩;refine Ad Ai AZ.eq_1 ?_;simp[h1,g1,c,Aa];simp[d1,d2,d3];exact f4 Q v w u _ _ C _ hC (((hH.put _ iS iS iS iS).put _ iS iS iS iS).put _ iS iS iS iS) (by simp[Aa,h1]) (by simp[Aa]) hq
    ·by_cases d:(k:Int)<i
     ·obtain⟨X',f1,f2,f3,f4⟩:=step dW Bw k (Aw::ps) qs (by rw[<-hI.lp k g2,Dz oF,Eo h6 oF]) (by rw[<-hI.lq k g2,KR g1]) g2 oF ⟨dO,dO⟩ g4 ⟨dO,dO⟩ g5 (m7 hp (k+1) oF (fun z hz=>by
       rcases List.mem_cons.1 hz with rfl|hz
       ·omega
       ·obtain⟨m,m1,m2,_⟩:=FQ h6 z hz;omega)) g6 (fun j hj=>by rw[<-hI.lp j oF]) (fun j hj=>by rw[<-hI.lq j oF,Dz oF]) (fun j q1 q2=>by rw[<-hI.lp j q1,Dz oF,Eo h6 oF]) (fun j q1 q2=>by rw[<-hI.lq j q1,Dz oF,Eo g6 oF]) (by simp at hN ⊢; omega) np (fun z hz=>nq z (List.mem_cons_of_mem _ hz))
      refine⟨X',f1,f2,f3,fun {n0 w0 I0 M0 m0} Q v w u C H hC hH hq=>?_⟩;refine Ad Ai AZ.eq_1 ?_;simp[h1,g1,c,d,Aa];simp[c1,c2,c3,d1];exact f4 Q v w u _ _ C _ hC ((hH.put _ iS iS iS iS).put _ iS iS iS iS) (by simp[Aa]) (by simp[Aa,g1]) hq
     ·have e:k=i:=oF
      subst e;obtain⟨X',f1,f2,f3,f4⟩:=step Aw Bw k ps qs (by rw[<-hI.lp k h2,KR h1]) (by rw[<-hI.lq k g2,KR g1]) g2 oF h4 g4 h5 g5 h6 g6 (fun j hj=>by rw[<-hI.lp j oF,Dz oF]) (fun j hj=>by rw[<-hI.lq j oF,Dz oF]) (fun j q1 q2=>by rw[<-hI.lp j q1,Dz oF,Eo h6 oF]) (fun j q1 q2=>by rw[<-hI.lq j q1,Dz oF,Eo g6 oF]) (by simp at hN ⊢; omega) (fun z hz=>np z (List.mem_cons_of_mem _ hz)) (fun z hz=>nq z (List.mem_cons_of_mem _ hz));refine⟨X',f1,f2,f3,fun {n0 w0 I0 M0 m0} Q v w u C H hC hH hq=>?_⟩;refine Ad Ai AZ.eq_1 ?_;simp[h1,g1,c,d,Aa];simp[c1,c2,c3,d1,d2,d3];exact f4 Q v w u _ _ C _ hC ((((hH.put _ iS iS iS iS).put _ iS iS iS iS).put _ iS iS iS iS).put _ iS iS iS iS) (by simp[Aa,h1]) (by simp[Aa,g1]) hq
theorem eI{ot:T}(wo:AE ot){x y:List Int}{ps qs:List WE}(hp:Jn ot.words x 0 ps)(hq:Jn ot.words y 0 qs)(hn:DK (DK ot.words.length ps) qs<=800000)(hl:ps.length+qs.length<=1000000000){at':Di}(hat:at'.length<=999999) :
  ∃X:List Int,(∀j,X.getD j 0=JE (ot.words.getD j 0) (CS ps j) (CS qs j))/\(∀z,z∈X->Bs z)/\X.length<=900000/\∀(v w:Nat)(C:List Cf),C.length+((List.range (DK (DK ot.words.length ps) qs)).flatMap fun i:Nat=>Qb at' i (ot.words.getD i 0) (CS ps i) (CS qs i)).length<=100000000000 ->
   SpecF Tryz.prog 83 (fun r=>[.pob [r] v 0,D3 at',tX ot,Mf ps,Mf qs]) (Ps v w C) (fun _=>Fu X) (Ps v w (C++(List.range (DK (DK ot.words.length ps) qs)).flatMap fun i:Nat=>Qb at' i (ot.words.getD i 0) (CS ps i) (CS qs i))):=by
 have hwl:ot.words.length<=800000:=by
  rw[EK,EK]at hn;omega
 have e0:l8 at' ot.words (CS ps) (CS qs) (DK (DK ot.words.length ps) qs) 0=(List.range (DK (DK ot.words.length ps) qs)).flatMap fun i:Nat=>Qb at' i (ot.words.getD i 0) (CS ps i) (CS qs i):=by
  unfold l8;rw[List.range_eq_range',Nat.sub_zero]
 rw[<-e0];have np:∀z,z∈ps->z.at_<(DK (DK ot.words.length ps) qs:Nat):=fun z hz=>by
  have:=LN (n:=ot.words.length) hz;rw[EK qs];omega
 have nq:∀z,z∈qs->z.at_<(DK (DK ot.words.length ps) qs:Nat):=fun z hz=>LN hz;have C1:=Ug ot.words oF;obtain⟨X,f1,f2,f3,f4⟩:=uQ wo rfl hn hat (ps.length+qs.length) ps qs 0 ot.words (CX _) hl hp hq np nq ⟨fun j _=>rfl,fun j _=>rfl,fun j hj=>oF,fun j _=>rfl,(wfT_iff.1 wo).w,oF⟩;refine⟨X,f1,f2,f3,fun v w C hC=>Hh Ns iS (Ab Aq (Ab Bc (Ab (Bz ot) (Ab Bc (Ab Bc Ah))))) Bc fun w0 I0 M0 m0 hM=>?_⟩;unfold IQ;simp;refine Ap 15 C1 (fun p=>iS) iS iS ?_;simp;refine LoopC.le (Ar [(0,.pob [0] v 0),(1,D3 at'),(3,Mf ps),(4,Mf qs),(7,.pob [1] 1 0),(11,.pob [2] 1 0),(12,.fnc 131 [] [.pob [2] 1 0])] iS) ?_;refine f4 _ v w 1 C _ hC ⟨fun p=>iS,iS,fun p=>?_,fun p=>iS⟩ fun H' u' hH'=>?_
 ·by_cases hp:p=[]
  ·subst hp;simp
  ·simp[hp,Gz,Ne.symm hp]
 ·have h2:H' [2]=⟨1,.cells [.osl [15] u' 1 0 X.length]⟩:=by rw[hH'.b];simp
  simp[h2];obtain⟨H2,g1,g2⟩:=Qm (c:=DC Tryz.prog w0 I0 M0 149 m0) (s:=lk [(10,.osl [15] u' 1 0 X.length)]) (H:=H') (fun r=>r=15) (fun r p b hr=>hM r p b oF) 10 (Fu X) (fun H1 e1=>by
   have e2:H1 [15]=H' [15]:=e1 15 [] rfl;simp;exact CI (f:=uv) (by rw[e2,hH'.c];simp) rfl (fun x=>iS))
  refine Gp g1 (An (r0:=Fu X) (by simp[upd,Et]) rfl (fun p=>?_));exact(g2 0 p oF).trans (hH'.f p)
theorem Y9{ks:List KE}{x:KE}(hx:ks.getLast? = some x)(h:∀w,w∈ks->w.at_<=x.at_)(n:Nat):CV n ks=max n (x.at_+1).toNat:=by
 have key:∀(l:List KE),(∀w,w∈l->w.at_<=x.at_)->CV 0 l<=(x.at_+1).toNat:=by
  intro l;induction l with
  |nil=>intro _;simp[CV]
  |cons y l ih=>
   intro hl;have e:CV 0 (y::l)=CV (max 0 (y.at_+1).toNat) l:=rfl;have:=ih fun w hw=>hl w (List.mem_cons_of_mem _ hw);have:=hl y iS;rw[e,HJ];omega
 have k1:=key ks h;have k2:=Vr (n:=0) (List.mem_of_getLast? hx);rw[HJ];omega
def uI(f:Nat)(at':Di)(o:T)(p q:E)(u:T):Prop:=AE u/\Af u=(mg f at' o p q).1/\∀(v w:Nat)(C:List Cf),C.length+(mg f at' o p q).2.length<=100000000000 ->
 SpecF Tryz.prog 34 (fun r=>[.pob [r] v 0,D3 at',tX o,eX p,eX q]) (Ps v w C) (fun _=>tX u) (Ps v w (C++(mg f at' o p q).2))
structure StH(v w:Nat)(o:T)(p q:E)(C:List Cf)(X:List Int)(L:List T)(u:Nat)(H:Hp):Prop where
 f:∀r,H (0::r)=(Ps v w C).F 0 r
 o:H [1]=⟨1,.cells (Zx o)⟩
 p:H [2]=⟨1,.cells (eL p)⟩
 q:H [3]=⟨1,.cells (eL q)⟩
 z:H [4]=⟨1,.cells [iv 0,.sl true [],.sl true []]⟩
 b:H [5]=⟨1,.cells [iv 1,Fu X,.osl [6] u 3 0 L.length]⟩
 c:H [6]=⟨u,.arr 3 (L.map tA)⟩
section
variable {n0:Nat} {w0:World} {I0:Nat->Prop} {M0:Nm->Nat->Prop} {m0:Mu} {Q:Exit->Sta->Prop}
theorem yD{f:Nat}{at':Di}(hat:at'.length<=900000){o:T}{p q:E}{X:List Int}{U:Nat->T}{m:Nat}(hm:m<=800000)(lp:p.kids.length<=10000000000000)(lq:q.kids.length<=10000000000000)(hU:∀i:Nat,uI f (at'++[(0,(i:Int))]) (o.kids.getD i T0) (Ek p.kids i) (Ek q.kids i) (U i)){v w:Nat}{C:List Cf}(hC:C.length+((List.range m).flatMap fun i:Nat=>(mg f (at'++[(0,(i:Int))]) (o.kids.getD i T0) (Ek p.kids i) (Ek q.kids i)).2).length<=100000000000)
  (hq:∀(H':Hp),StH v w o p q (C++(List.range m).flatMap fun i:Nat=>(mg f (at'++[(0,(i:Int))]) (o.kids.getD i T0) (Ek p.kids i) (Ek q.kids i)).2) X ((List.range m).map U) (m+1) H'->Q (.exit 2) ⟨lk [(0,.pob [0] v 0),(1,D3 at'),(7,.pob [1] 1 0),(8,.pob [2] 1 0),(9,.pob [3] 1 0),(10,.pob [4] 1 0),(11,.pob [5] 1 0),(53,iv m),(54,iv m),(55,bv false)],H'⟩) :
  ∀(j i:Nat)(H:Hp),i+j=m->StH v w o p q (C++(List.range i).flatMap fun i:Nat=>(mg f (at'++[(0,(i:Int))]) (o.kids.getD i T0) (Ek p.kids i) (Ek q.kids i)).2) X ((List.range i).map U) (i+1) H ->
  LoopC (DC Tryz.prog w0 I0 M0 n0 m0) CB Q ⟨lk [(0,.pob [0] v 0),(1,D3 at'),(7,.pob [1] 1 0),(8,.pob [2] 1 0),(9,.pob [3] 1 0),(10,.pob [4] 1 0),(11,.pob [5] 1 0),(53,iv m),(54,iv i)],H⟩:=by
 intro j;induction j with
 |zero=>
  intro i H hj hH;have:i=m:=oF
  subst this;refine Ad Ai CB.eq_1 ?_;simp;exact hq H hH
 |succ j ih=>
  intro i H hj hH;have hlt:i<m:=oF
  have ew:=AR i;have F:=JH at' 0 i oF;have K0:=Gj o i;have K1:=YK p.kids lp i;have K2:=YK q.kids lq i;obtain⟨u1,u2,u3⟩:=hU i;have hr:List.range (i+1)=List.range i++[i]:=List.range_succ;have hsub:((List.range (i+1)).flatMap fun i:Nat=>(mg f (at'++[(0,(i:Int))]) (o.kids.getD i T0) (Ek p.kids i) (Ek q.kids i)).2).length<=((List.range m).flatMap fun i:Nat=>(mg f (at'++[(0,(i:Int))]) (o.kids.getD i T0) (Ek p.kids i) (Ek q.kids i)).2).length:=by
   have e:List.range m=List.range (i+1)++List.range' (i+1) (m-(i+1)):=by
    rw[List.range_eq_range',List.range_eq_range',show m=(i+1)+(m-(i+1))from oF,<-List.range'_append_1];simp
   rw[e,List.flatMap_append,List.length_append];omega
  have next:=ih (i+1)
  rw[hr]at hsub next
  rw[List.flatMap_append,List.flatMap_singleton,List.length_append]at hsub;rw[List.flatMap_append,List.flatMap_singleton,List.map_append,<-List.append_assoc]at next
  have S:=u3 v w (C++(List.range i).flatMap fun i:Nat=>(mg f (at'++[(0,(i:Int))]) (o.kids.getD i T0) (Ek p.kids i) (Ek q.kids i)).2) (by rw[List.length_append];omega);generalize (List.range i).flatMap (fun i:Nat=>(mg f (at'++[(0,(i:Int))]) (o.kids.getD i T0) (Ek p.kids i) (Ek q.kids i)).2)=D at *;generalize hL:(List.range i).map U=L at *;have hLl:L.length=i:=by rw[<-hL];simp
  generalize (mg f (at'++[(0,(i:Int))]) (o.kids.getD i T0) (Ek p.kids i) (Ek q.kids i)).2=c at *;have h1:=hH.o;have h2:=hH.p;have h3:=hH.q;have h5:=hH.b;have h6:=hH.c;refine Ad Ai CB.eq_1 ?_;simp[hlt,h1,h2,h3,h5];refine Ag F iS ?_;simp[h1,h2,h3];refine Ag K0 iS ?_;simp[h1,h2,h3];refine Ag K1 iS ?_;simp[h1,h2,h3];refine Ag K2 iS ?_;simp;refine Ap 0 S hH.f iS (by simp[List.isPrefixOf]) ?_;simp[h5,h6,Aa];refine⟨oF,?_⟩;rw[ew];have h4:=hH.z;exact next _ oF ⟨fun r=>iS,by simp[Aa,h1],by simp[Aa,h2],by simp[Aa,h3],by simp[Aa,h4],by simp[Aa],by simp[Aa,AO]⟩
theorem yo{at':Di}{p q:E}(ap:∀k,k∈p.kids->0<=k.at_/\k.at_<=900000)(aq:∀k,k∈q.kids->0<=k.at_/\k.at_<=900000)(sp:∀x,p.kids.getLast? = some x->∀w,w∈p.kids->w.at_<=x.at_)(sq:∀x,q.kids.getLast? = some x->∀w,w∈q.kids->w.at_<=x.at_)(lp:p.kids.length<=10000000000000)(lq:q.kids.length<=10000000000000){v:Nat}{n:Nat}(hn:n<=10000000){H:Hp}
  (hq:Q (.exit 0) ⟨lk [(0,.pob [0] v 0),(1,D3 at'),(7,.pob [1] 1 0),(8,.pob [2] 1 0),(9,.pob [3] 1 0),(10,.pob [4] 1 0),(11,.pob [5] 1 0),(12,iv (CV (CV n p.kids) q.kids)),(33,.sl true [MD p.kids,MD q.kids]),(34,iv 2),(35,iv 2),(36,bv false)],H⟩) :
  LoopC (DC Tryz.prog w0 I0 M0 n0 m0) Bd Q ⟨lk [(0,.pob [0] v 0),(1,D3 at'),(7,.pob [1] 1 0),(8,.pob [2] 1 0),(9,.pob [3] 1 0),(10,.pob [4] 1 0),(11,.pob [5] 1 0),(12,iv n),(33,.sl true [MD p.kids,MD q.kids]),(34,iv 2),(35,iv 0)],H⟩:=by
 have one:∀(ks:List KE)(n:Nat)(j:Nat),n<=10000000->j<2->[MD p.kids,MD q.kids][j]? = some (MD ks)->ks.length<=10000000000000->(∀k,k∈ks->0<=k.at_/\k.at_<=900000)->(∀x,ks.getLast? = some x->∀w,w∈ks->w.at_<=x.at_)->LoopC (DC Tryz.prog w0 I0 M0 n0 m0) Bd Q ⟨lk [(0,.pob [0] v 0),(1,D3 at'),(7,.pob [1] 1 0),(8,.pob [2] 1 0),(9,.pob [3] 1 0),(10,.pob [4] 1 0),(11,.pob [5] 1 0),(12,iv (CV n ks)),(33,.sl true [MD p.kids,MD q.kids]),(34,iv 2),(35,iv (j+1:Nat))],H⟩ ->
   LoopC (DC Tryz.prog w0 I0 M0 n0 m0) Bd Q ⟨lk [(0,.pob [0] v 0),(1,D3 at'),(7,.pob [1] 1 0),(8,.pob [2] 1 0),(9,.pob [3] 1 0),(10,.pob [4] 1 0),(11,.pob [5] 1 0),(12,iv n),(33,.sl true [MD p.kids,MD q.kids]),(34,iv 2),(35,iv j)],H⟩:=fun ks n j hn hj hks hl ha hs next=>by
  have ew:=AR j;have hj2:(j:Int)<2:=oF
  have hk2:[MD p.kids,MD q.kids][j]=MD ks:=by
   rw[List.getElem?_eq_getElem hj]at hks;exact Option.some.inj hks
  cases e:ks.getLast? with
  |none=>
   have:ks=[]:=List.getLast?_eq_none_iff.1 e;subst this;refine Ad Ai Bd.eq_1 ?_;simp[hj2,hj,hk2];rw[ew];exact next
  |some x=>
   have e1:=Y9 e (hs x e) n;have hx:=ha x (List.mem_of_getLast? e);rw[e1]at next
   have hne:ks≠[]:=fun h=>by rw[h]at e;cases e
   have h0:=List.length_pos_iff.2 hne;have h0':(0:Int)<ks.length:=oF
   have e9:i64.wrap ((ks.length:Int)-1)=((ks.length-1:Nat):Int):=(Bq (n:=(ks.length:Int)-1) oF oF).trans oF;have hlt:ks.length-1<ks.length:=oF
   have hx2:ks[ks.length-1]=x:=by
    rw[List.getLast?_eq_getElem?,List.getElem?_eq_getElem hlt]at e;exact Option.some.inj e
   have e10:i64.wrap (x.at_+1)=x.at_+1:=Ga;have e11:max (n:Int) (x.at_+1)=((max n (x.at_+1).toNat:Nat):Int):=oF
   refine Ad Ai Bd.eq_1 ?_;simp[hj2,hj,hk2,h0,h0',e9,hlt,hx2,e10];rw[ew,e11];exact next
 have b1:CV n p.kids<=10000000:=by
  cases e:p.kids.getLast? with
  |none=>
   rw[List.getLast?_eq_none_iff.1 e];exact hn
  |some x=>
   have hx:=ap x (List.mem_of_getLast? e);rw[Y9 e (sp x e)];omega
 refine one p.kids n 0 hn dO rfl lp ap sp ?_;refine one q.kids _ 1 b1 dO rfl lq aq sq ?_;refine Ad Ai Bd.eq_1 ?_;simp;exact hq
end
theorem Rz:∀{ws:List WE} {n m:Nat},n<=m->(∀w,w∈ws->w.at_<(m:Int))->DK n ws<=m
 |[],n,m,h,_=>h
 |w::ws,n,m,h,hw=>Rz (ws:=ws) (n:=max n (w.at_+1).toNat) (by have:=hw w iS;omega) fun z hz=>hw z (List.mem_cons_of_mem _ hz)
theorem Ri:∀{ws:List KE} {n m:Nat},n<=m->(∀w,w∈ws->w.at_<(m:Int))->CV n ws<=m
 |[],n,m,h,_=>h
 |w::ws,n,m,h,hw=>Ri (ws:=ws) (n:=max n (w.at_+1).toNat) (by have:=hw w iS;omega) fun z hz=>hw z (List.mem_cons_of_mem _ hz)
theorem vb{f:Nat}{at':Di}{o:T}(wo:AE o){p q:E}{x y:List Int}(hp:Jn o.words x 0 p.words)(hq:Jn o.words y 0 q.words){U:Nat->T}(hU:∀i:Nat,uI f (at'++[(0,(i:Int))]) (o.kids.getD i T0) (Ek p.kids i) (Ek q.kids i) (U i)){X:List Int}(hX:∀j,X.getD j 0=JE (o.words.getD j 0) (CS p.words j) (CS q.words j)) :
  Af (.mk 1 X ((List.range (CV (CV o.kids.length p.kids) q.kids)).map U))=(nR (mg f) at' o p q).1:=by
 unfold nR;refine struct_eq.2 ⟨fun j=>?_,fun j=>?_⟩
 ·rw[hX];refine(Oi (fun i:Nat=>JE (o.words.getD i 0) (CS p.words i) (CS q.words i)) 0 _ j fun hj=>?_).symm;show JE (o.words.getD j 0) (CS p.words j) (CS q.words j)=0;have hw:o.words.length<=j:=by
   rw[EK q.words,EK p.words]at hj;omega
  have e0:o.words.getD j 0=0:=by rw[List.getD_eq_getElem?_getD,List.getElem?_eq_none hw];rfl
  have far:∀{ws:List WE},(∀w,w∈ws->w.at_<(j:Int))->CS ws j=dW:=fun {ws} h=>by
   unfold CS;rw[List.find?_eq_none.2 fun w hw=>by have:=h w hw;simp;omega];rfl
  rw[e0,far (ws:=p.words) fun w hw=>by
   have:=LN (n:=o.words.length) hw;rw[EK q.words,EK p.words]at hj;rw[EK]at this;omega,far (ws:=q.words) fun w hw=>by
   have:=LN (n:=DK o.words.length p.words) hw;omega,SZ ⟨dO,dO⟩]
 ·by_cases c:j<CV (CV o.kids.length p.kids) q.kids
  ·have:=(hU j).2.1;simp only[List.getD_eq_getElem?_getD,List.getElem?_map,List.getElem?_range c,Option.map_some,Option.getD_some];rw[List.getD_eq_getElem?_getD]at this;rw[<-this,B8]
  ·rw[List.getD_eq_getElem?_getD,List.getD_eq_getElem?_getD,List.getElem?_eq_none (by simp;omega),List.getElem?_eq_none (by simp;omega)]
theorem o5{f:Nat}{at':Di}(hat:at'.length<=900000){o:T}(wo:AE o){p q:E}{x y:T}(hp:Jn o.words x.words 0 p.words)(hq:Jn o.words y.words 0 q.words){R:E->T->T->Prop}(kp:MA R o.kids x.kids 0 p.kids)(kq:MA R o.kids y.kids 0 q.kids)(b1:o.words.length<=700000/\o.kids.length<=700000)(b2:x.words.length<=700000/\x.kids.length<=700000)(b3:y.words.length<=700000/\y.kids.length<=700000)(wp:p.words.length<=500000000/\p.kids.length<=10000000000000)(wq:q.words.length<=500000000/\q.kids.length<=10000000000000)
  (hU:∀i:Nat,∃u,uI f (at'++[(0,(i:Int))]) (o.kids.getD i T0) (Ek p.kids i) (Ek q.kids i) u) :
  ∃u,AE u/\Af u=(nR (mg f) at' o p q).1/\∀(v w:Nat)(C:List Cf),C.length+(nR (mg f) at' o p q).2.length<=100000000000 ->
   SpecF Tryz.prog 55 (fun r=>[.pob [r] v 0,D3 at',tX o,eX p,eX q]) (Ps v w C) (fun _=>tX u) (Ps v w (C++(nR (mg f) at' o p q).2)):=by
 obtain⟨U,hU⟩:=Classical.axiomOfChoice hU;have tw:DK (DK o.words.length p.words) q.words<=700000:=Rz (Rz b1.1 fun w hw=>by
  obtain⟨i,k1,k2,k3,_⟩:=FQ hp w hw;omega) fun w hw=>by
  obtain⟨i,k1,k2,k3,_⟩:=FQ hq w hw;omega
 have tk:CV (CV o.kids.length p.kids) q.kids<=700000:=Ri (Ri b1.2 fun w hw=>by
  obtain⟨i,k1,k2,k3,_⟩:=Fz kp w hw;omega) fun w hw=>by
  obtain⟨i,k1,k2,k3,_⟩:=Fz kq w hw;omega
 have O:=wfT_iff.1 wo;have ap:∀k,k∈p.kids->0<=k.at_/\k.at_<=900000:=fun w hw=>by
  obtain⟨i,k1,k2,k3,_⟩:=Fz kp w hw;omega
 have aq:∀k,k∈q.kids->0<=k.at_/\k.at_<=900000:=fun w hw=>by
  obtain⟨i,k1,k2,k3,_⟩:=Fz kq w hw;omega
 have hc2:(nR (mg f) at' o p q).2=((List.range (DK (DK o.words.length p.words) q.words)).flatMap (fun i:Nat=>Qb at' i (o.words.getD i 0) (CS p.words i) (CS q.words i)))++((List.range (CV (CV o.kids.length p.kids) q.kids)).flatMap fun i:Nat=>(mg f (at'++[(0,(i:Int))]) (o.kids.getD i T0) (Ek p.kids i) (Ek q.kids i)).2):=rfl;obtain⟨X,f1,f2,f3,f4⟩:=eI wo hp hq oF oF (at':=at') oF;have ht:=vb wo hp hq hU f1;have hkl:o.kids.length<=CV (CV o.kids.length p.kids) q.kids:=by
  rw[HJ,HJ];omega
 refine⟨.mk 1 X ((List.range (CV (CV o.kids.length p.kids) q.kids)).map U),wfT_iff.2 ⟨by simp[BD],f2,by show X.length*8<=_;omega,by simp;omega,fun t ht=>?_⟩,ht,fun v w C hC=>?_⟩
 ·obtain⟨i,_,rfl⟩:=List.mem_map.1 (show t∈(List.range _).map U from ht);exact(hU i).1
 rw[hc2]at hC ⊢;rw[List.length_append]at hC;have W:=f4 v w C oF;have L2:=fun {n0:Nat} {w0:World} {I0:Nat->Prop} {M0:Nm->Nat->Prop} {m0:Mu} {Q:Exit->Sta->Prop}=>yD (n0:=n0) (w0:=w0) (I0:=I0) (M0:=M0) (m0:=m0) (Q:=Q) hat (o:=o) (p:=p) (q:=q) (X:=X) (m:=CV (CV o.kids.length p.kids) q.kids) oF wp.2 wq.2 hU (v:=v) (w:=w) (C:=C++(List.range (DK (DK o.words.length p.words) q.words)).flatMap fun i:Nat=>Qb at' i (o.words.getD i 0) (CS p.words i) (CS q.words i)) (by rw[List.length_append];omega);rw[<-List.append_assoc];have sp:=VB kp;have sq:=VB kq;generalize (List.range (DK (DK o.words.length p.words) q.words)).flatMap (fun i:Nat=>Qb at' i (o.words.getD i 0) (CS p.words i) (CS q.words i))=CW at *;generalize hCK:(fun i:Nat=>(mg f (at'++[(0,(i:Int))]) (o.kids.getD i T0) (Ek p.kids i) (Ek q.kids i)).2)=CK at *;refine Hh Ks iS (Ab Aq (Ab Bc (Ab (Bz o) (Ab (AF p) (Ab (AF q) Ah))))) (Bz _) fun w0 I0 M0 m0 hM=>?_;unfold Gs;simp;refine Ap 0 W (fun p=>iS) iS iS ?_;simp;refine LoopC.le (BO (d:=[5]) (u:=1) 2 [6] 3 (by simp;rfl) rfl iS) ?_;refine LoopC.le (Ar [(0,.pob [0] v 0),(1,D3 at'),(7,.pob [1] 1 0),(8,.pob [2] 1 0),(9,.pob [3] 1 0),(10,.pob [4] 1 0),(11,.pob [5] 1 0),(12,iv o.kids.length),(33,.sl true [MD p.kids,MD q.kids]),(34,iv 2),(35,iv 0)] iS) ?_;refine yo ap aq sp sq wp.2 wq.2 oF ?_;simp;refine LoopC.le (Ar [(0,.pob [0] v 0),(1,D3 at'),(7,.pob [1] 1 0),(8,.pob [2] 1 0),(9,.pob [3] 1 0),(10,.pob [4] 1 0),(11,.pob [5] 1 0),(53,iv (CV (CV o.kids.length p.kids) q.kids:Nat)),(54,iv (0:Nat))] iS) ?_;refine L2 (fun H' hH=>?_) (CV (CV o.kids.length p.kids) q.kids) 0 _ oF ⟨fun r=>?_,by simp[Aa],by simp[Aa],by simp[Aa],by simp[Aa],by simp[Aa],by simp[Aa]⟩
 ·have h4:=hH.z;have h5:=hH.b;simp[h4,h5,Aa];have h6:=hH.c;have hf:=hH.f;rw[List.append_assoc]at hf;generalize hLL:(List.range (CV (CV o.kids.length p.kids) q.kids)).map U=LL at *;have hlen:CV (CV o.kids.length p.kids) q.kids=LL.length:=by rw[<-hLL];simp
  generalize CV (CV o.kids.length p.kids) q.kids=m at *;obtain⟨H4,y1,y2⟩:=G7 (c:=DC Tryz.prog w0 I0 M0 80 m0) (s:=lk [(10,.pob [4] 1 0)]) (H:=AK H' [4] ⟨1,.cells [iv 1,Fu X,.osl [6] (m+1) 3 0 m]⟩) (fun r=>r=6) (fun r p b h=>hM r p b oF) (r0:=4) (p0:=[]) oF (u:=1) (cs:=[iv 1,Fu X,.osl [6] (m+1) 3 0 m]) (by simp[Aa]) (cs':=Zx (.mk 1 X LL)) (by simp[A.ones]) (fun H1 h1=>⟨Ae rfl,Ae rfl,CI (f:=tA) (l:=LL) (by rw[h1 6 [] rfl];simp[Aa,h6]) hlen (fun x=>iS),trivial⟩);refine Gp y1 (An (r0:=tX (.mk 1 X LL)) (by simp[Et]) rfl fun r=>?_);have e1:=y2 0 r oF;dsimp only;rw[AI iS,e1,AI iS,hf]
 ·simp[Aa]
end Go.Proofs.YtlaapfplenlfaaaGreat
