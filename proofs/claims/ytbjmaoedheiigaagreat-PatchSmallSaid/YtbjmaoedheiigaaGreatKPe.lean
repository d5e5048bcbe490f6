/-
 Texts,merged,without what is not reached.
-/
import Derived.Test.YtbjmaoedheiigaaGreatKPd
set_option linter.unusedSimpArgs false
set_option linter.unusedVariables false
open Go.IntKind (i64 u64)
namespace Go.Proofs.YtbjmaoedheiigaaGreat
set_option maxRecDepth 20000
open Go Go.G Go.Proofs
@[simp] theorem tl:Al Tryz.prog 152 0=some 0:=by kernel_rfl
@[simp] theorem sL:Al Tryz.prog 152 1=some 1:=by kernel_rfl
@[simp] theorem tm:Al Tryz.prog 152 2=some 2:=by kernel_rfl
@[simp] theorem sS:Al Tryz.prog 163 0=some 0:=by kernel_rfl
@[simp] theorem AdJ (ps:List (Nat × A)):CS Tryz.prog 152 ps=(Dy (fun i=>([(0,1),(1,1),(2,1)]:List (Nat × Nat))[i]?) [A.sl true [],A.sl true [],A.sl true []] ps).map A.agg:=by kernel_rfl
@[simp] theorem Adg (ps:List (Nat × A)):CS Tryz.prog 163 ps=(Dy (fun i=>([(0,1)]:List (Nat × Nat))[i]?) [A.sl true []] ps).map A.agg:=by kernel_rfl
def Ix:CC:=sR [bQ .lss 6 3 5 8 3] [0,2,3,5,6] (.seq (cD 6 (.skip) (.exit 0)) (.keep [0,2,3,5] (.seq (.block 1 (sR [mO 7 5,aO 4 7] [0,2,3,4,5] (.reg [mO 8 4,mO 9 0,mO 10 4,oO 11 (.binOp .mul 3 (nI 8) (xT 10) 3),bB .shr 12 51 9 11 3,oO 13 (.convert 51 5 (xT 12)),iO 14 249 3 8,sT 5 14 13] [0,2,3,5]))) (.reg [bQ .add 15 3 5 1 3,mO 5 15] [0,2,3,5])))) 
def SP:CC:=sR [aL 2 249 [0]] [0,2] (sR [aL 3 249 [1]] [0,2,3] (sQ [oO 5 (.move (nI 0))] [0,2,3,5] (.block 0 (.loop Ix)) [2,3] (sR [lO 16 249 3,sT 249 2 16] [2] (.ret))))
theorem cX:Bm Tryz.prog 217 17 [(.cell 2 249)] SP:=Aw Tryz.func217
def Hh:CC:=sR [bQ .lss 13 3 12 8 3] [5,11,12,13] (.seq (cD 13 (.skip) (.exit 0)) (.keep [5,11,12] (.seq (.block 1 (sR [mO 14 12,oO 15 (.index 249 (xT 11) (xT 12)),aO 6 14,aO 7 15] [5,6,7,11,12] (sR [mO 16 7,oO 17 (.binOp .neq 5 (xT 16) (.const (.int .u8 0)) 5)] [5,6,11,12,17] (cD 17 (.reg [mO 18 5,mO 19 6,oO 20 (.binOp .shl 5 (.const (.int .u8 1)) (xT 19) 3),bB .or 21 5 18 20 5,aO 5 21] [5,11,12]) (.skip))))) (.keep [5,11,12] (.reg [bQ .add 22 3 12 1 3,mO 12 22] [5,11,12]))))) 
def Qd:CC:=sR [oO 4 (.assign (.const (.int .u8 0)))] [0,1] (sR [oO 5 (.assign (.const (.int .u8 0)))] [0,1,5] (sQ [mO 8 0,mO 9 1,bB .xor 10 51 8 9 51,cA 11 217 10 51,oO 12 (.move (nI 0))] [5,11,12] (.block 0 (.loop Hh)) [5] (sR [mO 23 5,aO 4 23] [4] (.ret))))
theorem Zz:Bm Tryz.prog 173 24 [(.tmp 4)] Qd:=Aw Tryz.func173
def PS:CC:=sR [bX 3 33 1 [0],aB 4 false] [0,3] (sR [fO 5 33 3 0,lO 6 3 5,bQ .eql 7 3 6 0 3,mO 8 7,mG 9 0 8 false,oG 10 (.binOp .eql 3 (xT 9) (nI 9) 3) 8 false,mG 11 10 8 false,fG 12 33 3 0 11 true,lG 13 3 12 11 true,oG 14 (.binOp .eql 3 (xT 13) (nI 2) 3) 11 true,oG 15 (.pick (xT 11) (xT 14) (nB false)) 8 false,mG 16 15 8 false,fG 17 33 3 3 16 true,lG 18 29 17 16 true,oG 19 (bL 18 29) 16 true,fG 20 33 3 4 16 true,lG 21 30 20 16 true,oG 22 (bL 21 30) 16 true,oG 23 (bO .add 3 19 22 3) 16 true,oG 24 (.binOp .eql 3 (xT 23) (nI 0) 3) 16 true,oG 25 (.pick (xT 16) (xT 24) (nB false)) 8 false,pT 26 8 25,aO 4 26] [4] (.ret))
theorem ZH:Bm Tryz.prog 112 27 [(.tmp 4)] PS:=Aw Tryz.func112
def HK:CC:=sR [bB .lss 9 3 8 7 3] [0,6,7,8,9] (.seq (cD 9 (.skip) (.exit 0)) (.keep [0,6,7,8] (.seq (.block 1 (sR [iO 10 23 6 8,lO 11 25 10,aL 5 25 [1],sT 25 5 11] [0,5,6,7,8] (.reg [mO 12 0,nC 13 12,lS 14 23 13 2,lS 15 25 5 3,⟨some 16,(cL 31 #[(xT 15)] #[25]),none,[],4,[2],true⟩,bN 17 14 23,⟨some 18,(.buildSlice 23 1 #[(0,(.const (.agg #[(.int .i64 0),(.slice none 0 0),(.slice none 0 0)])))]),none,[],6,[2,3,4],false⟩,aP 19 14 18 23 23 [2],iO 20 23 19 17,⟨none,(.store 25 (xT 20) (xT 16)),none,[],9,[],true⟩,nC 21 12,⟨none,(.store 23 (xT 21) (xT 19)),none,[],11,[9],false⟩] [0,6,7,8]))) (.reg [bQ .add 22 3 8 1 3,mO 8 22] [0,6,7,8])))) 
def Lr:CC:=sR [mO 6 1,bN 7 6 23,oO 8 (.move (nI 0))] [0,6,7,8] (.block 0 (.loop HK))
theorem Qg:Bm Tryz.prog 111 23 [] Lr:=Aw Tryz.func111
def Ct:CC:=sQ [mO 23 0,nC 24 23,fO 25 152 24 2,lO 26 23 25,bN 27 26 23,bQ .gtr 28 3 27 0 3] [0,28] (cD 28 (.reg [mO 29 0,nC 30 29,fO 31 152 30 0,lS 32 31 31 3,mO 33 0,nC 34 33,fO 35 152 34 2,lS 36 23 35 7,oO 37 (.build 91 #[(0,(nI 2)),(2,(xT 36))]),bN 38 32 31,⟨some 39,(.buildSlice 31 1 #[(0,(.const (.agg #[(.int .i64 0),(.int .i64 0),(.slice none 0 0),(.int .i64 0),(.int .i64 0),(.slice none 0 0),(.slice none 0 0),(.int .i64 0),(.slice none 0 0),(.slice none 0 0),(.slice none 0 0),(.slice none 0 0),(.int .i64 0),(.slice none 0 0)])))]),none,[],10,[3,7],false⟩,aP 40 32 39 31 31 [2],iO 41 31 40 38,⟨none,(.store 91 (xT 41) (xT 37)),none,[],13,[],true⟩,nC 42 29,fO 43 152 42 0,⟨none,(.store 31 (xT 43) (xT 40)),none,[],16,[13],false⟩] [0]) (.skip)) [0] (.reg [mO 44 0,mO 45 0,nC 46 44,fO 47 152 46 1,oS (.store 23 (xT 47) nS),nC 48 45,fO 49 152 48 2,oS (.store 23 (xT 49) nS)] []) 
def HS:CC:=sQ [mO 2 0,nC 3 2,fO 4 152 3 1,lO 5 23 4,bN 6 5 23,bQ .gtr 7 3 6 0 3] [0,7] (cD 7 (.reg [mO 8 0,nC 9 8,fO 10 152 9 0,lS 11 31 10 3,mO 12 0,nC 13 12,fO 14 152 13 1,lS 15 23 14 7,oO 16 (.build 91 #[(0,(nI 1)),(2,(xT 15))]),bN 17 11 31,⟨some 18,(.buildSlice 31 1 #[(0,(.const (.agg #[(.int .i64 0),(.int .i64 0),(.slice none 0 0),(.int .i64 0),(.int .i64 0),(.slice none 0 0),(.slice none 0 0),(.int .i64 0),(.slice none 0 0),(.slice none 0 0),(.slice none 0 0),(.slice none 0 0),(.int .i64 0),(.slice none 0 0)])))]),none,[],10,[3,7],false⟩,aP 19 11 18 31 31 [1],iO 20 31 19 17,⟨none,(.store 91 (xT 20) (xT 16)),none,[],13,[],true⟩,nC 21 8,fO 22 152 21 0,⟨none,(.store 31 (xT 22) (xT 19)),none,[],16,[13],false⟩] [0]) (.skip)) [0] Ct
theorem Nz:Bm Tryz.prog 113 50 [] HS:=Aw Tryz.func113
def FQ:CC:=sR [mO 5 0,cA 6 113 5 150] [0,1] (sQ [mO 7 0,nC 8 7,fO 9 152 8 0,lO 10 31 9,bN 11 10 31,bQ .sub 12 3 11 1 3,aO 4 12] [0,1,4] (sR [mO 13 4,bQ .geq 14 3 13 0 3,mO 15 14,mG 16 0 15 true,oG 17 (.nilCheck (xT 16)) 15 true,fG 18 152 17 0 15 true,lG 19 31 18 15 true,mG 20 4 15 true,oG 21 (iA 31 19 20) 15 true,fG 22 91 21 0 15 true,lG 23 3 22 15 true,oG 24 (.binOp .eql 3 (xT 23) (nI 0) 3) 15 true,pF 25 15 24] [0,1,4,25] (cD 25 (sR [mO 26 0,nC 27 26,fO 28 152 27 0,lO 29 31 28,mO 30 4,iO 31 31 29 30,fO 32 91 31 1,lO 33 3 32,mO 34 1,bB .add 35 3 33 34 3,iO 36 31 29 30,fO 37 91 36 1,sT 3 37 35] [] (.ret)) (.skip))) [0,1] (.reg [mO 38 0,nC 39 38,fO 40 152 39 0,lS 41 31 40 3,mO 42 1,oO 43 (.build 91 #[(0,(nI 0)),(1,(xT 42))]),bN 44 41 31,⟨some 45,(.buildSlice 31 1 #[(0,(.const (.agg #[(.int .i64 0),(.int .i64 0),(.slice none 0 0),(.int .i64 0),(.int .i64 0),(.slice none 0 0),(.slice none 0 0),(.int .i64 0),(.slice none 0 0),(.slice none 0 0),(.slice none 0 0),(.slice none 0 0),(.int .i64 0),(.slice none 0 0)])))]),none,[],7,[3],false⟩,aP 46 41 45 31 31 [1],iO 47 31 46 44,⟨none,(.store 91 (xT 47) (xT 43)),none,[],10,[],true⟩,nC 48 38,fO 49 152 48 0,⟨none,(.store 31 (xT 49) (xT 46)),none,[],13,[10],false⟩] []))
theorem Jc:Bm Tryz.prog 110 50 [] FQ:=Aw Tryz.func110
def GC:CC:=sR [bB .lss 14 3 13 12 3] [0,5,11,12,13,14] (.seq (cD 14 (.skip) (.exit 0)) (.keep [0,5,11,12,13] (.seq (.block 1 (sR [iO 15 31 11 13,lO 16 91 15,aL 7 91 [1],sT 91 7 16] [0,5,7,11,12,13] (sR [fO 17 91 7 0,lO 18 3 17] [0,5,7,11,12,13,18] (.block 2 (sR [bQ .eql 20 3 18 0 3,aO 19 20] [0,5,7,11,12,13,18,19] (cD 19 (.reg [mO 21 5,fO 22 91 7 1,lO 23 3 22,cB 24 110 21 23 150 3] [0,5,11,12,13]) (sR [bQ .eql 26 3 18 1 3,aO 25 26] [0,5,7,11,12,13,18,25] (cD 25 (.reg [mO 27 5,nC 28 27,fO 29 152 28 1,fO 30 91 7 2,lO 31 23 30,cB 32 111 29 31 155 23] [0,5,11,12,13]) (sR [bQ .eql 34 3 18 2 3,aO 33 34] [0,5,7,11,12,13,18,33] (cD 33 (.reg [mO 35 5,nC 36 35,fO 37 152 36 2,fO 38 91 7 2,lO 39 23 38,cB 40 111 37 39 155 23] [0,5,11,12,13]) (sR [bQ .eql 42 3 18 3 3,aO 41 42] [0,5,7,11,12,13,41] (cD 41 (sR [fO 43 91 7 3,lO 44 33 43,cA 45 29 44 33,aL 8 33 [2],sT 33 8 45] [0,5,8,11,12,13] (sR [mO 46 0,lO 47 33 8,cB 48 112 46 47 3 33] [0,5,8,11,12,13,48] (cD 48 (.reg [mO 49 5,oO 50 (cL 110 #[(xT 49),(nI 1)] #[150,3])] [0,5,11,12,13]) (sR [mO 51 5,cA 52 113 51 150] [0,5,8,11,12,13] (.reg [mO 53 5,nC 54 53,fO 55 152 54 0,lS 56 31 55 3,lS 57 33 8 4,oO 58 (.build 91 #[(0,(nI 3)),(3,(xT 57))]),bN 59 56 31,⟨some 60,(.buildSlice 31 1 #[(0,(.const (.agg #[(.int .i64 0),(.int .i64 0),(.slice none 0 0),(.int .i64 0),(.int .i64 0),(.slice none 0 0),(.slice none 0 0),(.int .i64 0),(.slice none 0 0),(.slice none 0 0),(.slice none 0 0),(.slice none 0 0),(.int .i64 0),(.slice none 0 0)])))]),none,[],7,[3,4],false⟩,aP 61 56 60 31 31 [3],iO 62 31 61 59,⟨none,(.store 91 (xT 62) (xT 58)),none,[],10,[],true⟩,nC 63 53,fO 64 152 63 0,⟨none,(.store 31 (xT 64) (xT 61)),none,[],13,[10],false⟩] [0,5,11,12,13]))))) (.skip))))))))))))) (.keep [0,5,11,12,13] (.reg [bQ .add 65 3 13 1 3,mO 13 65] [0,5,11,12,13]))))) 
def Ro:CC:=sR [aN 4] [0,1] (sR [oO 9 (.build 152 #[]),bX 10 152 9 [0],aO 5 10] [0,1,5] (sQ [mO 11 1,bN 12 11 31,oO 13 (.move (nI 0))] [0,5,11,12,13] (.block 0 (.loop GC)) [5] (sR [mO 66 5,cA 67 113 66 150] [5] (sR [mO 68 5,nC 69 68,fO 70 152 69 0,lO 71 31 70,aO 4 71] [4] (.ret)))))
theorem dG:Bm Tryz.prog 58 72 [(.tmp 4)] Ro:=Aw Tryz.func58
def Hq:CC:=sR [bB .lss 35 3 34 33 3] [2,3,32,33,34,35] (.seq (cD 35 (.skip) (.exit 1)) (.keep [2,3,32,33,34] (.seq (.block 2 (sR [iO 36 30 32 34,lO 37 89 36,aL 5 89 [4],sT 89 5 37] [2,3,5,32,33,34] (.reg [fO 38 33 3 4,lS 39 30 38 1,fO 40 89 5 0,lS 41 3 40 3,fO 42 89 5 1,lO 43 33 42,⟨some 44,(cL 29 #[(xT 43)] #[33]),none,[],6,[1,3],false⟩,oO 45 (.build 89 #[(0,(xT 41)),(1,(xT 44))]),⟨some 46,(.buildSlice 30 1 #[(0,(xT 45))]),none,[],8,[1],false⟩,aP 47 39 46 30 30 [5],fO 48 33 3 4,sT 30 48 47] [2,3,32,33,34]))) (.reg [bQ .add 49 3 34 1 3,mO 34 49] [2,3,32,33,34])))) 
def PQ:CC:=sR [bX 1 33 0 [0],aL 2 33 [1]] [1,2] (sR [fO 6 33 1 0,lO 7 3 6,fO 8 33 1 5,lO 9 3 8,oO 10 (.build 33 #[(0,(xT 7)),(5,(xT 9))]),aL 3 33 [2],sT 33 3 10] [1,2,3] (sQ [fO 11 33 1 0,lO 12 3 11] [1,2,3,12] (.block 0 (sR [bQ .eql 14 3 12 1 3,aO 13 14] [1,2,3,12,13] (cD 13 (.reg [fO 15 33 1 1,lO 16 25 15,⟨some 17,(cL 31 #[(xT 16)] #[25]),none,[],2,[],true⟩,fO 18 33 1 2,⟨some 19,(lD 25 18),none,[],4,[2],false⟩,cA 20 31 19 25,fO 21 33 3 1,sT 25 21 17,fO 22 33 3 2,sT 25 22 20] [2,3]) (sR [bQ .eql 24 3 12 2 3,aO 23 24] [1,2,3,12,23] (cD 23 (sR [fO 25 33 3 3,lO 26 29 25,fO 27 33 1 3,lO 28 29 27,aP 29 26 28 29 29 [3],fO 30 33 3 3,sT 29 30 29] [1,2,3] (sR [fO 31 33 1 4,lO 32 30 31,bN 33 32 30,oO 34 (.move (nI 0))] [2,3,32,33,34] (.block 1 (.loop Hq)))) (sR [bQ .eql 51 3 12 3 3,aO 50 51] [1,2,3,50] (cD 50 (.reg [fO 52 33 1 5,lO 53 3 52,fO 54 33 1 6,lO 55 31 54,cB 56 58 53 55 3 31,fO 57 33 3 6,sT 31 57 56] [2,3]) (.skip)))))))) [2,3] (sR [lO 58 33 3,sT 33 2 58] [2] (.ret))))
theorem Zs:Bm Tryz.prog 29 59 [(.cell 2 33)] PQ:=Aw Tryz.func29
def U6:CC:=sR [aL 6 80 [0],aB 7 false] [0,1,2,6] (sR [mO 9 1,mO 10 2,cB 11 173 9 10 51 51,aO 8 11] [0,1,2,6,8] (sQ [mO 12 8,oO 13 (.binOp .eql 5 (xT 12) (.const (.int .u8 0)) 5)] [0,1,2,6,8,13] (cD 13 (sR [oO 14 (.build 80 #[]),sT 80 6 14,aB 7 false] [6,7] (.ret)) (.skip)) [0,1,2,6,8] (sR [mO 15 0,mO 16 8,mO 17 1,mO 18 8,oO 19 (cL 174 #[(.const (.int .u64 0)),(xT 17),(xT 18)] #[51,51,5]),mO 20 2,mO 21 8,oO 22 (cL 174 #[(.const (.int .u64 0)),(xT 20),(xT 21)] #[51,51,5]),oO 23 (.build 80 #[(0,(xT 15)),(1,(xT 16)),(2,(xT 19)),(3,(xT 22))]),sT 80 6 23,aB 7 true] [6,7] (.ret))))
theorem ju:Bm Tryz.prog 117 24 [(.cell 6 80),(.tmp 7)] U6:=Aw Tryz.func117
def Fc:CC:=sR [bB .lss 22 3 21 20 3] [2,3,4,6,7,20,21,22] (.seq (cD 22 (.skip) (.exit 0)) (.keep [2,3,4,6,7,20,21] (.seq (.block 1 (sR [mO 23 21,aO 8 23] [2,3,4,6,7,8,20,21] (sR [mO 25 8,lS 26 25 3 1,mO 27 8,⟨some 28,(cL 115 #[(xT 26),(xT 27)] #[25,3]),none,[],3,[],true⟩,⟨some 29,(lD 25 4),none,[],4,[3],true⟩,mO 30 8,⟨some 31,(cL 115 #[(xT 29),(xT 30)] #[25,3]),none,[],6,[],true⟩,⟨some 32,(cL 117 #[(xT 25),(xT 28),(xT 31)] #[3,51,51]),none,[],7,[],true⟩,mO 24 32,xO 33 24 0,xO 34 24 1,⟨some 9,(.alloc 80),none,[4],11,[1,3,4,6,7],false⟩,sT 80 9 33,aO 10 34] [2,3,4,6,7,9,10,20,21] (sR [mO 35 10] [2,3,4,6,7,9,20,21,35] (cD 35 (.reg [fO 36 33 7 3,lO 37 29 36,lO 38 80 9,oO 39 (.buildSlice 29 1 #[(0,(xT 38))]),aP 40 37 39 29 29 [5],fO 41 33 7 3,sT 29 41 40] [2,3,4,6,7,20,21]) (.skip)))))) (.keep [2,3,4,6,7,20,21] (.reg [bQ .add 42 3 21 1 3,mO 21 42] [2,3,4,6,7,20,21])))))
def Fj:CC:=sR [bB .lss 51 3 50 49 3] [2,3,4,6,7,49,50,51] (.seq (cD 51 (.skip) (.exit 2)) (.keep [2,3,4,6,7,49,50] (.seq (.block 3 (sR [mO 52 50,aO 11 52] [2,3,4,6,7,11,49,50] (sR [lS 53 25 3 0,mO 54 11,⟨some 55,(cL 116 #[(xT 53),(xT 54)] #[25,3]),none,[],2,[],true⟩,⟨some 56,(lD 25 4),none,[],3,[2],true⟩,mO 57 11,⟨some 58,(cL 116 #[(xT 56),(xT 57)] #[25,3]),none,[],5,[],true⟩,mO 59 2,⟨some 60,(cL 30 #[(xT 55),(xT 58),(xT 59)] #[25,25,3]),none,[],7,[],true⟩,⟨some 12,(.alloc 33),none,[6],8,[0,2,3,5,7],false⟩,sT 33 12 60] [2,3,4,6,7,11,12,49,50] (sR [fO 61 33 12 0,lO 62 3 61,bQ .neq 63 3 62 0 3] [2,3,4,6,7,11,12,49,50,63] (cD 63 (.reg [fO 64 33 7 4,lO 65 30 64,mO 66 11,lO 67 33 12,oO 68 (.build 89 #[(0,(xT 66)),(1,(xT 67))]),oO 69 (.buildSlice 30 1 #[(0,(xT 68))]),aP 70 65 69 30 30 [7],fO 71 33 7 4,sT 30 71 70] [2,3,4,6,7,49,50]) (.skip)))))) (.keep [2,3,4,6,7,49,50] (.reg [bQ .add 72 3 50 1 3,mO 50 72] [2,3,4,6,7,49,50]))))) 
def Mg:CC:=sR [bX 3 25 0 [0],bX 4 25 1 [1],aL 6 33 [2]] [2,3,4,6] (sR [oO 13 (.build 33 #[(0,(nI 2))]),aL 7 33 [3],sT 33 7 13] [2,3,4,6,7] (sQ [fO 14 25 3 1,lO 15 22 14,bN 16 15 22,fO 17 25 4 1,lO 18 22 17,bN 19 18 22,oO 20 (bC .max #[(xT 16),(xT 19)] #[3,3]),oO 21 (.move (nI 0))] [2,3,4,6,7,20,21] (.block 0 (.loop Fc)) [2,3,4,6,7] (sQ [fO 43 25 3 2,lO 44 23 43,bN 45 44 23,fO 46 25 4 2,lO 47 23 46,bN 48 47 23,oO 49 (bC .max #[(xT 45),(xT 48)] #[3,3]),oO 50 (.move (nI 0))] [2,3,4,6,7,49,50] (.block 2 (.loop Fj)) [6,7] (sR [lO 73 33 7,sT 33 6 73] [6] (.ret)))))
theorem Ub:Bm Tryz.prog 60 74 [(.cell 6 33)] Mg:=Aw Tryz.func60
def EI:CC:=sR [bB .lss 22 3 21 20 3] [0,5,7,10,11,12,19,20,21,22] (.seq (cD 22 (.skip) (.exit 2)) (.keep [0,5,7,10,11,12,19,20,21] (.seq (.block 3 (sR [mO 23 21,iO 24 23 19 21,lO 25 25 24,aL 9 25 [2],aO 8 23,sT 25 9 25] [0,5,7,8,9,10,11,12,19,20,21] (sR [lO 26 25 9,lO 27 25 7,cB 28 59 26 27 25 25] [0,5,7,8,10,11,12,19,20,21,28] (cD 28 (sR [mO 29 5,mO 30 8,oO 31 (.buildSlice 164 1 #[(0,(xT 30))]),aP 32 29 31 164 164 [3],aO 5 32] [0,5,10,11,12] (.exit 1)) (.skip))))) (.keep [0,5,7,10,11,12,19,20,21] (.reg [bQ .add 33 3 21 1 3,mO 21 33] [0,5,7,10,11,12,19,20,21])))))
def EF:CC:=sR [bB .lss 13 3 12 11 3] [0,5,10,11,12,13] (.seq (cD 13 (.skip) (.exit 0)) (.keep [0,5,10,11,12] (.seq (.block 1 (sR [iO 14 23 10 12,lO 15 25 14,aL 7 25 [1],sT 25 7 15] [0,5,7,10,11,12] (sQ [mO 16 0,nC 17 16,fO 18 163 17 0,lO 19 23 18,bN 20 19 23,oO 21 (.move (nI 0))] [0,5,7,10,11,12,19,20,21] (.block 2 (.loop EI)) [0,5,7,10,11,12] (sR [mO 34 5,mO 35 0,nC 36 35,fO 37 163 36 0,lO 38 23 37,bN 39 38 23,oO 40 (.buildSlice 164 1 #[(0,(xT 39))]),aP 41 34 40 164 164 [3],aO 5 41] [0,5,7,10,11,12] (.reg [mO 42 0,nC 43 42,fO 44 163 43 0,lS 45 23 44 3,lS 46 25 7 4,bN 47 45 23,⟨some 48,(.buildSlice 23 1 #[(0,(.const (.agg #[(.int .i64 0),(.slice none 0 0),(.slice none 0 0)])))]),none,[],6,[3,4],false⟩,aP 49 45 48 23 23 [5],iO 50 23 49 47,⟨none,(.store 25 (xT 50) (xT 46)),none,[],9,[],true⟩,nC 51 42,fO 52 163 51 0,⟨none,(.store 23 (xT 52) (xT 49)),none,[],12,[9],false⟩] [0,5,10,11,12]))))) (.keep [0,5,10,11,12] (.reg [bQ .add 53 3 12 1 3,mO 12 53] [0,5,10,11,12]))))) 
def KC:CC:=sR [aN 4] [0,1] (.scope (sR [aN 5] [0,1,5] (.seq (.skip) (sQ [mO 10 1,bN 11 10 23,oO 12 (.move (nI 0))] [0,5,10,11,12] (.block 0 (.loop EF)) [5] (.stop (sR [mO 54 5,aO 4 54] [4] (.ret)))))))
theorem Sb:Bm Tryz.prog 118 55 [(.tmp 4)] KC:=Aw Tryz.func118
def Vo:CC:=sR [aN 4] [0,1] (sQ [mO 5 1,bN 6 5 23,bQ .eql 7 3 6 0 3] [0,1,7] (cD 7 (sR [aN 4] [4] (.ret)) (.skip)) [0,1] (sR [mO 8 0,mO 9 1,oO 10 (.build 91 #[(0,(xT 8)),(2,(xT 9))]),oO 11 (.buildSlice 31 1 #[(0,(xT 10))]),aO 4 11] [4] (.ret)))
theorem gO:Bm Tryz.prog 223 12 [(.tmp 4)] Vo:=Aw Tryz.func223
def P5:CC:=sR [aN 2] [0] (sR [mO 3 0,oO 4 (cL 223 #[(nI 1),(xT 3)] #[3,23]),aO 2 4] [2] (.ret))
theorem ZF:Bm Tryz.prog 180 5 [(.tmp 2)] P5:=Aw Tryz.func180
def Qc:CC:=sR [aN 2] [0] (sR [mO 3 0,oO 4 (cL 223 #[(nI 2),(xT 3)] #[3,23]),aO 2 4] [2] (.ret))
theorem Zu:Bm Tryz.prog 179 5 [(.tmp 2)] Qc:=Aw Tryz.func179
def KP:CC:=sR [bB .lss 29 3 28 27 3] [1,2,3,9,11,12,20,21,22,26,27,28,29] (.seq (cD 29 (.skip) (.exit 2)) (.keep [1,2,3,9,11,12,20,21,22,26,27,28] (.seq (.block 3 (sR [iO 30 23 26 28,lO 31 25 30,aL 14 25 [1],sT 25 14 31] [1,2,3,9,11,12,14,20,21,22,26,27,28] (.reg [mO 32 12,lO 33 25 11,lO 34 25 14,cB 35 202 33 34 25 25,oO 36 (.buildSlice 164 1 #[(0,(xT 35))]),aP 37 32 36 164 164 [2],aO 12 37] [1,2,3,9,11,12,20,21,22,26,27,28]))) (.reg [bQ .add 38 3 28 1 3,mO 28 38] [1,2,3,9,11,12,20,21,22,26,27,28]))))
def KI:CC:=sR [bB .lss 23 3 22 21 3] [1,2,3,9,20,21,22,23] (.seq (cD 23 (.skip) (.exit 0)) (.keep [1,2,3,9,20,21,22] (.seq (.block 1 (sR [iO 24 23 20 22,lO 25 25 24,aL 11 25 [0],sT 25 11 25] [1,2,3,9,11,20,21,22] (sR [aN 12] [1,2,3,9,11,12,20,21,22] (sQ [mO 26 2,bN 27 26 23,oO 28 (.move (nI 0))] [1,2,3,9,11,12,20,21,22,26,27,28] (.block 2 (.loop KP)) [1,2,3,9,12,20,21,22] (.stop (.reg [mO 39 9,mO 40 12,oO 41 (.buildSlice 240 1 #[(0,(xT 40))]),aP 42 39 41 240 240 [3],aO 9 42] [1,2,3,9,20,21,22])))))) (.keep [1,2,3,9,20,21,22] (.reg [bQ .add 43 3 22 1 3,mO 22 43] [1,2,3,9,20,21,22])))))
def K7:CC:=sR [bB .lss 48 3 47 46 3] [1,2,3,15,16,17,45,46,47,48] (.seq (cD 48 (.skip) (.exit 4)) (.keep [1,2,3,15,16,17,45,46,47] (.seq (.block 5 (sR [iO 49 242 45 47,lO 50 245 49,aL 19 245 [4],sT 245 19 50] [1,2,3,15,16,17,19,45,46,47] (sR [mO 51 15,mO 52 1,mO 53 16,fO 54 245 19 0,lO 55 3 54,oO 56 (.slice 23 (xT 52) (some (xT 53)) (some (xT 55)) none),⟨some 57,(cL 180 #[(xT 56)] #[23]),none,[],6,[],true⟩,⟨some 58,(bC .append #[(xT 51),(xT 57)] #[31,31]),none,[5],7,[],true⟩,mO 59 2,mO 60 17,fO 61 245 19 1,⟨some 62,(lD 3 61),none,[],11,[6,7],false⟩,oO 63 (.slice 23 (xT 59) (some (xT 60)) (some (xT 62)) none),cA 64 179 63 23,aP 65 58 64 31 31 [6],aO 15 65] [1,2,3,15,19,45,46,47] (sR [mO 66 15,mO 67 1,fO 68 245 19 0,lO 69 3 68,iO 70 23 67 69,lO 71 25 70,mO 72 2,fO 73 245 19 1,lO 74 3 73,iO 75 23 72 74,lO 76 25 75,mO 77 3,cE 78 30 71 76 77 25 25 3,oO 79 (.build 91 #[(0,(nI 3)),(3,(xT 78))]),oO 80 (.buildSlice 31 1 #[(0,(xT 79))]),aP 81 66 80 31 31 [7],aO 15 81] [1,2,3,15,19,45,46,47] (.reg [fO 82 245 19 0,lO 83 3 82,bQ .add 84 3 83 1 3,fO 85 245 19 1,lO 86 3 85,bQ .add 87 3 86 1 3,aO 16 84,aO 17 87] [1,2,3,15,16,17,45,46,47]))))) (.reg [bQ .add 88 3 47 1 3,mO 47 88] [1,2,3,15,16,17,45,46,47])))) 
def WT:CC:=sR [aN 8] [1,2,3] (sR [aN 9] [1,2,3,9] (sQ [mO 20 1,bN 21 20 23,oO 22 (.move (nI 0))] [1,2,3,9,20,21,22] (.block 0 (.loop KI)) [1,2,3,9] (sR [aN 15] [1,2,3,9,15] (sR [aI 16 0,aI 17 0] [1,2,3,9,15,16,17] (.stop (sQ [mO 44 9,cA 45 203 44 240,bN 46 45 242,oO 47 (.move (nI 0))] [1,2,3,15,16,17,45,46,47] (.block 4 (.loop K7)) [1,2,15,16,17] (sR [mO 89 15,mO 90 1,mO 91 16,oO 92 (.slice 23 (xT 90) (some (xT 91)) none none),cA 93 180 92 23,aP 94 89 93 31 31 [8],mO 95 2,mO 96 17,oO 97 (.slice 23 (xT 95) (some (xT 96)) none none),cA 98 179 97 23,aP 99 94 98 31 31 [9],aO 8 99] [8] (.ret))))))))
theorem lC:Bm Tryz.prog 154 100 [(.tmp 8)] WT:=Aw Tryz.func154
def FO:CC:=sQ [mO 19 12,mO 20 0,bN 21 20 166,bB .lss 22 3 19 21 3] [0,3,5,9,10,11,12,22] (cD 22 (.skip) (.exit 0)) [0,3,5,9,10,11,12] (.seq (.block 1 (sR [mO 25 0,mO 26 12,iO 27 166 25 26,fO 28 171 27 1,lO 29 3 28,aO 13 29] [0,3,5,9,10,11,12,13] (.block 2 (sR [mO 40 0,mO 41 12,iO 42 166 40 41,fO 43 171 42 0,lO 44 3 43,bQ .eql 45 3 44 0 3,aO 39 45] [0,3,5,9,10,11,12,13,39] (cD 39 (.reg [mO 46 9,mO 47 13,oO 48 (.build 91 #[(1,(xT 47))]),oO 49 (.buildSlice 31 1 #[(0,(xT 48))]),aP 50 46 49 31 31 [2],mO 51 10,mO 52 13,oO 53 (.slice 23 (xT 51) (some (xT 52)) none none),mO 54 11,mO 55 13,oO 56 (.slice 23 (xT 54) (some (xT 55)) none none),aO 9 50,aO 10 53,aO 11 56] [0,3,5,9,10,11,12]) (sR [mO 58 0,mO 59 12,iO 60 166 58 59,fO 61 171 60 0,lO 62 3 61,bQ .eql 63 3 62 2 3,aO 57 63] [0,3,5,9,10,11,12,13,57] (cD 57 (.reg [mO 64 9,mO 65 11,mO 66 13,oO 67 (.slice 23 (xT 65) none (some (xT 66)) none),cA 68 179 67 23,aP 69 64 68 31 31 [3],mO 70 11,mO 71 13,oO 72 (.slice 23 (xT 70) (some (xT 71)) none none),aO 9 69,aO 11 72] [0,3,5,9,10,11,12]) (sR [mO 74 12,bQ .add 75 3 74 1 3,mO 76 0,bN 77 76 166,bB .lss 78 3 75 77 3,mO 79 78,mG 80 0 79 true,mG 81 12 79 true,oG 82 (.binOp .add 3 (xT 81) (nI 1) 3) 79 true,oG 83 (iA 166 80 82) 79 true,fG 84 171 83 0 79 true,lG 85 3 84 79 true,oG 86 (.binOp .eql 3 (xT 85) (nI 2) 3) 79 true,pF 87 79 86,aO 73 87] [0,3,5,9,10,11,12,13,73] (cD 73 (sR [mO 88 0,mO 89 12,bQ .add 90 3 89 1 3,iO 91 166 88 90,fO 92 171 91 1,lO 93 3 92,aO 14 93] [0,3,5,9,10,11,12,13,14] (sR [mO 94 9,fO 95 25 5 0,lO 96 3 95,mO 97 10,mO 98 13,oO 99 (.slice 23 (xT 97) none (some (xT 98)) none),mO 100 11,mO 101 14,oO 102 (.slice 23 (xT 100) none (some (xT 101)) none),mO 103 3,oO 104 (cL 154 #[(xT 96),(xT 99),(xT 102),(xT 103)] #[3,23,23,3]),aP 105 94 104 31 31 [4],aO 9 105] [0,3,5,9,10,11,12,13,14] (sR [mO 106 10,mO 107 13,oO 108 (.slice 23 (xT 106) (some (xT 107)) none none),mO 109 11,mO 110 14,oO 111 (.slice 23 (xT 109) (some (xT 110)) none none),aO 10 108,aO 11 111] [0,3,5,9,10,11,12] (.reg [mO 112 12,bQ .add 113 3 112 1 3,aO 12 113] [0,3,5,9,10,11,12])))) (.reg [mO 30 9,mO 31 10,mO 32 13,oO 33 (.slice 23 (xT 31) none (some (xT 32)) none),cA 34 180 33 23,aP 35 30 34 31 31 [5],mO 36 10,mO 37 13,oO 38 (.slice 23 (xT 36) (some (xT 37)) none none),aO 9 35,aO 10 38] [0,3,5,9,10,11,12])))))))))) (.keep [0,3,5,9,10,11,12] (.reg [mO 23 12,bQ .add 24 3 23 1 3,aO 12 24] [0,3,5,9,10,11,12]))) 
def WZ:CC:=sR [bX 5 25 1 [0],bX 6 25 2 [1],aN 8] [0,3,5,6] (sR [aN 9] [0,3,5,6,9] (sR [fO 15 25 5 2,lO 16 23 15,fO 17 25 6 2,lO 18 23 17,aO 10 16,aO 11 18] [0,3,5,9,10,11] (sQ [aI 12 0] [0,3,5,9,10,11,12] (.block 0 (.loop FO)) [9] (sR [mO 114 9,aO 8 114] [8] (.ret)))))
theorem nF:Bm Tryz.prog 121 115 [(.tmp 8)] WZ:=Aw Tryz.func121
def ML:CC:=sR [fO 39 25 3 0,lS 40 3 39 1,mO 41 9,lO 42 25 3,lO 43 25 4,mO 44 2,⟨some 45,(cL 121 #[(xT 41),(xT 42),(xT 43),(xT 44)] #[166,25,25,3]),none,[],6,[1],false⟩,oO 46 (.build 33 #[(0,(nI 3)),(5,(xT 40)),(6,(xT 45))]),sT 33 6 46] [6] (.ret) 
def Vj:CC:=sR [bX 3 25 0 [0],bX 4 25 1 [1],aL 6 33 [2]] [2,3,4,6] (sR [oO 11 (.build 163 #[]),bX 12 163 11 [3],aO 7 12] [2,3,4,6,7] (.stop (sR [mO 13 7,fO 14 25 3 2,lO 15 23 14,cB 16 118 13 15 161 23,aO 8 16] [2,3,4,6,7,8] (sR [mO 18 8,mO 19 7,fO 20 25 4 2,lO 21 23 20,cB 22 118 19 21 161 23,mO 23 2,cE 24 119 18 22 23 164 164 3,mO 17 24,xO 25 17 0,xO 26 17 1,aO 9 25,aO 10 26] [2,3,4,6,9,10] (sQ [mO 27 10,oO 28 (.unOp .not 4 (xT 27))] [2,3,4,6,9,28] (cD 28 (.reg [fO 29 25 3 2,lO 30 23 29,bN 31 30 23,oO 32 (.build 171 #[(0,(nI 1)),(1,(xT 31))]),fO 33 25 4 2,lO 34 23 33,bN 35 34 23,oO 36 (.build 171 #[(0,(nI 2)),(1,(xT 35))]),oO 37 (.buildSlice 166 2 #[(0,(xT 32)),(1,(xT 36))]),cA 38 120 37 166,aO 9 38] [2,3,4,6,9]) (.skip)) [2,3,4,6,9] ML)))))
theorem jF:Bm Tryz.prog 62 47 [(.cell 6 33)] Vj:=Aw Tryz.func62
def Xb:CC:=sR [bX 3 25 0 [0],bX 4 25 1 [1],aL 6 33 [2]] [2,3,4,6] (.seq (.block 0 (sR [lO 8 25 3,lO 9 25 4,cB 10 59 8 9 25 25,aO 7 10] [2,3,4,6,7] (cD 7 (sR [oO 11 (.build 33 #[]),sT 33 6 11] [6] (.ret)) (sR [fO 13 25 3 0,lO 14 3 13,bQ .eql 15 3 14 1 3,mO 16 15,fG 17 25 4 0 16 true,lG 18 3 17 16 true,oG 19 (.binOp .eql 3 (xT 18) (nI 1) 3) 16 true,pF 20 16 19,aO 12 20] [2,3,4,6,12] (cD 12 (sR [lO 21 25 3,lO 22 25 4,mO 23 2,cE 24 60 21 22 23 25 25 3,sT 33 6 24] [6] (.ret)) (sR [fO 26 25 3 0,lO 27 3 26,fO 28 25 4 0,lO 29 3 28,bB .eql 30 3 27 29 3,mO 31 30,fG 32 25 3 0 31 true,lG 33 3 32 31 true,oG 34 (cL 61 #[(xT 33)] #[3]) 31 true,pF 35 31 34,aO 25 35] [2,3,4,6,25] (cD 25 (sR [lO 36 25 3,lO 37 25 4,mO 38 2,cE 39 62 36 37 38 25 25 3,sT 33 6 39] [6] (.ret)) (.skip)))))))) (.keep [3,4,6] (sR [lO 40 25 3,lO 41 25 4,oO 42 (.build 33 #[(0,(nI 1)),(1,(xT 40)),(2,(xT 41))]),sT 33 6 42] [6] (.ret))))
theorem n7:Bm Tryz.prog 30 43 [(.cell 6 33)] Xb:=Aw Tryz.func30
def St:CC:=sR [bX 3 25 0 [0],bX 4 25 1 [1],aL 6 33 [2]] [2,3,4,6] (sR [lO 7 25 3,⟨some 8,(cL 31 #[(xT 7)] #[25]),none,[],1,[],true⟩,⟨some 9,(lD 25 4),none,[],2,[1],false⟩,cA 10 31 9 25,mO 11 2,cE 12 30 8 10 11 25 25 3,cA 13 29 12 33,sT 33 6 13] [6] (.ret))
theorem cH:Bm Tryz.prog 11 14 [(.cell 6 33)] St:=Aw Tryz.func11
def KK:CC:=sR [bX 1 25 0 [0],aB 2 false] [1] (sR [lO 3 25 1,oO 4 (cL 27 #[(xT 3),(nI 70),(nI 400)] #[25,3,3]),bQ .geq 5 3 4 0 3,mO 6 5,lG 7 25 1 6 true,oG 8 (cL 28 #[(xT 7),(nI 64)] #[25,3]) 6 true,pF 9 6 8,mO 10 9,fG 11 25 1 0 10 true,lG 12 3 11 10 true,oG 13 (.binOp .neq 3 (xT 12) (nI 10) 3) 10 true,pF 14 10 13,aO 2 14] [2] (.ret))
theorem Ri:Bm Tryz.prog 8 15 [(.tmp 2)] KK:=Aw Tryz.func8
end Go.Proofs.YtbjmaoedheiigaaGreat
namespace Go.Proofs.YtbjmaoedheiigaaGreat
open Go Go.G Go.Proofs Go.PL
theorem kj (c:Int):G.Spec Tryz.prog 109 [iv c] (iv (AD c)):=by
 refine Ah Qx (by simp) fun w0 I0=>?_;unfold J6;by_cases h0:c=0
 ·subst h0;simp;exact AW rfl rfl
 by_cases h1:c=1
 ·subst h1;simp;exact AW rfl rfl
 by_cases h2:c=2
 ·subst h2;simp;exact AW rfl rfl
 by_cases h3:c=3
 ·subst h3;simp;exact AW rfl rfl
 by_cases h4:c=4
 ·subst h4;simp;exact AW rfl rfl
 by_cases h5:c=5
 ·subst h5;simp;exact AW rfl rfl
 simp[h0,h1,h2,h3,h4,h5];exact AW rfl (by simp[AD,h0,h1,h2,h3,h4,h5])
theorem JP (c:Int):AD c = -1∨AD c=0∨AD c=1∨AD c=8∨AD c=16∨AD c=32∨AD c=64:=by
 unfold AD;repeat' split
 all_goals simp
variable {n0:Nat} {w0:World} {I0:Nat→Prop} {Q:Exit→Sta→Prop} {H:Hp}
theorem uB {w:Int} (hw:w≤64):∀ (m:Nat) (x i:Int),0≤x→x<18446744073709551616→0≤i→i+m=w→(∀ b,Q (.exit 0) ⟨lk [(1,uv (x / 2 ^ m)),(5,iv w),(6,iv w),(13,bv b)],H⟩) →
  LoopC (cx Tryz.prog w0 I0 n0) Ew Q ⟨lk [(1,uv x),(5,iv w),(6,iv i)],H⟩:=by
 intro m;induction m with
 |zero=>
  intro x i h0 h1 h2 h3 hq;have:i=w:=by simpa using h3
  subst this;refine Ad Ai Ew.eq_1 ?_;simp;simpa using hq _
 |succ m ih=>
  intro x i h0 h1 h2 h3 hq;refine Ad Ai Ew.eq_1 ?_;have hi:i<w:=by omega
  simp[hi];rw[Av (by omega) (by omega),Int.tdiv_eq_ediv_of_nonneg h0,Bw (by omega) (by omega)];exact ih _ _ (by omega) (by omega) (by omega) (by omega) (by rw[tS];exact hq)
theorem nN {c n:Int} (h:BI n):G.Spec Tryz.prog 57 [iv c,uv n] (bv (GA c n)):=by
 refine Ah R2 (by simp) fun w0 I0=>?_;unfold KG;simp;refine Ae (kj c) rfl ?_;simp;have hw:=JP c;refine⟨fun h0=>?_,fun h0=>?_⟩
 ·refine Ak ?_;simp[GA];omega
 ·refine uB (w:=AD c) (by omega) (AD c).toNat n 0 h.1 h.2 (by omega) (by omega) (fun b=>?_);simp;refine Ak ?_;simp[GA,h0]
theorem iH (c:Int):Ux c=if AD c<1 then 0 else AD c:=by
 unfold Ux AD;by_cases h0:c=0
 ·subst h0;rfl
 by_cases h1:c=1
 ·subst h1;rfl
 by_cases h2:c=2
 ·subst h2;rfl
 by_cases h3:c=3
 ·subst h3;rfl
 by_cases h4:c=4
 ·subst h4;rfl
 by_cases h5:c=5
 ·subst h5;rfl
 simp[h0,h1,h2,h3,h4,h5]
theorem uK {a b:List Int} (hl:a.length=b.length) (hb:a.length*8≤140737488355328):∀ (m i:Nat),i+m=a.length→a.take i=b.take i→(a=b→∀ i q,Q (.exit 0) ⟨lk [(0,Ff a),(1,Ff b),(5,iv i),(14,bv q)],H⟩)→(a ≠ b→Q .ret ⟨lk [(4,bv false)],H⟩) →
  LoopC (cx Tryz.prog w0 I0 n0) EH Q ⟨lk [(0,Ff a),(1,Ff b),(5,iv i)],H⟩:=by
 intro m;induction m with
 |zero=>
  intro i hi ht h1 h2;have:i=a.length:=by omega
  subst this;refine Ad Ai EH.eq_1 ?_;simp;refine h1 ?_ _ _;rw[BO (Cb _),BO (by omega)] at ht;exact ht
 |succ m ih=>
  intro i hi ht h1 h2;have hlt:i<a.length:=by omega
  have hlt':i<b.length:=by omega
  refine Ad Ai EH.eq_1 ?_;simp[hlt,hlt'];refine⟨fun he=>?_,fun hne=>h2 fun e=>hne (by subst e;rfl)⟩;rw[Av (by omega) (by omega)];refine ih (i+1) (by omega) ?_ h1 h2;rw[Ij hlt,Ij hlt',ht,he]
theorem Ye (a b:List Int) (hb:a.length*8≤140737488355328):G.Spec Tryz.prog 38 [Ff a,Ff b] (bv (decide (a=b))):=by
 refine Ah Rk (by simp) fun w0 I0=>?_;unfold KY;simp;refine⟨fun h=>?_,fun h=>?_⟩
 ·refine uK (by omega) hb a.length 0 (by omega) rfl (fun e i q=>?_) (fun e=>?_)
  ·simp;refine Ak ?_;simp[e]
  ·simp;refine Ak ?_;simp[e]
 ·refine Ak ?_;have:¬ a=b:=fun e=>h (by rw[e]);simp[this]
theorem J5 (c:Int):G.Spec Tryz.prog 185 [iv c] (.tup [iv (if AD c<0 then 0 else AD c),bv (decide (0≤AD c))]):=by
 refine Ah bJ (by simp) fun w0 I0=>?_;unfold RQ;by_cases h0:c=0
 ·subst h0;simp;exact AW rfl rfl
 by_cases h1:c=1
 ·subst h1;simp;exact AW rfl rfl
 by_cases h2:c=2
 ·subst h2;simp;exact AW rfl rfl
 by_cases h3:c=3
 ·subst h3;simp;exact AW rfl rfl
 by_cases h4:c=4
 ·subst h4;simp;exact AW rfl rfl
 by_cases h5:c=5
 ·subst h5;simp;exact AW rfl rfl
 have hd:(decide (c<0) || decide (6≤c))=true:=by simp;omega
 simp[hd];exact AW rfl (by simp[AD,h0,h1,h2,h3,h4,h5])
theorem Wy (c n:Int):G.Spec Tryz.prog 182 [iv c,iv n] (iv (Dw c n)):=by
 refine Ah kg (by simp) fun w0 I0=>?_;unfold VF;simp;refine Ae (J5 c) rfl ?_;have hw:=JP c;have hb:=iH c;simp;refine⟨fun h0=>?_,fun a1 a2 a3=>?_⟩
 ·refine DY ?_;unfold Dw;split
  ·rfl
  ·rw[hb,if_pos (by omega)];simp
 ·have e:Dw c n=(n*AD c+63) / 64:=by
   unfold Dw;rw[if_neg (by omega),hb];split
   ·have:AD c=0:=by omega
    simp[this]
   ·rfl
  rw[e,if_neg (by omega)];generalize AD c=w at *;have hw:w=0∨w=1∨w=8∨w=16∨w=32∨w=64:=by omega
  refine DY ?_;rcases hw with rfl | rfl | rfl | rfl | rfl | rfl;all_goals
   try simp
   try simp (disch:=omega) only[Av,Int.tdiv_eq_ediv_of_nonneg]
   try rfl
theorem J0 (k:Int):G.Spec Tryz.prog 140 [iv k] (bv (Bb k)):=by
 refine Ah jQ (by simp) fun w0 I0=>?_;unfold Vs;simp;refine Ak ?_;simp[Bb]
theorem xz {w:List Int} (hb:w.length*8≤140737488355328) (hq:∀ q,Q (.exit 0) ⟨lk [(0,Ff w),(3,iv (CM w).length),(16,bv q)],H⟩):∀ (n:Nat),n≤w.length→CM (w.take n)=CM w →
  LoopC (cx Tryz.prog w0 I0 n0) EG Q ⟨lk [(0,Ff w),(3,iv n)],H⟩:=by
 intro n;induction n with
 |zero=>
  intro hn ht;refine Ad Ai EG.eq_1 ?_;simp;have e:(CM w).length=0:=by rw[← ht];rfl
  have:=hq false;rw[e] at this;exact this
 |succ n ih=>
  intro hn ht;have hlt:n<w.length:=by omega
  have e:i64.wrap (n:Int)=n:=Bv;refine Ad Ai EG.eq_1 ?_;by_cases h0:w[n]=0
  ·simp[e,hlt,h0];exact ih (by omega) (by rw[← Y4 hlt h0];exact ht)
  ·have e2:(CM w).length=n+1:=by rw[← ht,XB hlt h0];simp;omega
   have:=hq false;rw[e2] at this;simp[e,hlt,h0];simpa using this
theorem lr (w:List Int) (hb:w.length*8≤140737488355328):G.Spec Tryz.prog 64 [Ff w] (Ff (CM w)):=by
 refine Ah Sx (by simp) fun w0 I0=>?_;unfold KM;simp;refine xz hb (fun q=>?_) w.length (Cb _) (by rw[BO (Cb _)]);have hl:=ET w;have hb':(CM w).length*8≤140737488355328:=by omega
 simp[hl];refine⟨hb',?_⟩;rw[← List.map_take,← Qw];exact Cu (by simp) rfl (by simp)
abbrev kD (l:List Int):List A:=l.map u8
def DF:Nat→Int→List Int
 |0,_=>[]
 |m+1,x=>x % 256::DF m (x / 256)
@[simp] theorem PU:∀ (m:Nat) (x:Int),(DF m x).length=m
 |0,_=>rfl
 |m+1,x=>by simp[DF,PU m]
theorem mF {l:List Int} {i:Nat} {v:Int} (h:i<l.length):splice (l.map u8) i [u8 v]=(l.set i v).map u8:=by
 apply List.ext_getElem?;intro j;simp only[splice,List.length_singleton];rw[List.append_assoc,List.map_set];by_cases h1:j<i
 ·rw[List.getElem?_append_left (by simp;omega),List.getElem?_take,if_pos h1,List.getElem?_set_ne (by omega)]
 ·rw[List.getElem?_append_right (by simp;omega)];have e:(List.take i (l.map u8)).length=i:=by simp;omega
  rw[e];by_cases h2:j=i
  ·subst h2;rw[List.getElem?_set_self (by simpa using h)];simp
  ·rw[List.getElem?_set_ne (by omega),List.getElem?_append_right (by simp;omega),List.getElem?_drop];congr 1;simp;omega
section
variable {n0:Nat} {w0:World} {I0:Nat→Prop} {Q:Exit→Sta→Prop}
end
def AZ (x:Int):List Int:=DF 8 x
theorem qx {H:Hp} {l:List Int}:K6 H (.agg (kD l)) (.agg (kD l)):=Ab (by simp)
def Ev (x:Int) (i:Nat):Bool:=decide (x / 2 ^ i % 2=1)
def aG:List Int→Int
 |[]=>0
 |b::l=>b+256*aG l
theorem Tu:∀ (l:List Int),(∀ b,b ∈ l→0≤b∧b<256)→0≤aG l∧aG l<256 ^ l.length
 |[],_=>by simp[aG]
 |b::l,h=>by
  have h1:=h b (by simp);have h2:=Tu l fun x hx=>h x (by simp[hx]);simp only[aG,List.length_cons,Int.pow_succ];omega
theorem M7:∀ (m:Nat) (x:Int),∀ b,b ∈ DF m x→0≤b∧b<256
 |m+1,x,b,h=>by
  rcases List.mem_cons.1 h with rfl | h
  ·omega
  ·exact M7 m _ b h
def PI (a b:List Int) (mask:Int) (k:Nat):List Int:=(List.range k).map (fun i=>if Ev mask i=true then b.getD i 0 else a.getD i 0)++a.drop k
theorem K4 {a b:List Int} {mask:Int} {k:Nat} (h:k≤a.length):(PI a b mask k).length=a.length:=by simp[PI];omega
section
variable {n0:Nat} {w0:World} {I0:Nat→Prop} {Q:Exit→Sta→Prop}
end
def HN (a b mask:Int):Int:=aG (PI (AZ a) (AZ b) mask 8)
theorem QT {a b mask:Int} {k:Nat}:∀ x,x ∈ PI (AZ a) (AZ b) mask k→0≤x∧x<256:=by
 have hg:∀ (y:Int) (i:Nat),0≤(AZ y).getD i 0∧(AZ y).getD i 0<256:=fun y i=>by
  rw[List.getD_eq_getElem?_getD];cases e:(AZ y)[i]? with
  |none=>simp
  |some z=>exact M7 8 y z (List.mem_of_getElem? e)
 intro x hx;rcases List.mem_append.1 hx with hx | hx
 ·obtain⟨i,_,rfl⟩:=List.mem_map.1 hx;split
  ·exact hg b i
  ·exact hg a i
 ·exact M7 8 a x (QB hx)
theorem BJ (x:Int):(AZ x).length=8:=PU 8 x
def fu:Nat→Nat→Nat→Nat→Nat
 |0,_,_,_=>0
 |k+1,a,b,m=>(if m % 2=1 then b % 256 else a % 256)+256*fu k (a / 256) (b / 256) (m / 2)
def Ea:Nat→Nat→Nat
 |0,_=>0
 |k+1,m=>(if m % 2=1 then 255 else 0)+256*Ea k (m / 2)
theorem XF:∀ k m,Ea k m<256 ^ k
 |0,m=>by simp[Ea]
 |k+1,m=>by
  have:=XF k (m / 2);simp only[Ea,Nat.pow_succ];split<;>omega
theorem bb:∀ k a b m,a<256 ^ k→b<256 ^ k→(a &&& (256 ^ k-1-Ea k m)) ||| (b &&& Ea k m)=fu k a b m
 |0,a,b,m,ha,hb=>by
  simp at ha hb;subst ha hb;simp[fu,Ea]
 |k+1,a,b,m,ha,hb=>by
  have hw:=XF k (m / 2);rw[Nat.pow_succ] at ha hb;have ih:=bb k (a / 256) (b / 256) (m / 2) (by omega) (by omega);have p0:0<256 ^ k:=Nat.pow_pos (by decide);generalize hx:(a &&& (256 ^ (k+1)-1-Ea (k+1) m)) ||| (b &&& Ea (k+1) m)=x;have d1:Ea (k+1) m / 256=Ea k (m / 2):=by simp only[Ea];split<;>omega
  have d2:(256 ^ (k+1)-1-Ea (k+1) m) / 256=256 ^ k-1-Ea k (m / 2):=by simp only[Ea,Nat.pow_succ];split<;>omega
  have m1:Ea (k+1) m % 256=if m % 2=1 then 255 else 0:=by simp only[Ea];split<;>omega
  have m2:(256 ^ (k+1)-1-Ea (k+1) m) % 256=if m % 2=1 then 0 else 255:=by simp only[Ea,Nat.pow_succ];split<;>omega
  have e1:x / 256=fu k (a / 256) (b / 256) (m / 2):=by
   have q1:=@Nat.or_div_two_pow (a &&& (256 ^ (k+1)-1-Ea (k+1) m)) (b &&& Ea (k+1) m) 8;have q2:=@Nat.and_div_two_pow a (256 ^ (k+1)-1-Ea (k+1) m) 8;have q3:=@Nat.and_div_two_pow b (Ea (k+1) m) 8;have c:(2:Nat) ^ 8=256:=rfl;rw[q2,q3,c,d1,d2,hx] at q1;rw[q1,ih]
  have e2:x % 256=if m % 2=1 then b % 256 else a % 256:=by
   have h:x % 2 ^ 8=(a % 2 ^ 8 &&& (256 ^ (k+1)-1-Ea (k+1) m) % 2 ^ 8) ||| (b % 2 ^ 8 &&& Ea (k+1) m % 2 ^ 8):=by
    rw[← hx,Nat.or_mod_two_pow,Nat.and_mod_two_pow,Nat.and_mod_two_pow]
   have c:(2:Nat) ^ 8=256:=rfl;rw[c,m1,m2] at h;rw[h];have h255:(255:Nat)=2 ^ 8-1:=rfl;split
   ·rw[h255,Nat.and_two_pow_sub_one_eq_mod];simp
   ·rw[h255,Nat.and_two_pow_sub_one_eq_mod];simp
  simp only[fu];omega
theorem gu:∀ (k:Nat) (a b mask:Int),0≤a→0≤b→0≤mask→aG ((List.range k).map fun i=>if Ev mask i=true then (DF k b).getD i 0 else (DF k a).getD i 0)=(fu k a.toNat b.toNat mask.toNat:Nat)
 |0,a,b,mask,_,_,_=>by simp[aG,fu]
 |k+1,a,b,mask,ha,hb,hm=>by
  have ih:=gu k (a / 256) (b / 256) (mask / 2) (by omega) (by omega) (by omega);have e1:(a / 256).toNat=a.toNat / 256:=by omega
  have e2:(b / 256).toNat=b.toNat / 256:=by omega
  have e3:(mask / 2).toNat=mask.toNat / 2:=by omega
  rw[e1,e2,e3] at ih;rw[List.range_succ_eq_map,List.map_cons,List.map_map,aG];have h:(List.range k).map ((fun i=>if Ev mask i=true then (DF (k+1) b).getD i 0 else (DF (k+1) a).getD i 0) ∘ Nat.succ)=(List.range k).map fun i=>if Ev (mask / 2) i=true then (DF k (b / 256)).getD i 0 else (DF k (a / 256)).getD i 0:=by
   refine List.map_congr_left fun i _=>?_;have hn:Ev mask (i+1)=Ev (mask / 2) i:=by
    unfold Ev;have:mask / 2 ^ (i+1)=mask / 2 / 2 ^ i:=by
     rw[Int.ediv_ediv_of_nonneg (by decide),Int.pow_succ,Int.mul_comm]
    rw[this]
   simp[DF,hn]
  rw[h,ih];have h0:(Ev mask 0=true)=(mask.toNat % 2=1):=by
   simp[Ev];omega
  simp only[h0,fu,DF,List.getD_cons_zero];split<;>omega
theorem xD {a b mask:Int} (ha:BI a) (hb:BI b) (h0:0≤mask):HN a b mask=(fu 8 a.toNat b.toNat mask.toNat:Nat):=by
 rw[← gu 8 a b mask ha.1 hb.1 h0];unfold HN PI AZ;rw[List.drop_eq_nil_of_le (by simp),List.append_nil]
def wS (mask:Int):Nat→Int
 |0=>0
 |i+1=>if bits .and .u8 (mask / 2 ^ min i 8) 1=1 then bits .or .u64 (wS mask i) (u64.wrap (255*2 ^ min (8*i) 64)) else wS mask i
theorem AdM:∀ m:Nat,m<256→wS m 8=(Ea 8 m:Nat):=by decide +kernel
section
variable {n0:Nat} {w0:World} {I0:Nat→Prop} {Q:Exit→Sta→Prop}
theorem rq {mask:Int} (hq:∀ q,Q (.exit 0) ⟨lk [(0,u8 mask),(3,uv (wS mask 8)),(5,iv 8),(6,bv q)],FA []⟩) :
  ∀ (j i:Nat),i+j=8→LoopC (cx Tryz.prog w0 I0 n0) JB Q ⟨lk [(0,u8 mask),(3,uv (wS mask i)),(5,iv i)],FA []⟩:=by
 intro j;induction j with
 |zero=>
  intro i hi;have:i=8:=by omega
  subst this;refine Ad Ai JB.eq_1 ?_;simp;exact hq _
 |succ j ih=>
  intro i hi;refine Ad Ai JB.eq_1 ?_;have hlt:i<8:=by omega
  have hlt2:(i:Int)<8:=by omega
  have e8:i64.wrap (8*(i:Int))=((8*i:Nat):Int):=(Av (by omega) (by omega)).trans (by omega);have ei:=AM i;have b8:IntKind.u8.bits=8:=rfl;have b64:u64.bits=64:=rfl;have hs:=ih (i+1) (by omega);rw[wS] at hs;have e9:(8*(i:Int)).toNat=8*i:=by omega
  simp[hlt,hlt2,e8,ei,b8,b64,e9];refine⟨fun hc=>⟨by omega,?_⟩,fun hc=>?_⟩
  ·rw[if_pos hc] at hs;exact hs
  ·rw[if_neg hc] at hs;exact hs
end
theorem W1 {mask:Int} (h0:0≤mask) (h1:mask<256):G.Spec Tryz.prog 218 [u8 mask] (uv (Ea 8 mask.toNat:Nat)):=by
 refine Ah ki (by simp) fun w0 I0=>?_;unfold Vd;simp;obtain⟨m,rfl⟩:=Int.eq_ofNat_of_zero_le h0;refine rq (fun q=>?_) 8 0 rfl;simp;rw[AdM m (by omega)];exact Ab rfl
theorem Ud {x:Nat} (h:x<2 ^ 64):(BitVec.ofInt 64 (x:Int)).toNat=x:=by
 rw[BitVec.toNat_ofInt];omega
theorem Ado {x y:Nat} (hx:x<2 ^ 64) (hy:y<2 ^ 64):bits .and .u64 x y=(x &&& y:Nat):=by
 have h:=Nat.lt_of_le_of_lt (Nat.and_le_left (n:=x) (m:=y)) hx;show u64.wrap ((BitVec.ofInt 64 x &&& BitVec.ofInt 64 y).toNat:Nat)=_;rw[BitVec.toNat_and,Ud hx,Ud hy];exact Bw (by omega) (by omega)
theorem AgW {x y:Nat} (hx:x<2 ^ 64) (hy:y<2 ^ 64):bits .or .u64 x y=(x ||| y:Nat):=by
 have h:=Nat.or_lt_two_pow hx hy;show u64.wrap ((BitVec.ofInt 64 x ||| BitVec.ofInt 64 y).toNat:Nat)=_;rw[BitVec.toNat_or,Ud hx,Ud hy];exact Bw (by omega) (by omega)
theorem zg {x y:Nat} (hx:x<2 ^ 64) (hy:y<2 ^ 64):bits .andNot .u64 x y=(x &&& (256 ^ 8-1-y):Nat):=by
 have h:=Nat.lt_of_le_of_lt (Nat.and_le_left (n:=x) (m:=256 ^ 8-1-y)) hx;show u64.wrap ((BitVec.ofInt 64 x &&& ~~~ BitVec.ofInt 64 y).toNat:Nat)=_;rw[BitVec.toNat_and,BitVec.toNat_not,Ud hx,Ud hy];have e:(2:Nat) ^ 64-1-y=256 ^ 8-1-y:=rfl;rw[e];exact Bw (by omega) (by omega)
theorem OZ {a b mask:Int} (ha:BI a) (hb:BI b) (h0:0≤mask) (h1:mask<256):G.Spec Tryz.prog 174 [uv a,uv b,u8 mask] (uv (HN a b mask)):=by
 refine Ah lF (by simp) fun w0 I0=>?_;unfold WG;simp;refine Ae (W1 h0 h1) (by simp) ?_;simp;refine Ae (W1 h0 h1) (by simp) ?_;simp;refine DY ?_;rw[xD ha hb h0];obtain⟨x,rfl⟩:=Int.eq_ofNat_of_zero_le ha.1;obtain⟨y,rfl⟩:=Int.eq_ofNat_of_zero_le hb.1;have hx:x<2 ^ 64:=by have:=ha.2;omega
 have hy:y<2 ^ 64:=by have:=hb.2;omega
 have hw:Ea 8 mask.toNat<2 ^ 64:=XF 8 _;rw[zg hx hw,Ado hy hw,AgW (Nat.lt_of_le_of_lt Nat.and_le_left hx) (Nat.lt_of_le_of_lt Nat.and_le_left hy)];have:=bb 8 x y mask.toNat hx hy;simp only[Int.toNat_natCast];rw[← this]
theorem uA:∀ i:Fin 8,∀ m:Fin 256,m.val<2 ^ i.val→bits .or .u8 (m.val:Int) ((2 ^ i.val:Nat):Int)=(m.val:Int)+((2 ^ i.val:Nat):Int):=by decide +kernel
def B5 (x:Int) (i:Nat):Int:=x / 256 ^ i % 256
def HP (a b:Int):Nat→Nat
 |0=>0
 |k+1=>HP a b k+(if B5 a k ≠ B5 b k then 2 ^ k else 0)
def EC (a b:Int):Int:=(HP a b 8:Nat)
theorem V4 (a b:Int):∀ k,HP a b k<2 ^ k
 |0=>by simp[HP]
 |k+1=>by
  have:=V4 a b k;unfold HP;rw[Nat.pow_succ];split<;>omega
theorem eg (a b:Int):0≤EC a b∧EC a b<256:=by
 have:=V4 a b 8;unfold EC;omega
theorem M4:∀ (n:Nat) (x:Int) (i:Nat),i<n→(DF n x)[i]? = some (B5 x i)
 |n+1,x,0,_=>by simp[DF,B5]
 |n+1,x,i+1,h=>by
  have:=M4 n (x / 256) i (by omega);simp only[DF,List.getElem?_cons_succ];rw[this];unfold B5;rw[Int.ediv_ediv_of_nonneg (by omega),Int.pow_succ,Int.mul_comm]
theorem uJ {a b:Int} (ha:BI a) (hb:BI b) (i:Nat):B5 (bits .xor .u64 a b) i=0 ↔ B5 a i=B5 b i:=by
 obtain⟨x,rfl⟩:∃ x:Nat,a=x:=⟨a.toNat,by unfold BI at ha;omega⟩;obtain⟨y,rfl⟩:∃ y:Nat,b=y:=⟨b.toNat,by unfold BI at hb;omega⟩;unfold BI at ha hb;rw[bits_xor_u64_nat x y (by omega) (by omega)];unfold B5;have h:∀ z:Nat,((z:Int) / 256 ^ i % 256)=(((z / 2 ^ (8*i)) % 2 ^ 8:Nat):Int):=fun z=>by
  have h1:((256:Int) ^ i)=((2 ^ (8*i):Nat):Int):=by
   rw[Nat.pow_mul,Int.natCast_pow];rfl
  rw[h1,Int.natCast_emod,Int.natCast_ediv];rfl
 rw[h,h,h];have e:((x ^^^ y) / 2 ^ (8*i)) % 2 ^ 8=((x / 2 ^ (8*i)) % 2 ^ 8) ^^^ ((y / 2 ^ (8*i)) % 2 ^ 8):=by
  rw[← Nat.shiftRight_eq_div_pow,← Nat.shiftRight_eq_div_pow,← Nat.shiftRight_eq_div_pow,Nat.shiftRight_xor_distrib,Nat.xor_mod_two_pow]
 rw[e];constructor
 ·intro h;have h:((x / 2 ^ (8*i)) % 2 ^ 8) ^^^ ((y / 2 ^ (8*i)) % 2 ^ 8)=0:=by omega
  generalize (x / 2 ^ (8*i)) % 2 ^ 8=p at h ⊢;generalize (y / 2 ^ (8*i)) % 2 ^ 8=q at h ⊢;have h2:p ^^^ q ^^^ q=q:=by rw[h,Nat.zero_xor]
  rw[Nat.xor_assoc,Nat.xor_self,Nat.xor_zero] at h2;rw[h2]
 ·intro h;have h:(x / 2 ^ (8*i)) % 2 ^ 8=(y / 2 ^ (8*i)) % 2 ^ 8:=by omega
  rw[h,Nat.xor_self];rfl
section
variable {n0:Nat} {w0:World} {I0:Nat→Prop} {Q:Exit→Sta→Prop}
theorem Ac6 {a b:Int} (ha:BI a) (hb:BI b) {H:Hp} (hq:∀ st,Q (.exit 0) ⟨lk ([(5,u8 (EC a b))]++st),H⟩):∀ (m i:Nat),i+m=8 →
  LoopC (cx Tryz.prog w0 I0 n0) Hh Q ⟨lk [(5,u8 (HP a b i:Nat)),(11,.agg (kD (AZ (bits .xor .u64 a b)))),(12,iv i)],H⟩:=by
 intro m;induction m with
 |zero=>
  intro i hm;refine Ad Ai Hh.eq_1 ?_;have:i=8:=by omega
  subst this;simp;exact hq [(11,.agg (kD (AZ (bits .xor .u64 a b)))),(12,iv 8),(13,bv false)]
 |succ m ih=>
  intro i hm;have hi:i<8:=by omega
  have hi':(i:Int)<8:=by omega
  have ew:=AM i;have hb1:(AZ (bits .xor .u64 a b))[i]? = some (B5 (bits .xor .u64 a b) i):=M4 8 _ i hi;have hx:=uJ ha hb i;have hlt:=V4 a b i;have next:=ih (i+1) (by omega)
  refine Ad Ai Hh.eq_1 ?_;by_cases h:B5 a i=B5 b i
  ·have h0:=hx.2 h;have e:HP a b (i+1)=HP a b i:=by simp[HP,h]
   rw[e] at next
   simp[hi',hi,ew,kD,hb1,h0];simpa[kD] using next
  ·have h0:¬ B5 (bits .xor .u64 a b) i=0:=fun e=>h (hx.1 e);have e:HP a b (i+1)=HP a b i+2 ^ i:=by simp[HP,h]
   rw[e] at next
   have p8:2 ^ i<256:=by
    have:2 ^ i≤2 ^ 7:=Nat.pow_le_pow_right (by omega) (by omega);omega
   have eb:IntKind.u8.wrap (2 ^ min i IntKind.u8.bits)=((2 ^ i:Nat):Int):=by
    have:min i IntKind.u8.bits=i:=Nat.min_eq_left (by show i≤8;omega);rw[this,IntKind.wrap_u8,Int.natCast_pow];have:((2:Int) ^ i)=((2 ^ i:Nat):Int):=by rw[Int.natCast_pow];rfl
    omega
   have eo:=uA ⟨i,hi⟩ ⟨HP a b i,by omega⟩ hlt;simp only at eo;simp[hi',hi,ew,kD,hb1,h0];rw[eb,eo,← Int.natCast_add];simpa[kD] using next
end
def YG (x:Int) (i:Nat):List Int:=(List.range 8).map fun j=>if j<i then B5 x j else 0
theorem LU (x:Int) (i:Nat):(YG x i).length=8:=by simp[YG]
theorem sH (x:Int):YG x 0=List.replicate 8 0:=by simp[YG];rfl
theorem tR (x:Int):YG x 8=AZ x:=by
 apply List.ext_getElem?;intro j;by_cases h:j<8
 ·rw[show(AZ x)[j]? = _ from M4 8 x j h];simp[YG,h]
 ·rw[List.getElem?_eq_none (by rw[LU];omega),List.getElem?_eq_none (by simp[AZ];omega)]
theorem w9 (x:Int) {i:Nat} (h:i<8):(YG x i).set i (B5 x i)=YG x (i+1):=by
 apply List.ext_getElem?;intro j;by_cases hj:j<8
 ·by_cases e:j=i
  ·subst e;rw[List.getElem?_set_self (by rw[LU];omega)];simp[YG,hj]
  ·rw[List.getElem?_set_ne (by omega)];simp[YG,hj];have:(j<i+1)=(j<i):=by simp;omega
   simp[this]
 ·rw[List.getElem?_eq_none (by simp[LU];omega),List.getElem?_eq_none (by rw[LU];omega)]
section
variable {n0:Nat} {w0:World} {I0:Nat→Prop} {Q:Exit→Sta→Prop}
theorem AaB {x:Int} (hx:BI x) (hq:∀ (st:List (Nat × A)) (H:Hp),H [0]=⟨1,.cells (kD (List.replicate 8 0))⟩→H [1]=⟨1,.cells (kD (AZ x))⟩→Q (.exit 0) ⟨lk ([(0,uv x),(2,.pob [0] 1 0),(3,.pob [1] 1 0)]++st),H⟩):∀ (m i:Nat) (H:Hp),i+m=8→H [0]=⟨1,.cells (kD (List.replicate 8 0))⟩→H [1]=⟨1,.cells (kD (YG x i))⟩ →
  LoopC (cx Tryz.prog w0 I0 n0) Ix Q ⟨lk [(0,uv x),(2,.pob [0] 1 0),(3,.pob [1] 1 0),(5,iv i)],H⟩:=by
 intro m;induction m with
 |zero=>
  intro i H hm h0 h1;refine Ad Ai Ix.eq_1 ?_;have:i=8:=by omega
  subst this;rw[tR] at h1;simp;exact hq [(5,iv 8),(6,bv false)] H h0 h1
 |succ m ih=>
  intro i H hm h0 h1;have hi:i<8:=by omega
  have hi':(i:Int)<8:=by omega
  have ew:=AM i;have e8:i64.wrap (8*(i:Int))=((8*i:Nat):Int):=(Av (by omega) (by omega)).trans (by omega);have b64:u64.bits=64:=rfl;have e9:(8*(i:Int)).toNat=8*i:=by omega
  have ev:IntKind.u8.wrap (x / 2 ^ min (8*i) 64)=B5 x i:=by
   rw[IntKind.wrap_u8,Nat.min_eq_left (by omega)];unfold B5;have h1:((256:Int) ^ i)=((2:Int) ^ (8*i)):=by rw[Int.pow_mul];rfl
   rw[h1]
   try rfl
  refine Ad Ai Ix.eq_1 ?_;simp[hi',hi,ew,e8,e9,b64,ev,h1,LU];refine⟨by omega,by omega,?_⟩;rw[mF (by rw[LU];omega),w9 x hi];simpa using ih (i+1) _ (by omega) (by simp[Aa,h0]) (by simp[Aa])
end
theorem gP {x:Int} (h:BI x):G.Spec Tryz.prog 217 [uv x] (.agg (kD (AZ x))):=by
 refine Ah cX (by simp) fun w0 I0=>?_;unfold SP;simp;refine LoopC.le (AE [(0,uv x),(2,.pob [0] 1 0),(3,.pob [1] 1 0),(5,iv (0:Nat))] (by simp)) ?_;refine AaB h (fun st H h0 h1=>?_) 8 0 _ rfl (by simp[Aa]) (by simp[Aa,sH]);have e:List.take 8 (kD (AZ x))=kD (AZ x):=BO (by simp[AZ]);have el:(AZ x).length=8:=by simp[AZ]
 simp[h1,h0,Aa,e,el];exact⟨by simp[A.ones],qx⟩
theorem eU {a b:Int} (ha:BI a) (hb:BI b):G.Spec Tryz.prog 173 [uv a,uv b] (u8 (EC a b)):=by
 have hu:BI (bits .xor .u64 a b):=by
  obtain⟨x,rfl⟩:∃ x:Nat,a=x:=⟨a.toNat,by unfold BI at ha;omega⟩;obtain⟨y,rfl⟩:∃ y:Nat,b=y:=⟨b.toNat,by unfold BI at hb;omega⟩;unfold BI at ha hb;rw[bits_xor_u64_nat x y (by omega) (by omega)];have:=@Nat.xor_lt_two_pow x y 64 (by omega) (by omega);unfold BI;omega
 refine Ah Zz (by simp) fun w0 I0=>?_;unfold Qd;simp;refine Ae (gP hu) (by simp) ?_;simp;refine LoopC.le (AE [(5,u8 (HP a b 0:Nat)),(11,.agg (kD (AZ (bits .xor .u64 a b)))),(12,iv (0:Nat))] (by simp[HP])) ?_;refine Ac6 ha hb (fun st=>?_) 8 0 rfl;simp;exact Ab rfl
section
variable {n0:Nat} {w0:World} {I0:Nat→Prop} {Q:Exit→Sta→Prop}
end
def zx (at_:Int) (a b:Int):WE:=⟨at_,EC a b,HN 0 a (EC a b),HN 0 b (EC a b)⟩
def WE0:WE:=⟨0,0,0,0⟩
theorem nA {i a b:Int} (ha:BI a) (hb:BI b):G.Spec Tryz.prog 117 [iv i,uv a,uv b] (.tup [wX (if EC a b=0 then WE0 else zx i a b),bv (!decide (EC a b=0))]):=by
 have hin:=eg a b;have z:BI 0:=by unfold BI;omega
 refine Ah ju (by simp) fun w0 I0=>?_;unfold U6;simp;refine Ae (eU ha hb) (by simp) ?_;by_cases h:EC a b=0
 ·simp[h];exact Ab rfl
 ·simp[h];refine Ae (OZ z ha hin.1 hin.2) (by simp) ?_;simp;refine Ae (OZ z hb hin.1 hin.2) (by simp) ?_;simp;exact Ab rfl
end Go.Proofs.YtbjmaoedheiigaaGreat
namespace Go.Proofs.YtbjmaoedheiigaaGreat
open Go Go.G Go.Proofs
theorem Mf (i:Nat) (hi:i≤64) {x:Int} (h0:0≤x) (h1:x<18446744073709551616):bits .and .u64 x (2 ^ i-1)=x % 2 ^ i:=
 bits_mask .u64 64 (by decide) (fun n a b=>Bw a b) i hi x h0 h1
theorem uu (i:Nat) {x y:Int} (hx0:0≤x) (hx:x % 2 ^ i=0) (hx1:x<18446744073709551616) (hy0:0≤y) (hy:y<2 ^ i) (hy1:y<18446744073709551616):bits .or .u64 x y=x+y:=
 bits_join .u64 64 (by decide) (fun n a b=>Bw a b) i x y hx0 hx hx1 hy0 hy hy1
theorem K5 (i:Nat) {x y:Int} (hx0:0≤x) (hx:x<2 ^ i) (hx1:x<18446744073709551616) (hy0:0≤y) (hy:y % 2 ^ i=0) (hy1:y<18446744073709551616):bits .or .u64 x y=x+y:=by
 have:bits .or .u64 x y=bits .or .u64 y x:=by simp only[bits,BitVec.or_comm]
 rw[this,uu i hy0 hy hy1 hx0 hx hx1,Int.add_comm]
theorem wR {x:Int} (h0:0≤x) (h1:x<18446744073709551616):(bits .and .u64 x 4=0) ↔ x / 4 % 2=0:=by
 obtain⟨a,rfl⟩:=Int.eq_ofNat_of_zero_le h0;have h2:=bits_and_u64_nat a 4 (by omega) (by omega);have h3:bits .and .u64 (a:Int) 4=((a &&& 4:Nat):Int):=h2;rw[h3];have h4:a &&& 4=4*(a / 4 % 2):=by
  have e:a &&& 4=(a % 8) &&& 4:=by
   rw[show a % 8=a &&& 7 from(Nat.and_two_pow_sub_one_eq_mod a 3).symm,Nat.and_assoc];rfl
  have d:∀ r,r<8→r &&& 4=4*(r / 4 % 2):=by decide
  rw[e,d _ (by omega)];omega
 rw[h4];omega
theorem vk {w:Int}:(IntKind.i32.wrap (IntKind.u32.wrap w)) / 4=PJ w:=by
 rw[IntKind.wrap_i32,IntKind.wrap_u32,PJ];split<;>omega
theorem G0 {w:Int} (h0:0≤w) (h1:w<18446744073709551616):G.Spec Tryz.prog 204 [uv w] (Ed w).a:=by
 refine Ah cI (by simp) fun w0 I0=>?_;unfold Rx;simp[aA];have e3:bits .and .u64 w 3=w % 4:=Mf 2 (by decide) h0 h1;have e1:i64.wrap (bits .and .u64 (w / 2 ^ min 32 u64.bits) 65535)=w / 4294967296 % 65536:=by
  rw[show w / 2 ^ min 32 u64.bits=w / 4294967296 from rfl,show bits .and .u64 (w / 4294967296) 65535=w / 4294967296 % 65536 from Mf 16 (by decide) (by omega) (by omega)];exact Av (by omega) (by omega)
 have e2:i64.wrap (w / 2 ^ min 48 u64.bits)=w / 281474976710656:=by
  rw[show w / 2 ^ min 48 u64.bits=w / 281474976710656 from rfl];exact Av (by omega) (by omega)
 have e4:i64.wrap (bits .and .u64 (w / 2 ^ min 32 u64.bits) 7)=w / 4294967296 % 8:=by
  rw[show w / 2 ^ min 32 u64.bits=w / 4294967296 from rfl,show bits .and .u64 (w / 4294967296) 7=w / 4294967296 % 8 from Mf 3 (by decide) (by omega) (by omega)];exact Av (by omega) (by omega)
 have e5:i64.wrap (w / 2 ^ min 35 u64.bits)=w / 34359738368:=by
  rw[show w / 2 ^ min 35 u64.bits=w / 34359738368 from rfl];exact Av (by omega) (by omega)
 have e6:i64.wrap (bits .and .u64 (w / 2 ^ min 3 u64.bits) 536870911)=w / 8 % 536870912:=by
  rw[show w / 2 ^ min 3 u64.bits=w / 8 from rfl,show bits .and .u64 (w / 8) 536870911=w / 8 % 536870912 from Mf 29 (by decide) (by omega) (by omega)];exact Av (by omega) (by omega)
 have e7:i64.wrap (w / 2 ^ min 32 u64.bits)=w / 4294967296:=by
  rw[show w / 2 ^ min 32 u64.bits=w / 4294967296 from rfl];exact Av (by omega) (by omega)
 have e8:(!decide (bits .and .u64 w 4=0))=decide (w / 4 % 2=1):=by
  have:=wR h0 h1;by_cases h:w / 4 % 2=1
  ·rw[decide_eq_true h,decide_eq_false (by rw[this];omega)];rfl
  ·rw[decide_eq_false h,decide_eq_true (by rw[this];omega)];rfl
 have e9:i64.wrap (IntKind.i32.wrap (IntKind.u32.wrap w)) / 2 ^ min 2 i64.bits=PJ w:=by
  rw[← vk,IntKind.wrap_i32,Av (by omega) (by omega)];rfl
 rw[e1,e2,e3,e4,e5,e6,e7,e8,e9];refine⟨fun h=>?_,fun h=>⟨fun h2=>?_,fun h2=>⟨fun h3=>?_,fun h3=>⟨fun h4=>?_,fun h4=>?_⟩⟩⟩⟩
 ·subst h;exact Ab rfl
 ·rw[show Ed w=_ from(if_neg h).trans (if_pos h2)];exact Ab rfl
 ·rw[show Ed w=_ from(if_neg h).trans ((if_neg h2).trans (if_pos h3))];exact Ab rfl
 ·rw[show Ed w=_ from(if_neg h).trans ((if_neg h2).trans ((if_neg h3).trans (if_pos h4)))];exact Ab rfl
 ·rw[show Ed w=_ from(if_neg h).trans ((if_neg h2).trans ((if_neg h3).trans (if_neg h4)))];exact Ab rfl
theorem yZ {x:Int} (h0:0≤x) (h1:x<18446744073709551616) (h2:x % 8<4):bits .or .u64 x 4=x+4:=by
 obtain⟨a,rfl⟩:=Int.eq_ofNat_of_zero_le h0;have h3:bits .or .u64 (a:Int) 4=((a ||| 4:Nat):Int):=bits_or_u64_nat a 4 (by omega) (by omega);rw[h3];have h4:a=2 ^ 3*(a / 8)+a % 8:=by omega
 have h5:a ||| 4=a+4:=by
  have e1:2 ^ 3*(a / 8)+a % 8=2 ^ 3*(a / 8) ||| a % 8:=Nat.two_pow_add_eq_or_of_lt (by omega) _;have d:∀ r,r<4→(r ||| 4)=r+4∧r ||| 4<8:=by decide
  obtain⟨d1,d2⟩:=d (a % 8) (by omega);have e2:2 ^ 3*(a / 8)+(a % 8 ||| 4)=2 ^ 3*(a / 8) ||| (a % 8 ||| 4):=Nat.two_pow_add_eq_or_of_lt (by omega) _;have e3:a ||| 4=2 ^ 3*(a / 8) ||| (a % 8 ||| 4):=by rw[← Nat.or_assoc,← e1,← h4]
  rw[e3,← e2,d1];omega
 rw[h5];rfl
theorem p6 (w:Int):-536870912≤PJ w∧PJ w<536870912∧PJ w*4 % 4294967296=w / 4 % 1073741824*4:=by
 unfold PJ;split<;>omega
theorem jL {a b:Int} (ha:-536870912≤a) (ha1:a<536870912) (hb:0≤b) (hb1:b<4):G.Spec Tryz.prog 226 [iv a,iv b] (uv (a*4 % 4294967296+b)):=by
 refine Ah qA (by simp) fun w0 I0=>?_;unfold aQ;simp[aA];have e1:IntKind.u32.wrap (IntKind.u32.wrap a*2 ^ min 2 IntKind.u32.bits)=a*4 % 4294967296:=by
  rw[show IntKind.u32.wrap a*2 ^ min 2 IntKind.u32.bits=IntKind.u32.wrap a*4 from rfl,IntKind.wrap_u32,IntKind.wrap_u32];omega
 have e2:IntKind.u32.wrap b=b:=by rw[IntKind.wrap_u32];omega
 have e3:bits .or .u32 (a*4 % 4294967296) b=a*4 % 4294967296+b:=
  bits_join .u32 32 (by decide) (fun n h0 h1=>by rw[IntKind.wrap_u32];omega) 2 _ _ (by omega) (by omega) (by omega) hb (by omega) (by omega)
 rw[e1,e2,e3,Bw (by omega) (by omega)];exact Ab rfl
def EU (p:Pt):Int:=
 if p.kind=1 then if -536870912≤p.off∧p.off<536870912∧0≤p.data∧p.data≤65535∧0≤p.ptrs∧p.ptrs≤65535 then p.off*4 % 4294967296+p.data*4294967296+p.ptrs*281474976710656 else 0
 else if p.kind=2 then if -536870912≤p.off∧p.off<536870912∧0≤p.code∧p.code≤7∧0≤p.count∧p.count≤536870911 then p.off*4 % 4294967296+1+p.code*4294967296+p.count*34359738368 else 0
 else if p.kind=3 then if 0≤p.off∧p.off≤536870911∧0≤p.seg∧p.seg≤4294967295 then p.off*8+2+p.seg*4294967296+(if p.dbl=true then 4 else 0) else 0
 else 0
def Qp (p:Pt):Bool:=decide (Ed (EU p)=p)&&!decide (p.kind=4)
theorem AhV (q p:Pt):(q.kind == p.kind&&(q.off == p.off&&(q.data == p.data&&(q.ptrs == p.ptrs&&(q.code == p.code&&(q.count == p.count&&(q.seg == p.seg&&q.dbl == p.dbl)))))))=decide (q=p):=by
 obtain⟨a1,a2,a3,a4,a5,a6,a7,a8⟩:=q;obtain⟨b1,b2,b3,b4,b5,b6,b7,b8⟩:=p;rw[Bool.eq_iff_iff];simp
theorem X5 (p:Pt):0≤EU p∧EU p<18446744073709551616:=by
 unfold EU
 repeat' split
 all_goals omega
theorem G5 {n:Nat} {w0:World} {I0:Nat→Prop} {p:Pt} {W:Int} (hW:W=EU p):WPC (cx Tryz.prog w0 I0 n) Ly (QU Tryz.prog [.tmp 2,.tmp 3] (.tup [uv (EU p),bv (Qp p)]))
  ⟨lk [(1,.pob [0] 1 0),(4,uv W),(93,.any),(94,.any),(95,.any)],FA [([0],⟨1,.cells [iv p.kind,iv p.off,iv p.data,iv p.ptrs,iv p.code,iv p.count,iv p.seg,bv p.dbl]⟩)]⟩:=by
 subst hW;unfold Ly;simp;refine Ae (G0 (X5 p).1 (X5 p).2) rfl ?_;simp;rw[AhV];exact Ab rfl
theorem Ic {n:Int} (h0:0≤n) (h1:n<18446744073709551616) (k:Nat) (h2:n*2 ^ k<18446744073709551616) (hk:k≤63):u64.wrap (u64.wrap n*2 ^ min k u64.bits)=n*2 ^ k:=by
 have:(0:Int)<2 ^ k:=Int.pow_pos (by decide);rw[show min k u64.bits=k from by simp[IntKind.bits];omega,Bw h0 h1,Bw (Int.mul_nonneg h0 (by omega)) h2]
theorem UW (p:Pt):G.Spec Tryz.prog 184 [p.a] (.tup [uv (EU p),bv (Qp p)]):=by
 refine Ah de (by simp) fun w0 I0=>?_;unfold SU;simp;refine⟨fun h=>?_,fun h=>⟨fun h2=>?_,fun h2=>⟨fun h3=>?_,fun h3=>?_⟩⟩⟩
 ·refine Ae (ba _) rfl ?_;simp;refine Bc rfl (fun _=>Ep p.data 65535) (fun e=>by simp[e]) rfl ?_;simp;refine Bc rfl (fun _=>Ep p.ptrs 65535) (fun e=>by simp[e]) rfl ?_;simp;refine⟨fun a1 a2 a3 a4 a5 a6=>?_,fun hn=>?_⟩
  ·refine Ae (jL a1 a2 (by decide) (by decide)) rfl ?_
   try simp
   refine G5 ?_;rw[Ic a3 (by omega) 32 (by omega) (by decide),Ic a5 (by omega) 48 (by omega) (by decide)];rw[show bits .or .u64 (p.off*4 % 4294967296) (p.data*2 ^ 32)=p.off*4 % 4294967296+p.data*2 ^ 32 from K5 32 (by omega) (by omega) (by omega) (by omega) (by omega) (by omega)];rw[show bits .or .u64 (p.off*4 % 4294967296+p.data*2 ^ 32) (p.ptrs*2 ^ 48)=p.off*4 % 4294967296+p.data*2 ^ 32+p.ptrs*2 ^ 48 from K5 48 (by omega) (by omega) (by omega) (by omega) (by omega) (by omega)];rw[EU,if_pos h,if_pos ⟨a1,a2,a3,a4,a5,a6⟩];rfl
  ·refine G5 ?_;rw[EU,if_pos h,if_neg (by omega)]
 ·refine Ae (ba _) rfl ?_;simp;refine Bc rfl (fun _=>Ep p.code 7) (fun e=>by simp[e]) rfl ?_;simp;refine Bc rfl (fun _=>Ep p.count 536870911) (fun e=>by simp[e]) rfl ?_;simp;refine⟨fun a1 a2 a3 a4 a5 a6=>?_,fun hn=>?_⟩
  ·refine Ae (jL a1 a2 (by decide) (by decide)) rfl ?_
   try simp
   refine G5 ?_;rw[Ic a3 (by omega) 32 (by omega) (by decide),Ic a5 (by omega) 35 (by omega) (by decide)];rw[show bits .or .u64 (p.off*4 % 4294967296+1) (p.code*2 ^ 32)=p.off*4 % 4294967296+1+p.code*2 ^ 32 from K5 32 (by omega) (by omega) (by omega) (by omega) (by omega) (by omega)];rw[show bits .or .u64 (p.off*4 % 4294967296+1+p.code*2 ^ 32) (p.count*2 ^ 35)=p.off*4 % 4294967296+1+p.code*2 ^ 32+p.count*2 ^ 35 from K5 35 (by omega) (by omega) (by omega) (by omega) (by omega) (by omega)];rw[EU,if_neg h,if_pos h2,if_pos ⟨a1,a2,a3,a4,a5,a6⟩];rfl
  ·refine G5 ?_;rw[EU,if_neg h,if_pos h2,if_neg (by omega)]
 ·refine Ae (Ep _ 536870911) rfl ?_;simp;refine Bc rfl (fun _=>Ep p.seg 4294967295) (fun e=>by simp[e]) rfl ?_;simp;refine⟨fun a1 a2 a3 a4=>?_,fun hn=>?_⟩
  ·try simp
   rw[Ic a1 (by omega) 3 (by omega) (by decide),Ic a3 (by omega) 32 (by omega) (by decide)];rw[show bits .or .u64 (p.off*2 ^ 3) 2=p.off*2 ^ 3+2 from uu 3 (by omega) (by omega) (by omega) (by omega) (by omega) (by omega)];rw[show bits .or .u64 (p.off*2 ^ 3+2) (p.seg*2 ^ 32)=p.off*2 ^ 3+2+p.seg*2 ^ 32 from K5 32 (by omega) (by omega) (by omega) (by omega) (by omega) (by omega)];rw[yZ (by omega) (by omega) (by omega)];have e:EU p=p.off*8+2+p.seg*4294967296+(if p.dbl=true then 4 else 0):=by
    rw[EU,if_neg h,if_neg h2,if_pos h3,if_pos ⟨a1,a2,a3,a4⟩]
   cases hd:p.dbl with
   |true=>
    rw[hd] at e;simp;have:=G5 (n:=97) (w0:=w0) (I0:=I0) (p:=p) (W:=p.off*2 ^ 3+2+p.seg*2 ^ 32+4) (by rw[e];rfl);rw[hd] at this;exact this
   |false=>
    rw[hd] at e;simp;have:=G5 (n:=97) (w0:=w0) (I0:=I0) (p:=p) (W:=p.off*2 ^ 3+2+p.seg*2 ^ 32) (by rw[e];simp);rw[hd] at this;exact this
  ·refine G5 ?_;rw[EU,if_neg h,if_neg h2,if_pos h3,if_neg (by omega)]
 ·refine G5 ?_;rw[EU,if_neg h,if_neg h2,if_neg h3]
abbrev ws (l:List Int):A:=.sl false (l.map uv)
abbrev sgs (l:List (List Int)):A:=.sl false (l.map ws)
theorem Qq (f:Bool) (l:List Int) (h:l.length*8≤140737488355328):SpecB Tryz.prog 63 [.sl f (l.map uv)] (ws l):=by
 cases l with
 |nil=>
  refine qM (fun cap=>?_) (fun a cap=>?_)
  ·refine R5 C8 (by simp) fun w0 I0=>?_;unfold Cc;simp;exact yg
  ·refine R5 C8 (by simp) fun w0 I0=>?_;unfold Cc;simp;exact W5 (sz:=1) (xs:=[]) (by simp) (by simp) (by simp)
 |cons x l=>
  refine R5 C8 (by simp) fun w0 I0=>?_;unfold Cc;simp at h ⊢;refine⟨h,?_⟩;have:=W5 (H:=FA [([0],{ u:=1,ob:=Ob.arr 1 (uv x::l.map uv) })]) (o:=[0]) (u:=1) (off:=0) (len:=l.length+1) (sz:=1) (xs:=uv x::l.map uv) (by simp) (by simp) (by simp[A.flat1,BO]);simp[BO] at this;exact this
theorem yU {n:Nat} {w0:World} {I0:Nat→Prop} {Q:Exit→Sta→Prop} {l:List (List Int)} (hl:l.length*24≤140737488355328) (hb:∀ x,x ∈ l→x.length*8≤140737488355328):∀ (k i u:Nat),i+k=l.length →
  (∀ u',Q (.exit 0) ⟨lk [(3,.pob [0] 1 0),(8,sgs l),(9,iv l.length),(10,iv l.length),(11,bv false)],FA [([0],⟨1,.cells [.osl [1] u' 1 0 l.length,iv 0,iv 0,iv 0]⟩),([1],⟨u',.arr 1 (l.map ws)⟩)]⟩) →
  LoopC (cx Tryz.prog w0 I0 n) KS Q ⟨lk [(3,.pob [0] 1 0),(8,sgs l),(9,iv l.length),(10,iv i)],FA [([0],⟨1,.cells [.osl [1] u 1 0 i,iv 0,iv 0,iv 0]⟩),([1],⟨u,.arr 1 ((l.map ws).take i)⟩)]⟩:=by
 intro k;induction k with
 |zero=>
  intro i u hi hq;have:i=l.length:=by omega
  subst this;refine Ad Ai KS.eq_1 ?_;simp;simpa[BO] using hq u
 |succ k ih=>
  intro i u hi hq;have hlt:i<l.length:=by omega
  refine Ad Ai KS.eq_1 ?_;simp[hlt];refine Ae (Qq false _ (hb _ (A5 _))).spec rfl ?_;simp;have h24:(i+1)*24≤140737488355328:=by omega
  refine⟨⟨by omega,h24⟩,?_⟩;rw[Av (by omega) (by omega)];have:=ih (i+1) (u+1) (by omega) hq;rw[Ij (by simpa using hlt)] at this;simpa[List.take_take] using this
abbrev arX (l:List (List Int)) (z m u:Int):A:=.pim [sgs l,iv z,iv m,iv u]
abbrev tt (l:List (List Int)):A:=arX l 0 0 0
theorem z9 {H:Hp} {o:Nm} {u n:Nat} {l:List (List Int)} (h:vr (H o) u=some (1,l.map ws)) (hn:n=l.length):K6 H (.osl o u 1 0 n) (sgs l):=by
 subst hn;have:=dM (H:=H) (o:=o) (u:=u) (off:=0) (len:=l.length) (sz:=1) (xs:=l.map ws) (by simpa using h) (by simp) (by simp[BO]);simp[BO] at this;exact this
theorem oJ (l:List (List Int)) (hl:l.length*24≤140737488355328) (hb:∀ x,x ∈ l→x.length*8≤140737488355328):G.Spec Tryz.prog 43 [sgs l] (tt l):=by
 refine Ah kO (by simp) fun w0 I0=>?_;unfold Y2;simp;refine LoopC.le (B9 (d:=[0]) 0 [1] 1 rfl rfl (by simp)) ?_;simp;refine yU hl hb l.length 0 1 (by omega) (fun u'=>?_);simp;refine o7 (by simp;rfl) ?_ (by simp);simp;exact⟨z9 (by simp) rfl,Ab rfl⟩
theorem gQ {z m u:Int} (l:List (List Int)):G.Spec Tryz.prog 257 [arX l z m u] (iv l.length):=by
 refine Ah Ta (by simp) fun w0 I0=>?_;unfold Ll;simp;exact Ab rfl
def seg (l:List (List Int)) (s:Int):Option (List Int):=if 0≤s then l[s.toNat]? else none
def szAt (l:List (List Int)) (s:Int):Nat:=((seg l s).map List.length).getD 0
theorem W3 {l:List (List Int)} {s:Int} (h0:0≤s) (h1:s<l.length):∃ h:s.toNat<l.length,seg l s=some l[s.toNat]:=by
 have:s.toNat<l.length:=by omega
 exact⟨this,by simp[seg,h0,this]⟩
theorem zz {l:List (List Int)} {s:Int} (h:s<0∨l.length≤s):seg l s=none:=by
 unfold seg;split
 ·rw[List.getElem?_eq_none_iff];omega
 ·rfl
theorem L3 {l:List (List Int)} {s:Int} {g:List Int} (h:seg l s=some g):0≤s∧s<l.length∧∃ h:s.toNat<l.length,g=l[s.toNat]:=by
 unfold seg at h;split at h
 ·obtain⟨h1,h2⟩:=List.getElem?_eq_some_iff.1 h;exact⟨by assumption,by omega,h1,h2.symm⟩
 ·cases h
theorem rS {z m u:Int} (l:List (List Int)) (s:Int):G.Spec Tryz.prog 256 [arX l z m u,iv s] (iv (szAt l s)):=by
 refine Ah QM (by simp) fun w0 I0=>?_;unfold Km;simp;refine Cf rfl (fun _=>gQ (z:=z) (m:=m) (u:=u) l) (fun e=>by simp[e]) rfl ?_;simp;refine⟨fun h=>?_,fun h0 h1=>?_⟩
 ·rw[szAt,zz h];exact Ab rfl
 ·obtain⟨h2,e1⟩:=W3 h0 h1;simp[h0,h1,h2];rw[szAt,e1];exact DY rfl
def Ie (l:List (List Int)) (s a n:Int):Bool:=decide (0≤s∧s<l.length∧0≤a∧0≤n∧a+n≤szAt l s)
theorem YO {z m u:Int} (l:List (List Int)) (hb:∀ x,x ∈ l→x.length*8≤140737488355328) (s a n:Int):G.Spec Tryz.prog 234 [arX l z m u,iv s,iv a,iv n] (bv (Ie l s a n)):=by
 have hz:szAt l s*8≤140737488355328:=by
  unfold szAt;cases h:seg l s with
  |none=>simp
  |some g=>
   obtain⟨_,_,h2,rfl⟩:=L3 h;simpa using hb _ (A5 h2)
 refine Ah Sv (by simp) fun w0 I0=>?_;unfold KJ;simp;refine Ae (rS l s) rfl ?_;simp;refine Bc rfl (fun _=>gQ (z:=z) (m:=m) (u:=u) l) (fun e=>by simp[e]) rfl ?_;simp;refine Ak ?_;rw[Bool.eq_iff_iff];simp only[Bool.and_eq_true,decide_eq_true_eq,Ie];constructor
 ·rintro⟨⟨⟨⟨⟨h1,h2⟩,h3⟩,h4⟩,h5⟩,h6⟩;rw[Av (by omega) (by omega)] at h6;omega
 ·rintro⟨h1,h2,h3,h4,h5⟩;rw[Av (by omega) (by omega)];omega
def Df (l:List (List Int)) (s a:Int):Option Int:=if 0≤a then (seg l s).bind fun g=>g[a.toNat]? else none
theorem Xf {l:List (List Int)} {s a:Int}:Ie l s a 1=(Df l s a).isSome:=by
 rw[Bool.eq_iff_iff];simp only[Ie,decide_eq_true_eq];simp only[Df,szAt];constructor
 ·rintro⟨h1,h2,h3,h4,h5⟩;obtain⟨h6,e1⟩:=W3 h1 h2;rw[e1] at h5;simp at h5;simp[h3,e1];omega
 ·intro h;split at h
  ·rename_i h3;cases e:seg l s with
   |none=>simp[e] at h
   |some g=>
    obtain⟨k1,k2,_⟩:=L3 e;simp[e] at h;simp;omega
  ·simp at h
theorem LY {l:List (List Int)} {s a x:Int} (h:Df l s a=some x):0≤s∧s<l.length∧0≤a∧∃ (h1:s.toNat<l.length) (h2:a.toNat<l[s.toNat].length),x=l[s.toNat][a.toNat]:=by
 unfold Df at h;split at h
 ·rename_i h3;cases e:seg l s with
  |none=>simp[e] at h
  |some g=>
   obtain⟨k1,k2,k3,rfl⟩:=L3 e;simp only[e,Option.bind_some] at h;obtain⟨h1,h2⟩:=List.getElem?_eq_some_iff.1 h;exact⟨k1,k2,h3,k3,h1,h2.symm⟩
 ·cases h
theorem OM {z m u:Int} (l:List (List Int)) (hb:∀ x,x ∈ l→x.length*8≤140737488355328) (s a:Int):G.Spec Tryz.prog 198 [arX l z m u,iv s,iv a] (.tup [uv ((Df l s a).getD 0),bv (Df l s a).isSome]):=by
 refine Ah Rp (by simp) fun w0 I0=>?_;unfold KF;simp;refine Ae (YO l hb s a 1) rfl ?_;simp[Xf];cases h:Df l s a with
 |none=>
  simp;exact Ab rfl
 |some x=>
  obtain⟨k1,k2,k3,k4,k5,rfl⟩:=LY h;have k6:a<l[s.toNat].length:=by omega
  simp[k1,k2,k3,k4,k5,k6];exact Ab rfl
def part (l:List (List Int)) (s a n:Int):List Int:=(((seg l s).getD []).drop a.toNat).take n.toNat
theorem V7 {l:List (List Int)} {s a n:Int} (h:Ie l s a n=true):0≤s∧s<l.length∧0≤a∧0≤n∧∃ h:s.toNat<l.length,seg l s=some l[s.toNat]∧a+n≤l[s.toNat].length:=by
 simp only[Ie,decide_eq_true_eq] at h;obtain⟨h1,h2,h3,h4,h5⟩:=h;obtain⟨h6,e1⟩:=W3 h1 h2;rw[szAt,e1] at h5;exact⟨h1,h2,h3,h4,h6,e1,h5⟩
theorem q8 {z m u:Int} (l:List (List Int)) (hb:∀ x,x ∈ l→x.length*8≤140737488355328) (s a n:Int):G.Spec Tryz.prog 245 [arX l z m u,iv s,iv a,iv n] (if Ie l s a n=true then .tup [ws (part l s a n),bv true] else .tup [ws [],bv false]):=by
 refine Ah Qr (by simp) fun w0 I0=>?_;unfold Ks;simp;refine Ae (YO l hb s a n) rfl ?_;cases h:Ie l s a n with
 |false=>
  simp;refine CY ?_;simp;exact⟨Au,Ab rfl⟩
 |true=>
  obtain⟨h1,h2,h3,h4,h5,e1,h6⟩:=V7 h;have hg:=hb _ (A5 h5);simp[h1,h2,h5];rw[Av (by omega) (by omega)];have h7:0≤a+n:=by omega
  have h8:a≤max (a+n) 0:=by omega
  simp[h3,h6,h7,h4,h8];have e:List.take ((a+n).toNat-a.toNat) (List.drop a.toNat (List.map uv l[s.toNat]))=(part l s a n).map uv:=by
   rw[part,e1,show(a+n).toNat-a.toNat=n.toNat from by omega];simp
  rw[e];have hl:(part l s a n).length*8≤140737488355328:=by
   rw[part,e1];simp;omega
  refine Ae (Qq _ _ hl).spec rfl ?_;simp;exact Ab rfl
def Jg (c:Int):Int:=if c=0 then 0 else if c=1 then 1 else if c=2 then 8 else if c=3 then 16 else if c=4 then 32 else 64
def E7 (p:Pt):Option Int:=
 if p.kind=1 then some (p.data+p.ptrs)
 else if p.kind=2∧p.code=7 then some (p.count+1)
 else if p.kind=2∧0≤p.code∧p.code≤6∧0≤p.count∧p.count≤536870911 then some ((p.count*Jg p.code+63) / 64)
 else none
def wP (p:Pt):Prop:=-9223372036854775808≤p.data+p.ptrs∧p.data+p.ptrs<9223372036854775808∧-9223372036854775808≤p.count+1∧p.count+1<9223372036854775808
set_option maxRecDepth 8000 in
theorem mq (p:Pt) (hs:wP p):G.Spec Tryz.prog 267 [p.a] (.tup [iv ((E7 p).getD 0),bv (E7 p).isSome]):=by
 obtain⟨s1,s2,s3,s4⟩:=hs;refine Ah VL (by simp) fun w0 I0=>?_;unfold Nt;simp;refine⟨fun h=>?_,fun h=>⟨fun h2 h3=>?_,fun h2=>?_⟩⟩
 ·rw[Av s1 s2];refine AW rfl ?_;simp[E7,h]
 ·rw[Av s3 s4];refine AW rfl ?_;simp[E7,h,h2,h3]
 ·refine Bc rfl (fun _=>Ep p.code 6) (fun e=>by simp[e]) rfl ?_;simp;refine Bc rfl (fun _=>Ep p.count 536870911) (fun e=>by simp[e]) rfl ?_;simp;refine⟨fun a1 a2 a3 a4 a5=>?_,fun hn=>?_⟩
  ·obtain⟨k,o,d,q,co,n,sg,b⟩:=p;simp only at *;have hc:co=0∨co=1∨co=2∨co=3∨co=4∨co=5∨co=6:=by omega
   rcases hc with rfl | rfl | rfl | rfl | rfl | rfl | rfl;all_goals
    simp;simp (disch:=omega) only[Av,Int.tdiv_eq_ediv_of_nonneg];refine AW rfl ?_;simp[E7,a1,a4,a5,Jg]
  ·refine AW rfl ?_;have e:E7 p=none:=by
    rw[E7,if_neg h,if_neg (fun ⟨h3,h4⟩=>h2 h3 h4),if_neg (fun ⟨b1,b2,b3,b4,b5⟩=>by have:=hn b1 b2 b3 b4;omega)]
   simp[e]
structure Lc where
 p:Pt
 s:Int
 at_:Int
deriving DecidableEq
def Pt.l (p:Pt):List A:=[iv p.kind,iv p.off,iv p.data,iv p.ptrs,iv p.code,iv p.count,iv p.seg,bv p.dbl]
def Pt.zero:Pt:=⟨0,0,0,0,0,0,0,false⟩
def Lc.zero:Lc:=⟨Pt.zero,0,0⟩
abbrev Lc.a (x:Lc):A:=.agg [iv x.p.kind,iv x.p.off,iv x.p.data,iv x.p.ptrs,iv x.p.code,iv x.p.count,iv x.p.seg,bv x.p.dbl,iv x.s,iv x.at_]
def Hx (l:List (List Int)) (x:Lc):Lc × Int:=if Ie l x.s x.at_ ((E7 x.p).getD 0)=true then (⟨{ x.p with off:=0 },x.s,x.at_⟩,0) else (Lc.zero,7)
theorem Oy (l:List (List Int)) (hb:∀ x,x ∈ l→x.length*8≤140737488355328) (x:Lc) (hs:wP x.p):G.Spec Tryz.prog 244 [tt l,x.a] (.tup [(Hx l x).1.a,iv (Hx l x).2]):=by
 refine Ah fj (by simp) fun w0 I0=>?_;unfold Rz;simp;refine Ae (mq x.p hs) rfl ?_;simp;refine Ae (YO l hb _ _ _) rfl ?_;simp;refine⟨fun h=>?_,fun h=>?_⟩
 ·refine AW rfl ?_;simp[Hx,h]
 ·refine AW rfl ?_;simp[Hx,h,Lc.zero,Pt.zero]
def L9 (l:List (List Int)) (p:Pt) (s a:Int):Lc × Int:=
 if p.kind=1∨p.kind=2 then Hx l ⟨p,s,a+1+p.off⟩ else if p.kind=4 then (Lc.zero,9) else (Lc.zero,8)
theorem P2 (l:List (List Int)) (hb:∀ x,x ∈ l→x.length*8≤140737488355328) (p:Pt) (s a:Int) (hs:wP p) (h1:-1000000000000000000≤a) (h2:a≤1000000000000000000) (h3:-1000000000000000000≤p.off) (h4:p.off≤1000000000000000000) :
  G.Spec Tryz.prog 205 [tt l,p.a,iv s,iv a] (.tup [(L9 l p s a).1.a,iv (L9 l p s a).2]):=by
 refine Ah kH (by simp) fun w0 I0=>?_;unfold Y5;simp;have go:p.kind=1∨p.kind=2→L9 l p s a=Hx l ⟨p,s,a+1+p.off⟩:=fun h=>by rw[L9,if_pos h]
 refine⟨fun h=>?_,fun h=>?_⟩
 ·have hd:decide (p.kind=1)=true:=by simp[h]
  rw[OB.eq_1];simp[hd];simp (disch:=omega) only[Av];refine Ae (Oy l hb ⟨p,s,a+1+p.off⟩ hs) rfl ?_;simp;rw[go (.inl h)];exact Ab rfl
 ·rw[OB.eq_1];simp;refine⟨fun h2=>?_,fun h2=>⟨fun h4=>?_,fun h4=>?_⟩⟩
  ·simp (disch:=omega) only[Av];refine Ae (Oy l hb ⟨p,s,a+1+p.off⟩ hs) rfl ?_;simp;rw[go (.inr h2)];exact Ab rfl
  ·refine AW rfl ?_;simp[L9,h4,Lc.zero,Pt.zero]
  ·refine AW rfl ?_;simp[L9,h,h2,h4,Lc.zero,Pt.zero]
def gC (l:List (List Int)):Prop:=∀ x,x ∈ l→∀ y,y ∈ x→0≤y∧y<18446744073709551616
theorem YA {w:Int} (h0:0≤w) (h1:w<18446744073709551616):wP (Ed w):=by
 unfold wP Ed
 repeat' split
 all_goals simp only
 all_goals omega
theorem V2 {w:Int} (h0:0≤w) (h1:w<18446744073709551616):-536870912≤(Ed w).off∧(Ed w).off≤536870912∧0≤(Ed w).seg∧(Ed w).seg<4294967296:=by
 obtain⟨o1,o2,_⟩:=p6 w;unfold Ed
 repeat' split
 all_goals simp only
 all_goals omega
theorem HE {l:List (List Int)} (hw:gC l) {s a x:Int} (h:Df l s a=some x):0≤x∧x<18446744073709551616:=by
 obtain⟨_,_,_,h1,h2,rfl⟩:=LY h;exact hw _ (A5 h1) _ (A5 h2)
def Iw (l:List (List Int)) (s a:Int):Lc × Int:=
 match Df l s a,Df l s (a+1) with
 |some v,some w=>
  if (Ed v).kind ≠ 3∨(Ed v).dbl=true then (Lc.zero,8)
  else if (Ed w).kind=4 then (Lc.zero,9)
  else if ((Ed w).kind ≠ 1∧(Ed w).kind ≠ 2)∨(Ed w).off ≠ 0 then (Lc.zero,8)
  else Hx l ⟨Ed w,(Ed v).seg,(Ed v).off⟩
 |_,_=>(Lc.zero,7)
theorem uL {l:List (List Int)} {s a:Int}:Ie l s a 2=((Df l s a).isSome&&(Df l s (a+1)).isSome):=by
 rw[← Xf,← Xf,Bool.eq_iff_iff];simp only[Ie,Bool.and_eq_true,decide_eq_true_eq];omega
theorem xQ {l:List (List Int)} {s a v w:Int} (h1:Df l s a=some v) (h2:Df l s (a+1)=some w):part l s a 2=[v,w]:=by
 obtain⟨k1,k2,k3,k4,k5,rfl⟩:=LY h1;obtain⟨_,_,k6,_,k7,rfl⟩:=LY h2;obtain⟨_,e⟩:=W3 k1 k2;have e1:(a+1).toNat=a.toNat+1:=by omega
 simp only[e1] at k7;rw[part,e];simp only[Option.getD_some,e1];rw[List.drop_eq_getElem_cons k5,List.drop_eq_getElem_cons k7];rfl
theorem fR (l:List (List Int)) (hb:∀ x,x ∈ l→x.length*8≤140737488355328) (hw:gC l) (s a:Int) :
  G.Spec Tryz.prog 206 [tt l,iv s,iv a] (.tup [(Iw l s a).1.a,iv (Iw l s a).2]):=by
 refine Ah dz (by simp) fun w0 I0=>?_;unfold RY;simp;refine Ae (q8 l hb s a 2) rfl ?_;rw[uL];cases h1:Df l s a with
 |none=>
  simp;refine AW rfl ?_;simp[Iw,h1,Lc.zero,Pt.zero]
 |some v=>
  cases h2:Df l s (a+1) with
  |none=>
   simp;refine AW rfl ?_;simp[Iw,h1,h2,Lc.zero,Pt.zero]
  |some w=>
   obtain⟨v0,v1⟩:=HE hw h1;obtain⟨w0',w1⟩:=HE hw h2;rw[xQ h1 h2];simp;refine Ae (G0 v0 v1) rfl ?_;simp;refine Ae (G0 w0' w1) rfl ?_;simp;have hs:=YA w0' w1;generalize hv:Ed v=p;generalize hq:Ed w=q at hs;have e:Iw l s a=if p.kind ≠ 3∨p.dbl=true then (Lc.zero,8) else if q.kind=4 then (Lc.zero,9) else if (q.kind ≠ 1∧q.kind ≠ 2)∨q.off ≠ 0 then (Lc.zero,8) else Hx l ⟨q,p.seg,p.off⟩:=by
    simp only[Iw,h1,h2,hv,hq]
   refine⟨fun h=>?_,fun a1 a2=>⟨fun h3=>?_,fun h3=>⟨fun h4=>?_,fun h4 h5=>?_⟩⟩⟩
   ·rw[e,if_pos h];exact Ab rfl
   ·rw[e,if_neg (by simp[a1,a2]),if_pos h3];exact Ab rfl
   ·rw[e,if_neg (by simp[a1,a2]),if_neg h3,if_pos (by simpa using h4)];exact Ab rfl
   ·refine Ae (Oy l hb ⟨q,p.seg,p.off⟩ hs) rfl ?_;simp;rw[e,if_neg (by simp[a1,a2]),if_neg h3,if_neg (by simp[h5];omega)];exact Ab rfl
def Eg (l:List (List Int)) (s a:Int):Lc × Int:=
 match Df l s a with
 |none=>(Lc.zero,7)
 |some w=>
  if (Ed w).kind=0 then (Lc.zero,0)
  else if (Ed w).kind ≠ 3 then L9 l (Ed w) s a
  else if (Ed w).dbl=true then Iw l (Ed w).seg (Ed w).off
  else match Df l (Ed w).seg (Ed w).off with
   |none=>(Lc.zero,7)
   |some v=>L9 l (Ed v) (Ed w).seg (Ed w).off
theorem iT (l:List (List Int)) (hb:∀ x,x ∈ l→x.length*8≤140737488355328) (hw:gC l) (s a:Int) :
  G.Spec Tryz.prog 157 [tt l,iv s,iv a] (.tup [(Eg l s a).1.a,iv (Eg l s a).2]):=by
 refine Ah bG (by simp) fun w0 I0=>?_;unfold SI;simp;refine Ae (OM l hb s a) rfl ?_;simp;cases h1:Df l s a with
 |none=>
  simp;refine AW rfl ?_;simp[Eg,h1,Lc.zero,Pt.zero]
 |some w=>
  obtain⟨k1,k2,k3,k4,k5,_⟩:=LY h1;have hla:=hb _ (A5 k4);obtain⟨v0,v1⟩:=HE hw h1;simp;refine Ae (G0 v0 v1) rfl ?_;simp;have hs:=YA v0 v1;obtain⟨o1,o2,o3,o4⟩:=V2 v0 v1;generalize hv:Ed w=p at *;have e:Eg l s a=if p.kind=0 then (Lc.zero,0) else if p.kind ≠ 3 then L9 l p s a else if p.dbl=true then Iw l p.seg p.off else match Df l p.seg p.off with | none=>(Lc.zero,7) | some v=>L9 l (Ed v) p.seg p.off:=by
   simp only[Eg,h1,hv]
  refine⟨fun h0=>?_,fun h0=>⟨fun h3=>⟨fun hd=>?_,fun hd=>?_⟩,fun h3=>?_⟩⟩
  ·rw[e,if_pos h0];exact Ab rfl
  ·refine Ae (fR l hb hw p.seg p.off) rfl ?_;simp;rw[e,if_neg h0,if_neg (by simp[h3]),if_pos hd];exact Ab rfl
  ·rw[if_neg h0,if_neg (by simp[h3]),if_neg (by simp[hd])] at e;refine Ae (OM l hb p.seg p.off) rfl ?_;simp;cases h2:Df l p.seg p.off with
   |none=>
    simp[h2] at e;simp;rw[e];exact Ab rfl
   |some v=>
    simp[h2] at e;simp;obtain⟨j0,j1⟩:=HE hw h2;obtain⟨q1,q2,q3,q4⟩:=V2 j0 j1;refine Ae (G0 j0 j1) rfl ?_;simp;refine Ae (P2 l hb (Ed v) p.seg p.off (YA j0 j1) (by omega) (by omega) (by omega) (by omega)) rfl ?_;simp;rw[e];exact Ab rfl
  ·refine Ae (P2 l hb p s a hs (by omega) (by omega) (by omega) (by omega)) rfl ?_;simp;rw[e,if_neg h0,if_pos (by simpa using h3)];exact Ab rfl
abbrev zs:List A:=[iv 0,iv 0,iv 0,iv 0,iv 0,iv 0,iv 0,bv false,iv 0,iv 0]
end Go.Proofs.YtbjmaoedheiigaaGreat
namespace Go.Proofs.YtbjmaoedheiigaaGreat
open Go Go.G Go.Proofs Go.PL
structure Rf where
 kind:Int
 s:Int
 at_:Int
 data:Int
 kids:Int
 count:Int
 n:Int
def Rf.zero:Rf:=⟨0,0,0,0,0,0,0⟩
def nk (r:Rf):Int:=if r.kind=1 then r.kids else r.count
def U9 (l:List (List Int)) (s a m:Int):Rf × Int:=
 if ((Df l s a).getD 0 ≠ 0∧(Ed ((Df l s a).getD 0)).kind ≠ 1)∨(Ed ((Df l s a).getD 0)).off<0∨m<(Ed ((Df l s a).getD 0)).off*((Ed ((Df l s a).getD 0)).data+(Ed ((Df l s a).getD 0)).ptrs) then (Rf.zero,8)
 else (⟨9,s,a+1,(Ed ((Df l s a).getD 0)).data,(Ed ((Df l s a).getD 0)).ptrs,(Ed ((Df l s a).getD 0)).off,0⟩,0)
def iE (l:List (List Int)) (x:Lc):Rf × Int:=
 if x.p.kind=1 then (⟨1,x.s,x.at_,x.p.data,x.p.ptrs,0,0⟩,0)
 else if x.p.code<7 then (⟨2+x.p.code,x.s,x.at_,0,0,x.p.count,0⟩,0)
 else U9 l x.s x.at_ x.p.count
def JL (l:List (List Int)) (s a:Int):Rf × Int:=
 if (Eg l s a).2 ≠ 0∨(Eg l s a).1.p.kind=0 then (Rf.zero,(Eg l s a).2) else iE l (Eg l s a).1
def Pw (g:List Int) (c i:Int):Int:=
 if AD c<1∨i<0∨1099511627776<i then 0 else ((g[(i*AD c / 64).toNat]?).getD 0) / 2 ^ (i*AD c % 64).toNat % 2 ^ (AD c).toNat
def Nl (l:List (List Int)) (r:Rf) (i:Int):Int:=Pw (((seg l r.s).getD []).drop r.at_.toNat) (r.kind-2) i
def BQ (l:List (List Int)) (r:Rf) (i:Int):Rf × Int:=
 if i<0∨nk r≤i then (Rf.zero,0)
 else if r.kind=1 then JL l r.s (r.at_+r.data+i)
 else if r.kind=8 then JL l r.s (r.at_+i)
 else if r.kind=9 then (⟨1,r.s,r.at_+i*(r.data+r.kids),r.data,r.kids,0,0⟩,0)
 else (⟨10,0,0,0,0,0,Nl l r i⟩,0)
def C9 (l:List (List Int)) (r:Rf):List Int:=if r.kind=10 then [r.n] else if r.kind ≠ 1 then [] else part l r.s r.at_ r.data
inductive Em (l:List (List Int)):Rf→Prop
 |zero:Em l Rf.zero
 |str (s a d k:Int):0≤d→d<65536→0≤k→k<65536→Ie l s a (d+k)=true→Em l ⟨1,s,a,d,k,0,0⟩
 |dat (c s a n:Int):0≤c→c<6→0≤n→n<536870912→Ie l s a ((n*Jg c+63) / 64)=true→Em l ⟨2+c,s,a,0,0,n,0⟩
 |ptrs (s a n:Int):0≤n→n<536870912→Ie l s a n=true→Em l ⟨8,s,a,0,0,n,0⟩
 |comp (s a d k n:Int):0≤d→d<65536→0≤k→k<65536→0≤n→n<536870912→Ie l s a (n*(d+k))=true→Em l ⟨9,s,a,d,k,n,0⟩
 |atom (n:Int):0≤n→n<18446744073709551616→Em l ⟨10,0,0,0,0,0,n⟩
structure Shp (p:Pt):Prop where
 k1:p.kind=1→0≤p.data∧p.data<65536∧0≤p.ptrs∧p.ptrs<65536
 k2:p.kind=2→0≤p.code∧p.code<8∧0≤p.count∧p.count<536870912
 k:p.kind=0∨p.kind=1∨p.kind=2∨p.kind=3∨p.kind=4
theorem RP {w:Int} (h0:0≤w) (h1:w<18446744073709551616):Shp (Ed w):=by
 unfold Ed
 repeat' split
 all_goals refine⟨?_,?_,?_⟩
 all_goals simp
 all_goals omega
def wC (l:List (List Int)) (x:Lc × Int):Prop:=x.2=0→x.1.p.kind=0∨((x.1.p.kind=1∨x.1.p.kind=2)∧Shp x.1.p∧Ie l x.1.s x.1.at_ ((E7 x.1.p).getD 0)=true)
theorem Vc {l:List (List Int)} {x:Lc} (h:x.p.kind=1∨x.p.kind=2) (hs:Shp x.p):wC l (Hx l x):=by
 unfold Hx;split
 ·rename_i hh;intro _;exact .inr ⟨h,⟨hs.k1,hs.k2,hs.k⟩,hh⟩
 ·intro h;cases h
theorem Z8 {l:List (List Int)} {p:Pt} {s a:Int} (hs:Shp p):wC l (L9 l p s a):=by
 unfold L9;split
 ·exact Vc (by assumption) hs
 ·split<;>(intro h;cases h)
theorem jV {l:List (List Int)} (hw:gC l) (s a:Int):wC l (Iw l s a):=by
 unfold Iw;split
 ·rename_i v w h1 h2;obtain⟨a1,a2⟩:=HE hw h2;have hs:=RP a1 a2
  repeat' split
  all_goals first
   |(intro h;cases h;done)
   |skip
  refine Vc ?_ hs;simp only;omega
 ·intro h;cases h
theorem UY {l:List (List Int)} (hw:gC l) (s a:Int):wC l (Eg l s a):=by
 unfold Eg;split
 ·intro h;cases h
 ·rename_i w h1;obtain⟨a1,a2⟩:=HE hw h1;split
  ·intro _;exact .inl rfl
  ·split
   ·exact Z8 (RP a1 a2)
   ·split
    ·exact jV hw _ _
    ·split
     ·intro h;cases h
     ·rename_i v h2;obtain⟨b1,b2⟩:=HE hw h2;exact Z8 (RP b1 b2)
theorem mZ {p:Pt} (h:p.kind=1):E7 p=some (p.data+p.ptrs):=by simp[E7,h]
theorem Xq {p:Pt} (h:p.kind=2) (hs:Shp p) (h6:p.code<7):E7 p=some ((p.count*Jg p.code+63) / 64):=by
 obtain⟨a,b,c,d⟩:=hs.k2 h;rw[E7,if_neg (by omega),if_neg (by omega),if_pos (by omega)]
theorem UF {p:Pt} (h:p.kind=2) (h7:p.code=7):E7 p=some (p.count+1):=by simp[E7,h,h7]
theorem Tx {a b c:Int} (h:a≤b) (hc:0≤c):a*c≤b*c:=Int.mul_le_mul_of_nonneg_right h hc
theorem W6 {l:List (List Int)} {s a n b m:Int} (h:Ie l s a n=true) (h1:a≤b) (h2:0≤m) (h3:b+m≤a+n):Ie l s b m=true:=by
 simp only[Ie,decide_eq_true_eq] at h ⊢;omega
theorem xu {w:Int} (h0:0≤w) (h1:w<18446744073709551616):(Ed w).off<536870912:=by
 have:=(p6 w).2.1;unfold Ed
 repeat' split
 all_goals simp
 all_goals omega
theorem Aab {l:List (List Int)} (hw:gC l) {s a m:Int} (h:Ie l s a (m+1)=true):Em l (U9 l s a m).1:=by
 unfold U9;have h0:0≤(Df l s a).getD 0∧(Df l s a).getD 0<18446744073709551616:=by
  cases e:Df l s a with
  |none=>simp
  |some x=>exact HE hw e
 generalize (Df l s a).getD 0=w at h0;have hs:=RP h0.1 h0.2;have ho:=V2 h0.1 h0.2;have ho':=xu h0.1 h0.2;split
 ·exact .zero
 ·rename_i hc;have hk:(Ed w).kind=1∨Ed w=Pt.zero:=by
   by_cases hw0:w=0
   ·subst hw0;exact .inr rfl
   ·left;omega
  have hd:0≤(Ed w).data∧(Ed w).data<65536∧0≤(Ed w).ptrs∧(Ed w).ptrs<65536:=by
   rcases hk with hk | hk
   ·exact hs.k1 hk
   ·rw[hk];decide
  refine .comp _ _ _ _ _ hd.1 hd.2.1 hd.2.2.1 hd.2.2.2 (by omega) (by omega) (W6 h (by omega) ?_ (by omega));exact Int.mul_nonneg (by omega) (by omega)
theorem Ac2 {l:List (List Int)} (hw:gC l) {x:Lc} (hk:x.p.kind=1∨x.p.kind=2) (hs:Shp x.p) (h:Ie l x.s x.at_ ((E7 x.p).getD 0)=true):Em l (iE l x).1:=by
 unfold iE;split
 ·rename_i k1;obtain⟨a,b,c,d⟩:=hs.k1 k1;rw[mZ k1] at h;exact .str _ _ _ _ a b c d h
 ·rename_i k1;have k2:x.p.kind=2:=by omega
  obtain⟨a,b,c,d⟩:=hs.k2 k2;split
  ·rename_i h7;rw[Xq k2 hs h7] at h;by_cases h6:x.p.code=6
   ·rw[h6] at h ⊢;refine .ptrs _ _ _ c d (W6 h (Int.le_refl _) c ?_);have e:Jg 6=64:=by decide
    simp only[Option.getD_some,e];omega
   ·exact .dat _ _ _ _ a (by omega) c d h
  ·rw[UF k2 (by omega)] at h;exact Aab hw h
theorem ay {l:List (List Int)} (hw:gC l) (s a:Int):Em l (JL l s a).1:=by
 unfold JL;split
 ·exact .zero
 ·rename_i h;rcases UY hw s a (by omega) with h0 | ⟨h1,h2,h3⟩
  ·omega
  ·exact Ac2 hw h1 h2 h3
theorem X7 {g:List Int} {c i:Int} (hg:∀ x,x ∈ g→0≤x∧x<18446744073709551616):0≤Pw g c i∧Pw g c i<18446744073709551616:=by
 unfold Pw;split
 ·omega
 ·have h0:0≤(g[(i*AD c / 64).toNat]?).getD 0∧(g[(i*AD c / 64).toNat]?).getD 0<18446744073709551616:=by
   cases e:g[(i*AD c / 64).toNat]? with
   |none=>simp
   |some x=>exact hg x (List.mem_of_getElem? e)
  generalize (g[(i*AD c / 64).toNat]?).getD 0=x at h0;have p1:(0:Int)<2 ^ (i*AD c % 64).toNat:=Int.pow_pos (by omega);have p2:(0:Int)<2 ^ (AD c).toNat:=Int.pow_pos (by omega);have d0:0≤x / 2 ^ (i*AD c % 64).toNat:=Int.ediv_nonneg h0.1 (by omega);have d1:x / 2 ^ (i*AD c % 64).toNat≤x:=Int.ediv_le_self _ h0.1;have m0:=Int.emod_nonneg (x / 2 ^ (i*AD c % 64).toNat) (by omega:(2:Int) ^ (AD c).toNat ≠ 0);have m1:x / 2 ^ (i*AD c % 64).toNat % 2 ^ (AD c).toNat≤x / 2 ^ (i*AD c % 64).toNat:=by
   rw[Int.emod_def];have:=Int.mul_nonneg (a:=2 ^ (AD c).toNat) (b:=x / 2 ^ (i*AD c % 64).toNat / 2 ^ (AD c).toNat) (by omega) (Int.ediv_nonneg d0 (by omega));omega
  omega
theorem Nf {l:List (List Int)} (hw:gC l) {r:Rf} (hr:Em l r) (i:Int):Em l (BQ l r i).1:=by
 unfold BQ;split
 ·exact .zero
 ·rename_i hi;cases hr with
  |zero=>simp[nk,Rf.zero] at hi;omega
  |str s a d k a1 a2 a3 a4 h=>simp;exact ay hw _ _
  |dat c s a n a1 a2 a3 a4 h=>
   simp;rw[if_neg (by omega),if_neg (by omega),if_neg (by omega)];have:=X7 (g:=((seg l s).getD []).drop a.toNat) (c:=2+c-2) (i:=i) (fun x hx=>by
    cases e:seg l s with
    |none=>rw[e] at hx;simp at hx
    |some g=>
     rw[e] at hx;obtain⟨_,_,k1,rfl⟩:=L3 e;exact hw _ (A5 k1) _ (QB hx))
   exact .atom _ this.1 this.2
  |ptrs s a n a1 a2 h=>simp;exact ay hw _ _
  |comp s a d k n a1 a2 a3 a4 a5 a6 h=>
   simp[nk] at hi ⊢;refine .str _ _ _ _ a1 a2 a3 a4 (W6 h ?_ (by omega) ?_)
   ·have:=Int.mul_nonneg (by omega:0≤i) (by omega:0≤d+k);omega
   ·have h1:(i+1)*(d+k)≤n*(d+k):=Tx (by omega) (by omega);rw[Int.add_mul] at h1;omega
  |atom n a1 a2=>simp[nk] at hi;omega
inductive A7 (l:List (List Int)):Rf→T→Prop
 |mk (r:Rf) (t:T):Em l r→r.kind=t.kind→C9 l r=t.words→nk r=t.kids.length→(∀ (i:Nat) (h:i<t.kids.length),(BQ l r i).2=0)→(∀ (i:Nat) (h:i<t.kids.length),A7 l (BQ l r i).1 t.kids[i])→A7 l r t
def BX (f:Nat→Int→T × Int × Int):Nat→Nat→List T→Int→List T × Int × Int
 |0,_,acc,left=>(acc,left,0)
 |m+1,i,acc,left=>if (f i left).2.2 ≠ 0 then (acc,(f i left).2.1,(f i left).2.2) else BX f m (i+1) (acc++[(f i left).1]) (f i left).2.1
def Bd (r:Rf):Int:=if r.kind=1 then 1+r.data+r.kids else if r.kind=9 then 1+r.count*(1+r.data+r.kids) else 1+nk r
def Da (l:List (List Int)) (rec:Rf→Int→T × Int × Int) (r:Rf) (i:Nat) (left:Int):T × Int × Int:=
 if (BQ l r i).2 ≠ 0 then (T0,left,(BQ l r i).2) else rec (BQ l r i).1 left
def Jf (l:List (List Int)) (rec:Rf→Int→T × Int × Int) (r:Rf) (left:Int):T × Int × Int:=
 (.mk 1 (C9 l r) (BX (Da l rec r) r.kids.toNat 0 [] left).1,(BX (Da l rec r) r.kids.toNat 0 [] left).2.1,(BX (Da l rec r) r.kids.toNat 0 [] left).2.2)
def Eb (l:List (List Int)) (r:Rf) (left:Int):T × Int × Int:=(.mk r.kind (C9 l r) [],left,0)
def Fe (l:List (List Int)) (r:Rf) (rec1 rec2:Rf→Int→T × Int × Int) (left:Int):T × Int × Int:=
 (.mk r.kind (C9 l r) (BX (Da l (if r.kind=9 then Jf l rec2 else if r.kind=1∨r.kind=8 then rec1 else Eb l) r) (nk r).toNat 0 [] (left-Bd r)).1,
  (BX (Da l (if r.kind=9 then Jf l rec2 else if r.kind=1∨r.kind=8 then rec1 else Eb l) r) (nk r).toNat 0 [] (left-Bd r)).2.1,
  (BX (Da l (if r.kind=9 then Jf l rec2 else if r.kind=1∨r.kind=8 then rec1 else Eb l) r) (nk r).toNat 0 [] (left-Bd r)).2.2)
def EM (l:List (List Int)) (r:Rf) (left:Int):T × Int × Int:=(.mk r.kind (C9 l r) [],left,3)
def AP (l:List (List Int)):Nat→Rf→Int→T × Int × Int
 |0,r,left=>if r.kind=0 then Eb l r left else EM l r left
 |1,r,left=>if r.kind=0 then Eb l r left else if r.kind=9∧0<r.count then EM l r left else if left<Bd r then EM l r left
  else Fe l r (AP l 0) (fun r left=>EM l r left) left
 |d+2,r,left=>if r.kind=0 then Eb l r left else if left<Bd r then EM l r left else Fe l r (AP l (d+1)) (AP l d) left
theorem gE {f:Nat→Int→T × Int × Int}:∀ {m i:Nat} {acc:List T} {left:Int},(BX f m i acc left).2.2=0→∃ ks:List T,(BX f m i acc left).1=acc++ks∧ks.length=m∧∀ (j:Nat) (h:j<ks.length),∃ lf,(f (i+j) lf).2.2=0∧(f (i+j) lf).1=ks[j]
 |0,i,acc,left,h=>⟨[],by simp[BX],rfl,fun j h=>by simp at h⟩
 |m+1,i,acc,left,h=>by
  rw[BX] at h ⊢;by_cases h0:(f i left).2.2 ≠ 0
  ·rw[if_pos h0] at h;exact absurd h h0
  ·rw[if_neg h0] at h ⊢;obtain⟨ks,e1,e2,e3⟩:=gE h;refine⟨(f i left).1::ks,by rw[e1];simp,by simp[e2],fun j hj=>?_⟩;cases j with
   |zero=>exact⟨left,by simpa using h0,rfl⟩
   |succ j=>
    obtain⟨lf,g1,g2⟩:=e3 j (by simpa using hj);refine⟨lf,?_,?_⟩
    ·rw[show i+(j+1)=i+1+j by omega];exact g1
    ·rw[show i+(j+1)=i+1+j by omega];simpa using g2
theorem Mt {l:List (List Int)} {r:Rf} (h:Em l r):0≤nk r∧nk r<536870912:=by
 cases h<;>simp[nk,Rf.zero]<;>omega
theorem Ql {l:List (List Int)} (hw:gC l) {r:Rf} (hr:Em l r) {rec:Rf→Int→T × Int × Int} (hrec:∀ (i:Nat) left,i<nk r→(rec (BQ l r i).1 left).2.2=0→A7 l (BQ l r i).1 (rec (BQ l r i).1 left).1) {k:Int} {left:Int} (hk:r.kind=k)
  (h:(BX (Da l rec r) (nk r).toNat 0 [] left).2.2=0):A7 l r (.mk k (C9 l r) (BX (Da l rec r) (nk r).toNat 0 [] left).1):=by
 obtain⟨ks,e1,e2,e3⟩:=gE h;rw[e1];simp only[List.nil_append];have hn:=Mt hr;refine .mk _ _ hr (by simpa using hk) rfl (by simp[e2];omega) (fun i hi=>?_) (fun i hi=>?_);all_goals
  simp only[T.kids_mk] at hi ⊢;obtain⟨lf,g1,g2⟩:=e3 i hi;simp only[Nat.zero_add] at g1 g2;unfold Da at g1 g2;by_cases h0:(BQ l r i).2 ≠ 0
  ·rw[if_pos h0] at g1;exact absurd g1 h0
  ·rw[if_neg h0] at g1 g2;first
    |(simpa using h0)
    |(rw[← g2];exact hrec i _ (by omega) g1)
theorem MY {l:List (List Int)} {r:Rf} (hr:Em l r) (h:r.kind=0∨r.kind=10) {left:Int}:A7 l r (Eb l r left).1:=by
 refine .mk _ _ hr rfl rfl ?_ (fun i hi=>by simp[Eb] at hi) (fun i hi=>by simp[Eb] at hi);cases hr<;>simp[Eb,nk,Rf.zero] at h ⊢<;>omega
theorem uH {l:List (List Int)} {r:Rf} (hr:Em l r) (h0:r.kind ≠ 0) (h1:r.kind ≠ 1) (h8:r.kind ≠ 8) (h9:r.kind ≠ 9) (i:Int):(BQ l r i).1.kind=0∨(BQ l r i).1.kind=10:=by
 unfold BQ;split
 ·exact .inl rfl
 ·exact .inr rfl
theorem XD {l:List (List Int)} (hw:gC l) {r:Rf} (hr:Em l r) {rec1 rec2:Rf→Int→T × Int × Int} (h1:∀ x left,Em l x→(rec1 x left).2.2=0→A7 l x (rec1 x left).1)
  (h2:r.kind=9→0<r.count→∀ x left,Em l x→(rec2 x left).2.2=0→A7 l x (rec2 x left).1) {left:Int} (h:(Fe l r rec1 rec2 left).2.2=0):A7 l r (Fe l r rec1 rec2 left).1:=by
 unfold Fe at h ⊢;refine Ql hw hr (fun i lf hi hq=>?_) rfl h;have hok:=Nf hw hr (i:Int);by_cases h9:r.kind=9
 ·simp only[if_pos h9] at hq ⊢;have hk:nk r=r.count:=by simp[nk,h9]
  have hkid:BQ l r i=(⟨1,r.s,r.at_+i*(r.data+r.kids),r.data,r.kids,0,0⟩,0):=by
   rw[BQ,if_neg (by omega),if_neg (by omega),if_neg (by omega),if_pos h9]
  rw[hkid] at hq hok ⊢;unfold Jf at hq ⊢;exact Ql hw hok (fun j lf' hj hq'=>h2 h9 (by omega) _ _ (Nf hw hok _) hq') rfl hq
 ·by_cases h18:r.kind=1∨r.kind=8
  ·simp only[if_neg h9,if_pos h18] at hq ⊢;exact h1 _ _ hok hq
  ·simp only[if_neg h9,if_neg h18] at hq ⊢;refine MY hok ?_;by_cases h0:r.kind=0
   ·cases hr<;>simp[nk,Rf.zero] at hi h0<;>omega
   ·exact uH hr h0 (by omega) (by omega) h9 i
theorem D6 {l:List (List Int)} (hw:gC l):∀ (d:Nat) (r:Rf) (left:Int),Em l r→(AP l d r left).2.2=0→A7 l r (AP l d r left).1
 |0,r,left,hr,h=>by
  rw[AP] at h ⊢;split at h
  ·rename_i h0;rw[if_pos h0];exact MY hr (.inl h0)
  ·exact absurd h (by simp[EM])
 |1,r,left,hr,h=>by
  rw[AP] at h ⊢;split at h
  ·rename_i h0;rw[if_pos h0];exact MY hr (.inl h0)
  ·rename_i h0;split at h
   ·exact absurd h (by simp[EM])
   ·rename_i h9;split at h
    ·exact absurd h (by simp[EM])
    ·rename_i hc;rw[if_neg h0,if_neg h9,if_neg hc];exact XD hw hr (fun x lf hx hq=>D6 hw 0 x lf hx hq) (fun k9 hk=>absurd ⟨k9,hk⟩ h9) h
 |d+2,r,left,hr,h=>by
  rw[AP] at h ⊢;split at h
  ·rename_i h0;rw[if_pos h0];exact MY hr (.inl h0)
  ·rename_i h0;split at h
   ·exact absurd h (by simp[EM])
   ·rename_i hc;rw[if_neg h0,if_neg hc];exact XD hw hr (fun x lf hx hq=>D6 hw (d+1) x lf hx hq) (fun k9 hk x lf hx hq=>D6 hw d x lf hx hq) h
@[simp] theorem AeB {q:Bool} {n:Nat} {y:A} {K:A→Prop}:LQ q (A.shift n (gd q y)) K=LQ q (A.shift n y) K:=IQ fun h=>by rw[h];rfl
theorem Hu (l:List Int):A.softL (l.map uv)=l.map uv:=by
 rw[C0,List.map_map];rfl
theorem zO:∀ t:T,(tA t).soft=tA t:=by
 refine T.ind fun k w l ih=>?_;rw[tA_eq];simp only[A.soft,A.softL,T.kind_mk,T.words_mk,T.kids_mk,Hu];have e:l.map (A.soft ∘ tA)=l.map tA:=List.map_congr_left fun t ht=>ih t ht;rw[C0,List.map_map,e];rfl
theorem Gq (l:List T):A.softL (l.map tA)=l.map tA:=by
 rw[C0,List.map_map];exact List.map_congr_left fun t _=>zO t
structure Sg (l:List (List Int)):Prop where
 b:∀ x,x ∈ l→x.length*8≤140737488355328
 w:gC l
def Wh (l:List (List Int)) (r:Rf):A:=if r.kind=0 then .v (.pointer none) else tt l
@[simp] theorem AeX (l:List (List Int)) (r:Rf):(Wh l r).cells=[Wh l r]:=by unfold Wh;split<;>rfl
@[simp] theorem AjS (l:List (List Int)) (r:Rf):(Wh l r).one=true:=by unfold Wh;split<;>rfl
@[simp] theorem AeV (l:List (List Int)) (r:Rf):(Wh l r).bare1=true:=by unfold Wh;split<;>rfl
@[simp] theorem AeJ (l:List (List Int)) (r:Rf):(Wh l r).bare2=true:=by unfold Wh;split<;>rfl
theorem AcG {l:List (List Int)} {r:Rf} (h:r.kind ≠ 0):Wh l r=tt l:=if_neg h
abbrev paL (l:List (List Int)) (r:Rf):List A:=[Wh l r,iv r.kind,iv r.s,iv r.at_,iv r.data,iv r.kids,iv r.count,uv r.n]
abbrev UK (l:List (List Int)) (r:Rf):A:=.agg (paL l r)
def Py (r:Rf):Int:=if r.kind=1 then r.data else if r.kind=10 then 1 else 0
def Od (l:List (List Int)) (r:Rf) (i:Int):Int:=if i<0∨Py r≤i then 0 else if r.kind=10 then r.n else (Df l r.s (r.at_+i)).getD 0
theorem AaW (x:Int) (k:Int) (h0:0≤k) (h1:k<64):x / 2 ^ (min k.toNat u64.bits)=x / 2 ^ k.toNat:=by
 have:min k.toNat u64.bits=k.toNat:=by
  have:u64.bits=64:=rfl;omega
 rw[this]
set_option maxRecDepth 8000 in
theorem rP {g:List Int} (hg:∀ x,x ∈ g→0≤x∧x<18446744073709551616) (hl:g.length*8≤140737488355328) (c i:Int):G.Spec Tryz.prog 255 [Ff g,iv c,iv i] (uv (Pw g c i)):=by
 refine Ah lq (by simp) fun w0 I0=>?_;unfold Yb;simp;refine Ae (J5 c) rfl ?_;have hw:=JP c;by_cases h0:AD c<1∨i<0∨1099511627776<i
 ·have e:Pw g c i=0:=by unfold Pw;rw[if_pos h0]
  rw[e];rcases hw with h | h | h | h | h | h | h
  ·simp[h];exact Ab rfl
  ·simp[h];exact Ab rfl
  all_goals
   by_cases hi:i<0
   ·simp[h,hi];exact Ab rfl
   ·have hb:1099511627776<i:=by omega
    simp[h,hi,hb];exact Ab rfl
 ·have hw1:AD c=1∨AD c=8∨AD c=16∨AD c=32∨AD c=64:=by omega
  have hi0:0≤i:=by omega
  have hi1:i≤1099511627776:=by omega
  have e:Pw g c i=((g[(i*AD c / 64).toNat]?).getD 0) / 2 ^ (i*AD c % 64).toNat % 2 ^ (AD c).toNat:=by unfold Pw;rw[if_neg h0]
  rw[e];clear e hw;generalize AD c=w at hw1 h0;have hn:¬ w<0:=by omega
  have hn0:¬ w=0:=by omega
  have hp:0≤w:=by omega
  have hneg:¬ i<0:=by omega
  have hbig:¬ 1099511627776<i:=by omega
  have hb:0≤i*w∧i*w≤70368744177664:=by rcases hw1 with rfl | rfl | rfl | rfl | rfl<;>omega
  have e1:i64.wrap (i*w)=i*w:=Bv;have e2:i64.wrap ((i*w).tdiv 64)=i*w / 64:=by rw[Int.tdiv_eq_ediv_of_nonneg hb.1,Av (by omega) (by omega)]
  have e3:(i*w).tmod 64=i*w % 64:=Int.tmod_eq_emod_of_nonneg hb.1;have hm:0≤i*w % 64:=by omega
  have hm1:i*w % 64<64:=by omega
  have hd0:0≤i*w / 64:=by omega
  by_cases hr:(g.length:Int)≤i*w / 64
  ·have en:g[(i*w / 64).toNat]? = none:=List.getElem?_eq_none (by omega);simp[hn,hn0,hp,hneg,hbig,e1,e2,hr,en];exact Ab rfl
  ·have hlt:(i*w / 64).toNat<g.length:=by omega
   have hlt':i*w / 64<g.length:=by omega
   have hx:=hg _ (A5 hlt);simp[hn,hn0,hp,hneg,hbig,e1,e2,e3,hr,hd0,hlt,hlt',hm,AaW _ _ hm hm1];have hx0:0≤g[(i*w / 64).toNat] / 2 ^ (i*w % 64).toNat:=Int.ediv_nonneg hx.1 (Int.le_of_lt (Int.pow_pos (by decide)));have hx1:g[(i*w / 64).toNat] / 2 ^ (i*w % 64).toNat<18446744073709551616:=Int.lt_of_le_of_lt (Int.ediv_le_self _ hx.1) hx.2;generalize g[(i*w / 64).toNat] / 2 ^ (i*w % 64).toNat=y at hx0 hx1;refine⟨fun h=>?_,fun h=>?_⟩
   ·refine DY ?_;rw[h];exact(Int.emod_eq_of_lt hx0 (by simpa using hx1)).symm
   ·refine DY ?_;have em:∀ k:Nat,k<64→u64.wrap (u64.wrap (2 ^ min k u64.bits)-1)=2 ^ k-1:=fun k hk=>by
     have h64:min k u64.bits=k:=by
      have:u64.bits=64:=rfl;omega
     have hp:(2:Int) ^ k≤9223372036854775808:=by
      have h2:=Int.ofNat_le.2 (Nat.pow_le_pow_right (n:=2) (by decide) (by omega:k≤63));rw[Int.natCast_pow] at h2;exact h2
     have hp0:(0:Int)<2 ^ k:=Int.pow_pos (by decide);rw[h64,Bw (n:=2 ^ k) (by omega) (by omega),Bw (by omega) (by omega)]
    rw[em w.toNat (by omega)];exact Mf w.toNat (by omega) hx0 hx1
theorem gZ (c:Int):G.Spec Tryz.prog 254 [iv c] (.tup [iv (if AD c<0 then 0 else AD c),bv (decide (0≤AD c))]):=by
 refine Ah eV (by simp) fun w0 I0=>?_;unfold SK;simp;refine Ae (J5 c) rfl ?_;simp;exact Ab rfl
theorem CW {cs:List A} {x:Value} (h:cs.all A.bare2=true):(A.tup [.agg cs,.v x]).bare=true:=by
 simp only[A.bare,List.all_cons,List.all_nil,Bool.and_true];rw[h];rfl
theorem CQ (l:List (List Int)) (r:Rf):G.Spec Tryz.prog 95 [UK l r] (iv r.kind):=by
 refine Ah Ti (by simp) fun w0 I0=>?_;unfold Ln;simp;exact Ab rfl
theorem Kn (l:List (List Int)) (r:Rf):G.Spec Tryz.prog 192 [UK l r] (iv (Py r)):=by
 refine Ah QX (by simp) fun w0 I0=>?_;unfold Kj;by_cases h1:r.kind=1
 ·simp[h1];exact AW rfl (by simp[Py,h1])
 ·by_cases h10:r.kind=10
  ·simp[h10];exact AW rfl (by simp[Py,h10])
  ·simp[h1,h10];exact AW rfl (by simp[Py,h1,h10])
theorem Dp (l:List (List Int)) (r:Rf):G.Spec Tryz.prog 137 [UK l r] (iv (nk r)):=by
 refine Ah Rv (by simp) fun w0 I0=>?_;unfold KW;by_cases h1:r.kind=1
 ·simp[h1];exact AW rfl (by simp[nk,h1])
 ·simp[h1];exact AW rfl (by simp[nk,h1])
theorem Ib {l:List (List Int)} (hs:Sg l) {s a n:Int} (h:Ie l s a n=true):0≤a∧0≤n∧a+n≤17592186044416:=by
 obtain⟨h1,h2,h3,h4,h5,_,h6⟩:=V7 h;have:=hs.b _ (A5 h5);omega
theorem lP {l:List (List Int)} (hs:Sg l) {r:Rf} (hr:Em l r) (i:Int):G.Spec Tryz.prog 150 [UK l r,iv i] (uv (Od l r i)):=by
 refine Ah Te (by simp) fun w0 I0=>?_;unfold KT;simp;refine Cf rfl (fun _=>Kn l r) (fun e=>by simp[e]) (by simp) ?_;by_cases hi:i<0∨Py r≤i
 ·have hd:(decide (i<0) || decide (Py r≤i))=true:=by simpa using hi
  simp[hd];exact AW rfl (by simp[Od,hi])
 ·have hd:(decide (i<0) || decide (Py r≤i))=false:=by simpa using hi
  simp[hd];have e:Od l r i=if r.kind=10 then r.n else (Df l r.s (r.at_+i)).getD 0:=by rw[Od,if_neg hi]
  by_cases h10:r.kind=10
  ·simp[h10];exact AW rfl (by rw[e,if_pos h10])
  ·have h1:r.kind=1:=by
    cases hr<;>simp[Py,Rf.zero] at hi h10 ⊢<;>omega
   simp[h10];rw[e,if_neg h10,AcG (by omega)];have hb:i64.wrap (r.at_+i)=r.at_+i:=by
    cases hr with
    |str s a d k a1 a2 a3 a4 h=>
     have:=Ib hs h;simp[Py] at hi ⊢;exact Av (by omega) (by omega)
    |_=>simp[Rf.zero] at h1<;>omega
   rw[hb];refine Ae (OM l hs.b r.s (r.at_+i)) rfl ?_;simp;exact Ab rfl
theorem qH {l:List (List Int)} (hs:Sg l) (s a n:Int) (ha:0≤a) (ha1:a≤17592186044416):G.Spec Tryz.prog 158 [.agg [tt l,iv 0,iv s,iv a,iv 0,iv 0,iv 0,uv 0],iv n] (.tup [UK l (U9 l s a n).1,iv (U9 l s a n).2]):=by
 have h0:0≤(Df l s a).getD 0∧(Df l s a).getD 0<18446744073709551616:=by
  cases e:Df l s a with
  |none=>simp
  |some x=>exact HE hs.w e
 refine Ah MV (by simp) fun w0 I0=>?_;unfold Hg;simp;refine Ae (OM l hs.b s a) rfl ?_;simp;unfold U9;generalize (Df l s a).getD 0=w at h0;refine Ae (G0 h0.1 h0.2) rfl ?_;have hsh:=RP h0.1 h0.2;have ho:=V2 h0.1 h0.2;have hdp:0≤(Ed w).data∧(Ed w).data<65536∧0≤(Ed w).ptrs∧(Ed w).ptrs<65536:=by
  unfold Ed
  repeat' split
  all_goals simp
  all_goals omega
 generalize Ed w=p at hsh ho hdp;have hb:-70368744177664≤p.off*(p.data+p.ptrs)∧p.off*(p.data+p.ptrs)≤70368744177664:=by
  have b1:p.off*(p.data+p.ptrs)≤536870912*(p.data+p.ptrs):=Int.mul_le_mul_of_nonneg_right (by omega) (by omega);have b2:-536870912*(p.data+p.ptrs)≤p.off*(p.data+p.ptrs):=Int.mul_le_mul_of_nonneg_right (by omega) (by omega);omega
 have e1:i64.wrap (p.data+p.ptrs)=p.data+p.ptrs:=Bv;have e2:i64.wrap (p.off*(p.data+p.ptrs))=p.off*(p.data+p.ptrs):=Bv;have e3:i64.wrap (a+1)=a+1:=Bv;by_cases hc:(w ≠ 0∧p.kind ≠ 1)∨p.off<0∨n<p.off*(p.data+p.ptrs)
 ·have hd:(((!decide (w=0)&&!decide (p.kind=1)) || decide (p.off<0)) || decide (n<p.off*(p.data+p.ptrs)))=true:=by simp;omega
  rw[if_pos hc];simp[e1,e2,hd];exact AW (CW (by simp)) (by simp[Rf.zero,Wh])
 ·have hd:(((!decide (w=0)&&!decide (p.kind=1)) || decide (p.off<0)) || decide (n<p.off*(p.data+p.ptrs)))=false:=by simp;omega
  rw[if_neg hc];simp[e1,e2,e3,hd];exact AW (CW (by simp)) (by simp[Wh])
theorem dY {l:List (List Int)} (hs:Sg l) (s a:Int):G.Spec Tryz.prog 99 [tt l,iv s,iv a] (.tup [UK l (JL l s a).1,iv (JL l s a).2]):=by
 have hf:=UY hs.w s a;refine Ah iC (by simp) fun w0 I0=>?_;unfold Vr;simp;refine Ae (iT l hs.b hs.w s a) rfl ?_;unfold JL;generalize Eg l s a=x at hf;obtain⟨x,e⟩:=x;unfold wC at hf;simp only at hf ⊢;by_cases hc:e ≠ 0∨x.p.kind=0
 ·have hd:(!decide (e=0) || decide (x.p.kind=0))=true:=by simp;omega
  simp[hd,hc];exact AW (CW (by simp)) (by simp[Rf.zero,Wh])
 ·have hd:(!decide (e=0) || decide (x.p.kind=0))=false:=by simp;omega
  have he:e=0:=by omega
  obtain h0 | ⟨hk,hsh,hw⟩:=hf he
  ·omega
  have hbd:=Ib hs hw;rw[if_neg hc];simp[hd];unfold iE;by_cases k1:x.p.kind=1
  ·simp[k1];exact AW (CW (by simp)) (by simp[Wh])
  ·have k2:x.p.kind=2:=by omega
   obtain⟨c0,c1,_,_⟩:=hsh.k2 k2;by_cases c6:x.p.code<6
   ·have e2:i64.wrap (2+x.p.code)=2+x.p.code:=Bv;have c7:x.p.code<7:=by omega
    have nz:¬ (2+x.p.code=0):=by omega
    simp[k1,c6,c7,e2];exact⟨AW (CW (by simp)) (by simp[Wh,nz]),fun h=>absurd h (by omega)⟩
   ·by_cases c6':x.p.code=6
    ·simp[k1,c6'];exact AW (CW (by simp)) (by simp[Wh])
    ·have c7:¬ x.p.code<7:=by omega
     simp[k1,c6,c6',c7];intro _;refine Ae (qH hs x.s x.at_ x.p.count hbd.1 (by omega)) rfl ?_;simp;exact Ab (CW (by simp))
theorem aV {l:List (List Int)} (hs:Sg l):G.Spec Tryz.prog 49 [tt l] (.tup [UK l (JL l 0 0).1,iv (JL l 0 0).2]):=by
 refine Ah ZA (by simp) fun w0 I0=>?_;unfold Qh;simp;refine Ae (dY hs 0 0) rfl ?_;simp;exact Ab (CW (by simp))
theorem ZT {l:List (List Int)} {s a:Int} (ha:0≤a) (k:Nat):((((seg l s).getD []).drop a.toNat)[k]?).getD 0=(Df l s (a+k)).getD 0:=by
 unfold Df;rw[if_pos (by omega)];cases seg l s with
 |none=>simp
 |some g=>
  simp only[Option.getD_some,Option.bind_some,List.getElem?_drop];have:a.toNat+k=(a+k).toNat:=by omega
  rw[this]
theorem rL {l:List (List Int)} (hs:Sg l) {c s a n:Int} (c0:0≤c) (c6:c<6) (n0:0≤n) (n1:n<536870912) (h:Ie l s a ((n*Jg c+63) / 64)=true) {i:Int} (i0:0≤i) (i1:i<n) :
  G.Spec Tryz.prog 231 [UK l ⟨2+c,s,a,0,0,n,0⟩,iv i] (uv (Nl l ⟨2+c,s,a,0,0,n,0⟩ i)):=by
 have hb:=Ib hs h;have e2:i64.wrap c=c:=Bv;have nz:¬ (2+c=0):=by omega
 have key:∀ w per:Int,AD c=w→w*per=64→(w=1∨w=8∨w=16∨w=32∨w=64)→Pw [(Df l s (a+i / per)).getD 0] c (i % per)=Nl l ⟨2+c,s,a,0,0,n,0⟩ i:=fun w per hw hp hw'=>by
  unfold Nl Pw;simp only[show 2+c-2=c by omega,hw];have hk:(i % per*w / 64).toNat=0∧i % per*w % 64=i*w % 64∧i*w / 64=i / per∧¬ (i % per<0)∧¬ 1099511627776<i % per:=by
   rcases hw' with rfl | rfl | rfl | rfl | rfl
   ·have:per=64:=by omega
    subst this;omega
   ·have:per=8:=by omega
    subst this;omega
   ·have:per=4:=by omega
    subst this;omega
   ·have:per=2:=by omega
    subst this;omega
   ·have:per=1:=by omega
    subst this;omega
  obtain⟨k1,k2,k3,k4,k5⟩:=hk;rw[if_neg (by omega),if_neg (by omega),k1,k2,k3];have hd0:0≤i / per:=by rw[← k3];rcases hw' with rfl | rfl | rfl | rfl | rfl<;>omega
  have:=ZT (l:=l) (s:=s) (a:=a) hb.1 (i / per).toNat;rw[show((i / per).toNat:Int)=i / per by omega] at this;rw[this];simp
 have e2':i64.wrap (2+c-2)=c:=Bl;have hw64:∀ x:Int,0≤(Df l s x).getD 0∧(Df l s x).getD 0<18446744073709551616:=fun x=>by
  cases e:Df l s x with
  |none=>simp
  |some y=>exact HE hs.w e
 refine Ah Q9 (by simp) fun w0 I0=>?_;unfold Li;simp[e2'];refine Ae (gZ c) rfl ?_;by_cases hc0:c=0
 ·subst hc0;simp[AD];exact AW rfl (by simp[Nl,Pw,AD])
 have hx:∃ w per:Int,AD c=w∧w*per=64∧(w=1∨w=8∨w=16∨w=32∨w=64)∧(per=64∨per=8∨per=4∨per=2∨per=1)∧i64.wrap ((64:Int).tdiv w)=per:=by
  have hc:c=1∨c=2∨c=3∨c=4∨c=5:=by omega
  rcases hc with rfl | rfl | rfl | rfl | rfl
  ·exact⟨1,64,rfl,rfl,by omega,by omega,by decide⟩
  ·exact⟨8,8,rfl,rfl,by omega,by omega,by decide⟩
  ·exact⟨16,4,rfl,rfl,by omega,by omega,by decide⟩
  ·exact⟨32,2,rfl,rfl,by omega,by omega,by decide⟩
  ·exact⟨64,1,rfl,rfl,by omega,by omega,by decide⟩
 obtain⟨w,per,hw,hp,hw',hper,ep⟩:=hx;have hk:=key w per hw hp hw';have wn:¬ w<0:=by omega
 have wz:¬ w=0:=by omega
 have pz:¬ per=0:=by omega
 have hq:0≤i / per∧i / per≤i:=by rcases hper with rfl | rfl | rfl | rfl | rfl<;>omega
 have hm:0≤i % per:=Int.emod_nonneg _ pz;have e3:i64.wrap (i.tdiv per)=i / per:=by rw[Int.tdiv_eq_ediv_of_nonneg i0,Av (by omega) (by omega)]
 have e4:i64.wrap (a+i / per)=a+i / per:=Bv;have e5:i.tmod per=i % per:=Int.tmod_eq_emod_of_nonneg i0;simp[hw,wn,wz,ep,pz,e3,e4,Wh,nz];refine Ae (OM l hs.b s (a+i / per)) rfl ?_;simp[pz,e5];have hx:=hw64 (a+i / per);refine Ae ((rP (g:=[(Df l s (a+i / per)).getD 0]) (fun x hx'=>by simp at hx';rw[hx'];exact hx) (by simp) c (i % per)).soft (by simp[A.softL,A.soft])) rfl ?_;simp;rw[hk];exact Ab rfl
theorem N0 {l:List (List Int)} (hs:Sg l) {r:Rf} (hr:Em l r) (i:Int):G.Spec Tryz.prog 194 [UK l r,iv i] (.tup [UK l (BQ l r i).1,iv (BQ l r i).2]):=by
 refine Ah Uo (by simp) fun w0 I0=>?_;unfold LX;simp;refine Cf rfl (fun _=>Dp l r) (fun e=>by simp[e]) (by simp) ?_;by_cases hi:i<0∨nk r≤i
 ·have hd:(decide (i<0) || decide (nk r≤i))=true:=by simpa using hi
  simp[hd];exact AW (CW (by simp)) (by simp[BQ,hi,Rf.zero,Wh])
 ·have hd:(decide (i<0) || decide (nk r≤i))=false:=by simpa using hi
  have hi0:0≤i:=by omega
  have hi1:i<nk r:=by omega
  have hk:=Mt hr;rw[BQ,if_neg hi];cases hr with
  |zero=>simp[nk,Rf.zero] at hi1;omega
  |str s a d k a1 a2 a3 a4 h=>
   have hb:=Ib hs h;have e1:i64.wrap (i64.wrap (a+d)+i)=a+d+i:=by
    rw[Av (n:=a+d) (by omega) (by omega),Av (by omega) (by omega)]
   simp[hd,Wh,e1];refine Ae (dY hs s (a+d+i)) rfl ?_;simp;exact Ab (CW (by simp))
  |dat c s a n a1 a2 a3 a4 h=>
   have n0:¬ (2+c=0):=by omega
   have n1:¬ (2+c=1):=by omega
   have n8:¬ (2+c=8):=by omega
   have n9:¬ (2+c=9):=by omega
   have hn:i<n:=by simpa[nk,n1] using hi1
   have:=rL hs a1 a2 a3 a4 h hi0 hn;simp[hd,n1,n8,n9];refine Ae this (by simp) ?_;simp;exact AW (CW (by simp)) (by simp[Wh,n0])
  |ptrs s a n a1 a2 h=>
   have hb:=Ib hs h;have e1:i64.wrap (a+i)=a+i:=Bv;simp[hd,Wh,e1];refine Ae (dY hs s (a+i)) rfl ?_;simp;exact Ab (CW (by simp))
  |comp s a d k n a1 a2 a3 a4 a5 a6 h=>
   have hb:=Ib hs h;have hn:i<n:=by simpa[nk] using hi1
   have m1:0≤i*(d+k):=Int.mul_nonneg hi0 (by omega);have m2:i*(d+k)≤n*(d+k):=Tx (by omega) (by omega);have e1:i64.wrap (d+k)=d+k:=Bv;have e2:i64.wrap (i*(d+k))=i*(d+k):=Bv;have e3:i64.wrap (a+i*(d+k))=a+i*(d+k):=Bv;simp[hd,Wh,e1,e2,e3];exact AW (CW (by simp)) (by simp[Wh])
  |atom n a1 a2=>simp[nk] at hi1;omega
theorem Dv {l:List (List Int)} {r:Rf} {t:T} (h:A7 l r t):Py r=t.words.length∧∀ (i:Nat) (hi:i<t.words.length),Od l r i=t.words[i]:=by
 cases h with
 |mk _ _ hr hk hw hn he hm=>
  have hl:Py r=(C9 l r).length:=by
   cases hr with
   |str s a d k a1 a2 a3 a4 h=>
    obtain⟨h1,h2,h3,h4,h5,e,h6⟩:=V7 h;simp[Py,C9,part,e];omega
   |dat c s a n a1 a2 a3 a4 h=>
    have:¬ (2+c=10):=by omega
    have h1:¬ (2+c=1):=by omega
    simp[Py,C9,this,h1]
   |_=>simp[Py,C9,Rf.zero]
  rw[← hw];refine⟨hl,fun i hi=>?_⟩;have hi':(i:Int)<Py r:=by rw[hl];omega
  rw[Od,if_neg (by omega)];cases hr with
  |str s a d k a1 a2 a3 a4 h=>
   obtain⟨h1,h2,h3,h4,h5,e,h6⟩:=V7 h;simp[C9,part,e];have:=ZT (l:=l) (s:=s) (a:=a) h3 i;rw[e] at this;simp at this;rw[← this,List.getElem?_eq_getElem (by simp[Py] at hi';omega)];simp
  |atom n a1 a2=>
   simp[C9] at hi ⊢
  |dat c s a n a1 a2 a3 a4 h=>
   have:¬ (2+c=10):=by omega
   have h1:¬ (2+c=1):=by omega
   simp[Py,this,h1] at hi';omega
  |_=>simp[Py,Rf.zero] at hi'<;>omega
theorem Ku {l:List (List Int)} {r:Rf} {t:T} (h:A7 l r t):Em l r:=by cases h;assumption
theorem BD {l:List (List Int)} {r:Rf} {t:T} (h:A7 l r t):r.kind=t.kind:=by cases h;assumption
theorem Ds {l:List (List Int)} {r:Rf} {t:T} (h:A7 l r t):nk r=t.kids.length:=by cases h;assumption
theorem BN {l:List (List Int)} {r:Rf} {t:T} (h:A7 l r t) {i:Nat} (hi:i<t.kids.length):(BQ l r i).2=0∧A7 l (BQ l r i).1 t.kids[i]:=by
 cases h with
 |mk _ _ hr hk hw hn he hm=>exact⟨he i hi,hm i hi⟩
theorem Qz {l:List (List Int)} {r:Rf} {t:T} (h:A7 l r t):Acw t:=fun h0=>by
 have hk:=BD h;have hw:=(Dv h).1;have hn:=Ds h;have hr:=Ku h;rw[h0] at hk;have:Py r=0∧nk r=0:=by
  cases hr<;>simp[Py,nk,Rf.zero] at hk ⊢<;>omega
 exact⟨List.eq_nil_of_length_eq_zero (by omega),List.eq_nil_of_length_eq_zero (by omega)⟩
theorem JV {l:List (List Int)} {r:Rf} {t:T} (h:A7 l r t):t.words.length≤65536∧t.kids.length<536870912:=by
 have hw:=(Dv h).1;have hn:=Ds h;have hr:=Ku h;have:=Mt hr;have:Py r≤65536:=by
  cases hr<;>simp[Py,Rf.zero]<;>(try split)<;>omega
 omega
variable {n0:Nat} {w0:World} {I0:Nat→Prop} {Q:Exit→Sta→Prop} {H:Hp}
section
variable {n0:Nat} {w0:World} {I0:Nat→Prop} {Q:Exit→Sta→Prop}
end
abbrev LB (l:List (List Int)) (B:Int) (rec:Rf→Int→T × Int × Int):Prop:=∀ r,Em l r→∀ left:Int,0≤left→left≤B→0≤(rec r left).2.1∧(rec r left).2.1≤B
theorem XN {B:Int} {f:Nat→Int→T × Int × Int} (hf:∀ i left,0≤left→left≤B→0≤(f i left).2.1∧(f i left).2.1≤B):∀ (m i:Nat) (acc:List T) (left:Int),0≤left→left≤B→0≤(BX f m i acc left).2.1∧(BX f m i acc left).2.1≤B
 |0,i,acc,left,h0,h1=>⟨h0,h1⟩
 |m+1,i,acc,left,h0,h1=>by
  rw[BX];have:=hf i left h0 h1;split
  ·exact this
  ·exact XN hf m _ _ _ this.1 this.2
theorem I3 {l:List (List Int)} (hw:gC l) {B:Int} {rec:Rf→Int→T × Int × Int} (h:LB l B rec) {r:Rf} (hr:Em l r) (i:Nat) (left:Int) (h0:0≤left) (h1:left≤B):0≤(Da l rec r i left).2.1∧(Da l rec r i left).2.1≤B:=by
 unfold Da;split
 ·exact⟨h0,h1⟩
 ·exact h _ (Nf hw hr i) _ h0 h1
theorem WH {l:List (List Int)} (hw:gC l) {B:Int} {rec:Rf→Int→T × Int × Int} (h:LB l B rec):LB l B (Jf l rec):=fun r hr left h0 h1=>
 XN (I3 hw h hr) _ _ _ _ h0 h1
theorem N3 {l:List (List Int)} {B:Int}:LB l B (Eb l):=fun r hr left h0 h1=>⟨h0,h1⟩
theorem TG {l:List (List Int)} {r:Rf} (hr:Em l r):1≤Bd r∧Bd r≤100000000000000:=by
 cases hr with
 |zero=>simp[Bd,nk,Rf.zero]
 |str s a d k a1 a2 a3 a4 h=>simp[Bd];omega
 |dat c s a n a1 a2 a3 a4 h=>simp[Bd,nk];rw[if_neg (by omega),if_neg (by omega),if_neg (by omega)];omega
 |ptrs s a n a1 a2 h=>simp[Bd,nk];omega
 |comp s a d k n a1 a2 a3 a4 a5 a6 h=>
  simp[Bd];have m1:0≤n*(1+d+k):=Int.mul_nonneg (by omega) (by omega);have m2:n*(1+d+k)≤536870912*(1+d+k):=Tx (by omega) (by omega);omega
 |atom n a1 a2=>simp[Bd,nk]
theorem iX {l:List (List Int)} (hw:gC l) {B:Int} {r:Rf} (hr:Em l r) {rec1 rec2:Rf→Int→T × Int × Int} (h1:LB l B rec1) (h2:LB l B rec2) {left:Int} (h3:¬ left<Bd r) (h4:left≤B):0≤(Fe l r rec1 rec2 left).2.1∧(Fe l r rec1 rec2 left).2.1≤B:=by
 have:=TG hr;unfold Fe;refine XN (I3 hw ?_ hr) _ _ _ _ (by omega) (by omega);split
 ·exact WH hw h2
 ·split
  ·exact h1
  ·exact N3
theorem D8 {l:List (List Int)} (hw:gC l) {B:Int}:∀ d:Nat,LB l B (AP l d)
 |0,r,hr,left,h0,h1=>by
  rw[AP];split<;>exact⟨h0,h1⟩
 |1,r,hr,left,h0,h1=>by
  rw[AP];split
  ·exact⟨h0,h1⟩
  ·split
   ·exact⟨h0,h1⟩
   ·split
    ·exact⟨h0,h1⟩
    ·rename_i hc;exact iX hw hr (D8 hw 0) (fun r hr left h0 h1=>⟨h0,h1⟩) hc h1
 |d+2,r,hr,left,h0,h1=>by
  rw[AP];split
  ·exact⟨h0,h1⟩
  ·split
   ·exact⟨h0,h1⟩
   ·rename_i hc;exact iX hw hr (D8 hw (d+1)) (D8 hw d) hc h1
theorem AaI {l:List (List Int)} {r:Rf} (hr:Em l r):0≤r.kids∧r.kids<65536:=by
 cases hr<;>simp[Rf.zero]<;>omega
section
variable {n0:Nat} {w0:World} {I0:Nat→Prop} {Q:Exit→Sta→Prop}
end
def Xs (l:List (List Int)) (r:Rf) (rec1 rec2:Rf→Int→T × Int × Int):Rf→Int→T × Int × Int:=if r.kind=9 then Jf l rec2 else if r.kind=1∨r.kind=8 then rec1 else Eb l
section
variable {n0:Nat} {w0:World} {I0:Nat→Prop} {Q:Exit→Sta→Prop}
end
def Cd (x m:Int):Int:=if x<0 then 0 else if m<x then m else x
abbrev liX (a b c d:Int):A:=.agg [iv a,iv b,iv c,iv d]
def GX (l:List (List Int)) (a b:Int):T × Int × Int:=
 if (JL l 0 0).2 ≠ 0 then (T0,0,(JL l 0 0).2)
 else if (AP l (Cd a 64).toNat (JL l 0 0).1 (Cd b 65536)).2.2 ≠ 0 then (T0,0,(AP l (Cd a 64).toNat (JL l 0 0).1 (Cd b 65536)).2.2)
 else ((AP l (Cd a 64).toNat (JL l 0 0).1 (Cd b 65536)).1,Cd b 65536-(AP l (Cd a 64).toNat (JL l 0 0).1 (Cd b 65536)).2.1,0)
theorem Rl (x m:Int) (h:0≤m):0≤Cd x m∧Cd x m≤m:=by
 unfold Cd;split
 ·omega
 ·split<;>omega
theorem JS {l:List (List Int)} (hs:Sg l) {a b:Int} (h:(GX l a b).2.2=0):A7 l (JL l 0 0).1 (GX l a b).1:=by
 unfold GX at h ⊢;split at h
 ·rename_i h0;exact absurd h h0
 ·rename_i h0;rw[if_neg h0];split at h
  ·rename_i h1;exact absurd h h1
  ·rename_i h1;rw[if_neg h1];exact D6 hs.w _ _ _ (ay hs.w 0 0) (by omega)
abbrev s1:List (List Int):=[[4294967296,7]]
abbrev s2:List (List Int):=[[8589934592,7,0]]
abbrev s3:List (List Int):=[[4294967296,8]]
def AfU (h x:Int):Int:=u64.wrap (bits .xor .u64 h x*1099511628211)
def zj (h x:Int):Int:=bits .xor .u64 (AfU h x) (AfU h x / 2 ^ min 29 u64.bits)
mutual
def Abn:T→Int
 |.mk k w l=>Abc (w.foldl zj (zj (zj 14695981039346656037 (u64.wrap k)) (u64.wrap w.length))) l
def Abc:Int→List T→Int
 |h,[]=>h
 |h,t::l=>Abc (zj h (Abn t)) l
end
mutual
theorem PT:∀ (t:T) (d:Nat) (n:Int),-1≤Eh d n t∧(-1≤n→Eh d n t≤n)
 |.mk k w l,d,n=>by
  rw[QS];split
  ·omega
  ·have:=Oo l (d-1) (n-1-w.length) (by omega);omega
theorem Oo:∀ (l:List T) (d:Nat) (n:Int),-1≤n→-1≤DP d n l∧DP d n l≤n
 |[],d,n,h=>by simp;omega
 |t::l,d,n,h=>by
  rw[Iz];split
  ·omega
  ·have h1:=PT t d n;have h2:=Oo l d (Eh d n t) h1.1;omega
end
theorem dL (l:List T) (d:Nat) {n:Int} (h:n<0):DP d n l=n:=by
 cases l with
 |nil=>simp
 |cons t l=>simp[h]
section
variable {n0:Nat} {w0:World} {I0:Nat→Prop} {Q:Exit→Sta→Prop}
theorem mS {t:T} {d:Nat} (hd:1≤d) (hd1:d≤1000) (hl:t.kids.length*56≤140737488355328) (ih:∀ c,c ∈ t.kids→∀ (d:Nat) (n:Int),d≤1000→0≤n→n≤1000000→G.Spec Tryz.prog 27 [tX c,iv d,iv n] (iv (Eh d n c)))
  {H:Hp} (hH:H [0]=⟨1,.cells [iv t.kind,Ff t.words,BV t.kids]⟩):∀ (m i:Nat) (n:Int),i+m=t.kids.length→-1≤n→n≤1000000 →
  (∀ i' q,Q (.exit 0) ⟨lk [(1,iv d),(2,iv (DP (d-1) n (t.kids.drop i))),(3,.pob [0] 1 0),(7,iv i'),(28,bv q)],H⟩) →
  LoopC (cx Tryz.prog w0 I0 n0) DA Q ⟨lk [(1,iv d),(2,iv n),(3,.pob [0] 1 0),(7,iv i)],H⟩:=by
 intro m;induction m with
 |zero=>
  intro i n hi h1 h2 hq;have:i=t.kids.length:=by omega
  subst this;refine Ad Ai DA.eq_1 ?_;simp[hH];simpa using hq _ false
 |succ m ihm=>
  intro i n hi h1 h2 hq;have hlt:i<t.kids.length:=by omega
  refine Ad Ai DA.eq_1 ?_;have e:t.kids.drop i=t.kids[i]::t.kids.drop (i+1):=List.drop_eq_getElem_cons hlt;by_cases hn:n<0
  ·simp[hH,hlt,show ¬ (0:Int)≤n by omega];have:=hq i false
   rwa [dL _ _ hn] at this
  ·have hn':0≤n:=by omega
   simp[hH,hlt,hn'];have ed:i64.wrap ((d:Int)-1)=((d-1:Nat):Int):=Bl;rw[ed];refine Ae (ih _ (A5 hlt) (d-1) n (by omega) hn' h2) rfl ?_;simp;have hr:=PT t.kids[i] (d-1) n;rw[Av (by omega) (by omega)];refine ihm (i+1) _ (by omega) hr.1 (by omega) fun i' q=>?_;have:=hq i' q;rw[e,Iz,if_neg (by omega)] at this;exact this
end
theorem bV:∀ (t:T),Bx t→∀ (d:Nat) (n:Int),d≤1000→0≤n→n≤1000000→G.Spec Tryz.prog 27 [tX t,iv d,iv n] (iv (Eh d n t)):=by
 refine T.ind fun k w l ih hw d n hd hn hn1=>?_;have hw':=wfT_iff.1 hw;have hwl:=hw'.wl;have hkl:=hw'.kl;simp at hwl hkl;have ihc:∀ c,c ∈ (T.mk k w l).kids→∀ (d:Nat) (n:Int),d≤1000→0≤n→n≤1000000→G.Spec Tryz.prog 27 [tX c,iv d,iv n] (iv (Eh d n c)):=fun c hc=>ih c hc (hw'.ks c hc);refine Ah NM (by simp) fun w0 I0=>?_;unfold I9;have e1:i64.wrap (i64.wrap (n-1)-(w.length:Int))=n-1-w.length:=by rw[Av (n:=n-1) (by omega) (by omega),Av (by omega) (by omega)]
 rw[QS];by_cases hc:d=0∨n-1-(w.length:Int)<0
 ·have hd:(decide (d=0) || decide (n-1-(w.length:Int)<0))=true:=by simp;omega
  simp[e1,hd,hc];exact Ab rfl
 ·have hd:(decide (d=0) || decide (n-1-(w.length:Int)<0))=false:=by simp;omega
  simp[e1,hd,hc];refine mS (t:=.mk k w l) (by omega) (by omega) hkl ihc (by simp) l.length 0 _ (by simp) (by omega) (by omega) fun i' q=>?_;simp;exact Ab rfl
abbrev tL (t:T):List A:=[iv t.kind,Ff t.words,BV t.kids]
section
variable {n0:Nat} {w0:World} {I0:Nat→Prop} {Q:Exit→Sta→Prop}
theorem uq {t:T} (hl:t.kids.length*56≤140737488355328) {H:Hp} (hH:H [0]=⟨1,.cells (tL t)⟩):∀ (m i a b:Nat),i+m=t.kids.length →
  (∀ i' q (x y:Nat),x=max a (An (t.kids.drop i))→y=max b (Aq (t.kids.drop i))→Q (.exit 0) ⟨lk [(1,.pob [0] 1 0),(4,iv x),(5,iv y),(6,iv i'),(11,bv q)],H⟩) →
  LoopC (cx Tryz.prog w0 I0 n0) Ec Q ⟨lk [(1,.pob [0] 1 0),(4,iv a),(5,iv b),(6,iv i)],H⟩:=by
 intro m;induction m with
 |zero=>
  intro i a b hi hq;have:i=t.kids.length:=by omega
  subst this;refine Ad Ai Ec.eq_1 ?_;simp[hH];exact hq _ false _ _ (by simp[An]) (by simp[Aq])
 |succ m ih=>
  intro i a b hi hq;have hlt:i<t.kids.length:=by omega
  have e:t.kids.drop i=t.kids[i]::t.kids.drop (i+1):=List.drop_eq_getElem_cons hlt;have ei:=AM i;refine Ad Ai Ec.eq_1 ?_;simp[hH,hlt];refine⟨fun h1=>?_,fun h1=>?_⟩;all_goals
   rw[Jw.eq_1];simp[hH,hlt,ei];refine⟨fun h2=>?_,fun h2=>?_⟩
  ·exact ih (i+1) _ _ (by omega) fun i' q x y hx hy=>hq i' q x y (by rw[hx,e,An];omega) (by rw[hy,e,Aq];omega)
  ·exact ih (i+1) _ _ (by omega) fun i' q x y hx hy=>hq i' q x y (by rw[hx,e,An];omega) (by rw[hy,e,Aq];omega)
  ·exact ih (i+1) _ _ (by omega) fun i' q x y hx hy=>hq i' q x y (by rw[hx,e,An];omega) (by rw[hy,e,Aq];omega)
  ·exact ih (i+1) _ _ (by omega) fun i' q x y hx hy=>hq i' q x y (by rw[hx,e,An];omega) (by rw[hy,e,Aq];omega)
end
theorem jf (t:T) (hl:t.kids.length*56≤140737488355328):G.Spec Tryz.prog 66 [tX t] (.tup [iv (An t.kids),iv (Aq t.kids)]):=by
 refine Ah Qs (by simp) fun w0 I0=>?_;unfold Kq;simp;refine uq (t:=t) hl (by simp) t.kids.length 0 0 0 (by omega) fun i' q x y hx hy=>?_;simp;refine AW rfl ?_;simp[hx,hy]
section
variable {n0:Nat} {w0:World} {I0:Nat→Prop} {Q:Exit→Sta→Prop}
end
section
variable {n0:Nat} {w0:World} {I0:Nat→Prop} {Q:Exit→Sta→Prop}
theorem z6 {t:T} (hl:t.kids.length*56≤140737488355328) (ih:∀ c,c ∈ t.kids→G.Spec Tryz.prog 32 [tX c] (tX (Af c))) {v:VOb}:∀ (m i:Nat) (u:Nat) (H:Hp),i+m=t.kids.length→H [0]=⟨1,.cells (tL t)⟩→H [1]=v→H [3]=⟨u,.arr 3 (((t.kids.take i).map Af).map tA)⟩ →
  (∀ i' q (u':Nat) (H':Hp),H' [0]=⟨1,.cells (tL t)⟩→H' [1]=v→H' [3]=⟨u',.arr 3 ((t.kids.map Af).map tA)⟩→Q (.exit 0) ⟨lk [(1,.pob [0] 1 0),(2,.pob [1] 1 0),(3,.osl [3] u' 3 0 t.kids.length),(4,iv (BZ t.kids).length),(5,iv i'),(16,bv q)],H'⟩) →
  LoopC (cx Tryz.prog w0 I0 n0) EE Q ⟨lk [(1,.pob [0] 1 0),(2,.pob [1] 1 0),(3,.osl [3] u 3 0 i),(4,iv (BZ (t.kids.take i)).length),(5,iv i)],H⟩:=by
 intro m;induction m with
 |zero=>
  intro i u H hi hA hR hB hq;have:i=t.kids.length:=by omega
  subst this;refine Ad Ai EE.eq_1 ?_;simp[hA];have:=hq t.kids.length false u H hA hR (by rw[hB];simp);simpa using this
 |succ m ihm=>
  intro i u H hi hA hR hB hq;have hlt:i<t.kids.length:=by omega
  refine Ad Ai EE.eq_1 ?_;simp[hA,hlt];refine Ae (ih _ (A5 hlt)) rfl ?_;simp[Aa,hB];have ei:=AM i;have hrow:=Hz (f:=tA ∘ Af) hlt (x:=A.agg [iv t.kids[i].kind,Ff (Af t.kids[i]).words,BV (Af t.kids[i]).kids]) (by simp);rw[hrow];refine⟨⟨by omega,by omega⟩,fun h=>?_,fun h=>?_⟩
  ·rw[ei,← YM hlt h];exact ihm (i+1) (u+1) _ (by omega) (by simp[Aa,hA]) (by simp[Aa,hR]) (by simp[Aa]) hq
  ·have ek:(BZ (t.kids.take (i+1))).length=i+1:=by rw[X0 hlt h];simp;omega
   rw[ei];have:=fun H h1 h2 h3=>ihm (i+1) (u+1) H (by omega) h1 h2 h3 hq;rw[ek] at this;exact this _ (by simp[Aa,hA]) (by simp[Aa,hR]) (by simp[Aa])
end
theorem nM:∀ (t:T),Bx t→G.Spec Tryz.prog 32 [tX t] (tX (Af t)):=by
 refine T.ind fun k w l ih hw=>?_;have hw':=wfT_iff.1 hw;have hwl:=hw'.wl;have hkl:=hw'.kl;simp at hwl hkl;refine Ah Tc (by simp) fun w0 I0=>?_;unfold Lk;rw[AL];by_cases h0:k=0
 ·simp[h0];exact ND
 ·simp[h0];refine LoopC.le (FC 3 [3] 3 (by simp)) ?_;simp;refine LoopC.le (AE [(1,.pob [0] 1 0),(2,.pob [1] 1 0),(3,.osl [3] 1 3 0 0),(4,iv 0),(5,iv 0)] (by simp[upd])) ?_;refine z6 (t:=.mk k w l) (by simpa using hkl) (fun c hc=>ih c hc (hw'.ks c hc)) l.length 0 1 _ (by simp) (by simp) rfl (by simp) fun i' q u' H' hA hR hB=>?_;have hle:=EN l;by_cases h1:k=1
  ·subst h1;simp at hA hR hB;simp[hA,hR,hB,hle,Aa];refine Ae (lr w hwl) rfl ?_;simp[hA,hR,hB,hle,Aa];refine BT ?_;simp;rw[L5];refine⟨Ab rfl,Ab rfl,?_⟩;have:=YS (H:=Bh H' [1] ⟨1,.cells [iv 1,A.sl false (List.map uv (CM w)),A.osl [3] u' 3 0 (BZ l).length]⟩) (o:=[3]) (u:=u') (sz:=3) (l:=l) (f:=tA ∘ Af) (by simp[Aa,hB]) hle (by simp);rw[← List.map_take];show K6 _ _ (A.sl false (((l.take (BZ l).length).map Af).map tA));rw[List.map_map];exact this
  ·simp at hA hR hB;simp[hA,hR,hB,h1,Aa];refine⟨hwl,BT ?_⟩;simp;refine⟨Ab rfl,Cu (by simp[Aa]) rfl (by simp),?_⟩;have:=Cu (H:=Bh (Bh H' [4] { u:=(H' [4]).u+1,ob:=Ob.arr 1 (List.map uv w) }) [1] ⟨1,.cells [A.v (Value.int i64 k),A.osl [4] ((H' [4]).u+1) 1 0 w.length,A.osl [3] u' 3 0 l.length]⟩) (o:=[3]) (u:=u') (sz:=3) (l:=l) (f:=tA ∘ Af) (by simp[Aa,hB]) rfl (by simp);show K6 _ _ (A.sl false ((l.map Af).map tA));rw[List.map_map];exact this
theorem IH:∀ (t:T),Bx t→Bx (Af t):=by
 refine T.ind fun k w l ih hw=>?_;have hw':=wfT_iff.1 hw;rw[AL];have h2:∀ (l:List T),(∀ t,t ∈ l→∃ u,u ∈ l∧t=u)→True:=fun _ _=>trivial;have hm:∀ t,t ∈ l.map Af→Bx t:=fun t ht=>by
  obtain⟨u,hu,rfl⟩:=List.mem_map.1 ht;exact ih u hu (hw'.ks u hu)
 split
 ·exact wfT_iff.2 ⟨by simp[Bn],by simp,by simp,by simp,by simp⟩
 ·split
  ·refine wfT_iff.2 ⟨by simp[Bn],fun x hx=>?_,?_,?_,fun t ht=>?_⟩
   ·simp only[T.words_mk] at hx;rw[Qw] at hx;exact hw'.w x (PD hx)
   ·have:=ET w;have:=hw'.wl;simp at this ⊢;omega
   ·have:=EN (l.map Af);have:=hw'.kl;simp at this ⊢;simp at *;omega
   ·simp only[T.kids_mk] at ht;rw[EB] at ht;exact hm t (PD ht)
  ·exact wfT_iff.2 ⟨hw'.k,hw'.w,hw'.wl,by simpa using hw'.kl,by simpa using hm⟩
section
variable {n0:Nat} {w0:World} {I0:Nat→Prop} {Q:Exit→Sta→Prop}
end
theorem se {c:T} (h:Bx c) (hl:c.words.length=1):∃ x,c.words=[x]∧BI x:=by
 have:=(wfT_iff.1 h).w
 match hc:c.words,hl with
 |[x],_=>exact⟨x,rfl,this x (by simp[hc])⟩
theorem eW {d:Nat} {c:T} (h:Aj d c=true) (h10:c.kind=10):c.words.length=1:=by
 obtain⟨k,w,l⟩:=c;simp at h10;subst h10;rw[AI] at h;simp at h;exact h.1
section
variable {n0:Nat} {w0:World} {I0:Nat→Prop} {Q:Exit→Sta→Prop}
theorem tB {t:T} (hl:t.kids.length*56≤140737488355328) (hk0:0≤t.kind) (hk1:t.kind≤10) {d:Nat} (hd:1≤d) (hd1:d≤1000) (hw:∀ c,c ∈ t.kids→Bx c) (ih:∀ c,c ∈ t.kids→∀ d:Nat,d≤1000→G.Spec Tryz.prog 28 [tX c,iv d] (bv (Aj d c))):∀ (m i:Nat) (H:Hp),i+m=t.kids.length→H [0]=⟨1,.cells (tL t)⟩ →
  (Et (d-1) t.kind (t.kids.drop i)=true→∀ i' q H',Q (.exit 0) ⟨lk [(1,iv d),(2,.pob [0] 1 0),(5,iv i'),(82,bv q)],H'⟩)→(Et (d-1) t.kind (t.kids.drop i)=false→∀ H',Q .ret ⟨lk [(4,bv false)],H'⟩) →
  LoopC (cx Tryz.prog w0 I0 n0) CA Q ⟨lk [(1,iv d),(2,.pob [0] 1 0),(5,iv i)],H⟩:=by
 intro m;induction m with
 |zero=>
  intro i H hi hA h1 h2;have:i=t.kids.length:=by omega
  subst this;refine Ad Ai CA.eq_1 ?_;simp[hA];exact h1 (by simp) _ _ _
 |succ m ihm=>
  intro i H hi hA h1 h2;have hlt:i<t.kids.length:=by omega
  have e:t.kids.drop i=t.kids[i]::t.kids.drop (i+1):=List.drop_eq_getElem_cons hlt;have ei:=AM i;have ed:i64.wrap ((d:Int)-1)=((d-1:Nat):Int):=Bl;rw[e,Vk] at h1 h2;have hwc:=hw _ (A5 hlt);have ihc:=ih _ (A5 hlt) (d-1) (by omega);generalize hc:t.kids[i]=c at *;refine Ad Ai CA.eq_1 ?_;simp[hA,hlt,hc,Aa,ed];refine Ae ihc rfl ?_;cases hr:Aj (d-1) c with
  |false=>
   simp;exact h2 (by simp[hr]) _
  |true=>
   rw[hr] at h1 h2;have good:B6 t.kind c=true→∀ H',H' [0]=⟨1,.cells (tL t)⟩→LoopC (cx Tryz.prog w0 I0 n0) CA Q ⟨lk [(1,iv d),(2,.pob [0] 1 0),(5,iv ((i:Int)+1))],H'⟩:=fun hg H' hA'=>
    ihm (i+1) H' (by omega) hA' (fun hh=>h1 (by simp[hg,hh])) (fun hh=>h2 (by simp[hh]))
   have bad:B6 t.kind c=false→∀ H',Q .ret ⟨lk [(4,bv false)],H'⟩:=fun hg=>h2 (by simp[hg]);rw[show((i+1:Nat):Int)=(i:Int)+1 from rfl] at ei;by_cases hD:2≤t.kind∧t.kind≤7
   ·obtain⟨d2,d7⟩:=hD;have d9:¬ t.kind=9:=by omega
    by_cases h10:c.kind=10
    ·obtain⟨x,hx,hx64⟩:=se hwc (eW hr h10);have hk:B6 t.kind c=GA (t.kind-2) x:=by simp[B6,Bb,d2,d7,d9,h10,hx]
     have e2:i64.wrap (t.kind-2)=t.kind-2:=Bv;simp[Aa,hA,d2,d7,d9,h10,hx,e2];refine Bc rfl (fun _=>nN hx64) (fun _=>rfl) rfl ?_;cases hf:GA (t.kind-2) x with
     |false=>simp;exact bad (by rw[hk,hf]) _
     |true=>simp[ei];exact good (by rw[hk,hf]) _ (by simp[Aa,hA])
    ·have hk:B6 t.kind c=false:=by simp[B6,Bb,d2,d7,d9,h10]
     simp[Aa,hA,d2,d7,d9,h10];refine Ao rfl ?_;simp;exact bad hk _
   ·have hD':(decide (2≤t.kind)&&decide (t.kind≤7))=false:=by simp;omega
    by_cases h10:c.kind=10
    ·have hk:B6 t.kind c=false:=by simp[B6,Bb,hD',h10]
     simp[Aa,hA,hD',h10];refine Ao rfl ?_;simp;exact bad hk _
    ·by_cases h9:t.kind=9
     ·by_cases h1':c.kind=1
      ·have hk:B6 t.kind c=true:=by simp[B6,Bb,hD',h9,h1']
       rw[h9] at hD';simp[Aa,hA,hD',h10,h9,h1'];refine Ao rfl ?_;simp[ei];exact good hk _ (by simp[Aa,hA])
      ·have hk:B6 t.kind c=false:=by simp[B6,Bb,hD',h9,h1',h10]
       rw[h9] at hD';simp[Aa,hA,hD',h10,h9,h1'];refine Ao rfl ?_;simp;exact bad hk _
     ·have hk:B6 t.kind c=true:=by simp[B6,Bb,hD',h9,h10]
      simp[Aa,hA,hD',h10,h9];refine Ao rfl ?_;simp[ei];exact good hk _ (by simp[Aa,hA])
end
theorem iL:∀ (t:T),Bx t→∀ d:Nat,d≤1000→G.Spec Tryz.prog 28 [tX t,iv d] (bv (Aj d t)):=by
 refine T.ind fun k w l ih hw d hd=>?_;have hw':=wfT_iff.1 hw;have hwl:=hw'.wl;have hkl:=hw'.kl;simp at hwl hkl;refine Ah QZ (by simp) fun w0 I0=>?_;unfold Kc;rw[AI];by_cases h0:k=0
 ·simp[h0];exact Ak (by cases w<;>cases l<;>simp<;>(rw[← List.length_eq_zero_iff];omega))
 by_cases h10:k=10
 ·simp[h10];exact Ak (by cases w<;>cases l<;>simp<;>(rw[← List.length_eq_zero_iff];omega))
 rw[if_neg h0,if_neg h10];have bad:A4 k d w.length l.length=true→∀ H,K6 H (bv false) (bv (if A4 k d w.length l.length=true then false else Et (d-1) k l)):=fun hb H=>Ak (by simp[hb]);by_cases ha:k<0∨10<k∨d=0∨65536≤w.length
 ·have ha':(decide (k<0) || decide (10<k) || decide (d=0) || decide (65536≤(w.length:Int)))=true:=by simp;omega
  simp[h0,h10,ha'];have:=bad (by simp[A4];omega) (FA [([0],{ u:=1,ob:=Ob.cells [iv k,Ff w,BV l] })]);simpa using this
 have ha':(decide (k<0) || decide (10<k) || decide (d=0) || decide (65536≤(w.length:Int)))=false:=by simp;omega
 by_cases h1:k=1∧65536≤l.length
 ·have hl:(65536:Int)≤l.length:=by omega
  simp[h0,h10,ha',h1.1,hl];have:=bad (by simp[A4];omega) (FA [([0],{ u:=1,ob:=Ob.cells [iv k,Ff w,BV l] })]);simpa[h1.1] using this
 by_cases h2:1048576≤l.length
 ·have hl:(1048576:Int)≤l.length:=by omega
  have hk1:¬ k=1:=by omega
  simp[h0,h10,ha',hk1,hl];have:=bad (by simp[A4];omega) (FA [([0],{ u:=1,ob:=Ob.cells [iv k,Ff w,BV l] })]);simpa using this
 have hl2:¬ (1048576:Int)≤l.length:=by omega
 by_cases h3:1<k∧0<w.length
 ·have hk1:¬ k=1:=by omega
  have hw0:w ≠ []:=fun e=>by simp[e] at h3
  simp[h0,h10,ha',hk1,hl2,h3.1,h3.2,hw0];have:=bad (by simp[A4];omega) (FA [([0],{ u:=1,ob:=Ob.cells [iv k,Ff w,BV l] })]);simpa using this
 have hb:A4 k d w.length l.length=false:=by
  rw[Bool.eq_false_iff];unfold A4;simp only[Bool.or_eq_true,Bool.and_eq_true,decide_eq_true_eq,ne_eq];omega
 have hw0:(1<k→w=[]):=fun h=>List.eq_nil_of_length_eq_zero (by omega);have fin:LoopC (cx Tryz.prog w0 I0 132) CA (Cq 0 (Ht (WPC (cx Tryz.prog w0 I0 132) (.keep [] (.seq (.reg [co (some 4) (.assign (.const (.bool true))) none] [4]) .ret)) (QU Tryz.prog [.tmp 4] (bv (Et (d-1) k l)))) (QU Tryz.prog [.tmp 4] (bv (Et (d-1) k l))))) ⟨lk [(1,iv d),(2,.pob [0] 1 0),(5,iv 0)],FA [([0],⟨1,.cells [iv k,Ff w,BV l]⟩)]⟩:=by
  refine tB (t:=.mk k w l) (by simpa using hkl) (by simp;omega) (by simp;omega) (by omega) hd (fun c hc=>hw'.ks c hc) (fun c hc=>ih c hc (hw'.ks c hc)) l.length 0 _ (by simp) (by simp) (fun hr i' q H'=>?_) (fun hr H'=>?_)
  ·simp;exact Ak (by simpa using hr.symm)
  ·simp;exact Ak (by simpa using hr.symm)
 rw[if_neg (by simp[hb])];by_cases k1:k=1
 ·have hl3:¬ (65536:Int)≤l.length:=by omega
  have ha1:(decide (d=0) || decide (65536≤(w.length:Int)))=false:=by simp;omega
  simp[ha1,k1,hl2,hl3];simpa[k1] using fin
 ·simp[h0,h10,ha',k1,hl2];refine⟨fun a b=>absurd ⟨a,by omega⟩ h3,fun _=>?_⟩;exact fin
theorem XS {l:List (List Int)} (hs:Sg l):∀ (t:T) (r:Rf),A7 l r t→Bx t:=by
 refine T.ind fun k w ks ih r ht=>?_;have hln:=JV ht;have hk:=BD ht;have hok:=Ku ht;simp at hln hk;refine wfT_iff.2 ⟨?_,?_,?_,?_,?_⟩
 ·simp only[T.kind_mk];rw[← hk];unfold Bn;cases hok<;>simp[Rf.zero]<;>omega
 ·intro x hx;obtain⟨i,hi,rfl⟩:=List.mem_iff_getElem.1 hx;have:=(Dv ht).2 i hi;rw[← this];unfold BI Od;split
  ·omega
  ·split
   ·cases hok with
    |atom n a1 a2=>exact⟨a1,a2⟩
    |dat c s a n a1 a2 a3 a4 h=>simp
    |_=>simp[Rf.zero]
   ·cases e:Df l r.s (r.at_+i) with
    |none=>simp
    |some x=>exact HE hs.w e
 ·simp;omega
 ·simp;omega
 ·intro c hc;obtain⟨i,hi,rfl⟩:=List.mem_iff_getElem.1 hc;exact ih _ (A5 hi) _ (BN ht hi).2
end Go.Proofs.YtbjmaoedheiigaaGreat
namespace Go.PL
def Wx (stop:Nat→Bool) (pl:List Nat):Nat→Nat→Nat
 |0,a=>a
 |f+1,a=>if pl.getD a 0=0 then a else if stop (pl.getD a 0)=true then a else Wx stop pl f ((a+1) % pl.length)
theorem Yf (a d m:Nat):((a+1) % m+d) % m=(a+(d+1)) % m:=by
 rw[Nat.mod_add_mod];congr 1;omega
theorem rn {stop:Nat→Bool} {pl:List Nat}:∀ (f a d:Nat),a<pl.length→d<f→pl.getD ((a+d) % pl.length) 0=0 →
  Wx stop pl f a<pl.length∧(pl.getD (Wx stop pl f a) 0=0∨stop (pl.getD (Wx stop pl f a) 0)=true) ∧
   ∃ k,Wx stop pl f a=(a+k) % pl.length∧∀ e,e<k→pl.getD ((a+e) % pl.length) 0 ≠ 0∧stop (pl.getD ((a+e) % pl.length) 0)=false:=by
 intro f;induction f with
 |zero=>intro a d _ h;omega
 |succ f ih=>
  intro a d ha hd hz;unfold Wx;have hself:∃ k,a=(a+k) % pl.length∧∀ e,e<k→pl.getD ((a+e) % pl.length) 0 ≠ 0∧stop (pl.getD ((a+e) % pl.length) 0)=false:=⟨0,by rw[Nat.add_zero,Nat.mod_eq_of_lt ha],fun e he=>by omega⟩;split
  ·rename_i h0;exact⟨ha,.inl h0,hself⟩
  ·rename_i h0;split
   ·rename_i h1;exact⟨ha,.inr h1,hself⟩
   ·rename_i h1;cases d with
    |zero=>rw[Nat.add_zero,Nat.mod_eq_of_lt ha] at hz;exact absurd hz h0
    |succ d=>
     obtain⟨p1,p2,k,p3,p4⟩:=ih ((a+1) % pl.length) d (Nat.mod_lt _ (by omega)) (by omega) (by rw[Yf];exact hz);refine⟨p1,p2,k+1,by rw[p3,Yf],fun e he=>?_⟩;cases e with
     |zero=>rw[Nat.add_zero,Nat.mod_eq_of_lt ha];exact⟨h0,by simpa using h1⟩
     |succ e=>
      have:=p4 e (by omega)
      rwa [Yf] at this
structure Pl (hs:List Nat) (pl:List Nat):Prop where
 cnt:pl.countP (fun v=>v != 0)=hs.length
 vals:∀ v,v ∈ pl→v≤hs.length
 reach:∀ (c:Nat) (hc:c<hs.length),∃ d,pl[(hs[c]+d) % pl.length]? = some (c+1)∧∀ e,e<d→pl.getD ((hs[c]+e) % pl.length) 0 ≠ 0
theorem Pl.free {hs pl:List Nat} (h:Pl hs pl) (hl:hs.length<pl.length) (a:Nat):∃ d,d<pl.length∧pl.getD ((a+d) % pl.length) 0=0:=by
 have hm:∃ v,v ∈ pl∧v=0:=by
  apply Classical.byContradiction;intro hn;have:pl.countP (fun v=>v != 0)=pl.length:=List.countP_eq_length.2 fun v hv=>by
   simp only[bne_iff_ne,ne_eq];exact fun e=>hn ⟨v,hv,e⟩
  have:=h.cnt;omega
 obtain⟨v,hv,rfl⟩:=hm;obtain⟨i,hi,e⟩:=List.mem_iff_getElem.1 hv;refine⟨(i+(pl.length-a % pl.length)) % pl.length,Nat.mod_lt _ (by omega),?_⟩;have:(a+(i+(pl.length-a % pl.length)) % pl.length) % pl.length=i:=by
  rw[Nat.add_mod_mod];have h1:=Nat.mod_lt a (show 0<pl.length by omega);have h2:=Nat.div_add_mod a pl.length;have h3:a+(i+(pl.length-a % pl.length))=i+pl.length*(a / pl.length+1):=by
   rw[Nat.mul_add,Nat.mul_one];omega
  rw[h3,Nat.add_mul_mod_self_left,Nat.mod_eq_of_lt hi]
 rw[this];simp[hi,e]
theorem mX {pl:List Nat} {a v:Nat} (ha:a<pl.length) (h0:pl.getD a 0=0) (hv:v ≠ 0):(pl.set a v).countP (fun v=>v != 0)=pl.countP (fun v=>v != 0)+1:=by
 induction pl generalizing a with
 |nil=>simp at ha
 |cons x l ih=>
  cases a with
  |zero=>
   simp at h0;subst h0;simp[hv]
  |succ a=>
   simp only[List.set_cons_succ,List.countP_cons];rw[ih (by simpa using ha) (by simpa using h0)];omega
theorem Pl.ins {hs pl:List Nat} (h:Pl hs pl) {x a k:Nat} (ha:a<pl.length) (h0:pl.getD a 0=0) (he:a=(x+k) % pl.length) (hk:∀ e,e<k→pl.getD ((x+e) % pl.length) 0 ≠ 0):Pl (hs++[x]) (pl.set a (hs.length+1)):=by
 have hmod:∀ y,y % pl.length<pl.length:=fun y=>Nat.mod_lt _ (by omega);have nz:∀ y,pl.getD (y % pl.length) 0 ≠ 0→(pl.set a (hs.length+1)).getD (y % pl.length) 0 ≠ 0:=fun y hy=>by
  have hne:a ≠ y % pl.length:=fun e=>hy (by rw[← e];exact h0);simpa[List.getD_eq_getElem?_getD,List.getElem?_set_ne hne] using hy
 refine⟨?_,fun v hv=>?_,fun c hc=>?_⟩
 ·rw[mX ha h0 (by omega),h.cnt];simp
 ·rw[List.length_append,List.length_singleton];rcases List.mem_or_eq_of_mem_set hv with hv | rfl
  ·have:=h.vals v hv;omega
  ·omega
 ·simp only[List.length_set];by_cases hcl:c<hs.length
  ·obtain⟨d,h1,h2⟩:=h.reach c hcl;rw[List.getElem_append_left hcl];refine⟨d,?_,fun e he=>nz _ (h2 e he)⟩;have hne:a ≠ (hs[c]+d) % pl.length:=fun e=>by
    rw[← e] at h1;rw[List.getD_eq_getElem?_getD,h1] at h0;simp at h0
   rw[List.getElem?_set_ne hne,h1]
  ·have:c=hs.length:=by simp at hc;omega
   subst this;rw[List.getElem_append_right (Cb _)];simp only[Nat.sub_self,List.getElem_cons_zero];refine⟨k,?_,fun e he=>nz _ (hk e he)⟩;rw[← he,List.getElem?_set_self ha]
def insP (pl:List Nat) (x v:Nat):List Nat:=pl.set (Wx (fun _=>false) pl pl.length (x % pl.length)) v
def oM:List Nat→Nat→List Nat→List Nat
 |pl,_,[]=>pl
 |pl,i,x::hs=>oM (insP pl x (i+1)) (i+1) hs
@[simp] theorem Abv {pl:List Nat} {x v:Nat}:(insP pl x v).length=pl.length:=by simp[insP]
theorem Pl.nil (m:Nat):Pl [] (List.replicate m 0):=by
 refine⟨?_,fun v hv=>?_,fun c hc=>?_⟩
 ·simp[List.countP_replicate]
 ·simp at hv;omega
 ·simp at hc
theorem vd {stop:Nat→Bool} {pl:List Nat} {x:Nat} {hs:List Nat} (h:Pl hs pl) (hl:hs.length<pl.length) :
  Wx stop pl pl.length (x % pl.length)<pl.length∧(pl.getD (Wx stop pl pl.length (x % pl.length)) 0=0∨stop (pl.getD (Wx stop pl pl.length (x % pl.length)) 0)=true) ∧
   ∃ k,Wx stop pl pl.length (x % pl.length)=(x+k) % pl.length∧∀ e,e<k→pl.getD ((x+e) % pl.length) 0 ≠ 0∧stop (pl.getD ((x+e) % pl.length) 0)=false:=by
 obtain⟨d,h1,h2⟩:=h.free hl (x % pl.length);have:=rn (stop:=stop) pl.length (x % pl.length) d (Nat.mod_lt _ (by omega)) h1 h2;simpa using this
theorem Pl.insP {hs pl:List Nat} (h:Pl hs pl) (hl:hs.length<pl.length) (x:Nat):Pl (hs++[x]) (insP pl x (hs.length+1)):=by
 obtain⟨h1,h2,k,h3,h4⟩:=vd (stop:=fun _=>false) (x:=x) h hl;refine h.ins h1 (h2.resolve_right (by simp)) h3 fun e he=>(h4 e he).1
theorem Pl.grow:∀ {hs2 hs pl:List Nat},Pl hs pl→hs.length+hs2.length≤pl.length→Pl (hs++hs2) (oM pl hs.length hs2)
 |[],hs,pl,h,_=>by simpa[oM] using h
 |x::hs2,hs,pl,h,hl=>by
  simp only[List.length_cons] at hl;have h1:=h.insP (by omega) x;have:=Pl.grow (hs2:=hs2) h1 (by simp;omega);rw[List.append_assoc] at this;simpa[oM] using this
noncomputable def Fy (ks:List T) (n:T):Nat:=ks.findIdx (fun k=>Np k n)
noncomputable def GY (ks:List T) (n:T):List T:=if Fy ks n<ks.length then ks else ks++[n]
theorem AaO {ks:List T} {n:T} {i:Nat} (h:i<ks.length) (e:ks[i]=n) (hd:ks.Nodup):Fy ks n=i:=by
 have h1:Fy ks n≤i:=by
  apply Classical.byContradiction;intro hn;have:=List.not_of_lt_findIdx (p:=fun k=>Np k n) (xs:=ks) (i:=i) (by unfold Fy at hn;omega);simp[sameB_iff.2 e] at this
 have h2:Fy ks n<ks.length:=by omega
 have h3:ks[Fy ks n]=n:=sameB_iff.1 (List.findIdx_getElem (p:=fun k=>Np k n) (w:=h2));apply Classical.byContradiction;intro hn;have h4:Fy ks n<i:=by omega
 have:=List.pairwise_iff_getElem.1 hd _ _ h2 h h4;exact this (by rw[h3,e])
theorem qG {ks:List T} {n:T} (h:n ∉ ks):Fy ks n=ks.length:=by
 unfold Fy;rw[List.findIdx_eq_length];intro x hx;rw[Bool.eq_false_iff];intro e;rw[sameB_iff] at e;subst e;exact h hx
theorem oQ (ks:List T) (n:T):Fy ks n≤ks.length:=List.findIdx_le_length
theorem yP {ks:List T} {n:T}:Fy ks n<ks.length ↔ n ∈ ks:=by
 constructor
 ·intro h;have h3:ks[Fy ks n]=n:=sameB_iff.1 (List.findIdx_getElem (p:=fun k=>Np k n) (w:=h));rw[← h3];exact A5 _
 ·intro h;have:=oQ ks n;apply Classical.byContradiction;intro hn;have e:Fy ks n=ks.length:=by omega
  have:=(List.findIdx_eq_length (p:=fun k=>Np k n) (xs:=ks)).1 e n h;rw[Bool.eq_false_iff] at this;exact this (sameB_iff.2 rfl)
theorem nq {ks:List T} {n:T} (h:ks.Nodup):(GY ks n).Nodup:=by
 unfold GY;split
 ·exact h
 ·rename_i hn;rw[yP] at hn;rw[List.nodup_append];exact⟨h,by simp,fun a ha b hb=>by simp at hb;subst hb;exact fun e=>hn (e ▸ ha)⟩
noncomputable def CI:List T→List T→List T × List Nat
 |ks,[]=>(ks,[])
 |ks,t::l=>((CI (GY ks (Af t)) l).1,Fy ks (Af t)::(CI (GY ks (Af t)) l).2)
end Go.PL
namespace Go.Proofs.YtbjmaoedheiigaaGreat
open Go Go.G Go.Proofs Go.PL
structure Cl where
 l:List (List Int)
 r:Rf
 t:T
noncomputable def Cl.h (c:Cl):Int:=Abn (Af c.t)
noncomputable def Cl.hn (c:Cl):Nat:=c.h.toNat
abbrev clL (h:Int) (l:List (List Int)) (r:Rf):List A:=uv h::paL l r
noncomputable def Cl.a (c:Cl):A:=.agg (clL c.h c.l c.r)
abbrev nv (n:Nat):A:=iv (n:Int)
structure Tb where
 u:Nat
 uc:Nat
 up:Nat
 cl:List Cl
 pl:List Nat
structure Tb.Ok (S:Tb):Prop where
 p8:8≤S.pl.length
 half:2*S.cl.length≤S.pl.length
 most:S.pl.length≤8+4*S.cl.length
 pl:Pl (S.cl.map Cl.hn) S.pl
 means:∀ c,c ∈ S.cl→Sg c.l∧A7 c.l c.r c.t
 nd:(S.cl.map fun c=>Af c.t).Nodup
noncomputable def Tb.ks (S:Tb):List T:=S.cl.map fun c=>Af c.t
theorem Tb.Ok.lt {S:Tb} (h:S.Ok):S.cl.length<S.pl.length:=by have:=h.p8;have:=h.half;omega
structure Tb.Ok1 (S:Tb):Prop where
 p8:8≤S.pl.length
 half:2*S.cl.length≤S.pl.length+2
 most:S.pl.length≤8+4*S.cl.length
 pl:Pl (S.cl.map Cl.hn) S.pl
 means:∀ c,c ∈ S.cl→Sg c.l∧A7 c.l c.r c.t
 nd:(S.cl.map fun c=>Af c.t).Nodup
theorem Tb.Ok1.ok {S:Tb} (h:S.Ok1) (hf:¬ S.pl.length<2*S.cl.length):S.Ok:=⟨h.p8,by omega,h.most,h.pl,h.means,h.nd⟩
variable {n0:Nat} {w0:World} {I0:Nat→Prop} {Q:Exit→Sta→Prop}
section
variable {n0:Nat} {w0:World} {I0:Nat→Prop} {M0:Nm→Nat→Prop} {m0:Mu} {Q:Exit→Sta→Prop}
end
theorem wZ (l:List (List Int)) (r:Rf):Hm (fun _=>UK l r):=Mn rfl fun x hx=>by
 simp at hx;rcases hx with rfl | rfl | rfl | rfl | rfl | rfl | rfl | rfl<;>simp
theorem UO:∀ (l:List T) (ks:List T) (t:T),CI ks (l++[t])=(GY (CI ks l).1 (Af t),(CI ks l).2++[Fy (CI ks l).1 (Af t)])
 |[],ks,t=>by simp[CI]
 |a::l,ks,t=>by simp[CI,UO l]
theorem FK:∀ (l:List T) (ks:List T),(CI ks l).2.length=l.length
 |[],ks=>rfl
 |a::l,ks=>by simp[CI,FK l]
section
variable {n0:Nat} {w0:World} {I0:Nat→Prop} {M0:Nm→Nat→Prop} {m0:Mu} {Q:Exit→Sta→Prop}
end
theorem pM {l:List T}:∀ x,x ∈ l.map tA→Hm (fun _=>x):=fun x hx=>by
 obtain⟨t,_,rfl⟩:=List.mem_map.1 hx;exact Mn (tA_eq t) fun y hy=>by
  simp at hy;rcases hy with rfl | rfl | rfl<;>rfl
theorem np {ks:List T} {n:T} {i:Nat} (h:i<ks.length) (e:ks[i]=n) (hb:∀ (x:Nat) (hx:x<i),ks[x]'(by omega) ≠ n):Fy ks n=i:=by
 unfold Fy;rw[List.findIdx_eq h];refine⟨sameB_iff.2 e,fun j hj=>?_⟩;rw[Bool.eq_false_iff];exact fun h2=>hb j hj (sameB_iff.1 h2)
section
variable {n0:Nat} {w0:World} {I0:Nat→Prop} {M0:Nm→Nat→Prop} {m0:Mu} {Q:Exit→Sta→Prop}
end
theorem uX (ks:List T) (n:T):(GY ks n).length≤ks.length+1:=by
 unfold GY;split<;>simp
theorem Xn:∀ (l ks:List T),(CI ks l).1.length≤ks.length+l.length
 |[],ks=>by simp[CI]
 |t::l,ks=>by
  have:=Xn l (GY ks (Af t));have:=uX ks (Af t);simp only[CI,List.length_cons];omega
theorem ze {ks:List T} {n:T} (h:∀ k,k ∈ ks→Bx k) (hn:Bx n):∀ k,k ∈ GY ks n→Bx k:=by
 unfold GY;split
 ·exact h
 ·intro k hk;rcases List.mem_append.1 hk with hk | hk
  ·exact h k hk
  ·simp at hk;subst hk;exact hn
theorem cQ:∀ {l ks:List T},(∀ k,k ∈ ks→Bx k)→(∀ k,k ∈ l→Bx k)→∀ k,k ∈ (CI ks l).1→Bx k
 |[],ks,h,_=>h
 |t::l,ks,h,hl=>cQ (l:=l) (ze h (IH _ (hl t (by simp)))) fun k hk=>hl k (by simp[hk])
section
variable {n0:Nat} {w0:World} {I0:Nat→Prop} {M0:Nm→Nat→Prop} {m0:Mu} {Q:Exit→Sta→Prop}
end
section
variable {n0:Nat} {w0:World} {I0:Nat→Prop} {Q:Exit→Sta→Prop} {H:Hp}
end
theorem Gz (t:T) (i:Nat):G.Spec Tryz.prog 115 [tX t,iv i] (uv (t.words.getD i 0)):=by
 refine Ah jE (by simp) fun w0 I0=>?_;unfold U5;have hn:¬ (i:Int)<0:=by omega
 by_cases h:i<t.words.length
 ·have h2:¬ t.words.length≤i:=by omega
  simp[h,hn,h2];exact AW rfl (by simp[h])
 ·have h2:t.words.length≤i:=by omega
  simp[h,hn,h2];exact AW rfl (by simp[List.getElem?_eq_none (Nat.le_of_not_lt h)])
theorem Eu (t:T) (i:Nat):G.Spec Tryz.prog 116 [tX t,iv i] (tX (t.kids.getD i T0)):=by
 refine Ah og (by simp) fun w0 I0=>?_;unfold Yk;have hn:¬ (i:Int)<0:=by omega
 by_cases h:i<t.kids.length
 ·have h2:¬ t.kids.length≤i:=by omega
  simp[h,hn,h2];exact Ab (by simp)
 ·have h2:t.kids.length≤i:=by omega
  simp[h,hn,h2];exact BT (by simp;exact⟨Ab rfl,Au,Au⟩)
theorem ue {l:List (List Int)} (hs:Sg l) {r:Rf} {t:T} (hm:A7 l r t) {k:Int}
  (hq:∀ (q:Bool) (H:Hp),H [0]=⟨1,.cells (paL l r)⟩→H [2]=⟨1,.cells [iv k,.osl [3] (t.words.length+1) 1 0 t.words.length,.osl [6] 1 3 0 0]⟩→H [3]=⟨t.words.length+1,.arr 1 (t.words.map uv)⟩→H [6]=⟨1,.arr 3 []⟩→H [1]=⟨1,.cells [iv 0,.sl true [],.sl true []]⟩ →
   Q (.exit 0) ⟨lk [(1,.pob [0] 1 0),(2,.pob [1] 1 0),(4,.pob [2] 1 0),(14,iv t.words.length),(15,iv t.words.length),(16,bv q)],H⟩) :
  ∀ (j i:Nat) (H:Hp),i+j=t.words.length→H [0]=⟨1,.cells (paL l r)⟩→H [2]=⟨1,.cells [iv k,.osl [3] (i+1) 1 0 i,.osl [6] 1 3 0 0]⟩→H [3]=⟨i+1,.arr 1 ((t.words.take i).map uv)⟩→H [6]=⟨1,.arr 3 []⟩→H [1]=⟨1,.cells [iv 0,.sl true [],.sl true []]⟩ →
  LoopC (cx Tryz.prog w0 I0 n0) GJ Q ⟨lk [(1,.pob [0] 1 0),(2,.pob [1] 1 0),(4,.pob [2] 1 0),(14,iv t.words.length),(15,iv i)],H⟩:=by
 obtain⟨hw1,hw2⟩:=Dv hm;have hln:=JV hm;intro j;induction j with
 |zero=>
  intro i H hi h0 h2 h3 h6 h1;have:i=t.words.length:=by omega
  subst this;rw[BO (Cb _)] at h3;refine Ad Ai GJ.eq_1 ?_;simp;exact hq _ H h0 h2 h3 h6 h1
 |succ j ih=>
  intro i H hi h0 h2 h3 h6 h1;have hlt:i<t.words.length:=by omega
  have ei:=AM i;have htk:(t.words.take (i+1)).map uv=(t.words.take i).map uv++[uv t.words[i]]:=by rw[Ij hlt,List.map_append];rfl
  refine Ad Ai GJ.eq_1 ?_;simp[hlt,h0,h2];refine Ae (lP hs (Ku hm) i) (by simp) ?_;rw[hw2 i hlt];simp[h2,h3,ei,Aa];refine⟨⟨by omega,by omega⟩,?_⟩;refine ih (i+1) _ (by omega) (by simp[Aa,h0]) (by simp[Aa]) ?_ (by simp[Aa,h6]) (by simp[Aa,h1]);rw[htk];simp[Aa,List.take_take]
theorem xW {l:List (List Int)} (hs:Sg l) {r:Rf} {t:T} (hm:A7 l r t) {k:Int} {c1:A} {X:VOb} (ih0:∀ c,c ∈ t.kids→∀ x,A7 l x c→G.Spec Tryz.prog 156 [UK l x] (.tup [tX c,iv 0]))
  (hq:∀ (q:Bool) (H:Hp),H [2]=⟨1,.cells [iv k,c1,.osl [6] (t.kids.length+1) 3 0 t.kids.length]⟩→H [6]=⟨t.kids.length+1,.arr 3 (t.kids.map tA)⟩→H [3]=X→H [1]=⟨1,.cells [iv 0,.sl true [],.sl true []]⟩ →
   Q (.exit 2) ⟨lk [(1,.pob [0] 1 0),(2,.pob [1] 1 0),(4,.pob [2] 1 0),(28,iv t.kids.length),(29,iv t.kids.length),(30,bv q)],H⟩) :
  ∀ (j i:Nat) (H:Hp),i+j=t.kids.length→H [0]=⟨1,.cells (paL l r)⟩→H [2]=⟨1,.cells [iv k,c1,.osl [6] (i+1) 3 0 i]⟩→H [6]=⟨i+1,.arr 3 ((t.kids.take i).map tA)⟩→H [3]=X→H [1]=⟨1,.cells [iv 0,.sl true [],.sl true []]⟩ →
  LoopC (cx Tryz.prog w0 I0 n0) GP Q ⟨lk [(1,.pob [0] 1 0),(2,.pob [1] 1 0),(4,.pob [2] 1 0),(28,iv t.kids.length),(29,iv i)],H⟩:=by
 have hln:=JV hm;intro j;induction j with
 |zero=>
  intro i H hi h0 h2 h6 h3 h1;have:i=t.kids.length:=by omega
  subst this;rw[BO (Cb _)] at h6;refine Ad Ai GP.eq_1 ?_;simp;exact hq _ H h2 h6 h3 h1
 |succ j ih=>
  intro i H hi h0 h2 h6 h3 h1;have hlt:i<t.kids.length:=by omega
  obtain⟨k1,k2⟩:=BN hm hlt;have ei:=AM i;have htk:(t.kids.take (i+1)).map tA=(t.kids.take i).map tA++[tA t.kids[i]]:=by rw[Ij hlt,List.map_append];rfl
  refine Ad Ai GP.eq_1 ?_;simp[hlt,h0];refine Ae (N0 hs (Ku hm) i) (by simp) ?_;rw[k1];simp[Aa,h0];refine Ae (ih0 _ (A5 hlt) _ k2) (by simp) ?_;simp[Aa,h2,h6,ei];refine⟨⟨by omega,by omega⟩,?_⟩;refine ih (i+1) _ (by omega) (by simp[Aa,h0]) (by simp[Aa]) ?_ (by simp[Aa,h3]) (by simp[Aa,h1]);rw[htk];simp[Aa,List.take_take]
theorem mw {l:List (List Int)} (hs:Sg l):∀ (t:T) (r:Rf),A7 l r t→G.Spec Tryz.prog 156 [UK l r] (.tup [tX t,iv 0]):=by
 refine T.ind fun k w ks ih r hm=>?_;refine Ah X2 (by simp) fun w0 I0=>?_;unfold NX;simp;refine Ae (CQ l r) (by simp) ?_;simp;refine Ef (B9 (d:=[2]) (u:=1) (cs:=[iv r.kind,.sl true [],.sl true []]) 1 [3] 1 (by simp) rfl (by simp)) ?_;refine Ef (B9 (d:=[2]) (u:=1) (cs:=[iv r.kind,.osl [3] 1 1 0 0,.sl true []]) 2 [6] 3 (by simp[Aa]) rfl (by simp)) (Di ?_);simp[Aa];refine Ae (Kn l r) (by simp) ?_;rw[(Dv hm).1];simp[Aa];refine ue hs hm (k:=r.kind) (fun q H h0 h2 h3 h6 h1=>?_) w.length 0 _ (by simp) (by simp[Aa]) (by simp[Aa]) (by simp[Aa]) (by simp[Aa]) (by simp[Aa]);simp[h0];refine Ae (Dp l r) (by simp) ?_;rw[Ds hm];simp;refine xW hs hm (k:=r.kind) (c1:=.osl [3] (w.length+1) 1 0 w.length) (X:=⟨w.length+1,.arr 1 (w.map uv)⟩) ih (fun q H' h2' h6' h3' h1'=>?_) ks.length 0 H (by simp) h0 h2 (by simpa using h6) h3 h1;simp[h2',h1',Aa];rw[BD hm];exact CY ⟨BT ⟨Ab rfl,Cu (f:=uv) (l:=w) (by simp[Aa,h3']) rfl (fun x=>by simp),Cu (f:=tA) (l:=ks) (by simp[Aa,h6']) rfl (fun x=>by simp),trivial⟩,Ab rfl,trivial⟩
end Go.Proofs.YtbjmaoedheiigaaGreat
namespace Go.PL
def DH (at_ to kind upper:Int):Int:=4*(if to-at_-1<0 then to-at_-1+1073741824 else to-at_-1)+kind+upper*4294967296
def Lx (w:Nat):List Int→Nat→List Int→List Int
 |[],_,out=>out
 |n::ns,i,out=>Lx w ns (i+1) (if w=0 then out else out.set (i*w / 64) (out.getD (i*w / 64) 0+n*2 ^ (i*w % 64)))
def MS (c:Int) (ns:List Int):List Int:=Lx (AD c).toNat ns 0 (List.replicate (Dw c ns.length).toNat 0)
def hd (t:T):Int:=t.words.headD 0
def Mr:Nat→List Int→List Int→List Int
 |_,[],l=>l
 |b,x::ws,l=>Mr (b+1) ws (l.set b x)
def Ha (w k:Nat):List T→List Int
 |[]=>[]
 |t::ts=>t.words++List.replicate (w+k-t.words.length) 0++Ha w k ts
mutual
def Dr:T→Nat→List Int→List Int
 |.mk k w ks,at_,l=>
  if k=0 then l
  else if k=1 then CU ks (l.length+w.length) (l.set at_ (DH at_ (if w.length+ks.length=0 then at_ else l.length) 0 ((w.length:Int)+65536*ks.length))++w++List.replicate ks.length 0)
  else if k=8 then CU ks l.length (l.set at_ (DH at_ l.length 1 (6+8*ks.length))++List.replicate ks.length 0)
  else if k=9 then IP (An ks) (Aq ks) ks (l.length+1) (l.set at_ (DH at_ l.length 1 (7+8*(ks.length*(An ks+Aq ks):Nat)))++[4*(ks.length:Int)+4294967296*((An ks:Int)+65536*Aq ks)]++Ha (An ks) (Aq ks) ks)
  else l.set at_ (DH at_ l.length 1 (k-2+8*ks.length))++MS (k-2) (ks.map hd)
def CU:List T→Nat→List Int→List Int
 |[],_,l=>l
 |t::ts,at_,l=>CU ts (at_+1) (Dr t at_ l)
def IP (w k:Nat):List T→Nat→List Int→List Int
 |[],_,l=>l
 |.mk _ _ ks::ts,at_,l=>IP w k ts (at_+(w+k)) (CU ks (at_+w) l)
end
theorem B8 (k:Int) (w:List Int) (ks:List T) (at_:Nat) (l:List Int):Dr (.mk k w ks) at_ l=if k=0 then l
  else if k=1 then CU ks (l.length+w.length) (l.set at_ (DH at_ (if w.length+ks.length=0 then at_ else l.length) 0 ((w.length:Int)+65536*ks.length))++w++List.replicate ks.length 0)
  else if k=8 then CU ks l.length (l.set at_ (DH at_ l.length 1 (6+8*ks.length))++List.replicate ks.length 0)
  else if k=9 then IP (An ks) (Aq ks) ks (l.length+1) (l.set at_ (DH at_ l.length 1 (7+8*(ks.length*(An ks+Aq ks):Nat)))++[4*(ks.length:Int)+4294967296*((An ks:Int)+65536*Aq ks)]++Ha (An ks) (Aq ks) ks)
  else l.set at_ (DH at_ l.length 1 (k-2+8*ks.length))++MS (k-2) (ks.map hd):=by rw[Dr]
@[simp] theorem Afu (at_:Nat) (l:List Int):CU [] at_ l=l:=by rw[CU]
@[simp] theorem Hb (t:T) (ts:List T) (at_:Nat) (l:List Int):CU (t::ts) at_ l=CU ts (at_+1) (Dr t at_ l):=by rw[CU]
@[simp] theorem vw (w k at_:Nat) (l:List Int):IP w k [] at_ l=l:=by rw[IP]
@[simp] theorem FZ (w k:Nat) (t:T) (ts:List T) (at_:Nat) (l:List Int):IP w k (t::ts) at_ l=IP w k ts (at_+(w+k)) (CU t.kids (at_+w) l):=by cases t;rw[IP];rfl
theorem NZ:∀ (w:Nat) (ns:List Int) (i:Nat) (out:List Int),(Lx w ns i out).length=out.length
 |w,[],i,out=>rfl
 |w,n::ns,i,out=>by
  rw[Lx,NZ];split<;>simp
@[simp] theorem K8 (c:Int) (ns:List Int):(MS c ns).length=(Dw c ns.length).toNat:=by simp[MS,NZ]
@[simp] theorem OL:∀ (b:Nat) (ws l:List Int),(Mr b ws l).length=l.length
 |_,[],_=>rfl
 |b,x::ws,l=>by rw[Mr,OL,List.length_set]
structure PutI (w i:Nat) (out:List Int):Prop where
 rng:∀ (j:Nat) (h:j<out.length),0≤out[j]∧out[j]<18446744073709551616
 here:∀ (h:i*w / 64<out.length),out[i*w / 64]<2 ^ (i*w % 64)
 zero:∀ (j:Nat) (h:j<out.length),i*w / 64<j→out[j]=0
theorem PutI.start (w m:Nat):PutI w 0 (List.replicate m 0):=⟨fun j h=>by simp,fun h=>by simp,fun j h _=>by simp⟩
theorem Uc {w i:Nat} {out:List Int} (h:PutI w i out) (hw:w=1∨w=8∨w=16∨w=32∨w=64) {n:Int} (h0:0≤n) (h1:n<2 ^ w) (hl:i*w / 64<out.length):PutI w (i+1) (out.set (i*w / 64) (out.getD (i*w / 64) 0+n*2 ^ (i*w % 64))) ∧
  0≤out.getD (i*w / 64) 0∧out.getD (i*w / 64) 0<2 ^ (i*w % 64)∧n*2 ^ (i*w % 64)<18446744073709551616∧out.getD (i*w / 64) 0+n*2 ^ (i*w % 64)<18446744073709551616:=by
 have hg:out.getD (i*w / 64) 0=out[i*w / 64]:=by simp[hl]
 rw[hg];obtain⟨r0,r1⟩:=h.rng _ hl;have hh:=h.here hl;have hs:i*w % 64+w≤64:=by
  rcases hw with rfl | rfl | rfl | rfl | rfl<;>omega
 have hp:(0:Int)<2 ^ (i*w % 64):=Int.pow_pos (by decide);have hsum:out[i*w / 64]+n*2 ^ (i*w % 64)<2 ^ (i*w % 64+w):=by
  have e1:n*2 ^ (i*w % 64)≤(2 ^ w-1)*2 ^ (i*w % 64):=Int.mul_le_mul_of_nonneg_right (by omega) (by omega);have e2:(2 ^ w-1)*2 ^ (i*w % 64)=(2:Int) ^ (i*w % 64+w)-2 ^ (i*w % 64):=by
   rw[Int.sub_mul,Int.one_mul,Int.pow_add,Int.mul_comm]
  omega
 have hle:(2:Int) ^ (i*w % 64+w)≤2 ^ 64:=by
  have e:∀ k:Nat,(2:Int) ^ k=((2 ^ k:Nat):Int):=fun k=>by simp
  rw[e,e];exact Int.ofNat_le.2 (Nat.pow_le_pow_right (by decide) hs)
 have hnn:0≤n*2 ^ (i*w % 64):=Int.mul_nonneg h0 (by omega);have h64:(2:Int) ^ 64=18446744073709551616:=by decide
 refine⟨⟨fun j hj=>?_,fun hj=>?_,fun j hj hlt=>?_⟩,r0,hh,by omega,by omega⟩
 ·rw[List.getElem_set];split
  ·omega
  ·exact h.rng j (by simpa using hj)
 ·rw[List.getElem_set];split
  ·rename_i e;have e3:(i+1)*w % 64=i*w % 64+w:=by
    rw[Nat.add_mul,Nat.one_mul] at e ⊢;rcases hw with rfl | rfl | rfl | rfl | rfl<;>omega
   rw[e3];exact hsum
  ·rename_i e;have e4:i*w / 64<(i+1)*w / 64:=by
    have:i*w / 64≤(i+1)*w / 64:=Nat.div_le_div_right (by rw[Nat.add_mul];omega);omega
   rw[h.zero _ (by simpa using hj) e4];exact Int.pow_pos (by decide)
 ·have e5:i*w / 64≤(i+1)*w / 64:=Nat.div_le_div_right (by rw[Nat.add_mul];omega);rw[List.getElem_set];split
  ·omega
  ·exact h.zero j (by simpa using hj) (by omega)
theorem ct {w n i:Nat} (hw:w=1∨w=8∨w=16∨w=32∨w=64) (h:i<n):i*w / 64<(n*w+63) / 64:=by
 have:(i+1)*w≤n*w:=Nat.mul_le_mul_right _ h;rw[Nat.add_mul] at this;rcases hw with rfl | rfl | rfl | rfl | rfl<;>omega
def LS (f:Nat→List Int→List Int) (n:Nat):Prop:=∀ (at_ p:Nat) (x:Int) (l:List Int),p<l.length→(p<at_∨at_+n≤p)→f at_ (l.set p x)=(f at_ l).set p x
def LM (f:Nat→List Int→List Int):Prop:=∀ (at_:Nat) (l:List Int),l.length≤(f at_ l).length
theorem Pc {l m:List Int} {p:Nat} {x:Int} (h:p<l.length):l.set p x++m=(l++m).set p x:=by rw[List.set_append_left _ _ h]
theorem SY:∀ {ts:List T},(∀ t,t ∈ ts→LS (Dr t) 1∧LM (Dr t))→LS (CU ts) ts.length∧LM (CU ts)
 |[],_=>⟨fun at_ p x l _ _=>by simp,fun at_ l=>by simp⟩
 |t::ts,h=>by
  obtain⟨h1,h2⟩:=h t (by simp);obtain⟨h3,h4⟩:=SY (ts:=ts) fun u hu=>h u (by simp[hu]);refine⟨fun at_ p x l hp hr=>?_,fun at_ l=>?_⟩
  ·simp only[List.length_cons] at hr;have:=h2 at_ l;rw[Hb,Hb,h1 at_ p x l hp (by omega),h3 (at_+1) p x _ (by omega) (by omega)]
  ·rw[Hb];exact Nat.le_trans (h2 at_ l) (h4 _ _)
theorem cZ {w k:Nat}:∀ {ts:List T},(∀ t,t ∈ ts→LS (CU t.kids) t.kids.length∧LM (CU t.kids))→(∀ (at_ p:Nat) (x:Int) (l:List Int),p<l.length→p<at_→IP w k ts at_ (l.set p x)=(IP w k ts at_ l).set p x)∧LM (IP w k ts)
 |[],_=>⟨fun at_ p x l _ _=>by simp,fun at_ l=>by simp⟩
 |t::ts,h=>by
  obtain⟨h1,h2⟩:=h t (by simp);obtain⟨h3,h4⟩:=cZ (w:=w) (k:=k) (ts:=ts) fun u hu=>h u (by simp[hu]);refine⟨fun at_ p x l hp hr=>?_,fun at_ l=>?_⟩
  ·have:=h2 (at_+w) l;rw[FZ,FZ,h1 (at_+w) p x l hp (by omega),h3 _ p x _ (by omega) (by omega)]
  ·rw[FZ];exact Nat.le_trans (h2 _ l) (h4 _ _)
theorem MI:∀ t:T,(LS (Dr t) 1∧LM (Dr t))∧(LS (CU t.kids) t.kids.length∧LM (CU t.kids)):=by
 refine T.ind fun k w ks ih=>?_;have hK:=SY fun t ht=>(ih t ht).1;have hC:=fun (w k:Nat)=>cZ (w:=w) (k:=k) fun t ht=>(ih t ht).2;refine⟨⟨fun at_ p x l hp hr=>?_,fun at_ l=>?_⟩,hK⟩
 ·have hne:at_ ≠ p:=by omega
  rw[B8,B8];simp only[List.length_set];split
  ·rfl
  ·split
   ·rw[List.set_comm _ _ (Ne.symm hne),Pc (by simpa using hp),Pc (by simp;omega),hK.1 _ _ _ _ (by simp;omega) (by omega)]
   ·split
    ·rw[List.set_comm _ _ (Ne.symm hne),Pc (by simpa using hp),hK.1 _ _ _ _ (by simp;omega) (by omega)]
    ·split
     ·rw[List.set_comm _ _ (Ne.symm hne),Pc (by simpa using hp),Pc (by simp;omega),(hC _ _).1 _ _ _ _ (by simp;omega) (by omega)]
     ·rw[List.set_comm _ _ (Ne.symm hne),Pc (by simpa using hp)]
 ·rw[B8];split
  ·exact Cb _
  ·split
   ·exact Nat.le_trans (by simp) (hK.2 _ _)
   ·split
    ·exact Nat.le_trans (by simp) (hK.2 _ _)
    ·split
     ·exact Nat.le_trans (by simp) ((hC _ _).2 _ _)
     ·simp
theorem ik (ts:List T):LS (CU ts) ts.length:=(SY fun t _=>(MI t).1).1
theorem ax {ts:List T}:∀ (ws:List Int) (b at_:Nat) (l:List Int),b+ws.length≤l.length→at_+ts.length≤b→CU ts at_ (Mr b ws l)=Mr b ws (CU ts at_ l)
 |[],b,at_,l,_,_=>rfl
 |x::ws,b,at_,l,h,h2=>by
  simp only[List.length_cons] at h;rw[Mr,Mr,ax ws (b+1) at_ _ (by simp;omega) (by omega),ik ts at_ b x l (by omega) (by omega)]
def cpC (w long:Nat):List T→Nat→List Int→List Int
 |[],_,l=>l
 |t::ts,b,l=>cpC w long ts (b+long) (CU t.kids (b+w) (Mr b t.words l))
def Oa (long:Nat):List T→Nat→List Int→List Int
 |[],_,l=>l
 |t::ts,b,l=>Oa long ts (b+long) (Mr b t.words l)
theorem aW {long:Nat} {ks:List T}:∀ (ts:List T) (b at_:Nat) (l:List Int),(∀ t,t ∈ ts→t.words.length≤long)→b+ts.length*long≤l.length→at_+ks.length≤b→Oa long ts b (CU ks at_ l)=CU ks at_ (Oa long ts b l)
 |[],b,at_,l,_,_,_=>rfl
 |t::ts,b,at_,l,hw,h,h2=>by
  have h3:=hw t (by simp);simp only[List.length_cons,Nat.add_mul,Nat.one_mul] at h;rw[Oa,Oa,← ax _ _ _ _ (by omega) h2,aW ts _ _ _ (fun u hu=>hw u (by simp[hu])) (by simp;omega) (by omega)]
theorem IV:∀ (t:T) (d d':Nat),d≤d'→Aj d t=true→Aj d' t=true:=by
 refine T.ind fun k w ks ih d d' hd h=>?_;rw[AI] at h ⊢;by_cases h0:k=0
 ·rw[if_pos h0] at h ⊢; exact h
 ·rw[if_neg h0] at h ⊢;by_cases h10:k=10
  ·rw[if_pos h10] at h ⊢; exact h
  ·rw[if_neg h10] at h ⊢;split at h
   ·cases h
   ·rename_i hb;have hb':¬ A4 k d' w.length ks.length=true:=by
     intro e;apply hb;unfold A4 at e ⊢;simp only[Bool.or_eq_true,decide_eq_true_eq] at e ⊢;have:d'=0→d=0:=by omega
     rcases e with (((((e | e) | e) | e) | e) | e) | e
     ·exact .inl (.inl (.inl (.inl (.inl (.inl e)))))
     ·exact .inl (.inl (.inl (.inl (.inl (.inr e)))))
     ·exact .inl (.inl (.inl (.inl (.inr (this e)))))
     ·exact .inl (.inl (.inl (.inr e)))
     ·exact .inl (.inl (.inr e))
     ·exact .inl (.inr e)
     ·exact .inr e
    rw[if_neg hb'];refine rightL_all.2 fun t ht=>?_;obtain⟨h1,h2⟩:=rightL_all.1 h t ht;exact⟨ih t ht _ _ (by omega) h1,h2⟩
inductive Cr:T→Prop
 |null (w:List Int):Cr (.mk 0 w [])
 |str (w:List Int) (ks:List T):w.length<65536→ks.length<65536→(∀ t,t ∈ ks→Cr t)→Cr (.mk 1 w ks)
 |ptrs (w:List Int) (ks:List T):ks.length<536870912→(∀ t,t ∈ ks→Cr t)→Cr (.mk 8 w ks)
 |comp (w:List Int) (ks:List T):ks.length<536870912→(∀ t,t ∈ ks→t.words.length<65536∧t.kids.length<65536)→(∀ t,t ∈ ks→∀ u,u ∈ t.kids→Cr u)→Cr (.mk 9 w ks)
 |data (k:Int) (w:List Int) (ks:List T):2≤k→k≤7→ks.length<536870912→(∀ c,c ∈ ks→∃ x,c.words=[x]∧0≤x∧x<18446744073709551616∧GA (k-2) x=true)→Cr (.mk k w ks)
def LN (f:Nat→List Int→List Int) (n:Int):Prop:=∀ (at_:Nat) (l:List Int),((f at_ l).length:Int)=l.length+n
theorem cC:∀ {ts:List T},(∀ t,t ∈ ts→LN (Dr t) (Co t))→LN (CU ts) (Cm ts)
 |[],_=>fun at_ l=>by simp
 |t::ts,h=>fun at_ l=>by
  rw[Hb,cC (ts:=ts) (fun u hu=>h u (by simp[hu])),h t (by simp),XY];omega
theorem pr {w k:Nat}:∀ {ts:List T},(∀ t,t ∈ ts→LN (CU t.kids) (Cm t.kids))→LN (IP w k ts) (E9 ts)
 |[],_=>fun at_ l=>by simp
 |t::ts,h=>fun at_ l=>by
  rw[FZ,pr (ts:=ts) (fun u hu=>h u (by simp[hu])),h t (by simp),Oe];omega
theorem DI:∀ {ts:List T} {t:T},t ∈ ts→t.words.length≤An ts
 |u::ts,t,h=>by
  rcases List.mem_cons.1 h with rfl | h
  ·simp only[An];omega
  ·have:=DI h;simp only[An];omega
theorem Ek:∀ {ts:List T} {t:T},t ∈ ts→t.kids.length≤Aq ts
 |u::ts,t,h=>by
  rcases List.mem_cons.1 h with rfl | h
  ·simp only[Aq];omega
  ·have:=Ek h;simp only[Aq];omega
theorem Hf {w k:Nat}:∀ (ts:List T),(∀ t,t ∈ ts→t.words.length≤w+k)→(Ha w k ts).length=ts.length*(w+k)
 |[],_=>by simp[Ha]
 |t::ts,h=>by
  have h1:=h t (by simp);rw[Ha,List.length_append,List.length_append,List.length_replicate,Hf ts fun u hu=>h u (by simp[hu])];simp only[List.length_cons,Nat.add_mul,Nat.one_mul];omega
theorem SE (c n:Int):0≤Dw c n:=by
 unfold Dw Ux
 repeat' split
 all_goals omega
theorem Pg:∀ t:T,(Cr t→LN (Dr t) (Co t))∧((∀ u,u ∈ t.kids→Cr u)→LN (CU t.kids) (Cm t.kids)):=by
 refine T.ind fun k w ks ih=>?_;have hK:(∀ u,u ∈ ks→Cr u)→LN (CU ks) (Cm ks):=fun h=>cC fun t ht=>(ih t ht).1 (h t ht);refine⟨fun h at_ l=>?_,hK⟩;rw[B8,Cj];cases h with
 |null=>simp
 |str w ks b1 b2 h=>
  rw[if_neg (by decide),if_pos rfl,if_pos rfl,hK h];simp;omega
 |ptrs w ks b1 h=>
  rw[if_neg (by decide),if_neg (by decide),if_pos rfl,if_neg (by decide),if_pos rfl,hK h];simp;omega
 |comp w ks b1 b2 h=>
  have hr:=Hf (w:=An ks) (k:=Aq ks) ks fun t ht=>by have:=DI ht;omega
  rw[if_neg (by decide),if_neg (by decide),if_neg (by decide),if_pos rfl,if_neg (by decide),if_neg (by decide),if_neg (by decide),if_pos rfl,pr fun t ht=>(ih t ht).2 (h t ht)];simp only[List.length_append,List.length_set,List.length_singleton,hr];have e:((ks.length*(An ks+Aq ks):Nat):Int)=(ks.length:Int)*((An ks:Int)+Aq ks):=by rw[Int.natCast_mul,Int.natCast_add]
  rw[← e];omega
 |data k w ks h1 h2 b1 b2=>
  rw[if_neg (by omega),if_neg (by omega),if_neg (by omega),if_neg (by omega),if_neg (by omega),if_neg (by omega),if_pos ⟨h1,h2⟩];simp only[List.length_append,List.length_set,K8,List.length_map];have:=SE (k-2) ks.length;omega
theorem j8 {ts:List T} (h:∀ t,t ∈ ts→Cr t):LN (CU ts) (Cm ts):=cC fun t ht=>(Pg t).1 (h t ht)
theorem OQ:∀ t:T,(Cr t→0≤Co t)∧((∀ u,u ∈ t.kids→Cr u)→0≤Cm t.kids):=fun t=>by
 refine⟨fun h=>?_,fun h=>?_⟩
 ·have h1:=(Pg t).1 h 0 [];simp at h1;omega
 ·have h1:=(Pg t).2 h 0 [];simp at h1;omega
theorem wN {w k:Nat}:∀ (ts:List T) (b:Nat) (l:List Int),(∀ t,t ∈ ts→t.words.length≤w∧t.kids.length≤k)→b+ts.length*(w+k)≤l.length→cpC w (w+k) ts b l=IP w k ts b (Oa (w+k) ts b l)
 |[],b,l,_,_=>by simp[cpC,Oa]
 |t::ts,b,l,hw,h=>by
  obtain⟨h3,h4⟩:=hw t (by simp);simp only[List.length_cons,Nat.add_mul,Nat.one_mul] at h;have hm:=((SY fun t _=>(MI t).1).2:LM (CU t.kids)) (b+w) (Mr b t.words l);rw[OL] at hm;rw[cpC,FZ,Oa,wN ts _ _ (fun u hu=>hw u (by simp[hu])) (by omega),aW ts _ _ _ (fun u hu=>by have:=(hw u (by simp[hu])).1;omega) (by simp;omega) (by omega)]
theorem Xo:∀ (ws:List Int) (a z:List Int),ws.length≤z.length→Mr a.length ws (a++z)=a++ws++z.drop ws.length
 |[],a,z,_=>by simp[Mr]
 |x::ws,a,[],h=>by simp at h
 |x::ws,a,y::z,h=>by
  simp only[List.length_cons] at h;have:(a++y::z).set a.length x=(a++[x])++z:=by simp
  rw[Mr,this,show a.length+1=(a++[x]).length from by simp,Xo ws (a++[x]) z (by omega)];simp
theorem ad {w k:Nat}:∀ (ts:List T) (a:List Int),(∀ t,t ∈ ts→t.words.length≤w+k)→Oa (w+k) ts a.length (a++List.replicate (ts.length*(w+k)) 0)=a++Ha w k ts
 |[],a,_=>by simp[Oa,Ha]
 |t::ts,a,h=>by
  have h1:=h t (by simp);have e:List.replicate ((t::ts).length*(w+k)) (0:Int)=List.replicate (w+k) 0++List.replicate (ts.length*(w+k)) 0:=by
   rw[List.replicate_append_replicate];congr 1;simp only[List.length_cons,Nat.add_mul,Nat.one_mul];omega
  rw[Oa,e,Xo _ _ _ (by simp;omega),Ha];have e2:a++t.words++List.drop t.words.length (List.replicate (w+k) (0:Int)++List.replicate (ts.length*(w+k)) 0)=(a++t.words++List.replicate (w+k-t.words.length) 0)++List.replicate (ts.length*(w+k)) 0:=by
   rw[List.drop_append_of_le_length (by simp;omega),List.drop_replicate];simp
  have e3:a.length+(w+k)=(a++t.words++List.replicate (w+k-t.words.length) (0:Int)).length:=by simp;omega
  rw[e2,e3,ad ts _ fun u hu=>h u (by simp[hu])];simp
end Go.PL
namespace Go.Proofs.YtbjmaoedheiigaaGreat
open Go Go.G Go.Proofs Go.PL
theorem bW (l:List (List Int)) (s a:Int):(JL l s a).1.kind ≠ 10:=by
 unfold JL;split
 ·simp[Rf.zero]
 ·unfold iE;split
  ·simp
  ·split
   ·simp;omega
   ·unfold U9;split<;>simp[Rf.zero]
theorem cf {l:List (List Int)} {r:Rf} (h:Em l r):0≤r.kind∧r.kind≤10:=by cases h<;>simp[Rf.zero]<;>omega
theorem Ms {l:List (List Int)} {r:Rf} (h:r.kind=1∨r.kind=8) (i:Int):(BQ l r i).1.kind ≠ 10:=by
 unfold BQ;split
 ·simp[Rf.zero]
 ·rcases h with h | h
  ·rw[if_pos h];exact bW _ _ _
  ·rw[if_neg (by omega),if_pos h];exact bW _ _ _
theorem Xv {l:List (List Int)} {r:Rf} (h:r.kind=9) {i:Int} (h0:0≤i) (h1:i<nk r):(BQ l r i).1.kind=1:=by
 rw[BQ,if_neg (by omega),if_neg (by omega),if_neg (by omega),if_pos h]
theorem qt {g:List Int} {c i:Int} (hg:∀ x,x ∈ g→0≤x∧x<18446744073709551616) (hc:0≤c) (hc6:c<6):GA c (Pw g c i)=true:=by
 have hw:0≤AD c:=by unfold AD;repeat' split<;>omega
 have hp:(0:Int)<2 ^ (AD c).toNat:=Int.pow_pos (by decide);simp only[GA,Bool.and_eq_true,decide_eq_true_eq];refine⟨hw,?_⟩;unfold Pw;split
 ·simp
 ·rw[Int.ediv_eq_zero_of_lt]
  ·exact Int.emod_nonneg _ (by omega)
  ·exact Int.emod_lt_of_pos _ hp
theorem XT {l:List (List Int)} {r:Rf} {t:T} (hm:A7 l r t) (hk:2≤t.kind) (hk7:t.kind≤7) {i:Nat} (hi:i<t.kids.length):t.kids[i].kind=10∧t.kids[i].words=[hd t.kids[i]]:=by
 obtain⟨h1,h2⟩:=BN hm hi;have hkr:=BD hm;have hnk:=Ds hm;have hkk:=BD h2;have hw:=(Dv h2).1;have hkid:(BQ l r i).1.kind=10:=by
  rw[BQ,if_neg (by omega),if_neg (by omega),if_neg (by omega),if_neg (by omega)]
 have hlen:t.kids[i].words.length=1:=by
  have:Py (BQ l r i).1=1:=by simp[Py,hkid]
  omega
 refine⟨by omega,?_⟩
 match hq:t.kids[i].words,hlen with
 |[x],_=>simp[hd,hq]
theorem sw {l:List (List Int)} (hs:Sg l) {r:Rf} {t:T} (hm:A7 l r t) (k2:2≤t.kind) (k7:t.kind≤7):∀ x,x ∈ t.kids.map hd→BI x∧GA (t.kind-2) x=true:=fun x hx=>by
 obtain⟨c,hc,rfl⟩:=List.mem_map.1 hx;obtain⟨i,hi,rfl⟩:=List.mem_iff_getElem.1 hc;obtain⟨h1,kk⟩:=BN hm hi;obtain⟨a1,a2⟩:=XT hm k2 k7 hi;have hkr:=BD hm;have hnk:=Ds hm;have hwd:=(Dv kk).2 0 (by rw[a2];simp);simp only[a2,List.getElem_cons_zero] at hwd;have hkid:BQ l r i=(⟨10,0,0,0,0,0,Nl l r i⟩,0):=by
  rw[BQ,if_neg (by omega),if_neg (by omega),if_neg (by omega),if_neg (by omega)]
 rw[hkid] at hwd;have e:hd t.kids[i]=Nl l r i:=by
  rw[← hwd];simp[Od,Py]
 have hgx:∀ x,x ∈ ((seg l r.s).getD []).drop r.at_.toNat→0≤x∧x<18446744073709551616:=fun x hx=>by
  have hx:=QB hx;cases e:seg l r.s with
  |none=>rw[e] at hx;simp at hx
  |some g=>
   rw[e] at hx;simp at hx;obtain⟨_,_,_,rfl⟩:=L3 e;exact hs.w _ (A5 _) x hx
 rw[e,← hkr];exact⟨X7 hgx,qt hgx (by omega) (by omega)⟩
theorem yK {l:List (List Int)} (hs:Sg l):∀ (t:T) (r:Rf),A7 l r t→t.kind ≠ 10→Cr (Af t):=by
 refine T.ind fun k w ks ih r hm h10=>?_;have hk:=BD hm;have hok:=Ku hm;have hb:=cf hok;simp at hk h10;rw[AL];have kid:∀ (i:Nat) (hi:i<ks.length),A7 l (BQ l r i).1 ks[i]:=fun i hi=>(BN hm (by simpa using hi)).2;by_cases h0:k=0
 ·rw[if_pos h0];exact .null _
 ·rw[if_neg h0];by_cases h1:k=1
  ·rw[if_pos h1];have hb1:w.length<65536∧ks.length<65536:=by
    have hn:=Ds hm;have hw:=(Dv hm).1;simp at hn hw;have:nk r<65536∧Py r<65536:=by
     cases hok<;>simp[Rf.zero,nk,Py] at hk ⊢<;>omega
    omega
   have hb2:=ET w;have hb3:=EN (ks.map Af);rw[List.length_map] at hb3;refine .str _ _ (by omega) (by omega) fun t ht=>?_;rw[L5] at ht;obtain⟨u,hu,rfl⟩:=List.mem_map.1 (PD ht);obtain⟨i,hi,rfl⟩:=List.mem_iff_getElem.1 hu;refine ih _ hu _ (kid i hi) ?_;rw[← BD (kid i hi)];exact Ms (.inl (by omega)) i
  ·rw[if_neg h1];by_cases h8:k=8
   ·subst h8;have hln:=JV hm;refine .ptrs _ _ (by simpa using hln.2) fun t ht=>?_;obtain⟨u,hu,rfl⟩:=List.mem_map.1 ht;obtain⟨i,hi,rfl⟩:=List.mem_iff_getElem.1 hu;refine ih _ hu _ (kid i hi) ?_;rw[← BD (kid i hi)];exact Ms (.inr (by omega)) i
   ·by_cases h9:k=9
    ·subst h9;have hln:=JV hm;have hkn:=Ds hm;simp at hkn;refine .comp _ _ (by simpa using hln.2) (fun t ht=>?_) fun t ht u hu'=>?_
     ·obtain⟨v,hv,rfl⟩:=List.mem_map.1 ht;obtain⟨i,hi,rfl⟩:=List.mem_iff_getElem.1 hv;have kk:=kid i hi;have hkk:=BD kk;rw[Xv (by omega) (by omega) (by omega)] at hkk;have hL:=ih _ hv _ kk (by omega);have hkn2:(Af ks[i]).kind=1:=by rw[Bp];omega
      generalize Af ks[i]=x at hL hkn2;cases hL with
      |str w ks b1 b2 h=>exact⟨b1,b2⟩
      |_=>simp at hkn2<;>omega
     obtain⟨v,hv,rfl⟩:=List.mem_map.1 ht;obtain⟨i,hi,rfl⟩:=List.mem_iff_getElem.1 hv;have hkn:=Ds hm;simp at hkn;have hkk:=BD (kid i hi);rw[Xv (by omega) (by omega) (by omega)] at hkk;have:=ih _ hv _ (kid i hi) (by omega);have hkn2:(Af ks[i]).kind=1:=by rw[Bp];omega
     generalize Af ks[i]=x at this hkn2 hu';cases this with
     |str w ks b1 b2 h=>exact h u hu'
     |_=>simp at hkn2<;>omega
    ·have hln:=JV hm;refine .data _ _ _ (by omega) (by omega) (by simpa using hln.2) fun c hc=>?_;obtain⟨v,hv,rfl⟩:=List.mem_map.1 hc;obtain⟨i,hi,rfl⟩:=List.mem_iff_getElem.1 hv;obtain⟨a1,a2⟩:=XT hm (by simp;omega) (by simp;omega) (i:=i) (by simpa using hi);obtain⟨f1,f2⟩:=sw hs hm (by simp;omega) (by simp;omega) _ (List.mem_map.2 ⟨ks[i],by simp,rfl⟩);simp only[T.kids_mk,T.kind_mk] at a1 a2 f1 f2;refine⟨hd ks[i],?_,f1.1,f1.2,f2⟩;have:=Xh (Qz (kid i hi));rw[this,a2];simp[nW,a1,a2]
theorem oh {l:List (List Int)} {r:Rf} (h:Em l r) (h10:r.kind ≠ 10):(C9 l r).length=(if r.kind=1 then r.data else 0).toNat:=by
 unfold C9;rw[if_neg h10];by_cases h1:r.kind=1
 ·rw[if_neg (by omega),if_pos h1];cases h with
  |str s a d k a1 a2 a3 a4 h=>
   simp only;simp only[Ie,decide_eq_true_eq] at h;obtain⟨b1,b2,b3,b4,b5⟩:=h;obtain⟨g1,g2⟩:=W3 b1 b2;simp[part,g2,szAt] at b5 ⊢;omega
  |_=>simp[Rf.zero] at h1<;>omega
 ·rw[if_pos h1,if_neg h1];rfl
theorem fh {l:List (List Int)} {r:Rf} (h:Em l r):0≤Bd r:=by
 cases h with
 |zero=>simp[Bd,Rf.zero,nk]
 |str s a d k a1 a2 a3 a4 h=>simp[Bd];omega
 |dat c s a n a1 a2 a3 a4 h=>rw[Bd,if_neg (by simp;omega),if_neg (by simp;omega)];simp[nk];split<;>omega
 |ptrs s a n a1 a2 h=>simp[Bd,nk];omega
 |comp s a d k n a1 a2 a3 a4 a5 a6 h=>
  simp[Bd];have:=Int.mul_nonneg a5 (show 0≤1+d+k by omega);omega
 |atom n a1 a2=>simp[Bd,nk]
theorem zq (l:List (List Int)) (B:Int):LB l B (fun r left=>EM l r left):=fun r hr left h0 h1=>⟨h0,h1⟩
structure Cp where
 v:Nat
 W:List Int
theorem AaY {g:Nm→Nm} {δ:Nm→Nat} (l:List Int):A.renL g δ (l.map uv)=l.map uv:=by
 rw[Dd,List.map_map];rfl
def VW (p:Pt) (at_ to:Int):Pt:={ p with off:=if p.kind=1∧p.data+p.ptrs=0 then -1 else to-at_-1 }
abbrev ptL (p:Pt):List A:=[iv p.kind,iv p.off,iv p.data,iv p.ptrs,iv p.code,iv p.count,iv p.seg,bv p.dbl]
theorem Aak {at_ to w k:Int} (h0:0≤at_) (h1:at_≤200000) (h2:0≤to) (h3:to≤200000) (w0:0≤w) (w1:w<65536) (k0:0≤k) (k1:k<65536):EU (VW ⟨1,0,w,k,0,0,0,false⟩ at_ to)=DH at_ (if w+k=0 then at_ else to) 0 (w+65536*k):=by
 by_cases hz:w+k=0
 ·have e:VW ⟨1,0,w,k,0,0,0,false⟩ at_ to=⟨1,-1,w,k,0,0,0,false⟩:=by simp[VW,hz]
  rw[e,if_pos hz];unfold EU DH;simp only;rw[if_pos trivial,if_pos (by omega),if_pos (by omega)];omega
 ·have e:VW ⟨1,0,w,k,0,0,0,false⟩ at_ to=⟨1,to-at_-1,w,k,0,0,0,false⟩:=by simp[VW,hz]
  rw[e,if_neg hz];unfold EU DH;simp only;rw[if_pos trivial,if_pos (by omega)];split<;>omega
theorem WO {at_ to c n:Int} (h0:0≤at_) (h1:at_≤200000) (h2:0≤to) (h3:to≤200000) (c0:0≤c) (c1:c≤7) (n0:0≤n) (n1:n<536870912):EU (VW ⟨2,0,0,0,c,n,0,false⟩ at_ to)=DH at_ to 1 (c+8*n):=by
 have e:VW ⟨2,0,0,0,c,n,0,false⟩ at_ to=⟨2,to-at_-1,0,0,c,n,0,false⟩:=by simp[VW]
 rw[e];unfold EU DH;simp only;rw[if_neg (by decide),if_pos trivial,if_pos (by omega)];split<;>omega
theorem Aay {l:List (List Int)} (hs:Sg l) {r:Rf} {t:T} (hm:A7 l r t) (hk:t.kind=1∨t.kind=8) {i:Nat} (hi:i<t.kids.length):t.kids[i].kind ≠ 10∧Cr (Af t.kids[i]):=by
 obtain⟨h1,h2⟩:=BN hm hi;have hr:=BD hm;have:t.kids[i].kind ≠ 10:=by
  rw[← BD h2];exact Ms (by omega) i
 exact⟨this,yK hs _ _ h2 this⟩
theorem tZ {l:List (List Int)} (hs:Sg l) {r:Rf} {t:T} (hm:A7 l r t) (hk:t.kind=1∨t.kind=8) (n i:Nat):∀ u,u ∈ ((t.kids.take n).drop i).map Af→Cr u:=fun u hu=>by
 obtain⟨v,hv,rfl⟩:=List.mem_map.1 hu;obtain⟨j,hj,rfl⟩:=List.mem_iff_getElem.1 (PD (QB hv));exact(Aay hs hm hk hj).2
theorem DZ {ts:List T} (h:∀ u,u ∈ ts→Cr u):0≤Cm ts:=by
 have:=j8 h 0 [];simp at this;omega
variable {n0:Nat} {w0:World} {I0:Nat→Prop} {M0:Nm→Nat→Prop} {m0:Mu} {Q:Exit→Sta→Prop}
theorem oc {l:List (List Int)} {r:Rf} {t:T} (hm:A7 l r t):(Af t).words.length=nW t∧(Af t).kids.length=nK t:=by
 have h1:=Xh (Qz hm);have h2:=qO (Qz hm);have:=Aa2 t;have:=Abb t;rw[h1,h2];simp;omega
theorem I8 {ts:List T} {w k:Nat} (h:∀ t,t ∈ ts→t.words.length≤w∧t.kids.length≤k):An ts≤w∧Aq ts≤k:=by
 induction ts with
 |nil=>simp[An,Aq]
 |cons t ts ih=>
  have h1:=h t (by simp);have h2:=ih fun u hu=>h u (by simp[hu]);simp only[An,Aq];omega
section
variable {n0:Nat} {w0:World} {I0:Nat→Prop} {Q:Exit→Sta→Prop}
end
theorem Qa {ts:List T} (h:∀ t,t ∈ ts→∀ u,u ∈ t.kids→Cr u):0≤E9 ts:=by
 induction ts with
 |nil=>simp
 |cons t ts ih=>
  rw[Oe];have:=DZ (h t (by simp));have:=ih fun u hu=>h u (by simp[hu]);omega
theorem IU {c:Int} (h0:0≤c) (h6:c<6):∃ w:Nat,AD c=w∧Ux c=w∧(w=0∨w=1∨w=8∨w=16∨w=32∨w=64):=by
 have:c=0∨c=1∨c=2∨c=3∨c=4∨c=5:=by omega
 rcases this with rfl | rfl | rfl | rfl | rfl | rfl
 ·exact⟨0,rfl,rfl,by simp⟩
 ·exact⟨1,rfl,rfl,by simp⟩
 ·exact⟨8,rfl,rfl,by simp⟩
 ·exact⟨16,rfl,rfl,by simp⟩
 ·exact⟨32,rfl,rfl,by simp⟩
 ·exact⟨64,rfl,rfl,by simp⟩
theorem Wl {c n:Int} {w:Nat} (hw:AD c=w) (h0:0≤n) (h:GA c n=true):n<2 ^ w:=by
 simp only[GA,Bool.and_eq_true,decide_eq_true_eq,hw] at h;have hp:(0:Int)<2 ^ w:=Int.pow_pos (by decide);have h2:=h.2;simp only[Int.toNat_natCast] at h2;have h3:=Int.emod_add_mul_ediv n (2 ^ w);rw[h2,Int.mul_zero,Int.add_zero] at h3;rw[← h3];exact Int.emod_lt_of_pos _ hp
theorem xw {i w:Nat} (hw:w≤64) (hi:i≤1000000000):i64.wrap ((i:Int)*w)=(i:Int)*w∧((i:Int)*w).tmod 64=((i*w % 64:Nat):Int)∧((i:Int)*w).tdiv 64=((i*w / 64:Nat):Int):=by
 have him:i*w≤1000000000*64:=Nat.mul_le_mul hi hw;have e:(i:Int)*w=((i*w:Nat):Int):=by rw[Int.natCast_mul]
 rw[e];refine⟨Av (by omega) (by omega),?_,?_⟩
 ·rw[Int.tmod_eq_emod_of_nonneg (by omega)];omega
 ·rw[Int.tdiv_eq_ediv_of_nonneg (by omega)];omega
section
variable {n0:Nat} {w0:World} {I0:Nat→Prop} {Q:Exit→Sta→Prop}
end
end Go.Proofs.YtbjmaoedheiigaaGreat
namespace Go.PL
def EL {α:Type} (p:α→Bool) (l:List α):List α:=(l.reverse.dropWhile p).reverse
theorem Y8 {α:Type} {p:α→Bool} (l:List α) (x:α):EL p (l++[x])=if p x=true then EL p l else l++[x]:=by
 unfold EL;rw[List.reverse_append,List.reverse_singleton,List.singleton_append,List.dropWhile_cons];split<;>simp
theorem pO {α:Type} {P:List α→Prop} (h0:P []) (h1:∀ l x,P l→P (l++[x])) (l:List α):P l:=by
 have:∀ m:List α,P m.reverse:=by
  intro m;induction m with
  |nil=>exact h0
  |cons x m ih=>rw[List.reverse_cons];exact h1 _ _ ih
 have:=this l.reverse
 rwa [List.reverse_reverse] at this
theorem FB {α:Type} {p:α→Bool} {z:α} (l:List α):(∀ x,x ∈ l→p x=true→x=z)→∀ i,(EL p l).getD i z=l.getD i z:=by
 refine pO (P:=fun l=>(∀ x,x ∈ l→p x=true→x=z)→∀ i,(EL p l).getD i z=l.getD i z) (fun _ i=>rfl) (fun l x ih h i=>?_) l;rw[Y8];split
 ·rename_i hx;rw[ih (fun y hy=>h y (by simp[hy])) i];have:=h x (by simp) hx;subst this;simp only[List.getD_eq_getElem?_getD,List.getElem?_append];split
  ·rfl
  ·rw[List.getElem?_eq_none (by omega)];by_cases e:i-l.length=0
   ·simp[e]
   ·rw[List.getElem?_eq_none (by simp;omega)]
 ·rfl
theorem kJ {α:Type} {p:α→Bool} {z:α} (l:List α):EL p l ≠ []→p ((EL p l).getD ((EL p l).length-1) z)=false:=by
 refine pO (P:=fun l=>EL p l ≠ []→p ((EL p l).getD ((EL p l).length-1) z)=false) (fun h=>absurd rfl h) (fun l x ih h=>?_) l;rw[Y8] at h ⊢;split
 ·rename_i hx;rw[if_pos hx] at h;exact ih h
 ·rename_i hx;simp at hx ⊢;exact hx
theorem j5 {α:Type} {p:α→Bool} {z:α} (hz:p z=true) {a b:List α} (ha:∀ x,x ∈ a→p x=true→x=z) (hb:∀ x,x ∈ b→p x=true→x=z):EL p a=EL p b ↔ ∀ i,a.getD i z=b.getD i z:=by
 constructor
 ·intro h i;rw[← FB a ha,h,FB b hb]
 ·intro h;have h':∀ i,(EL p a).getD i z=(EL p b).getD i z:=fun i=>by rw[FB a ha,FB b hb,h]
  have one:∀ c d:List α,(∀ i,(EL p c).getD i z=(EL p d).getD i z)→(EL p c).length≤(EL p d).length:=fun c d hcd=>by
   by_cases e:EL p c=[]
   ·simp[e]
   ·have hl:=kJ (z:=z) c e;have hpos:0<(EL p c).length:=List.length_pos_iff.2 e;rw[hcd] at hl;refine Nat.le_of_not_lt fun hlt=>?_;rw[List.getD_eq_getElem?_getD,List.getElem?_eq_none (by omega)] at hl;simp[hz] at hl
  have hlen:(EL p a).length=(EL p b).length:=Nat.le_antisymm (one a b h') (one b a fun i=>(h' i).symm);apply List.ext_getElem hlen;intro i h1 h2;have:=h' i;simpa[List.getD_eq_getElem?_getD,h1,h2] using this
theorem V0 (l:List Int):CM l=EL (fun x=>x == 0) l:=rfl
theorem V5 (l:List T):BZ l=EL (fun x=>x.kind == 0) l:=rfl
theorem wO {a b:List Int}:CM a=CM b ↔ ∀ i,a.getD i 0=b.getD i 0:=by
 rw[V0,V0];exact j5 rfl (fun x _ h=>by simpa using h) (fun x _ h=>by simpa using h)
theorem FN {t:T} (h:t.kind=0):Af t=T0:=by cases t;simp at h;rw[AL,if_pos h]
theorem FY:Af T0=T0:=FN rfl
theorem F3 (l:List T) (i:Nat):(l.map Af).getD i T0=Af (l.getD i T0):=by
 simp only[List.getD_eq_getElem?_getD,List.getElem?_map];cases l[i]? with
 |none=>simp[FY]
 |some x=>rfl
theorem vK {a b:List T}:BZ (a.map Af)=BZ (b.map Af) ↔ ∀ i,Af (a.getD i T0)=Af (b.getD i T0):=by
 have hz:∀ c:List T,∀ x,x ∈ c.map Af→(x.kind == 0)=true→x=T0:=fun c x hx h0=>by
  obtain⟨y,_,rfl⟩:=List.mem_map.1 hx;simp at h0;exact FN h0
 rw[V5,V5,j5 (z:=T0) rfl (hz a) (hz b)];constructor
 ·intro h i;rw[← F3,← F3];exact h i
 ·intro h i;rw[F3,F3];exact h i
theorem struct_eq {w w':List Int} {a b:List T}:Af (.mk 1 w a)=Af (.mk 1 w' b) ↔ (∀ i,w.getD i 0=w'.getD i 0)∧∀ i,Af (a.getD i T0)=Af (b.getD i T0):=by
 rw[AL,AL];simp only[if_neg (show ¬ (1:Int)=0 by decide),if_true,T.mk.injEq,true_and];rw[wO,vK]
theorem Me {k:Int} {w w':List Int} {a b:List T} (h0:k ≠ 0) (h1:k ≠ 1):Af (.mk k w a)=Af (.mk k w' b) ↔ w=w'∧a.map Af=b.map Af:=by
 rw[AL,AL];simp[h0,h1]
theorem Cz:∀ t,Af (Af t)=Af t:=by
 refine T.ind fun k w ks ih=>?_;have hm:(ks.map Af).map Af=ks.map Af:=by
  rw[List.map_map];exact List.map_congr_left fun x hx=>ih x hx
 rw[AL];split
 ·exact FY
 ·rename_i h0;split
  ·rename_i h1;subst h1;rw[struct_eq (w':=w) (b:=ks) |>.2 ⟨fun i=>?_,fun i=>?_⟩,AL]
   ·simp
   ·rw[V0];exact FB w (fun x _ h=>by simpa using h) i
   ·have hz:∀ x,x ∈ ks.map Af→(x.kind == 0)=true→x=T0:=fun x hx h0=>by
     obtain⟨y,_,rfl⟩:=List.mem_map.1 hx;simp at h0;exact FN h0
    rw[V5,FB _ hz i,← F3,hm,F3]
  ·rename_i h1;rw[AL,if_neg h0,if_neg h1,hm]
def Q4 (w:Nat) (out:List Int) (j:Nat):Int:=out.getD (j*w / 64) 0 / 2 ^ (j*w % 64) % 2 ^ w
theorem bd {a b:Nat}:(2:Int) ^ (a+b)=2 ^ a*2 ^ b:=Int.pow_add _ _ _
theorem sI {x n:Int} {a b w:Nat} (h:a+w≤b):(x+n*2 ^ b) / 2 ^ a % 2 ^ w=x / 2 ^ a % 2 ^ w:=by
 obtain⟨c,rfl⟩:∃ c,b=a+(w+c):=⟨b-a-w,by omega⟩;have pa:(0:Int)<2 ^ a:=Int.pow_pos (by decide);have e:n*2 ^ (a+(w+c))=(n*2 ^ c*2 ^ w)*2 ^ a:=by
  rw[bd,bd];rw[Int.mul_comm ((2:Int) ^ w) (2 ^ c),Int.mul_comm ((2:Int) ^ a),← Int.mul_assoc,← Int.mul_assoc]
 rw[e,Int.add_mul_ediv_right _ _ (by omega),Int.add_mul_emod_self_right]
theorem lZ {x n:Int} {b w:Nat} (h0:0≤x) (h1:x<2 ^ b) (n0:0≤n) (n1:n<2 ^ w):(x+n*2 ^ b) / 2 ^ b % 2 ^ w=n:=by
 have pb:(0:Int)<2 ^ b:=Int.pow_pos (by decide);rw[Int.add_mul_ediv_right _ _ (by omega),Int.ediv_eq_zero_of_lt h0 h1,Int.zero_add,Int.emod_eq_of_lt n0 n1]
theorem Qf {l:List Int} {q:Nat} {x:Int} (h:q<l.length):(l.set q x).getD q 0=x:=by simp[List.getD_eq_getElem?_getD,h]
theorem X9 {l:List Int} {q p:Nat} {x:Int} (h:q ≠ p):(l.set q x).getD p 0=l.getD p 0:=by simp[List.getD_eq_getElem?_getD,List.getElem?_set_ne h]
theorem Qk {w:Nat} (hw:w=1∨w=8∨w=16∨w=32∨w=64):∀ (ns:List Int) (i:Nat) (out:List Int),PutI w i out→(∀ x,x ∈ ns→0≤x∧x<2 ^ w)→(∀ j,j<i+ns.length→j*w / 64<out.length) →
  (∀ j,j<i→Q4 w (Lx w ns i out) j=Q4 w out j)∧∀ (j:Nat) (h:j<ns.length),Q4 w (Lx w ns i out) (i+j)=ns[j]
 |[],i,out,_,_,_=>⟨fun j _=>by rw[Lx],fun j h=>by simp at h⟩
 |n::ns,i,out,h,hn,hl=>by
  have hat:=hl i (by simp);obtain⟨n0,n1⟩:=hn n (by simp);obtain⟨g,x0,x1,g2,g3⟩:=Uc h hw n0 n1 hat;have hrec:=Qk hw ns (i+1) _ g (fun x hx=>hn x (by simp[hx])) (fun j hj=>by rw[List.length_set];exact hl j (by simp;omega));obtain⟨r1,r2⟩:=hrec;rw[Lx,if_neg (by omega)];refine⟨fun j hj=>?_,fun j hj=>?_⟩
  ·rw[r1 j (by omega)];unfold Q4;by_cases hq:i*w / 64=j*w / 64
   ·rw[← hq,Qf hat];refine sI ?_;have h1:(j+1)*w≤i*w:=Nat.mul_le_mul_right _ hj;rw[Nat.add_mul,Nat.one_mul] at h1;omega
   ·rw[X9 hq]
  ·cases j with
   |zero=>
    have e0:i+0=i:=rfl;rw[e0,r1 i (by omega)];unfold Q4;rw[Qf hat];exact lZ x0 x1 n0 n1
   |succ j=>
    have:=r2 j (by simpa using hj);rw[show i+(j+1)=i+1+j by omega];simpa using this
theorem pV {f:Nat→List Int→List Int} {n:Nat} (h:LS f n) (hm:LM f) {a p:Nat} {l:List Int} (hp:p<l.length) (hr:p<a∨a+n≤p):(f a l)[p]? = l[p]?:=by
 have h1:=h a p l[p] l hp hr;rw[List.set_getElem_self] at h1;have h2:=hm a l;rw[h1,List.getElem?_set_self (by omega),List.getElem?_eq_getElem hp]
theorem Aba {t:T} {a p:Nat} {l:List Int} (hp:p<l.length) (hr:p ≠ a):(Dr t a l)[p]? = l[p]?:=pV (MI t).1.1 (MI t).1.2 hp (by omega)
theorem Fh (ts:List T):LM (CU ts):=(SY fun t _=>(MI t).1).2
theorem O2 (w k:Nat) (ts:List T):LM (IP w k ts):=(cZ (w:=w) (k:=k) fun t _=>(MI t).2).2
theorem LV {ts:List T} {a p:Nat} {l:List Int} (hp:p<l.length) (hr:p<a∨a+ts.length≤p):(CU ts a l)[p]? = l[p]?:=pV (ik ts) (Fh ts) hp hr
theorem BU (i m:Nat):(i+1)*m=m+i*m:=by rw[Nat.add_mul,Nat.one_mul,Nat.add_comm]
theorem NV {w k:Nat}:∀ {ts:List T} {b p:Nat} {l:List Int},(∀ t,t ∈ ts→t.kids.length≤k)→p<l.length→(∀ i,i<ts.length→¬ (b+i*(w+k)+w≤p∧p<b+i*(w+k)+w+k))→(IP w k ts b l)[p]? = l[p]?
 |[],b,p,l,_,_,_=>by rw[vw]
 |t::ts,b,p,l,hk,hp,hr=>by
  have h0:=hr 0 (by simp);have hkt:=hk t (by simp);have hm:=Fh t.kids (b+w) l;rw[FZ,NV (fun u hu=>hk u (by simp[hu])) (by omega) (fun i hi=>?_),LV hp (by omega)];have:=hr (i+1) (by simp;omega);rw[BU] at this;omega
theorem Ty {w k:Nat}:∀ {ts:List T},(∀ t,t ∈ ts→t.words.length≤w)→∀ (i:Nat) (hi:i<ts.length) (j:Nat),j<w+k→(Ha w k ts)[i*(w+k)+j]? = some (ts[i].words.getD j 0)
 |t::ts,h,i,hi,j,hj=>by
  have ht:=h t (by simp);have hlen:(t.words++List.replicate (w+k-t.words.length) (0:Int)).length=w+k:=by simp;omega
  rw[Ha];cases i with
  |zero=>
   rw[List.getElem?_append_left (by rw[hlen];omega)];simp only[Nat.zero_mul,Nat.zero_add,List.getElem_cons_zero];rw[List.getElem?_append];split
   ·rename_i hl;rw[List.getD_eq_getElem?_getD,List.getElem?_eq_getElem hl];rfl
   ·rename_i hl;rw[List.getElem?_replicate,if_pos (by omega),List.getD_eq_getElem?_getD,List.getElem?_eq_none (by omega)];rfl
  |succ i=>
   rw[List.getElem?_append_right (by rw[hlen,BU];omega),hlen,show(i+1)*(w+k)+j-(w+k)=i*(w+k)+j by rw[BU];omega];rw[Ty (fun u hu=>h u (by simp[hu])) i (by simpa using hi) j hj];simp
theorem TT {B:Nat} (hB:0<B):∀ {ts:List T},(∀ t,t ∈ ts→t.words.length<B)→An ts<B
 |[],_=>hB
 |t::ts,h=>by
  have h1:=h t (by simp);have h2:=TT hB (ts:=ts) fun u hu=>h u (by simp[hu]);simp only[An];omega
theorem Tr {B:Nat} (hB:0<B):∀ {ts:List T},(∀ t,t ∈ ts→t.kids.length<B)→Aq ts<B
 |[],_=>hB
 |t::ts,h=>by
  have h1:=h t (by simp);have h2:=Tr hB (ts:=ts) fun u hu=>h u (by simp[hu]);simp only[Aq];omega
theorem NT {α:Type} {n:Nat} {P:Nat→α→Prop} (h:∀ i,i<n→∃ u,P i u):∃ us:List α,us.length=n∧∀ (i:Nat) (hi:i<us.length),P i us[i]:=by
 induction n with
 |zero=>exact⟨[],rfl,fun i hi=>by simp at hi⟩
 |succ n ih=>
  obtain⟨us,h1,h2⟩:=ih fun i hi=>h i (by omega);obtain⟨u,hu⟩:=h n (by omega);refine⟨us++[u],by simp[h1],fun i hi=>?_⟩;rw[List.getElem_append];split
  ·exact h2 i _
  ·have:i=n:=by simp at hi;omega
   subst this;simpa using hu
theorem Lp {a b:List T} (hl:a.length=b.length) (h:∀ (i:Nat) (h1:i<a.length) (h2:i<b.length),Af a[i]=Af b[i]):a.map Af=b.map Af:=by
 apply List.ext_getElem (by simpa using hl);intro i h1 h2;simp only[List.getElem_map];exact h i (by simpa using h1) (by simpa using h2)
end Go.PL
