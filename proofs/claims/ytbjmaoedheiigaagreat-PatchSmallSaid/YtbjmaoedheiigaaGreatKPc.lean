/-
 Texts,merged,without what is not reached.
-/
import Derived.Test.YtbjmaoedheiigaaGreatKPb
set_option linter.unusedSimpArgs false
set_option linter.unusedVariables false
open Go.IntKind (i64 u64)
namespace Go.Proofs.YtbjmaoedheiigaaGreat
set_option maxRecDepth 20000
open Go Go.G Go.Proofs
@[simp] theorem AkU:D9 Tryz.prog 23=some 1:=by kernel_rfl
@[simp] theorem Aky:D9 Tryz.prog 25=some 3:=by kernel_rfl
@[simp] theorem AjH:Ey Tryz.prog 23=some false:=by kernel_rfl
@[simp] theorem Aiu:Ey Tryz.prog 25=some true:=by kernel_rfl
@[simp] theorem AgR:BW Tryz.prog 25=some (Value.agg #[Value.int i64 0,Value.slice none 0 0,Value.slice none 0 0]):=by kernel_rfl
@[simp] theorem Afi:Cv Tryz.prog 25=some 56:=by kernel_rfl
@[simp] theorem vn:Al Tryz.prog 25 0=some 0:=by kernel_rfl
@[simp] theorem uC:Al Tryz.prog 25 1=some 1:=by kernel_rfl
@[simp] theorem vG:Al Tryz.prog 25 2=some 2:=by kernel_rfl
@[simp] theorem Afe (ps:List (Nat × A)):CS Tryz.prog 25 ps=(Dy (fun i=>([(0,1),(1,1),(2,1)]:List (Nat × Nat))[i]?) [A.v (Value.int i64 0),A.sl true [],A.sl true []] ps).map A.agg:=by kernel_rfl
def CA:CC:=sQ [mO 78 5,fO 79 25 2 2,lO 80 23 79,bN 81 80 23,bB .lss 82 3 78 81 3] [1,2,5,82] (cD 82 (.skip) (.exit 0)) [1,2,5] (.seq (.block 1 (sR [fO 85 25 2 2,lO 86 23 85,mO 87 5,iO 88 23 86 87,lO 89 25 88,aL 6 25 [1],sT 25 6 89] [1,2,5,6] (sQ [lO 90 25 6,mO 91 1,bQ .sub 92 3 91 1 3,cB 93 28 90 92 25 3,oO 94 (.unOp .not 4 (xT 93))] [1,2,5,6,94] (cD 94 (sR [aB 4 false] [4] (.ret)) (.skip)) [1,2,5,6] (sR [fO 95 25 2 0,lO 96 3 95,bQ .geq 97 3 96 2 3,mO 98 97,fG 99 25 2 0 98 true,lG 100 3 99 98 true,oG 101 (.binOp .leq 3 (xT 100) (nI 7) 3) 98 true,pF 102 98 101,aO 7 102] [1,2,5,6,7] (sR [mO 103 7,fO 104 25 6 0,lO 105 3 104,bQ .eql 106 3 105 10 3,bB .neq 107 4 103 106 4,mO 108 107,fG 109 25 2 0 108 false,lG 110 3 109 108 false,oG 111 (.binOp .eql 3 (xT 110) (nI 9) 3) 108 false,mG 112 111 108 false,fG 113 25 6 0 112 true,lG 114 3 113 112 true,oG 115 (.binOp .neq 3 (xT 114) (nI 1) 3) 112 true,oG 116 (.pick (xT 112) (xT 115) (nB false)) 108 false,pT 117 108 116,mO 118 117,mG 119 7 118 false,mG 120 119 118 false,fG 121 25 2 0 120 true,lG 122 3 121 120 true,oG 123 (.binOp .sub 3 (xT 122) (nI 2) 3) 120 true,fG 124 25 6 1 120 true,lG 125 22 124 120 true,oG 126 (.indexAddr 22 (xT 125) (nI 0)) 120 true,lG 127 51 126 120 true,oG 128 (cL 57 #[(xT 123),(xT 127)] #[3,51]) 120 true,oG 129 (.unOp .not 4 (xT 128)) 120 true,oG 130 (.pick (xT 120) (xT 129) (nB false)) 118 false,pT 131 118 130] [1,2,5,131] (cD 131 (sR [aB 4 false] [4] (.ret)) (.skip))))))) (.keep [1,2,5] (.reg [mO 83 5,bQ .add 84 3 83 1 3,aO 5 84] [1,2,5]))) 
def Kc:CC:=sR [bX 2 25 0 [0],aB 4 false] [1,2] (sQ [fO 8 25 2 0,lO 9 3 8,bQ .eql 10 3 9 0 3] [1,2,10] (cD 10 (sR [fO 11 25 2 1,lO 12 22 11,bN 13 12 22,bQ .eql 14 3 13 0 3,mO 15 14,fG 16 25 2 2 15 true,lG 17 23 16 15 true,oG 18 (bL 17 23) 15 true,oG 19 (.binOp .eql 3 (xT 18) (nI 0) 3) 15 true,pF 20 15 19,aO 4 20] [4] (.ret)) (.skip)) [1,2] (sQ [fO 21 25 2 0,lO 22 3 21,bQ .eql 23 3 22 10 3] [1,2,23] (cD 23 (sR [fO 24 25 2 1,lO 25 22 24,bN 26 25 22,bQ .eql 27 3 26 1 3,mO 28 27,fG 29 25 2 2 28 true,lG 30 23 29 28 true,oG 31 (bL 30 23) 28 true,oG 32 (.binOp .eql 3 (xT 31) (nI 0) 3) 28 true,pF 33 28 32,aO 4 33] [4] (.ret)) (.skip)) [1,2] (sQ [fO 34 25 2 0,lO 35 3 34,bQ .lss 36 3 35 0 3,mO 37 36,fG 38 25 2 0 37 false,lG 39 3 38 37 false,oG 40 (.binOp .gtr 3 (xT 39) (nI 10) 3) 37 false,pT 41 37 40,mO 42 41,mG 43 1 42 false,oG 44 (.binOp .eql 3 (xT 43) (nI 0) 3) 42 false,pT 45 42 44,mO 46 45,fG 47 25 2 1 46 false,lG 48 22 47 46 false,oG 49 (bL 48 22) 46 false,oG 50 (.binOp .geq 3 (xT 49) (nI 65536) 3) 46 false,pT 51 46 50,mO 52 51,fG 53 25 2 0 52 false,lG 54 3 53 52 false,oG 55 (.binOp .eql 3 (xT 54) (nI 1) 3) 52 false,mG 56 55 52 false,fG 57 25 2 2 56 true,lG 58 23 57 56 true,oG 59 (bL 58 23) 56 true,oG 60 (.binOp .geq 3 (xT 59) (nI 65536) 3) 56 true,oG 61 (.pick (xT 56) (xT 60) (nB false)) 52 false,pT 62 52 61,mO 63 62,fG 64 25 2 2 63 false,lG 65 23 64 63 false,oG 66 (bL 65 23) 63 false,oG 67 (.binOp .geq 3 (xT 66) (nI 1048576) 3) 63 false,pT 68 63 67] [1,2,68] (cD 68 (sR [aB 4 false] [4] (.ret)) (.skip)) [1,2] (sQ [fO 69 25 2 0,lO 70 3 69,bQ .gtr 71 3 70 1 3,mO 72 71,fG 73 25 2 1 72 true,lG 74 22 73 72 true,oG 75 (bL 74 22) 72 true,oG 76 (.binOp .gtr 3 (xT 75) (nI 0) 3) 72 true,pF 77 72 76] [1,2,77] (cD 77 (sR [aB 4 false] [4] (.ret)) (.skip)) [1,2] (sQ [aI 5 0] [1,2,5] (.block 0 (.loop CA)) [] (sR [aB 4 true] [4] (.ret)))))))
theorem QZ:Bm Tryz.prog 28 132 [(.tmp 4)] Kc:=Aw Tryz.func28
def EE:CC:=sQ [mO 12 5,fO 13 25 1 2,lO 14 23 13,bN 15 14 23,bB .lss 16 3 12 15 3] [1,2,3,4,5,16] (cD 16 (.skip) (.exit 0)) [1,2,3,4,5] (.seq (.block 1 (sR [fO 19 25 1 2,lO 20 23 19,mO 21 5,iO 22 23 20 21,lO 23 25 22,cA 24 32 23 25,aL 6 25 [2],sT 25 6 24] [1,2,3,4,5,6] (sR [mO 25 3,lO 26 25 6,oO 27 (.buildSlice 23 1 #[(0,(xT 26))]),aP 28 25 27 23 23 [3],aO 3 28] [1,2,3,4,5,6] (sR [fO 29 25 6 0,lO 30 3 29,bQ .neq 31 3 30 0 3] [1,2,3,4,5,31] (cD 31 (.reg [mO 32 5,bQ .add 33 3 32 1 3,aO 4 33] [1,2,3,4,5]) (.skip)))))) (.keep [1,2,3,4,5] (.reg [mO 17 5,bQ .add 18 3 17 1 3,aO 5 18] [1,2,3,4,5]))) 
def Lk:CC:=sR [bX 1 25 0 [0],aL 2 25 [1]] [1,2] (sQ [fO 8 25 1 0,lO 9 3 8,bQ .eql 10 3 9 0 3] [1,2,10] (cD 10 (sR [oO 11 (.build 25 #[]),sT 25 2 11] [2] (.ret)) (.skip)) [1,2] (sR [aN 3] [1,2,3] (sR [aI 4 0] [1,2,3,4] (sQ [aI 5 0] [1,2,3,4,5] (.block 0 (.loop EE)) [1,2,3,4] (sQ [fO 34 25 1 0,lO 35 3 34,bQ .eql 36 3 35 1 3] [1,2,3,4,36] (cD 36 (sR [fO 37 25 1 1,lO 38 22 37,cA 39 64 38 22,mO 40 3,mO 41 4,oO 42 (.slice 23 (xT 40) none (some (xT 41)) none),oO 43 (.build 25 #[(0,(nI 1)),(1,(xT 39)),(2,(xT 42))]),sT 25 2 43] [2] (.ret)) (.skip)) [1,2,3] (sR [aN 7] [1,2,3,7] (sR [mO 44 7,fO 45 25 1 1,lO 46 22 45,aP 47 44 46 22 22 [4],aO 7 47] [1,2,3,7] (sR [fO 48 25 1 0,lO 49 3 48,mO 50 7,mO 51 3,oO 52 (.build 25 #[(0,(xT 49)),(1,(xT 50)),(2,(xT 51))]),sT 25 2 52] [2] (.ret)))))))))
theorem Tc:Bm Tryz.prog 32 53 [(.cell 2 25)] Lk:=Aw Tryz.func32
def Jw:CC:=sR [fO 30 25 1 2,lO 31 23 30,mO 32 6,iO 33 23 31 32,fO 34 25 33 2,lO 35 23 34,bN 36 35 23,mO 37 5,bB .gtr 38 3 36 37 3] [1,4,5,6,38] (cD 38 (.reg [fO 39 25 1 2,lO 40 23 39,mO 41 6,iO 42 23 40 41,fO 43 25 42 2,lO 44 23 43,bN 45 44 23,aO 5 45] [1,4,5,6]) (.skip))
def Ec:CC:=sQ [mO 7 6,fO 8 25 1 2,lO 9 23 8,bN 10 9 23,bB .lss 11 3 7 10 3] [1,4,5,6,11] (cD 11 (.skip) (.exit 0)) [1,4,5,6] (.seq (.block 1 (sQ [fO 14 25 1 2,lO 15 23 14,mO 16 6,iO 17 23 15 16,fO 18 25 17 1,lO 19 22 18,bN 20 19 22,mO 21 4,bB .gtr 22 3 20 21 3] [1,4,5,6,22] (cD 22 (.reg [fO 23 25 1 2,lO 24 23 23,mO 25 6,iO 26 23 24 25,fO 27 25 26 1,lO 28 22 27,bN 29 28 22,aO 4 29] [1,4,5,6]) (.skip)) [1,4,5,6] Jw)) (.keep [1,4,5,6] (.reg [mO 12 6,bQ .add 13 3 12 1 3,aO 6 13] [1,4,5,6]))) 
def Kq:CC:=sR [bX 1 25 0 [0],aI 2 0,aI 3 0] [1] (sR [aI 4 0,aI 5 0] [1,4,5] (sQ [aI 6 0] [1,4,5,6] (.block 0 (.loop Ec)) [4,5] (sR [mO 46 4,mO 47 5,aO 2 46,aO 3 47] [2,3] (.ret))))
theorem Qs:Bm Tryz.prog 66 48 [(.tmp 2),(.tmp 3)] Kq:=Aw Tryz.func66
def DA:CC:=sQ [mO 20 7,fO 21 25 3 2,lO 22 23 21,bN 23 22 23,bB .lss 24 3 20 23 3,mO 25 24,mG 26 2 25 true,oG 27 (.binOp .geq 3 (xT 26) (nI 0) 3) 25 true,pF 28 25 27] [1,2,3,7,28] (cD 28 (.skip) (.exit 0)) [1,2,3,7] (.seq (.block 1 (.reg [fO 31 25 3 2,lO 32 23 31,mO 33 7,iO 34 23 32 33,lO 35 25 34,mO 36 1,bQ .sub 37 3 36 1 3,mO 38 2,cE 39 27 35 37 38 25 3 3,aO 2 39] [1,2,3,7])) (.reg [mO 29 7,bQ .add 30 3 29 1 3,aO 7 30] [1,2,3,7])) 
def I9:CC:=sR [bX 3 25 0 [0],aI 6 0] [1,2,3] (sR [mO 8 2,bQ .sub 9 3 8 1 3,fO 10 25 3 1,lO 11 22 10,bN 12 11 22,bB .sub 13 3 9 12 3,aO 2 13] [1,2,3] (sQ [mO 14 1,bQ .eql 15 3 14 0 3,mO 16 15,mG 17 2 16 false,oG 18 (.binOp .lss 3 (xT 17) (nI 0) 3) 16 false,pT 19 16 18] [1,2,3,19] (cD 19 (sR [oO 6 (.assign (.const (.int .i64 (-1))))] [6] (.ret)) (.skip)) [1,2,3] (sQ [aI 7 0] [1,2,3,7] (.block 0 (.loop DA)) [2] (sR [mO 40 2,aO 6 40] [6] (.ret)))))
theorem NM:Bm Tryz.prog 27 41 [(.tmp 6)] I9:=Aw Tryz.func27
def Iu:CC:=sR [bB .lss 12 3 11 10 3] [4,5,9,10,11,12] (.seq (cD 12 (.skip) (.exit 0)) (.keep [4,5,9,10,11] (.seq (.block 1 (sR [iO 13 23 9 11,lO 14 25 13,aL 7 25 [1],sT 25 7 14] [4,5,7,9,10,11] (.reg [mO 15 4,fO 16 25 7 1,lO 17 22 16,bN 18 17 22,oO 19 (bC .max #[(xT 15),(xT 18)] #[3,3]),mO 20 5,fO 21 25 7 2,lO 22 23 21,bN 23 22 23,oO 24 (bC .max #[(xT 20),(xT 23)] #[3,3]),aO 4 19,aO 5 24] [4,5,9,10,11]))) (.reg [bQ .add 25 3 11 1 3,mO 11 25] [4,5,9,10,11])))) 
def Th:CC:=sR [bX 1 25 0 [0],aI 2 0,aI 3 0] [1] (sR [aI 4 0,aI 5 0] [1,4,5] (sQ [fO 8 25 1 2,lO 9 23 8,bN 10 9 23,oO 11 (.move (nI 0))] [4,5,9,10,11] (.block 0 (.loop Iu)) [4,5] (sR [mO 26 4,mO 27 5,aO 2 26,aO 3 27] [2,3] (.ret))))
theorem eH:Bm Tryz.prog 183 28 [(.tmp 2),(.tmp 3)] Th:=Aw Tryz.func183
def JR:CC:=sR [bB .lss 20 3 19 18 3] [1,2,3,17,18,19,20] (.seq (cD 20 (.skip) (.exit 0)) (.keep [1,2,3,17,18,19] (.seq (.block 1 (sR [iO 21 23 17 19,lO 22 25 21,aL 5 25 [3],sT 25 5 22] [1,2,3,5,17,18,19] (.reg [fO 23 25 3 2,lS 24 23 23 1,lO 25 25 5,⟨some 26,(cL 31 #[(xT 25)] #[25]),none,[],3,[1],false⟩,⟨some 27,(.buildSlice 23 1 #[(0,(xT 26))]),none,[],4,[1],false⟩,aP 28 24 27 23 23 [4],fO 29 25 3 2,sT 23 29 28] [1,2,3,17,18,19]))) (.reg [bQ .add 30 3 19 1 3,mO 19 30] [1,2,3,17,18,19]))))
def JD:CC:=sQ [fO 34 25 3 1,lO 35 22 34,bN 36 35 22,bQ .gtr 37 3 36 0 3,mO 38 37,fG 39 25 3 1 38 true,lG 40 22 39 38 true,fG 41 25 3 1 38 true,lG 42 22 41 38 true,oG 43 (bL 42 22) 38 true,oG 44 (.binOp .sub 3 (xT 43) (nI 1) 3) 38 true,oG 45 (iA 22 40 44) 38 true,lG 46 51 45 38 true,oG 47 (.binOp .eql 51 (xT 46) (.const (.int .u64 0)) 51) 38 true,pF 48 38 47] [2,3,48] (cD 48 (.skip) (.exit 2)) [2,3] (.block 3 (.reg [fO 49 25 3 1,lO 50 22 49,fO 51 25 3 1,lO 52 22 51,bN 53 52 22,bQ .sub 54 3 53 1 3,oO 55 (.slice 22 (xT 50) none (some (xT 54)) none),fO 56 25 3 1,sT 22 56 55] [2,3]))
def JF:CC:=sQ [fO 57 25 3 2,lO 58 23 57,bN 59 58 23,bQ .gtr 60 3 59 0 3,mO 61 60,fG 62 25 3 2 61 true,lG 63 23 62 61 true,fG 64 25 3 2 61 true,lG 65 23 64 61 true,oG 66 (bL 65 23) 61 true,oG 67 (.binOp .sub 3 (xT 66) (nI 1) 3) 61 true,oG 68 (iA 23 63 67) 61 true,fG 69 25 68 0 61 true,lG 70 3 69 61 true,oG 71 (.binOp .eql 3 (xT 70) (nI 0) 3) 61 true,pF 72 61 71] [2,3,72] (cD 72 (.skip) (.exit 4)) [2,3] (.block 5 (.reg [fO 73 25 3 2,lO 74 23 73,fO 75 25 3 2,lO 76 23 75,bN 77 76 23,bQ .sub 78 3 77 1 3,oO 79 (.slice 23 (xT 74) none (some (xT 78)) none),fO 80 25 3 2,sT 23 80 79] [2,3])) 
def UI:CC:=sR [bX 1 25 0 [0],aL 2 25 [1]] [1,2] (sQ [fO 6 25 1 0,lO 7 3 6,bQ .eql 8 3 7 0 3] [1,2,8] (cD 8 (sR [oO 9 (.build 25 #[]),sT 25 2 9] [2] (.ret)) (.skip)) [1,2] (sR [fO 10 25 1 0,lS 11 3 10 1,fO 12 25 1 1,lS 13 22 12 3,⟨some 14,(cL 63 #[(xT 13)] #[22]),none,[],4,[1],true⟩,oO 15 (.build 25 #[(0,(xT 11)),(1,(xT 14))]),⟨some 3,(.alloc 25),none,[2],6,[1,3,4],false⟩,sT 25 3 15] [1,2,3] (sQ [fO 16 25 1 2,lO 17 23 16,bN 18 17 23,oO 19 (.move (nI 0))] [1,2,3,17,18,19] (.block 0 (.loop JR)) [1,2,3] (sQ [fO 31 25 1 0,lO 32 3 31,bQ .eql 33 3 32 1 3] [2,3,33] (cD 33 (.seq (.block 2 (.loop JD)) (.keep [2,3] (.block 4 (.loop JF)))) (.skip)) [2,3] (sR [lO 81 25 3,sT 25 2 81] [2] (.ret))))))
theorem jJ:Bm Tryz.prog 31 82 [(.cell 2 25)] UI:=Aw Tryz.func31
def JA:CC:=sR [bB .lss 60 3 59 58 3] [3,57,58,59,60] (.seq (cD 60 (.skip) (.exit 1)) (.keep [3,57,58,59] (.seq (.block 2 (sR [iO 61 23 57 59,lO 62 25 61,aL 7 25 [1],sT 25 7 62] [3,7,57,58,59] (.reg [mO 63 3,lO 64 25 7,⟨some 65,(cL 124 #[(xT 64)] #[25]),none,[],2,[],true⟩,fO 66 25 7 1,⟨some 67,(lD 22 66),none,[],4,[2],false⟩,bN 68 67 22,bB .sub 69 3 65 68 3,fO 70 25 7 2,⟨some 71,(lD 23 70),none,[],8,[2],false⟩,bN 72 71 23,bB .sub 73 3 69 72 3,bB .add 74 3 63 73 3,aO 3 74] [3,57,58,59]))) (.reg [bQ .add 75 3 59 1 3,mO 59 75] [3,57,58,59]))))
def JK:CC:=sR [bB .lss 81 3 80 79 3] [3,78,79,80,81] (.seq (cD 81 (.skip) (.exit 3)) (.keep [3,78,79,80] (.seq (.block 4 (sR [iO 82 23 78 80,lO 83 25 82,aL 9 25 [2],sT 25 9 83] [3,9,78,79,80] (.reg [mO 84 3,lO 85 25 9,cA 86 124 85 25,bB .add 87 3 84 86 3,aO 3 87] [3,78,79,80]))) (.reg [bQ .add 88 3 80 1 3,mO 80 88] [3,78,79,80]))))
def M9:CC:=sQ [fO 77 25 1 2,lO 78 23 77,bN 79 78 23,oO 80 (.move (nI 0))] [3,78,79,80] (.block 3 (.loop JK)) [3] (sR [mO 89 3,aO 2 89] [2] (.ret)) 
def UM:CC:=sR [bX 1 25 0 [0],aI 2 0] [1] (sR [aI 3 0] [1,3] (.seq (.block 0 (sR [fO 11 25 1 0,lO 12 3 11,bQ .eql 13 3 12 1 3,aO 10 13] [1,3,10] (cD 10 (.reg [fO 14 25 1 1,lO 15 22 14,bN 16 15 22,fO 17 25 1 2,lO 18 23 17,bN 19 18 23,bB .add 20 3 16 19 3,aO 3 20] [1,3]) (sR [fO 22 25 1 0,lO 23 3 22,bQ .eql 24 3 23 8 3,aO 21 24] [1,3,21] (cD 21 (.reg [fO 25 25 1 2,lO 26 23 25,bN 27 26 23,aO 3 27] [1,3]) (sR [fO 29 25 1 0,lO 30 3 29,cA 31 140 30 3,aO 28 31] [1,3,28] (cD 28 (sR [fO 32 25 1 0,lO 33 3 32,bQ .sub 34 3 33 2 3,fO 35 25 1 2,lO 36 23 35,bN 37 36 23,cB 38 182 34 37 3 3,aO 2 38] [2] (.ret)) (sR [fO 40 25 1 0,lO 41 3 40,bQ .eql 42 3 41 9 3,aO 39 42] [1,3,39] (cD 39 (sR [lO 44 25 1,cA 45 183 44 25,mO 43 45,xO 46 43 0,xO 47 43 1,aO 4 46,aO 5 47] [1,4,5] (sR [fO 48 25 1 2,lO 49 23 48,bN 50 49 23,mO 51 4,mO 52 5,bB .add 53 3 51 52 3,bB .mul 54 3 50 53 3,oO 55 (.binOp .add 3 (nI 1) (xT 54) 3),aO 3 55] [1,3] (sQ [fO 56 25 1 2,lO 57 23 56,bN 58 57 23,oO 59 (.move (nI 0))] [3,57,58,59] (.block 1 (.loop JA)) [3] (sR [mO 76 3,aO 2 76] [2] (.ret))))) (.skip)))))))))) (.keep [1,3] M9)))
theorem iI:Bm Tryz.prog 124 90 [(.tmp 2)] UM:=Aw Tryz.func124
def Vv:CC:=sR [bX 1 25 0 [0],aI 2 0] [1] (sR [lO 3 25 1,cA 4 31 3 25,cA 5 124 4 25,aO 2 5] [2] (.ret))
theorem fU:Bm Tryz.prog 75 6 [(.tmp 2)] Vv:=Aw Tryz.func75
@[simp] theorem Ak3:D9 Tryz.prog 43=some 4:=by kernel_rfl
@[simp] theorem Aj9:D9 Tryz.prog 50=some 1:=by kernel_rfl
@[simp] theorem AkJ:D9 Tryz.prog 53=some 8:=by kernel_rfl
@[simp] theorem Ai3:Ey Tryz.prog 43=some true:=by kernel_rfl
@[simp] theorem AiG:Ey Tryz.prog 50=some false:=by kernel_rfl
@[simp] theorem Aj3:Ey Tryz.prog 53=some true:=by kernel_rfl
@[simp] theorem AhX:BW Tryz.prog 43=some (Value.agg #[Value.int i64 0,Value.int i64 0,Value.int i64 0,Value.int i64 0]):=by kernel_rfl
@[simp] theorem Ah3:BW Tryz.prog 53=some (Value.agg #[Value.pointer none,Value.int i64 0,Value.int i64 0,Value.int i64 0,Value.int i64 0,Value.int i64 0,Value.int i64 0,Value.int u64 0]):=by kernel_rfl
@[simp] theorem w8:Al Tryz.prog 43 0=some 0:=by kernel_rfl
@[simp] theorem wT:Al Tryz.prog 43 1=some 1:=by kernel_rfl
@[simp] theorem we:Al Tryz.prog 43 2=some 2:=by kernel_rfl
@[simp] theorem vi:Al Tryz.prog 43 3=some 3:=by kernel_rfl
@[simp] theorem xU:Al Tryz.prog 53 0=some 0:=by kernel_rfl
@[simp] theorem wv:Al Tryz.prog 53 1=some 1:=by kernel_rfl
@[simp] theorem uO:Al Tryz.prog 53 2=some 2:=by kernel_rfl
@[simp] theorem u9:Al Tryz.prog 53 3=some 3:=by kernel_rfl
@[simp] theorem xg:Al Tryz.prog 53 4=some 4:=by kernel_rfl
@[simp] theorem xL:Al Tryz.prog 53 5=some 5:=by kernel_rfl
@[simp] theorem uS:Al Tryz.prog 53 6=some 6:=by kernel_rfl
@[simp] theorem tG:Al Tryz.prog 53 7=some 7:=by kernel_rfl
@[simp] theorem AeS (ps:List (Nat × A)):CS Tryz.prog 43 ps=(Dy (fun i=>([(0,1),(1,1),(2,1),(3,1)]:List (Nat × Nat))[i]?) [A.v (Value.int i64 0),A.v (Value.int i64 0),A.v (Value.int i64 0),A.v (Value.int i64 0)] ps).map A.agg:=by kernel_rfl
@[simp] theorem AdO (ps:List (Nat × A)):CS Tryz.prog 53 ps=(Dy (fun i=>([(0,1),(1,1),(2,1),(3,1),(4,1),(5,1),(6,1),(7,1)]:List (Nat × Nat))[i]?) [A.v (Value.pointer none),A.v (Value.int i64 0),A.v (Value.int i64 0),A.v (Value.int i64 0),A.v (Value.int i64 0),A.v (Value.int i64 0),A.v (Value.int i64 0),A.v (Value.int u64 0)] ps).map A.agg:=by kernel_rfl
def Ln:CC:=sR [bX 1 53 0 [0],aI 2 0] [1] (sR [fO 3 53 1 1,lO 4 3 3,aO 2 4] [2] (.ret))
theorem Ti:Bm Tryz.prog 95 5 [(.tmp 2)] Ln:=Aw Tryz.func95
def Kj:CC:=sR [bX 1 53 0 [0],aI 2 0] [1] (sQ [fO 3 53 1 1,lO 4 3 3] [1,4] (.block 0 (sR [bQ .eql 6 3 4 1 3,aO 5 6] [1,4,5] (cD 5 (sR [fO 7 53 1 4,lO 8 3 7,aO 2 8] [2] (.ret)) (sR [bQ .eql 10 3 4 10 3,aO 9 10] [9] (cD 9 (sR [aI 2 1] [2] (.ret)) (.skip)))))) [] (sR [aI 2 0] [2] (.ret)))
theorem QX:Bm Tryz.prog 192 11 [(.tmp 2)] Kj:=Aw Tryz.func192
def KW:CC:=sR [bX 1 53 0 [0],aI 2 0] [1] (sQ [fO 3 53 1 1,lO 4 3 3,bQ .eql 5 3 4 1 3] [1,5] (cD 5 (sR [fO 6 53 1 5,lO 7 3 6,aO 2 7] [2] (.ret)) (.skip)) [1] (sR [fO 8 53 1 6,lO 9 3 8,aO 2 9] [2] (.ret)))
theorem Rv:Bm Tryz.prog 137 10 [(.tmp 2)] KW:=Aw Tryz.func137
def KT:CC:=sR [bX 2 53 0 [0],oO 4 (.assign (.const (.int .u64 0)))] [1,2] (sQ [mO 7 1,bQ .lss 8 3 7 0 3,mO 9 8,mG 10 1 9 false,lG 11 53 2 9 false,oG 12 (cL 192 #[(xT 11)] #[53]) 9 false,oG 13 (bO .geq 3 10 12 3) 9 false,pT 14 9 13] [1,2,14] (cD 14 (sR [oO 4 (.assign (.const (.int .u64 0)))] [4] (.ret)) (.skip)) [1,2] (sQ [fO 15 53 2 1,lO 16 3 15,bQ .eql 17 3 16 10 3] [1,2,17] (cD 17 (sR [fO 18 53 2 7,lO 19 51 18,aO 4 19] [4] (.ret)) (.skip)) [1,2] (sR [fO 21 53 2 0,lO 22 50 21,fO 23 53 2 2,lO 24 3 23,fO 25 53 2 3,lO 26 3 25,mO 27 1,bB .add 28 3 26 27 3,cE 29 198 22 24 28 50 3 3,mO 20 29,xO 30 20 0,xO 31 20 1,aO 5 30,aO 6 31] [5] (sR [mO 32 5,aO 4 32] [4] (.ret)))))
theorem Te:Bm Tryz.prog 150 33 [(.tmp 4)] KT:=Aw Tryz.func150
def Li:CC:=sR [bX 2 53 0 [0],oO 4 (.assign (.const (.int .u64 0)))] [1,2] (sR [fO 11 53 2 1,lO 12 3 11,bQ .sub 13 3 12 2 3,aO 5 13] [1,2,5] (sR [mO 15 5,cA 16 254 15 3,mO 14 16,xO 17 14 0,xO 18 14 1,aO 6 17,aO 7 18] [1,2,5,6] (sQ [mO 19 6,bQ .eql 20 3 19 0 3] [1,2,5,6,20] (cD 20 (sR [oO 4 (.assign (.const (.int .u64 0)))] [4] (.ret)) (.skip)) [1,2,5,6] (sR [mO 21 6,oO 22 (.binOp .quo 3 (nI 64) (xT 21) 3),aO 8 22] [1,2,5,8] (sR [fO 24 53 2 0,lO 25 50 24,fO 26 53 2 2,lO 27 3 26,fO 28 53 2 3,lO 29 3 28,mO 30 1,mO 31 8,bB .quo 32 3 30 31 3,bB .add 33 3 29 32 3,cE 34 198 25 27 33 50 3 3,mO 23 34,xO 35 23 0,xO 36 23 1,aO 9 35,aO 10 36] [1,5,8,9] (sR [mO 37 9,oO 38 (.buildSlice 22 1 #[(0,(xT 37))]),mO 39 5,mO 40 1,mO 41 8,bB .rem 42 3 40 41 3,cE 43 255 38 39 42 22 3 3,aO 4 43] [4] (.ret)))))))
theorem Q9:Bm Tryz.prog 231 44 [(.tmp 4)] Li:=Aw Tryz.func231
def Vr:CC:=sR [aL 6 53 [0],aI 7 0] [0,1,2,6] (sR [mO 12 0,mO 13 1,mO 14 2,cE 15 157 12 13 14 50 3 3,mO 11 15,xO 16 11 0,xO 17 11 1,aL 8 198 [1],sT 198 8 16,aO 9 17] [0,6,8,9] (sQ [mO 18 9,bQ .neq 19 47 18 0 47,mO 20 19,fG 21 198 8 0 20 false,fG 22 175 21 0 20 false,lG 23 3 22 20 false,oG 24 (.binOp .eql 3 (xT 23) (nI 0) 3) 20 false,pT 25 20 24] [0,6,8,9,25] (cD 25 (sR [oO 26 (.build 53 #[]),mO 27 9,sT 53 6 26,aO 7 27] [6,7] (.ret)) (.skip)) [0,6,8] (sR [mO 28 0,fO 29 198 8 1,lO 30 3 29,fO 31 198 8 2,lO 32 3 31,oO 33 (.build 53 #[(0,(xT 28)),(2,(xT 30)),(3,(xT 32))]),aL 10 53 [2],sT 53 10 33] [6,8,10] (.seq (.block 0 (sR [fO 42 198 8 0,fO 43 175 42 0,lO 44 3 43,bQ .eql 45 3 44 1 3,aO 41 45] [6,8,10,41] (cD 41 (.reg [fO 46 198 8 0,fO 47 175 46 2,lS 48 3 47 2,fO 49 198 8 0,fO 50 175 49 3,lS 51 3 50 5,fO 52 53 10 1,⟨none,(.store 3 (xT 52) (nI 1)),none,[],7,[2,5],false⟩,fO 53 53 10 4,⟨none,(.store 3 (xT 53) (xT 48)),none,[],9,[5],false⟩,fO 54 53 10 5,sT 3 54 51] [6,10]) (sR [fO 56 198 8 0,fO 57 175 56 4,lO 58 3 57,bQ .lss 59 3 58 6 3,aO 55 59] [6,8,10,55] (cD 55 (.reg [fO 60 198 8 0,fO 61 175 60 4,lO 62 3 61,oO 63 (.binOp .add 3 (nI 2) (xT 62) 3),fO 64 198 8 0,fO 65 175 64 5,lS 66 3 65 6,fO 67 53 10 1,⟨none,(.store 3 (xT 67) (xT 63)),none,[],8,[6],false⟩,fO 68 53 10 6,sT 3 68 66] [6,10]) (sR [fO 70 198 8 0,fO 71 175 70 4,lO 72 3 71,bQ .eql 73 3 72 6 3,aO 69 73] [6,8,10,69] (cD 69 (.reg [fO 74 198 8 0,fO 75 175 74 5,lS 76 3 75 2,fO 77 53 10 1,⟨none,(.store 3 (xT 77) (nI 8)),none,[],4,[2],false⟩,fO 78 53 10 6,sT 3 78 76] [6,10]) (sR [lO 34 53 10,fO 35 198 8 0,fO 36 175 35 5,lO 37 3 36,cB 38 158 34 37 53 3,xO 39 38 0,xO 40 38 1,sT 53 6 39,aO 7 40] [6,7] (.ret))))))))) (.keep [6,10] (sR [lO 79 53 10,sT 53 6 79,aI 7 0] [6,7] (.ret)))))))
theorem iC:Bm Tryz.prog 99 80 [(.cell 6 53),(.tmp 7)] Vr:=Aw Tryz.func99
def Qh:CC:=sR [aL 2 53 [0],aI 3 0] [0,2] (sR [mO 4 0,oO 5 (cL 99 #[(xT 4),(nI 0),(nI 0)] #[50,3,3]),xO 6 5 0,xO 7 5 1,sT 53 2 6,aO 3 7] [2,3] (.ret))
theorem ZA:Bm Tryz.prog 49 8 [(.cell 2 53),(.tmp 3)] Qh:=Aw Tryz.func49
def Hg:CC:=sR [bX 2 53 0 [0],aL 4 53 [1],aI 5 0] [1,2,4] (sR [fO 10 53 2 0,lO 11 50 10,fO 12 53 2 2,lO 13 3 12,fO 14 53 2 3,lO 15 3 14,cE 16 198 11 13 15 50 3 3,mO 9 16,xO 17 9 0,xO 18 9 1,aO 6 17,aO 7 18] [1,2,4,6] (sR [mO 19 6,cA 20 204 19 51,aL 8 175 [2],sT 175 8 20] [1,2,4,6,8] (sQ [mO 21 6,oO 22 (.binOp .neq 51 (xT 21) (.const (.int .u64 0)) 51),mO 23 22,fG 24 175 8 0 23 true,lG 25 3 24 23 true,oG 26 (.binOp .neq 3 (xT 25) (nI 1) 3) 23 true,pF 27 23 26,mO 28 27,fG 29 175 8 1 28 false,lG 30 3 29 28 false,oG 31 (.binOp .lss 3 (xT 30) (nI 0) 3) 28 false,pT 32 28 31,mO 33 32,fG 34 175 8 1 33 false,lG 35 3 34 33 false,fG 36 175 8 2 33 false,lG 37 3 36 33 false,fG 38 175 8 3 33 false,lG 39 3 38 33 false,oG 40 (bO .add 3 37 39 3) 33 false,oG 41 (bO .mul 3 35 40 3) 33 false,mG 42 1 33 false,oG 43 (bO .gtr 3 41 42 3) 33 false,pT 44 33 43] [2,4,8,44] (cD 44 (sR [oO 45 (.build 53 #[]),sT 53 4 45,aI 5 8] [4,5] (.ret)) (.skip)) [2,4,8] (sR [fO 46 53 2 3,lO 47 3 46,bQ .add 48 3 47 1 3,fO 49 53 2 1,oS (.store 3 (xT 49) (nI 9)),fO 50 53 2 3,sT 3 50 48] [2,4,8] (sR [fO 51 175 8 1,lO 52 3 51,fO 53 175 8 2,lS 54 3 53 3,fO 55 175 8 3,lS 56 3 55 5,fO 57 53 2 6,⟨none,(.store 3 (xT 57) (xT 52)),none,[],7,[3,5],false⟩,fO 58 53 2 4,⟨none,(.store 3 (xT 58) (xT 54)),none,[],9,[5],false⟩,fO 59 53 2 5,sT 3 59 56] [2,4] (sR [lO 60 53 2,sT 53 4 60,aI 5 0] [4,5] (.ret)))))))
theorem MV:Bm Tryz.prog 158 61 [(.cell 4 53),(.tmp 5)] Hg:=Aw Tryz.func158
def LX:CC:=sR [bX 2 53 0 [0],aL 4 53 [1],aI 5 0] [1,2,4] (sQ [mO 6 1,bQ .lss 7 3 6 0 3,mO 8 7,mG 9 1 8 false,lG 10 53 2 8 false,oG 11 (cL 137 #[(xT 10)] #[53]) 8 false,oG 12 (bO .geq 3 9 11 3) 8 false,pT 13 8 12] [1,2,4,13] (cD 13 (sR [oO 14 (.build 53 #[]),sT 53 4 14,aI 5 0] [4,5] (.ret)) (.skip)) [1,2,4] (sQ [fO 15 53 2 1,lO 16 3 15] [1,2,4,16] (.block 0 (sR [bQ .eql 18 3 16 1 3,aO 17 18] [1,2,4,16,17] (cD 17 (sR [fO 19 53 2 0,lO 20 50 19,fO 21 53 2 2,lO 22 3 21,fO 23 53 2 3,lO 24 3 23,fO 25 53 2 4,lO 26 3 25,bB .add 27 3 24 26 3,mO 28 1,bB .add 29 3 27 28 3,cE 30 99 20 22 29 50 3 3,xO 31 30 0,xO 32 30 1,sT 53 4 31,aO 5 32] [4,5] (.ret)) (sR [bQ .eql 34 3 16 8 3,aO 33 34] [1,2,4,16,33] (cD 33 (sR [fO 35 53 2 0,lO 36 50 35,fO 37 53 2 2,lO 38 3 37,fO 39 53 2 3,lO 40 3 39,mO 41 1,bB .add 42 3 40 41 3,cE 43 99 36 38 42 50 3 3,xO 44 43 0,xO 45 43 1,sT 53 4 44,aO 5 45] [4,5] (.ret)) (sR [bQ .eql 47 3 16 9 3,aO 46 47] [1,2,4,46] (cD 46 (sR [fO 48 53 2 0,lO 49 50 48,fO 50 53 2 2,lO 51 3 50,fO 52 53 2 3,lO 53 3 52,mO 54 1,fO 55 53 2 4,lO 56 3 55,fO 57 53 2 5,lO 58 3 57,bB .add 59 3 56 58 3,bB .mul 60 3 54 59 3,bB .add 61 3 53 60 3,fO 62 53 2 4,lO 63 3 62,fO 64 53 2 5,lO 65 3 64,oO 66 (.build 53 #[(0,(xT 49)),(1,(nI 1)),(2,(xT 51)),(3,(xT 61)),(4,(xT 63)),(5,(xT 65))]),sT 53 4 66,aI 5 0] [4,5] (.ret)) (.skip)))))))) [1,2,4] (sR [fO 67 53 2 0,lS 68 50 67 1,lO 69 53 2,mO 70 1,⟨some 71,(cL 231 #[(xT 69),(xT 70)] #[53,3]),none,[],4,[1],false⟩,oO 72 (.build 53 #[(0,(xT 68)),(1,(nI 10)),(7,(xT 71))]),sT 53 4 72,aI 5 0] [4,5] (.ret))))
theorem Uo:Bm Tryz.prog 194 73 [(.cell 4 53),(.tmp 5)] LX:=Aw Tryz.func194
@[simp] theorem AiF:D9 Tryz.prog 164=some 1:=by kernel_rfl
@[simp] theorem Ahy:Ey Tryz.prog 164=some false:=by kernel_rfl
@[simp] theorem AjL:BW Tryz.prog 3=some (Value.int i64 0):=by kernel_rfl
@[simp] theorem Ag5:Cv Tryz.prog 3=some 8:=by kernel_rfl
@[simp] theorem Akt:D9 Tryz.prog 29=some 1:=by kernel_rfl
@[simp] theorem Aku:D9 Tryz.prog 30=some 1:=by kernel_rfl
@[simp] theorem Ak2:D9 Tryz.prog 31=some 1:=by kernel_rfl
@[simp] theorem Ake:D9 Tryz.prog 33=some 11:=by kernel_rfl
@[simp] theorem AkW:D9 Tryz.prog 80=some 4:=by kernel_rfl
@[simp] theorem Akl:D9 Tryz.prog 89=some 12:=by kernel_rfl
@[simp] theorem Ak0:D9 Tryz.prog 91=some 14:=by kernel_rfl
@[simp] theorem Ai9:Ey Tryz.prog 29=some false:=by kernel_rfl
@[simp] theorem Ajx:Ey Tryz.prog 30=some false:=by kernel_rfl
@[simp] theorem Aiy:Ey Tryz.prog 31=some false:=by kernel_rfl
@[simp] theorem Aju:Ey Tryz.prog 33=some true:=by kernel_rfl
@[simp] theorem Ajz:Ey Tryz.prog 80=some true:=by kernel_rfl
@[simp] theorem AiR:Ey Tryz.prog 89=some true:=by kernel_rfl
@[simp] theorem Aip:Ey Tryz.prog 91=some true:=by kernel_rfl
@[simp] theorem Aha:BW Tryz.prog 80=some (Value.agg #[Value.int i64 0,Value.int IntKind.u8 0,Value.int u64 0,Value.int u64 0]):=by kernel_rfl
@[simp] theorem AfS:BW Tryz.prog 89=some (Value.agg #[Value.int i64 0,Value.int i64 0,Value.int i64 0,Value.slice none 0 0,Value.slice none 0 0,Value.int i64 0,Value.slice none 0 0,Value.slice none 0 0,Value.slice none 0 0,Value.slice none 0 0,Value.int i64 0,Value.slice none 0 0]):=by kernel_rfl
@[simp] theorem Ahd:BW Tryz.prog 91=some (Value.agg #[Value.int i64 0,Value.int i64 0,Value.slice none 0 0,Value.int i64 0,Value.int i64 0,Value.slice none 0 0,Value.slice none 0 0,Value.int i64 0,Value.slice none 0 0,Value.slice none 0 0,Value.slice none 0 0,Value.slice none 0 0,Value.int i64 0,Value.slice none 0 0]):=by kernel_rfl
@[simp] theorem Aep:Cv Tryz.prog 80=some 32:=by kernel_rfl
@[simp] theorem AdQ:Cv Tryz.prog 89=some 208:=by kernel_rfl
@[simp] theorem AdY:Cv Tryz.prog 91=some 240:=by kernel_rfl
@[simp] theorem vO:Al Tryz.prog 33 0=some 0:=by kernel_rfl
@[simp] theorem xP:Al Tryz.prog 33 1=some 1:=by kernel_rfl
@[simp] theorem wH:Al Tryz.prog 33 2=some 4:=by kernel_rfl
@[simp] theorem tF:Al Tryz.prog 33 3=some 7:=by kernel_rfl
@[simp] theorem x8:Al Tryz.prog 33 4=some 8:=by kernel_rfl
@[simp] theorem wQ:Al Tryz.prog 33 5=some 9:=by kernel_rfl
@[simp] theorem uU:Al Tryz.prog 33 6=some 10:=by kernel_rfl
@[simp] theorem xr:Al Tryz.prog 80 2=some 2:=by kernel_rfl
@[simp] theorem vl:Al Tryz.prog 80 3=some 3:=by kernel_rfl
@[simp] theorem uz:Al Tryz.prog 89 0=some 0:=by kernel_rfl
@[simp] theorem uZ:Al Tryz.prog 89 1=some 1:=by kernel_rfl
@[simp] theorem wj:Al Tryz.prog 91 0=some 0:=by kernel_rfl
@[simp] theorem uI:Al Tryz.prog 91 2=some 2:=by kernel_rfl
@[simp] theorem tI:Al Tryz.prog 91 3=some 3:=by kernel_rfl
@[simp] theorem AeQ (ps:List (Nat × A)):CS Tryz.prog 33 ps=(Dy (fun i=>([(0,1),(1,3),(4,3),(7,1),(8,1),(9,1),(10,1)]:List (Nat × Nat))[i]?) [A.v (Value.int i64 0),A.v (Value.int i64 0),A.sl true [],A.sl true [],A.v (Value.int i64 0),A.sl true [],A.sl true [],A.sl true [],A.sl true [],A.v (Value.int i64 0),A.sl true []] ps).map A.agg:=by kernel_rfl
def U5:CC:=sR [bX 2 25 0 [0],oO 4 (.assign (.const (.int .u64 0)))] [1,2] (sQ [mO 5 1,bQ .lss 6 3 5 0 3,mO 7 6,mG 8 1 7 false,fG 9 25 2 1 7 false,lG 10 22 9 7 false,oG 11 (bL 10 22) 7 false,oG 12 (bO .geq 3 8 11 3) 7 false,pT 13 7 12] [1,2,13] (cD 13 (sR [oO 4 (.assign (.const (.int .u64 0)))] [4] (.ret)) (.skip)) [1,2] (sR [fO 14 25 2 1,lO 15 22 14,mO 16 1,iO 17 22 15 16,lO 18 51 17,aO 4 18] [4] (.ret)))
theorem jE:Bm Tryz.prog 115 19 [(.tmp 4)] U5:=Aw Tryz.func115
def Yk:CC:=sR [bX 2 25 0 [0],aL 4 25 [1]] [1,2,4] (sQ [mO 5 1,bQ .lss 6 3 5 0 3,mO 7 6,mG 8 1 7 false,fG 9 25 2 2 7 false,lG 10 23 9 7 false,oG 11 (bL 10 23) 7 false,oG 12 (bO .geq 3 8 11 3) 7 false,pT 13 7 12] [1,2,4,13] (cD 13 (sR [oO 14 (.build 25 #[]),sT 25 4 14] [4] (.ret)) (.skip)) [1,2,4] (sR [fO 15 25 2 2,lO 16 23 15,mO 17 1,iO 18 23 16 17,lO 19 25 18,sT 25 4 19] [4] (.ret)))
theorem og:Bm Tryz.prog 116 20 [(.cell 4 25)] Yk:=Aw Tryz.func116
def JB:CC:=sR [bQ .lss 6 3 5 8 3] [0,3,5,6] (.seq (cD 6 (.skip) (.exit 0)) (.keep [0,3,5] (.seq (.block 1 (sR [mO 7 5,aO 4 7] [0,3,4,5] (sR [mO 8 0,mO 9 4,bB .shr 10 5 8 9 3,oO 11 (.binOp .and 5 (xT 10) (.const (.int .u8 1)) 5),oO 12 (.binOp .eql 5 (xT 11) (.const (.int .u8 1)) 5)] [0,3,4,5,12] (cD 12 (.reg [mO 13 3,mO 14 4,oO 15 (.binOp .mul 3 (nI 8) (xT 14) 3),oO 16 (.binOp .shl 51 (.const (.int .u64 255)) (xT 15) 3),bB .or 17 51 13 16 51,aO 3 17] [0,3,5]) (.skip))))) (.keep [0,3,5] (.reg [bQ .add 18 3 5 1 3,mO 5 18] [0,3,5]))))) 
def Vd:CC:=sR [oO 2 (.assign (.const (.int .u64 0)))] [0] (sR [oO 3 (.assign (.const (.int .u64 0)))] [0,3] (sQ [oO 5 (.move (nI 0))] [0,3,5] (.block 0 (.loop JB)) [3] (sR [mO 19 3,aO 2 19] [2] (.ret))))
theorem ki:Bm Tryz.prog 218 20 [(.tmp 2)] Vd:=Aw Tryz.func218
def WG:CC:=sR [oO 6 (.assign (.const (.int .u64 0)))] [0,1,2] (sR [mO 7 0,mO 8 2,cA 9 218 8 5,bB .andNot 10 51 7 9 51,mO 11 1,mO 12 2,cA 13 218 12 5,bB .and 14 51 11 13 51,bB .or 15 51 10 14 51,aO 6 15] [6] (.ret))
theorem lF:Bm Tryz.prog 174 16 [(.tmp 6)] WG:=Aw Tryz.func174
def GJ:CC:=sR [bB .lss 16 3 15 14 3] [1,2,4,14,15,16] (.seq (cD 16 (.skip) (.exit 0)) (.keep [1,2,4,14,15] (.seq (.block 1 (sR [mO 17 15,aO 5 17] [1,2,4,5,14,15] (.reg [fO 18 25 4 1,lS 19 22 18 1,lO 20 53 1,mO 21 5,⟨some 22,(cL 150 #[(xT 20),(xT 21)] #[53,3]),none,[],4,[1],false⟩,⟨some 23,(.buildSlice 22 1 #[(0,(xT 22))]),none,[],5,[1],false⟩,aP 24 19 23 22 22 [3],fO 25 25 4 1,sT 22 25 24] [1,2,4,14,15]))) (.reg [bQ .add 26 3 15 1 3,mO 15 26] [1,2,4,14,15]))))
def GP:CC:=sR [bB .lss 30 3 29 28 3] [1,2,4,28,29,30] (.seq (cD 30 (.skip) (.exit 2)) (.keep [1,2,4,28,29] (.seq (.block 3 (sR [mO 31 29,aO 6 31] [1,2,4,6,28,29] (sR [lO 33 53 1,mO 34 6,cB 35 194 33 34 53 3,mO 32 35,xO 36 32 0,xO 37 32 1,aL 7 53 [4],sT 53 7 36,aO 8 37] [1,2,4,7,8,28,29] (sQ [mO 38 8,bQ .neq 39 47 38 0 47] [1,2,4,7,8,28,29,39] (cD 39 (sR [oO 40 (.build 25 #[]),mO 41 8,sT 25 2 40,aO 3 41] [2,3] (.ret)) (.skip)) [1,2,4,7,28,29] (sR [lO 43 53 7,cA 44 156 43 53,mO 42 44,xO 45 42 0,xO 46 42 1,aL 9 25 [5],sT 25 9 45,aO 8 46] [1,2,4,8,9,28,29] (sQ [mO 47 8,bQ .neq 48 47 47 0 47] [1,2,4,8,9,28,29,48] (cD 48 (sR [oO 49 (.build 25 #[]),mO 50 8,sT 25 2 49,aO 3 50] [2,3] (.ret)) (.skip)) [1,2,4,9,28,29] (.reg [fO 51 25 4 2,lO 52 23 51,lO 53 25 9,oO 54 (.buildSlice 23 1 #[(0,(xT 53))]),aP 55 52 54 23 23 [6],fO 56 25 4 2,sT 23 56 55] [1,2,4,28,29]))))))) (.keep [1,2,4,28,29] (.reg [bQ .add 57 3 29 1 3,mO 29 57] [1,2,4,28,29]))))) 
def NX:CC:=sR [bX 1 53 0 [0],aL 2 25 [1],aI 3 0] [1,2] (sR [lO 10 53 1,cA 11 95 10 53,oO 12 (.build 25 #[(0,(xT 11))]),aL 4 25 [2],sT 25 4 12] [1,2,4] (.stop (sQ [lO 13 53 1,cA 14 192 13 53,oO 15 (.move (nI 0))] [1,2,4,14,15] (.block 0 (.loop GJ)) [1,2,4] (sQ [lO 27 53 1,cA 28 137 27 53,oO 29 (.move (nI 0))] [1,2,4,28,29] (.block 2 (.loop GP)) [2,4] (sR [lO 58 25 4,sT 25 2 58,aI 3 0] [2,3] (.ret))))))
theorem X2:Bm Tryz.prog 156 59 [(.cell 2 25),(.tmp 3)] NX:=Aw Tryz.func156
@[simp] theorem Afr:BW Tryz.prog 33=some (Value.agg #[Value.int i64 0,Value.int i64 0,Value.slice none 0 0,Value.slice none 0 0,Value.int i64 0,Value.slice none 0 0,Value.slice none 0 0,Value.slice none 0 0,Value.slice none 0 0,Value.int i64 0,Value.slice none 0 0]):=by kernel_rfl
@[simp] theorem wE:Al Tryz.prog 80 0=some 0:=by kernel_rfl
@[simp] theorem tM:Al Tryz.prog 80 1=some 1:=by kernel_rfl
@[simp] theorem xy:Al Tryz.prog 91 1=some 1:=by kernel_rfl
@[simp] theorem sM:Al Tryz.prog 116 0=some 0:=by kernel_rfl
@[simp] theorem tf:Al Tryz.prog 130 0=some 0:=by kernel_rfl
@[simp] theorem td:Al Tryz.prog 130 1=some 1:=by kernel_rfl
@[simp] theorem Aef (ps:List (Nat × A)):CS Tryz.prog 80 ps=(Dy (fun i=>([(0,1),(1,1),(2,1),(3,1)]:List (Nat × Nat))[i]?) [A.v (Value.int i64 0),A.v (Value.int IntKind.u8 0),A.v (Value.int u64 0),A.v (Value.int u64 0)] ps).map A.agg:=by kernel_rfl
@[simp] theorem Aex (ps:List (Nat × A)):CS Tryz.prog 89 ps=(Dy (fun i=>([(0,1),(1,11)]:List (Nat × Nat))[i]?) [A.v (Value.int i64 0),A.v (Value.int i64 0),A.v (Value.int i64 0),A.sl true [],A.sl true [],A.v (Value.int i64 0),A.sl true [],A.sl true [],A.sl true [],A.sl true [],A.v (Value.int i64 0),A.sl true []] ps).map A.agg:=by kernel_rfl
@[simp] theorem Aew (ps:List (Nat × A)):CS Tryz.prog 91 ps=(Dy (fun i=>([(0,1),(1,1),(2,1),(3,11)]:List (Nat × Nat))[i]?) [A.v (Value.int i64 0),A.v (Value.int i64 0),A.sl true [],A.v (Value.int i64 0),A.v (Value.int i64 0),A.sl true [],A.sl true [],A.v (Value.int i64 0),A.sl true [],A.sl true [],A.sl true [],A.sl true [],A.v (Value.int i64 0),A.sl true []] ps).map A.agg:=by kernel_rfl
@[simp] theorem Acb (ps:List (Nat × A)):CS Tryz.prog 116 ps=(Dy (fun i=>([(0,1)]:List (Nat × Nat))[i]?) [A.sl true []] ps).map A.agg:=by kernel_rfl
@[simp] theorem Ab2 (ps:List (Nat × A)):CS Tryz.prog 130 ps=(Dy (fun i=>([(0,1),(1,1)]:List (Nat × Nat))[i]?) [A.v (Value.int i64 0),A.v (Value.int i64 0)] ps).map A.agg:=by kernel_rfl
@[simp] theorem AbF:lp Tryz.prog 25 2=some (23,2):=by kernel_rfl
def UL:CC:=sR [aB 4 false] [0,1] (sR [mO 8 0,cA 9 185 8 3,mO 7 9,xO 10 7 0,xO 11 7 1,aO 5 10,aO 6 11] [1,5,6] (sR [mO 12 6,mO 13 12,mG 14 5 13 true,oG 15 (.binOp .eql 3 (xT 14) (nI 64) 3) 13 true,mG 16 15 13 true,mG 17 1 16 false,mG 18 5 16 false,oG 19 (bO .shr 51 17 18 3) 16 false,oG 20 (.binOp .eql 51 (xT 19) (.const (.int .u64 0)) 51) 16 false,oG 21 (.pick (xT 16) (nB true) (xT 20)) 13 true,pF 22 13 21,aO 4 22] [4] (.ret)))
theorem jv:Bm Tryz.prog 186 23 [(.tmp 4)] UL:=Aw Tryz.func186
def Lm:CC:=sR [bB .lss 26 3 25 24 3] [0,6,8,23,24,25,26] (.seq (cD 26 (.skip) (.exit 0)) (.keep [0,6,8,23,24,25] (.seq (.block 1 (sR [mO 27 25,iO 28 22 23 25,lO 29 51 28,aO 9 27,aO 10 29] [0,6,8,9,10,23,24,25] (sQ [mO 30 0,mO 31 10,cB 32 186 30 31 3 51,oO 33 (.unOp .not 4 (xT 32))] [0,6,8,9,10,23,24,25,33] (cD 33 (sR [aN 4,aB 5 false] [4,5] (.ret)) (.skip)) [0,6,8,9,10,23,24,25] (sR [mO 34 6,bQ .gtr 35 3 34 0 3] [0,6,8,9,10,23,24,25,35] (cD 35 (.reg [mO 36 8,mO 37 9,mO 38 6,bB .mul 39 3 37 38 3,bQ .quo 40 3 39 64 3,iO 41 22 36 40,lO 42 51 41,mO 43 10,mO 44 9,mO 45 6,bB .mul 46 3 44 45 3,bQ .rem 47 3 46 64 3,bB .shl 48 51 43 47 3,bB .or 49 51 42 48 51,iO 50 22 36 40,sT 51 50 49] [0,6,8,23,24,25]) (.skip)))))) (.keep [0,6,8,23,24,25] (.reg [bQ .add 51 3 25 1 3,mO 25 51] [0,6,8,23,24,25]))))) 
def WN:CC:=sR [aN 4,aB 5 false] [0,1] (sR [mO 12 0,cA 13 185 12 3,mO 11 13,xO 14 11 0,xO 15 11 1,aO 6 14,aO 7 15] [0,1,6,7] (sQ [mO 16 7,oO 17 (.unOp .not 4 (xT 16))] [0,1,6,17] (cD 17 (sR [aN 4,aB 5 false] [4,5] (.ret)) (.skip)) [0,1,6] (sR [mO 18 0,mO 19 1,bN 20 19 22,cB 21 182 18 20 3 3,oN 22 (.makeSlice 22 (xT 21) (xT 21)) [0],aO 8 22] [0,1,6,8] (sQ [mO 23 1,bN 24 23 22,oO 25 (.move (nI 0))] [0,6,8,23,24,25] (.block 0 (.loop Lm)) [8] (sR [mO 52 8,aO 4 52,aB 5 true] [4,5] (.ret))))))
theorem lj:Bm Tryz.prog 129 53 [(.tmp 4),(.tmp 5)] WN:=Aw Tryz.func129
def UJ:CC:=sR [aB 2 false] [0] (sR [mO 3 0,bQ .geq 4 3 3 2 3,mO 5 4,mG 6 0 5 true,oG 7 (.binOp .leq 3 (xT 6) (nI 9) 3) 5 true,pF 8 5 7,aO 2 8] [2] (.ret))
theorem ji:Bm Tryz.prog 61 9 [(.tmp 2)] UJ:=Aw Tryz.func61
def Yj:CC:=sR [bX 3 25 1 [0],aB 4 false] [0,3] (.seq (.block 0 (sR [mO 6 0,cA 7 140 6 3,aO 5 7] [0,3,5] (cD 5 (sR [fO 8 25 3 0,lO 9 3 8,bQ .eql 10 3 9 10 3,mO 11 10,fG 12 25 3 2 11 true,lG 13 23 12 11 true,oG 14 (bL 13 23) 11 true,oG 15 (.binOp .eql 3 (xT 14) (nI 0) 3) 11 true,pF 16 11 15,mO 17 16,fG 18 25 3 1 17 true,lG 19 22 18 17 true,oG 20 (bL 19 22) 17 true,oG 21 (.binOp .eql 3 (xT 20) (nI 1) 3) 17 true,pF 22 17 21,mO 23 22,mG 24 0 23 true,oG 25 (.binOp .sub 3 (xT 24) (nI 2) 3) 23 true,fG 26 25 3 1 23 true,lG 27 22 26 23 true,oG 28 (.indexAddr 22 (xT 27) (nI 0)) 23 true,lG 29 51 28 23 true,oG 30 (cL 186 #[(xT 25),(xT 29)] #[3,51]) 23 true,pF 31 23 30,aO 4 31] [4] (.ret)) (sR [mO 33 0,bQ .eql 34 3 33 9 3,aO 32 34] [3,32] (cD 32 (sR [fO 35 25 3 0,lO 36 3 35,bQ .eql 37 3 36 1 3,aO 4 37] [4] (.ret)) (.skip)))))) (.keep [3] (sR [fO 38 25 3 0,lO 39 3 38,bQ .neq 40 3 39 10 3,aO 4 40] [4] (.ret))))
theorem m4:Bm Tryz.prog 181 41 [(.tmp 4)] Yj:=Aw Tryz.func181
def LG:CC:=sR [mO 87 7,oO 88 (.unOp .not 4 (xT 87)),mO 89 88,lG 90 25 6 89 false,mG 91 1 89 false,oG 92 (.binOp .sub 3 (xT 91) (nI 1) 3) 89 false,oG 93 (cL 123 #[(xT 90),(xT 92)] #[25,3]) 89 false,oG 94 (.unOp .not 4 (xT 93)) 89 false,pT 95 89 94] [1,2,71,72,73,95] (cD 95 (sR [aB 4 false] [4] (.ret)) (.skip))
def IA:CC:=sR [bB .lss 74 3 73 72 3] [1,2,71,72,73,74] (.seq (cD 74 (.skip) (.exit 1)) (.keep [1,2,71,72,73] (.seq (.block 2 (sR [iO 75 23 71 73,lO 76 25 75,aL 6 25 [1],sT 25 6 76] [1,2,6,71,72,73] (sR [fO 77 25 6 0,lO 78 3 77,bQ .neq 79 3 78 10 3,aO 7 79] [1,2,6,7,71,72,73] (sQ [fO 80 25 2 0,lO 81 3 80,bQ .neq 82 3 81 1 3] [1,2,6,7,71,72,73,82] (cD 82 (.reg [fO 83 25 2 0,lO 84 3 83,lO 85 25 6,cB 86 181 84 85 3 25,aO 7 86] [1,2,6,7,71,72,73]) (.skip)) [1,2,6,7,71,72,73] LG)))) (.keep [1,2,71,72,73] (.reg [bQ .add 96 3 73 1 3,mO 73 96] [1,2,71,72,73])))))
def Lw:CC:=sQ [fO 70 25 2 2,lO 71 23 70,bN 72 71 23,oO 73 (.move (nI 0))] [1,2,71,72,73] (.block 1 (.loop IA)) [] (sR [aB 4 true] [4] (.ret)) 
def S9:CC:=sR [bX 2 25 0 [0],aB 4 false] [1,2] (.seq (.block 0 (sR [fO 9 25 2 0,lO 10 3 9,bQ .eql 11 3 10 0 3,aO 8 11] [1,2,8] (cD 8 (sR [fO 12 25 2 1,lO 13 22 12,bN 14 13 22,bQ .eql 15 3 14 0 3,mO 16 15,fG 17 25 2 2 16 true,lG 18 23 17 16 true,oG 19 (bL 18 23) 16 true,oG 20 (.binOp .eql 3 (xT 19) (nI 0) 3) 16 true,pF 21 16 20,aO 4 21] [4] (.ret)) (sR [fO 23 25 2 0,lO 24 3 23,bQ .eql 25 3 24 10 3,aO 22 25] [1,2,22] (cD 22 (sR [fO 26 25 2 1,lO 27 22 26,bN 28 27 22,bQ .eql 29 3 28 1 3,mO 30 29,fG 31 25 2 2 30 true,lG 32 23 31 30 true,oG 33 (bL 32 23) 30 true,oG 34 (.binOp .eql 3 (xT 33) (nI 0) 3) 30 true,pF 35 30 34,aO 4 35] [4] (.ret)) (sR [mO 37 1,bQ .eql 38 3 37 0 3,aO 36 38] [1,2,36] (cD 36 (sR [aB 4 false] [4] (.ret)) (sR [fO 40 25 2 0,lO 41 3 40,bQ .eql 42 3 41 1 3,aO 39 42] [1,2,39] (cD 39 (sR [fO 43 25 2 1,lO 44 22 43,bN 45 44 22,bQ .geq 46 3 45 65536 3,mO 47 46,fG 48 25 2 2 47 false,lG 49 23 48 47 false,oG 50 (bL 49 23) 47 false,oG 51 (.binOp .geq 3 (xT 50) (nI 65536) 3) 47 false,pT 52 47 51] [1,2,52] (cD 52 (sR [aB 4 false] [4] (.ret)) (.skip))) (sR [fO 54 25 2 0,lO 55 3 54,cA 56 61 55 3,oO 57 (.unOp .not 4 (xT 56)),mO 58 57,fG 59 25 2 1 58 false,lG 60 22 59 58 false,oG 61 (bL 60 22) 58 false,oG 62 (.binOp .gtr 3 (xT 61) (nI 0) 3) 58 false,pT 63 58 62,mO 64 63,fG 65 25 2 2 64 false,lG 66 23 65 64 false,oG 67 (bL 66 23) 64 false,oG 68 (.binOp .geq 3 (xT 67) (nI 1048576) 3) 64 false,pT 69 64 68,aO 53 69] [1,2,53] (cD 53 (sR [aB 4 false] [4] (.ret)) (.skip)))))))))))) (.keep [1,2] Lw))
theorem eI:Bm Tryz.prog 123 97 [(.tmp 4)] S9:=Aw Tryz.func123
def RU:CC:=sR [bX 1 25 0 [0],aB 2 false] [1] (sR [lO 3 25 1,oO 4 (cL 123 #[(xT 3),(nI 64)] #[25,3]),aO 2 4] [2] (.ret))
theorem b9:Bm Tryz.prog 74 5 [(.tmp 2)] RU:=Aw Tryz.func74
def B4:CC:=sR [bB .lss 14 3 13 12 3] [0,1,12,13,14] (.seq (cD 14 (.skip) (.exit 0)) (.keep [0,1,12,13] (.seq (.block 1 (sR [mO 15 13,aO 5 15] [0,1,5,12,13] (sR [mO 16 0,mO 17 5,iO 18 22 16 17,lO 19 51 18,mO 20 1,mO 21 5,iO 22 22 20 21,lO 23 51 22,bB .neq 24 51 19 23 51] [0,1,12,13,24] (cD 24 (sR [aB 4 false] [4] (.ret)) (.skip))))) (.keep [0,1,12,13] (.reg [bQ .add 25 3 13 1 3,mO 13 25] [0,1,12,13]))))) 
def EP:CC:=sR [aB 4 false] [0,1] (sQ [mO 6 0,bN 7 6 22,mO 8 1,bN 9 8 22,bB .neq 10 3 7 9 3] [0,1,10] (cD 10 (sR [aB 4 false] [4] (.ret)) (.skip)) [0,1] (sQ [mO 11 0,bN 12 11 22,oO 13 (.move (nI 0))] [0,1,12,13] (.block 0 (.loop B4)) [] (sR [aB 4 true] [4] (.ret))))
theorem Jj:Bm Tryz.prog 114 26 [(.tmp 4)] EP:=Aw Tryz.func114
def IG:CC:=sR [bB .lss 50 3 49 48 3] [2,3,48,49,50] (.seq (cD 50 (.skip) (.exit 0)) (.keep [2,3,48,49] (.seq (.block 1 (sR [mO 51 49,aO 5 51] [2,3,5,48,49] (sR [lO 52 25 2,mO 53 5,⟨some 54,(cL 115 #[(xT 52),(xT 53)] #[25,3]),none,[],2,[],true⟩,⟨some 55,(lD 25 3),none,[],3,[2],false⟩,mO 56 5,cB 57 115 55 56 25 3,bB .neq 58 51 54 57 51] [2,3,48,49,58] (cD 58 (sR [aB 4 false] [4] (.ret)) (.skip))))) (.keep [2,3,48,49] (.reg [bQ .add 59 3 49 1 3,mO 49 59] [2,3,48,49])))))
def D5:CC:=sR [bB .lss 68 3 67 66 3] [2,3,66,67,68] (.seq (cD 68 (.skip) (.exit 2)) (.keep [2,3,66,67] (.seq (.block 3 (sR [mO 69 67,aO 6 69] [2,3,6,66,67] (sR [lO 70 25 2,mO 71 6,⟨some 72,(cL 116 #[(xT 70),(xT 71)] #[25,3]),none,[],2,[],true⟩,⟨some 73,(lD 25 3),none,[],3,[2],false⟩,mO 74 6,cB 75 116 73 74 25 3,cB 76 59 72 75 25 25,oO 77 (.unOp .not 4 (xT 76))] [2,3,66,67,77] (cD 77 (sR [aB 4 false] [4] (.ret)) (.skip))))) (.keep [2,3,66,67] (.reg [bQ .add 78 3 67 1 3,mO 67 78] [2,3,66,67])))))
def GG:CC:=sQ [fO 42 25 2 1,lO 43 22 42,bN 44 43 22,fO 45 25 3 1,lO 46 22 45,bN 47 46 22,oO 48 (bC .max #[(xT 44),(xT 47)] #[3,3]),oO 49 (.move (nI 0))] [2,3,48,49] (.block 0 (.loop IG)) [2,3] (sQ [fO 60 25 2 2,lO 61 23 60,bN 62 61 23,fO 63 25 3 2,lO 64 23 63,bN 65 64 23,oO 66 (bC .max #[(xT 62),(xT 65)] #[3,3]),oO 67 (.move (nI 0))] [2,3,66,67] (.block 2 (.loop D5)) [] (sR [aB 4 true] [4] (.ret))) 
def JH:CC:=sR [bX 2 25 0 [0],bX 3 25 1 [1],aB 4 false] [2,3] (sQ [fO 7 25 2 0,lO 8 3 7,fO 9 25 3 0,lO 10 3 9,bB .neq 11 3 8 10 3,mO 12 11,fG 13 25 2 0 12 false,lG 14 3 13 12 false,oG 15 (.binOp .eql 3 (xT 14) (nI 0) 3) 12 false,pT 16 12 15] [2,3,16] (cD 16 (sR [fO 17 25 2 0,lO 18 3 17,fO 19 25 3 0,lO 20 3 19,bB .eql 21 3 18 20 3,aO 4 21] [4] (.ret)) (.skip)) [2,3] (sQ [fO 22 25 2 0,lO 23 3 22,bQ .neq 24 3 23 1 3,mO 25 24,fG 26 25 2 2 25 true,lG 27 23 26 25 true,oG 28 (bL 27 23) 25 true,fG 29 25 3 2 25 true,lG 30 23 29 25 true,oG 31 (bL 30 23) 25 true,oG 32 (bO .neq 3 28 31 3) 25 true,mG 33 32 25 true,fG 34 25 2 1 33 false,lG 35 22 34 33 false,fG 36 25 3 1 33 false,lG 37 22 36 33 false,oG 38 (cL 114 #[(xT 35),(xT 37)] #[22,22]) 33 false,oG 39 (.unOp .not 4 (xT 38)) 33 false,oG 40 (.pick (xT 33) (nB true) (xT 39)) 25 true,pF 41 25 40] [2,3,41] (cD 41 (sR [aB 4 false] [4] (.ret)) (.skip)) [2,3] (.stop GG)))
theorem MZ:Bm Tryz.prog 59 79 [(.tmp 4)] JH:=Aw Tryz.func59
def Qb:CC:=sR [bX 1 25 0 [0],aB 2 false] [1] (sR [fO 3 25 1 0,lO 4 3 3,bQ .eql 5 3 4 0 3,mO 6 5,fG 7 25 1 1 6 true,lG 8 22 7 6 true,oG 9 (bL 8 22) 6 true,fG 10 25 1 2 6 true,lG 11 23 10 6 true,oG 12 (bL 11 23) 6 true,oG 13 (bO .add 3 9 12 3) 6 true,oG 14 (.binOp .eql 3 (xT 13) (nI 0) 3) 6 true,pF 15 6 14,aO 2 15] [2] (.ret))
theorem ZJ:Bm Tryz.prog 189 16 [(.tmp 2)] Qb:=Aw Tryz.func189
def Vp:CC:=sR [bX 1 33 0 [0],aB 2 false] [1] (sR [oO 3 (.assign (.func 189))] [1,3] (.seq (.block 0 (sR [fO 5 33 1 0,lO 6 3 5,bQ .neq 7 3 6 1 3,mO 8 7,mG 9 3 8 true,fG 10 33 1 1 8 true,lG 11 25 10 8 true,oG 12 (.call { callee:=(.value (xT 9)),args:=#[(xT 11)],argTypes:=#[25] }) 8 true,mG 13 12 8 true,mG 14 3 13 true,fG 15 33 1 2 13 true,lG 16 25 15 13 true,oG 17 (.call { callee:=(.value (xT 14)),args:=#[(xT 16)],argTypes:=#[25] }) 13 true,oG 18 (.pick (xT 13) (xT 17) (nB false)) 8 true,oG 19 (.unOp .not 4 (xT 18)) 8 true,pF 20 8 19,aO 4 20] [1,4] (cD 4 (sR [aB 2 false] [2] (.ret)) (sR [fO 22 33 1 0,lO 23 3 22,bQ .neq 24 3 23 2 3,mO 25 24,fG 26 33 1 3 25 true,lG 27 29 26 25 true,oG 28 (bL 27 29) 25 true,fG 29 33 1 4 25 true,lG 30 30 29 25 true,oG 31 (bL 30 30) 25 true,oG 32 (bO .add 3 28 31 3) 25 true,oG 33 (.binOp .gtr 3 (xT 32) (nI 0) 3) 25 true,pF 34 25 33,aO 21 34] [1,21] (cD 21 (sR [aB 2 false] [2] (.ret)) (.skip)))))) (.keep [1] (sR [fO 35 33 1 0,lO 36 3 35,bQ .eql 37 3 36 3 3,mO 38 37,fG 39 33 1 5 38 false,lG 40 3 39 38 false,oG 41 (.binOp .eql 3 (xT 40) (nI 0) 3) 38 false,mG 42 41 38 false,fG 43 33 1 6 42 true,lG 44 31 43 42 true,oG 45 (bL 44 31) 42 true,oG 46 (.binOp .eql 3 (xT 45) (nI 0) 3) 42 true,oG 47 (.pick (xT 42) (xT 46) (nB false)) 38 false,pT 48 38 47,aO 2 48] [2] (.ret)))))
theorem gU:Bm Tryz.prog 132 49 [(.tmp 2)] Vp:=Aw Tryz.func132
def RZ:CC:=sR [bX 1 25 0 [0],aB 2 false] [1] (sR [fO 3 25 1 0,lO 4 3 3,bQ .neq 5 3 4 10 3,mO 6 5,lG 7 25 1 6 true,oG 8 (cL 74 #[(xT 7)] #[25]) 6 true,pF 9 6 8,aO 2 9] [2] (.ret))
theorem dp:Bm Tryz.prog 133 10 [(.tmp 2)] RZ:=Aw Tryz.func133
def LO:CC:=sR [fO 40 80 4 2,lO 41 51 40,fO 42 80 4 1,lO 43 5 42,oO 44 (cL 174 #[(xT 41),(.const (.int .u64 0)),(xT 43)] #[51,51,5]),oO 45 (.binOp .neq 51 (xT 44) (.const (.int .u64 0)) 51),mO 46 45,fG 47 80 4 3 46 false,lG 48 51 47 46 false,fG 49 80 4 1 46 false,lG 50 5 49 46 false,oG 51 (cL 174 #[(xT 48),(.const (.int .u64 0)),(xT 50)] #[51,51,5]) 46 false,oG 52 (.binOp .neq 51 (xT 51) (.const (.int .u64 0)) 51) 46 false,pT 53 46 52] [0,5,6,7,53] (cD 53 (sR [aB 2 false] [2] (.ret)) (.skip))
def Iq:CC:=sR [bB .lss 8 3 7 6 3] [0,5,6,7,8] (.seq (cD 8 (.skip) (.exit 0)) (.keep [0,5,6,7] (.seq (.block 1 (sR [mO 9 7,iO 10 29 5 7,lO 11 80 10,aL 4 80 [0],aO 3 9,sT 80 4 11] [0,3,4,5,6,7] (sQ [fO 12 80 4 0,lO 13 3 12,bQ .lss 14 3 13 0 3,mO 15 14,fG 16 80 4 0 15 false,lG 17 3 16 15 false,oG 18 (.binOp .geq 3 (xT 17) (nI 65535) 3) 15 false,pT 19 15 18,mO 20 19,mG 21 3 20 false,oG 22 (.binOp .gtr 3 (xT 21) (nI 0) 3) 20 false,mG 23 22 20 false,mG 24 0 23 true,mG 25 3 23 true,oG 26 (.binOp .sub 3 (xT 25) (nI 1) 3) 23 true,oG 27 (iA 29 24 26) 23 true,fG 28 80 27 0 23 true,lG 29 3 28 23 true,fG 30 80 4 0 23 true,lG 31 3 30 23 true,oG 32 (bO .geq 3 29 31 3) 23 true,oG 33 (.pick (xT 23) (xT 32) (nB false)) 20 false,pT 34 20 33,mO 35 34,fG 36 80 4 1 35 false,lG 37 5 36 35 false,oG 38 (.binOp .eql 5 (xT 37) (.const (.int .u8 0)) 5) 35 false,pT 39 35 38] [0,4,5,6,7,39] (cD 39 (sR [aB 2 false] [2] (.ret)) (.skip)) [0,4,5,6,7] (.stop LO)))) (.keep [0,5,6,7] (.reg [bQ .add 54 3 7 1 3,mO 7 54] [0,5,6,7]))))) 
def RS:CC:=sR [aB 2 false] [0] (sQ [mO 5 0,bN 6 5 29,oO 7 (.move (nI 0))] [0,5,6,7] (.block 0 (.loop Iq)) [] (sR [aB 2 true] [2] (.ret)))
theorem dP:Bm Tryz.prog 134 55 [(.tmp 2)] RS:=Aw Tryz.func134
def JT:CC:=sR [bB .lss 10 3 9 8 3] [0,1,7,8,9,10] (.seq (cD 10 (.skip) (.exit 0)) (.keep [0,1,7,8,9] (.seq (.block 1 (sR [mO 11 9,iO 12 30 7 9,lO 13 89 12,aL 6 89 [0],aO 5 11,sT 89 6 13] [0,1,5,6,7,8,9] (sR [fO 14 89 6 0,lO 15 3 14,bQ .lss 16 3 15 0 3,mO 17 16,fG 18 89 6 0 17 false,lG 19 3 18 17 false,oG 20 (.binOp .geq 3 (xT 19) (nI 65535) 3) 17 false,pT 21 17 20,mO 22 21,mG 23 5 22 false,oG 24 (.binOp .gtr 3 (xT 23) (nI 0) 3) 22 false,mG 25 24 22 false,mG 26 0 25 true,mG 27 5 25 true,oG 28 (.binOp .sub 3 (xT 27) (nI 1) 3) 25 true,oG 29 (iA 30 26 28) 25 true,fG 30 89 29 0 25 true,lG 31 3 30 25 true,fG 32 89 6 0 25 true,lG 33 3 32 25 true,oG 34 (bO .geq 3 31 33 3) 25 true,oG 35 (.pick (xT 25) (xT 34) (nB false)) 22 false,pT 36 22 35,mO 37 36,fG 38 89 6 1 37 false,fG 39 33 38 0 37 false,lG 40 3 39 37 false,oG 41 (.binOp .eql 3 (xT 40) (nI 0) 3) 37 false,pT 42 37 41,mO 43 42,fG 44 89 6 1 43 false,lG 45 33 44 43 false,mG 46 1 43 false,oG 47 (cL 80 #[(xT 45),(xT 46)] #[33,3]) 43 false,oG 48 (.unOp .not 4 (xT 47)) 43 false,pT 49 43 48] [0,1,7,8,9,49] (cD 49 (sR [aB 4 false] [4] (.ret)) (.skip))))) (.keep [0,1,7,8,9] (.reg [bQ .add 50 3 9 1 3,mO 9 50] [0,1,7,8,9]))))) 
def VB:CC:=sR [aB 4 false] [0,1] (sQ [mO 7 0,bN 8 7 30,oO 9 (.move (nI 0))] [0,1,7,8,9] (.block 0 (.loop JT)) [] (sR [aB 4 true] [4] (.ret)))
theorem iQ:Bm Tryz.prog 135 51 [(.tmp 4)] VB:=Aw Tryz.func135
def Xu:CC:=sR [bX 3 25 1 [0],aB 4 false] [0,3] (sR [mO 5 0,lO 6 25 3,oO 7 (.buildSlice 23 1 #[(0,(xT 6))]),oO 8 (.build 25 #[(0,(xT 5)),(2,(xT 7))]),cA 9 74 8 25,aO 4 9] [4] (.ret))
theorem m5:Bm Tryz.prog 229 10 [(.tmp 4)] Xu:=Aw Tryz.func229
def P0:CC:=sR [bX 3 33 1 [0],aB 4 false] [0,3] (.seq (.block 0 (sR [mO 6 0,cA 7 140 6 3,mO 8 7,fG 9 33 3 0 8 false,lG 10 3 9 8 false,oG 11 (.binOp .eql 3 (xT 10) (nI 0) 3) 8 false,pT 12 8 11,aO 5 12] [0,3,5] (cD 5 (sR [aB 4 false] [4] (.ret)) (sR [mO 14 0,bQ .eql 15 3 14 8 3,mO 16 15,fG 17 33 3 0 16 false,lG 18 3 17 16 false,oG 19 (.binOp .eql 3 (xT 18) (nI 2) 3) 16 false,pT 20 16 19,aO 13 20] [3,13] (cD 13 (sR [aB 4 true] [4] (.ret)) (.skip)))))) (.keep [3] (sR [fO 21 33 3 0,lO 22 3 21,bQ .eql 23 3 22 1 3,mO 24 23,fG 25 33 3 1 24 true,fG 26 25 25 0 24 true,lG 27 3 26 24 true,oG 28 (.binOp .eql 3 (xT 27) (nI 1) 3) 24 true,pF 29 24 28,mO 30 29,fG 31 33 3 2 30 true,fG 32 25 31 0 30 true,lG 33 3 32 30 true,oG 34 (.binOp .eql 3 (xT 33) (nI 1) 3) 30 true,pF 35 30 34,aO 4 35] [4] (.ret))))
theorem ZD:Bm Tryz.prog 230 36 [(.tmp 4)] P0:=Aw Tryz.func230
def UA:CC:=sR [bX 2 25 0 [0],aB 3 false] [1,2] (sR [lO 4 3 1,lO 5 25 2,cB 6 229 4 5 3 25,oO 7 (.unOp .not 4 (xT 6)),aO 3 7] [3] (.ret))
theorem jN:Bm Tryz.prog 228 8 [(.tmp 3)] UA:=Aw Tryz.func228
def Br:CC:=sR [bB .lss 9 3 8 7 3] [0,1,7,8,9] (.seq (cD 9 (.skip) (.exit 0)) (.keep [0,1,7,8] (.seq (.block 1 (sR [mO 10 8,aO 5 10] [0,1,5,7,8] (sR [mO 11 1,mO 12 0,mO 13 5,iO 14 23 12 13,lO 15 25 14,oO 16 (.call { callee:=(.value (xT 11)),args:=#[(xT 15)],argTypes:=#[25] })] [0,1,5,7,8,16] (cD 16 (sR [mO 17 5,aO 4 17] [4] (.ret)) (.skip))))) (.keep [0,1,7,8] (.reg [bQ .add 18 3 8 1 3,mO 8 18] [0,1,7,8]))))) 
def Db:CC:=sR [aI 4 0] [0,1] (sQ [mO 6 0,bN 7 6 23,oO 8 (.move (nI 0))] [0,1,7,8] (.block 0 (.loop Br)) [] (sR [oO 4 (.assign (.const (.int .i64 (-1))))] [4] (.ret)))
theorem Gf:Bm Tryz.prog 253 19 [(.tmp 4)] Db:=Aw Tryz.func253
def CL:CC:=sR [aB 4 false] [0,1] (sR [mO 5 0,mO 6 1,cB 7 253 5 6 23 26,bQ .geq 8 3 7 0 3,aO 4 8] [4] (.ret))
theorem Fv:Bm Tryz.prog 227 9 [(.tmp 4)] CL:=Aw Tryz.func227
def Ni:CC:=.seq (sR [fO 42 91 4 1,lO 43 3 42,bQ .eql 44 3 43 0 3,mO 45 44,fG 46 91 4 2 45 true,lG 47 23 46 45 true,oG 48 (bL 47 23) 45 true,oG 49 (.binOp .gtr 3 (xT 48) (nI 0) 3) 45 true,pF 50 45 49,mO 51 50,fG 52 91 4 3 51 true,lG 53 33 52 51 true,oG 54 (cL 80 #[(xT 53),(nI 1)] #[33,3]) 51 true,pF 55 51 54,mO 56 55,fG 57 91 4 3 56 true,fG 58 33 57 0 56 true,lG 59 3 58 56 true,oG 60 (.binOp .eql 3 (xT 59) (nI 0) 3) 56 true,pF 61 56 60,mO 62 61,fG 63 91 4 2 62 true,lG 64 23 63 62 true,oG 65 (.makeFunc (.func 228) #[] #[(xT 3)]) 62 true,oG 66 (cL 227 #[(xT 64),(xT 65)] #[23,26]) 62 true,oG 67 (.unOp .not 4 (xT 66)) 62 true,pF 68 62 67,aO 6 68] [6] (.ret)) (.exit 0) 
def ZW:CC:=sR [bX 3 3 0 [0],bX 4 91 1 [1],aB 6 false] [2,3,4] (sQ [fO 7 91 4 0,lO 8 3 7] [2,3,4,8] (.block 0 (.seq (.block 4 (.seq (.block 3 (.block 2 (.seq (.block 1 (.seq (sQ [bQ .eql 10 3 8 0 3,aO 9 10] [2,3,4,8,9] (cD 9 (.exit 1) (.skip)) [2,3,4,8] (sQ [bQ .eql 12 3 8 1 3,aO 11 12] [2,3,4,8,11] (cD 11 (.exit 2) (.skip)) [2,3,4,8] (sQ [bQ .eql 14 3 8 2 3,aO 13 14] [2,3,4,8,13] (cD 13 (.exit 3) (.skip)) [2,3,4,8] (sR [bQ .eql 16 3 8 3 3,aO 15 16] [2,3,4,15] (cD 15 (.exit 4) (.skip)))))) (.exit 0))) (.keep [4] (.seq (sR [fO 17 91 4 1,lO 18 3 17,bQ .geq 19 3 18 1 3,mO 20 19,fG 21 91 4 1 20 true,lG 22 3 21 20 true,oG 23 (.binOp .leq 3 (xT 22) (nI 1048576) 3) 20 true,pF 24 20 23,mO 25 24,fG 26 91 4 2 25 true,lG 27 23 26 25 true,oG 28 (bL 27 23) 25 true,oG 29 (.binOp .eql 3 (xT 28) (nI 0) 3) 25 true,pF 30 25 29,mO 31 30,fG 32 91 4 3 31 true,lG 33 33 32 31 true,oG 34 (cL 80 #[(xT 33),(nI 1)] #[33,3]) 31 true,pF 35 31 34,mO 36 35,fG 37 91 4 3 36 true,fG 38 33 37 0 36 true,lG 39 3 38 36 true,oG 40 (.binOp .eql 3 (xT 39) (nI 0) 3) 36 true,pF 41 36 40,aO 6 41] [6] (.ret)) (.exit 0)))))) (.keep [3,4] (.stop Ni)))) (.keep [2,3,4] (.seq (sR [fO 69 91 4 1,lO 70 3 69,bQ .eql 71 3 70 0 3,mO 72 71,fG 73 91 4 2 72 true,lG 74 23 73 72 true,oG 75 (bL 74 23) 72 true,oG 76 (.binOp .eql 3 (xT 75) (nI 0) 3) 72 true,pF 77 72 76,mO 78 77,lG 79 3 3 78 true,fG 80 91 4 3 78 true,lG 81 33 80 78 true,oG 82 (cL 230 #[(xT 79),(xT 81)] #[3,33]) 78 true,pF 83 78 82,mO 84 83,fG 85 91 4 3 84 true,lG 86 33 85 84 true,mG 87 2 84 true,oG 88 (cL 80 #[(xT 86),(xT 87)] #[33,3]) 84 true,pF 89 84 88,aO 6 89] [6] (.ret)) (.exit 0))))) [] (sR [aB 6 false] [6] (.ret)))
theorem qI:Bm Tryz.prog 190 90 [(.tmp 6)] ZW:=Aw Tryz.func190
def GM:CC:=sR [fO 32 91 7 0,lO 33 3 32,bQ .neq 34 3 33 1 3] [4,5,8,10,11,12,34] (cD 34 (.reg [mO 35 5,mO 36 8,bB .add 37 3 35 36 3,oO 38 (bC .min #[(xT 37),(nI 1048576)] #[3,3]),aO 5 38] [4,5,10,11,12]) (.skip))
def Jk:CC:=sQ [fO 25 91 7 0,lO 26 3 25,bQ .neq 27 3 26 2 3] [4,5,7,8,10,11,12,27] (cD 27 (.reg [mO 28 4,mO 29 8,bB .add 30 3 28 29 3,oO 31 (bC .min #[(xT 30),(nI 1048576)] #[3,3]),aO 4 31] [4,5,7,8,10,11,12]) (.skip)) [4,5,7,8,10,11,12] GM
def ES:CC:=sR [bB .lss 13 3 12 11 3] [4,5,10,11,12,13] (.seq (cD 13 (.skip) (.exit 0)) (.keep [4,5,10,11,12] (.seq (.block 1 (sR [iO 14 31 10 12,lO 15 91 14,aL 7 91 [1],sT 91 7 15] [4,5,7,10,11,12] (sR [fO 16 91 7 1,lO 17 3 16,fO 18 91 7 2,lO 19 23 18,bN 20 19 23,bB .add 21 3 17 20 3,aO 8 21] [4,5,7,8,10,11,12] (sQ [fO 22 91 7 0,lO 23 3 22,bQ .eql 24 3 23 3 3] [4,5,7,8,10,11,12,24] (cD 24 (.reg [aI 8 1] [4,5,7,8,10,11,12]) (.skip)) [4,5,7,8,10,11,12] Jk)))) (.keep [4,5,10,11,12] (.reg [bQ .add 39 3 12 1 3,mO 12 39] [4,5,10,11,12]))))) 
def NQ:CC:=sR [bX 1 33 0 [0],aI 2 0,aI 3 0] [1] (sR [aI 4 0,aI 5 0] [1,4,5] (sQ [fO 9 33 1 6,lO 10 31 9,bN 11 10 31,oO 12 (.move (nI 0))] [4,5,10,11,12] (.block 0 (.loop ES)) [4,5] (sR [mO 40 4,mO 41 5,aO 2 40,aO 3 41] [2,3] (.ret))))
theorem W8:Bm Tryz.prog 191 42 [(.tmp 2),(.tmp 3)] NQ:=Aw Tryz.func191
def KR:CC:=sR [bB .lss 13 3 12 11 3] [1,2,10,11,12,13] (.seq (cD 13 (.skip) (.exit 0)) (.keep [1,2,10,11,12] (.seq (.block 1 (sR [iO 14 31 10 12,lO 15 91 14,aL 6 91 [1],sT 91 6 15] [1,2,6,10,11,12] (sR [fO 16 33 2 5,lO 17 3 16,lO 18 91 6,mO 19 1,cE 20 190 17 18 19 3 91 3,oO 21 (.unOp .not 4 (xT 20))] [1,2,10,11,12,21] (cD 21 (sR [aB 4 false] [4] (.ret)) (.skip))))) (.keep [1,2,10,11,12] (.reg [bQ .add 22 3 12 1 3,mO 12 22] [1,2,10,11,12]))))) 
def WC:CC:=sR [bX 2 33 0 [0],aB 4 false] [1,2] (sQ [fO 9 33 2 6,lO 10 31 9,bN 11 10 31,oO 12 (.move (nI 0))] [1,2,10,11,12] (.block 0 (.loop KR)) [2] (sR [lO 24 33 2,cA 25 191 24 33,mO 23 25,xO 26 23 0,xO 27 23 1,aO 7 26,aO 8 27] [7,8] (sR [mO 28 7,bQ .lss 29 3 28 1048576 3,mO 30 29,mG 31 8 30 true,oG 32 (.binOp .lss 3 (xT 31) (nI 1048576) 3) 30 true,pF 33 30 32,aO 4 33] [4] (.ret))))
theorem kF:Bm Tryz.prog 136 34 [(.tmp 4)] WC:=Aw Tryz.func136
def SB:CC:=sR [bX 2 33 0 [0],aB 4 false] [1,2] (sQ [lO 5 33 2,cA 6 132 5 33,oO 7 (.unOp .not 4 (xT 6)),mO 8 7,mG 9 1 8 false,oG 10 (.binOp .eql 3 (xT 9) (nI 0) 3) 8 false,pT 11 8 10] [1,2,11] (cD 11 (sR [aB 4 false] [4] (.ret)) (.skip)) [1,2] (sQ [fO 12 33 2 0,lO 13 3 12] [1,2,13] (.block 0 (sR [bQ .eql 15 3 13 0 3,aO 14 15] [1,2,13,14] (cD 14 (sR [aB 4 true] [4] (.ret)) (sR [bQ .eql 17 3 13 1 3,aO 16 17] [1,2,13,16] (cD 16 (sR [fO 18 33 2 1,lO 19 25 18,cA 20 133 19 25,mO 21 20,fG 22 33 2 2 21 true,lG 23 25 22 21 true,oG 24 (cL 133 #[(xT 23)] #[25]) 21 true,pF 25 21 24,aO 4 25] [4] (.ret)) (sR [bQ .eql 27 3 13 2 3,aO 26 27] [1,2,13,26] (cD 26 (sR [fO 28 33 2 3,lO 29 29 28,cA 30 134 29 29,mO 31 30,fG 32 33 2 4 31 true,lG 33 30 32 31 true,mG 34 1 31 true,oG 35 (.binOp .sub 3 (xT 34) (nI 1) 3) 31 true,oG 36 (cL 135 #[(xT 33),(xT 35)] #[30,3]) 31 true,pF 37 31 36,aO 4 37] [4] (.ret)) (sR [bQ .eql 39 3 13 3 3,aO 38 39] [1,2,38] (cD 38 (sR [fO 40 33 2 5,lO 41 3 40,cA 42 61 41 3,mO 43 42,lG 44 33 2 43 true,mG 45 1 43 true,oG 46 (.binOp .sub 3 (xT 45) (nI 1) 3) 43 true,oG 47 (cL 136 #[(xT 44),(xT 46)] #[33,3]) 43 true,pF 48 43 47,aO 4 48] [4] (.ret)) (.skip)))))))))) [] (sR [aB 4 false] [4] (.ret))))
theorem cw:Bm Tryz.prog 80 49 [(.tmp 4)] SB:=Aw Tryz.func80
def Sy:CC:=sR [bX 1 33 0 [0],aB 2 false] [1] (sR [lO 3 33 1,oO 4 (cL 80 #[(xT 3),(nI 64)] #[33,3]),aO 2 4] [2] (.ret))
theorem df:Bm Tryz.prog 40 5 [(.tmp 2)] Sy:=Aw Tryz.func40
def NF:CC:=sR [oO 6 (.assign (.const (.int .u64 0)))] [0,1,2] (sR [mO 7 0,oO 8 (.convert 3 51 (xT 7)),mO 9 1,oO 10 (.convert 3 51 (xT 9)),mO 11 2,bB .shl 12 51 10 11 3,bB .or 13 51 8 12 51,aO 6 13] [6] (.ret))
theorem XR:Bm Tryz.prog 82 14 [(.tmp 6)] NF:=Aw Tryz.func82
def KZ:CC:=sR [aL 4 25 [0]] [0,1,4] (sR [mO 5 0,mO 6 1,oO 7 (.build 25 #[(0,(nI 1)),(1,(xT 5)),(2,(xT 6))]),sT 25 4 7] [4] (.ret))
theorem R7:Bm Tryz.prog 81 8 [(.cell 4 25)] KZ:=Aw Tryz.func81
def UT:CC:=sR [aL 2 25 [0]] [0,2] (sQ [mO 3 0,bN 4 3 23,bQ .eql 5 3 4 0 3] [0,2,5] (cD 5 (sR [oO 6 (.build 25 #[]),sT 25 2 6] [2] (.ret)) (.skip)) [0,2] (sR [mO 7 0,oO 8 (.build 25 #[(0,(nI 9)),(2,(xT 7))]),sT 25 2 8] [2] (.ret)))
theorem gI:Bm Tryz.prog 83 9 [(.cell 2 25)] UT:=Aw Tryz.func83
def Iy:CC:=sR [bB .lss 29 3 28 27 3] [1,2,3,4,26,27,28,29] (.seq (cD 29 (.skip) (.exit 1)) (.keep [1,2,3,4,26,27,28] (.seq (.block 2 (sR [iO 30 29 26 28,lO 31 80 30,aL 6 80 [2],sT 80 6 31] [1,2,3,4,6,26,27,28] (.reg [mO 32 3,fO 33 80 6 0,lO 34 3 33,fO 35 80 6 1,lO 36 5 35,oO 37 (.convert 5 3 (xT 36)),⟨some 38,(cL 82 #[(xT 34),(xT 37),(nI 32)] #[3,3,3]),none,[],6,[],true⟩,fO 39 80 6 2,⟨some 40,(lD 51 39),none,[],8,[6],false⟩,fO 41 80 6 3,⟨some 42,(lD 51 41),none,[],10,[6],false⟩,oO 43 (.buildSlice 22 3 #[(0,(xT 38)),(1,(xT 40)),(2,(xT 42))]),oO 44 (cL 81 #[(xT 43),nS] #[22,23]),oO 45 (.buildSlice 23 1 #[(0,(xT 44))]),aP 46 32 45 23 23 [3],aO 3 46] [1,2,3,4,26,27,28]))) (.reg [bQ .add 47 3 28 1 3,mO 28 47] [1,2,3,4,26,27,28]))))
def Ir:CC:=sR [bB .lss 52 3 51 50 3] [2,3,4,49,50,51,52] (.seq (cD 52 (.skip) (.exit 3)) (.keep [2,3,4,49,50,51] (.seq (.block 4 (sR [iO 53 30 49 51,lO 54 89 53,aL 8 89 [4],sT 89 8 54] [2,3,4,8,49,50,51] (.reg [mO 55 4,fO 56 89 8 0,lS 57 3 56 2,oO 58 (.convert 3 51 (xT 57)),⟨some 59,(.buildSlice 22 1 #[(0,(xT 58))]),none,[],4,[],true⟩,fO 60 89 8 1,⟨some 61,(lD 33 60),none,[],6,[4],false⟩,⟨some 62,(cL 41 #[(xT 61)] #[33]),none,[],7,[2,4],false⟩,⟨some 63,(.buildSlice 23 1 #[(0,(xT 62))]),none,[],8,[2,4],false⟩,cB 64 81 59 63 22 23,oO 65 (.buildSlice 23 1 #[(0,(xT 64))]),aP 66 55 65 23 23 [5],aO 4 66] [2,3,4,49,50,51]))) (.reg [bQ .add 67 3 51 1 3,mO 51 67] [2,3,4,49,50,51]))))
def Ip:CC:=sR [bB .lss 81 3 80 79 3] [1,2,9,78,79,80,81] (.seq (cD 81 (.skip) (.exit 5)) (.keep [1,2,9,78,79,80] (.seq (.block 6 (sR [iO 82 31 78 80,lO 83 91 82,aL 11 91 [6],sT 91 11 83] [1,2,9,11,78,79,80] (.reg [mO 84 9,fO 85 33 1 5,lO 86 3 85,lO 87 91 11,cB 88 84 86 87 3 91,oO 89 (.buildSlice 23 1 #[(0,(xT 88))]),aP 90 84 89 23 23 [7],aO 9 90] [1,2,9,78,79,80]))) (.reg [bQ .add 91 3 80 1 3,mO 80 91] [1,2,9,78,79,80])))) 
def Sk:CC:=sR [bX 1 33 0 [0],aL 2 25 [1]] [1,2] (sQ [fO 12 33 1 0,lO 13 3 12] [1,2,13] (.block 0 (sR [bQ .eql 15 3 13 1 3,aO 14 15] [1,2,13,14] (cD 14 (sR [oO 16 (.buildSlice 22 1 #[(0,(.const (.int .u64 1)))]),fO 17 33 1 1,lO 18 25 17,fO 19 33 1 2,lO 20 25 19,oO 21 (.buildSlice 23 2 #[(0,(xT 18)),(1,(xT 20))]),cB 22 81 16 21 22 23,sT 25 2 22] [2] (.ret)) (sR [bQ .eql 24 3 13 2 3,aO 23 24] [1,2,13,23] (cD 23 (sR [aN 3,aN 4] [1,2,3,4] (sQ [fO 25 33 1 3,lO 26 29 25,bN 27 26 29,oO 28 (.move (nI 0))] [1,2,3,4,26,27,28] (.block 1 (.loop Iy)) [1,2,3,4] (sQ [fO 48 33 1 4,lO 49 30 48,bN 50 49 30,oO 51 (.move (nI 0))] [2,3,4,49,50,51] (.block 3 (.loop Ir)) [2,3,4] (.stop (sR [oO 68 (.buildSlice 22 1 #[(0,(.const (.int .u64 2)))]),mO 69 3,cA 70 83 69 23,mO 71 4,cA 72 83 71 23,oO 73 (.buildSlice 23 2 #[(0,(xT 70)),(1,(xT 72))]),cB 74 81 68 73 22 23,sT 25 2 74] [2] (.ret)))))) (sR [bQ .eql 76 3 13 3 3,aO 75 76] [1,2,75] (cD 75 (sR [aN 9] [1,2,9] (sQ [fO 77 33 1 6,lO 78 31 77,bN 79 78 31,oO 80 (.move (nI 0))] [1,2,9,78,79,80] (.block 5 (.loop Ip)) [1,2,9] (.stop (sR [fO 92 33 1 5,lO 93 3 92,oO 94 (cL 82 #[(nI 3),(xT 93),(nI 8)] #[3,3,3]),oO 95 (.buildSlice 22 1 #[(0,(xT 94))]),mO 96 9,cA 97 83 96 23,oO 98 (.buildSlice 23 1 #[(0,(xT 97))]),cB 99 81 95 98 22 23,sT 25 2 99] [2] (.ret))))) (.skip)))))))) [2] (sR [oO 100 (.build 25 #[]),sT 25 2 100] [2] (.ret)))
theorem eD:Bm Tryz.prog 41 101 [(.cell 2 25)] Sk:=Aw Tryz.func41
def IX:CC:=cD 14 (sR [mO 17 5,mO 18 0,fO 19 91 3 2,lO 20 23 19,oO 21 (.build 25 #[(0,(xT 18)),(2,(xT 20))]),oO 22 (.buildSlice 23 1 #[(0,(xT 21))]),cB 23 81 17 22 22 23,sT 25 4 23] [4] (.ret)) (sR [bQ .eql 25 3 13 3 3,aO 24 25] [3,4,5,24] (cD 24 (sR [mO 26 5,fO 27 91 3 3,lO 28 33 27,cA 29 41 28 33,oO 30 (.buildSlice 23 1 #[(0,(xT 29))]),cB 31 81 26 30 22 23,sT 25 4 31] [4] (.ret)) (.skip))) 
def XC:CC:=sR [bX 3 91 1 [0],aL 4 25 [1]] [0,3,4] (sR [fO 6 91 3 0,lO 7 3 6,fO 8 91 3 1,lO 9 3 8,oO 10 (cL 82 #[(xT 7),(xT 9),(nI 8)] #[3,3,3]),oO 11 (.buildSlice 22 1 #[(0,(xT 10))]),aO 5 11] [0,3,4,5] (sQ [fO 12 91 3 0,lO 13 3 12] [0,3,4,5,13] (.block 0 (sQ [bQ .eql 15 3 13 1 3,aO 14 15] [0,3,4,5,13,14] (cD 14 (.skip) (.reg [bQ .eql 16 3 13 2 3,aO 14 16] [0,3,4,5,13,14])) [0,3,4,5,13,14] IX)) [4,5] (sR [mO 32 5,oO 33 (cL 81 #[(xT 32),nS] #[22,23]),sT 25 4 33] [4] (.ret))))
theorem kT:Bm Tryz.prog 84 34 [(.cell 4 25)] XC:=Aw Tryz.func84
def Rh:CC:=sR [aI 6 0] [0,1,2] (sR [mO 7 0,mO 8 1,bB .shr 9 51 7 8 3,mO 10 2,oO 11 (.binOp .shl 51 (.const (.int .u64 1)) (xT 10) 3),oO 12 (.binOp .sub 51 (xT 11) (.const (.int .u64 1)) 51),bB .and 13 51 9 12 51,oO 14 (.convert 51 3 (xT 13)),aO 6 14] [6] (.ret))
theorem cz:Bm Tryz.prog 187 15 [(.tmp 6)] Rh:=Aw Tryz.func187
def IC:CC:=sR [bB .lss 43 3 42 41 3] [2,4,6,40,41,42,43] (.seq (cD 43 (.skip) (.exit 1)) (.keep [2,4,6,40,41,42] (.seq (.block 2 (sR [iO 44 23 40 42,lO 45 25 44,aL 8 25 [5],sT 25 8 45] [2,4,6,8,40,41,42] (sR [lO 46 25 8,oO 47 (cL 115 #[(xT 46),(nI 0)] #[25,3]),aO 9 47] [2,4,6,8,9,40,41,42] (.reg [fO 48 33 4 3,lS 49 29 48 1,mO 50 9,⟨some 51,(cL 187 #[(xT 50),(nI 0),(nI 32)] #[51,3,3]),none,[],3,[1],true⟩,mO 52 9,⟨some 53,(cL 187 #[(xT 52),(nI 32),(nI 8)] #[51,3,3]),none,[],5,[1],true⟩,oO 54 (.convert 3 5 (xT 53)),⟨some 55,(lD 25 8),none,[],7,[3,5],false⟩,⟨some 56,(cL 115 #[(xT 55),(nI 1)] #[25,3]),none,[],8,[1],true⟩,⟨some 57,(lD 25 8),none,[],9,[3,5,8],false⟩,⟨some 58,(cL 115 #[(xT 57),(nI 2)] #[25,3]),none,[],10,[1],false⟩,oO 59 (.build 80 #[(0,(xT 51)),(1,(xT 54)),(2,(xT 56)),(3,(xT 58))]),⟨some 60,(.buildSlice 29 1 #[(0,(xT 59))]),none,[],12,[1],false⟩,aP 61 49 60 29 29 [6],fO 62 33 4 3,sT 29 62 61] [2,4,6,40,41,42])))) (.reg [bQ .add 63 3 42 1 3,mO 42 63] [2,4,6,40,41,42]))))
def Io:CC:=sR [bB .lss 68 3 67 66 3] [2,4,65,66,67,68] (.seq (cD 68 (.skip) (.exit 3)) (.keep [2,4,65,66,67] (.seq (.block 4 (sR [iO 69 23 65 67,lO 70 25 69,aL 11 25 [7],sT 25 11 70] [2,4,11,65,66,67] (.reg [fO 71 33 4 4,lS 72 30 71 1,lO 73 25 11,⟨some 74,(cL 115 #[(xT 73),(nI 0)] #[25,3]),none,[],3,[1],true⟩,⟨some 75,(cL 187 #[(xT 74),(nI 0),(nI 32)] #[51,3,3]),none,[],4,[1],true⟩,⟨some 76,(lD 25 11),none,[],5,[3,4],false⟩,⟨some 77,(cL 116 #[(xT 76),(nI 0)] #[25,3]),none,[],6,[1],false⟩,⟨some 78,(cL 131 #[(xT 77)] #[25]),none,[],7,[1],false⟩,oO 79 (.build 89 #[(0,(xT 75)),(1,(xT 78))]),⟨some 80,(.buildSlice 30 1 #[(0,(xT 79))]),none,[],9,[1],false⟩,aP 81 72 80 30 30 [8],fO 82 33 4 4,sT 30 82 81] [2,4,65,66,67]))) (.reg [bQ .add 83 3 67 1 3,mO 67 83] [2,4,65,66,67]))))
def Il:CC:=sR [bB .lss 90 3 89 88 3] [2,4,87,88,89,90] (.seq (cD 90 (.skip) (.exit 5)) (.keep [2,4,87,88,89] (.seq (.block 6 (sR [iO 91 23 87 89,lO 92 25 91,aL 13 25 [9],sT 25 13 92] [2,4,13,87,88,89] (.reg [fO 93 33 4 6,lS 94 31 93 1,lO 95 25 13,⟨some 96,(cL 188 #[(xT 95)] #[25]),none,[],3,[1],false⟩,⟨some 97,(.buildSlice 31 1 #[(0,(xT 96))]),none,[],4,[1],false⟩,aP 98 94 97 31 31 [10],fO 99 33 4 6,sT 31 99 98] [2,4,87,88,89]))) (.reg [bQ .add 100 3 89 1 3,mO 89 100] [2,4,87,88,89])))) 
def MU:CC:=sR [bX 1 25 0 [0],aL 2 33 [1]] [1,2] (sR [lO 14 25 1,oO 15 (cL 115 #[(xT 14),(nI 0)] #[25,3]),aO 3 15] [1,2,3] (sR [mO 16 3,oO 17 (cL 187 #[(xT 16),(nI 0),(nI 8)] #[51,3,3]),mO 18 3,oO 19 (cL 187 #[(xT 18),(nI 8),(nI 8)] #[51,3,3]),oO 20 (.build 33 #[(0,(xT 17)),(5,(xT 19))]),aL 4 33 [2],sT 33 4 20] [1,2,4] (sQ [fO 21 25 1 0,lO 22 3 21,bQ .neq 23 3 22 1 3] [1,2,4,23] (cD 23 (sR [oO 24 (.build 33 #[]),sT 33 2 24] [2] (.ret)) (.skip)) [1,2,4] (sR [lS 25 25 1 0,⟨some 26,(cL 116 #[(xT 25),(nI 0)] #[25,3]),none,[],1,[],true⟩,⟨some 27,(lD 25 1),none,[],2,[1],true⟩,⟨some 28,(cL 116 #[(xT 27),(nI 1)] #[25,3]),none,[],3,[],true⟩,⟨some 5,(.alloc 25),none,[3],4,[0,1,2,3],true⟩,⟨some 6,(.alloc 25),none,[4],5,[0,1,2,3,4],false⟩,sT 25 5 26,sT 25 6 28] [2,4,5,6] (sQ [fO 29 33 4 0,lO 30 3 29] [2,4,5,6,30] (.block 0 (sR [bQ .eql 32 3 30 1 3,aO 31 32] [2,4,5,6,30,31] (cD 31 (.reg [lO 33 25 5,lS 34 25 6 1,fO 35 33 4 1,⟨none,(.store 25 (xT 35) (xT 33)),none,[],3,[1],false⟩,fO 36 33 4 2,sT 25 36 34] [2,4]) (sR [bQ .eql 38 3 30 2 3,aO 37 38] [2,4,5,6,30,37] (cD 37 (sQ [fO 39 25 5 2,lO 40 23 39,bN 41 40 23,oO 42 (.move (nI 0))] [2,4,6,40,41,42] (.block 1 (.loop IC)) [2,4,6] (sR [fO 64 25 6 2,lO 65 23 64,bN 66 65 23,oO 67 (.move (nI 0))] [2,4,65,66,67] (.block 3 (.loop Io)))) (sR [bQ .eql 85 3 30 3 3,aO 84 85] [2,4,5,84] (cD 84 (sR [fO 86 25 5 2,lO 87 23 86,bN 88 87 23,oO 89 (.move (nI 0))] [2,4,87,88,89] (.block 5 (.loop Il))) (.skip)))))))) [2,4] (sR [lO 101 33 4,sT 33 2 101] [2] (.ret)))))))
theorem RB:Bm Tryz.prog 131 102 [(.cell 2 33)] MU:=Aw Tryz.func131
def Gl:CC:=cD 14 (.reg [lO 17 25 1,oO 18 (cL 116 #[(xT 17),(nI 0)] #[25,3]),oO 19 (.field 25 (xT 18) 2),fO 20 91 4 2,sT 23 20 19] [2,4]) (sR [bQ .eql 22 3 13 3 3,aO 21 22] [1,2,4,21] (cD 21 (.reg [lO 23 25 1,oO 24 (cL 116 #[(xT 23),(nI 0)] #[25,3]),cA 25 131 24 25,fO 26 91 4 3,sT 33 26 25] [2,4]) (.skip))) 
def RR:CC:=sR [bX 1 25 0 [0],aL 2 91 [1]] [1,2] (sR [lO 5 25 1,oO 6 (cL 115 #[(xT 5),(nI 0)] #[25,3]),aO 3 6] [1,2,3] (sR [mO 7 3,oO 8 (cL 187 #[(xT 7),(nI 0),(nI 8)] #[51,3,3]),mO 9 3,oO 10 (cL 187 #[(xT 9),(nI 8),(nI 40)] #[51,3,3]),oO 11 (.build 91 #[(0,(xT 8)),(1,(xT 10))]),aL 4 91 [2],sT 91 4 11] [1,2,4] (sQ [fO 12 91 4 0,lO 13 3 12] [1,2,4,13] (.block 0 (sQ [bQ .eql 15 3 13 1 3,aO 14 15] [1,2,4,13,14] (cD 14 (.skip) (.reg [bQ .eql 16 3 13 2 3,aO 14 16] [1,2,4,13,14])) [1,2,4,13,14] Gl)) [2,4] (sR [lO 27 91 4,sT 91 2 27] [2] (.ret)))))
theorem cu:Bm Tryz.prog 188 28 [(.cell 2 91)] RR:=Aw Tryz.func188
def S7:CC:=sR [bX 1 25 0 [0],aL 2 33 [1],aB 3 false] [1,2] (sR [lO 5 25 1,cA 6 131 5 25,aL 4 33 [2],sT 33 4 6] [1,2,4] (sQ [lO 7 33 4,cA 8 40 7 33,oO 9 (.unOp .not 4 (xT 8)),mO 10 9,lG 11 33 4 10 false,⟨some 12,(cL 41 #[(xT 11)] #[33]),(some (10,false)),[],5,[],true⟩,⟨some 13,(lD 25 1),(some (10,false)),[],6,[5],false⟩,oG 14 (cL 59 #[(xT 12),(xT 13)] #[25,25]) 10 false,oG 15 (.unOp .not 4 (xT 14)) 10 false,pT 16 10 15] [2,4,16] (cD 16 (sR [oO 17 (.build 33 #[]),sT 33 2 17,aB 3 false] [2,3] (.ret)) (.skip)) [2,4] (sR [lO 18 33 4,sT 33 2 18,aB 3 true] [2,3] (.ret))))
theorem bZ:Bm Tryz.prog 79 19 [(.cell 2 33),(.tmp 3)] S7:=Aw Tryz.func79
def Ow:CC:=sR [aL 0 43 [0]] [0] (sR [oO 1 (.build 43 #[(0,(nI 64)),(1,(nI 65536))]),sT 43 0 1] [0] (.ret))
theorem Ys:Bm Tryz.prog 44 2 [(.cell 0 43)] Ow:=Aw Tryz.func44
def OG:CC:=sR [bX 2 33 0 [0],aN 4,aB 5 false] [1,2] (sQ [lO 10 33 2,cA 11 40 10 33,oO 12 (.unOp .not 4 (xT 11))] [1,2,12] (cD 12 (sR [aN 4,aB 5 false] [4,5] (.ret)) (.skip)) [1,2] (sR [lO 14 33 2,cA 15 41 14 33,mO 16 1,cB 17 36 15 16 25 3,mO 13 17,xO 18 13 0,xO 19 13 1,aO 6 18,aO 7 19] [6,7] (sQ [mO 20 7,oO 21 (.unOp .not 4 (xT 20))] [6,21] (cD 21 (sR [aN 4,aB 5 false] [4,5] (.ret)) (.skip)) [6] (sQ [mO 23 6,oO 24 (.buildSlice 41 1 #[(0,(xT 23))]),cA 25 43 24 41,oO 26 (cL 44 #[] #[]),cB 27 42 25 26 50 43,mO 22 27,xO 28 22 0,xO 29 22 1,aO 8 28,aO 9 29] [6,9] (sR [mO 30 9,bQ .neq 31 47 30 0 47] [6,31] (cD 31 (sR [aN 4,aB 5 false] [4,5] (.ret)) (.skip))) [6] (sR [mO 32 6,aO 4 32,aB 5 true] [4,5] (.ret))))))
theorem Xx:Bm Tryz.prog 17 33 [(.tmp 4),(.tmp 5)] OG:=Aw Tryz.func17
def OH:CC:=sR [aL 2 33 [0],aI 3 0] [0,2] (sR [mO 9 0,oO 10 (cL 44 #[] #[]),cB 11 78 9 10 22 43,mO 8 11,xO 12 8 0,xO 13 8 1,aL 4 25 [1],sT 25 4 12,aO 5 13] [2,4,5] (sQ [mO 14 5,bQ .neq 15 47 14 0 47] [2,4,5,15] (cD 15 (sR [oO 16 (.build 33 #[]),mO 17 5,sT 33 2 16,aO 3 17] [2,3] (.ret)) (.skip)) [2,4] (sR [lO 19 25 4,cA 20 79 19 25,mO 18 20,xO 21 18 0,xO 22 18 1,aL 6 33 [2],sT 33 6 21,aO 7 22] [2,6,7] (sQ [mO 23 7,oO 24 (.unOp .not 4 (xT 23))] [2,6,24] (cD 24 (sR [oO 25 (.build 33 #[]),sT 33 2 25,aI 3 12] [2,3] (.ret)) (.skip)) [2,6] (sR [lO 26 33 6,sT 33 2 26,aI 3 0] [2,3] (.ret))))))
theorem Y3:Bm Tryz.prog 37 27 [(.cell 2 33),(.tmp 3)] OH:=Aw Tryz.func37
def Jv:CC:=sR [aI 4 0] [0,1] (sR [mO 6 0,nC 7 6,fO 8 116 7 0,lO 9 22 8,bN 10 9 22,aO 5 10] [0,1,5] (sR [mO 11 0,mO 12 0,nC 13 12,fO 14 116 13 0,lO 15 22 14,mO 16 1,aP 17 15 16 22 3 [1],nC 18 11,fO 19 116 18 0,sT 22 19 17] [5] (sR [mO 20 5,aO 4 20] [4] (.ret))))
theorem PK:Bm Tryz.prog 77 21 [(.tmp 4)] Jv:=Aw Tryz.func77
def E4:CC:=sR [lO 29 175 7,cA 30 184 29 175,mO 28 30,xO 31 28 0,xO 32 28 1,aO 9 31,aO 10 32] [0,1,9,10] (sR [mO 33 0,nC 34 33,fO 35 116 34 0,lO 36 22 35,mO 37 1,mO 38 9,iO 39 22 36 37,sT 51 39 38] [10] (sR [mO 40 10,aO 8 40] [8] (.ret))) 
def IL:CC:=sR [bX 7 175 3 [1],aB 8 false] [0,1,2,7] (sR [mO 11 2,mO 12 1,bB .sub 13 3 11 12 3,bQ .sub 14 3 13 1 3,fO 15 175 7 1,sT 3 15 14] [0,1,7] (sQ [fO 16 175 7 0,lO 17 3 16,bQ .eql 18 3 17 1 3,mO 19 18,fG 20 175 7 2 19 true,lG 21 3 20 19 true,fG 22 175 7 3 19 true,lG 23 3 22 19 true,oG 24 (bO .add 3 21 23 3) 19 true,oG 25 (.binOp .eql 3 (xT 24) (nI 0) 3) 19 true,pF 26 19 25] [0,1,7,26] (cD 26 (.reg [fO 27 175 7 1,oS (.store 3 (xT 27) (.const (.int .i64 (-1))))] [0,1,7]) (.skip)) [0,1,7] E4))
theorem NU:Bm Tryz.prog 125 41 [(.tmp 8)] IL:=Aw Tryz.func125
def DX:CC:=sR [bB .lss 91 3 90 89 3] [0,1,5,9,10,88,89,90,91] (.seq (cD 91 (.skip) (.exit 1)) (.keep [0,1,5,9,10,88,89,90] (.seq (.block 2 (sR [iO 92 23 88 90,lO 93 25 92,aL 12 25 [2],sT 25 12 93] [0,1,5,9,10,12,88,89,90] (.reg [mO 94 10,lO 95 25 12,oO 96 (cL 115 #[(xT 95),(nI 0)] #[25,3]),oO 97 (.buildSlice 22 1 #[(0,(xT 96))]),aP 98 94 97 22 22 [3],aO 10 98] [0,1,5,9,10,88,89,90]))) (.reg [bQ .add 99 3 90 1 3,mO 90 99] [0,1,5,9,10,88,89,90])))) 
def Cw:CC:=sR [bX 5 25 2 [1],aB 6 false] [0,1,5] (.seq (.block 0 (sR [fO 17 25 5 0,lO 18 3 17,bQ .eql 19 3 18 0 3,aO 16 19] [0,1,5,16] (cD 16 (sR [aB 6 true] [6] (.ret)) (sR [fO 21 25 5 0,lO 22 3 21,bQ .eql 23 3 22 1 3,aO 20 23] [0,1,5,20] (cD 20 (sR [mO 24 0,fO 25 25 5 1,lO 26 22 25,bN 27 26 22,fO 28 25 5 2,lO 29 23 28,bN 30 29 23,bB .add 31 3 27 30 3,cB 32 77 24 31 114 3,aO 7 32] [0,1,5,7] (sR [mO 33 0,mO 34 1,mO 35 7,fO 36 25 5 1,lO 37 22 36,bN 38 37 22,fO 39 25 5 2,lO 40 23 39,bN 41 40 23,oO 42 (.build 175 #[(0,(nI 1)),(2,(xT 38)),(3,(xT 41))]),oO 43 (cL 125 #[(xT 33),(xT 34),(xT 35),(xT 42)] #[114,3,3,175]),mO 44 43,mG 45 0 44 true,mG 46 7 44 true,fG 47 25 5 1 44 true,lG 48 22 47 44 true,oG 49 (bL 48 22) 44 true,lG 50 25 5 44 true,oG 51 (cL 126 #[(xT 45),(xT 46),(xT 49),(xT 50)] #[114,3,3,25]) 44 true,pF 52 44 51,aO 6 52] [6] (.ret))) (sR [fO 54 25 5 0,lO 55 3 54,bQ .eql 56 3 55 9 3,aO 53 56] [0,1,5,53] (cD 53 (sR [mO 57 0,mO 58 1,lO 59 25 5,cE 60 127 57 58 59 114 3 25,aO 6 60] [6] (.ret)) (sR [fO 62 25 5 0,lO 63 3 62,bQ .eql 64 3 63 8 3,aO 61 64] [0,1,5,61] (cD 61 (sR [mO 65 0,fO 66 25 5 2,lO 67 23 66,bN 68 67 23,cB 69 77 65 68 114 3,aO 8 69] [0,1,5,8] (sR [mO 70 0,mO 71 1,mO 72 8,fO 73 25 5 2,lO 74 23 73,bN 75 74 23,oO 76 (.build 175 #[(0,(nI 2)),(4,(nI 6)),(5,(xT 75))]),oO 77 (cL 125 #[(xT 70),(xT 71),(xT 72),(xT 76)] #[114,3,3,175]),mO 78 77,mG 79 0 78 true,mG 80 8 78 true,lG 81 25 5 78 true,oG 82 (cL 128 #[(xT 79),(xT 80),(xT 81)] #[114,3,25]) 78 true,pF 83 78 82,aO 6 83] [6] (.ret))) (.skip)))))))))) (.keep [0,1,5] (sR [fO 84 25 5 0,lO 85 3 84,bQ .sub 86 3 85 2 3,aO 9 86] [0,1,5,9] (sR [aN 10] [0,1,5,9,10] (sQ [fO 87 25 5 2,lO 88 23 87,bN 89 88 23,oO 90 (.move (nI 0))] [0,1,5,9,10,88,89,90] (.block 1 (.loop DX)) [0,1,5,9,10] (.stop (sR [mO 101 9,mO 102 10,cB 103 129 101 102 3 22,mO 100 103,xO 104 100 0,xO 105 100 1,aO 13 104,aO 14 105] [0,1,5,9,13,14] (sR [mO 106 0,mO 107 13,bN 108 107 22,cB 109 77 106 108 114 3,aO 15 109] [0,1,5,9,13,14,15] (sR [mO 110 0,nC 111 110,fO 112 116 111 0,lO 113 22 112,mO 114 15,oO 115 (.slice 22 (xT 113) (some (xT 114)) none none),mO 116 13,oO 117 (bC .copy #[(xT 115),(xT 116)] #[22,22])] [0,1,5,9,14,15] (sR [mO 118 14,mO 119 118,mG 120 0 119 true,mG 121 1 119 true,mG 122 15 119 true,mG 123 9 119 true,fG 124 25 5 2 119 true,lG 125 23 124 119 true,oG 126 (bL 125 23) 119 true,oG 127 (.build 175 #[(0,(nI 2)),(4,(xT 123)),(5,(xT 126))]) 119 true,oG 128 (cL 125 #[(xT 120),(xT 121),(xT 122),(xT 127)] #[114,3,3,175]) 119 true,pF 129 119 128,aO 6 129] [6] (.ret)))))))))))
theorem Dc:Bm Tryz.prog 76 130 [(.tmp 6)] Cw:=Aw Tryz.func76
def DL:CC:=sR [bB .lss 13 3 12 11 3] [0,1,10,11,12,13] (.seq (cD 13 (.skip) (.exit 0)) (.keep [0,1,10,11,12] (.seq (.block 1 (sR [mO 14 12,iO 15 23 10 12,lO 16 25 15,aL 8 25 [2],aO 7 14,sT 25 8 16] [0,1,7,8,10,11,12] (sR [mO 17 0,mO 18 1,mO 19 7,bB .add 20 3 18 19 3,lO 21 25 8,cE 22 76 17 20 21 114 3 25,oO 23 (.unOp .not 4 (xT 22))] [0,1,10,11,12,23] (cD 23 (sR [aB 6 false] [6] (.ret)) (.skip))))) (.keep [0,1,10,11,12] (.reg [bQ .add 24 3 12 1 3,mO 12 24] [0,1,10,11,12]))))) 
def Jq:CC:=sR [bX 5 25 2 [1],aB 6 false] [0,1,5] (sQ [fO 9 25 5 2,lO 10 23 9,bN 11 10 23,oO 12 (.move (nI 0))] [0,1,10,11,12] (.block 0 (.loop DL)) [] (sR [aB 6 true] [6] (.ret)))
theorem PM:Bm Tryz.prog 128 25 [(.tmp 6)] Jq:=Aw Tryz.func128
def Gs:CC:=sR [bX 7 25 3 [1],aB 8 false] [0,1,2,7] (sR [mO 9 0,nC 10 9,fO 11 116 10 0,lO 12 22 11,mO 13 1,oO 14 (.slice 22 (xT 12) (some (xT 13)) none none),fO 15 25 7 1,lO 16 22 15,oO 17 (bC .copy #[(xT 14),(xT 16)] #[22,22])] [0,1,2,7] (sR [mO 18 0,mO 19 1,mO 20 2,bB .add 21 3 19 20 3,lO 22 25 7,cE 23 128 18 21 22 114 3 25,aO 8 23] [8] (.ret)))
theorem LF:Bm Tryz.prog 126 24 [(.tmp 8)] Gs:=Aw Tryz.func126
def CD:CC:=sR [bB .lss 65 3 64 63 3] [0,5,7,9,11,12,62,63,64,65] (.seq (cD 65 (.skip) (.exit 0)) (.keep [0,5,7,9,11,12,62,63,64] (.seq (.block 1 (sR [mO 66 64,iO 67 23 62 64,lO 68 25 67,aL 14 25 [2],aO 13 66,sT 25 14 68] [0,5,7,9,11,12,13,14,62,63,64] (sR [mO 69 0,mO 70 12,bQ .add 71 3 70 1 3,mO 72 13,mO 73 9,bB .mul 74 3 72 73 3,bB .add 75 3 71 74 3,mO 76 7,lO 77 25 14,oO 78 (cL 126 #[(xT 69),(xT 75),(xT 76),(xT 77)] #[114,3,3,25]),oO 79 (.unOp .not 4 (xT 78))] [0,5,7,9,11,12,62,63,64,79] (cD 79 (sR [aB 6 false] [6] (.ret)) (.skip))))) (.keep [0,5,7,9,11,12,62,63,64] (.reg [bQ .add 80 3 64 1 3,mO 64 80] [0,5,7,9,11,12,62,63,64])))))
def DG:CC:=sR [mO 35 0,fO 36 25 5 2,lO 37 23 36,bN 38 37 23,mO 39 9,bB .mul 40 3 38 39 3,oO 41 (.binOp .add 3 (nI 1) (xT 40) 3),cB 42 77 35 41 114 3,aO 12 42] [0,1,5,7,9,10,11,12] (sR [mO 43 0,nC 44 43,fO 45 116 44 0,lO 46 22 45,mO 47 12,mO 48 10,iO 49 22 46 47,sT 51 49 48] [0,1,5,7,9,11,12] (sQ [mO 50 0,mO 51 1,mO 52 12,fO 53 25 5 2,lO 54 23 53,bN 55 54 23,mO 56 9,bB .mul 57 3 55 56 3,oO 58 (.build 175 #[(0,(nI 2)),(4,(nI 7)),(5,(xT 57))]),oO 59 (cL 125 #[(xT 50),(xT 51),(xT 52),(xT 58)] #[114,3,3,175]),oO 60 (.unOp .not 4 (xT 59))] [0,5,7,9,11,12,60] (cD 60 (sR [aB 6 false] [6] (.ret)) (.skip)) [0,5,7,9,11,12] (sQ [fO 61 25 5 2,lO 62 23 61,bN 63 62 23,oO 64 (.move (nI 0))] [0,5,7,9,11,12,62,63,64] (.block 0 (.loop CD)) [5,9,11] (sR [mO 81 11,mO 82 81,fG 83 25 5 2 82 false,lG 84 23 83 82 false,oG 85 (bL 84 23) 82 false,mG 86 9 82 false,oG 87 (bO .add 3 85 86 3) 82 false,oG 88 (.binOp .eql 3 (xT 87) (nI 0) 3) 82 false,pT 89 82 88,aO 6 89] [6] (.ret))))) 
def GI:CC:=sR [bX 5 25 2 [1],aB 6 false] [0,1,5] (sR [lO 16 25 5,cA 17 183 16 25,mO 15 17,xO 18 15 0,xO 19 15 1,aO 7 18,aO 8 19] [0,1,5,7,8] (sR [mO 20 7,mO 21 8,bB .add 22 3 20 21 3,aO 9 22] [0,1,5,7,8,9] (sR [fO 24 25 5 2,lO 25 23 24,bN 26 25 23,mO 27 7,mO 28 8,oO 29 (.build 175 #[(0,(nI 1)),(1,(xT 26)),(2,(xT 27)),(3,(xT 28))]),cA 30 184 29 175,mO 23 30,xO 31 23 0,xO 32 23 1,aO 10 31,aO 11 32] [0,1,5,7,9,10,11] (sQ [mO 33 11,oO 34 (.unOp .not 4 (xT 33))] [0,1,5,7,9,10,11,34] (cD 34 (.reg [oO 10 (.assign (.const (.int .u64 0)))] [0,1,5,7,9,10,11]) (.skip)) [0,1,5,7,9,10,11] DG))))
theorem LL:Bm Tryz.prog 127 90 [(.tmp 6)] GI:=Aw Tryz.func127
def OS:CC:=sR [bX 2 25 0 [0],aN 4,aB 5 false] [1,2] (sQ [lO 9 25 2,cA 10 74 9 25,oO 11 (.unOp .not 4 (xT 10)),mO 12 11,fG 13 25 2 0 12 false,lG 14 3 13 12 false,oG 15 (.binOp .eql 3 (xT 14) (nI 10) 3) 12 false,pT 16 12 15] [1,2,16] (cD 16 (sR [aN 4,aB 5 false] [4,5] (.ret)) (.skip)) [1,2] (sR [lO 17 25 2,cA 18 31 17 25,sT 25 2 18] [1,2] (sQ [lO 19 25 2,cA 20 75 19 25,aO 6 20] [1,2,6] (sR [mO 21 6,mO 22 1,bB .geq 23 3 21 22 3,mO 24 23,mG 25 6 24 false,oG 26 (.binOp .geq 3 (xT 25) (nI 131072) 3) 24 false,pT 27 24 26] [2,27] (cD 27 (sR [aN 4,aB 5 false] [4,5] (.ret)) (.skip))) [2] (sR [oO 28 (.build 116 #[]),bX 29 116 28 [1],aO 7 29] [2,7] (.stop (sR [mO 30 7,mO 31 7,⟨some 32,(cL 77 #[(xT 31),(nI 1)] #[114,3]),none,[],2,[],true⟩,⟨some 33,(lD 25 2),none,[],3,[2],false⟩,cE 34 76 30 32 33 114 3 25,aO 8 34] [7,8] (sR [mO 35 7,nC 36 35,fO 37 116 36 0,lO 38 22 37,mO 39 8,aO 4 38,aO 5 39] [4,5] (.ret))))))))
theorem XX:Bm Tryz.prog 36 40 [(.tmp 4),(.tmp 5)] OS:=Aw Tryz.func36
def NR:CC:=sR [bX 3 43 1 [0],aL 4 25 [1],aI 5 0] [0,3,4] (sR [mO 11 0,⟨some 12,(.buildSlice 41 1 #[(0,(xT 11))]),none,[],1,[],true⟩,⟨some 13,(cL 43 #[(xT 12)] #[41]),none,[],2,[],true⟩,⟨some 14,(lD 43 3),none,[],3,[1,2],true⟩,⟨some 15,(cL 130 #[(xT 13),(xT 14)] #[50,43]),none,[],4,[],true⟩,mO 10 15,xO 16 10 0,xO 17 10 1,⟨some 6,(.alloc 25),none,[2],8,[1,2,3,4],false⟩,sT 25 6 16,aO 7 17] [0,4,6,7] (sQ [mO 18 7,bQ .neq 19 47 18 0 47] [0,4,6,7,19] (cD 19 (sR [oO 20 (.build 25 #[]),mO 21 7,sT 25 4 20,aO 5 21] [4,5] (.ret)) (.skip)) [0,4,6] (sQ [lO 23 25 6,oO 24 (cL 36 #[(xT 23),(nI 131072)] #[25,3]),mO 22 24,xO 25 22 0,xO 26 22 1,aO 8 25,aO 9 26] [0,4,6,8,9] (sR [mO 27 9,oO 28 (.unOp .not 4 (xT 27)),mO 29 28,mG 30 0 29 false,mG 31 8 29 false,oG 32 (cL 114 #[(xT 30),(xT 31)] #[22,22]) 29 false,oG 33 (.unOp .not 4 (xT 32)) 29 false,pT 34 29 33] [4,6,34] (cD 34 (sR [oO 35 (.build 25 #[]),sT 25 4 35,aI 5 5] [4,5] (.ret)) (.skip))) [4,6] (sR [lO 36 25 6,sT 25 4 36,aI 5 0] [4,5] (.ret)))))
theorem YR:Bm Tryz.prog 78 37 [(.cell 4 25),(.tmp 5)] NR:=Aw Tryz.func78
def Jp:CC:=sR [aB 4 false] [0,1] (sQ [mO 5 1,mO 6 0,nC 7 6,fO 8 130 7 1,lO 9 3 8,mO 10 0,nC 11 10,fO 12 130 11 0,lO 13 3 12,bB .sub 14 3 9 13 3,bB .gtr 15 3 5 14 3] [0,1,15] (cD 15 (sR [aB 4 false] [4] (.ret)) (.skip)) [0,1] (sR [mO 16 0,nC 17 16,fO 18 130 17 0,lO 19 3 18,mO 20 1,bB .add 21 3 19 20 3,nC 22 16,fO 23 130 22 0,sT 3 23 21] [] (sR [aB 4 true] [4] (.ret))))
theorem PC:Bm Tryz.prog 138 24 [(.tmp 4)] Jp:=Aw Tryz.func138
def Vi:CC:=sR [bX 1 53 0 [0],aI 2 0] [1] (.seq (.block 0 (sR [lO 6 53 1,cA 7 95 6 53,bQ .eql 8 3 7 1 3,aO 5 8] [1,5] (cD 5 (sR [lO 9 53 1,⟨some 10,(cL 192 #[(xT 9)] #[53]),none,[],1,[],true⟩,oO 11 (.binOp .add 3 (nI 1) (xT 10) 3),⟨some 12,(lD 53 1),none,[],3,[1],false⟩,cA 13 137 12 53,bB .add 14 3 11 13 3,aO 2 14] [2] (.ret)) (sR [lO 16 53 1,cA 17 95 16 53,bQ .eql 18 3 17 9 3,aO 15 18] [1,15] (cD 15 (sR [lO 20 53 1,cA 21 193 20 53,mO 19 21,xO 22 19 0,xO 23 19 1,aO 3 22,aO 4 23] [1,3,4] (sR [lO 24 53 1,cA 25 137 24 53,mO 26 3,oO 27 (.binOp .add 3 (nI 1) (xT 26) 3),mO 28 4,bB .add 29 3 27 28 3,bB .mul 30 3 25 29 3,oO 31 (.binOp .add 3 (nI 1) (xT 30) 3),aO 2 31] [2] (.ret))) (.skip)))))) (.keep [1] (sR [lO 32 53 1,cA 33 137 32 53,oO 34 (.binOp .add 3 (nI 1) (xT 33) 3),aO 2 34] [2] (.ret))))
theorem fP:Bm Tryz.prog 139 35 [(.tmp 2)] Vi:=Aw Tryz.func139
def De:CC:=sR [bB .lss 44 3 43 42 3] [0,4,7,42,43,44] (.seq (cD 44 (.skip) (.exit 0)) (.keep [0,4,7,42,43] (.seq (.block 1 (sR [mO 45 43,aO 8 45] [0,4,7,8,42,43] (sR [mO 46 0,lO 47 53 4,mO 48 8,mO 49 7,oO 50 (cL 141 #[(xT 46),(xT 47),(xT 48),(xT 49)] #[128,53,3,3]),aO 9 50] [0,4,7,9,42,43] (sR [mO 51 9,bQ .neq 52 47 51 0 47] [0,4,7,9,42,43,52] (cD 52 (sR [mO 53 9,aO 6 53] [6] (.ret)) (.skip)))))) (.keep [0,4,7,42,43] (.reg [bQ .add 54 3 43 1 3,mO 43 54] [0,4,7,42,43])))))
def B2:CC:=sQ [mO 25 2,bQ .lss 26 3 25 1 3,mO 27 26,mG 28 7 27 false,oG 29 (.binOp .lss 3 (xT 28) (nI 0) 3) 27 false,pT 30 27 29,mO 31 30,mG 32 0 31 false,lG 33 53 4 31 false,oG 34 (cL 139 #[(xT 33)] #[53]) 31 false,oG 35 (cL 138 #[(xT 32),(xT 34)] #[128,3]) 31 false,oG 36 (.unOp .not 4 (xT 35)) 31 false,pT 37 31 36] [0,4,7,37] (cD 37 (sR [aI 6 3] [6] (.ret)) (.skip)) [0,4,7] (sQ [lO 38 53 4,cA 39 95 38 53,cA 40 140 39 3] [0,4,7,40] (cD 40 (sR [aI 6 0] [6] (.ret)) (.skip)) [0,4,7] (sQ [lO 41 53 4,cA 42 137 41 53,oO 43 (.move (nI 0))] [0,4,7,42,43] (.block 0 (.loop De)) [] (sR [aI 6 0] [6] (.ret)))) 
def EA:CC:=sR [bX 4 53 1 [1],aI 6 0] [0,2,4] (sQ [lO 10 53 4,cA 11 95 10 53,bQ .eql 12 3 11 0 3] [0,2,4,12] (cD 12 (sR [aI 6 0] [6] (.ret)) (.skip)) [0,2,4] (sR [mO 13 2,bQ .sub 14 3 13 1 3,aO 7 14] [0,2,4,7] (sQ [lO 15 53 4,cA 16 95 15 53,bQ .eql 17 3 16 9 3,mO 18 17,lG 19 53 4 18 true,oG 20 (cL 137 #[(xT 19)] #[53]) 18 true,oG 21 (.binOp .gtr 3 (xT 20) (nI 0) 3) 18 true,pF 22 18 21] [0,2,4,7,22] (cD 22 (.reg [mO 23 7,bQ .sub 24 3 23 1 3,aO 7 24] [0,2,4,7]) (.skip)) [0,2,4,7] B2)))
theorem CJ:Bm Tryz.prog 86 55 [(.tmp 6)] EA:=Aw Tryz.func86
def Dq:CC:=sR [bB .lss 32 3 31 30 3] [0,3,9,30,31,32] (.seq (cD 32 (.skip) (.exit 0)) (.keep [0,3,9,30,31] (.seq (.block 1 (sR [mO 33 31,aO 11 33] [0,3,9,11,30,31] (sR [mO 34 0,lO 35 53 9,mO 36 11,mO 37 3,oO 38 (cL 141 #[(xT 34),(xT 35),(xT 36),(xT 37)] #[128,53,3,3]),aO 12 38] [0,3,9,12,30,31] (sR [mO 39 12,bQ .neq 40 47 39 0 47] [0,3,9,12,30,31,40] (cD 40 (sR [mO 41 12,aO 8 41] [8] (.ret)) (.skip)))))) (.keep [0,3,9,30,31] (.reg [bQ .add 42 3 31 1 3,mO 31 42] [0,3,9,30,31]))))) 
def DV:CC:=sR [bX 5 53 1 [1],aI 8 0] [0,2,3,5] (sR [lO 14 53 5,mO 15 2,cB 16 194 14 15 53 3,mO 13 16,xO 17 13 0,xO 18 13 1,aL 9 53 [2],sT 53 9 17,aO 10 18] [0,3,5,9,10] (sQ [mO 19 10,bQ .neq 20 47 19 0 47] [0,3,5,9,10,20] (cD 20 (sR [mO 21 10,aO 8 21] [8] (.ret)) (.skip)) [0,3,5,9] (sQ [lO 22 53 5,cA 23 95 22 53,bQ .neq 24 3 23 9 3] [0,3,9,24] (cD 24 (sR [mO 25 0,lO 26 53 9,mO 27 3,cE 28 86 25 26 27 128 53 3,aO 8 28] [8] (.ret)) (.skip)) [0,3,9] (sQ [lO 29 53 9,cA 30 137 29 53,oO 31 (.move (nI 0))] [0,3,9,30,31] (.block 0 (.loop Dq)) [] (sR [aI 8 0] [8] (.ret))))))
theorem Fk:Bm Tryz.prog 141 43 [(.tmp 8)] DV:=Aw Tryz.func141
def Oq:CC:=sR [bX 1 43 0 [0],aL 2 43 [1]] [1,2] (sR [fO 3 43 1 0,lO 4 3 3,oO 5 (bC .max #[(xT 4),(nI 0)] #[3,3]),oO 6 (bC .min #[(xT 5),(nI 64)] #[3,3]),fO 7 43 1 1,lO 8 3 7,oO 9 (bC .max #[(xT 8),(nI 0)] #[3,3]),oO 10 (bC .min #[(xT 9),(nI 65536)] #[3,3]),fO 11 43 1 2,lO 12 3 11,oO 13 (bC .max #[(xT 12),(nI 0)] #[3,3]),oO 14 (bC .min #[(xT 13),(nI 4096)] #[3,3]),fO 15 43 1 3,lO 16 3 15,oO 17 (bC .max #[(xT 16),(nI 0)] #[3,3]),oO 18 (bC .min #[(xT 17),(nI 131072)] #[3,3]),oO 19 (.build 43 #[(0,(xT 6)),(1,(xT 10)),(2,(xT 14)),(3,(xT 18))]),sT 43 2 19] [2] (.ret))
theorem Yl:Bm Tryz.prog 85 20 [(.cell 2 43)] Oq:=Aw Tryz.func85
def PR:CC:=sR [bX 3 43 1 [0],aI 4 0,aI 5 0] [0,3] (sR [lO 10 43 3,cA 11 85 10 43,sT 43 3 11] [0,3] (sR [mO 13 0,cA 14 49 13 50,mO 12 14,xO 15 12 0,xO 16 12 1,aL 6 53 [1],sT 53 6 15,aO 7 16] [3,6,7] (sQ [mO 17 7,bQ .neq 18 47 17 0 47] [3,6,7,18] (cD 18 (sR [mO 19 7,aI 4 0,aO 5 19] [4,5] (.ret)) (.skip)) [3,6] (sR [fO 20 43 3 1,lO 21 3 20,oO 22 (.build 130 #[(1,(xT 21))]),bX 23 130 22 [2],aO 8 23] [3,6,8] (sQ [mO 24 8,lO 25 53 6,fO 26 43 3 0,lO 27 3 26,cE 28 86 24 25 27 128 53 3,aO 9 28] [8,9] (sR [mO 29 9,bQ .neq 30 47 29 0 47] [8,9,30] (cD 30 (sR [mO 31 9,aI 4 0,aO 5 31] [4,5] (.ret)) (.skip))) [8] (sR [mO 32 8,nC 33 32,fO 34 130 33 0,lO 35 3 34,aO 4 35,aI 5 0] [4,5] (.ret)))))))
theorem Zp:Bm Tryz.prog 42 36 [(.tmp 4),(.tmp 5)] PR:=Aw Tryz.func42
def Kx:CC:=sR [bX 1 53 0 [0],aI 2 0,aI 3 0] [1] (sQ [fO 4 53 1 1,lO 5 3 4,bQ .neq 6 3 5 9 3] [1,6] (cD 6 (sR [aI 2 0,aI 3 0] [2,3] (.ret)) (.skip)) [1] (sR [fO 7 53 1 4,lO 8 3 7,fO 9 53 1 5,lO 10 3 9,aO 2 8,aO 3 10] [2,3] (.ret)))
theorem Q6:Bm Tryz.prog 193 11 [(.tmp 2),(.tmp 3)] Kx:=Aw Tryz.func193
def Mq:CC:=sR [bX 3 43 1 [0],aL 4 25 [1],aI 5 0] [0,3,4] (sQ [mO 12 0,lO 13 43 3,cB 14 42 12 13 50 43,mO 11 14,xO 15 11 0,xO 16 11 1,aO 6 15,aO 7 16] [0,4,7] (sR [mO 17 7,bQ .neq 18 47 17 0 47] [0,4,7,18] (cD 18 (sR [oO 19 (.build 25 #[]),mO 20 7,sT 25 4 19,aO 5 20] [4,5] (.ret)) (.skip))) [0,4] (sR [mO 22 0,cA 23 49 22 50,mO 21 23,xO 24 21 0,xO 25 21 1,aL 8 53 [2],sT 53 8 24,aO 9 25] [4,8,9] (sQ [mO 26 9,bQ .neq 27 47 26 0 47] [4,8,9,27] (cD 27 (sR [oO 28 (.build 25 #[]),mO 29 9,sT 25 4 28,aO 5 29] [4,5] (.ret)) (.skip)) [4,8] (sR [lO 31 53 8,cA 32 156 31 53,mO 30 32,xO 33 30 0,xO 34 30 1,aL 10 25 [3],sT 25 10 33,aO 9 34] [4,9,10] (sR [lO 35 25 10,cA 36 31 35 25,mO 37 9,sT 25 4 36,aO 5 37] [4,5] (.ret))))))
theorem TU:Bm Tryz.prog 130 38 [(.cell 4 25),(.tmp 5)] Mq:=Aw Tryz.func130
def Kf:CC:=sR [aB 0 false] [] (sR [oO 8 (.build 33 #[]),oO 9 (cL 17 #[(xT 8),(nI 1)] #[33,3]),mO 7 9,xO 10 7 0,xO 11 7 1,aO 1 10,aO 2 11] [1,2] (sR [oO 13 (.build 33 #[(0,(nI 2))]),oO 14 (cL 17 #[(xT 13),(nI 2)] #[33,3]),mO 12 14,xO 15 12 0,xO 16 12 1,aO 3 15,aO 4 16] [1,2,3,4] (sR [oO 18 (.buildSlice 22 2 #[(0,(.const (.int .u64 4294967296))),(1,(.const (.int .u64 2)))]),cA 19 37 18 22,mO 17 19,xO 20 17 0,xO 21 17 1,aL 5 33 [0],sT 33 5 20,aO 6 21] [1,2,3,4,5,6] (sR [mO 22 2,mO 23 22,mG 24 4 23 true,pF 25 23 24,mO 26 25,mG 27 1 26 true,oG 28 (.buildSlice 22 1 #[(0,(.const (.int .u64 0)))]) 26 true,oG 29 (cL 38 #[(xT 27),(xT 28)] #[22,22]) 26 true,pF 30 26 29,mO 31 30,mG 32 3 31 true,oG 33 (.buildSlice 22 2 #[(0,(.const (.int .u64 4294967296))),(1,(.const (.int .u64 2)))]) 31 true,oG 34 (cL 38 #[(xT 32),(xT 33)] #[22,22]) 31 true,pF 35 31 34,mO 36 35,mG 37 6 36 true,oG 38 (.binOp .eql 47 (xT 37) (nI 0) 47) 36 true,pF 39 36 38,mO 40 39,fG 41 33 5 0 40 true,lG 42 3 41 40 true,oG 43 (.binOp .eql 3 (xT 42) (nI 2) 3) 40 true,pF 44 40 43,aO 0 44] [0] (.ret)))))
theorem Qn:Bm Tryz.prog 15 45 [(.tmp 0)] Kf:=Aw Tryz.func15
@[simp] theorem AjZ:D9 Tryz.prog 245=some 2:=by kernel_rfl
@[simp] theorem Ajy:D9 Tryz.prog 279=some 1:=by kernel_rfl
@[simp] theorem AjJ:D9 Tryz.prog 282=some 3:=by kernel_rfl
@[simp] theorem Aik:Ey Tryz.prog 245=some true:=by kernel_rfl
@[simp] theorem AhE:Ey Tryz.prog 279=some false:=by kernel_rfl
@[simp] theorem Ahb:Ey Tryz.prog 282=some true:=by kernel_rfl
@[simp] theorem Aeu:BW Tryz.prog 164=some (Value.slice none 0 0):=by kernel_rfl
@[simp] theorem AdW:BW Tryz.prog 245=some (Value.agg #[Value.int i64 0,Value.int i64 0]):=by kernel_rfl
@[simp] theorem Ae8:BW Tryz.prog 282=some (Value.agg #[Value.int i64 0,Value.int i64 0,Value.int i64 0]):=by kernel_rfl
@[simp] theorem Ab9:Cv Tryz.prog 164=some 24:=by kernel_rfl
@[simp] theorem AcK:Cv Tryz.prog 245=some 16:=by kernel_rfl
@[simp] theorem AcP:Cv Tryz.prog 282=some 24:=by kernel_rfl
@[simp] theorem s7:Al Tryz.prog 245 0=some 0:=by kernel_rfl
@[simp] theorem s8:Al Tryz.prog 245 1=some 1:=by kernel_rfl
@[simp] theorem sZ:Al Tryz.prog 282 0=some 0:=by kernel_rfl
@[simp] theorem tg:Al Tryz.prog 282 1=some 2:=by kernel_rfl
@[simp] theorem AcM (ps:List (Nat × A)):CS Tryz.prog 245 ps=(Dy (fun i=>([(0,1),(1,1)]:List (Nat × Nat))[i]?) [A.v (Value.int i64 0),A.v (Value.int i64 0)] ps).map A.agg:=by kernel_rfl
@[simp] theorem Ab7 (ps:List (Nat × A)):CS Tryz.prog 282 ps=(Dy (fun i=>([(0,2),(2,1)]:List (Nat × Nat))[i]?) [A.v (Value.int i64 0),A.v (Value.int i64 0),A.v (Value.int i64 0)] ps).map A.agg:=by kernel_rfl
def Nw:CC:=sR [aB 2 false] [0] (sR [mO 3 0,mO 4 0,bB .neq 5 3 3 4 3,aO 2 5] [2] (.ret))
theorem VP:Bm Tryz.prog 266 6 [(.tmp 2)] Nw:=Aw Tryz.func266
def K9:CC:=sR [aI 4 0] [0,1] (sR [mO 7 0,cA 8 266 7 3,aO 5 8] [0,1,5] (sR [mO 9 1,cA 10 266 9 3,aO 6 10] [0,1,5,6] (sQ [mO 11 5] [0,1,6,11] (cD 11 (sQ [mO 12 6] [12] (cD 12 (sR [aI 4 0] [4] (.ret)) (.skip)) [] (sR [oO 4 (.assign (.const (.int .i64 (-1))))] [4] (.ret))) (.skip)) [0,1,6] (sQ [mO 13 6] [0,1,13] (cD 13 (sR [aI 4 1] [4] (.ret)) (.skip)) [0,1] (sQ [mO 14 0,mO 15 1,bB .lss 16 3 14 15 3] [0,1,16] (cD 16 (sR [oO 4 (.assign (.const (.int .i64 (-1))))] [4] (.ret)) (.skip)) [0,1] (sQ [mO 17 0,mO 18 1,bB .gtr 19 3 17 18 3] [19] (cD 19 (sR [aI 4 1] [4] (.ret)) (.skip)) [] (sR [aI 4 0] [4] (.ret))))))))
theorem S6:Bm Tryz.prog 243 20 [(.tmp 4)] K9:=Aw Tryz.func243
def Gn:CC:=sR [bB .lss 9 3 8 7 3] [3,6,7,8,9] (.seq (cD 9 (.skip) (.exit 0)) (.keep [3,6,7,8] (.seq (.block 1 (sR [iO 10 164 6 8,lO 11 3 10,aO 5 11] [3,5,6,7,8] (sR [mO 12 5,mO 13 3,bB .neq 14 3 12 13 3] [3,5,6,7,8,14] (cD 14 (sR [mO 15 5,aO 2 15] [2] (.ret)) (.skip))))) (.keep [3,6,7,8] (.reg [bQ .add 16 3 8 1 3,mO 8 16] [3,6,7,8]))))) 
def RC:CC:=sR [aI 2 0] [0] (sR [aI 3 0] [0,3] (sQ [mO 6 0,bN 7 6 164,oO 8 (.move (nI 0))] [3,6,7,8] (.block 0 (.loop Gn)) [3] (sR [mO 17 3,aO 2 17] [2] (.ret))))
theorem eJ:Bm Tryz.prog 310 18 [(.tmp 2)] RC:=Aw Tryz.func310
def Jn:CC:=sR [bX 2 282 0 [0],bX 3 282 1 [1],aB 4 false] [2,3] (sR [fO 5 282 3 1,lO 6 3 5,fO 7 282 2 1,lO 8 3 7,⟨some 9,(cL 243 #[(xT 6),(xT 8)] #[3,3]),none,[],4,[],true⟩,fO 10 282 2 0,fO 11 245 10 0,⟨some 12,(lD 3 11),none,[],7,[4],false⟩,fO 13 282 3 0,fO 14 245 13 0,⟨some 15,(lD 3 14),none,[],10,[4],false⟩,⟨some 16,(cL 243 #[(xT 12),(xT 15)] #[3,3]),none,[],11,[],true⟩,fO 17 282 2 0,fO 18 245 17 1,⟨some 19,(lD 3 18),none,[],14,[4,11],false⟩,fO 20 282 3 0,fO 21 245 20 1,⟨some 22,(lD 3 21),none,[],17,[4,11],false⟩,cB 23 243 19 22 3 3,oO 24 (.buildSlice 164 3 #[(0,(xT 9)),(1,(xT 16)),(2,(xT 23))]),cA 25 310 24 164,bQ .lss 26 3 25 0 3,aO 4 26] [4] (.ret))
theorem PB:Bm Tryz.prog 309 27 [(.tmp 4)] Jn:=Aw Tryz.func309
def Nk:CC:=.reg [mO 4 0,mO 5 0,nC 6 5,lS 7 279 6 3,mO 8 1,oO 9 (.typeAssert (xT 8) 20 282 false),⟨some 10,(.buildSlice 279 1 #[(0,(xT 9))]),none,[],6,[3],false⟩,aP 11 7 10 279 279 [1],nC 12 4,sT 279 12 11] []
theorem VN:Bm Tryz.prog 307 13 [] Nk:=Aw Tryz.func307
def Ol:CC:=sR [oO 2 (.assign (.const .nilIface))] [0] (sR [mO 5 0,nC 6 5,lO 7 279 6,aO 3 7] [0,3] (sR [mO 8 3,mO 9 3,bN 10 9 279,bQ .sub 11 3 10 1 3,iO 12 279 8 11,lO 13 282 12,aL 4 282 [1],sT 282 4 13] [0,3,4] (sR [mO 14 0,mO 15 3,mO 16 3,bN 17 16 279,bQ .sub 18 3 17 1 3,oO 19 (.slice 279 (xT 15) none (some (xT 18)) none),nC 20 14,sT 279 20 19] [4] (sR [lO 21 282 4,oO 22 (.makeInterface 282 (xT 21)),aO 2 22] [2] (.ret)))))
theorem W4:Bm Tryz.prog 306 23 [(.tmp 2)] Ol:=Aw Tryz.func306
def N6:CC:=sR [aI 2 0] [0] (sR [mO 3 0,bN 4 3 279,aO 2 4] [2] (.ret))
theorem Ya:Bm Tryz.prog 237 5 [(.tmp 2)] N6:=Aw Tryz.func237
def Nu:CC:=sR [aB 6 false] [0,1,2] (sR [mO 7 0,mO 8 1,iO 9 279 7 8,lO 10 282 9,mO 11 0,mO 12 2,iO 13 279 11 12,lO 14 282 13,cB 15 309 10 14 282 282,aO 6 15] [6] (.ret))
theorem VQ:Bm Tryz.prog 305 16 [(.tmp 6)] Nu:=Aw Tryz.func305
def Ns:CC:=.reg [mO 6 0,mO 7 1,mO 8 0,mO 9 2,mO 10 0,mO 11 2,iO 12 279 10 11,lO 13 282 12,mO 14 0,mO 15 1,iO 16 279 14 15,lO 17 282 16,iO 18 279 6 7,sT 282 18 13,iO 19 279 8 9,sT 282 19 17] []
theorem VH:Bm Tryz.prog 308 20 [] Ns:=Aw Tryz.func308
def FG:CC:=.block 1 (sR [mO 5 1,bQ .sub 6 3 5 1 3,bQ .quo 7 3 6 2 3,aO 4 7] [0,1,4] (sQ [mO 8 4,mO 9 1,bB .eql 10 3 8 9 3,mO 11 10,mG 12 0 11 false,mG 13 1 11 false,mG 14 4 11 false,oG 15 (.call { callee:=(.invoke (xT 12) "Less"),args:=#[(xT 13),(xT 14)],argTypes:=#[3,3] }) 11 false,oG 16 (.unOp .not 4 (xT 15)) 11 false,pT 17 11 16] [0,1,4,17] (cD 17 (.exit 0) (.skip)) [0,1,4] (sR [mO 18 0,mO 19 4,mO 20 1,oO 21 (.call { callee:=(.invoke (xT 18) "Swap"),args:=#[(xT 19),(xT 20)],argTypes:=#[3,3] })] [0,4] (.reg [mO 22 4,aO 1 22] [0,1])))) 
def Jt:CC:=.block 0 (.loop FG)
theorem Px:Bm Tryz.prog 261 23 [] Jt:=Aw Tryz.func261
def Dl:CC:=sQ [mO 35 0,mO 36 9,mO 37 7,oO 38 (.call { callee:=(.invoke (xT 35) "Less"),args:=#[(xT 36),(xT 37)],argTypes:=#[3,3] }),oO 39 (.unOp .not 4 (xT 38))] [0,1,2,7,9,39] (cD 39 (.exit 0) (.skip)) [0,1,2,7,9] (sR [mO 40 0,mO 41 7,mO 42 9,oO 43 (.call { callee:=(.invoke (xT 40) "Swap"),args:=#[(xT 41),(xT 42)],argTypes:=#[3,3] })] [0,1,2,9] (.reg [mO 44 9,aO 7 44] [0,1,2,7]))
def Dj:CC:=.block 1 (sR [mO 12 7,oO 13 (.binOp .mul 3 (nI 2) (xT 12) 3),bQ .add 14 3 13 1 3,aO 8 14] [0,1,2,7,8] (sQ [mO 15 8,mO 16 2,bB .geq 17 3 15 16 3,mO 18 17,mG 19 8 18 false,oG 20 (.binOp .lss 3 (xT 19) (nI 0) 3) 18 false,pT 21 18 20] [0,1,2,7,8,21] (cD 21 (.exit 0) (.skip)) [0,1,2,7,8] (sR [mO 22 8,aO 9 22] [0,1,2,7,8,9] (sQ [mO 23 8,bQ .add 24 3 23 1 3,aO 10 24] [0,1,2,7,8,9,10] (sR [mO 25 10,mO 26 2,bB .lss 27 3 25 26 3,mO 28 27,mG 29 0 28 true,mG 30 10 28 true,mG 31 8 28 true,oG 32 (.call { callee:=(.invoke (xT 29) "Less"),args:=#[(xT 30),(xT 31)],argTypes:=#[3,3] }) 28 true,pF 33 28 32] [0,1,2,7,9,10,33] (cD 33 (.reg [mO 34 10,aO 9 34] [0,1,2,7,9]) (.skip))) [0,1,2,7,9] Dl)))) 
def HT:CC:=sR [aB 6 false] [0,1,2] (sR [mO 11 1,aO 7 11] [0,1,2,7] (.seq (.block 0 (.loop Dj)) (.keep [1,7] (sR [mO 45 7,mO 46 1,bB .gtr 47 3 45 46 3,aO 6 47] [6] (.ret)))))
theorem Nx:Bm Tryz.prog 262 48 [(.tmp 6)] HT:=Aw Tryz.func262
def HR:CC:=sR [mO 4 0,mO 5 1,oO 6 (.call { callee:=(.invoke (xT 4) "Push"),args:=#[(xT 5)],argTypes:=#[20] })] [0] (.reg [mO 7 0,mO 8 0,oO 9 (.call { callee:=(.invoke (xT 8) "Len"),args:=#[],argTypes:=#[] }),bQ .sub 10 3 9 1 3,cB 11 261 7 10 304 3] [])
theorem Ny:Bm Tryz.prog 236 12 [] HR:=Aw Tryz.func236
def Jd:CC:=sR [oO 2 (.assign (.const .nilIface))] [0] (sR [mO 4 0,oO 5 (.call { callee:=(.invoke (xT 4) "Len"),args:=#[],argTypes:=#[] }),bQ .sub 6 3 5 1 3,aO 3 6] [0,3] (sR [mO 7 0,mO 8 3,oO 9 (.call { callee:=(.invoke (xT 7) "Swap"),args:=#[(nI 0),(xT 8)],argTypes:=#[3,3] })] [0,3] (sR [mO 10 0,mO 11 3,oO 12 (cL 262 #[(xT 10),(nI 0),(xT 11)] #[304,3,3])] [0] (sR [mO 13 0,oO 14 (.call { callee:=(.invoke (xT 13) "Pop"),args:=#[],argTypes:=#[] }),aO 2 14] [2] (.ret)))))
theorem NK:Bm Tryz.prog 238 15 [(.tmp 2)] Jd:=Aw Tryz.func238
def Jr:CC:=sR [bX 2 245 0 [0],bX 3 245 1 [1],aB 4 false] [2,3] (sR [fO 5 245 2 0,lO 6 3 5,fO 7 245 3 0,lO 8 3 7,bB .lss 9 3 6 8 3,mO 10 9,fG 11 245 2 1 10 true,lG 12 3 11 10 true,fG 13 245 3 1 10 true,lG 14 3 13 10 true,oG 15 (bO .lss 3 12 14 3) 10 true,pF 16 10 15,mO 17 16,fG 18 245 2 0 17 false,lG 19 3 18 17 false,fG 20 245 3 0 17 false,lG 21 3 20 17 false,oG 22 (bO .gtr 3 19 21 3) 17 false,mG 23 22 17 false,fG 24 245 2 1 23 true,lG 25 3 24 23 true,fG 26 245 3 1 23 true,lG 27 3 26 23 true,oG 28 (bO .gtr 3 25 27 3) 23 true,oG 29 (.pick (xT 23) (xT 28) (nB false)) 17 false,pT 30 17 29,oO 31 (.unOp .not 4 (xT 30)),aO 4 31] [4] (.ret))
theorem PF:Bm Tryz.prog 240 32 [(.tmp 4)] Jr:=Aw Tryz.func240
def Bj:CC:=sR [bB .lss 9 3 8 7 3] [0,1,7,8,9] (.seq (cD 9 (.skip) (.exit 0)) (.keep [0,1,7,8] (.seq (.block 1 (sR [mO 10 8,aO 5 10] [0,1,5,7,8] (sR [mO 11 1,mO 12 0,mO 13 5,iO 14 242 12 13,lO 15 245 14,oO 16 (.call { callee:=(.value (xT 11)),args:=#[(xT 15)],argTypes:=#[245] })] [0,1,5,7,8,16] (cD 16 (sR [mO 17 5,aO 4 17] [4] (.ret)) (.skip))))) (.keep [0,1,7,8] (.reg [bQ .add 18 3 8 1 3,mO 8 18] [0,1,7,8]))))) 
def CV:CC:=sR [aI 4 0] [0,1] (sQ [mO 6 0,bN 7 6 242,oO 8 (.move (nI 0))] [0,1,7,8] (.block 0 (.loop Bj)) [] (sR [oO 4 (.assign (.const (.int .i64 (-1))))] [4] (.ret)))
theorem FF:Bm Tryz.prog 263 19 [(.tmp 4)] CV:=Aw Tryz.func263
def CB:CC:=sR [aB 4 false] [0,1] (sR [mO 5 0,mO 6 1,cB 7 263 5 6 242 285,bQ .geq 8 3 7 0 3,aO 4 8] [4] (.ret))
theorem EO:Bm Tryz.prog 239 9 [(.tmp 4)] CB:=Aw Tryz.func239
def P1:CC:=sR [bX 2 245 0 [0],bX 3 245 1 [1],aI 4 0] [2,3] (sR [fO 5 245 2 0,lO 6 3 5,fO 7 245 3 0,lO 8 3 7,cB 9 243 6 8 3 3,aO 4 9] [4] (.ret))
theorem Zi:Bm Tryz.prog 242 10 [(.tmp 4)] P1:=Aw Tryz.func242
def Hl:CC:=sR [bB .lss 22 3 21 20 3] [3,4,12,13,14,19,20,21,22] (.seq (cD 22 (.skip) (.exit 2)) (.keep [3,4,12,13,14,19,20,21] (.seq (.block 3 (sR [mO 23 21,iO 24 164 19 21,lO 25 3 24,aO 6 23,aO 7 25] [3,4,6,7,12,13,14,19,20,21] (sR [mO 26 7,bQ .gtr 27 3 26 0 3,mO 28 27,mG 29 4 28 true,oG 30 (.binOp .lss 3 (xT 29) (nI 16) 3) 28 true,pF 31 28 30,mO 32 31,mG 33 6 32 true,oG 34 (.binOp .lss 3 (xT 33) (nI 16) 3) 32 true,pF 35 32 34] [3,4,6,7,12,13,14,19,20,21,35] (cD 35 (.reg [mO 36 3,oO 37 (.makeInterface 277 (xT 36)),mO 38 4,mO 39 6,oO 40 (.build 245 #[(0,(xT 38)),(1,(xT 39))]),mO 41 7,oO 42 (.build 282 #[(0,(xT 40)),(1,(xT 41))]),oO 43 (.makeInterface 282 (xT 42)),cB 44 236 37 43 304 20] [3,4,12,13,14,19,20,21]) (.skip))))) (.keep [3,4,12,13,14,19,20,21] (.reg [bQ .add 45 3 21 1 3,mO 21 45] [3,4,12,13,14,19,20,21])))))
def JU:CC:=sR [bB .lss 15 3 14 13 3] [3,12,13,14,15] (.seq (cD 15 (.skip) (.exit 0)) (.keep [3,12,13,14] (.seq (.block 1 (sR [mO 16 14,iO 17 240 12 14,lO 18 164 17,aO 4 16,aO 5 18] [3,4,5,12,13,14] (sR [mO 19 5,bN 20 19 164,oO 21 (.move (nI 0))] [3,4,12,13,14,19,20,21] (.block 2 (.loop Hl))))) (.keep [3,12,13,14] (.reg [bQ .add 46 3 14 1 3,mO 14 46] [3,12,13,14])))))
def HA:CC:=sQ [mO 47 3,nC 48 47,lO 49 279 48,cA 50 237 49 277,bQ .gtr 51 3 50 0 3] [3,8,51] (cD 51 (.skip) (.exit 4)) [3,8] (.block 5 (sR [mO 52 3,oO 53 (.makeInterface 277 (xT 52)),cA 54 238 53 304,oO 55 (.typeAssert (xT 54) 20 282 false),aL 9 282 [1],sT 282 9 55] [3,8,9] (sR [mO 56 8,fO 57 282 9 0,lO 58 245 57,oO 59 (.makeFunc (.func 240) #[(xT 58)] #[]),cB 60 239 56 59 242 285,oO 61 (.unOp .not 4 (xT 60))] [3,8,9,61] (cD 61 (.reg [mO 62 8,fO 63 282 9 0,lO 64 245 63,oO 65 (.buildSlice 242 1 #[(0,(xT 64))]),aP 66 62 65 242 242 [2],aO 8 66] [3,8]) (.skip))))) 
def Vn:CC:=sR [aN 2] [0] (sR [oO 10 (.buildSlice 279 0 #[]),bX 11 279 10 [0],aO 3 11] [0,3] (sQ [mO 12 0,bN 13 12 240,oO 14 (.move (nI 0))] [3,12,13,14] (.block 0 (.loop JU)) [3] (sR [aN 8] [3,8] (.seq (.block 4 (.loop HA)) (.keep [8] (sR [mO 67 8,oO 68 (cL 241 #[(xT 67),(.func 242)] #[242,287])] [8] (sR [mO 69 8,aO 2 69] [2] (.ret))))))))
theorem j4:Bm Tryz.prog 203 70 [(.tmp 2)] Vn:=Aw Tryz.func203
def IK:CC:=sR [bB .lss 31 3 30 29 3] [2,3,5,29,30,31] (.seq (cD 31 (.skip) (.exit 0)) (.keep [2,3,5,29,30] (.seq (.block 1 (sR [mO 32 30,aO 6 32] [2,3,5,6,29,30] (sR [fO 33 25 2 1,lO 34 22 33,mO 35 6,iO 36 22 34 35,lO 37 51 36,fO 38 25 3 1,lO 39 22 38,mO 40 6,iO 41 22 39 40,lO 42 51 41,bB .eql 43 51 37 42 51] [2,3,5,29,30,43] (cD 43 (.reg [mO 44 5,bQ .add 45 3 44 1 3,aO 5 45] [2,3,5,29,30]) (.skip))))) (.keep [2,3,5,29,30] (.reg [bQ .add 46 3 30 1 3,mO 30 46] [2,3,5,29,30])))))
def IE:CC:=sR [bB .lss 55 3 54 53 3] [2,3,5,53,54,55] (.seq (cD 55 (.skip) (.exit 2)) (.keep [2,3,5,53,54] (.seq (.block 3 (sR [mO 56 54,aO 7 56] [2,3,5,7,53,54] (sR [fO 57 25 2 2,lO 58 23 57,mO 59 7,iO 60 23 58 59,lO 61 25 60,fO 62 25 3 2,lO 63 23 62,mO 64 7,iO 65 23 63 64,lO 66 25 65,cB 67 59 61 66 25 25] [2,3,5,53,54,67] (cD 67 (.reg [mO 68 5,bQ .add 69 3 68 1 3,aO 5 69] [2,3,5,53,54]) (.skip))))) (.keep [2,3,5,53,54] (.reg [bQ .add 70 3 54 1 3,mO 54 70] [2,3,5,53,54]))))) 
def So:CC:=sR [bX 2 25 0 [0],bX 3 25 1 [1],aI 4 0] [2,3] (sQ [fO 8 25 2 0,lO 9 3 8,fO 10 25 3 0,lO 11 3 10,bB .neq 12 3 9 11 3,mO 13 12,fG 14 25 2 0 13 false,lG 15 3 14 13 false,oG 16 (.binOp .eql 3 (xT 15) (nI 0) 3) 13 false,pT 17 13 16,mO 18 17,fG 19 25 2 0 18 false,lG 20 3 19 18 false,oG 21 (.binOp .eql 3 (xT 20) (nI 10) 3) 18 false,pT 22 18 21] [2,3,22] (cD 22 (sR [aI 4 0] [4] (.ret)) (.skip)) [2,3] (sR [aI 5 1] [2,3,5] (sQ [fO 23 25 2 1,lO 24 22 23,bN 25 24 22,fO 26 25 3 1,lO 27 22 26,bN 28 27 22,oO 29 (bC .min #[(xT 25),(xT 28)] #[3,3]),oO 30 (.move (nI 0))] [2,3,5,29,30] (.block 0 (.loop IK)) [2,3,5] (sQ [fO 47 25 2 2,lO 48 23 47,bN 49 48 23,fO 50 25 3 2,lO 51 23 50,bN 52 51 23,oO 53 (bC .min #[(xT 49),(xT 52)] #[3,3]),oO 54 (.move (nI 0))] [2,3,5,53,54] (.block 2 (.loop IE)) [5] (sR [mO 71 5,aO 4 71] [4] (.ret))))))
theorem dT:Bm Tryz.prog 202 72 [(.tmp 4)] So:=Aw Tryz.func202
end Go.Proofs.YtbjmaoedheiigaaGreat
namespace Go.Proofs.YtbjmaoedheiigaaGreat
open Go Go.G Go.Proofs
abbrev iv (n:Int):A:=.v (.int .i64 n)
abbrev uv (n:Int):A:=.v (.int .u64 n)
abbrev bv (b:Bool):A:=.v (.bool b)
theorem ba (a:Int):G.Spec Tryz.prog 224 [iv a] (bv (decide (-536870912≤a)&&decide (a<536870912))):=by
 refine Ah l7 (by simp) fun w0 I0=>?_;unfold W9;simp;exact Ab rfl
theorem Ep (a b:Int):G.Spec Tryz.prog 225 [iv a,iv b] (bv (decide (0≤a)&&decide (a≤b))):=by
 refine Ah dJ (by simp) fun w0 I0=>?_;unfold Td;simp;exact Ab rfl
theorem tS (w:Int) (m:Nat):w / 2 / 2 ^ m=w / 2 ^ (m+1):=by
 rw[Int.ediv_ediv_of_nonneg (by decide),Int.pow_succ,Int.mul_comm]
theorem Av {n:Int} (h0:-9223372036854775808≤n) (h1:n<9223372036854775808):i64.wrap n=n:=by rw[IntKind.wrap_i64];omega
theorem Bl {n m:Int} (h0:-9223372036854775808 ≤ n:=by omega) (h1:n<9223372036854775808:=by omega) (h:n=m:=by omega):i64.wrap n=m:=by rw[Av h0 h1];exact h
theorem AM (i:Nat) (h:i<9223372036854775807:=by omega):i64.wrap ((i:Int)+1)=((i+1:Nat):Int):=by rw[Av (by omega) (by omega)];omega
theorem Bv {n:Int} (h0:-9223372036854775808 ≤ n:=by omega) (h1:n<9223372036854775808:=by omega):i64.wrap n=n:=Av h0 h1
theorem Bw {n:Int} (h0:0≤n) (h1:n<18446744073709551616):u64.wrap n=n:=by rw[IntKind.wrap_u64];omega
structure Pt where
 (kind off data ptrs code count seg:Int)
 dbl:Bool
deriving DecidableEq
@[simp] def Pt.a (p:Pt):A:=.agg [iv p.kind,iv p.off,iv p.data,iv p.ptrs,iv p.code,iv p.count,iv p.seg,bv p.dbl]
def PJ (w:Int):Int:=if w / 4 % 1073741824<536870912 then w / 4 % 1073741824 else w / 4 % 1073741824-1073741824
def Ed (w:Int):Pt:=
 if w=0 then ⟨0,0,0,0,0,0,0,false⟩
 else if w % 4=0 then ⟨1,PJ w,w / 4294967296 % 65536,w / 281474976710656,0,0,0,false⟩
 else if w % 4=1 then ⟨2,PJ w,0,0,w / 4294967296 % 8,w / 34359738368,0,false⟩
 else if w % 4=2 then ⟨3,w / 8 % 536870912,0,0,0,0,w / 4294967296,decide (w / 4 % 2=1)⟩
 else ⟨4,0,0,0,0,0,0,false⟩
end Go.Proofs.YtbjmaoedheiigaaGreat
namespace Go.PL
inductive T where
 |mk (kind:Int) (words:List Int) (kids:List T)
 deriving Inhabited
namespace T
def kind:T→Int | mk k _ _=>k
def words:T→List Int | mk _ w _=>w
def kids:T→List T | mk _ _ l=>l
@[simp] theorem kind_mk {k:Int} {w:List Int} {l:List T}:(mk k w l).kind=k:=rfl
@[simp] theorem words_mk {k:Int} {w:List Int} {l:List T}:(mk k w l).words=w:=rfl
@[simp] theorem kids_mk {k:Int} {w:List Int} {l:List T}:(mk k w l).kids=l:=rfl
end T
theorem Sq {α:Type} {P:List α→Prop} (h0:P []) (h1:∀ l x,P l→P (l++[x])) (l:List α):P l:=by
 have:∀ m:List α,P m.reverse:=by
  intro m;induction m with
  |nil=>exact h0
  |cons x m ih=>rw[List.reverse_cons];exact h1 _ _ ih
 have h:=this l.reverse
 rwa [List.reverse_reverse] at h
abbrev T0:T:=.mk 0 [] []
theorem T.eta (t:T):t = .mk t.kind t.words t.kids:=by cases t;rfl
mutual
theorem T.ind {P:T→Prop} (h:∀ k w l,(∀ t,t ∈ l→P t)→P (.mk k w l)):∀ t,P t
 |.mk k w l=>h k w l (T.indL h l)
theorem T.indL {P:T→Prop} (h:∀ k w l,(∀ t,t ∈ l→P t)→P (.mk k w l)):∀ (l:List T),∀ t,t ∈ l→P t
 |[],t,ht=>nomatch ht
 |x::l,t,ht=>by
  rcases List.mem_cons.1 ht with e | ht
  ·rw[e];exact T.ind h x
  ·exact T.indL h l t ht
end
def CM (l:List Int):List Int:=(l.reverse.dropWhile (fun x=>x == 0)).reverse
def BZ (l:List T):List T:=(l.reverse.dropWhile (fun x=>x.kind == 0)).reverse
mutual
def Af:T→T
 |.mk k w l=>if k=0 then T0 else if k=1 then .mk 1 (CM w) (BZ (bD l)) else .mk k w (bD l)
def bD:List T→List T
 |[]=>[]
 |t::l=>Af t::bD l
end
@[simp] theorem sv:∀ l,bD l=l.map Af
 |[]=>by simp[bD]
 |t::l=>by simp[bD,sv l]
theorem AL (k:Int) (w:List Int) (l:List T):Af (.mk k w l)=if k=0 then T0 else if k=1 then .mk 1 (CM w) (BZ (l.map Af)) else .mk k w (l.map Af):=by simp[Af]
@[simp] theorem Bp (t:T):(Af t).kind=t.kind:=by
 cases t;rw[AL];split
 ·rename_i h;rw[h];rfl
 ·split
  ·rename_i h;rw[h];rfl
  ·rfl
@[simp] theorem Ad5:CM []=[]:=rfl
@[simp] theorem AdV:BZ []=[]:=rfl
theorem Q5 (l:List Int) (x:Int):CM (l++[x])=if x=0 then CM l else l++[x]:=by
 unfold CM;simp[List.dropWhile_cons];split<;>simp
theorem GZ (l:List T) (x:T):BZ (l++[x])=if x.kind=0 then BZ l else l++[x]:=by
 unfold BZ;by_cases h:x.kind=0<;>simp[List.dropWhile_cons,h]
theorem ET (l:List Int):(CM l).length≤l.length:=by
 unfold CM;simp;have:=(List.dropWhile_sublist (fun x:Int=>x == 0) (l:=l.reverse)).length_le;simpa using this
theorem EN (l:List T):(BZ l).length≤l.length:=by
 unfold BZ;simp;have:=(List.dropWhile_sublist (fun x:T=>x.kind == 0) (l:=l.reverse)).length_le;simpa using this
theorem Qw (l:List Int):CM l=l.take (CM l).length:=by
 induction l using Sq with
 |h0=>rfl
 |h1 l x ih=>
  rw[Q5];split
  ·rw[List.take_append_of_le_length (ET l)];exact ih
  ·rw[BO (Cb _)]
theorem EB (l:List T):BZ l=l.take (BZ l).length:=by
 induction l using Sq with
 |h0=>rfl
 |h1 l x ih=>
  rw[GZ];split
  ·rw[List.take_append_of_le_length (EN l)];exact ih
  ·rw[BO (Cb _)]
def Ux (c:Int):Int:=if c=1 then 1 else if c=2 then 8 else if c=3 then 16 else if c=4 then 32 else if c=5 then 64 else 0
def Dw (c n:Int):Int:=if n<0∨n > 1099511627776 then 0 else (n*Ux c+63) / 64
def An:List T→Nat
 |[]=>0
 |t::l=>max t.words.length (An l)
def Aq:List T→Nat
 |[]=>0
 |t::l=>max t.kids.length (Aq l)
mutual
def Co:T→Int
 |.mk k w l=>if k=1 then w.length+l.length+Cm l else if k=8 then l.length+Cm l else if 2≤k∧k≤7 then Dw (k-2) l.length
  else if k=9 then 1+l.length*(An l+Aq l)+E9 l else Cm l
def xv:T→Int
 |.mk _ _ l=>Cm l
def Cm:List T→Int
 |[]=>0
 |t::l=>Co t+Cm l
def E9:List T→Int
 |[]=>0
 |t::l=>xv t+E9 l
end
theorem Cj (k:Int) (w:List Int) (l:List T):Co (.mk k w l)=if k=1 then w.length+l.length+Cm l else if k=8 then l.length+Cm l else if 2≤k∧k≤7 then Dw (k-2) l.length
  else if k=9 then 1+l.length*(An l+Aq l)+E9 l else Cm l:=by rw[Co]
@[simp] theorem xj (t:T):xv t=Cm t.kids:=by cases t;rw[xv];rfl
@[simp] theorem AeO:Cm []=0:=by rw[Cm]
@[simp] theorem XY (t:T) (l:List T):Cm (t::l)=Co t+Cm l:=by rw[Cm]
@[simp] theorem Acg:E9 []=0:=by rw[E9]
@[simp] theorem Oe (t:T) (l:List T):E9 (t::l)=Cm t.kids+E9 l:=by rw[E9,xj]
@[simp] theorem eQ (l m:List T):Cm (l++m)=Cm l+Cm m:=by
 induction l with
 |nil=>simp
 |cons t l ih=>simp[ih];omega
@[simp] theorem Ads (w:List Int):Co (.mk 0 w [])=0:=by rw[Cj];simp
mutual
def Je:T→Int
 |.mk k w l=>if k=1 then w.length+l.length+GW l else if k=8 then l.length+GW l else if 2≤k∧k≤7 then Dw (k-2) l.length
  else if k=9 then 1+l.length*(An l+Aq l)+Kv l else GW l
def GW:List T→Int
 |[]=>0
 |t::l=>Je t+GW l
def Kv:List T→Int
 |[]=>0
 |t::l=>(Je t-t.words.length-t.kids.length)+Kv l
end
theorem Yu (k:Int) (w:List Int) (l:List T):Je (.mk k w l)=if k=1 then w.length+l.length+GW l else if k=8 then l.length+GW l else if 2≤k∧k≤7 then Dw (k-2) l.length
  else if k=9 then 1+l.length*(An l+Aq l)+Kv l else GW l:=by rw[Je]
@[simp] theorem Adv:GW []=0:=by rw[GW]
@[simp] theorem gM (t:T) (l:List T):GW (t::l)=Je t+GW l:=by rw[GW]
@[simp] theorem Acq:Kv []=0:=by rw[Kv]
@[simp] theorem im (t:T) (l:List T):Kv (t::l)=(Je t-t.words.length-t.kids.length)+Kv l:=by rw[Kv]
def AD (c:Int):Int:=if c=0 then 0 else if c=1 then 1 else if c=2 then 8 else if c=3 then 16 else if c=4 then 32 else if c=5 then 64 else -1
def GA (c n:Int):Bool:=decide (0≤AD c)&&decide (n / 2 ^ (AD c).toNat=0)
def Bb (k:Int):Bool:=decide (2≤k)&&decide (k≤7)
def B6 (k:Int) (c:T):Bool:=!(Bb k != decide (c.kind=10) || decide (k=9)&&!decide (c.kind=1) || Bb k&&!GA (k-2) (c.words.headD 0))
def A4 (k:Int) (d nw nl:Nat):Bool:=decide (k<0) || decide (k > 10) || decide (d=0) || decide (nw ≥ 65536) || decide (k=1)&&decide (nl ≥ 65536) || decide (nl ≥ 1048576) || decide (k > 1)&&decide (nw > 0)
mutual
def Aj:Nat→T→Bool
 |d,.mk k w l=>if k=0 then w.isEmpty&&l.isEmpty else if k=10 then decide (w.length=1)&&l.isEmpty
  else if A4 k d w.length l.length=true then false else Et (d-1) k l
def Et:Nat→Int→List T→Bool
 |_,_,[]=>true
 |d,k,t::l=>Aj d t&&B6 k t&&Et d k l
end
theorem AI (d:Nat) (k:Int) (w:List Int) (l:List T):Aj d (.mk k w l)=if k=0 then w.isEmpty&&l.isEmpty else if k=10 then decide (w.length=1)&&l.isEmpty
  else if A4 k d w.length l.length=true then false else Et (d-1) k l:=by rw[Aj]
@[simp] theorem AcY (d:Nat) (k:Int):Et d k []=true:=by rw[Et]
@[simp] theorem Vk (d:Nat) (k:Int) (t:T) (l:List T):Et d k (t::l)=(Aj d t&&B6 k t&&Et d k l):=by rw[Et]
theorem rightL_all {d:Nat} {k:Int}:∀ {l:List T},Et d k l=true ↔ ∀ t,t ∈ l→Aj d t=true∧B6 k t=true
 |[]=>by simp
 |t::l=>by simp[rightL_all (l:=l),and_assoc]
mutual
def Eh:Nat→Int→T→Int
 |d,n,.mk _ w l=>if d=0∨n-1-w.length<0 then -1 else DP (d-1) (n-1-w.length) l
def DP:Nat→Int→List T→Int
 |_,n,[]=>n
 |d,n,t::l=>if n<0 then n else DP d (Eh d n t) l
end
theorem QS (d:Nat) (n:Int) (k:Int) (w:List Int) (l:List T):Eh d n (.mk k w l)=if d=0∨n-1-w.length<0 then -1 else DP (d-1) (n-1-w.length) l:=by rw[Eh]
@[simp] theorem Aae (d:Nat) (n:Int):DP d n []=n:=by rw[DP]
@[simp] theorem Iz (d:Nat) (n:Int) (t:T) (l:List T):DP d n (t::l)=if n<0 then n else DP d (Eh d n t) l:=by rw[DP]
theorem c9 {c:T} (h:B6 9 c=true):c.kind=1:=by
 simp[B6,Bb] at h;exact h.2
theorem AV {d:Nat} {k:Int} {w:List Int} {l:List T} (h:Aj d (.mk k w l)=true):∀ t,t ∈ l→Aj (d-1) t=true∧B6 k t=true:=by
 rw[AI] at h;split at h
 ·simp at h;intro t ht;rw[h.2] at ht;cases ht
 ·split at h
  ·simp at h;intro t ht;rw[h.2] at ht;cases ht
  ·split at h
   ·cases h
   ·exact rightL_all.1 h
theorem Vw {t:T} (h:t.kind=1):Af t = .mk 1 (CM t.words) (BZ (t.kids.map Af)):=by
 cases t;simp at h;subst h;rw[AL];simp
theorem aR {l:List T} (h:∀ t,t ∈ l→Je t=Co t):GW l=Cm l:=by
 induction l with
 |nil=>simp
 |cons t l ih=>simp[h t (by simp),ih fun u hu=>h u (by simp[hu])]
theorem sE:∀ (t:T) (d:Nat),Aj d t=true→Je (Af t)=Co (Af t):=by
 refine T.ind fun k w l ih d h=>?_;have hk:=AV h;have ihl:∀ t,t ∈ l.map Af→Je t=Co t:=fun t ht=>by
  obtain⟨u,hu,rfl⟩:=List.mem_map.1 ht;exact ih u hu _ (hk u hu).1
 rw[AL];split
 ·rfl
 ·split
  ·rw[Yu,Cj];simp;refine aR fun t ht=>ihl t ?_;rw[EB] at ht;exact PD ht
  ·rw[Yu,Cj];rw[aR ihl];have e9:k=9→Kv (l.map Af)=E9 (l.map Af):=fun e=>by
    subst e;have:∀ (m:List T),(∀ t,t ∈ m→Je t=Co t∧t.kind=1)→Kv m=E9 m:=by
     intro m;induction m with
     |nil=>simp
     |cons t m ih=>
      intro hm;obtain⟨h1,h2⟩:=hm t (by simp);simp[ih fun u hu=>hm u (by simp[hu]),h1];cases t;simp at h2;subst h2;rw[Cj];simp;omega
    refine this _ fun t ht=>⟨ihl t ht,?_⟩;obtain⟨u,hu,rfl⟩:=List.mem_map.1 ht;rw[Bp];exact c9 (hk u hu).2
   by_cases h9:k=9
   ·simp[e9 h9]
   ·simp[h9]
end Go.PL
namespace Go.PL
structure WE where
 at_:Int
 mask:Int
 old:Int
 new:Int
mutual
inductive E where
 |mk (kind:Int) (old new:T) (words:List WE) (kids:List KE) (list:Int) (ops:List OP)
inductive KE where
 |mk (at_:Int) (e:E)
inductive OP where
 |mk (kind n:Int) (l:List T) (e:E)
end
namespace E
def kind:E→Int | mk k _ _ _ _ _ _=>k
def old:E→T | mk _ o _ _ _ _ _=>o
def new:E→T | mk _ _ n _ _ _ _=>n
def words:E→List WE | mk _ _ _ w _ _ _=>w
def kids:E→List KE | mk _ _ _ _ k _ _=>k
def list:E→Int | mk _ _ _ _ _ l _=>l
def ops:E→List OP | mk _ _ _ _ _ _ o=>o
variable {k l:Int} {o n:T} {w:List WE} {ks:List KE} {os:List OP}
@[simp] theorem kind_mk:(mk k o n w ks l os).kind=k:=rfl
@[simp] theorem old_mk:(mk k o n w ks l os).old=o:=rfl
@[simp] theorem new_mk:(mk k o n w ks l os).new=n:=rfl
@[simp] theorem words_mk:(mk k o n w ks l os).words=w:=rfl
@[simp] theorem kids_mk:(mk k o n w ks l os).kids=ks:=rfl
@[simp] theorem list_mk:(mk k o n w ks l os).list=l:=rfl
@[simp] theorem ops_mk:(mk k o n w ks l os).ops=os:=rfl
end E
namespace KE
def at_:KE→Int | mk a _=>a
def e:KE→E | mk _ e=>e
@[simp] theorem at_mk {a:Int} {e:E}:(mk a e).at_=a:=rfl
@[simp] theorem e_mk {a:Int} {e:E}:(mk a e).e=e:=rfl
end KE
namespace OP
def kind:OP→Int | mk k _ _ _=>k
def n:OP→Int | mk _ n _ _=>n
def l:OP→List T | mk _ _ l _=>l
def e:OP→E | mk _ _ _ e=>e
variable {k m:Int} {t:List T} {x:E}
@[simp] theorem kind_mk:(mk k m t x).kind=k:=rfl
@[simp] theorem n_mk:(mk k m t x).n=m:=rfl
@[simp] theorem l_mk:(mk k m t x).l=t:=rfl
@[simp] theorem e_mk:(mk k m t x).e=x:=rfl
end OP
abbrev E0:E:=.mk 0 T0 T0 [] [] 0 []
mutual
theorem E.ind {P:E→Prop} (h:∀ k o n w ks l os,(∀ x,x ∈ ks→P x.e)→(∀ x,x ∈ os→P x.e)→P (.mk k o n w ks l os)):∀ e,P e
 |.mk k o n w ks l os=>h k o n w ks l os (E.indK h ks) (E.indO h os)
theorem E.indK {P:E→Prop} (h:∀ k o n w ks l os,(∀ x,x ∈ ks→P x.e)→(∀ x,x ∈ os→P x.e)→P (.mk k o n w ks l os)):∀ (ks:List KE),∀ x,x ∈ ks→P x.e
 |[],_,hx=>nomatch hx
 |.mk a e::ks,x,hx=>by
  rcases List.mem_cons.1 hx with q | hx
  ·rw[q];exact E.ind h e
  ·exact E.indK h ks x hx
theorem E.indO {P:E→Prop} (h:∀ k o n w ks l os,(∀ x,x ∈ ks→P x.e)→(∀ x,x ∈ os→P x.e)→P (.mk k o n w ks l os)):∀ (os:List OP),∀ x,x ∈ os→P x.e
 |[],_,hx=>nomatch hx
 |.mk a n l e::os,x,hx=>by
  rcases List.mem_cons.1 hx with q | hx
  ·rw[q];exact E.ind h e
  ·exact E.indO h os x hx
end
def KL (t:T):Bool:=decide (t.kind=0)&&t.words.isEmpty&&t.kids.isEmpty
def XZ (e:E):Bool:=decide (e.kind=0)&&KL e.old&&KL e.new&&(e.words.isEmpty&&e.kids.isEmpty&&e.ops.isEmpty)&&decide (e.list=0)
def Fm (w mask:Int):Bool:=(List.range 8).all fun i=>decide (mask / 2 ^ i % 2=1) || decide (w / 256 ^ i % 256=0)
def LI (last:Int) (w:WE):Bool:=!(decide (w.at_≤last) || decide (w.at_ > 65534) || decide (w.mask=0) || !Fm w.old w.mask || !Fm w.new w.mask)
def CZ:Int→List WE→Bool
 |_,[]=>true
 |last,w::l=>LI last w&&CZ w.at_ l
def Ii (n:Int):Int:=if n > 1048576 then 1048576 else n
def Bo (o:OP):Int:=if o.kind=3 then 1 else o.n+o.l.length
def Be:Int→Int→List OP→Int × Int
 |n,m,[]=>(n,m)
 |n,m,o::l=>Be (Ii (if o.kind ≠ 2 then n+Bo o else n)) (Ii (if o.kind ≠ 1 then m+Bo o else m)) l
def TV (list:Int) (o:OP):Bool:=
 if o.kind=0 then decide (1≤o.n)&&decide (o.n≤1048576)&&o.l.isEmpty&&XZ o.e
 else if o.n ≠ 0∨o.kind<0∨o.kind > 3 then false
 else if o.kind<3 then (o.l.all fun t=>Aj 64 (.mk list [] [t]))&&!o.l.isEmpty&&XZ o.e
 else true
def Uh (list:Int) (o:OP):Bool:=o.l.isEmpty&&!decide (o.e.kind=0)&&!decide (list≤7)
def RK (list:Int) (o:OP):Bool:=decide (list=8) || decide (o.e.kind=2) || decide (o.e.kind=1)&&decide (o.e.old.kind=1)&&decide (o.e.new.kind=1)
def NG (d:Nat) (k:Int) (o n:T) (nw nk:Nat) (list:Int) (no:Nat):Bool:=
 !(decide (d=0) || decide (k<0) || decide (k > 3))&&!(!decide (k=1)&&!(KL o&&KL n) || !decide (k=2)&&decide (nw+nk > 0) || !decide (k=3)&&(!decide (list=0) || decide (no > 0)))
mutual
def Bu:Nat→E→Bool
 |d,.mk k o n ws ks l os=>
  if NG d k o n ws.length ks.length l os.length=false then false
  else if k=1 then Aj 64 o&&Aj 64 n&&!decide (o.kind=10)&&!decide (n.kind=10)
  else if CZ (-1) ws=false then false
  else if DM (d-1) (-1) ks=false then false
  else if k=3∧(l<2∨l > 9) then false
  else if Fa (d-1) l os=false then false
  else decide ((Be 0 0 os).1<1048576)&&decide ((Be 0 0 os).2<1048576)
def DM:Nat→Int→List KE→Bool
 |_,_,[]=>true
 |d,last,.mk a e::l=>!(decide (a≤last) || decide (a > 65534) || decide (e.kind=0))&&Bu d e&&DM d a l
def Fa:Nat→Int→List OP→Bool
 |_,_,[]=>true
 |d,list,.mk k n t e::l=>Ki d list (.mk k n t e)&&Fa d list l
def Ki:Nat→Int→OP→Bool
 |d,list,.mk k n t e=>TV list (.mk k n t e)&&(if k=3 then Uh list (.mk k n t e)&&Bu d e&&RK list (.mk k n t e) else true)
end
theorem ZM (d:Nat) (k:Int) (o n:T) (ws:List WE) (ks:List KE) (l:Int) (os:List OP):Bu d (.mk k o n ws ks l os) =
  if NG d k o n ws.length ks.length l os.length=false then false
  else if k=1 then Aj 64 o&&Aj 64 n&&!decide (o.kind=10)&&!decide (n.kind=10)
  else if CZ (-1) ws=false then false
  else if DM (d-1) (-1) ks=false then false
  else if k=3∧(l<2∨l > 9) then false
  else if Fa (d-1) l os=false then false
  else decide ((Be 0 0 os).1<1048576)&&decide ((Be 0 0 os).2<1048576):=by rw[Bu]
@[simp] theorem AbY (d:Nat) (last:Int):DM d last []=true:=by rw[DM]
@[simp] theorem Ex (d:Nat) (last:Int) (x:KE) (l:List KE):DM d last (x::l)=(!(decide (x.at_≤last) || decide (x.at_ > 65534) || decide (x.e.kind=0))&&Bu d x.e&&DM d x.at_ l):=by cases x;rw[DM];rfl
@[simp] theorem AbA (d:Nat) (list:Int):Fa d list []=true:=by rw[Fa]
@[simp] theorem dk (d:Nat) (list:Int) (x:OP) (l:List OP):Fa d list (x::l)=(Ki d list x&&Fa d list l):=by cases x;rw[Fa]
theorem Ph (d:Nat) (list:Int) (x:OP):Ki d list x=(TV list x&&(if x.kind=3 then Uh list x&&Bu d x.e&&RK list x else true)):=by cases x;rw[Ki];rfl
theorem rightOs_all {d:Nat} {list:Int}:∀ {l:List OP},Fa d list l=true ↔ ∀ x,x ∈ l→Ki d list x=true
 |[]=>by simp
 |x::l=>by simp[rightOs_all (l:=l)]
def Jh (n:Int):Int:=n % 18446744073709551616
def G8 (w:WE):T:=.mk 1 [Jh (w.at_+4294967296*w.mask),w.old,w.new] []
mutual
def AU:E→T
 |.mk k o n ws ks l os=>
  if k=0 then T0
  else if k=1 then .mk 1 [Jh (k+256*l)] [o,n]
  else if k=2 then .mk 1 [Jh (k+256*l)] [Es (ws.map G8),Es (Ng ks)]
  else .mk 1 [Jh (k+256*l)] [Es (Ot l os)]
def Ng:List KE→List T
 |[]=>[]
 |.mk a e::l=>.mk 1 [Jh a] [AU e]::Ng l
def Ot:Int→List OP→List T
 |_,[]=>[]
 |list,.mk k n t e::l=>.mk 1 [Jh (k+256*n)] (if k=3 then [AU e] else if k > 0 then [.mk list [] t] else [])::Ot list l
def Es:List T→T
 |[]=>T0
 |t::l=>.mk 9 [] (t::l)
end
theorem Dh (k:Int) (o n:T) (ws:List WE) (ks:List KE) (l:Int) (os:List OP):AU (.mk k o n ws ks l os) =
  if k=0 then T0
  else if k=1 then .mk 1 [Jh (k+256*l)] [o,n]
  else if k=2 then .mk 1 [Jh (k+256*l)] [Es (ws.map G8),Es (Ng ks)]
  else .mk 1 [Jh (k+256*l)] [Es (Ot l os)]:=by rw[AU]
def Ja (x:KE):T:=.mk 1 [Jh x.at_] [AU x.e]
def Fg (list:Int) (x:OP):T:=.mk 1 [Jh (x.kind+256*x.n)] (if x.kind=3 then [AU x.e] else if x.kind > 0 then [.mk list [] x.l] else [])
theorem FE:∀ l,Ng l=l.map Ja
 |[]=>by rw[Ng];rfl
 |.mk a e::l=>by rw[Ng,FE l];rfl
theorem FH (list:Int):∀ l,Ot list l=l.map (Fg list)
 |[]=>by rw[Ot];rfl
 |.mk k n t e::l=>by rw[Ot,FH list l];rfl
@[simp] theorem Z6:Es []=T0:=by rw[Es]
@[simp] theorem Ke (t:T) (l:List T):Es (t::l) = .mk 9 [] (t::l):=by rw[Es]
end Go.PL
namespace Go.PL
theorem Y4 {w:List Int} {n:Nat} (h:n<w.length) (h0:w[n]=0):CM (w.take (n+1))=CM (w.take n):=by
 rw[Ij h,Q5,if_pos h0]
theorem XB {w:List Int} {n:Nat} (h:n<w.length) (h0:w[n] ≠ 0):CM (w.take (n+1))=w.take (n+1):=by
 rw[Ij h,Q5,if_neg h0]
theorem YM {w:List T} {n:Nat} (h:n<w.length) (h0:w[n].kind=0):BZ (w.take (n+1))=BZ (w.take n):=by
 rw[Ij h,GZ,if_pos h0]
theorem X0 {w:List T} {n:Nat} (h:n<w.length) (h0:w[n].kind ≠ 0):BZ (w.take (n+1))=w.take (n+1):=by
 rw[Ij h,GZ,if_neg h0]
theorem ZC (l:List T):(BZ (l.map Af)).length=(BZ l).length:=by
 induction l using Sq with
 |h0=>rfl
 |h1 l x ih=>
  rw[List.map_append,List.map_cons,List.map_nil,GZ,GZ,Bp];split
  ·exact ih
  ·simp
theorem L5 (l:List T):BZ (l.map Af)=(l.map Af).take (BZ l).length:=by
 rw[← ZC];exact EB _
def nW (t:T):Nat:=if t.kind=1 then (CM t.words).length else t.words.length
def nK (t:T):Nat:=if t.kind=1 then (BZ t.kids).length else t.kids.length
theorem Aa2 (t:T):nW t≤t.words.length:=by unfold nW;split;exact ET _;exact Cb _
theorem Abb (t:T):nK t≤t.kids.length:=by unfold nK;split;exact EN _;exact Cb _
def Acw (t:T):Prop:=t.kind=0→t.words=[]∧t.kids=[]
theorem Xh {t:T} (h:Acw t):(Af t).words=t.words.take (nW t):=by
 obtain⟨k,w,l⟩:=t;rw[AL];by_cases h0:k=0
 ·obtain⟨a,b⟩:=h h0;simp at a b;subst a b;rw[if_pos h0];simp
 ·rw[if_neg h0];by_cases h1:k=1
  ·subst h1;simp[nW,← Qw]
  ·simp[h1,nW]
theorem qO {t:T} (h:Acw t):(Af t).kids=(t.kids.take (nK t)).map Af:=by
 obtain⟨k,w,l⟩:=t;rw[AL];by_cases h0:k=0
 ·obtain⟨a,b⟩:=h h0;simp at a b;subst a b;rw[if_pos h0];simp
 ·rw[if_neg h0];by_cases h1:k=1
  ·subst h1;simp[nK,L5,List.map_take]
  ·simp[h1,nK]
theorem T.ext' {t u:T} (h1:t.kind=u.kind) (h2:t.words=u.words) (h3:t.kids=u.kids):t=u:=by
 cases t;cases u;simp at h1 h2 h3;rw[h1,h2,h3]
noncomputable def Np (t u:T):Bool:=by classical exact decide (t=u)
theorem sameB_iff {t u:T}:Np t u=true ↔ t=u:=by simp[Np]
noncomputable def QL (t u:T):Bool:=Np (Af t) (Af u)
theorem eqT_iff {t u:T}:QL t u=true ↔ Af t=Af u:=sameB_iff
end Go.PL
namespace Go.Proofs.YtbjmaoedheiigaaGreat
open Go Go.G Go.Proofs Go.PL
theorem Ao {P:Program} {K:Sta→Prop} {rest:List CO} {s:Nat→A} {H:Hp} {dd:Option Nat} {k:Nat} {f:Bool} {nm:Nm} {ix:Nat} {un:List Nat} {l:Bool} {lg:Lg} {g:FuncId} {aa:Array Operand} {ts:Array TypeId}
  (hq:Fs (s k) f=some false) (h:AH P K rest (B0 l ix ⟨[],[]⟩ lg) (Sta.put ⟨s,H⟩ dd (.v undef) H)) :
  AH P K (⟨dd,.call { callee:=.value (.func g),args:=aa,argTypes:=ts },some (k,f),nm,ix,un,l⟩::rest) lg ⟨s,H⟩:=
 Tw (q:=false) (x:=.any) hq (fun e=>by cases e) h
abbrev Ff (l:List Int):A:=.sl false (l.map uv)
abbrev Gc (l:List Int):A:=.sl false (l.map iv)
abbrev u8 (n:Int):A:=.v (.int .u8 n)
mutual
def tC:T→List A
 |.mk k w l=>[iv k,Ff w,.sl false (tCs l)]
def tCs:List T→List A
 |[]=>[]
 |t::l=>.agg (tC t)::tCs l
end
def tA (t:T):A:=.agg (tC t)
abbrev BV (l:List T):A:=.sl false (l.map tA)
abbrev tX (t:T):A:=.agg [iv t.kind,Ff t.words,BV t.kids]
theorem pR:∀ l,tCs l=l.map tA
 |[]=>by rw[tCs];rfl
 |t::l=>by rw[tCs,pR l];rfl
theorem Agm (t:T):tC t=[iv t.kind,Ff t.words,BV t.kids]:=by cases t;rw[tC,pR];rfl
@[simp] theorem tA_eq (t:T):tA t=tX t:=by rw[tA,Agm]
def wA (w:WE):A:=.agg [iv w.at_,u8 w.mask,uv w.old,uv w.new]
abbrev wX (w:WE):A:=.agg [iv w.at_,u8 w.mask,uv w.old,uv w.new]
@[simp] theorem wA_eq (w:WE):wA w=wX w:=rfl
abbrev vE (l:List WE):A:=.sl false (l.map wA)
mutual
def eC:E→List A
 |.mk k o n w ks l os=>[iv k,iv o.kind,Ff o.words,BV o.kids,iv n.kind,Ff n.words,BV n.kids,vE w,.sl false (eKs ks),iv l,.sl false (eOs os)]
def eKs:List KE→List A
 |[]=>[]
 |.mk a e::l=>.agg (iv a::eC e)::eKs l
def eOs:List OP→List A
 |[]=>[]
 |.mk k n t e::l=>.agg (iv k::iv n::BV t::eC e)::eOs l
end
def kA (x:KE):A:=.agg (iv x.at_::eC x.e)
def oA (x:OP):A:=.agg (iv x.kind::iv x.n::BV x.l::eC x.e)
abbrev so (l:List KE):A:=.sl false (l.map kA)
abbrev Ur (l:List OP):A:=.sl false (l.map oA)
abbrev eL (e:E):List A:=[iv e.kind,iv e.old.kind,Ff e.old.words,BV e.old.kids,iv e.new.kind,Ff e.new.words,BV e.new.kids,vE e.words,so e.kids,iv e.list,Ur e.ops]
abbrev eX (e:E):A:=.agg (eL e)
abbrev kX (x:KE):A:=.agg (iv x.at_::eL x.e)
abbrev oX (x:OP):A:=.agg (iv x.kind::iv x.n::BV x.l::eL x.e)
theorem oq:∀ l,eKs l=l.map kA
 |[]=>by rw[eKs];rfl
 |.mk a e::l=>by rw[eKs,oq l];rfl
theorem qf:∀ l,eOs l=l.map oA
 |[]=>by rw[eOs];rfl
 |.mk k n t e::l=>by rw[eOs,qf l];rfl
theorem AbX (e:E):eC e=eL e:=by cases e;rw[eC,oq,qf];rfl
@[simp] theorem kA_eq (x:KE):kA x=kX x:=by rw[kA,AbX]
@[simp] theorem oA_eq (x:OP):oA x=oX x:=by rw[oA,AbX]
@[simp] theorem AjC (l:List Int):Ge 1 (l.map uv)=true:=by simp[Ge]
@[simp] theorem Ai8 (l:List Int):Ge 1 (l.map iv)=true:=by simp[Ge]
@[simp] theorem Aim (l:List T):Ge 3 (l.map tA)=true:=by simp[Ge]
@[simp] theorem AiB (l:List WE):Ge 4 (l.map wA)=true:=by simp[Ge]
@[simp] theorem AjN (l:List OP):Ge 14 (l.map oA)=true:=by simp[Ge]
theorem Ml {n:Nat} {l:List A}:Ge n l=true ↔ ∀ x,x ∈ l→x.cells.length=n:=by simp[Ge]
@[simp] theorem AeK {n k:Nat} {l:List A} (h:Ge n l=true):Ge n (l.take k)=true:=by
 rw[Ml] at h ⊢;exact fun x hx=>h x (PD hx)
theorem Cu {α:Type} {H:Hp} {o:Nm} {u n sz:Nat} {l:List α} {f:α→A} (h:vr (H o) u=some (sz,l.map f)) (hn:n=l.length) (hf:∀ x,((f x).cells.length == sz&&(f x).cells.all fun y=>A.bare1 y&&y.one)=true):K6 H (.osl o u sz 0 n) (.sl false (l.map f)):=by
 subst hn;have:=dM (H:=H) (o:=o) (u:=u) (off:=0) (len:=l.length) (sz:=sz) (xs:=l.map f) (by simpa using h) (by simp) (by
  simp only[List.drop_zero];rw[BO (by simp),List.all_map,List.all_eq_true];exact fun x _=>hf x)
 simp[BO] at this;exact this
theorem YS {α:Type} {H:Hp} {o:Nm} {u n sz:Nat} {l:List α} {f:α→A} (h:vr (H o) u=some (sz,l.map f)) (hn:n≤l.length) (hf:∀ x,((f x).cells.length == sz&&(f x).cells.all fun y=>A.bare1 y&&y.one)=true):K6 H (.osl o u sz 0 n) (.sl false ((l.take n).map f)):=by
 have:=dM (H:=H) (o:=o) (u:=u) (off:=0) (len:=n) (sz:=sz) (xs:=l.map f) (by simpa using h) (by simpa using hn) (by
  simp only[List.drop_zero];rw[← List.map_take,List.all_map,List.all_eq_true];exact fun x _=>hf x)
 simpa using this
theorem Hz {α:Type} {f:α→A} {l:List α} {i:Nat} (h:i<l.length) {x:A} (hx:f l[i]=x):List.take i (List.take i (l.map f))++[x]=(l.take (i+1)).map f:=by
 rw[List.take_take,Nat.min_self,Ij h,List.map_append,List.map_take,← hx];rfl
theorem ND {H:Hp}:K6 H (.agg [iv 0,.sl true [],.sl true []]) (tX T0):=BT (by simp;exact⟨Ab rfl,Au,Au⟩)
abbrev Kz (n:Int):Int:=i64.wrap n
theorem OX {a b:Int} (h:a % 18446744073709551616=b % 18446744073709551616):Kz a=Kz b:=by
 unfold Kz;rw[IntKind.wrap_i64,IntKind.wrap_i64];omega
theorem V6 (a:Int):Kz a % 18446744073709551616=a % 18446744073709551616:=by
 unfold Kz;rw[IntKind.wrap_i64];omega
theorem ab (a b:Int):i64.wrap (i64.wrap a+b)=i64.wrap (a+b):=OX (by have:=V6 a;unfold Kz at this;omega)
theorem T5 (a b:Int):i64.wrap (a+i64.wrap b)=i64.wrap (a+b):=OX (by have:=V6 b;unfold Kz at this;omega)
theorem ry (a b:Int):i64.wrap (i64.wrap a-b)=i64.wrap (a-b):=OX (by have:=V6 a;unfold Kz at this;omega)
theorem r6 (a b:Int):i64.wrap (a*i64.wrap b)=i64.wrap (a*b):=OX (by rw[Int.mul_emod];have:=V6 b;unfold Kz at this;rw[this,← Int.mul_emod])
def Bn (n:Int):Prop:=-9223372036854775808≤n∧n<9223372036854775808
def BI (n:Int):Prop:=0≤n∧n<18446744073709551616
mutual
def Bx:T→Prop
 |.mk k w l=>Bn k∧(∀ x,x ∈ w→BI x)∧w.length*8≤140737488355328∧l.length*56≤140737488355328∧rj l
def rj:List T→Prop
 |[]=>True
 |t::l=>Bx t∧rj l
end
theorem Xc:∀ {l:List T},rj l ↔ ∀ t,t ∈ l→Bx t
 |[]=>by simp[rj]
 |t::l=>by simp[rj,Xc (l:=l)]
structure WfT (t:T):Prop where
 k:Bn t.kind
 w:∀ x,x ∈ t.words→BI x
 wl:t.words.length*8≤140737488355328
 kl:t.kids.length*56≤140737488355328
 ks:∀ x,x ∈ t.kids→Bx x
theorem wfT_iff {t:T}:Bx t ↔ WfT t:=by
 cases t;rw[Bx,Xc];exact⟨fun ⟨a,b,c,d,e⟩=>⟨a,b,c,d,e⟩,fun ⟨a,b,c,d,e⟩=>⟨a,b,c,d,e⟩⟩
def WE.wf (w:WE):Prop:=Bn w.at_∧(0≤w.mask∧w.mask<256)∧BI w.old∧BI w.new
mutual
def PA:E→Prop
 |.mk k o n w ks l os=>(Bn k∧Bn l∧Bx o∧Bx n∧(∀ x,x ∈ w→WE.wf x)∧w.length*32≤140737488355328∧ks.length*208≤140737488355328∧os.length*240≤140737488355328)∧uf ks∧vD os
def uf:List KE→Prop
 |[]=>True
 |.mk a e::l=>(Bn a∧PA e)∧uf l
def vD:List OP→Prop
 |[]=>True
 |.mk k n t e::l=>(Bn k∧Bn n∧rj t∧t.length*56≤140737488355328∧PA e)∧vD l
end
structure ti (x:OP):Prop where
 k:Bn x.kind
 n:Bn x.n
 l:∀ t,t ∈ x.l→Bx t
 ll:x.l.length*56≤140737488355328
 e:PA x.e
theorem jB:∀ {l:List KE},uf l ↔ ∀ x,x ∈ l→Bn x.at_∧PA x.e
 |[]=>by simp[uf]
 |.mk a e::l=>by simp[uf,jB (l:=l)]
theorem jZ:∀ {l:List OP},vD l ↔ ∀ x,x ∈ l→ti x
 |[]=>by simp[vD]
 |.mk k n t e::l=>by
  simp only[vD,jZ (l:=l),Xc,List.forall_mem_cons];exact⟨fun ⟨⟨a,b,c,d,e⟩,h⟩=>⟨⟨a,b,c,d,e⟩,h⟩,fun ⟨⟨a,b,c,d,e⟩,h⟩=>⟨⟨a,b,c,d,e⟩,h⟩⟩
structure WfE (e:E):Prop where
 k:Bn e.kind
 l:Bn e.list
 o:Bx e.old
 n:Bx e.new
 w:∀ x,x ∈ e.words→WE.wf x
 wl:e.words.length*32≤140737488355328
 kl:e.kids.length*208≤140737488355328
 ol:e.ops.length*240≤140737488355328
 ks:∀ x,x ∈ e.kids→Bn x.at_∧PA x.e
 os:∀ x,x ∈ e.ops→ti x
theorem wfE_iff {e:E}:PA e ↔ WfE e:=by
 cases e;rw[PA,jB,jZ];exact⟨fun ⟨⟨a,b,c,d,e,f,g,h⟩,i,j⟩=>⟨a,b,c,d,e,f,g,h,i,j⟩,fun ⟨a,b,c,d,e,f,g,h,i,j⟩=>⟨⟨a,b,c,d,e,f,g,h⟩,i,j⟩⟩
end Go.Proofs.YtbjmaoedheiigaaGreat
namespace Go.PL
structure Sc where
 i:Nat
 j:Nat
 n:Int
 deriving DecidableEq
def ij:Sc:=⟨0,0,0⟩
def BC (a b:Sc):Bool:=decide (b.n<a.n) || (decide (a.n=b.n)&&(decide (a.i<b.i) || (decide (a.i=b.i)&&decide (a.j<b.j))))
def ZI (l:List Sc) (i j:Nat):List Sc:=(l.set i (l.getD j ij)).set j (l.getD i ij)
@[simp] theorem eY {l:List Sc} {i j:Nat}:(ZI l i j).length=l.length:=by simp[ZI]
def qC:Nat→List Sc→Nat→List Sc
 |0,l,_=>l
 |f+1,l,j=>if (j-1) / 2=j∨BC (l.getD j ij) (l.getD ((j-1) / 2) ij)=false then l else qC f (ZI l ((j-1) / 2) j) ((j-1) / 2)
def Mm (l:List Sc) (i n:Nat):Nat:=if 2*i+2<n∧BC (l.getD (2*i+2) ij) (l.getD (2*i+1) ij)=true then 2*i+2 else 2*i+1
def HQ:Nat→List Sc→Nat→Nat→List Sc × Nat
 |0,l,i,_=>(l,i)
 |f+1,l,i,n=>if n≤2*i+1 then (l,i) else if BC (l.getD (Mm l i n) ij) (l.getD i ij)=true then HQ f (ZI l i (Mm l i n)) (Mm l i n) n else (l,i)
theorem ck:∀ (f:Nat) (l:List Sc) (j:Nat),(qC f l j).length=l.length
 |0,l,j=>rfl
 |f+1,l,j=>by
  unfold qC;split
  ·rfl
  ·rw[ck f];simp
theorem aM:∀ (f:Nat) (l:List Sc) (i n:Nat),(HQ f l i n).1.length=l.length
 |0,l,i,n=>rfl
 |f+1,l,i,n=>by
  unfold HQ;split
  ·rfl
  ·split
   ·rw[aM f];simp
   ·rfl
end Go.PL
namespace Go.PL
open List
theorem ZY {a b:Sc}:BC a b=true ↔ b.n<a.n∨(a.n=b.n∧(a.i<b.i∨(a.i=b.i∧a.j<b.j))):=by
 unfold BC;simp
theorem O9 {a b:Sc}:BC a b=false ↔ a.n<b.n∨(a.n=b.n∧(b.i<a.i∨(a.i=b.i∧b.j≤a.j))):=by
 rw[Bool.eq_false_iff,ne_eq,ZY];omega
theorem TK (a:Sc):BC a a=false:=by rw[O9];omega
theorem Na {a b:Sc} (h:BC a b=true):BC b a=false:=by
 rw[ZY] at h;rw[O9];omega
theorem SG {a b c:Sc} (h1:BC b a=false) (h2:BC c b=false):BC c a=false:=by
 rw[O9] at h1 h2 ⊢; omega
theorem qS {a b:Sc} (h1:BC a b=false) (h2:BC b a=false):a=b:=by
 rw[O9] at h1 h2;obtain⟨i,j,n⟩:=a;obtain⟨i',j',n'⟩:=b;simp at h1 h2 ⊢;omega
abbrev gt (l:List Sc) (k:Nat):Sc:=l.getD k ij
theorem FX {l:List Sc} {i j:Nat} (hi:i<l.length) (hj:j<l.length) (k:Nat):gt (ZI l i j) k=if k=j then gt l i else if k=i then gt l j else gt l k:=by
 unfold gt ZI;simp only[List.getD_eq_getElem?_getD,List.getElem?_set,List.length_set];by_cases h1:k=j
 ·subst h1;simp[hj]
 ·rw[if_neg (fun e=>h1 e.symm)];by_cases h2:k=i
  ·subst h2;simp[h1,hi]
  ·rw[if_neg (fun e=>h2 e.symm)];simp[h1,h2]
theorem Xw {l:List Sc} {i j:Nat} (hi:i<l.length) (hj:j<l.length):ZI l i j ~ l:=by
 unfold ZI;rw[List.getD_eq_getElem?_getD,List.getD_eq_getElem?_getD,List.getElem?_eq_getElem hi,List.getElem?_eq_getElem hj];exact List.set_set_perm hi hj
def Nv (l:List Sc) (n:Nat):Prop:=∀ k,0<k→k<n→BC (gt l k) (gt l ((k-1) / 2))=false
theorem vW {l:List Sc} {n:Nat} (h:Nv l n):∀ k,k<n→BC (gt l k) (gt l 0)=false:=by
 intro k;induction k using Nat.strongRecOn with
 |_ k ih=>
  intro hk;by_cases h0:k=0
  ·subst h0;exact TK _
  ·exact SG (ih ((k-1) / 2) (by omega) (by omega)) (h k (by omega) hk)
def Afz (l:List Sc) (n j:Nat):Prop:=(∀ k,0<k→k<n→k ≠ j→BC (gt l k) (gt l ((k-1) / 2))=false)∧(∀ k,0<k→k<n→(k-1) / 2=j→0<j→BC (gt l k) (gt l ((j-1) / 2))=false)
theorem Abk:∀ (f:Nat) (l:List Sc) (j:Nat),j<f→j<l.length→Afz l l.length j→Nv (qC f l j) l.length∧qC f l j ~ l
 |0,l,j,hf,_,_=>by omega
 |f+1,l,j,hf,hj,⟨h1,h2⟩=>by
  unfold qC;split
  ·rename_i hc;refine⟨fun k hk hk2=>?_,Perm.refl _⟩;by_cases e:k=j
   ·subst e;rcases hc with hc | hc
    ·omega
    ·exact hc
   ·exact h1 k hk hk2 e
  ·rename_i hc;have hij:¬ (j-1) / 2=j:=fun e=>hc (.inl e);have hA:BC (gt l j) (gt l ((j-1) / 2))=true:=by
    cases hq:BC (gt l j) (gt l ((j-1) / 2)) with
    |true=>rfl
    |false=>exact(hc (.inr hq)).elim
   obtain⟨i,hi⟩:∃ i,i=(j-1) / 2:=⟨_,rfl⟩;rw[← hi] at hij hA h2 ⊢;have hil:i<l.length:=by omega
   have hlt:i<j:=by omega
   have ih:=Abk f (ZI l i j) i (by omega) (by simp;omega) ⟨fun k hk hk2 hne=>?_,fun k hk hk2 hp h0=>?_⟩
   ·simp only[eY] at ih;exact⟨ih.1,ih.2.trans (Xw hil hj)⟩
   ·simp only[eY] at hk2;rw[FX hil hj,FX hil hj];by_cases e1:k=j
    ·subst e1;rw[if_pos rfl,← hi,if_neg (by omega),if_pos rfl];exact Na hA
    ·rw[if_neg e1,if_neg hne];by_cases e2:(k-1) / 2=j
     ·rw[if_pos e2];exact h2 k hk hk2 e2 (by omega)
     ·rw[if_neg e2];by_cases e3:(k-1) / 2=i
      ·rw[if_pos e3];have:=h1 k hk hk2 e1;rw[e3] at this;exact SG (Na hA) this
      ·rw[if_neg e3];exact h1 k hk hk2 e1
   ·simp only[eY] at hk2;rw[FX hil hj,FX hil hj];have hpi:=h1 i h0 hil (by omega);rw[if_neg (by omega:¬ (i-1) / 2=j),if_neg (by omega:¬ (i-1) / 2=i)];by_cases e1:k=j
    ·rw[if_pos e1];exact hpi
    ·rw[if_neg e1,if_neg (by omega:¬ k=i)];have:=h1 k hk hk2 e1;rw[hp] at this;exact SG hpi this
theorem pE {l:List Sc} (h:Nv l l.length) (x:Sc):Nv (qC (l.length+1) (l++[x]) l.length) (l.length+1)∧qC (l.length+1) (l++[x]) l.length ~ x::l:=by
 have hg:∀ k,k<l.length→gt (l++[x]) k=gt l k:=fun k hk=>by
  unfold gt;rw[List.getD_eq_getElem?_getD,List.getD_eq_getElem?_getD,List.getElem?_append_left hk]
 have:=Abk (l.length+1) (l++[x]) l.length (by omega) (by simp) ⟨fun k hk hk2 hne=>?_,fun k hk hk2 hp h0=>?_⟩
 ·simp only[List.length_append,List.length_singleton] at this;exact⟨this.1,this.2.trans (List.perm_append_singleton x l)⟩
 ·simp at hk2;rw[hg k (by omega),hg _ (by omega)];exact h k hk (by omega)
 ·simp at hk2;omega
def y8 (l:List Sc) (n i:Nat):Prop:=(∀ k,0<k→k<n→(k-1) / 2 ≠ i→BC (gt l k) (gt l ((k-1) / 2))=false)∧(∀ k,0<k→k<n→(k-1) / 2=i→0<i→BC (gt l k) (gt l ((i-1) / 2))=false)
theorem sD {l:List Sc} {i n:Nat} (h:2*i+1<n):Mm l i n<n∧(Mm l i n-1) / 2=i∧i<Mm l i n∧∀ k,0<k→k<n→(k-1) / 2=i→BC (gt l k) (gt l (Mm l i n))=false:=by
 unfold Mm;split
 ·rename_i hc;refine⟨hc.1,by omega,by omega,fun k hk hk2 hp=>?_⟩;have:k=2*i+1∨k=2*i+2:=by omega
  rcases this with rfl | rfl
  ·exact Na hc.2
  ·exact TK _
 ·rename_i hc;refine⟨h,by omega,by omega,fun k hk hk2 hp=>?_⟩;have:k=2*i+1∨k=2*i+2:=by omega
  rcases this with rfl | rfl
  ·exact TK _
  ·cases hq:BC (gt l (2*i+2)) (gt l (2*i+1)) with
   |false=>rfl
   |true=>exact(hc ⟨hk2,hq⟩).elim
theorem o9:∀ (f:Nat) (l:List Sc) (i n:Nat),n≤l.length→i<l.length→n<i+f→y8 l n i→Nv (HQ f l i n).1 n∧(HQ f l i n).1 ~ l∧∀ k,n≤k→gt (HQ f l i n).1 k=if k=i then gt (HQ f l i n).1 i else gt l k
 |0,l,i,n,hn,hil,hf,⟨h1,h2⟩=>by
  refine⟨fun k hk hk2=>h1 k hk hk2 (by omega),Perm.refl _,fun k hk=>?_⟩;show gt l k=if k=i then gt l i else gt l k
  split
  ·rename_i e;rw[e]
  ·rfl
 |f+1,l,i,n,hn,hil,hf,⟨h1,h2⟩=>by
  have same:∀ k:Nat,gt l k=if k=i then gt l i else gt l k:=fun k=>by
   split
   ·rename_i e;rw[e]
   ·rfl
  unfold HQ;split
  ·refine⟨fun k hk hk2=>h1 k hk hk2 (by omega),Perm.refl _,fun k _=>same k⟩
  ·rename_i hlt;obtain⟨c1,c2,c3,c4⟩:=sD (l:=l) (i:=i) (n:=n) (by omega);split
   ·rename_i hA;generalize Mm l i n=c at *;have hcl:c<l.length:=by omega
    have ih:=o9 f (ZI l i c) c n (by simp;omega) (by simp;omega) (by omega) ⟨fun k hk hk2 hne=>?_,fun k hk hk2 hp h0=>?_⟩
    ·refine⟨ih.1,ih.2.1.trans (Xw hil hcl),fun k hk=>?_⟩;rw[ih.2.2 k hk,if_neg (by omega:¬ k=c),FX hil hcl,if_neg (by omega:¬ k=c)];by_cases e:k=i
     ·subst e;omega
     ·rw[if_neg e,if_neg e]
    ·rw[FX hil hcl,FX hil hcl];by_cases e1:k=c
     ·subst e1;rw[if_pos rfl,c2,if_neg (by omega),if_pos rfl];exact Na hA
     ·rw[if_neg e1];by_cases e2:k=i
      ·subst e2;rw[if_pos rfl,if_neg hne,if_neg (by omega:¬ (k-1) / 2=k)];exact h2 c (by omega) c1 c2 hk
      ·rw[if_neg e2,if_neg hne];by_cases e3:(k-1) / 2=i
       ·rw[if_pos e3];exact c4 k hk hk2 e3
       ·rw[if_neg e3];exact h1 k hk hk2 e3
    ·rw[FX hil hcl,FX hil hcl,c2,if_neg (by omega:¬ i=c),if_pos rfl,if_neg (by omega:¬ k=c),if_neg (by omega:¬ k=i)];have:=h1 k hk hk2 (by omega)
     rwa [hp] at this
   ·rename_i hA;have hA':BC (gt l (Mm l i n)) (gt l i)=false:=by
     cases hq:BC (gt l (Mm l i n)) (gt l i) with
     |false=>rfl
     |true=>exact(hA hq).elim
    refine⟨fun k hk hk2=>?_,Perm.refl _,fun k _=>same k⟩;by_cases e:(k-1) / 2=i
    ·rw[e];exact SG hA' (c4 k hk hk2 e)
    ·exact h1 k hk hk2 e
def J9 (l:List Sc):List Sc:=(HQ (l.length-1+1) (ZI l 0 (l.length-1)) 0 (l.length-1)).1
theorem X6 (l:List Sc):(J9 l).length=l.length:=by unfold J9;rw[aM];simp
theorem Aa7 {l:List Sc} {i:Nat} (h:i<l.length):gt l i=l[i]:=by unfold gt;rw[List.getD_eq_getElem?_getD,List.getElem?_eq_getElem h];rfl
theorem qd {l:List Sc} {n k:Nat} (h:k<n):gt (l.take n) k=gt l k:=by
 unfold gt;rw[List.getD_eq_getElem?_getD,List.getD_eq_getElem?_getD,List.getElem?_take,if_pos h]
theorem Adp {l:List Sc} (h0:0<l.length) (h:Nv l l.length):gt (J9 l) (l.length-1)=gt l 0∧Nv ((J9 l).take (l.length-1)) (l.length-1)∧(gt l 0::(J9 l).take (l.length-1)) ~ l:=by
 have hlen:=X6 l;obtain⟨n,hn⟩:∃ n,n=l.length-1:=⟨_,rfl⟩;unfold J9 at hlen ⊢;rw[← hn] at hlen ⊢;have hnl:n<l.length:=by omega
 have hd:=o9 (n+1) (ZI l 0 n) 0 n (by simp;omega) (by simp;omega) (by omega) ⟨fun k hk hk2 hne=>?_,fun k _ _ _ h0=>by omega⟩
 ·generalize hl2:(HQ (n+1) (ZI l 0 n) 0 n).1=l2 at hd hlen;have hg:gt l2 n=gt l 0:=by
   by_cases e:n=0
   ·subst e;have:l2=ZI l 0 0:=by rw[← hl2,HQ,if_pos (by omega)]
    rw[this,FX h0 h0,if_pos rfl]
   ·rw[hd.2.2 n (Cb _),if_neg e,FX h0 hnl,if_pos rfl]
  refine⟨hg,fun k hk hk2=>?_,?_⟩
  ·rw[qd hk2,qd (by omega)];exact hd.1 k hk hk2
  ·have hsplit:l2=l2.take n++[gt l2 n]:=by
    rw[Aa7 (by omega),List.take_append_getElem,BO (by omega)]
   refine Perm.trans ?_ (hd.2.1.trans (Xw h0 hnl))
   conv=>rhs;rw[hsplit]
   rw[hg];exact(List.perm_append_singleton _ _).symm
 ·rw[FX h0 hnl,FX h0 hnl,if_neg (by omega:¬ k=n),if_neg (by omega:¬ k=0),if_neg (by omega:¬ (k-1) / 2=n),if_neg hne];exact h k hk (by omega)
def Zh (p q:Sc):Bool:=(decide (p.i<q.i)&&decide (p.j<q.j)) || (decide (q.i<p.i)&&decide (q.j<p.j))
theorem fW {p q:Sc}:Zh p q=Zh q p:=by unfold Zh;rw[Bool.or_comm]
theorem zA (p:Sc):Zh p p=false:=by simp[Zh]
def Hs (o:List Sc) (x:Sc):Bool:=o.all fun p=>Zh p x
theorem Z7 {o:List Sc} {x y:Sc}:Hs (o++[x]) y=(Hs o y&&Zh x y):=by simp[Hs]
def AaC (all o:List Sc) (x:Sc):Prop:=x ∈ all∧Hs o x=true∧∀ y,y ∈ all→Hs o y=true→BC y x=false
inductive Nr (all:List Sc):List Sc→List Sc→Prop
 |done {o}:(∀ y,y ∈ all→Hs o y=false)→Nr all o o
 |step {o x o'}:AaC all o x→Nr all (o++[x]) o'→Nr all o o'
theorem wu {all o:List Sc} {x y:Sc} (h:AaC all o x) (k:AaC all o y):x=y:=qS (k.2.2 x h.1 h.2.1) (h.2.2 y k.1 k.2.1)
theorem rZ {all o a b:List Sc} (h:Nr all o a):Nr all o b→a=b:=by
 induction h with
 |done h=>
  intro k;cases k with
  |done=>rfl
  |step hb _=>
   have:=hb.2.1;rw[h _ hb.1] at this;cases this
 |step hb _ ih=>
  intro k;cases k with
  |done k=>
   have:=hb.2.1;rw[k _ hb.1] at this;cases this
  |step hb' k=>
   have:=wu hb hb';subst this;exact ih k
def Fb (o:List Sc):Prop:=o.Pairwise fun p q=>Zh p q=true
theorem nh {o:List Sc} {x:Sc} (h:Fb o) (hx:Hs o x=true):Fb (o++[x]):=by
 unfold Fb at h ⊢;rw[List.pairwise_append];refine⟨h,by simp,fun p hp q hq=>?_⟩;simp at hq;subst hq;simp[Hs] at hx;exact hx p hp
theorem jh {all o o':List Sc} (h:Nr all o o'):Fb o→(∀ x,x ∈ o→x ∈ all)→Fb o'∧∀ x,x ∈ o'→x ∈ all:=by
 induction h with
 |done=>exact fun h k=>⟨h,k⟩
 |step hb _ ih=>
  intro h k;refine ih (nh h hb.2.1) fun x hx=>?_;rcases List.mem_append.1 hx with hx | hx
  ·exact k x hx
  ·simp at hx;subst hx;exact hb.1
theorem vy {all o:List Sc} {x:Sc} {l rest:List Sc} (hl:x::rest ~ l) (hmin:∀ y,y ∈ l→BC y x=false) (hall:∀ y,y ∈ all→y ∈ l∨Hs o y=false) (hsub:∀ y,y ∈ l→y ∈ all) :
  (Hs o x=true→AaC all o x∧(∀ y,y ∈ all→y ∈ rest∨Hs (o++[x]) y=false))∧(Hs o x=false→∀ y,y ∈ all→y ∈ rest∨Hs o y=false):=by
 refine⟨fun hx=>⟨⟨hsub x (hl.subset (by simp)),hx,fun y hy hf=>?_⟩,fun y hy=>?_⟩,fun hx y hy=>?_⟩
 ·rcases hall y hy with h | h
  ·exact hmin y h
  ·rw[h] at hf;cases hf
 ·rcases hall y hy with h | h
  ·rcases List.mem_cons.1 (hl.symm.subset h) with rfl | h
   ·right;rw[Z7,zA];simp
   ·exact .inl h
  ·right;rw[Z7,h];rfl
 ·rcases hall y hy with h | h
  ·rcases List.mem_cons.1 (hl.symm.subset h) with rfl | h
   ·exact .inr hx
   ·exact .inl h
  ·exact .inr h
def Zm (x:Sc):List Sc→List Sc
 |[]=>[x]
 |y::l=>if y.i<x.i then y::Zm x l else x::y::l
def Kr (l:List Sc):Prop:=l.Pairwise fun p q=>p.i<q.i
theorem TP (x:Sc):∀ l,Zm x l ~ x::l
 |[]=>Perm.refl _
 |y::l=>by
  unfold Zm;split
  ·exact((TP x l).cons y).trans (Perm.swap x y l)
  ·exact Perm.refl _
theorem Wz {x:Sc}:∀ {l:List Sc},Kr l→(∀ y,y ∈ l→y.i ≠ x.i)→Kr (Zm x l)
 |[],_,_=>by simp[Zm,Kr]
 |y::l,h,hne=>by
  unfold Zm;unfold Kr at h ⊢;rw[List.pairwise_cons] at h;split
  ·rename_i hlt;rw[List.pairwise_cons];refine⟨fun z hz=>?_,Wz h.2 fun z hz=>hne z (by simp[hz])⟩;rcases List.mem_cons.1 ((TP x l).subset hz) with rfl | hz
   ·exact hlt
   ·exact h.1 z hz
  ·rename_i hlt;have:=hne y (by simp);rw[List.pairwise_cons,List.pairwise_cons];refine⟨fun z hz=>?_,h⟩;rcases List.mem_cons.1 hz with rfl | hz
   ·omega
   ·have:=h.1 z hz;omega
theorem Z4:∀ {l m:List Sc},Kr l→Kr m→l ~ m→l=m
 |[],m,_,_,h=>(List.nil_perm.1 h).symm
 |x::l,[],_,_,h=>by have:=h.length_eq;simp at this
 |x::l,y::m,hl,hm,h=>by
  unfold Kr at hl hm;rw[List.pairwise_cons] at hl hm;have e:x=y:=by
   rcases List.mem_cons.1 (h.subset (by simp:x ∈ x::l)) with e | e
   ·exact e
   ·rcases List.mem_cons.1 (h.symm.subset (by simp:y ∈ y::m)) with e2 | e2
    ·exact e2.symm
    ·have h1:=hm.1 x e;have h2:=hl.1 y e2;omega
  subst e;rw[Z4 hl.2 hm.2 ((List.perm_cons x).1 h)]
def TD (o:List Sc):List Sc:=o.foldl (fun l x=>Zm x l) []
theorem Q1 {o:List Sc} (h:Fb o):Kr (TD o)∧TD o ~ o:=by
 have main:∀ (o l p:List Sc),Kr l→l ~ p→(p++o).Pairwise (fun a b=>Zh a b=true)→Kr (o.foldl (fun l x=>Zm x l) l)∧o.foldl (fun l x=>Zm x l) l ~ p++o:=by
  intro o;induction o with
  |nil=>intro l p h1 h2 _;simpa using ⟨h1,h2⟩
  |cons x o ih=>
   intro l p h1 h2 h3;have hx:∀ y,y ∈ p→Zh y x=true:=fun y hy=>by
    rw[List.pairwise_append] at h3;exact h3.2.2 y hy x (by simp)
   have:=ih (Zm x l) (p++[x]) (Wz h1 fun y hy e=>by
    have:=hx y (h2.subset hy);simp[Zh] at this;omega) ((TP x l).trans ((h2.cons x).trans (List.perm_append_singleton x p).symm)) (by simpa using h3)
   simpa using this
 have:=main o [] [] (by simp[Kr]) (Perm.refl _) (by show Fb ([]++o);exact h);simpa[TD] using this
theorem bh:∀ (l:List Sc) (a b:Nat),Kr l→(∀ x,x ∈ l→a≤x.i∧x.i<b)→l.length≤b-a
 |[],a,b,_,_=>by simp
 |x::l,a,b,h,hb=>by
  unfold Kr at h;rw[List.pairwise_cons] at h;have h1:=hb x (by simp);have:=bh l (x.i+1) b h.2 fun y hy=>⟨h.1 y hy,(hb y (by simp[hy])).2⟩;simp;omega
end Go.PL
namespace Go.Proofs.YtbjmaoedheiigaaGreat
open Go Go.G Go.Proofs Go.PL
def fE (x:Sc):List A:=[iv x.i,iv x.j,iv x.n]
def Pv (x:Sc):A:=.agg (fE x)
@[simp] theorem Aen {x:Sc}:(Pv x).cells=fE x:=rfl
@[simp] theorem AjX {x:Sc}:(fE x).length=3:=rfl
@[simp] theorem AfE {a:A}:lh Tryz.prog 277 a=some (.ifc 277 a):=by
 unfold lh;rw[show Tryz.prog.underlying 277=some (.pointer 279) by kernel_rfl]
@[simp] theorem Akx {a:A}:lh Tryz.prog 282 a=some (.ifc 282 a):=by
 unfold lh;rw[show Tryz.prog.underlying 282=some (.struct (Tryz.prog.fieldsOf 282)) by kernel_rfl]
@[simp] theorem AdT {a:A}:OY Tryz.prog 282 false (.ifc 282 a)=some a:=by
 simp only[OY,if_true];rw[show Tryz.prog.underlying 282=some (.struct (Tryz.prog.fieldsOf 282)) by kernel_rfl];rfl
def LR (l junk:List Sc) (v:Nat):Fam:=⟨fun r p=>if p=[] then ⟨1,.cells [.osl (r::[0]) v 3 0 l.length]⟩ else if p=[0] then ⟨v,.arr 3 ((l++junk).map Pv)⟩ else ⟨0,.none⟩,fun {g δ r r'} hg hd p=>by
  by_cases h1:p=[]
  ·rw[if_pos h1,if_pos h1];refine Fam.cells_ren ?_;simp[A.renL,A.ren,hg,hd]
  ·rw[if_neg h1,if_neg h1];by_cases h2:p=[0]
   ·rw[if_pos h2];refine Fam.arr_ren ?_;have e:∀ x:Sc,(Pv x).ren g δ=Pv x:=fun x=>by simp[Pv,fE,A.ren,A.renL]
    simp only[Dd,List.map_map];refine List.map_congr_left fun x _=>?_;exact e x
   ·rw[if_neg h2];rfl,fun {D r} hD p=>by
  by_cases h1:p=[]
  ·rw[if_pos h1];simp[Ob.refs,A.refsL,A.refs,hD]
  ·rw[if_neg h1];by_cases h2:p=[0]
   ·rw[if_pos h2];simp only[Ob.refs,refsL_iff];intro y hy;obtain⟨x,_,rfl⟩:=List.mem_map.1 hy;simp[A.refs,A.refsL,Pv,fE]
   ·rw[if_neg h2];trivial⟩
@[simp] theorem AbQ {l junk:List Sc} {v r:Nat} {p:Nm}:(LR l junk v).F r p=if p=[] then ⟨1,.cells [.osl (r::[0]) v 3 0 l.length]⟩ else if p=[0] then ⟨v,.arr 3 ((l++junk).map Pv)⟩ else ⟨0,.none⟩:=rfl
abbrev kB (r:Nat):A:=.pob [r] 1 0
abbrev lM (r:Nat):A:=.ifc 277 (kB r)
abbrev scI (x:Sc):A:=.ifc 282 (Pv x)
theorem zQ {x:Sc}:∀ y,y ∈ fE x→y.bare1=true:=fun y hy=>by simp[fE] at hy;rcases hy with rfl | rfl | rfl<;>rfl
@[simp] theorem Ain {x:Sc}:A.ones (fE x)=true:=rfl
@[simp] theorem AiV {x:Sc}:(fE x).take 3=fE x:=rfl
theorem tP {x:Sc}:A.agg (fE x)=Pv x:=rfl
theorem yM {l:List Sc}:Ge 3 (l.map Pv)=true:=by rw[Ml];simp
theorem S8 (x:Sc):Hm (fun _=>scI x):=Ov (Mn (cs:=fE x) rfl fun y hy=>by simp[fE] at hy;rcases hy with rfl | rfl | rfl<;>rfl)
theorem O8 (l junk:List Sc) (v:Nat) (hl:l.length≤1000):BR Tryz.prog 237 (fun r=>[.osl (r::[0]) v 3 0 l.length]) (LR l junk v) (fun _=>iv l.length) (LR l junk v):=by
 refine Ay Ya (by simp) (Ag J3 Ap) Ax fun w0 I0 M0 m0=>?_;unfold N6;simp;exact AJ rfl rfl (fun p=>by simp)
theorem mP (l junk:List Sc) (v:Nat) (hl:l.length≤1000) (x:Sc):BR Tryz.prog 307 (fun r=>[kB r,scI x]) (LR l junk v) (fun _=>.tup []) (LR (l++[x]) [] (v+1)):=by
 refine Ay VN (by simp) (Ag Bi (Ag (S8 x) Ap)) (BP Ap) fun w0 I0 M0 m0=>?_;unfold Nk;simp[yM,Aa];refine⟨zQ,by omega,?_⟩;exact A0 rfl rfl (fun p=>by by_cases h1:p=[]<;>by_cases h2:p=[0]<;>simp[h1,h2,Aa])
theorem sF (l junk:List Sc) (v:Nat) (hl:l.length≤1000) (x:Sc):BR Tryz.prog 306 (fun r=>[kB r]) (LR (l++[x]) junk v) (fun _=>scI x) (LR l (x::junk) v):=by
 refine Ay W4 (by simp) (Ag Bi Ap) (S8 x) fun w0 I0 M0 m0=>?_;have e1:i64.wrap (l.length:Int)=(l.length:Int):=Bv;have he:(l.map Pv++Pv x::junk.map Pv)[l.length]? = some (Pv x):=by
  rw[List.getElem?_append_right (by simp)];simp
 unfold Ol;simp[e1,he,Aa,show(l.length:Int)<l.length+1 by omega,show(l.length:Int)≤l.length+1 by omega];exact A0 rfl rfl (fun p=>by by_cases h1:p=[]<;>by_cases h2:p=[0]<;>simp[h1,h2,Aa])
theorem YB (n:Int):G.Spec Tryz.prog 266 [iv n] (bv false):=by
 refine Ah VP (by simp) fun w0 I0=>?_;unfold Nw;simp;exact Ab rfl
def E6 (a b:Int):Int:=if a<b then -1 else if b<a then 1 else 0
theorem Rc (a b:Int):G.Spec Tryz.prog 243 [iv a,iv b] (iv (E6 a b)):=by
 refine Ah S6 (by simp) fun w0 I0=>?_;unfold K9 E6;simp;refine Ae (YB a) rfl ?_;simp;refine Ae (YB b) rfl ?_;by_cases h:a<b
 ·simp[h];exact Ab rfl
 ·by_cases h2:b<a
  ·simp[h,h2];exact Ab rfl
  ·simp[h,h2];exact Ab rfl
theorem zR (a b c:Int):G.Spec Tryz.prog 310 [.sl true [iv a,iv b,iv c]] (iv (if a ≠ 0 then a else if b ≠ 0 then b else c)):=by
 refine Ah eJ (by simp) fun w0 I0=>?_;have w1:i64.wrap 1=1:=rfl;have w2:i64.wrap 2=2:=rfl;have w3:i64.wrap 3=3:=rfl;unfold RC;simp;refine Ad Ai Gn.eq_1 ?_;by_cases h1:a=0
 ·simp[h1,w1];refine Ad Ai Gn.eq_1 ?_;by_cases h2:b=0
  ·simp[h2,w2];refine Ad Ai Gn.eq_1 ?_;by_cases h3:c=0
   ·simp[h3,w3];refine Ad Ai Gn.eq_1 ?_;simp;exact Ab rfl
   ·simp[h3];exact Ab rfl
  ·simp[h2];exact Ab rfl
 ·simp[h1];exact Ab rfl
theorem sn (a b:Sc):decide ((if E6 b.n a.n ≠ 0 then E6 b.n a.n else if E6 a.i b.i ≠ 0 then E6 a.i b.i else E6 a.j b.j)<0)=BC a b:=by
 have h3:∀ x y:Int,(x<y∧E6 x y = -1)∨(x=y∧E6 x y=0)∨(y<x∧E6 x y=1):=fun x y=>by
  unfold E6;rcases Int.lt_trichotomy x y with h | h | h
  ·exact .inl ⟨h,if_pos h⟩
  ·exact .inr (.inl ⟨h,by rw[if_neg (by omega),if_neg (by omega)]⟩)
  ·exact .inr (.inr ⟨h,by rw[if_neg (by omega),if_pos h]⟩)
 unfold BC;rcases h3 b.n a.n with ⟨h,e⟩ | ⟨h,e⟩ | ⟨h,e⟩
 ·rw[e];simp[h]
 ·rw[e];rcases h3 a.i b.i with ⟨h2,e2⟩ | ⟨h2,e2⟩ | ⟨h2,e2⟩
  ·rw[e2];have:a.i<b.i:=by omega
   simp[h,this]
  ·rw[e2];have h2':a.i=b.i:=by omega
   rcases h3 a.j b.j with ⟨h4,e4⟩ | ⟨h4,e4⟩ | ⟨h4,e4⟩
   ·rw[e4];have:a.j<b.j:=by omega
    simp[h,h2',this]
   ·rw[e4];have:¬ a.j<b.j:=by omega
    simp[h,h2',this]
   ·rw[e4];have:¬ a.j<b.j:=by omega
    simp[h,h2',this]
  ·rw[e2];have h5:¬ a.i<b.i:=by omega
   have h6:¬ a.i=b.i:=by omega
   simp[h,h5,h6]
 ·rw[e];have h5:¬ b.n<a.n:=by omega
  have h6:¬ a.n=b.n:=by omega
  simp[h5,h6]
theorem kZ (a b:Sc):G.Spec Tryz.prog 309 [Pv a,Pv b] (bv (BC a b)):=by
 refine Ah PB (by simp) fun w0 I0=>?_;have hO:=zR (E6 b.n a.n) (E6 a.i b.i) (E6 a.j b.j);unfold Jn;simp[Pv,fE];refine Ae (Rc b.n a.n) rfl ?_;simp;refine Ae (Rc a.i b.i) rfl ?_;simp;refine Ae (Rc a.j b.j) rfl ?_;simp;refine Ae hO rfl ?_;simp;refine Ak ?_;rw[← sn];simp
theorem QE (l junk:List Sc) (v:Nat) (hl:l.length≤1000) (i j:Nat) (hi:i<l.length) (hj:j<l.length):BR Tryz.prog 305 (fun r=>[.osl (r::[0]) v 3 0 l.length,iv i,iv j]) (LR l junk v) (fun _=>bv (BC l[i] l[j])) (LR l junk v):=by
 refine Ay VQ (by simp) (Ag J3 (Ag Ax (Ag Ax Ap))) Ax fun w0 I0 M0 m0=>?_;have hA:=kZ l[i] l[j];have gi:(l.map Pv++junk.map Pv)[i]? = some (Pv l[i]):=by rw[List.getElem?_append_left (by simpa using hi)];simp[hi]
 have gj:(l.map Pv++junk.map Pv)[j]? = some (Pv l[j]):=by rw[List.getElem?_append_left (by simpa using hj)];simp[hj]
 unfold Nu;simp[gi,gj,hi,hj,show(i:Int)<l.length by omega,show(j:Int)<l.length by omega,tP];refine Ae hA rfl ?_;simp;exact AJ rfl rfl (fun p=>by simp)
theorem Qi (l junk:List Sc) (v:Nat) (hl:l.length≤1000) (i j:Nat) (hi:i<l.length) (hj:j<l.length):BR Tryz.prog 308 (fun r=>[.osl (r::[0]) v 3 0 l.length,iv i,iv j]) (LR l junk v) (fun _=>.tup []) (LR ((l.set i l[j]).set j l[i]) junk v):=by
 refine Ay VH (by simp) (Ag J3 (Ag Ax (Ag Ax Ap))) (BP Ap) fun w0 I0 M0 m0=>?_;have gi:(l.map Pv++junk.map Pv)[i]? = some (Pv l[i]):=by rw[List.getElem?_append_left (by simpa using hi)];simp[hi]
 have gj:(l.map Pv++junk.map Pv)[j]? = some (Pv l[j]):=by rw[List.getElem?_append_left (by simpa using hj)];simp[hj]
 unfold Ns;simp[gi,gj,hi,hj,show(i:Int)<l.length by omega,show(j:Int)<l.length by omega,tP];have gk:((l.map Pv).set i (Pv l[j])++junk.map Pv)[j]? = some (Pv l[j]):=by
  rw[List.getElem?_append_left (by simpa using hj)];by_cases e:i=j
  ·subst e;simp[hi]
  ·rw[List.getElem?_set_ne e];simp[hj]
 rw[gk];simp[hj];exact A0 rfl rfl (fun p=>by by_cases h1:p=[]<;>by_cases h2:p=[0]<;>simp[h1,h2,Aa,List.map_set])
theorem Tl:P7 Tryz.prog 277 "Less" = some (305,some 279):=by kernel_rfl
theorem T4:P7 Tryz.prog 277 "Swap" = some (308,some 279):=by kernel_rfl
theorem gh:P7 Tryz.prog 277 "Len" = some (237,some 279):=by kernel_rfl
theorem qZ:P7 Tryz.prog 277 "Push" = some (307,none):=by kernel_rfl
theorem vX:P7 Tryz.prog 277 "Pop" = some (306,none):=by kernel_rfl
theorem HH {l:List Sc} {i:Nat} (h:i<l.length):l.getD i ij=l[i]:=by rw[List.getD_eq_getElem?_getD,List.getElem?_eq_getElem h];rfl
theorem mr {l:List Sc} {i j:Nat} (hi:i<l.length) (hj:j<l.length):ZI l i j=(l.set i l[j]).set j l[i]:=by unfold ZI;rw[HH hi,HH hj]
theorem IM {H:Hp} {l junk:List Sc} {v:Nat} (hH:∀ p,H (0::p)=(LR l junk v).F 0 p):aE Tryz.prog H (some 279) (kB 0)=some (.osl [0,0] v 3 0 l.length):=by
 have:=hH [];unfold aE;simp[this]
theorem AgU {n0:Nat} {w0:World} {I0:Nat→Prop} {M0:Nm→Nat→Prop} {m0:Mu} {Q:Exit→Sta→Prop} {junk:List Sc} {v:Nat}:∀ (f:Nat) (l:List Sc) (j:Nat) (H:Hp),l.length≤1000→j<l.length→j<f→(∀ p,H (0::p)=(LR l junk v).F 0 p) →
  (∀ (H':Hp) (st:List (Nat × A)),(∀ p,H' (0::p)=(LR (qC f l j) junk v).F 0 p)→Q (.exit 0) ⟨lk st,H'⟩) →
  LoopC (FW Tryz.prog w0 I0 M0 n0 m0) FG Q ⟨lk [(0,lM 0),(1,iv j)],H⟩:=by
 intro f;induction f with
 |zero=>intro l j H _ _ hf;omega
 |succ f ih=>
  intro l j H hl hj hf hH hq;obtain⟨i,hi⟩:∃ i,i=(j-1) / 2:=⟨_,rfl⟩;have hil:i<l.length:=by omega
  have e1:i64.wrap ((j:Int)-1)=(j:Int)-1:=Bv;have e2:i64.wrap (((j:Int)-1).tdiv 2)=(i:Int):=by
   by_cases h0:j=0
   ·subst h0;have:i=0:=by omega
    subst this;rfl
   ·rw[Int.tdiv_eq_ediv_of_nonneg (by omega),Av (by omega) (by omega)];omega
  have hL:=QE l junk v hl j i hj hil;have hS:=Qi l junk v hl i j hil hj;rw[qC,← hi,HH hj,HH hil,mr hil hj] at hq;refine Ad Ai FG.eq_1 ?_;by_cases hij:i=j
  ·rw[if_pos (.inl hij)] at hq;simp[e1,e2,hij];rw[AB];simp;exact hq H [(0,lM 0),(1,iv j),(4,iv j),(17,bv true)] hH
  ·have hij':¬ (i:Int)=j:=by omega
   simp[e1,e2,hij,hij'];rw[AB];simp;refine II 0 hL hH rfl Tl (IM hH) rfl (by simp) ?_;cases hA:BC l[j] l[i] with
   |false=>
    rw[hA,if_pos (.inr rfl)] at hq;simp;exact hq _ [(0,lM 0),(1,iv j),(4,iv i),(17,bv true)] (fun p=>by simp)
   |true=>
    rw[hA,if_neg (by simp[hij])] at hq;simp;have hH2:∀ p,(ov 0 ((LR l junk v).F 0) H) (0::p)=(LR l junk v).F 0 p:=fun p=>by simp
    refine II 0 hS hH2 rfl T4 (IM hH2) rfl (by simp) ?_;simp;refine ih _ i _ (by simp;omega) (by simp;omega) (by omega) (fun p=>by simp) hq
theorem zr (l junk:List Sc) (v:Nat) (hl:l.length≤1000) (j:Nat) (hj:j<l.length):BR Tryz.prog 261 (fun r=>[lM r,iv j]) (LR l junk v) (fun _=>.tup []) (LR (qC (j+1) l j) junk v):=by
 refine Ay Px (by simp) (Ag (Ov Bi) (Ag Ax Ap)) (BP Ap) fun w0 I0 M0 m0=>?_;unfold Jt;simp;refine LoopC.le (AE [(0,lM 0),(1,iv j)] (by simp)) ?_;refine AgU (junk:=junk) (v:=v) (j+1) l j _ hl hj (by omega) (fun p=>by simp) fun H' st hH=>?_;simp;exact A0 rfl rfl hH
theorem zE {l:List Sc} {i n:Nat} (h:2*i+1<n):Mm l i n<n∧i<Mm l i n:=by
 unfold Mm;split
 ·rename_i h2;omega
 ·omega
theorem zo {n0:Nat} {w0:World} {I0:Nat→Prop} {M0:Nm→Nat→Prop} {m0:Mu} {Q':Exit→Sta→Prop} {junk l:List Sc} {v i k:Nat} {i0 n:Int} {H:Hp} (hl:l.length≤1000) (hi:i<l.length) (hk:k<l.length) (hH:∀ p,H (0::p)=(LR l junk v).F 0 p)
  (h0:BC l[k] l[i]=false→∀ (H':Hp),(∀ p,H' (0::p)=(LR l junk v).F 0 p)→Q' (.exit 0) ⟨lk [(0,lM 0),(1,iv i0),(2,iv n),(7,iv i),(9,iv k),(39,bv true)],H'⟩)
  (h1:BC l[k] l[i]=true→∀ (H':Hp),(∀ p,H' (0::p)=(LR (ZI l i k) junk v).F 0 p)→Q' .normal ⟨lk [(0,lM 0),(1,iv i0),(2,iv n),(7,iv k)],H'⟩) :
  WPC (FW Tryz.prog w0 I0 M0 n0 m0) Dl Q' ⟨lk [(0,lM 0),(1,iv i0),(2,iv n),(7,iv i),(9,iv k)],H⟩:=by
 have hL:=QE l junk v hl k i hk hi;have hS:=Qi l junk v hl i k hi hk;rw[← mr hi hk] at hS;rw[Dl.eq_1];simp;refine II 0 hL hH rfl Tl (IM hH) rfl (by simp) ?_;cases hA:BC l[k] l[i] with
 |false=>
  simp;exact h0 hA _ (fun p=>by simp)
 |true=>
  simp;have hH2:∀ p,(ov 0 ((LR l junk v).F 0) H) (0::p)=(LR l junk v).F 0 p:=fun p=>by simp
  refine II 0 hS hH2 rfl T4 (IM hH2) rfl (by simp) ?_;simp;exact h1 hA _ (fun p=>by simp)
theorem yS {n0:Nat} {w0:World} {I0:Nat→Prop} {M0:Nm→Nat→Prop} {m0:Mu} {Q:Exit→Sta→Prop} {junk:List Sc} {v n:Nat} {i0:Int}:∀ (f:Nat) (l:List Sc) (i:Nat) (H:Hp),l.length≤1000→n≤l.length→(i<n∨(n=0∧i=0))→n<i+f→i<l.length→(∀ p,H (0::p)=(LR l junk v).F 0 p) →
  (∀ (H':Hp) (st:List (Nat × A)),(∀ p,H' (0::p)=(LR (HQ f l i n).1 junk v).F 0 p)→(lk st) 1=iv i0→(lk st) 7=iv (HQ f l i n).2→Q (.exit 0) ⟨lk st,H'⟩) →
  LoopC (FW Tryz.prog w0 I0 M0 n0 m0) Dj Q ⟨lk [(0,lM 0),(1,iv i0),(2,iv n),(7,iv i)],H⟩:=by
 intro f;induction f with
 |zero=>intro l i H hl hn hi hf hil hH hq;omega
 |succ f ih=>
  intro l i H hl hn hi hf hil hH hq;have e1:i64.wrap (2*(i:Int))=2*(i:Int):=Bv;have e2:i64.wrap (2*(i:Int)+1)=((2*i+1:Nat):Int):=Bl;rw[HQ] at hq;refine Ad Ai Dj.eq_1 ?_;by_cases h1:n≤2*i+1
  ·rw[if_pos h1] at hq;simp[e1,e2,show(n:Int)≤2*i+1 by omega];exact hq H [(0,lM 0),(1,iv i0),(2,iv n),(7,iv i),(8,iv (2*i+1:Nat)),(21,bv true)] hH rfl rfl
  ·rw[if_neg h1] at hq;have e3:i64.wrap (2*(i:Int)+1+1)=((2*i+2:Nat):Int):=Bl;have hkl:=zE (l:=l) (i:=i) (n:=n) (by omega);have fin:∀ (H':Hp),(∀ p,H' (0::p)=(LR l junk v).F 0 p)→WPC (FW Tryz.prog w0 I0 M0 n0 m0) Dl (Cq 1 (Ht (LoopC (FW Tryz.prog w0 I0 M0 n0 m0) Dj Q) Q)) ⟨lk [(0,lM 0),(1,iv i0),(2,iv n),(7,iv i),(9,iv (Mm l i n))],H'⟩:=fun H' hH'=>by
    refine zo hl hil (k:=Mm l i n) (by omega) hH' (fun hA H2 h2=>?_) (fun hA H2 h2=>?_)
    ·rw[← HH (by omega),← HH hil] at hA;rw[if_neg (by rw[hA];simp)] at hq;exact hq H2 _ h2 rfl rfl
    ·rw[← HH (by omega),← HH hil] at hA;rw[if_pos hA] at hq;simp;exact ih _ _ H2 (by simp;omega) (by simp;omega) (.inl hkl.1) (by omega) (by simp;omega) h2 hq
   clear hq ih;simp[e1,e2,show ¬ (n:Int)≤2*i+1 by omega,show ¬ 2*(i:Int)+1<0 by omega,e3];by_cases h2:2*i+2<n
   ·have hL:=QE l junk v hl (2*i+2) (2*i+1) (by omega) (by omega);simp[show 2*(i:Int)+2<n by omega];rw[AB];simp;refine II 0 hL hH rfl Tl (IM hH) rfl (by simp) ?_;have hk:Mm l i n=if BC l[2*i+2] l[2*i+1]=true then 2*i+2 else 2*i+1:=by
     unfold Mm;rw[HH (by omega),HH (by omega)];simp[h2]
    rw[hk] at fin;cases hA:BC l[2*i+2] l[2*i+1] with
    |false=>
     rw[hA] at fin;simp;exact fin _ (fun p=>by simp)
    |true=>
     rw[hA] at fin;simp;exact fin _ (fun p=>by simp)
   ·have hk:Mm l i n=2*i+1:=by
     unfold Mm;rw[if_neg (fun e=>h2 e.1)]
    rw[hk] at fin;simp[show ¬ 2*(i:Int)+2<n by omega];rw[AB];simp;exact fin _ hH
theorem rV (l junk:List Sc) (v:Nat) (hl:l.length≤1000) (n:Nat) (hn:n≤l.length) (h0:0<l.length):BR Tryz.prog 262 (fun r=>[lM r,iv 0,iv n]) (LR l junk v) (fun _=>bv (decide (0<(HQ (n+1) l 0 n).2))) (LR (HQ (n+1) l 0 n).1 junk v):=by
 refine Ay Nx (by simp) (Ag (Ov Bi) (Ag Ax (Ag Ax Ap))) Ax fun w0 I0 M0 m0=>?_;unfold HT;simp;refine LoopC.le (AE [(0,lM 0),(1,iv 0),(2,iv n),(7,iv (0:Nat))] (by simp)) ?_;refine yS (junk:=junk) (v:=v) (n+1) l 0 _ hl hn (by omega) (by omega) h0 (fun p=>by simp) fun H' st hH h1 h7=>?_;simp[h1,h7];exact AJ rfl rfl hH
theorem j7 (l junk:List Sc) (v:Nat) (hl:l.length≤900) (x:Sc):BR Tryz.prog 236 (fun r=>[lM r,scI x]) (LR l junk v) (fun _=>.tup []) (LR (qC (l.length+1) (l++[x]) l.length) [] (v+1)):=by
 refine Ay Ny (by simp) (Ag (Ov Bi) (Ag (S8 x) Ap)) (BP Ap) fun w0 I0 M0 m0=>?_;have hP:=mP l junk v (by omega) x;have hL:=O8 (l++[x]) [] (v+1) (by simp;omega);have hU:=zr (l++[x]) [] (v+1) (by simp;omega) l.length (by simp);have e1:i64.wrap (l.length:Int)=(l.length:Int):=Bv;unfold HR;simp;refine II 0 hP (fun p=>by simp) rfl qZ rfl rfl (by simp) ?_;simp;have hH2:∀ p,(ov 0 ((LR (l++[x]) [] (v+1)).F 0) (FA []):Hp) (0::p)=(LR (l++[x]) [] (v+1)).F 0 p:=fun p=>by simp
 refine II 0 hL hH2 rfl gh (IM hH2) rfl (by simp) ?_;simp[e1];refine AA 0 hU (fun p=>by simp) (by simp) (by simp) ?_;simp;exact A0 rfl rfl (fun p=>by simp)
theorem lz (l junk:List Sc) (v:Nat) (hl:l.length≤900) (h0:0<l.length):BR Tryz.prog 238 (fun r=>[lM r]) (LR l junk v) (fun _=>scI ((J9 l).getD (l.length-1) ij)) (LR ((J9 l).take (l.length-1)) ((J9 l).getD (l.length-1) ij::junk) v):=by
 refine Ay NK (by simp) (Ag (Ov Bi) Ap) (S8 _) fun w0 I0 M0 m0=>?_;obtain⟨n,hn⟩:∃ n,n=l.length-1:=⟨_,rfl⟩;have hlen:=X6 l;rw[← hn];have hL:=O8 l junk v (by omega);have hS:=Qi l junk v (by omega) 0 n h0 (by omega);rw[← mr h0 (by omega)] at hS;have hD:=rV (ZI l 0 n) junk v (by simp;omega) n (by simp;omega) (by simp;omega);have hpd:(HQ (n+1) (ZI l 0 n) 0 n).1=J9 l:=by unfold J9;rw[← hn]
 rw[hpd] at hD;have hsplit:J9 l=(J9 l).take n++[(J9 l).getD n ij]:=by
  rw[HH (by omega),List.take_append_getElem,BO (by omega)]
 have hP:=sF ((J9 l).take n) junk v (by simp;omega) ((J9 l).getD n ij);rw[← hsplit] at hP;have e1:i64.wrap ((l.length:Int)-1)=(n:Int):=Bl;have hH1:∀ p,(ov 0 ((LR l junk v).F 0) (FA []):Hp) (0::p)=(LR l junk v).F 0 p:=fun p=>by simp
 have hH3:∀ l2:List Sc,∀ p,(ov 0 ((LR l2 junk v).F 0) (FA []):Hp) (0::p)=(LR l2 junk v).F 0 p:=fun l2 p=>by simp
 generalize (J9 l).getD n ij=z at hP ⊢;generalize (J9 l).take n=l3 at hP ⊢;generalize J9 l=l2 at hD hP;generalize (HQ (n+1) (ZI l 0 n) 0 n).2=dd at hD;generalize ZI l 0 n=l1 at hS hD;unfold Jd;simp;refine II 0 hL hH1 rfl gh (IM hH1) rfl (by simp) ?_;simp[e1];refine II 0 hS hH1 rfl T4 (IM hH1) rfl (by simp) ?_;simp;refine AA 0 hD (fun p=>by simp) (by simp) (by simp) ?_;simp;refine II 0 hP (fun p=>by simp) rfl vX rfl rfl (by simp) ?_;simp;exact AJ rfl rfl (fun p=>by simp)
def kE (x:Sc):List A:=[iv x.i,iv x.j]
def KH (x:Sc):A:=.agg (kE x)
@[simp] theorem AeL {x:Sc}:(KH x).cells=kE x:=rfl
@[simp] theorem Ajd {x:Sc}:(kE x).length=2:=rfl
@[simp] theorem Ajv {x:Sc}:A.ones (kE x)=true:=rfl
@[simp] theorem AiI {x:Sc}:(kE x).take 2=kE x:=rfl
theorem Dk {x:Sc}:A.agg (kE x)=KH x:=rfl
theorem px {x:Sc}:∀ y,y ∈ kE x→y.bare1=true:=fun y hy=>by simp[kE] at hy;rcases hy with rfl | rfl<;>rfl
theorem Aah {l:List Sc}:Ge 2 (l.map KH)=true:=by rw[Ml];simp
theorem Aa0 (x:Sc):Hm (fun _=>KH x):=Mn (cs:=kE x) rfl px
def kC (l:List Sc) (v:Nat):Fam:=⟨fun r p=>if p=[] then ⟨v,.arr 2 (l.map KH)⟩ else ⟨0,.none⟩,fun {g δ r r'} hg hd p=>by
  by_cases h1:p=[]
  ·rw[if_pos h1];refine Fam.arr_ren ?_;have e:∀ x:Sc,(KH x).ren g δ=KH x:=fun x=>by simp[KH,kE,A.ren,A.renL]
   simp only[Dd,List.map_map];refine List.map_congr_left fun x _=>?_;exact e x
  ·rw[if_neg h1];rfl,fun {D r} hD p=>by
  by_cases h1:p=[]
  ·rw[if_pos h1];simp only[Ob.refs,refsL_iff];intro y hy;obtain⟨x,_,rfl⟩:=List.mem_map.1 hy;simp[A.refs,A.refsL,KH,kE]
  ·rw[if_neg h1];trivial⟩
@[simp] theorem Lo {l:List Sc} {v r:Nat} {p:Nm}:(kC l v).F r p=if p=[] then ⟨v,.arr 2 (l.map KH)⟩ else ⟨0,.none⟩:=rfl
abbrev yF (l:List Sc) (v r:Nat):A:=.osl [r] v 2 0 l.length
theorem dK (p q:Sc):G.Spec Tryz.prog 240 [KH p,KH q] (bv (!Zh p q)):=by
 refine Ah PF (by simp) fun w0 I0=>?_;unfold Jr Zh;by_cases h1:p.i<q.i<;>by_cases h2:p.j<q.j<;>by_cases h3:q.i<p.i<;>by_cases h4:q.j<p.j<;>simp[KH,kE,h1,h2,h3,h4,Aa]<;>exact Ak rfl
abbrev crF (x:Sc):A:=.fnc 240 [KH x] []
theorem i7 (x:Sc):Hm (fun _=>crF x):=ie (Ag (Aa0 x) Ap) Ap
def PN (x:Sc):List Sc→Nat→Int
 |[],_=>-1
 |q::l,i=>if Zh x q=true then PN x l (i+1) else i
theorem WS (x:Sc):∀ (l:List Sc) (i:Nat),decide (0≤PN x l i) = !(l.all fun q=>Zh x q)
 |[],i=>rfl
 |q::l,i=>by
  unfold PN;cases h:Zh x q with
  |true=>simp[h,WS x l (i+1)]
  |false=>simp[h]
theorem Acv {n0:Nat} {w0:World} {I0:Nat→Prop} {M0:Nm→Nat→Prop} {m0:Mu} {Q:Exit→Sta→Prop} {x:Sc} {l:List Sc} {v:Nat} {H:Hp} (hl:l.length≤1000) (hH:∀ p,H (0::p)=(kC l v).F 0 p)
  (hq:∀ y:Int,y=PN x l 0→y ≠ -1→Q .ret ⟨lk [(4,iv y)],H⟩) (hq2:PN x l 0 = -1→Q (.exit 0) ⟨lk [(0,yF l v 0),(1,crF x),(7,iv l.length),(8,iv l.length),(9,bv false)],H⟩):∀ (m i:Nat),i+m=l.length→PN x (l.drop i) i=PN x l 0 →
  LoopC (FW Tryz.prog w0 I0 M0 n0 m0) Bj Q ⟨lk [(0,yF l v 0),(1,crF x),(7,iv l.length),(8,iv i)],H⟩:=by
 intro m;induction m with
 |zero=>
  intro i hi he;have:i=l.length:=by omega
  subst this;rw[List.drop_length] at he;refine Ad Ai Bj.eq_1 ?_;simp;exact hq2 (he.symm.trans rfl)
 |succ m ih=>
  intro i hi he;have hlt:i<l.length:=by omega
  have h0:=hH [];have hg:(l.map KH)[i]? = some (KH l[i]):=by simp[hlt]
  have e1:=AM i;rw[List.drop_eq_getElem_cons hlt,PN] at he;refine Ad Ai Bj.eq_1 ?_;simp[h0,hg,hlt,Dk,show(i:Int)<l.length by omega];refine Om (fs:=[KH x]) (caps:=[]) rfl (dK x l[i]) rfl ?_;cases hp:Zh x l[i] with
  |true=>
   rw[hp,if_pos rfl] at he;simp[e1];exact ih (i+1) (by omega) he
  |false=>
   rw[hp,if_neg (by simp)] at he;simp;exact hq _ he (by omega)
theorem sj (x:Sc) (l:List Sc) (v:Nat) (hl:l.length≤1000):BR Tryz.prog 263 (fun r=>[yF l v r,crF x]) (kC l v) (fun _=>iv (PN x l 0)) (kC l v):=by
 refine Ay FF (by simp) (Ag J3 (Ag (i7 x) Ap)) Ax fun w0 I0 M0 m0=>?_;unfold CV;simp;refine Acv (v:=v) (x:=x) hl (fun p=>by simp) (fun y hy hn=>?_) (fun h=>?_) l.length 0 (by omega) rfl
 ·simp;exact AJ (by rw[hy];rfl) rfl (fun p=>by simp)
 ·simp;exact AJ (by rw[h];rfl) rfl (fun p=>by simp)
theorem ar (x:Sc) (l:List Sc) (v:Nat) (hl:l.length≤1000):BR Tryz.prog 239 (fun r=>[yF l v r,crF x]) (kC l v) (fun _=>bv (!Hs l x)) (kC l v):=by
 have hI:=sj x l v hl;have e:decide (0≤PN x l 0) = !Hs l x:=by
  rw[WS];unfold Hs;congr 2;funext q;exact fW
 refine Ay EO (by simp) (Ag J3 (Ag (i7 x) Ap)) Ax fun w0 I0 M0 m0=>?_;unfold CB;simp;refine AA 0 hI (fun p=>by simp) (by simp) (by simp) ?_;simp;rw[← e];exact AJ rfl rfl (fun p=>by simp)
end Go.Proofs.YtbjmaoedheiigaaGreat
namespace Go.Proofs.YtbjmaoedheiigaaGreat
set_option maxRecDepth 20000
open Go Go.G Go.Proofs
@[simp] theorem AiJ:D9 Tryz.prog 328=some 1:=by kernel_rfl
@[simp] theorem AgS:Ey Tryz.prog 328=some false:=by kernel_rfl
@[simp] theorem Afc:BW Tryz.prog 328=some (Value.int u64 0):=by kernel_rfl
def Ko:CC:=sQ [mO 13 0,oO 14 (.binOp .geq 51 (xT 13) (.const (.int .u64 256)) 51)] [0,2,14] (cD 14 (sR [mO 15 0,oO 16 (.binOp .shr 51 (xT 15) (.const (.int .u64 8)) 269),aO 0 16] [0,2] (.reg [mO 17 2,bQ .add 18 3 17 8 3,aO 2 18] [0,2])) (.skip)) [0,2] (sR [mO 19 2,mO 20 0,oO 21 (.convert 51 5 (xT 20)),oO 22 (.index 9 (.const (.string { data:=#[0,1,2,2,3,3,3,3,4,4,4,4,4,4,4,4,5,5,5,5,5,5,5,5,5,5,5,5,5,5,5,5,6,6,6,6,6,6,6,6,6,6,6,6,6,6,6,6,6,6,6,6,6,6,6,6,6,6,6,6,6,6,6,6,7,7,7,7,7,7,7,7,7,7,7,7,7,7,7,7,7,7,7,7,7,7,7,7,7,7,7,7,7,7,7,7,7,7,7,7,7,7,7,7,7,7,7,7,7,7,7,7,7,7,7,7,7,7,7,7,7,7,7,7,7,7,7,7,8,8,8,8,8,8,8,8,8,8,8,8,8,8,8,8,8,8,8,8,8,8,8,8,8,8,8,8,8,8,8,8,8,8,8,8,8,8,8,8,8,8,8,8,8,8,8,8,8,8,8,8,8,8,8,8,8,8,8,8,8,8,8,8,8,8,8,8,8,8,8,8,8,8,8,8,8,8,8,8,8,8,8,8,8,8,8,8,8,8,8,8,8,8,8,8,8,8,8,8,8,8,8,8,8,8,8,8,8,8,8,8,8,8,8,8,8,8,8,8,8,8,8,8,8,8,8,8] })) (xT 21)),oO 23 (.convert 5 3 (xT 22)),bB .add 24 3 19 23 3,aO 2 24] [2] (.ret))
def Kt:CC:=sQ [mO 7 0,oO 8 (.binOp .geq 51 (xT 7) (.const (.int .u64 65536)) 51)] [0,2,8] (cD 8 (sR [mO 9 0,oO 10 (.binOp .shr 51 (xT 9) (.const (.int .u64 16)) 269),aO 0 10] [0,2] (.reg [mO 11 2,bQ .add 12 3 11 16 3,aO 2 12] [0,2])) (.skip)) [0,2] Ko 
def KX:CC:=sR [aI 2 0] [0,2] (sQ [mO 3 0,oO 4 (.binOp .geq 51 (xT 3) (.const (.int .u64 4294967296)) 51)] [0,2,4] (cD 4 (sR [mO 5 0,oO 6 (.binOp .shr 51 (xT 5) (.const (.int .u64 32)) 269),aO 0 6] [0] (.reg [aI 2 32] [0,2])) (.skip)) [0,2] Kt)
theorem Re:Bm Tryz.prog 280 25 [(.tmp 2)] KX:=Aw Tryz.func280
def Nj:CC:=sR [aI 2 0] [0] (.seq (.cond (nB false) (sR [mO 3 0,oO 4 (.convert 269 288 (xT 3)),cA 5 279 4 288,aO 2 5] [2] (.ret)) (.skip)) (.keep [0] (sR [mO 6 0,cA 7 280 6 51,aO 2 7] [2] (.ret))))
theorem VO:Bm Tryz.prog 265 8 [(.tmp 2)] Nj:=Aw Tryz.func265
def Bg:CC:=sQ [mO 18 9,mO 19 1,bB .gtr 20 3 18 19 3,mO 21 20,mG 22 3 21 true,mG 23 0 21 true,mG 24 9 21 true,oG 25 (iA 242 23 24) 21 true,lG 26 245 25 21 true,mG 27 0 21 true,mG 28 9 21 true,oG 29 (.binOp .sub 3 (xT 28) (nI 1) 3) 21 true,oG 30 (iA 242 27 29) 21 true,lG 31 245 30 21 true,oG 32 (.call { callee:=(.value (xT 22)),args:=#[(xT 26),(xT 31)],argTypes:=#[245,245] }) 21 true,oG 33 (.binOp .lss 3 (xT 32) (nI 0) 3) 21 true,pF 34 21 33] [0,1,2,3,8,9,34] (cD 34 (.skip) (.exit 2)) [0,1,2,3,8,9] (.seq (.block 3 (.reg [mO 37 0,mO 38 9,mO 39 0,mO 40 9,bQ .sub 41 3 40 1 3,mO 42 0,mO 43 9,bQ .sub 44 3 43 1 3,iO 45 242 42 44,lO 46 245 45,mO 47 0,mO 48 9,iO 49 242 47 48,lO 50 245 49,iO 51 242 37 38,sT 245 51 46,iO 52 242 39 41,sT 245 52 50] [0,1,2,3,8,9])) (.reg [mO 35 9,bQ .sub 36 3 35 1 3,aO 9 36] [0,1,2,3,8,9]))
def Bf:CC:=sQ [mO 12 8,mO 13 2,bB .lss 14 3 12 13 3] [0,1,2,3,8,14] (cD 14 (.skip) (.exit 0)) [0,1,2,3,8] (.seq (.block 1 (sR [mO 17 8,aO 9 17] [0,1,2,3,8,9] (.block 2 (.loop Bg)))) (.keep [0,1,2,3,8] (.reg [mO 15 8,bQ .add 16 3 15 1 3,aO 8 16] [0,1,2,3,8]))) 
def CK:CC:=sR [mO 10 1,bQ .add 11 3 10 1 3,aO 8 11] [0,1,2,3,8] (.block 0 (.loop Bf))
theorem Fz:Bm Tryz.prog 271 53 [] CK:=Aw Tryz.func271
def G6:CC:=sR [oO 2 (.assign (.const (.int .u64 0)))] [0] (sR [mO 3 0,oO 4 (.convert 3 269 (xT 3)),cA 5 265 4 269,oO 6 (.binOp .shl 269 (.const (.int .u64 1)) (xT 5) 3),aO 2 6] [2] (.ret))
theorem Ma:Bm Tryz.prog 282 7 [(.tmp 2)] G6:=Aw Tryz.func282
def HI:CC:=sR [oO 2 (.assign (.const (.int .u64 0)))] [0] (sR [mO 3 0,nC 4 3,lO 5 328 4,mO 6 0,nC 7 6,lO 8 328 7,oO 9 (.binOp .shl 328 (xT 8) (.const (.int .u64 13)) 269),bB .xor 10 328 5 9 328,nC 11 3,sT 328 11 10] [0] (sR [mO 12 0,nC 13 12,lO 14 328 13,mO 15 0,nC 16 15,lO 17 328 16,oO 18 (.binOp .shr 328 (xT 17) (.const (.int .u64 7)) 269),bB .xor 19 328 14 18 328,nC 20 12,sT 328 20 19] [0] (sR [mO 21 0,nC 22 21,lO 23 328 22,mO 24 0,nC 25 24,lO 26 328 25,oO 27 (.binOp .shl 328 (xT 26) (.const (.int .u64 17)) 269),bB .xor 28 328 23 27 328,nC 29 21,sT 328 29 28] [0] (sR [mO 30 0,nC 31 30,lO 32 328 31,aO 2 32] [2] (.ret)))))
theorem MF:Bm Tryz.prog 283 33 [(.tmp 2)] HI:=Aw Tryz.func283
def BK:CC:=.reg [mO 49 0,mO 50 11,mO 51 0,mO 52 1,mO 53 12,bB .add 54 3 52 53 3,mO 55 0,mO 56 1,mO 57 12,bB .add 58 3 56 57 3,iO 59 242 55 58,lO 60 245 59,mO 61 0,mO 62 11,iO 63 242 61 62,lO 64 245 63,iO 65 242 49 50,sT 245 65 60,iO 66 242 51 54,sT 245 66 64] [0,1,8,9,10,11]
def Az:CC:=sQ [mO 28 11,mO 29 1,mO 30 8,bQ .quo 31 3 30 4 3,bQ .mul 32 3 31 2 3,bB .add 33 3 29 32 3,bQ .add 34 3 33 1 3,bB .leq 35 3 28 34 3] [0,1,8,9,10,11,35] (cD 35 (.skip) (.exit 0)) [0,1,8,9,10,11] (.seq (.block 1 (sR [cA 38 283 9 328,mO 39 10,oO 40 (.binOp .sub 269 (xT 39) (.const (.int .u64 1)) 269),bB .and 41 269 38 40 269,oO 42 (.convert 269 3 (xT 41)),aO 12 42] [0,1,8,9,10,11,12] (sQ [mO 43 12,mO 44 8,bB .geq 45 3 43 44 3] [0,1,8,9,10,11,12,45] (cD 45 (.reg [mO 46 12,mO 47 8,bB .sub 48 3 46 47 3,aO 12 48] [0,1,8,9,10,11,12]) (.skip)) [0,1,8,9,10,11,12] BK))) (.keep [0,1,8,9,10,11] (.reg [mO 36 11,bQ .add 37 3 36 1 3,aO 11 37] [0,1,8,9,10,11]))) 
def CN:CC:=sR [mO 13 2,mO 14 1,bB .sub 15 3 13 14 3,aO 8 15] [0,1,8] (sR [mO 16 8,bQ .geq 17 3 16 8 3] [0,1,8,17] (cD 17 (sR [mO 18 8,oO 19 (.convert 3 328 (xT 18)),aL 9 328 [1],sT 328 9 19] [0,1,8,9] (sR [mO 20 8,cA 21 282 20 3,aO 10 21] [0,1,8,9,10] (sR [mO 22 1,mO 23 8,bQ .quo 24 3 23 4 3,bQ .mul 25 3 24 2 3,bB .add 26 3 22 25 3,bQ .sub 27 3 26 1 3,aO 11 27] [0,1,8,9,10,11] (.block 0 (.loop Az))))) (.skip)))
theorem Fw:Bm Tryz.prog 273 67 [] CN:=Aw Tryz.func273
def DJ:CC:=sR [aI 10 0,aI 11 0] [0,1,2,3,4] (sQ [mO 12 4,mO 13 0,mO 14 2,iO 15 242 13 14,lO 16 245 15,mO 17 0,mO 18 1,iO 19 242 17 18,lO 20 245 19,oO 21 (.call { callee:=(.value (xT 12)),args:=#[(xT 16),(xT 20)],argTypes:=#[245,245] }),bQ .lss 22 3 21 0 3] [1,2,3,22] (cD 22 (sR [mO 23 3,nC 24 23,lO 25 3 24,bQ .add 26 3 25 1 3,nC 27 23,sT 3 27 26] [1,2] (sR [mO 28 2,mO 29 1,aO 10 28,aO 11 29] [10,11] (.ret))) (.skip)) [1,2] (sR [mO 30 1,mO 31 2,aO 10 30,aO 11 31] [10,11] (.ret)))
theorem HB:Bm Tryz.prog 286 32 [(.tmp 10),(.tmp 11)] DJ:=Aw Tryz.func286
def DK:CC:=sR [aI 12 0] [0,1,2,3,4,5] (sR [mO 14 0,mO 15 1,mO 16 2,mO 17 4,mO 18 5,oO 19 (cL 286 #[(xT 14),(xT 15),(xT 16),(xT 17),(xT 18)] #[242,3,3,332,287]),mO 13 19,xO 20 13 0,xO 21 13 1,aO 1 20,aO 2 21] [0,1,2,3,4,5] (sR [mO 23 0,mO 24 2,mO 25 3,mO 26 4,mO 27 5,oO 28 (cL 286 #[(xT 23),(xT 24),(xT 25),(xT 26),(xT 27)] #[242,3,3,332,287]),mO 22 28,xO 29 22 0,xO 30 22 1,aO 2 29,aO 3 30] [0,1,2,4,5] (sR [mO 32 0,mO 33 1,mO 34 2,mO 35 4,mO 36 5,oO 37 (cL 286 #[(xT 32),(xT 33),(xT 34),(xT 35),(xT 36)] #[242,3,3,332,287]),mO 31 37,xO 38 31 0,xO 39 31 1,aO 1 38,aO 2 39] [2] (sR [mO 40 2,aO 12 40] [12] (.ret)))))
theorem Hk:Bm Tryz.prog 285 41 [(.tmp 12)] DK:=Aw Tryz.func285
def CX:CC:=sR [lO 55 3 11] [13,55] (.block 0 (sR [bQ .eql 58 3 55 0 3,aO 57 58] [13,55,57] (cD 57 (sR [mO 59 13,aO 8 59,aI 9 1] [8,9] (.ret)) (sR [bQ .eql 61 3 55 12 3,aO 60 61] [13,60] (cD 60 (sR [mO 62 13,aO 8 62,aI 9 2] [8,9] (.ret)) (sR [mO 56 13,aO 8 56,aI 9 0] [8,9] (.ret))))))) 
def C6:CC:=sR [aI 8 0,aI 9 0] [0,1,2,3] (sR [mO 15 2,mO 16 1,bB .sub 17 3 15 16 3,aO 10 17] [0,1,3,10] (sR [aL 11 3 [1]] [0,1,3,10,11] (sR [mO 18 1,mO 19 10,bQ .quo 20 3 19 4 3,bQ .mul 21 3 20 1 3,bB .add 22 3 18 21 3,aO 12 22] [0,1,3,10,11,12] (sR [mO 23 1,mO 24 10,bQ .quo 25 3 24 4 3,bQ .mul 26 3 25 2 3,bB .add 27 3 23 26 3,aO 13 27] [0,1,3,10,11,12,13] (sR [mO 28 1,mO 29 10,bQ .quo 30 3 29 4 3,bQ .mul 31 3 30 3 3,bB .add 32 3 28 31 3,aO 14 32] [0,3,10,11,12,13,14] (sQ [mO 33 10,bQ .geq 34 3 33 8 3] [0,3,10,11,12,13,14,34] (cD 34 (sQ [mO 35 10,bQ .geq 36 3 35 50 3] [0,3,11,12,13,14,36] (cD 36 (sR [mO 37 0,mO 38 12,mO 39 3,oO 40 (cL 284 #[(xT 37),(xT 38),(xT 11),(xT 39)] #[242,3,332,287]),aO 12 40] [0,3,11,12,13,14] (sR [mO 41 0,mO 42 13,mO 43 3,oO 44 (cL 284 #[(xT 41),(xT 42),(xT 11),(xT 43)] #[242,3,332,287]),aO 13 44] [0,3,11,12,13,14] (.reg [mO 45 0,mO 46 14,mO 47 3,oO 48 (cL 284 #[(xT 45),(xT 46),(xT 11),(xT 47)] #[242,3,332,287]),aO 14 48] [0,3,11,12,13,14]))) (.skip)) [0,3,11,12,13,14] (.reg [mO 49 0,mO 50 12,mO 51 13,mO 52 14,mO 53 3,oO 54 (cL 285 #[(xT 49),(xT 50),(xT 51),(xT 52),(xT 11),(xT 53)] #[242,3,3,3,332,287]),aO 13 54] [11,13])) (.skip)) [11,13] CX))))))
theorem F6:Bm Tryz.prog 274 63 [(.tmp 8),(.tmp 9)] C6:=Aw Tryz.func274
def AY:CC:=sQ [mO 13 8,mO 14 9,bB .lss 15 3 13 14 3] [0,8,9,15] (cD 15 (.skip) (.exit 0)) [0,8,9] (.block 1 (sR [mO 16 0,mO 17 8,mO 18 0,mO 19 9,mO 20 0,mO 21 9,iO 22 242 20 21,lO 23 245 22,mO 24 0,mO 25 8,iO 26 242 24 25,lO 27 245 26,iO 28 242 16 17,sT 245 28 23,iO 29 242 18 19,sT 245 29 27] [0,8,9] (sR [mO 30 8,bQ .add 31 3 30 1 3,aO 8 31] [0,8,9] (.reg [mO 32 9,bQ .sub 33 3 32 1 3,aO 9 33] [0,8,9])))) 
def CR:CC:=sR [mO 10 1,aO 8 10] [0,2,8] (sR [mO 11 2,bQ .sub 12 3 11 1 3,aO 9 12] [0,8,9] (.block 0 (.loop AY)))
theorem FD:Bm Tryz.prog 275 34 [] CR:=Aw Tryz.func275
def AG:CC:=sQ [mO 19 9,mO 20 2,bB .lss 21 3 19 20 3,mO 22 21,mG 23 3 22 true,mG 24 0 22 true,mG 25 9 22 true,oG 26 (iA 242 24 25) 22 true,lG 27 245 26 22 true,mG 28 0 22 true,mG 29 9 22 true,oG 30 (.binOp .sub 3 (xT 29) (nI 1) 3) 22 true,oG 31 (iA 242 28 30) 22 true,lG 32 245 31 22 true,oG 33 (.call { callee:=(.value (xT 23)),args:=#[(xT 27),(xT 32)],argTypes:=#[245,245] }) 22 true,oG 34 (.binOp .lss 3 (xT 33) (nI 0) 3) 22 true,oG 35 (.unOp .not 4 (xT 34)) 22 true,pF 36 22 35] [0,1,2,3,9,10,36] (cD 36 (.skip) (.exit 2)) [0,1,2,3,9,10] (.block 3 (.reg [mO 37 9,bQ .add 38 3 37 1 3,aO 9 38] [0,1,2,3,9,10]))
def DR:CC:=sQ [mO 68 11,bQ .geq 69 3 68 1 3] [0,1,2,3,9,10,11,69] (cD 69 (.skip) (.exit 4)) [0,1,2,3,9,10,11] (.seq (.block 5 (sQ [mO 72 3,mO 73 0,mO 74 11,iO 75 242 73 74,lO 76 245 75,mO 77 0,mO 78 11,bQ .sub 79 3 78 1 3,iO 80 242 77 79,lO 81 245 80,oO 82 (.call { callee:=(.value (xT 72)),args:=#[(xT 76),(xT 81)],argTypes:=#[245,245] }),bQ .lss 83 3 82 0 3,oO 84 (.unOp .not 4 (xT 83))] [0,1,2,3,9,10,11,84] (cD 84 (.exit 4) (.skip)) [0,1,2,3,9,10,11] (.reg [mO 85 0,mO 86 11,mO 87 0,mO 88 11,bQ .sub 89 3 88 1 3,mO 90 0,mO 91 11,bQ .sub 92 3 91 1 3,iO 93 242 90 92,lO 94 245 93,mO 95 0,mO 96 11,iO 97 242 95 96,lO 98 245 97,iO 99 242 85 86,sT 245 99 94,iO 100 242 87 89,sT 245 100 98] [0,1,2,3,9,10,11]))) (.keep [0,1,2,3,9,10,11] (.reg [mO 70 11,bQ .sub 71 3 70 1 3,aO 11 71] [0,1,2,3,9,10,11])))
def DS:CC:=sQ [mO 107 12,mO 108 2,bB .lss 109 3 107 108 3] [0,1,2,3,9,10,12,109] (cD 109 (.skip) (.exit 6)) [0,1,2,3,9,10,12] (.seq (.block 7 (sQ [mO 112 3,mO 113 0,mO 114 12,iO 115 242 113 114,lO 116 245 115,mO 117 0,mO 118 12,bQ .sub 119 3 118 1 3,iO 120 242 117 119,lO 121 245 120,oO 122 (.call { callee:=(.value (xT 112)),args:=#[(xT 116),(xT 121)],argTypes:=#[245,245] }),bQ .lss 123 3 122 0 3,oO 124 (.unOp .not 4 (xT 123))] [0,1,2,3,9,10,12,124] (cD 124 (.exit 6) (.skip)) [0,1,2,3,9,10,12] (.reg [mO 125 0,mO 126 12,mO 127 0,mO 128 12,bQ .sub 129 3 128 1 3,mO 130 0,mO 131 12,bQ .sub 132 3 131 1 3,iO 133 242 130 132,lO 134 245 133,mO 135 0,mO 136 12,iO 137 242 135 136,lO 138 245 137,iO 139 242 125 126,sT 245 139 134,iO 140 242 127 129,sT 245 140 138] [0,1,2,3,9,10,12]))) (.keep [0,1,2,3,9,10,12] (.reg [mO 110 12,bQ .add 111 3 110 1 3,aO 12 111] [0,1,2,3,9,10,12])))
def DW:CC:=sR [mO 101 2,mO 102 9,bB .sub 103 3 101 102 3,bQ .geq 104 3 103 2 3] [0,1,2,3,9,10,104] (cD 104 (sR [mO 105 9,bQ .add 106 3 105 1 3,aO 12 106] [0,1,2,3,9,10,12] (.block 6 (.loop DS))) (.skip))
def B7:CC:=sQ [mO 15 10,bQ .lss 16 3 15 5 3] [0,1,2,3,9,10,16] (cD 16 (.skip) (.exit 0)) [0,1,2,3,9,10] (.seq (.block 1 (.seq (.block 2 (.loop AG)) (.keep [0,1,2,3,9,10] (sQ [mO 39 9,mO 40 2,bB .eql 41 3 39 40 3] [0,1,2,3,9,10,41] (cD 41 (sR [aB 8 true] [8] (.ret)) (.skip)) [0,1,2,3,9,10] (sQ [mO 42 2,mO 43 1,bB .sub 44 3 42 43 3,bQ .lss 45 3 44 50 3] [0,1,2,3,9,10,45] (cD 45 (sR [aB 8 false] [8] (.ret)) (.skip)) [0,1,2,3,9,10] (sR [mO 46 0,mO 47 9,mO 48 0,mO 49 9,bQ .sub 50 3 49 1 3,mO 51 0,mO 52 9,bQ .sub 53 3 52 1 3,iO 54 242 51 53,lO 55 245 54,mO 56 0,mO 57 9,iO 58 242 56 57,lO 59 245 58,iO 60 242 46 47,sT 245 60 55,iO 61 242 48 50,sT 245 61 59] [0,1,2,3,9,10] (sQ [mO 62 9,mO 63 1,bB .sub 64 3 62 63 3,bQ .geq 65 3 64 2 3] [0,1,2,3,9,10,65] (cD 65 (sR [mO 66 9,bQ .sub 67 3 66 1 3,aO 11 67] [0,1,2,3,9,10,11] (.block 4 (.loop DR))) (.skip)) [0,1,2,3,9,10] DW))))))) (.keep [0,1,2,3,9,10] (.reg [mO 17 10,bQ .add 18 3 17 1 3,aO 10 18] [0,1,2,3,9,10]))) 
def Ca:CC:=sR [aB 8 false] [0,1,2,3] (sR [mO 13 1,bQ .add 14 3 13 1 3,aO 9 14] [0,1,2,3,9] (sQ [aI 10 0] [0,1,2,3,9,10] (.block 0 (.loop B7)) [] (sR [aB 8 false] [8] (.ret))))
theorem D0:Bm Tryz.prog 276 141 [(.tmp 8)] Ca:=Aw Tryz.func276
def AQ:CC:=sQ [mO 31 11,mO 32 12,bB .leq 33 3 31 32 3,mO 34 33,mG 35 4 34 true,mG 36 0 34 true,mG 37 1 34 true,oG 38 (iA 242 36 37) 34 true,lG 39 245 38 34 true,mG 40 0 34 true,mG 41 11 34 true,oG 42 (iA 242 40 41) 34 true,lG 43 245 42 34 true,oG 44 (.call { callee:=(.value (xT 35)),args:=#[(xT 39),(xT 43)],argTypes:=#[245,245] }) 34 true,oG 45 (.binOp .lss 3 (xT 44) (nI 0) 3) 34 true,oG 46 (.unOp .not 4 (xT 45)) 34 true,pF 47 34 46] [0,1,4,11,12,47] (cD 47 (.skip) (.exit 2)) [0,1,4,11,12] (.block 3 (.reg [mO 48 11,bQ .add 49 3 48 1 3,aO 11 49] [0,1,4,11,12]))
def AR:CC:=sQ [mO 50 11,mO 51 12,bB .leq 52 3 50 51 3,mO 53 52,mG 54 4 53 true,mG 55 0 53 true,mG 56 1 53 true,oG 57 (iA 242 55 56) 53 true,lG 58 245 57 53 true,mG 59 0 53 true,mG 60 12 53 true,oG 61 (iA 242 59 60) 53 true,lG 62 245 61 53 true,oG 63 (.call { callee:=(.value (xT 54)),args:=#[(xT 58),(xT 62)],argTypes:=#[245,245] }) 53 true,oG 64 (.binOp .lss 3 (xT 63) (nI 0) 3) 53 true,pF 65 53 64] [0,1,4,11,12,65] (cD 65 (.skip) (.exit 4)) [0,1,4,11,12] (.block 5 (.reg [mO 66 12,bQ .sub 67 3 66 1 3,aO 12 67] [0,1,4,11,12]))
def BG:CC:=.block 1 (.seq (.block 2 (.loop AQ)) (.keep [0,1,4,11,12] (.seq (.block 4 (.loop AR)) (.keep [0,1,4,11,12] (sQ [mO 68 11,mO 69 12,bB .gtr 70 3 68 69 3] [0,1,4,11,12,70] (cD 70 (.exit 0) (.skip)) [0,1,4,11,12] (sR [mO 71 0,mO 72 11,mO 73 0,mO 74 12,mO 75 0,mO 76 12,iO 77 242 75 76,lO 78 245 77,mO 79 0,mO 80 11,iO 81 242 79 80,lO 82 245 81,iO 83 242 71 72,sT 245 83 78,iO 84 242 73 74,sT 245 84 82] [0,1,4,11,12] (sR [mO 85 11,bQ .add 86 3 85 1 3,aO 11 86] [0,1,4,11,12] (.reg [mO 87 12,bQ .sub 88 3 87 1 3,aO 12 88] [0,1,4,11,12])))))))) 
def CE:CC:=sR [aI 10 0] [0,1,2,3,4] (sR [mO 13 0,mO 14 1,mO 15 0,mO 16 3,mO 17 0,mO 18 3,iO 19 242 17 18,lO 20 245 19,mO 21 0,mO 22 1,iO 23 242 21 22,lO 24 245 23,iO 25 242 13 14,sT 245 25 20,iO 26 242 15 16,sT 245 26 24] [0,1,2,4] (sR [mO 27 1,bQ .add 28 3 27 1 3,mO 29 2,bQ .sub 30 3 29 1 3,aO 11 28,aO 12 30] [0,1,4,11,12] (.seq (.block 0 (.loop BG)) (.keep [11] (sR [mO 89 11,aO 10 89] [10] (.ret))))))
theorem E5:Bm Tryz.prog 277 90 [(.tmp 10)] CE:=Aw Tryz.func277
def A8:CC:=sQ [mO 32 12,mO 33 13,bB .leq 34 3 32 33 3,mO 35 34,mG 36 4 35 true,mG 37 0 35 true,mG 38 12 35 true,oG 39 (iA 242 37 38) 35 true,lG 40 245 39 35 true,mG 41 0 35 true,mG 42 1 35 true,oG 43 (iA 242 41 42) 35 true,lG 44 245 43 35 true,oG 45 (.call { callee:=(.value (xT 36)),args:=#[(xT 40),(xT 44)],argTypes:=#[245,245] }) 35 true,oG 46 (.binOp .lss 3 (xT 45) (nI 0) 3) 35 true,pF 47 35 46] [0,1,4,12,13,47] (cD 47 (.skip) (.exit 0)) [0,1,4,12,13] (.block 1 (.reg [mO 48 12,bQ .add 49 3 48 1 3,aO 12 49] [0,1,4,12,13]))
def Ba:CC:=sQ [mO 50 12,mO 51 13,bB .leq 52 3 50 51 3,mO 53 52,mG 54 4 53 true,mG 55 0 53 true,mG 56 13 53 true,oG 57 (iA 242 55 56) 53 true,lG 58 245 57 53 true,mG 59 0 53 true,mG 60 1 53 true,oG 61 (iA 242 59 60) 53 true,lG 62 245 61 53 true,oG 63 (.call { callee:=(.value (xT 54)),args:=#[(xT 58),(xT 62)],argTypes:=#[245,245] }) 53 true,oG 64 (.binOp .lss 3 (xT 63) (nI 0) 3) 53 true,oG 65 (.unOp .not 4 (xT 64)) 53 true,pF 66 53 65] [0,1,4,12,13,66] (cD 66 (.skip) (.exit 2)) [0,1,4,12,13] (.block 3 (.reg [mO 67 13,bQ .sub 68 3 67 1 3,aO 13 68] [0,1,4,12,13]))
def A6:CC:=sQ [mO 105 12,mO 106 13,bB .leq 107 3 105 106 3,mO 108 107,mG 109 4 108 true,mG 110 0 108 true,mG 111 12 108 true,oG 112 (iA 242 110 111) 108 true,lG 113 245 112 108 true,mG 114 0 108 true,mG 115 1 108 true,oG 116 (iA 242 114 115) 108 true,lG 117 245 116 108 true,oG 118 (.call { callee:=(.value (xT 109)),args:=#[(xT 113),(xT 117)],argTypes:=#[245,245] }) 108 true,oG 119 (.binOp .lss 3 (xT 118) (nI 0) 3) 108 true,pF 120 108 119] [0,1,4,12,13,120] (cD 120 (.skip) (.exit 6)) [0,1,4,12,13] (.block 7 (.reg [mO 121 12,bQ .add 122 3 121 1 3,aO 12 122] [0,1,4,12,13]))
def A9:CC:=sQ [mO 123 12,mO 124 13,bB .leq 125 3 123 124 3,mO 126 125,mG 127 4 126 true,mG 128 0 126 true,mG 129 13 126 true,oG 130 (iA 242 128 129) 126 true,lG 131 245 130 126 true,mG 132 0 126 true,mG 133 1 126 true,oG 134 (iA 242 132 133) 126 true,lG 135 245 134 126 true,oG 136 (.call { callee:=(.value (xT 127)),args:=#[(xT 131),(xT 135)],argTypes:=#[245,245] }) 126 true,oG 137 (.binOp .lss 3 (xT 136) (nI 0) 3) 126 true,oG 138 (.unOp .not 4 (xT 137)) 126 true,pF 139 126 138] [0,1,4,12,13,139] (cD 139 (.skip) (.exit 8)) [0,1,4,12,13] (.block 9 (.reg [mO 140 13,bQ .sub 141 3 140 1 3,aO 13 141] [0,1,4,12,13]))
def B3:CC:=.block 5 (.seq (.block 6 (.loop A6)) (.keep [0,1,4,12,13] (.seq (.block 8 (.loop A9)) (.keep [0,1,4,12,13] (sQ [mO 142 12,mO 143 13,bB .gtr 144 3 142 143 3] [0,1,4,12,13,144] (cD 144 (.exit 4) (.skip)) [0,1,4,12,13] (sR [mO 145 0,mO 146 12,mO 147 0,mO 148 13,mO 149 0,mO 150 13,iO 151 242 149 150,lO 152 245 151,mO 153 0,mO 154 12,iO 155 242 153 154,lO 156 245 155,iO 157 242 145 146,sT 245 157 152,iO 158 242 147 148,sT 245 158 156] [0,1,4,12,13] (sR [mO 159 12,bQ .add 160 3 159 1 3,aO 12 160] [0,1,4,12,13] (.reg [mO 161 13,bQ .sub 162 3 161 1 3,aO 13 162] [0,1,4,12,13])))))))) 
def Dn:CC:=sR [aI 10 0,aB 11 false] [0,1,2,3,4] (sR [mO 14 0,mO 15 1,mO 16 0,mO 17 3,mO 18 0,mO 19 3,iO 20 242 18 19,lO 21 245 20,mO 22 0,mO 23 1,iO 24 242 22 23,lO 25 245 24,iO 26 242 14 15,sT 245 26 21,iO 27 242 16 17,sT 245 27 25] [0,1,2,4] (sR [mO 28 1,bQ .add 29 3 28 1 3,mO 30 2,bQ .sub 31 3 30 1 3,aO 12 29,aO 13 31] [0,1,4,12,13] (.seq (.block 0 (.loop A8)) (.keep [0,1,4,12,13] (.seq (.block 2 (.loop Ba)) (.keep [0,1,4,12,13] (sQ [mO 69 12,mO 70 13,bB .gtr 71 3 69 70 3] [0,1,4,12,13,71] (cD 71 (sR [mO 72 0,mO 73 13,mO 74 0,mO 75 1,mO 76 0,mO 77 1,iO 78 242 76 77,lO 79 245 78,mO 80 0,mO 81 13,iO 82 242 80 81,lO 83 245 82,iO 84 242 72 73,sT 245 84 79,iO 85 242 74 75,sT 245 85 83] [13] (sR [mO 86 13,aO 10 86,aB 11 true] [10,11] (.ret))) (.skip)) [0,1,4,12,13] (sR [mO 87 0,mO 88 12,mO 89 0,mO 90 13,mO 91 0,mO 92 13,iO 93 242 91 92,lO 94 245 93,mO 95 0,mO 96 12,iO 97 242 95 96,lO 98 245 97,iO 99 242 87 88,sT 245 99 94,iO 100 242 89 90,sT 245 100 98] [0,1,4,12,13] (sR [mO 101 12,bQ .add 102 3 101 1 3,aO 12 102] [0,1,4,12,13] (sR [mO 103 13,bQ .sub 104 3 103 1 3,aO 13 104] [0,1,4,12,13] (.seq (.block 4 (.loop B3)) (.keep [0,1,13] (sR [mO 163 0,mO 164 13,mO 165 0,mO 166 1,mO 167 0,mO 168 1,iO 169 242 167 168,lO 170 245 169,mO 171 0,mO 172 13,iO 173 242 171 172,lO 174 245 173,iO 175 242 163 164,sT 245 175 170,iO 176 242 165 166,sT 245 176 174] [13] (sR [mO 177 13,aO 10 177,aB 11 false] [10,11] (.ret)))))))))))))))
theorem Gx:Bm Tryz.prog 278 178 [(.tmp 10),(.tmp 11)] Dn:=Aw Tryz.func278
def BB:CC:=sQ [mO 81 1,bQ .gtr 82 3 81 0 3,mO 83 82,mG 84 4 83 true,mG 85 0 83 true,mG 86 1 83 true,oG 87 (.binOp .sub 3 (xT 86) (nI 1) 3) 83 true,oG 88 (iA 242 85 87) 83 true,lG 89 245 88 83 true,mG 90 0 83 true,mG 91 13 83 true,oG 92 (iA 242 90 91) 83 true,lG 93 245 92 83 true,oG 94 (.call { callee:=(.value (xT 84)),args:=#[(xT 89),(xT 93)],argTypes:=#[245,245] }) 83 true,oG 95 (.binOp .lss 3 (xT 94) (nI 0) 3) 83 true,oG 96 (.unOp .not 4 (xT 95)) 83 true,pF 97 83 96] [0,1,2,3,4,10,11,12,13,97] (cD 97 (sR [mO 98 0,mO 99 1,mO 100 2,mO 101 13,mO 102 4,oO 103 (cL 277 #[(xT 98),(xT 99),(xT 100),(xT 101),(xT 102)] #[242,3,3,3,287]),aO 15 103] [0,2,3,4,10,11,15] (sR [mO 104 15,aO 1 104] [0,1,2,3,4,10,11] (.exit 1))) (.skip)) [0,1,2,3,4,12,13] (sR [mO 106 0,mO 107 1,mO 108 2,mO 109 13,mO 110 4,oO 111 (cL 278 #[(xT 106),(xT 107),(xT 108),(xT 109),(xT 110)] #[242,3,3,3,287]),mO 105 111,xO 112 105 0,xO 113 105 1,aO 16 112,aO 17 113] [0,1,2,3,4,12,16,17] (sR [mO 114 17,aO 11 114] [0,1,2,3,4,11,12,16] (sR [mO 115 16,mO 116 1,bB .sub 117 3 115 116 3,mO 118 2,mO 119 16,bB .sub 120 3 118 119 3,aO 18 117,aO 19 120] [0,1,2,3,4,11,12,16,18,19] (sR [mO 121 12,bQ .quo 122 3 121 8 3,aO 20 122] [0,1,2,3,4,11,16,18,19,20] (sR [mO 123 18,mO 124 19,bB .lss 125 3 123 124 3] [0,1,2,3,4,11,16,18,19,20,125] (cD 125 (sR [mO 126 18,mO 127 20,bB .geq 128 3 126 127 3,aO 10 128] [0,1,2,3,4,10,11,16] (sR [mO 129 0,mO 130 1,mO 131 16,mO 132 3,mO 133 4,oO 134 (cL 264 #[(xT 129),(xT 130),(xT 131),(xT 132),(xT 133)] #[242,3,3,3,287])] [0,2,3,4,10,11,16] (.reg [mO 135 16,bQ .add 136 3 135 1 3,aO 1 136] [0,1,2,3,4,10,11]))) (sR [mO 137 19,mO 138 20,bB .geq 139 3 137 138 3,aO 10 139] [0,1,2,3,4,10,11,16] (sR [mO 140 0,mO 141 16,bQ .add 142 3 141 1 3,mO 143 2,mO 144 3,mO 145 4,oO 146 (cL 264 #[(xT 140),(xT 142),(xT 143),(xT 144),(xT 145)] #[242,3,3,3,287])] [0,1,3,4,10,11,16] (.reg [mO 147 16,aO 2 147] [0,1,2,3,4,10,11])))))))))
def Ci:CC:=sQ [mO 68 10,mO 69 68,mG 70 11 69 true,pF 71 69 70,mO 72 71,mG 73 14 72 true,oG 74 (.binOp .eql 319 (xT 73) (nI 1) 319) 72 true,pF 75 72 74] [0,1,2,3,4,10,11,12,13,75] (cD 75 (sR [mO 76 0,mO 77 1,mO 78 2,mO 79 4,oO 80 (cL 276 #[(xT 76),(xT 77),(xT 78),(xT 79)] #[242,3,3,287])] [0,1,2,3,4,10,11,12,13,80] (cD 80 (.ret) (.skip))) (.skip)) [0,1,2,3,4,10,11,12,13] BB
def Ce:CC:=sR [mO 48 0,mO 49 1,mO 50 2,mO 51 4,oO 52 (cL 274 #[(xT 48),(xT 49),(xT 50),(xT 51)] #[242,3,3,287]),mO 47 52,xO 53 47 0,xO 54 47 1,aO 13 53,aO 14 54] [0,1,2,3,4,10,11,12,13,14] (sQ [mO 55 14,bQ .eql 56 319 55 2 319] [0,1,2,3,4,10,11,12,13,14,56] (cD 56 (sR [mO 57 0,mO 58 1,mO 59 2,mO 60 4,oO 61 (cL 275 #[(xT 57),(xT 58),(xT 59),(xT 60)] #[242,3,3,287])] [0,1,2,3,4,10,11,12,13] (sR [mO 62 2,bQ .sub 63 3 62 1 3,mO 64 13,mO 65 1,bB .sub 66 3 64 65 3,bB .sub 67 3 63 66 3,aO 13 67] [0,1,2,3,4,10,11,12,13] (.reg [aI 14 1] [0,1,2,3,4,10,11,12,13,14]))) (.skip)) [0,1,2,3,4,10,11,12,13,14] Ci)
def AK:CC:=.block 1 (sR [mO 21 2,mO 22 1,bB .sub 23 3 21 22 3,aO 12 23] [0,1,2,3,4,10,11,12] (sQ [mO 24 12,bQ .leq 25 3 24 12 3] [0,1,2,3,4,10,11,12,25] (cD 25 (sR [mO 26 0,mO 27 1,mO 28 2,mO 29 4,oO 30 (cL 271 #[(xT 26),(xT 27),(xT 28),(xT 29)] #[242,3,3,287])] [] (.ret)) (.skip)) [0,1,2,3,4,10,11,12] (sQ [mO 31 3,bQ .eql 32 3 31 0 3] [0,1,2,3,4,10,11,12,32] (cD 32 (sR [mO 33 0,mO 34 1,mO 35 2,mO 36 4,oO 37 (cL 272 #[(xT 33),(xT 34),(xT 35),(xT 36)] #[242,3,3,287])] [] (.ret)) (.skip)) [0,1,2,3,4,10,11,12] (sQ [mO 38 10,oO 39 (.unOp .not 4 (xT 38))] [0,1,2,3,4,10,11,12,39] (cD 39 (sR [mO 40 0,mO 41 1,mO 42 2,mO 43 4,oO 44 (cL 273 #[(xT 40),(xT 41),(xT 42),(xT 43)] #[242,3,3,287])] [0,1,2,3,4,10,11,12] (.reg [mO 45 3,bQ .sub 46 3 45 1 3,aO 3 46] [0,1,2,3,4,10,11,12])) (.skip)) [0,1,2,3,4,10,11,12] Ce)))) 
def DD:CC:=sR [aB 10 true] [0,1,2,3,4,10] (sR [aB 11 true] [0,1,2,3,4,10,11] (.block 0 (.loop AK)))
theorem Hd:Bm Tryz.prog 264 148 [] DD:=Aw Tryz.func264
def C3:CC:=sR [mO 5 0,bN 6 5 242,aO 4 6] [0,1,4] (.reg [mO 7 0,mO 8 4,mO 9 4,oO 10 (.convert 3 269 (xT 9)),cA 11 265 10 269,mO 12 1,oO 13 (cL 264 #[(xT 7),(nI 0),(xT 8),(xT 11),(xT 12)] #[242,3,3,3,287])] [])
theorem F5:Bm Tryz.prog 241 14 [] C3:=Aw Tryz.func241
end Go.Proofs.YtbjmaoedheiigaaGreat
