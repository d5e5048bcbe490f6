/-
 Texts,merged,without what is not reached.
-/
import Derived.Test.YtbjmaoedheiigaaGreatKBd
set_option linter.unusedSimpArgs false
set_option linter.unusedVariables false
open Go.IntKind (i64 u64)
namespace Go.Proofs.YtbjmaoedheiigaaGreat
set_option maxRecDepth 20000
open Go Go.G Go.Proofs
@[simp] theorem Ae7:BU Tryz.prog 33=some (Value.agg #[Value.int i64 0,Value.int i64 0,Value.slice none 0 0,Value.slice none 0 0,Value.int i64 0,Value.slice none 0 0,Value.slice none 0 0,Value.slice none 0 0,Value.slice none 0 0,Value.int i64 0,Value.slice none 0 0]):=by kernel_rfl
@[simp] theorem qI:An Tryz.prog 91 1=some 1:=by kernel_rfl
@[simp] theorem Abt (ps:List (Nat × A)):Cc Tryz.prog 80 ps=(CI (fun i=>([(0,1),(1,1),(2,1),(3,1)]:List (Nat × Nat))[i]?) [iv 0,A.v (Value.int IntKind.u8 0),A.v (Value.int u64 0),A.v (Value.int u64 0)] ps).map A.agg:=by kernel_rfl
@[simp] theorem AcA (ps:List (Nat × A)):Cc Tryz.prog 89 ps=(CI (fun i=>([(0,1),(1,11)]:List (Nat × Nat))[i]?) [iv 0,iv 0,iv 0,A.sl true [],A.sl true [],iv 0,A.sl true [],A.sl true [],A.sl true [],A.sl true [],iv 0,A.sl true []] ps).map A.agg:=by kernel_rfl
@[simp] theorem Abc (ps:List (Nat × A)):Cc Tryz.prog 91 ps=(CI (fun i=>([(0,1),(1,1),(2,1),(3,11)]:List (Nat × Nat))[i]?) [iv 0,iv 0,A.sl true [],iv 0,iv 0,A.sl true [],A.sl true [],iv 0,A.sl true [],A.sl true [],A.sl true [],A.sl true [],iv 0,A.sl true []] ps).map A.agg:=by kernel_rfl
@[simp] theorem AhS (x0 y0:Int) (x1 y1:Int) (x2 y2:Int) (x3 y3:Int):VJ Tryz.prog 100 80 (.agg [A.v (.int .i64 x0),A.v (.int .u8 x1),A.v (.int .u64 x2),A.v (.int .u64 x3)]) (.agg [A.v (.int .i64 y0),A.v (.int .u8 y1),A.v (.int .u64 y2),A.v (.int .u64 y3)])=some (((x0 == y0)&&((x1 == y1)&&((x2 == y2)&&((x3 == y3)&&(true)))))):=by kernel_rfl
def U7:CC:=sR [aB 2 false] [0] (sR [mO 3 0,bQ .geq 4 3 3 2 3,mO 5 4,mG 6 0 5 true,oG 7 (.binOp .leq 3 (xT 6) (nI 9) 3) 5 true,pF 8 5 7,aO 2 8] [2] (.ret))
theorem dF:Ba Tryz.prog 61 9 [(.tmp 2)] U7:=Ap Tryz.func61
def B8:CC:=sR [bB .lss 14 3 13 12 3] [0,1,12,13,14] (.seq (cD 14 (.skip) (.exit 0)) (.keep [0,1,12,13] (.seq (.block 1 (sR [mO 15 13,aO 5 15] [0,1,5,12,13] (sR [mO 16 0,mO 17 5,iO 18 22 16 17,lO 19 51 18,mO 20 1,mO 21 5,iO 22 22 20 21,lO 23 51 22,bB .neq 24 51 19 23 51] [0,1,12,13,24] (cD 24 (sR [aB 4 false] [4] (.ret)) (.skip))))) (.keep [0,1,12,13] (.reg [bQ .add 25 3 13 1 3,mO 13 25] [0,1,12,13]))))) 
def Fg:CC:=sR [aB 4 false] [0,1] (sQ [mO 6 0,bN 7 6 22,mO 8 1,bN 9 8 22,bB .neq 10 3 7 9 3] [0,1,10] (cD 10 (sR [aB 4 false] [4] (.ret)) (.skip)) [0,1] (sQ [mO 11 0,bN 12 11 22,oO 13 (.move (nI 0))] [0,1,12,13] (.block 0 (.loop B8)) [] (sR [aB 4 true] [4] (.ret))))
theorem Jr:Ba Tryz.prog 114 26 [(.tmp 4)] Fg:=Ap Tryz.func114
def IU:CC:=sR [bB .lss 50 3 49 48 3] [2,3,48,49,50] (.seq (cD 50 (.skip) (.exit 0)) (.keep [2,3,48,49] (.seq (.block 1 (sR [mO 51 49,aO 5 51] [2,3,5,48,49] (sR [lO 52 25 2,mO 53 5,⟨some 54,(cL 115 #[(xT 52),(xT 53)] #[25,3]),none,[],2,[],true⟩,⟨some 55,(lD 25 3),none,[],3,[2],false⟩,mO 56 5,cB 57 115 55 56 25 3,bB .neq 58 51 54 57 51] [2,3,48,49,58] (cD 58 (sR [aB 4 false] [4] (.ret)) (.skip))))) (.keep [2,3,48,49] (.reg [bQ .add 59 3 49 1 3,mO 49 59] [2,3,48,49])))))
def IK:CC:=sR [bB .lss 68 3 67 66 3] [2,3,66,67,68] (.seq (cD 68 (.skip) (.exit 2)) (.keep [2,3,66,67] (.seq (.block 3 (sR [mO 69 67,aO 6 69] [2,3,6,66,67] (sR [lO 70 25 2,mO 71 6,⟨some 72,(cL 116 #[(xT 70),(xT 71)] #[25,3]),none,[],2,[],true⟩,⟨some 73,(lD 25 3),none,[],3,[2],false⟩,mO 74 6,cB 75 116 73 74 25 3,cB 76 59 72 75 25 25,oO 77 (.unOp .not 4 (xT 76))] [2,3,66,67,77] (cD 77 (sR [aB 4 false] [4] (.ret)) (.skip))))) (.keep [2,3,66,67] (.reg [bQ .add 78 3 67 1 3,mO 67 78] [2,3,66,67])))))
def Ma:CC:=sQ [fO 42 25 2 1,lO 43 22 42,bN 44 43 22,fO 45 25 3 1,lO 46 22 45,bN 47 46 22,oO 48 (bC .max #[(xT 44),(xT 47)] #[3,3]),oO 49 (.move (nI 0))] [2,3,48,49] (.block 0 (.loop IU)) [2,3] (sQ [fO 60 25 2 2,lO 61 23 60,bN 62 61 23,fO 63 25 3 2,lO 64 23 63,bN 65 64 23,oO 66 (bC .max #[(xT 62),(xT 65)] #[3,3]),oO 67 (.move (nI 0))] [2,3,66,67] (.block 2 (.loop IK)) [] (sR [aB 4 true] [4] (.ret))) 
def Nf:CC:=sR [bX 2 25 0 [0],bX 3 25 1 [1],aB 4 false] [2,3] (sQ [fO 7 25 2 0,lO 8 3 7,fO 9 25 3 0,lO 10 3 9,bB .neq 11 3 8 10 3,mO 12 11,fG 13 25 2 0 12 false,lG 14 3 13 12 false,oG 15 (.binOp .eql 3 (xT 14) (nI 0) 3) 12 false,pT 16 12 15] [2,3,16] (cD 16 (sR [fO 17 25 2 0,lO 18 3 17,fO 19 25 3 0,lO 20 3 19,bB .eql 21 3 18 20 3,aO 4 21] [4] (.ret)) (.skip)) [2,3] (sQ [fO 22 25 2 0,lO 23 3 22,bQ .neq 24 3 23 1 3,mO 25 24,fG 26 25 2 2 25 true,lG 27 23 26 25 true,oG 28 (bL 27 23) 25 true,fG 29 25 3 2 25 true,lG 30 23 29 25 true,oG 31 (bL 30 23) 25 true,oG 32 (bO .neq 3 28 31 3) 25 true,mG 33 32 25 true,fG 34 25 2 1 33 false,lG 35 22 34 33 false,fG 36 25 3 1 33 false,lG 37 22 36 33 false,oG 38 (cL 114 #[(xT 35),(xT 37)] #[22,22]) 33 false,oG 39 (.unOp .not 4 (xT 38)) 33 false,oG 40 (.pick (xT 33) (nB true) (xT 39)) 25 true,pF 41 25 40] [2,3,41] (cD 41 (sR [aB 4 false] [4] (.ret)) (.skip)) [2,3] (.stop Ma)))
theorem RX:Ba Tryz.prog 59 79 [(.tmp 4)] Nf:=Ap Tryz.func59
def C6:CC:=sQ [mO 11 5,mO 12 0,bN 13 12 23,bB .lss 14 3 11 13 3] [0,1,5,14] (cD 14 (.skip) (.exit 0)) [0,1,5] (.seq (.block 1 (sR [mO 17 0,mO 18 5,iO 19 23 17 18,lO 20 25 19,mO 21 1,mO 22 5,iO 23 23 21 22,lO 24 25 23,cB 25 50 20 24 25 25,oO 26 (.unOp .not 4 (xT 25))] [0,1,5,26] (cD 26 (sR [aB 4 false] [4] (.ret)) (.skip)))) (.keep [0,1,5] (.reg [mO 15 5,bQ .add 16 3 15 1 3,aO 5 16] [0,1,5]))) 
def Hu:CC:=sR [aB 4 false] [0,1] (sQ [mO 6 0,bN 7 6 23,mO 8 1,bN 9 8 23,bB .neq 10 3 7 9 3] [0,1,10] (cD 10 (sR [aB 4 false] [4] (.ret)) (.skip)) [0,1] (sQ [aI 5 0] [0,1,5] (.block 0 (.loop C6)) [] (sR [aB 4 true] [4] (.ret))))
theorem Nr:Ba Tryz.prog 51 27 [(.tmp 4)] Hu:=Ap Tryz.func51
def EO:CC:=sQ [mO 65 5,fO 66 33 2 3,lO 67 29 66,bN 68 67 29,bB .lss 69 3 65 68 3] [2,3,5,69] (cD 69 (.skip) (.exit 0)) [2,3,5] (.seq (.block 1 (sR [fO 72 33 2 3,lO 73 29 72,mO 74 5,iO 75 29 73 74,lO 76 80 75,fO 77 33 3 3,lO 78 29 77,mO 79 5,iO 80 29 78 79,lO 81 80 80,bB .neq 82 80 76 81 80] [2,3,5,82] (cD 82 (sR [aB 4 false] [4] (.ret)) (.skip)))) (.keep [2,3,5] (.reg [mO 70 5,bQ .add 71 3 70 1 3,aO 5 71] [2,3,5])))
def EV:CC:=sQ [mO 83 6,fO 84 33 2 4,lO 85 30 84,bN 86 85 30,bB .lss 87 3 83 86 3] [2,3,6,87] (cD 87 (.skip) (.exit 2)) [2,3,6] (.seq (.block 3 (sR [fO 90 33 2 4,lO 91 30 90,mO 92 6,iO 93 30 91 92,fO 94 89 93 0,lO 95 3 94,fO 96 33 3 4,lO 97 30 96,mO 98 6,iO 99 30 97 98,fO 100 89 99 0,lO 101 3 100,bB .neq 102 3 95 101 3,mO 103 102,fG 104 33 2 4 103 false,lG 105 30 104 103 false,mG 106 6 103 false,oG 107 (iA 30 105 106) 103 false,fG 108 89 107 1 103 false,lG 109 33 108 103 false,fG 110 33 3 4 103 false,lG 111 30 110 103 false,mG 112 6 103 false,oG 113 (iA 30 111 112) 103 false,fG 114 89 113 1 103 false,lG 115 33 114 103 false,oG 116 (cL 24 #[(xT 109),(xT 115)] #[33,33]) 103 false,oG 117 (.unOp .not 4 (xT 116)) 103 false,pT 118 103 117] [2,3,6,118] (cD 118 (sR [aB 4 false] [4] (.ret)) (.skip)))) (.keep [2,3,6] (.reg [mO 88 6,bQ .add 89 3 88 1 3,aO 6 89] [2,3,6])))
def E6:CC:=sQ [mO 119 7,fO 120 33 2 6,lO 121 31 120,bN 122 121 31,bB .lss 123 3 119 122 3] [2,3,7,123] (cD 123 (.skip) (.exit 4)) [2,3,7] (.seq (.block 5 (sR [fO 126 33 2 6,lS 127 31 126 1,mO 128 7,iO 129 31 127 128,lS 130 91 129 4,fO 131 33 3 6,lS 132 31 131 6,mO 133 7,iO 134 31 132 133,lS 135 91 134 9,⟨some 8,(.alloc 91),none,[2],10,[1,4,6,9],true⟩,⟨some 9,(.alloc 91),none,[3],11,[1,4,6,9,10],false⟩,⟨none,(.store 91 (xT 8) (xT 130)),none,[],12,[6,9],false⟩,sT 91 9 135] [2,3,7,8,9] (sR [fO 136 91 8 0,lO 137 3 136,fO 138 91 9 0,lO 139 3 138,bB .neq 140 3 137 139 3,mO 141 140,fG 142 91 8 1 141 false,lG 143 3 142 141 false,fG 144 91 9 1 141 false,lG 145 3 144 141 false,oG 146 (bO .neq 3 143 145 3) 141 false,pT 147 141 146,mO 148 147,fG 149 91 8 2 148 false,lG 150 23 149 148 false,fG 151 91 9 2 148 false,lG 152 23 151 148 false,oG 153 (cL 51 #[(xT 150),(xT 152)] #[23,23]) 148 false,oG 154 (.unOp .not 4 (xT 153)) 148 false,pT 155 148 154,mO 156 155,fG 157 91 8 3 156 false,lG 158 33 157 156 false,fG 159 91 9 3 156 false,lG 160 33 159 156 false,oG 161 (cL 24 #[(xT 158),(xT 160)] #[33,33]) 156 false,oG 162 (.unOp .not 4 (xT 161)) 156 false,pT 163 156 162] [2,3,7,163] (cD 163 (sR [aB 4 false] [4] (.ret)) (.skip))))) (.keep [2,3,7] (.reg [mO 124 7,bQ .add 125 3 124 1 3,aO 7 125] [2,3,7]))) 
def K8:CC:=sR [bX 2 33 0 [0],bX 3 33 1 [1],aB 4 false] [2,3] (sQ [fO 10 33 2 0,lO 11 3 10,fO 12 33 3 0,lO 13 3 12,bB .neq 14 3 11 13 3,mO 15 14,fG 16 33 2 5 15 false,lG 17 3 16 15 false,fG 18 33 3 5 15 false,lG 19 3 18 15 false,oG 20 (bO .neq 3 17 19 3) 15 false,pT 21 15 20,mO 22 21,fG 23 33 2 1 22 false,lG 24 25 23 22 false,fG 25 33 3 1 22 false,lG 26 25 25 22 false,oG 27 (cL 50 #[(xT 24),(xT 26)] #[25,25]) 22 false,oG 28 (.unOp .not 4 (xT 27)) 22 false,pT 29 22 28,mO 30 29,fG 31 33 2 2 30 false,lG 32 25 31 30 false,fG 33 33 3 2 30 false,lG 34 25 33 30 false,oG 35 (cL 50 #[(xT 32),(xT 34)] #[25,25]) 30 false,oG 36 (.unOp .not 4 (xT 35)) 30 false,pT 37 30 36,mO 38 37,fG 39 33 2 3 38 false,lG 40 29 39 38 false,oG 41 (bL 40 29) 38 false,fG 42 33 3 3 38 false,lG 43 29 42 38 false,oG 44 (bL 43 29) 38 false,oG 45 (bO .neq 3 41 44 3) 38 false,pT 46 38 45,mO 47 46,fG 48 33 2 4 47 false,lG 49 30 48 47 false,oG 50 (bL 49 30) 47 false,fG 51 33 3 4 47 false,lG 52 30 51 47 false,oG 53 (bL 52 30) 47 false,oG 54 (bO .neq 3 50 53 3) 47 false,pT 55 47 54,mO 56 55,fG 57 33 2 6 56 false,lG 58 31 57 56 false,oG 59 (bL 58 31) 56 false,fG 60 33 3 6 56 false,lG 61 31 60 56 false,oG 62 (bL 61 31) 56 false,oG 63 (bO .neq 3 59 62 3) 56 false,pT 64 56 63] [2,3,64] (cD 64 (sR [aB 4 false] [4] (.ret)) (.skip)) [2,3] (sQ [aI 5 0] [2,3,5] (.block 0 (.loop EO)) [2,3] (sQ [aI 6 0] [2,3,6] (.block 2 (.loop EV)) [2,3] (sQ [aI 7 0] [2,3,7] (.block 4 (.loop E6)) [] (sR [aB 4 true] [4] (.ret))))))
theorem Si:Ba Tryz.prog 24 164 [(.tmp 4)] K8:=Ap Tryz.func24
@[simp] theorem AhI:DB Tryz.prog 245=some 2:=by kernel_rfl
@[simp] theorem AfT:DB Tryz.prog 260=some 2:=by kernel_rfl
@[simp] theorem AhK:DB Tryz.prog 279=some 1:=by kernel_rfl
@[simp] theorem AgX:DB Tryz.prog 282=some 3:=by kernel_rfl
@[simp] theorem AdA:DQ Tryz.prog 245=some true:=by kernel_rfl
@[simp] theorem Ad3:DQ Tryz.prog 260=some true:=by kernel_rfl
@[simp] theorem AeU:DQ Tryz.prog 279=some false:=by kernel_rfl
@[simp] theorem AdE:DQ Tryz.prog 282=some true:=by kernel_rfl
@[simp] theorem Aa9:BU Tryz.prog 164=some (Value.slice none 0 0):=by kernel_rfl
@[simp] theorem Aca:BU Tryz.prog 245=some (Value.agg #[Value.int i64 0,Value.int i64 0]):=by kernel_rfl
@[simp] theorem AcK:BU Tryz.prog 260=some (Value.agg #[Value.int i64 0,Value.int i64 0]):=by kernel_rfl
@[simp] theorem Aa5:BU Tryz.prog 282=some (Value.agg #[Value.int i64 0,Value.int i64 0,Value.int i64 0]):=by kernel_rfl
@[simp] theorem Aai:Co Tryz.prog 164=some 24:=by kernel_rfl
@[simp] theorem Aac:Co Tryz.prog 245=some 16:=by kernel_rfl
@[simp] theorem Aaw:Co Tryz.prog 260=some 16:=by kernel_rfl
@[simp] theorem zP:Co Tryz.prog 282=some 24:=by kernel_rfl
@[simp] theorem qd:An Tryz.prog 245 0=some 0:=by kernel_rfl
@[simp] theorem qf:An Tryz.prog 245 1=some 1:=by kernel_rfl
@[simp] theorem qF:An Tryz.prog 260 0=some 0:=by kernel_rfl
@[simp] theorem pS:An Tryz.prog 260 1=some 1:=by kernel_rfl
@[simp] theorem qC:An Tryz.prog 282 0=some 0:=by kernel_rfl
@[simp] theorem qo:An Tryz.prog 282 1=some 2:=by kernel_rfl
@[simp] theorem zQ (ps:List (Nat × A)):Cc Tryz.prog 245 ps=(CI (fun i=>([(0,1),(1,1)]:List (Nat × Nat))[i]?) [iv 0,iv 0] ps).map A.agg:=by kernel_rfl
@[simp] theorem zb (ps:List (Nat × A)):Cc Tryz.prog 260 ps=(CI (fun i=>([(0,1),(1,1)]:List (Nat × Nat))[i]?) [iv 0,iv 0] ps).map A.agg:=by kernel_rfl
@[simp] theorem zf (ps:List (Nat × A)):Cc Tryz.prog 282 ps=(CI (fun i=>([(0,2),(2,1)]:List (Nat × Nat))[i]?) [iv 0,iv 0,iv 0] ps).map A.agg:=by kernel_rfl
def N1:CC:=sR [aB 2 false] [0] (sR [mO 3 0,mO 4 0,bB .neq 5 3 3 4 3,aO 2 5] [2] (.ret))
theorem VF:Ba Tryz.prog 266 6 [(.tmp 2)] N1:=Ap Tryz.func266
def Ld:CC:=sR [aI 4 0] [0,1] (sR [mO 7 0,cA 8 266 7 3,aO 5 8] [0,1,5] (sR [mO 9 1,cA 10 266 9 3,aO 6 10] [0,1,5,6] (sQ [mO 11 5] [0,1,6,11] (cD 11 (sQ [mO 12 6] [12] (cD 12 (sR [aI 4 0] [4] (.ret)) (.skip)) [] (sR [oO 4 (.assign (.const (.int .i64 (-1))))] [4] (.ret))) (.skip)) [0,1,6] (sQ [mO 13 6] [0,1,13] (cD 13 (sR [aI 4 1] [4] (.ret)) (.skip)) [0,1] (sQ [mO 14 0,mO 15 1,bB .lss 16 3 14 15 3] [0,1,16] (cD 16 (sR [oO 4 (.assign (.const (.int .i64 (-1))))] [4] (.ret)) (.skip)) [0,1] (sQ [mO 17 0,mO 18 1,bB .gtr 19 3 17 18 3] [19] (cD 19 (sR [aI 4 1] [4] (.ret)) (.skip)) [] (sR [aI 4 0] [4] (.ret))))))))
theorem TC:Ba Tryz.prog 243 20 [(.tmp 4)] Ld:=Ap Tryz.func243
def GL:CC:=sR [bB .lss 9 3 8 7 3] [3,6,7,8,9] (.seq (cD 9 (.skip) (.exit 0)) (.keep [3,6,7,8] (.seq (.block 1 (sR [iO 10 164 6 8,lO 11 3 10,aO 5 11] [3,5,6,7,8] (sR [mO 12 5,mO 13 3,bB .neq 14 3 12 13 3] [3,5,6,7,8,14] (cD 14 (sR [mO 15 5,aO 2 15] [2] (.ret)) (.skip))))) (.keep [3,6,7,8] (.reg [bQ .add 16 3 8 1 3,mO 8 16] [3,6,7,8]))))) 
def S7:CC:=sR [aI 2 0] [0] (sR [aI 3 0] [0,3] (sQ [mO 6 0,bN 7 6 164,oO 8 (.move (nI 0))] [3,6,7,8] (.block 0 (.loop GL)) [3] (sR [mO 17 3,aO 2 17] [2] (.ret))))
theorem a7:Ba Tryz.prog 310 18 [(.tmp 2)] S7:=Ap Tryz.func310
def Js:CC:=sR [bX 2 282 0 [0],bX 3 282 1 [1],aB 4 false] [2,3] (sR [fO 5 282 3 1,lO 6 3 5,fO 7 282 2 1,lO 8 3 7,⟨some 9,(cL 243 #[(xT 6),(xT 8)] #[3,3]),none,[],4,[],true⟩,fO 10 282 2 0,fO 11 245 10 0,⟨some 12,(lD 3 11),none,[],7,[4],false⟩,fO 13 282 3 0,fO 14 245 13 0,⟨some 15,(lD 3 14),none,[],10,[4],false⟩,⟨some 16,(cL 243 #[(xT 12),(xT 15)] #[3,3]),none,[],11,[],true⟩,fO 17 282 2 0,fO 18 245 17 1,⟨some 19,(lD 3 18),none,[],14,[4,11],false⟩,fO 20 282 3 0,fO 21 245 20 1,⟨some 22,(lD 3 21),none,[],17,[4,11],false⟩,cB 23 243 19 22 3 3,oO 24 (.buildSlice 164 3 #[(0,(xT 9)),(1,(xT 16)),(2,(xT 23))]),cA 25 310 24 164,bQ .lss 26 3 25 0 3,aO 4 26] [4] (.ret))
theorem P4:Ba Tryz.prog 309 27 [(.tmp 4)] Js:=Ap Tryz.func309
def N0:CC:=.reg [mO 4 0,mO 5 0,nC 6 5,lS 7 279 6 3,mO 8 1,oO 9 (.typeAssert (xT 8) 20 282 false),⟨some 10,(.buildSlice 279 1 #[(0,(xT 9))]),none,[],6,[3],false⟩,aP 11 7 10 279 279 [1],nC 12 4,sT 279 12 11] []
theorem VM:Ba Tryz.prog 307 13 [] N0:=Ap Tryz.func307
def Pm:CC:=sR [oO 2 (.assign (.const .nilIface))] [0] (sR [mO 5 0,nC 6 5,lO 7 279 6,aO 3 7] [0,3] (sR [mO 8 3,mO 9 3,bN 10 9 279,bQ .sub 11 3 10 1 3,iO 12 279 8 11,lO 13 282 12,aL 4 282 [1],sT 282 4 13] [0,3,4] (sR [mO 14 0,mO 15 3,mO 16 3,bN 17 16 279,bQ .sub 18 3 17 1 3,oO 19 (.slice 279 (xT 15) none (some (xT 18)) none),nC 20 14,sT 279 20 19] [4] (sR [lO 21 282 4,oO 22 (.makeInterface 282 (xT 21)),aO 2 22] [2] (.ret)))))
theorem XF:Ba Tryz.prog 306 23 [(.tmp 2)] Pm:=Ap Tryz.func306
def Oj:CC:=sR [aI 2 0] [0] (sR [mO 3 0,bN 4 3 279,aO 2 4] [2] (.ret))
theorem Xr:Ba Tryz.prog 237 5 [(.tmp 2)] Oj:=Ap Tryz.func237
def N3:CC:=sR [aB 6 false] [0,1,2] (sR [mO 7 0,mO 8 1,iO 9 279 7 8,lO 10 282 9,mO 11 0,mO 12 2,iO 13 279 11 12,lO 14 282 13,cB 15 309 10 14 282 282,aO 6 15] [6] (.ret))
theorem VL:Ba Tryz.prog 305 16 [(.tmp 6)] N3:=Ap Tryz.func305
def NW:CC:=.reg [mO 6 0,mO 7 1,mO 8 0,mO 9 2,mO 10 0,mO 11 2,iO 12 279 10 11,lO 13 282 12,mO 14 0,mO 15 1,iO 16 279 14 15,lO 17 282 16,iO 18 279 6 7,sT 282 18 13,iO 19 279 8 9,sT 282 19 17] []
theorem VT:Ba Tryz.prog 308 20 [] NW:=Ap Tryz.func308
def FM:CC:=.block 1 (sR [mO 5 1,bQ .sub 6 3 5 1 3,bQ .quo 7 3 6 2 3,aO 4 7] [0,1,4] (sQ [mO 8 4,mO 9 1,bB .eql 10 3 8 9 3,mO 11 10,mG 12 0 11 false,mG 13 1 11 false,mG 14 4 11 false,oG 15 (.call { callee:=(.invoke (xT 12) "Less"),args:=#[(xT 13),(xT 14)],argTypes:=#[3,3] }) 11 false,oG 16 (.unOp .not 4 (xT 15)) 11 false,pT 17 11 16] [0,1,4,17] (cD 17 (.exit 0) (.skip)) [0,1,4] (sR [mO 18 0,mO 19 4,mO 20 1,oO 21 (.call { callee:=(.invoke (xT 18) "Swap"),args:=#[(xT 19),(xT 20)],argTypes:=#[3,3] })] [0,4] (.reg [mO 22 4,aO 1 22] [0,1])))) 
def JD:CC:=.block 0 (.loop FM)
theorem P0:Ba Tryz.prog 261 23 [] JD:=Ap Tryz.func261
def Dh:CC:=sQ [mO 35 0,mO 36 9,mO 37 7,oO 38 (.call { callee:=(.invoke (xT 35) "Less"),args:=#[(xT 36),(xT 37)],argTypes:=#[3,3] }),oO 39 (.unOp .not 4 (xT 38))] [0,1,2,7,9,39] (cD 39 (.exit 0) (.skip)) [0,1,2,7,9] (sR [mO 40 0,mO 41 7,mO 42 9,oO 43 (.call { callee:=(.invoke (xT 40) "Swap"),args:=#[(xT 41),(xT 42)],argTypes:=#[3,3] })] [0,1,2,9] (.reg [mO 44 9,aO 7 44] [0,1,2,7]))
def Dj:CC:=.block 1 (sR [mO 12 7,oO 13 (.binOp .mul 3 (nI 2) (xT 12) 3),bQ .add 14 3 13 1 3,aO 8 14] [0,1,2,7,8] (sQ [mO 15 8,mO 16 2,bB .geq 17 3 15 16 3,mO 18 17,mG 19 8 18 false,oG 20 (.binOp .lss 3 (xT 19) (nI 0) 3) 18 false,pT 21 18 20] [0,1,2,7,8,21] (cD 21 (.exit 0) (.skip)) [0,1,2,7,8] (sR [mO 22 8,aO 9 22] [0,1,2,7,8,9] (sQ [mO 23 8,bQ .add 24 3 23 1 3,aO 10 24] [0,1,2,7,8,9,10] (sR [mO 25 10,mO 26 2,bB .lss 27 3 25 26 3,mO 28 27,mG 29 0 28 true,mG 30 10 28 true,mG 31 8 28 true,oG 32 (.call { callee:=(.invoke (xT 29) "Less"),args:=#[(xT 30),(xT 31)],argTypes:=#[3,3] }) 28 true,pF 33 28 32] [0,1,2,7,9,10,33] (cD 33 (.reg [mO 34 10,aO 9 34] [0,1,2,7,9]) (.skip))) [0,1,2,7,9] Dh)))) 
def Ie:CC:=sR [aB 6 false] [0,1,2] (sR [mO 11 1,aO 7 11] [0,1,2,7] (.seq (.block 0 (.loop Dj)) (.keep [1,7] (sR [mO 45 7,mO 46 1,bB .gtr 47 3 45 46 3,aO 6 47] [6] (.ret)))))
theorem N7:Ba Tryz.prog 262 48 [(.tmp 6)] Ie:=Ap Tryz.func262
def Ia:CC:=sR [mO 4 0,mO 5 1,oO 6 (.call { callee:=(.invoke (xT 4) "Push"),args:=#[(xT 5)],argTypes:=#[20] })] [0] (.reg [mO 7 0,mO 8 0,oO 9 (.call { callee:=(.invoke (xT 8) "Len"),args:=#[],argTypes:=#[] }),bQ .sub 10 3 9 1 3,cB 11 261 7 10 304 3] [])
theorem N5:Ba Tryz.prog 236 12 [] Ia:=Ap Tryz.func236
def Jk:CC:=sR [oO 2 (.assign (.const .nilIface))] [0] (sR [mO 4 0,oO 5 (.call { callee:=(.invoke (xT 4) "Len"),args:=#[],argTypes:=#[] }),bQ .sub 6 3 5 1 3,aO 3 6] [0,3] (sR [mO 7 0,mO 8 3,oO 9 (.call { callee:=(.invoke (xT 7) "Swap"),args:=#[(nI 0),(xT 8)],argTypes:=#[3,3] })] [0,3] (sR [mO 10 0,mO 11 3,oO 12 (cL 262 #[(xT 10),(nI 0),(xT 11)] #[304,3,3])] [0] (sR [mO 13 0,oO 14 (.call { callee:=(.invoke (xT 13) "Pop"),args:=#[],argTypes:=#[] }),aO 2 14] [2] (.ret)))))
theorem O6:Ba Tryz.prog 238 15 [(.tmp 2)] Jk:=Ap Tryz.func238
def Jy:CC:=sR [bX 2 245 0 [0],bX 3 245 1 [1],aB 4 false] [2,3] (sR [fO 5 245 2 0,lO 6 3 5,fO 7 245 3 0,lO 8 3 7,bB .lss 9 3 6 8 3,mO 10 9,fG 11 245 2 1 10 true,lG 12 3 11 10 true,fG 13 245 3 1 10 true,lG 14 3 13 10 true,oG 15 (bO .lss 3 12 14 3) 10 true,pF 16 10 15,mO 17 16,fG 18 245 2 0 17 false,lG 19 3 18 17 false,fG 20 245 3 0 17 false,lG 21 3 20 17 false,oG 22 (bO .gtr 3 19 21 3) 17 false,mG 23 22 17 false,fG 24 245 2 1 23 true,lG 25 3 24 23 true,fG 26 245 3 1 23 true,lG 27 3 26 23 true,oG 28 (bO .gtr 3 25 27 3) 23 true,oG 29 (.pick (xT 23) (xT 28) (nB false)) 17 false,pT 30 17 29,oO 31 (.unOp .not 4 (xT 30)),aO 4 31] [4] (.ret))
theorem Qb:Ba Tryz.prog 240 32 [(.tmp 4)] Jy:=Ap Tryz.func240
def Bj:CC:=sR [bB .lss 9 3 8 7 3] [0,1,7,8,9] (.seq (cD 9 (.skip) (.exit 0)) (.keep [0,1,7,8] (.seq (.block 1 (sR [mO 10 8,aO 5 10] [0,1,5,7,8] (sR [mO 11 1,mO 12 0,mO 13 5,iO 14 242 12 13,lO 15 245 14,oO 16 (.call { callee:=(.value (xT 11)),args:=#[(xT 15)],argTypes:=#[245] })] [0,1,5,7,8,16] (cD 16 (sR [mO 17 5,aO 4 17] [4] (.ret)) (.skip))))) (.keep [0,1,7,8] (.reg [bQ .add 18 3 8 1 3,mO 8 18] [0,1,7,8]))))) 
def CR:CC:=sR [aI 4 0] [0,1] (sQ [mO 6 0,bN 7 6 242,oO 8 (.move (nI 0))] [0,1,7,8] (.block 0 (.loop Bj)) [] (sR [oO 4 (.assign (.const (.int .i64 (-1))))] [4] (.ret)))
theorem FP:Ba Tryz.prog 263 19 [(.tmp 4)] CR:=Ap Tryz.func263
def CD:CC:=sR [aB 4 false] [0,1] (sR [mO 5 0,mO 6 1,cB 7 263 5 6 242 285,bQ .geq 8 3 7 0 3,aO 4 8] [4] (.ret))
theorem Fe:Ba Tryz.prog 239 9 [(.tmp 4)] CD:=Ap Tryz.func239
def QA:CC:=sR [bX 2 245 0 [0],bX 3 245 1 [1],aI 4 0] [2,3] (sR [fO 5 245 2 0,lO 6 3 5,fO 7 245 3 0,lO 8 3 7,cB 9 243 6 8 3 3,aO 4 9] [4] (.ret))
theorem YH:Ba Tryz.prog 242 10 [(.tmp 4)] QA:=Ap Tryz.func242
def Ho:CC:=sR [bB .lss 22 3 21 20 3] [3,4,12,13,14,19,20,21,22] (.seq (cD 22 (.skip) (.exit 2)) (.keep [3,4,12,13,14,19,20,21] (.seq (.block 3 (sR [mO 23 21,iO 24 164 19 21,lO 25 3 24,aO 6 23,aO 7 25] [3,4,6,7,12,13,14,19,20,21] (sR [mO 26 7,bQ .gtr 27 3 26 0 3,mO 28 27,mG 29 4 28 true,oG 30 (.binOp .lss 3 (xT 29) (nI 16) 3) 28 true,pF 31 28 30,mO 32 31,mG 33 6 32 true,oG 34 (.binOp .lss 3 (xT 33) (nI 16) 3) 32 true,pF 35 32 34] [3,4,6,7,12,13,14,19,20,21,35] (cD 35 (.reg [mO 36 3,oO 37 (.makeInterface 277 (xT 36)),mO 38 4,mO 39 6,oO 40 (.build 245 #[(0,(xT 38)),(1,(xT 39))]),mO 41 7,oO 42 (.build 282 #[(0,(xT 40)),(1,(xT 41))]),oO 43 (.makeInterface 282 (xT 42)),cB 44 236 37 43 304 20] [3,4,12,13,14,19,20,21]) (.skip))))) (.keep [3,4,12,13,14,19,20,21] (.reg [bQ .add 45 3 21 1 3,mO 21 45] [3,4,12,13,14,19,20,21])))))
def JQ:CC:=sR [bB .lss 15 3 14 13 3] [3,12,13,14,15] (.seq (cD 15 (.skip) (.exit 0)) (.keep [3,12,13,14] (.seq (.block 1 (sR [mO 16 14,iO 17 240 12 14,lO 18 164 17,aO 4 16,aO 5 18] [3,4,5,12,13,14] (sR [mO 19 5,bN 20 19 164,oO 21 (.move (nI 0))] [3,4,12,13,14,19,20,21] (.block 2 (.loop Ho))))) (.keep [3,12,13,14] (.reg [bQ .add 46 3 14 1 3,mO 14 46] [3,12,13,14])))))
def Hz:CC:=sQ [mO 47 3,nC 48 47,lO 49 279 48,cA 50 237 49 277,bQ .gtr 51 3 50 0 3] [3,8,51] (cD 51 (.skip) (.exit 4)) [3,8] (.block 5 (sR [mO 52 3,oO 53 (.makeInterface 277 (xT 52)),cA 54 238 53 304,oO 55 (.typeAssert (xT 54) 20 282 false),aL 9 282 [1],sT 282 9 55] [3,8,9] (sR [mO 56 8,fO 57 282 9 0,lO 58 245 57,oO 59 (.makeFunc (.func 240) #[(xT 58)] #[]),cB 60 239 56 59 242 285,oO 61 (.unOp .not 4 (xT 60))] [3,8,9,61] (cD 61 (.reg [mO 62 8,fO 63 282 9 0,lO 64 245 63,oO 65 (.buildSlice 242 1 #[(0,(xT 64))]),aP 66 62 65 242 242 [2],aO 8 66] [3,8]) (.skip))))) 
def Vh:CC:=sR [aN 2] [0] (sR [oO 10 (.buildSlice 279 0 #[]),bX 11 279 10 [0],aO 3 11] [0,3] (sQ [mO 12 0,bN 13 12 240,oO 14 (.move (nI 0))] [3,12,13,14] (.block 0 (.loop JQ)) [3] (sR [aN 8] [3,8] (.seq (.block 4 (.loop Hz)) (.keep [8] (sR [mO 67 8,oO 68 (cL 241 #[(xT 67),(.func 242)] #[242,287])] [8] (sR [mO 69 8,aO 2 69] [2] (.ret))))))))
theorem dR:Ba Tryz.prog 203 70 [(.tmp 2)] Vh:=Ap Tryz.func203
def IG:CC:=sR [bB .lss 31 3 30 29 3] [2,3,5,29,30,31] (.seq (cD 31 (.skip) (.exit 0)) (.keep [2,3,5,29,30] (.seq (.block 1 (sR [mO 32 30,aO 6 32] [2,3,5,6,29,30] (sR [fO 33 25 2 1,lO 34 22 33,mO 35 6,iO 36 22 34 35,lO 37 51 36,fO 38 25 3 1,lO 39 22 38,mO 40 6,iO 41 22 39 40,lO 42 51 41,bB .eql 43 51 37 42 51] [2,3,5,29,30,43] (cD 43 (.reg [mO 44 5,bQ .add 45 3 44 1 3,aO 5 45] [2,3,5,29,30]) (.skip))))) (.keep [2,3,5,29,30] (.reg [bQ .add 46 3 30 1 3,mO 30 46] [2,3,5,29,30])))))
def IM:CC:=sR [bB .lss 55 3 54 53 3] [2,3,5,53,54,55] (.seq (cD 55 (.skip) (.exit 2)) (.keep [2,3,5,53,54] (.seq (.block 3 (sR [mO 56 54,aO 7 56] [2,3,5,7,53,54] (sR [fO 57 25 2 2,lO 58 23 57,mO 59 7,iO 60 23 58 59,lO 61 25 60,fO 62 25 3 2,lO 63 23 62,mO 64 7,iO 65 23 63 64,lO 66 25 65,cB 67 59 61 66 25 25] [2,3,5,53,54,67] (cD 67 (.reg [mO 68 5,bQ .add 69 3 68 1 3,aO 5 69] [2,3,5,53,54]) (.skip))))) (.keep [2,3,5,53,54] (.reg [bQ .add 70 3 54 1 3,mO 54 70] [2,3,5,53,54]))))) 
def Sd:CC:=sR [bX 2 25 0 [0],bX 3 25 1 [1],aI 4 0] [2,3] (sQ [fO 8 25 2 0,lO 9 3 8,fO 10 25 3 0,lO 11 3 10,bB .neq 12 3 9 11 3,mO 13 12,fG 14 25 2 0 13 false,lG 15 3 14 13 false,oG 16 (.binOp .eql 3 (xT 15) (nI 0) 3) 13 false,pT 17 13 16,mO 18 17,fG 19 25 2 0 18 false,lG 20 3 19 18 false,oG 21 (.binOp .eql 3 (xT 20) (nI 10) 3) 18 false,pT 22 18 21] [2,3,22] (cD 22 (sR [aI 4 0] [4] (.ret)) (.skip)) [2,3] (sR [aI 5 1] [2,3,5] (sQ [fO 23 25 2 1,lO 24 22 23,bN 25 24 22,fO 26 25 3 1,lO 27 22 26,bN 28 27 22,oO 29 (bC .min #[(xT 25),(xT 28)] #[3,3]),oO 30 (.move (nI 0))] [2,3,5,29,30] (.block 0 (.loop IG)) [2,3,5] (sQ [fO 47 25 2 2,lO 48 23 47,bN 49 48 23,fO 50 25 3 2,lO 51 23 50,bN 52 51 23,oO 53 (bC .min #[(xT 49),(xT 52)] #[3,3]),oO 54 (.move (nI 0))] [2,3,5,53,54] (.block 2 (.loop IM)) [5] (sR [mO 71 5,aO 4 71] [4] (.ret))))))
theorem bA:Ba Tryz.prog 202 72 [(.tmp 4)] Sd:=Ap Tryz.func202
def EM:CC:=sQ [mO 8 7,mO 9 0,bN 10 9 258,bB .lss 11 3 8 10 3] [0,1,2,7,11] (cD 11 (.skip) (.exit 0)) [0,1,2,7] (.seq (.block 1 (sR [mO 14 1,mO 15 0,mO 16 7,iO 17 258 15 16,fO 18 260 17 0,lO 19 3 18,bB .lss 20 3 14 19 3,mO 21 20,mG 22 2 21 true,mG 23 0 21 true,mG 24 7 21 true,oG 25 (iA 258 23 24) 21 true,fG 26 260 25 1 21 true,lG 27 3 26 21 true,oG 28 (bO .lss 3 22 27 3) 21 true,pF 29 21 28,oO 30 (.unOp .not 4 (xT 29)),mO 31 30,mG 32 1 31 true,mG 33 0 31 true,mG 34 7 31 true,oG 35 (iA 258 33 34) 31 true,fG 36 260 35 0 31 true,lG 37 3 36 31 true,oG 38 (bO .gtr 3 32 37 3) 31 true,mG 39 38 31 true,mG 40 2 39 true,mG 41 0 39 true,mG 42 7 39 true,oG 43 (iA 258 41 42) 39 true,fG 44 260 43 1 39 true,lG 45 3 44 39 true,oG 46 (bO .gtr 3 40 45 3) 39 true,oG 47 (.pick (xT 39) (xT 46) (nB false)) 31 true,oG 48 (.unOp .not 4 (xT 47)) 31 true,pF 49 31 48] [0,1,2,7,49] (cD 49 (sR [aB 6 false] [6] (.ret)) (.skip)))) (.keep [0,1,2,7] (.reg [mO 12 7,bQ .add 13 3 12 1 3,aO 7 13] [0,1,2,7]))) 
def LS:CC:=sR [aB 6 false] [0,1,2] (sQ [aI 7 0] [0,1,2,7] (.block 0 (.loop EM)) [] (sR [aB 6 true] [6] (.ret)))
theorem Tw:Ba Tryz.prog 268 50 [(.tmp 6)] LS:=Ap Tryz.func268
def Ds:CC:=sQ [mO 21 9,mO 22 0,mO 23 8,iO 24 240 22 23,lO 25 164 24,bN 26 25 164,bB .lss 27 3 21 26 3,mO 28 27,mG 29 9 28 true,oG 30 (.binOp .lss 3 (xT 29) (nI 16) 3) 28 true,pF 31 28 30] [0,1,4,6,7,8,9,31] (cD 31 (.skip) (.exit 2)) [0,1,4,6,7,8,9] (.seq (.block 3 (sR [mO 34 0,mO 35 8,iO 36 240 34 35,lO 37 164 36,mO 38 9,iO 39 164 37 38,lO 40 3 39,mO 41 7,bB .gtr 42 3 40 41 3,mO 43 42,mG 44 1 43 true,mG 45 8 43 true,mG 46 9 43 true,oG 47 (cL 268 #[(xT 44),(xT 45),(xT 46)] #[258,3,3]) 43 true,pF 48 43 47] [0,1,4,6,7,8,9,48] (cD 48 (sR [mO 49 8,mO 50 9,oO 51 (.build 260 #[(0,(xT 49)),(1,(xT 50))]),sT 260 6 51] [0,1,4,6,8,9] (.reg [mO 52 0,mO 53 8,iO 54 240 52 53,lO 55 164 54,mO 56 9,iO 57 164 55 56,lO 58 3 57,aO 7 58] [0,1,4,6,7,8,9])) (.skip)))) (.keep [0,1,4,6,7,8,9] (.reg [mO 32 9,bQ .add 33 3 32 1 3,aO 9 33] [0,1,4,6,7,8,9])))
def Fa:CC:=sQ [mO 11 8,mO 12 0,bN 13 12 240,bB .lss 14 3 11 13 3,mO 15 14,mG 16 8 15 true,oG 17 (.binOp .lss 3 (xT 16) (nI 16) 3) 15 true,pF 18 15 17] [0,1,4,6,7,8,18] (cD 18 (.skip) (.exit 0)) [0,1,4,6,7,8] (.seq (.block 1 (sR [aI 9 0] [0,1,4,6,7,8,9] (.block 2 (.loop Ds)))) (.keep [0,1,4,6,7,8] (.reg [mO 19 8,bQ .add 20 3 19 1 3,aO 8 20] [0,1,4,6,7,8]))) 
def Lx:CC:=sR [aL 4 260 [0],aI 5 0] [0,1,4] (sR [oO 10 (.build 260 #[]),aL 6 260 [1],sT 260 6 10,aI 7 0] [0,1,4,6,7] (sQ [aI 8 0] [0,1,4,6,7,8] (.block 0 (.loop Fa)) [4,6,7] (sR [lO 59 260 6,mO 60 7,sT 260 4 59,aO 5 60] [4,5] (.ret))))
theorem Sz:Ba Tryz.prog 250 61 [(.cell 4 260),(.tmp 5)] Lx:=Ap Tryz.func250
def EY:CC:=sQ [mO 22 8,mO 23 3,bN 24 23 258,bB .lss 25 3 22 24 3,mO 26 25,mG 27 3 26 true,mG 28 8 26 true,oG 29 (iA 258 27 28) 26 true,fG 30 260 29 0 26 true,lG 31 3 30 26 true,fG 32 260 5 0 26 true,lG 33 3 32 26 true,oG 34 (bO .lss 3 31 33 3) 26 true,pF 35 26 34] [0,3,4,5,7,8,35] (cD 35 (.skip) (.exit 2)) [0,3,4,5,7,8] (.block 3 (.reg [mO 36 8,bQ .add 37 3 36 1 3,aO 8 37] [0,3,4,5,7,8]))
def EL:CC:=sQ [mO 9 4,bQ .lss 10 3 9 17 3] [0,3,4,10] (cD 10 (.skip) (.exit 0)) [0,3,4] (.seq (.block 1 (sR [mO 14 0,mO 15 3,cB 16 250 14 15 240 258,mO 13 16,xO 17 13 0,xO 18 13 1,aL 5 260 [0],sT 260 5 17,aO 6 18] [0,3,4,5,6] (sQ [mO 19 6,bQ .eql 20 3 19 0 3] [0,3,4,5,20] (cD 20 (sR [mO 21 3,aO 2 21] [2] (.ret)) (.skip)) [0,3,4,5] (sR [aN 7] [0,3,4,5,7] (sR [aI 8 0] [0,3,4,5,7,8] (.seq (.block 2 (.loop EY)) (.keep [0,3,4,5,7,8] (sR [mO 38 7,mO 39 3,mO 40 8,oO 41 (.slice 258 (xT 39) none (some (xT 40)) none),aP 42 38 41 258 258 [1],aO 7 42] [0,3,4,5,7,8] (sR [mO 43 7,lO 44 260 5,oO 45 (.buildSlice 258 1 #[(0,(xT 44))]),aP 46 43 45 258 258 [2],aO 7 46] [0,3,4,7,8] (.reg [mO 47 7,mO 48 3,mO 49 8,oO 50 (.slice 258 (xT 48) (some (xT 49)) none none),aP 51 47 50 258 258 [3],aO 3 51] [0,3,4])))))))))) (.keep [0,3,4] (.reg [mO 11 4,bQ .add 12 3 11 1 3,aO 4 12] [0,3,4]))) 
def LM:CC:=sR [aN 2] [0] (sR [aN 3] [0,3] (sQ [aI 4 0] [0,3,4] (.block 0 (.loop EL)) [3] (sR [mO 52 3,aO 2 52] [2] (.ret))))
theorem TD:Ba Tryz.prog 216 53 [(.tmp 2)] LM:=Ap Tryz.func216
def Em:CC:=sQ [mO 23 6,fO 24 25 2 1,lO 25 22 24,bN 26 25 22,bB .lss 27 3 23 26 3,mO 28 27,mG 29 6 28 true,fG 30 25 3 1 28 true,lG 31 22 30 28 true,oG 32 (bL 31 22) 28 true,oG 33 (bO .lss 3 29 32 3) 28 true,pF 34 28 33] [2,3,5,6,34] (cD 34 (.skip) (.exit 0)) [2,3,5,6] (.seq (.block 1 (sR [fO 37 25 2 1,lO 38 22 37,mO 39 6,iO 40 22 38 39,lO 41 51 40,fO 42 25 3 1,lO 43 22 42,mO 44 6,iO 45 22 43 44,lO 46 51 45,bB .eql 47 51 41 46 51] [2,3,5,6,47] (cD 47 (.reg [mO 48 5,bQ .add 49 3 48 1 3,aO 5 49] [2,3,5,6]) (.skip)))) (.keep [2,3,5,6] (.reg [mO 35 6,bQ .add 36 3 35 1 3,aO 6 36] [2,3,5,6])))
def Eo:CC:=sQ [mO 50 7,fO 51 25 2 2,lO 52 23 51,bN 53 52 23,bB .lss 54 3 50 53 3,mO 55 54,mG 56 7 55 true,fG 57 25 3 2 55 true,lG 58 23 57 55 true,oG 59 (bL 58 23) 55 true,oG 60 (bO .lss 3 56 59 3) 55 true,pF 61 55 60] [2,3,5,7,61] (cD 61 (.skip) (.exit 2)) [2,3,5,7] (.seq (.block 3 (sR [fO 64 25 2 2,lO 65 23 64,mO 66 7,iO 67 23 65 66,lO 68 25 67,fO 69 25 3 2,lO 70 23 69,mO 71 7,iO 72 23 70 71,lO 73 25 72,cB 74 101 68 73 25 25] [2,3,5,7,74] (cD 74 (.reg [mO 75 5,bQ .add 76 3 75 1 3,aO 5 76] [2,3,5,7]) (.skip)))) (.keep [2,3,5,7] (.reg [mO 62 7,bQ .add 63 3 62 1 3,aO 7 63] [2,3,5,7]))) 
def Kr:CC:=sR [bX 2 25 0 [0],bX 3 25 1 [1],aI 4 0] [2,3] (sQ [fO 8 25 2 0,lO 9 3 8,fO 10 25 3 0,lO 11 3 10,bB .neq 12 3 9 11 3,mO 13 12,fG 14 25 2 0 13 false,lG 15 3 14 13 false,oG 16 (.binOp .eql 3 (xT 15) (nI 0) 3) 13 false,pT 17 13 16,mO 18 17,fG 19 25 2 0 18 false,lG 20 3 19 18 false,oG 21 (.binOp .eql 3 (xT 20) (nI 10) 3) 18 false,pT 22 18 21] [2,3,22] (cD 22 (sR [aI 4 0] [4] (.ret)) (.skip)) [2,3] (sR [aI 5 1] [2,3,5] (sQ [aI 6 0] [2,3,5,6] (.block 0 (.loop Em)) [2,3,5] (sQ [aI 7 0] [2,3,5,7] (.block 2 (.loop Eo)) [5] (sR [mO 77 5,aO 4 77] [4] (.ret))))))
theorem RN:Ba Tryz.prog 215 78 [(.tmp 4)] Kr:=Ap Tryz.func215
@[simp] theorem Aho:DB Tryz.prog 328=some 1:=by kernel_rfl
@[simp] theorem Adt:DQ Tryz.prog 328=some false:=by kernel_rfl
@[simp] theorem AbV:BU Tryz.prog 328=some (Value.int u64 0):=by kernel_rfl
def Kv:CC:=sQ [mO 13 0,oO 14 (.binOp .geq 51 (xT 13) (.const (.int .u64 256)) 51)] [0,2,14] (cD 14 (sR [mO 15 0,oO 16 (.binOp .shr 51 (xT 15) (.const (.int .u64 8)) 269),aO 0 16] [0,2] (.reg [mO 17 2,bQ .add 18 3 17 8 3,aO 2 18] [0,2])) (.skip)) [0,2] (sR [mO 19 2,mO 20 0,oO 21 (.convert 51 5 (xT 20)),oO 22 (.index 9 (.const (.string { data:=#[0,1,2,2,3,3,3,3,4,4,4,4,4,4,4,4,5,5,5,5,5,5,5,5,5,5,5,5,5,5,5,5,6,6,6,6,6,6,6,6,6,6,6,6,6,6,6,6,6,6,6,6,6,6,6,6,6,6,6,6,6,6,6,6,7,7,7,7,7,7,7,7,7,7,7,7,7,7,7,7,7,7,7,7,7,7,7,7,7,7,7,7,7,7,7,7,7,7,7,7,7,7,7,7,7,7,7,7,7,7,7,7,7,7,7,7,7,7,7,7,7,7,7,7,7,7,7,7,8,8,8,8,8,8,8,8,8,8,8,8,8,8,8,8,8,8,8,8,8,8,8,8,8,8,8,8,8,8,8,8,8,8,8,8,8,8,8,8,8,8,8,8,8,8,8,8,8,8,8,8,8,8,8,8,8,8,8,8,8,8,8,8,8,8,8,8,8,8,8,8,8,8,8,8,8,8,8,8,8,8,8,8,8,8,8,8,8,8,8,8,8,8,8,8,8,8,8,8,8,8,8,8,8,8,8,8,8,8,8,8,8,8,8,8,8,8,8,8,8,8,8,8,8,8,8,8] })) (xT 21)),oO 23 (.convert 5 3 (xT 22)),bB .add 24 3 19 23 3,aO 2 24] [2] (.ret))
def KM:CC:=sQ [mO 7 0,oO 8 (.binOp .geq 51 (xT 7) (.const (.int .u64 65536)) 51)] [0,2,8] (cD 8 (sR [mO 9 0,oO 10 (.binOp .shr 51 (xT 9) (.const (.int .u64 16)) 269),aO 0 10] [0,2] (.reg [mO 11 2,bQ .add 12 3 11 16 3,aO 2 12] [0,2])) (.skip)) [0,2] Kv 
def Lm:CC:=sR [aI 2 0] [0,2] (sQ [mO 3 0,oO 4 (.binOp .geq 51 (xT 3) (.const (.int .u64 4294967296)) 51)] [0,2,4] (cD 4 (sR [mO 5 0,oO 6 (.binOp .shr 51 (xT 5) (.const (.int .u64 32)) 269),aO 0 6] [0] (.reg [aI 2 32] [0,2])) (.skip)) [0,2] KM)
theorem SB:Ba Tryz.prog 280 25 [(.tmp 2)] Lm:=Ap Tryz.func280
def NZ:CC:=sR [aI 2 0] [0] (.seq (.cond (nB false) (sR [mO 3 0,oO 4 (.convert 269 288 (xT 3)),cA 5 279 4 288,aO 2 5] [2] (.ret)) (.skip)) (.keep [0] (sR [mO 6 0,cA 7 280 6 51,aO 2 7] [2] (.ret))))
theorem VD:Ba Tryz.prog 265 8 [(.tmp 2)] NZ:=Ap Tryz.func265
def Bf:CC:=sQ [mO 18 9,mO 19 1,bB .gtr 20 3 18 19 3,mO 21 20,mG 22 3 21 true,mG 23 0 21 true,mG 24 9 21 true,oG 25 (iA 242 23 24) 21 true,lG 26 245 25 21 true,mG 27 0 21 true,mG 28 9 21 true,oG 29 (.binOp .sub 3 (xT 28) (nI 1) 3) 21 true,oG 30 (iA 242 27 29) 21 true,lG 31 245 30 21 true,oG 32 (.call { callee:=(.value (xT 22)),args:=#[(xT 26),(xT 31)],argTypes:=#[245,245] }) 21 true,oG 33 (.binOp .lss 3 (xT 32) (nI 0) 3) 21 true,pF 34 21 33] [0,1,2,3,8,9,34] (cD 34 (.skip) (.exit 2)) [0,1,2,3,8,9] (.seq (.block 3 (.reg [mO 37 0,mO 38 9,mO 39 0,mO 40 9,bQ .sub 41 3 40 1 3,mO 42 0,mO 43 9,bQ .sub 44 3 43 1 3,iO 45 242 42 44,lO 46 245 45,mO 47 0,mO 48 9,iO 49 242 47 48,lO 50 245 49,iO 51 242 37 38,sT 245 51 46,iO 52 242 39 41,sT 245 52 50] [0,1,2,3,8,9])) (.reg [mO 35 9,bQ .sub 36 3 35 1 3,aO 9 36] [0,1,2,3,8,9]))
def Bd:CC:=sQ [mO 12 8,mO 13 2,bB .lss 14 3 12 13 3] [0,1,2,3,8,14] (cD 14 (.skip) (.exit 0)) [0,1,2,3,8] (.seq (.block 1 (sR [mO 17 8,aO 9 17] [0,1,2,3,8,9] (.block 2 (.loop Bf)))) (.keep [0,1,2,3,8] (.reg [mO 15 8,bQ .add 16 3 15 1 3,aO 8 16] [0,1,2,3,8]))) 
def CM:CC:=sR [mO 10 1,bQ .add 11 3 10 1 3,aO 8 11] [0,1,2,3,8] (.block 0 (.loop Bd))
theorem FJ:Ba Tryz.prog 271 53 [] CM:=Ap Tryz.func271
def Hf:CC:=sR [oO 2 (.assign (.const (.int .u64 0)))] [0] (sR [mO 3 0,oO 4 (.convert 3 269 (xT 3)),cA 5 265 4 269,oO 6 (.binOp .shl 269 (.const (.int .u64 1)) (xT 5) 3),aO 2 6] [2] (.ret))
theorem MJ:Ba Tryz.prog 282 7 [(.tmp 2)] Hf:=Ap Tryz.func282
def H5:CC:=sR [oO 2 (.assign (.const (.int .u64 0)))] [0] (sR [mO 3 0,nC 4 3,lO 5 328 4,mO 6 0,nC 7 6,lO 8 328 7,oO 9 (.binOp .shl 328 (xT 8) (.const (.int .u64 13)) 269),bB .xor 10 328 5 9 328,nC 11 3,sT 328 11 10] [0] (sR [mO 12 0,nC 13 12,lO 14 328 13,mO 15 0,nC 16 15,lO 17 328 16,oO 18 (.binOp .shr 328 (xT 17) (.const (.int .u64 7)) 269),bB .xor 19 328 14 18 328,nC 20 12,sT 328 20 19] [0] (sR [mO 21 0,nC 22 21,lO 23 328 22,mO 24 0,nC 25 24,lO 26 328 25,oO 27 (.binOp .shl 328 (xT 26) (.const (.int .u64 17)) 269),bB .xor 28 328 23 27 328,nC 29 21,sT 328 29 28] [0] (sR [mO 30 0,nC 31 30,lO 32 328 31,aO 2 32] [2] (.ret)))))
theorem Ni:Ba Tryz.prog 283 33 [(.tmp 2)] H5:=Ap Tryz.func283
def BN:CC:=.reg [mO 49 0,mO 50 11,mO 51 0,mO 52 1,mO 53 12,bB .add 54 3 52 53 3,mO 55 0,mO 56 1,mO 57 12,bB .add 58 3 56 57 3,iO 59 242 55 58,lO 60 245 59,mO 61 0,mO 62 11,iO 63 242 61 62,lO 64 245 63,iO 65 242 49 50,sT 245 65 60,iO 66 242 51 54,sT 245 66 64] [0,1,8,9,10,11]
def Ax:CC:=sQ [mO 28 11,mO 29 1,mO 30 8,bQ .quo 31 3 30 4 3,bQ .mul 32 3 31 2 3,bB .add 33 3 29 32 3,bQ .add 34 3 33 1 3,bB .leq 35 3 28 34 3] [0,1,8,9,10,11,35] (cD 35 (.skip) (.exit 0)) [0,1,8,9,10,11] (.seq (.block 1 (sR [cA 38 283 9 328,mO 39 10,oO 40 (.binOp .sub 269 (xT 39) (.const (.int .u64 1)) 269),bB .and 41 269 38 40 269,oO 42 (.convert 269 3 (xT 41)),aO 12 42] [0,1,8,9,10,11,12] (sQ [mO 43 12,mO 44 8,bB .geq 45 3 43 44 3] [0,1,8,9,10,11,12,45] (cD 45 (.reg [mO 46 12,mO 47 8,bB .sub 48 3 46 47 3,aO 12 48] [0,1,8,9,10,11,12]) (.skip)) [0,1,8,9,10,11,12] BN))) (.keep [0,1,8,9,10,11] (.reg [mO 36 11,bQ .add 37 3 36 1 3,aO 11 37] [0,1,8,9,10,11]))) 
def CN:CC:=sR [mO 13 2,mO 14 1,bB .sub 15 3 13 14 3,aO 8 15] [0,1,8] (sR [mO 16 8,bQ .geq 17 3 16 8 3] [0,1,8,17] (cD 17 (sR [mO 18 8,oO 19 (.convert 3 328 (xT 18)),aL 9 328 [1],sT 328 9 19] [0,1,8,9] (sR [mO 20 8,cA 21 282 20 3,aO 10 21] [0,1,8,9,10] (sR [mO 22 1,mO 23 8,bQ .quo 24 3 23 4 3,bQ .mul 25 3 24 2 3,bB .add 26 3 22 25 3,bQ .sub 27 3 26 1 3,aO 11 27] [0,1,8,9,10,11] (.block 0 (.loop Ax))))) (.skip)))
theorem FI:Ba Tryz.prog 273 67 [] CN:=Ap Tryz.func273
def DX:CC:=sR [aI 10 0,aI 11 0] [0,1,2,3,4] (sQ [mO 12 4,mO 13 0,mO 14 2,iO 15 242 13 14,lO 16 245 15,mO 17 0,mO 18 1,iO 19 242 17 18,lO 20 245 19,oO 21 (.call { callee:=(.value (xT 12)),args:=#[(xT 16),(xT 20)],argTypes:=#[245,245] }),bQ .lss 22 3 21 0 3] [1,2,3,22] (cD 22 (sR [mO 23 3,nC 24 23,lO 25 3 24,bQ .add 26 3 25 1 3,nC 27 23,sT 3 27 26] [1,2] (sR [mO 28 2,mO 29 1,aO 10 28,aO 11 29] [10,11] (.ret))) (.skip)) [1,2] (sR [mO 30 1,mO 31 2,aO 10 30,aO 11 31] [10,11] (.ret)))
theorem HN:Ba Tryz.prog 286 32 [(.tmp 10),(.tmp 11)] DX:=Ap Tryz.func286
def DZ:CC:=sR [aI 12 0] [0,1,2,3,4,5] (sR [mO 14 0,mO 15 1,mO 16 2,mO 17 4,mO 18 5,oO 19 (cL 286 #[(xT 14),(xT 15),(xT 16),(xT 17),(xT 18)] #[242,3,3,332,287]),mO 13 19,xO 20 13 0,xO 21 13 1,aO 1 20,aO 2 21] [0,1,2,3,4,5] (sR [mO 23 0,mO 24 2,mO 25 3,mO 26 4,mO 27 5,oO 28 (cL 286 #[(xT 23),(xT 24),(xT 25),(xT 26),(xT 27)] #[242,3,3,332,287]),mO 22 28,xO 29 22 0,xO 30 22 1,aO 2 29,aO 3 30] [0,1,2,4,5] (sR [mO 32 0,mO 33 1,mO 34 2,mO 35 4,mO 36 5,oO 37 (cL 286 #[(xT 32),(xT 33),(xT 34),(xT 35),(xT 36)] #[242,3,3,332,287]),mO 31 37,xO 38 31 0,xO 39 31 1,aO 1 38,aO 2 39] [2] (sR [mO 40 2,aO 12 40] [12] (.ret)))))
theorem HO:Ba Tryz.prog 285 41 [(.tmp 12)] DZ:=Ap Tryz.func285
def CS:CC:=sR [lO 55 3 11] [13,55] (.block 0 (sR [bQ .eql 58 3 55 0 3,aO 57 58] [13,55,57] (cD 57 (sR [mO 59 13,aO 8 59,aI 9 1] [8,9] (.ret)) (sR [bQ .eql 61 3 55 12 3,aO 60 61] [13,60] (cD 60 (sR [mO 62 13,aO 8 62,aI 9 2] [8,9] (.ret)) (sR [mO 56 13,aO 8 56,aI 9 0] [8,9] (.ret))))))) 
def C4:CC:=sR [aI 8 0,aI 9 0] [0,1,2,3] (sR [mO 15 2,mO 16 1,bB .sub 17 3 15 16 3,aO 10 17] [0,1,3,10] (sR [aL 11 3 [1]] [0,1,3,10,11] (sR [mO 18 1,mO 19 10,bQ .quo 20 3 19 4 3,bQ .mul 21 3 20 1 3,bB .add 22 3 18 21 3,aO 12 22] [0,1,3,10,11,12] (sR [mO 23 1,mO 24 10,bQ .quo 25 3 24 4 3,bQ .mul 26 3 25 2 3,bB .add 27 3 23 26 3,aO 13 27] [0,1,3,10,11,12,13] (sR [mO 28 1,mO 29 10,bQ .quo 30 3 29 4 3,bQ .mul 31 3 30 3 3,bB .add 32 3 28 31 3,aO 14 32] [0,3,10,11,12,13,14] (sQ [mO 33 10,bQ .geq 34 3 33 8 3] [0,3,10,11,12,13,14,34] (cD 34 (sQ [mO 35 10,bQ .geq 36 3 35 50 3] [0,3,11,12,13,14,36] (cD 36 (sR [mO 37 0,mO 38 12,mO 39 3,oO 40 (cL 284 #[(xT 37),(xT 38),(xT 11),(xT 39)] #[242,3,332,287]),aO 12 40] [0,3,11,12,13,14] (sR [mO 41 0,mO 42 13,mO 43 3,oO 44 (cL 284 #[(xT 41),(xT 42),(xT 11),(xT 43)] #[242,3,332,287]),aO 13 44] [0,3,11,12,13,14] (.reg [mO 45 0,mO 46 14,mO 47 3,oO 48 (cL 284 #[(xT 45),(xT 46),(xT 11),(xT 47)] #[242,3,332,287]),aO 14 48] [0,3,11,12,13,14]))) (.skip)) [0,3,11,12,13,14] (.reg [mO 49 0,mO 50 12,mO 51 13,mO 52 14,mO 53 3,oO 54 (cL 285 #[(xT 49),(xT 50),(xT 51),(xT 52),(xT 11),(xT 53)] #[242,3,3,3,332,287]),aO 13 54] [11,13])) (.skip)) [11,13] CS))))))
theorem Gd:Ba Tryz.prog 274 63 [(.tmp 8),(.tmp 9)] C4:=Ap Tryz.func274
def AV:CC:=sQ [mO 13 8,mO 14 9,bB .lss 15 3 13 14 3] [0,8,9,15] (cD 15 (.skip) (.exit 0)) [0,8,9] (.block 1 (sR [mO 16 0,mO 17 8,mO 18 0,mO 19 9,mO 20 0,mO 21 9,iO 22 242 20 21,lO 23 245 22,mO 24 0,mO 25 8,iO 26 242 24 25,lO 27 245 26,iO 28 242 16 17,sT 245 28 23,iO 29 242 18 19,sT 245 29 27] [0,8,9] (sR [mO 30 8,bQ .add 31 3 30 1 3,aO 8 31] [0,8,9] (.reg [mO 32 9,bQ .sub 33 3 32 1 3,aO 9 33] [0,8,9])))) 
def CV:CC:=sR [mO 10 1,aO 8 10] [0,2,8] (sR [mO 11 2,bQ .sub 12 3 11 1 3,aO 9 12] [0,8,9] (.block 0 (.loop AV)))
theorem FN:Ba Tryz.prog 275 34 [] CV:=Ap Tryz.func275
def AF:CC:=sQ [mO 19 9,mO 20 2,bB .lss 21 3 19 20 3,mO 22 21,mG 23 3 22 true,mG 24 0 22 true,mG 25 9 22 true,oG 26 (iA 242 24 25) 22 true,lG 27 245 26 22 true,mG 28 0 22 true,mG 29 9 22 true,oG 30 (.binOp .sub 3 (xT 29) (nI 1) 3) 22 true,oG 31 (iA 242 28 30) 22 true,lG 32 245 31 22 true,oG 33 (.call { callee:=(.value (xT 23)),args:=#[(xT 27),(xT 32)],argTypes:=#[245,245] }) 22 true,oG 34 (.binOp .lss 3 (xT 33) (nI 0) 3) 22 true,oG 35 (.unOp .not 4 (xT 34)) 22 true,pF 36 22 35] [0,1,2,3,9,10,36] (cD 36 (.skip) (.exit 2)) [0,1,2,3,9,10] (.block 3 (.reg [mO 37 9,bQ .add 38 3 37 1 3,aO 9 38] [0,1,2,3,9,10]))
def DS:CC:=sQ [mO 68 11,bQ .geq 69 3 68 1 3] [0,1,2,3,9,10,11,69] (cD 69 (.skip) (.exit 4)) [0,1,2,3,9,10,11] (.seq (.block 5 (sQ [mO 72 3,mO 73 0,mO 74 11,iO 75 242 73 74,lO 76 245 75,mO 77 0,mO 78 11,bQ .sub 79 3 78 1 3,iO 80 242 77 79,lO 81 245 80,oO 82 (.call { callee:=(.value (xT 72)),args:=#[(xT 76),(xT 81)],argTypes:=#[245,245] }),bQ .lss 83 3 82 0 3,oO 84 (.unOp .not 4 (xT 83))] [0,1,2,3,9,10,11,84] (cD 84 (.exit 4) (.skip)) [0,1,2,3,9,10,11] (.reg [mO 85 0,mO 86 11,mO 87 0,mO 88 11,bQ .sub 89 3 88 1 3,mO 90 0,mO 91 11,bQ .sub 92 3 91 1 3,iO 93 242 90 92,lO 94 245 93,mO 95 0,mO 96 11,iO 97 242 95 96,lO 98 245 97,iO 99 242 85 86,sT 245 99 94,iO 100 242 87 89,sT 245 100 98] [0,1,2,3,9,10,11]))) (.keep [0,1,2,3,9,10,11] (.reg [mO 70 11,bQ .sub 71 3 70 1 3,aO 11 71] [0,1,2,3,9,10,11])))
def DM:CC:=sQ [mO 107 12,mO 108 2,bB .lss 109 3 107 108 3] [0,1,2,3,9,10,12,109] (cD 109 (.skip) (.exit 6)) [0,1,2,3,9,10,12] (.seq (.block 7 (sQ [mO 112 3,mO 113 0,mO 114 12,iO 115 242 113 114,lO 116 245 115,mO 117 0,mO 118 12,bQ .sub 119 3 118 1 3,iO 120 242 117 119,lO 121 245 120,oO 122 (.call { callee:=(.value (xT 112)),args:=#[(xT 116),(xT 121)],argTypes:=#[245,245] }),bQ .lss 123 3 122 0 3,oO 124 (.unOp .not 4 (xT 123))] [0,1,2,3,9,10,12,124] (cD 124 (.exit 6) (.skip)) [0,1,2,3,9,10,12] (.reg [mO 125 0,mO 126 12,mO 127 0,mO 128 12,bQ .sub 129 3 128 1 3,mO 130 0,mO 131 12,bQ .sub 132 3 131 1 3,iO 133 242 130 132,lO 134 245 133,mO 135 0,mO 136 12,iO 137 242 135 136,lO 138 245 137,iO 139 242 125 126,sT 245 139 134,iO 140 242 127 129,sT 245 140 138] [0,1,2,3,9,10,12]))) (.keep [0,1,2,3,9,10,12] (.reg [mO 110 12,bQ .add 111 3 110 1 3,aO 12 111] [0,1,2,3,9,10,12])))
def DL:CC:=sR [mO 101 2,mO 102 9,bB .sub 103 3 101 102 3,bQ .geq 104 3 103 2 3] [0,1,2,3,9,10,104] (cD 104 (sR [mO 105 9,bQ .add 106 3 105 1 3,aO 12 106] [0,1,2,3,9,10,12] (.block 6 (.loop DM))) (.skip))
def B6:CC:=sQ [mO 15 10,bQ .lss 16 3 15 5 3] [0,1,2,3,9,10,16] (cD 16 (.skip) (.exit 0)) [0,1,2,3,9,10] (.seq (.block 1 (.seq (.block 2 (.loop AF)) (.keep [0,1,2,3,9,10] (sQ [mO 39 9,mO 40 2,bB .eql 41 3 39 40 3] [0,1,2,3,9,10,41] (cD 41 (sR [aB 8 true] [8] (.ret)) (.skip)) [0,1,2,3,9,10] (sQ [mO 42 2,mO 43 1,bB .sub 44 3 42 43 3,bQ .lss 45 3 44 50 3] [0,1,2,3,9,10,45] (cD 45 (sR [aB 8 false] [8] (.ret)) (.skip)) [0,1,2,3,9,10] (sR [mO 46 0,mO 47 9,mO 48 0,mO 49 9,bQ .sub 50 3 49 1 3,mO 51 0,mO 52 9,bQ .sub 53 3 52 1 3,iO 54 242 51 53,lO 55 245 54,mO 56 0,mO 57 9,iO 58 242 56 57,lO 59 245 58,iO 60 242 46 47,sT 245 60 55,iO 61 242 48 50,sT 245 61 59] [0,1,2,3,9,10] (sQ [mO 62 9,mO 63 1,bB .sub 64 3 62 63 3,bQ .geq 65 3 64 2 3] [0,1,2,3,9,10,65] (cD 65 (sR [mO 66 9,bQ .sub 67 3 66 1 3,aO 11 67] [0,1,2,3,9,10,11] (.block 4 (.loop DS))) (.skip)) [0,1,2,3,9,10] DL))))))) (.keep [0,1,2,3,9,10] (.reg [mO 17 10,bQ .add 18 3 17 1 3,aO 10 18] [0,1,2,3,9,10]))) 
def Ca:CC:=sR [aB 8 false] [0,1,2,3] (sR [mO 13 1,bQ .add 14 3 13 1 3,aO 9 14] [0,1,2,3,9] (sQ [aI 10 0] [0,1,2,3,9,10] (.block 0 (.loop B6)) [] (sR [aB 8 false] [8] (.ret))))
theorem Eh:Ba Tryz.prog 276 141 [(.tmp 8)] Ca:=Ap Tryz.func276
def AR:CC:=sQ [mO 31 11,mO 32 12,bB .leq 33 3 31 32 3,mO 34 33,mG 35 4 34 true,mG 36 0 34 true,mG 37 1 34 true,oG 38 (iA 242 36 37) 34 true,lG 39 245 38 34 true,mG 40 0 34 true,mG 41 11 34 true,oG 42 (iA 242 40 41) 34 true,lG 43 245 42 34 true,oG 44 (.call { callee:=(.value (xT 35)),args:=#[(xT 39),(xT 43)],argTypes:=#[245,245] }) 34 true,oG 45 (.binOp .lss 3 (xT 44) (nI 0) 3) 34 true,oG 46 (.unOp .not 4 (xT 45)) 34 true,pF 47 34 46] [0,1,4,11,12,47] (cD 47 (.skip) (.exit 2)) [0,1,4,11,12] (.block 3 (.reg [mO 48 11,bQ .add 49 3 48 1 3,aO 11 49] [0,1,4,11,12]))
def AQ:CC:=sQ [mO 50 11,mO 51 12,bB .leq 52 3 50 51 3,mO 53 52,mG 54 4 53 true,mG 55 0 53 true,mG 56 1 53 true,oG 57 (iA 242 55 56) 53 true,lG 58 245 57 53 true,mG 59 0 53 true,mG 60 12 53 true,oG 61 (iA 242 59 60) 53 true,lG 62 245 61 53 true,oG 63 (.call { callee:=(.value (xT 54)),args:=#[(xT 58),(xT 62)],argTypes:=#[245,245] }) 53 true,oG 64 (.binOp .lss 3 (xT 63) (nI 0) 3) 53 true,pF 65 53 64] [0,1,4,11,12,65] (cD 65 (.skip) (.exit 4)) [0,1,4,11,12] (.block 5 (.reg [mO 66 12,bQ .sub 67 3 66 1 3,aO 12 67] [0,1,4,11,12]))
def BG:CC:=.block 1 (.seq (.block 2 (.loop AR)) (.keep [0,1,4,11,12] (.seq (.block 4 (.loop AQ)) (.keep [0,1,4,11,12] (sQ [mO 68 11,mO 69 12,bB .gtr 70 3 68 69 3] [0,1,4,11,12,70] (cD 70 (.exit 0) (.skip)) [0,1,4,11,12] (sR [mO 71 0,mO 72 11,mO 73 0,mO 74 12,mO 75 0,mO 76 12,iO 77 242 75 76,lO 78 245 77,mO 79 0,mO 80 11,iO 81 242 79 80,lO 82 245 81,iO 83 242 71 72,sT 245 83 78,iO 84 242 73 74,sT 245 84 82] [0,1,4,11,12] (sR [mO 85 11,bQ .add 86 3 85 1 3,aO 11 86] [0,1,4,11,12] (.reg [mO 87 12,bQ .sub 88 3 87 1 3,aO 12 88] [0,1,4,11,12])))))))) 
def CH:CC:=sR [aI 10 0] [0,1,2,3,4] (sR [mO 13 0,mO 14 1,mO 15 0,mO 16 3,mO 17 0,mO 18 3,iO 19 242 17 18,lO 20 245 19,mO 21 0,mO 22 1,iO 23 242 21 22,lO 24 245 23,iO 25 242 13 14,sT 245 25 20,iO 26 242 15 16,sT 245 26 24] [0,1,2,4] (sR [mO 27 1,bQ .add 28 3 27 1 3,mO 29 2,bQ .sub 30 3 29 1 3,aO 11 28,aO 12 30] [0,1,4,11,12] (.seq (.block 0 (.loop BG)) (.keep [11] (sR [mO 89 11,aO 10 89] [10] (.ret))))))
theorem Fl:Ba Tryz.prog 277 90 [(.tmp 10)] CH:=Ap Tryz.func277
def A8:CC:=sQ [mO 32 12,mO 33 13,bB .leq 34 3 32 33 3,mO 35 34,mG 36 4 35 true,mG 37 0 35 true,mG 38 12 35 true,oG 39 (iA 242 37 38) 35 true,lG 40 245 39 35 true,mG 41 0 35 true,mG 42 1 35 true,oG 43 (iA 242 41 42) 35 true,lG 44 245 43 35 true,oG 45 (.call { callee:=(.value (xT 36)),args:=#[(xT 40),(xT 44)],argTypes:=#[245,245] }) 35 true,oG 46 (.binOp .lss 3 (xT 45) (nI 0) 3) 35 true,pF 47 35 46] [0,1,4,12,13,47] (cD 47 (.skip) (.exit 0)) [0,1,4,12,13] (.block 1 (.reg [mO 48 12,bQ .add 49 3 48 1 3,aO 12 49] [0,1,4,12,13]))
def A6:CC:=sQ [mO 50 12,mO 51 13,bB .leq 52 3 50 51 3,mO 53 52,mG 54 4 53 true,mG 55 0 53 true,mG 56 13 53 true,oG 57 (iA 242 55 56) 53 true,lG 58 245 57 53 true,mG 59 0 53 true,mG 60 1 53 true,oG 61 (iA 242 59 60) 53 true,lG 62 245 61 53 true,oG 63 (.call { callee:=(.value (xT 54)),args:=#[(xT 58),(xT 62)],argTypes:=#[245,245] }) 53 true,oG 64 (.binOp .lss 3 (xT 63) (nI 0) 3) 53 true,oG 65 (.unOp .not 4 (xT 64)) 53 true,pF 66 53 65] [0,1,4,12,13,66] (cD 66 (.skip) (.exit 2)) [0,1,4,12,13] (.block 3 (.reg [mO 67 13,bQ .sub 68 3 67 1 3,aO 13 68] [0,1,4,12,13]))
def A7:CC:=sQ [mO 105 12,mO 106 13,bB .leq 107 3 105 106 3,mO 108 107,mG 109 4 108 true,mG 110 0 108 true,mG 111 12 108 true,oG 112 (iA 242 110 111) 108 true,lG 113 245 112 108 true,mG 114 0 108 true,mG 115 1 108 true,oG 116 (iA 242 114 115) 108 true,lG 117 245 116 108 true,oG 118 (.call { callee:=(.value (xT 109)),args:=#[(xT 113),(xT 117)],argTypes:=#[245,245] }) 108 true,oG 119 (.binOp .lss 3 (xT 118) (nI 0) 3) 108 true,pF 120 108 119] [0,1,4,12,13,120] (cD 120 (.skip) (.exit 6)) [0,1,4,12,13] (.block 7 (.reg [mO 121 12,bQ .add 122 3 121 1 3,aO 12 122] [0,1,4,12,13]))
def A9:CC:=sQ [mO 123 12,mO 124 13,bB .leq 125 3 123 124 3,mO 126 125,mG 127 4 126 true,mG 128 0 126 true,mG 129 13 126 true,oG 130 (iA 242 128 129) 126 true,lG 131 245 130 126 true,mG 132 0 126 true,mG 133 1 126 true,oG 134 (iA 242 132 133) 126 true,lG 135 245 134 126 true,oG 136 (.call { callee:=(.value (xT 127)),args:=#[(xT 131),(xT 135)],argTypes:=#[245,245] }) 126 true,oG 137 (.binOp .lss 3 (xT 136) (nI 0) 3) 126 true,oG 138 (.unOp .not 4 (xT 137)) 126 true,pF 139 126 138] [0,1,4,12,13,139] (cD 139 (.skip) (.exit 8)) [0,1,4,12,13] (.block 9 (.reg [mO 140 13,bQ .sub 141 3 140 1 3,aO 13 141] [0,1,4,12,13]))
def B5:CC:=.block 5 (.seq (.block 6 (.loop A7)) (.keep [0,1,4,12,13] (.seq (.block 8 (.loop A9)) (.keep [0,1,4,12,13] (sQ [mO 142 12,mO 143 13,bB .gtr 144 3 142 143 3] [0,1,4,12,13,144] (cD 144 (.exit 4) (.skip)) [0,1,4,12,13] (sR [mO 145 0,mO 146 12,mO 147 0,mO 148 13,mO 149 0,mO 150 13,iO 151 242 149 150,lO 152 245 151,mO 153 0,mO 154 12,iO 155 242 153 154,lO 156 245 155,iO 157 242 145 146,sT 245 157 152,iO 158 242 147 148,sT 245 158 156] [0,1,4,12,13] (sR [mO 159 12,bQ .add 160 3 159 1 3,aO 12 160] [0,1,4,12,13] (.reg [mO 161 13,bQ .sub 162 3 161 1 3,aO 13 162] [0,1,4,12,13])))))))) 
def Dm:CC:=sR [aI 10 0,aB 11 false] [0,1,2,3,4] (sR [mO 14 0,mO 15 1,mO 16 0,mO 17 3,mO 18 0,mO 19 3,iO 20 242 18 19,lO 21 245 20,mO 22 0,mO 23 1,iO 24 242 22 23,lO 25 245 24,iO 26 242 14 15,sT 245 26 21,iO 27 242 16 17,sT 245 27 25] [0,1,2,4] (sR [mO 28 1,bQ .add 29 3 28 1 3,mO 30 2,bQ .sub 31 3 30 1 3,aO 12 29,aO 13 31] [0,1,4,12,13] (.seq (.block 0 (.loop A8)) (.keep [0,1,4,12,13] (.seq (.block 2 (.loop A6)) (.keep [0,1,4,12,13] (sQ [mO 69 12,mO 70 13,bB .gtr 71 3 69 70 3] [0,1,4,12,13,71] (cD 71 (sR [mO 72 0,mO 73 13,mO 74 0,mO 75 1,mO 76 0,mO 77 1,iO 78 242 76 77,lO 79 245 78,mO 80 0,mO 81 13,iO 82 242 80 81,lO 83 245 82,iO 84 242 72 73,sT 245 84 79,iO 85 242 74 75,sT 245 85 83] [13] (sR [mO 86 13,aO 10 86,aB 11 true] [10,11] (.ret))) (.skip)) [0,1,4,12,13] (sR [mO 87 0,mO 88 12,mO 89 0,mO 90 13,mO 91 0,mO 92 13,iO 93 242 91 92,lO 94 245 93,mO 95 0,mO 96 12,iO 97 242 95 96,lO 98 245 97,iO 99 242 87 88,sT 245 99 94,iO 100 242 89 90,sT 245 100 98] [0,1,4,12,13] (sR [mO 101 12,bQ .add 102 3 101 1 3,aO 12 102] [0,1,4,12,13] (sR [mO 103 13,bQ .sub 104 3 103 1 3,aO 13 104] [0,1,4,12,13] (.seq (.block 4 (.loop B5)) (.keep [0,1,13] (sR [mO 163 0,mO 164 13,mO 165 0,mO 166 1,mO 167 0,mO 168 1,iO 169 242 167 168,lO 170 245 169,mO 171 0,mO 172 13,iO 173 242 171 172,lO 174 245 173,iO 175 242 163 164,sT 245 175 170,iO 176 242 165 166,sT 245 176 174] [13] (sR [mO 177 13,aO 10 177,aB 11 false] [10,11] (.ret)))))))))))))))
theorem GH:Ba Tryz.prog 278 178 [(.tmp 10),(.tmp 11)] Dm:=Ap Tryz.func278
def BE:CC:=sQ [mO 81 1,bQ .gtr 82 3 81 0 3,mO 83 82,mG 84 4 83 true,mG 85 0 83 true,mG 86 1 83 true,oG 87 (.binOp .sub 3 (xT 86) (nI 1) 3) 83 true,oG 88 (iA 242 85 87) 83 true,lG 89 245 88 83 true,mG 90 0 83 true,mG 91 13 83 true,oG 92 (iA 242 90 91) 83 true,lG 93 245 92 83 true,oG 94 (.call { callee:=(.value (xT 84)),args:=#[(xT 89),(xT 93)],argTypes:=#[245,245] }) 83 true,oG 95 (.binOp .lss 3 (xT 94) (nI 0) 3) 83 true,oG 96 (.unOp .not 4 (xT 95)) 83 true,pF 97 83 96] [0,1,2,3,4,10,11,12,13,97] (cD 97 (sR [mO 98 0,mO 99 1,mO 100 2,mO 101 13,mO 102 4,oO 103 (cL 277 #[(xT 98),(xT 99),(xT 100),(xT 101),(xT 102)] #[242,3,3,3,287]),aO 15 103] [0,2,3,4,10,11,15] (sR [mO 104 15,aO 1 104] [0,1,2,3,4,10,11] (.exit 1))) (.skip)) [0,1,2,3,4,12,13] (sR [mO 106 0,mO 107 1,mO 108 2,mO 109 13,mO 110 4,oO 111 (cL 278 #[(xT 106),(xT 107),(xT 108),(xT 109),(xT 110)] #[242,3,3,3,287]),mO 105 111,xO 112 105 0,xO 113 105 1,aO 16 112,aO 17 113] [0,1,2,3,4,12,16,17] (sR [mO 114 17,aO 11 114] [0,1,2,3,4,11,12,16] (sR [mO 115 16,mO 116 1,bB .sub 117 3 115 116 3,mO 118 2,mO 119 16,bB .sub 120 3 118 119 3,aO 18 117,aO 19 120] [0,1,2,3,4,11,12,16,18,19] (sR [mO 121 12,bQ .quo 122 3 121 8 3,aO 20 122] [0,1,2,3,4,11,16,18,19,20] (sR [mO 123 18,mO 124 19,bB .lss 125 3 123 124 3] [0,1,2,3,4,11,16,18,19,20,125] (cD 125 (sR [mO 126 18,mO 127 20,bB .geq 128 3 126 127 3,aO 10 128] [0,1,2,3,4,10,11,16] (sR [mO 129 0,mO 130 1,mO 131 16,mO 132 3,mO 133 4,oO 134 (cL 264 #[(xT 129),(xT 130),(xT 131),(xT 132),(xT 133)] #[242,3,3,3,287])] [0,2,3,4,10,11,16] (.reg [mO 135 16,bQ .add 136 3 135 1 3,aO 1 136] [0,1,2,3,4,10,11]))) (sR [mO 137 19,mO 138 20,bB .geq 139 3 137 138 3,aO 10 139] [0,1,2,3,4,10,11,16] (sR [mO 140 0,mO 141 16,bQ .add 142 3 141 1 3,mO 143 2,mO 144 3,mO 145 4,oO 146 (cL 264 #[(xT 140),(xT 142),(xT 143),(xT 144),(xT 145)] #[242,3,3,3,287])] [0,1,3,4,10,11,16] (.reg [mO 147 16,aO 2 147] [0,1,2,3,4,10,11])))))))))
def Cj:CC:=sQ [mO 68 10,mO 69 68,mG 70 11 69 true,pF 71 69 70,mO 72 71,mG 73 14 72 true,oG 74 (.binOp .eql 319 (xT 73) (nI 1) 319) 72 true,pF 75 72 74] [0,1,2,3,4,10,11,12,13,75] (cD 75 (sR [mO 76 0,mO 77 1,mO 78 2,mO 79 4,oO 80 (cL 276 #[(xT 76),(xT 77),(xT 78),(xT 79)] #[242,3,3,287])] [0,1,2,3,4,10,11,12,13,80] (cD 80 (.ret) (.skip))) (.skip)) [0,1,2,3,4,10,11,12,13] BE
def Ci:CC:=sR [mO 48 0,mO 49 1,mO 50 2,mO 51 4,oO 52 (cL 274 #[(xT 48),(xT 49),(xT 50),(xT 51)] #[242,3,3,287]),mO 47 52,xO 53 47 0,xO 54 47 1,aO 13 53,aO 14 54] [0,1,2,3,4,10,11,12,13,14] (sQ [mO 55 14,bQ .eql 56 319 55 2 319] [0,1,2,3,4,10,11,12,13,14,56] (cD 56 (sR [mO 57 0,mO 58 1,mO 59 2,mO 60 4,oO 61 (cL 275 #[(xT 57),(xT 58),(xT 59),(xT 60)] #[242,3,3,287])] [0,1,2,3,4,10,11,12,13] (sR [mO 62 2,bQ .sub 63 3 62 1 3,mO 64 13,mO 65 1,bB .sub 66 3 64 65 3,bB .sub 67 3 63 66 3,aO 13 67] [0,1,2,3,4,10,11,12,13] (.reg [aI 14 1] [0,1,2,3,4,10,11,12,13,14]))) (.skip)) [0,1,2,3,4,10,11,12,13,14] Cj)
def AK:CC:=.block 1 (sR [mO 21 2,mO 22 1,bB .sub 23 3 21 22 3,aO 12 23] [0,1,2,3,4,10,11,12] (sQ [mO 24 12,bQ .leq 25 3 24 12 3] [0,1,2,3,4,10,11,12,25] (cD 25 (sR [mO 26 0,mO 27 1,mO 28 2,mO 29 4,oO 30 (cL 271 #[(xT 26),(xT 27),(xT 28),(xT 29)] #[242,3,3,287])] [] (.ret)) (.skip)) [0,1,2,3,4,10,11,12] (sQ [mO 31 3,bQ .eql 32 3 31 0 3] [0,1,2,3,4,10,11,12,32] (cD 32 (sR [mO 33 0,mO 34 1,mO 35 2,mO 36 4,oO 37 (cL 272 #[(xT 33),(xT 34),(xT 35),(xT 36)] #[242,3,3,287])] [] (.ret)) (.skip)) [0,1,2,3,4,10,11,12] (sQ [mO 38 10,oO 39 (.unOp .not 4 (xT 38))] [0,1,2,3,4,10,11,12,39] (cD 39 (sR [mO 40 0,mO 41 1,mO 42 2,mO 43 4,oO 44 (cL 273 #[(xT 40),(xT 41),(xT 42),(xT 43)] #[242,3,3,287])] [0,1,2,3,4,10,11,12] (.reg [mO 45 3,bQ .sub 46 3 45 1 3,aO 3 46] [0,1,2,3,4,10,11,12])) (.skip)) [0,1,2,3,4,10,11,12] Ci)))) 
def DC:CC:=sR [aB 10 true] [0,1,2,3,4,10] (sR [aB 11 true] [0,1,2,3,4,10,11] (.block 0 (.loop AK)))
theorem Hn:Ba Tryz.prog 264 148 [] DC:=Ap Tryz.func264
def C5:CC:=sR [mO 5 0,bN 6 5 242,aO 4 6] [0,1,4] (.reg [mO 7 0,mO 8 4,mO 9 4,oO 10 (.convert 3 269 (xT 9)),cA 11 265 10 269,mO 12 1,oO 13 (cL 264 #[(xT 7),(nI 0),(xT 8),(xT 11),(xT 12)] #[242,3,3,3,287])] [])
theorem Gk:Ba Tryz.prog 241 14 [] C5:=Ap Tryz.func241
@[simp] theorem Aha:DB Tryz.prog 166=some 1:=by kernel_rfl
@[simp] theorem Agc:DB Tryz.prog 171=some 2:=by kernel_rfl
@[simp] theorem Ahs:DB Tryz.prog 211=some 2:=by kernel_rfl
@[simp] theorem AeZ:DQ Tryz.prog 166=some false:=by kernel_rfl
@[simp] theorem Aey:DQ Tryz.prog 171=some true:=by kernel_rfl
@[simp] theorem Aen:DQ Tryz.prog 211=some true:=by kernel_rfl
@[simp] theorem Acu:BU Tryz.prog 166=some (Value.slice none 0 0):=by kernel_rfl
@[simp] theorem Abd:BU Tryz.prog 171=some (Value.agg #[Value.int i64 0,Value.int i64 0]):=by kernel_rfl
@[simp] theorem AbM:BU Tryz.prog 211=some (Value.agg #[Value.int i64 0,Value.int i64 0]):=by kernel_rfl
@[simp] theorem AbC:BU Tryz.prog 221=some (Value.agg #[Value.int i64 0,Value.int i64 0,Value.int i64 0]):=by kernel_rfl
@[simp] theorem Aag:Co Tryz.prog 171=some 16:=by kernel_rfl
@[simp] theorem zq:Co Tryz.prog 211=some 16:=by kernel_rfl
@[simp] theorem qn:An Tryz.prog 171 0=some 0:=by kernel_rfl
@[simp] theorem pZ:An Tryz.prog 171 1=some 1:=by kernel_rfl
@[simp] theorem qz:An Tryz.prog 211 0=some 0:=by kernel_rfl
@[simp] theorem qa:An Tryz.prog 211 1=some 1:=by kernel_rfl
@[simp] theorem qp:An Tryz.prog 219 0=some 0:=by kernel_rfl
@[simp] theorem zi (ps:List (Nat × A)):Cc Tryz.prog 171 ps=(CI (fun i=>([(0,1),(1,1)]:List (Nat × Nat))[i]?) [iv 0,iv 0] ps).map A.agg:=by kernel_rfl
@[simp] theorem z8 (ps:List (Nat × A)):Cc Tryz.prog 211 ps=(CI (fun i=>([(0,1),(1,1)]:List (Nat × Nat))[i]?) [iv 0,iv 0] ps).map A.agg:=by kernel_rfl
@[simp] theorem AaL (ps:List (Nat × A)):Cc Tryz.prog 219 ps=(CI (fun i=>([(0,1)]:List (Nat × Nat))[i]?) [A.sl true []] ps).map A.agg:=by kernel_rfl
def UM:CC:=sR [aI 8 0] [0,1,2,3] (.seq (.block 0 (sR [mO 10 2,mO 11 10,mG 12 3 11 true,pF 13 11 12,aO 9 13] [0,1,2,3,9] (cD 9 (sR [aI 8 0] [8] (.ret)) (sR [mO 15 2,mO 16 15,mG 17 3 16 false,oG 18 (.unOp .not 4 (xT 17)) 16 false,mG 19 18 16 false,mG 20 0 19 true,mG 21 1 19 true,oG 22 (.binOp .sub 3 (xT 21) (nI 1) 3) 19 true,oG 23 (iA 164 20 22) 19 true,lG 24 3 23 19 true,mG 25 0 19 true,mG 26 1 19 true,oG 27 (.binOp .add 3 (xT 26) (nI 1) 3) 19 true,oG 28 (iA 164 25 27) 19 true,lG 29 3 28 19 true,oG 30 (bO .lss 3 24 29 3) 19 true,oG 31 (.pick (xT 19) (xT 30) (nB false)) 16 false,pT 32 16 31,aO 14 32] [0,1,14] (cD 14 (sR [mO 33 0,mO 34 1,bQ .add 35 3 34 1 3,iO 36 164 33 35,lO 37 3 36,aO 8 37] [8] (.ret)) (.skip)))))) (.keep [0,1] (sR [mO 38 0,mO 39 1,bQ .sub 40 3 39 1 3,iO 41 164 38 40,lO 42 3 41,bQ .add 43 3 42 1 3,aO 8 43] [8] (.ret))))
theorem dU:Ba Tryz.prog 219 44 [(.tmp 8)] UM:=Ap Tryz.func219
def GR:CC:=sQ [mO 73 13,mO 74 8,bB .lss 75 3 73 74 3,mO 76 75,mG 77 14 76 true,mG 78 9 76 true,oG 79 (bO .lss 3 77 78 3) 76 true,pF 80 76 79,mO 81 80,mG 82 13 81 true,oG 83 (.binOp .geq 3 (xT 82) (nI 0) 3) 81 true,pF 84 81 83,mO 85 84,mG 86 14 85 true,oG 87 (.binOp .geq 3 (xT 86) (nI 0) 3) 85 true,pF 88 85 87,mO 89 88,mG 90 0 89 true,mG 91 13 89 true,oG 92 (iA 164 90 91) 89 true,lG 93 3 92 89 true,mG 94 1 89 true,mG 95 14 89 true,oG 96 (iA 164 94 95) 89 true,lG 97 3 96 89 true,oG 98 (bO .eql 3 93 97 3) 89 true,pF 99 89 98] [0,1,2,8,9,10,11,12,13,14,99] (cD 99 (.skip) (.exit 4)) [0,1,2,8,9,10,11,12,13,14] (.block 5 (.reg [mO 100 13,bQ .add 101 3 100 1 3,mO 102 14,bQ .add 103 3 102 1 3,aO 13 101,aO 14 103] [0,1,2,8,9,10,11,12,13,14]))
def GY:CC:=sQ [mO 52 12,mO 53 11,bB .leq 54 3 52 53 3] [0,1,2,8,9,10,11,12,54] (cD 54 (.skip) (.exit 2)) [0,1,2,8,9,10,11,12] (.seq (.block 3 (sR [mO 57 10,mO 58 2,bQ .add 59 3 58 1 3,mO 60 12,bB .add 61 3 59 60 3,mO 62 12,mO 63 11,oO 64 (.unOp .neg 3 (xT 63)),bB .eql 65 3 62 64 3,mO 66 12,mO 67 11,bB .eql 68 3 66 67 3,oO 69 (cL 219 #[(xT 57),(xT 61),(xT 65),(xT 68)] #[164,3,4,4]),aO 13 69] [0,1,2,8,9,10,11,12,13] (sR [mO 70 13,mO 71 12,bB .sub 72 3 70 71 3,aO 14 72] [0,1,2,8,9,10,11,12,13,14] (.seq (.block 4 (.loop GR)) (.keep [0,1,2,8,9,10,11,12,13,14] (sR [mO 104 10,mO 105 2,bQ .add 106 3 105 1 3,mO 107 12,bB .add 108 3 106 107 3,mO 109 13,iO 110 164 104 108,sT 3 110 109] [0,1,2,8,9,10,11,12,13,14] (sR [mO 111 13,mO 112 8,bB .geq 113 3 111 112 3,mO 114 113,mG 115 14 114 true,mG 116 9 114 true,oG 117 (bO .geq 3 115 116 3) 114 true,pF 118 114 117] [0,1,2,8,9,10,11,12,118] (cD 118 (sR [mO 119 11,aO 6 119,aB 7 true] [6,7] (.ret)) (.skip))))))))) (.keep [0,1,2,8,9,10,11,12] (.reg [mO 55 12,bQ .add 56 3 55 2 3,aO 12 56] [0,1,2,8,9,10,11,12])))
def GP:CC:=sQ [mO 45 11,mO 46 2,bB .leq 47 3 45 46 3] [0,1,2,8,9,10,11,47] (cD 47 (.skip) (.exit 0)) [0,1,2,8,9,10,11] (.seq (.block 1 (sR [mO 50 11,oO 51 (.unOp .neg 3 (xT 50)),aO 12 51] [0,1,2,8,9,10,11,12] (.block 2 (.loop GY)))) (.keep [0,1,2,8,9,10,11] (.reg [mO 48 11,bQ .add 49 3 48 1 3,aO 11 49] [0,1,2,8,9,10,11]))) 
def Pf:CC:=sR [aI 6 0,aB 7 false] [0,1,2] (sR [mO 15 0,bN 16 15 164,mO 17 1,bN 18 17 164,aO 8 16,aO 9 18] [0,1,2,8,9] (sR [mO 19 2,oO 20 (bC .max #[(xT 19),(.const (.int .i64 (-1)))] #[3,3]),mO 21 8,mO 22 9,bB .add 23 3 21 22 3,oO 24 (bC .min #[(xT 20),(xT 23)] #[3,3]),aO 2 24] [0,1,2,8,9] (sQ [mO 25 2,bQ .lss 26 3 25 0 3,mO 27 26,mG 28 8 27 false,mG 29 9 27 false,oG 30 (bO .sub 3 28 29 3) 27 false,mG 31 2 27 false,oG 32 (bO .gtr 3 30 31 3) 27 false,pT 33 27 32,mO 34 33,mG 35 9 34 false,mG 36 8 34 false,oG 37 (bO .sub 3 35 36 3) 34 false,mG 38 2 34 false,oG 39 (bO .gtr 3 37 38 3) 34 false,pT 40 34 39] [0,1,2,8,9,40] (cD 40 (sR [aI 6 0,aB 7 false] [6,7] (.ret)) (.skip)) [0,1,2,8,9] (sR [mO 41 2,oO 42 (.binOp .mul 3 (nI 2) (xT 41) 3),bQ .add 43 3 42 3 3,oN 44 (.makeSlice 164 (xT 43) (xT 43)) [0],aO 10 44] [0,1,2,8,9,10] (sQ [aI 11 0] [0,1,2,8,9,10,11] (.block 0 (.loop GP)) [] (sR [aI 6 0,aB 7 false] [6,7] (.ret)))))))
theorem X7:Ba Tryz.prog 175 120 [(.tmp 6),(.tmp 7)] Pf:=Ap Tryz.func175
def Q0:CC:=.reg [mO 43 5,mO 44 9,bQ .add 45 3 44 1 3,mO 46 5,mO 47 9,bQ .add 48 3 47 1 3,iO 49 164 46 48,lO 50 3 49,mO 51 5,mO 52 9,iO 53 164 51 52,lO 54 3 53,oO 55 (bC .max #[(xT 50),(xT 54)] #[3,3]),mO 56 11,iO 57 164 43 45,sT 3 57 55,aO 8 56] [1,5,7,8,16,17,18,22,23,24]
def KN:CC:=sR [bB .lss 25 3 24 23 3] [1,5,7,8,16,17,18,22,23,24,25] (.seq (cD 25 (.skip) (.exit 2)) (.keep [1,5,7,8,16,17,18,22,23,24] (.seq (.block 3 (sR [mO 26 24,iO 27 164 22 24,lO 28 3 27,aO 9 26,aO 10 28] [1,5,7,8,9,10,16,17,18,22,23,24] (sR [mO 29 5,mO 30 9,bQ .add 31 3 30 1 3,iO 32 164 29 31,lO 33 3 32,aO 11 33] [1,5,7,8,9,10,11,16,17,18,22,23,24] (sQ [mO 34 7,mO 35 10,bB .eql 36 3 34 35 3] [1,5,7,8,9,11,16,17,18,22,23,24,36] (cD 36 (.reg [mO 37 5,mO 38 9,bQ .add 39 3 38 1 3,mO 40 8,bQ .add 41 3 40 1 3,iO 42 164 37 39,sT 3 42 41] [1,5,7,9,11,16,17,18,22,23,24]) (.skip)) [1,5,7,9,11,16,17,18,22,23,24] Q0)))) (.keep [1,5,7,8,16,17,18,22,23,24] (.reg [bQ .add 58 3 24 1 3,mO 24 58] [1,5,7,8,16,17,18,22,23,24])))))
def Nj:CC:=sR [bB .lss 19 3 18 17 3] [1,5,16,17,18,19] (.seq (cD 19 (.skip) (.exit 0)) (.keep [1,5,16,17,18] (.seq (.block 1 (sR [iO 20 164 16 18,lO 21 3 20,aO 7 21] [1,5,7,16,17,18] (sR [aI 8 0] [1,5,7,8,16,17,18] (sR [mO 22 1,bN 23 22 164,oO 24 (.move (nI 0))] [1,5,7,8,16,17,18,22,23,24] (.block 2 (.loop KN)))))) (.keep [1,5,16,17,18] (.reg [bQ .add 59 3 18 1 3,mO 18 59] [1,5,16,17,18]))))) 
def Zd:CC:=sR [aN 4] [0,1] (sR [mO 12 1,bN 13 12 164,bQ .add 14 3 13 1 3,oN 15 (.makeSlice 164 (xT 14) (xT 14)) [0],aO 5 15] [0,1,5] (sQ [mO 16 0,bN 17 16 164,oO 18 (.move (nI 0))] [1,5,16,17,18] (.block 0 (.loop Nj)) [5] (sR [mO 60 5,aO 4 60] [4] (.ret))))
theorem nQ:Ba Tryz.prog 251 61 [(.tmp 4)] Zd:=Ap Tryz.func251
def IV:CC:=sR [bB .lss 12 3 11 10 3] [0,3,9,10,11,12] (.seq (cD 12 (.skip) (.exit 0)) (.keep [0,3,9,10,11] (.seq (.block 1 (sR [mO 13 11,iO 14 164 9 11,lO 15 3 14,aO 4 13,aO 5 15] [0,3,4,5,9,10,11] (.reg [mO 16 3,mO 17 0,bN 18 17 164,bQ .sub 19 3 18 1 3,mO 20 4,bB .sub 21 3 19 20 3,mO 22 5,iO 23 164 16 21,sT 3 23 22] [0,3,9,10,11]))) (.reg [bQ .add 24 3 11 1 3,mO 11 24] [0,3,9,10,11])))) 
def Sa:CC:=sR [aN 2] [0] (sR [mO 6 0,bN 7 6 164,oN 8 (.makeSlice 164 (xT 7) (xT 7)) [0],aO 3 8] [0,3] (sQ [mO 9 0,bN 10 9 164,oO 11 (.move (nI 0))] [0,3,9,10,11] (.block 0 (.loop IV)) [3] (sR [mO 25 3,aO 2 25] [2] (.ret))))
theorem bJ:Ba Tryz.prog 252 26 [(.tmp 2)] Sa:=Ap Tryz.func252
def JU:CC:=sR [bB .lss 26 3 25 24 3] [1,7,8,9,24,25,26] (.seq (cD 26 (.skip) (.exit 0)) (.keep [1,7,8,9,24,25] (.seq (.block 1 (sR [mO 27 25,aO 10 27] [1,7,8,9,10,24,25] (sR [mO 28 7,mO 29 10,iO 30 164 28 29,lO 31 3 30,mO 32 8,mO 33 1,bN 34 33 164,mO 35 10,bB .sub 36 3 34 35 3,iO 37 164 32 36,lO 38 3 37,bB .add 39 3 31 38 3,mO 40 7,mO 41 9,iO 42 164 40 41,lO 43 3 42,mO 44 8,mO 45 1,bN 46 45 164,mO 47 9,bB .sub 48 3 46 47 3,iO 49 164 44 48,lO 50 3 49,bB .add 51 3 43 50 3,bB .gtr 52 3 39 51 3] [1,7,8,9,10,24,25,52] (cD 52 (.reg [mO 53 10,aO 9 53] [1,7,8,9,24,25]) (.skip))))) (.keep [1,7,8,9,24,25] (.reg [bQ .add 54 3 25 1 3,mO 25 54] [1,7,8,9,24,25]))))) 
def Vw:CC:=sR [aI 6 0] [0,1,2] (sR [mO 11 0,mO 12 2,oO 13 (.slice 164 (xT 11) none (some (xT 12)) none),mO 14 1,cB 15 251 13 14 164 164,mO 16 0,mO 17 2,oO 18 (.slice 164 (xT 16) (some (xT 17)) none none),cA 19 252 18 164,mO 20 1,cA 21 252 20 164,cB 22 251 19 21 164 164,aO 7 15,aO 8 22] [1,7,8] (sR [aI 9 0] [1,7,8,9] (sQ [mO 23 7,bN 24 23 164,oO 25 (.move (nI 0))] [1,7,8,9,24,25] (.block 0 (.loop JU)) [9] (sR [mO 55 9,aO 6 55] [6] (.ret)))))
theorem gP:Ba Tryz.prog 222 56 [(.tmp 6)] Vw:=Ap Tryz.func222
def Mw:CC:=sR [mO 6 2,bQ .gtr 7 3 6 0 3] [0,1,2,7] (cD 7 (.reg [mO 8 0,mO 9 0,nC 10 9,fO 11 219 10 0,lO 12 166 11,mO 13 1,mO 14 2,oO 15 (.build 171 #[(0,(xT 13)),(1,(xT 14))]),oO 16 (.buildSlice 166 1 #[(0,(xT 15))]),aP 17 12 16 166 166 [1],nC 18 8,fO 19 219 18 0,sT 166 19 17] []) (.skip))
theorem TT:Ba Tryz.prog 220 20 [] Mw:=Ap Tryz.func220
def Fw:CC:=sR [bB .lss 11 3 10 9 3] [0,1,2,8,9,10,11] (.seq (cD 11 (.skip) (.exit 0)) (.keep [0,1,2,8,9,10] (.seq (.block 1 (sR [mO 12 10,iO 13 164 8 10,lO 14 3 13,aO 6 12,aO 7 14] [0,1,2,6,7,8,9,10] (sR [mO 15 1,mO 16 7,bB .eql 17 3 15 16 3] [0,1,2,6,8,9,10,17] (cD 17 (sR [mO 18 0,mO 19 6,oO 20 (cL 220 #[(xT 18),(nI 2),(xT 19)] #[217,3,3])] [0,2,6] (sR [mO 21 0,oO 22 (cL 220 #[(xT 21),(nI 0),(nI 1)] #[217,3,3])] [0,2,6] (sR [mO 23 0,mO 24 2,bN 25 24 164,mO 26 6,bB .sub 27 3 25 26 3,bQ .sub 28 3 27 1 3,oO 29 (cL 220 #[(xT 23),(nI 2),(xT 28)] #[217,3,3])] [] (.ret)))) (.skip))))) (.keep [0,1,2,8,9,10] (.reg [bQ .add 30 3 10 1 3,mO 10 30] [0,1,2,8,9,10]))))) 
def Mt:CC:=sQ [mO 8 2,bN 9 8 164,oO 10 (.move (nI 0))] [0,1,2,8,9,10] (.block 0 (.loop Fw)) [0,2] (sR [mO 31 0,oO 32 (cL 220 #[(xT 31),(nI 1),(nI 1)] #[217,3,3])] [0,2] (.reg [mO 33 0,mO 34 2,bN 35 34 164,oO 36 (cL 220 #[(xT 33),(nI 2),(xT 35)] #[217,3,3])] []))
theorem Uc:Ba Tryz.prog 221 37 [] Mt:=Ap Tryz.func221
def D3:CC:=.block 0 (sR [mO 32 1,bN 33 32 164,bQ .eql 34 3 33 0 3,mO 35 34,mG 36 2 35 false,oG 37 (bL 36 164) 35 false,oG 38 (.binOp .eql 3 (xT 37) (nI 0) 3) 35 false,pT 39 35 38,aO 31 39] [0,1,2,31] (cD 31 (sR [mO 40 0,mO 41 1,bN 42 41 164,oO 43 (cL 220 #[(xT 40),(nI 1),(xT 42)] #[217,3,3])] [0,2] (.reg [mO 44 0,mO 45 2,bN 46 45 164,oO 47 (cL 220 #[(xT 44),(nI 2),(xT 46)] #[217,3,3])] [])) (sR [mO 49 1,bN 50 49 164,bQ .eql 51 3 50 1 3,aO 48 51] [0,1,2,48] (cD 48 (.reg [mO 52 0,mO 53 1,oO 54 (.indexAddr 164 (xT 53) (nI 0)),lO 55 3 54,mO 56 2,cE 57 221 52 55 56 217 3 164] []) (sR [mO 8 1,bN 9 8 164,bQ .quo 10 3 9 2 3,aO 6 10] [0,1,2,6] (sR [mO 11 1,mO 12 2,mO 13 6,cE 14 222 11 12 13 164 164 3,aO 7 14] [0,1,2,6,7] (sR [mO 15 0,mO 16 1,mO 17 6,oO 18 (.slice 164 (xT 16) none (some (xT 17)) none),mO 19 2,mO 20 7,oO 21 (.slice 164 (xT 19) none (some (xT 20)) none),cE 22 176 15 18 21 217 164 164] [0,1,2,6,7] (.reg [mO 23 0,mO 24 1,mO 25 6,oO 26 (.slice 164 (xT 24) (some (xT 25)) none none),mO 27 2,mO 28 7,oO 29 (.slice 164 (xT 27) (some (xT 28)) none none),cE 30 176 23 26 29 217 164 164] []))))))))
theorem Fy:Ba Tryz.prog 176 58 [] D3:=Ap Tryz.func176
def JJ:CC:=sR [bX 1 171 0 [0],aB 2 false] [1] (sR [fO 3 171 1 0,lO 4 3 3,bQ .geq 5 3 4 0 3,mO 6 5,fG 7 171 1 0 6 true,lG 8 3 7 6 true,oG 9 (.binOp .leq 3 (xT 8) (nI 2) 3) 6 true,pF 10 6 9,mO 11 10,fG 12 171 1 1 11 true,lG 13 3 12 11 true,oG 14 (.binOp .geq 3 (xT 13) (nI 1) 3) 11 true,pF 15 11 14,mO 16 15,fG 17 171 1 1 16 true,lG 18 3 17 16 true,oG 19 (.binOp .leq 3 (xT 18) (nI 1048576) 3) 16 true,pF 20 16 19,aO 2 20] [2] (.ret))
theorem PX:Ba Tryz.prog 178 21 [(.tmp 2)] JJ:=Ap Tryz.func178
def EX:CC:=sR [bB .lss 9 3 8 7 3] [1,2,6,7,8,9] (.seq (cD 9 (.skip) (.exit 0)) (.keep [1,2,6,7,8] (.seq (.block 1 (sR [iO 10 164 6 8,lO 11 3 10,aO 5 11] [1,2,5,6,7,8] (sQ [mO 12 5,iO 13 221 1 12,lO 14 3 13,bQ .gtr 15 3 14 0 3] [1,2,5,6,7,8,15] (cD 15 (.reg [lS 16 166 2 0,mO 17 5,mO 18 5,iO 19 221 1 18,lO 20 3 19,oO 21 (.build 171 #[(0,(xT 17)),(1,(xT 20))]),⟨some 22,(.buildSlice 166 1 #[(0,(xT 21))]),none,[],6,[0],false⟩,aP 23 16 22 166 166 [1],sT 166 2 23] [1,2,5,6,7,8]) (.skip)) [1,2,5,6,7,8] (.reg [mO 24 5,iO 25 221 1 24,oS (.store 3 (xT 25) (nI 0))] [1,2,6,7,8])))) (.keep [1,2,6,7,8] (.reg [bQ .add 26 3 8 1 3,mO 8 26] [1,2,6,7,8]))))) 
def LC:CC:=sR [mO 6 0,bN 7 6 164,oO 8 (.move (nI 0))] [1,2,6,7,8] (.block 0 (.loop EX))
theorem SQ:Ba Tryz.prog 177 27 [] LC:=Ap Tryz.func177
def Gb:CC:=.reg [fO 29 171 7 0,lO 30 3 29,iO 31 221 4 30,lO 32 3 31,fO 33 171 7 1,lO 34 3 33,bB .add 35 3 32 34 3,iO 36 221 4 30,sT 3 36 35] [3,4,5,9,10,11]
def Ew:CC:=sR [bB .lss 12 3 11 10 3] [3,4,5,9,10,11,12] (.seq (cD 12 (.skip) (.exit 0)) (.keep [3,4,5,9,10,11] (.seq (.block 1 (sR [iO 13 166 9 11,lO 14 171 13,aL 7 171 [2],sT 171 7 14] [3,4,5,7,9,10,11] (.seq (.block 2 (sR [lO 19 171 7,cA 20 178 19 171,oO 21 (.unOp .not 4 (xT 20)),aO 18 21] [3,4,5,7,9,10,11,18] (cD 18 (.exit 1) (sR [fO 23 171 7 0,lO 24 3 23,bQ .eql 25 3 24 0 3,aO 22 25] [3,4,5,7,9,10,11,22] (cD 22 (.reg [mO 26 5,oO 27 (.buildSlice 164 2 #[(0,(nI 1)),(1,(nI 2))]),oO 28 (.call { callee:=(.value (xT 26)),args:=#[(xT 27)],argTypes:=#[164] })] [3,4,5,7,9,10,11]) (.reg [mO 15 5,oO 16 (.buildSlice 164 1 #[(0,(nI 0))]),oO 17 (.call { callee:=(.value (xT 15)),args:=#[(xT 16)],argTypes:=#[164] })] [3,4,5,7,9,10,11])))))) (.keep [3,4,5,7,9,10,11] Gb)))) (.keep [3,4,5,9,10,11] (.reg [bQ .add 37 3 11 1 3,mO 11 37] [3,4,5,9,10,11]))))) 
def NU:CC:=sR [aN 2] [0] (sR [aL 3 166 [0]] [0,3] (sR [aL 4 221 [0,1]] [0,3,4] (sR [oO 8 (.makeFunc (.func 177) #[] #[(xT 4),(xT 3)]),aO 5 8] [0,3,4,5] (sQ [mO 9 0,bN 10 9 166,oO 11 (.move (nI 0))] [3,4,5,9,10,11] (.block 0 (.loop Ew)) [3,5] (sR [mO 38 5,oO 39 (.buildSlice 164 3 #[(0,(nI 0)),(1,(nI 1)),(2,(nI 2))]),oO 40 (.call { callee:=(.value (xT 38)),args:=#[(xT 39)],argTypes:=#[164] })] [3] (sR [lO 41 166 3,aO 2 41] [2] (.ret)))))))
theorem VQ:Ba Tryz.prog 120 42 [(.tmp 2)] NU:=Ap Tryz.func120
def WX:CC:=sR [aN 6,aB 7 false] [0,1,2] (sQ [mO 12 0,mO 13 1,mO 14 2,cE 15 175 12 13 14 164 164 3,mO 11 15,xO 16 11 0,xO 17 11 1,aO 8 16,aO 9 17] [0,1,9] (sR [mO 18 9,oO 19 (.unOp .not 4 (xT 18))] [0,1,19] (cD 19 (sR [aN 6,aB 7 false] [6,7] (.ret)) (.skip))) [0,1] (sR [oO 20 (.build 219 #[]),bX 21 219 20 [0],aO 10 21] [0,1,10] (.stop (sR [mO 22 10,mO 23 0,mO 24 1,cE 25 176 22 23 24 217 164 164] [10] (sR [mO 26 10,nC 27 26,fO 28 219 27 0,lO 29 166 28,cA 30 120 29 166,aO 6 30,aB 7 true] [6,7] (.ret))))))
theorem js:Ba Tryz.prog 119 31 [(.tmp 6),(.tmp 7)] WX:=Ap Tryz.func119
def Gs:CC:=sQ [mO 58 0,mO 59 6,bQ .sub 60 3 59 1 3,iO 61 164 58 60,lO 62 3 61,mO 63 1,mO 64 7,bQ .sub 65 3 64 1 3,iO 66 164 63 65,lO 67 3 66,bB .eql 68 3 62 67 3] [0,1,5,6,7,8,68] (cD 68 (.reg [mO 69 5,mO 70 6,bQ .sub 71 3 70 1 3,iO 72 240 69 71,lO 73 164 72,mO 74 7,bQ .sub 75 3 74 1 3,iO 76 164 73 75,lO 77 3 76,bQ .add 78 3 77 1 3,aO 8 78] [0,1,5,6,7,8]) (.skip)) [0,1,5,6,7,8] (.reg [mO 79 5,mO 80 6,iO 81 240 79 80,lO 82 164 81,mO 83 7,mO 84 8,iO 85 164 82 83,sT 3 85 84] [0,1,5,6,7])
def BL:CC:=sQ [mO 22 7,mO 23 1,bN 24 23 164,bB .leq 25 3 22 24 3,mO 26 25,mG 27 6 26 true,oG 28 (.binOp .gtr 3 (xT 27) (nI 0) 3) 26 true,pF 29 26 28] [0,1,5,6,7,29] (cD 29 (.skip) (.exit 2)) [0,1,5,6,7] (.seq (.block 3 (sR [mO 32 5,mO 33 6,bQ .sub 34 3 33 1 3,iO 35 240 32 34,lO 36 164 35,mO 37 7,iO 38 164 36 37,lO 39 3 38,aO 8 39] [0,1,5,6,7,8] (sQ [mO 40 5,mO 41 6,iO 42 240 40 41,lO 43 164 42,mO 44 7,bQ .sub 45 3 44 1 3,iO 46 164 43 45,lO 47 3 46,mO 48 8,bB .gtr 49 3 47 48 3] [0,1,5,6,7,8,49] (cD 49 (.reg [mO 50 5,mO 51 6,iO 52 240 50 51,lO 53 164 52,mO 54 7,bQ .sub 55 3 54 1 3,iO 56 164 53 55,lO 57 3 56,aO 8 57] [0,1,5,6,7,8]) (.skip)) [0,1,5,6,7,8] Gs))) (.keep [0,1,5,6,7] (.reg [mO 30 7,bQ .add 31 3 30 1 3,aO 7 31] [0,1,5,6,7])))
def Dg:CC:=sQ [mO 9 6,mO 10 0,bN 11 10 164,bB .leq 12 3 9 11 3] [0,1,5,6,12] (cD 12 (.skip) (.exit 0)) [0,1,5,6] (.seq (.block 1 (sR [mO 15 5,mO 16 1,bN 17 16 164,bQ .add 18 3 17 1 3,oN 19 (.makeSlice 164 (xT 18) (xT 18)) [0],oN 20 (.buildSlice 240 1 #[(0,(xT 19))]) [2],aP 21 15 20 240 240 [1],aO 5 21] [0,1,5,6] (sR [aI 7 1] [0,1,5,6,7] (.block 2 (.loop BL))))) (.keep [0,1,5,6] (.reg [mO 13 6,bQ .add 14 3 13 1 3,aO 6 14] [0,1,5,6]))) 
def KF:CC:=sR [aN 4] [0,1] (sR [aN 5] [0,1,5] (sQ [aI 6 0] [0,1,5,6] (.block 0 (.loop Dg)) [5] (sR [mO 86 5,aO 4 86] [4] (.ret))))
theorem Rk:Ba Tryz.prog 246 87 [(.tmp 4)] KF:=Ap Tryz.func246
def JI:CC:=sR [aI 4 0] [0,1] (sR [mO 5 0,mO 6 1,cB 7 246 5 6 164 164,mO 8 0,bN 9 8 164,iO 10 240 7 9,lO 11 164 10,mO 12 1,bN 13 12 164,iO 14 164 11 13,lO 15 3 14,aO 4 15] [4] (.ret))
theorem PU:Ba Tryz.prog 212 16 [(.tmp 4)] JI:=Ap Tryz.func212
def DK:CC:=sQ [mO 8 4,bQ .geq 9 3 8 0 3] [0,3,4,9] (cD 9 (.skip) (.exit 0)) [0,3,4] (.seq (.block 1 (.reg [mO 12 3,mO 13 0,mO 14 4,iO 15 164 13 14,lO 16 3 15,oO 17 (.buildSlice 164 1 #[(0,(xT 16))]),aP 18 12 17 164 164 [0],aO 3 18] [0,3,4])) (.reg [mO 10 4,bQ .sub 11 3 10 1 3,aO 4 11] [0,3,4])) 
def JE:CC:=sR [aN 2] [0] (sR [aN 3] [0,3] (sQ [mO 5 0,bN 6 5 164,bQ .sub 7 3 6 1 3,aO 4 7] [0,3,4] (.block 0 (.loop DK)) [3] (sR [mO 19 3,aO 2 19] [2] (.ret))))
theorem P9:Ba Tryz.prog 247 20 [(.tmp 2)] JE:=Ap Tryz.func247
def DV:CC:=sQ [mO 24 9,mO 25 1,bN 26 25 164,bB .lss 27 3 24 26 3,mO 28 27,mG 29 5 28 true,mG 30 8 28 true,oG 31 (iA 240 29 30) 28 true,lG 32 164 31 28 true,mG 33 9 28 true,oG 34 (iA 164 32 33) 28 true,lG 35 3 34 28 true,mG 36 6 28 true,mG 37 0 28 true,oG 38 (bL 37 164) 28 true,mG 39 8 28 true,oG 40 (bO .sub 3 38 39 3) 28 true,oG 41 (iA 240 36 40) 28 true,lG 42 164 41 28 true,mG 43 1 28 true,oG 44 (bL 43 164) 28 true,mG 45 9 28 true,oG 46 (bO .sub 3 44 45 3) 28 true,oG 47 (iA 164 42 46) 28 true,lG 48 3 47 28 true,oG 49 (bO .add 3 35 48 3) 28 true,mG 50 5 28 true,mG 51 0 28 true,oG 52 (bL 51 164) 28 true,oG 53 (iA 240 50 52) 28 true,lG 54 164 53 28 true,mG 55 1 28 true,oG 56 (bL 55 164) 28 true,oG 57 (iA 164 54 56) 28 true,lG 58 3 57 28 true,oG 59 (bO .lss 3 49 58 3) 28 true,pF 60 28 59] [0,1,5,6,7,8,9,60] (cD 60 (.skip) (.exit 2)) [0,1,5,6,7,8,9] (.block 3 (.reg [mO 61 9,bQ .add 62 3 61 1 3,aO 9 62] [0,1,5,6,7,8,9]))
def FD:CC:=sQ [mO 18 8,mO 19 0,bN 20 19 164,bB .leq 21 3 18 20 3] [0,1,5,6,7,8,21] (cD 21 (.skip) (.exit 0)) [0,1,5,6,7,8] (.seq (.block 1 (sR [aI 9 0] [0,1,5,6,7,8,9] (.seq (.block 2 (.loop DV)) (.keep [0,1,5,6,7,8,9] (.reg [mO 63 7,mO 64 9,oO 65 (.buildSlice 164 1 #[(0,(xT 64))]),aP 66 63 65 164 164 [0],aO 7 66] [0,1,5,6,7,8]))))) (.keep [0,1,5,6,7,8] (.reg [mO 22 8,bQ .add 23 3 22 1 3,aO 8 23] [0,1,5,6,7,8]))) 
def MA:CC:=sR [aN 4] [0,1] (sR [mO 10 0,mO 11 1,cB 12 246 10 11 164 164,mO 13 0,cA 14 247 13 164,mO 15 1,cA 16 247 15 164,cB 17 246 14 16 164 164,aO 5 12,aO 6 17] [0,1,5,6] (sR [aN 7] [0,1,5,6,7] (sQ [aI 8 0] [0,1,5,6,7,8] (.block 0 (.loop FD)) [7] (sR [mO 67 7,aO 4 67] [4] (.ret)))))
theorem TZ:Ba Tryz.prog 213 68 [(.tmp 4)] MA:=Ap Tryz.func213
def Kp:CC:=sR [bX 1 211 0 [0],aB 2 false] [1] (sR [fO 3 211 1 0,lO 4 3 3,bQ .geq 5 3 4 0 3,mO 6 5,fG 7 211 1 0 6 true,lG 8 3 7 6 true,oG 9 (.binOp .leq 3 (xT 8) (nI 2) 3) 6 true,pF 10 6 9,mO 11 10,fG 12 211 1 1 11 true,lG 13 3 12 11 true,oG 14 (.binOp .geq 3 (xT 13) (nI 1) 3) 11 true,pF 15 11 14,mO 16 15,fG 17 211 1 1 16 true,lG 18 3 17 16 true,oG 19 (.binOp .leq 3 (xT 18) (nI 1048576) 3) 16 true,pF 20 16 19,aO 2 20] [2] (.ret))
theorem QL:Ba Tryz.prog 248 21 [(.tmp 2)] Kp:=Ap Tryz.func248
def Iw:CC:=sR [bX 3 211 1 [5],aN 4] [0,3] (sQ [fO 7 211 3 1,lO 8 3 7,bQ .eql 9 3 8 0 3] [0,3,9] (cD 9 (sR [mO 10 0,aO 4 10] [4] (.ret)) (.skip)) [0,3] (sR [mO 11 0,bN 12 11 208,aO 5 12] [0,3,5] (sQ [mO 13 5,bQ .gtr 14 3 13 0 3,mO 15 14,mG 16 0 15 true,mG 17 5 15 true,oG 18 (.binOp .sub 3 (xT 17) (nI 1) 3) 15 true,oG 19 (iA 208 16 18) 15 true,fG 20 211 19 0 15 true,lG 21 3 20 15 true,fG 22 211 3 0 15 true,lG 23 3 22 15 true,oG 24 (bO .eql 3 21 23 3) 15 true,pF 25 15 24] [0,3,5,25] (cD 25 (sR [aN 6] [0,3,5,6] (sR [mO 26 6,mO 27 0,aP 28 26 27 208 208 [1],aO 6 28] [3,5,6] (sR [mO 29 6,mO 30 5,bQ .sub 31 3 30 1 3,mO 32 6,mO 33 5,bQ .sub 34 3 33 1 3,iO 35 208 32 34,fO 36 211 35 1,lO 37 3 36,fO 38 211 3 1,lO 39 3 38,bB .add 40 3 37 39 3,iO 41 208 29 31,fO 42 211 41 1,sT 3 42 40] [6] (sR [mO 43 6,aO 4 43] [4] (.ret))))) (.skip)) [0,3] (sR [mO 44 0,lO 45 211 3,oO 46 (.buildSlice 208 1 #[(0,(xT 45))]),aP 47 44 46 208 208 [3],aO 4 47] [4] (.ret)))))
theorem Nb:Ba Tryz.prog 249 48 [(.tmp 4)] Iw:=Ap Tryz.func249
def CY:CC:=sQ [mO 7 6,mO 8 0,bN 9 8 208,bB .leq 10 3 7 9 3] [0,3,4,5,6,10] (cD 10 (.skip) (.exit 0)) [0,3,4,5,6] (.seq (.block 1 (sQ [mO 13 6,mO 14 0,bN 15 14 208,bB .lss 16 3 13 15 3,mO 17 16,mG 18 0 17 true,mG 19 6 17 true,oG 20 (iA 208 18 19) 17 true,lG 21 211 20 17 true,oG 22 (cL 248 #[(xT 21)] #[211]) 17 true,oG 23 (.unOp .not 4 (xT 22)) 17 true,pF 24 17 23] [0,3,4,5,6,24] (cD 24 (.exit 1) (.skip)) [0,3,4,5,6] (sQ [mO 25 6,mO 26 0,bN 27 26 208,bB .lss 28 3 25 27 3,mO 29 28,mG 30 0 29 true,mG 31 6 29 true,oG 32 (iA 208 30 31) 29 true,fG 33 211 32 0 29 true,lG 34 3 33 29 true,oG 35 (.binOp .eql 3 (xT 34) (nI 1) 3) 29 true,pF 36 29 35] [0,3,4,5,6,36] (cD 36 (sR [mO 37 4,mO 38 0,mO 39 6,iO 40 208 38 39,fO 41 211 40 1,lO 42 3 41,bB .add 43 3 37 42 3,aO 4 43] [0,3,4,5,6] (.exit 1)) (.skip)) [0,3,4,5,6] (sQ [mO 44 6,mO 45 0,bN 46 45 208,bB .lss 47 3 44 46 3,mO 48 47,mG 49 0 48 true,mG 50 6 48 true,oG 51 (iA 208 49 50) 48 true,fG 52 211 51 0 48 true,lG 53 3 52 48 true,oG 54 (.binOp .eql 3 (xT 53) (nI 2) 3) 48 true,pF 55 48 54] [0,3,4,5,6,55] (cD 55 (sR [mO 56 5,mO 57 0,mO 58 6,iO 59 208 57 58,fO 60 211 59 1,lO 61 3 60,bB .add 62 3 56 61 3,aO 5 62] [0,3,4,5,6] (.exit 1)) (.skip)) [0,3,4,5,6] (sR [mO 63 3,mO 64 4,oO 65 (.build 211 #[(0,(nI 1)),(1,(xT 64))]),cB 66 249 63 65 208 211,aO 3 66] [0,3,5,6] (sR [mO 67 3,mO 68 5,oO 69 (.build 211 #[(0,(nI 2)),(1,(xT 68))]),cB 70 249 67 69 208 211,aO 3 70] [0,3,6] (sR [aI 4 0] [0,3,4,6] (sR [aI 5 0] [0,3,4,5,6] (sR [mO 71 6,mO 72 0,bN 73 72 208,bB .lss 74 3 71 73 3] [0,3,4,5,6,74] (cD 74 (.reg [mO 75 3,mO 76 0,mO 77 6,iO 78 208 76 77,lO 79 211 78,cB 80 249 75 79 208 211,aO 3 80] [0,3,4,5,6]) (.skip))))))))))) (.keep [0,3,4,5,6] (.reg [mO 11 6,bQ .add 12 3 11 1 3,aO 6 12] [0,3,4,5,6]))) 
def Jx:CC:=sR [aN 2] [0] (sR [aN 3] [0,3] (sR [aI 4 0,aI 5 0] [0,3,4,5] (sQ [aI 6 0] [0,3,4,5,6] (.block 0 (.loop CY)) [3] (sR [mO 81 3,aO 2 81] [2] (.ret)))))
theorem Qc:Ba Tryz.prog 214 82 [(.tmp 2)] Jx:=Ap Tryz.func214
def E9:CC:=sQ [mO 32 10,mO 33 0,bN 34 33 164,bB .lss 35 3 32 34 3] [0,1,8,9,10,35] (cD 35 (.skip) (.exit 0)) [0,1,8,9,10] (.seq (.block 1 (sR [mO 38 8,mO 39 10,bQ .add 40 3 39 1 3,iO 41 164 38 40,lO 42 3 41,mO 43 8,mO 44 10,iO 45 164 43 44,lO 46 3 45,bB .sub 47 3 42 46 3,aO 11 47] [0,1,8,9,10,11] (sR [mO 48 11,bQ .gtr 49 3 48 0 3] [0,1,8,9,10,11,49] (cD 49 (.reg [mO 50 9,mO 51 11,bQ .sub 52 3 51 1 3,oO 53 (.build 211 #[(0,(nI 2)),(1,(xT 52))]),oO 54 (.build 211 #[(0,(nI 0)),(1,(nI 1))]),oO 55 (.buildSlice 208 2 #[(0,(xT 53)),(1,(xT 54))]),aP 56 50 55 208 208 [0],aO 9 56] [0,1,8,9,10]) (.reg [mO 57 9,oO 58 (.build 211 #[(0,(nI 1)),(1,(nI 1))]),oO 59 (.buildSlice 208 1 #[(0,(xT 58))]),aP 60 57 59 208 208 [1],aO 9 60] [0,1,8,9,10]))))) (.keep [0,1,8,9,10] (.reg [mO 36 10,bQ .add 37 3 36 1 3,aO 10 37] [0,1,8,9,10]))) 
def LZ:CC:=sR [aN 6,aB 7 false] [0,1,2] (sQ [mO 12 0,bN 13 12 164,mO 14 1,bN 15 14 164,bB .add 16 3 13 15 3,mO 17 0,mO 18 1,cB 19 212 17 18 164 164,oO 20 (.binOp .mul 3 (nI 2) (xT 19) 3),bB .sub 21 3 16 20 3,mO 22 2,bB .gtr 23 3 21 22 3] [0,1,23] (cD 23 (sR [aN 6,aB 7 false] [6,7] (.ret)) (.skip)) [0,1] (sR [mO 24 0,mO 25 1,cB 26 213 24 25 164 164,aO 8 26] [0,1,8] (sR [mO 27 8,oO 28 (.indexAddr 164 (xT 27) (nI 0)),lO 29 3 28,oO 30 (.build 211 #[(0,(nI 2)),(1,(xT 29))]),oN 31 (.buildSlice 208 1 #[(0,(xT 30))]) [0],aO 9 31] [0,1,8,9] (sQ [aI 10 0] [0,1,8,9,10] (.block 0 (.loop E9)) [0,1,8,9] (sR [mO 61 9,mO 62 1,bN 63 62 164,mO 64 8,mO 65 0,bN 66 65 164,iO 67 164 64 66,lO 68 3 67,bB .sub 69 3 63 68 3,oO 70 (.build 211 #[(0,(nI 2)),(1,(xT 69))]),oO 71 (.buildSlice 208 1 #[(0,(xT 70))]),aP 72 61 71 208 208 [2],cA 73 214 72 208,aO 6 73,aB 7 true] [6,7] (.ret))))))
theorem TA:Ba Tryz.prog 166 74 [(.tmp 6),(.tmp 7)] LZ:=Ap Tryz.func166
@[simp] theorem qg:An Tryz.prog 152 0=some 0:=by kernel_rfl
@[simp] theorem qi:An Tryz.prog 152 1=some 1:=by kernel_rfl
@[simp] theorem qk:An Tryz.prog 152 2=some 2:=by kernel_rfl
@[simp] theorem qc:An Tryz.prog 163 0=some 0:=by kernel_rfl
@[simp] theorem yT (ps:List (Nat × A)):Cc Tryz.prog 152 ps=(CI (fun i=>([(0,1),(1,1),(2,1)]:List (Nat × Nat))[i]?) [A.sl true [],A.sl true [],A.sl true []] ps).map A.agg:=by kernel_rfl
@[simp] theorem Aay (ps:List (Nat × A)):Cc Tryz.prog 163 ps=(CI (fun i=>([(0,1)]:List (Nat × Nat))[i]?) [A.sl true []] ps).map A.agg:=by kernel_rfl
def IW:CC:=sR [bQ .lss 6 3 5 8 3] [0,2,3,5,6] (.seq (cD 6 (.skip) (.exit 0)) (.keep [0,2,3,5] (.seq (.block 1 (sR [mO 7 5,aO 4 7] [0,2,3,4,5] (.reg [mO 8 4,mO 9 0,mO 10 4,oO 11 (.binOp .mul 3 (nI 8) (xT 10) 3),bB .shr 12 51 9 11 3,oO 13 (.convert 51 5 (xT 12)),iO 14 249 3 8,sT 5 14 13] [0,2,3,5]))) (.reg [bQ .add 15 3 5 1 3,mO 5 15] [0,2,3,5])))) 
def SU:CC:=sR [aL 2 249 [0]] [0,2] (sR [aL 3 249 [1]] [0,2,3] (sQ [oO 5 (.move (nI 0))] [0,2,3,5] (.block 0 (.loop IW)) [2,3] (sR [lO 16 249 3,sT 249 2 16] [2] (.ret))))
theorem aX:Ba Tryz.prog 217 17 [(.cell 2 249)] SU:=Ap Tryz.func217
def HK:CC:=sR [bQ .lss 13 3 12 8 3] [5,11,12,13] (.seq (cD 13 (.skip) (.exit 0)) (.keep [5,11,12] (.seq (.block 1 (sR [mO 14 12,oO 15 (.index 249 (xT 11) (xT 12)),aO 6 14,aO 7 15] [5,6,7,11,12] (sR [mO 16 7,oO 17 (.binOp .neq 5 (xT 16) (.const (.int .u8 0)) 5)] [5,6,11,12,17] (cD 17 (.reg [mO 18 5,mO 19 6,oO 20 (.binOp .shl 5 (.const (.int .u8 1)) (xT 19) 3),bB .or 21 5 18 20 5,aO 5 21] [5,11,12]) (.skip))))) (.keep [5,11,12] (.reg [bQ .add 22 3 12 1 3,mO 12 22] [5,11,12]))))) 
def Qy:CC:=sR [oO 4 (.assign (.const (.int .u8 0)))] [0,1] (sR [oO 5 (.assign (.const (.int .u8 0)))] [0,1,5] (sQ [mO 8 0,mO 9 1,bB .xor 10 51 8 9 51,cA 11 217 10 51,oO 12 (.move (nI 0))] [5,11,12] (.block 0 (.loop HK)) [5] (sR [mO 23 5,aO 4 23] [4] (.ret))))
theorem YS:Ba Tryz.prog 173 24 [(.tmp 4)] Qy:=Ap Tryz.func173
def D5:CC:=sQ [mO 14 9,bQ .lss 15 3 14 8 3] [5,6,7,8,9,15] (cD 15 (.skip) (.exit 0)) [5,6,7,8,9] (.seq (.block 1 (sQ [mO 18 9,iO 19 249 5 18,lO 20 5 19,mO 21 9,iO 22 249 6 21,lO 23 5 22,bB .neq 24 5 20 23 5] [5,6,7,8,9,24] (cD 24 (.reg [mO 25 7,mO 26 8,bB .add 27 3 25 26 3,aO 7 27] [5,6,7,8,9]) (.skip)) [5,6,7,8,9] (.reg [mO 28 8,oO 29 (.binOp .mul 3 (nI 2) (xT 28) 3),aO 8 29] [5,6,7,8,9]))) (.keep [5,6,7,8,9] (.reg [mO 16 9,bQ .add 17 3 16 1 3,aO 9 17] [5,6,7,8,9]))) 
def Jw:CC:=sR [oO 4 (.assign (.const (.int .u8 0)))] [0,1] (sR [mO 10 0,cA 11 208 10 51,mO 12 1,cA 13 208 12 51,aL 5 249 [0],aL 6 249 [1],sT 249 5 11,sT 249 6 13] [5,6] (sR [aI 7 0,aI 8 1] [5,6,7,8] (sQ [aI 9 0] [5,6,7,8,9] (.block 0 (.loop D5)) [7] (sR [mO 30 7,oO 31 (.convert 3 5 (xT 30)),aO 4 31] [4] (.ret)))))
theorem P7:Ba Tryz.prog 161 32 [(.tmp 4)] Jw:=Ap Tryz.func161
def Qg:CC:=sR [bX 3 33 1 [0],aB 4 false] [0,3] (sR [fO 5 33 3 0,lO 6 3 5,bQ .eql 7 3 6 0 3,mO 8 7,mG 9 0 8 false,oG 10 (.binOp .eql 3 (xT 9) (nI 9) 3) 8 false,mG 11 10 8 false,fG 12 33 3 0 11 true,lG 13 3 12 11 true,oG 14 (.binOp .eql 3 (xT 13) (nI 2) 3) 11 true,oG 15 (.pick (xT 11) (xT 14) (nB false)) 8 false,mG 16 15 8 false,fG 17 33 3 3 16 true,lG 18 29 17 16 true,oG 19 (bL 18 29) 16 true,fG 20 33 3 4 16 true,lG 21 30 20 16 true,oG 22 (bL 21 30) 16 true,oG 23 (bO .add 3 19 22 3) 16 true,oG 24 (.binOp .eql 3 (xT 23) (nI 0) 3) 16 true,oG 25 (.pick (xT 16) (xT 24) (nB false)) 8 false,pT 26 8 25,aO 4 26] [4] (.ret))
theorem YD:Ba Tryz.prog 112 27 [(.tmp 4)] Qg:=Ap Tryz.func112
def HU:CC:=sR [bB .lss 9 3 8 7 3] [0,6,7,8,9] (.seq (cD 9 (.skip) (.exit 0)) (.keep [0,6,7,8] (.seq (.block 1 (sR [iO 10 23 6 8,lO 11 25 10,aL 5 25 [1],sT 25 5 11] [0,5,6,7,8] (.reg [mO 12 0,nC 13 12,lS 14 23 13 2,lS 15 25 5 3,⟨some 16,(cL 31 #[(xT 15)] #[25]),none,[],4,[2],true⟩,bN 17 14 23,⟨some 18,(.buildSlice 23 1 #[(0,(.const (.agg #[(.int .i64 0),(.slice none 0 0),(.slice none 0 0)])))]),none,[],6,[2,3,4],false⟩,aP 19 14 18 23 23 [2],iO 20 23 19 17,⟨none,(.store 25 (xT 20) (xT 16)),none,[],9,[],true⟩,nC 21 12,⟨none,(.store 23 (xT 21) (xT 19)),none,[],11,[9],false⟩] [0,6,7,8]))) (.reg [bQ .add 22 3 8 1 3,mO 8 22] [0,6,7,8])))) 
def L5:CC:=sR [mO 6 1,bN 7 6 23,oO 8 (.move (nI 0))] [0,6,7,8] (.block 0 (.loop HU))
theorem Qj:Ba Tryz.prog 111 23 [] L5:=Ap Tryz.func111
def Cs:CC:=sQ [mO 23 0,nC 24 23,fO 25 152 24 2,lO 26 23 25,bN 27 26 23,bQ .gtr 28 3 27 0 3] [0,28] (cD 28 (.reg [mO 29 0,nC 30 29,fO 31 152 30 0,lS 32 31 31 3,mO 33 0,nC 34 33,fO 35 152 34 2,lS 36 23 35 7,oO 37 (.build 91 #[(0,(nI 2)),(2,(xT 36))]),bN 38 32 31,⟨some 39,(.buildSlice 31 1 #[(0,(.const (.agg #[(.int .i64 0),(.int .i64 0),(.slice none 0 0),(.int .i64 0),(.int .i64 0),(.slice none 0 0),(.slice none 0 0),(.int .i64 0),(.slice none 0 0),(.slice none 0 0),(.slice none 0 0),(.slice none 0 0),(.int .i64 0),(.slice none 0 0)])))]),none,[],10,[3,7],false⟩,aP 40 32 39 31 31 [2],iO 41 31 40 38,⟨none,(.store 91 (xT 41) (xT 37)),none,[],13,[],true⟩,nC 42 29,fO 43 152 42 0,⟨none,(.store 31 (xT 43) (xT 40)),none,[],16,[13],false⟩] [0]) (.skip)) [0] (.reg [mO 44 0,mO 45 0,nC 46 44,fO 47 152 46 1,oS (.store 23 (xT 47) nS),nC 48 45,fO 49 152 48 2,oS (.store 23 (xT 49) nS)] []) 
def H9:CC:=sQ [mO 2 0,nC 3 2,fO 4 152 3 1,lO 5 23 4,bN 6 5 23,bQ .gtr 7 3 6 0 3] [0,7] (cD 7 (.reg [mO 8 0,nC 9 8,fO 10 152 9 0,lS 11 31 10 3,mO 12 0,nC 13 12,fO 14 152 13 1,lS 15 23 14 7,oO 16 (.build 91 #[(0,(nI 1)),(2,(xT 15))]),bN 17 11 31,⟨some 18,(.buildSlice 31 1 #[(0,(.const (.agg #[(.int .i64 0),(.int .i64 0),(.slice none 0 0),(.int .i64 0),(.int .i64 0),(.slice none 0 0),(.slice none 0 0),(.int .i64 0),(.slice none 0 0),(.slice none 0 0),(.slice none 0 0),(.slice none 0 0),(.int .i64 0),(.slice none 0 0)])))]),none,[],10,[3,7],false⟩,aP 19 11 18 31 31 [1],iO 20 31 19 17,⟨none,(.store 91 (xT 20) (xT 16)),none,[],13,[],true⟩,nC 21 8,fO 22 152 21 0,⟨none,(.store 31 (xT 22) (xT 19)),none,[],16,[13],false⟩] [0]) (.skip)) [0] Cs
theorem N6:Ba Tryz.prog 113 50 [] H9:=Ap Tryz.func113
def F4:CC:=sR [mO 5 0,cA 6 113 5 150] [0,1] (sQ [mO 7 0,nC 8 7,fO 9 152 8 0,lO 10 31 9,bN 11 10 31,bQ .sub 12 3 11 1 3,aO 4 12] [0,1,4] (sR [mO 13 4,bQ .geq 14 3 13 0 3,mO 15 14,mG 16 0 15 true,oG 17 (.nilCheck (xT 16)) 15 true,fG 18 152 17 0 15 true,lG 19 31 18 15 true,mG 20 4 15 true,oG 21 (iA 31 19 20) 15 true,fG 22 91 21 0 15 true,lG 23 3 22 15 true,oG 24 (.binOp .eql 3 (xT 23) (nI 0) 3) 15 true,pF 25 15 24] [0,1,4,25] (cD 25 (sR [mO 26 0,nC 27 26,fO 28 152 27 0,lO 29 31 28,mO 30 4,iO 31 31 29 30,fO 32 91 31 1,lO 33 3 32,mO 34 1,bB .add 35 3 33 34 3,iO 36 31 29 30,fO 37 91 36 1,sT 3 37 35] [] (.ret)) (.skip))) [0,1] (.reg [mO 38 0,nC 39 38,fO 40 152 39 0,lS 41 31 40 3,mO 42 1,oO 43 (.build 91 #[(0,(nI 0)),(1,(xT 42))]),bN 44 41 31,⟨some 45,(.buildSlice 31 1 #[(0,(.const (.agg #[(.int .i64 0),(.int .i64 0),(.slice none 0 0),(.int .i64 0),(.int .i64 0),(.slice none 0 0),(.slice none 0 0),(.int .i64 0),(.slice none 0 0),(.slice none 0 0),(.slice none 0 0),(.slice none 0 0),(.int .i64 0),(.slice none 0 0)])))]),none,[],7,[3],false⟩,aP 46 41 45 31 31 [1],iO 47 31 46 44,⟨none,(.store 91 (xT 47) (xT 43)),none,[],10,[],true⟩,nC 48 38,fO 49 152 48 0,⟨none,(.store 31 (xT 49) (xT 46)),none,[],13,[10],false⟩] []))
theorem Jm:Ba Tryz.prog 110 50 [] F4:=Ap Tryz.func110
def GM:CC:=sR [bB .lss 14 3 13 12 3] [0,5,11,12,13,14] (.seq (cD 14 (.skip) (.exit 0)) (.keep [0,5,11,12,13] (.seq (.block 1 (sR [iO 15 31 11 13,lO 16 91 15,aL 7 91 [1],sT 91 7 16] [0,5,7,11,12,13] (sR [fO 17 91 7 0,lO 18 3 17] [0,5,7,11,12,13,18] (.block 2 (sR [bQ .eql 20 3 18 0 3,aO 19 20] [0,5,7,11,12,13,18,19] (cD 19 (.reg [mO 21 5,fO 22 91 7 1,lO 23 3 22,cB 24 110 21 23 150 3] [0,5,11,12,13]) (sR [bQ .eql 26 3 18 1 3,aO 25 26] [0,5,7,11,12,13,18,25] (cD 25 (.reg [mO 27 5,nC 28 27,fO 29 152 28 1,fO 30 91 7 2,lO 31 23 30,cB 32 111 29 31 155 23] [0,5,11,12,13]) (sR [bQ .eql 34 3 18 2 3,aO 33 34] [0,5,7,11,12,13,18,33] (cD 33 (.reg [mO 35 5,nC 36 35,fO 37 152 36 2,fO 38 91 7 2,lO 39 23 38,cB 40 111 37 39 155 23] [0,5,11,12,13]) (sR [bQ .eql 42 3 18 3 3,aO 41 42] [0,5,7,11,12,13,41] (cD 41 (sR [fO 43 91 7 3,lO 44 33 43,cA 45 29 44 33,aL 8 33 [2],sT 33 8 45] [0,5,8,11,12,13] (sR [mO 46 0,lO 47 33 8,cB 48 112 46 47 3 33] [0,5,8,11,12,13,48] (cD 48 (.reg [mO 49 5,oO 50 (cL 110 #[(xT 49),(nI 1)] #[150,3])] [0,5,11,12,13]) (sR [mO 51 5,cA 52 113 51 150] [0,5,8,11,12,13] (.reg [mO 53 5,nC 54 53,fO 55 152 54 0,lS 56 31 55 3,lS 57 33 8 4,oO 58 (.build 91 #[(0,(nI 3)),(3,(xT 57))]),bN 59 56 31,⟨some 60,(.buildSlice 31 1 #[(0,(.const (.agg #[(.int .i64 0),(.int .i64 0),(.slice none 0 0),(.int .i64 0),(.int .i64 0),(.slice none 0 0),(.slice none 0 0),(.int .i64 0),(.slice none 0 0),(.slice none 0 0),(.slice none 0 0),(.slice none 0 0),(.int .i64 0),(.slice none 0 0)])))]),none,[],7,[3,4],false⟩,aP 61 56 60 31 31 [3],iO 62 31 61 59,⟨none,(.store 91 (xT 62) (xT 58)),none,[],10,[],true⟩,nC 63 53,fO 64 152 63 0,⟨none,(.store 31 (xT 64) (xT 61)),none,[],13,[10],false⟩] [0,5,11,12,13]))))) (.skip))))))))))))) (.keep [0,5,11,12,13] (.reg [bQ .add 65 3 13 1 3,mO 13 65] [0,5,11,12,13]))))) 
def Sn:CC:=sR [aN 4] [0,1] (sR [oO 9 (.build 152 #[]),bX 10 152 9 [0],aO 5 10] [0,1,5] (sQ [mO 11 1,bN 12 11 31,oO 13 (.move (nI 0))] [0,5,11,12,13] (.block 0 (.loop GM)) [5] (sR [mO 66 5,cA 67 113 66 150] [5] (sR [mO 68 5,nC 69 68,fO 70 152 69 0,lO 71 31 70,aO 4 71] [4] (.ret)))))
theorem bn:Ba Tryz.prog 58 72 [(.tmp 4)] Sn:=Ap Tryz.func58
def Hw:CC:=sR [bB .lss 35 3 34 33 3] [2,3,32,33,34,35] (.seq (cD 35 (.skip) (.exit 1)) (.keep [2,3,32,33,34] (.seq (.block 2 (sR [iO 36 30 32 34,lO 37 89 36,aL 5 89 [4],sT 89 5 37] [2,3,5,32,33,34] (.reg [fO 38 33 3 4,lS 39 30 38 1,fO 40 89 5 0,lS 41 3 40 3,fO 42 89 5 1,lO 43 33 42,⟨some 44,(cL 29 #[(xT 43)] #[33]),none,[],6,[1,3],false⟩,oO 45 (.build 89 #[(0,(xT 41)),(1,(xT 44))]),⟨some 46,(.buildSlice 30 1 #[(0,(xT 45))]),none,[],8,[1],false⟩,aP 47 39 46 30 30 [5],fO 48 33 3 4,sT 30 48 47] [2,3,32,33,34]))) (.reg [bQ .add 49 3 34 1 3,mO 34 49] [2,3,32,33,34])))) 
def Qz:CC:=sR [bX 1 33 0 [0],aL 2 33 [1]] [1,2] (sR [fO 6 33 1 0,lO 7 3 6,fO 8 33 1 5,lO 9 3 8,oO 10 (.build 33 #[(0,(xT 7)),(5,(xT 9))]),aL 3 33 [2],sT 33 3 10] [1,2,3] (sQ [fO 11 33 1 0,lO 12 3 11] [1,2,3,12] (.block 0 (sR [bQ .eql 14 3 12 1 3,aO 13 14] [1,2,3,12,13] (cD 13 (.reg [fO 15 33 1 1,lO 16 25 15,⟨some 17,(cL 31 #[(xT 16)] #[25]),none,[],2,[],true⟩,fO 18 33 1 2,⟨some 19,(lD 25 18),none,[],4,[2],false⟩,cA 20 31 19 25,fO 21 33 3 1,sT 25 21 17,fO 22 33 3 2,sT 25 22 20] [2,3]) (sR [bQ .eql 24 3 12 2 3,aO 23 24] [1,2,3,12,23] (cD 23 (sR [fO 25 33 3 3,lO 26 29 25,fO 27 33 1 3,lO 28 29 27,aP 29 26 28 29 29 [3],fO 30 33 3 3,sT 29 30 29] [1,2,3] (sR [fO 31 33 1 4,lO 32 30 31,bN 33 32 30,oO 34 (.move (nI 0))] [2,3,32,33,34] (.block 1 (.loop Hw)))) (sR [bQ .eql 51 3 12 3 3,aO 50 51] [1,2,3,50] (cD 50 (.reg [fO 52 33 1 5,lO 53 3 52,fO 54 33 1 6,lO 55 31 54,cB 56 58 53 55 3 31,fO 57 33 3 6,sT 31 57 56] [2,3]) (.skip)))))))) [2,3] (sR [lO 58 33 3,sT 33 2 58] [2] (.ret))))
theorem YF:Ba Tryz.prog 29 59 [(.cell 2 33)] Qz:=Ap Tryz.func29
def LW:CC:=sR [bX 3 33 1 [0],aB 4 false] [0,3] (sR [fO 5 33 3 0,lO 6 3 5,bQ .eql 7 3 6 0 3,mO 8 7,fG 9 33 3 0 8 false,lG 10 3 9 8 false,oG 11 (.binOp .eql 3 (xT 10) (nI 2) 3) 8 false,mG 12 11 8 false,mG 13 0 12 true,oG 14 (.binOp .eql 3 (xT 13) (nI 9) 3) 12 true,oG 15 (.pick (xT 12) (xT 14) (nB false)) 8 false,mG 16 15 8 false,fG 17 33 3 3 16 true,lG 18 29 17 16 true,oG 19 (bL 18 29) 16 true,oG 20 (.binOp .eql 3 (xT 19) (nI 0) 3) 16 true,oG 21 (.pick (xT 16) (xT 20) (nB false)) 8 false,mG 22 21 8 false,fG 23 33 3 4 22 true,lG 24 30 23 22 true,oG 25 (bL 24 30) 22 true,oG 26 (.binOp .eql 3 (xT 25) (nI 0) 3) 22 true,oG 27 (.pick (xT 22) (xT 26) (nB false)) 8 false,pT 28 8 27,aO 4 28] [4] (.ret))
theorem Sh:Ba Tryz.prog 160 29 [(.tmp 4)] LW:=Ap Tryz.func160
def Er:CC:=sQ [mO 5 4,mO 6 0,bN 7 6 23,bB .lss 8 3 5 7 3] [0,3,4,8] (cD 8 (.skip) (.exit 0)) [0,3,4] (.seq (.block 1 (.reg [mO 11 3,mO 12 0,mO 13 4,iO 14 23 12 13,lO 15 25 14,cA 16 32 15 25,oO 17 (.buildSlice 23 1 #[(0,(xT 16))]),aP 18 11 17 23 23 [0],aO 3 18] [0,3,4])) (.reg [mO 9 4,bQ .add 10 3 9 1 3,aO 4 10] [0,3,4])) 
def Kh:CC:=sR [aN 2] [0] (sR [aN 3] [0,3] (sQ [aI 4 0] [0,3,4] (.block 0 (.loop Er)) [3] (sR [mO 19 3,aO 2 19] [2] (.ret))))
theorem QK:Ba Tryz.prog 207 20 [(.tmp 2)] Kh:=Ap Tryz.func207
def C9:CC:=sQ [mO 11 9,mO 12 0,bN 13 12 31,bB .lss 14 3 11 13 3,mO 15 14,mG 16 0 15 true,mG 17 9 15 true,oG 18 (iA 31 16 17) 15 true,fG 19 91 18 0 15 true,lG 20 3 19 15 true,oG 21 (.binOp .eql 3 (xT 20) (nI 1) 3) 15 true,mG 22 21 15 true,mG 23 0 22 false,mG 24 9 22 false,oG 25 (iA 31 23 24) 22 false,fG 26 91 25 0 22 false,lG 27 3 26 22 false,oG 28 (.binOp .eql 3 (xT 27) (nI 2) 3) 22 false,oG 29 (.pick (xT 22) (nB true) (xT 28)) 15 true,pF 30 15 29] [0,2,8,9,30] (cD 30 (.skip) (.exit 0)) [0,2,8,9] (.block 1 (sQ [mO 31 0,mO 32 9,iO 33 31 31 32,fO 34 91 33 0,lO 35 3 34,mO 36 2,bB .eql 37 3 35 36 3] [0,2,8,9,37] (cD 37 (.reg [mO 38 8,mO 39 0,mO 40 9,iO 41 31 39 40,fO 42 91 41 2,lO 43 23 42,cA 44 207 43 23,aP 45 38 44 23 23 [0],aO 8 45] [0,2,8,9]) (.skip)) [0,2,8,9] (.reg [mO 46 9,bQ .add 47 3 46 1 3,aO 9 47] [0,2,8,9]))) 
def MB:CC:=sR [aN 6,aI 7 0] [0,1,2] (sR [aN 8] [0,1,2,8] (sR [mO 10 1,aO 9 10] [0,2,8,9] (.seq (.block 0 (.loop C9)) (.keep [8,9] (sR [mO 48 8,mO 49 9,aO 6 48,aO 7 49] [6,7] (.ret))))))
theorem Uv:Ba Tryz.prog 159 50 [(.tmp 6),(.tmp 7)] MB:=Ap Tryz.func159
def Hs:CC:=sR [mO 77 5,bN 78 77 31,aO 12 78] [0,1,5,6,11,12] (sR [fO 79 91 11 0,lO 80 3 79,bQ .eql 81 3 80 0 3,mO 82 81,mG 83 12 82 true,oG 84 (.binOp .gtr 3 (xT 83) (nI 0) 3) 82 true,pF 85 82 84,mO 86 85,mG 87 5 86 true,mG 88 12 86 true,oG 89 (.binOp .sub 3 (xT 88) (nI 1) 3) 86 true,oG 90 (iA 31 87 89) 86 true,fG 91 91 90 0 86 true,lG 92 3 91 86 true,oG 93 (.binOp .eql 3 (xT 92) (nI 0) 3) 86 true,pF 94 86 93] [0,1,5,6,11,12,94] (cD 94 (.reg [mO 95 5,mO 96 12,bQ .sub 97 3 96 1 3,mO 98 5,mO 99 12,bQ .sub 100 3 99 1 3,iO 101 31 98 100,fO 102 91 101 1,lO 103 3 102,fO 104 91 11 1,lO 105 3 104,bB .add 106 3 103 105 3,iO 107 31 95 97,fO 108 91 107 1,sT 3 108 106] [0,1,5,6]) (.reg [mO 109 5,lO 110 91 11,oO 111 (.buildSlice 31 1 #[(0,(xT 110))]),aP 112 109 111 31 31 [3],aO 5 112] [0,1,5,6])))
def Fu:CC:=sR [mO 47 8,aO 6 47] [0,1,5,6] (sQ [mO 48 6,mO 49 1,bN 50 49 31,bB .geq 51 3 48 50 3] [0,1,5,6,51] (cD 51 (sR [mO 52 5,aO 4 52] [4] (.ret)) (.skip)) [0,1,5,6] (sR [mO 53 1,mO 54 6,iO 55 31 53 54,fO 56 91 55 1,lO 57 3 56,oO 58 (.build 91 #[(0,(nI 0)),(1,(xT 57))]),aL 11 91 [2],sT 91 11 58] [0,1,5,6,11] (sQ [mO 59 1,mO 60 6,iO 61 31 59 60,fO 62 91 61 0,lO 63 3 62,bQ .eql 64 3 63 3 3] [0,1,5,6,11,64] (cD 64 (sR [mO 65 1,mO 66 6,iO 67 31 65 66,fO 68 91 67 3,lO 69 33 68,cA 70 52 69 33,oO 71 (.build 91 #[(0,(nI 3)),(3,(xT 70))]),sT 91 11 71] [0,1,5,6,11] (sR [mO 72 0,fO 73 91 11 3,lO 74 33 73,cB 75 160 72 74 3 33] [0,1,5,6,11,75] (cD 75 (.reg [oO 76 (.build 91 #[(0,(nI 0)),(1,(nI 1))]),sT 91 11 76] [0,1,5,6,11]) (.skip)))) (.skip)) [0,1,5,6,11] Hs)))
def HJ:CC:=sQ [mO 39 9,bN 40 39 23,bQ .gtr 41 3 40 0 3] [0,1,5,8,9,41] (cD 41 (.reg [mO 42 5,mO 43 9,oO 44 (.build 91 #[(0,(nI 2)),(2,(xT 43))]),oO 45 (.buildSlice 31 1 #[(0,(xT 44))]),aP 46 42 45 31 31 [1],aO 5 46] [0,1,5,8]) (.skip)) [0,1,5,8] Fu
def Cw:CC:=sQ [mO 13 6,mO 14 1,bN 15 14 31,bB .lss 16 3 13 15 3] [0,1,5,6,16] (cD 16 (.skip) (.exit 0)) [0,1,5,6] (.seq (.block 1 (sR [mO 20 1,mO 21 6,oO 22 (cL 159 #[(xT 20),(xT 21),(nI 1)] #[31,3,3]),mO 19 22,xO 23 19 0,xO 24 19 1,aO 7 23,aO 8 24] [0,1,5,6,7,8] (sR [mO 26 1,mO 27 6,oO 28 (cL 159 #[(xT 26),(xT 27),(nI 2)] #[31,3,3]),mO 25 28,xO 29 25 0,xO 30 25 1,aO 9 29,aO 10 30] [0,1,5,7,8,9] (sQ [mO 31 7,bN 32 31 23,bQ .gtr 33 3 32 0 3] [0,1,5,7,8,9,33] (cD 33 (.reg [mO 34 5,mO 35 7,oO 36 (.build 91 #[(0,(nI 1)),(2,(xT 35))]),oO 37 (.buildSlice 31 1 #[(0,(xT 36))]),aP 38 34 37 31 31 [0],aO 5 38] [0,1,5,8,9]) (.skip)) [0,1,5,8,9] HJ)))) (.keep [0,1,5,6] (.reg [mO 17 6,bQ .add 18 3 17 1 3,aO 6 18] [0,1,5,6]))) 
def MC:CC:=sR [aN 4] [0,1] (sR [aN 5] [0,1,5] (sQ [aI 6 0] [0,1,5,6] (.block 0 (.loop Cw)) [5] (sR [mO 113 5,aO 4 113] [4] (.ret))))
theorem TW:Ba Tryz.prog 100 114 [(.tmp 4)] MC:=Ap Tryz.func100
def ET:CC:=sQ [mO 25 4,fO 26 33 1 4,lO 27 30 26,bN 28 27 30,bB .lss 29 3 25 28 3] [1,2,3,4,29] (cD 29 (.skip) (.exit 1)) [1,2,3,4] (.seq (.block 2 (.reg [fO 32 33 3 4,lS 33 30 32 1,fO 34 33 1 4,lS 35 30 34 3,mO 36 4,iO 37 30 35 36,fO 38 89 37 0,lS 39 3 38 7,fO 40 33 1 4,lO 41 30 40,mO 42 4,iO 43 30 41 42,fO 44 89 43 1,lO 45 33 44,⟨some 46,(cL 52 #[(xT 45)] #[33]),none,[],14,[1,3,7],false⟩,oO 47 (.build 89 #[(0,(xT 39)),(1,(xT 46))]),⟨some 48,(.buildSlice 30 1 #[(0,(xT 47))]),none,[],16,[1],false⟩,aP 49 33 48 30 30 [4],fO 50 33 3 4,sT 30 50 49] [1,2,3,4])) (.reg [mO 30 4,bQ .add 31 3 30 1 3,aO 4 31] [1,2,3,4])) 
def Lu:CC:=sR [bX 1 33 0 [0],aL 2 33 [1]] [1,2] (sQ [fO 5 33 1 0,lO 6 3 5] [1,2,6] (.block 0 (sR [bQ .eql 8 3 6 1 3,aO 7 8] [1,2,6,7] (cD 7 (sR [fO 9 33 1 1,lO 10 25 9,⟨some 11,(cL 32 #[(xT 10)] #[25]),none,[],2,[],true⟩,fO 12 33 1 2,⟨some 13,(lD 25 12),none,[],4,[2],false⟩,cA 14 32 13 25,oO 15 (.build 33 #[(0,(nI 1)),(1,(xT 11)),(2,(xT 14))]),sT 33 2 15] [2] (.ret)) (sR [bQ .eql 17 3 6 2 3,aO 16 17] [1,2,6,16] (cD 16 (sR [oO 18 (.build 33 #[(0,(nI 2))]),aL 3 33 [2],sT 33 3 18] [1,2,3] (sR [fO 19 33 3 3,lO 20 29 19,fO 21 33 1 3,lO 22 29 21,aP 23 20 22 29 29 [3],fO 24 33 3 3,sT 29 24 23] [1,2,3] (sQ [aI 4 0] [1,2,3,4] (.block 1 (.loop ET)) [2,3] (sR [lO 51 33 3,sT 33 2 51] [2] (.ret))))) (sR [bQ .eql 53 3 6 3 3,aO 52 53] [1,2,52] (cD 52 (sR [fO 54 33 1 5,lS 55 3 54 1,fO 56 33 1 5,lO 57 3 56,fO 58 33 1 6,lO 59 31 58,⟨some 60,(cL 100 #[(xT 57),(xT 59)] #[3,31]),none,[],6,[1],false⟩,oO 61 (.build 33 #[(0,(nI 3)),(5,(xT 55)),(6,(xT 60))]),sT 33 2 61] [2] (.ret)) (.skip)))))))) [2] (sR [oO 62 (.build 33 #[]),sT 33 2 62] [2] (.ret)))
theorem S6:Ba Tryz.prog 52 63 [(.cell 2 33)] Lu:=Ap Tryz.func52
def Vq:CC:=sR [aL 6 80 [0],aB 7 false] [0,1,2,6] (sR [mO 9 1,mO 10 2,cB 11 173 9 10 51 51,aO 8 11] [0,1,2,6,8] (sQ [mO 12 8,oO 13 (.binOp .eql 5 (xT 12) (.const (.int .u8 0)) 5)] [0,1,2,6,8,13] (cD 13 (sR [oO 14 (.build 80 #[]),sT 80 6 14,aB 7 false] [6,7] (.ret)) (.skip)) [0,1,2,6,8] (sR [mO 15 0,mO 16 8,mO 17 1,mO 18 8,oO 19 (cL 174 #[(.const (.int .u64 0)),(xT 17),(xT 18)] #[51,51,5]),mO 20 2,mO 21 8,oO 22 (cL 174 #[(.const (.int .u64 0)),(xT 20),(xT 21)] #[51,51,5]),oO 23 (.build 80 #[(0,(xT 15)),(1,(xT 16)),(2,(xT 19)),(3,(xT 22))]),sT 80 6 23,aB 7 true] [6,7] (.ret))))
theorem dH:Ba Tryz.prog 117 24 [(.cell 6 80),(.tmp 7)] Vq:=Ap Tryz.func117
def FA:CC:=sR [bB .lss 22 3 21 20 3] [2,3,4,6,7,20,21,22] (.seq (cD 22 (.skip) (.exit 0)) (.keep [2,3,4,6,7,20,21] (.seq (.block 1 (sR [mO 23 21,aO 8 23] [2,3,4,6,7,8,20,21] (sR [mO 25 8,lS 26 25 3 1,mO 27 8,⟨some 28,(cL 115 #[(xT 26),(xT 27)] #[25,3]),none,[],3,[],true⟩,⟨some 29,(lD 25 4),none,[],4,[3],true⟩,mO 30 8,⟨some 31,(cL 115 #[(xT 29),(xT 30)] #[25,3]),none,[],6,[],true⟩,⟨some 32,(cL 117 #[(xT 25),(xT 28),(xT 31)] #[3,51,51]),none,[],7,[],true⟩,mO 24 32,xO 33 24 0,xO 34 24 1,⟨some 9,(.alloc 80),none,[4],11,[1,3,4,6,7],false⟩,sT 80 9 33,aO 10 34] [2,3,4,6,7,9,10,20,21] (sR [mO 35 10] [2,3,4,6,7,9,20,21,35] (cD 35 (.reg [fO 36 33 7 3,lO 37 29 36,lO 38 80 9,oO 39 (.buildSlice 29 1 #[(0,(xT 38))]),aP 40 37 39 29 29 [5],fO 41 33 7 3,sT 29 41 40] [2,3,4,6,7,20,21]) (.skip)))))) (.keep [2,3,4,6,7,20,21] (.reg [bQ .add 42 3 21 1 3,mO 21 42] [2,3,4,6,7,20,21])))))
def Fv:CC:=sR [bB .lss 51 3 50 49 3] [2,3,4,6,7,49,50,51] (.seq (cD 51 (.skip) (.exit 2)) (.keep [2,3,4,6,7,49,50] (.seq (.block 3 (sR [mO 52 50,aO 11 52] [2,3,4,6,7,11,49,50] (sR [lS 53 25 3 0,mO 54 11,⟨some 55,(cL 116 #[(xT 53),(xT 54)] #[25,3]),none,[],2,[],true⟩,⟨some 56,(lD 25 4),none,[],3,[2],true⟩,mO 57 11,⟨some 58,(cL 116 #[(xT 56),(xT 57)] #[25,3]),none,[],5,[],true⟩,mO 59 2,⟨some 60,(cL 30 #[(xT 55),(xT 58),(xT 59)] #[25,25,3]),none,[],7,[],true⟩,⟨some 12,(.alloc 33),none,[6],8,[0,2,3,5,7],false⟩,sT 33 12 60] [2,3,4,6,7,11,12,49,50] (sR [fO 61 33 12 0,lO 62 3 61,bQ .neq 63 3 62 0 3] [2,3,4,6,7,11,12,49,50,63] (cD 63 (.reg [fO 64 33 7 4,lO 65 30 64,mO 66 11,lO 67 33 12,oO 68 (.build 89 #[(0,(xT 66)),(1,(xT 67))]),oO 69 (.buildSlice 30 1 #[(0,(xT 68))]),aP 70 65 69 30 30 [7],fO 71 33 7 4,sT 30 71 70] [2,3,4,6,7,49,50]) (.skip)))))) (.keep [2,3,4,6,7,49,50] (.reg [bQ .add 72 3 50 1 3,mO 50 72] [2,3,4,6,7,49,50]))))) 
def MG:CC:=sR [bX 3 25 0 [0],bX 4 25 1 [1],aL 6 33 [2]] [2,3,4,6] (sR [oO 13 (.build 33 #[(0,(nI 2))]),aL 7 33 [3],sT 33 7 13] [2,3,4,6,7] (sQ [fO 14 25 3 1,lO 15 22 14,bN 16 15 22,fO 17 25 4 1,lO 18 22 17,bN 19 18 22,oO 20 (bC .max #[(xT 16),(xT 19)] #[3,3]),oO 21 (.move (nI 0))] [2,3,4,6,7,20,21] (.block 0 (.loop FA)) [2,3,4,6,7] (sQ [fO 43 25 3 2,lO 44 23 43,bN 45 44 23,fO 46 25 4 2,lO 47 23 46,bN 48 47 23,oO 49 (bC .max #[(xT 45),(xT 48)] #[3,3]),oO 50 (.move (nI 0))] [2,3,4,6,7,49,50] (.block 2 (.loop Fv)) [6,7] (sR [lO 73 33 7,sT 33 6 73] [6] (.ret)))))
theorem UC:Ba Tryz.prog 60 74 [(.cell 6 33)] MG:=Ap Tryz.func60
def E5:CC:=sR [bB .lss 22 3 21 20 3] [0,5,7,10,11,12,19,20,21,22] (.seq (cD 22 (.skip) (.exit 2)) (.keep [0,5,7,10,11,12,19,20,21] (.seq (.block 3 (sR [mO 23 21,iO 24 23 19 21,lO 25 25 24,aL 9 25 [2],aO 8 23,sT 25 9 25] [0,5,7,8,9,10,11,12,19,20,21] (sR [lO 26 25 9,lO 27 25 7,cB 28 59 26 27 25 25] [0,5,7,8,10,11,12,19,20,21,28] (cD 28 (sR [mO 29 5,mO 30 8,oO 31 (.buildSlice 164 1 #[(0,(xT 30))]),aP 32 29 31 164 164 [3],aO 5 32] [0,5,10,11,12] (.exit 1)) (.skip))))) (.keep [0,5,7,10,11,12,19,20,21] (.reg [bQ .add 33 3 21 1 3,mO 21 33] [0,5,7,10,11,12,19,20,21])))))
def ES:CC:=sR [bB .lss 13 3 12 11 3] [0,5,10,11,12,13] (.seq (cD 13 (.skip) (.exit 0)) (.keep [0,5,10,11,12] (.seq (.block 1 (sR [iO 14 23 10 12,lO 15 25 14,aL 7 25 [1],sT 25 7 15] [0,5,7,10,11,12] (sQ [mO 16 0,nC 17 16,fO 18 163 17 0,lO 19 23 18,bN 20 19 23,oO 21 (.move (nI 0))] [0,5,7,10,11,12,19,20,21] (.block 2 (.loop E5)) [0,5,7,10,11,12] (sR [mO 34 5,mO 35 0,nC 36 35,fO 37 163 36 0,lO 38 23 37,bN 39 38 23,oO 40 (.buildSlice 164 1 #[(0,(xT 39))]),aP 41 34 40 164 164 [3],aO 5 41] [0,5,7,10,11,12] (.reg [mO 42 0,nC 43 42,fO 44 163 43 0,lS 45 23 44 3,lS 46 25 7 4,bN 47 45 23,⟨some 48,(.buildSlice 23 1 #[(0,(.const (.agg #[(.int .i64 0),(.slice none 0 0),(.slice none 0 0)])))]),none,[],6,[3,4],false⟩,aP 49 45 48 23 23 [5],iO 50 23 49 47,⟨none,(.store 25 (xT 50) (xT 46)),none,[],9,[],true⟩,nC 51 42,fO 52 163 51 0,⟨none,(.store 23 (xT 52) (xT 49)),none,[],12,[9],false⟩] [0,5,10,11,12]))))) (.keep [0,5,10,11,12] (.reg [bQ .add 53 3 12 1 3,mO 12 53] [0,5,10,11,12]))))) 
def Lz:CC:=sR [aN 4] [0,1] (.scope (sR [aN 5] [0,1,5] (.seq (.skip) (sQ [mO 10 1,bN 11 10 23,oO 12 (.move (nI 0))] [0,5,10,11,12] (.block 0 (.loop ES)) [5] (.stop (sR [mO 54 5,aO 4 54] [4] (.ret)))))))
theorem Tk:Ba Tryz.prog 118 55 [(.tmp 4)] Lz:=Ap Tryz.func118
def U0:CC:=sR [aN 4] [0,1] (sQ [mO 5 1,bN 6 5 23,bQ .eql 7 3 6 0 3] [0,1,7] (cD 7 (sR [aN 4] [4] (.ret)) (.skip)) [0,1] (sR [mO 8 0,mO 9 1,oO 10 (.build 91 #[(0,(xT 8)),(2,(xT 9))]),oO 11 (.buildSlice 31 1 #[(0,(xT 10))]),aO 4 11] [4] (.ret)))
theorem da:Ba Tryz.prog 223 12 [(.tmp 4)] U0:=Ap Tryz.func223
def Qq:CC:=sR [aN 2] [0] (sR [mO 3 0,oO 4 (cL 223 #[(nI 1),(xT 3)] #[3,23]),aO 2 4] [2] (.ret))
theorem YG:Ba Tryz.prog 180 5 [(.tmp 2)] Qq:=Ap Tryz.func180
def Ql:CC:=sR [aN 2] [0] (sR [mO 3 0,oO 4 (cL 223 #[(nI 2),(xT 3)] #[3,23]),aO 2 4] [2] (.ret))
theorem YR:Ba Tryz.prog 179 5 [(.tmp 2)] Ql:=Ap Tryz.func179
def LI:CC:=sR [bB .lss 29 3 28 27 3] [1,2,3,9,11,12,20,21,22,26,27,28,29] (.seq (cD 29 (.skip) (.exit 2)) (.keep [1,2,3,9,11,12,20,21,22,26,27,28] (.seq (.block 3 (sR [iO 30 23 26 28,lO 31 25 30,aL 14 25 [1],sT 25 14 31] [1,2,3,9,11,12,14,20,21,22,26,27,28] (.reg [mO 32 12,lO 33 25 11,lO 34 25 14,cB 35 202 33 34 25 25,oO 36 (.buildSlice 164 1 #[(0,(xT 35))]),aP 37 32 36 164 164 [2],aO 12 37] [1,2,3,9,11,12,20,21,22,26,27,28]))) (.reg [bQ .add 38 3 28 1 3,mO 28 38] [1,2,3,9,11,12,20,21,22,26,27,28]))))
def K9:CC:=sR [bB .lss 23 3 22 21 3] [1,2,3,9,20,21,22,23] (.seq (cD 23 (.skip) (.exit 0)) (.keep [1,2,3,9,20,21,22] (.seq (.block 1 (sR [iO 24 23 20 22,lO 25 25 24,aL 11 25 [0],sT 25 11 25] [1,2,3,9,11,20,21,22] (sR [aN 12] [1,2,3,9,11,12,20,21,22] (sQ [mO 26 2,bN 27 26 23,oO 28 (.move (nI 0))] [1,2,3,9,11,12,20,21,22,26,27,28] (.block 2 (.loop LI)) [1,2,3,9,12,20,21,22] (.stop (.reg [mO 39 9,mO 40 12,oO 41 (.buildSlice 240 1 #[(0,(xT 40))]),aP 42 39 41 240 240 [3],aO 9 42] [1,2,3,9,20,21,22])))))) (.keep [1,2,3,9,20,21,22] (.reg [bQ .add 43 3 22 1 3,mO 22 43] [1,2,3,9,20,21,22])))))
def Lv:CC:=sR [bB .lss 48 3 47 46 3] [1,2,3,15,16,17,45,46,47,48] (.seq (cD 48 (.skip) (.exit 4)) (.keep [1,2,3,15,16,17,45,46,47] (.seq (.block 5 (sR [iO 49 242 45 47,lO 50 245 49,aL 19 245 [4],sT 245 19 50] [1,2,3,15,16,17,19,45,46,47] (sR [mO 51 15,mO 52 1,mO 53 16,fO 54 245 19 0,lO 55 3 54,oO 56 (.slice 23 (xT 52) (some (xT 53)) (some (xT 55)) none),⟨some 57,(cL 180 #[(xT 56)] #[23]),none,[],6,[],true⟩,⟨some 58,(bC .append #[(xT 51),(xT 57)] #[31,31]),none,[5],7,[],true⟩,mO 59 2,mO 60 17,fO 61 245 19 1,⟨some 62,(lD 3 61),none,[],11,[6,7],false⟩,oO 63 (.slice 23 (xT 59) (some (xT 60)) (some (xT 62)) none),cA 64 179 63 23,aP 65 58 64 31 31 [6],aO 15 65] [1,2,3,15,19,45,46,47] (sR [mO 66 15,mO 67 1,fO 68 245 19 0,lO 69 3 68,iO 70 23 67 69,lO 71 25 70,mO 72 2,fO 73 245 19 1,lO 74 3 73,iO 75 23 72 74,lO 76 25 75,mO 77 3,cE 78 30 71 76 77 25 25 3,oO 79 (.build 91 #[(0,(nI 3)),(3,(xT 78))]),oO 80 (.buildSlice 31 1 #[(0,(xT 79))]),aP 81 66 80 31 31 [7],aO 15 81] [1,2,3,15,19,45,46,47] (.reg [fO 82 245 19 0,lO 83 3 82,bQ .add 84 3 83 1 3,fO 85 245 19 1,lO 86 3 85,bQ .add 87 3 86 1 3,aO 16 84,aO 17 87] [1,2,3,15,16,17,45,46,47]))))) (.reg [bQ .add 88 3 47 1 3,mO 47 88] [1,2,3,15,16,17,45,46,47])))) 
def WZ:CC:=sR [aN 8] [1,2,3] (sR [aN 9] [1,2,3,9] (sQ [mO 20 1,bN 21 20 23,oO 22 (.move (nI 0))] [1,2,3,9,20,21,22] (.block 0 (.loop K9)) [1,2,3,9] (sR [aN 15] [1,2,3,9,15] (sR [aI 16 0,aI 17 0] [1,2,3,9,15,16,17] (.stop (sQ [mO 44 9,cA 45 203 44 240,bN 46 45 242,oO 47 (.move (nI 0))] [1,2,3,15,16,17,45,46,47] (.block 4 (.loop Lv)) [1,2,15,16,17] (sR [mO 89 15,mO 90 1,mO 91 16,oO 92 (.slice 23 (xT 90) (some (xT 91)) none none),cA 93 180 92 23,aP 94 89 93 31 31 [8],mO 95 2,mO 96 17,oO 97 (.slice 23 (xT 95) (some (xT 96)) none none),cA 98 179 97 23,aP 99 94 98 31 31 [9],aO 8 99] [8] (.ret))))))))
theorem i9:Ba Tryz.prog 154 100 [(.tmp 8)] WZ:=Ap Tryz.func154
def F3:CC:=sQ [mO 19 12,mO 20 0,bN 21 20 166,bB .lss 22 3 19 21 3] [0,3,5,9,10,11,12,22] (cD 22 (.skip) (.exit 0)) [0,3,5,9,10,11,12] (.seq (.block 1 (sR [mO 25 0,mO 26 12,iO 27 166 25 26,fO 28 171 27 1,lO 29 3 28,aO 13 29] [0,3,5,9,10,11,12,13] (.block 2 (sR [mO 40 0,mO 41 12,iO 42 166 40 41,fO 43 171 42 0,lO 44 3 43,bQ .eql 45 3 44 0 3,aO 39 45] [0,3,5,9,10,11,12,13,39] (cD 39 (.reg [mO 46 9,mO 47 13,oO 48 (.build 91 #[(1,(xT 47))]),oO 49 (.buildSlice 31 1 #[(0,(xT 48))]),aP 50 46 49 31 31 [2],mO 51 10,mO 52 13,oO 53 (.slice 23 (xT 51) (some (xT 52)) none none),mO 54 11,mO 55 13,oO 56 (.slice 23 (xT 54) (some (xT 55)) none none),aO 9 50,aO 10 53,aO 11 56] [0,3,5,9,10,11,12]) (sR [mO 58 0,mO 59 12,iO 60 166 58 59,fO 61 171 60 0,lO 62 3 61,bQ .eql 63 3 62 2 3,aO 57 63] [0,3,5,9,10,11,12,13,57] (cD 57 (.reg [mO 64 9,mO 65 11,mO 66 13,oO 67 (.slice 23 (xT 65) none (some (xT 66)) none),cA 68 179 67 23,aP 69 64 68 31 31 [3],mO 70 11,mO 71 13,oO 72 (.slice 23 (xT 70) (some (xT 71)) none none),aO 9 69,aO 11 72] [0,3,5,9,10,11,12]) (sR [mO 74 12,bQ .add 75 3 74 1 3,mO 76 0,bN 77 76 166,bB .lss 78 3 75 77 3,mO 79 78,mG 80 0 79 true,mG 81 12 79 true,oG 82 (.binOp .add 3 (xT 81) (nI 1) 3) 79 true,oG 83 (iA 166 80 82) 79 true,fG 84 171 83 0 79 true,lG 85 3 84 79 true,oG 86 (.binOp .eql 3 (xT 85) (nI 2) 3) 79 true,pF 87 79 86,aO 73 87] [0,3,5,9,10,11,12,13,73] (cD 73 (sR [mO 88 0,mO 89 12,bQ .add 90 3 89 1 3,iO 91 166 88 90,fO 92 171 91 1,lO 93 3 92,aO 14 93] [0,3,5,9,10,11,12,13,14] (sR [mO 94 9,fO 95 25 5 0,lO 96 3 95,mO 97 10,mO 98 13,oO 99 (.slice 23 (xT 97) none (some (xT 98)) none),mO 100 11,mO 101 14,oO 102 (.slice 23 (xT 100) none (some (xT 101)) none),mO 103 3,oO 104 (cL 154 #[(xT 96),(xT 99),(xT 102),(xT 103)] #[3,23,23,3]),aP 105 94 104 31 31 [4],aO 9 105] [0,3,5,9,10,11,12,13,14] (sR [mO 106 10,mO 107 13,oO 108 (.slice 23 (xT 106) (some (xT 107)) none none),mO 109 11,mO 110 14,oO 111 (.slice 23 (xT 109) (some (xT 110)) none none),aO 10 108,aO 11 111] [0,3,5,9,10,11,12] (.reg [mO 112 12,bQ .add 113 3 112 1 3,aO 12 113] [0,3,5,9,10,11,12])))) (.reg [mO 30 9,mO 31 10,mO 32 13,oO 33 (.slice 23 (xT 31) none (some (xT 32)) none),cA 34 180 33 23,aP 35 30 34 31 31 [5],mO 36 10,mO 37 13,oO 38 (.slice 23 (xT 36) (some (xT 37)) none none),aO 9 35,aO 10 38] [0,3,5,9,10,11,12])))))))))) (.keep [0,3,5,9,10,11,12] (.reg [mO 23 12,bQ .add 24 3 23 1 3,aO 12 24] [0,3,5,9,10,11,12]))) 
def Yi:CC:=sR [bX 5 25 1 [0],bX 6 25 2 [1],aN 8] [0,3,5,6] (sR [aN 9] [0,3,5,6,9] (sR [fO 15 25 5 2,lO 16 23 15,fO 17 25 6 2,lO 18 23 17,aO 10 16,aO 11 18] [0,3,5,9,10,11] (sQ [aI 12 0] [0,3,5,9,10,11,12] (.block 0 (.loop F3)) [9] (sR [mO 114 9,aO 8 114] [8] (.ret)))))
theorem kf:Ba Tryz.prog 121 115 [(.tmp 8)] Yi:=Ap Tryz.func121
def Np:CC:=sR [fO 39 25 3 0,lS 40 3 39 1,mO 41 9,lO 42 25 3,lO 43 25 4,mO 44 2,⟨some 45,(cL 121 #[(xT 41),(xT 42),(xT 43),(xT 44)] #[166,25,25,3]),none,[],6,[1],false⟩,oO 46 (.build 33 #[(0,(nI 3)),(5,(xT 40)),(6,(xT 45))]),sT 33 6 46] [6] (.ret) 
def Vm:CC:=sR [bX 3 25 0 [0],bX 4 25 1 [1],aL 6 33 [2]] [2,3,4,6] (sR [oO 11 (.build 163 #[]),bX 12 163 11 [3],aO 7 12] [2,3,4,6,7] (.stop (sR [mO 13 7,fO 14 25 3 2,lO 15 23 14,cB 16 118 13 15 161 23,aO 8 16] [2,3,4,6,7,8] (sR [mO 18 8,mO 19 7,fO 20 25 4 2,lO 21 23 20,cB 22 118 19 21 161 23,mO 23 2,cE 24 119 18 22 23 164 164 3,mO 17 24,xO 25 17 0,xO 26 17 1,aO 9 25,aO 10 26] [2,3,4,6,9,10] (sQ [mO 27 10,oO 28 (.unOp .not 4 (xT 27))] [2,3,4,6,9,28] (cD 28 (.reg [fO 29 25 3 2,lO 30 23 29,bN 31 30 23,oO 32 (.build 171 #[(0,(nI 1)),(1,(xT 31))]),fO 33 25 4 2,lO 34 23 33,bN 35 34 23,oO 36 (.build 171 #[(0,(nI 2)),(1,(xT 35))]),oO 37 (.buildSlice 166 2 #[(0,(xT 32)),(1,(xT 36))]),cA 38 120 37 166,aO 9 38] [2,3,4,6,9]) (.skip)) [2,3,4,6,9] Np)))))
theorem eD:Ba Tryz.prog 62 47 [(.cell 6 33)] Vm:=Ap Tryz.func62
def Xj:CC:=sR [bX 3 25 0 [0],bX 4 25 1 [1],aL 6 33 [2]] [2,3,4,6] (.seq (.block 0 (sR [lO 8 25 3,lO 9 25 4,cB 10 59 8 9 25 25,aO 7 10] [2,3,4,6,7] (cD 7 (sR [oO 11 (.build 33 #[]),sT 33 6 11] [6] (.ret)) (sR [fO 13 25 3 0,lO 14 3 13,bQ .eql 15 3 14 1 3,mO 16 15,fG 17 25 4 0 16 true,lG 18 3 17 16 true,oG 19 (.binOp .eql 3 (xT 18) (nI 1) 3) 16 true,pF 20 16 19,aO 12 20] [2,3,4,6,12] (cD 12 (sR [lO 21 25 3,lO 22 25 4,mO 23 2,cE 24 60 21 22 23 25 25 3,sT 33 6 24] [6] (.ret)) (sR [fO 26 25 3 0,lO 27 3 26,fO 28 25 4 0,lO 29 3 28,bB .eql 30 3 27 29 3,mO 31 30,fG 32 25 3 0 31 true,lG 33 3 32 31 true,oG 34 (cL 61 #[(xT 33)] #[3]) 31 true,pF 35 31 34,aO 25 35] [2,3,4,6,25] (cD 25 (sR [lO 36 25 3,lO 37 25 4,mO 38 2,cE 39 62 36 37 38 25 25 3,sT 33 6 39] [6] (.ret)) (.skip)))))))) (.keep [3,4,6] (sR [lO 40 25 3,lO 41 25 4,oO 42 (.build 33 #[(0,(nI 1)),(1,(xT 40)),(2,(xT 41))]),sT 33 6 42] [6] (.ret))))
theorem jF:Ba Tryz.prog 30 43 [(.cell 6 33)] Xj:=Ap Tryz.func30
def Ls:CC:=sR [bX 2 25 0 [0],oO 4 (.assign (.const (.int .u64 0)))] [1,2] (sQ [mO 5 1,fO 6 25 2 1,lO 7 22 6,bN 8 7 22,bB .lss 9 3 5 8 3] [1,2,9] (cD 9 (sR [fO 10 25 2 1,lO 11 22 10,mO 12 1,iO 13 22 11 12,lO 14 51 13,aO 4 14] [4] (.ret)) (.skip)) [] (sR [oO 4 (.assign (.const (.int .u64 0)))] [4] (.ret)))
theorem Sb:Ba Tryz.prog 162 15 [(.tmp 4)] Ls:=Ap Tryz.func162
def M9:CC:=sR [bX 2 25 0 [0],aL 4 25 [1]] [1,2,4] (sQ [mO 5 1,fO 6 25 2 2,lO 7 23 6,bN 8 7 23,bB .lss 9 3 5 8 3] [1,2,4,9] (cD 9 (sR [fO 10 25 2 2,lO 11 23 10,mO 12 1,iO 13 23 11 12,lO 14 25 13,sT 25 4 14] [4] (.ret)) (.skip)) [4] (sR [oO 15 (.build 25 #[]),sT 25 4 15] [4] (.ret)))
theorem Ug:Ba Tryz.prog 164 16 [(.cell 4 25)] M9:=Ap Tryz.func164
def Dy:CC:=sQ [mO 13 8,fO 14 25 3 1,lO 15 22 14,bN 16 15 22,bB .lss 17 3 13 16 3,mO 18 17,mG 19 8 18 false,fG 20 25 4 1 18 false,lG 21 22 20 18 false,oG 22 (bL 21 22) 18 false,oG 23 (bO .lss 3 19 22 3) 18 false,pT 24 18 23] [2,3,4,6,7,8,24] (cD 24 (.skip) (.exit 0)) [2,3,4,6,7,8] (.seq (.block 1 (sR [lO 27 25 3,mO 28 8,⟨some 29,(cL 162 #[(xT 27),(xT 28)] #[25,3]),none,[],2,[],true⟩,⟨some 30,(lD 25 4),none,[],3,[2],false⟩,mO 31 8,cB 32 162 30 31 25 3,cB 33 161 29 32 51 51,aO 9 33] [2,3,4,6,7,8,9] (sR [mO 34 9,oO 35 (.binOp .neq 5 (xT 34) (.const (.int .u8 0)) 5)] [2,3,4,6,7,8,9,35] (cD 35 (.reg [fO 36 33 7 3,lS 37 29 36 1,mO 38 8,mO 39 9,lO 40 25 3,mO 41 8,⟨some 42,(cL 162 #[(xT 40),(xT 41)] #[25,3]),none,[],6,[1],true⟩,mO 43 9,⟨some 44,(cL 163 #[(.const (.int .u64 0)),(xT 42),(xT 43)] #[51,51,5]),none,[],8,[1],true⟩,⟨some 45,(lD 25 4),none,[],9,[6,8],false⟩,mO 46 8,⟨some 47,(cL 162 #[(xT 45),(xT 46)] #[25,3]),none,[],11,[1],false⟩,mO 48 9,⟨some 49,(cL 163 #[(.const (.int .u64 0)),(xT 47),(xT 48)] #[51,51,5]),none,[],13,[1],false⟩,oO 50 (.build 80 #[(0,(xT 38)),(1,(xT 39)),(2,(xT 44)),(3,(xT 49))]),⟨some 51,(.buildSlice 29 1 #[(0,(xT 50))]),none,[],15,[1],false⟩,aP 52 37 51 29 29 [4],fO 53 33 7 3,sT 29 53 52] [2,3,4,6,7,8]) (.skip))))) (.keep [2,3,4,6,7,8] (.reg [mO 25 8,bQ .add 26 3 25 1 3,aO 8 26] [2,3,4,6,7,8])))
def Dt:CC:=sQ [mO 54 10,fO 55 25 3 2,lO 56 23 55,bN 57 56 23,bB .lss 58 3 54 57 3,mO 59 58,mG 60 10 59 false,fG 61 25 4 2 59 false,lG 62 23 61 59 false,oG 63 (bL 62 23) 59 false,oG 64 (bO .lss 3 60 63 3) 59 false,pT 65 59 64] [2,3,4,6,7,10,65] (cD 65 (.skip) (.exit 2)) [2,3,4,6,7,10] (.seq (.block 3 (sR [lS 68 25 3 0,mO 69 10,⟨some 70,(cL 164 #[(xT 68),(xT 69)] #[25,3]),none,[],2,[],true⟩,⟨some 71,(lD 25 4),none,[],3,[2],true⟩,mO 72 10,⟨some 73,(cL 164 #[(xT 71),(xT 72)] #[25,3]),none,[],5,[],true⟩,mO 74 2,⟨some 75,(cL 53 #[(xT 70),(xT 73),(xT 74)] #[25,25,3]),none,[],7,[],true⟩,⟨some 11,(.alloc 33),none,[5],8,[0,2,3,5,7],false⟩,sT 33 11 75] [2,3,4,6,7,10,11] (sR [fO 76 33 11 0,lO 77 3 76,bQ .neq 78 3 77 0 3] [2,3,4,6,7,10,11,78] (cD 78 (.reg [fO 79 33 7 4,lO 80 30 79,mO 81 10,lO 82 33 11,oO 83 (.build 89 #[(0,(xT 81)),(1,(xT 82))]),oO 84 (.buildSlice 30 1 #[(0,(xT 83))]),aP 85 80 84 30 30 [6],fO 86 33 7 4,sT 30 86 85] [2,3,4,6,7,10]) (.skip))))) (.keep [2,3,4,6,7,10] (.reg [mO 66 10,bQ .add 67 3 66 1 3,aO 10 67] [2,3,4,6,7,10]))) 
def Jl:CC:=sR [bX 3 25 0 [0],bX 4 25 1 [1],aL 6 33 [2]] [2,3,4,6] (sR [oO 12 (.build 33 #[(0,(nI 2))]),aL 7 33 [3],sT 33 7 12] [2,3,4,6,7] (sQ [aI 8 0] [2,3,4,6,7,8] (.block 0 (.loop Dy)) [2,3,4,6,7] (sQ [aI 10 0] [2,3,4,6,7,10] (.block 2 (.loop Dt)) [6,7] (sR [lO 87 33 7,sT 33 6 87] [6] (.ret)))))
theorem OD:Ba Tryz.prog 102 88 [(.cell 6 33)] Jl:=Ap Tryz.func102
def K7:CC:=sR [aN 6] [0,1,2] (sQ [mO 7 2,bN 8 7 23,bQ .eql 9 3 8 0 3] [0,1,2,9] (cD 9 (sR [mO 10 0,aO 6 10] [6] (.ret)) (.skip)) [0,1,2] (sR [mO 11 0,mO 12 1,mO 13 2,oO 14 (.build 91 #[(0,(xT 12)),(2,(xT 13))]),oO 15 (.buildSlice 31 1 #[(0,(xT 14))]),aP 16 11 15 31 31 [0],aO 6 16] [6] (.ret)))
theorem SO:Ba Tryz.prog 168 17 [(.tmp 6)] K7:=Ap Tryz.func168
def FG:CC:=sQ [mO 27 9,mO 28 1,bN 29 28 23,bB .lss 30 3 27 29 3] [0,1,2,7,8,9,30] (cD 30 (.skip) (.exit 2)) [0,1,2,7,8,9] (.seq (.block 3 (.reg [mO 33 7,mO 34 8,iO 35 240 33 34,lS 36 164 35 3,mO 37 9,mO 38 0,mO 39 8,iO 40 23 38 39,lO 41 25 40,mO 42 1,mO 43 9,iO 44 23 42 43,lO 45 25 44,⟨some 46,(cL 215 #[(xT 41),(xT 45)] #[25,25]),none,[],13,[3],false⟩,iO 47 164 36 37,sT 3 47 46] [0,1,2,7,8,9])) (.reg [mO 31 9,bQ .add 32 3 31 1 3,aO 9 32] [0,1,2,7,8,9]))
def FF:CC:=sQ [mO 15 8,mO 16 0,bN 17 16 23,bB .lss 18 3 15 17 3] [0,1,2,7,8,18] (cD 18 (.skip) (.exit 0)) [0,1,2,7,8] (.seq (.block 1 (sR [mO 21 7,mO 22 1,bN 23 22 23,oN 24 (.makeSlice 164 (xT 23) (xT 23)) [0],oN 25 (.buildSlice 240 1 #[(0,(xT 24))]) [3],aP 26 21 25 240 240 [1],aO 7 26] [0,1,2,7,8] (sR [aI 9 0] [0,1,2,7,8,9] (.block 2 (.loop FG))))) (.keep [0,1,2,7,8] (.reg [mO 19 8,bQ .add 20 3 19 1 3,aO 8 20] [0,1,2,7,8])))
def FC:CC:=sQ [mO 50 14,mO 51 10,bN 52 51 258,bB .lss 53 3 50 52 3] [0,1,2,10,11,12,13,14,53] (cD 53 (.skip) (.exit 4)) [0,1,2,10,11,12,13,14] (.seq (.block 5 (sR [mO 56 11,mO 57 0,mO 58 12,mO 59 10,mO 60 14,iO 61 258 59 60,fO 62 260 61 0,lO 63 3 62,oO 64 (.slice 23 (xT 57) (some (xT 58)) (some (xT 63)) none),oO 65 (cL 168 #[(xT 56),(nI 1),(xT 64)] #[31,3,23]),aO 11 65] [0,1,2,10,11,13,14] (sR [mO 66 11,mO 67 1,mO 68 13,mO 69 10,mO 70 14,iO 71 258 69 70,fO 72 260 71 1,lO 73 3 72,oO 74 (.slice 23 (xT 67) (some (xT 68)) (some (xT 73)) none),oO 75 (cL 168 #[(xT 66),(nI 2),(xT 74)] #[31,3,23]),aO 11 75] [0,1,2,10,11,14] (sR [mO 76 11,mO 77 0,mO 78 10,mO 79 14,iO 80 258 78 79,fO 81 260 80 0,lO 82 3 81,iO 83 23 77 82,lO 84 25 83,mO 85 1,mO 86 10,mO 87 14,iO 88 258 86 87,fO 89 260 88 1,lO 90 3 89,iO 91 23 85 90,lO 92 25 91,mO 93 2,cE 94 53 84 92 93 25 25 3,oO 95 (.build 91 #[(0,(nI 3)),(3,(xT 94))]),oO 96 (.buildSlice 31 1 #[(0,(xT 95))]),aP 97 76 96 31 31 [2],aO 11 97] [0,1,2,10,11,14] (sR [mO 98 10,mO 99 14,iO 100 258 98 99,fO 101 260 100 0,lO 102 3 101,bQ .add 103 3 102 1 3,aO 12 103] [0,1,2,10,11,12,14] (.reg [mO 104 10,mO 105 14,iO 106 258 104 105,fO 107 260 106 1,lO 108 3 107,bQ .add 109 3 108 1 3,aO 13 109] [0,1,2,10,11,12,13,14])))))) (.reg [mO 54 14,bQ .add 55 3 54 1 3,aO 14 55] [0,1,2,10,11,12,13,14])) 
def M5:CC:=sR [aN 6] [0,1,2] (sR [aN 7] [0,1,2,7] (sQ [aI 8 0] [0,1,2,7,8] (.block 0 (.loop FF)) [0,1,2,7] (.stop (sR [mO 48 7,cA 49 216 48 240,aO 10 49] [0,1,2,10] (sR [aN 11] [0,1,2,10,11] (sR [aI 12 0,aI 13 0] [0,1,2,10,11,12,13] (sQ [aI 14 0] [0,1,2,10,11,12,13,14] (.block 4 (.loop FC)) [0,1,11,12,13] (sR [mO 110 11,mO 111 0,mO 112 12,oO 113 (.slice 23 (xT 111) (some (xT 112)) none none),oO 114 (cL 168 #[(xT 110),(nI 1),(xT 113)] #[31,3,23]),aO 11 114] [1,11,13] (sR [mO 115 11,mO 116 1,mO 117 13,oO 118 (.slice 23 (xT 116) (some (xT 117)) none none),oO 119 (cL 168 #[(xT 115),(nI 2),(xT 118)] #[31,3,23]),aO 6 119] [6] (.ret))))))))))
theorem TR:Ba Tryz.prog 167 120 [(.tmp 6)] M5:=Ap Tryz.func167
def Eu:CC:=sR [fO 123 33 13 6,lS 124 31 123 1,fO 125 25 3 2,lO 126 23 125,mO 127 14,mO 128 14,mO 129 17,bB .add 130 3 128 129 3,oO 131 (.slice 23 (xT 126) (some (xT 127)) (some (xT 130)) none),fO 132 25 4 2,lO 133 23 132,mO 134 15,mO 135 15,mO 136 18,bB .add 137 3 135 136 3,oO 138 (.slice 23 (xT 133) (some (xT 134)) (some (xT 137)) none),mO 139 2,⟨some 140,(cL 167 #[(xT 131),(xT 138),(xT 139)] #[23,23,3]),none,[],17,[1],false⟩,aP 141 124 140 31 31 [5],fO 142 33 13 6,sT 31 142 141] [2,3,4,6,11,13,14,15,16,17,18] (sR [mO 143 14,mO 144 17,bB .add 145 3 143 144 3,aO 14 145] [2,3,4,6,11,13,14,15,16,18] (.reg [mO 146 15,mO 147 18,bB .add 148 3 146 147 3,aO 15 148] [2,3,4,6,11,13,14,15,16]))
def Bi:CC:=sQ [mO 54 16,mO 55 11,bN 56 55 208,bB .lss 57 3 54 56 3] [2,3,4,6,11,13,14,15,16,57] (cD 57 (.skip) (.exit 0)) [2,3,4,6,11,13,14,15,16] (.seq (.block 1 (sR [mO 60 11,mO 61 16,iO 62 208 60 61,fO 63 211 62 1,lO 64 3 63,aO 17 64] [2,3,4,6,11,13,14,15,16,17] (sR [mO 65 11,mO 66 16,iO 67 208 65 66,fO 68 211 67 0,lO 69 3 68] [2,3,4,6,11,13,14,15,16,17,69] (.block 2 (sR [bQ .eql 85 3 69 0 3,aO 84 85] [2,3,4,6,11,13,14,15,16,17,69,84] (cD 84 (sR [fO 86 33 13 6,lO 87 31 86,mO 88 17,oO 89 (.build 91 #[(1,(xT 88))]),oO 90 (.buildSlice 31 1 #[(0,(xT 89))]),aP 91 87 90 31 31 [4],fO 92 33 13 6,sT 31 92 91] [2,3,4,6,11,13,14,15,16,17] (sR [mO 93 14,mO 94 17,bB .add 95 3 93 94 3,aO 14 95] [2,3,4,6,11,13,14,15,16,17] (.reg [mO 96 15,mO 97 17,bB .add 98 3 96 97 3,aO 15 98] [2,3,4,6,11,13,14,15,16]))) (sR [bQ .eql 100 3 69 1 3,aO 99 100] [2,3,4,6,11,13,14,15,16,17,99] (cD 99 (sR [aI 18 0] [2,3,4,6,11,13,14,15,16,17,18] (sQ [mO 101 16,bQ .add 102 3 101 1 3,mO 103 11,bN 104 103 208,bB .lss 105 3 102 104 3,mO 106 105,mG 107 11 106 true,mG 108 16 106 true,oG 109 (.binOp .add 3 (xT 108) (nI 1) 3) 106 true,oG 110 (iA 208 107 109) 106 true,fG 111 211 110 0 106 true,lG 112 3 111 106 true,oG 113 (.binOp .eql 3 (xT 112) (nI 2) 3) 106 true,pF 114 106 113] [2,3,4,6,11,13,14,15,16,17,18,114] (cD 114 (sR [mO 115 11,mO 116 16,bQ .add 117 3 116 1 3,iO 118 208 115 117,fO 119 211 118 1,lO 120 3 119,aO 18 120] [2,3,4,6,11,13,14,15,16,17,18] (.reg [mO 121 16,bQ .add 122 3 121 1 3,aO 16 122] [2,3,4,6,11,13,14,15,16,17,18])) (.skip)) [2,3,4,6,11,13,14,15,16,17,18] Eu)) (sR [fO 70 33 13 6,lO 71 31 70,fO 72 25 4 2,lO 73 23 72,mO 74 15,mO 75 15,mO 76 17,bB .add 77 3 75 76 3,oO 78 (.slice 23 (xT 73) (some (xT 74)) (some (xT 77)) none),oO 79 (cL 168 #[(xT 71),(nI 2),(xT 78)] #[31,3,23]),fO 80 33 13 6,sT 31 80 79] [2,3,4,6,11,13,14,15,16,17] (.reg [mO 81 15,mO 82 17,bB .add 83 3 81 82 3,aO 15 83] [2,3,4,6,11,13,14,15,16])))))))))) (.keep [2,3,4,6,11,13,14,15,16] (.reg [mO 58 16,bQ .add 59 3 58 1 3,aO 16 59] [2,3,4,6,11,13,14,15,16])))
def Gz:CC:=sR [fO 51 25 3 0,lO 52 3 51,oO 53 (.build 33 #[(0,(nI 3)),(5,(xT 52))]),aL 13 33 [3],sT 33 13 53] [2,3,4,6,11,13] (sR [aI 14 0,aI 15 0] [2,3,4,6,11,13,14,15] (sQ [aI 16 0] [2,3,4,6,11,13,14,15,16] (.block 0 (.loop Bi)) [6,13] (sR [lO 149 33 13,sT 33 6 149] [6] (.ret)))) 
def Kg:CC:=sR [bX 3 25 0 [0],bX 4 25 1 [1],aL 6 33 [2]] [2,3,4,6] (sR [aN 7] [2,3,4,6,7] (.stop (sR [mO 20 7,fO 21 25 3 2,lO 22 23 21,cB 23 165 20 22 23 23,mO 19 23,xO 24 19 0,xO 25 19 1,aO 7 24,aO 8 25] [2,3,4,6,7,8] (sR [mO 27 7,fO 28 25 4 2,lO 29 23 28,cB 30 165 27 29 23 23,mO 26 30,xO 31 26 0,xO 32 26 1,aO 9 31,aO 10 32] [2,3,4,6,8,10] (.stop (sR [mO 34 8,mO 35 10,mO 36 2,cE 37 166 34 35 36 164 164 3,mO 33 37,xO 38 33 0,xO 39 33 1,aO 11 38,aO 12 39] [2,3,4,6,11,12] (sQ [mO 40 12,oO 41 (.unOp .not 4 (xT 40))] [2,3,4,6,11,41] (cD 41 (.reg [fO 42 25 3 2,lO 43 23 42,bN 44 43 23,oO 45 (.build 211 #[(0,(nI 1)),(1,(xT 44))]),fO 46 25 4 2,lO 47 23 46,bN 48 47 23,oO 49 (.build 211 #[(0,(nI 2)),(1,(xT 48))]),oO 50 (.buildSlice 208 2 #[(0,(xT 45)),(1,(xT 49))]),aO 11 50] [2,3,4,6,11]) (.skip)) [2,3,4,6,11] Gz)))))))
theorem QP:Ba Tryz.prog 103 150 [(.cell 6 33)] Kg:=Ap Tryz.func103
def Ky:CC:=sR [bX 3 25 0 [0],bX 4 25 1 [1],aL 6 33 [2]] [2,3,4,6] (sQ [lO 7 25 3,lO 8 25 4,cB 9 101 7 8 25 25] [2,3,4,6,9] (cD 9 (sR [oO 10 (.build 33 #[]),sT 33 6 10] [6] (.ret)) (.skip)) [2,3,4,6] (sQ [fO 11 25 3 0,lO 12 3 11,bQ .eql 13 3 12 1 3,mO 14 13,fG 15 25 4 0 14 true,lG 16 3 15 14 true,oG 17 (.binOp .eql 3 (xT 16) (nI 1) 3) 14 true,pF 18 14 17] [2,3,4,6,18] (cD 18 (sR [lO 19 25 3,lO 20 25 4,mO 21 2,cE 22 102 19 20 21 25 25 3,sT 33 6 22] [6] (.ret)) (.skip)) [2,3,4,6] (sQ [fO 23 25 3 0,lO 24 3 23,fO 25 25 4 0,lO 26 3 25,bB .eql 27 3 24 26 3,mO 28 27,fG 29 25 3 0 28 true,lG 30 3 29 28 true,oG 31 (.binOp .geq 3 (xT 30) (nI 2) 3) 28 true,pF 32 28 31,mO 33 32,fG 34 25 3 0 33 true,lG 35 3 34 33 true,oG 36 (.binOp .leq 3 (xT 35) (nI 9) 3) 33 true,pF 37 33 36] [2,3,4,6,37] (cD 37 (sR [lO 38 25 3,lO 39 25 4,mO 40 2,cE 41 103 38 39 40 25 25 3,sT 33 6 41] [6] (.ret)) (.skip)) [3,4,6] (sR [lO 42 25 3,lO 43 25 4,oO 44 (.build 33 #[(0,(nI 1)),(1,(xT 42)),(2,(xT 43))]),sT 33 6 44] [6] (.ret)))))
theorem QN:Ba Tryz.prog 53 45 [(.cell 6 33)] Ky:=Ap Tryz.func53
def Ke:CC:=sR [bX 3 25 0 [0],bX 4 25 1 [1],aL 6 33 [2]] [2,3,4,6] (sR [lO 7 25 3,⟨some 8,(cL 32 #[(xT 7)] #[25]),none,[],1,[],true⟩,⟨some 9,(lD 25 4),none,[],2,[1],false⟩,cA 10 32 9 25,mO 11 2,cE 12 53 8 10 11 25 25 3,cA 13 52 12 33,sT 33 6 13] [6] (.ret))
theorem Re:Ba Tryz.prog 25 14 [(.cell 6 33)] Ke:=Ap Tryz.func25
@[simp] theorem Aif:DB Tryz.prog 47=some 1:=by kernel_rfl
@[simp] theorem Ag3:DQ Tryz.prog 47=some false:=by kernel_rfl
@[simp] theorem tU:An Tryz.prog 83 0=some 0:=by kernel_rfl
@[simp] theorem rz:An Tryz.prog 83 1=some 1:=by kernel_rfl
@[simp] theorem AbK (ps:List (Nat × A)):Cc Tryz.prog 83 ps=(CI (fun i=>([(0,1),(1,1)]:List (Nat × Nat))[i]?) [iv 0,iv 0] ps).map A.agg:=by kernel_rfl
def Jn:CC:=sR [mO 4 0,nC 5 4,fO 6 83 5 1,lO 7 47 6,bQ .eql 8 47 7 0 47] [0,1,8] (cD 8 (.reg [mO 9 0,mO 10 1,nC 11 9,fO 12 83 11 1,sT 47 12 10] []) (.skip))
theorem Ot:Ba Tryz.prog 148 13 [] Jn:=Ap Tryz.func148
def I4:CC:=sR [bX 3 53 1 [1],aL 4 25 [2]] [0,3,4] (sR [lO 8 53 3,cA 9 156 8 53,mO 7 9,xO 10 7 0,xO 11 7 1,aL 5 25 [3],sT 25 5 10,aO 6 11] [0,4,5,6] (sR [mO 12 0,mO 13 6,cB 14 148 12 13 81 47] [4,5] (sR [lO 15 25 5,cA 16 31 15 25,sT 25 4 16] [4] (.ret))))
theorem O3:Ba Tryz.prog 98 17 [(.cell 4 25)] I4:=Ap Tryz.func98
def Jt:CC:=sR [bX 4 53 1 [1],aL 6 53 [2]] [0,2,4,6] (sR [lO 10 53 4,mO 11 2,cB 12 194 10 11 53 3,mO 9 12,xO 13 9 0,xO 14 9 1,aL 7 53 [3],sT 53 7 13,aO 8 14] [0,6,7,8] (sR [mO 15 0,mO 16 8,cB 17 148 15 16 81 47] [6,7] (sR [lO 18 53 7,sT 53 6 18] [6] (.ret))))
theorem P5:Ba Tryz.prog 152 19 [(.cell 6 53)] Jt:=Ap Tryz.func152
def Jg:CC:=sR [bX 4 53 1 [1],bX 5 53 2 [2],aB 6 false] [0,4,5] (sR [lO 10 53 4,lO 11 53 5,cB 12 147 10 11 53 53,mO 9 12,xO 13 9 0,xO 14 9 1,aO 7 13,aO 8 14] [0,7,8] (sR [mO 15 0,mO 16 8,cB 17 148 15 16 81 47] [7] (sR [mO 18 7,aO 6 18] [6] (.ret))))
theorem OX:Ba Tryz.prog 94 19 [(.tmp 6)] Jg:=Ap Tryz.func94
def I5:CC:=sR [bX 3 53 1 [1],aI 4 0] [0,3] (sR [lO 8 53 3,cA 9 199 8 53,mO 7 9,xO 10 7 0,xO 11 7 1,aO 5 10,aO 6 11] [0,5,6] (sR [mO 12 0,mO 13 6,cB 14 148 12 13 81 47] [5] (sR [mO 15 5,aO 4 15] [4] (.ret))))
theorem Pr:Ba Tryz.prog 151 16 [(.tmp 4)] I5:=Ap Tryz.func151
def Ju:CC:=sR [bX 4 53 1 [1],bX 5 53 2 [2],aL 6 33 [3]] [0,4,5,6] (.seq (.block 0 (sR [mO 8 0,nC 9 8,fO 10 83 9 1,lO 11 47 10,bQ .neq 12 47 11 0 47,mO 13 12,mG 14 0 13 false,lG 15 53 4 13 false,lG 16 53 5 13 false,oG 17 (cL 94 #[(xT 14),(xT 15),(xT 16)] #[81,53,53]) 13 false,pT 18 13 17,aO 7 18] [0,4,5,6,7] (cD 7 (sR [oO 19 (.build 33 #[]),sT 33 6 19] [6] (.ret)) (sR [lO 21 53 4,cA 22 95 21 53,bQ .eql 23 3 22 1 3,mO 24 23,lG 25 53 5 24 true,oG 26 (cL 95 #[(xT 25)] #[53]) 24 true,oG 27 (.binOp .eql 3 (xT 26) (nI 1) 3) 24 true,pF 28 24 27,aO 20 28] [0,4,5,6,20] (cD 20 (sR [mO 29 0,lO 30 53 4,lO 31 53 5,cE 32 96 29 30 31 81 53 53,sT 33 6 32] [6] (.ret)) (sR [lO 34 53 4,⟨some 35,(cL 95 #[(xT 34)] #[53]),none,[],1,[],true⟩,⟨some 36,(lD 53 5),none,[],2,[1],false⟩,cA 37 95 36 53,bB .eql 38 3 35 37 3,mO 39 38,lG 40 53 4 39 true,oG 41 (cL 95 #[(xT 40)] #[53]) 39 true,oG 42 (cL 61 #[(xT 41)] #[3]) 39 true,pF 43 39 42,aO 33 43] [0,4,5,6,33] (cD 33 (sR [mO 44 0,lO 45 53 4,lO 46 53 5,cE 47 97 44 45 46 81 53 53,sT 33 6 47] [6] (.ret)) (.skip)))))))) (.keep [0,4,5,6] (sR [mO 48 0,lO 49 53 4,⟨some 50,(cL 98 #[(xT 48),(xT 49)] #[81,53]),none,[],2,[],true⟩,mO 51 0,⟨some 52,(lD 53 5),none,[],4,[2],false⟩,cB 53 98 51 52 81 53,oO 54 (.build 33 #[(0,(nI 1)),(1,(xT 50)),(2,(xT 53))]),sT 33 6 54] [6] (.ret))))
theorem P6:Ba Tryz.prog 48 55 [(.cell 6 33)] Ju:=Ap Tryz.func48
def Cr:CC:=sR [bB .lss 20 3 19 18 3] [0,4,5,6,7,18,19,20] (.seq (cD 20 (.skip) (.exit 0)) (.keep [0,4,5,6,7,18,19] (.seq (.block 1 (sR [mO 21 19,aO 8 21] [0,4,5,6,7,8,18,19] (sR [mO 23 8,lS 24 53 4 1,mO 25 8,⟨some 26,(cL 150 #[(xT 24),(xT 25)] #[53,3]),none,[],3,[],true⟩,⟨some 27,(lD 53 5),none,[],4,[3],true⟩,mO 28 8,⟨some 29,(cL 150 #[(xT 27),(xT 28)] #[53,3]),none,[],6,[],true⟩,⟨some 30,(cL 117 #[(xT 23),(xT 26),(xT 29)] #[3,51,51]),none,[],7,[],true⟩,mO 22 30,xO 31 22 0,xO 32 22 1,⟨some 9,(.alloc 80),none,[5],11,[1,3,4,6,7],false⟩,sT 80 9 31,aO 10 32] [0,4,5,6,7,9,10,18,19] (sR [mO 33 10] [0,4,5,6,7,9,18,19,33] (cD 33 (.reg [fO 34 33 7 3,lO 35 29 34,lO 36 80 9,oO 37 (.buildSlice 29 1 #[(0,(xT 36))]),aP 38 35 37 29 29 [6],fO 39 33 7 3,sT 29 39 38] [0,4,5,6,7,18,19]) (.skip)))))) (.keep [0,4,5,6,7,18,19] (.reg [bQ .add 40 3 19 1 3,mO 19 40] [0,4,5,6,7,18,19])))))
def Cz:CC:=sR [bB .lss 49 3 48 47 3] [0,4,5,6,7,47,48,49] (.seq (cD 49 (.skip) (.exit 2)) (.keep [0,4,5,6,7,47,48] (.seq (.block 3 (sR [mO 50 48,aO 11 50] [0,4,5,6,7,11,47,48] (sR [mO 51 0,mO 52 0,lS 53 53 4 2,mO 54 11,⟨some 55,(cL 152 #[(xT 52),(xT 53),(xT 54)] #[81,53,3]),none,[],4,[],true⟩,mO 56 0,⟨some 57,(lD 53 5),none,[],6,[4],true⟩,mO 58 11,⟨some 59,(cL 152 #[(xT 56),(xT 57),(xT 58)] #[81,53,3]),none,[],8,[],true⟩,⟨some 60,(cL 48 #[(xT 51),(xT 55),(xT 59)] #[81,53,53]),none,[],9,[],true⟩,⟨some 12,(.alloc 33),none,[7],10,[2,4,6,8,9],false⟩,sT 33 12 60] [0,4,5,6,7,11,12,47,48] (sR [fO 61 33 12 0,lO 62 3 61,bQ .neq 63 3 62 0 3] [0,4,5,6,7,11,12,47,48,63] (cD 63 (.reg [fO 64 33 7 4,lO 65 30 64,mO 66 11,lO 67 33 12,oO 68 (.build 89 #[(0,(xT 66)),(1,(xT 67))]),oO 69 (.buildSlice 30 1 #[(0,(xT 68))]),aP 70 65 69 30 30 [8],fO 71 33 7 4,sT 30 71 70] [0,4,5,6,7,47,48]) (.skip)))))) (.keep [0,4,5,6,7,47,48] (.reg [bQ .add 72 3 48 1 3,mO 48 72] [0,4,5,6,7,47,48]))))) 
def Gq:CC:=sR [bX 4 53 1 [1],bX 5 53 2 [2],aL 6 33 [3]] [0,4,5,6] (sR [oO 13 (.build 33 #[(0,(nI 2))]),aL 7 33 [4],sT 33 7 13] [0,4,5,6,7] (sQ [lO 14 53 4,⟨some 15,(cL 149 #[(xT 14)] #[53]),none,[],1,[],true⟩,⟨some 16,(lD 53 5),none,[],2,[1],false⟩,cA 17 149 16 53,oO 18 (bC .max #[(xT 15),(xT 17)] #[3,3]),oO 19 (.move (nI 0))] [0,4,5,6,7,18,19] (.block 0 (.loop Cr)) [0,4,5,6,7] (sQ [mO 41 0,lO 42 53 4,⟨some 43,(cL 151 #[(xT 41),(xT 42)] #[81,53]),none,[],2,[],true⟩,mO 44 0,⟨some 45,(lD 53 5),none,[],4,[2],false⟩,cB 46 151 44 45 81 53,oO 47 (bC .max #[(xT 43),(xT 46)] #[3,3]),oO 48 (.move (nI 0))] [0,4,5,6,7,47,48] (.block 2 (.loop Cz)) [6,7] (sR [lO 73 33 7,sT 33 6 73] [6] (.ret)))))
theorem KZ:Ba Tryz.prog 96 74 [(.cell 6 33)] Gq:=Ap Tryz.func96
def Hv:CC:=sR [bX 4 53 1 [1],bX 5 53 2 [2],aN 6] [0,4,5] (sR [oO 13 (cL 200 #[] #[]),aO 7 13] [0,4,5,7] (sR [mO 15 7,lO 16 53 4,cB 17 201 15 16 236 53,mO 14 17,xO 18 14 0,xO 19 14 1,aO 8 18,aO 9 19] [0,4,5,7,8,9] (sR [mO 20 0,mO 21 9,cB 22 148 20 21 81 47] [0,4,5,7,8] (sR [mO 24 7,lO 25 53 5,cB 26 201 24 25 236 53,mO 23 26,xO 27 23 0,xO 28 23 1,aO 10 27,aO 9 28] [0,4,5,8,9,10] (sR [mO 29 0,mO 30 9,cB 31 148 29 30 81 47] [0,4,5,8,10] (.stop (sR [mO 33 8,mO 34 10,mO 35 0,nC 36 35,fO 37 83 36 0,lO 38 3 37,cE 39 119 33 34 38 164 164 3,mO 32 39,xO 40 32 0,xO 41 32 1,aO 11 40,aO 12 41] [4,5,11,12] (sQ [mO 42 12,oO 43 (.unOp .not 4 (xT 42))] [4,5,11,43] (cD 43 (.reg [lO 44 53 4,⟨some 45,(cL 137 #[(xT 44)] #[53]),none,[],1,[],true⟩,oO 46 (.build 171 #[(0,(nI 1)),(1,(xT 45))]),⟨some 47,(lD 53 5),none,[],3,[1],false⟩,cA 48 137 47 53,oO 49 (.build 171 #[(0,(nI 2)),(1,(xT 48))]),oO 50 (.buildSlice 166 2 #[(0,(xT 46)),(1,(xT 49))]),cA 51 120 50 166,aO 11 51] [11]) (.skip)) [11] (sR [mO 52 11,aO 6 52] [6] (.ret))))))))))
theorem NG:Ba Tryz.prog 153 53 [(.tmp 6)] Hv:=Ap Tryz.func153
def Du:CC:=sR [bB .lss 13 3 12 11 3] [0,2,5,9,11,12,13] (.seq (cD 13 (.skip) (.exit 0)) (.keep [0,2,5,9,11,12] (.seq (.block 1 (sR [mO 14 12,aO 10 14] [0,2,5,9,10,11,12] (.reg [mO 15 9,mO 16 0,mO 17 0,lO 18 53 5,mO 19 2,mO 20 10,bB .add 21 3 19 20 3,cE 22 152 17 18 21 81 53 3,cB 23 98 16 22 81 53,oO 24 (.buildSlice 23 1 #[(0,(xT 23))]),aP 25 15 24 23 23 [2],aO 9 25] [0,2,5,9,11,12]))) (.reg [bQ .add 26 3 12 1 3,mO 12 26] [0,2,5,9,11,12])))) 
def Ja:CC:=sR [bX 5 53 1 [1],aN 8] [0,2,3,5] (sR [aN 9] [0,2,3,5,9] (sQ [mO 11 3,oO 12 (.move (nI 0))] [0,2,5,9,11,12] (.block 0 (.loop Du)) [9] (sR [mO 27 9,aO 8 27] [8] (.ret))))
theorem OK:Ba Tryz.prog 155 28 [(.tmp 8)] Ja:=Ap Tryz.func155
def Dw:CC:=sR [fO 78 33 7 6,lS 79 31 78 1,lO 80 53 4,⟨some 81,(cL 95 #[(xT 80)] #[53]),none,[],3,[1],true⟩,mO 82 0,⟨some 83,(lD 53 4),none,[],5,[3],false⟩,mO 84 8,mO 85 12,⟨some 86,(cL 155 #[(xT 82),(xT 83),(xT 84),(xT 85)] #[81,53,3,3]),none,[],8,[1],true⟩,mO 87 0,⟨some 88,(lD 53 5),none,[],10,[3,8],false⟩,mO 89 9,mO 90 13,⟨some 91,(cL 155 #[(xT 87),(xT 88),(xT 89),(xT 90)] #[81,53,3,3]),none,[],13,[1],true⟩,mO 92 0,nC 93 92,fO 94 83 93 0,⟨some 95,(lD 3 94),none,[],17,[3,8,13],false⟩,⟨some 96,(cL 154 #[(xT 81),(xT 86),(xT 91),(xT 95)] #[3,23,23,3]),none,[],18,[1],false⟩,aP 97 79 96 31 31 [7],fO 98 33 7 6,sT 31 98 97] [0,4,5,6,7,8,9,10,12,13] (.reg [mO 99 8,mO 100 12,bB .add 101 3 99 100 3,mO 102 9,mO 103 13,bB .add 104 3 102 103 3,aO 8 101,aO 9 104] [0,4,5,6,7,8,9,10])
def Be:CC:=sQ [mO 21 10,bN 22 21 166,bQ .gtr 23 3 22 0 3,mO 24 23,mG 25 0 24 true,oG 26 (.nilCheck (xT 25)) 24 true,fG 27 83 26 1 24 true,lG 28 47 27 24 true,oG 29 (.binOp .eql 47 (xT 28) (nI 0) 47) 24 true,pF 30 24 29] [0,4,5,6,7,8,9,10,30] (cD 30 (.skip) (.exit 0)) [0,4,5,6,7,8,9,10] (.block 1 (sR [mO 31 10,oO 32 (.indexAddr 166 (xT 31) (nI 0)),lO 33 171 32,aL 11 171 [5],sT 171 11 33] [0,4,5,6,7,8,9,10,11] (sR [mO 34 10,oO 35 (.slice 166 (xT 34) (some (nI 1)) none none),aO 10 35] [0,4,5,6,7,8,9,10,11] (sQ [fO 36 171 11 0,lO 37 3 36,bQ .eql 38 3 37 0 3] [0,4,5,6,7,8,9,10,11,38] (cD 38 (sR [fO 39 33 7 6,lO 40 31 39,fO 41 171 11 1,lO 42 3 41,oO 43 (.build 91 #[(1,(xT 42))]),oO 44 (.buildSlice 31 1 #[(0,(xT 43))]),aP 45 40 44 31 31 [6],fO 46 33 7 6,sT 31 46 45] [0,4,5,6,7,8,9,10,11] (sR [mO 47 8,fO 48 171 11 1,lO 49 3 48,bB .add 50 3 47 49 3,mO 51 9,fO 52 171 11 1,lO 53 3 52,bB .add 54 3 51 53 3,aO 8 50,aO 9 54] [0,4,5,6,7,8,9,10] (.exit 1))) (.skip)) [0,4,5,6,7,8,9,10,11] (sR [fO 55 171 11 1,lO 56 3 55,aI 12 0,aO 13 56] [0,4,5,6,7,8,9,10,11,12,13] (sQ [fO 57 171 11 0,lO 58 3 57,bQ .eql 59 3 58 1 3] [0,4,5,6,7,8,9,10,11,12,13,59] (cD 59 (sR [fO 60 171 11 1,lO 61 3 60,aO 12 61,aI 13 0] [0,4,5,6,7,8,9,10,12,13] (sR [mO 62 10,bN 63 62 166,bQ .gtr 64 3 63 0 3,mO 65 64,mG 66 10 65 true,oG 67 (.indexAddr 166 (xT 66) (nI 0)) 65 true,fG 68 171 67 0 65 true,lG 69 3 68 65 true,oG 70 (.binOp .eql 3 (xT 69) (nI 2) 3) 65 true,pF 71 65 70] [0,4,5,6,7,8,9,10,12,13,71] (cD 71 (.reg [mO 72 10,oO 73 (.indexAddr 166 (xT 72) (nI 0)),fO 74 171 73 1,lO 75 3 74,mO 76 10,oO 77 (.slice 166 (xT 76) (some (nI 1)) none none),aO 13 75,aO 10 77] [0,4,5,6,7,8,9,10,12,13]) (.skip)))) (.skip)) [0,4,5,6,7,8,9,10,12,13] Dw)))))) 
def IX:CC:=sR [bX 4 53 1 [1],bX 5 53 2 [2],aL 6 33 [3]] [0,4,5,6] (sR [lO 14 53 4,cA 15 95 14 53,oO 16 (.build 33 #[(0,(nI 3)),(5,(xT 15))]),aL 7 33 [4],sT 33 7 16] [0,4,5,6,7] (sR [aI 8 0,aI 9 0] [0,4,5,6,7,8,9] (sR [mO 17 0,lO 18 53 4,lO 19 53 5,cE 20 153 17 18 19 81 53 53,aO 10 20] [0,4,5,6,7,8,9,10] (.seq (.block 0 (.loop Be)) (.keep [6,7] (sR [lO 105 33 7,sT 33 6 105] [6] (.ret)))))))
theorem Pe:Ba Tryz.prog 97 106 [(.cell 6 33)] IX:=Ap Tryz.func97
def NR:CC:=sR [bX 3 53 0 [0],bX 4 53 1 [1],aL 6 33 [2],aI 7 0] [2,3,4,6] (sR [mO 10 2,oO 11 (.build 83 #[(0,(xT 10))]),bX 12 83 11 [3],aO 8 12] [3,4,6,8] (sR [mO 13 8,lO 14 53 3,lO 15 53 4,cE 16 48 13 14 15 81 53 53,aL 9 33 [4],sT 33 9 16] [6,8,9] (sQ [mO 17 8,nC 18 17,fO 19 83 18 1,lO 20 47 19,bQ .neq 21 47 20 0 47] [6,8,9,21] (cD 21 (sR [oO 22 (.build 33 #[]),mO 23 8,nC 24 23,fO 25 83 24 1,lS 26 47 25 4,⟨none,(.store 33 (xT 6) (xT 22)),none,[],5,[4],false⟩,aO 7 26] [6,7] (.ret)) (.skip)) [6,9] (sR [lO 27 33 9,cA 28 29 27 33,sT 33 6 28,aI 7 0] [6,7] (.ret)))))
theorem VS:Ba Tryz.prog 22 29 [(.cell 6 33),(.tmp 7)] NR:=Ap Tryz.func22
def LH:CC:=sR [aL 2 53 [0]] [0,2] (sR [mO 6 0,cA 7 43 6 41,cA 8 49 7 50,mO 5 8,xO 9 5 0,xO 10 5 1,aL 3 53 [1],sT 53 3 9,aO 4 10] [2,3] (sR [lO 11 53 3,sT 53 2 11] [2] (.ret)))
theorem S9:Ba Tryz.prog 23 12 [(.cell 2 53)] LH:=Ap Tryz.func23
def Kd:CC:=sR [bX 1 25 0 [0],aB 2 false] [1] (sR [lO 3 25 1,oO 4 (cL 27 #[(xT 3),(nI 70),(nI 400)] #[25,3,3]),bQ .geq 5 3 4 0 3,aO 2 5] [2] (.ret))
theorem Rn:Ba Tryz.prog 20 6 [(.tmp 2)] Kd:=Ap Tryz.func20
def KC:CC:=sR [aB 0 false] [] (sR [oO 4 (.buildSlice 22 2 #[(0,(.const (.int .u64 4294967296))),(1,(.const (.int .u64 7)))]),oO 5 (.buildSlice 41 1 #[(0,(xT 4))]),cA 6 23 5 41,oO 7 (.buildSlice 22 2 #[(0,(.const (.int .u64 4294967296))),(1,(.const (.int .u64 8)))]),oO 8 (.buildSlice 41 1 #[(0,(xT 7))]),cA 9 23 8 41,oO 10 (cL 22 #[(xT 6),(xT 9),(nI 9)] #[53,53,3]),mO 3 10,xO 11 3 0,xO 12 3 1,aL 1 33 [0],sT 33 1 11,aO 2 12] [1,2] (sR [mO 13 2,bQ .eql 14 47 13 0 47,mO 15 14,fG 16 33 1 0 15 true,lG 17 3 16 15 true,oG 18 (.binOp .eql 3 (xT 17) (nI 2) 3) 15 true,pF 19 15 18,mO 20 19,fG 21 33 1 3 20 true,lG 22 29 21 20 true,oG 23 (bL 22 29) 20 true,oG 24 (.binOp .eql 3 (xT 23) (nI 1) 3) 20 true,pF 25 20 24,mO 26 25,fG 27 33 1 3 26 true,lG 28 29 27 26 true,oG 29 (.indexAddr 29 (xT 28) (nI 0)) 26 true,lG 30 80 29 26 true,oG 31 (.build 80 #[(1,(.const (.int .u8 1))),(2,(.const (.int .u64 7))),(3,(.const (.int .u64 8)))]) 26 true,oG 32 (bO .eql 80 30 31 80) 26 true,pF 33 26 32,aO 0 33] [0] (.ret)))
theorem QM:Ba Tryz.prog 21 34 [(.tmp 0)] KC:=Ap Tryz.func21
def GJ:CC:=sR [bX 5 25 0 [0],bX 6 25 1 [1],aB 10 false] [2,3,4,5,6] (sQ [lO 17 25 5,cA 18 20 17 25,oO 19 (.unOp .not 4 (xT 18)),mO 20 19,lG 21 25 6 20 false,oG 22 (cL 20 #[(xT 21)] #[25]) 20 false,oG 23 (.unOp .not 4 (xT 22)) 20 false,pT 24 20 23] [2,3,4,5,6,24] (cD 24 (sR [oO 25 (cL 21 #[] #[]),aO 10 25] [10] (.ret)) (.skip)) [2,3,4,5,6] (sR [lO 27 25 5,mO 28 2,oO 29 (cL 26 #[(xT 27),(xT 28),(nI 131072)] #[25,3,3]),mO 26 29,xO 30 26 0,xO 31 26 1,aO 11 30,aO 12 31] [3,4,5,6,11,12] (sR [lO 33 25 6,mO 34 3,oO 35 (cL 26 #[(xT 33),(xT 34),(nI 131072)] #[25,3,3]),mO 32 35,xO 36 32 0,xO 37 32 1,aO 13 36,aO 14 37] [4,5,6,11,12,13,14] (sQ [mO 38 12,oO 39 (.unOp .not 4 (xT 38)),mO 40 39,mG 41 14 40 false,oG 42 (.unOp .not 4 (xT 41)) 40 false,pT 43 40 42] [4,5,6,11,13,43] (cD 43 (sR [oO 44 (cL 21 #[] #[]),aO 10 44] [10] (.ret)) (.skip)) [4,5,6,11,13] (sR [mO 46 11,cA 47 23 46 41,mO 48 13,cA 49 23 48 41,mO 50 4,cE 51 22 47 49 50 53 53 3,mO 45 51,xO 52 45 0,xO 53 45 1,aL 15 33 [2],sT 33 15 52,aO 16 53] [4,5,6,15,16] (sR [mO 54 16,bQ .eql 55 47 54 0 47,mO 56 55,⟨some 57,(lD 33 15),(some (56,true)),[],3,[],true⟩,lG 58 25 5 56 true,lG 59 25 6 56 true,mG 60 4 56 true,⟨some 61,(cL 25 #[(xT 58),(xT 59),(xT 60)] #[25,25,3]),(some (56,true)),[],7,[3],false⟩,oG 62 (cL 24 #[(xT 57),(xT 61)] #[33,33]) 56 true,pF 63 56 62,mO 64 63,oG 65 (cL 21 #[] #[]) 64 true,pF 66 64 65,aO 10 66] [10] (.ret)))))))
theorem L7:Ba Tryz.prog 6 67 [(.tmp 10)] GJ:=Ap Tryz.func6
end Go.Proofs.YtbjmaoedheiigaaGreat
namespace Go.Proofs.YtbjmaoedheiigaaGreat
open Go Go.G Go.Proofs Go.PL
theorem IA (t:T) (i:Nat):G.Spec Tryz.prog 115 [tX t,iv i] (uv (t.words.getD i 0)):=by
 refine Aj gE (by simp) fun w0 I0=>?_;unfold U2;have hn:¬ (i:Int)<0:=by omega
 by_cases h:i<t.words.length
 ·have h2:¬ t.words.length≤i:=by omega
  simp[h,hn,h2];exact AN rfl (by simp[h])
 ·have h2:t.words.length≤i:=by omega
  simp[h,hn,h2];exact AN rfl (by simp[List.getElem?_eq_none (Nat.le_of_not_lt h)])
theorem JR (t:T) (i:Nat):G.Spec Tryz.prog 116 [tX t,iv i] (tX (t.kids.getD i T0)):=by
 refine Aj jM (by simp) fun w0 I0=>?_;unfold XZ;have hn:¬ (i:Int)<0:=by omega
 by_cases h:i<t.kids.length
 ·have h2:¬ t.kids.length≤i:=by omega
  simp[h,hn,h2];exact Ad (by simp)
 ·have h2:t.kids.length≤i:=by omega
  simp[h,hn,h2];exact Cn (by simp;exact⟨Ad rfl,Ak,Ak⟩)
variable {n0:Nat} {w0:World} {I0:Nat→Prop} {Q:Exit→Sta→Prop}
theorem qS {l:List (List Int)} (hs:Sg l) {r:Rf} {t:T} (hm:AA l r t) {k:Int}
  (hq:∀ (q:Bool) (H:Hp),H [0]=⟨1,.cells (Yw l r)⟩→H [2]=⟨1,.cells [iv k,.osl [3] (t.words.length+1) 1 0 t.words.length,.osl [6] 1 3 0 0]⟩→H [3]=⟨t.words.length+1,.arr 1 (t.words.map uv)⟩→H [6]=⟨1,.arr 3 []⟩→H [1]=⟨1,.cells [iv 0,.sl true [],.sl true []]⟩ →
   Q (.exit 0) ⟨lk [(1,.pob [0] 1 0),(2,.pob [1] 1 0),(4,.pob [2] 1 0),(14,iv t.words.length),(15,iv t.words.length),(16,bv q)],H⟩) :
  ∀ (j i:Nat) (H:Hp),i+j=t.words.length→H [0]=⟨1,.cells (Yw l r)⟩→H [2]=⟨1,.cells [iv k,.osl [3] (i+1) 1 0 i,.osl [6] 1 3 0 0]⟩→H [3]=⟨i+1,.arr 1 ((t.words.take i).map uv)⟩→H [6]=⟨1,.arr 3 []⟩→H [1]=⟨1,.cells [iv 0,.sl true [],.sl true []]⟩ →
  LoopC (cx Tryz.prog w0 I0 n0) GZ Q ⟨lk [(1,.pob [0] 1 0),(2,.pob [1] 1 0),(4,.pob [2] 1 0),(14,iv t.words.length),(15,iv i)],H⟩:=by
 obtain⟨hw1,hw2⟩:=Db hm;have hln:=DI hm;intro j;induction j with
 |zero=>
  intro i H hi h0 h2 h3 h6 h1;have:i=t.words.length:=by omega
  subst this;rw[AL (BZ _)] at h3;refine Ab Ai GZ.eq_1 ?_;simp;exact hq _ H h0 h2 h3 h6 h1
 |succ j ih=>
  intro i H hi h0 h2 h3 h6 h1;have hlt:i<t.words.length:=by omega
  have ei:=Av i;have htk:(t.words.take (i+1)).map uv=(t.words.take i).map uv++[uv t.words[i]]:=by rw[Fm hlt,List.map_append];rfl
  refine Ab Ai GZ.eq_1 ?_;simp[hlt,h0,h2];refine Ae (G3 hs (Cy hm) i) (by simp) ?_;rw[hw2 i hlt];simp[h2,h3,ei,Aa];refine⟨⟨by omega,by omega⟩,?_⟩;refine ih (i+1) _ (by omega) (by simp[Aa,h0]) (by simp[Aa]) ?_ (by simp[Aa,h6]) (by simp[Aa,h1]);rw[htk];simp[Aa,List.take_take]
theorem rZ {l:List (List Int)} (hs:Sg l) {r:Rf} {t:T} (hm:AA l r t) {k:Int} {c1:A} {X:VOb} (ih0:∀ c,c ∈ t.kids→∀ x,AA l x c→G.Spec Tryz.prog 156 [Hi l x] (.tup [tX c,iv 0]))
  (hq:∀ (q:Bool) (H:Hp),H [2]=⟨1,.cells [iv k,c1,.osl [6] (t.kids.length+1) 3 0 t.kids.length]⟩→H [6]=⟨t.kids.length+1,.arr 3 (t.kids.map tA)⟩→H [3]=X→H [1]=⟨1,.cells [iv 0,.sl true [],.sl true []]⟩ →
   Q (.exit 2) ⟨lk [(1,.pob [0] 1 0),(2,.pob [1] 1 0),(4,.pob [2] 1 0),(28,iv t.kids.length),(29,iv t.kids.length),(30,bv q)],H⟩) :
  ∀ (j i:Nat) (H:Hp),i+j=t.kids.length→H [0]=⟨1,.cells (Yw l r)⟩→H [2]=⟨1,.cells [iv k,c1,.osl [6] (i+1) 3 0 i]⟩→H [6]=⟨i+1,.arr 3 ((t.kids.take i).map tA)⟩→H [3]=X→H [1]=⟨1,.cells [iv 0,.sl true [],.sl true []]⟩ →
  LoopC (cx Tryz.prog w0 I0 n0) GQ Q ⟨lk [(1,.pob [0] 1 0),(2,.pob [1] 1 0),(4,.pob [2] 1 0),(28,iv t.kids.length),(29,iv i)],H⟩:=by
 have hln:=DI hm;intro j;induction j with
 |zero=>
  intro i H hi h0 h2 h6 h3 h1;have:i=t.kids.length:=by omega
  subst this;rw[AL (BZ _)] at h6;refine Ab Ai GQ.eq_1 ?_;simp;exact hq _ H h2 h6 h3 h1
 |succ j ih=>
  intro i H hi h0 h2 h6 h3 h1;have hlt:i<t.kids.length:=by omega
  obtain⟨k1,k2⟩:=F9 hm hlt;have ei:=Av i;have htk:(t.kids.take (i+1)).map tA=(t.kids.take i).map tA++[tA t.kids[i]]:=by rw[Fm hlt,List.map_append];rfl
  refine Ab Ai GQ.eq_1 ?_;simp[hlt,h0];refine Ae (Kx hs (Cy hm) i) (by simp) ?_;rw[k1];simp[Aa,h0];refine Ae (ih0 _ (Bg hlt) _ k2) (by simp) ?_;simp[Aa,h2,h6,ei];refine⟨⟨by omega,by omega⟩,?_⟩;refine ih (i+1) _ (by omega) (by simp[Aa,h0]) (by simp[Aa]) ?_ (by simp[Aa,h3]) (by simp[Aa,h1]);rw[htk];simp[Aa,List.take_take]
theorem iM {l:List (List Int)} (hs:Sg l):∀ (t:T) (r:Rf),AA l r t→G.Spec Tryz.prog 156 [Hi l r] (.tup [tX t,iv 0]):=by
 refine T.ind fun k w ks ih r hm=>?_;refine Aj XS (by simp) fun w0 I0=>?_;unfold Pc;simp;refine Ae (Ct l r) (by simp) ?_;simp;refine Cm (Bu (d:=[2]) (u:=1) (cs:=[iv r.kind,.sl true [],.sl true []]) 1 [3] 1 (by simp) rfl (by simp)) ?_;refine Cm (Bu (d:=[2]) (u:=1) (cs:=[iv r.kind,.osl [3] 1 1 0 0,.sl true []]) 2 [6] 3 (by simp[Aa]) rfl (by simp)) (CQ ?_);simp[Aa];refine Ae (HX l r) (by simp) ?_;rw[(Db hm).1];simp[Aa];refine qS hs hm (k:=r.kind) (fun q H h0 h2 h3 h6 h1=>?_) w.length 0 _ (by simp) (by simp[Aa]) (by simp[Aa]) (by simp[Aa]) (by simp[Aa]) (by simp[Aa]);simp[h0];refine Ae (Ea l r) (by simp) ?_;rw[Ht hm];simp;refine rZ hs hm (k:=r.kind) (c1:=.osl [3] (w.length+1) 1 0 w.length) (X:=⟨w.length+1,.arr 1 (w.map uv)⟩) ih (fun q H' h2' h6' h3' h1'=>?_) ks.length 0 H (by simp) h0 h2 (by simpa using h6) h3 h1;simp[h2',h1',Aa];rw[CK hm];exact J1 ⟨Cn ⟨Ad rfl,Bx (f:=uv) (l:=w) (by simp[Aa,h3']) rfl (fun x=>by simp),Bx (f:=tA) (l:=ks) (by simp[Aa,h6']) rfl (fun x=>by simp),trivial⟩,Ad rfl,trivial⟩
end Go.Proofs.YtbjmaoedheiigaaGreat
namespace Go.G
open Go.RowKit
theorem Sim.move {c:Cx} {w:World} {I:Nat→Prop} {μ:Mu} {H:Hp} (hs:Sim c w I μ H) {d d':Nm} (hne:d ≠ d') (h0:(H d').u=0) (h1:1≤(H d).u) (hM:∀ b,¬ c.M0 d b) (htg:∀ e,Ek d' e=true) :
  Ext I μ w I (Ay μ d' (μ d)) w∧Sim c w I (Ay μ d' (μ d)) (Ay (Ay H d' (H d)) d ⟨(H d).u,.none⟩):=by
 have hu0:(μ d').u=0:=by rw[hs.ver,h0]
 have hu1:1≤(μ d).u:=by rw[hs.ver];exact h1
 have hm:MuLe μ (Ay μ d' (μ d)):=fun o=>by
  by_cases e:o=d'
  ·subst e;rw[CL];exact⟨by omega,fun e=>by omega⟩
  ·rw[AH e];exact⟨BZ _,fun _=>rfl⟩
 have hx:Ext I μ w I (Ay μ d' (μ d)) w:=⟨fun b h=>h,fun b h=>rfl,hm⟩;have hd:(Ay (Ay H d' (H d)) d ⟨(H d).u,.none⟩:Hp) d=⟨(H d).u,.none⟩:=CL;have hd':(Ay (Ay H d' (H d)) d ⟨(H d).u,.none⟩:Hp) d'=H d:=by rw[AH (Ne.symm hne),CL]
 have hoth:∀ o,o ≠ d→o ≠ d'→(Ay (Ay H d' (H d)) d ⟨(H d).u,.none⟩:Hp) o=H o:=fun o e1 e2=>by rw[AH e1,AH e2]
 -- who has a block has it in the old state,under an old name
 have old:∀ o,EA (Ay μ d' (μ d) o) ((Ay (Ay H d' (H d)) d ⟨(H d).u,.none⟩:Hp) o).ob=true→∃ p,EA (μ p) (H p).ob=true∧(Ay μ d' (μ d) o)=μ p∧(o=d'∧p=d∨o ≠ d'∧o ≠ d∧p=o):=fun o h=>by
  by_cases e1:o=d
  ·subst e1;rw[hd] at h;cases h
  ·by_cases e2:o=d'
   ·subst e2;rw[hd',CL] at h;exact⟨d,h,CL,.inl ⟨rfl,rfl⟩⟩
   ·rw[hoth o e1 e2,AH e2] at h;exact⟨o,h,AH e2,.inr ⟨e2,e1,rfl⟩⟩
 refine⟨hx,hs.kept,hs.lt,hs.old,hs.new,fun o=>?_,fun o=>?_,fun o o' k k' hoo=>?_,fun o k=>?_,hs.mle.trans hm,fun o k=>?_,hs.tab⟩
 ·by_cases e1:o=d
  ·subst e1;rw[hd,AH hne];exact hs.ver o
  ·by_cases e2:o=d'
   ·subst e2;rw[hd',CL];exact hs.ver d
   ·rw[hoth o e1 e2,AH e2];exact hs.ver o
 ·by_cases e1:o=d
  ·subst e1;rw[hd];trivial
  ·by_cases e2:o=d'
   ·subst e2;rw[hd',CL];exact OSim.keep hx (fun _=>rfl) (hs.ob d)
   ·rw[hoth o e1 e2,AH e2];exact OSim.keep hx (fun _=>rfl) (hs.ob o)
 ·obtain⟨p,k1,k2,k3⟩:=old o k;obtain⟨p',g1,g2,g3⟩:=old o' k';rw[k2,g2];refine hs.apart p p' k1 g1 fun e=>hoo ?_;rcases k3 with ⟨a1,a2⟩ | ⟨a1,a2,a3⟩<;>rcases g3 with ⟨b1,b2⟩ | ⟨b1,b2,b3⟩
  ·rw[a1,b1]
  ·exact absurd (by rw[← b3,← e,a2]) b2
  ·exact absurd (by rw[← a3,e,b2]) a2
  ·rw[← a3,← b3,e]
 ·obtain⟨p,k1,k2,k3⟩:=old o k;rw[k2];obtain⟨q1,q2,q3⟩:=hs.own p k1;refine⟨q1,?_,q3⟩;rcases k3 with ⟨a1,a2⟩ | ⟨a1,a2,a3⟩
  ·subst a2;rcases q2 with h | h
   ·exact(hM _ h).elim
   ·exact .inr h
  ·subst a3;exact q2
 ·obtain⟨p,k1,k2,k3⟩:=old o k;rw[k2];rcases k3 with ⟨a1,a2⟩ | ⟨a1,a2,a3⟩
  ·rw[a1];exact htg _
  ·rw[← a3];exact hs.tag p k1
theorem sx {w:World} {I:Nat→Prop} {μ:Mu} {d d':Nm} {u sz off len:Nat} {v:Value} (h:Rel w I μ (.osl d u sz off len) v) (e:μ d'=μ d):Rel w I μ (.osl d' u sz off len) v:=by
 cases h with
 |osl _ _ _ _ _ _ a cap g1 g2 g4 g5 g3=>exact .osl _ _ _ _ _ _ _ _ g1 (by rw[e];exact g2) g4 g5 (by rw[e];exact g3)
theorem eY {c:Cx} {s:Nat→A} {H:Hp} {d d' e:Nm} {u ue sz z off len:Nat} {xs:List A} (hM:∀ b,¬ c.M0 d b) (hne:d ≠ d') (he:e ≠ d) (he':e ≠ d') (h0:(H d').u=0) (h1:1≤(H d).u) (hz:sz=1) (hr:H e=⟨ue,.arr sz (xs++[.osl d u z off len])⟩) (htg:∀ e,Ek d' e=true:=by intro e;simp) :
  Le c ⟨s,H⟩ ⟨s,Ay (Ay (Ay H d' (H d)) d ⟨(H d).u,.none⟩) e ⟨ue,.arr sz (xs++[.osl d' u z off len])⟩⟩:=fun a w I μ hs=>by
 obtain⟨hx,hs'⟩:=hs.sim.move hne h0 h1 hM htg;have hH:(Ay (Ay H d' (H d)) d ⟨(H d).u,.none⟩:Hp) e=⟨ue,.arr sz (xs++[.osl d u z off len])⟩:=by rw[AH he,AH he',hr]
 have hob:=hs'.ob e;rw[hH] at hob;obtain⟨g0,hob⟩:=hob;rcases hob with ⟨_,hn⟩ | ⟨k1,vs,k2,k3,k4,k5,k6⟩
 ·simp at hn
 have hB:EA (Ay μ d' (μ d) e) ((Ay (Ay H d' (H d)) d ⟨(H d).u,.none⟩:Hp) e).ob=true:=by rw[hH];exact k1
 have hmm:Ay μ d' (μ d) d'=Ay μ d' (μ d) d:=by rw[CL,AH hne]
 obtain⟨hx2,hs2⟩:=hs'.upd (DR w none) e (Ay μ d' (μ d) e) (.arr sz (xs++[.osl d' u z off len])) (.inl rfl) (.inr rfl) (fun _=>.inr ⟨hB,rfl⟩) (fun _=>hs'.tag _ hB) (fun hx2=>by
  refine⟨g0,.inr ⟨k1,vs,k2,k3,by simpa using k4,fun x hx=>?_,fun k y hk=>?_⟩⟩
  ·rcases List.mem_append.1 hx with h | h
   ·exact k5 x (List.mem_append_left _ h)
   ·rw[List.mem_singleton.1 h,hz];rfl
  ·rw[Fi];rw[List.flatMap_append] at hk;by_cases hlt:k<(xs.flatMap A.cells).length
   ·rw[List.getElem?_append_left hlt] at hk;exact k6 k y (by rw[List.flatMap_append,List.getElem?_append_left hlt];exact hk)
   ·rw[List.getElem?_append_right (by omega)] at hk;have hc1:([A.osl d' u z off len].flatMap A.cells)=[.osl d' u z off len]:=rfl;rw[hc1] at hk;have hk0:k-(xs.flatMap A.cells).length=0:=by
     have:=(List.getElem?_eq_some_iff.1 hk).1;rw[List.length_singleton] at this;omega
    rw[hk0] at hk;have hy:y = .osl d' u z off len:=(Option.some.inj hk).symm;subst hy;obtain⟨q1,q2⟩:=k6 k (.osl d u z off len) (by rw[List.flatMap_append,List.getElem?_append_right (by omega),hk0];rfl);exact⟨rfl,sx q2 hmm⟩)
 have hu:(Ay μ d' (μ d) e).u=ue:=by rw[hs'.ver,hH]
 rw[hu] at hs2;exact⟨I,_,hs2,hs.size,hs.defers,fun t=>hx2.rel (hx.rel (hs.rel t))⟩
theorem QS {c:Cx} {s:Nat→A} {H:Hp} (R:Nat→Prop) [DecidablePred R] (hM:∀ r p b,R r→¬ c.M0 (r::p) b) (t:Nat) (a:A) (hf:∀ H1:Hp,(∀ r p,R r→H1 (r::p)=H (r::p))→J3 H1 (s t) a) :
  ∃ H2:Hp,Le c ⟨s,H⟩ ⟨upd s t a,H2⟩∧∀ r p,¬ R r→H2 (r::p)=H (r::p):=by
 refine⟨fun o=>match o with | r::p=>if R r then ⟨(H (r::p)).u,.none⟩ else H (r::p) | []=>H [],YX (H1:=fun o=>match o with | r::p=>if R r then H (r::p) else ⟨(H (r::p)).u,.none⟩ | []=>⟨(H []).u,.none⟩) (fun o b h=>?_) t a (fun o=>?_) (fun o=>?_) (fun o=>?_) (hf _ fun r p h=>if_pos h),fun r p h=>if_neg h⟩
 ·cases o with
  |nil=>exact absurd rfl h
  |cons r p=>
   by_cases hr:R r
   ·exact hM r p b hr
   ·exact absurd (by simp[hr]) h
 ·cases o with
  |nil=>exact .inr rfl
  |cons r p=>
   by_cases hr:R r
   ·exact .inl (by simp[hr])
   ·exact .inr (by simp[hr])
 ·cases o with
  |nil=>exact .inl rfl
  |cons r p=>
   by_cases hr:R r
   ·exact .inr (by simp[hr])
   ·exact .inl (by simp[hr])
 ·cases o with
  |nil=>exact .inl rfl
  |cons r p=>
   by_cases hr:R r
   ·exact .inr (by simp[hr])
   ·exact .inl (by simp[hr])
theorem QU {c:Cx} {s:Nat→A} {H:Hp} (R:Nat→Prop) [DecidablePred R] (hM:∀ r p b,R r→¬ c.M0 (r::p) b) {r0:Nat} {p0:Nm} (hr0:¬ R r0) {u:Nat} {cs cs':List A} (hd:H (r0::p0)=⟨u,.cells cs⟩) (h1:A.ones cs'=true)
  (hf:∀ H1:Hp,(∀ r p,R r→H1 (r::p)=H (r::p))→G9 H1 cs cs') :
  ∃ H2:Hp,Le c ⟨s,H⟩ ⟨s,Ay H2 (r0::p0) ⟨u,.cells cs'⟩⟩∧∀ r p,¬ R r→H2 (r::p)=H (r::p):=by
 refine⟨fun o=>match o with | r::p=>if R r then ⟨(H (r::p)).u,.none⟩ else H (r::p) | []=>H [],fun a w I μ hs=>?_,fun r p h=>if_neg h⟩;have part1:Part H (fun o=>match o with | r::p=>if R r then H (r::p) else ⟨(H (r::p)).u,.none⟩ | []=>⟨(H []).u,.none⟩):=fun o=>by
  cases o with
  |nil=>exact .inr rfl
  |cons r p=>
   by_cases hr:R r
   ·exact .inl (by simp[hr])
   ·exact .inr (by simp[hr])
 have part2:Part H (fun o=>match o with | r::p=>if R r then ⟨(H (r::p)).u,.none⟩ else H (r::p) | []=>H []):=fun o=>by
  cases o with
  |nil=>exact .inl rfl
  |cons r p=>
   by_cases hr:R r
   ·exact .inr (by simp[hr])
   ·exact .inl (by simp[hr])
 have h3:=hs.sim.freezeAll part1 part2 (fun o=>by
  cases o with
  |nil=>exact .inl rfl
  |cons r p=>
   by_cases hr:R r
   ·exact .inr (by simp[hr])
   ·exact .inl (by simp[hr])) (fun o b h=>by
  cases o with
  |nil=>exact absurd rfl h
  |cons r p=>
   by_cases hr:R r
   ·exact hM r p b hr
   ·exact absurd (by simp[hr]) h)
 have hd2:(fun o=>match o with | r::p=>if R r then (⟨(H (r::p)).u,.none⟩:VOb) else H (r::p) | []=>H []:Hp) (r0::p0)=⟨u,.cells cs⟩:=by
  show(if R r0 then _ else _)=_;rw[if_neg hr0,hd]
 have hob:=hs.sim.ob (r0::p0);have hob:OSim w I μ (μ (r0::p0)) (.cells cs):=by
  have e:(⟨s,H⟩:Sta).H (r0::p0)=⟨u,.cells cs⟩:=hd;rw[e] at hob;exact hob
 obtain⟨vs,k1,k2,k3⟩:=hob;obtain⟨hl,hg⟩:=KG (hf (fun o=>match o with | r::p=>if R r then H (r::p) else ⟨(H (r::p)).u,.none⟩ | []=>⟨(H []).u,.none⟩) fun r p h=>if_pos h);have hB:EA (μ (r0::p0)) ((fun o=>match o with | r::p=>if R r then (⟨(H (r::p)).u,.none⟩:VOb) else H (r::p) | []=>H []:Hp) (r0::p0)).ob=true:=by rw[hd2];rfl
 obtain⟨hx2,hs2⟩:=h3.upd (DR w none) (r0::p0) (μ (r0::p0)) (.cells cs') (.inl rfl) (.inr rfl) (fun _=>.inr ⟨hB,rfl⟩) (fun _=>h3.tag _ hB) (fun hx2=>by
  refine⟨vs,k1,by rw[k2,hl],fun k y hk=>?_⟩;rw[Fi];obtain⟨x,hx,hfx⟩:=hg k y hk;simp only[A.ones,List.all_eq_true] at h1;exact⟨h1 y (List.mem_of_getElem? hk),(hfx c w I μ _ (hs.sim.part part1) (k3 k x hx).2).ofI⟩)
 have hu:(μ (r0::p0)).u=u:=by exact(h3.ver (r0::p0)).trans (congrArg VOb.u hd2)
 rw[hu] at hs2;exact⟨_,_,hs2,hs.size,hs.defers,fun t=>hx2.rel ((hs.rel t).mono0 (fun b h=>.inl h) (fun _ _=>rfl))⟩
theorem MS {P:Program} {f:FuncId} {n:Nat} {rs:List ResultVar} {cc:CC} {as':Nat→List A} {F F':Fam} {x:Nat→A} (t:Ba P f n rs cc) (ha:(as' 0).length≤n) (h0:FamL as') (h1:EU x)
  (h:∀ w0 I0 M0 m0,(∀ r p b,1≤r→¬ M0 (r::p) b)→WPC (DG P w0 I0 M0 n m0) cc (Nt (DG P w0 I0 M0 n m0) rs 1 (x 0) (ov 0 (F'.F 0) (EH []))) ⟨Rz (as' 0),ov 0 (F.F 0) (EH [])⟩):Bh P f as' F x F':=
 ⟨h0,h1,Zc t ha fun w0 I0 M0 m0 hM=>h w0 I0 M0 m0 fun r p b hr=>hM (r::p) b (by
  simp only[AZ];rw[if_neg (by omega)];rfl)⟩
end Go.G
namespace Go.Proofs.YtbjmaoedheiigaaGreat
open Go Go.G Go.Proofs Go.PL
abbrev z0:List A:=[iv 0,.sl true [],.sl true []]
theorem Zb {a b:List T} (hl:a.length=b.length):a.map Ah=b.map Ah ↔ ∀ i,Ah (a.getD i T0)=Ah (b.getD i T0):=by
 constructor
 ·intro h i;rw[← Gl,h,Gl]
 ·intro h;apply List.ext_getElem (by simpa using hl);intro i h1 h2;have:=h i;simp at h1 h2;simpa[List.getD_eq_getElem?_getD,h1,h2] using this
theorem tJ (l:List (List Int)):AA l Rf.zero T0:=.mk _ _ .zero rfl (by simp[E7,Rf.zero]) (by simp[nk,Rf.zero]) (fun i h=>by simp at h) (fun i h=>by simp at h)
theorem Ku {l:List (List Int)} {r:Rf} {t:T} (h:AA l r t) (i:Nat):(CZ l r i).2=0∧AA l (CZ l r i).1 (t.kids.getD i T0):=by
 by_cases hi:i<t.kids.length
 ·have:=F9 h hi;rw[List.getD_eq_getElem?_getD,List.getElem?_eq_getElem hi];exact this
 ·have hn:=Ht h;have:CZ l r i=(Rf.zero,0):=by
   unfold CZ;rw[if_pos (by omega)]
  rw[this,List.getD_eq_getElem?_getD,List.getElem?_eq_none (by omega)];exact⟨rfl,tJ l⟩
theorem Vt {l:List (List Int)} {r:Rf} {t:T} (h:AA l r t) (i:Nat):NC l r i=t.words.getD i 0:=by
 obtain⟨h1,h2⟩:=Db h;by_cases hi:i<t.words.length
 ·rw[h2 i hi,List.getD_eq_getElem?_getD,List.getElem?_eq_getElem hi];rfl
 ·rw[List.getD_eq_getElem?_getD,List.getElem?_eq_none (by omega)];unfold NC;rw[if_pos (by omega)];rfl
variable {n0:Nat} {w0:World} {I0:Nat→Prop} {Q:Exit→Sta→Prop}
end Go.Proofs.YtbjmaoedheiigaaGreat
namespace Go.G
open Go.RowKit
abbrev S (l:List UInt8):A:=.v (.string ⟨l.toArray⟩)
@[simp] theorem Ae1 (l:List UInt8):(ByteArray.mk l.toArray).size=l.length:=by simp[ByteArray.size]
@[simp] theorem Agb (l:List UInt8) (i:Nat):(ByteArray.mk l.toArray)[i]? = l[i]?:=by
 by_cases h:i<l.length
 ·have h':i<(ByteArray.mk l.toArray).size:=by simpa using h
  rw[getElem?_pos (ByteArray.mk l.toArray) i h',List.getElem?_eq_getElem h];rfl
 ·have h':¬ i<(ByteArray.mk l.toArray).size:=by simpa using h
  rw[getElem?_neg (ByteArray.mk l.toArray) i h',List.getElem?_eq_none (by omega)]
end Go.G
namespace Go.PL
structure Sc where
 i:Nat
 j:Nat
 n:Int
 deriving DecidableEq
def sc0:Sc:=⟨0,0,0⟩
def Bs (a b:Sc):Bool:=decide (b.n<a.n) || (decide (a.n=b.n)&&(decide (a.i<b.i) || (decide (a.i=b.i)&&decide (a.j<b.j))))
def YP (l:List Sc) (i j:Nat):List Sc:=(l.set i (l.getD j sc0)).set j (l.getD i sc0)
@[simp] theorem bW {l:List Sc} {i j:Nat}:(YP l i j).length=l.length:=by simp[YP]
def oP:Nat→List Sc→Nat→List Sc
 |0,l,_=>l
 |f+1,l,j=>if (j-1) / 2=j∨Bs (l.getD j sc0) (l.getD ((j-1) / 2) sc0)=false then l else oP f (YP l ((j-1) / 2) j) ((j-1) / 2)
def ML (l:List Sc) (i n:Nat):Nat:=if 2*i+2<n∧Bs (l.getD (2*i+2) sc0) (l.getD (2*i+1) sc0)=true then 2*i+2 else 2*i+1
def Ib:Nat→List Sc→Nat→Nat→List Sc × Nat
 |0,l,i,_=>(l,i)
 |f+1,l,i,n=>if n≤2*i+1 then (l,i) else if Bs (l.getD (ML l i n) sc0) (l.getD i sc0)=true then Ib f (YP l i (ML l i n)) (ML l i n) n else (l,i)
theorem bo:∀ (f:Nat) (l:List Sc) (j:Nat),(oP f l j).length=l.length
 |0,l,j=>rfl
 |f+1,l,j=>by
  unfold oP;split
  ·rfl
  ·rw[bo f];simp
theorem Z1:∀ (f:Nat) (l:List Sc) (i n:Nat),(Ib f l i n).1.length=l.length
 |0,l,i,n=>rfl
 |f+1,l,i,n=>by
  unfold Ib;split
  ·rfl
  ·split
   ·rw[Z1 f];simp
   ·rfl
end Go.PL
namespace Go.PL
open List
theorem ZL {a b:Sc}:Bs a b=true ↔ b.n<a.n∨(a.n=b.n∧(a.i<b.i∨(a.i=b.i∧a.j<b.j))):=by
 unfold Bs;simp
theorem PQ {a b:Sc}:Bs a b=false ↔ a.n<b.n∨(a.n=b.n∧(b.i<a.i∨(a.i=b.i∧b.j≤a.j))):=by
 rw[Bool.eq_false_iff,ne_eq,ZL];omega
theorem Mr (a:Sc):Bs a a=false:=by rw[PQ];omega
theorem NK {a b:Sc} (h:Bs a b=true):Bs b a=false:=by
 rw[ZL] at h;rw[PQ];omega
theorem Sl {a b c:Sc} (h1:Bs b a=false) (h2:Bs c b=false):Bs c a=false:=by
 rw[PQ] at h1 h2 ⊢; omega
theorem po {a b:Sc} (h1:Bs a b=false) (h2:Bs b a=false):a=b:=by
 rw[PQ] at h1 h2;obtain⟨i,j,n⟩:=a;obtain⟨i',j',n'⟩:=b;simp at h1 h2 ⊢;omega
abbrev gt (l:List Sc) (k:Nat):Sc:=l.getD k sc0
theorem Gj {l:List Sc} {i j:Nat} (hi:i<l.length) (hj:j<l.length) (k:Nat):gt (YP l i j) k=if k=j then gt l i else if k=i then gt l j else gt l k:=by
 unfold gt YP;simp only[List.getD_eq_getElem?_getD,List.getElem?_set,List.length_set];by_cases h1:k=j
 ·subst h1;simp[hj]
 ·rw[if_neg (fun e=>h1 e.symm)];by_cases h2:k=i
  ·subst h2;simp[h1,hi]
  ·rw[if_neg (fun e=>h2 e.symm)];simp[h1,h2]
theorem Xf {l:List Sc} {i j:Nat} (hi:i<l.length) (hj:j<l.length):YP l i j ~ l:=by
 unfold YP;rw[List.getD_eq_getElem?_getD,List.getD_eq_getElem?_getD,List.getElem?_eq_getElem hi,List.getElem?_eq_getElem hj];exact List.set_set_perm hi hj
def NS (l:List Sc) (n:Nat):Prop:=∀ k,0<k→k<n→Bs (gt l k) (gt l ((k-1) / 2))=false
theorem sb {l:List Sc} {n:Nat} (h:NS l n):∀ k,k<n→Bs (gt l k) (gt l 0)=false:=by
 intro k;induction k using Nat.strongRecOn with
 |_ k ih=>
  intro hk;by_cases h0:k=0
  ·subst h0;exact Mr _
  ·exact Sl (ih ((k-1) / 2) (by omega) (by omega)) (h k (by omega) hk)
def Aeu (l:List Sc) (n j:Nat):Prop:=(∀ k,0<k→k<n→k ≠ j→Bs (gt l k) (gt l ((k-1) / 2))=false)∧(∀ k,0<k→k<n→(k-1) / 2=j→0<j→Bs (gt l k) (gt l ((j-1) / 2))=false)
theorem yM:∀ (f:Nat) (l:List Sc) (j:Nat),j<f→j<l.length→Aeu l l.length j→NS (oP f l j) l.length∧oP f l j ~ l
 |0,l,j,hf,_,_=>by omega
 |f+1,l,j,hf,hj,⟨h1,h2⟩=>by
  unfold oP;split
  ·rename_i hc;refine⟨fun k hk hk2=>?_,Perm.refl _⟩;by_cases e:k=j
   ·subst e;rcases hc with hc | hc
    ·omega
    ·exact hc
   ·exact h1 k hk hk2 e
  ·rename_i hc;have hij:¬ (j-1) / 2=j:=fun e=>hc (.inl e);have hA:Bs (gt l j) (gt l ((j-1) / 2))=true:=by
    cases hq:Bs (gt l j) (gt l ((j-1) / 2)) with
    |true=>rfl
    |false=>exact(hc (.inr hq)).elim
   obtain⟨i,hi⟩:∃ i,i=(j-1) / 2:=⟨_,rfl⟩;rw[← hi] at hij hA h2 ⊢;have hil:i<l.length:=by omega
   have hlt:i<j:=by omega
   have ih:=yM f (YP l i j) i (by omega) (by simp;omega) ⟨fun k hk hk2 hne=>?_,fun k hk hk2 hp h0=>?_⟩
   ·simp only[bW] at ih;exact⟨ih.1,ih.2.trans (Xf hil hj)⟩
   ·simp only[bW] at hk2;rw[Gj hil hj,Gj hil hj];by_cases e1:k=j
    ·subst e1;rw[if_pos rfl,← hi,if_neg (by omega),if_pos rfl];exact NK hA
    ·rw[if_neg e1,if_neg hne];by_cases e2:(k-1) / 2=j
     ·rw[if_pos e2];exact h2 k hk hk2 e2 (by omega)
     ·rw[if_neg e2];by_cases e3:(k-1) / 2=i
      ·rw[if_pos e3];have:=h1 k hk hk2 e1;rw[e3] at this;exact Sl (NK hA) this
      ·rw[if_neg e3];exact h1 k hk hk2 e1
   ·simp only[bW] at hk2;rw[Gj hil hj,Gj hil hj];have hpi:=h1 i h0 hil (by omega);rw[if_neg (by omega:¬ (i-1) / 2=j),if_neg (by omega:¬ (i-1) / 2=i)];by_cases e1:k=j
    ·rw[if_pos e1];exact hpi
    ·rw[if_neg e1,if_neg (by omega:¬ k=i)];have:=h1 k hk hk2 e1;rw[hp] at this;exact Sl hpi this
theorem lz {l:List Sc} (h:NS l l.length) (x:Sc):NS (oP (l.length+1) (l++[x]) l.length) (l.length+1)∧oP (l.length+1) (l++[x]) l.length ~ x::l:=by
 have hg:∀ k,k<l.length→gt (l++[x]) k=gt l k:=fun k hk=>by
  unfold gt;rw[List.getD_eq_getElem?_getD,List.getD_eq_getElem?_getD,List.getElem?_append_left hk]
 have:=yM (l.length+1) (l++[x]) l.length (by omega) (by simp) ⟨fun k hk hk2 hne=>?_,fun k hk hk2 hp h0=>?_⟩
 ·simp only[List.length_append,List.length_singleton] at this;exact⟨this.1,this.2.trans (List.perm_append_singleton x l)⟩
 ·simp at hk2;rw[hg k (by omega),hg _ (by omega)];exact h k hk (by omega)
 ·simp at hk2;omega
def wD (l:List Sc) (n i:Nat):Prop:=(∀ k,0<k→k<n→(k-1) / 2 ≠ i→Bs (gt l k) (gt l ((k-1) / 2))=false)∧(∀ k,0<k→k<n→(k-1) / 2=i→0<i→Bs (gt l k) (gt l ((i-1) / 2))=false)
theorem nr {l:List Sc} {i n:Nat} (h:2*i+1<n):ML l i n<n∧(ML l i n-1) / 2=i∧i<ML l i n∧∀ k,0<k→k<n→(k-1) / 2=i→Bs (gt l k) (gt l (ML l i n))=false:=by
 unfold ML;split
 ·rename_i hc;refine⟨hc.1,by omega,by omega,fun k hk hk2 hp=>?_⟩;have:k=2*i+1∨k=2*i+2:=by omega
  rcases this with rfl | rfl
  ·exact NK hc.2
  ·exact Mr _
 ·rename_i hc;refine⟨h,by omega,by omega,fun k hk hk2 hp=>?_⟩;have:k=2*i+1∨k=2*i+2:=by omega
  rcases this with rfl | rfl
  ·exact Mr _
  ·cases hq:Bs (gt l (2*i+2)) (gt l (2*i+1)) with
   |false=>rfl
   |true=>exact(hc ⟨hk2,hq⟩).elim
theorem mW:∀ (f:Nat) (l:List Sc) (i n:Nat),n≤l.length→i<l.length→n<i+f→wD l n i→NS (Ib f l i n).1 n∧(Ib f l i n).1 ~ l∧∀ k,n≤k→gt (Ib f l i n).1 k=if k=i then gt (Ib f l i n).1 i else gt l k
 |0,l,i,n,hn,hil,hf,⟨h1,h2⟩=>by
  refine⟨fun k hk hk2=>h1 k hk hk2 (by omega),Perm.refl _,fun k hk=>?_⟩;show gt l k=if k=i then gt l i else gt l k
  split
  ·rename_i e;rw[e]
  ·rfl
 |f+1,l,i,n,hn,hil,hf,⟨h1,h2⟩=>by
  have same:∀ k:Nat,gt l k=if k=i then gt l i else gt l k:=fun k=>by
   split
   ·rename_i e;rw[e]
   ·rfl
  unfold Ib;split
  ·refine⟨fun k hk hk2=>h1 k hk hk2 (by omega),Perm.refl _,fun k _=>same k⟩
  ·rename_i hlt;obtain⟨c1,c2,c3,c4⟩:=nr (l:=l) (i:=i) (n:=n) (by omega);split
   ·rename_i hA;generalize ML l i n=c at *;have hcl:c<l.length:=by omega
    have ih:=mW f (YP l i c) c n (by simp;omega) (by simp;omega) (by omega) ⟨fun k hk hk2 hne=>?_,fun k hk hk2 hp h0=>?_⟩
    ·refine⟨ih.1,ih.2.1.trans (Xf hil hcl),fun k hk=>?_⟩;rw[ih.2.2 k hk,if_neg (by omega:¬ k=c),Gj hil hcl,if_neg (by omega:¬ k=c)];by_cases e:k=i
     ·subst e;omega
     ·rw[if_neg e,if_neg e]
    ·rw[Gj hil hcl,Gj hil hcl];by_cases e1:k=c
     ·subst e1;rw[if_pos rfl,c2,if_neg (by omega),if_pos rfl];exact NK hA
     ·rw[if_neg e1];by_cases e2:k=i
      ·subst e2;rw[if_pos rfl,if_neg hne,if_neg (by omega:¬ (k-1) / 2=k)];exact h2 c (by omega) c1 c2 hk
      ·rw[if_neg e2,if_neg hne];by_cases e3:(k-1) / 2=i
       ·rw[if_pos e3];exact c4 k hk hk2 e3
       ·rw[if_neg e3];exact h1 k hk hk2 e3
    ·rw[Gj hil hcl,Gj hil hcl,c2,if_neg (by omega:¬ i=c),if_pos rfl,if_neg (by omega:¬ k=c),if_neg (by omega:¬ k=i)];have:=h1 k hk hk2 (by omega)
     rwa [hp] at this
   ·rename_i hA;have hA':Bs (gt l (ML l i n)) (gt l i)=false:=by
     cases hq:Bs (gt l (ML l i n)) (gt l i) with
     |false=>rfl
     |true=>exact(hA hq).elim
    refine⟨fun k hk hk2=>?_,Perm.refl _,fun k _=>same k⟩;by_cases e:(k-1) / 2=i
    ·rw[e];exact Sl hA' (c4 k hk hk2 e)
    ·exact h1 k hk hk2 e
def KW (l:List Sc):List Sc:=(Ib (l.length-1+1) (YP l 0 (l.length-1)) 0 (l.length-1)).1
theorem WW (l:List Sc):(KW l).length=l.length:=by unfold KW;rw[Z1];simp
theorem yD {l:List Sc} {i:Nat} (h:i<l.length):gt l i=l[i]:=by unfold gt;rw[List.getD_eq_getElem?_getD,List.getElem?_eq_getElem h];rfl
theorem mw {l:List Sc} {n k:Nat} (h:k<n):gt (l.take n) k=gt l k:=by
 unfold gt;rw[List.getD_eq_getElem?_getD,List.getD_eq_getElem?_getD,List.getElem?_take,if_pos h]
theorem zA {l:List Sc} (h0:0<l.length) (h:NS l l.length):gt (KW l) (l.length-1)=gt l 0∧NS ((KW l).take (l.length-1)) (l.length-1)∧(gt l 0::(KW l).take (l.length-1)) ~ l:=by
 have hlen:=WW l;obtain⟨n,hn⟩:∃ n,n=l.length-1:=⟨_,rfl⟩;unfold KW at hlen ⊢;rw[← hn] at hlen ⊢;have hnl:n<l.length:=by omega
 have hd:=mW (n+1) (YP l 0 n) 0 n (by simp;omega) (by simp;omega) (by omega) ⟨fun k hk hk2 hne=>?_,fun k _ _ _ h0=>by omega⟩
 ·generalize hl2:(Ib (n+1) (YP l 0 n) 0 n).1=l2 at hd hlen;have hg:gt l2 n=gt l 0:=by
   by_cases e:n=0
   ·subst e;have:l2=YP l 0 0:=by rw[← hl2,Ib,if_pos (by omega)]
    rw[this,Gj h0 h0,if_pos rfl]
   ·rw[hd.2.2 n (BZ _),if_neg e,Gj h0 hnl,if_pos rfl]
  refine⟨hg,fun k hk hk2=>?_,?_⟩
  ·rw[mw hk2,mw (by omega)];exact hd.1 k hk hk2
  ·have hsplit:l2=l2.take n++[gt l2 n]:=by
    rw[yD (by omega),List.take_append_getElem,AL (by omega)]
   refine Perm.trans ?_ (hd.2.1.trans (Xf h0 hnl))
   conv=>rhs;rw[hsplit]
   rw[hg];exact(List.perm_append_singleton _ _).symm
 ·rw[Gj h0 hnl,Gj h0 hnl,if_neg (by omega:¬ k=n),if_neg (by omega:¬ k=0),if_neg (by omega:¬ (k-1) / 2=n),if_neg hne];exact h k hk (by omega)
def V5 (p q:Sc):Bool:=(decide (p.i<q.i)&&decide (p.j<q.j)) || (decide (q.i<p.i)&&decide (q.j<p.j))
theorem eK {p q:Sc}:V5 p q=V5 q p:=by unfold V5;rw[Bool.or_comm]
theorem xd (p:Sc):V5 p p=false:=by simp[V5]
def Cp (o:List Sc) (x:Sc):Bool:=o.all fun p=>V5 p x
theorem Zy {o:List Sc} {x y:Sc}:Cp (o++[x]) y=(Cp o y&&V5 x y):=by simp[Cp]
def j9 (all o:List Sc) (x:Sc):Prop:=x ∈ all∧Cp o x=true∧∀ y,y ∈ all→Cp o y=true→Bs y x=false
inductive Ks (all:List Sc):List Sc→List Sc→Prop
 |done {o}:(∀ y,y ∈ all→Cp o y=false)→Ks all o o
 |step {o x o'}:j9 all o x→Ks all (o++[x]) o'→Ks all o o'
theorem dM {all o:List Sc} {x y:Sc} (h:j9 all o x) (k:j9 all o y):x=y:=po (k.2.2 x h.1 h.2.1) (h.2.2 y k.1 k.2.1)
theorem np {all o a b:List Sc} (h:Ks all o a):Ks all o b→a=b:=by
 induction h with
 |done h=>
  intro k;cases k with
  |done=>rfl
  |step hb _=>
   have:=hb.2.1;rw[h _ hb.1] at this;cases this
 |step hb _ ih=>
  intro k;cases k with
  |done k=>
   have:=hb.2.1;rw[k _ hb.1] at this;cases this
  |step hb' k=>
   have:=dM hb hb';subst this;exact ih k
def En (o:List Sc):Prop:=o.Pairwise fun p q=>V5 p q=true
theorem Xn {o:List Sc} {x:Sc} (h:En o) (hx:Cp o x=true):En (o++[x]):=by
 unfold En at h ⊢;rw[List.pairwise_append];refine⟨h,by simp,fun p hp q hq=>?_⟩;simp at hq;subst hq;simp[Cp] at hx;exact hx p hp
theorem gL {all o o':List Sc} (h:Ks all o o'):En o→(∀ x,x ∈ o→x ∈ all)→En o'∧∀ x,x ∈ o'→x ∈ all:=by
 induction h with
 |done=>exact fun h k=>⟨h,k⟩
 |step hb _ ih=>
  intro h k;refine ih (Xn h hb.2.1) fun x hx=>?_;rcases List.mem_append.1 hx with hx | hx
  ·exact k x hx
  ·simp at hx;subst hx;exact hb.1
theorem uf {all o:List Sc} {x:Sc} {l rest:List Sc} (hl:x::rest ~ l) (hmin:∀ y,y ∈ l→Bs y x=false) (hall:∀ y,y ∈ all→y ∈ l∨Cp o y=false) (hsub:∀ y,y ∈ l→y ∈ all) :
  (Cp o x=true→j9 all o x∧(∀ y,y ∈ all→y ∈ rest∨Cp (o++[x]) y=false))∧(Cp o x=false→∀ y,y ∈ all→y ∈ rest∨Cp o y=false):=by
 refine⟨fun hx=>⟨⟨hsub x (hl.subset (by simp)),hx,fun y hy hf=>?_⟩,fun y hy=>?_⟩,fun hx y hy=>?_⟩
 ·rcases hall y hy with h | h
  ·exact hmin y h
  ·rw[h] at hf;cases hf
 ·rcases hall y hy with h | h
  ·rcases List.mem_cons.1 (hl.symm.subset h) with rfl | h
   ·right;rw[Zy,xd];simp
   ·exact .inl h
  ·right;rw[Zy,h];rfl
 ·rcases hall y hy with h | h
  ·rcases List.mem_cons.1 (hl.symm.subset h) with rfl | h
   ·exact .inr hx
   ·exact .inl h
  ·exact .inr h
def R3 (x:Sc):List Sc→List Sc
 |[]=>[x]
 |y::l=>if y.i<x.i then y::R3 x l else x::y::l
def Kn (l:List Sc):Prop:=l.Pairwise fun p q=>p.i<q.i
theorem T7 (x:Sc):∀ l,R3 x l ~ x::l
 |[]=>Perm.refl _
 |y::l=>by
  unfold R3;split
  ·exact((T7 x l).cons y).trans (Perm.swap x y l)
  ·exact Perm.refl _
theorem XW {x:Sc}:∀ {l:List Sc},Kn l→(∀ y,y ∈ l→y.i ≠ x.i)→Kn (R3 x l)
 |[],_,_=>by simp[R3,Kn]
 |y::l,h,hne=>by
  unfold R3;unfold Kn at h ⊢;rw[List.pairwise_cons] at h;split
  ·rename_i hlt;rw[List.pairwise_cons];refine⟨fun z hz=>?_,XW h.2 fun z hz=>hne z (by simp[hz])⟩;rcases List.mem_cons.1 ((T7 x l).subset hz) with rfl | hz
   ·exact hlt
   ·exact h.1 z hz
  ·rename_i hlt;have:=hne y (by simp);rw[List.pairwise_cons,List.pairwise_cons];refine⟨fun z hz=>?_,h⟩;rcases List.mem_cons.1 hz with rfl | hz
   ·omega
   ·have:=h.1 z hz;omega
theorem Zv:∀ {l m:List Sc},Kn l→Kn m→l ~ m→l=m
 |[],m,_,_,h=>(List.nil_perm.1 h).symm
 |x::l,[],_,_,h=>by have:=h.length_eq;simp at this
 |x::l,y::m,hl,hm,h=>by
  unfold Kn at hl hm;rw[List.pairwise_cons] at hl hm;have e:x=y:=by
   rcases List.mem_cons.1 (h.subset (by simp:x ∈ x::l)) with e | e
   ·exact e
   ·rcases List.mem_cons.1 (h.symm.subset (by simp:y ∈ y::m)) with e2 | e2
    ·exact e2.symm
    ·have h1:=hm.1 x e;have h2:=hl.1 y e2;omega
  subst e;rw[Zv hl.2 hm.2 ((List.perm_cons x).1 h)]
def CP (o:List Sc):List Sc:=o.foldl (fun l x=>R3 x l) []
theorem Kt {o:List Sc} (h:En o):Kn (CP o)∧CP o ~ o:=by
 have main:∀ (o l p:List Sc),Kn l→l ~ p→(p++o).Pairwise (fun a b=>V5 a b=true)→Kn (o.foldl (fun l x=>R3 x l) l)∧o.foldl (fun l x=>R3 x l) l ~ p++o:=by
  intro o;induction o with
  |nil=>intro l p h1 h2 _;simpa using ⟨h1,h2⟩
  |cons x o ih=>
   intro l p h1 h2 h3;have hx:∀ y,y ∈ p→V5 y x=true:=fun y hy=>by
    rw[List.pairwise_append] at h3;exact h3.2.2 y hy x (by simp)
   have:=ih (R3 x l) (p++[x]) (XW h1 fun y hy e=>by
    have:=hx y (h2.subset hy);simp[V5] at this;omega) ((T7 x l).trans ((h2.cons x).trans (List.perm_append_singleton x p).symm)) (by simpa using h3)
   simpa using this
 have:=main o [] [] (by simp[Kn]) (Perm.refl _) (by show En ([]++o);exact h);simpa[CP] using this
theorem ZP:∀ (l:List Sc) (a b:Nat),Kn l→(∀ x,x ∈ l→a≤x.i∧x.i<b)→l.length≤b-a
 |[],a,b,_,_=>by simp
 |x::l,a,b,h,hb=>by
  unfold Kn at h;rw[List.pairwise_cons] at h;have h1:=hb x (by simp);have:=ZP l (x.i+1) b h.2 fun y hy=>⟨h.1 y hy,(hb y (by simp[hy])).2⟩;simp;omega
end Go.PL
namespace Go.Proofs.YtbjmaoedheiigaaGreat
open Go Go.G Go.Proofs Go.PL
def cK (x:Sc):List A:=[iv x.i,iv x.j,iv x.n]
def PK (x:Sc):A:=.agg (cK x)
@[simp] theorem AbB {x:Sc}:(PK x).cells=cK x:=rfl
@[simp] theorem Agv {x:Sc}:(cK x).length=3:=rfl
@[simp] theorem AdB {a:A}:ju Tryz.prog 277 a=some (.ifc 277 a):=by
 unfold ju;rw[show Tryz.prog.underlying 277=some (.pointer 279) by kernel_rfl]
@[simp] theorem AiK {a:A}:ju Tryz.prog 282 a=some (.ifc 282 a):=by
 unfold ju;rw[show Tryz.prog.underlying 282=some (.struct (Tryz.prog.fieldsOf 282)) by kernel_rfl]
@[simp] theorem Acm {a:A}:PB Tryz.prog 282 false (.ifc 282 a)=some a:=by
 simp only[PB,if_true];rw[show Tryz.prog.underlying 282=some (.struct (Tryz.prog.fieldsOf 282)) by kernel_rfl];rfl
def Mm (l junk:List Sc) (v:Nat):Fam:=⟨fun r p=>if p=[] then ⟨1,.cells [.osl (r::[0]) v 3 0 l.length]⟩ else if p=[0] then ⟨v,.arr 3 ((l++junk).map PK)⟩ else ⟨0,.none⟩,fun {g δ r r'} hg hd p=>by
  by_cases h1:p=[]
  ·rw[if_pos h1,if_pos h1];refine Fam.cells_ren ?_;simp[A.renL,A.ren,hg,hd]
  ·rw[if_neg h1,if_neg h1];by_cases h2:p=[0]
   ·rw[if_pos h2];refine Fam.arr_ren ?_;have e:∀ x:Sc,(PK x).ren g δ=PK x:=fun x=>by simp[PK,cK,A.ren,A.renL]
    simp only[Cv,List.map_map];refine List.map_congr_left fun x _=>?_;exact e x
   ·rw[if_neg h2];rfl,fun {D r} hD p=>by
  by_cases h1:p=[]
  ·rw[if_pos h1];simp[Ob.refs,A.refsL,A.refs,hD]
  ·rw[if_neg h1];by_cases h2:p=[0]
   ·rw[if_pos h2];simp only[Ob.refs,refsL_iff];intro y hy;obtain⟨x,_,rfl⟩:=List.mem_map.1 hy;simp[A.refs,A.refsL,PK,cK]
   ·rw[if_neg h2];trivial⟩
@[simp] theorem xY {l junk:List Sc} {v r:Nat} {p:Nm}:(Mm l junk v).F r p=if p=[] then ⟨1,.cells [.osl (r::[0]) v 3 0 l.length]⟩ else if p=[0] then ⟨v,.arr 3 ((l++junk).map PK)⟩ else ⟨0,.none⟩:=rfl
abbrev ic (r:Nat):A:=.pob [r] 1 0
abbrev iK (r:Nat):A:=.ifc 277 (ic r)
abbrev scI (x:Sc):A:=.ifc 282 (PK x)
theorem xq {x:Sc}:∀ y,y ∈ cK x→y.bare1=true:=fun y hy=>by simp[cK] at hy;rcases hy with rfl | rfl | rfl<;>rfl
@[simp] theorem Ahl {x:Sc}:A.ones (cK x)=true:=rfl
@[simp] theorem Af2 {x:Sc}:(cK x).take 3=cK x:=rfl
theorem rr {x:Sc}:A.agg (cK x)=PK x:=rfl
theorem xk {l:List Sc}:Gh 3 (l.map PK)=true:=by rw[I7];simp
theorem R2 (x:Sc):EU (fun _=>scI x):=Pd (Ez (cs:=cK x) rfl fun y hy=>by simp[cK] at hy;rcases hy with rfl | rfl | rfl<;>rfl)
theorem Ps (l junk:List Sc) (v:Nat) (hl:l.length≤1000):Bh Tryz.prog 237 (fun r=>[.osl (r::[0]) v 3 0 l.length]) (Mm l junk v) (fun _=>iv l.length) (Mm l junk v):=by
 refine AE Xr (by simp) (Af Cu Am) Au fun w0 I0 M0 m0=>?_;unfold Oj;simp;exact AM rfl rfl (fun p=>by simp)
theorem iH (l junk:List Sc) (v:Nat) (hl:l.length≤1000) (x:Sc):Bh Tryz.prog 307 (fun r=>[ic r,scI x]) (Mm l junk v) (fun _=>.tup []) (Mm (l++[x]) [] (v+1)):=by
 refine AE VM (by simp) (Af AJ (Af (R2 x) Am)) (Bz Am) fun w0 I0 M0 m0=>?_;unfold N0;simp[xk,Aa];refine⟨xq,by omega,?_⟩;exact AX rfl rfl (fun p=>by by_cases h1:p=[]<;>by_cases h2:p=[0]<;>simp[h1,h2,Aa])
theorem pL (l junk:List Sc) (v:Nat) (hl:l.length≤1000) (x:Sc):Bh Tryz.prog 306 (fun r=>[ic r]) (Mm (l++[x]) junk v) (fun _=>scI x) (Mm l (x::junk) v):=by
 refine AE XF (by simp) (Af AJ Am) (R2 x) fun w0 I0 M0 m0=>?_;have e1:i64.wrap (l.length:Int)=(l.length:Int):=BJ;have he:(l.map PK++PK x::junk.map PK)[l.length]? = some (PK x):=by
  rw[List.getElem?_append_right (by simp)];simp
 unfold Pm;simp[e1,he,Aa,show(l.length:Int)<l.length+1 by omega,show(l.length:Int)≤l.length+1 by omega];exact AX rfl rfl (fun p=>by by_cases h1:p=[]<;>by_cases h2:p=[0]<;>simp[h1,h2,Aa])
theorem Ym (n:Int):G.Spec Tryz.prog 266 [iv n] (bv false):=by
 refine Aj VF (by simp) fun w0 I0=>?_;unfold N1;simp;exact Ad rfl
def Fk (a b:Int):Int:=if a<b then -1 else if b<a then 1 else 0
theorem Sw (a b:Int):G.Spec Tryz.prog 243 [iv a,iv b] (iv (Fk a b)):=by
 refine Aj TC (by simp) fun w0 I0=>?_;unfold Ld Fk;simp;refine Ae (Ym a) rfl ?_;simp;refine Ae (Ym b) rfl ?_;by_cases h:a<b
 ·simp[h];exact Ad rfl
 ·by_cases h2:b<a
  ·simp[h,h2];exact Ad rfl
  ·simp[h,h2];exact Ad rfl
theorem xV (a b c:Int):G.Spec Tryz.prog 310 [.sl true [iv a,iv b,iv c]] (iv (if a ≠ 0 then a else if b ≠ 0 then b else c)):=by
 refine Aj a7 (by simp) fun w0 I0=>?_;have w1:i64.wrap 1=1:=rfl;have w2:i64.wrap 2=2:=rfl;have w3:i64.wrap 3=3:=rfl;unfold S7;simp;refine Ab Ai GL.eq_1 ?_;by_cases h1:a=0
 ·simp[h1,w1];refine Ab Ai GL.eq_1 ?_;by_cases h2:b=0
  ·simp[h2,w2];refine Ab Ai GL.eq_1 ?_;by_cases h3:c=0
   ·simp[h3,w3];refine Ab Ai GL.eq_1 ?_;simp;exact Ad rfl
   ·simp[h3];exact Ad rfl
  ·simp[h2];exact Ad rfl
 ·simp[h1];exact Ad rfl
theorem om (a b:Sc):decide ((if Fk b.n a.n ≠ 0 then Fk b.n a.n else if Fk a.i b.i ≠ 0 then Fk a.i b.i else Fk a.j b.j)<0)=Bs a b:=by
 have h3:∀ x y:Int,(x<y∧Fk x y = -1)∨(x=y∧Fk x y=0)∨(y<x∧Fk x y=1):=fun x y=>by
  unfold Fk;rcases Int.lt_trichotomy x y with h | h | h
  ·exact .inl ⟨h,if_pos h⟩
  ·exact .inr (.inl ⟨h,by rw[if_neg (by omega),if_neg (by omega)]⟩)
  ·exact .inr (.inr ⟨h,by rw[if_neg (by omega),if_pos h]⟩)
 unfold Bs;rcases h3 b.n a.n with ⟨h,e⟩ | ⟨h,e⟩ | ⟨h,e⟩
 ·rw[e];simp[h]
 ·rw[e];rcases h3 a.i b.i with ⟨h2,e2⟩ | ⟨h2,e2⟩ | ⟨h2,e2⟩
  ·rw[e2];have:a.i<b.i:=by omega
   simp[h,this]
  ·rw[e2];have h2':a.i=b.i:=by omega
   rcases h3 a.j b.j with ⟨h4,e4⟩ | ⟨h4,e4⟩ | ⟨h4,e4⟩
   ·rw[e4];have:a.j<b.j:=by omega
    simp[h,h2',this]
   ·rw[e4];have:¬ a.j<b.j:=by omega
    simp[h,h2',this]
   ·rw[e4];have:¬ a.j<b.j:=by omega
    simp[h,h2',this]
  ·rw[e2];have h5:¬ a.i<b.i:=by omega
   have h6:¬ a.i=b.i:=by omega
   simp[h,h5,h6]
 ·rw[e];have h5:¬ b.n<a.n:=by omega
  have h6:¬ a.n=b.n:=by omega
  simp[h5,h6]
theorem jX (a b:Sc):G.Spec Tryz.prog 309 [PK a,PK b] (bv (Bs a b)):=by
 refine Aj P4 (by simp) fun w0 I0=>?_;have hO:=xV (Fk b.n a.n) (Fk a.i b.i) (Fk a.j b.j);unfold Js;simp[PK,cK];refine Ae (Sw b.n a.n) rfl ?_;simp;refine Ae (Sw a.i b.i) rfl ?_;simp;refine Ae (Sw a.j b.j) rfl ?_;simp;refine Ae hO rfl ?_;simp;refine Bc ?_;rw[← om];simp
theorem Q8 (l junk:List Sc) (v:Nat) (hl:l.length≤1000) (i j:Nat) (hi:i<l.length) (hj:j<l.length):Bh Tryz.prog 305 (fun r=>[.osl (r::[0]) v 3 0 l.length,iv i,iv j]) (Mm l junk v) (fun _=>bv (Bs l[i] l[j])) (Mm l junk v):=by
 refine AE VL (by simp) (Af Cu (Af Au (Af Au Am))) Au fun w0 I0 M0 m0=>?_;have hA:=jX l[i] l[j];have gi:(l.map PK++junk.map PK)[i]? = some (PK l[i]):=by rw[List.getElem?_append_left (by simpa using hi)];simp[hi]
 have gj:(l.map PK++junk.map PK)[j]? = some (PK l[j]):=by rw[List.getElem?_append_left (by simpa using hj)];simp[hj]
 unfold N3;simp[gi,gj,hi,hj,show(i:Int)<l.length by omega,show(j:Int)<l.length by omega,rr];refine Ae hA rfl ?_;simp;exact AM rfl rfl (fun p=>by simp)
theorem Ry (l junk:List Sc) (v:Nat) (hl:l.length≤1000) (i j:Nat) (hi:i<l.length) (hj:j<l.length):Bh Tryz.prog 308 (fun r=>[.osl (r::[0]) v 3 0 l.length,iv i,iv j]) (Mm l junk v) (fun _=>.tup []) (Mm ((l.set i l[j]).set j l[i]) junk v):=by
 refine AE VT (by simp) (Af Cu (Af Au (Af Au Am))) (Bz Am) fun w0 I0 M0 m0=>?_;have gi:(l.map PK++junk.map PK)[i]? = some (PK l[i]):=by rw[List.getElem?_append_left (by simpa using hi)];simp[hi]
 have gj:(l.map PK++junk.map PK)[j]? = some (PK l[j]):=by rw[List.getElem?_append_left (by simpa using hj)];simp[hj]
 unfold NW;simp[gi,gj,hi,hj,show(i:Int)<l.length by omega,show(j:Int)<l.length by omega,rr];have gk:((l.map PK).set i (PK l[j])++junk.map PK)[j]? = some (PK l[j]):=by
  rw[List.getElem?_append_left (by simpa using hj)];by_cases e:i=j
  ·subst e;simp[hi]
  ·rw[List.getElem?_set_ne e];simp[hj]
 rw[gk];simp[hj];exact AX rfl rfl (fun p=>by by_cases h1:p=[]<;>by_cases h2:p=[0]<;>simp[h1,h2,Aa,List.map_set])
theorem TQ:QE Tryz.prog 277 "Less" = some (305,some 279):=by kernel_rfl
theorem T8:QE Tryz.prog 277 "Swap" = some (308,some 279):=by kernel_rfl
theorem gy:QE Tryz.prog 277 "Len" = some (237,some 279):=by kernel_rfl
theorem pO:QE Tryz.prog 277 "Push" = some (307,none):=by kernel_rfl
theorem rf:QE Tryz.prog 277 "Pop" = some (306,none):=by kernel_rfl
theorem Hx {l:List Sc} {i:Nat} (h:i<l.length):l.getD i sc0=l[i]:=by rw[List.getD_eq_getElem?_getD,List.getElem?_eq_getElem h];rfl
theorem kv {l:List Sc} {i j:Nat} (hi:i<l.length) (hj:j<l.length):YP l i j=(l.set i l[j]).set j l[i]:=by unfold YP;rw[Hx hi,Hx hj]
theorem IZ {H:Hp} {l junk:List Sc} {v:Nat} (hH:∀ p,H (0::p)=(Mm l junk v).F 0 p):Zg Tryz.prog H (some 279) (ic 0)=some (.osl [0,0] v 3 0 l.length):=by
 have:=hH [];unfold Zg;simp[this]
theorem Afd {n0:Nat} {w0:World} {I0:Nat→Prop} {M0:Nm→Nat→Prop} {m0:Mu} {Q:Exit→Sta→Prop} {junk:List Sc} {v:Nat}:∀ (f:Nat) (l:List Sc) (j:Nat) (H:Hp),l.length≤1000→j<l.length→j<f→(∀ p,H (0::p)=(Mm l junk v).F 0 p) →
  (∀ (H':Hp) (st:List (Nat × A)),(∀ p,H' (0::p)=(Mm (oP f l j) junk v).F 0 p)→Q (.exit 0) ⟨lk st,H'⟩) →
  LoopC (DG Tryz.prog w0 I0 M0 n0 m0) FM Q ⟨lk [(0,iK 0),(1,iv j)],H⟩:=by
 intro f;induction f with
 |zero=>intro l j H _ _ hf;omega
 |succ f ih=>
  intro l j H hl hj hf hH hq;obtain⟨i,hi⟩:∃ i,i=(j-1) / 2:=⟨_,rfl⟩;have hil:i<l.length:=by omega
  have e1:i64.wrap ((j:Int)-1)=(j:Int)-1:=BJ;have e2:i64.wrap (((j:Int)-1).tdiv 2)=(i:Int):=by
   by_cases h0:j=0
   ·subst h0;have:i=0:=by omega
    subst this;rfl
   ·rw[Int.tdiv_eq_ediv_of_nonneg (by omega),Al (by omega) (by omega)];omega
  have hL:=Q8 l junk v hl j i hj hil;have hS:=Ry l junk v hl i j hil hj;rw[oP,← hi,Hx hj,Hx hil,kv hil hj] at hq;refine Ab Ai FM.eq_1 ?_;by_cases hij:i=j
  ·rw[if_pos (.inl hij)] at hq;simp[e1,e2,hij];rw[AU];simp;exact hq H [(0,iK 0),(1,iv j),(4,iv j),(17,bv true)] hH
  ·have hij':¬ (i:Int)=j:=by omega
   simp[e1,e2,hij,hij'];rw[AU];simp;refine IL 0 hL hH rfl TQ (IZ hH) rfl (by simp) ?_;cases hA:Bs l[j] l[i] with
   |false=>
    rw[hA,if_pos (.inr rfl)] at hq;simp;exact hq _ [(0,iK 0),(1,iv j),(4,iv i),(17,bv true)] (fun p=>by simp)
   |true=>
    rw[hA,if_neg (by simp[hij])] at hq;simp;have hH2:∀ p,(ov 0 ((Mm l junk v).F 0) H) (0::p)=(Mm l junk v).F 0 p:=fun p=>by simp
    refine IL 0 hS hH2 rfl T8 (IZ hH2) rfl (by simp) ?_;simp;refine ih _ i _ (by simp;omega) (by simp;omega) (by omega) (fun p=>by simp) hq
theorem wY (l junk:List Sc) (v:Nat) (hl:l.length≤1000) (j:Nat) (hj:j<l.length):Bh Tryz.prog 261 (fun r=>[iK r,iv j]) (Mm l junk v) (fun _=>.tup []) (Mm (oP (j+1) l j) junk v):=by
 refine AE P0 (by simp) (Af (Pd AJ) (Af Au Am)) (Bz Am) fun w0 I0 M0 m0=>?_;unfold JD;simp;refine LoopC.le (Ao [(0,iK 0),(1,iv j)] (by simp)) ?_;refine Afd (junk:=junk) (v:=v) (j+1) l j _ hl hj (by omega) (fun p=>by simp) fun H' st hH=>?_;simp;exact AX rfl rfl hH
theorem wV {l:List Sc} {i n:Nat} (h:2*i+1<n):ML l i n<n∧i<ML l i n:=by
 unfold ML;split
 ·rename_i h2;omega
 ·omega
theorem vY {n0:Nat} {w0:World} {I0:Nat→Prop} {M0:Nm→Nat→Prop} {m0:Mu} {Q':Exit→Sta→Prop} {junk l:List Sc} {v i k:Nat} {i0 n:Int} {H:Hp} (hl:l.length≤1000) (hi:i<l.length) (hk:k<l.length) (hH:∀ p,H (0::p)=(Mm l junk v).F 0 p)
  (h0:Bs l[k] l[i]=false→∀ (H':Hp),(∀ p,H' (0::p)=(Mm l junk v).F 0 p)→Q' (.exit 0) ⟨lk [(0,iK 0),(1,iv i0),(2,iv n),(7,iv i),(9,iv k),(39,bv true)],H'⟩)
  (h1:Bs l[k] l[i]=true→∀ (H':Hp),(∀ p,H' (0::p)=(Mm (YP l i k) junk v).F 0 p)→Q' .normal ⟨lk [(0,iK 0),(1,iv i0),(2,iv n),(7,iv k)],H'⟩) :
  WPC (DG Tryz.prog w0 I0 M0 n0 m0) Dh Q' ⟨lk [(0,iK 0),(1,iv i0),(2,iv n),(7,iv i),(9,iv k)],H⟩:=by
 have hL:=Q8 l junk v hl k i hk hi;have hS:=Ry l junk v hl i k hi hk;rw[← kv hi hk] at hS;rw[Dh.eq_1];simp;refine IL 0 hL hH rfl TQ (IZ hH) rfl (by simp) ?_;cases hA:Bs l[k] l[i] with
 |false=>
  simp;exact h0 hA _ (fun p=>by simp)
 |true=>
  simp;have hH2:∀ p,(ov 0 ((Mm l junk v).F 0) H) (0::p)=(Mm l junk v).F 0 p:=fun p=>by simp
  refine IL 0 hS hH2 rfl T8 (IZ hH2) rfl (by simp) ?_;simp;exact h1 hA _ (fun p=>by simp)
theorem vA {n0:Nat} {w0:World} {I0:Nat→Prop} {M0:Nm→Nat→Prop} {m0:Mu} {Q:Exit→Sta→Prop} {junk:List Sc} {v n:Nat} {i0:Int}:∀ (f:Nat) (l:List Sc) (i:Nat) (H:Hp),l.length≤1000→n≤l.length→(i<n∨(n=0∧i=0))→n<i+f→i<l.length→(∀ p,H (0::p)=(Mm l junk v).F 0 p) →
  (∀ (H':Hp) (st:List (Nat × A)),(∀ p,H' (0::p)=(Mm (Ib f l i n).1 junk v).F 0 p)→(lk st) 1=iv i0→(lk st) 7=iv (Ib f l i n).2→Q (.exit 0) ⟨lk st,H'⟩) →
  LoopC (DG Tryz.prog w0 I0 M0 n0 m0) Dj Q ⟨lk [(0,iK 0),(1,iv i0),(2,iv n),(7,iv i)],H⟩:=by
 intro f;induction f with
 |zero=>intro l i H hl hn hi hf hil hH hq;omega
 |succ f ih=>
  intro l i H hl hn hi hf hil hH hq;have e1:i64.wrap (2*(i:Int))=2*(i:Int):=BJ;have e2:i64.wrap (2*(i:Int)+1)=((2*i+1:Nat):Int):=AP;rw[Ib] at hq;refine Ab Ai Dj.eq_1 ?_;by_cases h1:n≤2*i+1
  ·rw[if_pos h1] at hq;simp[e1,e2,show(n:Int)≤2*i+1 by omega];exact hq H [(0,iK 0),(1,iv i0),(2,iv n),(7,iv i),(8,iv (2*i+1:Nat)),(21,bv true)] hH rfl rfl
  ·rw[if_neg h1] at hq;have e3:i64.wrap (2*(i:Int)+1+1)=((2*i+2:Nat):Int):=AP;have hkl:=wV (l:=l) (i:=i) (n:=n) (by omega);have fin:∀ (H':Hp),(∀ p,H' (0::p)=(Mm l junk v).F 0 p)→WPC (DG Tryz.prog w0 I0 M0 n0 m0) Dh (BD 1 (D4 (LoopC (DG Tryz.prog w0 I0 M0 n0 m0) Dj Q) Q)) ⟨lk [(0,iK 0),(1,iv i0),(2,iv n),(7,iv i),(9,iv (ML l i n))],H'⟩:=fun H' hH'=>by
    refine vY hl hil (k:=ML l i n) (by omega) hH' (fun hA H2 h2=>?_) (fun hA H2 h2=>?_)
    ·rw[← Hx (by omega),← Hx hil] at hA;rw[if_neg (by rw[hA];simp)] at hq;exact hq H2 _ h2 rfl rfl
    ·rw[← Hx (by omega),← Hx hil] at hA;rw[if_pos hA] at hq;simp;exact ih _ _ H2 (by simp;omega) (by simp;omega) (.inl hkl.1) (by omega) (by simp;omega) h2 hq
   clear hq ih;simp[e1,e2,show ¬ (n:Int)≤2*i+1 by omega,show ¬ 2*(i:Int)+1<0 by omega,e3];by_cases h2:2*i+2<n
   ·have hL:=Q8 l junk v hl (2*i+2) (2*i+1) (by omega) (by omega);simp[show 2*(i:Int)+2<n by omega];rw[AU];simp;refine IL 0 hL hH rfl TQ (IZ hH) rfl (by simp) ?_;have hk:ML l i n=if Bs l[2*i+2] l[2*i+1]=true then 2*i+2 else 2*i+1:=by
     unfold ML;rw[Hx (by omega),Hx (by omega)];simp[h2]
    rw[hk] at fin;cases hA:Bs l[2*i+2] l[2*i+1] with
    |false=>
     rw[hA] at fin;simp;exact fin _ (fun p=>by simp)
    |true=>
     rw[hA] at fin;simp;exact fin _ (fun p=>by simp)
   ·have hk:ML l i n=2*i+1:=by
     unfold ML;rw[if_neg (fun e=>h2 e.1)]
    rw[hk] at fin;simp[show ¬ 2*(i:Int)+2<n by omega];rw[AU];simp;exact fin _ hH
theorem pr (l junk:List Sc) (v:Nat) (hl:l.length≤1000) (n:Nat) (hn:n≤l.length) (h0:0<l.length):Bh Tryz.prog 262 (fun r=>[iK r,iv 0,iv n]) (Mm l junk v) (fun _=>bv (decide (0<(Ib (n+1) l 0 n).2))) (Mm (Ib (n+1) l 0 n).1 junk v):=by
 refine AE N7 (by simp) (Af (Pd AJ) (Af Au (Af Au Am))) Au fun w0 I0 M0 m0=>?_;unfold Ie;simp;refine LoopC.le (Ao [(0,iK 0),(1,iv 0),(2,iv n),(7,iv (0:Nat))] (by simp)) ?_;refine vA (junk:=junk) (v:=v) (n+1) l 0 _ hl hn (by omega) (by omega) h0 (fun p=>by simp) fun H' st hH h1 h7=>?_;simp[h1,h7];exact AM rfl rfl hH
theorem fH (l junk:List Sc) (v:Nat) (hl:l.length≤900) (x:Sc):Bh Tryz.prog 236 (fun r=>[iK r,scI x]) (Mm l junk v) (fun _=>.tup []) (Mm (oP (l.length+1) (l++[x]) l.length) [] (v+1)):=by
 refine AE N5 (by simp) (Af (Pd AJ) (Af (R2 x) Am)) (Bz Am) fun w0 I0 M0 m0=>?_;have hP:=iH l junk v (by omega) x;have hL:=Ps (l++[x]) [] (v+1) (by simp;omega);have hU:=wY (l++[x]) [] (v+1) (by simp;omega) l.length (by simp);have e1:i64.wrap (l.length:Int)=(l.length:Int):=BJ;unfold Ia;simp;refine IL 0 hP (fun p=>by simp) rfl pO rfl rfl (by simp) ?_;simp;have hH2:∀ p,(ov 0 ((Mm (l++[x]) [] (v+1)).F 0) (EH []):Hp) (0::p)=(Mm (l++[x]) [] (v+1)).F 0 p:=fun p=>by simp
 refine IL 0 hL hH2 rfl gy (IZ hH2) rfl (by simp) ?_;simp[e1];refine Aw 0 hU (fun p=>by simp) (by simp) (by simp) ?_;simp;exact AX rfl rfl (fun p=>by simp)
theorem kh (l junk:List Sc) (v:Nat) (hl:l.length≤900) (h0:0<l.length):Bh Tryz.prog 238 (fun r=>[iK r]) (Mm l junk v) (fun _=>scI ((KW l).getD (l.length-1) sc0)) (Mm ((KW l).take (l.length-1)) ((KW l).getD (l.length-1) sc0::junk) v):=by
 refine AE O6 (by simp) (Af (Pd AJ) Am) (R2 _) fun w0 I0 M0 m0=>?_;obtain⟨n,hn⟩:∃ n,n=l.length-1:=⟨_,rfl⟩;have hlen:=WW l;rw[← hn];have hL:=Ps l junk v (by omega);have hS:=Ry l junk v (by omega) 0 n h0 (by omega);rw[← kv h0 (by omega)] at hS;have hD:=pr (YP l 0 n) junk v (by simp;omega) n (by simp;omega) (by simp;omega);have hpd:(Ib (n+1) (YP l 0 n) 0 n).1=KW l:=by unfold KW;rw[← hn]
 rw[hpd] at hD;have hsplit:KW l=(KW l).take n++[(KW l).getD n sc0]:=by
  rw[Hx (by omega),List.take_append_getElem,AL (by omega)]
 have hP:=pL ((KW l).take n) junk v (by simp;omega) ((KW l).getD n sc0);rw[← hsplit] at hP;have e1:i64.wrap ((l.length:Int)-1)=(n:Int):=AP;have hH1:∀ p,(ov 0 ((Mm l junk v).F 0) (EH []):Hp) (0::p)=(Mm l junk v).F 0 p:=fun p=>by simp
 have hH3:∀ l2:List Sc,∀ p,(ov 0 ((Mm l2 junk v).F 0) (EH []):Hp) (0::p)=(Mm l2 junk v).F 0 p:=fun l2 p=>by simp
 generalize (KW l).getD n sc0=z at hP ⊢;generalize (KW l).take n=l3 at hP ⊢;generalize KW l=l2 at hD hP;generalize (Ib (n+1) (YP l 0 n) 0 n).2=dd at hD;generalize YP l 0 n=l1 at hS hD;unfold Jk;simp;refine IL 0 hL hH1 rfl gy (IZ hH1) rfl (by simp) ?_;simp[e1];refine IL 0 hS hH1 rfl T8 (IZ hH1) rfl (by simp) ?_;simp;refine Aw 0 hD (fun p=>by simp) (by simp) (by simp) ?_;simp;refine IL 0 hP (fun p=>by simp) rfl rf rfl rfl (by simp) ?_;simp;exact AM rfl rfl (fun p=>by simp)
def Pz (x:Sc):List A:=[iv x.i,iv x.j]
def H7 (x:Sc):A:=.agg (Pz x)
@[simp] theorem Ab1 {x:Sc}:(H7 x).cells=Pz x:=rfl
@[simp] theorem Agn {x:Sc}:(Pz x).length=2:=rfl
@[simp] theorem AgH {x:Sc}:A.ones (Pz x)=true:=rfl
@[simp] theorem Agt {x:Sc}:(Pz x).take 2=Pz x:=rfl
theorem Di {x:Sc}:A.agg (Pz x)=H7 x:=rfl
theorem lq {x:Sc}:∀ y,y ∈ Pz x→y.bare1=true:=fun y hy=>by simp[Pz] at hy;rcases hy with rfl | rfl<;>rfl
theorem mq {l:List Sc}:Gh 2 (l.map H7)=true:=by rw[I7];simp
theorem wC (x:Sc):EU (fun _=>H7 x):=Ez (cs:=Pz x) rfl lq
def ig (l:List Sc) (v:Nat):Fam:=⟨fun r p=>if p=[] then ⟨v,.arr 2 (l.map H7)⟩ else ⟨0,.none⟩,fun {g δ r r'} hg hd p=>by
  by_cases h1:p=[]
  ·rw[if_pos h1];refine Fam.arr_ren ?_;have e:∀ x:Sc,(H7 x).ren g δ=H7 x:=fun x=>by simp[H7,Pz,A.ren,A.renL]
   simp only[Cv,List.map_map];refine List.map_congr_left fun x _=>?_;exact e x
  ·rw[if_neg h1];rfl,fun {D r} hD p=>by
  by_cases h1:p=[]
  ·rw[if_pos h1];simp only[Ob.refs,refsL_iff];intro y hy;obtain⟨x,_,rfl⟩:=List.mem_map.1 hy;simp[A.refs,A.refsL,H7,Pz]
  ·rw[if_neg h1];trivial⟩
@[simp] theorem LU {l:List Sc} {v r:Nat} {p:Nm}:(ig l v).F r p=if p=[] then ⟨v,.arr 2 (l.map H7)⟩ else ⟨0,.none⟩:=rfl
abbrev uY (l:List Sc) (v r:Nat):A:=.osl [r] v 2 0 l.length
theorem ae (p q:Sc):G.Spec Tryz.prog 240 [H7 p,H7 q] (bv (!V5 p q)):=by
 refine Aj Qb (by simp) fun w0 I0=>?_;unfold Jy V5;by_cases h1:p.i<q.i<;>by_cases h2:p.j<q.j<;>by_cases h3:q.i<p.i<;>by_cases h4:q.j<p.j<;>simp[H7,Pz,h1,h2,h3,h4,Aa]<;>exact Bc rfl
abbrev crF (x:Sc):A:=.fnc 240 [H7 x] []
theorem cN (x:Sc):EU (fun _=>crF x):=dx (Af (wC x) Am) Am
def QF (x:Sc):List Sc→Nat→Int
 |[],_=>-1
 |q::l,i=>if V5 x q=true then QF x l (i+1) else i
theorem XH (x:Sc):∀ (l:List Sc) (i:Nat),decide (0≤QF x l i) = !(l.all fun q=>V5 x q)
 |[],i=>rfl
 |q::l,i=>by
  unfold QF;cases h:V5 x q with
  |true=>simp[h,XH x l (i+1)]
  |false=>simp[h]
theorem y7 {n0:Nat} {w0:World} {I0:Nat→Prop} {M0:Nm→Nat→Prop} {m0:Mu} {Q:Exit→Sta→Prop} {x:Sc} {l:List Sc} {v:Nat} {H:Hp} (hl:l.length≤1000) (hH:∀ p,H (0::p)=(ig l v).F 0 p)
  (hq:∀ y:Int,y=QF x l 0→y ≠ -1→Q .ret ⟨lk [(4,iv y)],H⟩) (hq2:QF x l 0 = -1→Q (.exit 0) ⟨lk [(0,uY l v 0),(1,crF x),(7,iv l.length),(8,iv l.length),(9,bv false)],H⟩):∀ (m i:Nat),i+m=l.length→QF x (l.drop i) i=QF x l 0 →
  LoopC (DG Tryz.prog w0 I0 M0 n0 m0) Bj Q ⟨lk [(0,uY l v 0),(1,crF x),(7,iv l.length),(8,iv i)],H⟩:=by
 intro m;induction m with
 |zero=>
  intro i hi he;have:i=l.length:=by omega
  subst this;rw[List.drop_length] at he;refine Ab Ai Bj.eq_1 ?_;simp;exact hq2 (he.symm.trans rfl)
 |succ m ih=>
  intro i hi he;have hlt:i<l.length:=by omega
  have h0:=hH [];have hg:(l.map H7)[i]? = some (H7 l[i]):=by simp[hlt]
  have e1:=Av i;rw[List.drop_eq_getElem_cons hlt,QF] at he;refine Ab Ai Bj.eq_1 ?_;simp[h0,hg,hlt,Di,show(i:Int)<l.length by omega];refine MF (fs:=[H7 x]) (caps:=[]) rfl (ae x l[i]) rfl ?_;cases hp:V5 x l[i] with
  |true=>
   rw[hp,if_pos rfl] at he;simp[e1];exact ih (i+1) (by omega) he
  |false=>
   rw[hp,if_neg (by simp)] at he;simp;exact hq _ he (by omega)
theorem nj (x:Sc) (l:List Sc) (v:Nat) (hl:l.length≤1000):Bh Tryz.prog 263 (fun r=>[uY l v r,crF x]) (ig l v) (fun _=>iv (QF x l 0)) (ig l v):=by
 refine AE FP (by simp) (Af Cu (Af (cN x) Am)) Au fun w0 I0 M0 m0=>?_;unfold CR;simp;refine y7 (v:=v) (x:=x) hl (fun p=>by simp) (fun y hy hn=>?_) (fun h=>?_) l.length 0 (by omega) rfl
 ·simp;exact AM (by rw[hy];rfl) rfl (fun p=>by simp)
 ·simp;exact AM (by rw[h];rfl) rfl (fun p=>by simp)
theorem YW (x:Sc) (l:List Sc) (v:Nat) (hl:l.length≤1000):Bh Tryz.prog 239 (fun r=>[uY l v r,crF x]) (ig l v) (fun _=>bv (!Cp l x)) (ig l v):=by
 have hI:=nj x l v hl;have e:decide (0≤QF x l 0) = !Cp l x:=by
  rw[XH];unfold Cp;congr 2;funext q;exact eK
 refine AE Fe (by simp) (Af Cu (Af (cN x) Am)) Au fun w0 I0 M0 m0=>?_;unfold CD;simp;refine Aw 0 hI (fun p=>by simp) (by simp) (by simp) ?_;simp;rw[← e];exact AM rfl rfl (fun p=>by simp)
end Go.Proofs.YtbjmaoedheiigaaGreat
