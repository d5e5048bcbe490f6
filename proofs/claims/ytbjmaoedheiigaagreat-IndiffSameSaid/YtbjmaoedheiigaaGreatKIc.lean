/-
 Texts,merged,without what is not reached.
-/
import Derived.Test.YtbjmaoedheiigaaGreatKIb
set_option linter.unusedSimpArgs false
set_option linter.unusedVariables false
namespace Go.Proofs.YtbjmaoedheiigaaGreat
set_option maxRecDepth 20000
open Go Go.G Go.Proofs
@[simp] theorem AgS:Tryz.prog.underlying 47=some (.int .i64):=by kernel_rfl
@[simp] theorem Ahq:CI Tryz.prog 43=some 4:=by kernel_rfl
@[simp] theorem AhC:CI Tryz.prog 50=some 1:=by kernel_rfl
@[simp] theorem Ah6:CI Tryz.prog 53=some 8:=by kernel_rfl
@[simp] theorem Ahf:CI Tryz.prog 75=some 7:=by kernel_rfl
@[simp] theorem Agj:C5 Tryz.prog 43=some true:=by kernel_rfl
@[simp] theorem AgB:C5 Tryz.prog 50=some false:=by kernel_rfl
@[simp] theorem AeL:C5 Tryz.prog 53=some true:=by kernel_rfl
@[simp] theorem Agk:C5 Tryz.prog 75=some true:=by kernel_rfl
@[simp] theorem Adm:Bn Tryz.prog 43=some (Value.agg #[Value.int IntKind.i64 0,Value.int IntKind.i64 0,Value.int IntKind.i64 0,Value.int IntKind.i64 0]):=by kernel_rfl
@[simp] theorem AcG:Bn Tryz.prog 53=some (Value.agg #[Value.pointer none,Value.int IntKind.i64 0,Value.int IntKind.i64 0,Value.int IntKind.i64 0,Value.int IntKind.i64 0,Value.int IntKind.i64 0,Value.int IntKind.i64 0,Value.int IntKind.u64 0]):=by kernel_rfl
@[simp] theorem Ab2:Bn Tryz.prog 75=some (Value.agg #[Value.int IntKind.i64 0,Value.int IntKind.i64 0,Value.int IntKind.i64 0,Value.int IntKind.i64 0,Value.int IntKind.i64 0,Value.int IntKind.i64 0,Value.int IntKind.u64 0]):=by kernel_rfl
@[simp] theorem mZ:Aj Tryz.prog 43 0=some 0:=by kernel_rfl
@[simp] theorem pS:Aj Tryz.prog 43 1=some 1:=by kernel_rfl
@[simp] theorem pZ:Aj Tryz.prog 43 2=some 2:=by kernel_rfl
@[simp] theorem pD:Aj Tryz.prog 43 3=some 3:=by kernel_rfl
@[simp] theorem oo:Aj Tryz.prog 53 0=some 0:=by kernel_rfl
@[simp] theorem pO:Aj Tryz.prog 53 1=some 1:=by kernel_rfl
@[simp] theorem pc:Aj Tryz.prog 53 2=some 2:=by kernel_rfl
@[simp] theorem pJ:Aj Tryz.prog 53 3=some 3:=by kernel_rfl
@[simp] theorem qX:Aj Tryz.prog 53 4=some 4:=by kernel_rfl
@[simp] theorem ot:Aj Tryz.prog 53 5=some 5:=by kernel_rfl
@[simp] theorem o0:Aj Tryz.prog 53 6=some 6:=by kernel_rfl
@[simp] theorem rf:Aj Tryz.prog 53 7=some 7:=by kernel_rfl
@[simp] theorem pn:Aj Tryz.prog 75 0=some 0:=by kernel_rfl
@[simp] theorem mI:Aj Tryz.prog 75 1=some 1:=by kernel_rfl
@[simp] theorem oQ:Aj Tryz.prog 75 2=some 2:=by kernel_rfl
@[simp] theorem qD:Aj Tryz.prog 75 3=some 3:=by kernel_rfl
@[simp] theorem m5:Aj Tryz.prog 75 4=some 4:=by kernel_rfl
@[simp] theorem qS:Aj Tryz.prog 75 5=some 5:=by kernel_rfl
@[simp] theorem qa:Aj Tryz.prog 75 6=some 6:=by kernel_rfl
@[simp] theorem yP (ps:List (Nat × A)):Bs Tryz.prog 43 ps=(BW (fun i=>([(0,1),(1,1),(2,1),(3,1)]:List (Nat × Nat))[i]?) [iv 0,iv 0,iv 0,iv 0] ps).map A.agg:=by kernel_rfl
@[simp] theorem yO (ps:List (Nat × A)):Bs Tryz.prog 53 ps=(BW (fun i=>([(0,1),(1,1),(2,1),(3,1),(4,1),(5,1),(6,1),(7,1)]:List (Nat × Nat))[i]?) [A.v (Value.pointer none),iv 0,iv 0,iv 0,iv 0,iv 0,iv 0,A.v (Value.int IntKind.u64 0)] ps).map A.agg:=by kernel_rfl
@[simp] theorem Aaw (ps:List (Nat × A)):Bs Tryz.prog 75 ps=(BW (fun i=>([(0,1),(1,1),(2,1),(3,1),(4,1),(5,1),(6,1)]:List (Nat × Nat))[i]?) [iv 0,iv 0,iv 0,iv 0,iv 0,iv 0,A.v (Value.int IntKind.u64 0)] ps).map A.agg:=by kernel_rfl
def Kr:CC:=sR [oN 1 (.box 53 (xT 0)) [0],oO 2 (.assign (nI 0))] [1] (sR [fO 3 53 1 1,lO 4 3 3,aO 2 4] [2] (.ret))
theorem QS:Bh Tryz.prog 95 5 [(.tmp 2)] Kr:=Au Tryz.func95
def JK:CC:=sR [oN 1 (.box 53 (xT 0)) [0],oO 2 (.assign (nI 0))] [1] (.seq (sR [fO 3 53 1 1,lO 4 3 3] [1,4] (.block 0 (sR [oO 6 (.binOp .eql 3 (xT 4) (nI 1) 3),aO 5 6] [1,4,5] (cD 5 (sR [fO 7 53 1 4,lO 8 3 7,aO 2 8] [2] (.ret)) (sR [oO 10 (.binOp .eql 3 (xT 4) (nI 10) 3),aO 9 10] [9] (cD 9 (sR [oO 2 (.assign (nI 1))] [2] (.ret)) (.skip))))))) (.keep [] (sR [oO 2 (.assign (nI 0))] [2] (.ret))))
theorem Py:Bh Tryz.prog 192 11 [(.tmp 2)] JK:=Au Tryz.func192
def Kn:CC:=sR [oN 1 (.box 53 (xT 0)) [0],oO 2 (.assign (nI 0))] [1] (.seq (sR [fO 3 53 1 1,lO 4 3 3,oO 5 (.binOp .eql 3 (xT 4) (nI 1) 3)] [1,5] (cD 5 (sR [fO 6 53 1 5,lO 7 3 6,aO 2 7] [2] (.ret)) (.skip))) (.keep [1] (sR [fO 8 53 1 6,lO 9 3 8,aO 2 9] [2] (.ret))))
theorem Rt:Bh Tryz.prog 137 10 [(.tmp 2)] Kn:=Au Tryz.func137
def Kt:CC:=sR [oN 2 (.box 53 (xT 0)) [0],oO 4 (.assign (.const (.int .u64 0)))] [1,2] (.seq (sR [mO 7 1,oO 8 (.binOp .lss 3 (xT 7) (nI 0) 3),mO 9 8,oG 10 (mV 1) 9 false,oG 11 (lD 53 2) 9 false,oG 12 (cL 192 #[(xT 11)] #[53]) 9 false,oG 13 (bO .geq 3 10 12 3) 9 false,oO 14 (.pick (xT 9) (nB true) (xT 13))] [1,2,14] (cD 14 (sR [oO 4 (.assign (.const (.int .u64 0)))] [4] (.ret)) (.skip))) (.keep [1,2] (.seq (sR [fO 15 53 2 1,lO 16 3 15,oO 17 (.binOp .eql 3 (xT 16) (nI 10) 3)] [1,2,17] (cD 17 (sR [fO 18 53 2 7,lO 19 51 18,aO 4 19] [4] (.ret)) (.skip))) (.keep [1,2] (sR [fO 21 53 2 0,lO 22 50 21,fO 23 53 2 2,lO 24 3 23,fO 25 53 2 3,lO 26 3 25,mO 27 1,oO 28 (bO .add 3 26 27 3),oO 29 (cL 198 #[(xT 22),(xT 24),(xT 28)] #[50,3,3]),mO 20 29,xO 30 20 0,xO 31 20 1,aO 5 30,aO 6 31] [5] (sR [mO 32 5,aO 4 32] [4] (.ret)))))))
theorem Qq:Bh Tryz.prog 150 33 [(.tmp 4)] Kt:=Au Tryz.func150
def KM:CC:=sR [oN 2 (.box 53 (xT 0)) [0],oO 4 (.assign (.const (.int .u64 0)))] [1,2] (sR [fO 11 53 2 1,lO 12 3 11,oO 13 (.binOp .sub 3 (xT 12) (nI 2) 3),aO 5 13] [1,2,5] (sR [mO 15 5,oO 16 (cL 254 #[(xT 15)] #[3]),mO 14 16,xO 17 14 0,xO 18 14 1,aO 6 17,aO 7 18] [1,2,5,6] (.seq (sR [mO 19 6,oO 20 (.binOp .eql 3 (xT 19) (nI 0) 3)] [1,2,5,6,20] (cD 20 (sR [oO 4 (.assign (.const (.int .u64 0)))] [4] (.ret)) (.skip))) (.keep [1,2,5,6] (sR [mO 21 6,oO 22 (.binOp .quo 3 (nI 64) (xT 21) 3),aO 8 22] [1,2,5,8] (sR [fO 24 53 2 0,lO 25 50 24,fO 26 53 2 2,lO 27 3 26,fO 28 53 2 3,lO 29 3 28,mO 30 1,mO 31 8,oO 32 (bO .quo 3 30 31 3),oO 33 (bO .add 3 29 32 3),oO 34 (cL 198 #[(xT 25),(xT 27),(xT 33)] #[50,3,3]),mO 23 34,xO 35 23 0,xO 36 23 1,aO 9 35,aO 10 36] [1,5,8,9] (sR [mO 37 9,oO 38 (.buildSlice 22 1 #[(0,(xT 37))]),mO 39 5,mO 40 1,mO 41 8,oO 42 (bO .rem 3 40 41 3),oO 43 (cL 255 #[(xT 38),(xT 39),(xT 42)] #[22,3,3]),aO 4 43] [4] (.ret))))))))
theorem Rz:Bh Tryz.prog 231 44 [(.tmp 4)] KM:=Au Tryz.func231
def S9:CC:=sR [oN 6 (.alloc 53) [0],oO 7 (.assign (nI 0))] [0,1,2,6] (sR [mO 12 0,mO 13 1,mO 14 2,oO 15 (cL 157 #[(xT 12),(xT 13),(xT 14)] #[50,3,3]),mO 11 15,xO 16 11 0,xO 17 11 1,oN 8 (.alloc 198) [1],oS (.store 198 (xT 8) (xT 16)),aO 9 17] [0,6,8,9] (.seq (sR [mO 18 9,oO 19 (.binOp .neq 47 (xT 18) (nI 0) 47),mO 20 19,oG 21 (fA 198 8 0) 20 false,oG 22 (fA 175 21 0) 20 false,oG 23 (lD 3 22) 20 false,oG 24 (.binOp .eql 3 (xT 23) (nI 0) 3) 20 false,oO 25 (.pick (xT 20) (nB true) (xT 24))] [0,6,8,9,25] (cD 25 (sR [oO 26 (.build 53 #[]),mO 27 9,oS (.store 53 (xT 6) (xT 26)),aO 7 27] [6,7] (.ret)) (.skip))) (.keep [0,6,8] (sR [mO 28 0,fO 29 198 8 1,lO 30 3 29,fO 31 198 8 2,lO 32 3 31,oO 33 (.build 53 #[(0,(xT 28)),(2,(xT 30)),(3,(xT 32))]),oN 10 (.alloc 53) [2],oS (.store 53 (xT 10) (xT 33))] [6,8,10] (.seq (.block 0 (sR [fO 42 198 8 0,fO 43 175 42 0,lO 44 3 43,oO 45 (.binOp .eql 3 (xT 44) (nI 1) 3),aO 41 45] [6,8,10,41] (cD 41 (.reg [fO 46 198 8 0,fO 47 175 46 2,⟨some 48,(lD 3 47),none,[],2,[],true⟩,fO 49 198 8 0,fO 50 175 49 3,⟨some 51,(lD 3 50),none,[],5,[],true⟩,fO 52 53 10 1,⟨none,(.store 3 (xT 52) (nI 1)),none,[],7,[2,5],false⟩,fO 53 53 10 4,⟨none,(.store 3 (xT 53) (xT 48)),none,[],9,[5],false⟩,fO 54 53 10 5,oS (.store 3 (xT 54) (xT 51))] [6,10]) (sR [fO 56 198 8 0,fO 57 175 56 4,lO 58 3 57,oO 59 (.binOp .lss 3 (xT 58) (nI 6) 3),aO 55 59] [6,8,10,55] (cD 55 (.reg [fO 60 198 8 0,fO 61 175 60 4,lO 62 3 61,oO 63 (.binOp .add 3 (nI 2) (xT 62) 3),fO 64 198 8 0,fO 65 175 64 5,⟨some 66,(lD 3 65),none,[],6,[],true⟩,fO 67 53 10 1,⟨none,(.store 3 (xT 67) (xT 63)),none,[],8,[6],false⟩,fO 68 53 10 6,oS (.store 3 (xT 68) (xT 66))] [6,10]) (sR [fO 70 198 8 0,fO 71 175 70 4,lO 72 3 71,oO 73 (.binOp .eql 3 (xT 72) (nI 6) 3),aO 69 73] [6,8,10,69] (cD 69 (.reg [fO 74 198 8 0,fO 75 175 74 5,⟨some 76,(lD 3 75),none,[],2,[],true⟩,fO 77 53 10 1,⟨none,(.store 3 (xT 77) (nI 8)),none,[],4,[2],false⟩,fO 78 53 10 6,oS (.store 3 (xT 78) (xT 76))] [6,10]) (sR [lO 34 53 10,fO 35 198 8 0,fO 36 175 35 5,lO 37 3 36,oO 38 (cL 158 #[(xT 34),(xT 37)] #[53,3]),xO 39 38 0,xO 40 38 1,oS (.store 53 (xT 6) (xT 39)),aO 7 40] [6,7] (.ret))))))))) (.keep [6,10] (sR [lO 79 53 10,oS (.store 53 (xT 6) (xT 79)),oO 7 (.assign (nI 0))] [6,7] (.ret))))))))
theorem bm:Bh Tryz.prog 99 80 [(.cell 6 53),(.tmp 7)] S9:=Au Tryz.func99
def Pe:CC:=sR [oN 2 (.alloc 53) [0],oO 3 (.assign (nI 0))] [0,2] (sR [mO 4 0,oO 5 (cL 99 #[(xT 4),(nI 0),(nI 0)] #[50,3,3]),xO 6 5 0,xO 7 5 1,oS (.store 53 (xT 2) (xT 6)),aO 3 7] [2,3] (.ret))
theorem Wg:Bh Tryz.prog 49 8 [(.cell 2 53),(.tmp 3)] Pe:=Au Tryz.func49
def GL:CC:=sR [oN 2 (.box 53 (xT 0)) [0],oN 4 (.alloc 53) [1],oO 5 (.assign (nI 0))] [1,2,4] (sR [fO 10 53 2 0,lO 11 50 10,fO 12 53 2 2,lO 13 3 12,fO 14 53 2 3,lO 15 3 14,oO 16 (cL 198 #[(xT 11),(xT 13),(xT 15)] #[50,3,3]),mO 9 16,xO 17 9 0,xO 18 9 1,aO 6 17,aO 7 18] [1,2,4,6] (sR [mO 19 6,oO 20 (cL 204 #[(xT 19)] #[51]),oN 8 (.alloc 175) [2],oS (.store 175 (xT 8) (xT 20))] [1,2,4,6,8] (.seq (sR [mO 21 6,oO 22 (.binOp .neq 51 (xT 21) (.const (.int .u64 0)) 51),mO 23 22,oG 24 (fA 175 8 0) 23 true,oG 25 (lD 3 24) 23 true,oG 26 (.binOp .neq 3 (xT 25) (nI 1) 3) 23 true,oO 27 (.pick (xT 23) (xT 26) (nB false)),mO 28 27,oG 29 (fA 175 8 1) 28 false,oG 30 (lD 3 29) 28 false,oG 31 (.binOp .lss 3 (xT 30) (nI 0) 3) 28 false,oO 32 (.pick (xT 28) (nB true) (xT 31)),mO 33 32,oG 34 (fA 175 8 1) 33 false,oG 35 (lD 3 34) 33 false,oG 36 (fA 175 8 2) 33 false,oG 37 (lD 3 36) 33 false,oG 38 (fA 175 8 3) 33 false,oG 39 (lD 3 38) 33 false,oG 40 (bO .add 3 37 39 3) 33 false,oG 41 (bO .mul 3 35 40 3) 33 false,oG 42 (mV 1) 33 false,oG 43 (bO .gtr 3 41 42 3) 33 false,oO 44 (.pick (xT 33) (nB true) (xT 43))] [2,4,8,44] (cD 44 (sR [oO 45 (.build 53 #[]),oS (.store 53 (xT 4) (xT 45)),oO 5 (.assign (nI 8))] [4,5] (.ret)) (.skip))) (.keep [2,4,8] (sR [fO 46 53 2 3,lO 47 3 46,oO 48 (.binOp .add 3 (xT 47) (nI 1) 3),fO 49 53 2 1,oS (.store 3 (xT 49) (nI 9)),fO 50 53 2 3,oS (.store 3 (xT 50) (xT 48))] [2,4,8] (sR [fO 51 175 8 1,lO 52 3 51,fO 53 175 8 2,⟨some 54,(lD 3 53),none,[],3,[],true⟩,fO 55 175 8 3,⟨some 56,(lD 3 55),none,[],5,[],true⟩,fO 57 53 2 6,⟨none,(.store 3 (xT 57) (xT 52)),none,[],7,[3,5],false⟩,fO 58 53 2 4,⟨none,(.store 3 (xT 58) (xT 54)),none,[],9,[5],false⟩,fO 59 53 2 5,oS (.store 3 (xT 59) (xT 56))] [2,4] (sR [lO 60 53 2,oS (.store 53 (xT 4) (xT 60)),oO 5 (.assign (nI 0))] [4,5] (.ret))))))))
theorem Ml:Bh Tryz.prog 158 61 [(.cell 4 53),(.tmp 5)] GL:=Au Tryz.func158
def Lb:CC:=sR [oN 2 (.box 53 (xT 0)) [0],oN 4 (.alloc 53) [1],oO 5 (.assign (nI 0))] [1,2,4] (.seq (sR [mO 6 1,oO 7 (.binOp .lss 3 (xT 6) (nI 0) 3),mO 8 7,oG 9 (mV 1) 8 false,oG 10 (lD 53 2) 8 false,oG 11 (cL 137 #[(xT 10)] #[53]) 8 false,oG 12 (bO .geq 3 9 11 3) 8 false,oO 13 (.pick (xT 8) (nB true) (xT 12))] [1,2,4,13] (cD 13 (sR [oO 14 (.build 53 #[]),oS (.store 53 (xT 4) (xT 14)),oO 5 (.assign (nI 0))] [4,5] (.ret)) (.skip))) (.keep [1,2,4] (.seq (sR [fO 15 53 2 1,lO 16 3 15] [1,2,4,16] (.block 0 (sR [oO 18 (.binOp .eql 3 (xT 16) (nI 1) 3),aO 17 18] [1,2,4,16,17] (cD 17 (sR [fO 19 53 2 0,lO 20 50 19,fO 21 53 2 2,lO 22 3 21,fO 23 53 2 3,lO 24 3 23,fO 25 53 2 4,lO 26 3 25,oO 27 (bO .add 3 24 26 3),mO 28 1,oO 29 (bO .add 3 27 28 3),oO 30 (cL 99 #[(xT 20),(xT 22),(xT 29)] #[50,3,3]),xO 31 30 0,xO 32 30 1,oS (.store 53 (xT 4) (xT 31)),aO 5 32] [4,5] (.ret)) (sR [oO 34 (.binOp .eql 3 (xT 16) (nI 8) 3),aO 33 34] [1,2,4,16,33] (cD 33 (sR [fO 35 53 2 0,lO 36 50 35,fO 37 53 2 2,lO 38 3 37,fO 39 53 2 3,lO 40 3 39,mO 41 1,oO 42 (bO .add 3 40 41 3),oO 43 (cL 99 #[(xT 36),(xT 38),(xT 42)] #[50,3,3]),xO 44 43 0,xO 45 43 1,oS (.store 53 (xT 4) (xT 44)),aO 5 45] [4,5] (.ret)) (sR [oO 47 (.binOp .eql 3 (xT 16) (nI 9) 3),aO 46 47] [1,2,4,46] (cD 46 (sR [fO 48 53 2 0,lO 49 50 48,fO 50 53 2 2,lO 51 3 50,fO 52 53 2 3,lO 53 3 52,mO 54 1,fO 55 53 2 4,lO 56 3 55,fO 57 53 2 5,lO 58 3 57,oO 59 (bO .add 3 56 58 3),oO 60 (bO .mul 3 54 59 3),oO 61 (bO .add 3 53 60 3),fO 62 53 2 4,lO 63 3 62,fO 64 53 2 5,lO 65 3 64,oO 66 (.build 53 #[(0,(xT 49)),(1,(nI 1)),(2,(xT 51)),(3,(xT 61)),(4,(xT 63)),(5,(xT 65))]),oS (.store 53 (xT 4) (xT 66)),oO 5 (.assign (nI 0))] [4,5] (.ret)) (.skip))))))))) (.keep [1,2,4] (sR [fO 67 53 2 0,⟨some 68,(lD 50 67),none,[],1,[],true⟩,lO 69 53 2,mO 70 1,⟨some 71,(cL 231 #[(xT 69),(xT 70)] #[53,3]),none,[],4,[1],false⟩,oO 72 (.build 53 #[(0,(xT 68)),(1,(nI 10)),(7,(xT 71))]),oS (.store 53 (xT 4) (xT 72)),oO 5 (.assign (nI 0))] [4,5] (.ret))))))
theorem RX:Bh Tryz.prog 194 73 [(.cell 4 53),(.tmp 5)] Lb:=Au Tryz.func194
def Jp:CC:=.seq (sR [mO 6 3,oO 7 (.binOp .gtr 3 (xT 6) (nI 0) 3),mO 8 7,oG 9 (lD 53 1) 8 true,oG 10 (mV 3) 8 true,oG 11 (.binOp .sub 3 (xT 10) (nI 1) 3) 8 true,oG 12 (cL 150 #[(xT 9),(xT 11)] #[53,3]) 8 true,oG 13 (.binOp .eql 51 (xT 12) (.const (.int .u64 0)) 51) 8 true,oO 14 (.pick (xT 8) (xT 13) (nB false))] [1,3,14] (cD 14 (.skip) (.exit 0))) (.keep [1,3] (.block 1 (.reg [mO 15 3,oO 16 (.binOp .sub 3 (xT 15) (nI 1) 3),aO 3 16] [1,3]))) 
def S7:CC:=sR [oN 1 (.box 53 (xT 0)) [0],oO 2 (.assign (nI 0))] [1] (sR [lO 4 53 1,oO 5 (cL 192 #[(xT 4)] #[53]),aO 3 5] [1,3] (.seq (.block 0 (.loop Jp)) (.keep [3] (sR [mO 17 3,aO 2 17] [2] (.ret)))))
theorem bE:Bh Tryz.prog 149 18 [(.tmp 2)] S7:=Au Tryz.func149
def Jl:CC:=.seq (sR [mO 9 4,oO 10 (.binOp .gtr 3 (xT 9) (nI 0) 3)] [1,4,10] (cD 10 (.skip) (.exit 0))) (.keep [1,4] (.block 1 (sR [lO 12 53 1,mO 13 4,oO 14 (.binOp .sub 3 (xT 13) (nI 1) 3),oO 15 (cL 194 #[(xT 12),(xT 14)] #[53,3]),mO 11 15,xO 16 11 0,xO 17 11 1,oN 5 (.alloc 53) [1],oS (.store 53 (xT 5) (xT 16)),aO 6 17] [1,4,5,6] (.seq (sR [mO 18 6,oO 19 (.binOp .neq 47 (xT 18) (nI 0) 47),mO 20 19,oG 21 (lD 53 5) 20 false,oG 22 (cL 95 #[(xT 21)] #[53]) 20 false,oG 23 (.binOp .neq 3 (xT 22) (nI 0) 3) 20 false,oO 24 (.pick (xT 20) (nB true) (xT 23))] [1,4,6,24] (cD 24 (sR [mO 25 4,mO 26 6,aO 2 25,aO 3 26] [2,3] (.ret)) (.skip))) (.keep [1,4] (.reg [mO 27 4,oO 28 (.binOp .sub 3 (xT 27) (nI 1) 3),aO 4 28] [1,4])))))) 
def Th:CC:=sR [oN 1 (.box 53 (xT 0)) [0],oO 2 (.assign (nI 0)),oO 3 (.assign (nI 0))] [1] (sR [lO 7 53 1,oO 8 (cL 137 #[(xT 7)] #[53]),aO 4 8] [1,4] (.seq (.block 0 (.loop Jl)) (.keep [] (sR [oO 2 (.assign (nI 0)),oO 3 (.assign (nI 0))] [2,3] (.ret)))))
theorem ZJ:Bh Tryz.prog 199 29 [(.tmp 2),(.tmp 3)] Th:=Au Tryz.func199
def QB:CC:=sR [oN 1 (.box 53 (xT 0)) [0],oO 2 (.assign (nI 0)),oO 3 (.assign (nI 0))] [1] (.seq (sR [lO 4 53 1,oO 5 (cL 95 #[(xT 4)] #[53]),oO 6 (.binOp .eql 3 (xT 5) (nI 1) 3)] [1,6] (cD 6 (sR [lO 7 53 1,oO 8 (cL 199 #[(xT 7)] #[53]),xO 9 8 0,xO 10 8 1,aO 2 9,aO 3 10] [2,3] (.ret)) (.skip))) (.keep [1] (sR [lO 11 53 1,oO 12 (cL 137 #[(xT 11)] #[53]),aO 2 12,oO 3 (.assign (nI 0))] [2,3] (.ret))))
theorem X2:Bh Tryz.prog 233 13 [(.tmp 2),(.tmp 3)] QB:=Au Tryz.func233
def Pb:CC:=sR [oN 1 (.box 53 (xT 0)) [0],oO 2 (.assign (nI 0))] [1] (.seq (sR [lO 3 53 1,oO 4 (cL 95 #[(xT 3)] #[53]),oO 5 (.binOp .eql 3 (xT 4) (nI 1) 3)] [1,5] (cD 5 (sR [lO 6 53 1,oO 7 (cL 149 #[(xT 6)] #[53]),aO 2 7] [2] (.ret)) (.skip))) (.keep [1] (sR [lO 8 53 1,oO 9 (cL 192 #[(xT 8)] #[53]),aO 2 9] [2] (.ret))))
theorem Wn:Bh Tryz.prog 232 10 [(.tmp 2)] Pb:=Au Tryz.func232
def GP:CC:=sR [oO 48 (bO .lss 3 47 46 3)] [2,3,7,10,46,47,48] (.seq (cD 48 (.skip) (.exit 0)) (.keep [2,3,7,10,46,47] (.seq (.block 1 (sR [mO 49 47,aO 11 49] [2,3,7,10,11,46,47] (sR [mO 50 10,lO 51 53 2,mO 52 11,⟨some 53,(.call { callee:=(.value (xT 50)),args:=#[(xT 51),(xT 52)],argTypes:=#[53,3] }),none,[],3,[],true⟩,mO 54 10,⟨some 55,(lD 53 3),none,[],5,[3],false⟩,mO 56 11,oO 57 (.call { callee:=(.value (xT 54)),args:=#[(xT 55),(xT 56)],argTypes:=#[53,3] }),oO 58 (bO .neq 51 53 57 51)] [2,3,7,10,46,47,58] (cD 58 (sR [oO 4 (.assign (nI 0)),oO 5 (.assign (nB false)),oO 6 (.assign (nI 0))] [4,5,6] (.ret)) (.skip))))) (.keep [2,3,7,10,46,47] (.reg [oO 59 (.binOp .add 3 (xT 47) (nI 1) 3),mO 47 59] [2,3,7,10,46,47]))))) 
def OW:CC:=sR [oN 2 (.box 53 (xT 0)) [0],oN 3 (.box 53 (xT 1)) [1],oO 4 (.assign (nI 0)),oO 5 (.assign (nB false)),oO 6 (.assign (nI 0))] [2,3] (.seq (sR [lO 12 53 2,⟨some 13,(cL 95 #[(xT 12)] #[53]),none,[],1,[],true⟩,⟨some 14,(lD 53 3),none,[],2,[1],false⟩,oO 15 (cL 95 #[(xT 14)] #[53]),oO 16 (bO .neq 3 13 15 3),mO 17 16,oG 18 (lD 53 2) 17 false,⟨some 19,(cL 232 #[(xT 18)] #[53]),(some (17,false)),[],7,[],true⟩,⟨some 20,(lD 53 3),(some (17,false)),[],8,[7],false⟩,oG 21 (cL 232 #[(xT 20)] #[53]) 17 false,oG 22 (bO .neq 3 19 21 3) 17 false,oO 23 (.pick (xT 17) (nB true) (xT 22))] [2,3,23] (cD 23 (sR [oO 4 (.assign (nI 0)),oO 5 (.assign (nB false)),oO 6 (.assign (nI 0))] [4,5,6] (.ret)) (.skip))) (.keep [2,3] (sR [lO 25 53 2,oO 26 (cL 233 #[(xT 25)] #[53]),mO 24 26,xO 27 24 0,xO 28 24 1,aO 7 27,aO 8 28] [2,3,7,8] (.seq (sR [mO 29 8,oO 30 (.binOp .neq 47 (xT 29) (nI 0) 47)] [2,3,7,8,30] (cD 30 (sR [mO 31 8,oO 4 (.assign (nI 0)),oO 5 (.assign (nB false)),aO 6 31] [4,5,6] (.ret)) (.skip))) (.keep [2,3,7] (sR [lO 33 53 3,oO 34 (cL 233 #[(xT 33)] #[53]),mO 32 34,xO 35 32 0,xO 36 32 1,aO 9 35,aO 8 36] [2,3,7,8,9] (.seq (sR [mO 37 8,oO 38 (.binOp .neq 47 (xT 37) (nI 0) 47),mO 39 38,oG 40 (mV 7) 39 false,oG 41 (mV 9) 39 false,oG 42 (bO .neq 3 40 41 3) 39 false,oO 43 (.pick (xT 39) (nB true) (xT 42))] [2,3,7,8,43] (cD 43 (sR [mO 44 8,oO 4 (.assign (nI 0)),oO 5 (.assign (nB false)),aO 6 44] [4,5,6] (.ret)) (.skip))) (.keep [2,3,7] (sR [oO 10 (.assign (.func 150))] [2,3,7,10] (.seq (sR [lO 45 53 2,oO 46 (cL 232 #[(xT 45)] #[53]),oO 47 (.move (nI 0))] [2,3,7,10,46,47] (.block 0 (.loop GP))) (.keep [7] (sR [mO 60 7,aO 4 60,oO 5 (.assign (nB true)),oO 6 (.assign (nI 0))] [4,5,6] (.ret)))))))))))))
theorem Wq:Bh Tryz.prog 197 61 [(.tmp 4),(.tmp 5),(.tmp 6)] OW:=Au Tryz.func197
def Gc:CC:=sR [oO 31 (bO .lss 3 30 29 3)] [2,3,29,30,31] (.seq (cD 31 (.skip) (.exit 0)) (.keep [2,3,29,30] (.seq (.block 1 (sR [mO 32 30,aO 9 32] [2,3,9,29,30] (sR [lO 34 53 2,mO 35 9,oO 36 (cL 194 #[(xT 34),(xT 35)] #[53,3]),mO 33 36,xO 37 33 0,xO 38 33 1,oN 10 (.alloc 53) [2],oS (.store 53 (xT 10) (xT 37)),aO 11 38] [2,3,9,10,11,29,30] (.seq (sR [mO 39 11,oO 40 (.binOp .neq 47 (xT 39) (nI 0) 47)] [2,3,9,10,11,29,30,40] (cD 40 (sR [mO 41 11,oO 4 (.assign (nB false)),aO 5 41] [4,5] (.ret)) (.skip))) (.keep [2,3,9,10,29,30] (sR [lO 43 53 3,mO 44 9,oO 45 (cL 194 #[(xT 43),(xT 44)] #[53,3]),mO 42 45,xO 46 42 0,xO 47 42 1,oN 12 (.alloc 53) [3],oS (.store 53 (xT 12) (xT 46)),aO 11 47] [2,3,10,11,12,29,30] (.seq (sR [mO 48 11,oO 49 (.binOp .neq 47 (xT 48) (nI 0) 47)] [2,3,10,11,12,29,30,49] (cD 49 (sR [mO 50 11,oO 4 (.assign (nB false)),aO 5 50] [4,5] (.ret)) (.skip))) (.keep [2,3,10,12,29,30] (sR [lO 52 53 10,lO 53 53 12,oO 54 (cL 147 #[(xT 52),(xT 53)] #[53,53]),mO 51 54,xO 55 51 0,xO 56 51 1,aO 13 55,aO 14 56] [2,3,13,14,29,30] (sR [mO 57 14,oO 58 (.binOp .neq 47 (xT 57) (nI 0) 47),mO 59 58,oG 60 (mV 13) 59 false,oG 61 (.unOp .not 4 (xT 60)) 59 false,oO 62 (.pick (xT 59) (nB true) (xT 61))] [2,3,14,29,30,62] (cD 62 (sR [mO 63 14,oO 4 (.assign (nB false)),aO 5 63] [4,5] (.ret)) (.skip)))))))))))) (.keep [2,3,29,30] (.reg [oO 64 (.binOp .add 3 (xT 30) (nI 1) 3),mO 30 64] [2,3,29,30]))))) 
def ND:CC:=sR [oN 2 (.box 53 (xT 0)) [0],oN 3 (.box 53 (xT 1)) [1],oO 4 (.assign (nB false)),oO 5 (.assign (nI 0))] [2,3] (sR [lO 16 53 2,lO 17 53 3,oO 18 (cL 197 #[(xT 16),(xT 17)] #[53,53]),mO 15 18,xO 19 15 0,xO 20 15 1,xO 21 15 2,aO 6 19,aO 7 20,aO 8 21] [2,3,6,7,8] (.seq (sR [mO 22 8,oO 23 (.binOp .neq 47 (xT 22) (nI 0) 47),mO 24 23,oG 25 (mV 7) 24 false,oG 26 (.unOp .not 4 (xT 25)) 24 false,oO 27 (.pick (xT 24) (nB true) (xT 26))] [2,3,6,8,27] (cD 27 (sR [mO 28 8,oO 4 (.assign (nB false)),aO 5 28] [4,5] (.ret)) (.skip))) (.keep [2,3,6] (.seq (sR [mO 29 6,oO 30 (.move (nI 0))] [2,3,29,30] (.block 0 (.loop Gc))) (.keep [] (sR [oO 4 (.assign (nB true)),oO 5 (.assign (nI 0))] [4,5] (.ret)))))))
theorem U5:Bh Tryz.prog 147 65 [(.tmp 4),(.tmp 5)] ND:=Au Tryz.func147
def Mv:CC:=sR [oN 6 (.alloc 75) [0],oO 7 (.assign (nI 0))] [0,1,2,6] (sR [mO 13 0,mO 14 1,mO 15 2,oO 16 (cL 88 #[(xT 13),(xT 14),(xT 15)] #[41,3,3]),mO 12 16,xO 17 12 0,xO 18 12 1,oN 8 (.alloc 137) [1],oS (.store 137 (xT 8) (xT 17)),aO 9 18] [0,6,8,9] (.seq (sR [mO 19 9,oO 20 (.binOp .neq 3 (xT 19) (nI 0) 3),mO 21 20,oG 22 (fA 137 8 0) 21 false,oG 23 (fA 135 22 0) 21 false,oG 24 (lD 3 23) 21 false,oG 25 (.binOp .eql 3 (xT 24) (nI 0) 3) 21 false,oO 26 (.pick (xT 21) (nB true) (xT 25))] [0,6,8,9,26] (cD 26 (sR [oO 27 (.build 75 #[]),mO 28 9,oS (.store 75 (xT 6) (xT 27)),aO 7 28] [6,7] (.ret)) (.skip))) (.keep [0,6,8] (.seq (sR [fO 29 137 8 0,fO 30 135 29 0,lO 31 3 30,oO 32 (.binOp .eql 3 (xT 31) (nI 1) 3)] [0,6,8,32] (cD 32 (sR [fO 33 137 8 1,lO 34 3 33,fO 35 137 8 2,lO 36 3 35,fO 37 137 8 0,fO 38 135 37 2,lO 39 3 38,fO 40 137 8 0,fO 41 135 40 3,lO 42 3 41,oO 43 (.build 75 #[(0,(nI 1)),(1,(xT 34)),(2,(xT 36)),(3,(xT 39)),(4,(xT 42))]),oS (.store 75 (xT 6) (xT 43)),oO 7 (.assign (nI 0))] [6,7] (.ret)) (.skip))) (.keep [0,6,8] (.seq (sR [fO 44 137 8 0,fO 45 135 44 4,lO 46 3 45,oO 47 (.binOp .lss 3 (xT 46) (nI 7) 3)] [0,6,8,47] (cD 47 (sR [fO 48 137 8 0,fO 49 135 48 4,lO 50 3 49,oO 51 (.binOp .add 3 (nI 2) (xT 50) 3),fO 52 137 8 1,lO 53 3 52,fO 54 137 8 2,lO 55 3 54,fO 56 137 8 0,fO 57 135 56 5,lO 58 3 57,oO 59 (.build 75 #[(0,(xT 51)),(1,(xT 53)),(2,(xT 55)),(5,(xT 58))]),oS (.store 75 (xT 6) (xT 59)),oO 7 (.assign (nI 0))] [6,7] (.ret)) (.skip))) (.keep [0,6,8] (sR [mO 60 0,fO 61 137 8 1,lO 62 3 61,oO 63 (iA 41 60 62),lO 64 22 63,fO 65 137 8 2,lO 66 3 65,oO 67 (iA 22 64 66),lO 68 51 67,aO 10 68] [6,8,10] (sR [mO 69 10,oO 70 (cL 89 #[(xT 69)] #[51]),oN 11 (.alloc 135) [2],oS (.store 135 (xT 11) (xT 70))] [6,8,10,11] (.seq (sR [mO 71 10,oO 72 (.binOp .neq 51 (xT 71) (.const (.int .u64 0)) 51),mO 73 72,oG 74 (fA 135 11 0) 73 true,oG 75 (lD 3 74) 73 true,oG 76 (.binOp .neq 3 (xT 75) (nI 1) 3) 73 true,oO 77 (.pick (xT 73) (xT 76) (nB false)),mO 78 77,oG 79 (fA 135 11 1) 78 false,oG 80 (lD 3 79) 78 false,oG 81 (.binOp .lss 3 (xT 80) (nI 0) 3) 78 false,oO 82 (.pick (xT 78) (nB true) (xT 81)),mO 83 82,oG 84 (fA 135 11 1) 83 false,oG 85 (lD 3 84) 83 false,oG 86 (fA 135 11 2) 83 false,oG 87 (lD 3 86) 83 false,oG 88 (fA 135 11 3) 83 false,oG 89 (lD 3 88) 83 false,oG 90 (bO .add 3 87 89 3) 83 false,oG 91 (bO .mul 3 85 90 3) 83 false,oG 92 (fA 137 8 0) 83 false,oG 93 (fA 135 92 5) 83 false,oG 94 (lD 3 93) 83 false,oG 95 (bO .gtr 3 91 94 3) 83 false,oO 96 (.pick (xT 83) (nB true) (xT 95))] [6,8,11,96] (cD 96 (sR [oO 97 (.build 75 #[]),oS (.store 75 (xT 6) (xT 97)),oO 7 (.assign (nI 8))] [6,7] (.ret)) (.skip))) (.keep [6,8,11] (sR [fO 98 137 8 1,lO 99 3 98,fO 100 137 8 2,lO 101 3 100,oO 102 (.binOp .add 3 (xT 101) (nI 1) 3),fO 103 135 11 2,lO 104 3 103,fO 105 135 11 3,lO 106 3 105,fO 107 135 11 1,lO 108 3 107,oO 109 (.build 75 #[(0,(nI 9)),(1,(xT 99)),(2,(xT 102)),(3,(xT 104)),(4,(xT 106)),(5,(xT 108))]),oS (.store 75 (xT 6) (xT 109)),oO 7 (.assign (nI 0))] [6,7] (.ret)))))))))))))
theorem TI:Bh Tryz.prog 46 110 [(.cell 6 75),(.tmp 7)] Mv:=Au Tryz.func46
def Hv:CC:=sR [oN 1 (.box 75 (xT 0)) [0],oO 2 (.assign (nI 0))] [1] (.seq (sR [fO 3 75 1 0,lO 4 3 3,oO 5 (.binOp .eql 3 (xT 4) (nI 1) 3)] [1,5] (cD 5 (sR [fO 6 75 1 4,lO 7 3 6,aO 2 7] [2] (.ret)) (.skip))) (.keep [1] (sR [fO 8 75 1 5,lO 9 3 8,aO 2 9] [2] (.ret))))
theorem MQ:Bh Tryz.prog 91 10 [(.tmp 2)] Hv:=Au Tryz.func91
def GK:CC:=sR [oN 2 (.box 75 (xT 0)) [0],oO 4 (.assign nS)] [1,2] (.seq (sR [fO 6 75 2 0,lO 7 3 6,oO 8 (.binOp .eql 3 (xT 7) (nI 10) 3)] [1,2,8] (cD 8 (sR [fO 9 75 2 6,lO 10 51 9,oO 11 (.buildSlice 22 1 #[(0,(xT 10))]),aO 4 11] [4] (.ret)) (.skip))) (.keep [1,2] (.seq (sR [fO 12 75 2 0,lO 13 3 12,oO 14 (.binOp .neq 3 (xT 13) (nI 1) 3)] [1,2,14] (cD 14 (sR [oO 4 (.assign nS)] [4] (.ret)) (.skip))) (.keep [1,2] (sR [oO 5 (.assign nS)] [1,2,5] (sR [mO 15 5,mO 16 1,fO 17 75 2 1,lO 18 3 17,oO 19 (iA 41 16 18),lO 20 22 19,fO 21 75 2 2,lO 22 3 21,fO 23 75 2 2,lO 24 3 23,fO 25 75 2 3,lO 26 3 25,oO 27 (bO .add 3 24 26 3),oO 28 (.slice 22 (xT 20) (some (xT 22)) (some (xT 27)) none),oN 29 (bC .append #[(xT 15),(xT 28)] #[22,22]) [1],aO 4 29] [4] (.ret)))))))
theorem LU:Bh Tryz.prog 90 30 [(.tmp 4)] GK:=Au Tryz.func90
def Ij:CC:=sR [oN 3 (.box 75 (xT 0)) [0],oN 6 (.alloc 75) [1],oO 7 (.assign (nI 0))] [1,2,3,6] (.seq (sR [mO 8 2,oO 9 (.binOp .lss 3 (xT 8) (nI 0) 3),mO 10 9,oG 11 (mV 2) 10 false,oG 12 (lD 75 3) 10 false,oG 13 (cL 91 #[(xT 12)] #[75]) 10 false,oG 14 (bO .geq 3 11 13 3) 10 false,oO 15 (.pick (xT 10) (nB true) (xT 14))] [1,2,3,6,15] (cD 15 (sR [oO 16 (.build 75 #[]),oS (.store 75 (xT 6) (xT 16)),oO 7 (.assign (nI 0))] [6,7] (.ret)) (.skip))) (.keep [1,2,3,6] (.seq (sR [fO 17 75 3 0,lO 18 3 17,oO 19 (.binOp .eql 3 (xT 18) (nI 1) 3)] [1,2,3,6,19] (cD 19 (sR [mO 20 1,fO 21 75 3 1,lO 22 3 21,fO 23 75 3 2,lO 24 3 23,fO 25 75 3 3,lO 26 3 25,oO 27 (bO .add 3 24 26 3),mO 28 2,oO 29 (bO .add 3 27 28 3),oO 30 (cL 46 #[(xT 20),(xT 22),(xT 29)] #[41,3,3]),xO 31 30 0,xO 32 30 1,oS (.store 75 (xT 6) (xT 31)),aO 7 32] [6,7] (.ret)) (.skip))) (.keep [1,2,3,6] (.seq (sR [fO 33 75 3 0,lO 34 3 33,oO 35 (.binOp .eql 3 (xT 34) (nI 8) 3)] [1,2,3,6,35] (cD 35 (sR [mO 36 1,fO 37 75 3 1,lO 38 3 37,fO 39 75 3 2,lO 40 3 39,mO 41 2,oO 42 (bO .add 3 40 41 3),oO 43 (cL 46 #[(xT 36),(xT 38),(xT 42)] #[41,3,3]),xO 44 43 0,xO 45 43 1,oS (.store 75 (xT 6) (xT 44)),aO 7 45] [6,7] (.ret)) (.skip))) (.keep [1,2,3,6] (.seq (sR [fO 46 75 3 0,lO 47 3 46,oO 48 (.binOp .eql 3 (xT 47) (nI 9) 3)] [1,2,3,6,48] (cD 48 (sR [fO 49 75 3 1,lO 50 3 49,fO 51 75 3 2,lO 52 3 51,mO 53 2,fO 54 75 3 3,lO 55 3 54,fO 56 75 3 4,lO 57 3 56,oO 58 (bO .add 3 55 57 3),oO 59 (bO .mul 3 53 58 3),oO 60 (bO .add 3 52 59 3),fO 61 75 3 3,lO 62 3 61,fO 63 75 3 4,lO 64 3 63,oO 65 (.build 75 #[(0,(nI 1)),(1,(xT 50)),(2,(xT 60)),(3,(xT 62)),(4,(xT 64))]),oS (.store 75 (xT 6) (xT 65)),oO 7 (.assign (nI 0))] [6,7] (.ret)) (.skip))) (.keep [1,2,3,6] (sR [mO 66 1,fO 67 75 3 1,lO 68 3 67,oO 69 (iA 41 66 68),lO 70 22 69,fO 71 75 3 2,lO 72 3 71,oO 73 (.slice 22 (xT 70) (some (xT 72)) none none),fO 74 75 3 0,lO 75 3 74,oO 76 (.binOp .sub 3 (xT 75) (nI 2) 3),mO 77 2,oO 78 (cL 146 #[(xT 73),(xT 76),(xT 77)] #[22,3,3]),oO 79 (.build 75 #[(0,(nI 10)),(6,(xT 78))]),oS (.store 75 (xT 6) (xT 79)),oO 7 (.assign (nI 0))] [6,7] (.ret))))))))))
theorem Nh:Bh Tryz.prog 92 80 [(.cell 6 75),(.tmp 7)] Ij:=Au Tryz.func92
def IP:CC:=sR [oO 4 (.assign (nI 0))] [0,1] (.seq (sR [mO 5 0,oO 6 (.binOp .lss 3 (xT 5) (nI 0) 3)] [0,1,6] (cD 6 (sR [oO 4 (.assign (nI 0))] [4] (.ret)) (.skip))) (.keep [0,1] (.seq (sR [mO 7 0,mO 8 1,oO 9 (bO .gtr 3 7 8 3)] [0,1,9] (cD 9 (sR [mO 10 1,aO 4 10] [4] (.ret)) (.skip))) (.keep [0] (sR [mO 11 0,aO 4 11] [4] (.ret))))))
theorem OU:Bh Tryz.prog 87 12 [(.tmp 4)] IP:=Au Tryz.func87
def IL:CC:=sR [oN 1 (.box 43 (xT 0)) [0],oN 2 (.alloc 43) [1]] [1,2] (sR [fO 3 43 1 0,lO 4 3 3,⟨some 5,(cL 87 #[(xT 4),(nI 64)] #[3,3]),none,[],2,[],true⟩,fO 6 43 1 1,⟨some 7,(lD 3 6),none,[],4,[2],false⟩,⟨some 8,(cL 87 #[(xT 7),(nI 65536)] #[3,3]),none,[],5,[],true⟩,fO 9 43 1 2,⟨some 10,(lD 3 9),none,[],7,[2,5],false⟩,⟨some 11,(cL 87 #[(xT 10),(nI 4096)] #[3,3]),none,[],8,[],true⟩,fO 12 43 1 3,⟨some 13,(lD 3 12),none,[],10,[2,5,8],false⟩,oO 14 (cL 87 #[(xT 13),(nI 131072)] #[3,3]),oO 15 (.build 43 #[(0,(xT 5)),(1,(xT 8)),(2,(xT 11)),(3,(xT 14))]),oS (.store 43 (xT 2) (xT 15))] [2] (.ret))
theorem OD:Bh Tryz.prog 45 16 [(.cell 2 43)] IL:=Au Tryz.func45
def Er:CC:=.seq (sR [mO 22 12,fO 23 75 5 4,lO 24 3 23,oO 25 (bO .lss 3 22 24 3)] [0,2,3,5,8,11,12,25] (cD 25 (.skip) (.exit 0))) (.keep [0,2,3,5,8,11,12] (.seq (.block 1 (sR [lO 29 75 5,mO 30 0,mO 31 12,oO 32 (cL 92 #[(xT 29),(xT 30),(xT 31)] #[75,41,3]),mO 28 32,xO 33 28 0,xO 34 28 1,oN 13 (.alloc 75) [3],oS (.store 75 (xT 13) (xT 33)),aO 14 34] [0,2,3,5,8,11,12,13,14] (.seq (sR [mO 35 14,oO 36 (.binOp .neq 3 (xT 35) (nI 0) 3)] [0,2,3,5,8,11,12,13,14,36] (cD 36 (sR [lO 37 25 11,mO 38 3,mO 39 14,oS (.store 25 (xT 8) (xT 37)),aO 9 38,aO 10 39] [8,9,10] (.ret)) (.skip))) (.keep [0,2,3,5,8,11,12,13] (sR [mO 41 0,lO 42 75 13,mO 43 2,mO 44 3,oO 45 (cL 47 #[(xT 41),(xT 42),(xT 43),(xT 44)] #[41,75,3,3]),mO 40 45,xO 46 40 0,xO 47 40 1,xO 48 40 2,oN 15 (.alloc 25) [4],oS (.store 25 (xT 15) (xT 46)),aO 16 47,aO 17 48] [0,2,5,8,11,12,15,16,17] (.seq (sR [mO 49 17,oO 50 (.binOp .neq 3 (xT 49) (nI 0) 3)] [0,2,5,8,11,12,15,16,17,50] (cD 50 (sR [lO 51 25 11,mO 52 16,mO 53 17,oS (.store 25 (xT 8) (xT 51)),aO 9 52,aO 10 53] [8,9,10] (.ret)) (.skip))) (.keep [0,2,5,8,11,12,15,16] (sR [mO 54 16,aO 3 54] [0,2,3,5,8,11,12,15] (.reg [fO 55 25 11 2,lO 56 23 55,lO 57 25 15,oO 58 (.buildSlice 23 1 #[(0,(xT 57))]),oN 59 (bC .append #[(xT 56),(xT 58)] #[23,23]) [5],fO 60 25 11 2,oS (.store 23 (xT 60) (xT 59))] [0,2,3,5,8,11,12]))))))))) (.keep [0,2,3,5,8,11,12] (.reg [mO 26 12,oO 27 (.binOp .add 3 (xT 26) (nI 1) 3),aO 12 27] [0,2,3,5,8,11,12])))) 
def Kh:CC:=sR [oN 5 (.box 75 (xT 1)) [0],oN 8 (.alloc 25) [1],oO 9 (.assign (nI 0)),oO 10 (.assign (nI 0))] [0,2,3,5,8] (sR [lO 18 75 5,mO 19 0,oO 20 (cL 90 #[(xT 18),(xT 19)] #[75,41]),oO 21 (.build 25 #[(0,(nI 1)),(1,(xT 20))]),oN 11 (.alloc 25) [2],oS (.store 25 (xT 11) (xT 21))] [0,2,3,5,8,11] (.seq (sR [oO 12 (.assign (nI 0))] [0,2,3,5,8,11,12] (.block 0 (.loop Er))) (.keep [3,8,11] (sR [lO 61 25 11,mO 62 3,oS (.store 25 (xT 8) (xT 61)),aO 9 62,oO 10 (.assign (nI 0))] [8,9,10] (.ret)))))
theorem Ru:Bh Tryz.prog 93 63 [(.cell 8 25),(.tmp 9),(.tmp 10)] Kh:=Au Tryz.func93
def Db:CC:=.seq (sR [mO 136 15,oO 137 (.binOp .neq 3 (xT 136) (nI 0) 3)] [0,2,3,5,8,11,13,15,16,137] (cD 137 (sR [lO 138 25 11,mO 139 3,mO 140 15,oS (.store 25 (xT 8) (xT 138)),aO 9 139,aO 10 140] [8,9,10] (.ret)) (.skip))) (.keep [0,2,3,5,8,11,13,16] (.reg [fO 141 25 11 2,lO 142 23 141,lO 143 25 16,oO 144 (.buildSlice 23 1 #[(0,(xT 143))]),oN 145 (bC .append #[(xT 142),(xT 144)] #[23,23]) [5],fO 146 25 11 2,oS (.store 23 (xT 146) (xT 145))] [0,2,3,5,8,11,13]))
def Ct:CC:=.seq (sR [mO 79 13,lO 80 75 5,oO 81 (cL 91 #[(xT 80)] #[75]),oO 82 (bO .lss 3 79 81 3)] [0,2,3,5,8,11,13,82] (cD 82 (.skip) (.exit 0))) (.keep [0,2,3,5,8,11,13] (.seq (.block 1 (sR [lO 86 75 5,mO 87 0,mO 88 13,oO 89 (cL 92 #[(xT 86),(xT 87),(xT 88)] #[75,41,3]),mO 85 89,xO 90 85 0,xO 91 85 1,oN 14 (.alloc 75) [3],oS (.store 75 (xT 14) (xT 90)),aO 15 91] [0,2,3,5,8,11,13,14,15] (.seq (sR [mO 92 15,oO 93 (.binOp .neq 3 (xT 92) (nI 0) 3)] [0,2,3,5,8,11,13,14,15,93] (cD 93 (sR [lO 94 25 11,mO 95 3,mO 96 15,oS (.store 25 (xT 8) (xT 94)),aO 9 95,aO 10 96] [8,9,10] (.ret)) (.skip))) (.keep [0,2,3,5,8,11,13,14,15] (sR [fO 97 75 14 0,⟨some 98,(lD 3 97),none,[],1,[],true⟩,⟨some 99,(lD 75 14),none,[],2,[],true⟩,mO 100 0,⟨some 101,(cL 90 #[(xT 99),(xT 100)] #[75,41]),none,[],4,[1],true⟩,oO 102 (.build 25 #[(0,(xT 98)),(1,(xT 101))]),⟨some 16,(.alloc 25),none,[4],6,[1,2,4],false⟩,oS (.store 25 (xT 16) (xT 102))] [0,2,3,5,8,11,13,14,15,16] (.seq (.block 2 (sR [fO 104 75 5 0,lO 105 3 104,oO 106 (.binOp .eql 3 (xT 105) (nI 9) 3),aO 103 106] [0,2,3,5,8,11,13,14,15,16,103] (cD 103 (.reg [mO 108 0,lO 109 75 14,mO 110 2,oO 111 (.binOp .sub 3 (xT 110) (nI 2) 3),mO 112 3,oO 113 (cL 93 #[(xT 108),(xT 109),(xT 111),(xT 112)] #[41,75,3,3]),mO 107 113,xO 114 107 0,xO 115 107 1,xO 116 107 2,oS (.store 25 (xT 16) (xT 114)),aO 3 115,aO 15 116] [0,2,3,5,8,11,13,15,16]) (sR [fO 118 75 5 0,lO 119 3 118,oO 120 (.binOp .eql 3 (xT 119) (nI 1) 3),mO 121 120,oG 122 (fA 75 5 0) 121 false,oG 123 (lD 3 122) 121 false,oG 124 (.binOp .eql 3 (xT 123) (nI 8) 3) 121 false,oO 125 (.pick (xT 121) (nB true) (xT 124)),aO 117 125] [0,2,3,5,8,11,13,14,15,16,117] (cD 117 (.reg [mO 127 0,lO 128 75 14,mO 129 2,oO 130 (.binOp .sub 3 (xT 129) (nI 1) 3),mO 131 3,oO 132 (cL 47 #[(xT 127),(xT 128),(xT 130),(xT 131)] #[41,75,3,3]),mO 126 132,xO 133 126 0,xO 134 126 1,xO 135 126 2,oS (.store 25 (xT 16) (xT 133)),aO 3 134,aO 15 135] [0,2,3,5,8,11,13,15,16]) (.skip)))))) (.keep [0,2,3,5,8,11,13,15,16] Db))))))) (.keep [0,2,3,5,8,11,13] (.reg [mO 83 13,oO 84 (.binOp .add 3 (xT 83) (nI 1) 3),aO 13 84] [0,2,3,5,8,11,13]))))
def EC:CC:=.seq (sR [mO 71 12,mO 72 3,oO 73 (bO .gtr 3 71 72 3)] [0,2,3,5,8,11,12,73] (cD 73 (sR [lO 74 25 11,mO 75 3,oS (.store 25 (xT 8) (xT 74)),aO 9 75,oO 10 (.assign (nI 3))] [8,9,10] (.ret)) (.skip))) (.keep [0,2,3,5,8,11,12] (sR [mO 76 3,mO 77 12,oO 78 (bO .sub 3 76 77 3),aO 3 78] [0,2,3,5,8,11] (.seq (sR [oO 13 (.assign (nI 0))] [0,2,3,5,8,11,13] (.block 0 (.loop Ct))) (.keep [3,8,11] (sR [lO 147 25 11,mO 148 3,oS (.store 25 (xT 8) (xT 147)),aO 9 148,oO 10 (.assign (nI 0))] [8,9,10] (.ret))))))
def Da:CC:=.seq (sR [fO 58 75 5 0,lO 59 3 58,oO 60 (.binOp .eql 3 (xT 59) (nI 9) 3)] [0,2,3,5,8,11,12,60] (cD 60 (.reg [fO 61 75 5 5,lO 62 3 61,fO 63 75 5 3,lO 64 3 63,oO 65 (.binOp .add 3 (nI 1) (xT 64) 3),fO 66 75 5 4,lO 67 3 66,oO 68 (bO .add 3 65 67 3),oO 69 (bO .mul 3 62 68 3),oO 70 (.binOp .add 3 (nI 1) (xT 69) 3),aO 12 70] [0,2,3,5,8,11,12]) (.skip))) (.keep [0,2,3,5,8,11,12] EC) 
def Ii:CC:=sR [oN 5 (.box 75 (xT 1)) [0],oN 8 (.alloc 25) [1],oO 9 (.assign (nI 0)),oO 10 (.assign (nI 0))] [0,2,3,5,8] (sR [fO 17 75 5 0,⟨some 18,(lD 3 17),none,[],1,[],true⟩,⟨some 19,(lD 75 5),none,[],2,[],true⟩,mO 20 0,⟨some 21,(cL 90 #[(xT 19),(xT 20)] #[75,41]),none,[],4,[1],true⟩,oO 22 (.build 25 #[(0,(xT 18)),(1,(xT 21))]),⟨some 11,(.alloc 25),none,[2],6,[1,2,4],false⟩,oS (.store 25 (xT 11) (xT 22))] [0,2,3,5,8,11] (.seq (sR [fO 23 75 5 0,lO 24 3 23,oO 25 (.binOp .eql 3 (xT 24) (nI 0) 3)] [0,2,3,5,8,11,25] (cD 25 (sR [lO 26 25 11,mO 27 3,oS (.store 25 (xT 8) (xT 26)),aO 9 27,oO 10 (.assign (nI 0))] [8,9,10] (.ret)) (.skip))) (.keep [0,2,3,5,8,11] (.seq (sR [mO 28 2,oO 29 (.binOp .lss 3 (xT 28) (nI 1) 3),mO 30 29,oG 31 (fA 75 5 0) 30 false,oG 32 (lD 3 31) 30 false,oG 33 (.binOp .eql 3 (xT 32) (nI 9) 3) 30 false,oG 34 (mV 33) 30 false,oG 35 (fA 75 5 5) 34 true,oG 36 (lD 3 35) 34 true,oG 37 (.binOp .gtr 3 (xT 36) (nI 0) 3) 34 true,oG 38 (.pick (xT 34) (xT 37) (nB false)) 30 false,oG 39 (mV 38) 30 false,oG 40 (mV 2) 39 true,oG 41 (.binOp .lss 3 (xT 40) (nI 2) 3) 39 true,oG 42 (.pick (xT 39) (xT 41) (nB false)) 30 false,oO 43 (.pick (xT 30) (nB true) (xT 42))] [0,2,3,5,8,11,43] (cD 43 (sR [lO 44 25 11,mO 45 3,oS (.store 25 (xT 8) (xT 44)),aO 9 45,oO 10 (.assign (nI 3))] [8,9,10] (.ret)) (.skip))) (.keep [0,2,3,5,8,11] (sR [lO 46 75 5,oO 47 (cL 91 #[(xT 46)] #[75]),oO 48 (.binOp .add 3 (nI 1) (xT 47) 3),aO 12 48] [0,2,3,5,8,11,12] (.seq (sR [fO 49 75 5 0,lO 50 3 49,oO 51 (.binOp .eql 3 (xT 50) (nI 1) 3)] [0,2,3,5,8,11,12,51] (cD 51 (.reg [fO 52 75 5 3,lO 53 3 52,oO 54 (.binOp .add 3 (nI 1) (xT 53) 3),fO 55 75 5 4,lO 56 3 55,oO 57 (bO .add 3 54 56 3),aO 12 57] [0,2,3,5,8,11,12]) (.skip))) (.keep [0,2,3,5,8,11,12] Da))))))))
theorem M8:Bh Tryz.prog 47 149 [(.cell 8 25),(.tmp 9),(.tmp 10)] Ii:=Au Tryz.func47
def IV:CC:=sR [oN 3 (.box 43 (xT 1)) [0],oN 4 (.alloc 25) [1],oO 5 (.assign (nI 0)),oO 6 (.assign (nI 0))] [0,3,4] (sR [lO 12 43 3,oO 13 (cL 45 #[(xT 12)] #[43]),oS (.store 43 (xT 3) (xT 13))] [0,3,4] (sR [mO 15 0,oO 16 (cL 46 #[(xT 15),(nI 0),(nI 0)] #[41,3,3]),mO 14 16,xO 17 14 0,xO 18 14 1,oN 7 (.alloc 75) [2],oS (.store 75 (xT 7) (xT 17)),aO 8 18] [0,3,4,7,8] (.seq (sR [mO 19 8,oO 20 (.binOp .neq 3 (xT 19) (nI 0) 3)] [0,3,4,7,8,20] (cD 20 (sR [oO 21 (.build 25 #[]),mO 22 8,oS (.store 25 (xT 4) (xT 21)),oO 5 (.assign (nI 0)),aO 6 22] [4,5,6] (.ret)) (.skip))) (.keep [0,3,4,7] (sR [mO 24 0,lO 25 75 7,fO 26 43 3 0,lO 27 3 26,fO 28 43 3 1,lO 29 3 28,oO 30 (cL 47 #[(xT 24),(xT 25),(xT 27),(xT 29)] #[41,75,3,3]),mO 23 30,xO 31 23 0,xO 32 23 1,xO 33 23 2,oN 9 (.alloc 25) [3],oS (.store 25 (xT 9) (xT 31)),aO 10 32,aO 11 33] [3,4,9,10,11] (.seq (sR [mO 34 11,oO 35 (.binOp .neq 3 (xT 34) (nI 0) 3)] [3,4,9,10,11,35] (cD 35 (sR [oO 36 (.build 25 #[]),mO 37 11,oS (.store 25 (xT 4) (xT 36)),oO 5 (.assign (nI 0)),aO 6 37] [4,5,6] (.ret)) (.skip))) (.keep [3,4,9,10] (sR [lO 38 25 9,fO 39 43 3 1,⟨some 40,(lD 3 39),none,[],2,[],true⟩,mO 41 10,oO 42 (bO .sub 3 40 41 3),⟨none,(.store 25 (xT 4) (xT 38)),none,[],5,[2],false⟩,aO 5 42,oO 6 (.assign (nI 0))] [4,5,6] (.ret)))))))))
theorem OO:Bh Tryz.prog 19 43 [(.cell 4 25),(.tmp 5),(.tmp 6)] IV:=Au Tryz.func19
def J0:CC:=sR [oN 1 (.box 43 (xT 0)) [0],oN 2 (.alloc 43) [1]] [1,2] (.seq (sR [fO 3 43 1 1,lO 4 3 3,oO 5 (.binOp .gtr 3 (xT 4) (nI 3000) 3)] [1,2,5] (cD 5 (.reg [fO 6 43 1 1,oS (.store 3 (xT 6) (nI 3000))] [1,2]) (.skip))) (.keep [1,2] (sR [lO 7 43 1,oS (.store 43 (xT 2) (xT 7))] [2] (.ret))))
theorem PG:Bh Tryz.prog 18 8 [(.cell 2 43)] J0:=Au Tryz.func18
@[simp] theorem mE:Aj Tryz.prog 316 0=some 0:=by kernel_rfl
@[simp] theorem xZ (ps:List (Nat × A)):Bs Tryz.prog 316 ps=(BW (fun i=>([(0,1)]:List (Nat × Nat))[i]?) [A.v (Value.int IntKind.u64 0)] ps).map A.agg:=by kernel_rfl
def KA:CC:=sR [mO 4 0,mO 5 0,oO 6 (.nilCheck (xT 5)),fO 7 316 6 0,lO 8 51 7,mO 9 1,oO 10 (bO .xor 51 8 9 51),oO 11 (.binOp .mul 51 (xT 10) (.const (.int .u64 1099511628211)) 51),oO 12 (.nilCheck (xT 4)),fO 13 316 12 0,oS (.store 51 (xT 13) (xT 11))] [0] (.reg [mO 14 0,oO 15 (.nilCheck (xT 14)),fO 16 316 15 0,lO 17 51 16,mO 18 0,oO 19 (.nilCheck (xT 18)),fO 20 316 19 0,lO 21 51 20,oO 22 (.binOp .shr 51 (xT 21) (.const (.int .u64 29)) 269),oO 23 (bO .xor 51 17 22 51),oO 24 (.nilCheck (xT 14)),fO 25 316 24 0,oS (.store 51 (xT 25) (xT 23))] [])
theorem QE:Bh Tryz.prog 269 26 [] KA:=Au Tryz.func269
def HV:CC:=sR [oO 38 (bO .lss 3 37 36 3)] [1,4,5,6,36,37,38] (.seq (cD 38 (.skip) (.exit 0)) (.keep [1,4,5,6,36,37] (.seq (.block 1 (sR [mO 39 37,aO 8 39] [1,4,5,6,8,36,37] (.reg [mO 40 5,lO 41 53 1,mO 42 8,oO 43 (cL 150 #[(xT 41),(xT 42)] #[53,3]),oO 44 (.call { callee:=(.value (xT 40)),args:=#[(xT 43)],argTypes:=#[51] })] [1,4,5,6,36,37]))) (.reg [oO 45 (.binOp .add 3 (xT 37) (nI 1) 3),mO 37 45] [1,4,5,6,36,37]))))
def HL:CC:=sR [oO 48 (bO .lss 3 47 46 3)] [1,4,5,46,47,48] (.seq (cD 48 (.skip) (.exit 2)) (.keep [1,4,5,46,47] (.seq (.block 3 (sR [mO 49 47,aO 9 49] [1,4,5,9,46,47] (sR [lO 51 53 1,mO 52 9,oO 53 (cL 194 #[(xT 51),(xT 52)] #[53,3]),mO 50 53,xO 54 50 0,xO 55 50 1,oN 10 (.alloc 53) [2],oS (.store 53 (xT 10) (xT 54)),aO 11 55] [1,4,5,10,11,46,47] (.seq (sR [mO 56 11,oO 57 (.binOp .neq 47 (xT 56) (nI 0) 47)] [1,4,5,10,11,46,47,57] (cD 57 (sR [mO 58 11,oO 2 (.assign (.const (.int .u64 0))),aO 3 58] [2,3] (.ret)) (.skip))) (.keep [1,4,5,10,46,47] (sR [lO 60 53 10,oO 61 (cL 258 #[(xT 60)] #[53]),mO 59 61,xO 62 59 0,xO 63 59 1,aO 12 62,aO 11 63] [1,4,5,11,12,46,47] (.seq (sR [mO 64 11,oO 65 (.binOp .neq 47 (xT 64) (nI 0) 47)] [1,4,5,11,12,46,47,65] (cD 65 (sR [mO 66 11,oO 2 (.assign (.const (.int .u64 0))),aO 3 66] [2,3] (.ret)) (.skip))) (.keep [1,4,5,12,46,47] (.reg [mO 67 5,mO 68 12,oO 69 (.call { callee:=(.value (xT 67)),args:=#[(xT 68)],argTypes:=#[51] })] [1,4,5,46,47]))))))))) (.keep [1,4,5,46,47] (.reg [oO 70 (.binOp .add 3 (xT 47) (nI 1) 3),mO 47 70] [1,4,5,46,47]))))) 
def Qz:CC:=sR [oN 1 (.box 53 (xT 0)) [0],oO 2 (.assign (.const (.int .u64 0))),oO 3 (.assign (nI 0))] [1] (sR [oO 13 (.build 316 #[(0,(.const (.int .u64 14695981039346656037)))]),oN 14 (.box 316 (xT 13)) [1],aO 4 14] [1,4] (sR [mO 15 4,oO 16 (.makeFunc (.func 269) #[(xT 15)] #[]),aO 5 16] [1,4,5] (sR [mO 17 5,lO 18 53 1,oO 19 (cL 95 #[(xT 18)] #[53]),oO 20 (.convert 3 51 (xT 19)),oO 21 (.call { callee:=(.value (xT 17)),args:=#[(xT 20)],argTypes:=#[51] })] [1,4,5] (sR [lO 23 53 1,oO 24 (cL 233 #[(xT 23)] #[53]),mO 22 24,xO 25 22 0,xO 26 22 1,aO 6 25,aO 7 26] [1,4,5,6,7] (.seq (sR [mO 27 7,oO 28 (.binOp .neq 47 (xT 27) (nI 0) 47)] [1,4,5,6,7,28] (cD 28 (sR [mO 29 7,oO 2 (.assign (.const (.int .u64 0))),aO 3 29] [2,3] (.ret)) (.skip))) (.keep [1,4,5,6] (sR [mO 30 5,lO 31 53 1,oO 32 (cL 232 #[(xT 31)] #[53]),oO 33 (.convert 3 51 (xT 32)),oO 34 (.call { callee:=(.value (xT 30)),args:=#[(xT 33)],argTypes:=#[51] })] [1,4,5,6] (.seq (sR [lO 35 53 1,oO 36 (cL 232 #[(xT 35)] #[53]),oO 37 (.move (nI 0))] [1,4,5,6,36,37] (.block 0 (.loop HV))) (.keep [1,4,5,6] (.seq (sR [mO 46 6,oO 47 (.move (nI 0))] [1,4,5,46,47] (.block 2 (.loop HL))) (.keep [4] (sR [mO 71 4,oO 72 (.nilCheck (xT 71)),fO 73 316 72 0,lO 74 51 73,aO 2 74,oO 3 (.assign (nI 0))] [2,3] (.ret)))))))))))))
theorem Zn:Bh Tryz.prog 258 75 [(.tmp 2),(.tmp 3)] Qz:=Au Tryz.func258
@[simp] theorem Aey:Tryz.prog.underlying 164=some (.slice 3):=by kernel_rfl
@[simp] theorem AfW:Tryz.prog.underlying 236=some (.pointer 276):=by kernel_rfl
@[simp] theorem AfS:Tryz.prog.underlying 274=some (.slice 302):=by kernel_rfl
@[simp] theorem AeS:CI Tryz.prog 164=some 1:=by kernel_rfl
@[simp] theorem Agd:CI Tryz.prog 274=some 1:=by kernel_rfl
@[simp] theorem Afu:CI Tryz.prog 302=some 9:=by kernel_rfl
@[simp] theorem AdS:C5 Tryz.prog 164=some false:=by kernel_rfl
@[simp] theorem AbD:C5 Tryz.prog 274=some false:=by kernel_rfl
@[simp] theorem Aef:C5 Tryz.prog 302=some true:=by kernel_rfl
@[simp] theorem Aem:Bn Tryz.prog 3=some (Value.int IntKind.i64 0):=by kernel_rfl
@[simp] theorem zm:Bn Tryz.prog 302=some (Value.agg #[Value.int IntKind.u64 0,Value.pointer none,Value.int IntKind.i64 0,Value.int IntKind.i64 0,Value.int IntKind.i64 0,Value.int IntKind.i64 0,Value.int IntKind.i64 0,Value.int IntKind.i64 0,Value.int IntKind.u64 0]):=by kernel_rfl
@[simp] theorem Adj:BJ Tryz.prog 3=some 8:=by kernel_rfl
@[simp] theorem wT:BJ Tryz.prog 302=some 72:=by kernel_rfl
@[simp] theorem ml:Aj Tryz.prog 276 0=some 0:=by kernel_rfl
@[simp] theorem me:Aj Tryz.prog 276 1=some 1:=by kernel_rfl
@[simp] theorem lr:Aj Tryz.prog 302 0=some 0:=by kernel_rfl
@[simp] theorem lF:Aj Tryz.prog 302 1=some 1:=by kernel_rfl
@[simp] theorem vO (ps:List (Nat × A)):Bs Tryz.prog 276 ps=(BW (fun i=>([(0,1),(1,1)]:List (Nat × Nat))[i]?) [A.sl true [],A.sl true []] ps).map A.agg:=by kernel_rfl
@[simp] theorem yd (ps:List (Nat × A)):Bs Tryz.prog 302 ps=(BW (fun i=>([(0,1),(1,8)]:List (Nat × Nat))[i]?) [A.v (Value.int IntKind.u64 0),A.v (Value.pointer none),iv 0,iv 0,iv 0,iv 0,iv 0,iv 0,A.v (Value.int IntKind.u64 0)] ps).map A.agg:=by kernel_rfl
def Qt:CC:=sR [oO 0 (.assign (.const (.pointer none)))] [] (sR [oN 1 (.makeSlice 164 (nI 8) (nI 8)) [0,1],oO 2 (.build 276 #[(1,(xT 1))]),oN 3 (.box 276 (xT 2)) [0],aO 0 3] [0] (.ret))
theorem Yh:Bh Tryz.prog 200 4 [(.tmp 0)] Qt:=Au Tryz.func200
def I8:CC:=sR [oO 4 (.assign (nI 0))] [0,1] (sR [mO 5 1,oO 6 (.binOp .add 3 (xT 5) (nI 1) 3),mO 7 0,oO 8 (.nilCheck (xT 7)),fO 9 276 8 1,lO 10 164 9,oO 11 (bL 10 164),oO 12 (bO .rem 3 6 11 3),aO 4 12] [4] (.ret))
theorem OE:Bh Tryz.prog 270 13 [(.tmp 4)] I8:=Au Tryz.func270
def DB:CC:=.seq (sR [mO 24 0,oO 25 (.nilCheck (xT 24)),fO 26 276 25 1,lO 27 164 26,mO 28 9,oO 29 (iA 164 27 28),lO 30 3 29,oO 31 (.binOp .gtr 3 (xT 30) (nI 0) 3)] [0,1,5,8,9,31] (cD 31 (.skip) (.exit 0))) (.keep [0,1,5,8,9] (.block 1 (sR [mO 32 0,oO 33 (.nilCheck (xT 32)),fO 34 276 33 0,⟨some 35,(lD 274 34),none,[],3,[],true⟩,mO 36 0,oO 37 (.nilCheck (xT 36)),fO 38 276 37 1,⟨some 39,(lD 164 38),none,[],7,[],true⟩,mO 40 9,oO 41 (iA 164 39 40),⟨some 42,(lD 3 41),none,[],10,[],true⟩,oO 43 (.binOp .sub 3 (xT 42) (nI 1) 3),oO 44 (iA 274 35 43),⟨some 45,(lD 302 44),none,[],13,[],true⟩,⟨some 10,(.alloc 302),none,[1],14,[3,7,10,13],false⟩,oS (.store 302 (xT 10) (xT 45))] [0,1,5,8,9,10] (.seq (sR [fO 46 302 10 0,lO 47 51 46,mO 48 1,oO 49 (bO .eql 51 47 48 51)] [0,1,5,8,9,10,49] (cD 49 (sR [fO 51 302 10 1,lO 52 53 51,lO 53 53 5,oO 54 (cL 147 #[(xT 52),(xT 53)] #[53,53]),mO 50 54,xO 55 50 0,xO 56 50 1,aO 11 55,aO 12 56] [0,1,5,8,9,11,12] (sR [mO 57 12,oO 58 (.binOp .neq 47 (xT 57) (nI 0) 47),mO 59 58,oG 60 (mV 11) 59 false,oO 61 (.pick (xT 59) (nB true) (xT 60))] [0,1,5,8,9,12,61] (cD 61 (sR [mO 62 9,mO 63 12,aO 6 62,aO 7 63] [6,7] (.ret)) (.skip)))) (.skip))) (.keep [0,1,5,8,9] (.reg [mO 64 8,mO 65 9,oO 66 (.call { callee:=(.value (xT 64)),args:=#[(xT 65)],argTypes:=#[3] }),aO 9 66] [0,1,5,8,9])))))) 
def I5:CC:=sR [oN 5 (.box 53 (xT 2)) [0],oO 6 (.assign (nI 0)),oO 7 (.assign (nI 0))] [0,1,5] (sR [mO 13 0,oO 14 (.makeFunc (.func 270) #[(xT 13)] #[]),aO 8 14] [0,1,5,8] (sR [mO 15 1,mO 16 0,oO 17 (.nilCheck (xT 16)),fO 18 276 17 1,lO 19 164 18,oO 20 (bL 19 164),oO 21 (.convert 3 51 (xT 20)),oO 22 (bO .rem 51 15 21 51),oO 23 (.convert 51 3 (xT 22)),aO 9 23] [0,1,5,8,9] (.seq (.block 0 (.loop DB)) (.keep [9] (sR [mO 67 9,aO 6 67,oO 7 (.assign (nI 0))] [6,7] (.ret))))))
theorem OA:Bh Tryz.prog 259 68 [(.tmp 6),(.tmp 7)] I5:=Au Tryz.func259
def E6:CC:=.seq (sR [mO 35 0,oO 36 (.nilCheck (xT 35)),fO 37 276 36 1,lO 38 164 37,mO 39 4,oO 40 (iA 164 38 39),lO 41 3 40,oO 42 (.binOp .gtr 3 (xT 41) (nI 0) 3)] [0,2,4,18,19,20,42] (cD 42 (.skip) (.exit 2))) (.keep [0,2,4,18,19,20] (.block 3 (.reg [mO 43 0,mO 44 4,oO 45 (cL 270 #[(xT 43),(xT 44)] #[236,3]),aO 4 45] [0,2,4,18,19,20])))
def Dp:CC:=sR [oO 21 (bO .lss 3 20 19 3)] [0,18,19,20,21] (.seq (cD 21 (.skip) (.exit 0)) (.keep [0,18,19,20] (.seq (.block 1 (sR [mO 22 20,oO 23 (iA 274 18 20),lO 24 302 23,oN 3 (.alloc 302) [2],aO 2 22,oS (.store 302 (xT 3) (xT 24))] [0,2,3,18,19,20] (sR [fO 25 302 3 0,lO 26 51 25,mO 27 0,oO 28 (.nilCheck (xT 27)),fO 29 276 28 1,lO 30 164 29,oO 31 (bL 30 164),oO 32 (.convert 3 51 (xT 31)),oO 33 (bO .rem 51 26 32 51),oO 34 (.convert 51 3 (xT 33)),aO 4 34] [0,2,4,18,19,20] (.seq (.block 2 (.loop E6)) (.keep [0,2,4,18,19,20] (.reg [mO 46 0,oO 47 (.nilCheck (xT 46)),fO 48 276 47 1,lO 49 164 48,mO 50 4,mO 51 2,oO 52 (.binOp .add 3 (xT 51) (nI 1) 3),oO 53 (iA 164 49 50),oS (.store 3 (xT 53) (xT 52))] [0,18,19,20])))))) (.keep [0,18,19,20] (.reg [oO 54 (.binOp .add 3 (xT 20) (nI 1) 3),mO 20 54] [0,18,19,20]))))) 
def I7:CC:=sR [mO 5 0,mO 6 0,oO 7 (.nilCheck (xT 6)),fO 8 276 7 1,lO 9 164 8,oO 10 (bL 9 164),oO 11 (.binOp .mul 3 (nI 2) (xT 10) 3),oN 12 (.makeSlice 164 (xT 11) (xT 11)) [0,1],oO 13 (.nilCheck (xT 5)),fO 14 276 13 1,oS (.store 164 (xT 14) (xT 12))] [0] (sR [mO 15 0,oO 16 (.nilCheck (xT 15)),fO 17 276 16 0,lO 18 274 17,oO 19 (bL 18 274),oO 20 (.move (nI 0))] [0,18,19,20] (.block 0 (.loop Dp)))
theorem OT:Bh Tryz.prog 260 55 [] I7:=Au Tryz.func260
def EB:CC:=sR [mO 84 0,oO 85 (.nilCheck (xT 84)),fO 86 276 85 0,lO 87 274 86,oO 88 (bL 87 274),oO 89 (.binOp .sub 3 (xT 88) (nI 1) 3),aO 4 89,oO 5 (.assign (nI 0))] [4,5] (.ret) 
def Ir:CC:=sR [oN 3 (.box 53 (xT 1)) [1],oO 4 (.assign (nI 0)),oO 5 (.assign (nI 0))] [0,3] (.seq (sR [mO 9 0,oO 10 (.binOp .eql 236 (xT 9) (.const (.pointer none)) 236)] [0,3,10] (cD 10 (sR [oO 4 (.assign (nI 0)),oO 5 (.assign (nI 1))] [4,5] (.ret)) (.skip))) (.keep [0,3] (sR [lO 12 53 3,oO 13 (cL 258 #[(xT 12)] #[53]),mO 11 13,xO 14 11 0,xO 15 11 1,aO 6 14,aO 7 15] [0,3,6,7] (.seq (sR [mO 16 7,oO 17 (.binOp .neq 47 (xT 16) (nI 0) 47)] [0,3,6,7,17] (cD 17 (sR [mO 18 7,oO 4 (.assign (nI 0)),aO 5 18] [4,5] (.ret)) (.skip))) (.keep [0,3,6] (sR [mO 20 0,mO 21 6,lO 22 53 3,oO 23 (cL 259 #[(xT 20),(xT 21),(xT 22)] #[236,51,53]),mO 19 23,xO 24 19 0,xO 25 19 1,aO 8 24,aO 7 25] [0,3,6,7,8] (.seq (.block 0 (sR [mO 27 7,oO 28 (.binOp .neq 47 (xT 27) (nI 0) 47),aO 26 28] [0,3,6,7,8,26] (cD 26 (sR [mO 29 7,oO 4 (.assign (nI 0)),aO 5 29] [4,5] (.ret)) (sR [mO 31 0,oO 32 (.nilCheck (xT 31)),fO 33 276 32 1,lO 34 164 33,mO 35 8,oO 36 (iA 164 34 35),lO 37 3 36,oO 38 (.binOp .gtr 3 (xT 37) (nI 0) 3),aO 30 38] [0,3,6,8,30] (cD 30 (sR [mO 39 0,oO 40 (.nilCheck (xT 39)),fO 41 276 40 1,lO 42 164 41,mO 43 8,oO 44 (iA 164 42 43),lO 45 3 44,oO 46 (.binOp .sub 3 (xT 45) (nI 1) 3),aO 4 46,oO 5 (.assign (nI 0))] [4,5] (.ret)) (.skip)))))) (.keep [0,3,6,8] (sR [mO 47 0,mO 48 0,oO 49 (.nilCheck (xT 48)),fO 50 276 49 0,⟨some 51,(lD 274 50),none,[],4,[],true⟩,mO 52 6,lO 53 53 3,oO 54 (.build 302 #[(0,(xT 52)),(1,(xT 53))]),⟨some 55,(.buildSlice 274 1 #[(0,(xT 54))]),none,[],8,[4],false⟩,oN 56 (bC .append #[(xT 51),(xT 55)] #[274,274]) [2],oO 57 (.nilCheck (xT 47)),fO 58 276 57 0,oS (.store 274 (xT 58) (xT 56))] [0,8] (sR [mO 59 0,oO 60 (.nilCheck (xT 59)),fO 61 276 60 1,lO 62 164 61,mO 63 8,mO 64 0,oO 65 (.nilCheck (xT 64)),fO 66 276 65 0,lO 67 274 66,oO 68 (bL 67 274),oO 69 (iA 164 62 63),oS (.store 3 (xT 69) (xT 68))] [0] (.seq (sR [mO 70 0,oO 71 (.nilCheck (xT 70)),fO 72 276 71 0,lO 73 274 72,oO 74 (bL 73 274),oO 75 (.binOp .mul 3 (nI 2) (xT 74) 3),mO 76 0,oO 77 (.nilCheck (xT 76)),fO 78 276 77 1,lO 79 164 78,oO 80 (bL 79 164),oO 81 (bO .gtr 3 75 80 3)] [0,81] (cD 81 (.reg [mO 82 0,oO 83 (cL 260 #[(xT 82)] #[236])] [0]) (.skip))) (.keep [0] EB))))))))))))
theorem NR:Bh Tryz.prog 235 90 [(.tmp 4),(.tmp 5)] Ir:=Au Tryz.func235
def Dr:CC:=sR [oO 14 (bO .lss 3 13 12 3)] [0,3,6,12,13,14] (.seq (cD 14 (.skip) (.exit 0)) (.keep [0,3,6,12,13] (.seq (.block 1 (sR [mO 15 13,aO 7 15] [0,3,6,7,12,13] (sR [lO 17 53 3,mO 18 7,oO 19 (cL 194 #[(xT 17),(xT 18)] #[53,3]),mO 16 19,xO 20 16 0,xO 21 16 1,oN 8 (.alloc 53) [3],oS (.store 53 (xT 8) (xT 20)),aO 9 21] [0,3,6,8,9,12,13] (.seq (sR [mO 22 9,oO 23 (.binOp .neq 47 (xT 22) (nI 0) 47)] [0,3,6,8,9,12,13,23] (cD 23 (sR [mO 24 9,oO 4 (.assign nS),aO 5 24] [4,5] (.ret)) (.skip))) (.keep [0,3,6,8,12,13] (sR [mO 26 0,lO 27 53 8,oO 28 (cL 235 #[(xT 26),(xT 27)] #[236,53]),mO 25 28,xO 29 25 0,xO 30 25 1,aO 10 29,aO 9 30] [0,3,6,9,10,12,13] (.seq (sR [mO 31 9,oO 32 (.binOp .neq 47 (xT 31) (nI 0) 47)] [0,3,6,9,10,12,13,32] (cD 32 (sR [mO 33 9,oO 4 (.assign nS),aO 5 33] [4,5] (.ret)) (.skip))) (.keep [0,3,6,10,12,13] (.reg [mO 34 6,mO 35 10,oO 36 (.buildSlice 164 1 #[(0,(xT 35))]),oN 37 (bC .append #[(xT 34),(xT 36)] #[164,164]) [4],aO 6 37] [0,3,6,12,13]))))))))) (.keep [0,3,6,12,13] (.reg [oO 38 (.binOp .add 3 (xT 13) (nI 1) 3),mO 13 38] [0,3,6,12,13]))))) 
def IX:CC:=sR [oN 3 (.box 53 (xT 1)) [2],oO 4 (.assign nS),oO 5 (.assign (nI 0))] [0,3] (sR [oO 6 (.assign nS)] [0,3,6] (.seq (sR [lO 11 53 3,oO 12 (cL 137 #[(xT 11)] #[53]),oO 13 (.move (nI 0))] [0,3,6,12,13] (.block 0 (.loop Dr))) (.keep [6] (sR [mO 39 6,aO 4 39,oO 5 (.assign (nI 0))] [4,5] (.ret)))))
theorem OC:Bh Tryz.prog 201 40 [(.tmp 4),(.tmp 5)] IX:=Au Tryz.func201
def EJ:CC:=.seq (sR [mO 34 10,mO 35 8,mO 36 6,oO 37 (bO .mul 3 35 36 3),oO 38 (.binOp .rem 3 (xT 37) (nI 64) 3),oO 39 (bO .lss 3 34 38 3)] [0,1,6,7,8,9,10,39] (cD 39 (.skip) (.exit 2))) (.keep [0,1,6,7,8,9,10] (.seq (.block 3 (.reg [mO 42 9,oO 43 (.binOp .mul 51 (xT 42) (.const (.int .u64 2)) 51),aO 9 43] [0,1,6,7,8,9,10])) (.reg [mO 40 10,oO 41 (.binOp .add 3 (xT 40) (nI 1) 3),aO 10 41] [0,1,6,7,8,9,10])))
def EG:CC:=.seq (sR [mO 20 8,mO 21 1,oO 22 (bL 21 22),oO 23 (bO .lss 3 20 22 3)] [0,1,6,7,8,23] (cD 23 (.skip) (.exit 0))) (.keep [0,1,6,7,8] (.seq (.block 1 (sR [mO 26 1,mO 27 8,oO 28 (iA 22 26 27),lO 29 51 28,aO 9 29] [0,1,6,7,8,9] (.seq (sR [mO 30 0,mO 31 9,oO 32 (cL 57 #[(xT 30),(xT 31)] #[3,51]),oO 33 (.unOp .not 4 (xT 32))] [0,1,6,7,8,9,33] (cD 33 (sR [oO 4 (.assign nS),oO 5 (.assign (nB false))] [4,5] (.ret)) (.skip))) (.keep [0,1,6,7,8,9] (.seq (sR [oO 10 (.assign (nI 0))] [0,1,6,7,8,9,10] (.block 2 (.loop EJ))) (.keep [0,1,6,7,8,9] (sR [mO 44 6,oO 45 (.binOp .gtr 3 (xT 44) (nI 0) 3)] [0,1,6,7,8,9,45] (cD 45 (.reg [mO 46 7,mO 47 8,mO 48 6,oO 49 (bO .mul 3 47 48 3),oO 50 (.binOp .quo 3 (xT 49) (nI 64) 3),mO 51 7,mO 52 8,mO 53 6,oO 54 (bO .mul 3 52 53 3),oO 55 (.binOp .quo 3 (xT 54) (nI 64) 3),oO 56 (iA 22 51 55),lO 57 51 56,mO 58 9,oO 59 (bO .add 51 57 58 51),oO 60 (iA 22 46 50),oS (.store 51 (xT 60) (xT 59))] [0,1,6,7,8]) (.skip))))))))) (.keep [0,1,6,7,8] (.reg [mO 24 8,oO 25 (.binOp .add 3 (xT 24) (nI 1) 3),aO 8 25] [0,1,6,7,8])))) 
def LC:CC:=sR [oO 4 (.assign nS),oO 5 (.assign (nB false))] [0,1] (sR [mO 11 0,oO 12 (cL 109 #[(xT 11)] #[3]),aO 6 12] [0,1,6] (.seq (sR [mO 13 6,oO 14 (.binOp .lss 3 (xT 13) (nI 0) 3)] [0,1,6,14] (cD 14 (sR [oO 4 (.assign nS),oO 5 (.assign (nB false))] [4,5] (.ret)) (.skip))) (.keep [0,1,6] (sR [mO 15 0,mO 16 1,oO 17 (bL 16 22),oO 18 (cL 65 #[(xT 15),(xT 17)] #[3,3]),oN 19 (.makeSlice 22 (xT 18) (xT 18)) [0],aO 7 19] [0,1,6,7] (.seq (sR [oO 8 (.assign (nI 0))] [0,1,6,7,8] (.block 0 (.loop EG))) (.keep [7] (sR [mO 61 7,aO 4 61,oO 5 (.assign (nB true))] [4,5] (.ret))))))))
theorem Su:Bh Tryz.prog 69 62 [(.tmp 4),(.tmp 5)] LC:=Au Tryz.func69
@[simp] theorem mB:Aj Tryz.prog 102 0=some 0:=by kernel_rfl
@[simp] theorem lN:Aj Tryz.prog 102 1=some 1:=by kernel_rfl
@[simp] theorem mj:Aj Tryz.prog 102 2=some 2:=by kernel_rfl
@[simp] theorem lP:Aj Tryz.prog 102 3=some 3:=by kernel_rfl
@[simp] theorem xG (ps:List (Nat × A)):Bs Tryz.prog 102 ps=(BW (fun i=>([(0,1),(1,1),(2,1),(3,1)]:List (Nat × Nat))[i]?) [A.sl true [],iv 0,iv 0,iv 0] ps).map A.agg:=by kernel_rfl
def Dx:CC:=.seq (sR [mO 9 1,oO 10 (.binOp .gtr 3 (xT 9) (nI 131072) 3)] [0,1,10] (cD 10 (.reg [oO 1 (.assign (nI 131072))] [0,1]) (.skip))) (.keep [0,1] (sR [mO 11 0,mO 12 1,oO 13 (.build 102 #[(1,(xT 11)),(2,(xT 12))]),oN 14 (.box 102 (xT 13)) [0],aO 4 14] [4] (.ret)))
def GV:CC:=.seq (sR [mO 7 1,oO 8 (.binOp .lss 3 (xT 7) (nI 0) 3)] [0,1,8] (cD 8 (.reg [oO 1 (.assign (nI 0))] [0,1]) (.skip))) (.keep [0,1] Dx) 
def LD:CC:=sR [oO 4 (.assign (.const (.pointer none)))] [0,1] (.seq (sR [mO 5 0,oO 6 (.binOp .lss 3 (xT 5) (nI 1) 3)] [0,1,6] (cD 6 (.reg [oO 0 (.assign (nI 1))] [0,1]) (.skip))) (.keep [0,1] GV))
theorem R5:Bh Tryz.prog 54 15 [(.tmp 4)] LD:=Au Tryz.func54
def Gn:CC:=sR [oO 4 (.assign (nI 0))] [0,1] (.seq (sR [mO 5 1,oO 6 (.binOp .lss 3 (xT 5) (nI 0) 3),mO 7 6,oG 8 (mV 1) 7 false,oG 9 (mV 0) 7 false,oG 10 (.nilCheck (xT 9)) 7 false,oG 11 (fA 102 10 0) 7 false,oG 12 (lD 41 11) 7 false,oG 13 (bL 12 41) 7 false,oG 14 (bO .geq 3 8 13 3) 7 false,oO 15 (.pick (xT 7) (nB true) (xT 14))] [0,1,15] (cD 15 (sR [oO 4 (.assign (.const (.int .i64 (-1))))] [4] (.ret)) (.skip))) (.keep [0,1] (sR [mO 16 0,oO 17 (.nilCheck (xT 16)),fO 18 102 17 0,lO 19 41 18,mO 20 1,oO 21 (iA 41 19 20),lO 22 22 21,oO 23 (bL 22 22),aO 4 23] [4] (.ret))))
theorem Lu:Bh Tryz.prog 169 24 [(.tmp 4)] Gn:=Au Tryz.func169
def CL:CC:=.seq (sR [mO 17 8,mO 18 2,oO 19 (bO .lss 3 17 18 3)] [0,1,2,7,8,19] (cD 19 (.skip) (.exit 0))) (.keep [0,1,2,7,8] (.seq (.block 1 (.reg [mO 22 0,oO 23 (.nilCheck (xT 22)),fO 24 102 23 0,⟨some 25,(lD 41 24),none,[],3,[],true⟩,mO 26 1,mO 27 0,oO 28 (.nilCheck (xT 27)),fO 29 102 28 0,⟨some 30,(lD 41 29),none,[],8,[],true⟩,mO 31 1,oO 32 (iA 41 30 31),⟨some 33,(lD 22 32),none,[],11,[],true⟩,⟨some 34,(.buildSlice 22 1 #[(0,(.const (.int .u64 0)))]),none,[],12,[3,8,11],false⟩,⟨some 35,(bC .append #[(xT 33),(xT 34)] #[22,22]),none,[1],13,[3],false⟩,oO 36 (iA 41 25 26),oS (.store 22 (xT 36) (xT 35))] [0,1,2,7,8])) (.reg [mO 20 8,oO 21 (.binOp .add 3 (xT 20) (nI 1) 3),aO 8 21] [0,1,2,7,8]))) 
def He:CC:=sR [oO 6 (.assign (nI 0))] [0,1,2] (sR [mO 9 0,oO 10 (.nilCheck (xT 9)),fO 11 102 10 0,lO 12 41 11,mO 13 1,oO 14 (iA 41 12 13),lO 15 22 14,oO 16 (bL 15 22),aO 7 16] [0,1,2,7] (.seq (sR [oO 8 (.assign (nI 0))] [0,1,2,7,8] (.block 0 (.loop CL))) (.keep [0,2,7] (sR [mO 37 0,mO 38 0,oO 39 (.nilCheck (xT 38)),fO 40 102 39 3,lO 41 3 40,mO 42 2,oO 43 (bO .add 3 41 42 3),oO 44 (.nilCheck (xT 37)),fO 45 102 44 3,oS (.store 3 (xT 45) (xT 43))] [7] (sR [mO 46 7,aO 6 46] [6] (.ret))))))
theorem L0:Bh Tryz.prog 170 47 [(.tmp 6)] He:=Au Tryz.func170
def Hu:CC:=sR [oO 6 (.assign (nI 0))] [0,1,2] (.seq (sR [mO 7 0,mO 8 1,oO 9 (cL 169 #[(xT 7),(xT 8)] #[94,3]),oO 10 (.binOp .lss 3 (xT 9) (nI 0) 3),mO 11 10,oG 12 (mV 2) 11 false,oG 13 (.binOp .lss 3 (xT 12) (nI 0) 3) 11 false,oO 14 (.pick (xT 11) (nB true) (xT 13)),mO 15 14,oG 16 (mV 2) 15 false,oG 17 (mV 0) 15 false,oG 18 (.nilCheck (xT 17)) 15 false,oG 19 (fA 102 18 2) 15 false,oG 20 (lD 3 19) 15 false,oG 21 (mV 0) 15 false,oG 22 (.nilCheck (xT 21)) 15 false,oG 23 (fA 102 22 3) 15 false,oG 24 (lD 3 23) 15 false,oG 25 (bO .sub 3 20 24 3) 15 false,oG 26 (bO .gtr 3 16 25 3) 15 false,oO 27 (.pick (xT 15) (nB true) (xT 26)),mO 28 27,oG 29 (mV 2) 28 false,oG 30 (mV 0) 28 false,oG 31 (.nilCheck (xT 30)) 28 false,oG 32 (fA 102 31 1) 28 false,⟨some 33,(lD 3 32),(some (28,false)),[],26,[],true⟩,oG 34 (mV 0) 28 false,oG 35 (mV 1) 28 false,⟨some 36,(cL 169 #[(xT 34),(xT 35)] #[94,3]),(some (28,false)),[],29,[26],false⟩,oG 37 (bO .sub 3 33 36 3) 28 false,oG 38 (bO .gtr 3 29 37 3) 28 false,oO 39 (.pick (xT 28) (nB true) (xT 38))] [0,1,2,39] (cD 39 (sR [oO 6 (.assign (.const (.int .i64 (-1))))] [6] (.ret)) (.skip))) (.keep [0,1,2] (sR [mO 40 0,mO 41 1,mO 42 2,oO 43 (cL 170 #[(xT 40),(xT 41),(xT 42)] #[94,3,3]),aO 6 43] [6] (.ret))))
theorem MP:Bh Tryz.prog 172 44 [(.tmp 6)] Hu:=Au Tryz.func172
def BU:CC:=sR [mO 57 6,oO 58 (.binOp .sub 3 (xT 57) (nI 1) 3),mO 59 0,mO 60 6,oO 61 (.binOp .sub 3 (xT 60) (nI 1) 3),mO 62 1,oO 63 (cL 170 #[(xT 59),(xT 61),(xT 62)] #[94,3,3]),aO 4 58,aO 5 63] [4,5] (.ret) 
def Gz:CC:=sR [oO 4 (.assign (nI 0)),oO 5 (.assign (nI 0))] [0,1] (.seq (sR [mO 7 1,oO 8 (.binOp .lss 3 (xT 7) (nI 0) 3),mO 9 8,oG 10 (mV 1) 9 false,oG 11 (mV 0) 9 false,oG 12 (.nilCheck (xT 11)) 9 false,oG 13 (fA 102 12 2) 9 false,oG 14 (lD 3 13) 9 false,oG 15 (mV 0) 9 false,oG 16 (.nilCheck (xT 15)) 9 false,oG 17 (fA 102 16 3) 9 false,oG 18 (lD 3 17) 9 false,oG 19 (bO .sub 3 14 18 3) 9 false,oG 20 (bO .gtr 3 10 19 3) 9 false,oO 21 (.pick (xT 9) (nB true) (xT 20))] [0,1,21] (cD 21 (sR [oO 4 (.assign (.const (.int .i64 (-1)))),oO 5 (.assign (.const (.int .i64 (-1))))] [4,5] (.ret)) (.skip))) (.keep [0,1] (sR [mO 22 0,oO 23 (.nilCheck (xT 22)),fO 24 102 23 0,lO 25 41 24,oO 26 (bL 25 41),aO 6 26] [0,1,6] (.seq (sR [mO 27 6,oO 28 (.binOp .eql 3 (xT 27) (nI 0) 3),mO 29 28,oG 30 (mV 1) 29 false,oG 31 (mV 0) 29 false,oG 32 (.nilCheck (xT 31)) 29 false,oG 33 (fA 102 32 1) 29 false,⟨some 34,(lD 3 33),(some (29,false)),[],7,[],true⟩,oG 35 (mV 0) 29 false,oG 36 (mV 6) 29 false,oG 37 (.binOp .sub 3 (xT 36) (nI 1) 3) 29 false,⟨some 38,(cL 169 #[(xT 35),(xT 37)] #[94,3]),(some (29,false)),[],11,[7],false⟩,oG 39 (bO .sub 3 34 38 3) 29 false,oG 40 (bO .gtr 3 30 39 3) 29 false,oG 41 (mV 40) 29 false,oG 42 (mV 6) 41 true,oG 43 (.binOp .lss 3 (xT 42) (nI 16) 3) 41 true,oG 44 (.pick (xT 41) (xT 43) (nB false)) 29 false,oO 45 (.pick (xT 29) (nB true) (xT 44))] [0,1,6,45] (cD 45 (sR [mO 46 0,mO 47 0,oO 48 (.nilCheck (xT 47)),fO 49 102 48 0,lO 50 41 49,oO 51 (.buildSlice 41 1 #[(0,nS)]),oN 52 (bC .append #[(xT 50),(xT 51)] #[41,41]) [1],oO 53 (.nilCheck (xT 46)),fO 54 102 53 0,oS (.store 41 (xT 54) (xT 52))] [0,1,6] (.reg [mO 55 6,oO 56 (.binOp .add 3 (xT 55) (nI 1) 3),aO 6 56] [0,1,6])) (.skip))) (.keep [0,1,6] (.stop BU))))))
theorem Lr:Bh Tryz.prog 104 64 [(.tmp 4),(.tmp 5)] Gz:=Au Tryz.func104
end Go.Proofs.YtbjmaoedheiigaaGreat
namespace Go.G
open Go.RowKit
mutual
def A.soft:A→A
 |.sl _ xs=>.sl false (A.softL xs)
 |.agg cs=>.agg (A.softL cs)
 |.tup cs=>.tup (A.softL cs)
 |.pim cs=>.pim (A.softL cs)
 |.ifc t x=>.ifc t (A.soft x)
 |.any=>.any
 |.v x=>.v x
 |.pob o u off=>.pob o u off
 |.osl o u sz off len=>.osl o u sz off len
 |.pel o u i j=>.pel o u i j
 |.fnc f fs cs=>.fnc f fs cs
def A.softL:List A→List A
 |[]=>[]
 |x::xs=>A.soft x::A.softL xs
end
theorem Cu:∀ l:List A,A.softL l=l.map A.soft
 |[]=>by simp[A.softL]
 |x::l=>by simp[A.softL,Cu l]
theorem Uj (a:A):a.soft.cells=a.cells.map A.soft:=by cases a<;>simp[A.soft,A.cells,Cu]
theorem WK:∀ l:List A,(l.map A.soft).flatMap A.cells=(l.flatMap A.cells).map A.soft
 |[]=>rfl
 |x::l=>by simp[Uj,WK l]
theorem bf (a:A):a.soft.one=a.one:=by cases a<;>simp[A.soft,A.one]
theorem Rel.soft {w:World} {I:Nat→Prop} {μ:Mu} {a:A} {x:Value} (h:Rel w I μ a x):Rel w I μ a.soft x:=by
 induction h with
 |any=>simpa[A.soft] using Rel.any _ _
 |v=>simpa[A.soft] using Rel.v _ _
 |slN μ f a cap h=>
  simp only[A.soft,A.softL]
  exact .slN _ _ _ _ (fun h=>nomatch h)
 |sl μ f b off n cap sz xs g hb hn hc hf hs h1 hcell hr ih=>
  simp only[A.soft,Cu]
  refine .sl _ _ b off n cap sz _ g hb (by simpa using hn) (by simpa using hc) (fun h=>nomatch h) (fun x hx=>?_) (fun k y hk=>?_) (fun k y hk=>?_) (fun k y hk=>?_)
  ·obtain⟨x',hx',rfl⟩:=List.mem_map.1 hx
   simpa[Uj] using hs x' hx'
  all_goals
   rw[WK,List.getElem?_map,Option.map_eq_some_iff] at hk
   obtain⟨y',hy,rfl⟩:=hk
  ·rw[bf];exact h1 k y' hy
  ·exact hcell k y' hy
  ·exact ih k y' hy
 |agg μ cs vs hl _ ih=>
  simp only[A.soft,Cu]
  refine .agg _ _ _ (by simpa using hl) fun k y hk=>?_
  rw[List.getElem?_map,Option.map_eq_some_iff] at hk
  obtain⟨y',hy,rfl⟩:=hk
  exact ih k y' hy
 |tup μ cs vs hl _ ih=>
  simp only[A.soft,Cu]
  refine .tup _ _ _ (by simpa using hl) fun k y hk=>?_
  rw[List.getElem?_map,Option.map_eq_some_iff] at hk
  obtain⟨y',hy,rfl⟩:=hk
  exact ih k y' hy
 |pim μ b off cs g hb h1 hcell hr ih=>
  simp only[A.soft,Cu]
  refine .pim _ b off _ g hb (fun k y hk=>?_) (fun k y hk=>?_) (fun k y hk=>?_)
  all_goals
   rw[List.getElem?_map,Option.map_eq_some_iff] at hk
   obtain⟨y',hy,rfl⟩:=hk
  ·rw[bf];exact h1 k y' hy
  ·exact hcell k y' hy
  ·exact ih k y' hy
 |pob _ _ _ _ _ _ h1 h2 h3=>simpa[A.soft] using Rel.pob _ _ _ _ _ _ h1 h2 h3
 |osl _ _ _ _ _ _ _ _ h1 h2 h4 h5 h3=>simpa[A.soft] using Rel.osl _ _ _ _ _ _ _ _ h1 h2 h4 h5 h3
 |pel _ _ _ _ _ _ _ h1 h2 h3=>simpa[A.soft] using Rel.pel _ _ _ _ _ _ _ h1 h2 h3
 |fnc _ _ _ _ _ _ hl0 h0 hl h _ _=>simpa[A.soft] using Rel.fnc _ _ _ _ _ _ hl0 h0 hl h
 |ifc _ _ _ _ _ ih=>simpa[A.soft] using Rel.ifc _ _ _ _ ih
theorem Spec.soft {P:Program} {f:FuncId} {as' as'':List A} {r:A} (h:Spec P f as'' r) (e:A.softL as'=as''):Spec P f as' r:=by
 subst e
 refine⟨h.1,fun w I vs hI ht hn ha=>h.2 w I vs hI ht (by simpa[Cu] using hn) fun k y hk=>?_⟩
 rw[Cu,List.getElem?_map,Option.map_eq_some_iff] at hk
 obtain⟨y',hy,rfl⟩:=hk
 exact(ha k y' hy).soft
theorem SpecB.soft {P:Program} {f:FuncId} {as' as'':List A} {r:A} (h:SpecB P f as'' r) (e:A.softL as'=as''):SpecB P f as' r:=by
 subst e
 refine⟨h.1,fun w I J vs hI hJ ht hn ha=>h.2 w I J vs hI hJ ht (by simpa[Cu] using hn) fun k y hk=>?_⟩
 rw[Cu,List.getElem?_map,Option.map_eq_some_iff] at hk
 obtain⟨y',hy,rfl⟩:=hk
 exact(ha k y' hy).soft
theorem qT {H:Hp} {a:A} (h:a.bare=true):Jw H a a.soft:=fun c w I μ v hs hr=>(Ab h c w I μ v hs hr).soft
mutual
def A.ren (g:Nm→Nm) (δ:Nm→Nat):A→A
 |.pob o u off=>.pob (g o) (u+δ o) off
 |.osl o u sz off len=>.osl (g o) (u+δ o) sz off len
 |.pel o u i j=>.pel (g o) (u+δ o) i j
 |.agg cs=>.agg (A.renL g δ cs)
 |.tup cs=>.tup (A.renL g δ cs)
 |.fnc f fs cs=>.fnc f (A.renL g δ fs) (A.renL g δ cs)
 |.ifc t x=>.ifc t (A.ren g δ x)
 |.any=>.any
 |.v x=>.v x
 |.sl f xs=>.sl f xs
 |.pim cs=>.pim cs
def A.renL (g:Nm→Nm) (δ:Nm→Nat):List A→List A
 |[]=>[]
 |x::xs=>A.ren g δ x::A.renL g δ xs
end
mutual
def A.refs (S:Nm→Prop):A→Prop
 |.pob o u off=>S o
 |.osl o u sz off len=>S o
 |.pel o u i j=>S o
 |.agg cs=>A.refsL S cs
 |.tup cs=>A.refsL S cs
 |.fnc f fs cs=>A.refsL S fs∧A.refsL S cs
 |.ifc t x=>A.refs S x
 |.any=>True
 |.v x=>True
 |.sl f xs=>True
 |.pim cs=>True
def A.refsL (S:Nm→Prop):List A→Prop
 |[]=>True
 |x::xs=>A.refs S x∧A.refsL S xs
end
theorem Cm {g:Nm→Nm} {δ:Nm→Nat}:∀ l:List A,A.renL g δ l=l.map (A.ren g δ)
 |[]=>by simp[A.renL]
 |x::l=>by simp[A.renL,Cm l]
theorem refsL_iff {S:Nm→Prop}:∀ {l:List A},A.refsL S l ↔ ∀ x,x ∈ l→x.refs S
 |[]=>by simp[A.refsL]
 |x::l=>by simp[A.refsL,refsL_iff (l:=l)]
theorem W5 {g:Nm→Nm} {δ:Nm→Nat} (a:A):(a.ren g δ).cells=a.cells.map (A.ren g δ):=by cases a<;>simp[A.ren,A.cells,Cm]
theorem aM {g:Nm→Nm} {δ:Nm→Nat}:∀ l:List A,(l.map (A.ren g δ)).flatMap A.cells=(l.flatMap A.cells).map (A.ren g δ)
 |[]=>rfl
 |x::l=>by simp[W5,aM l]
theorem gA {g:Nm→Nm} {δ:Nm→Nat} (a:A):(a.ren g δ).one=a.one:=by cases a<;>simp[A.ren,A.one]
theorem fU {S:Nm→Prop} {a y:A} (h:a.refs S) (hy:y ∈ a.cells):y.refs S:=by
 cases a<;>simp[A.cells] at hy<;>first | (subst hy;exact h) | exact refsL_iff.1 (by simpa[A.refs] using h) y hy
theorem Rel.ren {w:World} {I:Nat→Prop} {μ:Mu} {a:A} {v:Value} (h:Rel w I μ a v):∀ {μ':Mu} {S:Nm→Prop} {g:Nm→Nm} {δ:Nm→Nat},a.refs S→(∀ o,S o→1≤(μ o).u→μ' (g o)={ μ o with u:=(μ o).u+δ o })→Rel w I μ' (a.ren g δ) v:=by
 induction h with
 |any=>intro μ' S g δ _ _;simpa[A.ren] using Rel.any _ _
 |v=>intro μ' S g δ _ _;simpa[A.ren] using Rel.v _ _
 |slN _ _ _ _ h=>intro μ' S g δ _ _;simpa[A.ren] using Rel.slN _ _ _ _ h
 |sl μ f b off n cap sz xs g hb hn hc hf hs h1 hcell hr _=>intro μ' S g' δ _ _;simpa[A.ren] using Rel.sl _ f b off n cap sz xs g hb hn hc hf hs h1 hcell hr
 |pim μ b off cs g hb h1 hcell hr _=>intro μ' S g' δ _ _;simpa[A.ren] using Rel.pim _ b off cs g hb h1 hcell hr
 |agg μ cs vs hl _ ih=>
  intro μ' S g δ hS hμ
  simp only[A.ren,Cm]
  refine .agg _ _ _ (by simpa using hl) fun k y hk=>?_
  rw[List.getElem?_map,Option.map_eq_some_iff] at hk
  obtain⟨y',hy,rfl⟩:=hk
  exact ih k y' hy (refsL_iff.1 (by simpa[A.refs] using hS) y' (List.mem_of_getElem? hy)) hμ
 |tup μ cs vs hl _ ih=>
  intro μ' S g δ hS hμ
  simp only[A.ren,Cm]
  refine .tup _ _ _ (by simpa using hl) fun k y hk=>?_
  rw[List.getElem?_map,Option.map_eq_some_iff] at hk
  obtain⟨y',hy,rfl⟩:=hk
  exact ih k y' hy (refsL_iff.1 (by simpa[A.refs] using hS) y' (List.mem_of_getElem? hy)) hμ
 |fnc μ f fs caps us vs hl0 _ hl _ ih0 ih=>
  intro μ' S g δ hS hμ
  simp only[A.refs] at hS
  simp only[A.ren,Cm]
  refine .fnc _ _ _ _ _ _ (by simpa using hl0) (fun k y hk=>?_) (by simpa using hl) fun k y hk=>?_
  ·rw[List.getElem?_map,Option.map_eq_some_iff] at hk
   obtain⟨y',hy,rfl⟩:=hk
   exact ih0 k y' hy (refsL_iff.1 hS.1 y' (List.mem_of_getElem? hy)) hμ
  ·rw[List.getElem?_map,Option.map_eq_some_iff] at hk
   obtain⟨y',hy,rfl⟩:=hk
   exact ih k y' hy (refsL_iff.1 hS.2 y' (List.mem_of_getElem? hy)) hμ
 |ifc _ _ _ _ _ ih=>
  intro μ' S g δ hS hμ
  simp only[A.ren]
  exact .ifc _ _ _ _ (ih (by simpa[A.refs] using hS) hμ)
 |pob μ o u off b k h1 h2 h3=>
  intro μ' S g δ hS hμ
  have e:=hμ o (by simpa[A.refs] using hS) (by omega)
  simp only[A.ren]
  exact .pob _ _ _ _ _ _ (by omega) (by rw[e];simpa using h2) fun hu=>by rw[e] at hu ⊢; exact h3 (by simpa using hu)
 |osl μ o u sz off len a cap h1 h2 h4 h5 h3=>
  intro μ' S g δ hS hμ
  have e:=hμ o (by simpa[A.refs] using hS) (by omega)
  simp only[A.ren]
  exact .osl _ _ _ _ _ _ _ _ (by omega) (by rw[e];simpa using h2) h4 h5 fun hu=>by rw[e] at hu ⊢; exact h3 (by simpa using hu)
 |pel μ o u i j b k h1 h2 h3=>
  intro μ' S g δ hS hμ
  have e:=hμ o (by simpa[A.refs] using hS) (by omega)
  simp only[A.ren]
  exact .pel _ _ _ _ _ _ _ (by omega) (by rw[e];simpa using h2) fun hu=>by rw[e] at hu ⊢; exact h3 (by simpa using hu)
def Ob.ren (g:Nm→Nm) (δ:Nm→Nat):Ob→Ob
 |.none=>.none
 |.cells cs=>.cells (A.renL g δ cs)
 |.arr sz xs=>.arr sz (A.renL g δ xs)
def Ob.refs (S:Nm→Prop):Ob→Prop
 |.none=>True
 |.cells cs=>A.refsL S cs
 |.arr sz xs=>A.refsL S xs
theorem Uy {g:Nm→Nm} {δ:Nm→Nat} {L:vg} {ob:Ob}:Ec L (ob.ren g δ)=Ec L ob:=by cases ob<;>rfl
theorem OSim.ren {w:World} {I:Nat→Prop} {μ μ':Mu} {L L':vg} {ob:Ob} {S:Nm→Prop} {g:Nm→Nm} {δ:Nm→Nat} (h:OSim w I μ L ob) (hS:ob.refs S) (hμ:∀ o,S o→1≤(μ o).u→μ' (g o)={ μ o with u:=(μ o).u+δ o }) (hL:L'={ L with u:=L'.u }) :
  OSim w I μ' L' (ob.ren g δ):=by
 rw[hL]
 cases ob with
 |none=>trivial
 |cells cs=>
  obtain⟨vs,h1,h2,h3⟩:=h
  simp only[Ob.ren,Cm]
  refine⟨vs,h1,by simpa using h2,fun k y hk=>?_⟩
  rw[List.getElem?_map,Option.map_eq_some_iff] at hk
  obtain⟨y',hy,rfl⟩:=hk
  exact⟨by rw[gA];exact(h3 k y' hy).1,(h3 k y' hy).2.ren (refsL_iff.1 hS y' (List.mem_of_getElem? hy)) hμ⟩
 |arr sz xs=>
  simp only[Ob.ren,Cm]
  obtain⟨h0,⟨h1,h2⟩ | ⟨h1,vs,h3,h4,h5,h6,h7⟩⟩:=h
  ·exact⟨h0,.inl ⟨h1,by rw[h2];rfl⟩⟩
  ·refine⟨h0,.inr ⟨h1,vs,h3,h4,by simpa using h5,fun x hx=>?_,fun k y hk=>?_⟩⟩
   ·obtain⟨x',hx',rfl⟩:=List.mem_map.1 hx
    simpa[W5] using h6 x' hx'
   ·rw[aM,List.getElem?_map,Option.map_eq_some_iff] at hk
    obtain⟨y',hy,rfl⟩:=hk
    obtain⟨x,hx,hy'⟩:=List.mem_flatMap.1 (List.mem_of_getElem? hy)
    exact⟨by rw[gA];exact(h7 k y' hy).1,(h7 k y' hy).2.ren (fU (refsL_iff.1 hS x hx) hy') hμ⟩
def Ds (P:Program) (w0:World) (I0:Nat→Prop) (M0:Nm→Nat→Prop) (n:Nat) (m0:Mu):Cx:=⟨P,w0,I0,M0,n,m0⟩
@[simp] theorem AiO {P:Program} {w0:World} {I0:Nat→Prop} {M0:Nm→Nat→Prop} {n:Nat} {m0:Mu}:(Ds P w0 I0 M0 n m0).P=P:=rfl
def Ia (P:Program) (f:FuncId) (k:Nat) (args:List A) (Hc:Hp) (r:A) (Hr:Hp):Prop:=
 WA P f=true∧∀ (w:World) (I:Nat→Prop) (M0:Nm→Nat→Prop) (n:Nat) (μ:Mu) (vs:Array Value),(∀ (o:Nm) (b:Nat),(Hc o).ob = .none→¬ M0 o b)→Sim (Ds P w I M0 n μ) w I μ Hc→vs.size=args.length→(∀ (k:Nat) (y:A),args[k]? = some y→Rel w I μ y (vs.getD k undef)) →
  Calls P f vs w fun e w'=>∃ v,e = .returned v∧∃ H' I' μ',Sim (Ds P w I M0 n μ) w' I' μ' H'∧Rel w' I' μ' r v∧∀ (i:Nat) (p:Nm),i<k→H' (i::p)=Hr (i::p)
theorem Sim.of_n {P:Program} {w0 w:World} {I0 I:Nat→Prop} {M0:Nm→Nat→Prop} {n n':Nat} {m0 μ:Mu} {H:Hp} (h:Sim (Ds P w0 I0 M0 n m0) w I μ H):Sim (Ds P w0 I0 M0 n' m0) w I μ H:=
 ⟨h.kept,h.lt,h.old,h.new,h.ver,h.ob,h.apart,h.own,h.mle,h.tag,h.tab⟩
def Mc (c:Cx) (rs:List ResultVar) (k:Nat) (r:A) (Hr:Hp):Exit→Sta→Prop:=fun e st=>SH c (jX c.P rs (fun r0 H=>r0=r∧∀ (i:Nat) (p:Nm),i<k→H (i::p)=Hr (i::p)) e) st
theorem Oc {c:Cx} {rs:List ResultVar} {k:Nat} {r:A} {Hr:Hp} {e:Exit} {st st':Sta} (h:Le c st st') (k':Mc c rs k r Hr e st'):Mc c rs k r Hr e st:=Dv h k'
theorem E7 {c:Cx} {rs:List ResultVar} {k:Nat} {r r0:A} {Hr:Hp} {st:Sta} (h:Ll c.P st rs=some r0) (he:r0=r) (hh:∀ (i:Nat) (p:Nm),i<k→st.H (i::p)=Hr (i::p)):Mc c rs k r Hr .ret st:=Dn ⟨r0,h,he,hh⟩
theorem NF {c:Cx} {rs:List ResultVar} {k:Nat} {r r0:A} {Hr:Hp} {st:Sta} (h:Ll c.P st rs=some r0) (he:r0=r) (hh:∀ (i:Nat) (p:Nm),i<k→st.H (i::p)=Hr (i::p)):Mc c rs k r Hr .normal st:=Dn ⟨r0,h,he,hh⟩
theorem Xj {P:Program} {f:FuncId} {n k:Nat} {rs:List ResultVar} {cc:CC} {args:List A} {Hc:Hp} {r:A} {Hr:Hp} (t:Bh P f n rs cc) (ha:args.length≤n)
  (h:∀ w0 I0 M0 m0,(∀ (o:Nm) (b:Nat),(Hc o).ob = .none→¬ M0 o b)→WPC (Ds P w0 I0 M0 n m0) cc (Mc (Ds P w0 I0 M0 n m0) rs k r Hr) ⟨Qb args,Hc⟩):Ia P f k args Hc r Hr:=by
 obtain⟨hm,hk,fn,code,hf,hb,hn,hrs,hc⟩:=t
 refine⟨hk,fun w I M0 n' μ vs hN hs hl har=>?_⟩
 refine(Ul (Q:=fun r0 H=>r0=r∧∀ (i:Nat) (p:Nm),i<k→H (i::p)=Hr (i::p)) hf hb (c:=Ds P w I M0 n μ) rfl hn.symm hl (by omega) (Sim.of_n hs) har (fun a w1 I1 μ1 hsr=>wp_mono (Og (c:=Ds P w I M0 n μ) hm hc (h w I M0 μ hN) a w1 I1 μ1 hsr) fun e a' w' ⟨st',I',μ',g1,st2,g2,g3⟩=>by
   obtain⟨I2,μ2,g4⟩:=g2 a' w' I' μ' g1
   exact⟨st2,I2,μ2,g4,by rw[hrs];exact g3⟩)).mono fun e w' ⟨v,r0,H',I',μ',he,h1,h2,h3,h4⟩=>?_
 subst h3
 exact⟨v,he,H',I',μ',h1.of_n,h2,h4⟩
theorem Iz {P:Program} {f:FuncId} {n k:Nat} {rs:List ResultVar} {cc:CC} {args:List A} {Hc:Hp} {r:A} {Hr:Hp} (t:Bh P f n rs cc) (ha:args.length≤n)
  (h:∀ w0 I0 M0 m0,WPC (Ds P w0 I0 M0 n m0) cc (Mc (Ds P w0 I0 M0 n m0) rs k r Hr) ⟨Qb args,Hc⟩):Ia P f k args Hc r Hr:=Xj t ha fun w0 I0 M0 m0 _=>h w0 I0 M0 m0
def TD (rs:List Nat):Nm→Nm
 |i::p=>rs.getD i 0::p
 |[]=>[]
def Wj (rs:List Nat):Nm→Nm
 |j::p=>rs.idxOf j::p
 |[]=>[]
def V9 (rs:List Nat) (m:Nat):Nm→Prop
 |j::p=>rs.idxOf j<m
 |[]=>False
def HB (k:Nat):Nm→Prop
 |i::p=>i<k
 |[]=>False
def MZ (rs:List Nat) (m:Nat) (H:Hp):Nm→Nat
 |i::p=>if i<m then 0 else if i<rs.length then (H (rs.getD i 0::p)).u else 0
 |[]=>0
def VOb.ren (g:Nm→Nm) (δ:Nm→Nat) (d:Nat) (x:VOb):VOb:=⟨x.u+d,x.ob.ren g δ⟩
def HA (rs:List Nat) (m:Nat) (H Hr:Hp):Hp
 |j::p=>(Hr (rs.idxOf j::p)).ren (TD rs) (MZ rs m H) (MZ rs m H (rs.idxOf j::p))
 |[]=>⟨0,.none⟩
theorem Ls {rs:List Nat} (hnd:rs.Nodup) {i:Nat} (h:i<rs.length):rs.idxOf (rs.getD i 0)=i:=by
 have e:rs.getD i 0=rs[i]:=by simp[List.getD,h]
 rw[e]
 exact hnd.idxOf_getElem i h
theorem QX {rs:List Nat} {j:Nat} (h:j ∈ rs):rs.getD (rs.idxOf j) 0=j:=by
 have hl:=List.idxOf_lt_length_iff.2 h
 simp[List.getD,hl]
theorem idx_mem {rs:List Nat} {j:Nat}:rs.idxOf j<rs.length ↔ j ∈ rs:=List.idxOf_lt_length_iff
theorem dW {g:Nm→Nm} {δ:Nm→Nat} {d:Nat} {x:VOb} (h:(x.ren g δ d).ob = .none):x.ob = .none:=by
 cases x with
 |mk u ob=>cases ob<;>first | rfl | cases h
theorem Sx {P:Program} {f:FuncId} {rs:List Nat} {m:Nat} {args:List A} {Hc Hr:Hp} {r:A} {H:Hp} (hnd:rs.Nodup) (hm:m≤rs.length)
  (hS:Ia P f rs.length (A.renL (Wj rs) (fun _=>0) args) Hc r Hr)
  (h1:∀ (i:Nat) (p:Nm),i<m→Hc (i::p)=(H (rs.getD i 0::p)).ren (Wj rs) (fun _=>0) 0) (h2:∀ (i:Nat) (p:Nm),m≤i→Hc (i::p)=⟨0,.none⟩) (h3:Hc []=⟨0,.none⟩)
  (ha:A.refsL (V9 rs m) args) (hc:∀ (i:Nat) (p:Nm),i<m→(H (rs.getD i 0::p)).ob.refs (V9 rs m))
  (hr:r.refs (HB rs.length)) (ho:∀ (i:Nat) (p:Nm),i<rs.length→(Hr (i::p)).ob.refs (HB rs.length))
  (hv:∀ (i:Nat) (p:Nm),m≤i→i<rs.length→(Hr (i::p)).ob = .none∨1≤(Hr (i::p)).u) :
  Vw P H f args (r.ren (TD rs) (MZ rs m H)) (.fn rs (HA rs m H Hr)):=by
 refine⟨hS.1,fun c w I μ vs hP hs hl har=>?_⟩
 let nm:Nat→Nm→Nm:=fun i p=>rs.getD i 0::p
 let μc:Mu:=fun o=>match o with
  |i::p=>if i<m then μ (nm i p) else Wk (i::p)
  |[]=>Wk []
 let M1:Nm→Nat→Prop:=fun o b=>∃ i p,o=i::p∧i<m∧Ec (μ (nm i p)) (H (nm i p)).ob=true∧b=(μ (nm i p)).b
 have hμ:∀ o,V9 rs m o→1≤(μ o).u→μc (Wj rs o)={ μ o with u:=(μ o).u+(fun _=>0) o }:=fun o ho _=>by
  cases o with
  |nil=>exact ho.elim
  |cons j p=>
   have hj:rs.idxOf j<m:=ho
   show(if rs.idxOf j<m then μ (nm (rs.idxOf j) p) else _)=_
   rw[if_pos hj]
   have:nm (rs.idxOf j) p=j::p:=by show rs.getD (rs.idxOf j) 0::p=_;rw[QX (idx_mem.1 (by omega))]
   rw[this]
   rfl
 have nm_ne:∀ {i i':Nat} {p p':Nm},i<rs.length→i'<rs.length→i::p ≠ i'::p'→nm i p ≠ nm i' p':=fun {i i' p p'} hi hi' hne e=>by
  have e1:rs.getD i 0=rs.getD i' 0:=by injection e
  have e2:p=p':=by injection e
  have:=Ls hnd hi
  rw[e1,Ls hnd hi'] at this
  exact hne (by rw[this,e2])
 have own1:∀ (i:Nat) (p:Nm),Ec (μc (i::p)) (Hc (i::p)).ob=true→i<m∧Ec (μ (nm i p)) (H (nm i p)).ob=true∧μc (i::p)=μ (nm i p):=fun i p h=>by
  by_cases hi:i<m
  ·have e:μc (i::p)=μ (nm i p):=if_pos hi
   rw[e,h1 i p hi] at h
   simp only[VOb.ren,Uy] at h
   exact⟨hi,h,e⟩
  ·rw[h2 i p (by omega)] at h;cases h
 have start:Sim (Ds P w I M1 0 μc) w I μc Hc:=by
  refine⟨⟨rfl,rfl,rfl,Cc _,fun _ _ _=>rfl⟩,hs.lt,fun _ h=>h,fun b hb=>.inl hb,fun o=>?_,fun o=>?_,fun o o' k k' hne=>?_,fun o k=>?_,MuLe.refl _,fun o k=>?_,by subst hP;exact hs.tab⟩
  ·cases o with
   |nil=>rw[h3];rfl
   |cons i p=>
    by_cases hi:i<m
    ·have e:μc (i::p)=μ (nm i p):=if_pos hi
     rw[e,h1 i p hi,hs.ver];rfl
    ·have e:μc (i::p)=Wk (i::p):=if_neg hi
     rw[e,h2 i p (by omega)];rfl
  ·cases o with
   |nil=>rw[h3];trivial
   |cons i p=>
    by_cases hi:i<m
    ·have e:μc (i::p)=μ (nm i p):=if_pos hi
     rw[e,h1 i p hi]
     exact(hs.ob (nm i p)).ren (hc i p hi) hμ rfl
    ·rw[h2 i p (by omega)];trivial
  ·cases o with
   |nil=>rw[h3] at k;cases k
   |cons i p=>
    cases o' with
    |nil=>rw[h3] at k';cases k'
    |cons i' p'=>
     obtain⟨q1,q2,q3⟩:=own1 i p k
     obtain⟨r1,r2,r3⟩:=own1 i' p' k'
     rw[q3,r3]
     exact hs.apart _ _ q2 r2 (nm_ne (by omega) (by omega) hne)
  ·cases o with
   |nil=>rw[h3] at k;cases k
   |cons i p=>
    obtain⟨q1,q2,q3⟩:=own1 i p k
    rw[q3]
    obtain⟨g1,g2,g3⟩:=hs.own _ q2
    exact⟨g1,.inl ⟨i,p,rfl,q1,q2,rfl⟩,g3⟩
  ·cases o with
   |nil=>rw[h3] at k;cases k
   |cons i p=>
    obtain⟨q1,q2,q3⟩:=own1 i p k
    rw[q3]
    exact hs.tag _ q2
 have harg:∀ (k:Nat) (y:A),(A.renL (Wj rs) (fun _=>0) args)[k]? = some y→Rel w I μc y (vs.getD k undef):=fun k y hk=>by
  rw[Cm,List.getElem?_map,Option.map_eq_some_iff] at hk
  obtain⟨y',hy,rfl⟩:=hk
  exact(har k y' hy).ren (refsL_iff.1 ha y' (List.mem_of_getElem? hy)) hμ
 refine(hS.2 w I M1 0 μc vs (fun o b h ⟨i,p,e,hi,hb,_⟩=>by
  subst e
  rw[h1 i p hi] at h
  rw[show(H (nm i p)).ob = .none from dW h] at hb
  cases hb) start (by simpa[Cm] using hl) harg).mono fun e w' ⟨v,he,H',I',μ',hs',hrel,hH'⟩=>⟨v,he,I',?_⟩
 let δ:=MZ rs m H
 let μ2:Mu:=fun n=>match n with
  |j::p=>if j ∈ rs then (if rs.idxOf j<m∨1≤(μ' (rs.idxOf j::p)).u then { μ' (rs.idxOf j::p) with u:=(μ' (rs.idxOf j::p)).u+δ (rs.idxOf j::p) } else μ (j::p)) else μ (j::p)
  |[]=>μ []
 have δ0:∀ {i:Nat} {p:Nm},i<m→δ (i::p)=0:=fun {i p} h=>if_pos h
 have δ1:∀ {i:Nat} {p:Nm},¬ i<m→i<rs.length→δ (i::p)=(H (nm i p)).u:=fun {i p} h h'=>by
  show(if i<m then _ else _)=_
  rw[if_neg h,if_pos h']
 have nmj:∀ {j:Nat} {p:Nm},j ∈ rs→nm (rs.idxOf j) p=j::p:=fun {j p} h=>by show rs.getD (rs.idxOf j) 0::p=_;rw[QX h]
 have app_in:∀ {j:Nat} {p:Nm},j ∈ rs→(Eff.fn rs (HA rs m H Hr)).app H (j::p)=HA rs m H Hr (j::p):=fun {j p} h=>by simp[Eff.app,h]
 have app_out:∀ {j:Nat} {p:Nm},j ∉ rs→(Eff.fn rs (HA rs m H Hr)).app H (j::p)=H (j::p):=fun {j p} h=>by simp[Eff.app,h]
 have app_nil':(Eff.fn rs (HA rs m H Hr)).app H []=H []:=rfl
 have mu_in:∀ {j:Nat} {p:Nm},j ∈ rs→(rs.idxOf j<m∨1≤(μ' (rs.idxOf j::p)).u)→μ2 (j::p)={ μ' (rs.idxOf j::p) with u:=(μ' (rs.idxOf j::p)).u+δ (rs.idxOf j::p) }:=fun {j p} h h'=>by
  show(if j ∈ rs then _ else _)=_
  rw[if_pos h,if_pos h']
 have mu_old:∀ {j:Nat} {p:Nm},j ∈ rs→¬ (rs.idxOf j<m∨1≤(μ' (rs.idxOf j::p)).u)→μ2 (j::p)=μ (j::p):=fun {j p} h h'=>by
  show(if j ∈ rs then _ else _)=_
  rw[if_pos h,if_neg h']
 have mu_out:∀ {j:Nat} {p:Nm},j ∉ rs→μ2 (j::p)=μ (j::p):=fun {j p} h=>by
  show(if j ∈ rs then _ else _)=_
  rw[if_neg h]
 have hle:MuLe μ μ2:=fun o=>by
  cases o with
  |nil=>exact⟨Cc _,fun _=>rfl⟩
  |cons j p=>
   by_cases hj:j ∈ rs
   ·by_cases hi:rs.idxOf j<m
    ·rw[mu_in hj (.inl hi),δ0 hi]
     have e:μc (rs.idxOf j::p)=μ (j::p):=by
      show(if rs.idxOf j<m then _ else _)=_
      rw[if_pos hi,nmj hj]
     have:=hs'.mle (rs.idxOf j::p)
     change (μc (rs.idxOf j::p)).u≤_∧(_=(μc (rs.idxOf j::p)).u→_=μc (rs.idxOf j::p)) at this
     rw[e] at this
     exact⟨this.1,fun q=>by rw[← this.2 q];rfl⟩
    ·by_cases hu:1≤(μ' (rs.idxOf j::p)).u
     ·rw[mu_in hj (.inr hu),δ1 hi (idx_mem.2 hj),nmj hj,← hs.ver]
      exact⟨by simp,fun q=>by simp at q;omega⟩
     ·rw[mu_old hj (by omega)];exact⟨Cc _,fun _=>rfl⟩
   ·rw[mu_out hj];exact⟨Cc _,fun _=>rfl⟩
 have notM1:∀ {n:Nm} {b:Nat},Ec (μ n) (H n).ob=true→b=(μ n).b→(∀ j p,n=j::p→j ∉ rs)→¬ ∃ o,M1 o b:=fun {n b} hb e hn ⟨_,i,p,_,q1,q2,q3⟩=>by
  refine hs.apart n (nm i p) hb q2 (fun e'=>?_) (by rw[← e,q3])
  refine hn _ _ e' ?_
  have:i<rs.length:=by omega
  simp[List.getD,this]
 have hx:Ext I μ w I' μ2 w':=⟨fun b h=>hs'.old b h,fun b h=>hs'.kept.block b (hs.lt b h) (fun ⟨_,i,p,_,q1,q2,q3⟩=>(hs.own _ q2).1 (by rw[← q3];exact h)),hle⟩
 have hμ2:∀ o,HB rs.length o→1≤(μ' o).u→μ2 (TD rs o)={ μ' o with u:=(μ' o).u+δ o }:=fun o ho h1=>by
  cases o with
  |nil=>exact ho.elim
  |cons i p=>
   have hi:i<rs.length:=ho
   have e:=Ls hnd hi
   have hmem:rs.getD i 0 ∈ rs:=idx_mem.1 (by rw[e];exact hi)
   show μ2 (rs.getD i 0::p)=_
   rw[mu_in hmem (.inr (by rw[e];exact h1)),e]
 have oH:∀ {j:Nat} {p:Nm},j ∈ rs→(H' (rs.idxOf j::p))=Hr (rs.idxOf j::p):=fun {j p} h=>hH' _ _ (idx_mem.2 h)
 have own2:∀ {j:Nat} {p:Nm},j ∈ rs→Ec (μ2 (j::p)) (HA rs m H Hr (j::p)).ob=true→Ec (μ' (rs.idxOf j::p)) (H' (rs.idxOf j::p)).ob=true∧(μ2 (j::p)).b=(μ' (rs.idxOf j::p)).b:=fun {j p} hj h=>by
  simp only[HA,VOb.ren,Uy] at h
  by_cases hi:rs.idxOf j<m∨1≤(μ' (rs.idxOf j::p)).u
  ·rw[mu_in hj hi] at h ⊢
   rw[oH hj]
   exact⟨by cases hq:(Hr (rs.idxOf j::p)).ob<;>rw[hq] at h<;>exact h,rfl⟩
  ·rcases hv (rs.idxOf j) p (by omega) (idx_mem.2 hj) with e | e
   ·rw[e] at h;cases h
   ·rw[← oH hj,← hs'.ver] at e;omega
 have own3:∀ {j:Nat} {p:Nm},j ∈ rs→Ec (μ2 (j::p)) (HA rs m H Hr (j::p)).ob=true→(μ2 (j::p)).e=(μ' (rs.idxOf j::p)).e:=fun {j p} hj h=>by
  simp only[HA,VOb.ren,Uy] at h
  by_cases hi:rs.idxOf j<m∨1≤(μ' (rs.idxOf j::p)).u
  ·rw[mu_in hj hi]
  ·rcases hv (rs.idxOf j) p (by omega) (idx_mem.2 hj) with e | e
   ·rw[e] at h;cases h
   ·rw[← oH hj,← hs'.ver] at e;omega
 have blk:∀ {i:Nat} {p:Nm},Ec (μ' (i::p)) (H' (i::p)).ob=true→¬ I' (μ' (i::p)).b∧(M1 (i::p) (μ' (i::p)).b∨w.heap.size≤(μ' (i::p)).b)∧(μ' (i::p)).b<w'.heap.size:=fun {i p} h=>hs'.own _ h
 refine⟨μ2,hx,⟨?_,hs'.lt,fun b h=>hs'.old b (hs.old b h),fun b h=>?_,fun o=>?_,fun o=>?_,fun o o' k k' hne=>?_,fun o k=>?_,hs.mle.trans hle,fun o k=>?_,by subst hP;exact hs'.tab⟩,hrel.ren hr hμ2⟩
 ·have k1:=hs.kept
  have k2:=hs'.kept
  refine⟨k2.os.trans k1.os,k2.tape.trans k1.tape,k2.output.trans k1.output,Nat.le_trans k1.size k2.size,fun b hb hM=>?_⟩
  refine(k2.block b (Nat.lt_of_lt_of_le hb k1.size) (fun ⟨_,i,p,_,q1,q2,q3⟩=>?_)).trans (k1.block b hb hM)
  rcases (hs.own _ q2).2.1 with g | g
  ·rw[← q3] at g;exact hM ⟨_,g⟩
  ·rw[← q3] at g;omega
 ·rcases hs'.new b h with g | g
  ·exact hs.new b g
  ·exact .inr (Nat.le_trans hs.kept.size g)
 ·cases o with
  |nil=>exact hs.ver []
  |cons j p=>
   by_cases hj:j ∈ rs
   ·rw[app_in hj]
    show _=(Hr (rs.idxOf j::p)).u+δ (rs.idxOf j::p)
    rw[← oH hj,← hs'.ver]
    by_cases hi:rs.idxOf j<m∨1≤(μ' (rs.idxOf j::p)).u
    ·rw[mu_in hj hi]
    ·rw[mu_old hj hi,δ1 (by omega) (idx_mem.2 hj),nmj hj,hs.ver];omega
   ·rw[app_out hj,mu_out hj];exact hs.ver _
 ·cases o with
  |nil=>exact OSim.keep hx (fun hb=>hs'.kept.block _ (hs.own _ hb).2.2 (notM1 hb rfl (fun j p e=>nomatch e))) (hs.ob [])
  |cons j p=>
   by_cases hj:j ∈ rs
   ·rw[app_in hj]
    by_cases hi:rs.idxOf j<m∨1≤(μ' (rs.idxOf j::p)).u
    ·rw[mu_in hj hi]
     have:=hs'.ob (rs.idxOf j::p)
     rw[oH hj] at this
     exact this.ren (ho _ _ (idx_mem.2 hj)) hμ2 rfl
    ·rcases hv (rs.idxOf j) p (by omega) (idx_mem.2 hj) with e | e
     ·simp only[HA,VOb.ren,e];trivial
     ·rw[← oH hj,← hs'.ver] at e;omega
   ·rw[app_out hj,mu_out hj]
    exact OSim.keep hx (fun hb=>hs'.kept.block _ (hs.own _ hb).2.2 (notM1 hb rfl (fun j' p' e=>by cases e;exact hj))) (hs.ob _)
 ·have cross:∀ {j:Nat} {p:Nm} {n:Nm},j ∈ rs→Ec (μ2 (j::p)) (HA rs m H Hr (j::p)).ob=true→Ec (μ n) (H n).ob=true→(∀ j p,n=j::p→j ∉ rs)→(μ2 (j::p)).b ≠ (μ n).b:=fun {j p n} hj h h' hn e=>by
   obtain⟨q1,q2⟩:=own2 hj h
   obtain⟨_,g,_⟩:=blk q1
   rw[q2] at e
   rcases g with g | g
   ·exact notM1 h' e hn ⟨_,g⟩
   ·have:=(hs.own _ h').2.2;omega
  cases o with
  |nil=>
   cases o' with
   |nil=>exact(hne rfl).elim
   |cons j' p'=>
    by_cases hj':j' ∈ rs
    ·rw[app_in hj'] at k'
     exact Ne.symm (cross hj' k' k (fun j p e=>nomatch e))
    ·rw[app_out hj',mu_out hj'] at k'
     rw[mu_out hj']
     exact hs.apart _ _ k k' hne
  |cons j p=>
   by_cases hj:j ∈ rs
   ·rw[app_in hj] at k
    cases o' with
    |nil=>exact cross hj k k' (fun j p e=>nomatch e)
    |cons j' p'=>
     by_cases hj':j' ∈ rs
     ·rw[app_in hj'] at k'
      obtain⟨q1,q2⟩:=own2 hj k
      obtain⟨r1,r2⟩:=own2 hj' k'
      rw[q2,r2]
      refine hs'.apart _ _ q1 r1 (fun e=>hne ?_)
      have e1:rs.idxOf j=rs.idxOf j':=by injection e
      have e2:p=p':=by injection e
      rw[← QX hj,← QX hj',e1,e2]
     ·rw[app_out hj',mu_out hj'] at k'
      rw[mu_out hj']
      exact cross hj k k' (fun j'' p'' e=>by cases e;exact hj')
   ·rw[app_out hj,mu_out hj] at k
    rw[mu_out hj]
    cases o' with
    |nil=>exact hs.apart _ _ k k' hne
    |cons j' p'=>
     by_cases hj':j' ∈ rs
     ·rw[app_in hj'] at k'
      exact Ne.symm (cross hj' k' k (fun j'' p'' e=>by cases e;exact hj))
     ·rw[app_out hj',mu_out hj'] at k'
      rw[mu_out hj']
      exact hs.apart _ _ k k' hne
 ·have far:∀ {n:Nm},Ec (μ n) (H n).ob=true→¬ I' (μ n).b∧(c.M0 n (μ n).b∨c.w0.heap.size≤(μ n).b)∧(μ n).b<w'.heap.size:=fun {n} h=>by
   obtain⟨g1,g2,g3⟩:=hs.own _ h
   refine⟨fun h'=>?_,g2,Nat.lt_of_lt_of_le g3 hs'.kept.size⟩
   rcases hs'.new _ h' with g | g
   ·exact g1 g
   ·exact absurd (show w.heap.size≤_ from g) (by omega)
  cases o with
  |nil=>exact far k
  |cons j p=>
   by_cases hj:j ∈ rs
   ·rw[app_in hj] at k
    obtain⟨q1,q2⟩:=own2 hj k
    rw[q2]
    obtain⟨g1,g2,g3⟩:=blk q1
    refine⟨g1,?_,g3⟩
    rcases g2 with ⟨i,p',r0,r1,r2,r3⟩ | g2
    ·have e1:rs.idxOf j=i:=by injection r0
     have e2:p=p':=by injection r0
     rw[← e1,← e2,nmj hj] at r2 r3
     rw[r3]
     exact(hs.own _ r2).2.1
    ·exact .inr (Nat.le_trans hs.kept.size g2)
   ·rw[app_out hj,mu_out hj] at k
    rw[mu_out hj]
    exact far k
 ·cases o with
  |nil=>exact hs.tag _ k
  |cons j p=>
   by_cases hj:j ∈ rs
   ·rw[app_in hj] at k
    rw[own3 hj k]
    exact hs'.tag _ (own2 hj k).1
   ·rw[app_out hj,mu_out hj] at k
    rw[mu_out hj]
    exact hs.tag _ k
def mk (P:Program) (t:TypeId) (as':List A):A:=match P.underlying t with
 |some (.struct _)=>.agg as'
 |_=>as'.headD .any
def qn (R:TypeId→List A→Prop):List Field→List A→Prop
 |[],as'=>as'=[]
 |f::fs,as'=>∃ a b,as'=a++b∧R f.type a∧qn R fs b
def Has (P:Program):Nat→TypeId→List A→Prop
 |0,_,_=>False
 |n+1,t,as'=>match P.underlying t with
  |some .bool=>∃ b,as'=[.v (.bool b)]
  |some (.int k)=>∃ m,(Lit.int k m).wf=true∧as'=[.v (.int k m)]
  |some .string=>∃ s,s.size≤maxLen∧s.size≤reachBytes∧as'=[.v (.string s)]
  |some (.slice e)=>∃ f xs,as'=[.sl f xs]∧xs.length≤maxLen∧xs.length*P.bytesOf e≤reachBytes∧(f=true→xs=[])∧∀ x,x ∈ xs→∃ b,Has P n e b∧x=mk P e b
  |some (.struct fs)=>qn (Has P n) fs.toList as'
  |_=>False
def sA (R:TypeId→List A→Prop):List TypeId→List A→Prop
 |[],as'=>as'=[]
 |t::ts,as'=>∃ a b,as'=a++b∧R t a∧sA R ts b
theorem Vc {R:TypeId→List A→Prop}:∀ {fs:List Field} {as':List A},qn R fs as' ↔ sA R (fs.map Field.type) as'
 |[],as'=>Iff.rfl
 |f::fs,as'=>by simp only[qn,sA,List.map_cons,Vc (fs:=fs)]
def ir (P:Program):Nat→List Field→Option Nat
 |off,[]=>some off
 |off,f::fs=>if f.offset=off then ir P (off+P.cellsOf f.type) fs else none
def NG (P:Program) (S:List TypeId):Bool:=S.all fun t=>match P.underlying t with
 |some .bool | some (.int _) | some .string=>P.cellsOf t == 1
 |some (.slice e)=>P.cellsOf t == 1&&(decide (0<P.cellsOf e)&&S.contains e)
 |some (.struct fs)=>ir P 0 fs.toList == some (P.cellsOf t)&&fs.toList.all fun f=>S.contains f.type
 |_=>false
theorem ie {β:Type} {R:Nat→β→Prop}:∀ {n:Nat},(∀ i,i<n→∃ b,R i b)→∃ l:List β,l.length=n∧∀ (i:Nat) (b:β),l[i]? = some b→R i b
 |0,_=>⟨[],rfl,fun i b h=>by simp at h⟩
 |n+1,h=>by
  obtain⟨l,h1,h2⟩:=ie (n:=n) (fun i hi=>h i (by omega))
  obtain⟨b,hb⟩:=h n (by omega)
  refine⟨l++[b],by simp[h1],fun i c hc=>?_⟩
  rw[List.getElem?_append] at hc
  split at hc
  ·exact h2 i c hc
  ·rename_i hi
   have:i=n:=by
    have:=(List.getElem?_eq_some_iff.1 hc).1
    simp at this
    omega
   subst this
   simp[h1] at hc
   subst hc
   exact hb
theorem U0 {α β:Type} {f:α→Option β}:∀ {l:List α} {r:List β},l.mapM f=some r→r.length=l.length∧∀ (i:Nat) (a:α),l[i]? = some a→∃ b,f a=some b∧r[i]? = some b
 |[],r,h=>by
  simp at h
  subst h
  exact⟨rfl,fun i a h=>by simp at h⟩
 |a::l,r,h=>by
  rw[List.mapM_cons] at h
  simp only[Option.bind_eq_bind,Option.bind_eq_some_iff] at h
  obtain⟨b,hb,r',hr,h⟩:=h
  cases h
  obtain⟨h1,h2⟩:=U0 hr
  refine⟨by simp[h1],fun i c hc=>?_⟩
  cases i with
  |zero=>simp at hc;subst hc;exact⟨b,hb,rfl⟩
  |succ i=>simpa using h2 i c (by simpa using hc)
theorem cells?_get {w:World} {base:Nat} {a:Addr} {n:Nat} {cs:List Value} (h:w.cells? base a n=some cs):cs.length=n∧∀ i,i<n→w.cell? (a.add i)=some (cs.getD i undef):=by
 unfold World.cells? at h
 split at h
 ·obtain⟨h1,h2⟩:=U0 h
  refine⟨by simpa using h1,fun i hi=>?_⟩
  obtain⟨b,hb,hr⟩:=h2 i i (by simp[hi])
  rw[hb]
  simp[List.getD,hr]
 ·cases h
theorem J7 {P:Program} {n:Nat} {t:TypeId} {as':List A} (h:Has P n t as'):(mk P t as').cells=as':=by
 cases n with
 |zero=>exact h.elim
 |succ n=>
  unfold Has at h
  unfold mk
  split at h
  ·rename_i hu;obtain⟨b,rfl⟩:=h;rw[hu];rfl
  ·rename_i hu;obtain⟨m,_,rfl⟩:=h;rw[hu];rfl
  ·rename_i hu;obtain⟨m,_,_,rfl⟩:=h;rw[hu];rfl
  ·rename_i hu;obtain⟨f,xs,rfl,_⟩:=h;rw[hu];rfl
  ·rename_i hu;rw[hu];rfl
  ·exact h.elim
theorem ZQ {sz:Nat} (hp:0<sz) {xs:List A} {k:Nat} {y:A} (h:∀ x,x ∈ xs→x.cells.length=sz) (hk:(xs.flatMap A.cells)[k]? = some y):∃ x,xs[k / sz]? = some x∧x.cells[k % sz]? = some y:=by
 have hl:=(List.getElem?_eq_some_iff.1 hk).1
 rw[BH h] at hl
 have hi:k / sz<xs.length:=by rw[Nat.div_lt_iff_lt_mul hp];exact hl
 have hj:k % sz<sz:=Nat.mod_lt _ hp
 have hx:xs[k / sz]? = some xs[k / sz]:=List.getElem?_eq_getElem hi
 have hcl:=h _ (List.mem_of_getElem? hx)
 have hz:xs[k / sz].cells[k % sz]? = some (xs[k / sz].cells[k % sz]'(by omega)):=List.getElem?_eq_getElem (by omega)
 have:=JS h hx hz
 have e:k / sz*sz+k % sz=k:=by rw[Nat.mul_comm];exact Nat.div_add_mod k sz
 rw[e,hk] at this
 exact⟨_,hx,by rw[hz];exact this.symm⟩
theorem jw {α:Type} {l l':List α} {k:Nat} {d:α} (h:k<l.length):(l++l').getD k d=l.getD k d:=by
 simp[List.getD,List.getElem?_append_left h]
theorem eY {α:Type} {l l':List α} {k:Nat} {d:α} (h:l.length≤k):(l++l').getD k d=l'.getD (k-l.length) d:=by
 simp[List.getD,List.getElem?_append_right h]
section
variable {H:Type} {enc:TypeId × Value→H} {P:Program} {w:World} {base:Nat} {sp:Nat→Bool} {held:Bool}
abbrev uG (w:World) (b:Nat):Prop:=b<w.heap.size
def Fits (w:World) (as':List A) (cs:List Value):Prop:=as'.length=cs.length∧∀ (k:Nat) (y:A),as'[k]? = some y→y.one=true∧Rel w (uG w) Wk y (cs.getD k undef)
theorem Fits.one {x:A} {v:Value} (h:x.one=true) (hr:Rel w (uG w) Wk x v):Fits w [x] [v]:=⟨rfl,fun k y hk=>by
 cases k with
 |zero=>cases hk;exact⟨h,hr⟩
 |succ k=>simp at hk⟩
theorem Fits.append {as' bs:List A} {cs ds:List Value} (h:Fits w as' cs) (h':Fits w bs ds):Fits w (as'++bs) (cs++ds):=⟨by simp[h.1,h'.1],fun k y hk=>by
 rw[List.getElem?_append] at hk
 split at hk
 ·rename_i hl
  have:=h.2 k y hk
  rwa [jw (by rw[← h.1];exact hl)]
 ·rename_i hl
  have:=h'.2 _ y hk
  rw[eY (by rw[← h.1];omega),← h.1]
  exact this⟩
theorem UE {n:Nat} {cs:List Value} (ih:∀ (t:TypeId) (cs:List Value) x,DataW.trod enc P w base sp held n t cs=some x→P.cellsOf t=cs.length→(∀ m,m ∈ DataW.weights P t x.1→m≤reachBytes)→∀ S,NG P S=true→t ∈ S→∃ as',Has P n t as'∧Fits w as' cs) {S:List TypeId} (hS:NG P S=true) :
  ∀ (fs:List Field) (off tot:Nat) xs,(∀ m,m ∈ DataW.weightsEach P (fs.map Field.type) (xs.map (·.1))→m≤reachBytes)→(∀ f,f ∈ fs→f.type ∈ S)→ir P off fs=some tot→tot=cs.length→(fs.mapM fun f=>DataW.trod enc P w base sp held n f.type ((cs.drop f.offset).take (P.cellsOf f.type)))=some xs →
   ∃ as',qn (Has P n) fs as'∧Fits w as' (cs.drop off)∧off≤tot
 |[],off,tot,xs,_,_,ht,hn,_=>by
  cases ht
  refine⟨[],rfl,⟨?_,fun k y hk=>by simp at hk⟩,Cc _⟩
  simp[hn]
 |f::fs,off,tot,xs,hw,hf,ht,hn,hm=>by
  unfold ir at ht
  split at ht
  ·rename_i ho
   rw[List.mapM_cons] at hm
   simp only[Option.bind_eq_bind,Option.bind_eq_some_iff] at hm
   obtain⟨x,hx,xs',hxs,hq⟩:=hm
   cases hq
   simp only[List.map_cons,DataW.weightsEach,List.mem_append] at hw
   obtain⟨bs,hb1,hb2,hb3⟩:=UE ih hS fs (off+P.cellsOf f.type) tot xs' (fun m hm=>hw m (.inr hm)) (fun g hg=>hf g (by simp[hg])) ht hn hxs
   rw[ho] at hx
   obtain⟨as',ha1,ha2⟩:=ih f.type _ x hx (by simp;omega) (fun m hm=>hw m (.inl hm)) S hS (hf f (by simp))
   refine⟨as'++bs,⟨as',bs,rfl,ha1,hb1⟩,?_,by omega⟩
   have e:cs.drop off=(cs.drop off).take (P.cellsOf f.type)++cs.drop (off+P.cellsOf f.type):=by
    rw[← List.drop_drop,List.take_append_drop]
   rw[e]
   exact ha2.append hb2
  ·cases ht
theorem Pr {e:TypeId} {d:DataW H} {m:Nat} (h:m ∈ DataW.weights P e d):∀ {l:List (DataW H)},d ∈ l→m ∈ DataW.weightsAll P e l
 |x::l,hd=>by
  simp only[DataW.weightsAll,List.mem_append]
  rcases List.mem_cons.1 hd with rfl | hd
  ·exact .inl h
  ·exact .inr (Pr h hd)
theorem FD:∀ (n:Nat) (t:TypeId) (cs:List Value) (x:DataW H × List MemPlace),DataW.trod enc P w base sp held n t cs=some x→P.cellsOf t=cs.length→(∀ m,m ∈ DataW.weights P t x.1→m≤reachBytes)→∀ S,NG P S=true→t ∈ S→∃ as',Has P n t as'∧Fits w as' cs
 |0,t,cs,x,h,_,_,_,_,_=>by simp[DataW.trod] at h
 |n+1,t,cs,x,h,hlen,hwt,S,hS,ht=>by
  have hT:=hS
  unfold NG at hT
  rw[List.all_eq_true] at hT
  have hT:=hT t ht
  have ih:=FD n
  unfold DataW.trod at h
  split at h
  ·rename_i b hu
   exact⟨[.v (.bool b)],by unfold Has;rw[hu];exact⟨b,rfl⟩,Fits.one rfl (.v _ _)⟩
  ·rename_i k k' m hu
   split at h
   ·rename_i hk
    obtain⟨rfl,hw⟩:=hk
    exact⟨[.v (.int k' m)],by unfold Has;rw[hu];exact⟨m,hw,rfl⟩,Fits.one rfl (.v _ _)⟩
   ·cases h
  ·rename_i hu;rw[hu] at hT;cases hT
  ·rename_i s hu
   split at h
   ·rename_i hs
    cases h
    have hz:s.size≤reachBytes:=by
     have:=hwt s.data.toList.length (by simp[DataW.weights])
     simpa using this
    exact⟨[.v (.string s)],by unfold Has;rw[hu];exact⟨s,hs,hz,rfl⟩,Fits.one rfl (.v _ _)⟩
   ·cases h
  ·rename_i hu;rw[hu] at hT;cases hT
  ·rename_i hu;rw[hu] at hT;cases hT
  ·rename_i e hu
   exact⟨[.sl true []],by unfold Has;rw[hu];exact⟨true,[],rfl,by simp,by simp,fun _=>rfl,fun x hx=>by simp at hx⟩,Fits.one rfl (.slN _ _ _ _ (fun _=>rfl))⟩
  ·rename_i e a len cap hu
   rw[hu] at hT
   simp only[Bool.and_eq_true,decide_eq_true_eq,beq_iff_eq] at hT
   obtain⟨_,hpos,heS⟩:=hT
   have heS:e ∈ S:=by simpa using heS
   split at h
   ·rename_i hb
    obtain⟨hb0,hb1,hb2⟩:=hb
    simp only[Option.bind_eq_some_iff] at h
    obtain⟨elems,he,h⟩:=h
    simp only[Option.map_eq_some_iff] at h
    obtain⟨rest,_,rfl⟩:=h
    simp only[DataW.weights,hu] at hwt
    obtain⟨he1,he2⟩:=U0 he
    have each:∀ i,i<len→∃ as':List A,Has P n e as'∧∃ cs,w.cells? base (a.add (i*P.cellsOf e)) (P.cellsOf e)=some cs∧Fits w as' cs:=fun i hi=>by
     obtain⟨y,hy,hg⟩:=he2 i i (by simp[hi])
     simp only[Option.bind_eq_some_iff] at hy
     obtain⟨cs,hc1,hc2⟩:=hy
     obtain⟨as',h1,h2⟩:=ih e cs y hc2 (cells?_get hc1).1.symm (fun m hm=>hwt m (List.mem_cons_of_mem _ (List.mem_append_left _ (Pr hm (List.mem_map.2 ⟨y,List.mem_of_getElem? hg,rfl⟩))))) S hS heS
     exact⟨as',h1,cs,hc1,h2⟩
    obtain⟨l,hl1,hl2⟩:=ie each
    have hxs:(l.map (mk P e)).length=len:=by simpa using hl1
    refine⟨[.sl false (l.map (mk P e))],by
     unfold Has;rw[hu]
     refine⟨false,_,rfl,by rw[hxs];omega,by
      have:=hwt _ List.mem_cons_self
      rw[hxs]
      refine Nat.le_trans (Nat.mul_le_mul_right _ ?_) this
      simp at he1 ⊢
      omega,(fun h=>nomatch h),fun x hx=>?_⟩
     obtain⟨b,hb,rfl⟩:=List.mem_map.1 hx
     obtain⟨i,hi⟩:=List.getElem?_of_mem hb
     exact⟨b,(hl2 i b hi).1,rfl⟩,Fits.one rfl ?_⟩
    by_cases h0:len=0
    ·subst h0
     have:l=[]:=List.length_eq_zero_iff.1 hl1
     subst this
     exact .slN _ _ _ _ (fun h=>by cases h)
    ·have hlen2:∀ x,x ∈ l.map (mk P e)→x.cells.length=P.cellsOf e:=fun x hx=>by
      obtain⟨b,hb,rfl⟩:=List.mem_map.1 hx
      obtain⟨i,hi⟩:=List.getElem?_of_mem hb
      obtain⟨k1,cs,k2,k3⟩:=hl2 i b hi
      rw[J7 k1,k3.1,(cells?_get k2).1]
     have hspot:a.spot=none∧a.block<w.heap.size:=by
      obtain⟨b,hb⟩:∃ b,l[0]? = some b:=⟨_,List.getElem?_eq_getElem (by omega)⟩
      obtain⟨_,cs,k2,_⟩:=hl2 0 b hb
      have:=(cells?_get k2).2 0 hpos
      simp only[Nat.zero_mul,Addr.add,if_true,World.cell?] at this
      split at this
      ·rename_i hh
       split at this
       ·cases this
       ·rename_i hsp
        exact⟨by simpa using hsp,(Array.getElem?_eq_some_iff.1 hh).1⟩
      ·cases this
     obtain⟨b,off,sp'⟩:=a
     obtain⟨hsp,hbl⟩:=hspot
     simp only at hsp hbl
     subst hsp
     have main:∀ (k:Nat) (y:A),((l.map (mk P e)).flatMap A.cells)[k]? = some y→y.one=true∧w.cell? ⟨b,off+k,none⟩=some ((w.cell? ⟨b,off+k,none⟩).getD undef)∧Rel w (uG w) Wk y ((w.cell? ⟨b,off+k,none⟩).getD undef):=fun k y hk=>by
      obtain⟨x,hx,hy⟩:=ZQ hpos hlen2 hk
      rw[List.getElem?_map] at hx
      simp only[Option.map_eq_some_iff] at hx
      obtain⟨as',ha,rfl⟩:=hx
      obtain⟨k1,cs,k2,k3⟩:=hl2 _ as' ha
      rw[J7 k1] at hy
      have hj:k % P.cellsOf e<P.cellsOf e:=Nat.mod_lt _ hpos
      have hc:=(cells?_get k2).2 _ hj
      have ea:((⟨b,off,none⟩:Addr).add (k / P.cellsOf e*P.cellsOf e)).add (k % P.cellsOf e)=⟨b,off+k,none⟩:=by
       have:=Nat.div_add_mod k (P.cellsOf e)
       rw[Nat.mul_comm] at this
       unfold Addr.add
       split<;>split<;>simp<;>omega
      rw[ea] at hc
      obtain⟨k4,k5⟩:=k3.2 _ y hy
      exact⟨k4,by rw[hc];rfl,by rw[hc];exact k5⟩
     exact .sl _ false b off len cap (P.cellsOf e) _ (fun k=>(w.cell? ⟨b,off+k,none⟩).getD undef) hbl hxs.symm (by omega) (fun h=>by cases h) hlen2 (fun k y hk=>(main k y hk).1) (fun k y hk=>(main k y hk).2.1) (fun k y hk=>(main k y hk).2.2)
   ·cases h
  ·rename_i fs hu
   rw[hu] at hT
   simp only[Bool.and_eq_true,beq_iff_eq,List.all_eq_true] at hT
   split at h
   ·simp only[Option.map_eq_some_iff] at h
    obtain⟨xs,hx,rfl⟩:=h
    simp only[DataW.weights,hu] at hwt
    obtain⟨as',h1,h2,_⟩:=UE (fun t cs x h hl hw S hS ht=>ih t cs x h hl hw S hS ht) hS fs.toList 0 _ xs hwt (fun f hf=>by simpa using hT.2 f hf) hT.1 hlen hx
    exact⟨as',by unfold Has;rw[hu];exact h1,by simpa using h2⟩
   ·cases h
  all_goals first | (rename_i hu;rw[hu] at hT;cases hT;done) | cases h
end
def ArgsHas (P:Program):List TypeId→List A→Prop
 |[],[]=>True
 |t::ts,a::as'=>(∃ n b,Has P n t b∧a=mk P t b)∧ArgsHas P ts as'
 |_,_=>False
section
open Go.ChangeShapes Go.WideShapes
variable {H:Type} {enc:TypeId × Value→H} {P:Program} {w:World} {base:Nat} {sp:Nat→Bool} {held:Bool}
theorem ZY {S:List TypeId} (hS:NG P S=true) {t:TypeId} (ht:t ∈ S) {v:Value} {d:DataW H} {p:List MemPlace} {base':Nat} (hwt:∀ m,m ∈ DataW.weights P t d→m≤reachBytes) (h:DataW.Trod enc P w base sp held t v d p) (hv:Value.okWide P w .any base' t v) :
  ∃ n b,Has P n t b∧Rel w (uG w) Wk (mk P t b) v:=by
 obtain⟨n,hn⟩:=h
 have hT:=hS
 unfold NG at hT
 rw[List.all_eq_true] at hT
 have hT:=hT t ht
 have one:∀ {b:List A},Has P n t b→(mk P t b).cells=[mk P t b]→v.cells.toList=[v]→Fits w b v.cells.toList→Rel w (uG w) Wk (mk P t b) v:=fun {b} hb h1 h2 h3=>by
  have h4:=J7 hb
  rw[h1] at h4
  have e:b[0]? = some (mk P t b):=by
   have:[mk P t b][0]? = some (mk P t b):=rfl
   rwa [h4] at this
  have:=(h3.2 0 (mk P t b) e).2
  rw[h2] at this
  exact this
 cases hu:P.underlying t with
 |none=>rw[hu] at hT;cases hT
 |some ty=>
  rw[hu] at hT
  cases ty with
  |struct fs=>
   simp only[Bool.and_eq_true,beq_iff_eq] at hT
   obtain⟨cs,rfl,hsz⟩:=okWide_struct hu hv
   obtain⟨b,hb,hf⟩:=FD n t _ _ hn (by show P.cellsOf t=cs.toList.length;simp[hsz]) hwt S hS ht
   refine⟨n,b,hb,?_⟩
   have:mk P t b = .agg b:=by unfold mk;rw[hu]
   rw[this]
   refine .agg _ _ _ ?_ fun k y hk=>?_
   ·have:=hf.1;simpa[Value.cells] using this.symm
   ·have:=(hf.2 k y hk).2
    simpa[Value.cells,List.getD,Array.getD_eq_getD_getElem?] using this
  |bool=>
   obtain⟨q,rfl⟩:=okWide_bool hu hv
   simp only[beq_iff_eq] at hT
   obtain⟨b,hb,hf⟩:=FD n t _ _ hn (by rw[hT];rfl) hwt S hS ht
   refine⟨n,b,hb,one hb ?_ rfl hf⟩
   obtain⟨y,rfl⟩:∃ y,b=[y]:=List.length_eq_one_iff.1 (by have:=hf.1;simpa[Value.cells] using this)
   unfold mk;rw[hu]
   have:=J7 hb
   unfold mk at this;rw[hu] at this
   exact this
  |int k=>
   obtain⟨q,rfl⟩:=okWide_int hu hv
   simp only[beq_iff_eq] at hT
   obtain⟨b,hb,hf⟩:=FD n t _ _ hn (by rw[hT];rfl) hwt S hS ht
   refine⟨n,b,hb,one hb ?_ rfl hf⟩
   obtain⟨y,rfl⟩:∃ y,b=[y]:=List.length_eq_one_iff.1 (by have:=hf.1;simpa[Value.cells] using this)
   unfold mk;rw[hu]
   have:=J7 hb
   unfold mk at this;rw[hu] at this
   exact this
  |string=>
   obtain⟨q,rfl⟩:=okWide_string hu hv
   simp only[beq_iff_eq] at hT
   obtain⟨b,hb,hf⟩:=FD n t _ _ hn (by rw[hT];rfl) hwt S hS ht
   refine⟨n,b,hb,one hb ?_ rfl hf⟩
   obtain⟨y,rfl⟩:∃ y,b=[y]:=List.length_eq_one_iff.1 (by have:=hf.1;simpa[Value.cells] using this)
   unfold mk;rw[hu]
   have:=J7 hb
   unfold mk at this;rw[hu] at this
   exact this
  |slice e=>
   obtain⟨a,l,c,rfl⟩:=okWide_slice hu hv
   simp only[Bool.and_eq_true,beq_iff_eq] at hT
   obtain⟨b,hb,hf⟩:=FD n t _ _ hn (by rw[hT.1];rfl) hwt S hS ht
   refine⟨n,b,hb,one hb ?_ rfl hf⟩
   obtain⟨y,rfl⟩:∃ y,b=[y]:=List.length_eq_one_iff.1 (by have:=hf.1;simpa[Value.cells] using this)
   unfold mk;rw[hu]
   have:=J7 hb
   unfold mk at this;rw[hu] at this
   exact this
  |_=>simp at hT
theorem Q5 {S:List TypeId} (hS:NG P S=true) {base':Nat}:∀ {ts:List TypeId} {vs:List Value} {ds:List (DataW H)} {ps:List MemPlace},(∀ t,t ∈ ts→t ∈ S)→(∀ m,m ∈ DataW.weightsEach P ts ds→m≤reachBytes)→DataW.TrodAll enc P w base sp held ts vs ds ps →
  (∀ (j:Nat) t v,ts[j]? = some t→vs[j]? = some v→Value.okWide P w .any base' t v)→∃ as',as'.length=vs.length∧ArgsHas P ts as'∧∀ (k:Nat) (y:A),as'[k]? = some y→Rel w (uG w) Wk y (vs.getD k undef)
 |[],_,_,_,_,_,h,_=>by
  obtain⟨rfl,rfl,rfl⟩:=trodAll_nil h
  exact⟨[],rfl,trivial,fun k y hk=>by simp at hk⟩
 |t::ts,_,_,_,hts,hwt,h,hv=>by
  obtain⟨v,vs,d,ds,p,q,rfl,rfl,rfl,h1,h2⟩:=trodAll_cons h
  simp only[DataW.weightsEach,List.mem_append] at hwt
  obtain⟨n,b,hb,hr⟩:=ZY hS (hts t (by simp)) (fun m hm=>hwt m (.inl hm)) h1 (hv 0 t v rfl rfl)
  obtain⟨as',k1,k2,k3⟩:=Q5 hS (fun u hu=>hts u (by simp[hu])) (fun m hm=>hwt m (.inr hm)) h2 (fun j u x hj hx=>hv (j+1) u x (by simpa using hj) (by simpa using hx))
  refine⟨mk P t b::as',by simp[k1],⟨⟨n,b,hb,rfl⟩,k2⟩,fun k y hk=>?_⟩
  cases k with
  |zero=>cases hk;exact hr
  |succ k=>exact k3 k y (by simpa using hk)
end
@[simp] theorem vt {k k':IntKind} {x y:Int}:EL true [.v (.int k x),.v (.int k' y)]=some (.v (.int k (max x y))):=by
 simp only[EL,if_true]
 congr 3
 split<;>omega
@[simp] theorem uW {k k':IntKind} {x y:Int}:EL false [.v (.int k x),.v (.int k' y)]=some (.v (.int k (min x y))):=by
 simp only[EL,Bool.false_eq_true,if_false]
 congr 3
 split<;>omega
def ov (r:Nat) (F:Nm→VOb) (H:Hp):Hp
 |j::p=>if j=r then F p else H (j::p)
 |[]=>H []
@[simp] theorem AR {r j:Nat} {p:Nm} {F:Nm→VOb} {H:Hp}:ov r F H (j::p)=if j=r then F p else H (j::p):=rfl
@[simp] theorem Ahj {r:Nat} {F:Nm→VOb} {H:Hp}:ov r F H []=H []:=rfl
@[simp] theorem iB {r j:Nat} {p:Nm} {F:Nm→VOb} {H:Hp} {x:VOb}:AQ (ov r F H) (j::p) x=if j=r then ov r (AQ F p x) H else ov r F (AQ H (j::p) x):=by
 funext o
 cases o with
 |nil=>
  by_cases h:j=r
  ·rw[if_pos h];simp[AQ]
  ·rw[if_neg h];simp[AQ]
 |cons k q=>
  by_cases h:j=r
  ·subst h
   rw[if_pos rfl]
   by_cases hk:k=j
   ·subst hk;simp[AQ]
   ·have:¬ k::q=j::p:=fun e=>hk (by injection e)
    simp[AQ,hk,this]
  ·rw[if_neg h]
   by_cases hk:k=r
   ·subst hk
    have:¬ k::q=j::p:=fun e=>h (by injection e with e _;exact e.symm)
    simp[AQ,this]
   ·simp[AQ,hk]
theorem Aa {α:Type} {F:Nm→α} {d o:Nm} {x:α}:AQ F d x o=if o=d then x else F o:=rfl
theorem FE {α:Type} {F G:Nm→α} {d p:Nm} {x:α} (h:x=G d) (k:p ≠ d→F p=G p):AQ F d x p=G p:=by
 rw[Aa]
 split
 ·rename_i e;rw[e];exact h
 ·exact k (by assumption)
def KP (rs:List Nat) (m:Nat) (H:Hp):Hp
 |i::p=>if i<m then (H (rs.getD i 0::p)).ren (Wj rs) (fun _=>0) 0 else ⟨0,.none⟩
 |[]=>⟨0,.none⟩
def Ms (rs:List Nat) (δ:Nm→Nat) (B Hr:Hp):Hp
 |j::p=>if rs.contains j=true then (Hr (rs.idxOf j::p)).ren (TD rs) δ (δ (rs.idxOf j::p)) else B (j::p)
 |[]=>B []
theorem U9 {rs:List Nat} {m:Nat} {H Hr:Hp}:(Eff.fn rs (HA rs m H Hr)).app H=Ms rs (MZ rs m H) H Hr:=by
 funext o
 cases o<;>rfl
theorem j7 {c:Cx} {s:Nat→A} {H:Hp} {d:Nm} {u:Nat} {xs:List A} (i:Nat) (d':Nm) (sz:Nat) (hd:H d=⟨u,.arr 1 xs⟩) (hi:xs[i]? = some (.sl true [])) (hne:d ≠ d') :
  Le c ⟨s,H⟩ ⟨s,AQ (AQ H d' ⟨(H d').u+1,.arr sz []⟩) d ⟨u,.arr 1 (xs.set i (.osl d' ((H d').u+1) sz 0 0))⟩⟩:=fun a w I μ hs=>by
 obtain⟨hx,hs'⟩:=hs.sim.upd (Es w none) d' ⟨(H d').u+1,false,0,0,sz,0⟩ (.arr sz []) (.inl rfl) (.inl (by rw[hs.sim.ver];exact Nat.lt_succ_self _)) (fun h=>nomatch h) (fun h=>nomatch h) (fun hx=>⟨rfl,.inl ⟨rfl,rfl⟩⟩)
 have hd1:(AQ H d' ⟨(H d').u+1,.arr sz []⟩:Hp) d=⟨u,.arr 1 xs⟩:=by rw[AM hne];exact hd
 have hob:=hs'.ob d
 rw[hd1] at hob
 obtain⟨k0,⟨_,k2⟩ | ⟨k1,vs,k2,k3,k4,k5,k6⟩⟩:=hob
 ·subst k2;simp at hi
 have hB:Ec (AQ μ d' ⟨(H d').u+1,false,0,0,sz,0⟩ d) ((AQ H d' ⟨(H d').u+1,.arr sz []⟩:Hp) d).ob=true:=by rw[hd1];exact k1
 have hlt:i<xs.length:=(List.getElem?_eq_some_iff.1 hi).1
 obtain⟨hx2,hs2⟩:=hs'.upd (Es w none) d (AQ μ d' ⟨(H d').u+1,false,0,0,sz,0⟩ d) (.arr 1 (xs.set i (.osl d' ((H d').u+1) sz 0 0))) (.inl rfl) (.inr rfl) (fun _=>.inr ⟨hB,rfl⟩) (fun _=>hs'.tag _ hB) (fun hx2=>by
  have hlen:∀ x,x ∈ xs.set i (.osl d' ((H d').u+1) sz 0 0)→x.cells.length=1:=fun x hx=>by
   rcases List.mem_or_eq_of_mem_set hx with h | rfl
   ·exact k5 x h
   ·rfl
  refine⟨k0,.inr ⟨k1,vs,k2,k3,by simpa using k4,hlen,fun k y hk=>?_⟩⟩
  rw[Fv]
  obtain⟨x,hx,hy⟩:=ZQ (sz:=1) (by decide) hlen hk
  simp only[Nat.div_one,Nat.mod_one] at hx hy
  by_cases hki:k=i
  ·subst hki
   rw[List.getElem?_set_self hlt] at hx
   cases hx
   simp[A.cells] at hy
   subst hy
   have:=k6 k (.sl true []) (by
    have:=JS (sz:=1) (i:=k) (j:=0) (x:=.sl true []) (y:=.sl true []) k5 hi rfl
    simpa using this)
   exact⟨rfl,W0 this.2 (by simp) (by omega) (by simp)⟩
  ·rw[List.getElem?_set_ne (Ne.symm hki)] at hx
   refine k6 k y ?_
   have:=JS (sz:=1) (i:=k) (j:=0) k5 hx hy
   simpa using this)
 have hu:(AQ μ d' ⟨(H d').u+1,false,0,0,sz,0⟩ d).u=u:=by rw[hs'.ver,hd1]
 rw[hu] at hs2
 exact⟨I,_,hs2,hs.size,hs.defers,fun t=>hx2.rel (hx.rel (hs.rel t))⟩
theorem Spec.toB {P:Program} {f:FuncId} {args:List A} {r:A} (h:Spec P f args r) (hr:r.flat=true):SpecB P f args r:=
 ⟨h.1,fun w I J vs hI hJ ht hl ha=>(h.2 w (fun b=>I b∨J b) vs (fun b hb=>hb.elim (hI b) (hJ b)) (ht.mono (fun _ h=>.inl h) (fun _ _=>rfl)) hl ha).mono fun e w' ⟨v,he,hB,hr'⟩=>⟨v,he,hB,hr'.of_flat hr⟩⟩
theorem eJ {P:Program} {K:Sta→Prop} {rest:List CO} {s:Nat→A} {H:Hp} {dd:Option Nat} {k:Nat} {f q:Bool} {nm:Nm} {ix:Nat} {un:List Nat} {l:Bool} {lg:Lg} {g:FuncId} {as':Array Operand} {ts:Array TypeId} {x:A} (as'':List A)
  (hq:B8 (s k) f=some q) (hs:q=true→SpecB P g as'' x) (hf:q=true→GG H (as'.toList.map (evs s)) as'') (hc:Ck un lg (fg q ⟨[([],true)],[]⟩))
  (h:Ap P K rest (Bd l ix (fg q ⟨[([],true)],[]⟩) lg) (Sta.put ⟨s,H⟩ dd (gd q x) H)) :
  Ap P K (⟨dd,.call { callee:=.value (.func g),args:=as',argTypes:=ts },some (k,f),nm,ix,un,l⟩::rest) lg ⟨s,H⟩:=
 ⟨_,.nil,fg q ⟨[([],true)],[]⟩,⟨q,x,hq,fun e=>⟨g,[],[],rfl,.inr (.inl ⟨⟨as'',by simpa using hf e,hs e⟩,rfl,by rw[e];rfl,by rw[e];rfl⟩)⟩,rfl,fun e=>by rw[e];exact⟨rfl,rfl,rfl⟩⟩,hc,h⟩
theorem Tk {P:Program} {K:Sta→Prop} {rest:List CO} {s:Nat→A} {H:Hp} {dd:Option Nat} {k:Nat} {q:Bool} {nm:Nm} {ix:Nat} {un:List Nat} {l:Bool} {lg:Lg} {g:FuncId} {as':Array Operand} {ts:Array TypeId} {x:A} (as'':List A)
  (hq:s k = .v (.bool q)) (hs:q=false→SpecB P g as'' x) (hf:q=false→GG H (as'.toList.map (evs s)) as'') (hc:Ck un lg (fg (ng q) ⟨[([],true)],[]⟩))
  (h:Ap P K rest (Bd l ix (fg (ng q) ⟨[([],true)],[]⟩) lg) (Sta.put ⟨s,H⟩ dd (gd (ng q) x) H)) :
  Ap P K (⟨dd,.call { callee:=.value (.func g),args:=as',argTypes:=ts },some (k,false),nm,ix,un,l⟩::rest) lg ⟨s,H⟩:=
 eJ as'' (q:=ng q) (by rw[hq];cases q<;>rfl) (fun e=>hs (by simpa using e)) (fun e=>hf (by simpa using e)) hc h
def T9 (rs:List Nat) (m:Nat) (H:Hp):Prop:=∀ (j:Nat) (p:Nm),rs.idxOf j<m→(H (j::p)).ob.refs (V9 rs m)
theorem NT {P:Program} {K:Sta→Prop} {rest:List CO} {s:Nat→A} {H:Hp} {dd:Option Nat} {nm:Nm} {ix:Nat} {un:List Nat} {l:Bool} {lg:Lg} {g:FuncId} {as':Array Operand} {ts:Array TypeId}
  (rs:List Nat) (m:Nat) {args:List A} {Hc Hr H':Hp} {r x:A} (hS:Ia P g rs.length args Hc r Hr) (hnd:rs.Nodup) (hm:m≤rs.length)
  (ha:A.renL (Wj rs) (fun _=>0) (as'.toList.map (evs s))=args) (har:A.refsL (V9 rs m) (as'.toList.map (evs s))) (hH:KP rs m H=Hc) (hcl:T9 rs m H)
  (hr:r.refs (HB rs.length)) (ho:∀ (i:Nat) (p:Nm),i<rs.length→(Hr (i::p)).ob.refs (HB rs.length)) (hv:∀ (i:Nat) (p:Nm),m≤i→i<rs.length→(Hr (i::p)).ob = .none∨1≤(Hr (i::p)).u)
  (hx:r.ren (TD rs) (MZ rs m H)=x) (hH':Ms rs (MZ rs m H) H Hr=H') (hck:Ck un lg ⟨[],rs.map fun r=>([r],true)⟩)
  (h:Ap P K rest (Bd l ix ⟨[],rs.map fun r=>([r],true)⟩ lg) (Sta.put ⟨s,H⟩ dd x H')) :
  Ap P K (⟨dd,.call { callee:=.value (.func g),args:=as',argTypes:=ts },none,nm,ix,un,l⟩::rest) lg ⟨s,H⟩:=by
 have hit_in:∀ {j:Nat} {p:Nm},j ∈ rs→Xe (rs.map fun r=>([r],true)) (j::p)=true:=fun {j p} hj=>by
  simp only[Xe,List.any_map,List.any_eq_true]
  exact⟨j,hj,by simp[VD,List.isPrefixOf]⟩
 have hnil:(Eff.fn rs (HA rs m H Hr)).app H=H':=by rw[U9];exact hH'
 subst hx
 rw[← hnil] at h
 refine cy (Eff.fn rs (HA rs m H Hr)) [] (rs.map fun r=>([r],true)) (fun H2 hag=>?_) (fun o H2 ho'=>?_) hck h
 ·have ag:∀ {j:Nat} {p:Nm},j ∈ rs→H2 (j::p)=H (j::p):=fun {j p} hj=>hag _ (by simpa using hit_in hj)
  have agi:∀ {i:Nat} {p:Nm},i<rs.length→H2 (rs.getD i 0::p)=H (rs.getD i 0::p):=fun {i p} hi=>ag (by simp[List.getD,hi])
  have hd:MZ rs m H2=MZ rs m H:=by
   funext o
   cases o with
   |nil=>rfl
   |cons i p=>
    simp only[MZ]
    by_cases hi:i<rs.length
    ·rw[agi hi]
    ·rw[if_neg hi,if_neg hi]
  have hoH:HA rs m H2 Hr=HA rs m H Hr:=by
   funext o
   cases o with
   |nil=>rfl
   |cons j p=>simp only[HA,hd]
  subst ha
  have:=Sx (P:=P) (f:=g) (rs:=rs) (m:=m) (args:=as'.toList.map (evs s)) (Hc:=Hc) (Hr:=Hr) (r:=r) (H:=H2) hnd hm hS
   (fun i p hi=>by rw[← hH,agi (by omega)];simp only[KP,if_pos hi]) (fun i p hi=>by rw[← hH];simp only[KP];rw[if_neg (by omega)]) (by rw[← hH];rfl) har
   (fun i p hi=>by rw[agi (by omega)];exact hcl _ _ (by rw[Ls hnd (by omega)];exact hi)) hr ho hv
  rwa [hd,hoH] at this
 ·cases o with
  |nil=>rfl
  |cons j p=>
   have:¬ j ∈ rs:=fun hj=>by rw[hit_in hj] at ho';cases ho'
   simp[Eff.app,this]
end Go.G
namespace Go.Proofs.YtbjmaoedheiigaaGreat
open Go Go.G Go.Proofs
structure Ar where
 l:List (Nat × List Int)
 u:Nat
 ur:Nat
 size:Int
 most:Int
 used:Int
def Hy (r:Nat) (l:List (Nat × List Int)):List A:=l.mapIdx fun i e=>.osl [r,0,i] e.1 1 0 e.2.length
def Hf (r:Nat) (S:Ar):Nm→VOb
 |[]=>⟨S.u,.cells [.osl [r,0] S.ur 1 0 S.l.length,iv S.size,iv S.most,iv S.used]⟩
 |[0]=>⟨S.ur,.arr 1 (Hy r S.l)⟩
 |[0,i]=>match S.l[i]? with
  |some e=>⟨e.1,.arr 1 (e.2.map uv)⟩
  |none=>⟨0,.none⟩
 |_=>⟨0,.none⟩
@[simp] theorem AfP {r:Nat} {S:Ar}:Hf r S []=⟨S.u,.cells [.osl [r,0] S.ur 1 0 S.l.length,iv S.size,iv S.most,iv S.used]⟩:=rfl
@[simp] theorem Afp {r:Nat} {S:Ar}:Hf r S [0]=⟨S.ur,.arr 1 (Hy r S.l)⟩:=rfl
@[simp] theorem iM {r i:Nat} {S:Ar}:Hf r S [0,i]=match S.l[i]? with
  |some e=>⟨e.1,.arr 1 (e.2.map uv)⟩
  |none=>⟨0,.none⟩:=rfl
@[simp] theorem uK {r:Nat} {l:List (Nat × List Int)}:(Hy r l).length=l.length:=by simp[Hy]
@[simp] theorem rowS_get? {r i:Nat} {l:List (Nat × List Int)}:(Hy r l)[i]? = (l[i]?).map fun e=>.osl [r,0,i] e.1 1 0 e.2.length:=by simp[Hy]
@[simp] theorem Z4 {r i:Nat} {l:List (Nat × List Int)} (h:i<(Hy r l).length):(Hy r l)[i] = .osl [r,0,i] (l[i]'(by simpa using h)).1 1 0 (l[i]'(by simpa using h)).2.length:=by simp[Hy]
theorem aY {r k:Nat} {l:List (Nat × List Int)} {f:Nat × List Int→Nat × List Int} (h:k<l.length):Hy r (l.modify k f)=(Hy r l).set k (.osl [r,0,k] (f l[k]).1 1 0 (f l[k]).2.length):=by
 apply List.ext_getElem
 ·simp
 ·intro i h1 h2
  simp only[Z4,List.getElem_set,List.getElem_modify]
  by_cases e:k=i
  ·subst e;simp
  ·simp[e]
theorem Zl {r:Nat} {S S':Ar} {p:Nm} (h1:p ≠ []) (h2:p ≠ [0]) (h:∀ j,p=[0,j]→S.l[j]? = S'.l[j]?):Hf r S p=Hf r S' p:=by
 match p,h1,h2,h with
 |[],h1,_,_=>exact absurd rfl h1
 |[0],_,h2,_=>exact absurd rfl h2
 |[0,j],_,_,h=>simp[h j rfl]
 |(a+1)::q,_,_,_=>rfl
 |0::a::b::q,_,_,_=>rfl
theorem LI:∀ {l:List A},(∀ x,x ∈ l→x.cells=[x])→l.flatMap A.cells=l
 |[],_=>rfl
 |x::l,h=>by rw[List.flatMap_cons,h x (by simp),LI fun y hy=>h y (by simp[hy])];rfl
theorem P6 {H:Hp}:∀ {l l':List A},l.length=l'.length→(∀ (k:Nat) (a a':A),l[k]? = some a→l'[k]? = some a'→Jw H a a')→GG H l l'
 |[],[],_,_=>trivial
 |a::l,a'::l',h,k=>⟨k 0 a a' rfl rfl,P6 (by simpa using h) fun i x x' hx hx'=>k (i+1) x x' (by simpa using hx) (by simpa using hx')⟩
def Ar.w (S:Ar):List (List Int):=S.l.map Prod.snd
abbrev Ar.a (S:Ar):A:=uB S.w S.size S.most S.used
theorem dz {r:Nat} {S:Ar} {H:Hp}:Jw (ov r (Hf r S) H) (.pob [r] S.u 0) S.a:=by
 refine YR (cs:=[.osl [r,0] S.ur 1 0 S.l.length,iv S.size,iv S.most,iv S.used]) (by simp) ?_ (by simp)
 simp
 refine⟨?_,Ab rfl,Ab rfl,Ab rfl⟩
 have:=K5 (H:=ov r (Hf r S) H) (o:=[r,0]) (u:=S.ur) (off:=0) (len:=S.l.length) (sz:=1) (xs:=Hy r S.l) (ys:=S.w.map ws) (by simp) (by simp) (by simp[Ar.w]) (by simp) (by simp[A.ones]) ?_
 ·exact this
 ·have e1:List.flatMap A.cells (List.take S.l.length (List.drop 0 (Hy r S.l)))=Hy r S.l:=by
   rw[List.drop_zero,Bb (by simp)]
   exact LI fun x hx=>by
    obtain⟨i,hi,rfl⟩:=List.mem_mapIdx.1 hx
    rfl
  have e2:List.flatMap A.cells (List.map ws S.w)=List.map ws S.w:=LI fun x hx=>by
   obtain⟨i,hi,rfl⟩:=List.mem_map.1 hx
   rfl
  rw[e1,e2]
  refine P6 (by simp[Ar.w]) fun k a a' ha ha'=>?_
  simp at ha ha'
  obtain⟨p,q,hk,rfl⟩:=ha
  obtain⟨g,hg,rfl⟩:=ha'
  simp[Ar.w,hk] at hg
  subst hg
  have:=Rn (H:=ov r (Hf r S) H) (o:=[r,0,k]) (u:=p) (off:=0) (len:=q.length) (sz:=1) (xs:=q.map uv) (by simp[hk]) (by simp) (by simp[Bb])
  simpa[Bb] using this
theorem mT {g:Nm→Nm} {δ:Nm→Nat} {r r':Nat} (hg:∀ p,g (r::p)=r'::p) (hd:∀ p,δ (r::p)=0) (l:List (Nat × List Int)):A.renL g δ (Hy r l)=Hy r' l:=by
 rw[Cm]
 apply List.ext_getElem
 ·simp
 ·intro i h1 h2
  simp[A.ren,hg,hd]
theorem T4 {g:Nm→Nm} {δ:Nm→Nat} {r r':Nat} (hg:∀ p,g (r::p)=r'::p) (hd:∀ p,δ (r::p)=0) (S:Ar) (p:Nm):(Hf r S p).ren g δ 0=Hf r' S p:=by
 match p with
 |[]=>simp[VOb.ren,Ob.ren,A.renL,A.ren,hg,hd]
 |[0]=>simp[VOb.ren,Ob.ren,mT hg hd]
 |[0,i]=>
  simp only[iM]
  cases S.l[i]? with
  |none=>rfl
  |some e=>
   simp only[VOb.ren,Ob.ren,Cm,List.map_map,Nat.add_zero]
   rfl
 |(a+1)::q=>rfl
 |0::a::b::q=>rfl
theorem Q0 {D:Nm→Prop} {r:Nat} (hD:∀ p,D (r::p)) (S:Ar) (p:Nm):(Hf r S p).ob.refs D:=by
 match p with
 |[]=>simp[Ob.refs,A.refsL,A.refs,hD]
 |[0]=>
  refine refsL_iff.2 fun x hx=>?_
  obtain⟨i,hi,rfl⟩:=List.mem_mapIdx.1 hx
  simp[A.refs,hD]
 |[0,i]=>
  simp only[iM]
  cases S.l[i]? with
  |none=>trivial
  |some e=>
   refine refsL_iff.2 fun x hx=>?_
   obtain⟨y,_,rfl⟩:=List.mem_map.1 hx
   trivial
 |(a+1)::q=>trivial
 |0::a::b::q=>trivial
def rn (r:Nat) (F:Nm→VOb) (H:Hp):Hp:=ov r F H
@[simp] theorem AhX {r r':Nat} {F F':Nm→VOb} {H:Hp}:rn r F (ov r' F' H)=if r'=r then ov r F H else ov r' F' (rn r F H):=by
 unfold rn
 funext o
 cases o with
 |nil=>split<;>rfl
 |cons j p=>
  by_cases h:r'=r
  ·subst h
   rw[if_pos rfl]
   by_cases hj:j=r'<;>simp[hj]
  ·rw[if_neg h]
   by_cases hj:j=r
   ·subst hj;simp[Ne.symm h]
   ·simp[hj]
@[simp] theorem AfU {r:Nat} {F:Nm→VOb} {l:List (Nm × VOb)}:rn r F (DH l)=ov r F (DH l):=rfl
theorem XL {P:Program} {K:Sta→Prop} {rest:List CO} {s:Nat→A} {H:Hp} {dd:Option Nat} {nm:Nm} {ix:Nat} {un:List Nat} {l:Bool} {lg:Lg} {g:FuncId} {aa:Array Operand} {ts:Array TypeId}
  {r:Nat} {S S':Ar} {as0:List A} {x:A} (hS:Ia P g 1 (.pob [0] S.u 0::as0) (ov 0 (Hf 0 S) (DH [])) x (ov 0 (Hf 0 S') (DH []))) (hF:∀ p,H (r::p)=Hf r S p)
  (ha:aa.toList.map (evs s) = .pob [r] S.u 0::as0) (h0:∀ g δ,A.renL g δ as0=as0) (h1:∀ D,A.refsL D as0) (hx:∀ g δ,x.ren g δ=x) (hx1:∀ D,x.refs D) (hck:Ck un lg ⟨[],[([r],true)]⟩)
  (h:Ap P K rest (Bd l ix ⟨[],[([r],true)]⟩ lg) (Sta.put ⟨s,H⟩ dd x (rn r (Hf r S') H))) :
  Ap P K (⟨dd,.call { callee:=.value (.func g),args:=aa,argTypes:=ts },none,nm,ix,un,l⟩::rest) lg ⟨s,H⟩:=by
 have hd:∀ p,MZ [r] 1 H (0::p)=0:=fun p=>rfl
 refine NT [r] 1 hS (by simp) (by simp) ?_ ?_ ?_ ?_ (hx1 _) ?_ (fun i p h1 h2=>by simp at h2;omega) (hx _ _) ?_ hck h
 ·rw[ha]
  simp[A.renL,A.ren,Wj,h0]
 ·rw[ha]
  exact⟨by simp[A.refs,V9],h1 _⟩
 ·funext o
  cases o with
  |nil=>rfl
  |cons i p=>
   by_cases hi:i<1
   ·have:i=0:=by omega
    subst this
    simp only[KP,if_pos hi,AR,if_true]
    show(H (r::p)).ren _ _ 0=_
    rw[hF]
    exact T4 (fun q=>by simp[Wj]) (fun _=>rfl) S p
   ·simp only[KP,if_neg hi,AR]
    rw[if_neg (by omega)]
    rfl
 ·intro j p hj
  have hjr:j=r:=by
   have:=(idx_mem (rs:=[r])).1 (by simpa using hj)
   simpa using this
  rw[hjr,hF]
  exact Q0 (fun q=>by simp[V9]) S p
 ·intro i p hi
  have:i=0:=by simp at hi;omega
  subst this
  simp only[AR,if_true]
  exact Q0 (fun q=>by simp[HB]) S' p
 ·funext o
  cases o with
  |nil=>rfl
  |cons j p=>
   by_cases hj:j=r
   ·subst hj
    simp only[Ms,rn,AR,if_true]
    rw[if_pos (by simp)]
    have:[j].idxOf j=0:=by simp
    rw[this,if_pos rfl,hd]
    exact T4 (fun q=>by simp[TD]) hd S' p
   ·have:¬ [r].contains j=true:=by simpa using hj
    simp only[Ms,if_neg this,rn,AR,if_neg hj]
structure Ar.Ok (S:Ar):Prop where
 used0:0≤S.used
 used1:S.used≤S.most
 most1:S.most≤131072
 size0:1≤S.size
 size1:S.size<9223372036854775808
 len:S.l.length≤16
 seg:∀ e,e ∈ S.l→(e.2.length:Int)≤S.used
theorem Ar.Ok.szAt {S:Ar} (h:S.Ok) (s:Int):0≤(Go.Proofs.YtbjmaoedheiigaaGreat.szAt S.w s:Int)∧(Go.Proofs.YtbjmaoedheiigaaGreat.szAt S.w s:Int)≤S.used:=by
 refine⟨by omega,?_⟩
 unfold Go.Proofs.YtbjmaoedheiigaaGreat.szAt
 cases e:Go.Proofs.YtbjmaoedheiigaaGreat.seg S.w s with
 |none=>exact h.used0
 |some g=>
  obtain⟨_,_,h2,rfl⟩:=Nc e
  simp only[Option.map_some,Option.getD_some]
  simp only[Ar.w,List.getElem_map]
  exact h.seg _ (BI _)
theorem NS {S:Ar} {k:Nat} (h:k<S.l.length):(Go.Proofs.YtbjmaoedheiigaaGreat.szAt S.w k:Int)=S.l[k].2.length:=by
 simp[Go.Proofs.YtbjmaoedheiigaaGreat.szAt,Go.Proofs.YtbjmaoedheiigaaGreat.seg,Ar.w,h]
def TH (S:Ar) (s n:Int):Bool:=decide (0≤s∧s<S.l.length∧0≤n∧n≤S.most-S.used∧n≤S.size-szAt S.w s)
def GU (S:Ar) (n:Int):Bool:=decide (S.l.length=0) || (!decide (n≤S.size-szAt S.w ((S.l.length:Int)-1))&&decide (S.l.length<16))
def Eg (S:Ar):Ar:={ S with l:=S.l++[(1,[])],ur:=S.ur+1 }
def C8 (S:Ar) (n:Int):Bool:=decide (0≤n∧n≤S.most-S.used)
def I9 (S:Ar) (n:Int):Ar:=if GU S n=true then Eg S else S
theorem af {r:Nat} {l:List (Nat × List Int)} {e:Nat × List Int}:Hy r (l++[e])=Hy r l++[.osl [r,0,l.length] e.1 1 0 e.2.length]:=by simp[Hy,List.mapIdx_append]
theorem im {c:Cx} {s:Nat→A} {S:Ar}:∃ G:Hp,Le c ⟨s,ov 0 (AQ (AQ (Hf 0 S) [0] ⟨S.ur+1,.arr 1 (List.take S.l.length (Hy 0 S.l)++[A.sl true []])⟩) [] ⟨S.u,.cells [A.osl [0,0] (S.ur+1) 1 0 (S.l.length+1),iv S.size,iv S.most,iv S.used]⟩) (DH [])⟩ ⟨s,G⟩ ∧
  ∀ o,G o=ov 0 (Hf 0 (Eg S)) (DH []) o:=by
 refine⟨_,j7 (d:=[0,0]) (u:=S.ur+1) (xs:=List.take S.l.length (Hy 0 S.l)++[A.sl true []]) S.l.length [0,0,S.l.length] 1 (by simp[Aa]) (by simp) (by simp),fun o=>?_⟩
 rw[iB,if_pos rfl,iB,if_pos rfl]
 cases o with
 |nil=>rfl
 |cons j p=>
  by_cases hj:j=0
  ·subst hj
   simp only[AR,if_true]
   refine FE ?_ (fun h1=>FE ?_ (fun h2=>FE ?_ (fun h3=>?_)))
   ·simp[Eg,af,Bb,Aa]
   ·simp[Eg,Aa]
   ·simp[Eg]
   ·rw[AM h1]
    refine Zl h3 h1 fun i hi=>?_
    have:i ≠ S.l.length:=fun e=>h2 (by rw[hi,e])
    simp only[Eg,List.getElem?_append]
    split
    ·rfl
    ·rw[List.getElem?_eq_none (by omega),List.getElem?_eq_none (by simp;omega)]
  ·simp[hj]
def Ku (z m:Int):Ar:=⟨[],1,1,max z 1,min (max m 0) 131072,0⟩
theorem x8 {P:Program} {K:Sta→Prop} {rest:List CO} {s:Nat→A} {H:Hp} {dd:Option Nat} {nm:Nm} {ix:Nat} {un:List Nat} {l:Bool} {lg:Lg} {g:FuncId} {aa:Array Operand} {ts:Array TypeId}
  (r:Nat) {S':Ar} {as0:List A} (hu:S'.u=1) (hS:Ia P g 1 as0 (DH []) (.pob [0] 1 0) (ov 0 (Hf 0 S') (DH []))) (hF:∀ p,(H (r::p)).u=0)
  (ha:aa.toList.map (evs s)=as0) (h0:∀ g δ,A.renL g δ as0=as0) (h1:∀ D,A.refsL D as0) (hv:∀ p,(Hf 0 S' p).ob = .none∨1≤(Hf 0 S' p).u) (hck:Ck un lg ⟨[],[([r],true)]⟩)
  (h:Ap P K rest (Bd l ix ⟨[],[([r],true)]⟩ lg) (Sta.put ⟨s,H⟩ dd (.pob [r] 1 0) (rn r (Hf r S') H))) :
  Ap P K (⟨dd,.call { callee:=.value (.func g),args:=aa,argTypes:=ts },none,nm,ix,un,l⟩::rest) lg ⟨s,H⟩:=by
 have hd:∀ p,MZ [r] 0 H (0::p)=0:=fun p=>by
  simp only[MZ]
  rw[if_neg (by omega),if_pos (by simp)]
  exact hF p
 refine NT [r] 0 hS (by simp) (by simp) ?_ ?_ ?_ ?_ (by simp[A.refs,HB]) ?_ ?_ ?_ ?_ hck h
 ·rw[ha];exact h0 _ _
 ·rw[ha];exact h1 _
 ·funext o
  cases o with
  |nil=>rfl
  |cons i p=>simp[KP]
 ·intro j p hj
  omega
 ·intro i p hi
  have:i=0:=by simp at hi;omega
  subst this
  simp only[AR,if_true]
  exact Q0 (fun q=>by simp[HB]) S' p
 ·intro i p _ hi
  have:i=0:=by simp at hi;omega
  subst this
  simp only[AR,if_true]
  exact hv p
 ·simp[A.ren,TD,hd]
 ·funext o
  cases o with
  |nil=>rfl
  |cons j p=>
   by_cases hj:j=r
   ·subst hj
    simp only[Ms,rn,AR,if_true]
    rw[if_pos (by simp)]
    have:[j].idxOf j=0:=by simp
    rw[this,if_pos rfl,hd]
    exact T4 (fun q=>by simp[TD]) hd S' p
   ·have:¬ [r].contains j=true:=by simpa using hj
    simp only[Ms,if_neg this,rn,AR,if_neg hj]
theorem np {z m:Int} (h:z<9223372036854775808):(Ku z m).Ok:=by
 refine⟨by simp[Ku],?_,?_,?_,?_,by simp[Ku],by simp[Ku]⟩
 all_goals
  simp only[Ku]
  omega
theorem kx {z m:Int} (p:Nm):(Hf 0 (Ku z m) p).ob = .none∨1≤(Hf 0 (Ku z m) p).u:=by
 match p with
 |[]=>exact .inr (Cc _)
 |[0]=>exact .inr (Cc _)
 |[0,i]=>exact .inl rfl
 |(a+1)::q=>exact .inl rfl
 |0::a::b::q=>exact .inl rfl
theorem nr {S:Ar} (h:S.Ok) (n:Int):(I9 S n).Ok:=by
 unfold I9
 split
 ·rename_i hn
  refine⟨h.used0,h.used1,h.most1,h.size0,h.size1,?_,fun e he=>?_⟩
  ·simp only[Eg,List.length_append,List.length_singleton]
   simp[GU] at hn
   have:=h.len
   rcases hn with e | e
   ·simp[e]
   ·omega
  ·simp only[Eg,List.mem_append,List.mem_singleton] at he
   rcases he with he | rfl
   ·exact h.seg e he
   ·exact h.used0
 ·exact h
end Go.Proofs.YtbjmaoedheiigaaGreat
namespace Go.PL
inductive T where
 |mk (kind:Int) (words:List Int) (kids:List T)
 deriving Inhabited
namespace T
def kind:T→Int | mk k _ _=>k
def words:T→List Int | mk _ w _=>w
def kids:T→List T | mk _ _ l=>l
@[simp] theorem kind_mk {k:Int} {w:List Int} {l:List T}:(mk k w l).kind=k:=rfl
@[simp] theorem words_mk {k:Int} {w:List Int} {l:List T}:(mk k w l).words=w:=rfl
@[simp] theorem kids_mk {k:Int} {w:List Int} {l:List T}:(mk k w l).kids=l:=rfl
end T
theorem YN {α:Type} {P:List α→Prop} (h0:P []) (h1:∀ l x,P l→P (l++[x])) (l:List α):P l:=by
 have:∀ m:List α,P m.reverse:=by
  intro m
  induction m with
  |nil=>exact h0
  |cons x m ih=>rw[List.reverse_cons];exact h1 _ _ ih
 have h:=this l.reverse
 rwa [List.reverse_reverse] at h
abbrev T0:T:=.mk 0 [] []
theorem T.eta (t:T):t = .mk t.kind t.words t.kids:=by cases t;rfl
mutual
theorem T.ind {P:T→Prop} (h:∀ k w l,(∀ t,t ∈ l→P t)→P (.mk k w l)):∀ t,P t
 |.mk k w l=>h k w l (T.indL h l)
theorem T.indL {P:T→Prop} (h:∀ k w l,(∀ t,t ∈ l→P t)→P (.mk k w l)):∀ (l:List T),∀ t,t ∈ l→P t
 |[],t,ht=>nomatch ht
 |x::l,t,ht=>by
  rcases List.mem_cons.1 ht with e | ht
  ·rw[e];exact T.ind h x
  ·exact T.indL h l t ht
end
def BX (l:List Int):List Int:=(l.reverse.dropWhile (fun x=>x == 0)).reverse
def BA (l:List T):List T:=(l.reverse.dropWhile (fun x=>x.kind == 0)).reverse
mutual
def Ai:T→T
 |.mk k w l=>if k=0 then T0 else if k=1 then .mk 1 (BX w) (BA (Xw l)) else .mk k w (Xw l)
def Xw:List T→List T
 |[]=>[]
 |t::l=>Ai t::Xw l
end
@[simp] theorem jn:∀ l,Xw l=l.map Ai
 |[]=>by simp[Xw]
 |t::l=>by simp[Xw,jn l]
theorem BG (k:Int) (w:List Int) (l:List T):Ai (.mk k w l)=if k=0 then T0 else if k=1 then .mk 1 (BX w) (BA (l.map Ai)) else .mk k w (l.map Ai):=by simp[Ai]
@[simp] theorem CM (t:T):(Ai t).kind=t.kind:=by
 cases t;rw[BG];split
 ·rename_i h;rw[h];rfl
 ·split
  ·rename_i h;rw[h];rfl
  ·rfl
@[simp] theorem AaD:BX []=[]:=rfl
@[simp] theorem yz:BA []=[]:=rfl
theorem PN (l:List Int) (x:Int):BX (l++[x])=if x=0 then BX l else l++[x]:=by
 unfold BX;simp[List.dropWhile_cons];split<;>simp
theorem JL (l:List T) (x:T):BA (l++[x])=if x.kind=0 then BA l else l++[x]:=by
 unfold BA
 by_cases h:x.kind=0<;>simp[List.dropWhile_cons,h]
theorem JE (l:List Int):(BX l).length≤l.length:=by
 unfold BX;simp;have:=(List.dropWhile_sublist (fun x:Int=>x == 0) (l:=l.reverse)).length_le;simpa using this
theorem Iu (l:List T):(BA l).length≤l.length:=by
 unfold BA;simp;have:=(List.dropWhile_sublist (fun x:T=>x.kind == 0) (l:=l.reverse)).length_le;simpa using this
theorem P8 (l:List Int):BX l=l.take (BX l).length:=by
 induction l using YN with
 |h0=>rfl
 |h1 l x ih=>
  rw[PN]
  split
  ·rw[List.take_append_of_le_length (JE l)];exact ih
  ·rw[Bb (Cc _)]
theorem L3 (l:List T):BA l=l.take (BA l).length:=by
 induction l using YN with
 |h0=>rfl
 |h1 l x ih=>
  rw[JL]
  split
  ·rw[List.take_append_of_le_length (Iu l)];exact ih
  ·rw[Bb (Cc _)]
def bV (c:Int):Int:=if c=1 then 1 else if c=2 then 8 else if c=3 then 16 else if c=4 then 32 else if c=5 then 64 else 0
def Kp (c n:Int):Int:=if n<0∨n > 1099511627776 then 0 else (n*bV c+63) / 64
def FO:List T→Nat
 |[]=>0
 |t::l=>max t.words.length (FO l)
def FN:List T→Nat
 |[]=>0
 |t::l=>max t.kids.length (FN l)
def Aw (c:Int):Int:=if c=0 then 0 else if c=1 then 1 else if c=2 then 8 else if c=3 then 16 else if c=4 then 32 else if c=5 then 64 else -1
def I4 (c n:Int):Bool:=decide (0≤Aw c)&&decide (n / 2 ^ (Aw c).toNat=0)
def E8 (k:Int):Bool:=decide (2≤k)&&decide (k≤7)
def D8 (k:Int) (c:T):Bool:=!(E8 k != decide (c.kind=10) || decide (k=9)&&!decide (c.kind=1) || E8 k&&!I4 (k-2) (c.words.headD 0))
def EW (k:Int) (d nw nl:Nat):Bool:=decide (k<0) || decide (k > 10) || decide (d=0) || decide (nw ≥ 65536) || decide (k=1)&&decide (nl ≥ 65536) || decide (nl ≥ 1048576) || decide (k > 1)&&decide (nw > 0)
mutual
def DR:Nat→T→Bool
 |d,.mk k w l=>if k=0 then w.isEmpty&&l.isEmpty else if k=10 then decide (w.length=1)&&l.isEmpty
  else if EW k d w.length l.length=true then false else Gj (d-1) k l
def Gj:Nat→Int→List T→Bool
 |_,_,[]=>true
 |d,k,t::l=>DR d t&&D8 k t&&Gj d k l
end
theorem Dm (d:Nat) (k:Int) (w:List Int) (l:List T):DR d (.mk k w l)=if k=0 then w.isEmpty&&l.isEmpty else if k=10 then decide (w.length=1)&&l.isEmpty
  else if EW k d w.length l.length=true then false else Gj (d-1) k l:=by rw[DR]
@[simp] theorem yf (d:Nat) (k:Int):Gj d k []=true:=by rw[Gj]
@[simp] theorem aP (d:Nat) (k:Int) (t:T) (l:List T):Gj d k (t::l)=(DR d t&&D8 k t&&Gj d k l):=by rw[Gj]
theorem rightL_all {d:Nat} {k:Int}:∀ {l:List T},Gj d k l=true ↔ ∀ t,t ∈ l→DR d t=true∧D8 k t=true
 |[]=>by simp
 |t::l=>by simp[rightL_all (l:=l),and_assoc]
mutual
def DX:Nat→Int→T→Int
 |d,n,.mk _ w l=>if d=0∨n-1-w.length<0 then -1 else DE (d-1) (n-1-w.length) l
def DE:Nat→Int→List T→Int
 |_,n,[]=>n
 |d,n,t::l=>if n<0 then n else DE d (DX d n t) l
end
theorem Qg (d:Nat) (n:Int) (k:Int) (w:List Int) (l:List T):DX d n (.mk k w l)=if d=0∨n-1-w.length<0 then -1 else DE (d-1) (n-1-w.length) l:=by rw[DX]
@[simp] theorem sQ (d:Nat) (n:Int):DE d n []=n:=by rw[DE]
@[simp] theorem HQ (d:Nat) (n:Int) (t:T) (l:List T):DE d n (t::l)=if n<0 then n else DE d (DX d n t) l:=by rw[DE]
theorem sw {c:T} (h:D8 9 c=true):c.kind=1:=by
 simp[D8,E8] at h
 exact h.2
theorem HF {d:Nat} {k:Int} {w:List Int} {l:List T} (h:DR d (.mk k w l)=true):∀ t,t ∈ l→DR (d-1) t=true∧D8 k t=true:=by
 rw[Dm] at h
 split at h
 ·simp at h;intro t ht;rw[h.2] at ht;cases ht
 ·split at h
  ·simp at h;intro t ht;rw[h.2] at ht;cases ht
  ·split at h
   ·cases h
   ·exact rightL_all.1 h
theorem Tp {t:T} (h:t.kind=1):Ai t = .mk 1 (BX t.words) (BA (t.kids.map Ai)):=by
 cases t;simp at h;subst h;rw[BG];simp
end Go.PL
namespace Go.PL
structure WE where
 at_:Int
 mask:Int
 old:Int
 new:Int
mutual
inductive E where
 |mk (kind:Int) (old new:T) (words:List WE) (kids:List KE) (list:Int) (ops:List OP)
inductive KE where
 |mk (at_:Int) (e:E)
inductive OP where
 |mk (kind n:Int) (l:List T) (e:E)
end
namespace E
def kind:E→Int | mk k _ _ _ _ _ _=>k
def old:E→T | mk _ o _ _ _ _ _=>o
def new:E→T | mk _ _ n _ _ _ _=>n
def words:E→List WE | mk _ _ _ w _ _ _=>w
def kids:E→List KE | mk _ _ _ _ k _ _=>k
def list:E→Int | mk _ _ _ _ _ l _=>l
def ops:E→List OP | mk _ _ _ _ _ _ o=>o
variable {k l:Int} {o n:T} {w:List WE} {ks:List KE} {os:List OP}
@[simp] theorem kind_mk:(mk k o n w ks l os).kind=k:=rfl
@[simp] theorem Aht:(mk k o n w ks l os).old=o:=rfl
@[simp] theorem AgV:(mk k o n w ks l os).new=n:=rfl
@[simp] theorem words_mk:(mk k o n w ks l os).words=w:=rfl
@[simp] theorem kids_mk:(mk k o n w ks l os).kids=ks:=rfl
@[simp] theorem Ae4:(mk k o n w ks l os).list=l:=rfl
@[simp] theorem AhR:(mk k o n w ks l os).ops=os:=rfl
end E
namespace KE
def at_:KE→Int | mk a _=>a
def e:KE→E | mk _ e=>e
@[simp] theorem Aip {a:Int} {e:E}:(mk a e).at_=a:=rfl
@[simp] theorem AhK {a:Int} {e:E}:(mk a e).e=e:=rfl
end KE
namespace OP
def kind:OP→Int | mk k _ _ _=>k
def n:OP→Int | mk _ n _ _=>n
def l:OP→List T | mk _ _ l _=>l
def e:OP→E | mk _ _ _ e=>e
variable {k m:Int} {t:List T} {x:E}
@[simp] theorem kind_mk:(mk k m t x).kind=k:=rfl
@[simp] theorem Ai2:(mk k m t x).n=m:=rfl
@[simp] theorem Ai1:(mk k m t x).l=t:=rfl
@[simp] theorem AhK:(mk k m t x).e=x:=rfl
end OP
abbrev E0:E:=.mk 0 T0 T0 [] [] 0 []
mutual
theorem E.ind {P:E→Prop} (h:∀ k o n w ks l os,(∀ x,x ∈ ks→P x.e)→(∀ x,x ∈ os→P x.e)→P (.mk k o n w ks l os)):∀ e,P e
 |.mk k o n w ks l os=>h k o n w ks l os (E.indK h ks) (E.indO h os)
theorem E.indK {P:E→Prop} (h:∀ k o n w ks l os,(∀ x,x ∈ ks→P x.e)→(∀ x,x ∈ os→P x.e)→P (.mk k o n w ks l os)):∀ (ks:List KE),∀ x,x ∈ ks→P x.e
 |[],_,hx=>nomatch hx
 |.mk a e::ks,x,hx=>by
  rcases List.mem_cons.1 hx with q | hx
  ·rw[q];exact E.ind h e
  ·exact E.indK h ks x hx
theorem E.indO {P:E→Prop} (h:∀ k o n w ks l os,(∀ x,x ∈ ks→P x.e)→(∀ x,x ∈ os→P x.e)→P (.mk k o n w ks l os)):∀ (os:List OP),∀ x,x ∈ os→P x.e
 |[],_,hx=>nomatch hx
 |.mk a n l e::os,x,hx=>by
  rcases List.mem_cons.1 hx with q | hx
  ·rw[q];exact E.ind h e
  ·exact E.indO h os x hx
end
end Go.PL
namespace Go.PL
theorem PV {w:List Int} {n:Nat} (h:n<w.length) (h0:w[n]=0):BX (w.take (n+1))=BX (w.take n):=by
 rw[Hj h,PN,if_pos h0]
theorem PT {w:List Int} {n:Nat} (h:n<w.length) (h0:w[n] ≠ 0):BX (w.take (n+1))=w.take (n+1):=by
 rw[Hj h,PN,if_neg h0]
theorem PZ {w:List T} {n:Nat} (h:n<w.length) (h0:w[n].kind=0):BA (w.take (n+1))=BA (w.take n):=by
 rw[Hj h,JL,if_pos h0]
theorem P2 {w:List T} {n:Nat} (h:n<w.length) (h0:w[n].kind ≠ 0):BA (w.take (n+1))=w.take (n+1):=by
 rw[Hj h,JL,if_neg h0]
theorem Ph (l:List T):(BA (l.map Ai)).length=(BA l).length:=by
 induction l using YN with
 |h0=>rfl
 |h1 l x ih=>
  rw[List.map_append,List.map_cons,List.map_nil,JL,JL,CM]
  split
  ·exact ih
  ·simp
theorem N6 (l:List T):BA (l.map Ai)=(l.map Ai).take (BA l).length:=by
 rw[← Ph];exact L3 _
def nW (t:T):Nat:=if t.kind=1 then (BX t.words).length else t.words.length
def nK (t:T):Nat:=if t.kind=1 then (BA t.kids).length else t.kids.length
theorem Xu (t:T):nW t≤t.words.length:=by unfold nW;split;exact JE _;exact Cc _
theorem Z8 (t:T):nK t≤t.kids.length:=by unfold nK;split;exact Iu _;exact Cc _
def dU (t:T):Prop:=t.kind=0→t.words=[]∧t.kids=[]
theorem JZ {t:T} (h:dU t):(Ai t).words=t.words.take (nW t):=by
 obtain⟨k,w,l⟩:=t
 rw[BG]
 by_cases h0:k=0
 ·obtain⟨a,b⟩:=h h0;simp at a b;subst a b;rw[if_pos h0];simp
 ·rw[if_neg h0]
  by_cases h1:k=1
  ·subst h1;simp[nW,← P8]
  ·simp[h1,nW]
theorem Lh {t:T} (h:dU t):(Ai t).kids=(t.kids.take (nK t)).map Ai:=by
 obtain⟨k,w,l⟩:=t
 rw[BG]
 by_cases h0:k=0
 ·obtain⟨a,b⟩:=h h0;simp at a b;subst a b;rw[if_pos h0];simp
 ·rw[if_neg h0]
  by_cases h1:k=1
  ·subst h1;simp[nK,N6,List.map_take]
  ·simp[h1,nK]
theorem T.ext' {t u:T} (h1:t.kind=u.kind) (h2:t.words=u.words) (h3:t.kids=u.kids):t=u:=by
 cases t;cases u;simp at h1 h2 h3;rw[h1,h2,h3]
theorem tU {t u:T} (ht:dU t) (hu:dU u):Ai t=Ai u ↔ t.kind=u.kind∧nW t=nW u∧nK t=nK u∧(∀ i:Nat,i<nW t→t.words[i]? = u.words[i]?)∧(∀ i:Nat,i<nK t→(t.kids[i]?).map Ai=(u.kids[i]?).map Ai):=by
 constructor
 ·intro h
  have hk:t.kind=u.kind:=by rw[← CM t,h,CM]
  have hw:t.words.take (nW t)=u.words.take (nW u):=by rw[← JZ ht,h,JZ hu]
  have hl:(t.kids.take (nK t)).map Ai=(u.kids.take (nK u)).map Ai:=by rw[← Lh ht,h,Lh hu]
  have e1:nW t=nW u:=by have:=congrArg List.length hw;simp at this;have:=Xu t;have:=Xu u;omega
  have e2:nK t=nK u:=by have:=congrArg List.length hl;simp at this;have:=Z8 t;have:=Z8 u;omega
  refine⟨hk,e1,e2,fun i hi=>?_,fun i hi=>?_⟩
  ·have:=congrArg (fun l=>l[i]?) hw
   simp only[List.getElem?_take] at this
   rwa [if_pos hi,if_pos (by omega)] at this
  ·have:=congrArg (fun l=>l[i]?) hl
   simp only[List.getElem?_map,List.getElem?_take] at this
   rwa [if_pos hi,if_pos (by omega)] at this
 ·rintro⟨hk,e1,e2,hw,hl⟩
  refine T.ext' (by rw[CM,CM,hk]) ?_ ?_
  ·rw[JZ ht,JZ hu,← e1]
   apply List.ext_getElem?
   intro i
   rw[List.getElem?_take,List.getElem?_take]
   split
   ·exact hw i (by assumption)
   ·rfl
  ·rw[Lh ht,Lh hu,← e2]
   apply List.ext_getElem?
   intro i
   rw[List.getElem?_map,List.getElem?_map,List.getElem?_take,List.getElem?_take]
   split
   ·exact hl i (by assumption)
   ·rfl
noncomputable def NM (t u:T):Bool:=by classical exact decide (t=u)
theorem sameB_iff {t u:T}:NM t u=true ↔ t=u:=by simp[NM]
noncomputable def Lz (t u:T):Bool:=NM (Ai t) (Ai u)
theorem eqT_iff {t u:T}:Lz t u=true ↔ Ai t=Ai u:=sameB_iff
end Go.PL
namespace Go.Proofs.YtbjmaoedheiigaaGreat
open Go Go.G Go.Proofs Go.PL
theorem A5 {P:Program} {K:Sta→Prop} {rest:List CO} {s:Nat→A} {H:Hp} {dd:Option Nat} {k:Nat} {f:Bool} {nm:Nm} {ix:Nat} {un:List Nat} {l:Bool} {lg:Lg} {g:FuncId} {aa:Array Operand} {ts:Array TypeId}
  (hq:B8 (s k) f=some false) (h:Ap P K rest (Bd l ix ⟨[],[]⟩ lg) (Sta.put ⟨s,H⟩ dd (.v undef) H)) :
  Ap P K (⟨dd,.call { callee:=.value (.func g),args:=aa,argTypes:=ts },some (k,f),nm,ix,un,l⟩::rest) lg ⟨s,H⟩:=
 Sm (q:=false) (x:=.any) hq (fun e=>by cases e) h
abbrev DP (l:List Int):A:=.sl false (l.map uv)
abbrev Fo (l:List Int):A:=.sl false (l.map iv)
abbrev u8 (n:Int):A:=.v (.int .u8 n)
mutual
def tC:T→List A
 |.mk k w l=>[iv k,DP w,.sl false (tCs l)]
def tCs:List T→List A
 |[]=>[]
 |t::l=>.agg (tC t)::tCs l
end
def tA (t:T):A:=.agg (tC t)
abbrev Co (l:List T):A:=.sl false (l.map tA)
abbrev tX (t:T):A:=.agg [iv t.kind,DP t.words,Co t.kids]
theorem i7:∀ l,tCs l=l.map tA
 |[]=>by rw[tCs];rfl
 |t::l=>by rw[tCs,i7 l];rfl
theorem AaN (t:T):tC t=[iv t.kind,DP t.words,Co t.kids]:=by cases t;rw[tC,i7];rfl
@[simp] theorem tA_eq (t:T):tA t=tX t:=by rw[tA,AaN]
def wA (w:WE):A:=.agg [iv w.at_,u8 w.mask,uv w.old,uv w.new]
abbrev wX (w:WE):A:=.agg [iv w.at_,u8 w.mask,uv w.old,uv w.new]
@[simp] theorem wA_eq (w:WE):wA w=wX w:=rfl
abbrev wKs (l:List WE):A:=.sl false (l.map wA)
mutual
def eC:E→List A
 |.mk k o n w ks l os=>[iv k,iv o.kind,DP o.words,Co o.kids,iv n.kind,DP n.words,Co n.kids,wKs w,.sl false (eKs ks),iv l,.sl false (eOs os)]
def eKs:List KE→List A
 |[]=>[]
 |.mk a e::l=>.agg (iv a::eC e)::eKs l
def eOs:List OP→List A
 |[]=>[]
 |.mk k n t e::l=>.agg (iv k::iv n::Co t::eC e)::eOs l
end
def kA (x:KE):A:=.agg (iv x.at_::eC x.e)
def oA (x:OP):A:=.agg (iv x.kind::iv x.n::Co x.l::eC x.e)
abbrev kKs (l:List KE):A:=.sl false (l.map kA)
abbrev V7 (l:List OP):A:=.sl false (l.map oA)
abbrev eL (e:E):List A:=[iv e.kind,iv e.old.kind,DP e.old.words,Co e.old.kids,iv e.new.kind,DP e.new.words,Co e.new.kids,wKs e.words,kKs e.kids,iv e.list,V7 e.ops]
abbrev eX (e:E):A:=.agg (eL e)
abbrev kX (x:KE):A:=.agg (iv x.at_::eL x.e)
abbrev oX (x:OP):A:=.agg (iv x.kind::iv x.n::Co x.l::eL x.e)
theorem gQ:∀ l,eKs l=l.map kA
 |[]=>by rw[eKs];rfl
 |.mk a e::l=>by rw[eKs,gQ l];rfl
theorem gO:∀ l,eOs l=l.map oA
 |[]=>by rw[eOs];rfl
 |.mk k n t e::l=>by rw[eOs,gO l];rfl
theorem uZ (e:E):eC e=eL e:=by cases e;rw[eC,gQ,gO];rfl
@[simp] theorem kA_eq (x:KE):kA x=kX x:=by rw[kA,uZ]
@[simp] theorem oA_eq (x:OP):oA x=oX x:=by rw[oA,uZ]
@[simp] theorem Afq (l:List Int):DS 1 (l.map iv)=true:=by simp[DS]
@[simp] theorem Aeu (l:List T):DS 3 (l.map tA)=true:=by simp[DS]
@[simp] theorem AeQ (l:List WE):DS 4 (l.map wA)=true:=by simp[DS]
@[simp] theorem Aej (l:List KE):DS 12 (l.map kA)=true:=by simp[DS]
@[simp] theorem Aev (l:List OP):DS 14 (l.map oA)=true:=by simp[DS]
theorem Ip {n:Nat} {l:List A}:DS n l=true ↔ ∀ x,x ∈ l→x.cells.length=n:=by simp[DS]
@[simp] theorem yH {n k:Nat} {l:List A} (h:DS n l=true):DS n (l.take k)=true:=by
 rw[Ip] at h ⊢
 exact fun x hx=>h x (Qo hx)
@[simp] theorem zS {n k:Nat} {l:List A} (h:DS n l=true):DS n (l.drop k)=true:=by
 rw[Ip] at h ⊢
 exact fun x hx=>h x (V4 hx)
theorem BQ {α:Type} {H:Hp} {o:Nm} {u n sz:Nat} {l:List α} {f:α→A} (h:vr (H o) u=some (sz,l.map f)) (hn:n=l.length) (hf:∀ x,((f x).cells.length == sz&&(f x).cells.all fun y=>A.bare1 y&&y.one)=true):Jw H (.osl o u sz 0 n) (.sl false (l.map f)):=by
 subst hn
 have:=Rn (H:=H) (o:=o) (u:=u) (off:=0) (len:=l.length) (sz:=sz) (xs:=l.map f) (by simpa using h) (by simp) (by
  simp only[List.drop_zero]
  rw[Bb (by simp),List.all_map,List.all_eq_true]
  exact fun x _=>hf x)
 simp[Bb] at this
 exact this
theorem UW {α:Type} {H:Hp} {o:Nm} {u n sz:Nat} {l:List α} {f:α→A} (h:vr (H o) u=some (sz,l.map f)) (hn:n≤l.length) (hf:∀ x,((f x).cells.length == sz&&(f x).cells.all fun y=>A.bare1 y&&y.one)=true):Jw H (.osl o u sz 0 n) (.sl false ((l.take n).map f)):=by
 have:=Rn (H:=H) (o:=o) (u:=u) (off:=0) (len:=n) (sz:=sz) (xs:=l.map f) (by simpa using h) (by simpa using hn) (by
  simp only[List.drop_zero]
  rw[← List.map_take,List.all_map,List.all_eq_true]
  exact fun x _=>hf x)
 simpa using this
theorem aq {α:Type} {f:α→A} {l:List α} {i:Nat} (h:i<l.length) {x:A} (hx:f l[i]=x):List.take i (List.take i (l.map f))++[x]=(l.take (i+1)).map f:=by
 rw[List.take_take,Nat.min_self,Hj h,List.map_append,List.map_take,← hx];rfl
theorem XV {H:Hp}:Jw H (.agg [iv 0,.sl true [],.sl true []]) (tX T0):=Dd (by simp;exact⟨Ab rfl,An,An⟩)
def Lm (n:Int):Prop:=-9223372036854775808≤n∧n<9223372036854775808
def BN (n:Int):Prop:=0≤n∧n<18446744073709551616
mutual
def DI:T→Prop
 |.mk k w l=>Lm k∧(∀ x,x ∈ w→BN x)∧w.length*8≤140737488355328∧l.length*56≤140737488355328∧qV l
def qV:List T→Prop
 |[]=>True
 |t::l=>DI t∧qV l
end
theorem bo:∀ {l:List T},qV l ↔ ∀ t,t ∈ l→DI t
 |[]=>by simp[qV]
 |t::l=>by simp[qV,bo (l:=l)]
structure WfT (t:T):Prop where
 k:Lm t.kind
 w:∀ x,x ∈ t.words→BN x
 wl:t.words.length*8≤140737488355328
 kl:t.kids.length*56≤140737488355328
 ks:∀ x,x ∈ t.kids→DI x
theorem wfT_iff {t:T}:DI t ↔ WfT t:=by
 cases t;rw[DI,bo]
 exact⟨fun ⟨a,b,c,d,e⟩=>⟨a,b,c,d,e⟩,fun ⟨a,b,c,d,e⟩=>⟨a,b,c,d,e⟩⟩
def WE.wf (w:WE):Prop:=Lm w.at_∧(0≤w.mask∧w.mask<256)∧BN w.old∧BN w.new
end Go.Proofs.YtbjmaoedheiigaaGreat
namespace Go.Proofs.YtbjmaoedheiigaaGreat
open Go Go.G Go.Proofs
def MM (l:List (List Int)) (s:Int):Int:=if 0≤s∧s<l.length then (szAt l s:Int) else -1
theorem PK (l:List (List Int)) (z m u s:Int):G.Spec Tryz.prog 169 [uB l z m u,iv s] (iv (MM l s)):=by
 refine Al Lu (by simp) fun w0 I0=>?_
 unfold Gn
 by_cases h:0≤s∧s<l.length
 ·obtain⟨h2,e1⟩:=PE h.1 h.2
  have h3:¬ s<0:=by omega
  have h4:¬ (l.length:Int)≤s:=by omega
  simp[h.1,h.2,h2,h3,h4,MM]
  rw[szAt,e1]
  exact Ca rfl
 ·have h3:s<0∨(l.length:Int)≤s:=by omega
  by_cases h5:s<0
  ·simp[h5,MM,h]
   exact Ab rfl
  ·have h6:(l.length:Int)≤s:=by omega
   simp[h5,h6,MM,h]
   exact Ab rfl
def GZ (S:Ar) (k i:Nat):Ar:={ S with l:=S.l.modify k fun e=>(e.1+i,e.2++List.replicate i 0) }
def KS (S:Ar) (k n:Nat):Ar:={ GZ S k n with used:=S.used+n }
@[simp] theorem Ah1 {S:Ar} {k i:Nat}:(GZ S k i).u=S.u:=rfl
@[simp] theorem AfC {S:Ar} {k i:Nat}:(GZ S k i).ur=S.ur:=rfl
@[simp] theorem zH {S:Ar} {k i:Nat}:(GZ S k i).size=S.size:=rfl
@[simp] theorem zN {S:Ar} {k i:Nat}:(GZ S k i).most=S.most:=rfl
@[simp] theorem yJ {S:Ar} {k i:Nat}:(GZ S k i).used=S.used:=rfl
@[simp] theorem AdC {S:Ar} {k i:Nat}:(GZ S k i).l.length=S.l.length:=by simp[GZ]
@[simp] theorem yQ {S:Ar} {k i:Nat} {f:Nat × List Int→Nat × List Int}:(S.l.modify k f).length=S.l.length:=by simp
theorem qU {S:Ar} {k i:Nat} {e:Nat × List Int} (h:S.l[k]? = some e):(GZ S k i).l[k]? = some (e.1+i,e.2++List.replicate i 0):=by simp[GZ,List.getElem?_modify,h]
theorem j4 {S:Ar} {k:Nat}:GZ S k 0=S:=by
 cases S
 simp only[GZ,Ar.mk.injEq,and_true,true_and]
 apply List.ext_getElem
 ·simp
 ·intro j h1 h2
  simp only[List.getElem_modify]
  by_cases e:k=j<;>simp[e]
theorem Wi {S:Ar} {k j:Nat}:GZ (GZ S k 1) k j=GZ S k (j+1):=by
 simp only[GZ,Ar.mk.injEq,and_true,true_and]
 apply List.ext_getElem
 ·simp
 ·intro i h1 h2
  simp only[List.getElem_modify]
  by_cases e:k=i
  ·simp[e,List.replicate_succ];omega
  ·simp[e]
theorem qc {r:Nat} {S S':Ar} {p:Nm} (h1:p ≠ []) (hl:S.l=S'.l) (hu:S.ur=S'.ur):Hf r S p=Hf r S' p:=by
 by_cases h2:p=[0]
 ·subst h2;simp[hl,hu]
 ·exact Zl h1 h2 fun j _=>by rw[hl]
theorem rT {S:Ar} {k:Nat} {e:Nat × List Int} (hk:S.l[k]? = some e) :
  AQ (AQ (Hf 0 S) [0,k] ⟨e.1+1,.arr 1 (List.take e.2.length (e.2.map uv)++[uv 0])⟩) [0] ⟨S.ur,.arr 1 ((Hy 0 S.l).set k (.osl [0,0,k] (e.1+1) 1 0 (e.2.length+1)))⟩=Hf 0 (GZ S k 1):=by
 have hlt:k<S.l.length:=(List.getElem?_eq_some_iff.1 hk).1
 have he:S.l[k]=e:=(List.getElem?_eq_some_iff.1 hk).2
 funext p
 refine FE ?_ (fun h1=>FE ?_ (fun h2=>?_))
 ·simp[GZ,aY hlt,he]
 ·simp[GZ,List.getElem?_modify,hk,Bb]
 ·by_cases h0:p=[]
  ·subst h0
   simp[GZ]
  ·refine Zl h0 h1 fun j hj=>?_
   have:j ≠ k:=fun e=>h2 (by rw[hj,e])
   simp[GZ,List.getElem?_modify,Ne.symm this]
section
theorem td {n:Nat} {w0:World} {I0:Nat→Prop} {M0:Nm→Nat→Prop} {m0:Mu} {k m:Nat} {a:Int} {Q:Exit→Sta→Prop} (hm:m≤200000) :
  ∀ (j i:Nat) (S:Ar) (e:Nat × List Int),S.l[k]? = some e→i+j=m→(e.2.length+j)*8≤140737488355328 →
   Q (.exit 0) ⟨lk [(0,.pob [0] S.u 0),(1,iv k),(2,iv m),(7,iv a),(8,iv m),(19,bv false)],ov 0 (Hf 0 (GZ S k j)) (DH [])⟩ →
  LoopC (Ds Tryz.prog w0 I0 M0 n m0) CL Q ⟨lk [(0,.pob [0] S.u 0),(1,iv k),(2,iv m),(7,iv a),(8,iv i)],ov 0 (Hf 0 S) (DH [])⟩:=by
 intro j
 induction j with
 |zero=>
  intro i S e hk hi hn q
  have:i=m:=by omega
  subst this
  refine Ad Ak CL.eq_1 ?_
  rw[j4] at q
  simp
  exact q
 |succ j ih=>
  intro i S e hk hi hn q
  refine Ad Ak CL.eq_1 ?_
  have hlt:k<S.l.length:=(List.getElem?_eq_some_iff.1 hk).1
  have hge:S.l[k]=e:=(List.getElem?_eq_some_iff.1 hk).2
  have hlt2:(i:Int)<m:=by omega
  have hn1:(e.2.length+1)*8≤140737488355328:=by omega
  have hn2:(e.2.length:Int)*8≤140737488355328:=by omega
  simp[hk,hlt,hge,hlt2,hn1,Aa]
  rw[Af (n:=(i:Int)+1) (by omega) (by omega),show A.v (Value.int IntKind.u64 0)=uv 0 from rfl,rT hk]
  refine ih (i+1) (GZ S k 1) (e.1+1,e.2++List.replicate 1 0) (qU hk) (by omega) (by simp;omega) ?_
  rw[Wi]
  exact q
end
theorem WN (S:Ar) (k n:Nat) (e:Nat × List Int) (hk:S.l[k]? = some e) (hn:(e.2.length+n)*8≤140737488355328) (hm:n≤200000) (h0:0≤S.used) (h1:S.used+n<9223372036854775808) :
  Ia Tryz.prog 170 1 [.pob [0] S.u 0,iv k,iv n] (ov 0 (Hf 0 S) (DH [])) (iv e.2.length) (ov 0 (Hf 0 (KS S k n)) (DH [])):=by
 refine Iz L0 (by simp) fun w0 I0 M0 m0=>?_
 unfold He
 have hlt:k<S.l.length:=(List.getElem?_eq_some_iff.1 hk).1
 have he:S.l[k]=e:=(List.getElem?_eq_some_iff.1 hk).2
 simp[hk,hlt,he]
 refine td (k:=k) (m:=n) hm n 0 S e hk (by omega) hn ?_
 simp[Aa]
 refine E7 rfl rfl (fun i p hi=>?_)
 have hi0:i=0:=by omega
 subst hi0
 simp only[AR,if_true]
 refine FE ?_ (fun h1=>?_)
 ·have e1:S.used=(GZ S k n).used:=rfl
  simp[KS,Af (n:=S.used+n) (by omega) h1]
 ·exact qc h1 rfl rfl
def Kd (S:Ar) (s n:Int):Ar:=if TH S s n=true then KS S s.toNat n.toNat else S
theorem tV {S:Ar} (h:S.Ok) (s:Int):-1≤MM S.w s∧MM S.w s≤S.used:=by
 have:=h.szAt s
 have:=h.used0
 unfold MM
 split<;>omega
theorem VS (S:Ar) (h:S.Ok) (s n:Int):Ia Tryz.prog 172 1 [.pob [0] S.u 0,iv s,iv n] (ov 0 (Hf 0 S) (DH [])) (iv (if TH S s n=true then szAt S.w s else -1)) (ov 0 (Hf 0 (Kd S s n)) (DH [])):=by
 refine Iz MP (by simp) fun w0 I0 M0 m0=>?_
 unfold Hu
 simp
 have o1:=h.used0
 have o2:=h.used1
 have o3:=h.most1
 have oz0:=h.size0
 have oz1:=h.size1
 have oz:=tV h s
 refine LG [S.a,iv s] ((PK S.w S.size S.most S.used s).toB rfl) (by simp;exact⟨dz,Ab rfl⟩) (by simp) ?_
 simp
 have off:(decide (MM S.w s<0) || decide (n<0))=true∨S.most-S.used<n→TH S s n=false:=fun hd=>by
  simp only[TH,decide_eq_false_iff_not]
  simp[MM,Ar.w] at hd ⊢
  split at hd<;>omega
 by_cases hd:(decide (MM S.w s<0) || decide (n<0))=true
 ·have hk:=off (.inl hd)
  have hc:0≤MM S.w s→n<0:=fun h0=>by simp at hd;omega
  simp[hd]
  refine⟨hc,?_⟩
  refine A5 rfl ?_
  simp
  exact E7 rfl (by simp[hk]) (fun i p hi=>by simp[Kd,hk])
 ·have hd:=Bool.eq_false_iff.2 hd
  by_cases h2:S.most-S.used<n
  ·have hk:=off (.inr h2)
   simp[hd,h2,Af (n:=S.most-S.used) (by omega) (by omega)]
   refine A5 rfl ?_
   simp
   exact E7 rfl (by simp[hk]) (fun i p hi=>by simp[Kd,hk])
  ·simp[hd,h2,Af (n:=S.most-S.used) (by omega) (by omega)]
   refine Tk [S.a,iv s] rfl (fun _=>(PK S.w S.size S.most S.used s).toB rfl) (fun _=>by simp;exact⟨dz,Ab rfl⟩) (by simp) ?_
   have hd':0≤MM S.w s∧0≤n:=by simp at hd;exact hd
   have hin:0≤s∧s<S.w.length:=by
    refine Decidable.byContradiction fun e=>?_
    have:=hd'.1
    simp[MM,e] at this
   have hz:MM S.w s=szAt S.w s:=by simp[MM,hin]
   simp[Af (n:=S.size-MM S.w s) (by omega) (by omega)]
   refine⟨fun hc=>?_,fun hc=>?_⟩
   ·have hk:TH S s n=false:=by simp only[TH,decide_eq_false_iff_not];omega
    exact E7 rfl (by simp[hk]) (fun i p hi=>by simp[Kd,hk])
   ·have hlt0:s<S.l.length:=by simpa[Ar.w] using hin.2
    have hk:TH S s n=true:=by simp only[TH,decide_eq_true_eq];exact⟨hin.1,hlt0,hd'.2,by omega,by omega⟩
    obtain⟨k,rfl⟩:=Int.eq_ofNat_of_zero_le hin.1
    obtain⟨m,rfl⟩:=Int.eq_ofNat_of_zero_le hd'.2
    have hlt:k<S.l.length:=by omega
    have hz2:(Go.Proofs.YtbjmaoedheiigaaGreat.szAt S.w k:Int)=S.l[k].2.length:=NS hlt
    refine XL (r:=0) (WN S k m S.l[k] (List.getElem?_eq_getElem hlt) (by omega) (by omega) o1 (by omega)) (fun p=>rfl) rfl (fun _ _=>rfl) (fun _=>⟨trivial,trivial,trivial⟩) (fun _ _=>rfl) (fun _=>trivial) (by simp) ?_
    simp
    refine E7 rfl ?_ (fun i p hi=>?_)
    ·simp[hk,hz2]
    ·simp[Kd,hk]
def CZ (S:Ar) (n:Int):Ar:=if C8 S n=true then KS (I9 S n) ((I9 S n).l.length-1) n.toNat else S
theorem cg {n:Nat} {w0:World} {I0:Nat→Prop} {M0:Nm→Nat→Prop} {m0:Mu} {S:Ar} {k m:Nat} (hk:k<S.l.length) (h0:0≤S.used) (h1:S.used+m≤131072) (h2:(S.l[k].2.length:Int)≤S.used) (hl:S.l.length≤16) {r:A} {Hr:Hp} {z:Int} (hz:z=(k:Int)+1)
  {G:Hp} (hG:∀ o,G o=ov 0 (Hf 0 S) (DH []) o) (hr:r = .tup [iv k,iv S.l[k].2.length]) (hH:Hr=ov 0 (Hf 0 (KS S k m)) (DH [])) :
  WPC (Ds Tryz.prog w0 I0 M0 n m0) BU (Mc (Ds Tryz.prog w0 I0 M0 n m0) [.tmp 4,.tmp 5] 1 r Hr) ⟨lk [(0,.pob [0] S.u 0),(1,iv m),(6,iv z)],G⟩:=by
 have hG:=funext hG
 subst hr hH hG
 unfold BU
 have e1:IntKind.i64.wrap (z-1)=(k:Int):=(Af (n:=z-1) (by omega) (by omega)).trans (by omega)
 simp[e1]
 refine XL (r:=0) (WN S k m S.l[k] (List.getElem?_eq_getElem hk) (by omega) (by omega) h0 (by omega)) (fun p=>rfl) rfl (fun _ _=>rfl) (fun _=>⟨trivial,trivial,trivial⟩) (fun _ _=>rfl) (fun _=>trivial) (by simp) ?_
 simp[e1]
 exact E7 rfl rfl (fun i p hi=>rfl)
set_option pp.deepTerms true in
set_option pp.maxSteps 1000000 in
theorem da (S:Ar) (h:S.Ok) (n:Int):Ia Tryz.prog 104 1 [.pob [0] S.u 0,iv n] (ov 0 (Hf 0 S) (DH []))
  (.tup [iv (if C8 S n=true then ((I9 S n).l.length:Int)-1 else -1),iv (if C8 S n=true then (szAt (I9 S n).w (((I9 S n).l.length:Int)-1):Int) else -1)]) (ov 0 (Hf 0 (CZ S n)) (DH [])):=by
 refine Iz Lr (by simp) fun w0 I0 M0 m0=>?_
 unfold Gz
 have o1:=h.used0
 have o2:=h.used1
 have o3:=h.most1
 have o4:=h.len
 have oz0:=h.size0
 have oz1:=h.size1
 have oz:=h.szAt ((S.l.length:Int)-1)
 by_cases hn:n<0
 ·have hk:C8 S n=false:=by simp only[C8,decide_eq_false_iff_not];omega
  simp[hn]
  exact E7 rfl (by simp[hk]) (fun i p hi=>by simp[CZ,hk])
 by_cases hu:S.most-S.used<n
 ·have hk:C8 S n=false:=by simp only[C8,decide_eq_false_iff_not];omega
  simp[hn,hu,Af (n:=S.most-S.used) (by omega) (by omega)]
  exact E7 rfl (by simp[hk]) (fun i p hi=>by simp[CZ,hk])
 have hk:C8 S n=true:=by simp only[C8,decide_eq_true_eq];omega
 obtain⟨m,rfl⟩:=Int.eq_ofNat_of_zero_le (show 0≤n by omega)
 have hmm:((m:Int)).toNat=m:=by omega
 have new:GU S m=true→∀ G:Hp,(∀ o,G o=ov 0 (Hf 0 (Eg S)) (DH []) o)→WPC (Ds Tryz.prog w0 I0 M0 64 m0) BU (Mc (Ds Tryz.prog w0 I0 M0 64 m0) [.tmp 4,.tmp 5] 1 (A.tup
     [iv (if C8 S m=true then ((I9 S m).l.length:Int)-1 else -1),iv (if C8 S m=true then (szAt (I9 S m).w (((I9 S m).l.length:Int)-1):Int) else -1)]) (ov 0 (Hf 0 (CZ S m)) (DH []))) ⟨lk [(0,.pob [0] S.u 0),(1,iv m),(6,iv ((S.l.length:Int)+1))],G⟩:=fun hs G hG=>by
  have hat:I9 S m=Eg S:=by simp[I9,hs]
  have hl:(Eg S).l.length=S.l.length+1:=by simp[Eg]
  have hlt:S.l.length<(Eg S).l.length:=by omega
  have hg:(Eg S).l[S.l.length].2=[]:=by simp[Eg]
  have hx:(Eg S).l.length≤16:=by
   have:=(nr h m).len
   rwa [hat] at this
  refine cg (S:=Eg S) (k:=S.l.length) (m:=m) hlt (by simpa[Eg] using o1) (by simp only[Eg];omega) (by rw[hg];simpa[Eg] using o1) hx rfl hG ?_ ?_
  ·have hz:=NS hlt
   rw[hat,hk,hl]
   simp only[if_true]
   rw[show((S.l.length+1:Nat):Int)-1=(S.l.length:Int) from by omega,hz]
  ·rw[CZ,hk,if_pos rfl,hat,hl,hmm]
   rfl
 have old:GU S m=false→WPC (Ds Tryz.prog w0 I0 M0 64 m0) BU (Mc (Ds Tryz.prog w0 I0 M0 64 m0) [.tmp 4,.tmp 5] 1 (A.tup
     [iv (if C8 S m=true then ((I9 S m).l.length:Int)-1 else -1),iv (if C8 S m=true then (szAt (I9 S m).w (((I9 S m).l.length:Int)-1):Int) else -1)]) (ov 0 (Hf 0 (CZ S m)) (DH []))) ⟨lk [(0,.pob [0] S.u 0),(1,iv m),(6,iv (S.l.length:Int))],ov 0 (Hf 0 S) (DH [])⟩:=fun hs=>by
  have hat:I9 S m=S:=by simp[I9,hs]
  have h0:S.l.length ≠ 0:=fun e=>by simp[GU,e] at hs
  have ec:(S.l.length:Int)-1=((S.l.length-1:Nat):Int):=by omega
  have hlt:S.l.length-1<S.l.length:=by omega
  rw[hat,hk,ec]
  refine cg (S:=S) (k:=S.l.length-1) (m:=m) hlt o1 (by omega) (h.seg _ (BI _)) o4 (by omega) (fun o=>rfl) ?_ ?_
  ·simp only[if_true]
   rw[NS hlt]
  ·rw[CZ,hk,if_pos rfl,hat,hmm]
 have e7:IntKind.i64.wrap S.l.length=S.l.length:=Af (by omega) (by omega)
 have e8:IntKind.i64.wrap ((S.l.length:Int)+1)=(S.l.length:Int)+1:=Af (by omega) (by omega)
 have e9:IntKind.i64.wrap ((S.l.length:Int)-1)=(S.l.length:Int)-1:=Af (by omega) (by omega)
 have e10:IntKind.i64.wrap (S.most-S.used)=S.most-S.used:=Af (by omega) (by omega)
 have hm0:decide ((m:Int)<0)=false:=by simp
 have hu':¬ S.most-S.used<(m:Int):=hu
 by_cases h0:S.l.length=0
 ·have hs:GU S m=true:=by simp[GU,h0]
  simp[hm0,hu',e10,h0]
  refine A5 rfl ?_
  simp[Aa]
  refine⟨by omega,?_⟩
  have e12:A.v (Value.int IntKind.i64 (IntKind.i64.wrap 1))=iv ((S.l.length:Int)+1):=by
   rw[h0]
   rfl
  rw[e12]
  obtain⟨G,g1,g2⟩:=im (c:=Ds Tryz.prog w0 I0 M0 64 m0) (s:=lk [(0,.pob [0] S.u 0),(1,iv m),(6,iv ((S.l.length:Int)+1))]) (S:=S)
  exact Dv g1 (Dn (new hs G g2))
 ·have hz:MM S.w ((S.l.length:Int)-1)=szAt S.w ((S.l.length:Int)-1):=by simp[MM,Ar.w];omega
  simp[hm0,hu',e10,h0,e9]
  refine Tk [S.a,iv ((S.l.length:Int)-1)] rfl (fun _=>(PK S.w S.size S.most S.used _).toB rfl) (fun _=>by simp;exact⟨dz,Ab rfl⟩) (by simp) ?_
  rw[hz]
  have e11:IntKind.i64.wrap (S.size-szAt S.w ((S.l.length:Int)-1))=S.size-szAt S.w ((S.l.length:Int)-1):=Af (by omega) (by omega)
  by_cases hr:(m:Int)≤S.size-szAt S.w ((S.l.length:Int)-1)
  ·have hs:GU S m=false:=by simp[GU,h0,hr]
   have hr':¬ S.size-szAt S.w ((S.l.length:Int)-1)<(m:Int):=by omega
   simp[e11,hr']
   exact Dn (old hs)
  ·have hr':S.size-szAt S.w ((S.l.length:Int)-1)<(m:Int):=by omega
   by_cases h16:S.l.length<16
   ·have hs:GU S m=true:=by simp[GU,h0,hr,h16]
    have h16':(S.l.length:Int)<16:=by omega
    simp[e11,hr',h16',Aa,e8]
    refine⟨by omega,?_⟩
    obtain⟨G,g1,g2⟩:=im (c:=Ds Tryz.prog w0 I0 M0 64 m0) (s:=lk [(0,.pob [0] S.u 0),(1,iv m),(6,iv ((S.l.length:Int)+1))]) (S:=S)
    exact Dv g1 (Dn (new hs G g2))
   ·have hs:GU S m=false:=by simp[GU,h0,hr,h16]
    have h16':¬ (S.l.length:Int)<16:=by omega
    simp[e11,hr',h16']
    exact Dn (old hs)
theorem jF (z m:Int):Ia Tryz.prog 54 1 [iv z,iv m] (DH []) (.pob [0] 1 0) (ov 0 (Hf 0 (Ku z m)) (DH [])):=by
 refine Iz R5 (by simp) fun w0 I0 M0 m0=>?_
 unfold LD
 have key:∀ a b:Int,a=max z 1→b=min (max m 0) 131072→Mc (Ds Tryz.prog w0 I0 M0 15 m0) [.tmp 4] 1 (.pob [0] 1 0) (ov 0 (Hf 0 (Ku z m)) (DH [])) .ret ⟨lk [(4,.pob [0] 1 0)],DH [([0],⟨1,.cells [.sl true [],iv a,iv b,iv 0]⟩)]⟩:=by
  rintro a b rfl rfl
  refine Oc (Bv (d:=[0]) 0 [0,0] 1 rfl rfl (by simp)) ?_
  simp
  refine E7 rfl rfl (fun i p hi=>?_)
  have hi0:i=0:=by omega
  subst hi0
  simp only[N3,gV,AR,if_true]
  match p with
  |[]=>rfl
  |[0]=>rfl
  |[0,i]=>rfl
  |(a+1)::q=>rfl
  |0::a::b::q=>rfl
 by_cases h1:z<1
 ·simp[h1]
  rw[GV.eq_1]
  by_cases h2:m<0
  ·simp[h2]
   rw[Dx.eq_1]
   simp
   exact key 1 0 (by omega) (by omega)
  ·simp[h2]
   rw[Dx.eq_1]
   by_cases h3:131072<m
   ·simp[h3]
    exact key 1 131072 (by omega) (by omega)
   ·simp[h3]
    exact key 1 m (by omega) (by omega)
 ·simp[h1]
  rw[GV.eq_1]
  by_cases h2:m<0
  ·simp[h2]
   rw[Dx.eq_1]
   simp
   exact key z 0 (by omega) (by omega)
  ·simp[h2]
   rw[Dx.eq_1]
   by_cases h3:131072<m
   ·simp[h3]
    exact key z 131072 (by omega) (by omega)
   ·simp[h3]
    exact key z m (by omega) (by omega)
theorem H7 {n:Nat} {w0:World} {I0:Nat→Prop} {p:Pt} {m r:Int} (m0:0<m) (m1:m≤64) (n0:0≤p.count) (n1:p.count<536870912) (hr:r=if 0<p.count % m then p.count / m+1 else p.count / m) :
  WPC (cx Tryz.prog w0 I0 n) FL (PO Tryz.prog [.tmp 2] (iv r)) ⟨lk [(1,.pob [0] 1 0),(3,iv m)],DH [([0],⟨1,.cells [iv p.kind,iv p.off,iv p.data,iv p.ptrs,iv p.code,iv p.count,iv p.seg,bv p.dbl]⟩)]⟩:=by
 have hm:¬ m=0:=by omega
 have d1:0≤p.count / m:=Int.ediv_nonneg n0 (by omega)
 have d2:p.count / m≤p.count:=Int.ediv_le_self _ n0
 unfold FL
 simp[hm,Int.tmod_eq_emod_of_nonneg n0,Int.tdiv_eq_ediv_of_nonneg n0]
 simp (disch:=omega) only[Af]
 refine⟨fun h=>?_,fun h=>?_⟩
 ·rw[hr,if_pos h]
  exact Ab rfl
 ·rw[hr,if_neg (by omega)]
  exact Ab rfl
theorem Wy (p:Pt) (hs:Zd p):G.Spec Tryz.prog 195 [p.a] (iv ((Bz p).getD (-1))):=by
 obtain⟨s1,s2,s3,s4⟩:=hs
 refine Al P7 (by simp) fun w0 I0=>?_
 unfold J1
 simp
 have go:p.kind=2→0≤p.code→p.code≤6→0≤p.count→p.count<536870912→(Bz p).getD (-1)=(p.count*D7 p.code+63) / 64:=fun h2 b1 b2 b3 b4=>by
  rw[Bz,if_neg (by omega),if_neg (by omega),if_pos ⟨h2,b1,b2,b3,by omega⟩]
  rfl
 refine⟨fun h=>?_,fun h=>⟨fun h2=>⟨fun h7=>?_,fun h7=>⟨fun hx=>?_,fun b1 b2 b3 b4=>⟨fun c0=>?_,fun c0=>⟨fun c1=>?_,fun c1=>⟨fun c2=>?_,fun c2=>⟨fun c3=>?_,fun c3=>⟨fun c4=>?_,fun c4=>?_⟩⟩⟩⟩⟩⟩⟩,fun h2=>?_⟩⟩
 ·rw[Af s1 s2]
  exact Ca (by simp[Bz,h])
 ·rw[Af s3 s4]
  exact Ca (by simp[Bz,h2,h7])
 ·refine Ca ?_
  rw[Bz,if_neg h,if_neg (by omega),if_neg (by omega)]
  rfl
 ·refine Ca ?_
  rw[go h2 b1 b2 b3 b4,c0]
  simp[D7]
 ·refine H7 (m:=64) (by omega) (by omega) b3 b4 ?_
  rw[go h2 b1 b2 b3 b4,c1,show D7 1=1 from rfl]
  split<;>omega
 ·refine H7 (m:=8) (by omega) (by omega) b3 b4 ?_
  rw[go h2 b1 b2 b3 b4,c2,show D7 2=8 from rfl]
  split<;>omega
 ·refine H7 (m:=4) (by omega) (by omega) b3 b4 ?_
  rw[go h2 b1 b2 b3 b4,c3,show D7 3=16 from rfl]
  split<;>omega
 ·refine H7 (m:=2) (by omega) (by omega) b3 b4 ?_
  rw[go h2 b1 b2 b3 b4,c4,show D7 4=32 from rfl]
  split<;>omega
 ·refine H7 (m:=1) (by omega) (by omega) b3 b4 ?_
  have h56:p.code=5∨p.code=6:=by omega
  rw[go h2 b1 b2 b3 b4]
  have hb:D7 p.code=64:=by rcases h56 with h | h<;>rw[h]<;>rfl
  rw[hb];split<;>omega
 ·refine Ca ?_
  rw[Bz,if_neg h,if_neg (by omega),if_neg (by omega)]
  rfl
theorem Im (l:List (List Int)) (s a:Int):G.Spec Tryz.prog 142 [RA l,iv s,iv a] (bv (B0 l s a).isSome):=by
 refine Al So (by simp) fun w0 I0=>?_
 unfold Ly
 simp
 by_cases h:0≤s∧s<l.length∧0≤a
 ·obtain⟨h0,h1,h2⟩:=h
  obtain⟨h3,e1⟩:=PE h0 h1
  simp[h0,h1,h2,h3]
  refine Bl ?_
  rw[Bool.eq_iff_iff]
  simp[B0,h2,e1]
 ·have hd:(decide (0≤s)&&decide (s<l.length)&&decide (0≤a))=false:=by
   rw[Bool.eq_false_iff]
   intro h'
   simp at h'
   exact h ⟨h'.1.1,h'.1.2,h'.2⟩
  simp[hd]
  refine⟨fun h0 h1 h2=>absurd ⟨h0,h1,h2⟩ h,?_⟩
  refine Bl ?_
  cases e:B0 l s a with
  |none=>rfl
  |some x=>
   obtain⟨k1,k2,k3,_⟩:=Ew e
   exact absurd ⟨k1,k2,k3⟩ h
set_option maxRecDepth 8000 in
theorem VW (l:List (List Int)) (hb:∀ x,x ∈ l→x.length*8≤140737488355328) (x:Lc) (hs:Zd x.p) (h0:∀ n,Bz x.p=some n→0≤n):G.Spec Tryz.prog 144 [RA l,x.a] (.tup [(CE l x).1.a,iv (CE l x).2]):=by
 refine Al Qc (by simp) fun w0 I0=>?_
 unfold JP
 simp
 refine Ae (Wy x.p hs) rfl ?_
 by_cases h:x.s<0∨l.length≤x.s∨x.at_<0
 ·have hd:(decide (x.s<0) || decide ((l.length:Int)≤x.s) || decide (x.at_<0))=true:=by
   simp
   omega
  have hh:FV l x.s x.at_ ((Bz x.p).getD 0)=false:=by
   simp only[FV,decide_eq_false_iff_not]
   omega
  simp[hd]
  refine Ao rfl ?_
  simp[CE,hh,Lc.zero,Pt.zero]
 ·have k1:0≤x.s:=by omega
  have k2:x.s<l.length:=by omega
  have k3:0≤x.at_:=by omega
  have k4:¬ (x.s<0):=by omega
  have k5:¬ ((l.length:Int)≤x.s):=by omega
  have k6:¬ (x.at_<0):=by omega
  obtain⟨k7,e1⟩:=PE k1 k2
  have hg:=hb _ (BI k7)
  have hsz:szAt l x.s=l[x.s.toNat].length:=by simp[szAt,e1]
  simp[k1,k2,k3,k4,k5,k6,k7]
  have hg2:x.at_≤l[x.s.toNat].length→IntKind.i64.wrap (l[x.s.toNat].length-x.at_)=l[x.s.toNat].length-x.at_:=fun h=>Af (by omega) (by omega)
  have hw:FV l x.s x.at_ ((Bz x.p).getD 0)=true ↔ x.at_≤l[x.s.toNat].length∧(Bz x.p).getD (-1)≤l[x.s.toNat].length-x.at_:=by
   simp only[FV,decide_eq_true_eq,hsz]
   cases e:Bz x.p with
   |none=>simp only[Option.getD_none];omega
   |some n=>
    have:=h0 n e
    simp only[Option.getD_some];omega
  refine⟨fun q=>?_,fun q1 q2=>?_⟩
  ·refine Ao rfl ?_
   have hn:¬ FV l x.s x.at_ ((Bz x.p).getD 0)=true:=by
    rw[hw]
    rintro⟨q1,q2⟩
    rw[hg2 q1] at q
    omega
   simp[CE,hn,Lc.zero,Pt.zero]
  ·refine Ao rfl ?_
   rw[hg2 q1] at q2
   have hn:=hw.2 ⟨q1,q2⟩
   simp[CE,hn]
def IH (p:Pt):Int:=if p.kind=4 then 9 else if p.kind ≠ 1∧p.kind ≠ 2 then 8 else 0
theorem VK (p:Pt):G.Spec Tryz.prog 143 [p.a] (iv (IH p)):=by
 refine Al PW (by simp) fun w0 I0=>?_
 unfold JF
 simp
 refine⟨fun h=>?_,fun h=>⟨fun h1 h2=>?_,fun h1=>?_⟩⟩
 ·exact Ca (by simp[IH,h])
 ·exact Ca (by simp[IH,h,h1,h2])
 ·refine Ca ?_
  rw[IH,if_neg h,if_neg (by omega)]
theorem RP {w:Int} (h0:0≤w) (h1:w<18446744073709551616):∀ n,Bz (CW w)=some n→0≤n:=by
 unfold CW
 repeat' split
 all_goals intro n
 all_goals simp only[Bz,D7]
 all_goals repeat' split
 all_goals intro h
 all_goals first | cases h | skip
 all_goals first | omega | skip
abbrev zs:List A:=[iv 0,iv 0,iv 0,iv 0,iv 0,iv 0,iv 0,bv false,iv 0,iv 0]
theorem WJ {p:Pt}:(IH p=9∧p.kind=4)∨(IH p=8∧p.kind ≠ 4∧p.kind ≠ 1∧p.kind ≠ 2)∨(IH p=0∧(p.kind=1∨p.kind=2)):=by
 unfold IH
 repeat' split
 all_goals omega
set_option maxRecDepth 8000 in
theorem QK {n:Nat} {w0:World} {I0:Nat→Prop} {l:List (List Int)} (hb:∀ x,x ∈ l→x.length*8≤140737488355328) {p:Pt} {s a:Int} (hs:Zd p) (h0:∀ n,Bz p=some n→0≤n) (h1:-1000000000000000000≤a) (h2:a≤1000000000000000000) (h3:-1000000000000000000≤p.off) (h4:p.off≤1000000000000000000) :
  WPC (cx Tryz.prog w0 I0 n) Ff (PO Tryz.prog [.cell 6 137,.tmp 7] (.tup [(FH l p s a).1.a,iv (FH l p s a).2])) ⟨lk [(0,RA l),(1,iv s),(2,iv a),(6,.pob [0] 1 0),(8,.pob [1] 1 0)],DH [([0],⟨1,.cells zs⟩),([1],⟨1,.cells [iv p.kind,iv p.off,iv p.data,iv p.ptrs,iv p.code,iv p.count,iv p.seg,bv p.dbl]⟩)]⟩:=by
 unfold Ff
 simp
 refine Ae (VK p) rfl ?_
 simp
 rcases WJ (p:=p) with ⟨e,k⟩ | ⟨e,k⟩ | ⟨e,k⟩
 ·simp[e]
  refine Ao rfl ?_
  simp[FH,k,Lc.zero,Pt.zero]
 ·simp[e]
  refine Ao rfl ?_
  simp[FH,k,Lc.zero,Pt.zero]
 ·simp[e]
  rw[Af (n:=a+1) (by omega) (by omega),Af (by omega) (by omega)]
  refine Ae (VW l hb ⟨p,s,a+1+p.off⟩ hs h0) rfl ?_
  simp
  refine Ao rfl ?_
  simp[FH,k]
set_option maxRecDepth 8000 in
theorem Ri {n:Nat} {w0:World} {I0:Nat→Prop} {l:List (List Int)} (hb:∀ x,x ∈ l→x.length*8≤140737488355328) {p q:Pt} (hs:Zd q) (h0:∀ n,Bz q=some n→0≤n) {e:Int} {x:Lc × Int} (hx:x=if e=0 then CE l ⟨q,p.seg,p.off⟩ else (Lc.zero,e)) {X:Sta→Prop} {v:VOb} :
  WPC (cx Tryz.prog w0 I0 n) EY (Gv X (PO Tryz.prog [.cell 6 137,.tmp 7] (.tup [x.1.a,iv x.2]))) ⟨lk [(0,RA l),(6,.pob [0] 1 0),(9,.pob [2] 1 0),(10,.pob [3] 1 0),(11,iv e)],DH [([0],⟨1,.cells zs⟩),([1],v),([2],⟨1,.cells [iv p.kind,iv p.off,iv p.data,iv p.ptrs,iv p.code,iv p.count,iv p.seg,bv p.dbl]⟩),([3],⟨1,.cells [iv q.kind,iv q.off,iv q.data,iv q.ptrs,iv q.code,iv q.count,iv q.seg,bv q.dbl]⟩)]⟩:=by
 unfold EY
 simp
 refine⟨fun he=>?_,fun he=>?_⟩
 rotate_left
 ·refine Ao rfl ?_
  simp[hx,he,Lc.zero,Pt.zero]
 ·refine Ae (VW l hb ⟨q,p.seg,p.off⟩ hs h0) rfl ?_
  simp
  refine Ao rfl ?_
  simp[hx,he]
set_option maxRecDepth 8000 in
theorem VJ (l:List (List Int)) (hb:∀ x,x ∈ l→x.length*8≤140737488355328) (hw:Zu l) (s a:Int) :
  G.Spec Tryz.prog 88 [RA l,iv s,iv a] (.tup [(BP l s a).1.a,iv (BP l s a).2]):=by
 refine Al OB (by simp) fun w0 I0=>?_
 unfold IK
 simp
 refine Ae (Im l s a) rfl ?_
 cases e1:B0 l s a with
 |none=>
  simp
  refine Ao rfl ?_
  simp[BP,e1,Lc.zero,Pt.zero]
 |some w=>
  obtain⟨k1,k2,k3,k4,k5,rfl⟩:=Ew e1
  obtain⟨v0,v1⟩:=DV hw e1
  have hla:=hb _ (BI k4)
  simp[k1,k2,k3,k4,k5]
  refine⟨by omega,?_⟩
  refine Ae (Fi v0 v1) rfl ?_
  have hs:=LJ v0 v1
  have hn:=RP v0 v1
  obtain⟨o1,o2,o3,o4⟩:=Mj v0 v1
  generalize hv:CW l[s.toNat][a.toNat]=p at *
  have e:BP l s a=if p.kind=0 then (Lc.zero,0) else if p.kind ≠ 3 then FH l p s a else if p.dbl=true then D3 l p.seg p.off else match B0 l p.seg p.off with | none=>(Lc.zero,7) | some v=>FH l (CW v) p.seg p.off:=by
   simp only[BP,e1,hv]<;>rfl
  by_cases h0:p.kind=0
  ·simp[h0]
   refine Ao rfl ?_
   simp[e,h0,Lc.zero,Pt.zero]
  by_cases h3:p.kind=3
  ·cases hd:p.dbl with
   |true=>
    simp[h3,hd]
    rw[if_neg h0,if_neg (by simp[h3]),if_pos hd] at e
    refine Ae (Im l p.seg p.off) rfl ?_
    cases e2:B0 l p.seg p.off with
    |none=>
     simp
     refine C6 rfl (fun _=>Im l p.seg (p.off+1)) (fun e=>by simp at e) rfl ?_
     simp
     refine Ao rfl ?_
     simp[e,D3,e2,Lc.zero,Pt.zero]
    |some v=>
     simp
     rw[Af (by omega) (by omega)]
     refine C6 rfl (fun _=>Im l p.seg (p.off+1)) (fun e=>by simp[e]) rfl ?_
     cases e3:B0 l p.seg (p.off+1) with
     |none=>
      simp
      refine Ao rfl ?_
      simp[e,D3,e2,e3,Lc.zero,Pt.zero]
     |some w=>
      obtain⟨k1,k2,k3,k4,k5,rfl⟩:=Ew e2
      obtain⟨_,_,k6,_,k7,rfl⟩:=Ew e3
      obtain⟨v0,v1⟩:=DV hw e2
      obtain⟨w0',w1⟩:=DV hw e3
      have dd:D3 l p.seg p.off=if (CW l[p.seg.toNat][p.off.toNat]).kind ≠ 3∨(CW l[p.seg.toNat][p.off.toNat]).dbl=true then (Lc.zero,8) else if IH (CW l[p.seg.toNat][(p.off+1).toNat])=0∧(CW l[p.seg.toNat][(p.off+1).toNat]).off=0 then CE l ⟨CW l[p.seg.toNat][(p.off+1).toNat],(CW l[p.seg.toNat][p.off.toNat]).seg,(CW l[p.seg.toNat][p.off.toNat]).off⟩ else (Lc.zero,if IH (CW l[p.seg.toNat][(p.off+1).toNat])=0 then 8 else IH (CW l[p.seg.toNat][(p.off+1).toNat])):=by
       simp only[D3,e2,e3]
       generalize CW l[p.seg.toNat][p.off.toNat]=x
       generalize CW l[p.seg.toNat][(p.off+1).toNat]=y
       split
       ·rfl
       ·rcases WJ (p:=y) with ⟨e,k⟩ | ⟨e,k⟩ | ⟨e,k⟩
        ·simp[e,k]
        ·simp[e,k]
        ·rw[if_neg (by omega)]
         simp[e]
         by_cases ho:y.off=0
         ·rw[if_neg (by omega),if_pos ho]
         ·rw[if_pos (by omega),if_neg ho]
      rw[e,dd]
      simp[k1,k2,k3,k4,k5,k6,k7]
      have hs:=LJ w0' w1
      have hn:=RP w0' w1
      refine⟨by omega,?_⟩
      refine Ae (Fi v0 v1) rfl ?_
      simp[k1,k2,k3,k4,k5,k6,k7]
      rw[Af (by omega) (by omega)]
      simp[k6,k7]
      refine⟨by omega,?_⟩
      refine Ae (Fi w0' w1) rfl ?_
      generalize CW l[p.seg.toNat][p.off.toNat]=x
      generalize CW l[p.seg.toNat][(p.off+1).toNat]=y at *
      simp
      refine⟨fun h=>?_,fun a1 a2=>?_⟩
      ·refine Ao rfl ?_
       rw[if_pos h]
       rfl
      ·rw[if_neg (by simp[a1,a2])]
       refine Ae (VK y) rfl ?_
       simp
       refine⟨fun h1 h2=>?_,fun h=>?_⟩
       ·exact Ri hb hs hn (by simp[h1,h2])
       ·refine Ri hb hs hn ?_
        by_cases h1:IH y=0
        ·simp[h1,h h1]
        ·simp[h1]
   |false=>
    simp[h3,hd]
    rw[if_neg h0,if_neg (by simp[h3]),if_neg (by simp[hd])] at e
    refine Ae (Im l p.seg p.off) rfl ?_
    cases e2:B0 l p.seg p.off with
    |none=>
     simp
     refine Ao rfl ?_
     simp[e,e2,Lc.zero,Pt.zero]
    |some w=>
     obtain⟨k1,k2,k3,k4,k5,rfl⟩:=Ew e2
     obtain⟨v0,v1⟩:=DV hw e2
     have hla:=hb _ (BI k4)
     simp[k1,k2,k3,k4,k5]
     refine⟨by omega,?_⟩
     refine Ae (Fi v0 v1) rfl ?_
     have hs:=LJ v0 v1
     have hn:=RP v0 v1
     obtain⟨q1,q2,q3,q4⟩:=Mj v0 v1
     rw[e2] at e
     simp only at e
     rw[e]
     simp
     exact QK hb hs hn (by omega) (by omega) (by omega) (by omega)
  ·simp[h0,h3]
   rw[e,if_neg h0,if_pos h3]
   exact QK hb hs hn (by omega) (by omega) (by omega) (by omega)
end Go.Proofs.YtbjmaoedheiigaaGreat
namespace Go.Proofs.YtbjmaoedheiigaaGreat
open Go Go.G Go.Proofs Go.PL
structure Rf where
 kind:Int
 s:Int
 at_:Int
 data:Int
 kids:Int
 count:Int
 n:Int
def Rf.zero:Rf:=⟨0,0,0,0,0,0,0⟩
def nk (r:Rf):Int:=if r.kind=1 then r.kids else r.count
def Ts (l:List (List Int)) (s a m:Int):Rf × Int:=
 if ((B0 l s a).getD 0 ≠ 0∧(CW ((B0 l s a).getD 0)).kind ≠ 1)∨(CW ((B0 l s a).getD 0)).off<0∨m<(CW ((B0 l s a).getD 0)).off*((CW ((B0 l s a).getD 0)).data+(CW ((B0 l s a).getD 0)).ptrs) then (Rf.zero,8)
 else (⟨9,s,a+1,(CW ((B0 l s a).getD 0)).data,(CW ((B0 l s a).getD 0)).ptrs,(CW ((B0 l s a).getD 0)).off,0⟩,0)
def Y9 (l:List (List Int)) (x:Lc):Rf × Int:=
 if x.p.kind=1 then (⟨1,x.s,x.at_,x.p.data,x.p.ptrs,0,0⟩,0)
 else if x.p.code<7 then (⟨2+x.p.code,x.s,x.at_,0,0,x.p.count,0⟩,0)
 else Ts l x.s x.at_ x.p.count
def LK (l:List (List Int)) (s a:Int):Rf × Int:=
 if (BP l s a).2 ≠ 0∨(BP l s a).1.p.kind=0 then (Rf.zero,(BP l s a).2) else Y9 l (BP l s a).1
def MO (g:List Int) (c i:Int):Int:=
 if Aw c<1∨i<0∨1099511627776<i then 0 else ((g[(i*Aw c / 64).toNat]?).getD 0) / 2 ^ (i*Aw c % 64).toNat % 2 ^ (Aw c).toNat
def Rm (l:List (List Int)) (r:Rf) (i:Int):Int:=MO (((seg l r.s).getD []).drop r.at_.toNat) (r.kind-2) i
def BT (l:List (List Int)) (r:Rf) (i:Int):Rf × Int:=
 if i<0∨nk r≤i then (Rf.zero,0)
 else if r.kind=1 then LK l r.s (r.at_+r.data+i)
 else if r.kind=8 then LK l r.s (r.at_+i)
 else if r.kind=9 then (⟨1,r.s,r.at_+i*(r.data+r.kids),r.data,r.kids,0,0⟩,0)
 else (⟨10,0,0,0,0,0,Rm l r i⟩,0)
def BK (l:List (List Int)) (r:Rf):List Int:=if r.kind=10 then [r.n] else if r.kind ≠ 1 then [] else part l r.s r.at_ r.data
inductive Fj (l:List (List Int)):Rf→Prop
 |zero:Fj l Rf.zero
 |str (s a d k:Int):0≤d→d<65536→0≤k→k<65536→FV l s a (d+k)=true→Fj l ⟨1,s,a,d,k,0,0⟩
 |dat (c s a n:Int):0≤c→c<6→0≤n→n<536870912→FV l s a ((n*D7 c+63) / 64)=true→Fj l ⟨2+c,s,a,0,0,n,0⟩
 |ptrs (s a n:Int):0≤n→n<536870912→FV l s a n=true→Fj l ⟨8,s,a,0,0,n,0⟩
 |comp (s a d k n:Int):0≤d→d<65536→0≤k→k<65536→0≤n→n<536870912→FV l s a (n*(d+k))=true→Fj l ⟨9,s,a,d,k,n,0⟩
 |atom (n:Int):0≤n→n<18446744073709551616→Fj l ⟨10,0,0,0,0,0,n⟩
structure zr (p:Pt):Prop where
 k1:p.kind=1→0≤p.data∧p.data<65536∧0≤p.ptrs∧p.ptrs<65536
 k2:p.kind=2→0≤p.code∧p.code<8∧0≤p.count∧p.count<536870912
 k:p.kind=0∨p.kind=1∨p.kind=2∨p.kind=3∨p.kind=4
theorem Od {w:Int} (h0:0≤w) (h1:w<18446744073709551616):zr (CW w):=by
 unfold CW
 repeat' split
 all_goals refine⟨?_,?_,?_⟩
 all_goals simp
 all_goals omega
def jZ (l:List (List Int)) (x:Lc × Int):Prop:=x.2=0→x.1.p.kind=0∨((x.1.p.kind=1∨x.1.p.kind=2)∧zr x.1.p∧FV l x.1.s x.1.at_ ((Bz x.1.p).getD 0)=true)
theorem SM {l:List (List Int)} {x:Lc} (h:x.p.kind=1∨x.p.kind=2) (hs:zr x.p):jZ l (CE l x):=by
 unfold CE
 split
 ·rename_i hh
  intro _
  exact .inr ⟨h,⟨hs.k1,hs.k2,hs.k⟩,hh⟩
 ·intro h;cases h
theorem WR {l:List (List Int)} {p:Pt} {s a:Int} (hs:zr p):jZ l (FH l p s a):=by
 unfold FH
 split
 ·exact SM (by assumption) hs
 ·split<;>(intro h;cases h)
theorem ZT {l:List (List Int)} (hw:Zu l) (s a:Int):jZ l (D3 l s a):=by
 unfold D3
 split
 ·rename_i v w h1 h2
  obtain⟨a1,a2⟩:=DV hw h2
  have hs:=Od a1 a2
  repeat' split
  all_goals first
   |(intro h;cases h;done)
   |skip
  refine SM ?_ hs
  simp only
  omega
 ·intro h;cases h
theorem Nl {l:List (List Int)} (hw:Zu l) (s a:Int):jZ l (BP l s a):=by
 unfold BP
 split
 ·intro h;cases h
 ·rename_i w h1
  obtain⟨a1,a2⟩:=DV hw h1
  split
  ·intro _;exact .inl rfl
  ·split
   ·exact WR (Od a1 a2)
   ·split
    ·exact ZT hw _ _
    ·split
     ·intro h;cases h
     ·rename_i v h2
      obtain⟨b1,b2⟩:=DV hw h2
      exact WR (Od b1 b2)
theorem dP {p:Pt} (h:p.kind=1):Bz p=some (p.data+p.ptrs):=by simp[Bz,h]
theorem Uq {p:Pt} (h:p.kind=2) (hs:zr p) (h6:p.code<7):Bz p=some ((p.count*D7 p.code+63) / 64):=by
 obtain⟨a,b,c,d⟩:=hs.k2 h
 rw[Bz,if_neg (by omega),if_neg (by omega),if_pos (by omega)]
theorem Nt {p:Pt} (h:p.kind=2) (h7:p.code=7):Bz p=some (p.count+1):=by simp[Bz,h,h7]
theorem Om {a b c:Int} (h:a≤b) (hc:0≤c):a*c≤b*c:=Int.mul_le_mul_of_nonneg_right h hc
theorem U7 {l:List (List Int)} {s a n b m:Int} (h:FV l s a n=true) (h1:a≤b) (h2:0≤m) (h3:b+m≤a+n):FV l s b m=true:=by
 simp only[FV,decide_eq_true_eq] at h ⊢
 omega
theorem nJ {w:Int} (h0:0≤w) (h1:w<18446744073709551616):(CW w).off<536870912:=by
 have:=(gx w).2.1
 unfold CW
 repeat' split
 all_goals simp
 all_goals omega
theorem rU {l:List (List Int)} (hw:Zu l) {s a m:Int} (h:FV l s a (m+1)=true):Fj l (Ts l s a m).1:=by
 unfold Ts
 have h0:0≤(B0 l s a).getD 0∧(B0 l s a).getD 0<18446744073709551616:=by
  cases e:B0 l s a with
  |none=>simp
  |some x=>exact DV hw e
 generalize (B0 l s a).getD 0=w at h0
 have hs:=Od h0.1 h0.2
 have ho:=Mj h0.1 h0.2
 have ho':=nJ h0.1 h0.2
 split
 ·exact .zero
 ·rename_i hc
  have hk:(CW w).kind=1∨CW w=Pt.zero:=by
   by_cases hw0:w=0
   ·subst hw0;exact .inr rfl
   ·left;omega
  have hd:0≤(CW w).data∧(CW w).data<65536∧0≤(CW w).ptrs∧(CW w).ptrs<65536:=by
   rcases hk with hk | hk
   ·exact hs.k1 hk
   ·rw[hk];decide
  refine .comp _ _ _ _ _ hd.1 hd.2.1 hd.2.2.1 hd.2.2.2 (by omega) (by omega) (U7 h (by omega) ?_ (by omega))
  exact Int.mul_nonneg (by omega) (by omega)
theorem xm {l:List (List Int)} (hw:Zu l) {x:Lc} (hk:x.p.kind=1∨x.p.kind=2) (hs:zr x.p) (h:FV l x.s x.at_ ((Bz x.p).getD 0)=true):Fj l (Y9 l x).1:=by
 unfold Y9
 split
 ·rename_i k1
  obtain⟨a,b,c,d⟩:=hs.k1 k1
  rw[dP k1] at h
  exact .str _ _ _ _ a b c d h
 ·rename_i k1
  have k2:x.p.kind=2:=by omega
  obtain⟨a,b,c,d⟩:=hs.k2 k2
  split
  ·rename_i h7
   rw[Uq k2 hs h7] at h
   by_cases h6:x.p.code=6
   ·rw[h6] at h ⊢
    refine .ptrs _ _ _ c d (U7 h (Int.le_refl _) c ?_)
    have e:D7 6=64:=by decide
    simp only[Option.getD_some,e]
    omega
   ·exact .dat _ _ _ _ a (by omega) c d h
  ·rw[Nt k2 (by omega)] at h
   exact rU hw h
theorem gz {l:List (List Int)} (hw:Zu l) (s a:Int):Fj l (LK l s a).1:=by
 unfold LK
 split
 ·exact .zero
 ·rename_i h
  rcases Nl hw s a (by omega) with h0 | ⟨h1,h2,h3⟩
  ·omega
  ·exact xm hw h1 h2 h3
theorem eI {g:List Int} {c i:Int} (hg:∀ x,x ∈ g→0≤x∧x<18446744073709551616):0≤MO g c i∧MO g c i<18446744073709551616:=by
 unfold MO
 split
 ·omega
 ·have h0:0≤(g[(i*Aw c / 64).toNat]?).getD 0∧(g[(i*Aw c / 64).toNat]?).getD 0<18446744073709551616:=by
   cases e:g[(i*Aw c / 64).toNat]? with
   |none=>simp
   |some x=>exact hg x (List.mem_of_getElem? e)
  generalize (g[(i*Aw c / 64).toNat]?).getD 0=x at h0
  have p1:(0:Int)<2 ^ (i*Aw c % 64).toNat:=Int.pow_pos (by omega)
  have p2:(0:Int)<2 ^ (Aw c).toNat:=Int.pow_pos (by omega)
  have d0:0≤x / 2 ^ (i*Aw c % 64).toNat:=Int.ediv_nonneg h0.1 (by omega)
  have d1:x / 2 ^ (i*Aw c % 64).toNat≤x:=Int.ediv_le_self _ h0.1
  have m0:=Int.emod_nonneg (x / 2 ^ (i*Aw c % 64).toNat) (by omega:(2:Int) ^ (Aw c).toNat ≠ 0)
  have m1:x / 2 ^ (i*Aw c % 64).toNat % 2 ^ (Aw c).toNat≤x / 2 ^ (i*Aw c % 64).toNat:=by
   rw[Int.emod_def]
   have:=Int.mul_nonneg (a:=2 ^ (Aw c).toNat) (b:=x / 2 ^ (i*Aw c % 64).toNat / 2 ^ (Aw c).toNat) (by omega) (Int.ediv_nonneg d0 (by omega))
   omega
  omega
theorem RG {l:List (List Int)} (hw:Zu l) {r:Rf} (hr:Fj l r) (i:Int):Fj l (BT l r i).1:=by
 unfold BT
 split
 ·exact .zero
 ·rename_i hi
  cases hr with
  |zero=>simp[nk,Rf.zero] at hi;omega
  |str s a d k a1 a2 a3 a4 h=>simp;exact gz hw _ _
  |dat c s a n a1 a2 a3 a4 h=>
   simp
   rw[if_neg (by omega),if_neg (by omega),if_neg (by omega)]
   have:=eI (g:=((seg l s).getD []).drop a.toNat) (c:=2+c-2) (i:=i) (fun x hx=>by
    cases e:seg l s with
    |none=>rw[e] at hx;simp at hx
    |some g=>
     rw[e] at hx
     obtain⟨_,_,k1,rfl⟩:=Nc e
     exact hw _ (BI k1) _ (V4 hx))
   exact .atom _ this.1 this.2
  |ptrs s a n a1 a2 h=>simp;exact gz hw _ _
  |comp s a d k n a1 a2 a3 a4 a5 a6 h=>
   simp[nk] at hi ⊢
   refine .str _ _ _ _ a1 a2 a3 a4 (U7 h ?_ (by omega) ?_)
   ·have:=Int.mul_nonneg (by omega:0≤i) (by omega:0≤d+k)
    omega
   ·have h1:(i+1)*(d+k)≤n*(d+k):=Om (by omega) (by omega)
    rw[Int.add_mul] at h1
    omega
  |atom n a1 a2=>simp[nk] at hi;omega
inductive Az (l:List (List Int)):Rf→T→Prop
 |mk (r:Rf) (t:T):Fj l r→r.kind=t.kind→BK l r=t.words→nk r=t.kids.length→(∀ (i:Nat) (h:i<t.kids.length),(BT l r i).2=0)→(∀ (i:Nat) (h:i<t.kids.length),Az l (BT l r i).1 t.kids[i])→Az l r t
def Dy (f:Nat→Int→T × Int × Int):Nat→Nat→List T→Int→List T × Int × Int
 |0,_,acc,left=>(acc,left,0)
 |m+1,i,acc,left=>if (f i left).2.2 ≠ 0 then (acc,(f i left).2.1,(f i left).2.2) else Dy f m (i+1) (acc++[(f i left).1]) (f i left).2.1
def CU (r:Rf):Int:=if r.kind=1 then 1+r.data+r.kids else if r.kind=9 then 1+r.count*(1+r.data+r.kids) else 1+nk r
def Dh (l:List (List Int)) (rec:Rf→Int→T × Int × Int) (r:Rf) (i:Nat) (left:Int):T × Int × Int:=
 if (BT l r i).2 ≠ 0 then (T0,left,(BT l r i).2) else rec (BT l r i).1 left
def JX (l:List (List Int)) (rec:Rf→Int→T × Int × Int) (r:Rf) (left:Int):T × Int × Int:=
 (.mk 1 (BK l r) (Dy (Dh l rec r) r.kids.toNat 0 [] left).1,(Dy (Dh l rec r) r.kids.toNat 0 [] left).2.1,(Dy (Dh l rec r) r.kids.toNat 0 [] left).2.2)
def Hn (l:List (List Int)) (r:Rf) (left:Int):T × Int × Int:=(.mk r.kind (BK l r) [],left,0)
def Pm (l:List (List Int)) (r:Rf) (rec1 rec2:Rf→Int→T × Int × Int) (left:Int):T × Int × Int:=
 (.mk r.kind (BK l r) (Dy (Dh l (if r.kind=9 then JX l rec2 else if r.kind=1∨r.kind=8 then rec1 else Hn l) r) (nk r).toNat 0 [] (left-CU r)).1,
  (Dy (Dh l (if r.kind=9 then JX l rec2 else if r.kind=1∨r.kind=8 then rec1 else Hn l) r) (nk r).toNat 0 [] (left-CU r)).2.1,
  (Dy (Dh l (if r.kind=9 then JX l rec2 else if r.kind=1∨r.kind=8 then rec1 else Hn l) r) (nk r).toNat 0 [] (left-CU r)).2.2)
def KK (l:List (List Int)) (r:Rf) (left:Int):T × Int × Int:=(.mk r.kind (BK l r) [],left,3)
def Cb (l:List (List Int)):Nat→Rf→Int→T × Int × Int
 |0,r,left=>if r.kind=0 then Hn l r left else KK l r left
 |1,r,left=>if r.kind=0 then Hn l r left else if r.kind=9∧0<r.count then KK l r left else if left<CU r then KK l r left
  else Pm l r (Cb l 0) (fun r left=>KK l r left) left
 |d+2,r,left=>if r.kind=0 then Hn l r left else if left<CU r then KK l r left else Pm l r (Cb l (d+1)) (Cb l d) left
theorem b6 {f:Nat→Int→T × Int × Int}:∀ {m i:Nat} {acc:List T} {left:Int},(Dy f m i acc left).2.2=0→∃ ks:List T,(Dy f m i acc left).1=acc++ks∧ks.length=m∧∀ (j:Nat) (h:j<ks.length),∃ lf,(f (i+j) lf).2.2=0∧(f (i+j) lf).1=ks[j]
 |0,i,acc,left,h=>⟨[],by simp[Dy],rfl,fun j h=>by simp at h⟩
 |m+1,i,acc,left,h=>by
  rw[Dy] at h ⊢
  by_cases h0:(f i left).2.2 ≠ 0
  ·rw[if_pos h0] at h;exact absurd h h0
  ·rw[if_neg h0] at h ⊢
   obtain⟨ks,e1,e2,e3⟩:=b6 h
   refine⟨(f i left).1::ks,by rw[e1];simp,by simp[e2],fun j hj=>?_⟩
   cases j with
   |zero=>exact⟨left,by simpa using h0,rfl⟩
   |succ j=>
    obtain⟨lf,g1,g2⟩:=e3 j (by simpa using hj)
    refine⟨lf,?_,?_⟩
    ·rw[show i+(j+1)=i+1+j by omega];exact g1
    ·rw[show i+(j+1)=i+1+j by omega];simpa using g2
theorem JC {l:List (List Int)} {r:Rf} (h:Fj l r):0≤nk r∧nk r<536870912:=by
 cases h<;>simp[nk,Rf.zero]<;>omega
theorem VQ {l:List (List Int)} (hw:Zu l) {r:Rf} (hr:Fj l r) {rec:Rf→Int→T × Int × Int} (hrec:∀ (i:Nat) left,i<nk r→(rec (BT l r i).1 left).2.2=0→Az l (BT l r i).1 (rec (BT l r i).1 left).1) {k:Int} {left:Int} (hk:r.kind=k)
  (h:(Dy (Dh l rec r) (nk r).toNat 0 [] left).2.2=0):Az l r (.mk k (BK l r) (Dy (Dh l rec r) (nk r).toNat 0 [] left).1):=by
 obtain⟨ks,e1,e2,e3⟩:=b6 h
 rw[e1]
 simp only[List.nil_append]
 have hn:=JC hr
 refine .mk _ _ hr (by simpa using hk) rfl (by simp[e2];omega) (fun i hi=>?_) (fun i hi=>?_)
 all_goals
  simp only[T.kids_mk] at hi ⊢
  obtain⟨lf,g1,g2⟩:=e3 i hi
  simp only[Nat.zero_add] at g1 g2
  unfold Dh at g1 g2
  by_cases h0:(BT l r i).2 ≠ 0
  ·rw[if_pos h0] at g1;exact absurd g1 h0
  ·rw[if_neg h0] at g1 g2
   first
    |(simpa using h0)
    |(rw[← g2];exact hrec i _ (by omega) g1)
theorem Me {l:List (List Int)} {r:Rf} (hr:Fj l r) (h:r.kind=0∨r.kind=10) {left:Int}:Az l r (Hn l r left).1:=by
 refine .mk _ _ hr rfl rfl ?_ (fun i hi=>by simp[Hn] at hi) (fun i hi=>by simp[Hn] at hi)
 cases hr<;>simp[Hn,nk,Rf.zero] at h ⊢<;>omega
theorem qd {l:List (List Int)} {r:Rf} (hr:Fj l r) (h0:r.kind ≠ 0) (h1:r.kind ≠ 1) (h8:r.kind ≠ 8) (h9:r.kind ≠ 9) (i:Int):(BT l r i).1.kind=0∨(BT l r i).1.kind=10:=by
 unfold BT
 split
 ·exact .inl rfl
 ·exact .inr rfl
theorem Vt {l:List (List Int)} (hw:Zu l) {r:Rf} (hr:Fj l r) {rec1 rec2:Rf→Int→T × Int × Int} (h1:∀ x left,Fj l x→(rec1 x left).2.2=0→Az l x (rec1 x left).1)
  (h2:r.kind=9→0<r.count→∀ x left,Fj l x→(rec2 x left).2.2=0→Az l x (rec2 x left).1) {left:Int} (h:(Pm l r rec1 rec2 left).2.2=0):Az l r (Pm l r rec1 rec2 left).1:=by
 unfold Pm at h ⊢
 refine VQ hw hr (fun i lf hi hq=>?_) rfl h
 have hok:=RG hw hr (i:Int)
 by_cases h9:r.kind=9
 ·simp only[if_pos h9] at hq ⊢
  have hk:nk r=r.count:=by simp[nk,h9]
  have hkid:BT l r i=(⟨1,r.s,r.at_+i*(r.data+r.kids),r.data,r.kids,0,0⟩,0):=by
   rw[BT,if_neg (by omega),if_neg (by omega),if_neg (by omega),if_pos h9]
  rw[hkid] at hq hok ⊢
  unfold JX at hq ⊢
  exact VQ hw hok (fun j lf' hj hq'=>h2 h9 (by omega) _ _ (RG hw hok _) hq') rfl hq
 ·by_cases h18:r.kind=1∨r.kind=8
  ·simp only[if_neg h9,if_pos h18] at hq ⊢
   exact h1 _ _ hok hq
  ·simp only[if_neg h9,if_neg h18] at hq ⊢
   refine Me hok ?_
   by_cases h0:r.kind=0
   ·cases hr<;>simp[nk,Rf.zero] at hi h0<;>omega
   ·exact qd hr h0 (by omega) (by omega) h9 i
theorem HT {l:List (List Int)} (hw:Zu l):∀ (d:Nat) (r:Rf) (left:Int),Fj l r→(Cb l d r left).2.2=0→Az l r (Cb l d r left).1
 |0,r,left,hr,h=>by
  rw[Cb] at h ⊢
  split at h
  ·rename_i h0;rw[if_pos h0];exact Me hr (.inl h0)
  ·exact absurd h (by simp[KK])
 |1,r,left,hr,h=>by
  rw[Cb] at h ⊢
  split at h
  ·rename_i h0;rw[if_pos h0];exact Me hr (.inl h0)
  ·rename_i h0
   split at h
   ·exact absurd h (by simp[KK])
   ·rename_i h9
    split at h
    ·exact absurd h (by simp[KK])
    ·rename_i hc
     rw[if_neg h0,if_neg h9,if_neg hc]
     exact Vt hw hr (fun x lf hx hq=>HT hw 0 x lf hx hq) (fun k9 hk=>absurd ⟨k9,hk⟩ h9) h
 |d+2,r,left,hr,h=>by
  rw[Cb] at h ⊢
  split at h
  ·rename_i h0;rw[if_pos h0];exact Me hr (.inl h0)
  ·rename_i h0
   split at h
   ·exact absurd h (by simp[KK])
   ·rename_i hc
    rw[if_neg h0,if_neg hc]
    exact Vt hw hr (fun x lf hx hq=>HT hw (d+1) x lf hx hq) (fun k9 hk x lf hx hq=>HT hw d x lf hx hq) h
theorem Il (c:Int):G.Spec Tryz.prog 109 [iv c] (iv (Aw c)):=by
 refine Al PC (by simp) fun w0 I0=>?_
 unfold J4
 by_cases h0:c=0
 ·subst h0;simp;exact Ao rfl rfl
 by_cases h1:c=1
 ·subst h1;simp;exact Ao rfl rfl
 by_cases h2:c=2
 ·subst h2;simp;exact Ao rfl rfl
 by_cases h3:c=3
 ·subst h3;simp;exact Ao rfl rfl
 by_cases h4:c=4
 ·subst h4;simp;exact Ao rfl rfl
 by_cases h5:c=5
 ·subst h5;simp;exact Ao rfl rfl
 simp[h0,h1,h2,h3,h4,h5]
 exact Ao rfl (by simp[Aw,h0,h1,h2,h3,h4,h5])
theorem Jh (c:Int):Aw c = -1∨Aw c=0∨Aw c=1∨Aw c=8∨Aw c=16∨Aw c=32∨Aw c=64:=by
 unfold Aw;repeat' split
 all_goals simp
variable {n0:Nat} {w0:World} {I0:Nat→Prop} {Q:Exit→Sta→Prop} {H:Hp}
theorem pA {w:Int} (hw:w≤64):∀ (m:Nat) (x i:Int),0≤x→x<18446744073709551616→0≤i→i+m=w→(∀ b,Q (.exit 0) ⟨lk [(1,uv (x / 2 ^ m)),(5,iv w),(6,iv w),(13,bv b)],H⟩) →
  LoopC (cx Tryz.prog w0 I0 n0) Ek Q ⟨lk [(1,uv x),(5,iv w),(6,iv i)],H⟩:=by
 intro m
 induction m with
 |zero=>
  intro x i h0 h1 h2 h3 hq
  have:i=w:=by simpa using h3
  subst this
  refine Ad Ak Ek.eq_1 ?_
  simp
  simpa using hq _
 |succ m ih=>
  intro x i h0 h1 h2 h3 hq
  refine Ad Ak Ek.eq_1 ?_
  have hi:i<w:=by omega
  simp[hi]
  rw[Af (by omega) (by omega),Int.tdiv_eq_ediv_of_nonneg h0,AE (by omega) (by omega)]
  exact ih _ _ (by omega) (by omega) (by omega) (by omega) (by rw[Rx];exact hq)
theorem Uv {c n:Int} (h:BN n):G.Spec Tryz.prog 57 [iv c,uv n] (bv (I4 c n)):=by
 refine Al Rk (by simp) fun w0 I0=>?_
 unfold Ki
 simp
 refine Ae (Il c) rfl ?_
 simp
 have hw:=Jh c
 refine⟨fun h0=>?_,fun h0=>?_⟩
 ·refine Bl ?_
  simp[I4];omega
 ·refine pA (w:=Aw c) (by omega) (Aw c).toNat n 0 h.1 h.2 (by omega) (by omega) (fun b=>?_)
  simp
  refine Bl ?_
  simp[I4,h0]
theorem cw (c:Int):bV c=if Aw c<1 then 0 else Aw c:=by
 unfold bV Aw
 by_cases h0:c=0
 ·subst h0;rfl
 by_cases h1:c=1
 ·subst h1;rfl
 by_cases h2:c=2
 ·subst h2;rfl
 by_cases h3:c=3
 ·subst h3;rfl
 by_cases h4:c=4
 ·subst h4;rfl
 by_cases h5:c=5
 ·subst h5;rfl
 simp[h0,h1,h2,h3,h4,h5]
theorem cR (c n:Int):G.Spec Tryz.prog 65 [iv c,iv n] (iv (Kp c n)):=by
 refine Al Rp (by simp) fun w0 I0=>?_
 unfold Kl
 simp
 refine Ae (Il c) rfl ?_
 simp
 have hw:=Jh c
 have hb:=cw c
 refine⟨fun h0=>?_,fun a1 a2 a3=>?_⟩
 ·refine Ca ?_
  unfold Kp
  split
  ·rfl
  ·rw[hb,if_pos (by omega)];simp
 ·refine Ae (Il c) rfl ?_
  rw[if_neg (by omega)] at hb
  have hw:Aw c=1∨Aw c=8∨Aw c=16∨Aw c=32∨Aw c=64:=by omega
  have e:Kp c n=(n*Aw c+63) / 64:=by unfold Kp;rw[if_neg (by omega),hb]
  rw[e]
  generalize Aw c=w at *
  simp
  have hq:(64:Int).tdiv w=64 / w:=Int.tdiv_eq_ediv_of_nonneg (by omega)
  rcases hw with rfl | rfl | rfl | rfl | rfl
  all_goals
   simp[hq,Int.tdiv_eq_ediv_of_nonneg a2,Int.tmod_eq_emod_of_nonneg a2]
   simp (disch:=omega) only[Af]
   simp
   first
    |exact⟨fun h=>Ca (by omega),fun h=>Ca (by omega)⟩
    |exact Ca (by omega)
theorem UM (c:Int):G.Spec Tryz.prog 185 [iv c] (.tup [iv (if Aw c<0 then 0 else Aw c),bv (decide (0≤Aw c))]):=by
 refine Al X5 (by simp) fun w0 I0=>?_
 unfold Rh
 by_cases h0:c=0
 ·subst h0;simp;exact Ao rfl rfl
 by_cases h1:c=1
 ·subst h1;simp;exact Ao rfl rfl
 by_cases h2:c=2
 ·subst h2;simp;exact Ao rfl rfl
 by_cases h3:c=3
 ·subst h3;simp;exact Ao rfl rfl
 by_cases h4:c=4
 ·subst h4;simp;exact Ao rfl rfl
 by_cases h5:c=5
 ·subst h5;simp;exact Ao rfl rfl
 have hd:(decide (c<0) || decide (6≤c))=true:=by simp;omega
 simp[hd]
 exact Ao rfl (by simp[Aw,h0,h1,h2,h3,h4,h5])
theorem pM {w:List Int} (hb:w.length*8≤140737488355328) (hq:∀ q,Q (.exit 0) ⟨lk [(0,DP w),(3,iv (BX w).length),(16,bv q)],H⟩):∀ (n:Nat),n≤w.length→BX (w.take n)=BX w →
  LoopC (cx Tryz.prog w0 I0 n0) Eh Q ⟨lk [(0,DP w),(3,iv n)],H⟩:=by
 intro n
 induction n with
 |zero=>
  intro hn ht
  refine Ad Ak Eh.eq_1 ?_
  simp
  have e:(BX w).length=0:=by rw[← ht];rfl
  have:=hq false
  rw[e] at this
  exact this
 |succ n ih=>
  intro hn ht
  have hlt:n<w.length:=by omega
  have e:IntKind.i64.wrap (n:Int)=n:=Af (by omega) (by omega)
  refine Ad Ak Eh.eq_1 ?_
  by_cases h0:w[n]=0
  ·simp[e,hlt,h0]
   exact ih (by omega) (by rw[← PV hlt h0];exact ht)
  ·have e2:(BX w).length=n+1:=by rw[← ht,PT hlt h0];simp;omega
   have:=hq false
   rw[e2] at this
   simp[e,hlt,h0]
   simpa using this
theorem fW (w:List Int) (hb:w.length*8≤140737488355328):G.Spec Tryz.prog 64 [DP w] (DP (BX w)):=by
 refine Al Rv (by simp) fun w0 I0=>?_
 unfold Kk
 simp
 refine pM hb (fun q=>?_) w.length (Cc _) (by rw[Bb (Cc _)])
 have hl:=JE w
 have hb':(BX w).length*8≤140737488355328:=by omega
 simp[hl]
 refine⟨hb',?_⟩
 rw[← List.map_take,← P8]
 exact BQ (by simp) rfl (by simp)
abbrev cE (l:List Int):List A:=l.map u8
def Gd:Nat→Int→List Int
 |0,_=>[]
 |m+1,x=>x % 256::Gd m (x / 256)
@[simp] theorem Wp:∀ (m:Nat) (x:Int),(Gd m x).length=m
 |0,_=>rfl
 |m+1,x=>by simp[Gd,Wp m]
theorem cS {l:List Int} {i:Nat} {v:Int} (h:i<l.length):splice (l.map u8) i [u8 v]=(l.set i v).map u8:=by
 apply List.ext_getElem?
 intro j
 simp only[splice,List.length_singleton]
 rw[List.append_assoc,List.map_set]
 by_cases h1:j<i
 ·rw[List.getElem?_append_left (by simp;omega),List.getElem?_take,if_pos h1,List.getElem?_set_ne (by omega)]
 ·rw[List.getElem?_append_right (by simp;omega)]
  have e:(List.take i (l.map u8)).length=i:=by simp;omega
  rw[e]
  by_cases h2:j=i
  ·subst h2
   rw[List.getElem?_set_self (by simpa using h)]
   simp
  ·rw[List.getElem?_set_ne (by omega),List.getElem?_append_right (by simp;omega),List.getElem?_drop]
   congr 1
   simp;omega
section
variable {n0:Nat} {w0:World} {I0:Nat→Prop} {Q:Exit→Sta→Prop}
end
def Fl (x:Int):List Int:=Gd 8 x
theorem jD {H:Hp} {l:List Int}:Jw H (.agg (cE l)) (.agg (cE l)):=Ab (by simp)
def L8 (x:Int) (i:Nat):Bool:=decide (x / 2 ^ i % 2=1)
def ofZ:List Int→Int
 |[]=>0
 |b::l=>b+256*ofZ l
def Abf (a b:List Int) (mask:Int) (k:Nat):List Int:=(List.range k).map (fun i=>if L8 mask i=true then b.getD i 0 else a.getD i 0)++a.drop k
section
variable {n0:Nat} {w0:World} {I0:Nat→Prop} {Q:Exit→Sta→Prop}
end
def eO (a b mask:Int):Int:=ofZ (Abf (Fl a) (Fl b) mask 8)
@[simp] theorem zB {q:Bool} {n:Nat} {y:A} {K:A→Prop}:GJ q (A.shift n (gd q y)) K=GJ q (A.shift n y) K:=D6 fun h=>by rw[h];rfl
theorem rQ (l:List Int):A.softL (l.map uv)=l.map uv:=by
 rw[Cu,List.map_map];rfl
theorem ug:∀ t:T,(tA t).soft=tA t:=by
 refine T.ind fun k w l ih=>?_
 rw[tA_eq]
 simp only[A.soft,A.softL,T.kind_mk,T.words_mk,T.kids_mk,rQ]
 have e:l.map (A.soft ∘ tA)=l.map tA:=List.map_congr_left fun t ht=>ih t ht
 rw[Cu,List.map_map,e]
 rfl
theorem qJ (l:List T):A.softL (l.map tA)=l.map tA:=by
 rw[Cu,List.map_map]
 exact List.map_congr_left fun t _=>ug t
structure Sg (l:List (List Int)):Prop where
 b:∀ x,x ∈ l→x.length*8≤140737488355328
 w:Zu l
def Pj (l:List (List Int)) (r:Rf):A:=if r.kind=0 then .v (.pointer none) else lV l
@[simp] theorem yu (l:List (List Int)) (r:Rf):(Pj l r).cells=[Pj l r]:=by unfold Pj;split<;>rfl
@[simp] theorem AeU (l:List (List Int)) (r:Rf):(Pj l r).one=true:=by unfold Pj;split<;>rfl
@[simp] theorem Ady (l:List (List Int)) (r:Rf):(Pj l r).bare=true:=by unfold Pj;split<;>rfl
@[simp] theorem Aar (l:List (List Int)) (r:Rf):(Pj l r).bare1=true:=by unfold Pj;split<;>rfl
@[simp] theorem zj (l:List (List Int)) (r:Rf):(Pj l r).bare2=true:=by unfold Pj;split<;>rfl
theorem wP {l:List (List Int)} {r:Rf} (h:r.kind ≠ 0):Pj l r=lV l:=if_neg h
abbrev V5 (l:List (List Int)) (r:Rf):List A:=[Pj l r,iv r.kind,iv r.s,iv r.at_,iv r.data,iv r.kids,iv r.count,uv r.n]
abbrev Gx (l:List (List Int)) (r:Rf):A:=.agg (V5 l r)
def Ud (r:Rf):Int:=if r.kind=1 then r.data else if r.kind=10 then 1 else 0
def Md (l:List (List Int)) (r:Rf) (i:Int):Int:=if i<0∨Ud r≤i then 0 else if r.kind=10 then r.n else (B0 l r.s (r.at_+i)).getD 0
theorem s6 (x:Int) (k:Int) (h0:0≤k) (h1:k<64):x / 2 ^ (min k.toNat IntKind.u64.bits)=x / 2 ^ k.toNat:=by
 have:min k.toNat IntKind.u64.bits=k.toNat:=by
  have:IntKind.u64.bits=64:=rfl
  omega
 rw[this]
set_option maxRecDepth 8000 in
theorem kr {g:List Int} (hg:∀ x,x ∈ g→0≤x∧x<18446744073709551616) (hl:g.length*8≤140737488355328) (c i:Int):G.Spec Tryz.prog 255 [DP g,iv c,iv i] (uv (MO g c i)):=by
 refine Al dh (by simp) fun w0 I0=>?_
 unfold Vq
 simp
 refine Ae (UM c) rfl ?_
 have hw:=Jh c
 by_cases h0:Aw c<1∨i<0∨1099511627776<i
 ·have e:MO g c i=0:=by unfold MO;rw[if_pos h0]
  rw[e]
  rcases hw with h | h | h | h | h | h | h
  ·simp[h];exact Ab rfl
  ·simp[h];exact Ab rfl
  all_goals
   by_cases hi:i<0
   ·simp[h,hi];exact Ab rfl
   ·have hb:1099511627776<i:=by omega
    simp[h,hi,hb];exact Ab rfl
 ·have hw1:Aw c=1∨Aw c=8∨Aw c=16∨Aw c=32∨Aw c=64:=by omega
  have hi0:0≤i:=by omega
  have hi1:i≤1099511627776:=by omega
  have e:MO g c i=((g[(i*Aw c / 64).toNat]?).getD 0) / 2 ^ (i*Aw c % 64).toNat % 2 ^ (Aw c).toNat:=by unfold MO;rw[if_neg h0]
  rw[e]
  clear e hw
  generalize Aw c=w at hw1 h0
  have hn:¬ w<0:=by omega
  have hn0:¬ w=0:=by omega
  have hp:0≤w:=by omega
  have hneg:¬ i<0:=by omega
  have hbig:¬ 1099511627776<i:=by omega
  have hb:0≤i*w∧i*w≤70368744177664:=by rcases hw1 with rfl | rfl | rfl | rfl | rfl<;>omega
  have e1:IntKind.i64.wrap (i*w)=i*w:=Af (by omega) (by omega)
  have e2:IntKind.i64.wrap ((i*w).tdiv 64)=i*w / 64:=by rw[Int.tdiv_eq_ediv_of_nonneg hb.1,Af (by omega) (by omega)]
  have e3:(i*w).tmod 64=i*w % 64:=Int.tmod_eq_emod_of_nonneg hb.1
  have hm:0≤i*w % 64:=by omega
  have hm1:i*w % 64<64:=by omega
  have hd0:0≤i*w / 64:=by omega
  by_cases hr:(g.length:Int)≤i*w / 64
  ·have en:g[(i*w / 64).toNat]? = none:=List.getElem?_eq_none (by omega)
   simp[hn,hn0,hp,hneg,hbig,e1,e2,hr,en]
   exact Ab rfl
  ·have hlt:(i*w / 64).toNat<g.length:=by omega
   have hlt':i*w / 64<g.length:=by omega
   have hx:=hg _ (BI hlt)
   simp[hn,hn0,hp,hneg,hbig,e1,e2,e3,hr,hd0,hlt,hlt',hm,s6 _ _ hm hm1]
   have hx0:0≤g[(i*w / 64).toNat] / 2 ^ (i*w % 64).toNat:=Int.ediv_nonneg hx.1 (Int.le_of_lt (Int.pow_pos (by decide)))
   have hx1:g[(i*w / 64).toNat] / 2 ^ (i*w % 64).toNat<18446744073709551616:=Int.lt_of_le_of_lt (Int.ediv_le_self _ hx.1) hx.2
   generalize g[(i*w / 64).toNat] / 2 ^ (i*w % 64).toNat=y at hx0 hx1
   refine⟨fun h=>?_,fun h=>?_⟩
   ·refine Ca ?_
    rw[h]
    exact(Int.emod_eq_of_lt hx0 (by simpa using hx1)).symm
   ·refine Ca ?_
    have em:∀ k:Nat,k<64→IntKind.u64.wrap (IntKind.u64.wrap (2 ^ min k IntKind.u64.bits)-1)=2 ^ k-1:=fun k hk=>by
     have h64:min k IntKind.u64.bits=k:=by
      have:IntKind.u64.bits=64:=rfl
      omega
     have hp:(2:Int) ^ k≤9223372036854775808:=by
      have h2:=Int.ofNat_le.2 (Nat.pow_le_pow_right (n:=2) (by decide) (by omega:k≤63))
      rw[Int.natCast_pow] at h2
      exact h2
     have hp0:(0:Int)<2 ^ k:=Int.pow_pos (by decide)
     rw[h64,AE (n:=2 ^ k) (by omega) (by omega),AE (by omega) (by omega)]
    rw[em w.toNat (by omega)]
    exact N4 w.toNat (by omega) hx0 hx1
theorem bB (c:Int):G.Spec Tryz.prog 254 [iv c] (.tup [iv (if Aw c<0 then 0 else Aw c),bv (decide (0≤Aw c))]):=by
 refine Al Zh (by simp) fun w0 I0=>?_
 unfold Qs
 simp
 refine Ae (UM c) rfl ?_
 simp
 exact Ab rfl
theorem DF {cs:List A} {x:Value} (h:cs.all A.bare2=true):(A.tup [.agg cs,.v x]).bare=true:=by
 simp only[A.bare,List.all_cons,List.all_nil,Bool.and_true]
 rw[h];rfl
theorem Ch (l:List (List Int)) (r:Rf):G.Spec Tryz.prog 95 [Gx l r] (iv r.kind):=by
 refine Al QS (by simp) fun w0 I0=>?_
 unfold Kr
 simp
 exact Ab rfl
theorem Hd (l:List (List Int)) (r:Rf):G.Spec Tryz.prog 192 [Gx l r] (iv (Ud r)):=by
 refine Al Py (by simp) fun w0 I0=>?_
 unfold JK
 by_cases h1:r.kind=1
 ·simp[h1];exact Ao rfl (by simp[Ud,h1])
 ·by_cases h10:r.kind=10
  ·simp[h10];exact Ao rfl (by simp[Ud,h10])
  ·simp[h1,h10];exact Ao rfl (by simp[Ud,h1,h10])
theorem DM (l:List (List Int)) (r:Rf):G.Spec Tryz.prog 137 [Gx l r] (iv (nk r)):=by
 refine Al Rt (by simp) fun w0 I0=>?_
 unfold Kn
 by_cases h1:r.kind=1
 ·simp[h1];exact Ao rfl (by simp[nk,h1])
 ·simp[h1];exact Ao rfl (by simp[nk,h1])
theorem C7 {l:List (List Int)} (hs:Sg l) {s a n:Int} (h:FV l s a n=true):0≤a∧0≤n∧a+n≤17592186044416:=by
 obtain⟨h1,h2,h3,h4,h5,_,h6⟩:=LN h
 have:=hs.b _ (BI h5)
 omega
theorem Gi {l:List (List Int)} (hs:Sg l) {r:Rf} (hr:Fj l r) (i:Int):G.Spec Tryz.prog 150 [Gx l r,iv i] (uv (Md l r i)):=by
 refine Al Qq (by simp) fun w0 I0=>?_
 unfold Kt
 simp
 refine C6 rfl (fun _=>Hd l r) (fun e=>by simp[e]) (by simp) ?_
 by_cases hi:i<0∨Ud r≤i
 ·have hd:(decide (i<0) || decide (Ud r≤i))=true:=by simpa using hi
  simp[hd]
  exact Ao rfl (by simp[Md,hi])
 ·have hd:(decide (i<0) || decide (Ud r≤i))=false:=by simpa using hi
  simp[hd]
  have e:Md l r i=if r.kind=10 then r.n else (B0 l r.s (r.at_+i)).getD 0:=by rw[Md,if_neg hi]
  by_cases h10:r.kind=10
  ·simp[h10]
   exact Ao rfl (by rw[e,if_pos h10])
  ·have h1:r.kind=1:=by
    cases hr<;>simp[Ud,Rf.zero] at hi h10 ⊢<;>omega
   simp[h10]
   rw[e,if_neg h10,wP (by omega)]
   have hb:IntKind.i64.wrap (r.at_+i)=r.at_+i:=by
    cases hr with
    |str s a d k a1 a2 a3 a4 h=>
     have:=C7 hs h
     simp[Ud] at hi ⊢
     exact Af (by omega) (by omega)
    |_=>simp[Rf.zero] at h1<;>omega
   rw[hb]
   refine Ae (Na l hs.b r.s (r.at_+i)) rfl ?_
   simp
   exact Ab rfl
theorem kI {l:List (List Int)} (hs:Sg l) (s a n:Int) (ha:0≤a) (ha1:a≤17592186044416):G.Spec Tryz.prog 158 [.agg [lV l,iv 0,iv s,iv a,iv 0,iv 0,iv 0,uv 0],iv n] (.tup [Gx l (Ts l s a n).1,iv (Ts l s a n).2]):=by
 have h0:0≤(B0 l s a).getD 0∧(B0 l s a).getD 0<18446744073709551616:=by
  cases e:B0 l s a with
  |none=>simp
  |some x=>exact DV hs.w e
 refine Al Ml (by simp) fun w0 I0=>?_
 unfold GL
 simp
 refine Ae (Na l hs.b s a) rfl ?_
 simp
 unfold Ts
 generalize (B0 l s a).getD 0=w at h0
 refine Ae (H6 h0.1 h0.2) rfl ?_
 have hsh:=Od h0.1 h0.2
 have ho:=Mj h0.1 h0.2
 have hdp:0≤(CW w).data∧(CW w).data<65536∧0≤(CW w).ptrs∧(CW w).ptrs<65536:=by
  unfold CW
  repeat' split
  all_goals simp
  all_goals omega
 generalize CW w=p at hsh ho hdp
 have hb:-70368744177664≤p.off*(p.data+p.ptrs)∧p.off*(p.data+p.ptrs)≤70368744177664:=by
  have b1:p.off*(p.data+p.ptrs)≤536870912*(p.data+p.ptrs):=Int.mul_le_mul_of_nonneg_right (by omega) (by omega)
  have b2:-536870912*(p.data+p.ptrs)≤p.off*(p.data+p.ptrs):=Int.mul_le_mul_of_nonneg_right (by omega) (by omega)
  omega
 have e1:IntKind.i64.wrap (p.data+p.ptrs)=p.data+p.ptrs:=Af (by omega) (by omega)
 have e2:IntKind.i64.wrap (p.off*(p.data+p.ptrs))=p.off*(p.data+p.ptrs):=Af (by omega) (by omega)
 have e3:IntKind.i64.wrap (a+1)=a+1:=Af (by omega) (by omega)
 by_cases hc:(w ≠ 0∧p.kind ≠ 1)∨p.off<0∨n<p.off*(p.data+p.ptrs)
 ·have hd:(((!decide (w=0)&&!decide (p.kind=1)) || decide (p.off<0)) || decide (n<p.off*(p.data+p.ptrs)))=true:=by simp;omega
  rw[if_pos hc]
  simp[e1,e2,hd]
  exact Ao (DF (by simp)) (by simp[Rf.zero,Pj])
 ·have hd:(((!decide (w=0)&&!decide (p.kind=1)) || decide (p.off<0)) || decide (n<p.off*(p.data+p.ptrs)))=false:=by simp;omega
  rw[if_neg hc]
  simp[e1,e2,e3,hd]
  exact Ao (DF (by simp)) (by simp[Pj])
theorem Zj {l:List (List Int)} (hs:Sg l) (s a:Int):G.Spec Tryz.prog 99 [lV l,iv s,iv a] (.tup [Gx l (LK l s a).1,iv (LK l s a).2]):=by
 have hf:=Nl hs.w s a
 refine Al bm (by simp) fun w0 I0=>?_
 unfold S9
 simp
 refine Ae (ZM l hs.b hs.w s a) rfl ?_
 unfold LK
 generalize BP l s a=x at hf
 obtain⟨x,e⟩:=x
 unfold jZ at hf
 simp only at hf ⊢
 by_cases hc:e ≠ 0∨x.p.kind=0
 ·have hd:(!decide (e=0) || decide (x.p.kind=0))=true:=by simp;omega
  simp[hd,hc]
  exact Ao (DF (by simp)) (by simp[Rf.zero,Pj])
 ·have hd:(!decide (e=0) || decide (x.p.kind=0))=false:=by simp;omega
  have he:e=0:=by omega
  obtain h0 | ⟨hk,hsh,hw⟩:=hf he
  ·omega
  have hbd:=C7 hs hw
  rw[if_neg hc]
  simp[hd]
  unfold Y9
  by_cases k1:x.p.kind=1
  ·simp[k1]
   exact Ao (DF (by simp)) (by simp[Pj])
  ·have k2:x.p.kind=2:=by omega
   obtain⟨c0,c1,_,_⟩:=hsh.k2 k2
   by_cases c6:x.p.code<6
   ·have e2:IntKind.i64.wrap (2+x.p.code)=2+x.p.code:=Af (by omega) (by omega)
    have c7:x.p.code<7:=by omega
    have nz:¬ (2+x.p.code=0):=by omega
    simp[k1,c6,c7,e2]
    exact⟨Ao (DF (by simp)) (by simp[Pj,nz]),fun h=>absurd h (by omega)⟩
   ·by_cases c6':x.p.code=6
    ·simp[k1,c6']
     exact Ao (DF (by simp)) (by simp[Pj])
    ·have c7:¬ x.p.code<7:=by omega
     simp[k1,c6,c6',c7]
     intro _
     refine Ae (kI hs x.s x.at_ x.p.count hbd.1 (by omega)) rfl ?_
     simp
     exact Ab (DF (by simp))
theorem kE {l:List (List Int)} (hs:Sg l):G.Spec Tryz.prog 49 [lV l] (.tup [Gx l (LK l 0 0).1,iv (LK l 0 0).2]):=by
 refine Al Wg (by simp) fun w0 I0=>?_
 unfold Pe
 simp
 refine Ae (Zj hs 0 0) rfl ?_
 simp
 exact Ab (DF (by simp))
end Go.Proofs.YtbjmaoedheiigaaGreat
