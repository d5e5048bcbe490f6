/-
 Texts,merged,without what is not reached.
-/
import Derived.Test.YtgkdikddjfgajaaGreatDoorKMc
set_option linter.unusedSectionVars false
set_option linter.unusedSimpArgs false
set_option linter.unusedVariables false
open Go.IntKind (i64 u64)
namespace Go.Proofs.YtgkdikddjfgajaaGreatDoor
set_option maxRecDepth 20000
open Go Go.G Go.Proofs
@[simp] theorem Adh:Tryz.prog.underlying 51=some (.slice 9):=by kernel_rfl
@[simp] theorem Acv:Tryz.prog.underlying 61=some (.pointer 5):=by kernel_rfl
@[simp] theorem Acq:B2 Tryz.prog 44=some 1:=by kernel_rfl
@[simp] theorem zR:Cu Tryz.prog 44=some false:=by kernel_rfl
@[simp] theorem zT:A1 Tryz.prog 9=some (Value.string ByteArray.empty):=by kernel_rfl
@[simp] theorem uF:BF Tryz.prog 9=some 16:=by kernel_rfl
@[simp] theorem db:Ah Tryz.prog 163 0=some 0:=by kernel_rfl
@[simp] theorem cM:Ah Tryz.prog 163 1=some 1:=by kernel_rfl
@[simp] theorem pY (ps:List (Nat × A)):Bw Tryz.prog 225 ps=(BU (fun i=>([(0,1),(1,1),(2,1)]:List (Nat × Nat))[i]?) [A.v (Value.string ByteArray.empty),A.v (Value.string ByteArray.empty),A.v (Value.nilIface)] ps).map A.agg:=by kernel_rfl
def Gm:CC:=sR [oO 6 (.assign (.const (.int .u64 0))),oO 7 (.assign (.const .nilIface))] [0,1,2] (sR [mO 11 0,mO 12 1,mO 13 2,cE 14 140 11 12 13 9 3 3,mO 10 14,xO 15 10 0,xO 16 10 1,aO 8 15,aO 9 16] [0,1,2,8,9] (sQ [mO 17 9,oO 18 (.binOp .neq 44 (xT 17) (.const .nilIface) 44)] [0,1,2,8,9,18] (cD 18 (sR [mO 19 8,mO 20 0,mO 21 1,mO 22 2,mO 23 9,oO 24 (.call { callee:=(.value (.func 66)),args:=#[(.const (.string { data:=#[80,97,114,115,101,85,105,110,116] })),(xT 20),(xT 21),(xT 22),(xT 23)],argTypes:=#[9,9,3,3,44] }),aO 6 19,aO 7 24] [6,7] (.ret)) (.skip)) [8] (sR [mO 25 8,aO 6 25,oO 7 (.assign (.const .nilIface))] [6,7] (.ret))))
theorem KF:BM Tryz.prog 209 26 [(.tmp 6),(.tmp 7)] Gm:=AH Tryz.func209
def BV:CC:=sQ [mO 134 16,mO 135 1,oO 136 (.convert 3 5 (xT 135)),bB .geq 137 5 134 136 5] [1,8,9,10,11,12,13,16,99,100,101,137] (cD 137 (sR [oO 138 (.makeInterface 173 (nI 2)),oO 6 (.assign (.const (.int .u64 0))),aO 7 138] [6,7] (.ret)) (.skip)) [1,8,9,10,11,12,13,16,99,100,101] (sQ [mO 139 13,mO 140 10,bB .geq 141 101 139 140 101] [1,8,9,10,11,12,13,16,99,100,101,141] (cD 141 (sR [mO 142 11,oO 143 (.makeInterface 173 (nI 1)),aO 6 142,aO 7 143] [6,7] (.ret)) (.skip)) [1,8,9,10,11,12,13,16,99,100,101] (sR [mO 144 13,mO 145 1,oO 146 (.convert 3 101 (xT 145)),bB .mul 147 101 144 146 101,aO 13 147] [1,8,9,10,11,12,13,16,99,100,101] (sR [mO 148 13,mO 149 16,oO 150 (.convert 5 101 (xT 149)),bB .add 151 101 148 150 101,aO 17 151] [1,8,9,10,11,12,13,17,99,100,101] (sQ [mO 152 17,mO 153 13,bB .lss 154 101 152 153 101,mO 155 154,mG 156 17 155 false,mG 157 11 155 false,oG 158 (bO .gtr 101 156 157 101) 155 false,pT 159 155 158] [1,8,9,10,11,12,17,99,100,101,159] (cD 159 (sR [mO 160 11,oO 161 (.makeInterface 173 (nI 1)),aO 6 160,aO 7 161] [6,7] (.ret)) (.skip)) [1,8,9,10,11,12,17,99,100,101] (.reg [mO 162 17,aO 13 162] [1,8,9,10,11,12,13,99,100,101])))))
def AM:CC:=sR [bB .lss 102 3 101 100 3] [1,8,9,10,11,12,13,99,100,101,102] (.seq (cD 102 (.skip) (.exit 3)) (.keep [1,8,9,10,11,12,13,99,100,101] (.seq (.block 4 (sR [iO 103 37 99 101,lO 104 5 103,aO 15 104] [1,8,9,10,11,12,13,15,99,100,101] (sR [oO 16 (.assign (.const (.int .u8 0)))] [1,8,9,10,11,12,13,15,99,100,101] (.seq (.block 5 (sR [mO 107 15,oO 108 (.binOp .eql 5 (xT 107) (.const (.int .u8 95)) 5),mO 109 108,mG 110 8 109 true,pF 111 109 110,aO 106 111] [1,8,9,10,11,12,13,15,99,100,101,106] (cD 106 (sR [aB 12 true] [1,8,9,10,11,12,13,99,100,101] (.exit 4)) (sR [mO 113 15,oO 114 (.binOp .leq 5 (.const (.int .u8 48)) (xT 113) 5),mO 115 114,mG 116 15 115 true,oG 117 (.binOp .leq 5 (xT 116) (.const (.int .u8 57)) 5) 115 true,pF 118 115 117,aO 112 118] [1,8,9,10,11,12,13,15,99,100,101,112] (cD 112 (.reg [mO 119 15,oO 120 (.binOp .sub 5 (xT 119) (.const (.int .u8 48)) 5),aO 16 120] [1,8,9,10,11,12,13,16,99,100,101]) (sR [mO 122 15,cA 123 196 122 5,oO 124 (.binOp .leq 5 (.const (.int .u8 97)) (xT 123) 5),mO 125 124,mG 126 15 125 true,oG 127 (cL 196 #[(xT 126)] #[5]) 125 true,oG 128 (.binOp .leq 5 (xT 127) (.const (.int .u8 122)) 5) 125 true,pF 129 125 128,aO 121 129] [1,8,9,10,11,12,13,15,99,100,101,121] (cD 121 (.reg [mO 130 15,cA 131 196 130 5,oO 132 (.binOp .sub 5 (xT 131) (.const (.int .u8 97)) 5),oO 133 (.binOp .add 5 (xT 132) (.const (.int .u8 10)) 5),aO 16 133] [1,8,9,10,11,12,13,16,99,100,101]) (sR [oO 105 (.makeInterface 173 (nI 2)),oO 6 (.assign (.const (.int .u64 0))),aO 7 105] [6,7] (.ret))))))))) (.keep [1,8,9,10,11,12,13,16,99,100,101] BV))))) (.keep [1,8,9,10,11,12,13,99,100,101] (.reg [bQ .add 163 3 101 1 3,mO 101 163] [1,8,9,10,11,12,13,99,100,101])))))
def Df:CC:=sR [mO 94 2,oO 95 (.convert 3 137 (xT 94)),oO 96 (.binOp .shl 101 (.const (.int .u64 1)) (xT 95) 137),oO 97 (.binOp .sub 101 (xT 96) (.const (.int .u64 1)) 101),aO 11 97] [0,1,8,9,10,11] (sR [aB 12 false] [0,1,8,9,10,11,12] (sR [oO 13 (.assign (.const (.int .u64 0)))] [0,1,8,9,10,11,12,13] (sQ [mO 98 0,oO 99 (.convert 9 37 (xT 98)),bN 100 99 37,oO 101 (.move (nI 0))] [1,8,9,10,11,12,13,99,100,101] (.block 3 (.loop AM)) [9,12,13] (sQ [mO 164 12,mO 165 164,mG 166 9 165 true,oG 167 (cL 197 #[(xT 166)] #[9]) 165 true,oG 168 (.unOp .not 4 (xT 167)) 165 true,pF 169 165 168] [13,169] (cD 169 (sR [oO 170 (.makeInterface 173 (nI 2)),oO 6 (.assign (.const (.int .u64 0))),aO 7 170] [6,7] (.ret)) (.skip)) [13] (sR [mO 171 13,aO 6 171,oO 7 (.assign (.const .nilIface))] [6,7] (.ret))))))
def Dd:CC:=sR [oO 10 (.assign (.const (.int .u64 0)))] [0,1,2,8,9] (sQ [mO 85 1] [0,1,2,8,9,85] (.block 2 (sR [bQ .eql 91 3 85 10 3,aO 90 91] [0,1,2,8,9,85,90] (cD 90 (.reg [oO 10 (.assign (.const (.int .u64 1844674407370955162)))] [0,1,2,8,9,10]) (sR [bQ .eql 93 3 85 16 3,aO 92 93] [0,1,2,8,9,92] (cD 92 (.reg [oO 10 (.assign (.const (.int .u64 1152921504606846976)))] [0,1,2,8,9,10]) (.reg [mO 86 1,oO 87 (.convert 3 101 (xT 86)),oO 88 (.binOp .quo 101 (.const (.int .u64 18446744073709551615)) (xT 87) 101),oO 89 (.binOp .add 101 (xT 88) (.const (.int .u64 1)) 101),aO 10 89] [0,1,2,8,9,10])))))) [0,1,2,8,9,10] Df)
def De:CC:=sQ [mO 76 2,bQ .eql 77 3 76 0 3] [0,1,2,8,9,77] (cD 77 (.reg [aI 2 64] [0,1,2,8,9]) (sR [mO 78 2,bQ .lss 79 3 78 0 3,mO 80 79,mG 81 2 80 false,oG 82 (.binOp .gtr 3 (xT 81) (nI 64) 3) 80 false,pT 83 80 82] [0,1,2,8,9,83] (cD 83 (sR [oO 84 (.makeInterface 173 (nI 4)),oO 6 (.assign (.const (.int .u64 0))),aO 7 84] [6,7] (.ret)) (.skip)))) [0,1,2,8,9] Dd 
def DA:CC:=sR [oO 6 (.assign (.const (.int .u64 0))),oO 7 (.assign (.const .nilIface))] [0,1,2] (sQ [mO 18 0,oO 19 (.binOp .eql 9 (xT 18) (.const (.string { data:=#[] })) 9)] [0,1,2,19] (cD 19 (sR [oO 20 (.makeInterface 173 (nI 2)),oO 6 (.assign (.const (.int .u64 0))),aO 7 20] [6,7] (.ret)) (.skip)) [0,1,2] (sR [mO 21 1,bQ .eql 22 3 21 0 3,aO 8 22] [0,1,2,8] (sR [mO 23 0,aO 9 23] [0,1,2,8,9] (.seq (.block 0 (sR [mO 26 1,oO 27 (.binOp .leq 3 (nI 2) (xT 26) 3),mO 28 27,mG 29 1 28 true,oG 30 (.binOp .leq 3 (xT 29) (nI 36) 3) 28 true,pF 31 28 30,aO 25 31] [0,1,2,8,9,25] (cD 25 (.skip) (sR [mO 33 1,bQ .eql 34 3 33 0 3,aO 32 34] [0,2,8,9,32] (cD 32 (sR [aI 1 10] [0,1,2,8,9] (sR [mO 35 0,oO 36 (.index 9 (xT 35) (nI 0)),oO 37 (.binOp .eql 5 (xT 36) (.const (.int .u8 48)) 5)] [0,1,2,8,9,37] (cD 37 (.block 1 (sR [mO 41 0,bN 42 41 9,bQ .geq 43 3 42 3 3,mO 44 43,mG 45 0 44 true,oG 46 (.index 9 (xT 45) (nI 1)) 44 true,oG 47 (cL 196 #[(xT 46)] #[5]) 44 true,oG 48 (.binOp .eql 5 (xT 47) (.const (.int .u8 98)) 5) 44 true,pF 49 44 48,aO 40 49] [0,2,8,9,40] (cD 40 (sR [aI 1 2] [0,1,2,8,9] (.reg [mO 50 0,oO 51 (.slice 9 (xT 50) (some (nI 2)) none none),aO 0 51] [0,1,2,8,9])) (sR [mO 53 0,bN 54 53 9,bQ .geq 55 3 54 3 3,mO 56 55,mG 57 0 56 true,oG 58 (.index 9 (xT 57) (nI 1)) 56 true,oG 59 (cL 196 #[(xT 58)] #[5]) 56 true,oG 60 (.binOp .eql 5 (xT 59) (.const (.int .u8 111)) 5) 56 true,pF 61 56 60,aO 52 61] [0,2,8,9,52] (cD 52 (sR [aI 1 8] [0,1,2,8,9] (.reg [mO 62 0,oO 63 (.slice 9 (xT 62) (some (nI 2)) none none),aO 0 63] [0,1,2,8,9])) (sR [mO 65 0,bN 66 65 9,bQ .geq 67 3 66 3 3,mO 68 67,mG 69 0 68 true,oG 70 (.index 9 (xT 69) (nI 1)) 68 true,oG 71 (cL 196 #[(xT 70)] #[5]) 68 true,oG 72 (.binOp .eql 5 (xT 71) (.const (.int .u8 120)) 5) 68 true,pF 73 68 72,aO 64 73] [0,2,8,9,64] (cD 64 (sR [aI 1 16] [0,1,2,8,9] (.reg [mO 74 0,oO 75 (.slice 9 (xT 74) (some (nI 2)) none none),aO 0 75] [0,1,2,8,9])) (sR [aI 1 8] [0,1,2,8,9] (.reg [mO 38 0,oO 39 (.slice 9 (xT 38) (some (nI 1)) none none),aO 0 39] [0,1,2,8,9]))))))))) (.skip)))) (sR [oO 24 (.makeInterface 173 (nI 3)),oO 6 (.assign (.const (.int .u64 0))),aO 7 24] [6,7] (.ret))))))) (.keep [0,1,2,8,9] De)))))
theorem Gh:BM Tryz.prog 140 172 [(.tmp 6),(.tmp 7)] DA:=AH Tryz.func140
def En:CC:=sR [oO 2 (.assign (.const (.int .u8 0)))] [0] (sR [mO 3 0,oO 4 (.binOp .or 5 (xT 3) (.const (.int .u8 32)) 5),aO 2 4] [2] (.ret))
theorem HT:BM Tryz.prog 196 5 [(.tmp 2)] En:=AH Tryz.func196
def N3:CC:=sR [oO 2 (.assign (.const (.string { data:=#[] })))] [0] (sR [mO 3 0,oO 4 (cL 78 #[(xT 3),(nI 16)] #[101,3]),aO 2 4] [2] (.ret))
theorem U7:BM Tryz.prog 68 5 [(.tmp 2)] N3:=AH Tryz.func68
def QW:CC:=sR [bX 3 133 1 [0],oO 4 (.assign (.const (.string { data:=#[] })))] [0,3] (sQ [fO 5 133 3 0,lO 6 3 5] [0,3,6] (.block 0 (sR [bQ .eql 8 3 6 1 3,aO 7 8] [0,3,6,7] (cD 7 (sR [mO 9 0,fO 10 133 3 2,lO 11 27 10,oO 12 (.build 29 #[(0,(xT 9)),(2,(xT 11))]),cA 13 30 12 29,oO 14 (.binOp .add 9 (.const (.string { data:=#[45] })) (xT 13) 9),aO 4 14] [4] (.ret)) (sR [bQ .eql 16 3 6 2 3,aO 15 16] [0,3,6,15] (cD 15 (sR [mO 17 0,fO 18 133 3 2,lO 19 27 18,oO 20 (.build 29 #[(0,(xT 17)),(2,(xT 19))]),cA 21 30 20 29,oO 22 (.binOp .add 9 (.const (.string { data:=#[43] })) (xT 21) 9),aO 4 22] [4] (.ret)) (sR [bQ .eql 24 3 6 3 3,aO 23 24] [3,23] (cD 23 (sR [fO 25 133 3 3,lO 26 73 25,cA 27 41 26 73,oO 28 (.binOp .add 9 (.const (.string { data:=#[42] })) (xT 27) 9),aO 4 28] [4] (.ret)) (.skip)))))))) [3] (sR [fO 29 133 3 1,lO 30 3 29,oO 31 (.convert 3 101 (xT 30)),cA 32 68 31 101,oO 33 (.binOp .add 9 (.const (.string { data:=#[107] })) (xT 32) 9),aO 4 33] [4] (.ret)))
theorem X4:BM Tryz.prog 69 34 [(.tmp 4)] QW:=AH Tryz.func69
def Fc:CC:=sR [bB .lss 33 3 32 31 3] [1,3,4,30,31,32,33] (.seq (cD 33 (.skip) (.exit 1)) (.keep [1,3,4,30,31,32] (.seq (.block 2 (sR [iO 34 69 30 32,lO 35 127 34,aL 6 127 [1],sT 127 6 35] [1,3,4,6,30,31,32] (.reg [mO 36 3,fO 37 127 6 0,lO 38 3 37,oO 39 (.convert 3 101 (xT 38)),⟨some 40,(cL 68 #[(xT 39)] #[101]),none,[],4,[],true⟩,fO 41 127 6 1,⟨some 42,(lD 5 41),none,[],6,[4],false⟩,oO 43 (.convert 5 101 (xT 42)),⟨some 44,(cL 68 #[(xT 43)] #[101]),none,[],8,[],true⟩,fO 45 127 6 2,⟨some 46,(lD 101 45),none,[],10,[4,8],false⟩,⟨some 47,(cL 68 #[(xT 46)] #[101]),none,[],11,[],true⟩,fO 48 127 6 3,⟨some 49,(lD 101 48),none,[],13,[4,8,11],false⟩,cA 50 68 49 101,oO 51 (.buildSlice 51 4 #[(0,(xT 40)),(1,(xT 44)),(2,(xT 47)),(3,(xT 50))]),oO 52 (.call { callee:=(.value (.func 67)),args:=#[(xT 51),(.const (.string { data:=#[58] }))],argTypes:=#[51,9] }),oO 53 (.buildSlice 51 1 #[(0,(xT 52))]),aP 54 36 53 51 51 [2],aO 3 54] [1,3,4,30,31,32]))) (.reg [bQ .add 55 3 32 1 3,mO 32 55] [1,3,4,30,31,32]))))
def ET:CC:=sR [bB .lss 60 3 59 58 3] [3,4,57,58,59,60] (.seq (cD 60 (.skip) (.exit 3)) (.keep [3,4,57,58,59] (.seq (.block 4 (sR [iO 61 70 57 59,lO 62 131 61,aL 8 131 [3],sT 131 8 62] [3,4,8,57,58,59] (.reg [mO 63 4,fO 64 131 8 0,lO 65 3 64,oO 66 (.convert 3 101 (xT 65)),⟨some 67,(cL 68 #[(xT 66)] #[101]),none,[],4,[],true⟩,oO 68 (.binOp .add 9 (xT 67) (.const (.string { data:=#[58] })) 9),fO 69 131 8 1,⟨some 70,(lD 73 69),none,[],7,[4],false⟩,cA 71 41 70 73,bB .add 72 9 68 71 9,oO 73 (.buildSlice 51 1 #[(0,(xT 72))]),aP 74 63 73 51 51 [4],aO 4 74] [3,4,57,58,59]))) (.reg [bQ .add 75 3 59 1 3,mO 59 75] [3,4,57,58,59]))))
def Fj:CC:=sR [bB .lss 90 3 89 88 3] [1,9,87,88,89,90] (.seq (cD 90 (.skip) (.exit 5)) (.keep [1,9,87,88,89] (.seq (.block 6 (sR [iO 91 71 87 89,lO 92 133 91,aL 11 133 [5],sT 133 11 92] [1,9,11,87,88,89] (.reg [mO 93 9,fO 94 73 1 5,lO 95 3 94,lO 96 133 11,cB 97 69 95 96 3 133,oO 98 (.buildSlice 51 1 #[(0,(xT 97))]),aP 99 93 98 51 51 [6],aO 9 99] [1,9,87,88,89]))) (.reg [bQ .add 100 3 89 1 3,mO 89 100] [1,9,87,88,89])))) 
def K0:CC:=sR [bX 1 73 0 [0],oO 2 (.assign (.const (.string { data:=#[] })))] [1] (sQ [fO 13 73 1 0,lO 14 3 13] [1,14] (.block 0 (sR [bQ .eql 16 3 14 1 3,aO 15 16] [1,14,15] (cD 15 (sR [fO 17 73 1 1,lO 18 29 17,⟨some 19,(cL 30 #[(xT 18)] #[29]),none,[],2,[],true⟩,oO 20 (.binOp .add 9 (.const (.string { data:=#[40] })) (xT 19) 9),oO 21 (.binOp .add 9 (xT 20) (.const (.string { data:=#[62] })) 9),fO 22 73 1 2,⟨some 23,(lD 29 22),none,[],6,[2],false⟩,cA 24 30 23 29,bB .add 25 9 21 24 9,oO 26 (.binOp .add 9 (xT 25) (.const (.string { data:=#[41] })) 9),aO 2 26] [2] (.ret)) (sR [bQ .eql 28 3 14 2 3,aO 27 28] [1,14,27] (cD 27 (sR [aN 3,aN 4] [1,3,4] (sQ [fO 29 73 1 3,lO 30 69 29,bN 31 30 69,oO 32 (.move (nI 0))] [1,3,4,30,31,32] (.block 1 (.loop Fc)) [1,3,4] (sQ [fO 56 73 1 4,lO 57 70 56,bN 58 57 70,oO 59 (.move (nI 0))] [3,4,57,58,59] (.block 3 (.loop ET)) [3,4] (sR [mO 76 3,oO 77 (.call { callee:=(.value (.func 67)),args:=#[(xT 76),(.const (.string { data:=#[44] }))],argTypes:=#[51,9] }),oO 78 (.binOp .add 9 (.const (.string { data:=#[115,123] })) (xT 77) 9),oO 79 (.binOp .add 9 (xT 78) (.const (.string { data:=#[124] })) 9),mO 80 4,oO 81 (.call { callee:=(.value (.func 67)),args:=#[(xT 80),(.const (.string { data:=#[44] }))],argTypes:=#[51,9] }),bB .add 82 9 79 81 9,oO 83 (.binOp .add 9 (xT 82) (.const (.string { data:=#[125] })) 9),aO 2 83] [2] (.ret))))) (sR [bQ .eql 85 3 14 3 3,aO 84 85] [1,84] (cD 84 (sR [aN 9] [1,9] (sQ [fO 86 73 1 6,lO 87 71 86,bN 88 87 71,oO 89 (.move (nI 0))] [1,9,87,88,89] (.block 5 (.loop Fj)) [1,9] (sR [fO 101 73 1 5,lO 102 3 101,oO 103 (.build 29 #[(0,(xT 102))]),cA 104 30 103 29,aO 12 104] [9,12] (sR [mO 105 12,oO 106 (.slice 9 (xT 105) none (some (nI 2)) none),oO 107 (.binOp .add 9 (.const (.string { data:=#[108] })) (xT 106) 9),mO 108 9,oO 109 (.call { callee:=(.value (.func 67)),args:=#[(xT 108),(.const (.string { data:=#[44] }))],argTypes:=#[51,9] }),bB .add 110 9 107 109 9,oO 111 (.binOp .add 9 (xT 110) (.const (.string { data:=#[93] })) 9),aO 2 111] [2] (.ret))))) (.skip)))))))) [] (sR [oO 2 (.assign (.const (.string { data:=#[61] })))] [2] (.ret)))
theorem RH:BM Tryz.prog 41 112 [(.tmp 2)] K0:=AH Tryz.func41
def MU:CC:=sR [oO 2 (.assign (.const (.int .u8 0)))] [0] (sQ [mO 3 0,nC 4 3,fO 5 163 4 1,lO 6 3 5,mO 7 0,nC 8 7,fO 9 163 8 0,lO 10 9 9,bN 11 10 9,bB .geq 12 3 6 11 3] [0,12] (cD 12 (sR [oO 2 (.assign (.const (.int .u8 0)))] [2] (.ret)) (.skip)) [0] (sR [mO 13 0,nC 14 13,fO 15 163 14 0,lO 16 9 15,mO 17 0,nC 18 17,fO 19 163 18 1,lO 20 3 19,oO 21 (.index 9 (xT 16) (xT 20)),aO 2 21] [2] (.ret)))
theorem Tj:BM Tryz.prog 167 22 [(.tmp 2)] MU:=AH Tryz.func167
def N9:CC:=sR [aB 4 false] [0,1] (sQ [mO 5 0,cA 6 167 5 161,mO 7 1,bB .neq 8 5 6 7 5] [0,8] (cD 8 (sR [aB 4 false] [4] (.ret)) (.skip)) [0] (sR [mO 9 0,nC 10 9,fO 11 163 10 1,lO 12 3 11,bQ .add 13 3 12 1 3,nC 14 9,fO 15 163 14 1,sT 3 15 13] [] (sR [aB 4 true] [4] (.ret))))
theorem Vc:BM Tryz.prog 122 16 [(.tmp 4)] N9:=AH Tryz.func122
def Md:CC:=sR [mO 4 0,mO 5 1,cB 6 122 4 5 161 5,oO 7 (.unOp .not 4 (xT 6))] [7] (cD 7 (.reg [oO 8 (cL 121 #[] #[])] []) (.skip))
theorem TS:BM Tryz.prog 124 9 [] Md:=AH Tryz.func124
def KQ:CC:=sR [mO 4 1,bQ .gtr 5 3 4 0 3] [0,5] (cD 5 (.reg [mO 6 0,oO 7 (cL 124 #[(xT 6),(.const (.int .u8 44))] #[161,5])] []) (.skip))
theorem Rl:BM Tryz.prog 168 8 [] KQ:=AH Tryz.func168
def Ex:CC:=sQ [mO 13 0,cA 14 167 13 161,oO 15 (.call { callee:=(.value (.func 62)),args:=#[(.const (.string { data:=#[48,49,50,51,52,53,54,55,56,57,97,98,99,100,101,102] })),(xT 14)],argTypes:=#[9,5] }),bQ .geq 16 3 15 0 3] [0,1,5,16] (cD 16 (.skip) (.exit 0)) [0,1,5] (.block 1 (.reg [mO 17 0,nC 18 17,fO 19 163 18 1,lO 20 3 19,bQ .add 21 3 20 1 3,nC 22 17,fO 23 163 22 1,sT 3 23 21] [0,1,5])) 
def J1:CC:=sR [oO 4 (.assign (.const (.int .u64 0)))] [0,1] (sR [mO 9 0,nC 10 9,fO 11 163 10 1,lO 12 3 11,aO 5 12] [0,1,5] (.seq (.block 0 (.loop Ex)) (.keep [0,1,5] (sR [mO 24 0,nC 25 24,fO 26 163 25 0,lO 27 9 26,mO 28 5,mO 29 0,nC 30 29,fO 31 163 30 1,lO 32 3 31,oO 33 (.slice 9 (xT 27) (some (xT 28)) (some (xT 32)) none),aO 6 33] [1,6] (sR [mO 35 6,oO 36 (cL 209 #[(xT 35),(nI 16),(nI 64)] #[9,3,3]),mO 34 36,xO 37 34 0,xO 38 34 1,aO 7 37,aO 8 38] [1,6,7,8] (sQ [mO 39 8,oO 40 (.binOp .neq 44 (xT 39) (.const .nilIface) 44),mO 41 40,mG 42 7 41 false,oG 43 (cL 68 #[(xT 42)] #[101]) 41 false,mG 44 6 41 false,oG 45 (bO .neq 9 43 44 9) 41 false,pT 46 41 45,mO 47 46,mG 48 7 47 false,mG 49 1 47 false,oG 50 (bO .gtr 101 48 49 101) 47 false,pT 51 47 50] [7,51] (cD 51 (.reg [oO 52 (cL 121 #[] #[])] [7]) (.skip)) [7] (.stop (sR [mO 53 7,aO 4 53] [4] (.ret)))))))))
theorem Q0:BM Tryz.prog 170 54 [(.tmp 4)] J1:=AH Tryz.func170
def KY:CC:=sR [aI 2 0] [0] (sR [mO 3 0,oO 4 (cL 170 #[(xT 3),(.const (.int .u64 1048576))] #[161,101]),oO 5 (.convert 101 3 (xT 4)),aO 2 5] [2] (.stop (.ret)))
theorem Ro:BM Tryz.prog 169 6 [(.tmp 2)] KY:=AH Tryz.func169
def Cz:CC:=cD 25 (.reg [mO 28 4,bQ .add 29 3 28 1 3,aO 4 29] [0,2,3,4]) (sQ [oO 31 (.binOp .eql 5 (xT 24) (.const (.int .u8 125)) 5),aO 30 31] [0,2,3,4,24,30] (cD 30 (.skip) (.reg [oO 32 (.binOp .eql 5 (xT 24) (.const (.int .u8 93)) 5),aO 30 32] [0,2,3,4,24,30])) [0,2,3,4,24,30] (cD 30 (.reg [mO 33 4,bQ .sub 34 3 33 1 3,aO 4 34] [0,2,3,4]) (sR [oO 36 (.binOp .eql 5 (xT 24) (.const (.int .u8 95)) 5),aO 35 36] [0,2,3,4,35] (cD 35 (.skip) (.exit 1)))))
def FL:CC:=sQ [mO 12 0,cA 13 167 12 161,oO 14 (.binOp .neq 5 (xT 13) (.const (.int .u8 0)) 5)] [0,2,3,4,14] (cD 14 (.skip) (.exit 0)) [0,2,3,4] (.block 1 (sR [mO 15 0,cA 16 167 15 161,aO 5 16] [0,2,3,4,5] (sR [mO 17 0,nC 18 17,fO 19 163 18 1,lO 20 3 19,bQ .add 21 3 20 1 3,nC 22 17,fO 23 163 22 1,sT 3 23 21] [0,2,3,4,5] (sQ [mO 24 5] [0,2,3,4,24] (.block 2 (sQ [oO 26 (.binOp .eql 5 (xT 24) (.const (.int .u8 123)) 5),aO 25 26] [0,2,3,4,24,25] (cD 25 (.skip) (.reg [oO 27 (.binOp .eql 5 (xT 24) (.const (.int .u8 91)) 5),aO 25 27] [0,2,3,4,24,25])) [0,2,3,4,24,25] Cz)) [0,2,3,4] (sR [mO 37 4,bQ .leq 38 3 37 0 3] [0,2,3,4,38] (cD 38 (.exit 0) (.skip)))))))
def HO:CC:=sR [mO 40 0,nC 41 40,fO 42 163 41 0,lS 43 9 42 3,mO 44 3,mO 45 0,nC 46 45,fO 47 163 46 1,lS 48 3 47 8,oO 49 (.slice 9 (xT 43) (some (xT 44)) (some (xT 48)) none),⟨some 50,(cL 18 #[(xT 49)] #[9]),none,[],10,[],true⟩,mO 39 50,xO 51 39 0,xO 52 39 1,⟨some 6,(.alloc 29),none,[2],14,[3,8,10],false⟩,sT 29 6 51,aO 7 52] [2,6,7] (sQ [mO 53 7,bQ .neq 54 54 53 0 54] [2,6,54] (cD 54 (.reg [oO 55 (cL 121 #[] #[])] [2,6]) (.skip)) [2,6] (.stop (sR [lO 56 29 6,sT 29 2 56] [2] (.ret)))) 
def M4:CC:=sR [aL 2 29 [1]] [0,2] (sR [mO 8 0,nC 9 8,fO 10 163 9 1,lO 11 3 10,aO 3 11,aI 4 0] [0,2,3,4] (.seq (.block 0 (.loop FL)) (.keep [0,2,3] HO)))
theorem Tr:BM Tryz.prog 123 57 [(.cell 2 29)] M4:=AH Tryz.func123
def IK:CC:=sR [aL 4 73 [1]] [0,1,4] (sR [oO 6 (.build 73 #[]),aL 5 73 [2],sT 73 5 6] [0,1,4,5] (.seq (.block 0 (sR [mO 13 1,bQ .eql 14 3 13 0 3,aO 12 14] [0,1,4,5,12] (cD 12 (.reg [oO 15 (cL 121 #[] #[])] [4,5]) (sR [mO 17 0,oO 18 (cL 122 #[(xT 17),(.const (.int .u8 61))] #[161,5]),aO 16 18] [0,1,4,5,16] (cD 16 (.skip) (sR [mO 20 0,oO 21 (cL 122 #[(xT 20),(.const (.int .u8 40))] #[161,5]),aO 19 21] [0,1,4,5,19] (cD 19 (sR [mO 22 0,cA 23 123 22 161,fO 24 73 5 0,oS (.store 3 (xT 24) (nI 1)),fO 25 73 5 1,sT 29 25 23] [0,4,5] (.stop (sR [mO 26 0,oO 27 (cL 124 #[(xT 26),(.const (.int .u8 62))] #[161,5])] [0,4,5] (.stop (sR [mO 28 0,cA 29 123 28 161,fO 30 73 5 2,sT 29 30 29] [0,4,5] (.stop (.reg [mO 31 0,oO 32 (cL 124 #[(xT 31),(.const (.int .u8 41))] #[161,5])] [4,5]))))))) (sR [mO 34 0,oO 35 (cL 122 #[(xT 34),(.const (.int .u8 115))] #[161,5]),aO 33 35] [0,1,4,5,33] (cD 33 (.reg [mO 36 0,mO 37 1,cB 38 125 36 37 161 3,sT 73 5 38] [4,5]) (sR [mO 7 0,oO 8 (cL 124 #[(xT 7),(.const (.int .u8 108))] #[161,5])] [0,1,4,5] (.stop (.reg [mO 9 0,mO 10 1,cB 11 126 9 10 161 3,sT 73 5 11] [4,5])))))))))))) (.keep [4,5] (.stop (sR [lO 39 73 5,sT 73 4 39] [4] (.ret))))))
theorem M5:BM Tryz.prog 90 40 [(.cell 4 73)] IK:=AH Tryz.func90
def EG:CC:=sQ [mO 11 0,cA 12 167 11 161,oO 13 (.binOp .neq 5 (xT 12) (.const (.int .u8 124)) 5)] [0,1,4,5,13] (cD 13 (.skip) (.exit 0)) [0,1,4,5] (.block 1 (sR [mO 14 0,fO 15 73 5 3,lO 16 69 15,bN 17 16 69,cB 18 168 14 17 161 3] [0,1,4,5] (.stop (sR [mO 19 0,cA 20 169 19 161,oO 21 (.build 127 #[(0,(xT 20))]),aL 6 127 [3],sT 127 6 21] [0,1,4,5,6] (.stop (sR [mO 22 0,oO 23 (cL 124 #[(xT 22),(.const (.int .u8 58))] #[161,5])] [0,1,4,5,6] (.stop (sR [mO 24 0,oO 25 (cL 170 #[(xT 24),(.const (.int .u64 255))] #[161,101]),oO 26 (.convert 101 5 (xT 25)),fO 27 127 6 1,sT 5 27 26] [0,1,4,5,6] (.stop (sR [mO 28 0,oO 29 (cL 124 #[(xT 28),(.const (.int .u8 58))] #[161,5])] [0,1,4,5,6] (.stop (sR [mO 30 0,oO 31 (cL 170 #[(xT 30),(.const (.int .u64 18446744073709551615))] #[161,101]),fO 32 127 6 2,sT 101 32 31] [0,1,4,5,6] (.stop (sR [mO 33 0,oO 34 (cL 124 #[(xT 33),(.const (.int .u8 58))] #[161,5])] [0,1,4,5,6] (.stop (sR [mO 35 0,oO 36 (cL 170 #[(xT 35),(.const (.int .u64 18446744073709551615))] #[161,101]),fO 37 127 6 3,sT 101 37 36] [0,1,4,5,6] (.stop (.reg [fO 38 73 5 3,lO 39 69 38,lO 40 127 6,oO 41 (.buildSlice 69 1 #[(0,(xT 40))]),aP 42 39 41 69 69 [4],fO 43 73 5 3,sT 69 43 42] [0,1,4,5]))))))))))))))))))
def EB:CC:=sQ [mO 46 0,cA 47 167 46 161,oO 48 (.binOp .neq 5 (xT 47) (.const (.int .u8 125)) 5)] [0,1,4,5,48] (cD 48 (.skip) (.exit 2)) [0,1,4,5] (.block 3 (sR [mO 49 0,fO 50 73 5 4,lO 51 70 50,bN 52 51 70,cB 53 168 49 52 161 3] [0,1,4,5] (.stop (sR [mO 54 0,cA 55 169 54 161,oO 56 (.build 131 #[(0,(xT 55))]),aL 7 131 [5],sT 131 7 56] [0,1,4,5,7] (.stop (sR [mO 57 0,oO 58 (cL 124 #[(xT 57),(.const (.int .u8 58))] #[161,5])] [0,1,4,5,7] (.stop (sR [mO 59 0,mO 60 1,bQ .sub 61 3 60 1 3,cB 62 90 59 61 161 3,fO 63 131 7 1,sT 73 63 62] [0,1,4,5,7] (.stop (.reg [fO 64 73 5 4,lO 65 70 64,lO 66 131 7,oO 67 (.buildSlice 70 1 #[(0,(xT 66))]),aP 68 65 67 70 70 [6],fO 69 73 5 4,sT 70 69 68] [0,1,4,5])))))))))) 
def Hs:CC:=sR [aL 4 73 [1]] [0,1,4] (sR [oO 8 (.build 73 #[(0,(nI 2))]),aL 5 73 [2],sT 73 5 8] [0,1,4,5] (sR [mO 9 0,oO 10 (cL 124 #[(xT 9),(.const (.int .u8 123))] #[161,5])] [0,1,4,5] (.stop (.seq (.block 0 (.loop EG)) (.keep [0,1,4,5] (sR [mO 44 0,oO 45 (cL 124 #[(xT 44),(.const (.int .u8 124))] #[161,5])] [0,1,4,5] (.stop (.seq (.block 2 (.loop EB)) (.keep [0,4,5] (sR [mO 70 0,oO 71 (cL 124 #[(xT 70),(.const (.int .u8 125))] #[161,5])] [4,5] (.stop (sR [lO 72 73 5,sT 73 4 72] [4] (.ret)))))))))))))
theorem Mn:BM Tryz.prog 125 73 [(.cell 4 73)] Hs:=AH Tryz.func125
def HQ:CC:=sQ [mO 52 0,cA 53 167 52 161,oO 54 (.binOp .neq 5 (xT 53) (.const (.int .u8 93)) 5)] [0,1,4,7,54] (cD 54 (.skip) (.exit 0)) [0,1,4,7] (.block 1 (sR [mO 55 0,fO 56 73 7 6,lO 57 71 56,bN 58 57 71,cB 59 168 55 58 161 3] [0,1,4,7] (.stop (.reg [fO 60 73 7 6,lS 61 71 60 1,mO 62 0,fO 63 73 7 5,lO 64 3 63,mO 65 1,⟨some 66,(cL 171 #[(xT 62),(xT 64),(xT 65)] #[161,3,3]),none,[],6,[1],false⟩,⟨some 67,(.buildSlice 71 1 #[(0,(xT 66))]),none,[],7,[1],false⟩,aP 68 61 67 71 71 [4],fO 69 73 7 6,sT 71 69 68] [0,1,4,7]))))
def Lh:CC:=sR [fO 42 29 5 0,lO 43 3 42,oO 44 (.build 73 #[(0,(nI 3)),(5,(xT 43))]),aL 7 73 [3],sT 73 7 44] [0,1,4,7] (sR [mO 45 0,nC 46 45,fO 47 163 46 1,lO 48 3 47,bQ .add 49 3 48 2 3,nC 50 45,fO 51 163 50 1,sT 3 51 49] [0,1,4,7] (.seq (.block 0 (.loop HQ)) (.keep [0,4,7] (sR [mO 70 0,oO 71 (cL 124 #[(xT 70),(.const (.int .u8 93))] #[161,5])] [4,7] (.stop (sR [lO 72 73 7,sT 73 4 72] [4] (.ret)))))))
def KR:CC:=sR [mO 21 0,nC 22 21,fO 23 163 22 0,lS 24 9 23 3,mO 25 0,nC 26 25,fO 27 163 26 1,lS 28 3 27 7,mO 29 0,nC 30 29,fO 31 163 30 1,lS 32 3 31 11,bQ .add 33 3 32 2 3,oO 34 (.slice 9 (xT 24) (some (xT 28)) (some (xT 33)) none),oO 35 (.binOp .add 9 (xT 34) (.const (.string { data:=#[93] })) 9),⟨some 36,(cL 18 #[(xT 35)] #[9]),none,[],15,[],true⟩,mO 20 36,xO 37 20 0,xO 38 20 1,⟨some 5,(.alloc 29),none,[2],19,[3,7,11,15],false⟩,sT 29 5 37,aO 6 38] [0,1,4,5,6] (sQ [mO 39 6,bQ .neq 40 54 39 0 54] [0,1,4,5,40] (cD 40 (.reg [oO 41 (cL 121 #[] #[])] [0,1,4,5]) (.skip)) [0,1,4,5] (.stop Lh)) 
def MO:CC:=sR [aL 4 73 [1]] [0,1,4] (sQ [mO 8 0,nC 9 8,fO 10 163 9 1,lO 11 3 10,bQ .add 12 3 11 2 3,mO 13 0,nC 14 13,fO 15 163 14 0,lO 16 9 15,bN 17 16 9,bB .gtr 18 3 12 17 3] [0,1,4,18] (cD 18 (.reg [oO 19 (cL 121 #[] #[])] [0,1,4]) (.skip)) [0,1,4] (.stop KR))
theorem T4:BM Tryz.prog 126 73 [(.cell 4 73)] MO:=AH Tryz.func126
def EX:CC:=sR [mO 16 0,nC 17 16,fO 18 163 17 1,lO 19 3 18,bQ .add 20 3 19 1 3,nC 21 16,fO 22 163 21 1,sT 3 22 20] [0,1,2,6,7] (sR [mO 23 7,oO 24 (.build 133 #[(0,(xT 23))]),aL 8 133 [2],sT 133 8 24] [0,1,2,6,7,8] (sQ [mO 25 7] [0,1,2,6,8,25] (.block 0 (sR [bQ .eql 37 3 25 0 3,aO 36 37] [0,1,2,6,8,25,36] (cD 36 (.reg [mO 38 0,cA 39 169 38 161,fO 40 133 8 1,sT 3 40 39] [6,8]) (sR [bQ .eql 42 3 25 3 3,aO 41 42] [0,1,2,6,8,41] (cD 41 (.reg [mO 43 0,mO 44 2,bQ .sub 45 3 44 1 3,cB 46 90 43 45 161 3,fO 47 133 8 3,sT 73 47 46] [6,8]) (sR [mO 26 0,cA 27 123 26 161,aL 9 29 [3],sT 29 9 27] [1,6,8,9] (.stop (sQ [fO 28 29 9 0,lO 29 3 28,mO 30 1,bB .neq 31 3 29 30 3] [6,8,9,31] (cD 31 (.reg [oO 32 (cL 121 #[] #[])] [6,8,9]) (.skip)) [6,8,9] (.stop (.reg [fO 33 29 9 2,lO 34 27 33,fO 35 133 8 2,sT 27 35 34] [6,8])))))))))) [6,8] (.stop (sR [lO 48 133 8,sT 133 6 48] [6] (.ret))))) 
def Ox:CC:=sR [aL 6 133 [1]] [0,1,2,6] (sR [mO 10 0,cA 11 167 10 161,oO 12 (.call { callee:=(.value (.func 62)),args:=#[(.const (.string { data:=#[107,45,43,42] })),(xT 11)],argTypes:=#[9,5] }),aO 7 12] [0,1,2,6,7] (sQ [mO 13 7,bQ .lss 14 3 13 0 3] [0,1,2,6,7,14] (cD 14 (.reg [oO 15 (cL 121 #[] #[])] [0,1,2,6,7]) (.skip)) [0,1,2,6,7] (.stop EX)))
theorem VR:BM Tryz.prog 171 49 [(.cell 6 133)] Ox:=AH Tryz.func171
def KZ:CC:=sR [aL 2 73 [0],aI 3 0] [0,2] (sR [mO 7 0,cA 8 54 7 9,mO 6 8,xO 9 6 0,xO 10 6 1,aL 4 73 [1],sT 73 4 9,aO 5 10] [0,2,4,5] (sQ [mO 11 5,oO 12 (.unOp .not 4 (xT 11)),mO 13 12,lG 14 73 4 13 false,oG 15 (cL 55 #[(xT 14)] #[73]) 13 false,oG 16 (.unOp .not 4 (xT 15)) 13 false,pT 17 13 16,mO 18 17,lG 19 73 4 18 false,oG 20 (cL 41 #[(xT 19)] #[73]) 18 false,mG 21 0 18 false,oG 22 (bO .neq 9 20 21 9) 18 false,pT 23 18 22] [2,4,23] (cD 23 (sR [oO 24 (.build 73 #[]),sT 73 2 24,aI 3 11] [2,3] (.ret)) (.skip)) [2,4] (sR [lO 25 73 4,sT 73 2 25,aI 3 0] [2,3] (.ret))))
theorem RL:BM Tryz.prog 33 26 [(.cell 2 73),(.tmp 3)] KZ:=AH Tryz.func33
def G5:CC:=sR [oO 4 (.assign (.const .nilFunc))] [0,1] (sR [mO 5 0,mO 6 1,oO 7 (cL 13 #[(xT 5),(xT 6),(nI 0)] #[9,9,3]),aO 4 7] [4] (.ret))
theorem LR:BM Tryz.prog 7 8 [(.tmp 4)] G5:=AH Tryz.func7
def Hg:CC:=sR [bX 3 9 0 [0,0],bX 4 9 1 [0,1],bX 5 3 2 [0,2],oO 6 (.assign (.const .nilFunc))] [3,4,5] (sR [oO 7 (.makeFunc (.func 25) #[] #[(xT 4),(xT 3),(xT 5)]),aO 6 7] [6] (.ret))
theorem LN:BM Tryz.prog 13 8 [(.tmp 6)] Hg:=AH Tryz.func13
def Jk:CC:=sR [aI 4 0] [0,1] (sR [mO 5 0,mO 6 1,cB 7 45 5 6 9 9,aO 4 7] [4] (.ret))
theorem O5:BM Tryz.prog 27 8 [(.tmp 4)] Jk:=AH Tryz.func27
def FT:CC:=sQ [mO 78 0,mO 79 8,bQ .add 80 3 79 1 3,oO 81 (.index 9 (xT 78) (xT 80)),mO 82 7,bB .eql 83 5 81 82 5,mO 84 83,mG 85 0 84 true,mG 86 8 84 true,mG 87 8 84 true,mG 88 5 84 true,oG 89 (bO .add 3 87 88 3) 84 true,oG 90 (.slice 9 (xT 85) (some (xT 86)) (some (xT 89)) none) 84 true,mG 91 1 84 true,oG 92 (bO .eql 9 90 91 9) 84 true,pF 93 84 92] [0,1,5,6,7,8,9,10,93] (cD 93 (sR [mO 94 8,aO 4 94] [4] (.ret)) (.skip)) [0,1,5,6,7,8,9,10] (sR [mO 95 8,bQ .add 96 3 95 1 3,aO 8 96] [0,1,5,6,7,8,9,10] (sR [mO 97 10,bQ .add 98 3 97 1 3,aO 10 98] [0,1,5,6,7,8,9,10] (sR [mO 99 5,oO 100 (.load 3 (.global 2)),bB .leq 101 3 99 100 3,mO 102 101,mG 103 10 102 true,mG 104 8 102 true,oG 105 (cL 74 #[(xT 104)] #[3]) 102 true,oG 106 (bO .gtr 3 103 105 3) 102 true,pF 107 102 106] [0,1,5,6,7,8,9,10,107] (cD 107 (sR [mO 108 0,mO 109 8,oO 110 (.slice 9 (xT 108) (some (xT 109)) none none),mO 111 1,cB 112 73 110 111 9 9,aO 12 112] [8,12] (sQ [mO 113 12,bQ .geq 114 3 113 0 3] [8,12,114] (cD 114 (sR [mO 115 12,mO 116 8,bB .add 117 3 115 116 3,aO 4 117] [4] (.ret)) (.skip)) [] (sR [oO 4 (.assign (.const (.int .i64 (-1))))] [4] (.ret)))) (sR [mO 118 5,oO 119 (.load 3 (.global 2)),bB .gtr 120 3 118 119 3,mO 121 120,mG 122 10 121 true,mG 123 8 121 true,oG 124 (.binOp .shr 3 (xT 123) (.const (.int .u64 4)) 137) 121 true,oG 125 (.binOp .add 3 (nI 4) (xT 124) 3) 121 true,oG 126 (bO .geq 3 122 125 3) 121 true,pF 127 121 126,mO 128 127,mG 129 8 128 true,mG 130 9 128 true,oG 131 (bO .lss 3 129 130 3) 128 true,pF 132 128 131] [0,1,5,6,7,8,9,10,132] (cD 132 (sR [mO 133 0,mO 134 8,oO 135 (.slice 9 (xT 133) (some (xT 134)) none none),mO 136 1,cB 137 75 135 136 9 9,aO 13 137] [8,13] (sQ [mO 138 13,bQ .lss 139 3 138 0 3] [8,13,139] (cD 139 (sR [oO 4 (.assign (.const (.int .i64 (-1))))] [4] (.ret)) (.skip)) [8,13] (sR [mO 140 8,mO 141 13,bB .add 142 3 140 141 3,aO 4 142] [4] (.ret)))) (.skip)))))))
def FY:CC:=sQ [mO 57 8,mO 58 9,bB .lss 59 3 57 58 3] [0,1,5,6,7,8,9,10,59] (cD 59 (.skip) (.exit 1)) [0,1,5,6,7,8,9,10] (.block 2 (sQ [mO 60 0,mO 61 8,oO 62 (.index 9 (xT 60) (xT 61)),mO 63 6,bB .neq 64 5 62 63 5] [0,1,5,6,7,8,9,10,64] (cD 64 (sR [mO 65 0,mO 66 8,bQ .add 67 3 66 1 3,mO 68 9,oO 69 (.slice 9 (xT 65) (some (xT 67)) (some (xT 68)) none),mO 70 6,cB 71 72 69 70 9 5,aO 11 71] [0,1,5,6,7,8,9,10,11] (sQ [mO 72 11,bQ .lss 73 3 72 0 3] [0,1,5,6,7,8,9,10,11,73] (cD 73 (sR [oO 4 (.assign (.const (.int .i64 (-1))))] [4] (.ret)) (.skip)) [0,1,5,6,7,8,9,10,11] (.reg [mO 74 8,mO 75 11,bQ .add 76 3 75 1 3,bB .add 77 3 74 76 3,aO 8 77] [0,1,5,6,7,8,9,10]))) (.skip)) [0,1,5,6,7,8,9,10] FT)) 
def Dy:CC:=sR [aI 4 0] [0,1] (sR [mO 14 1,bN 15 14 9,aO 5 15] [0,1,5] (.seq (.block 0 (sR [mO 17 5,bQ .eql 18 3 17 0 3,mO 19 18,mG 20 1 19 false,mG 21 0 19 false,oG 22 (bO .eql 9 20 21 9) 19 false,pT 23 19 22,aO 16 23] [0,1,5,16] (cD 16 (sR [aI 4 0] [4] (.ret)) (sR [mO 25 5,bQ .eql 26 3 25 1 3,aO 24 26] [0,1,5,24] (cD 24 (sR [mO 27 0,mO 28 1,oO 29 (.index 9 (xT 28) (nI 0)),cB 30 72 27 29 9 5,aO 4 30] [4] (.ret)) (sR [mO 32 5,mO 33 0,bN 34 33 9,bB .geq 35 3 32 34 3,aO 31 35] [0,1,5,31] (cD 31 (sR [oO 4 (.assign (.const (.int .i64 (-1))))] [4] (.ret)) (sR [mO 37 5,oO 38 (.load 3 (.global 2)),bB .leq 39 3 37 38 3,mO 40 39,mG 41 0 40 true,oG 42 (bL 41 9) 40 true,oG 43 (.binOp .leq 3 (xT 42) (nI 64) 3) 40 true,pF 44 40 43,aO 36 44] [0,1,5,36] (cD 36 (sR [mO 45 0,mO 46 1,cB 47 73 45 46 9 9,aO 4 47] [4] (.ret)) (.skip)))))))))) (.keep [0,1,5] (sR [mO 48 1,oO 49 (.index 9 (xT 48) (nI 0)),aO 6 49] [0,1,5,6] (sR [mO 50 1,oO 51 (.index 9 (xT 50) (nI 1)),aO 7 51] [0,1,5,6,7] (sR [aI 8 0] [0,1,5,6,7,8] (sR [mO 52 0,bN 53 52 9,mO 54 5,bB .sub 55 3 53 54 3,bQ .add 56 3 55 1 3,aO 9 56] [0,1,5,6,7,8,9] (sR [aI 10 0] [0,1,5,6,7,8,9,10] (.seq (.block 1 (.loop FY)) (.keep [] (sR [oO 4 (.assign (.const (.int .i64 (-1))))] [4] (.ret))))))))))))
theorem Gi:BM Tryz.prog 45 143 [(.tmp 4)] Dy:=AH Tryz.func45
end Go.Proofs.YtgkdikddjfgajaaGreatDoor
namespace Go.Proofs.YtgkdikddjfgajaaGreatDoor
open Go Go.G Go.Proofs Go.RowKit Go.PL
theorem Ct {l m:List UInt8}:O8 .eql ⟨l.toArray⟩ ⟨m.toArray⟩=some (bv (decide (l=m))):=by
 unfold O8;simp only[Lib.toList_data,List.toList_toArray];rw[show(l == m)=decide (l=m) by by_cases h:l=m<;>simp[h]]
set_option maxHeartbeats 1000000 in
set_option maxRecDepth 100000 in
theorem OZ (l:List UInt8) (c:UInt8) (w:World):Calls Tryz.prog 72 #[.string ⟨l.toArray⟩,.int .u8 c.toNat] w fun e w'=>e = .returned (.int .i64 (A6 l c))∧w'=w:=by
 have h:(Extern.BytealgIndexByte.indexByte #[.string ⟨l.toArray⟩,.int .u8 c.toNat]).run Tryz.prog w = .ok (.int .i64 (A6 l c)) w:=by
  rw[Lib.run_indexByteString,YV];simp
 go_enter Tryz.func72,Tryz.ntmps72
 go_wp2
 rw[run_callFunc_extern Tryz.func106 (by kernel_rfl) (by kernel_rfl) (by kernel_rfl) (e:=Extern.BytealgIndexByte.indexByte) (by kernel_rfl)];rw[h];simp only[Result.andThen];rw[Oper.upon_value]
 go_wp2
 go_ret
 exact⟨rfl,rfl⟩
theorem Np (l:List UInt8) (c:UInt8):G.Spec Tryz.prog 72 [S l,IL c] (.v (.int .i64 (A6 l c))):=
 Q9 (by kernel_rfl) [.string ⟨l.toArray⟩,.int .u8 c.toNat] fun w I _=>OZ l c w
set_option maxHeartbeats 4000000 in
theorem Tt (l:List UInt8):G.Spec Tryz.prog 45 [S l,S [10]] (iv (A6 l 10)):=by
 refine Ap Gi (by simp) fun w0 I0=>?_;unfold Dy;by_cases hl:l=[10]
 ·subst hl;simp[Ct];exact Ab (by simp[A6])
 ·simp[Ct,hl,Ne.symm hl];refine Af (Np l 10) rfl ?_;simp;exact Ab rfl
theorem TU (l:List UInt8):G.Spec Tryz.prog 27 [S l,S [10]] (iv (A6 l 10)):=by
 refine Ap O5 (by simp) fun w0 I0=>?_;unfold Jk;simp;refine Af (Tt l) rfl ?_;simp;exact Ab rfl
end Go.Proofs.YtgkdikddjfgajaaGreatDoor
namespace Go.Proofs.YtgkdikddjfgajaaGreatDoor
set_option maxRecDepth 20000
open Go Go.G Go.Proofs Go.PL Go.RowKit
def Av (X:List UInt8):Nat→List UInt8
 |0=>X
 |i+1=>(Av X i).drop ((A6 (Av X i) 10).toNat+1)
def F0 (X:List UInt8) (i:Nat):List UInt8:=if A6 (Av X i) 10 = -1 then Av X i else (Av X i).take (A6 (Av X i) 10).toNat
def WC:Code→Code
 |.seq x _=>x
 |_=>.ret
def LP:Code→Code
 |.seq _ y=>y
 |_=>.ret
def bk1:Code→Code
 |.block _ x=>x
 |_=>.ret
def lp1:Code→Code
 |.loop x=>x
 |_=>.ret
def cdX:Code→Code
 |.cond _ x _=>x
 |_=>.ret
def O3:Code→Array Oper
 |.region _ ops _=>ops
 |_=>#[]
noncomputable def sB:Code:=Tryz.f25.body.getD .ret
noncomputable def sX:Code:=bk1 (lp1 (bk1 (WC (LP sB))))
noncomputable def sR5:Code:=WC sX
noncomputable def sR6:Code:=WC (LP sX)
noncomputable def sR7:Code:=WC (LP (LP sX))
noncomputable def T1:Code:=WC (WC (LP (LP (LP sX))))
noncomputable def sR9:Code:=LP (LP (LP (LP sX)))
noncomputable def sR0:Code:=WC (WC sB)
noncomputable def sR10:Code:=LP (LP sB)
theorem vh:sB = .seq (.seq sR0 (.cond (.tmp 11) (cdX (LP (WC sB))) .skip)) (.seq (.block 2 (.loop (.block 3 sX))) sR10):=by kernel_rfl
theorem yF:sX = .seq sR5 (.seq sR6 (.seq sR7 (.seq (.seq T1 (.cond (.tmp 42) .ret .skip)) sR9))):=by kernel_rfl
def zh:CC:=.reg [co (some 9) (.load 9 (.tmp 1)) none,
    co (some 10) (.call { callee:=(.builtin .len),args:=#[(.tmp 9)],argTypes:=#[9] }) none,
    co (some 11) (.binOp .eql 3 (.tmp 10) (.const (.int .i64 0)) 3) none] [0,1,2,3,11]
def yP:CC:=.reg [co (some 29) (.load 9 (.tmp 2)) none,
    co (some 30) (.load 9 (.tmp 1)) none,
    co (some 31) (.call { callee:=(.value (.func 27)),args:=#[(.tmp 29),(.tmp 30)],argTypes:=#[9,9] }) none,
    co (some 7) (.assign (.tmp 31)) none] [0,1,2,3,7]
def zm:CC:=.seq (.reg [co (some 32) (.move (.tmp 7)) none,
     co (some 33) (.binOp .lss 3 (.tmp 32) (.const (.int .i64 0)) 3) none] [0,1,2,3,7,33])
   (.cond (.tmp 33)
    (.exit 2)
    (.skip))
def cc7:CC:=.reg [co (some 34) (.load 9 (.tmp 2)) none,
    co (some 35) (.move (.tmp 7)) none,
    co (some 36) (.load 3 (.tmp 3)) none,
    co (some 37) (.binOp .add 3 (.tmp 35) (.tmp 36) 3) none,
    co (some 38) (.slice 9 (.tmp 34) none (some (.tmp 37)) none) none,
    co (some 8) (.assign (.tmp 38)) none] [0,1,2,3,7,8]
def cc9:CC:=.reg [co (some 43) (.load 9 (.tmp 2)) none,
   co (some 44) (.move (.tmp 7)) none,
   co (some 45) (.load 9 (.tmp 1)) none,
   co (some 46) (.call { callee:=(.builtin .len),args:=#[(.tmp 45)],argTypes:=#[9] }) none,
   co (some 47) (.binOp .add 3 (.tmp 44) (.tmp 46) 3) none,
   co (some 48) (.slice 9 (.tmp 43) (some (.tmp 47)) none none) none,
   co none (.store 9 (.tmp 2) (.tmp 48)) none] [0,1,2,3]
def wy:List CO:=[co (some 39) (.move (.tmp 0)) none,co (some 40) (.move (.tmp 8)) none]
def xk:List CO:=[co (some 42) (.unOp .not 4 (.tmp 41)) none]
def uR:List CO:=[co (some 49) (.move (.tmp 0)) none,co (some 50) (.load 9 (.tmp 2)) none]
theorem pt:C8 52 sR0 [([0,1,2,3,11],[])]=some (zh,[]):=by kernel_rfl
theorem om:C8 52 sR5 [([0,1,2,3,7],[])]=some (yP,[]):=by kernel_rfl
theorem oz:C8 52 sR6 [([0,1,2,3,7,33],[]),([],[])]=some (zm,[]):=by kernel_rfl
theorem pD:C8 52 sR7 [([0,1,2,3,7,8],[])]=some (cc7,[]):=by kernel_rfl
theorem qu:C8 52 sR9 [([0,1,2,3],[])]=some (cc9,[]):=by kernel_rfl
theorem o3:T1 = .region 8 (O3 T1) false:=by kernel_rfl
theorem ly:sR10 = .region 10 (O3 sR10) false:=by kernel_rfl
theorem kv:Jp (O3 T1) false (OX (O3 T1)) [] 0 ((O3 T1).toList.take 2)=some wy:=by kernel_rfl
theorem ke:Jp (O3 T1) false (OX (O3 T1)) [] 3 ((O3 T1).toList.drop 3)=some xk:=by kernel_rfl
theorem kC:Jp (O3 sR10) false (OX (O3 sR10)) [] 0 ((O3 sR10).toList.take 2)=some uR:=by kernel_rfl
def yv (l:Nat):A:=.v (.func (.yield l) #[] #[])
abbrev OA (l q:Nat):List (Nat × A):=[(0,yv l),(1,.pob [q,1] 1 0),(2,.pob [q,0] 1 0),(3,.pob [q,2] 1 0)]
structure Bx (q:Nat) (H:Hp) (r:List UInt8):Prop where
 s:H [q,0]=⟨1,.cells [S r]⟩
 p:H [q,1]=⟨1,.cells [S [10]]⟩
 z:H [q,2]=⟨1,.cells [iv 0]⟩
section
variable {c:Cx} (hP:c.P=Tryz.prog) {l q:Nat} {H:Hp} {r:List UInt8} (hB:Bx q H r)
include hP hB
theorem Acr:WPC c zh (fun e st=>e = .normal∧st=⟨lk (OA l q++[(11,bv false)]),H⟩) ⟨lk (OA l q),H⟩:=by
 have h1:=hB.p;unfold zh;simp[hP,h1]
theorem AcI:WPC c yP (fun e st=>e = .normal∧st=⟨lk (OA l q++[(7,iv (A6 r 10))]),H⟩) ⟨lk (OA l q),H⟩:=by
 have h1:=hB.p;have h2:=hB.s;unfold yP;simp[hP,h1,h2];refine Af (TU r) rfl ?_;simp
theorem AbE:WPC c zm (fun e st=>(A6 r 10 = -1→e = .exit 2∧st.H=H∧st.s 0=yv l∧st.s 2 = .pob [q,0] 1 0)∧(A6 r 10 ≠ -1→e = .normal∧st=⟨lk (OA l q++[(7,iv (A6 r 10)),(33,bv false)]),H⟩)) ⟨lk (OA l q++[(7,iv (A6 r 10))]),H⟩:=by
 unfold zm;rcases H7 r 10 with e | ⟨e1,e2,e3⟩
 ·simp[hP,e]
 ·have:¬ A6 r 10<0:=by omega
  have h0:A6 r 10 ≠ -1:=by omega
  simp[hP,this,h0]
theorem AcJ (hlen:r.length≤1000000000) (h0:A6 r 10 ≠ -1):WPC c cc7 (fun e st=>e = .normal∧st=⟨lk (OA l q++[(7,iv (A6 r 10)),(8,S (r.take (A6 r 10).toNat))]),H⟩) ⟨lk (OA l q++[(7,iv (A6 r 10)),(33,bv false)]),H⟩:=by
 have h2:=hB.s;have h3:=hB.z;rcases H7 r 10 with e | ⟨e1,e2,e3⟩
 ·exact absurd e h0
 obtain⟨n,hn⟩:∃ n:Nat,A6 r 10=n:=⟨(A6 r 10).toNat,by omega⟩;rw[hn] at e1 e2 e3 h0 ⊢;have e4:i64.wrap (n:Int)=n:=Ih;have e5:(n:Int)≤r.length:=by omega
 have e6:n≤r.length:=by omega
 unfold cc7;simp[hP,h2,h3,e4,e5,e6]
theorem AcS (hlen:r.length≤1000000000) (h0:A6 r 10 ≠ -1) {v:A}:WPC c cc9 (fun e st=>e = .normal∧st=⟨lk (OA l q),Ar H [q,0] ⟨1,.cells [S (r.drop ((A6 r 10).toNat+1))]⟩⟩) ⟨lk (OA l q++[(7,iv (A6 r 10)),(42,v)]),H⟩:=by
 have h1:=hB.p;have h2:=hB.s;rcases H7 r 10 with e | ⟨e1,e2,e3⟩
 ·exact absurd e h0
 obtain⟨n,hn⟩:∃ n:Nat,A6 r 10=n:=⟨(A6 r 10).toNat,by omega⟩;rw[hn] at e1 e2 e3 h0 ⊢;have e4:=B0 n;have e5:((n:Int)+1)≤r.length:=by omega
 have e6:n+1≤r.length:=by omega
 have e7:List.take (r.length-(n+1)) (List.drop (n+1) r)=List.drop (n+1) r:=DE (by simp);have e8:(0:Int)≤(n:Int)+1:=by omega
 unfold cc9;simp[hP,h1,h2,e4,e5,e6,e7,e8]
end
theorem nE:∀ (l:List (Nat × A)) (t:Nat),lk l t = .any∨∃ p,p ∈ l∧p.1=t∧lk l t=p.2
 |[],t=>.inl (by simp)
 |(k,x)::l,t=>by
  rw[Pf];by_cases h:k=t
  ·rw[if_pos h];exact .inr ⟨(k,x),by simp,h,rfl⟩
  ·rw[if_neg h];rcases nE l t with e | ⟨p,h1,h2,h3⟩
   ·exact .inl e
   ·exact .inr ⟨p,by simp[h1],h2,h3⟩
theorem Uh {c:Cx} {st:Sta} {a:Act} {w:World} {I:Nat→Prop} {μ:Mu} (h:SR c st a w I μ) (l:List (Nat × A)) (hl:∀ p,p ∈ l→st.s p.1=p.2):SR c ⟨lk l,st.H⟩ a w I μ:=⟨h.sim,h.size,h.defers,fun t=>by
 show Rel w I μ (lk l t) _;rcases nE l t with e | ⟨p,h1,h2,h3⟩
 ·rw[e];exact .any _ _
 ·rw[h3,← hl p h1,h2];exact h.rel t⟩
theorem gn {c:Cx} {L:List (Nat × Obj)} {st:Sta} {a:Act} {w:World} {I:Nat→Prop} {μ:Mu} (h:SRF c L st a w I μ) (l:List (Nat × A)) (hl:∀ p,p ∈ l→st.s p.1=p.2):SRF c L ⟨lk l,st.H⟩ a w I μ:=⟨Uh h.sr l hl,h.f⟩
def cI (c:Cx):Cx:=⟨c.P,c.w0,c.I0,c.M0,52,c.m0,fun _=>False,[]⟩
section
variable {c:Cx} {w w':World} {I I':Nat→Prop} {μ μ':Mu} {H:Hp} {T:Array Value} {s:Nat→A} {l D fn p:Nat} {assign body:Code} {stt:LoopState} {pe:Option Code}
theorem jk (h:Sim c w I μ H):Sim (cI c) w I μ H:=⟨h.kept,h.lt,h.old,h.new,h.ver,h.ob,h.apart,h.own,h.mle,h.tag,h.tab⟩
theorem bt (h:Sim (cI c) w I μ H):Sim c w I μ H:=⟨h.kept,h.lt,h.old,h.new,h.ver,h.ob,h.apart,h.own,h.mle,h.tag,h.tab⟩
abbrev Lr (T:Array Value) (l D fn p:Nat) (assign body:Code) (stt:LoopState) (pe:Option Code):List (Nat × Obj):=[(l,.loop (Hi fn T p assign body D stt pe)),(D,.deferred (some []))]
theorem Nt (h:LS c T s l D fn p assign body stt pe w I μ H) {a:Act} {st:Sta} (hst:st.H=H) (hz:a.tmps.size=52) (hd:a.defers=[]) (hr:∀ t,Rel w I μ (st.s t) (a.tmps.getD t undef)):SRF (cI c) (Lr T l D fn p assign body stt pe) st a w I μ:=by
 subst hst;refine⟨⟨jk h.sim,hz,hd,hr⟩,fun q hq=>?_⟩;simp only[List.mem_cons,List.not_mem_nil,or_false] at hq;rcases hq with rfl | rfl
 ·exact⟨⟨h.fl.i,h.fl.o,h.fl.lt,h.fl.ge⟩,h.hl⟩
 ·exact⟨⟨h.fd.i,h.fd.o,h.fd.lt,h.fd.ge⟩,h.hd⟩
theorem JU (h:LS c T s l D fn p assign body stt pe w I μ H) {a:Act} {st:Sta} (k:SRF (cI c) (Lr T l D fn p assign body stt pe) st a w' I' μ') (x:Ext I μ w I' μ' w'):LS c T s l D fn p assign body stt pe w' I' μ' st.H:=by
 obtain⟨f1,f2⟩:=k.f (l,.loop (Hi fn T p assign body D stt pe)) (by simp);obtain⟨f3,f4⟩:=k.f (D,.deferred (some [])) (by simp);exact⟨bt k.sr.sim,fun t=>x.rel (h.rel t),⟨f1.i,f1.o,f1.lt,f1.ge⟩,f2,⟨f3.i,f3.o,f3.lt,f3.ge⟩,f4,h.ne⟩
end
structure Pz (c:Cx) (T:Array Value) (s:Nat→A) (l D fn p:Nat) (assign body:Code) (j q:Nat) (Hb:Nat→List UInt8→Hp) (X:List UInt8) (e:Nat) (br:Bool):Prop where
 bx:∀ i r,Bx q (Hb i r) r
 up:∀ i r r',Ar (Hb i r) [q,0] ⟨1,.cells [S r']⟩=Hb i r'
 e1:1≤e
 len:X.length≤1000000000
 more:∀ i,i+1<e→A6 (Av X i) 10 ≠ -1
 last:br=false→A6 (Av X (e-1)) 10 = -1
 rd:∀ i,i<e→∀ w I μ,LS c T s l D fn p assign body .ready none w I μ (Hb i (Av X i))→∀ v,Rel w I μ (S (F0 X i)) v→YieldAt Fence.wide 0 Tryz.prog l #[v] w fun x w'=>x = .returned (.bool (decide (i+1<e) || !br)) ∧
  ∃ I' μ',Ext I μ w I' μ' w'∧LS c T s l D fn p assign body (if (decide (i+1<e) || !br)=true then .ready else .done) (if (decide (i+1<e) || !br)=true then none else some (.exit j)) w' I' μ' (Hb (i+1) (Av X i))
theorem SG (X:List UInt8):∀ i,(Av X i).length≤X.length
 |0=>CE _
 |i+1=>by
  rw[Av,List.length_drop];have:=SG X i;omega
theorem VK {w:World} {I:Nat→Prop} {μ:Mu} {x v:Value} (h:Rel w I μ (.v x) v):v=x:=by cases h;rfl
section
variable {c:Cx} {T:Array Value} {s:Nat→A} {l D fn p:Nat} {assign body:Code} {j q:Nat} {Hb:Nat→List UInt8→Hp} {X:List UInt8} {e:Nat} {br:Bool}
theorem Ac9 (hP:c.P=Tryz.prog) (R:Pz c T s l D fn p assign body j q Hb X e br) {i:Nat} (hi:i<e) (hx:A6 (Av X i) 10 ≠ -1) {a:Act} {w:World} {I:Nat→Prop} {μ:Mu} (hs:LS c T s l D fn p assign body .ready none w I μ (Hb i (Av X i)))
  (sr:SR (cI c) ⟨lk (OA l q++[(7,iv (A6 (Av X i) 10)),(8,S ((Av X i).take (A6 (Av X i) 10).toNat))]),Hb i (Av X i)⟩ a w I μ) {Q:Exit→Act→World→Prop}
  (hgo:(i+1<e∨br=false)→∀ a' w' I' μ' v,LS c T s l D fn p assign body .ready none w' I' μ' (Hb (i+1) (Av X i))→SR (cI c) ⟨lk (OA l q++[(7,iv (A6 (Av X i) 10)),(42,v)]),Hb (i+1) (Av X i)⟩ a' w' I' μ'→Q .normal a' w')
  (hret:i+1=e→br=true→∀ a' w' I' μ',LS c T s l D fn p assign body .done (some (.exit j)) w' I' μ' (Hb (i+1) (Av X i))→a'.defers=[]→Q .ret a' w') :
  (Code.seq T1 (.cond (.tmp 42) .ret .skip)).wpIn Fence.wide 0 Tryz.prog Q a w:=by
 have hd:Fy 52 (O3 T1)=true:=by kernel_rfl
 have hnd:(O3 T1).all tG=true:=by kernel_rfl
 have hsz:List.range (O3 T1).size=List.range' 0 ((O3 T1).toList.take 2).length++[2,3]:=by kernel_rfl
 have h2:(O3 T1)[2]? = some ⟨some 41,.call { callee:=.value (.tmp 39),args:=#[.tmp 40],argTypes:=#[9] },4,"iter.go:54",#[{ on:=0,ground:=.data },{ on:=1,ground:=.data }],none⟩:=by kernel_rfl
 have hl:F0 X i=(Av X i).take (A6 (Av X i) 10).toNat:=by unfold F0;rw[if_neg hx]
 obtain⟨g,hg⟩:∃ g:Bool,g=(decide (i+1<e) || !br):=⟨_,rfl⟩;apply wpIn_seq;rw[o3];refine wpIn_region ?_;rw[hsz];have srf:=Nt hs (st:=⟨lk (OA l q++[(7,iv (A6 (Av X i) 10)),(8,S ((Av X i).take (A6 (Av X i) 10).toNat))]),Hb i (Av X i)⟩) rfl sr.size sr.defers sr.rel;have key:=LB CT (m:=0) (c:=cI c) (L:=Lr T l D fn p assign body .ready none) (ops:=O3 T1) hd hnd kv (fun k hk=>by
   have hk2:k<2:=by have:=hk;simp at this;omega
   rw[List.getElem?_take,if_pos hk2];simp)
  (K:=fun st=>st.H=Hb i (Av X i)∧(∀ p,p ∈ OA l q++[(7,iv (A6 (Av X i) 10))]→st.s p.1=p.2)∧st.s 39=yv l∧st.s 40=S (F0 X i))
  (Q:=Exit.then ((Code.cond (.tmp 42) .ret .skip).wpIn Fence.wide 0 Tryz.prog Q) Q) (by rw[hl];unfold wy;simp[cI,hP]) srf (tail:=[2,3]) (fun st1 a1 w1 I1 μ1 g1 x1 gK=>?_)
 ·have e:(cI c).P=Tryz.prog:=hP;rw[e] at key;exact key
 obtain⟨k1,k2,k3,k4⟩:=gK;have hs1:=JU hs g1 x1;rw[k1] at hs1;have r39:=g1.sr.rel 39;have r40:=g1.sr.rel 40;rw[k3] at r39;rw[k4] at r40;have e39:a1.eval (.tmp 39) = .func (.yield l) #[] #[]:=VK r39;have hPc:(cI c).P=Tryz.prog:=hP;rw[hPc];refine gJ h2 e39 (R.rd i hi w1 I1 μ1 hs1 (a1.eval (.tmp 40)) r40) fun x w2 hx2=>?_;obtain⟨rfl,I2,μ2,x2,hs2⟩:=hx2;rw[← hg] at hs2 ⊢;refine⟨_,rfl,?_⟩;have sr2:SRF (cI c) (Lr T l D fn p assign body (if g=true then .ready else .done) (if g=true then none else some (.exit j))) ⟨upd st1.s 41 (bv g),Hb (i+1) (Av X i)⟩ (a1.put (some 41) (.bool g)) w2 I2 μ2:=by
  refine Nt hs2 rfl (by simp[Act.put,g1.sr.size,cI]) g1.sr.defers fun t=>?_;show Rel w2 I2 μ2 (upd st1.s 41 (bv g) t) ((a1.tmps.setIfInBounds 41 (.bool g)).getD t undef);unfold upd;by_cases ht:t=41
  ·subst ht;rw[if_pos rfl];have:41<a1.tmps.size:=by rw[g1.sr.size];show 41<52;decide
   have e:(a1.tmps.setIfInBounds 41 (.bool g)).getD 41 undef = .bool g:=by simp[Array.getD_eq_getD_getElem?,this]
   rw[e];exact .v _ _
  ·rw[if_neg ht];have e:(a1.tmps.setIfInBounds 41 (.bool g)).getD t undef=a1.tmps.getD t undef:=by
    simp only[Array.getD_eq_getD_getElem?];rw[Array.getElem?_setIfInBounds_ne (Ne.symm ht)]
   rw[e];exact x2.rel (g1.sr.rel t)
 have key2:=LB CT (m:=0) (c:=cI c) (L:=Lr T l D fn p assign body (if g=true then .ready else .done) (if g=true then none else some (.exit j))) (ops:=O3 T1) hd hnd ke (fun j hj=>by simp at hj ⊢)
  (K:=fun st=>st.H=Hb (i+1) (Av X i)∧(∀ p,p ∈ OA l q++[(7,iv (A6 (Av X i) 10)),(42,bv (!g))]→st.s p.1=p.2))
  (Q:=Exit.then ((Code.cond (.tmp 42) .ret .skip).wpIn Fence.wide 0 Tryz.prog Q) Q) (b:=a1.put (some 41) (.bool g)) (w:=w2) (I:=I2) (μ:=μ2) (st:=⟨upd st1.s 41 (bv g),Hb (i+1) (Av X i)⟩) ?_ sr2 (tail:=[]) (fun st3 a3 w3 I3 μ3 g3 x3 gK3=>?_)
 ·have e2:List.range' 3 ((O3 T1).toList.drop 3).length++[]=[3]:=by kernel_rfl
  rw[e2,hPc] at key2;exact key2
 ·have k2':∀ p,p ∈ OA l q++[(7,iv (A6 (Av X i) 10))]→st1.s p.1=p.2:=k2;have q0:=k2' (0,yv l) (by simp);have q1:=k2' (1,.pob [q,1] 1 0) (by simp);have q2:=k2' (2,.pob [q,0] 1 0) (by simp);have q3:=k2' (3,.pob [q,2] 1 0) (by simp);have q7:=k2' (7,iv (A6 (Av X i) 10)) (by simp);simp only at q0 q1 q2 q3 q7;unfold xk;simp[cI,hP,upd,q0,q1,q2,q3,q7]
 ·obtain⟨m1,m2⟩:=gK3;have hs3:=JU hs2 g3 x3;rw[m1] at hs3;have r42:=g3.sr.rel 42;rw[m2 (42,bv (!g)) (by simp)] at r42;have e42:a3.eval (.tmp 42) = .bool (!g):=VK r42;refine wpIn_cond e42 ?_;cases g with
  |true=>
   refine wpIn_skip ?_;have:=(gn g3 _ m2).sr;rw[m1] at this;have hor:i+1<e∨br=false:=by
    have:=hg.symm;simp at this;exact this
   exact hgo hor a3 w3 I3 μ3 _ hs3 this
  |false=>
   refine wpIn_ret ?_;have hh:=hg.symm;simp at hh;exact hret (by omega) hh.2 a3 w3 I3 μ3 hs3 g3.sr.defers
end
section
variable {c:Cx} {T:Array Value} {s:Nat→A} {l D fn p:Nat} {assign body:Code} {j q:Nat} {Hb:Nat→List UInt8→Hp} {X:List UInt8} {e:Nat} {br:Bool}
theorem gB (hP:c.P=Tryz.prog) (R:Pz c T s l D fn p assign body j q Hb X e br) {i:Nat} (hi:i<e) {a:Act} {w:World} {I:Nat→Prop} {μ:Mu} (hs:LS c T s l D fn p assign body .ready none w I μ (Hb i (Av X i)))
  (sr:SR (cI c) ⟨lk (OA l q),Hb i (Av X i)⟩ a w I μ) {Q:Exit→Act→World→Prop}
  (hnext:i+1<e→∀ a' w' I' μ',LS c T s l D fn p assign body .ready none w' I' μ' (Hb (i+1) (Av X (i+1)))→SR (cI c) ⟨lk (OA l q),Hb (i+1) (Av X (i+1))⟩ a' w' I' μ'→Q .normal a' w')
  (hend:i+1=e→A6 (Av X i) 10 = -1→∀ a' w' I' μ' st,LS c T s l D fn p assign body .ready none w' I' μ' (Hb i (Av X i))→SR (cI c) st a' w' I' μ'→st.H=Hb i (Av X i)→st.s 0=yv l→st.s 2 = .pob [q,0] 1 0→Q (.exit 2) a' w')
  (hret:i+1=e→br=true→∀ a' w' I' μ',LS c T s l D fn p assign body .done (some (.exit j)) w' I' μ' (Hb (i+1) (Av X i))→a'.defers=[]→Q .ret a' w') :
  sX.wpIn Fence.wide 0 Tryz.prog Q a w:=by
 have hPc:(cI c).P=Tryz.prog:=hP;have hm:(cI c).P.follows .mixedOrders=true:=by rw[hPc];exact mixed
 have hB:=R.bx i (Av X i);have hlen:(Av X i).length≤1000000000:=Nat.le_trans (SG X i) R.len;rw[yF];apply wpIn_seq;have k5:=D6 CT (m:=0) (c:=cI c) hm (x:=yP) (a:=sR5) (B8 om) (by kernel_rfl) (st:=⟨lk (OA l q),Hb i (Av X i)⟩) (fun c' h1 _ _=>AcI (c:=c') (l:=l) (h1.trans hPc) hB) (Nt hs rfl sr.size sr.defers sr.rel);rw[hPc] at k5;refine wpIn_mono k5 fun e1 a1 w1 hh=>?_;obtain⟨st1,I1,μ1,g1,x1,rfl,rfl⟩:=hh;have hs1:=JU hs g1 x1;apply wpIn_seq;have k6:=D6 CT (m:=0) (c:=cI c) hm (x:=zm) (a:=sR6) (B8 oz) (by kernel_rfl) (fun c' h1 _ _=>AbE (c:=c') (l:=l) (q:=q) (H:=Hb i (Av X i)) (r:=Av X i) (h1.trans hPc) hB) g1;rw[hPc] at k6;refine wpIn_mono k6 fun e2 a2 w2 hh=>?_;obtain⟨st2,I2,μ2,g2,x2,m1,m2⟩:=hh;have hs2:=JU hs1 g2 x2;by_cases hx:A6 (Av X i) 10 = -1
 ·obtain⟨rfl,m3,m4,m5⟩:=m1 hx;have hie:i+1=e:=by
   by_cases h:i+1<e
   ·exact absurd hx (R.more i h)
   ·omega
  rw[m3] at hs2;exact hend hie hx a2 w2 I2 μ2 st2 hs2 g2.sr m3 m4 m5
 obtain⟨rfl,rfl⟩:=m2 hx;show(Code.seq sR7 _).wpIn Fence.wide 0 Tryz.prog Q a2 w2;apply wpIn_seq;have k7:=D6 CT (m:=0) (c:=cI c) hm (x:=cc7) (a:=sR7) (B8 pD) (by kernel_rfl) (fun c' h1 _ _=>AcJ (c:=c') (l:=l) (q:=q) (H:=Hb i (Av X i)) (r:=Av X i) (h1.trans hPc) hB hlen hx) g2;rw[hPc] at k7;refine wpIn_mono k7 fun e3 a3 w3 hh=>?_;obtain⟨st3,I3,μ3,g3,x3,rfl,rfl⟩:=hh;have hs3:=JU hs2 g3 x3;show(Code.seq (.seq T1 (.cond (.tmp 42) .ret .skip)) sR9).wpIn Fence.wide 0 Tryz.prog Q a3 w3;apply wpIn_seq;refine Ac9 hP R hi hx hs3 g3.sr (fun hor a4 w4 I4 μ4 v hs4 sr4=>?_) (fun h1 h2 a4 w4 I4 μ4 hs4 hd4=>hret h1 h2 a4 w4 I4 μ4 hs4 hd4);have hlt:i+1<e:=by
  rcases hor with h | h
  ·exact h
  ·by_cases h2:i+1<e
   ·exact h2
   ·have hie:e-1=i:=by omega
    have:=R.last h;rw[hie] at this;exact absurd this hx
 show sR9.wpIn Fence.wide 0 Tryz.prog Q a4 w4;have k9:=D6 CT (m:=0) (c:=cI c) hm (x:=cc9) (a:=sR9) (B8 qu) (by kernel_rfl) (fun c' h1 _ _=>AcS (c:=c') (l:=l) (q:=q) (H:=Hb (i+1) (Av X i)) (r:=Av X i) (h1.trans hPc) (R.bx (i+1) (Av X i)) hlen hx (v:=v)) (Nt hs4 rfl sr4.size sr4.defers sr4.rel);rw[hPc] at k9;refine wpIn_mono k9 fun e5 a5 w5 hh=>?_;obtain⟨st5,I5,μ5,g5,x5,rfl,rfl⟩:=hh;have hs5:=JU hs4 g5 x5;have eH:Ar (Hb (i+1) (Av X i)) [q,0] ⟨1,.cells [S ((Av X i).drop ((A6 (Av X i) 10).toNat+1))]⟩=Hb (i+1) (Av X (i+1)):=R.up _ _ _;have sr5:=g5.sr;simp only[eH] at hs5 sr5;exact hnext hlt a5 w5 I5 μ5 hs5 sr5
theorem vf (hP:c.P=Tryz.prog) (R:Pz c T s l D fn p assign body j q Hb X e br) {i:Nat} (hi:i+1=e) (hx:A6 (Av X i) 10 = -1) {a:Act} {w:World} {I:Nat→Prop} {μ:Mu} (hs:LS c T s l D fn p assign body .ready none w I μ (Hb i (Av X i)))
  {st:Sta} (sr:SR (cI c) st a w I μ) (hH:st.H=Hb i (Av X i)) (h0:st.s 0=yv l) (h2:st.s 2 = .pob [q,0] 1 0) {Q:Exit→Act→World→Prop}
  (hQ:∀ a' w' I' μ',LS c T s l D fn p assign body (if br then .done else .ready) (if br then some (.exit j) else none) w' I' μ' (Hb (i+1) (Av X i))→a'.defers=[]→Q .normal a' w') :
  sR10.wpIn Fence.wide 0 Tryz.prog Q a w:=by
 have hPc:(cI c).P=Tryz.prog:=hP;have hd:Fy 52 (O3 sR10)=true:=by kernel_rfl
 have hnd:(O3 sR10).all tG=true:=by kernel_rfl
 have hsz:List.range (O3 sR10).size=List.range' 0 ((O3 sR10).toList.take 2).length++[2]:=by kernel_rfl
 have ho:(O3 sR10)[2]? = some ⟨some 51,.call { callee:=.value (.tmp 49),args:=#[.tmp 50],argTypes:=#[9] },4,"iter.go:59",#[{ on:=0,ground:=.data },{ on:=1,ground:=.data }],none⟩:=by kernel_rfl
 have hl:F0 X i=Av X i:=by unfold F0;rw[if_pos hx]
 have hB:=R.bx i (Av X i);rw[ly];refine wpIn_region ?_;rw[hsz];have hb:=hB.s;have key:=LB CT (m:=0) (c:=cI c) (L:=Lr T l D fn p assign body .ready none) (ops:=O3 sR10) hd hnd kC (fun k hk=>by
   have hk2:k<2:=by have:=hk;simp at this;omega
   rw[List.getElem?_take,if_pos hk2];simp)
  (K:=fun st=>st.H=Hb i (Av X i)∧st.s 49=yv l∧st.s 50=S (F0 X i)) (Q:=Q) (st:=⟨lk [(0,yv l),(2,.pob [q,0] 1 0)],Hb i (Av X i)⟩) (by rw[hl];unfold uR;simp[cI,hP,hb])
  (by
   have:=Uh sr [(0,yv l),(2,.pob [q,0] 1 0)] (fun p hp=>by
    simp only[List.mem_cons,List.not_mem_nil,or_false] at hp;rcases hp with rfl | rfl
    ·exact h0
    ·exact h2)
   rw[hH] at this;exact Nt hs rfl this.size this.defers this.rel) (tail:=[2]) (fun st1 a1 w1 I1 μ1 g1 x1 gK=>?_)
 ·rw[hPc] at key;exact key
 obtain⟨k1,k3,k4⟩:=gK;have hs1:=JU hs g1 x1;rw[k1] at hs1;have r39:=g1.sr.rel 49;have r40:=g1.sr.rel 50;rw[k3] at r39;rw[k4] at r40;have e39:a1.eval (.tmp 49) = .func (.yield l) #[] #[]:=VK r39;rw[hPc];refine gJ ho e39 (R.rd i (by omega) w1 I1 μ1 hs1 (a1.eval (.tmp 50)) r40) fun x w2 hx2=>?_;obtain⟨rfl,I2,μ2,x2,hs2⟩:=hx2;refine⟨_,rfl,?_⟩;have eg:(decide (i+1<e) || !br) = !br:=by simp[show ¬ i+1<e by omega]
 rw[eg] at hs2;refine hQ _ w2 I2 μ2 ?_ g1.sr.defers;cases br<;>exact hs2
theorem iH (hP:c.P=Tryz.prog) (R:Pz c T s l D fn p assign body j q Hb X e br) {lb:Array Value} {w:World} {I:Nat→Prop} {μ:Mu} (hs:LS c T s l D fn p assign body .ready none w I μ (Hb 0 X))
  (hl:lb.size=3) (hr:∀ (k:Nat) (y:A),([.pob [q,1] 1 0,.pob [q,0] 1 0,.pob [q,2] 1 0]:List A)[k]? = some y→Rel w I μ y (lb.getD k undef)) :
  CallsIn Fence.wide 0 Tryz.prog 25 (#[.func (.yield l) #[] #[]]++lb) w fun x w2=>(∃ v,x = .returned v)∧∃ I2 μ2,LS c T s l D fn p assign body (if br then .done else .ready) (if br then some (.exit j) else none) w2 I2 μ2 (Hb e (Av X (e-1))):=by
 have hPc:(cI c).P=Tryz.prog:=hP;have hm:(cI c).P.follows .mixedOrders=true:=by rw[hPc];exact mixed
 have hb:Tryz.f25.body=some sB:=by kernel_rfl
 have hn:Tryz.f25.ntmps=52:=by kernel_rfl
 refine callsIn_of_wp Tryz.func25 hb trivial ?_;rw[hn];obtain⟨b1,b2,b3,rfl⟩:∃ b1 b2 b3,lb = #[b1,b2,b3]:=by
  rcases lb with ⟨lb⟩
  match lb,hl with
  |[x,y,z],_=>exact⟨x,y,z,rfl⟩
 have r1:=hr 0 _ rfl;have r2:=hr 1 _ rfl;have r3:=hr 2 _ rfl;obtain⟨vs,hvs⟩:∃ vs:Array Value,vs = #[.func (.yield l) #[] #[],b1,b2,b3]:=⟨_,rfl⟩;have hv4:vs.size=4:=by rw[hvs];rfl
 have ev:(#[Value.func (.yield l) #[] #[]] ++ #[b1,b2,b3]:Array Value)=vs:=by rw[hvs];rfl
 rw[ev];have sr0:SR (cI c) ⟨lk (OA l q),Hb 0 X⟩ ⟨vs++Array.replicate (52-vs.size) undef,[]⟩ w I μ:=by
  refine⟨jk hs.sim,by simp[hv4,cI],rfl,fun t=>?_⟩;have eg:∀ t,t<4→(vs++Array.replicate (52-vs.size) undef).getD t undef=vs.getD t undef:=fun t ht=>by
   simp only[Array.getD_eq_getD_getElem?];rw[Array.getElem?_append_left (by omega)]
  show Rel w I μ (lk (OA l q) t) ((vs++Array.replicate (52-vs.size) undef).getD t undef);simp only[Pf,X7];by_cases t0:0=t
  ·subst t0;rw[if_pos rfl,eg 0 (by omega),hvs];exact .v _ _
  by_cases t1:1=t
  ·subst t1;rw[if_neg t0,if_pos rfl,eg 1 (by omega),hvs];exact r1
  by_cases t2:2=t
  ·subst t2;rw[if_neg t0,if_neg t1,if_pos rfl,eg 2 (by omega),hvs];exact r2
  by_cases t3:3=t
  ·subst t3;rw[if_neg t0,if_neg t1,if_neg t2,if_pos rfl,eg 3 (by omega),hvs];exact r3
  rw[if_neg t0,if_neg t1,if_neg t2,if_neg t3];exact .any _ _
 generalize (⟨vs++Array.replicate (52-vs.size) undef,[]⟩:Act)=a0 at sr0;have fin:∀ (a':Act) (w':World) (I':Nat→Prop) (μ':Mu),LS c T s l D fn p assign body (if br then .done else .ready) (if br then some (.exit j) else none) w' I' μ' (Hb e (Av X (e-1)))→a'.defers=[]→bodyPost Tryz.prog Tryz.f25 (fun x w2=>(∃ v,x = .returned v)∧∃ I2 μ2,LS c T s l D fn p assign body (if br then .done else .ready) (if br then some (.exit j) else none) w2 I2 μ2 (Hb e (Av X (e-1)))) .normal a' w':=fun a' w' I' μ' h1 h2=>
  ⟨h2,.tuple #[],by kernel_rfl,⟨_,rfl⟩,I',μ',h1⟩
 rw[vh];apply wpIn_seq;apply wpIn_seq;have k0:=D6 CT (m:=0) (c:=cI c) hm (x:=zh) (a:=sR0) (B8 pt) (by kernel_rfl) (st:=⟨lk (OA l q),Hb 0 X⟩) (fun c' h1 _ _=>Acr (c:=c') (l:=l) (r:=X) (h1.trans hPc) (R.bx 0 X)) (Nt hs rfl sr0.size sr0.defers sr0.rel);rw[hPc] at k0;refine wpIn_mono k0 fun e1 a1 w1 hh=>?_;obtain⟨st1,I1,μ1,g1,x1,rfl,rfl⟩:=hh;have hs1:=JU hs g1 x1;have r11:=g1.sr.rel 11;have e11:a1.eval (.tmp 11) = .bool false:=by
  have:(lk (OA l q++[(11,bv false)]):Nat→A) 11=bv false:=by simp
  simp only at r11;rw[this] at r11;exact VK r11
 have sr1:SR (cI c) ⟨lk (OA l q),Hb 0 X⟩ a1 w1 I1 μ1:=Uh g1.sr (OA l q) (fun p hp=>by
  simp only[List.mem_cons,List.not_mem_nil,or_false] at hp;rcases hp with rfl | rfl | rfl | rfl<;>simp)
 refine wpIn_cond_false e11 (wpIn_skip ?_);show(Code.seq (.block 2 (.loop (.block 3 sX))) sR10).wpIn Fence.wide 0 Tryz.prog _ a1 w1;apply wpIn_seq;apply wpIn_block;refine xJ (fun n a w=>∃ i I μ,n+i+1=e∧LS c T s l D fn p assign body .ready none w I μ (Hb i (Av X i))∧SR (cI c) ⟨lk (OA l q),Hb i (Av X i)⟩ a w I μ) (e-1) ⟨0,I1,μ1,by have:=R.e1;omega,hs1,sr1⟩ fun n a2 w2 hh=>?_;obtain⟨i,I2,μ2,hn2,hs2,sr2⟩:=hh;apply wpIn_block;refine gB hP R (by omega) hs2 sr2 (fun h1 a3 w3 I3 μ3 hs3 sr3=>?_) (fun h1 h2 a3 w3 I3 μ3 st3 hs3 sr3 hH h4 h5=>?_) (fun h1 h2 a3 w3 I3 μ3 hs3 hd3=>?_)
 ·exact⟨n-1,by omega,i+1,I3,μ3,by omega,hs3,sr3⟩
 ·show sR10.wpIn Fence.wide 0 Tryz.prog _ a3 w3;have he:e-1=i:=by omega
  refine vf hP R h1 h2 hs3 sr3 hH h4 h5 fun a4 w4 I4 μ4 hs4 hd4=>?_;rw[h1] at hs4;rw[← he] at hs4;exact fin a4 w4 I4 μ4 hs4 hd4
 ·have he:e-1=i:=by omega
  subst h2;rw[h1,← he] at hs3;exact fin a3 w3 I3 μ3 hs3 hd3
end
def bxM (s sep:List UInt8) (n:Int):FamK 1:=⟨fun _ _ p=>if p=[0] then ⟨1,.cells [S s]⟩ else if p=[1] then ⟨1,.cells [S sep]⟩ else if p=[2] then ⟨1,.cells [iv n]⟩ else ⟨0,.none⟩,fun t i hi p=>by
  split
  ·simp[VOb.ren,Ob.ren,A.renL,A.ren]
  ·split
   ·simp[VOb.ren,Ob.ren,A.renL,A.ren]
   ·split
    ·simp[VOb.ren,Ob.ren,A.renL,A.ren]
    ·rfl,fun t i hi p=>by
  split
  ·simp[Ob.refs,A.refsL,A.refs]
  ·split
   ·simp[Ob.refs,A.refsL,A.refs]
   ·split
    ·simp[Ob.refs,A.refsL,A.refs]
    ·trivial⟩
@[simp] theorem AdH {s sep:List UInt8} {n:Int} {ρ:Fo} {i:Nat} {p:Nm}:(bxM s sep n).F ρ i p=if p=[0] then ⟨1,.cells [S s]⟩ else if p=[1] then ⟨1,.cells [S sep]⟩ else if p=[2] then ⟨1,.cells [iv n]⟩ else ⟨0,.none⟩:=rfl
abbrev fD (ρ:Fo):A:=.fnc 25 [] [.pob [ρ 0,1] 1 0,.pob [ρ 0,0] 1 0,.pob [ρ 0,2] 1 0]
@[simp] theorem zc:List.range 1=[0]:=rfl
@[simp] theorem za:List.range 2=[0,1]:=rfl
theorem fI:KA 1 fD:=oD (l:=fun _=>[]) (m:=fun ρ=>[.pob [ρ 0,1] 1 0,.pob [ρ 0,0] 1 0,.pob [ρ 0,2] 1 0]) EH (A3 (B4 (i:=0) (by omega)) (A3 (B4 (i:=0) (by omega)) (A3 (B4 (i:=0) (by omega)) EH)))
theorem RF (s sep:List UInt8) (n:Int):SpecK Tryz.prog 13 0 1 (fun _=>[S s,S sep,iv n]) FamK.no fD (bxM s sep n):=by
 refine Bq LN (by simp) (by omega) (Hz fun x hx=>?_) fI (fun i _ _ p=>?_) fun w0 I0 M0 m0 hM=>?_
 ·simp at hx;rcases hx with rfl | rfl | rfl<;>simp
 ·simp;split
  ·simp
  ·split
   ·simp
   ·split
    ·simp
    ·simp
 ·unfold Hg;simp;refine Bf (r0:=fD id) (by simp) rfl fun i hi p=>?_;have:i=0:=by omega
  subst this;by_cases p0:p=[0]
  ·subst p0;simp
  ·by_cases p1:p=[1]
   ·subst p1;simp
   ·by_cases p2:p=[2]
    ·subst p2;simp
    ·simp[p0,p1,p2,Ne.symm p0,Ne.symm p1,Ne.symm p2,Aa]
theorem Rz (s sep:List UInt8):SpecK Tryz.prog 7 0 1 (fun _=>[S s,S sep]) FamK.no fD (bxM s sep 0):=by
 refine Bq LR (by simp) (by omega) (Hz fun x hx=>?_) fI (fun i _ _ p=>?_) fun w0 I0 M0 m0 hM=>?_
 ·simp at hx;rcases hx with rfl | rfl<;>simp
 ·simp;split
  ·simp
  ·split
   ·simp
   ·split
    ·simp
    ·simp
 ·unfold G5;simp;refine BD [0] (RF s sep 0) (by simp) (fun i hi=>by omega) (fun i _ _ p=>?_) (by simp) (by simp) ?_
  ·simp
  simp;exact Bf (r0:=fD (DX [0])) (by simp) rfl fun i hi p=>by
   have:i=0:=by omega
   subst this;simp
end Go.Proofs.YtgkdikddjfgajaaGreatDoor
namespace Go.Proofs.YtgkdikddjfgajaaGreatDoor
open Go Go.G Go.Proofs
theorem fu (i:Nat) (hi:i≤64) {x:Int} (h0:0≤x) (h1:x<18446744073709551616):bits .and .u64 x (2 ^ i-1)=x % 2 ^ i:=
 bits_mask .u64 64 (by decide) (fun n a b=>Cr a b) i hi x h0 h1
abbrev ws (l:List Int):A:=.sl false (l.map uv)
abbrev sgs (l:List (List Int)):A:=.sl false (l.map ws)
@[simp] theorem yO (l:List Int):Ds 1 (l.map uv)=true:=by simp[Ds]
@[simp] theorem yX (l:List (List Int)):Ds 1 (l.map ws)=true:=by simp[Ds]
theorem Xp (f:Bool) (l:List Int) (h:l.length*8≤140737488355328):SpecB Tryz.prog 43 [.sl f (l.map uv)] (ws l):=by
 cases l with
 |nil=>
  refine SO (fun cap=>?_) (fun a cap=>?_)
  ·refine J2 AP (by simp) fun w0 I0=>?_;unfold AI;simp;exact UN
  ·refine J2 AP (by simp) fun w0 I0=>?_;unfold AI;simp;exact PS (sz:=1) (xs:=[]) (by simp) (by simp) (by simp)
 |cons x l=>
  refine J2 AP (by simp) fun w0 I0=>?_;unfold AI;simp at h ⊢;refine⟨h,?_⟩;have:=PS (H:=Dj [([0],{ u:=1,ob:=Ob.arr 1 (uv x::l.map uv) })]) (o:=[0]) (u:=1) (off:=0) (len:=l.length+1) (sz:=1) (xs:=uv x::l.map uv) (by simp) (by simp) (by simp[A.flat1,DE]);simp[DE] at this;exact this
abbrev arX (l:List (List Int)) (z m u:Int):A:=.pim [sgs l,iv z,iv m,iv u]
abbrev arn (l:List (List Int)):A:=arX l 0 0 0
def seg (l:List (List Int)) (s:Int):Option (List Int):=if 0≤s then l[s.toNat]? else none
def Ac0 (l:List (List Int)) (s:Int):Nat:=((seg l s).map List.length).getD 0
def jf (l:List (List Int)) (s a n:Int):Bool:=decide (0≤s∧s<l.length∧0≤a∧0≤n∧a+n≤Ac0 l s)
def NB (l:List (List Int)) (s a:Int):Option Int:=if 0≤a then (seg l s).bind fun g=>g[a.toNat]? else none
def part (l:List (List Int)) (s a n:Int):List Int:=(((seg l s).getD []).drop a.toNat).take n.toNat
def fo (c:Int):Int:=if c=0 then 0 else if c=1 then 1 else if c=2 then 8 else if c=3 then 16 else if c=4 then 32 else 64
def nG (p:Pt):Option Int:=
 if p.kind=1 then some (p.data+p.ptrs)
 else if p.kind=2∧p.code=7 then some (p.count+1)
 else if p.kind=2∧0≤p.code∧p.code≤6∧0≤p.count∧p.count≤536870911 then some ((p.count*fo p.code+63) / 64)
 else none
structure Lc where
 p:Pt
 s:Int
 at_:Int
deriving DecidableEq
def Pt.l (p:Pt):List A:=[iv p.kind,iv p.off,iv p.data,iv p.ptrs,iv p.code,iv p.count,iv p.seg,bv p.dbl]
@[simp] theorem Pt.l_eq (p:Pt):p.l=[iv p.kind,iv p.off,iv p.data,iv p.ptrs,iv p.code,iv p.count,iv p.seg,bv p.dbl]:=rfl
def Pt.zero:Pt:=⟨0,0,0,0,0,0,0,false⟩
def Lc.zero:Lc:=⟨Pt.zero,0,0⟩
abbrev Lc.a (x:Lc):A:=.agg [iv x.p.kind,iv x.p.off,iv x.p.data,iv x.p.ptrs,iv x.p.code,iv x.p.count,iv x.p.seg,bv x.p.dbl,iv x.s,iv x.at_]
def Zv (l:List (List Int)) (x:Lc):Lc × Int:=if jf l x.s x.at_ ((nG x.p).getD 0)=true then (⟨{ x.p with off:=0 },x.s,x.at_⟩,0) else (Lc.zero,7)
def nD (l:List (List Int)) (p:Pt) (s a:Int):Lc × Int:=
 if p.kind=1∨p.kind=2 then Zv l ⟨p,s,a+1+p.off⟩ else if p.kind=4 then (Lc.zero,9) else (Lc.zero,8)
def Wds (l:List (List Int)):Prop:=∀ x,x ∈ l→∀ y,y ∈ x→0≤y∧y<18446744073709551616
def j8 (l:List (List Int)) (s a:Int):Lc × Int:=
 match NB l s a,NB l s (a+1) with
 |some v,some w=>
  if (Ng v).kind ≠ 3∨(Ng v).dbl=true then (Lc.zero,8)
  else if (Ng w).kind=4 then (Lc.zero,9)
  else if ((Ng w).kind ≠ 1∧(Ng w).kind ≠ 2)∨(Ng w).off ≠ 0 then (Lc.zero,8)
  else Zv l ⟨Ng w,(Ng v).seg,(Ng v).off⟩
 |_,_=>(Lc.zero,7)
def Pq (l:List (List Int)) (s a:Int):Lc × Int:=
 match NB l s a with
 |none=>(Lc.zero,7)
 |some w=>
  if (Ng w).kind=0 then (Lc.zero,0)
  else if (Ng w).kind ≠ 3 then nD l (Ng w) s a
  else if (Ng w).dbl=true then j8 l (Ng w).seg (Ng w).off
  else match NB l (Ng w).seg (Ng w).off with
   |none=>(Lc.zero,7)
   |some v=>nD l (Ng v) (Ng w).seg (Ng w).off
abbrev zs:List A:=[iv 0,iv 0,iv 0,iv 0,iv 0,iv 0,iv 0,bv false,iv 0,iv 0]
end Go.Proofs.YtgkdikddjfgajaaGreatDoor
namespace Go.Proofs.YtgkdikddjfgajaaGreatDoor
open Go Go.G Go.Proofs Go.PL
structure Rf where
 kind:Int
 s:Int
 at_:Int
 data:Int
 kids:Int
 count:Int
 n:Int
def Rf.zero:Rf:=⟨0,0,0,0,0,0,0⟩
def nk (r:Rf):Int:=if r.kind=1 then r.kids else r.count
def wZ (l:List (List Int)) (s a m:Int):Rf × Int:=
 if ((NB l s a).getD 0 ≠ 0∧(Ng ((NB l s a).getD 0)).kind ≠ 1)∨(Ng ((NB l s a).getD 0)).off<0∨m<(Ng ((NB l s a).getD 0)).off*((Ng ((NB l s a).getD 0)).data+(Ng ((NB l s a).getD 0)).ptrs) then (Rf.zero,8)
 else (⟨9,s,a+1,(Ng ((NB l s a).getD 0)).data,(Ng ((NB l s a).getD 0)).ptrs,(Ng ((NB l s a).getD 0)).off,0⟩,0)
def AcQ (l:List (List Int)) (x:Lc):Rf × Int:=
 if x.p.kind=1 then (⟨1,x.s,x.at_,x.p.data,x.p.ptrs,0,0⟩,0)
 else if x.p.code<7 then (⟨2+x.p.code,x.s,x.at_,0,0,x.p.count,0⟩,0)
 else wZ l x.s x.at_ x.p.count
def atP (l:List (List Int)) (s a:Int):Rf × Int:=
 if (Pq l s a).2 ≠ 0∨(Pq l s a).1.p.kind=0 then (Rf.zero,(Pq l s a).2) else AcQ l (Pq l s a).1
def Ab7 (g:List Int) (c i:Int):Int:=
 if DL c<1∨i<0∨1099511627776<i then 0 else ((g[(i*DL c / 64).toNat]?).getD 0) / 2 ^ (i*DL c % 64).toNat % 2 ^ (DL c).toNat
def yq (l:List (List Int)) (r:Rf) (i:Int):Int:=Ab7 (((seg l r.s).getD []).drop r.at_.toNat) (r.kind-2) i
def uk (l:List (List Int)) (r:Rf) (i:Int):Rf × Int:=
 if i<0∨nk r≤i then (Rf.zero,0)
 else if r.kind=1 then atP l r.s (r.at_+r.data+i)
 else if r.kind=8 then atP l r.s (r.at_+i)
 else if r.kind=9 then (⟨1,r.s,r.at_+i*(r.data+r.kids),r.data,r.kids,0,0⟩,0)
 else (⟨10,0,0,0,0,0,yq l r i⟩,0)
def qQ (l:List (List Int)) (r:Rf):List Int:=if r.kind=10 then [r.n] else if r.kind ≠ 1 then [] else part l r.s r.at_ r.data
inductive W5 (l:List (List Int)):Rf→Prop
 |zero:W5 l Rf.zero
 |str (s a d k:Int):0≤d→d<65536→0≤k→k<65536→jf l s a (d+k)=true→W5 l ⟨1,s,a,d,k,0,0⟩
 |dat (c s a n:Int):0≤c→c<6→0≤n→n<536870912→jf l s a ((n*fo c+63) / 64)=true→W5 l ⟨2+c,s,a,0,0,n,0⟩
 |ptrs (s a n:Int):0≤n→n<536870912→jf l s a n=true→W5 l ⟨8,s,a,0,0,n,0⟩
 |comp (s a d k n:Int):0≤d→d<65536→0≤k→k<65536→0≤n→n<536870912→jf l s a (n*(d+k))=true→W5 l ⟨9,s,a,d,k,n,0⟩
 |atom (n:Int):0≤n→n<18446744073709551616→W5 l ⟨10,0,0,0,0,0,n⟩
inductive YD (l:List (List Int)):Rf→T→Prop
 |mk (r:Rf) (t:T):W5 l r→r.kind=t.kind→qQ l r=t.words→nk r=t.kids.length→(∀ (i:Nat) (h:i<t.kids.length),(uk l r i).2=0)→(∀ (i:Nat) (h:i<t.kids.length),YD l (uk l r i).1 t.kids[i])→YD l r t
end Go.Proofs.YtgkdikddjfgajaaGreatDoor
namespace Go.PL
structure WE where
 at_:Int
 mask:Int
 old:Int
 new:Int
mutual
inductive E where
 |mk (kind:Int) (old new:T) (words:List WE) (kids:List KE) (list:Int) (ops:List OP)
inductive KE where
 |mk (at_:Int) (e:E)
inductive OP where
 |mk (kind n:Int) (l:List T) (e:E)
end
namespace E
def kind:E→Int | mk k _ _ _ _ _ _=>k
def old:E→T | mk _ o _ _ _ _ _=>o
def new:E→T | mk _ _ n _ _ _ _=>n
def words:E→List WE | mk _ _ _ w _ _ _=>w
def kids:E→List KE | mk _ _ _ _ k _ _=>k
def list:E→Int | mk _ _ _ _ _ l _=>l
def ops:E→List OP | mk _ _ _ _ _ _ o=>o
variable {k l:Int} {o n:T} {w:List WE} {ks:List KE} {os:List OP}
@[simp] theorem kind_mk:(mk k o n w ks l os).kind=k:=rfl
@[simp] theorem old_mk:(mk k o n w ks l os).old=o:=rfl
@[simp] theorem new_mk:(mk k o n w ks l os).new=n:=rfl
@[simp] theorem words_mk:(mk k o n w ks l os).words=w:=rfl
@[simp] theorem kids_mk:(mk k o n w ks l os).kids=ks:=rfl
@[simp] theorem list_mk:(mk k o n w ks l os).list=l:=rfl
@[simp] theorem ops_mk:(mk k o n w ks l os).ops=os:=rfl
end E
namespace KE
def at_:KE→Int | mk a _=>a
def e:KE→E | mk _ e=>e
@[simp] theorem at_mk {a:Int} {e:E}:(mk a e).at_=a:=rfl
@[simp] theorem AbA {a:Int} {e:E}:(mk a e).e=e:=rfl
end KE
namespace OP
def kind:OP→Int | mk k _ _ _=>k
def n:OP→Int | mk _ n _ _=>n
def l:OP→List T | mk _ _ l _=>l
def e:OP→E | mk _ _ _ e=>e
variable {k m:Int} {t:List T} {x:E}
@[simp] theorem kind_mk:(mk k m t x).kind=k:=rfl
@[simp] theorem Aeb:(mk k m t x).n=m:=rfl
@[simp] theorem Aef:(mk k m t x).l=t:=rfl
@[simp] theorem AbA:(mk k m t x).e=x:=rfl
end OP
abbrev E0:E:=.mk 0 T0 T0 [] [] 0 []
mutual
theorem E.ind {P:E→Prop} (h:∀ k o n w ks l os,(∀ x,x ∈ ks→P x.e)→(∀ x,x ∈ os→P x.e)→P (.mk k o n w ks l os)):∀ e,P e
 |.mk k o n w ks l os=>h k o n w ks l os (E.indK h ks) (E.indO h os)
theorem E.indK {P:E→Prop} (h:∀ k o n w ks l os,(∀ x,x ∈ ks→P x.e)→(∀ x,x ∈ os→P x.e)→P (.mk k o n w ks l os)):∀ (ks:List KE),∀ x,x ∈ ks→P x.e
 |[],_,hx=>nomatch hx
 |.mk a e::ks,x,hx=>by
  rcases List.mem_cons.1 hx with q | hx
  ·rw[q];exact E.ind h e
  ·exact E.indK h ks x hx
theorem E.indO {P:E→Prop} (h:∀ k o n w ks l os,(∀ x,x ∈ ks→P x.e)→(∀ x,x ∈ os→P x.e)→P (.mk k o n w ks l os)):∀ (os:List OP),∀ x,x ∈ os→P x.e
 |[],_,hx=>nomatch hx
 |.mk a n l e::os,x,hx=>by
  rcases List.mem_cons.1 hx with q | hx
  ·rw[q];exact E.ind h e
  ·exact E.indO h os x hx
end
def FX (t:T):Bool:=decide (t.kind=0)&&t.words.isEmpty&&t.kids.isEmpty
def OD (e:E):Bool:=decide (e.kind=0)&&FX e.old&&FX e.new&&(e.words.isEmpty&&e.kids.isEmpty&&e.ops.isEmpty)&&decide (e.list=0)
def Ey (w mask:Int):Bool:=(List.range 8).all fun i=>decide (mask / 2 ^ i % 2=1) || decide (w / 256 ^ i % 256=0)
def IG (last:Int) (w:WE):Bool:=!(decide (w.at_≤last) || decide (w.at_ > 65534) || decide (w.mask=0) || !Ey w.old w.mask || !Ey w.new w.mask)
def BT:Int→List WE→Bool
 |_,[]=>true
 |last,w::l=>IG last w&&BT w.at_ l
def LM (n:Int):Int:=if n > 1048576 then 1048576 else n
def Cb (o:OP):Int:=if o.kind=3 then 1 else o.n+o.l.length
def Bh:Int→Int→List OP→Int × Int
 |n,m,[]=>(n,m)
 |n,m,o::l=>Bh (LM (if o.kind ≠ 2 then n+Cb o else n)) (LM (if o.kind ≠ 1 then m+Cb o else m)) l
def Lo (list:Int) (o:OP):Bool:=
 if o.kind=0 then decide (1≤o.n)&&decide (o.n≤1048576)&&o.l.isEmpty&&OD o.e
 else if o.n ≠ 0∨o.kind<0∨o.kind > 3 then false
 else if o.kind<3 then (o.l.all fun t=>Ay 64 (.mk list [] [t]))&&!o.l.isEmpty&&OD o.e
 else true
def QF (list:Int) (o:OP):Bool:=o.l.isEmpty&&!decide (o.e.kind=0)&&!decide (list≤7)
def YG (list:Int) (o:OP):Bool:=decide (list=8) || decide (o.e.kind=2) || decide (o.e.kind=1)&&decide (o.e.old.kind=1)&&decide (o.e.new.kind=1)
def Gg (d:Nat) (k:Int) (o n:T) (nw nk:Nat) (list:Int) (no:Nat):Bool:=
 !(decide (d=0) || decide (k<0) || decide (k > 3))&&!(!decide (k=1)&&!(FX o&&FX n) || !decide (k=2)&&decide (nw+nk > 0) || !decide (k=3)&&(!decide (list=0) || decide (no > 0)))
mutual
def Bp:Nat→E→Bool
 |d,.mk k o n ws ks l os=>
  if Gg d k o n ws.length ks.length l os.length=false then false
  else if k=1 then Ay 64 o&&Ay 64 n&&!decide (o.kind=10)&&!decide (n.kind=10)
  else if BT (-1) ws=false then false
  else if CJ (d-1) (-1) ks=false then false
  else if k=3∧(l<2∨l > 9) then false
  else if CH (d-1) l os=false then false
  else decide ((Bh 0 0 os).1<1048576)&&decide ((Bh 0 0 os).2<1048576)
def CJ:Nat→Int→List KE→Bool
 |_,_,[]=>true
 |d,last,.mk a e::l=>!(decide (a≤last) || decide (a > 65534) || decide (e.kind=0))&&Bp d e&&CJ d a l
def CH:Nat→Int→List OP→Bool
 |_,_,[]=>true
 |d,list,.mk k n t e::l=>Fa d list (.mk k n t e)&&CH d list l
def Fa:Nat→Int→OP→Bool
 |d,list,.mk k n t e=>Lo list (.mk k n t e)&&(if k=3 then QF list (.mk k n t e)&&Bp d e&&YG list (.mk k n t e) else true)
end
theorem Ib (d:Nat) (k:Int) (o n:T) (ws:List WE) (ks:List KE) (l:Int) (os:List OP):Bp d (.mk k o n ws ks l os) =
  if Gg d k o n ws.length ks.length l os.length=false then false
  else if k=1 then Ay 64 o&&Ay 64 n&&!decide (o.kind=10)&&!decide (n.kind=10)
  else if BT (-1) ws=false then false
  else if CJ (d-1) (-1) ks=false then false
  else if k=3∧(l<2∨l > 9) then false
  else if CH (d-1) l os=false then false
  else decide ((Bh 0 0 os).1<1048576)&&decide ((Bh 0 0 os).2<1048576):=by rw[Bp]
@[simp] theorem m9 (d:Nat) (last:Int):CJ d last []=true:=by rw[CJ]
@[simp] theorem Fh (d:Nat) (last:Int) (x:KE) (l:List KE):CJ d last (x::l)=(!(decide (x.at_≤last) || decide (x.at_ > 65534) || decide (x.e.kind=0))&&Bp d x.e&&CJ d x.at_ l):=by cases x;rw[CJ];rfl
@[simp] theorem mH (d:Nat) (list:Int):CH d list []=true:=by rw[CH]
@[simp] theorem M6 (d:Nat) (list:Int) (x:OP) (l:List OP):CH d list (x::l)=(Fa d list x&&CH d list l):=by cases x;rw[CH]
theorem GS (d:Nat) (list:Int) (x:OP):Fa d list x=(Lo list x&&(if x.kind=3 then QF list x&&Bp d x.e&&YG list x else true)):=by cases x;rw[Fa];rfl
theorem rightOs_all {d:Nat} {list:Int}:∀ {l:List OP},CH d list l=true ↔ ∀ x,x ∈ l→Fa d list x=true
 |[]=>by simp
 |x::l=>by simp[rightOs_all (l:=l)]
def ZP (n:Int):Int:=n % 18446744073709551616
def wO (w:WE):T:=.mk 1 [ZP (w.at_+4294967296*w.mask),w.old,w.new] []
mutual
def Cs:E→T
 |.mk k o n ws ks l os=>
  if k=0 then T0
  else if k=1 then .mk 1 [ZP (k+256*l)] [o,n]
  else if k=2 then .mk 1 [ZP (k+256*l)] [Ow (ws.map wO),Ow (gL ks)]
  else .mk 1 [ZP (k+256*l)] [Ow (dQ l os)]
def gL:List KE→List T
 |[]=>[]
 |.mk a e::l=>.mk 1 [ZP a] [Cs e]::gL l
def dQ:Int→List OP→List T
 |_,[]=>[]
 |list,.mk k n t e::l=>.mk 1 [ZP (k+256*n)] (if k=3 then [Cs e] else if k > 0 then [.mk list [] t] else [])::dQ list l
def Ow:List T→T
 |[]=>T0
 |t::l=>.mk 9 [] (t::l)
end
@[simp] theorem sA:Ow []=T0:=by rw[Ow]
@[simp] theorem qM (t:T) (l:List T):Ow (t::l) = .mk 9 [] (t::l):=by rw[Ow]
end Go.PL
namespace Go.PL
theorem Xq {w:List Int} {n:Nat} (h:n<w.length) (h0:w[n]=0):Gq (w.take (n+1))=Gq (w.take n):=by
 rw[LW h,QA,if_pos h0]
theorem XM {w:List Int} {n:Nat} (h:n<w.length) (h0:w[n] ≠ 0):Gq (w.take (n+1))=w.take (n+1):=by
 rw[LW h,QA,if_neg h0]
theorem WQ {w:List T} {n:Nat} (h:n<w.length) (h0:w[n].kind=0):DC (w.take (n+1))=DC (w.take n):=by
 rw[LW h,G9,if_pos h0]
theorem Xl {w:List T} {n:Nat} (h:n<w.length) (h0:w[n].kind ≠ 0):DC (w.take (n+1))=w.take (n+1):=by
 rw[LW h,G9,if_neg h0]
theorem Ru (l:List T):(DC (l.map Aq)).length=(DC l).length:=by
 induction l using Y1 with
 |h0=>rfl
 |h1 l x ih=>
  rw[List.map_append,List.map_cons,List.map_nil,G9,G9,GQ];split
  ·exact ih
  ·simp
theorem Z3 (l:List T):DC (l.map Aq)=(l.map Aq).take (DC l).length:=by
 rw[← Ru];exact Xd _
theorem T.ext' {t u:T} (h1:t.kind=u.kind) (h2:t.words=u.words) (h3:t.kids=u.kids):t=u:=by
 cases t;cases u;simp at h1 h2 h3;rw[h1,h2,h3]
noncomputable def i7 (t u:T):Bool:=by classical exact decide (t=u)
theorem aU {t u:T}:i7 t u=true ↔ t=u:=by simp[i7]
noncomputable def ca (t u:T):Bool:=i7 (Aq t) (Aq u)
theorem eqT_iff {t u:T}:ca t u=true ↔ Aq t=Aq u:=aU
end Go.PL
namespace Go.Proofs.YtgkdikddjfgajaaGreatDoor
open Go Go.G Go.Proofs Go.PL
theorem AA {P:Program} {K:Lu} {rest:List CO} {s:Nat→A} {H:Hp} {dd:Option Nat} {k:Nat} {f:Bool} {nm:Nm} {ix:Nat} {un:List Nat} {l:Bool} {lg:Lg} {g:FuncId} {aa:Array Operand} {ts:Array TypeId}
  (hq:BG (s k) f=some false) (h:An P K rest (A2 l ix ⟨[],[]⟩ lg) (Sta.put ⟨s,H⟩ dd (.v undef) H)) :
  An P K (⟨dd,.call { callee:=.value (.func g),args:=aa,argTypes:=ts },some (k,f),nm,ix,un,l⟩::rest) lg ⟨s,H⟩:=
 Nz (q:=false) (x:=.any) hq (fun e=>by cases e) h
abbrev Gn (l:List Int):A:=.sl false (l.map uv)
abbrev u8 (n:Int):A:=.v (.int .u8 n)
mutual
def tC:T→List A
 |.mk k w l=>[iv k,Gn w,.sl false (ue l)]
def ue:List T→List A
 |[]=>[]
 |t::l=>.agg (tC t)::ue l
end
def tA (t:T):A:=.agg (tC t)
abbrev DY (l:List T):A:=.sl false (l.map tA)
abbrev tX (t:T):A:=.agg [iv t.kind,Gn t.words,DY t.kids]
theorem YL:∀ l,ue l=l.map tA
 |[]=>by rw[ue];rfl
 |t::l=>by rw[ue,YL l];rfl
theorem xp (t:T):tC t=[iv t.kind,Gn t.words,DY t.kids]:=by cases t;rw[tC,YL];rfl
@[simp] theorem tA_eq (t:T):tA t=tX t:=by rw[tA,xp]
def wA (w:WE):A:=.agg [iv w.at_,u8 w.mask,uv w.old,uv w.new]
abbrev wX (w:WE):A:=.agg [iv w.at_,u8 w.mask,uv w.old,uv w.new]
@[simp] theorem wA_eq (w:WE):wA w=wX w:=rfl
abbrev ar (l:List WE):A:=.sl false (l.map wA)
mutual
def eC:E→List A
 |.mk k o n w ks l os=>[iv k,iv o.kind,Gn o.words,DY o.kids,iv n.kind,Gn n.words,DY n.kids,ar w,.sl false (va ks),iv l,.sl false (xY os)]
def va:List KE→List A
 |[]=>[]
 |.mk a e::l=>.agg (iv a::eC e)::va l
def xY:List OP→List A
 |[]=>[]
 |.mk k n t e::l=>.agg (iv k::iv n::DY t::eC e)::xY l
end
def kA (x:KE):A:=.agg (iv x.at_::eC x.e)
def oA (x:OP):A:=.agg (iv x.kind::iv x.n::DY x.l::eC x.e)
abbrev W4 (l:List KE):A:=.sl false (l.map kA)
abbrev SX (l:List OP):A:=.sl false (l.map oA)
abbrev eL (e:E):List A:=[iv e.kind,iv e.old.kind,Gn e.old.words,DY e.old.kids,iv e.new.kind,Gn e.new.words,DY e.new.kids,ar e.words,W4 e.kids,iv e.list,SX e.ops]
abbrev eX (e:E):A:=.agg (eL e)
abbrev kX (x:KE):A:=.agg (iv x.at_::eL x.e)
abbrev oX (x:OP):A:=.agg (iv x.kind::iv x.n::DY x.l::eL x.e)
theorem YT:∀ l,va l=l.map kA
 |[]=>by rw[va];rfl
 |.mk a e::l=>by rw[va,YT l];rfl
theorem Zc:∀ l,xY l=l.map oA
 |[]=>by rw[xY];rfl
 |.mk k n t e::l=>by rw[xY,Zc l];rfl
theorem mB (e:E):eC e=eL e:=by cases e;rw[eC,YT,Zc];rfl
@[simp] theorem kA_eq (x:KE):kA x=kX x:=by rw[kA,mB]
@[simp] theorem oA_eq (x:OP):oA x=oX x:=by rw[oA,mB]
@[simp] theorem AaT (l:List Int):Ds 1 (l.map iv)=true:=by simp[Ds]
@[simp] theorem yV (l:List T):Ds 3 (l.map tA)=true:=by simp[Ds]
@[simp] theorem Abh (l:List WE):Ds 4 (l.map wA)=true:=by simp[Ds]
@[simp] theorem yT (l:List KE):Ds 12 (l.map kA)=true:=by simp[Ds]
@[simp] theorem y9 (l:List OP):Ds 14 (l.map oA)=true:=by simp[Ds]
theorem L2 {n:Nat} {l:List A}:Ds n l=true ↔ ∀ x,x ∈ l→x.cells.length=n:=by simp[Ds]
@[simp] theorem tB {n k:Nat} {l:List A} (h:Ds n l=true):Ds n (l.take k)=true:=by
 rw[L2] at h ⊢;exact fun x hx=>h x (Zy hx)
@[simp] theorem r7 {n k:Nat} {l:List A} (h:Ds n l=true):Ds n (l.drop k)=true:=by
 rw[L2] at h ⊢;exact fun x hx=>h x (mN hx)
theorem DT {α:Type} {H:Hp} {o:Nm} {u n sz:Nat} {l:List α} {f:α→A} (h:vr (H o) u=some (sz,l.map f)) (hn:n=l.length) (hf:∀ x,((f x).cells.length == sz&&(f x).cells.all fun y=>A.bare1 y&&y.one)=true):Jw H (.osl o u sz 0 n) (.sl false (l.map f)):=by
 subst hn;have:=Zw (H:=H) (o:=o) (u:=u) (off:=0) (len:=l.length) (sz:=sz) (xs:=l.map f) (by simpa using h) (by simp) (by
  simp only[List.drop_zero];rw[DE (by simp),List.all_map,List.all_eq_true];exact fun x _=>hf x)
 simp[DE] at this;exact this
theorem iM {α:Type} {H:Hp} {o:Nm} {u n sz:Nat} {l:List α} {f:α→A} (h:vr (H o) u=some (sz,l.map f)) (hn:n≤l.length) (hf:∀ x,((f x).cells.length == sz&&(f x).cells.all fun y=>A.bare1 y&&y.one)=true):Jw H (.osl o u sz 0 n) (.sl false ((l.take n).map f)):=by
 have:=Zw (H:=H) (o:=o) (u:=u) (off:=0) (len:=n) (sz:=sz) (xs:=l.map f) (by simpa using h) (by simpa using hn) (by
  simp only[List.drop_zero];rw[← List.map_take,List.all_map,List.all_eq_true];exact fun x _=>hf x)
 simpa using this
theorem fQ {α:Type} {f:α→A} {l:List α} {i:Nat} (h:i<l.length) {x:A} (hx:f l[i]=x):List.take i (List.take i (l.map f))++[x]=(l.take (i+1)).map f:=by
 rw[List.take_take,Nat.min_self,LW h,List.map_append,List.map_take,← hx];rfl
theorem Ui {H:Hp}:Jw H (.agg [iv 0,.sl true [],.sl true []]) (tX T0):=CK (by simp;exact⟨Ab rfl,Ae,Ae⟩)
def Bm (n:Int):Prop:=-9223372036854775808≤n∧n<9223372036854775808
def EP (n:Int):Prop:=0≤n∧n<18446744073709551616
mutual
def CG:T→Prop
 |.mk k w l=>Bm k∧(∀ x,x ∈ w→EP x)∧w.length*8≤140737488355328∧l.length*56≤140737488355328∧aX l
def aX:List T→Prop
 |[]=>True
 |t::l=>CG t∧aX l
end
theorem wfTs_all:∀ {l:List T},aX l ↔ ∀ t,t ∈ l→CG t
 |[]=>by simp[aX]
 |t::l=>by simp[aX,wfTs_all (l:=l)]
structure WfT (t:T):Prop where
 k:Bm t.kind
 w:∀ x,x ∈ t.words→EP x
 wl:t.words.length*8≤140737488355328
 kl:t.kids.length*56≤140737488355328
 ks:∀ x,x ∈ t.kids→CG x
theorem wfT_iff {t:T}:CG t ↔ WfT t:=by
 cases t;rw[CG,wfTs_all];exact⟨fun ⟨a,b,c,d,e⟩=>⟨a,b,c,d,e⟩,fun ⟨a,b,c,d,e⟩=>⟨a,b,c,d,e⟩⟩
def WE.wf (w:WE):Prop:=Bm w.at_∧(0≤w.mask∧w.mask<256)∧EP w.old∧EP w.new
mutual
def Nf:E→Prop
 |.mk k o n w ks l os=>(Bm k∧Bm l∧CG o∧CG n∧(∀ x,x ∈ w→WE.wf x)∧w.length*32≤140737488355328∧ks.length*208≤140737488355328∧os.length*240≤140737488355328)∧gE ks∧dG os
def gE:List KE→Prop
 |[]=>True
 |.mk a e::l=>(Bm a∧Nf e)∧gE l
def dG:List OP→Prop
 |[]=>True
 |.mk k n t e::l=>(Bm k∧Bm n∧aX t∧t.length*56≤140737488355328∧Nf e)∧dG l
end
structure jA (x:OP):Prop where
 k:Bm x.kind
 n:Bm x.n
 l:∀ t,t ∈ x.l→CG t
 ll:x.l.length*56≤140737488355328
 e:Nf x.e
theorem VL:∀ {l:List KE},gE l ↔ ∀ x,x ∈ l→Bm x.at_∧Nf x.e
 |[]=>by simp[gE]
 |.mk a e::l=>by simp[gE,VL (l:=l)]
theorem U3:∀ {l:List OP},dG l ↔ ∀ x,x ∈ l→jA x
 |[]=>by simp[dG]
 |.mk k n t e::l=>by
  simp only[dG,U3 (l:=l),wfTs_all,List.forall_mem_cons];exact⟨fun ⟨⟨a,b,c,d,e⟩,h⟩=>⟨⟨a,b,c,d,e⟩,h⟩,fun ⟨⟨a,b,c,d,e⟩,h⟩=>⟨⟨a,b,c,d,e⟩,h⟩⟩
structure WfE (e:E):Prop where
 k:Bm e.kind
 l:Bm e.list
 o:CG e.old
 n:CG e.new
 w:∀ x,x ∈ e.words→WE.wf x
 wl:e.words.length*32≤140737488355328
 kl:e.kids.length*208≤140737488355328
 ol:e.ops.length*240≤140737488355328
 ks:∀ x,x ∈ e.kids→Bm x.at_∧Nf x.e
 os:∀ x,x ∈ e.ops→jA x
theorem wfE_iff {e:E}:Nf e ↔ WfE e:=by
 cases e;rw[Nf,VL,U3];exact⟨fun ⟨⟨a,b,c,d,e,f,g,h⟩,i,j⟩=>⟨a,b,c,d,e,f,g,h,i,j⟩,fun ⟨a,b,c,d,e,f,g,h,i,j⟩=>⟨⟨a,b,c,d,e,f,g,h⟩,i,j⟩⟩
theorem Tq (c:Int):DL c = -1∨DL c=0∨DL c=1∨DL c=8∨DL c=16∨DL c=32∨DL c=64:=by
 unfold DL;repeat' split
 all_goals simp
variable {n0:Nat} {w0:World} {I0:Nat→Prop} {Q:Exit→Sta→Prop} {H:Hp}
theorem Xx (c:Int):G.Spec Tryz.prog 144 [iv c] (.tup [iv (if DL c<0 then 0 else DL c),bv (decide (0≤DL c))]):=by
 refine Ap T5 (by simp) fun w0 I0=>?_;unfold L9;by_cases h0:c=0
 ·subst h0;simp;exact Ix rfl rfl
 by_cases h1:c=1
 ·subst h1;simp;exact Ix rfl rfl
 by_cases h2:c=2
 ·subst h2;simp;exact Ix rfl rfl
 by_cases h3:c=3
 ·subst h3;simp;exact Ix rfl rfl
 by_cases h4:c=4
 ·subst h4;simp;exact Ix rfl rfl
 by_cases h5:c=5
 ·subst h5;simp;exact Ix rfl rfl
 have hd:(decide (c<0) || decide (6≤c))=true:=by simp;omega
 simp[hd];exact Ix rfl (by simp[DL,h0,h1,h2,h3,h4,h5])
theorem RR (k:Int):G.Spec Tryz.prog 97 [iv k] (bv (DM k)):=by
 refine Ap Od (by simp) fun w0 I0=>?_;unfold JL;simp;refine Ak ?_;simp[DM]
def El:Nat→Int→List Int
 |0,_=>[]
 |m+1,x=>x % 256::El m (x / 256)
@[simp] theorem KU:∀ (m:Nat) (x:Int),(El m x).length=m
 |0,_=>rfl
 |m+1,x=>by simp[El,KU m]
section
variable {n0:Nat} {w0:World} {I0:Nat→Prop} {Q:Exit→Sta→Prop}
end
def Dv (x:Int):List Int:=El 8 x
def Fe (x:Int) (i:Nat):Bool:=decide (x / 2 ^ i % 2=1)
def cy:List Int→Int
 |[]=>0
 |b::l=>b+256*cy l
theorem Nq:∀ (l:List Int),(∀ b,b ∈ l→0≤b∧b<256)→0≤cy l∧cy l<256 ^ l.length
 |[],_=>by simp[cy]
 |b::l,h=>by
  have h1:=h b (by simp);have h2:=Nq l fun x hx=>h x (by simp[hx]);simp only[cy,List.length_cons,Int.pow_succ];omega
theorem Jc:∀ (m:Nat) (x:Int),∀ b,b ∈ El m x→0≤b∧b<256
 |m+1,x,b,h=>by
  rcases List.mem_cons.1 h with rfl | h
  ·omega
  ·exact Jc m _ b h
def UM (a b:List Int) (mask:Int) (k:Nat):List Int:=(List.range k).map (fun i=>if Fe mask i=true then b.getD i 0 else a.getD i 0)++a.drop k
theorem Wl {a b:List Int} {mask:Int} {k:Nat} (h:k≤a.length):(UM a b mask k).length=a.length:=by simp[UM];omega
section
variable {n0:Nat} {w0:World} {I0:Nat→Prop} {Q:Exit→Sta→Prop}
end
def LJ (a b mask:Int):Int:=cy (UM (Dv a) (Dv b) mask 8)
theorem Q1 {a b mask:Int} {k:Nat}:∀ x,x ∈ UM (Dv a) (Dv b) mask k→0≤x∧x<256:=by
 have hg:∀ (y:Int) (i:Nat),0≤(Dv y).getD i 0∧(Dv y).getD i 0<256:=fun y i=>by
  rw[List.getD_eq_getElem?_getD];cases e:(Dv y)[i]? with
  |none=>simp
  |some z=>exact Jc 8 y z (List.mem_of_getElem? e)
 intro x hx;rcases List.mem_append.1 hx with hx | hx
 ·obtain⟨i,_,rfl⟩:=List.mem_map.1 hx;split
  ·exact hg b i
  ·exact hg a i
 ·exact Jc 8 a x (mN hx)
theorem HR (x:Int):(Dv x).length=8:=KU 8 x
@[simp] theorem ry {q:Bool} {n:Nat} {y:A} {K:A→Prop}:EY q (A.shift n (gd q y)) K=EY q (A.shift n y) K:=CV fun h=>by rw[h];rfl
theorem IU (l:List Int):A.softL (l.map uv)=l.map uv:=by
 rw[BC,List.map_map];rfl
theorem Zd:∀ t:T,(tA t).soft=tA t:=by
 refine T.ind fun k w l ih=>?_;rw[tA_eq];simp only[A.soft,A.softL,T.kind_mk,T.words_mk,T.kids_mk,IU];have e:l.map (A.soft ∘ tA)=l.map tA:=List.map_congr_left fun t ht=>ih t ht;rw[BC,List.map_map,e];rfl
theorem JW (l:List T):A.softL (l.map tA)=l.map tA:=by
 rw[BC,List.map_map];exact List.map_congr_left fun t _=>Zd t
structure Sg (l:List (List Int)):Prop where
 b:∀ x,x ∈ l→x.length*8≤140737488355328
 w:Wds l
def cY (l:List (List Int)) (r:Rf):A:=if r.kind=0 then .v (.pointer none) else arn l
@[simp] theorem rU (l:List (List Int)) (r:Rf):(cY l r).cells=[cY l r]:=by unfold cY;split<;>rfl
@[simp] theorem AaF (l:List (List Int)) (r:Rf):(cY l r).one=true:=by unfold cY;split<;>rfl
@[simp] theorem xg (l:List (List Int)) (r:Rf):(cY l r).bare=true:=by unfold cY;split<;>rfl
@[simp] theorem rI (l:List (List Int)) (r:Rf):(cY l r).bare1=true:=by unfold cY;split<;>rfl
@[simp] theorem sM (l:List (List Int)) (r:Rf):(cY l r).bare2=true:=by unfold cY;split<;>rfl
abbrev paL (l:List (List Int)) (r:Rf):List A:=[cY l r,iv r.kind,iv r.s,iv r.at_,iv r.data,iv r.kids,iv r.count,uv r.n]
theorem HS (t:T) (i:Nat):G.Spec Tryz.prog 155 [tX t,iv i] (uv (t.words.getD i 0)):=by
 refine Ap UR (by simp) fun w0 I0=>?_;unfold OH;have hn:¬ (i:Int)<0:=by omega
 by_cases h:i<t.words.length
 ·have h2:¬ t.words.length≤i:=by omega
  simp[h,hn,h2];exact Ix rfl (by simp[h])
 ·have h2:t.words.length≤i:=by omega
  simp[h,hn,h2];exact Ix rfl (by simp[List.getElem?_eq_none (Nat.le_of_not_lt h)])
theorem Jd (t:T) (i:Nat):G.Spec Tryz.prog 216 [tX t,iv i] (tX (t.kids.getD i T0)):=by
 refine Ap Yr (by simp) fun w0 I0=>?_;unfold Qh;have hn:¬ (i:Int)<0:=by omega
 by_cases h:i<t.kids.length
 ·have h2:¬ t.kids.length≤i:=by omega
  simp[h,hn,h2];exact Ab (by simp)
 ·have h2:t.kids.length≤i:=by omega
  simp[h,hn,h2];exact CK (by simp;exact⟨Ab rfl,Ae,Ae⟩)
section
variable {n0:Nat} {w0:World} {I0:Nat→Prop} {Q:Exit→Sta→Prop}
end
abbrev tL (t:T):List A:=[iv t.kind,Gn t.words,DY t.kids]
section
variable {n0:Nat} {w0:World} {I0:Nat→Prop} {Q:Exit→Sta→Prop}
end
section
variable {n0:Nat} {w0:World} {I0:Nat→Prop} {Q:Exit→Sta→Prop}
end
section
variable {n0:Nat} {w0:World} {I0:Nat→Prop} {Q:Exit→Sta→Prop}
end
end Go.Proofs.YtgkdikddjfgajaaGreatDoor
namespace Go.PL
def hd (t:T):Int:=t.words.headD 0
structure PutI (w i:Nat) (out:List Int):Prop where
 rng:∀ (j:Nat) (h:j<out.length),0≤out[j]∧out[j]<18446744073709551616
 here:∀ (h:i*w / 64<out.length),out[i*w / 64]<2 ^ (i*w % 64)
 zero:∀ (j:Nat) (h:j<out.length),i*w / 64<j→out[j]=0
theorem PutI.start (w m:Nat):PutI w 0 (List.replicate m 0):=⟨fun j h=>by simp,fun h=>by simp,fun j h _=>by simp⟩
end Go.PL
namespace Go.Proofs.YtgkdikddjfgajaaGreatDoor
open Go Go.G Go.Proofs Go.PL
abbrev s1:List (List Int):=[[4294967296,7]]
abbrev s2:List (List Int):=[[8589934592,7,0]]
abbrev s3:List (List Int):=[[4294967296,8]]
def wv (h x:Int):Int:=u64.wrap (bits .xor .u64 h x*1099511628211)
def jX (h x:Int):Int:=bits .xor .u64 (wv h x) (wv h x / 2 ^ min 29 u64.bits)
mutual
def nf:T→Int
 |.mk k w l=>nh (w.foldl jX (jX (jX 14695981039346656037 (u64.wrap k)) (u64.wrap w.length))) l
def nh:Int→List T→Int
 |h,[]=>h
 |h,t::l=>nh (jX h (nf t)) l
end
end Go.Proofs.YtgkdikddjfgajaaGreatDoor
namespace Go.PL
def QO (stop:Nat→Bool) (pl:List Nat):Nat→Nat→Nat
 |0,a=>a
 |f+1,a=>if pl.getD a 0=0 then a else if stop (pl.getD a 0)=true then a else QO stop pl f ((a+1) % pl.length)
theorem PC (a d m:Nat):((a+1) % m+d) % m=(a+(d+1)) % m:=by
 rw[Nat.mod_add_mod];congr 1;omega
theorem al {stop:Nat→Bool} {pl:List Nat}:∀ (f a d:Nat),a<pl.length→d<f→pl.getD ((a+d) % pl.length) 0=0 →
  QO stop pl f a<pl.length∧(pl.getD (QO stop pl f a) 0=0∨stop (pl.getD (QO stop pl f a) 0)=true) ∧
   ∃ k,QO stop pl f a=(a+k) % pl.length∧∀ e,e<k→pl.getD ((a+e) % pl.length) 0 ≠ 0∧stop (pl.getD ((a+e) % pl.length) 0)=false:=by
 intro f;induction f with
 |zero=>intro a d _ h;omega
 |succ f ih=>
  intro a d ha hd hz;unfold QO;have hself:∃ k,a=(a+k) % pl.length∧∀ e,e<k→pl.getD ((a+e) % pl.length) 0 ≠ 0∧stop (pl.getD ((a+e) % pl.length) 0)=false:=⟨0,by rw[Nat.add_zero,Nat.mod_eq_of_lt ha],fun e he=>by omega⟩;split
  ·rename_i h0;exact⟨ha,.inl h0,hself⟩
  ·rename_i h0;split
   ·rename_i h1;exact⟨ha,.inr h1,hself⟩
   ·rename_i h1;cases d with
    |zero=>rw[Nat.add_zero,Nat.mod_eq_of_lt ha] at hz;exact absurd hz h0
    |succ d=>
     obtain⟨p1,p2,k,p3,p4⟩:=ih ((a+1) % pl.length) d (Nat.mod_lt _ (by omega)) (by omega) (by rw[PC];exact hz);refine⟨p1,p2,k+1,by rw[p3,PC],fun e he=>?_⟩;cases e with
     |zero=>rw[Nat.add_zero,Nat.mod_eq_of_lt ha];exact⟨h0,by simpa using h1⟩
     |succ e=>
      have:=p4 e (by omega)
      rwa [PC] at this
structure Pl (hs:List Nat) (pl:List Nat):Prop where
 cnt:pl.countP (fun v=>v != 0)=hs.length
 vals:∀ v,v ∈ pl→v≤hs.length
 reach:∀ (c:Nat) (hc:c<hs.length),∃ d,pl[(hs[c]+d) % pl.length]? = some (c+1)∧∀ e,e<d→pl.getD ((hs[c]+e) % pl.length) 0 ≠ 0
theorem Pl.free {hs pl:List Nat} (h:Pl hs pl) (hl:hs.length<pl.length) (a:Nat):∃ d,d<pl.length∧pl.getD ((a+d) % pl.length) 0=0:=by
 have hm:∃ v,v ∈ pl∧v=0:=by
  apply Classical.byContradiction;intro hn;have:pl.countP (fun v=>v != 0)=pl.length:=List.countP_eq_length.2 fun v hv=>by
   simp only[bne_iff_ne,ne_eq];exact fun e=>hn ⟨v,hv,e⟩
  have:=h.cnt;omega
 obtain⟨v,hv,rfl⟩:=hm;obtain⟨i,hi,e⟩:=List.mem_iff_getElem.1 hv;refine⟨(i+(pl.length-a % pl.length)) % pl.length,Nat.mod_lt _ (by omega),?_⟩;have:(a+(i+(pl.length-a % pl.length)) % pl.length) % pl.length=i:=by
  rw[Nat.add_mod_mod];have h1:=Nat.mod_lt a (show 0<pl.length by omega);have h2:=Nat.div_add_mod a pl.length;have h3:a+(i+(pl.length-a % pl.length))=i+pl.length*(a / pl.length+1):=by
   rw[Nat.mul_add,Nat.mul_one];omega
  rw[h3,Nat.add_mul_mod_self_left,Nat.mod_eq_of_lt hi]
 rw[this];simp[hi,e]
theorem Yc {pl:List Nat} {a v:Nat} (ha:a<pl.length) (h0:pl.getD a 0=0) (hv:v ≠ 0):(pl.set a v).countP (fun v=>v != 0)=pl.countP (fun v=>v != 0)+1:=by
 induction pl generalizing a with
 |nil=>simp at ha
 |cons x l ih=>
  cases a with
  |zero=>
   simp at h0;subst h0;simp[hv]
  |succ a=>
   simp only[List.set_cons_succ,List.countP_cons];rw[ih (by simpa using ha) (by simpa using h0)];omega
theorem Pl.ins {hs pl:List Nat} (h:Pl hs pl) {x a k:Nat} (ha:a<pl.length) (h0:pl.getD a 0=0) (he:a=(x+k) % pl.length) (hk:∀ e,e<k→pl.getD ((x+e) % pl.length) 0 ≠ 0):Pl (hs++[x]) (pl.set a (hs.length+1)):=by
 have hmod:∀ y,y % pl.length<pl.length:=fun y=>Nat.mod_lt _ (by omega);have nz:∀ y,pl.getD (y % pl.length) 0 ≠ 0→(pl.set a (hs.length+1)).getD (y % pl.length) 0 ≠ 0:=fun y hy=>by
  have hne:a ≠ y % pl.length:=fun e=>hy (by rw[← e];exact h0);simpa[List.getD_eq_getElem?_getD,List.getElem?_set_ne hne] using hy
 refine⟨?_,fun v hv=>?_,fun c hc=>?_⟩
 ·rw[Yc ha h0 (by omega),h.cnt];simp
 ·rw[List.length_append,List.length_singleton];rcases List.mem_or_eq_of_mem_set hv with hv | rfl
  ·have:=h.vals v hv;omega
  ·omega
 ·simp only[List.length_set];by_cases hcl:c<hs.length
  ·obtain⟨d,h1,h2⟩:=h.reach c hcl;rw[List.getElem_append_left hcl];refine⟨d,?_,fun e he=>nz _ (h2 e he)⟩;have hne:a ≠ (hs[c]+d) % pl.length:=fun e=>by
    rw[← e] at h1;rw[List.getD_eq_getElem?_getD,h1] at h0;simp at h0
   rw[List.getElem?_set_ne hne,h1]
  ·have:c=hs.length:=by simp at hc;omega
   subst this;rw[List.getElem_append_right (CE _)];simp only[Nat.sub_self,List.getElem_cons_zero];refine⟨k,?_,fun e he=>nz _ (hk e he)⟩;rw[← he,List.getElem?_set_self ha]
def insP (pl:List Nat) (x v:Nat):List Nat:=pl.set (QO (fun _=>false) pl pl.length (x % pl.length)) v
def YY:List Nat→Nat→List Nat→List Nat
 |pl,_,[]=>pl
 |pl,i,x::hs=>YY (insP pl x (i+1)) (i+1) hs
@[simp] theorem nu {pl:List Nat} {x v:Nat}:(insP pl x v).length=pl.length:=by simp[insP]
theorem Pl.nil (m:Nat):Pl [] (List.replicate m 0):=by
 refine⟨?_,fun v hv=>?_,fun c hc=>?_⟩
 ·simp[List.countP_replicate]
 ·simp at hv;omega
 ·simp at hc
theorem dZ {stop:Nat→Bool} {pl:List Nat} {x:Nat} {hs:List Nat} (h:Pl hs pl) (hl:hs.length<pl.length) :
  QO stop pl pl.length (x % pl.length)<pl.length∧(pl.getD (QO stop pl pl.length (x % pl.length)) 0=0∨stop (pl.getD (QO stop pl pl.length (x % pl.length)) 0)=true) ∧
   ∃ k,QO stop pl pl.length (x % pl.length)=(x+k) % pl.length∧∀ e,e<k→pl.getD ((x+e) % pl.length) 0 ≠ 0∧stop (pl.getD ((x+e) % pl.length) 0)=false:=by
 obtain⟨d,h1,h2⟩:=h.free hl (x % pl.length);have:=al (stop:=stop) pl.length (x % pl.length) d (Nat.mod_lt _ (by omega)) h1 h2;simpa using this
theorem Pl.insP {hs pl:List Nat} (h:Pl hs pl) (hl:hs.length<pl.length) (x:Nat):Pl (hs++[x]) (insP pl x (hs.length+1)):=by
 obtain⟨h1,h2,k,h3,h4⟩:=dZ (stop:=fun _=>false) (x:=x) h hl;refine h.ins h1 (h2.resolve_right (by simp)) h3 fun e he=>(h4 e he).1
theorem Pl.grow:∀ {hs2 hs pl:List Nat},Pl hs pl→hs.length+hs2.length≤pl.length→Pl (hs++hs2) (YY pl hs.length hs2)
 |[],hs,pl,h,_=>by simpa[YY] using h
 |x::hs2,hs,pl,h,hl=>by
  simp only[List.length_cons] at hl;have h1:=h.insP (by omega) x;have:=Pl.grow (hs2:=hs2) h1 (by simp;omega);rw[List.append_assoc] at this;simpa[YY] using this
end Go.PL
namespace Go.Proofs.YtgkdikddjfgajaaGreatDoor
open Go Go.G Go.Proofs Go.PL
structure Cl where
 l:List (List Int)
 r:Rf
 t:T
noncomputable def Cl.h (c:Cl):Int:=nf (Aq c.t)
noncomputable def Cl.hn (c:Cl):Nat:=c.h.toNat
abbrev clL (h:Int) (l:List (List Int)) (r:Rf):List A:=uv h::paL l r
noncomputable def Cl.a (c:Cl):A:=.agg (clL c.h c.l c.r)
abbrev nv (n:Nat):A:=iv (n:Int)
structure Tb where
 u:Nat
 uc:Nat
 up:Nat
 cl:List Cl
 pl:List Nat
structure Tb.Ok (S:Tb):Prop where
 p8:8≤S.pl.length
 half:2*S.cl.length≤S.pl.length
 most:S.pl.length≤8+4*S.cl.length
 pl:Pl (S.cl.map Cl.hn) S.pl
 means:∀ c,c ∈ S.cl→Sg c.l∧YD c.l c.r c.t
 nd:(S.cl.map fun c=>Aq c.t).Nodup
noncomputable def Tb.ks (S:Tb):List T:=S.cl.map fun c=>Aq c.t
@[simp] theorem Tb.ks_length (S:Tb):S.ks.length=S.cl.length:=by simp[Tb.ks]
theorem Tb.Ok.lt {S:Tb} (h:S.Ok):S.cl.length<S.pl.length:=by have:=h.p8;have:=h.half;omega
structure Tb.Ok1 (S:Tb):Prop where
 p8:8≤S.pl.length
 half:2*S.cl.length≤S.pl.length+2
 most:S.pl.length≤8+4*S.cl.length
 pl:Pl (S.cl.map Cl.hn) S.pl
 means:∀ c,c ∈ S.cl→Sg c.l∧YD c.l c.r c.t
 nd:(S.cl.map fun c=>Aq c.t).Nodup
theorem Tb.Ok1.ok {S:Tb} (h:S.Ok1) (hf:¬ S.pl.length<2*S.cl.length):S.Ok:=⟨h.p8,by omega,h.most,h.pl,h.means,h.nd⟩
variable {n0:Nat} {w0:World} {I0:Nat→Prop} {Q:Exit→Sta→Prop}
end Go.Proofs.YtgkdikddjfgajaaGreatDoor
namespace Go.PL
def DF {α:Type} (p:α→Bool) (l:List α):List α:=(l.reverse.dropWhile p).reverse
theorem PE {α:Type} {p:α→Bool} (l:List α) (x:α):DF p (l++[x])=if p x=true then DF p l else l++[x]:=by
 unfold DF;rw[List.reverse_append,List.reverse_singleton,List.singleton_append,List.dropWhile_cons];split<;>simp
theorem YE {α:Type} {P:List α→Prop} (h0:P []) (h1:∀ l x,P l→P (l++[x])) (l:List α):P l:=by
 have:∀ m:List α,P m.reverse:=by
  intro m;induction m with
  |nil=>exact h0
  |cons x m ih=>rw[List.reverse_cons];exact h1 _ _ ih
 have:=this l.reverse
 rwa [List.reverse_reverse] at this
theorem Iz {α:Type} {p:α→Bool} {z:α} (l:List α):(∀ x,x ∈ l→p x=true→x=z)→∀ i,(DF p l).getD i z=l.getD i z:=by
 refine YE (P:=fun l=>(∀ x,x ∈ l→p x=true→x=z)→∀ i,(DF p l).getD i z=l.getD i z) (fun _ i=>rfl) (fun l x ih h i=>?_) l;rw[PE];split
 ·rename_i hx;rw[ih (fun y hy=>h y (by simp[hy])) i];have:=h x (by simp) hx;subst this;simp only[List.getD_eq_getElem?_getD,List.getElem?_append];split
  ·rfl
  ·rw[List.getElem?_eq_none (by omega)];by_cases e:i-l.length=0
   ·simp[e]
   ·rw[List.getElem?_eq_none (by simp;omega)]
 ·rfl
theorem X3 {α:Type} {p:α→Bool} {z:α} (l:List α):DF p l ≠ []→p ((DF p l).getD ((DF p l).length-1) z)=false:=by
 refine YE (P:=fun l=>DF p l ≠ []→p ((DF p l).getD ((DF p l).length-1) z)=false) (fun h=>absurd rfl h) (fun l x ih h=>?_) l;rw[PE] at h ⊢;split
 ·rename_i hx;rw[if_pos hx] at h;exact ih h
 ·rename_i hx;simp at hx ⊢;exact hx
theorem Vj {α:Type} {p:α→Bool} {z:α} (hz:p z=true) {a b:List α} (ha:∀ x,x ∈ a→p x=true→x=z) (hb:∀ x,x ∈ b→p x=true→x=z):DF p a=DF p b ↔ ∀ i,a.getD i z=b.getD i z:=by
 constructor
 ·intro h i;rw[← Iz a ha,h,Iz b hb]
 ·intro h;have h':∀ i,(DF p a).getD i z=(DF p b).getD i z:=fun i=>by rw[Iz a ha,Iz b hb,h]
  have one:∀ c d:List α,(∀ i,(DF p c).getD i z=(DF p d).getD i z)→(DF p c).length≤(DF p d).length:=fun c d hcd=>by
   by_cases e:DF p c=[]
   ·simp[e]
   ·have hl:=X3 (z:=z) c e;have hpos:0<(DF p c).length:=List.length_pos_iff.2 e;rw[hcd] at hl;refine Nat.le_of_not_lt fun hlt=>?_;rw[List.getD_eq_getElem?_getD,List.getElem?_eq_none (by omega)] at hl;simp[hz] at hl
  have hlen:(DF p a).length=(DF p b).length:=Nat.le_antisymm (one a b h') (one b a fun i=>(h' i).symm);apply List.ext_getElem hlen;intro i h1 h2;have:=h' i;simpa[List.getD_eq_getElem?_getD,h1,h2] using this
theorem YJ (l:List Int):Gq l=DF (fun x=>x == 0) l:=rfl
theorem YI (l:List T):DC l=DF (fun x=>x.kind == 0) l:=rfl
theorem gO {a b:List Int}:Gq a=Gq b ↔ ∀ i,a.getD i 0=b.getD i 0:=by
 rw[YJ,YJ];exact Vj rfl (fun x _ h=>by simpa using h) (fun x _ h=>by simpa using h)
theorem IY {t:T} (h:t.kind=0):Aq t=T0:=by cases t;simp at h;rw[Jf,if_pos h]
theorem kx:Aq T0=T0:=IY rfl
theorem GP (l:List T) (i:Nat):(l.map Aq).getD i T0=Aq (l.getD i T0):=by
 simp only[List.getD_eq_getElem?_getD,List.getElem?_map];cases l[i]? with
 |none=>simp[kx]
 |some x=>rfl
theorem fM {a b:List T}:DC (a.map Aq)=DC (b.map Aq) ↔ ∀ i,Aq (a.getD i T0)=Aq (b.getD i T0):=by
 have hz:∀ c:List T,∀ x,x ∈ c.map Aq→(x.kind == 0)=true→x=T0:=fun c x hx h0=>by
  obtain⟨y,_,rfl⟩:=List.mem_map.1 hx;simp at h0;exact IY h0
 rw[YI,YI,Vj (z:=T0) rfl (hz a) (hz b)];constructor
 ·intro h i;rw[← GP,← GP];exact h i
 ·intro h i;rw[GP,GP];exact h i
theorem struct_eq {w w':List Int} {a b:List T}:Aq (.mk 1 w a)=Aq (.mk 1 w' b) ↔ (∀ i,w.getD i 0=w'.getD i 0)∧∀ i,Aq (a.getD i T0)=Aq (b.getD i T0):=by
 rw[Jf,Jf];simp only[if_neg (show ¬ (1:Int)=0 by decide),if_true,T.mk.injEq,true_and];rw[gO,fM]
theorem VH {k:Int} {w w':List Int} {a b:List T} (h0:k ≠ 0) (h1:k ≠ 1):Aq (.mk k w a)=Aq (.mk k w' b) ↔ w=w'∧a.map Aq=b.map Aq:=by
 rw[Jf,Jf];simp[h0,h1]
def kdT (t:T) (i:Nat):T:=t.kids.getD i T0
@[simp] theorem qn (l:List T):(Ow l).kids=l:=by cases l<;>simp
theorem LZ {t:T} (h:FX t=true):t=T0:=by
 obtain⟨k,w,l⟩:=t;simp only[FX,Bool.and_eq_true,decide_eq_true_eq,List.isEmpty_iff,T.kind_mk,T.words_mk,T.kids_mk] at h;obtain⟨⟨h0,rfl⟩,rfl⟩:=h;obtain rfl:=of_decide_eq_true h0;rfl
theorem ig {e:E} (h:OD e=true):e=E0:=by
 obtain⟨k,o,n,ws,ks,l,os⟩:=e;simp only[OD,Bool.and_eq_true,decide_eq_true_eq,List.isEmpty_iff,E.kind_mk,E.old_mk,E.new_mk,E.words_mk,E.kids_mk,E.list_mk,E.ops_mk] at h;obtain⟨⟨⟨⟨h0,h1⟩,h2⟩,⟨rfl,rfl⟩,rfl⟩,h3⟩:=h;obtain rfl:=of_decide_eq_true h0;obtain rfl:=of_decide_eq_true h3;rw[LZ h1,LZ h2]
theorem headOk_iff {d:Nat} {k:Int} {o n:T} {nw nk:Nat} {l:Int} {no:Nat}:Gg d k o n nw nk l no=true ↔ d ≠ 0∧0≤k∧k≤3∧(k ≠ 1→FX o=true∧FX n=true)∧(k ≠ 2→nw=0∧nk=0)∧(k ≠ 3→l=0∧no=0):=by
 unfold Gg;simp only[Bool.and_eq_true,Bool.not_eq_true',Bool.or_eq_false_iff,Bool.and_eq_false_iff,decide_eq_false_iff_not,Bool.not_eq_false',decide_eq_true_eq];constructor
 ·rintro⟨⟨⟨h1,h2⟩,h3⟩,⟨h4,h5⟩,h6⟩;refine⟨h1,by omega,by omega,fun hk=>?_,fun hk=>?_,fun hk=>?_⟩
  ·rcases h4 with h4 | h4
   ·exact absurd h4 hk
   ·exact h4
  ·rcases h5 with h5 | h5
   ·exact absurd h5 hk
   ·omega
  ·rcases h6 with h6 | h6
   ·exact absurd h6 hk
   ·exact⟨h6.1,by omega⟩
 ·rintro⟨h1,h2,h3,h4,h5,h6⟩;refine⟨⟨⟨h1,by omega⟩,by omega⟩,⟨?_,?_⟩,?_⟩
  ·by_cases hk:k=1
   ·exact .inl hk
   ·exact .inr (h4 hk)
  ·by_cases hk:k=2
   ·exact .inl hk
   ·exact .inr (by have:=h5 hk;omega)
  ·by_cases hk:k=3
   ·exact .inl hk
   ·exact .inr ⟨(h6 hk).1,by have:=h6 hk;omega⟩
structure pz (d:Nat) (k:Int) (o n:T) (ws:List WE) (ks:List KE) (l:Int) (os:List OP):Prop where
 d0:d ≠ 0
 k0:0≤k
 k3:k≤3
 one:k ≠ 1→o=T0∧n=T0
 two:k ≠ 2→ws=[]∧ks=[]
 three:k ≠ 3→l=0∧os=[]
 rep:k=1→Ay 64 o=true∧Ay 64 n=true∧o.kind ≠ 10∧n.kind ≠ 10
 wok:BT (-1) ws=true
 kok:CJ (d-1) (-1) ks=true
 lst:k=3→2≤l∧l≤9
 ook:CH (d-1) l os=true
 len:(Bh 0 0 os).1<1048576∧(Bh 0 0 os).2<1048576
theorem rightE_iff {d:Nat} {k:Int} {o n:T} {ws:List WE} {ks:List KE} {l:Int} {os:List OP}:Bp d (.mk k o n ws ks l os)=true ↔ pz d k o n ws ks l os:=by
 rw[Ib];constructor
 ·intro h;by_cases hh:Gg d k o n ws.length ks.length l os.length=true
  ·rw[if_neg (by rw[hh];simp)] at h;obtain⟨h1,h2,h3,h4,h5,h6⟩:=headOk_iff.1 hh;have g1:k ≠ 1→o=T0∧n=T0:=fun hk=>⟨LZ (h4 hk).1,LZ (h4 hk).2⟩;have g2:k ≠ 2→ws=[]∧ks=[]:=fun hk=>⟨List.length_eq_zero_iff.1 (h5 hk).1,List.length_eq_zero_iff.1 (h5 hk).2⟩;have g3:k ≠ 3→l=0∧os=[]:=fun hk=>⟨(h6 hk).1,List.length_eq_zero_iff.1 (h6 hk).2⟩;by_cases hk:k=1
   ·rw[if_pos hk] at h;simp at h;obtain⟨rfl,rfl⟩:=g2 (by omega);obtain⟨rfl,rfl⟩:=g3 (by omega);exact⟨h1,h2,h3,g1,g2,g3,fun _=>⟨h.1.1.1,h.1.1.2,h.1.2,h.2⟩,by simp[BT],by simp,fun e=>by omega,by simp,by simp[Bh]⟩
   ·rw[if_neg hk] at h;split at h
    ·cases h
    ·rename_i hw;split at h
     ·cases h
     ·rename_i hks;split at h
      ·cases h
      ·rename_i hl;split at h
       ·cases h
       ·rename_i ho;simp at h hw hks ho;exact⟨h1,h2,h3,g1,g2,g3,fun e=>absurd e hk,hw,hks,fun e=>by omega,ho,h⟩
  ·rw[if_pos (by simpa using hh)] at h;cases h
 ·intro h;have hh:Gg d k o n ws.length ks.length l os.length=true:=headOk_iff.2 ⟨h.d0,h.k0,h.k3,fun hk=>by rw[(h.one hk).1,(h.one hk).2];exact⟨rfl,rfl⟩,fun hk=>by rw[(h.two hk).1,(h.two hk).2];exact⟨rfl,rfl⟩,fun hk=>by rw[(h.three hk).1,(h.three hk).2];exact⟨rfl,rfl⟩⟩;rw[if_neg (by rw[hh];simp)];by_cases hk:k=1
  ·rw[if_pos hk];obtain⟨a,b,c,e⟩:=h.rep hk;simp[a,b,c,e]
  ·rw[if_neg hk,if_neg (by rw[h.wok];simp),if_neg (by rw[h.kok];simp),if_neg (by have:=h.lst;omega),if_neg (by rw[h.ook];simp)];simp[h.len]
inductive SmT:T→Prop
 |mk (k:Int) (w:List Int) (l:List T):l.length≤1048576→(∀ t,t ∈ l→SmT t)→SmT (.mk k w l)
theorem SmT.len {t:T} (h:SmT t):t.kids.length≤1048576:=by cases h;assumption
theorem SmT.kid {t:T} (h:SmT t):∀ c,c ∈ t.kids→SmT c:=by cases h;assumption
theorem uz:SmT T0:=.mk _ _ _ (Nat.zero_le _) (fun t h=>by cases h)
theorem SmT.kd {t:T} (h:SmT t) (i:Nat):SmT (kdT t i):=by
 unfold kdT;rw[List.getD_eq_getElem?_getD];cases e:t.kids[i]? with
 |none=>exact uz
 |some x=>exact h.kid x (List.mem_of_getElem? e)
end Go.PL
namespace Go.Proofs.YtgkdikddjfgajaaGreatDoor
open Go Go.G Go.Proofs Go.PL
theorem Xt {c n:Int} (h:EP n):G.Spec Tryz.prog 105 [iv c,uv n] (bv (YC c n)):=by
 refine Ap UE (by simp) fun w0 I0=>?_;unfold Oj;simp;refine Af (Xx c) rfl ?_;have hw:=Tq c;unfold YC;rcases hw with h1 | h1 | h1 | h1 | h1 | h1 | h1;all_goals
  rw[h1];simp;refine Ak ?_
 all_goals try rfl
 all_goals
  obtain⟨n0,n1⟩:=h;have hb:u64.bits=64:=rfl;simp[hb]
 all_goals omega
theorem IH (k:Int):G.Spec Tryz.prog 70 [iv k] (bv (decide (2≤k)&&decide (k≤9))):=by
 refine Ap Wm (by simp) fun w0 I0=>?_;unfold N6;simp;exact Ab rfl
def UX (list:Int) (t:T):Bool:=if DM list=true then decide (t.kind=10)&&t.kids.isEmpty&&decide (t.words.length=1)&&YC (list-2) (t.words.headD 0) else if list=9 then decide (t.kind=1) else !decide (t.kind=10)
theorem lB {list:Int} {t:T} {d:Nat} (h1:list ≠ 1):(UX list t&&Ay d t)=(Ay d t&&JJ list t):=by
 unfold UX JJ;cases hd:DM list with
 |true=>
  simp only[if_true];by_cases h10:t.kind=10
  ·have e:Ay d t=(decide (t.words.length=1)&&t.kids.isEmpty):=by
    obtain⟨k,w,l⟩:=t;simp at h10;subst h10;rw[EJ];rfl
   have n9:list ≠ 9:=fun e=>by subst e;simp[DM] at hd
   rw[e];simp[h10,n9];cases decide (t.words.length=1)<;>cases t.kids.isEmpty<;>simp
  ·simp[h10]
 |false=>
  simp;by_cases h9:list=9
  ·subst h9;simp;cases h:Ay d t<;>simp
   by_cases h1:t.kind=1<;>simp[h1]
  ·simp[h9];cases h:Ay d t<;>simp
theorem ZN (list:Int) (hl:Bm list) {t:T} (h:CG t):G.Spec Tryz.prog 71 [iv list,tX t] (bv (UX list t)):=by
 have hw:=wfT_iff.1 h;refine Ap Xa (by simp) fun w0 I0=>?_;unfold Pv;simp;refine Af (RR list) rfl ?_;cases hd:DM list with
 |false=>
  simp;by_cases h9:list=9
  ·simp[h9];refine Ak ?_;simp[UX,DM]
  ·simp[h9];refine Ak ?_;simp[UX,hd,h9]
 |true=>
  have hd':=hd;simp[DM] at hd';by_cases hc:t.kind=10∧t.kids=[]∧t.words.length=1
  ·obtain⟨c1,c2,c3⟩:=hc;obtain⟨x,hx⟩:∃ x,t.words=[x]:=List.length_eq_one_iff.1 c3;have hxr:EP x:=hw.w x (by rw[hx];simp);have e2:i64.wrap (list-2)=list-2:=Ih;simp[c1,c2,hx,e2];refine BK rfl (fun _=>Xt hxr) (fun _=>rfl) rfl ?_;simp;refine Ak ?_;simp[UX,hd,c1,c2,hx]
  ·have hp:UX list t=false:=by
    unfold UX;rw[if_pos hd];rw[Bool.eq_false_iff];intro e;simp at e;exact hc ⟨e.1.1.1,e.1.1.2,e.1.2⟩
   by_cases c1:t.kind=10
   ·by_cases c2:t.kids=[]
    ·have c3:¬ t.words.length=1:=fun e=>hc ⟨c1,c2,e⟩;have c3':¬ (t.words.length:Int)=1:=by omega
     simp[c1,c2,c3,c3'];refine AA rfl ?_;simp;rw[hp];exact Ab rfl
    ·have c2':¬ (t.kids.length:Int)=0:=fun e=>c2 (List.length_eq_zero_iff.1 (by omega));simp[c1,c2,c2'];refine AA rfl ?_;simp;rw[hp];exact Ab rfl
   ·simp[c1];refine AA rfl ?_;simp;rw[hp];exact Ab rfl
variable {n0:Nat} {w0:World} {I0:Nat→Prop} {Q:Exit→Sta→Prop}
theorem Sw {Q':Exit→Sta→Prop} {c:T} {d:Nat} {b:Bool} {u:Nat} {p x y z:A} {H:Hp} (hd:1≤d) (hd1:d≤1000) (ihc:G.Spec Tryz.prog 42 [tX c,iv (d-1:Nat)] (bv (Ay (d-1) c))) (hB:H [1]=⟨u,.cells (tL c)⟩)
  (h1:(b&&Ay (d-1) c)=true→Q' .normal ⟨lk [(1,iv d),(2,p),(71,x),(72,y),(73,z),(95,bv false)],H⟩) (h2:(b&&Ay (d-1) c)=false→Q' .ret ⟨lk [(4,bv false)],H⟩) :
  WPC (cx Tryz.prog w0 I0 n0) HP Q' ⟨lk [(1,iv d),(2,p),(6,.pob [1] u 0),(7,bv b),(71,x),(72,y),(73,z)],H⟩:=by
 rw[HP.eq_1];have ed:i64.wrap ((d:Int)-1)=((d-1:Nat):Int):=H9;cases b with
 |false=>
  simp;refine AA rfl ?_;simp;exact h2 rfl
 |true=>
  simp[hB,ed];refine Bz rfl (fun _=>ihc) (fun _=>rfl) rfl ?_;cases hr:Ay (d-1) c with
  |false=>simp;exact h2 (by simp[hr])
  |true=>simp;exact h1 (by simp[hr])
theorem bA {t:T} (hk:Bm t.kind) (hl:t.kids.length*56≤140737488355328) {d:Nat} (hd:1≤d) (hd1:d≤1000) (hw:∀ c,c ∈ t.kids→CG c) (ih:∀ c,c ∈ t.kids→∀ d:Nat,d≤1000→G.Spec Tryz.prog 42 [tX c,iv d] (bv (Ay d c))):∀ (m i:Nat) (H:Hp),i+m=t.kids.length→H [0]=⟨1,.cells (tL t)⟩ →
  (Gf (d-1) t.kind (t.kids.drop i)=true→∀ i' q H',Q (.exit 1) ⟨lk [(1,iv d),(2,.pob [0] 1 0),(71,DY t.kids),(72,iv t.kids.length),(73,iv i'),(74,bv q)],H'⟩)→(Gf (d-1) t.kind (t.kids.drop i)=false→∀ H',Q .ret ⟨lk [(4,bv false)],H'⟩) →
  LoopC (cx Tryz.prog w0 I0 n0) FI Q ⟨lk [(1,iv d),(2,.pob [0] 1 0),(71,DY t.kids),(72,iv t.kids.length),(73,iv i)],H⟩:=by
 intro m;induction m with
 |zero=>
  intro i H hi hA h1 h2;have:i=t.kids.length:=by omega
  subst this;refine Ad mixed FI.eq_1 ?_;simp;exact h1 (by simp) _ _ _
 |succ m ihm=>
  intro i H hi hA h1 h2;have hlt:i<t.kids.length:=by omega
  have e:t.kids.drop i=t.kids[i]::t.kids.drop (i+1):=List.drop_eq_getElem_cons hlt;have ei:=B0 i;rw[e,UJ] at h1 h2;have hwc:=hw _ (EI hlt);have ihc:=ih _ (EI hlt) (d-1) (by omega);generalize hc:t.kids[i]=c at *;refine Ad mixed FI.eq_1 ?_;simp[hA,hlt,hc,Aa];refine⟨fun h10=>?_,fun h10=>?_⟩
  ·have ek:JJ t.kind c = !decide (c.kind=10):=by
    unfold JJ;rw[h10];by_cases e:c.kind=10<;>simp[DM,e]
   try simp[hA,Aa,h10]
   refine Sw (c:=c) hd hd1 ihc (by simp[Aa]) (fun hr=>?_) (fun hr=>?_)
   ·simp[ei];refine ihm (i+1) _ (by omega) (by simp[Aa,hA]) (fun hh=>h1 ?_) (fun hh=>h2 ?_)
    ·rw[ek,hh];simpa using And.comm.1 (by simpa using hr)
    ·rw[hh];simp
   ·simp;refine h2 ?_ _;rw[ek];have:(Ay (d-1) c&&!decide (c.kind=10))=false:=by rw[Bool.and_comm];simpa using hr
    rw[this];rfl
  ·have ek:=lB (t:=c) (d:=d-1) h10;simp[hA,Aa,h10];refine Af (ZN t.kind hk hwc) rfl ?_;simp;refine Sw (c:=c) hd hd1 ihc (by simp[Aa]) (fun hr=>?_) (fun hr=>?_)
   ·simp[ei];rw[ek] at hr;refine ihm (i+1) _ (by omega) (by simp[Aa,hA]) (fun hh=>h1 ?_) (fun hh=>h2 ?_)
    ·rw[hr,hh];rfl
    ·rw[hh];simp
   ·simp;refine h2 ?_ _;rw[ek] at hr;rw[hr];rfl
theorem V7:∀ (t:T),CG t→∀ d:Nat,d≤1000→G.Spec Tryz.prog 42 [tX t,iv d] (bv (Ay d t)):=by
 refine T.ind fun k w l ih hw d hd=>?_;have hw':=wfT_iff.1 hw;have hwl:=hw'.wl;have hkl:=hw'.kl;have hk:=hw'.k;simp at hwl hkl hk;refine Ap T9 (by simp) fun w0 I0=>?_;unfold My;rw[EJ];by_cases h0:k=0
 ·simp[h0];exact Ak (by cases w<;>cases l<;>simp<;>(rw[← List.length_eq_zero_iff];omega))
 by_cases h10:k=10
 ·simp[h10];exact Ak (by cases w<;>cases l<;>simp<;>(rw[← List.length_eq_zero_iff];omega))
 rw[if_neg h0,if_neg h10];obtain⟨R,hR⟩:∃ R,R=(if FD k d w.length l.length=true then false else Gf (d-1) k l):=⟨_,rfl⟩;rw[← hR];have bad:FD k d w.length l.length=true→R=false:=fun h=>by rw[hR,if_pos h]
 by_cases hd0:d=0
 ·subst hd0;simp[h0,h10];exact Ak (bad (by simp[FD])).symm
 have fin:FD k d w.length l.length=false→WPC (cx Tryz.prog w0 I0 97) HL (Rx Tryz.prog [.tmp 4] (bv R)) ⟨lk [(1,iv d),(2,.pob [0] 1 0)],Dj [([0],⟨1,.cells [iv k,Gn w,DY l]⟩)]⟩:=fun hb=>by
  rw[if_neg (by rw[hb];simp)] at hR;subst hR;rw[HL.eq_1];simp;refine bA (t:=.mk k w l) (by simpa using hk) (by simpa using hkl) (by omega) hd (fun c hc=>hw'.ks c hc) (fun c hc=>ih c hc (hw'.ks c hc)) l.length 0 _ (by simp) (by simp) (fun hr i' q H'=>?_) (fun hr H'=>?_)
  ·simp;exact Ak (by simpa using hr.symm)
  ·simp;exact Ak (by simpa using hr.symm)
 by_cases h1:k=1
 ·subst h1;by_cases hb:65536≤w.length∨65536≤l.length
  ·have hb':(decide (65536≤(w.length:Int)) || decide (65536≤(l.length:Int)))=true:=by simp;omega
   simp[hd0,hb'];exact Ak (bad (by simp[FD];omega)).symm
  ·have hb':(decide (65536≤(w.length:Int)) || decide (65536≤(l.length:Int)))=false:=by simp;omega
   simp[hd0,hb'];exact fin (by simp[FD];omega)
 ·simp[h0,h10,h1,hd0];refine Af (IH k) rfl ?_;simp;refine⟨fun hc=>?_,fun a b c e=>?_⟩
  ·exact Ak (bad (by simp[FD];omega)).symm
  ·refine fin ?_;rw[Bool.eq_false_iff];unfold FD;simp only[Bool.or_eq_true,Bool.and_eq_true,decide_eq_true_eq,ne_eq];have hl0:w.length=0:=by first | omega | simp[c]
   omega
theorem E8 {t:T} (h:CG t):G.Spec Tryz.prog 22 [tX t] (bv (Ay 64 t)):=by
 refine Ap TG (by simp) fun w0 I0=>?_;unfold MQ;simp;refine Af (V7 t h 64 (by omega)) (by simp) ?_;simp;exact Ab rfl
abbrev z0:List A:=[iv 0,.sl true [],.sl true []]
theorem Td {a b:List T} (hl:a.length=b.length):a.map Aq=b.map Aq ↔ ∀ i,Aq (a.getD i T0)=Aq (b.getD i T0):=by
 constructor
 ·intro h i;rw[← GP,h,GP]
 ·intro h;apply List.ext_getElem (by simpa using hl);intro i h1 h2;have:=h i;simp at h1 h2;simpa[List.getD_eq_getElem?_getD,h1,h2] using this
theorem pH {a b:List Int} (hl:a.length=b.length) (hb:a.length*8≤140737488355328) {H:Hp}:∀ (m i:Nat),i+m=a.length→a.take i=b.take i→(a=b→∀ q,Q (.exit 0) ⟨lk [(0,Gn a),(1,Gn b),(12,iv a.length),(13,iv a.length),(14,bv q)],H⟩)→(a ≠ b→Q .ret ⟨lk [(4,bv false)],H⟩) →
  LoopC (cx Tryz.prog w0 I0 n0) Bs Q ⟨lk [(0,Gn a),(1,Gn b),(12,iv a.length),(13,iv i)],H⟩:=by
 intro m;induction m with
 |zero=>
  intro i hi ht h1 h2;have:i=a.length:=by omega
  subst this;rw[DE (CE _),DE (by omega)] at ht;refine Ad mixed Bs.eq_1 ?_;simp;exact h1 ht _
 |succ m ih=>
  intro i hi ht h1 h2;have hlt:i<a.length:=by omega
  have hlt':i<b.length:=by omega
  have ei:=B0 i;refine Ad mixed Bs.eq_1 ?_;by_cases e:a[i]=b[i]
  ·simp[hlt,hlt',e,ei];refine ih (i+1) (by omega) ?_ h1 h2;rw[LW hlt,LW hlt',ht,e]
  ·simp[hlt,hlt',e];exact h2 fun q=>e (by simp[q])
theorem Wb (a b:List Int) (hb:a.length*8≤140737488355328):G.Spec Tryz.prog 215 [Gn a,Gn b] (bv (decide (a=b))):=by
 refine Ap Gj (by simp) fun w0 I0=>?_;unfold DD;by_cases hl:a.length=b.length
 ·simp[hl];have:=pH (n0:=26) (w0:=w0) (I0:=I0) (a:=a) (b:=b) (H:=Dj []) (Q:=DN 0 (Hk (WPC (cx Tryz.prog w0 I0 26) (.keep [] (.seq (.reg [co (some 4) (.assign (.const (.bool true))) none] [4]) .ret)) (Rx Tryz.prog [.tmp 4] (bv (decide (a=b))))) (Rx Tryz.prog [.tmp 4] (bv (decide (a=b)))))) hl hb a.length 0 (by simp) rfl (fun e q=>?_) (fun e=>?_)
  ·rw[hl] at this;simpa using this
  ·simp;exact Ak (by simp[e])
  ·simp;exact Ak (by simp[e])
 ·have hl':¬ (a.length:Int)=b.length:=by omega
  simp[hl,hl'];exact Ak (by simp;intro e;exact absurd (by rw[e]) hl)
theorem fU {t u:T} (h:t.kind ≠ u.kind∨t.kind=0):ca t u=decide (t.kind=u.kind):=by
 rw[Bool.eq_iff_iff,eqT_iff,decide_eq_true_eq];constructor
 ·intro e;rw[← GQ t,e,GQ]
 ·intro e;rcases h with h | h
  ·exact absurd e h
  ·rw[IY h,IY (by omega)]
theorem N2 {t u:T} (h:t.kind ≠ u.kind∨t.kind=0):G.Spec Tryz.prog 176 [tX t,tX u] (bv (ca t u)):=by
 refine Ap MS (by simp) fun w0 I0=>?_;unfold IA;rw[fU h];by_cases e:t.kind=u.kind
 ·have h0:u.kind=0:=by omega
  simp[e,h0];exact Ab rfl
 ·simp[e];exact Ak (by simp[e])
theorem ZW {t u:T} {n:Nat} (hN:n≤100000000000000) {H:Hp} (h0:H [0]=⟨1,.cells (tL t)⟩) (h1:H [1]=⟨1,.cells (tL u)⟩)
  (hq:(∀ i,i<n→t.words.getD i 0=u.words.getD i 0)→∀ (q:Bool),Q (.exit 0) ⟨lk [(2,.pob [0] 1 0),(3,.pob [1] 1 0),(48,iv n),(49,iv n),(50,bv q)],H⟩)
  (hf:(∃ i,t.words.getD i 0 ≠ u.words.getD i 0)→Q .ret ⟨lk [(4,bv false)],H⟩) :
  ∀ (j i:Nat),i+j=n→(∀ i',i'<i→t.words.getD i' 0=u.words.getD i' 0) →
  LoopC (cx Tryz.prog w0 I0 n0) FN Q ⟨lk [(2,.pob [0] 1 0),(3,.pob [1] 1 0),(48,iv n),(49,iv i)],H⟩:=by
 intro j;induction j with
 |zero=>
  intro i hi he;have:i=n:=by omega
  subst this;refine Ad mixed FN.eq_1 ?_;simp;exact hq he _
 |succ j ih=>
  intro i hi he;have hlt:i<n:=by omega
  have ei:=B0 i;refine Ad mixed FN.eq_1 ?_;simp[hlt,h0,h1];refine Af (HS t i) (by simp) ?_;simp[h0,h1];refine Af (HS u i) (by simp) ?_;by_cases hw:t.words.getD i 0=u.words.getD i 0
  ·have hw':=hw;simp only[List.getD_eq_getElem?_getD] at hw';simp[hw',ei];refine ih (i+1) (by omega) (fun i' hi'=>?_);by_cases e:i'=i
   ·rw[e];exact hw
   ·exact he i' (by omega)
  ·have hw':=hw;simp only[List.getD_eq_getElem?_getD] at hw';simp[hw'];exact hf ⟨i,hw⟩
theorem Ic {α:Type} {l:List α} {i:Nat} {z:α} (h:l.length≤i):l.getD i z=z:=by rw[List.getD_eq_getElem?_getD,List.getElem?_eq_none h];rfl
theorem dP {t:T} (hl:t.kids.length*56≤140737488355328) (ih:∀ c,c ∈ t.kids→G.Spec Tryz.prog 23 [tX c] (tX (Aq c))) {v v0:VOb} {k w:A}:∀ (m i:Nat) (u:Nat) (H:Hp),i+m=t.kids.length→H [0]=v0→H [1]=v→H [2]=⟨1,.cells [k,w,.osl [4] u 3 0 i]⟩→H [4]=⟨u,.arr 3 ((t.kids.take i).map (tA ∘ Aq))⟩ →
  (∀ i' q (u':Nat) (H':Hp),H' [0]=v0→H' [1]=v→H' [2]=⟨1,.cells [k,w,.osl [4] u' 3 0 t.kids.length]⟩→H' [4]=⟨u',.arr 3 (t.kids.map (tA ∘ Aq))⟩→Q (.exit 0) ⟨lk [(1,.pob [0] 1 0),(2,.pob [1] 1 0),(3,.pob [2] 1 0),(17,DY t.kids),(18,iv t.kids.length),(19,iv i'),(20,bv q)],H'⟩) →
  LoopC (cx Tryz.prog w0 I0 n0) GI Q ⟨lk [(1,.pob [0] 1 0),(2,.pob [1] 1 0),(3,.pob [2] 1 0),(17,DY t.kids),(18,iv t.kids.length),(19,iv i)],H⟩:=by
 intro m;induction m with
 |zero=>
  intro i u H hi hA hR hO hB hq;have:i=t.kids.length:=by omega
  subst this;refine Ad mixed GI.eq_1 ?_;simp;exact hq _ _ u H hA hR hO (by rw[hB];simp)
 |succ m ihm=>
  intro i u H hi hA hR hO hB hq;have hlt:i<t.kids.length:=by omega
  have ei:=B0 i;refine Ad mixed GI.eq_1 ?_;simp[hlt,Aa,hO];refine Af (ih _ (EI hlt)) rfl ?_;simp[Aa,hO,hB];have hrow:=fQ (f:=tA ∘ Aq) hlt (x:=tX (Aq t.kids[i])) (by simp);rw[hrow,ei];refine⟨⟨by omega,by omega⟩,?_⟩;exact ihm (i+1) (u+1) _ (by omega) (by simp[Aa,hA]) (by simp[Aa,hR]) (by simp[Aa]) (by simp[Aa]) hq
theorem fE {w:List Int} (hl:w.length*8≤140737488355328) {v v4:VOb} {K:A}:∀ (n:Nat) (H:Hp),n≤w.length→Gq (w.take n)=Gq w→H [1]=v→H [2]=⟨1,.cells [iv 1,Gn (w.take n),K]⟩→H [4]=v4 →
  (∀ q (H':Hp),H' [1]=v→H' [2]=⟨1,.cells [iv 1,Gn (Gq w),K]⟩→H' [4]=v4→Q (.exit 2) ⟨lk [(2,.pob [1] 1 0),(3,.pob [2] 1 0),(48,bv q)],H'⟩) →
  LoopC (cx Tryz.prog w0 I0 n0) Gz Q ⟨lk [(2,.pob [1] 1 0),(3,.pob [2] 1 0)],H⟩:=by
 intro n;induction n with
 |zero=>
  intro H hn ht hR hO hB hq;refine Ad mixed Gz.eq_1 ?_;simp[hO];refine hq _ H hR ?_ hB;rw[← ht];simpa using hO
 |succ n ihn=>
  intro H hn ht hR hO hB hq;have hlt:n<w.length:=by omega
  have en:i64.wrap (n:Int)=n:=Ih;have emin:min (n+1) w.length=n+1:=by omega
  refine Ad mixed Gz.eq_1 ?_;by_cases h0:w[n]=0
  ·have hnn:(n:Int)<n+1:=by omega
   have hnn':(n:Int)≤n+1:=by omega
   have hs:List.take n (List.take (n+1) (List.map uv w))=(w.take n).map uv:=by rw[List.take_take,Nat.min_eq_left (by omega),List.map_take]
   simp[hO,emin,en,hlt,h0,hnn,hnn',hs];exact ihn _ (by omega) (by rw[← Xq hlt h0];exact ht) (by simp[Aa,hR]) (by simp[Aa]) (by simp[Aa,hB]) hq
  ·have hnn:(n:Int)<n+1:=by omega
   simp[hO,emin,en,hlt,h0,hnn];refine hq _ H hR ?_ hB;rw[hO,← ht,XM hlt h0]
theorem eW {l:List T} (hl:l.length*56≤140737488355328) {v:VOb} {W:A} {u:Nat}:∀ (n:Nat) (H:Hp),n≤l.length→DC (l.take n)=DC l→H [1]=v→H [2]=⟨1,.cells [iv 1,W,.osl [4] u 3 0 n]⟩→H [4]=⟨u,.arr 3 (l.map (tA ∘ Aq))⟩ →
  (∀ q (H':Hp),H' [1]=v→H' [2]=⟨1,.cells [iv 1,W,.osl [4] u 3 0 (DC l).length]⟩→H' [4]=⟨u,.arr 3 (l.map (tA ∘ Aq))⟩→Q (.exit 4) ⟨lk [(2,.pob [1] 1 0),(3,.pob [2] 1 0),(72,bv q)],H'⟩) →
  LoopC (cx Tryz.prog w0 I0 n0) GD Q ⟨lk [(2,.pob [1] 1 0),(3,.pob [2] 1 0)],H⟩:=by
 intro n;induction n with
 |zero=>
  intro H hn ht hR hO hB hq;refine Ad mixed GD.eq_1 ?_;simp[hO];refine hq _ H hR ?_ hB;rw[← ht];simpa using hO
 |succ n ihn=>
  intro H hn ht hR hO hB hq;have hlt:n<l.length:=by omega
  have en:i64.wrap (n:Int)=n:=Ih;have hnn:(n:Int)<n+1:=by omega
  have hnn':(n:Int)≤n+1:=by omega
  refine Ad mixed GD.eq_1 ?_;by_cases h0:l[n].kind=0
  ·simp[hO,hB,en,hlt,h0,hnn,hnn'];exact ihn _ (by omega) (by rw[← WQ hlt h0];exact ht) (by simp[Aa,hR]) (by simp[Aa]) (by simp[Aa,hB]) hq
  ·simp[hO,hB,en,hlt,h0,hnn];refine hq _ H hR ?_ hB;rw[hO,← ht,Xl hlt h0];simp;omega
theorem Hj:∀ (t:T),CG t→G.Spec Tryz.prog 23 [tX t] (tX (Aq t)):=by
 refine T.ind fun k w l ih hw=>?_;have hw':=wfT_iff.1 hw;have hwl:=hw'.wl;have hkl:=hw'.kl;simp at hwl hkl;refine Ap UL (by simp) fun w0 I0=>?_;unfold Oc;rw[Jf];by_cases h0:k=0
 ·simp[h0];exact Ui
 ·simp[h0];refine Af (Xp false w hwl).spec rfl ?_;simp;refine LoopC.le (CZ (d:=[2]) 2 [4] 3 rfl rfl (by simp)) ?_;simp;refine dP (t:=.mk k w l) (k:=iv k) (w:=Gn w) (by simpa using hkl) (fun c hc=>ih c hc (hw'.ks c hc)) l.length 0 1 _ (by simp) rfl rfl (by simp) (by simp) fun i' q u' H' hA hR hO hB=>?_;by_cases h1:k=1
  ·subst h1;simp at hA hR hO hB;simp[hA,hR,hO,hB];refine LoopC.le (Be [(2,.pob [1] 1 0),(3,.pob [2] 1 0)] (by simp)) ?_;refine fE hwl w.length _ (CE _) (by rw[DE (CE _)]) hR (by rw[hO,DE (CE _)]) hB fun q H2 hR2 hO2 hB2=>?_;simp;refine eW hkl l.length _ (CE _) (by rw[DE (CE _)]) hR2 hO2 hB2 fun q H3 hR3 hO3 hB3=>?_;simp[hO3,hR3,Aa];refine CK ?_;simp;rw[Z3];refine⟨Ab rfl,Ab rfl,?_⟩;have:=iM (H:=Ar H3 [1] ⟨1,.cells [iv 1,Gn (Gq w),A.osl [4] u' 3 0 (DC l).length]⟩) (o:=[4]) (u:=u') (sz:=3) (l:=l) (f:=tA ∘ Aq) (by simp[Aa,hB3]) (Wq l) (by simp);rw[← List.map_take];show Jw _ _ (A.sl false (((l.take (DC l).length).map Aq).map tA));rw[List.map_map];exact this
  ·simp at hA hR hO hB;simp[hA,hR,hO,hB,h1,Aa];refine CK ?_;simp;refine⟨Ab rfl,Ab rfl,?_⟩;have:=DT (H:=Ar H' [1] ⟨1,.cells [iv k,Gn w,A.osl [4] u' 3 0 l.length]⟩) (o:=[4]) (u:=u') (sz:=3) (l:=l) (f:=tA ∘ Aq) (by simp[Aa,hB]) rfl (by simp);show Jw _ _ (A.sl false ((l.map Aq).map tA));rw[List.map_map];exact this
theorem IJ:∀ (m:Nat) (x:Int) (i:Nat),i<m→(El m x).getD i 0=x / 256 ^ i % 256
 |m+1,x,0,_=>by simp[El]
 |m+1,x,i+1,h=>by
  have:=IJ m (x / 256) i (by omega);simp only[El,List.getD_cons_succ,this];rw[Int.ediv_ediv_of_nonneg (by decide),← Int.pow_succ']
theorem VI:∀ (l:List Int),(∀ b,b ∈ l→0≤b∧b<256)→(cy l=0 ↔ ∀ b,b ∈ l→b=0)
 |[],_=>by simp[cy]
 |b::l,h=>by
  have h1:=h b (by simp);have h2:=Nq l fun x hx=>h x (by simp[hx]);have ih:=VI l fun x hx=>h x (by simp[hx]);simp only[cy,List.mem_cons,forall_eq_or_imp,← ih];omega
theorem Vg (w mask:Int):decide (LJ w 0 mask=0)=Ey w mask:=by
 rw[Bool.eq_iff_iff];unfold LJ;rw[decide_eq_true_eq,VI _ Q1];have e:UM (Dv w) (Dv 0) mask 8=(List.range 8).map fun i=>if Fe mask i=true then (Dv 0).getD i 0 else (Dv w).getD i 0:=by
  unfold UM;rw[List.drop_of_length_le (by rw[HR];omega),List.append_nil]
 rw[e];simp only[Ey,List.all_eq_true,List.mem_map,List.mem_range,Bool.or_eq_true,decide_eq_true_eq];have hz:∀ i,i<8→(Dv 0).getD i 0=0:=fun i hi=>by
  unfold Dv;rw[IJ 8 0 i hi];simp
 constructor
 ·intro h i hi;by_cases hn:Fe mask i=true
  ·left;simpa[Fe] using hn
  ·right;have:=h _ ⟨i,hi,rfl⟩;rw[if_neg hn] at this;unfold Dv at this
   rwa [IJ 8 w i hi] at this
 ·rintro h b ⟨i,hi,rfl⟩;by_cases hn:Fe mask i=true
  ·rw[if_pos hn];exact hz i hi
  ·rw[if_neg hn];rcases h i hi with h | h
   ·exact absurd (by simpa[Fe] using h) hn
   ·unfold Dv;rw[IJ 8 w i hi];exact h
theorem SJ {n:Int} (h:0≤n):0≤LM n∧LM n≤1048576:=by unfold LM;split<;>omega
end Go.Proofs.YtgkdikddjfgajaaGreatDoor
namespace Go.PL
def UA (ws:List WE):Prop:=∀ w,w ∈ ws→0≤w.mask∧w.mask<256
end Go.PL
namespace Go.Proofs.YtgkdikddjfgajaaGreatDoor
open Go Go.G Go.Proofs Go.PL
variable {n0:Nat} {w0:World} {I0:Nat→Prop} {Q:Exit→Sta→Prop}
theorem xE {d:Nat} {list:Int} {o:OP} (h:Fa d list o=true):0≤o.n∧o.n≤1048576:=by
 rw[GS,Bool.and_eq_true] at h;have h1:=h.1;unfold Lo at h1;split at h1
 ·simp at h1;omega
 ·split at h1
  ·cases h1
  ·omega
def Ts:Nat→Nat→Nat→Nat→Nat
 |0,_,_,_=>0
 |k+1,a,b,m=>(if m % 2=1 then b % 256 else a % 256)+256*Ts k (a / 256) (b / 256) (m / 2)
def CD:Nat→Nat→Nat
 |0,_=>0
 |k+1,m=>(if m % 2=1 then 255 else 0)+256*CD k (m / 2)
theorem PB:∀ k m,CD k m<256 ^ k
 |0,m=>by simp[CD]
 |k+1,m=>by
  have:=PB k (m / 2);simp only[CD,Nat.pow_succ];split<;>omega
theorem Sr:∀ k a b m,a<256 ^ k→b<256 ^ k→(a &&& (256 ^ k-1-CD k m)) ||| (b &&& CD k m)=Ts k a b m
 |0,a,b,m,ha,hb=>by
  simp at ha hb;subst ha hb;simp[Ts,CD]
 |k+1,a,b,m,ha,hb=>by
  have hw:=PB k (m / 2);rw[Nat.pow_succ] at ha hb;have ih:=Sr k (a / 256) (b / 256) (m / 2) (by omega) (by omega);have p0:0<256 ^ k:=Nat.pow_pos (by decide);generalize hx:(a &&& (256 ^ (k+1)-1-CD (k+1) m)) ||| (b &&& CD (k+1) m)=x;have d1:CD (k+1) m / 256=CD k (m / 2):=by simp only[CD];split<;>omega
  have d2:(256 ^ (k+1)-1-CD (k+1) m) / 256=256 ^ k-1-CD k (m / 2):=by simp only[CD,Nat.pow_succ];split<;>omega
  have m1:CD (k+1) m % 256=if m % 2=1 then 255 else 0:=by simp only[CD];split<;>omega
  have m2:(256 ^ (k+1)-1-CD (k+1) m) % 256=if m % 2=1 then 0 else 255:=by simp only[CD,Nat.pow_succ];split<;>omega
  have e1:x / 256=Ts k (a / 256) (b / 256) (m / 2):=by
   have q1:=@Nat.or_div_two_pow (a &&& (256 ^ (k+1)-1-CD (k+1) m)) (b &&& CD (k+1) m) 8;have q2:=@Nat.and_div_two_pow a (256 ^ (k+1)-1-CD (k+1) m) 8;have q3:=@Nat.and_div_two_pow b (CD (k+1) m) 8;have c:(2:Nat) ^ 8=256:=rfl;rw[q2,q3,c,d1,d2,hx] at q1;rw[q1,ih]
  have e2:x % 256=if m % 2=1 then b % 256 else a % 256:=by
   have h:x % 2 ^ 8=(a % 2 ^ 8 &&& (256 ^ (k+1)-1-CD (k+1) m) % 2 ^ 8) ||| (b % 2 ^ 8 &&& CD (k+1) m % 2 ^ 8):=by
    rw[← hx,Nat.or_mod_two_pow,Nat.and_mod_two_pow,Nat.and_mod_two_pow]
   have c:(2:Nat) ^ 8=256:=rfl;rw[c,m1,m2] at h;rw[h];have h255:(255:Nat)=2 ^ 8-1:=rfl;split
   ·rw[h255,Nat.and_two_pow_sub_one_eq_mod];simp
   ·rw[h255,Nat.and_two_pow_sub_one_eq_mod];simp
  simp only[Ts];omega
theorem U5:∀ (k:Nat) (a b mask:Int),0≤a→0≤b→0≤mask→cy ((List.range k).map fun i=>if Fe mask i=true then (El k b).getD i 0 else (El k a).getD i 0)=(Ts k a.toNat b.toNat mask.toNat:Nat)
 |0,a,b,mask,_,_,_=>by simp[cy,Ts]
 |k+1,a,b,mask,ha,hb,hm=>by
  have ih:=U5 k (a / 256) (b / 256) (mask / 2) (by omega) (by omega) (by omega);have e1:(a / 256).toNat=a.toNat / 256:=by omega
  have e2:(b / 256).toNat=b.toNat / 256:=by omega
  have e3:(mask / 2).toNat=mask.toNat / 2:=by omega
  rw[e1,e2,e3] at ih;rw[List.range_succ_eq_map,List.map_cons,List.map_map,cy];have h:(List.range k).map ((fun i=>if Fe mask i=true then (El (k+1) b).getD i 0 else (El (k+1) a).getD i 0) ∘ Nat.succ)=(List.range k).map fun i=>if Fe (mask / 2) i=true then (El k (b / 256)).getD i 0 else (El k (a / 256)).getD i 0:=by
   refine List.map_congr_left fun i _=>?_;have hn:Fe mask (i+1)=Fe (mask / 2) i:=by
    unfold Fe;have:mask / 2 ^ (i+1)=mask / 2 / 2 ^ i:=by
     rw[Int.ediv_ediv_of_nonneg (by decide),Int.pow_succ,Int.mul_comm]
    rw[this]
   simp[El,hn]
  rw[h,ih];have h0:(Fe mask 0=true)=(mask.toNat % 2=1):=by
   simp[Fe];omega
  simp only[h0,Ts,El,List.getD_cons_zero];split<;>omega
theorem eJ {a b mask:Int} (ha:EP a) (hb:EP b) (h0:0≤mask):LJ a b mask=(Ts 8 a.toNat b.toNat mask.toNat:Nat):=by
 rw[← U5 8 a b mask ha.1 hb.1 h0];unfold LJ UM Dv;rw[List.drop_eq_nil_of_le (by simp),List.append_nil]
def wS (mask:Int):Nat→Int
 |0=>0
 |i+1=>if bits .and .u8 (mask / 2 ^ min i 8) 1=1 then bits .or .u64 (wS mask i) (u64.wrap (255*2 ^ min (8*i) 64)) else wS mask i
theorem qJ:∀ m:Nat,m<256→wS m 8=(CD 8 m:Nat):=by decide +kernel
theorem ZH {mask:Int} (hq:∀ q,Q (.exit 0) ⟨lk [(0,u8 mask),(3,uv (wS mask 8)),(5,iv 8),(6,bv q)],Dj []⟩) :
  ∀ (j i:Nat),i+j=8→LoopC (cx Tryz.prog w0 I0 n0) Gx Q ⟨lk [(0,u8 mask),(3,uv (wS mask i)),(5,iv i)],Dj []⟩:=by
 intro j;induction j with
 |zero=>
  intro i hi;have:i=8:=by omega
  subst this;refine Ad mixed Gx.eq_1 ?_;simp;exact hq _
 |succ j ih=>
  intro i hi;refine Ad mixed Gx.eq_1 ?_;have hlt:i<8:=by omega
  have hlt2:(i:Int)<8:=by omega
  have e8:i64.wrap (8*(i:Int))=((8*i:Nat):Int):=(JE (by omega) (by omega)).trans (by omega);have ei:=B0 i;have b8:IntKind.u8.bits=8:=rfl;have b64:u64.bits=64:=rfl;have hs:=ih (i+1) (by omega);rw[wS] at hs;have e9:(8*(i:Int)).toNat=8*i:=by omega
  simp[hlt,hlt2,e8,ei,b8,b64,e9];refine⟨fun hc=>⟨by omega,?_⟩,fun hc=>?_⟩
  ·rw[if_pos hc] at hs;exact hs
  ·rw[if_neg hc] at hs;exact hs
theorem Qs {mask:Int} (h0:0≤mask) (h1:mask<256):G.Spec Tryz.prog 210 [u8 mask] (uv (CD 8 mask.toNat:Nat)):=by
 refine Ap Ux (by simp) fun w0 I0=>?_;unfold Oq;simp;obtain⟨m,rfl⟩:=Int.eq_ofNat_of_zero_le h0;refine ZH (fun q=>?_) 8 0 rfl;simp;rw[qJ m (by omega)];exact Ab rfl
theorem NS {x:Nat} (h:x<2 ^ 64):(BitVec.ofInt 64 (x:Int)).toNat=x:=by
 rw[BitVec.toNat_ofInt];omega
theorem qi {x y:Nat} (hx:x<2 ^ 64) (hy:y<2 ^ 64):bits .and .u64 x y=(x &&& y:Nat):=by
 have h:=Nat.lt_of_le_of_lt (Nat.and_le_left (n:=x) (m:=y)) hx;show u64.wrap ((BitVec.ofInt 64 x &&& BitVec.ofInt 64 y).toNat:Nat)=_;rw[BitVec.toNat_and,NS hx,NS hy];exact Cr (by omega) (by omega)
theorem wu {x y:Nat} (hx:x<2 ^ 64) (hy:y<2 ^ 64):bits .or .u64 x y=(x ||| y:Nat):=by
 have h:=Nat.or_lt_two_pow hx hy;show u64.wrap ((BitVec.ofInt 64 x ||| BitVec.ofInt 64 y).toNat:Nat)=_;rw[BitVec.toNat_or,NS hx,NS hy];exact Cr (by omega) (by omega)
theorem kq {x y:Nat} (hx:x<2 ^ 64) (hy:y<2 ^ 64):bits .andNot .u64 x y=(x &&& (256 ^ 8-1-y):Nat):=by
 have h:=Nat.lt_of_le_of_lt (Nat.and_le_left (n:=x) (m:=256 ^ 8-1-y)) hx;show u64.wrap ((BitVec.ofInt 64 x &&& ~~~ BitVec.ofInt 64 y).toNat:Nat)=_;rw[BitVec.toNat_and,BitVec.toNat_not,NS hx,NS hy];have e:(2:Nat) ^ 64-1-y=256 ^ 8-1-y:=rfl;rw[e];exact Cr (by omega) (by omega)
theorem Ku {a b mask:Int} (ha:EP a) (hb:EP b) (h0:0≤mask) (h1:mask<256):G.Spec Tryz.prog 173 [uv a,uv b,u8 mask] (uv (LJ a b mask)):=by
 refine Ap Ym (by simp) fun w0 I0=>?_;unfold QN;simp;refine Af (Qs h0 h1) (by simp) ?_;simp;refine Af (Qs h0 h1) (by simp) ?_;simp;refine Mw ?_;rw[eJ ha hb h0];obtain⟨x,rfl⟩:=Int.eq_ofNat_of_zero_le ha.1;obtain⟨y,rfl⟩:=Int.eq_ofNat_of_zero_le hb.1;have hx:x<2 ^ 64:=by have:=ha.2;omega
 have hy:y<2 ^ 64:=by have:=hb.2;omega
 have hw:CD 8 mask.toNat<2 ^ 64:=PB 8 _;rw[kq hx hw,qi hy hw,wu (Nat.lt_of_le_of_lt Nat.and_le_left hx) (Nat.lt_of_le_of_lt Nat.and_le_left hy)];have:=Sr 8 x y mask.toNat hx hy;simp only[Int.toNat_natCast];rw[← this]
theorem P0 {t:T} (h:CG t):G.Spec Tryz.prog 172 [tX t] (bv (FX t)):=by
 have hw:=(wfT_iff.1 h).wl;have hk:=(wfT_iff.1 h).kl;refine Ap RD (by simp) fun w0 I0=>?_;unfold K4;simp;have e:i64.wrap ((t.words.length:Int)+t.kids.length)=(t.words.length:Int)+t.kids.length:=Ih;simp[e];refine Ak ?_;rw[Bool.eq_iff_iff];simp[FX,List.isEmpty_iff,← List.length_eq_zero_iff];omega
def L4 (k:Int) (o n:T) (nw nk:Nat) (l:Int) (no:Nat):Bool:=!(!decide (k=1)&&!(FX o&&FX n))&&!(!decide (k=2)&&decide (0<nw+nk))&&(decide (k=3) || decide (l=0)&&decide (no=0))
def Y2 (e:E):Bool:=L4 e.kind e.old e.new e.words.length e.kids.length e.list e.ops.length
theorem OO {d:Nat} {k:Int} {o n:T} {nw nk:Nat} {l:Int} {no:Nat}:Gg d k o n nw nk l no=(!(decide (d=0) || decide (k<0) || decide (k > 3))&&L4 k o n nw nk l no):=by
 rw[Bool.eq_iff_iff,headOk_iff];unfold L4;simp only[Bool.and_eq_true,Bool.not_eq_true',Bool.or_eq_false_iff,Bool.or_eq_true,Bool.and_eq_false_iff,decide_eq_false_iff_not,Bool.not_eq_false',decide_eq_true_eq];constructor
 ·rintro⟨h1,h2,h3,h4,h5,h6⟩;refine⟨⟨⟨h1,by omega⟩,by omega⟩,⟨?_,?_⟩,?_⟩
  ·by_cases hk:k=1
   ·exact .inl hk
   ·exact .inr (h4 hk)
  ·by_cases hk:k=2
   ·exact .inl hk
   ·exact .inr (by have:=h5 hk;omega)
  ·by_cases hk:k=3
   ·exact .inl hk
   ·exact .inr (h6 hk)
 ·rintro⟨⟨⟨h1,h2⟩,h3⟩,⟨h4,h5⟩,h6⟩;refine⟨h1,by omega,by omega,fun hk=>?_,fun hk=>?_,fun hk=>?_⟩
  ·rcases h4 with h4 | h4
   ·exact absurd h4 hk
   ·exact h4
  ·rcases h5 with h5 | h5
   ·exact absurd h5 hk
   ·omega
  ·rcases h6 with h6 | h6
   ·exact absurd h6 hk
   ·exact h6
set_option maxRecDepth 8000 in
theorem Xf {e:E} (h:WfE e):G.Spec Tryz.prog 127 [eX e] (bv (Y2 e)):=by
 have hwl:=h.wl;have hkl:=h.kl;have hol:=h.ol;have e1:i64.wrap ((e.words.length:Int)+e.kids.length)=(e.words.length:Int)+e.kids.length:=Ih;obtain⟨R,hR⟩:∃ R,R=Y2 e:=⟨_,rfl⟩;rw[← hR];have c2:(decide (0<(e.words.length:Int)+e.kids.length))=decide (0<e.words.length+e.kids.length):=by rw[Bool.eq_iff_iff];simp;omega
 refine Ap Wj (by simp) fun w0 I0=>?_;unfold N1;unfold Y2 at hR;have cl:decide (e.ops.length=0)=decide (e.ops=[]):=by rw[Bool.eq_iff_iff];simp
 by_cases k1:e.kind=1
 ·have k2:¬ e.kind=2:=by omega
  have k3:¬ e.kind=3:=by omega
  have hR':R=(!decide (0<e.words.length+e.kids.length)&&(decide (e.list=0)&&decide (e.ops=[]))):=by
   rw[hR,← cl];simp[L4,k1]
  simp[k1];rw[Ci];simp;rw[Ci];simp;simp[e1,k2,k3];refine⟨fun hc=>?_,fun hc=>?_⟩
  ·have a1:0<e.words.length+e.kids.length:=by omega
   exact Ak (by rw[hR'];simp[a1])
  ·have a1:¬ 0<e.words.length+e.kids.length:=by omega
   exact Ak (by rw[hR'];simp[a1])
 ·simp[k1];rw[Ci];simp;refine MV rfl (P0 h.o) rfl ?_;cases n1:FX e.old with
  |false=>
   simp;rw[Ci];simp;exact Ak (by rw[hR];simp[L4,k1,n1])
  |true=>
   simp;rw[Ci];simp;refine MV rfl (P0 h.n) rfl ?_;cases n2:FX e.new with
   |false=>
    simp;exact Ak (by rw[hR];simp[L4,k1,n1,n2])
   |true=>
    simp;have hR':R=(!(!decide (e.kind=2)&&decide (0<e.words.length+e.kids.length))&&(decide (e.kind=3) || decide (e.list=0)&&decide (e.ops=[]))):=by
     rw[hR,← cl];simp[L4,k1,n1,n2]
    by_cases k2:e.kind=2
    ·have k3:¬ e.kind=3:=by omega
     simp[e1,k2];exact Ak (by rw[hR'];simp[k2])
    ·by_cases k3:e.kind=3
     ·simp[e1,k3];refine⟨fun hc=>?_,fun hc=>?_⟩
      ·have a1:0<e.words.length+e.kids.length:=by omega
       exact Ak (by rw[hR'];simp[a1,k2])
      ·have a1:¬ 0<e.words.length+e.kids.length:=by omega
       exact Ak (by rw[hR'];simp[a1,k3])
     ·simp[e1,k2,k3];refine⟨fun hc=>?_,fun hc=>?_⟩
      ·have a1:0<e.words.length+e.kids.length:=by omega
       exact Ak (by rw[hR'];simp[a1,k2])
      ·have a1:¬ 0<e.words.length+e.kids.length:=by omega
       exact Ak (by rw[hR'];simp[a1,k3,k2])
theorem N7 {t:T} (h:CG t):G.Spec Tryz.prog 128 [tX t] (bv (!decide (t.kind=10)&&Ay 64 t)):=by
 refine Ap Ua (by simp) fun w0 I0=>?_;unfold Mh;by_cases k1:t.kind=10
 ·simp[k1];refine AA rfl ?_;simp;exact Ab rfl
 ·simp[k1];refine BK rfl (fun _=>E8 h) (fun _=>rfl) rfl ?_;simp;exact Ab rfl
theorem Sa {Q':Exit→Sta→Prop} {x:WE} (hw:WE.wf x) {a b c d:A} {u:Nat} {H:Hp} (hH:H [0]=⟨u,.cells [iv x.at_,u8 x.mask,uv x.old,uv x.new]⟩)
  (h1:(Ey x.old x.mask&&Ey x.new x.mask)=true→Q' .normal ⟨lk [(0,a),(5,b),(6,c),(7,d),(53,bv false)],H⟩) (h2:(Ey x.old x.mask&&Ey x.new x.mask)=false→Q' .ret ⟨lk [(2,bv false)],H⟩) :
  WPC (cx Tryz.prog w0 I0 n0) HM Q' ⟨lk [(0,a),(4,.pob [0] u 0),(5,b),(6,c),(7,d)],H⟩:=by
 obtain⟨w1,w2,w3,w4⟩:=hw;have z:=Vg x.old x.mask;have z2:=Vg x.new x.mask;have u0:EP 0:=⟨by omega,by omega⟩;rw[HM.eq_1];simp[hH];refine Af (Ku w3 u0 w2.1 w2.2) rfl ?_;by_cases m1:LJ x.old 0 x.mask=0
 ·rw[m1] at z ⊢;simp[hH];refine Bz rfl (fun _=>Ku w4 u0 w2.1 w2.2) (fun _=>rfl) rfl ?_;by_cases m2:LJ x.new 0 x.mask=0
  ·rw[m2] at z2 ⊢;simp;exact h1 (by rw[← z,← z2];simp)
  ·simp[m2];exact h2 (by rw[← z,← z2];simp[m2])
 ·simp[m1];refine AA rfl ?_;simp;exact h2 (by rw[← z];simp[m1])
theorem ZB {ws:List WE} (hl:ws.length*32≤140737488355328) (hw:∀ x,x ∈ ws→WE.wf x):∀ (m i:Nat) (last:Int) (H:Hp),i+m=ws.length→-1≤last→(i=0→last = -1)→(∀ h:0<i∧i≤ws.length,ws[i-1].at_=last) →
  (BT last (ws.drop i)=true→∀ q H',Q (.exit 0) ⟨lk [(0,ar ws),(5,ar ws),(6,iv ws.length),(7,iv ws.length),(8,bv q)],H'⟩)→(BT last (ws.drop i)=false→∀ H',Q .ret ⟨lk [(2,bv false)],H'⟩) →
  LoopC (cx Tryz.prog w0 I0 n0) FP Q ⟨lk [(0,ar ws),(5,ar ws),(6,iv ws.length),(7,iv i)],H⟩:=by
 intro m;induction m with
 |zero=>
  intro i last H hi hm h0 hp h1 h2;have:i=ws.length:=by omega
  subst this;refine Ad mixed FP.eq_1 ?_;simp;exact h1 (by simp[BT]) _ _
 |succ m ihm=>
  intro i last H hi hm h0 hp h1 h2;have hlt:i<ws.length:=by omega
  have ed:ws.drop i=ws[i]::ws.drop (i+1):=List.drop_eq_getElem_cons hlt;have ei:=B0 i;obtain⟨w1,w2,w3,w4⟩:=hw _ (EI hlt);have next:=fun H' (hr:IG last ws[i]=true)=>ihm (i+1) ws[i].at_ H' (by omega) (by
   simp[IG] at hr;omega) (fun h=>by omega) (fun h=>rfl) (fun hh=>h1 (by rw[ed,BT,hr,hh];rfl)) (fun hh=>h2 (by rw[ed,BT,hr,hh];rfl))
  have bad:IG last ws[i]=false→∀ H',Q .ret ⟨lk [(2,bv false)],H'⟩:=fun hr=>h2 (by rw[ed,BT,hr];rfl);clear h1 h2 ed ihm;generalize hx:ws[i]=x at *;have hok:IG last x = !(decide (x.at_≤last) || decide (65534<x.at_) || decide (x.mask=0) || !Ey x.old x.mask || !Ey x.new x.mask):=rfl;refine Ad mixed FP.eq_1 ?_;by_cases hA:x.at_<0∨65535≤x.at_∨x.at_≤last∨x.mask=0
  ·have hb:IG last x=false:=by
    rw[hok];rcases hA with h | h | h | h
    ·have:x.at_≤last:=by omega
     simp[this]
    ·have:65534<x.at_:=by omega
     simp[this]
    ·simp[h]
    ·simp[h]
   by_cases i0:i=0
   ·have hl1:=h0 i0;subst i0;have:(decide (x.at_<0) || decide (65535≤x.at_) || decide (x.mask=0))=true:=by simp;omega
    simp[hx,hlt,Aa,this];exact bad hb _
   ·have i1:0<i:=by omega
    have hpi:=hp ⟨i1,by omega⟩;have em:i64.wrap ((i:Int)-1)=((i-1:Nat):Int):=H9;have:(decide (x.at_<0) || decide (65535≤x.at_) || decide (x.at_≤last) || decide (x.mask=0))=true:=by simp;omega
    have hlt1:i-1<ws.length:=by omega
    simp[hx,hlt,i1,em,hlt1,hpi,Aa,this];exact bad hb _
  ·have c1:¬ x.at_<0:=by omega
   have c2:¬ 65535≤x.at_:=by omega
   have c3:¬ x.at_≤last:=by omega
   have c4:¬ x.mask=0:=by omega
   have c2':¬ 65534<x.at_:=by omega
   have hok':IG last x=(Ey x.old x.mask&&Ey x.new x.mask):=by rw[hok];simp[c2',c3,c4]
   have wfx:WE.wf x:=⟨w1,w2,w3,w4⟩;by_cases i0:i=0
   ·subst i0;simp[hx,hlt,Aa,c1,c2,c4];refine Ax (Sa wfx (by simp[Aa]) (fun hr=>?_) (fun hr=>?_))
    ·simp at ei;simp[ei];exact next _ (by rw[hok',hr])
    ·simp;exact bad (by rw[hok',hr]) _
   ·have i1:0<i:=by omega
    have hpi:=hp ⟨i1,by omega⟩;have em:i64.wrap ((i:Int)-1)=((i-1:Nat):Int):=H9;have hlt1:i-1<ws.length:=by omega
    simp[hx,hlt,i1,em,hlt1,hpi,Aa,c1,c2,c3,c4];refine Ax (Sa wfx (by simp[Aa]) (fun hr=>?_) (fun hr=>?_))
    ·simp[ei];exact next _ (by rw[hok',hr])
    ·simp;exact bad (by rw[hok',hr]) _
theorem Uz {ws:List WE} (hl:ws.length*32≤140737488355328) (hw:∀ x,x ∈ ws→WE.wf x):G.Spec Tryz.prog 129 [ar ws] (bv (BT (-1) ws)):=by
 refine Ap Uk (by simp) fun w0 I0=>?_;unfold L3;simp;refine ZB hl hw ws.length 0 (-1) _ (by simp) (by omega) (fun _=>rfl) (fun h=>by omega) (fun hr q H'=>?_) (fun hr H'=>?_)
 ·simp;exact Ak (by simpa using hr.symm)
 ·simp;exact Ak (by simpa using hr.symm)
abbrev IC (e:E):Prop:=∀ d:Nat,d≤1000→G.Spec Tryz.prog 91 [eX e,iv d] (bv (Bp d e))
theorem gM {ks:List KE} {d:Nat} (hd:d≤1000) (hl:ks.length*208≤140737488355328) (ih:∀ x,x ∈ ks→IC x.e):∀ (m i:Nat) (last:Int) (H:Hp),i+m=ks.length→-1≤last→(i=0→last = -1)→(∀ h:0<i∧i≤ks.length,ks[i-1].at_=last) →
  (CJ d last (ks.drop i)=true→∀ q H',Q (.exit 0) ⟨lk [(0,W4 ks),(1,iv d),(7,W4 ks),(8,iv ks.length),(9,iv ks.length),(10,bv q)],H'⟩)→(CJ d last (ks.drop i)=false→∀ H',Q .ret ⟨lk [(4,bv false)],H'⟩) →
  LoopC (cx Tryz.prog w0 I0 n0) GC Q ⟨lk [(0,W4 ks),(1,iv d),(7,W4 ks),(8,iv ks.length),(9,iv i)],H⟩:=by
 intro m;induction m with
 |zero=>
  intro i last H hi hm h0 hp h1 h2;have:i=ks.length:=by omega
  subst this;refine Ad mixed GC.eq_1 ?_;simp;exact h1 (by simp) _ _
 |succ m ihm=>
  intro i last H hi hm h0 hp h1 h2;have hlt:i<ks.length:=by omega
  have ed:ks.drop i=ks[i]::ks.drop (i+1):=List.drop_eq_getElem_cons hlt;have ei:=B0 i;have ihx:=ih _ (EI hlt) d hd;have next:=fun H' (ha:last<ks[i].at_∧ks[i].at_≤65534) (hk:¬ ks[i].e.kind=0) (hr:Bp d ks[i].e=true)=>ihm (i+1) ks[i].at_ H' (by omega) (by omega) (fun h=>by omega) (fun h=>rfl)
   (fun hh=>h1 (by rw[ed,Fh,hr,hh];simp[hk];omega)) (fun hh=>h2 (by rw[ed,Fh,hr,hh];simp))
  have bad:(ks[i].at_≤last∨65534<ks[i].at_∨ks[i].e.kind=0∨Bp d ks[i].e=false)→∀ H',Q .ret ⟨lk [(4,bv false)],H'⟩:=fun hr=>h2 (by
   rw[ed,Fh];rcases hr with h | h | h | h<;>simp[h])
  clear h1 h2 ed ihm;generalize hx:ks[i]=x at *;refine Ad mixed GC.eq_1 ?_;by_cases hA:x.at_<0∨65535≤x.at_∨x.at_≤last∨x.e.kind=0
  ·have hb:=bad (by omega);by_cases i0:i=0
   ·have hl1:=h0 i0;subst i0;have:(decide (x.at_<0) || decide (65535≤x.at_) || decide (x.e.kind=0))=true:=by simp;omega
    simp[hx,hlt,Aa,this];refine AA rfl ?_;simp[this];exact hb _
   ·have i1:0<i:=by omega
    have hpi:=hp ⟨i1,by omega⟩;have em:i64.wrap ((i:Int)-1)=((i-1:Nat):Int):=H9;have:(decide (x.at_<0) || decide (65535≤x.at_) || decide (x.at_≤last) || decide (x.e.kind=0))=true:=by simp;omega
    have hlt1:i-1<ks.length:=by omega
    simp[hx,hlt,i1,em,hlt1,hpi,Aa,this];refine AA rfl ?_;simp[this];exact hb _
  ·have c1:¬ x.at_<0:=by omega
   have c2:¬ 65535≤x.at_:=by omega
   have c3:¬ x.at_≤last:=by omega
   have c4:¬ x.e.kind=0:=by omega
   by_cases i0:i=0
   ·subst i0;simp[hx,hlt,Aa,c1,c2,c4];refine Bz rfl (fun _=>ihx) (fun _=>rfl) rfl ?_;cases hr:Bp d x.e with
    |false=>simp;exact bad (.inr (.inr (.inr hr))) _
    |true=>
     simp at ei;simp[ei];exact next _ (by omega) c4 hr
   ·have i1:0<i:=by omega
    have hpi:=hp ⟨i1,by omega⟩;have em:i64.wrap ((i:Int)-1)=((i-1:Nat):Int):=H9;have hlt1:i-1<ks.length:=by omega
    simp[hx,hlt,i1,em,hlt1,hpi,Aa,c1,c2,c3,c4];refine Bz rfl (fun _=>ihx) (fun _=>rfl) rfl ?_;cases hr:Bp d x.e with
    |false=>simp;exact bad (.inr (.inr (.inr hr))) _
    |true=>simp[ei];exact next _ (by omega) c4 hr
theorem Xk {ks:List KE} {d:Nat} (hd:d≤1000) (hl:ks.length*208≤140737488355328) (ih:∀ x,x ∈ ks→IC x.e):G.Spec Tryz.prog 130 [W4 ks,iv d] (bv (CJ d (-1) ks)):=by
 refine Ap V0 (by simp) fun w0 I0=>?_;unfold Om;simp;refine gM hd hl ih ks.length 0 (-1) _ (by simp) (by omega) (fun _=>rfl) (fun h=>by omega) (fun hr q H'=>?_) (fun hr H'=>?_)
 ·simp;exact Ak (by simpa using hr.symm)
 ·simp;exact Ak (by simpa using hr.symm)
theorem o4 {list:Int} (hk:Bm list) {t:T} (h:CG t):CG (.mk list [] [t]):=wfT_iff.2 ⟨hk,by simp,by simp,by simp,fun x hx=>by simp at hx;rw[hx];exact h⟩
theorem XU {list:Int} (hk:Bm list) {t:T} (h:CG t):G.Spec Tryz.prog 213 [iv list,tX t] (bv (Ay 64 (.mk list [] [t]))):=by
 refine Ap Yz (by simp) fun w0 I0=>?_;unfold PD;simp;refine gY rfl ((E8 (o4 hk h)).soft (by simp[A.softL,A.soft,IU,JW])) rfl ?_;simp;exact Ab rfl
def IX (list:Int) (e:E):Bool:=!(DM list || decide (e.kind=0))&&((decide (list=8) || decide (e.kind=2)) || (decide (e.kind=1)&&decide (e.old.kind=1)&&decide (e.new.kind=1)))
set_option maxRecDepth 8000 in
theorem Tx (list:Int) (e:E):G.Spec Tryz.prog 214 [iv list,eX e] (bv (IX list e)):=by
 obtain⟨R,hR⟩:∃ R,R=IX list e:=⟨_,rfl⟩;rw[← hR];unfold IX at hR;refine Ap Rt (by simp) fun w0 I0=>?_;unfold KO;simp;refine Af (RR list) rfl ?_;cases hd:DM list with
 |true=>simp;exact Ak (by rw[hR];simp[hd])
 |false=>
  by_cases k0:e.kind=0
  ·simp[k0];exact Ak (by rw[hR];simp[k0])
  ·by_cases l8:list=8
   ·simp[k0,l8];exact Ak (by rw[hR];simp[hd,k0,l8,DM])
   ·by_cases k2:e.kind=2
    ·simp[l8,k2];exact Ak (by rw[hR];simp[hd,k2])
    ·by_cases k1:e.kind=1
     ·simp[l8,k1];exact Ak (by rw[hR];simp[hd,k1,l8])
     ·simp[k0,l8,k2,k1];exact Ak (by rw[hR];simp[hd,k0,k1,k2,l8])
abbrev eY (list:Int):A:=.pim [iv list]
theorem WO {list:Int} (hk:Bm list) {t:T} (h:CG t):G.Spec Tryz.prog 212 [tX t,eY list] (bv (!Ay 64 (.mk list [] [t]))):=by
 refine Ap Wr (by simp) fun w0 I0=>?_;unfold Og;simp;refine Af (XU hk h) rfl ?_;simp;exact Ab rfl
def W9 (p:T→Bool):Nat→List T→Int
 |_,[]=>-1
 |i,t::l=>if p t=true then i else W9 p (i+1) l
theorem WK (p:T→Bool):∀ (l:List T) (i:Nat),decide (0≤W9 p i l)=l.any p
 |[],i=>rfl
 |t::l,i=>by
  rw[W9,List.any_cons];cases h:p t with
  |true=>simp
  |false=>simp only[Bool.false_eq_true,if_false,Bool.false_or];exact WK p l (i+1)
abbrev zM (list:Int):A:=.fnc 212 [] [eY list]
theorem ff {list:Int} (hk:Bm list) {l:List T} (hl:l.length*56≤140737488355328) (hw:∀ t,t ∈ l→CG t) {R:Int} {H:Hp}:∀ (m i:Nat),i+m=l.length→R=W9 (fun t=>!Ay 64 (.mk list [] [t])) i (l.drop i) →
  (R = -1→∀ q,Q (.exit 0) ⟨lk [(0,DY l),(1,zM list),(7,iv l.length),(8,iv l.length),(9,bv q)],H⟩)→(Q .ret ⟨lk [(4,iv R)],H⟩) →
  LoopC (cx Tryz.prog w0 I0 n0) AX Q ⟨lk [(0,DY l),(1,zM list),(7,iv l.length),(8,iv i)],H⟩:=by
 intro m;induction m with
 |zero=>
  intro i hi hR h1 h2;have:i=l.length:=by omega
  subst this;refine Ad mixed AX.eq_1 ?_;simp;exact h1 (by rw[hR];simp[W9]) _
 |succ m ih=>
  intro i hi hR h1 h2;have hlt:i<l.length:=by omega
  have ed:l.drop i=l[i]::l.drop (i+1):=List.drop_eq_getElem_cons hlt;have ei:=B0 i;rw[ed,W9] at hR;refine Ad mixed AX.eq_1 ?_;simp[hlt];refine MV rfl (WO hk (hw _ (EI hlt))) rfl ?_;cases hr:Ay 64 (.mk list [] [l[i]]) with
  |false=>
   rw[if_pos (by rw[hr];rfl)] at hR;simp;rw[← hR];exact h2
  |true=>
   rw[if_neg (by rw[hr];simp)] at hR;simp[ei];exact ih (i+1) (by omega) hR h1 h2
theorem VF {list:Int} (hk:Bm list) {l:List T} (hl:l.length*56≤140737488355328) (hw:∀ t,t ∈ l→CG t):G.Spec Tryz.prog 238 [DY l,zM list] (iv (W9 (fun t=>!Ay 64 (.mk list [] [t])) 0 l)):=by
 refine Ap Ek (by simp) fun w0 I0=>?_;unfold B7;simp;refine ff hk hl hw l.length 0 (by simp) rfl (fun hR q=>?_) ?_
 ·simp;exact Mw (by simpa using hR.symm)
 ·simp;exact Mw (by simp)
theorem Qr {list:Int} (hk:Bm list) {l:List T} (hl:l.length*56≤140737488355328) (hw:∀ t,t ∈ l→CG t):G.Spec Tryz.prog 211 [DY l,zM list] (bv (l.any fun t=>!Ay 64 (.mk list [] [t]))):=by
 refine Ap DW (by simp) fun w0 I0=>?_;unfold BS;simp;refine Af (VF hk hl hw) rfl ?_;simp;exact Ak (WK _ l 0)
theorem PV {e:E}:(Bp 1 e&&decide (e.kind=0))=OD e:=by
 rw[Bool.eq_iff_iff,Bool.and_eq_true,decide_eq_true_eq];constructor
 ·rintro⟨h,h0⟩;obtain⟨k,o,n,ws,ks,l,os⟩:=e;have R:=rightE_iff.1 h;have h0:k=0:=h0;subst h0;obtain⟨rfl,rfl⟩:=R.one (by omega);obtain⟨rfl,rfl⟩:=R.two (by omega);obtain⟨rfl,rfl⟩:=R.three (by omega);rfl
 ·intro h;rw[ig h];refine⟨rightE_iff.2 ⟨by omega,by omega,by omega,fun _=>⟨rfl,rfl⟩,fun _=>⟨rfl,rfl⟩,fun _=>⟨rfl,rfl⟩,fun h=>by omega,rfl,by simp,fun h=>by omega,by simp,by simp[Bh]⟩,rfl⟩
abbrev oL (o:OP):List A:=iv o.kind::iv o.n::DY o.l::eL o.e
theorem pK {list:Int} (hk:Bm list) {o:OP} (h:jA o) (ih:IC o.e) {H:Hp} (hH:H [1]=⟨1,.cells (oL o)⟩) {R:Bool} (hR:R=(decide (o.n=0)&&!o.l.isEmpty&&OD o.e&&(o.l.all fun t=>Ay 64 (.mk list [] [t])))) :
  WPC (cx Tryz.prog w0 I0 n0) IP (Rx Tryz.prog [.tmp 6] (bv R)) ⟨lk [(3,eY list),(4,.pob [1] 1 0)],H⟩:=by
 have hll:=h.ll;rw[IP.eq_1];have ih1:=ih 1 (by omega);rw[← PV] at hR;by_cases c1:o.n=0;rotate_left
 ·simp[hH,c1];refine AA rfl ?_;simp[hH];refine AA rfl ?_;simp;exact Ak (by rw[hR];simp[c1])
 by_cases c2:o.l=[]
 ·simp[hH,c1,c2];refine AA rfl ?_;simp[hH,c2];refine AA rfl ?_;simp;exact Ak (by rw[hR];simp[c2])
 have c2':0<o.l.length:=List.length_pos_iff.2 c2;have c2e:o.l.isEmpty=false:=by cases hh:o.l<;>simp_all
 simp[hH,c1,c2'];refine BK rfl (fun _=>ih1) (fun _=>rfl) rfl ?_;cases hr:Bp 1 o.e with
 |false=>
  simp[hH,c1,c2'];refine AA rfl ?_;simp;exact Ak (by rw[hR,hr];simp)
 |true=>
  by_cases c4:o.e.kind=0
  ·simp[hH,c4];refine BK rfl (fun _=>Qr hk hll h.l) (fun _=>rfl) rfl ?_;simp;refine Ak ?_;rw[hR,hr,c1,c4,c2e];simp[List.all_eq_not_any_not]
  ·simp[hH,c4];refine AA rfl ?_;simp;exact Ak (by rw[hR];simp[c4])
set_option maxRecDepth 8000 in
theorem il {list:Int} (hk:2≤list∧list≤9) {o:OP} (h:jA o) (ih:IC o.e) {d:Nat} (hd:d≤1000):G.Spec Tryz.prog 174 [iv list,oX o,iv d] (bv (Fa d list o)):=by
 have he:=wfE_iff.1 h.e;have hll:=h.ll;have hk64:Bm list:=⟨by omega,by omega⟩;obtain⟨R,hR⟩:∃ R,R=Fa d list o:=⟨_,rfl⟩;rw[← hR];rw[GS] at hR;unfold Lo at hR;refine Ap ZQ (by simp) fun w0 I0=>?_;unfold RY;have stopper:(o.kind=1∨o.kind=2)→KX (cx Tryz.prog w0 I0 90) (WPC (cx Tryz.prog w0 I0 90) IP (Rx Tryz.prog [.tmp 6] (bv R))) ⟨lk [(3,.pob [0] 1 0),(4,.pob [1] 1 0)],Dj [([0],⟨1,.cells [iv list]⟩),([1],⟨1,.cells (oL o)⟩)]⟩:=fun hkk=>by
  refine L5 (XD (c:=cx Tryz.prog w0 I0 90) [[0]] 3 (eY list) (fun _ _ h=>h) ?_) (L5 (Be [(3,eY list),(4,.pob [1] 1 0)] (by simp[upd])) (Ax ?_))
  ·exact Zf (cs:=[iv list]) (by simp[R7]) ⟨Ab rfl,trivial⟩ rfl
  ·simp[WH];refine pK hk64 h ih ?_ ?_
   ·first | rfl | simp
   rw[hR,if_neg (by omega)];by_cases c1:o.n=0
   ·rw[if_neg (by omega),if_pos (by omega),if_neg (by omega)];simp[c1];cases o.l.isEmpty<;>simp[Bool.and_comm]
   ·rw[if_pos (by omega)];simp[c1]
 by_cases k0:o.kind=0
 ·rw[if_pos k0,if_neg (by omega),Bool.and_true,← PV] at hR;simp[k0];by_cases c:1≤o.n∧o.n≤1048576∧o.l=[]
  ·obtain⟨a,b,c⟩:=c;simp[a,b,c];refine BK rfl (fun _=>ih 1 (by omega)) (fun _=>rfl) rfl ?_;simp;refine Ak ?_;rw[hR];simp[a,b,c]
  ·have hc:(decide (1≤o.n)&&decide (o.n≤1048576)&&decide (o.l=[]))=false:=by
    rw[Bool.eq_false_iff];intro e;simp at e;exact c ⟨e.1.1,e.1.2,e.2⟩
   simp[hc];refine AA rfl ?_;simp[hc];refine Ak ?_;rw[hR];have:(decide (1≤o.n)&&decide (o.n≤1048576)&&o.l.isEmpty)=false:=by
    rw[← hc];cases o.l<;>simp
   rw[this];rfl
 by_cases k1:o.kind=1
 ·simp[k1]
  repeat rw[AW (by decide)]
  try simp
  repeat rw[AW (by decide)]
  try simp
  repeat rw[AW (by decide)]
  try simp
  have:=stopper (.inl k1);unfold oL at this;rw[k1] at this;exact this
 by_cases k2:o.kind=2
 ·simp[k2]
  repeat rw[AW (by decide)]
  try simp
  repeat rw[AW (by decide)]
  try simp
  repeat rw[AW (by decide)]
  try simp
  have:=stopper (.inr k2);unfold oL at this;rw[k2] at this;exact this
 by_cases k3:o.kind=3
 ·rw[if_neg k0,if_pos k3] at hR;simp[k3]
  repeat rw[AW (by decide)]
  try simp
  repeat rw[AW (by decide)]
  try simp
  repeat rw[AW (by decide)]
  try simp
  have hfit:IX list o.e=(!decide (o.e.kind=0)&&!decide (list≤7)&&YG list o):=by
   have hd7:DM list=decide (list≤7):=by rw[Bool.eq_iff_iff];simp[DM];omega
   unfold IX YG;rw[hd7];cases decide (list≤7)<;>cases decide (o.e.kind=0)<;>simp[Bool.or_assoc]
  by_cases c:o.n=0∧o.l=[]
  ·obtain⟨c1,c2⟩:=c;have hR':R=(IX list o.e&&Bp d o.e):=by
    rw[hR,if_neg (by omega),if_neg (by omega),hfit];unfold QF;rw[c2];cases Bp d o.e<;>simp
   simp[c1,c2];refine BK rfl (fun _=>Tx list o.e) (fun _=>rfl) rfl ?_;cases hw:IX list o.e with
   |false=>
    simp;refine AA rfl ?_;simp;exact Ak (by rw[hR',hw];rfl)
   |true=>
    simp;refine BK rfl (fun _=>ih d hd) (fun _=>rfl) rfl ?_;simp;exact Ak (by rw[hR',hw];simp)
  ·have hc:(decide (o.n=0)&&decide (o.l=[]))=false:=by
    rw[Bool.eq_false_iff];intro e;simp at e;exact c e
   simp[hc];refine AA rfl ?_;simp[hc];refine AA rfl ?_;simp[hc];refine Ak ?_;rw[hR];by_cases c1:o.n=0
   ·have c2:o.l.isEmpty=false:=by
     cases hh:o.l with
     |nil=>exact absurd ⟨c1,hh⟩ c
     |cons x l=>rfl
    unfold QF;rw[c2];simp
   ·rw[if_pos (by omega)];rfl
 ·simp[k0,k1,k2,k3]
  repeat rw[AW (by decide)]
  try simp
  repeat rw[AW (by decide)]
  try simp
  repeat rw[AW (by decide)]
  try simp
  refine Ak ?_;rw[hR,if_neg k0,if_pos (by omega)];rfl
theorem Pm (n:Int):min n 1048576=LM n:=by unfold LM;split<;>omega
theorem Za {Q':Exit→Sta→Prop} {o:OP} {a b z:Int} {x y i:A} {u:Nat} {H:Hp} (hH:H [1]=⟨u,.cells (oL o)⟩) (a0:0≤a) (a1:a≤1048576) (b0:0≤b) (b1:b≤1048576) (z0:0≤z) (z1:z<100000000000000)
  (h:Q' .normal ⟨lk [(4,iv (LM (if o.kind=2 then a else a+z))),(5,iv (LM (if o.kind=1 then b else b+z))),(10,x),(11,y),(12,i)],H⟩)
  (h':Q' .normal ⟨lk [(4,iv (LM (if o.kind=2 then a else a+z))),(5,iv (LM (if o.kind=1 then b else b+z))),(8,iv z),(10,x),(11,y),(12,i),(34,bv false)],H⟩) :
  WPC (cx Tryz.prog w0 I0 n0) Ge Q' ⟨lk [(4,iv a),(5,iv b),(7,.pob [1] u 0),(8,iv z),(10,x),(11,y),(12,i)],H⟩:=by
 have ea:i64.wrap (a+z)=a+z:=Ih;have eb:i64.wrap (b+z)=b+z:=Ih;have sa:LM a=a:=by unfold LM;rw[if_neg (by omega)]
 have sb:LM b=b:=by unfold LM;rw[if_neg (by omega)]
 rw[Ge.eq_1];by_cases h2:o.kind=2
 ·have h1:¬ o.kind=1:=by omega
  simp[hH,h2];rw[Ev.eq_1];simp[hH,h2,eb,Pm];simpa[h2,sa] using h
 ·by_cases h1:o.kind=1
  ·simp[hH,h1,ea,Pm];rw[Ev.eq_1];simp[hH,h1];simpa[h1,sb] using h'
  ·simp[hH,h2,ea,Pm];rw[Ev.eq_1];simp[hH,h1,eb,Pm];simpa[h1,h2] using h
theorem lK {os:List OP} (hl:os.length*240≤140737488355328) (ho:∀ x,x ∈ os→0≤x.n∧x.n≤1048576∧x.l.length*56≤140737488355328):∀ (m i:Nat) (a b:Int) (H:Hp),i+m=os.length→0≤a→a≤1048576→0≤b→b≤1048576 →
  (∀ q H',Q (.exit 0) ⟨lk [(4,iv (Bh a b (os.drop i)).1),(5,iv (Bh a b (os.drop i)).2),(10,SX os),(11,iv os.length),(12,iv os.length),(13,bv q)],H'⟩) →
  LoopC (cx Tryz.prog w0 I0 n0) Dz Q ⟨lk [(4,iv a),(5,iv b),(10,SX os),(11,iv os.length),(12,iv i)],H⟩:=by
 intro m;induction m with
 |zero=>
  intro i a b H hi a0 a1 b0 b1 hq;have:i=os.length:=by omega
  subst this;refine Ad mixed Dz.eq_1 ?_;simp;simpa[Bh] using hq false H
 |succ m ih=>
  intro i a b H hi a0 a1 b0 b1 hq;have hlt:i<os.length:=by omega
  have ed:os.drop i=os[i]::os.drop (i+1):=List.drop_eq_getElem_cons hlt;have ei:=B0 i;obtain⟨n1,n2,n3⟩:=ho _ (EI hlt);rw[ed] at hq;generalize ho':os[i]=o at *;have next:∀ (a' b':Int) H',a'=LM (if o.kind=2 then a else a+Cb o)→b'=LM (if o.kind=1 then b else b+Cb o)→LoopC (cx Tryz.prog w0 I0 n0) Dz Q ⟨lk [(4,iv a'),(5,iv b'),(10,SX os),(11,iv os.length),(12,iv ((i+1:Nat):Int))],H'⟩:=fun a' b' H' ha hb=>by
   have h0:0≤Cb o∧Cb o<100000000000000:=by unfold Cb;split<;>omega
   have s1:=SJ (n:=if o.kind=2 then a else a+Cb o) (by split<;>omega);have s2:=SJ (n:=if o.kind=1 then b else b+Cb o) (by split<;>omega);refine ih (i+1) a' b' H' (by omega) (by omega) (by omega) (by omega) (by omega) fun q H2=>?_;have:=hq q H2;have f1:(if o.kind ≠ 2 then a+Cb o else a)=if o.kind=2 then a else a+Cb o:=by by_cases e:o.kind=2<;>simp[e]
   have f2:(if o.kind ≠ 1 then b+Cb o else b)=if o.kind=1 then b else b+Cb o:=by by_cases e:o.kind=1<;>simp[e]
   rw[Bh,f1,f2,← ha,← hb] at this;exact this
  have h0:0≤Cb o∧Cb o<100000000000000:=by unfold Cb;split<;>omega
  refine Ad mixed Dz.eq_1 ?_;have e1:i64.wrap (o.n+(o.l.length:Int))=o.n+o.l.length:=Ih;simp[hlt,ho',Aa,e1];refine⟨fun h3=>?_,fun h3=>?_⟩
  ·have ez:Cb o=1:=by simp[Cb,h3]
   refine Za (o:=o) (u:=(H [1]).u+1) (z:=1) (by simp[Aa]) (by omega) (by omega) (by omega) (by omega) (by omega) (by omega) ?_ ?_;all_goals
    simp[ei];rw[ez] at next
    exact next _ _ _ rfl rfl
  ·have ez:Cb o=o.n+o.l.length:=by simp[Cb,h3]
   rw[← ez];refine Za (o:=o) (u:=(H [1]).u+1) (z:=Cb o) (by simp[Aa]) (by omega) (by omega) (by omega) (by omega) (by omega) (by omega) ?_ ?_;all_goals
    simp[ei];exact next _ _ _ rfl rfl
theorem Rj {e:E} (hl:e.ops.length*240≤140737488355328) (ho:∀ x,x ∈ e.ops→0≤x.n∧x.n≤1048576∧x.l.length*56≤140737488355328):G.Spec Tryz.prog 175 [eX e] (.tup [iv (Bh 0 0 e.ops).1,iv (Bh 0 0 e.ops).2]):=by
 refine Ap QZ (by simp) fun w0 I0=>?_;unfold J8;simp;refine lK (os:=e.ops) hl ho e.ops.length 0 0 0 _ (by omega) (by omega) (by omega) (by omega) (by omega) fun q H'=>?_;simp;exact Ab rfl
theorem kP {e:E} {d:Nat} (hd:d≤1000) (hk:2≤e.list∧e.list≤9) (hl:e.ops.length*240≤140737488355328) (hw:∀ x,x ∈ e.ops→jA x) (ih:∀ x,x ∈ e.ops→IC x.e):∀ (m i:Nat) (H:Hp),i+m=e.ops.length→H [0]=⟨1,.cells (eL e)⟩ →
  (CH d e.list (e.ops.drop i)=true→∀ q H',H' [0]=⟨1,.cells (eL e)⟩→Q (.exit 0) ⟨lk [(1,iv d),(2,.pob [0] 1 0),(10,SX e.ops),(11,iv e.ops.length),(12,iv e.ops.length),(13,bv q)],H'⟩)→(CH d e.list (e.ops.drop i)=false→∀ H',Q .ret ⟨lk [(4,bv false)],H'⟩) →
  LoopC (cx Tryz.prog w0 I0 n0) Hq Q ⟨lk [(1,iv d),(2,.pob [0] 1 0),(10,SX e.ops),(11,iv e.ops.length),(12,iv i)],H⟩:=by
 intro m;induction m with
 |zero=>
  intro i H hi hA h1 h2;have:i=e.ops.length:=by omega
  subst this;refine Ad mixed Hq.eq_1 ?_;simp;exact h1 (by simp) _ _ hA
 |succ m ihm=>
  intro i H hi hA h1 h2;have hlt:i<e.ops.length:=by omega
  have ed:e.ops.drop i=e.ops[i]::e.ops.drop (i+1):=List.drop_eq_getElem_cons hlt;have ei:=B0 i;have hop:=il hk (hw _ (EI hlt)) (ih _ (EI hlt)) hd;rw[ed,M6] at h1 h2;refine Ad mixed Hq.eq_1 ?_;simp[hA,hlt,Aa];refine Af hop rfl ?_;cases hr:Fa d e.list e.ops[i] with
  |false=>
   simp;exact h2 (by simp[hr]) _
  |true=>
   simp[ei];exact ihm (i+1) _ (by omega) (by simp[Aa,hA]) (fun hh=>h1 (by simp[hr,hh])) (fun hh=>h2 (by simp[hh]))
theorem aQ {e:E} (hw:WfE e) {d:Nat} (hd:d≤1000) (hk:2≤e.list∧e.list≤9) (ih:∀ x,x ∈ e.ops→IC x.e):G.Spec Tryz.prog 131 [eX e,iv d] (bv (CH d e.list e.ops&&(decide ((Bh 0 0 e.ops).1<1048576)&&decide ((Bh 0 0 e.ops).2<1048576)))):=by
 refine Ap XQ (by simp) fun w0 I0=>?_;unfold QB;simp;refine kP hd hk hw.ol hw.os ih e.ops.length 0 _ (by omega) (by simp) (fun hr q H' hA=>?_) (fun hr H'=>?_)
 ·simp only[List.drop_zero] at hr;simp[hA];refine Af (Rj hw.ol (fun x hx=>⟨(xE (rightOs_all.1 hr x hx)).1,(xE (rightOs_all.1 hr x hx)).2,(hw.os x hx).ll⟩)) rfl ?_;simp;refine Ak ?_;rw[hr];simp
 ·simp only[List.drop_zero] at hr;simp;exact Ak (by rw[hr];rfl)
set_option maxRecDepth 10000 in
theorem X2:∀ (e:E),Nf e→IC e:=by
 refine E.ind fun k o nn ws ks l os ihk iho hw d hd=>?_;have h:=wfE_iff.1 hw;have hb:=Xf h;obtain⟨R,hR⟩:∃ R,R=Bp d (.mk k o nn ws ks l os):=⟨_,rfl⟩;rw[← hR];rw[Ib,OO] at hR;have eb:Y2 (.mk k o nn ws ks l os)=L4 k o nn ws.length ks.length l os.length:=rfl;rw[eb] at hb;have ed:1≤d→i64.wrap ((d:Int)-1)=((d-1:Nat):Int):=fun h=>by rw[JE (by omega) (by omega)];omega
 refine Ap TT (by simp) fun w0 I0=>?_;unfold Mf;simp;refine Af hb rfl ?_;generalize hB:L4 k o nn ws.length ks.length l os.length=B at hR;cases B with
 |false=>
  simp;refine Ak ?_;rw[hR];simp
 |true=>
  by_cases hd0:d=0
  ·subst hd0;simp;refine Ak ?_;rw[hR];simp
  have ed':=ed (by omega);have hh:=OO (d:=d) (k:=k) (o:=o) (n:=nn) (nw:=ws.length) (nk:=ks.length) (l:=l) (no:=os.length);rw[hB] at hh;simp only[Bool.and_true] at hR hh;by_cases kr:k<0∨3<k
  ·have k0:¬ k=0:=by omega
   have k1:¬ k=1:=by omega
   have k2:¬ k=2:=by omega
   have k3:¬ k=3:=by omega
   simp[hd0,k0,k1,k2,k3];refine Ak ?_;rw[hR,if_pos];simp;omega
  have hh1:Gg d k o nn ws.length ks.length l os.length=true:=by
   rw[hh];simp;omega
  obtain⟨_,k0,k3,c1,c2,c3⟩:=headOk_iff.1 hh1;rw[← hh,if_neg (by rw[hh1];simp)] at hR;have hk:k=0∨k=1∨k=2∨k=3:=by omega
  rcases hk with rfl | rfl | rfl | rfl
  ·obtain⟨w0',s0⟩:=c2 (by omega);obtain⟨l0,o0⟩:=c3 (by omega);obtain rfl:=List.eq_nil_of_length_eq_zero w0';obtain rfl:=List.eq_nil_of_length_eq_zero s0;obtain rfl:=List.eq_nil_of_length_eq_zero o0;simp[hd0];refine Ak ?_;rw[hR];simp[BT,Bh]
  ·simp[hd0];refine Af (N7 h.o) rfl ?_;simp;refine BK rfl (fun _=>N7 h.n) (fun e=>by simp[e]) rfl ?_;simp;refine Ak ?_;rw[hR];simp;cases Ay 64 o<;>cases Ay 64 nn<;>simp<;>rfl
  ·obtain⟨l0,o0⟩:=c3 (by omega);obtain rfl:=List.eq_nil_of_length_eq_zero o0;simp[hd0];refine Af (Uz h.wl h.w) rfl ?_;simp[ed'];refine BK rfl (fun _=>Xk (d:=d-1) (by omega) h.kl (fun x hx=>ihk x hx (h.ks x hx).2)) (fun e=>by simp[e]) rfl ?_;simp;refine Ak ?_;rw[hR];cases BT (-1) ws<;>cases CJ (d-1) (-1) ks<;>simp[Bh]
  ·obtain⟨w0',s0⟩:=c2 (by omega);obtain rfl:=List.eq_nil_of_length_eq_zero w0';obtain rfl:=List.eq_nil_of_length_eq_zero s0;simp[hd0];refine Af (IH l) rfl ?_;by_cases hl:2≤l∧l≤9
   ·have hl':¬ (l<2∨l > 9):=by omega
    simp[hl.1,hl.2,ed'];refine BK rfl (fun _=>aQ (e:=.mk 3 o nn [] [] l os) (d:=d-1) h (by omega) hl (fun x hx=>iho x hx (h.os x hx).e)) (fun e=>rfl) rfl ?_;simp;refine Ak ?_;rw[hR];simp[BT,hl'];cases CH (d-1) l os<;>simp<;>rfl
   ·have hl':l<2∨l > 9:=by omega
    have hf:(decide (2≤l)&&decide (l≤9))=false:=by rw[Bool.eq_false_iff];intro e;simp at e;omega
    simp[hf];refine AA rfl ?_;simp;refine Ak ?_;rw[hR];simp[BT,hl']
theorem Gy {e:E} (h:Nf e):G.Spec Tryz.prog 55 [eX e] (bv (Bp 64 e)):=by
 refine Ap Tv (by simp) fun w0 I0=>?_;unfold M7;simp;refine Af (X2 e h 64 (by omega)) rfl ?_;simp;exact Ab rfl
end Go.Proofs.YtgkdikddjfgajaaGreatDoor
namespace Go.Proofs.YtgkdikddjfgajaaGreatDoor
set_option maxRecDepth 20000
open Go Go.G Go.Proofs
@[simp] theorem AcN:Tryz.prog.underlying 30=some (.pointer 66):=by kernel_rfl
@[simp] theorem Adf:Tryz.prog.underlying 31=some (.pointer 75):=by kernel_rfl
@[simp] theorem Ab8:Tryz.prog.underlying 32=some (.array 4 31):=by kernel_rfl
@[simp] theorem AcE:Tryz.prog.underlying 64=some (.slice 73):=by kernel_rfl
@[simp] theorem AbW:B2 Tryz.prog 30=some 1:=by kernel_rfl
@[simp] theorem AbL:B2 Tryz.prog 31=some 1:=by kernel_rfl
@[simp] theorem Ab3:B2 Tryz.prog 64=some 1:=by kernel_rfl
@[simp] theorem Ac5:B2 Tryz.prog 75=some 15:=by kernel_rfl
@[simp] theorem zZ:Cu Tryz.prog 30=some false:=by kernel_rfl
@[simp] theorem Aap:Cu Tryz.prog 31=some false:=by kernel_rfl
@[simp] theorem AaD:Cu Tryz.prog 64=some false:=by kernel_rfl
@[simp] theorem zQ:Cu Tryz.prog 75=some true:=by kernel_rfl
@[simp] theorem ss:BF Tryz.prog 73=some 200:=by kernel_rfl
@[simp] theorem eK:Ah Tryz.prog 34 0=some 0:=by kernel_rfl
@[simp] theorem iV:Ah Tryz.prog 34 1=some 3:=by kernel_rfl
@[simp] theorem gQ:Ah Tryz.prog 34 2=some 4:=by kernel_rfl
@[simp] theorem ja:Ah Tryz.prog 66 0=some 0:=by kernel_rfl
@[simp] theorem dN:Ah Tryz.prog 66 1=some 3:=by kernel_rfl
@[simp] theorem eB:Ah Tryz.prog 75 0=some 0:=by kernel_rfl
@[simp] theorem dE:Ah Tryz.prog 75 1=some 3:=by kernel_rfl
@[simp] theorem ga:Ah Tryz.prog 75 2=some 4:=by kernel_rfl
@[simp] theorem su (ps:List (Nat × A)):Bw Tryz.prog 66 ps=(BU (fun i=>([(0,3),(3,1)]:List (Nat × Nat))[i]?) [iv 0,A.sl true [],A.sl true [],A.sl true []] ps).map A.agg:=by kernel_rfl
@[simp] theorem se (ps:List (Nat × A)):Bw Tryz.prog 75 ps=(BU (fun i=>([(0,3),(3,1),(4,11)]:List (Nat × Nat))[i]?) [iv 0,A.sl true [],A.sl true [],iv 0,iv 0,iv 0,A.sl true [],A.sl true [],iv 0,A.sl true [],A.sl true [],A.sl true [],A.sl true [],iv 0,A.sl true []] ps).map A.agg:=by kernel_rfl
def Sv:CC:=sR [bX 1 29 0 [5],oO 2 (.assign (.const (.pointer none)))] [1] (sQ [lO 3 29 1,cA 4 22 3 29,oO 5 (.unOp .not 4 (xT 4)),mO 6 5,fG 7 29 1 0 6 false,lG 8 3 7 6 false,oG 9 (.binOp .eql 3 (xT 8) (nI 10) 3) 6 false,pT 10 6 9] [1,10] (cD 10 (sR [oO 2 (.assign (.const (.pointer none)))] [2] (.ret)) (.skip)) [1] (sR [lO 11 29 1,cA 12 23 11 29,oO 13 (.build 66 #[(0,(xT 12))]),bX 14 66 13 [0],aO 2 14] [2] (.ret)))
theorem bF:BM Tryz.prog 11 15 [(.tmp 2)] Sv:=AH Tryz.func11
def KN:CC:=sR [aL 2 29 [5],aI 3 0] [0,2] (sQ [mO 4 0,oO 5 (.binOp .eql 30 (xT 4) (.const (.pointer none)) 30)] [0,2,5] (cD 5 (sR [oO 6 (.build 29 #[]),sT 29 2 6,aI 3 0] [2,3] (.ret)) (.skip)) [0,2] (sR [mO 7 0,nC 8 7,fO 9 66 8 0,lO 10 29 9,mO 11 0,nC 12 11,fO 13 66 12 1,lS 14 64 13 7,bN 15 14 64,⟨none,(.store 29 (xT 2) (xT 10)),none,[],9,[7],false⟩,aO 3 15] [2,3] (.ret)))
theorem RB:BM Tryz.prog 24 16 [(.cell 2 29),(.tmp 3)] KN:=AH Tryz.func24
def P5:CC:=sR [oO 2 (.assign (.const (.pointer none)))] [0] (sQ [mO 5 0,oO 6 (.binOp .eql 30 (xT 5) (.const (.pointer none)) 30)] [0,6] (cD 6 (sR [oO 2 (.assign (.const (.pointer none)))] [2] (.ret)) (.skip)) [0] (sR [mO 8 0,cA 9 24 8 30,mO 7 9,xO 10 7 0,xO 11 7 1,aL 3 29 [5],sT 29 3 10,aO 4 11] [3,4] (sR [lO 12 29 3,mO 13 4,oO 14 (.build 75 #[(0,(xT 12)),(1,(xT 13))]),bX 15 75 14 [1],aO 2 15] [2] (.ret))))
theorem Xe:BM Tryz.prog 12 16 [(.tmp 2)] P5:=AH Tryz.func12
def JD:CC:=sR [aL 2 29 [5],aI 3 0,aL 4 73 [6]] [0,2,4] (sQ [mO 5 0,oO 6 (.binOp .eql 31 (xT 5) (.const (.pointer none)) 31)] [0,2,4,6] (cD 6 (sR [oO 7 (.build 29 #[]),oO 8 (.build 73 #[]),sT 29 2 7,aI 3 0,sT 73 4 8] [2,3,4] (.ret)) (.skip)) [0,2,4] (sR [mO 9 0,nC 10 9,fO 11 75 10 0,lO 12 29 11,mO 13 0,nC 14 13,fO 15 75 14 1,lS 16 3 15 7,mO 17 0,nC 18 17,fO 19 75 18 2,lS 20 73 19 11,⟨none,(.store 29 (xT 2) (xT 12)),none,[],12,[7,11],false⟩,aO 3 16,sT 73 4 20] [2,3,4] (.ret)))
theorem Qc:BM Tryz.prog 38 21 [(.cell 2 29),(.tmp 3),(.cell 4 73)] JD:=AH Tryz.func38
def JC:CC:=sR [bX 2 73 0 [0],bX 3 73 1 [1],aL 4 73 [2],aB 5 false] [2,3,4] (.seq (.block 0 (sR [fO 16 73 2 0,lO 17 3 16,bQ .eql 18 3 17 0 3,aO 15 18] [2,3,4,15] (cD 15 (sR [lO 19 73 3,sT 73 4 19,aB 5 true] [4,5] (.ret)) (sR [fO 21 73 3 0,lO 22 3 21,bQ .eql 23 3 22 0 3,aO 20 23] [2,3,4,20] (cD 20 (sR [lO 24 73 2,sT 73 4 24,aB 5 true] [4,5] (.ret)) (sR [fO 26 73 2 0,lO 27 3 26,bQ .eql 28 3 27 1 3,aO 25 28] [2,3,4,25] (cD 25 (sR [lO 30 73 3,fO 31 73 2 2,lO 32 29 31,cB 33 92 30 32 73 29,mO 29 33,xO 34 29 0,xO 35 29 1,aL 6 29 [3],sT 29 6 34,aO 7 35] [2,4,6,7] (sR [fO 36 73 2 1,lO 37 29 36,lO 38 29 6,oO 39 (.build 73 #[(0,(nI 1)),(1,(xT 37)),(2,(xT 38))]),mO 40 7,sT 73 4 39,aO 5 40] [4,5] (.ret))) (sR [fO 42 73 3 0,lO 43 3 42,bQ .eql 44 3 43 1 3,aO 41 44] [2,3,4,41] (cD 41 (sR [lS 46 73 2 0,⟨some 47,(cL 133 #[(xT 46)] #[73]),none,[],1,[],true⟩,fO 48 73 3 1,⟨some 49,(lD 29 48),none,[],3,[1],true⟩,⟨some 50,(cL 92 #[(xT 47),(xT 49)] #[73,29]),none,[],4,[],true⟩,mO 45 50,xO 51 45 0,xO 52 45 1,⟨some 8,(.alloc 29),none,[4],8,[0,1,3,4],false⟩,sT 29 8 51,aO 9 52] [3,4,8,9] (sR [lO 53 29 8,fO 54 73 3 2,lO 55 29 54,oO 56 (.build 73 #[(0,(nI 1)),(1,(xT 53)),(2,(xT 55))]),mO 57 9,sT 73 4 56,aO 5 57] [4,5] (.ret))) (sR [fO 59 73 2 0,lO 60 3 59,fO 61 73 3 0,lO 62 3 61,bB .neq 63 3 60 62 3,mO 64 63,fG 65 73 2 5 64 false,lG 66 3 65 64 false,fG 67 73 3 5 64 false,lG 68 3 67 64 false,oG 69 (bO .neq 3 66 68 3) 64 false,pT 70 64 69,aO 58 70] [2,3,4,58] (cD 58 (sR [oO 71 (.build 73 #[]),sT 73 4 71,aB 5 false] [4,5] (.ret)) (sR [fO 73 73 2 0,lO 74 3 73,bQ .eql 75 3 74 2 3,aO 72 75] [2,3,4,72] (cD 72 (sR [fO 77 73 2 3,lO 78 69 77,fO 79 73 3 3,lO 80 69 79,cB 81 134 78 80 69 69,mO 76 81,xO 82 76 0,xO 83 76 1,aO 10 82,aO 11 83] [2,3,4,10,11] (sQ [mO 84 11,oO 85 (.unOp .not 4 (xT 84))] [2,3,4,10,85] (cD 85 (sR [oO 86 (.build 73 #[]),sT 73 4 86,aB 5 false] [4,5] (.ret)) (.skip)) [2,3,4,10] (sR [fO 88 73 2 4,lO 89 70 88,fO 90 73 3 4,lO 91 70 90,cB 92 135 89 91 70 70,mO 87 92,xO 93 87 0,xO 94 87 1,aO 12 93,aO 11 94] [4,10,11,12] (sR [mO 95 10,mO 96 12,oO 97 (.build 73 #[(0,(nI 2)),(3,(xT 95)),(4,(xT 96))]),mO 98 11,sT 73 4 97,aO 5 98] [4,5] (.ret))))) (.skip)))))))))))))) (.keep [2,3,4] (sR [fO 100 73 2 6,lO 101 71 100,fO 102 73 3 6,lO 103 71 102,cB 104 136 101 103 71 71,mO 99 104,xO 105 99 0,xO 106 99 1,aO 13 105,aO 14 106] [2,4,13,14] (sR [fO 107 73 2 5,lO 108 3 107,mO 109 13,oO 110 (.build 73 #[(0,(nI 3)),(5,(xT 108)),(6,(xT 109))]),mO 111 14,sT 73 4 110,aO 5 111] [4,5] (.ret)))))
theorem Ps:BM Tryz.prog 93 112 [(.cell 4 73),(.tmp 5)] JC:=AH Tryz.func93
def Kc:CC:=sR [bX 2 73 0 [0],bX 3 73 1 [1],aL 4 73 [2],aB 5 false] [2,3,4] (sR [lO 9 73 2,lO 10 73 3,cB 11 93 9 10 73 73,mO 8 11,xO 12 8 0,xO 13 8 1,aL 6 73 [3],sT 73 6 12,aO 7 13] [4,6,7] (sQ [mO 14 7,oO 15 (.unOp .not 4 (xT 14))] [4,6,15] (cD 15 (sR [oO 16 (.build 73 #[]),sT 73 4 16,aB 5 false] [4,5] (.ret)) (.skip)) [4,6] (sR [lO 17 73 6,cA 18 94 17 73,sT 73 4 18,aB 5 true] [4,5] (.ret))))
theorem QK:BM Tryz.prog 57 19 [(.cell 4 73),(.tmp 5)] Kc:=AH Tryz.func57
def PZ:CC:=sR [bX 2 73 0 [0],bX 3 29 1 [1],aL 4 29 [2],aI 5 0] [2,3,4] (sR [lO 9 73 2,lO 10 29 3,cB 11 92 9 10 73 29,mO 8 11,xO 12 8 0,xO 13 8 1,aL 6 29 [3],sT 29 6 12,aO 7 13] [4,6,7] (.seq (.block 0 (sR [mO 15 7,oO 16 (.unOp .not 4 (xT 15)),aO 14 16] [4,6,14] (cD 14 (sR [oO 17 (.build 29 #[]),sT 29 4 17,aI 5 13] [4,5] (.ret)) (sR [lO 19 29 6,cA 20 22 19 29,oO 21 (.unOp .not 4 (xT 20)),aO 18 21] [4,6,18] (cD 18 (sR [oO 22 (.build 29 #[]),sT 29 4 22,aI 5 3] [4,5] (.ret)) (.skip)))))) (.keep [4,6] (sR [lO 23 29 6,sT 29 4 23,aI 5 0] [4,5] (.ret)))))
theorem XS:BM Tryz.prog 56 24 [(.cell 4 29),(.tmp 5)] PZ:=AH Tryz.func56
def KV:CC:=sR [bB .lss 16 3 15 14 3] [2,4,7,13,14,15,16] (.seq (cD 16 (.skip) (.exit 0)) (.keep [2,4,7,13,14,15] (.seq (.block 1 (sR [iO 17 64 13 15,lO 18 73 17,aL 9 73 [2],sT 73 9 18] [2,4,7,9,13,14,15] (sR [lO 20 73 2,lO 21 73 9,cB 22 95 20 21 73 73,mO 19 22,xO 23 19 0,xO 24 19 1,xO 25 19 2,aL 10 73 [3],aL 11 73 [4],sT 73 10 23,sT 73 11 24,aO 12 25] [2,4,7,10,11,12,13,14,15] (sQ [mO 26 12,bQ .neq 27 54 26 0 54] [2,4,7,10,11,12,13,14,15,27] (cD 27 (sR [oO 28 (.build 73 #[]),mO 29 12,sT 73 4 28,aN 5,aO 6 29] [4,5,6] (.ret)) (.skip)) [2,4,7,10,11,13,14,15] (.reg [lS 30 73 10 0,mO 31 7,lO 32 73 11,⟨some 33,(.buildSlice 64 1 #[(0,(xT 32))]),none,[],3,[0],false⟩,⟨some 34,(bC .append #[(xT 31),(xT 33)] #[64,64]),none,[5],4,[0],false⟩,sT 73 2 30,aO 7 34] [2,4,7,13,14,15]))))) (.keep [2,4,7,13,14,15] (.reg [bQ .add 35 3 15 1 3,mO 15 35] [2,4,7,13,14,15]))))) 
def Mv:CC:=sR [bX 2 73 0 [0],aL 4 73 [1],aN 5,aI 6 0] [1,2,4] (sR [aN 7] [1,2,4,7] (sQ [mO 13 1,bN 14 13 64,oO 15 (.move (nI 0))] [2,4,7,13,14,15] (.block 0 (.loop KV)) [2,4,7] (sR [lO 36 73 2,cA 37 94 36 73,mO 38 7,sT 73 4 37,aO 5 38,aI 6 0] [4,5,6] (.ret))))
theorem Tm:BM Tryz.prog 58 39 [(.cell 4 73),(.tmp 5),(.tmp 6)] Mv:=AH Tryz.func58
def JH:CC:=sR [aN 4,aI 5 0] [0,1] (.seq (.block 0 (sR [mO 7 0,oO 8 (.binOp .eql 30 (xT 7) (.const (.pointer none)) 30),aO 6 8] [0,1,6] (cD 6 (sR [aN 4,aI 5 1] [4,5] (.ret)) (sR [mO 10 1,bQ .lss 11 3 10 0 3,mO 12 11,mG 13 1 12 false,mG 14 0 12 false,oG 15 (.nilCheck (xT 14)) 12 false,fG 16 66 15 1 12 false,lG 17 64 16 12 false,oG 18 (bL 17 64) 12 false,oG 19 (bO .gtr 3 13 18 3) 12 false,pT 20 12 19,aO 9 20] [0,1,9] (cD 9 (sR [aN 4,aI 5 2] [4,5] (.ret)) (.skip)))))) (.keep [0,1] (sR [mO 21 0,nC 22 21,fO 23 66 22 1,lO 24 64 23,mO 25 1,oO 26 (.slice 64 (xT 24) (some (xT 25)) none none),cA 27 59 26 64,aO 4 27,aI 5 0] [4,5] (.ret))))
theorem Qj:BM Tryz.prog 50 28 [(.tmp 4),(.tmp 5)] JH:=AH Tryz.func50
def J7:CC:=sR [bX 5 73 2 [5],aI 6 0,aI 7 0] [0,1,5] (.seq (.block 0 (sR [mO 13 0,oO 14 (.binOp .eql 30 (xT 13) (.const (.pointer none)) 30),aO 12 14] [0,1,5,12] (cD 12 (sR [aI 6 0,aI 7 1] [6,7] (.ret)) (sR [mO 16 1,bQ .lss 17 3 16 0 3,mO 18 17,mG 19 1 18 false,mG 20 0 18 false,oG 21 (.nilCheck (xT 20)) 18 false,fG 22 66 21 1 18 false,lG 23 64 22 18 false,oG 24 (bL 23 64) 18 false,oG 25 (bO .gtr 3 19 24 3) 18 false,pT 26 18 25,mO 27 26,lG 28 73 5 27 false,oG 29 (cL 55 #[(xT 28)] #[73]) 27 false,oG 30 (.unOp .not 4 (xT 29)) 27 false,pT 31 27 30,aO 15 31] [0,1,5,15] (cD 15 (sR [aI 6 0,aI 7 2] [6,7] (.ret)) (.skip)))))) (.keep [0,1,5] (sR [lS 33 73 5 0,mO 34 0,nC 35 34,fO 36 66 35 1,lS 37 64 36 4,mO 38 1,oO 39 (.slice 64 (xT 37) (some (xT 38)) none none),⟨some 40,(cL 58 #[(xT 33),(xT 39)] #[73,64]),none,[],7,[],true⟩,mO 32 40,xO 41 32 0,xO 42 32 1,xO 43 32 2,⟨some 8,(.alloc 73),none,[6],12,[0,4,7],false⟩,sT 73 8 41,aO 9 42,aO 10 43] [0,8,10] (sQ [mO 44 10,bQ .neq 45 54 44 0 54] [0,8,10,45] (cD 45 (sR [mO 46 10,aI 6 0,aO 7 46] [6,7] (.ret)) (.skip)) [0,8] (sR [lS 48 73 8 0,mO 49 0,nC 50 49,fO 51 66 50 0,lS 52 29 51 4,⟨some 53,(cL 56 #[(xT 48),(xT 52)] #[73,29]),none,[],5,[],true⟩,mO 47 53,xO 54 47 0,xO 55 47 1,⟨some 11,(.alloc 29),none,[7],9,[0,4,5],false⟩,sT 29 11 54,aO 10 55] [0,8,10,11] (sQ [mO 56 10,bQ .neq 57 54 56 0 54] [0,8,10,11,57] (cD 57 (sR [mO 58 10,aI 6 0,aO 7 58] [6,7] (.ret)) (.skip)) [0,8,11] (sR [mO 59 0,mO 60 0,lS 61 29 11 2,mO 62 0,nC 63 62,fO 64 66 63 1,lS 65 64 64 6,⟨some 66,(cL 59 #[(xT 65)] #[64]),none,[],7,[2],true⟩,⟨some 67,(lD 73 8),none,[],8,[7],false⟩,⟨some 68,(.buildSlice 64 1 #[(0,(xT 67))]),none,[],9,[2,6,7],false⟩,⟨some 69,(bC .append #[(xT 66),(xT 68)] #[64,64]),none,[8],10,[2],false⟩,nC 70 59,fO 71 66 70 0,sT 29 71 61,nC 72 60,fO 73 66 72 1,sT 64 73 69] [0] (sR [mO 74 0,nC 75 74,fO 76 66 75 1,lO 77 64 76,bN 78 77 64,aO 6 78,aI 7 0] [6,7] (.ret)))))))))
theorem Qw:BM Tryz.prog 35 79 [(.tmp 6),(.tmp 7)] J7:=AH Tryz.func35
def KP:CC:=sR [bX 3 73 1 [5],aI 4 0] [0,3] (.seq (.block 0 (sR [mO 10 0,oO 11 (.binOp .eql 31 (xT 10) (.const (.pointer none)) 31),aO 9 11] [0,3,9] (cD 9 (sR [aI 4 1] [4] (.ret)) (sR [lO 13 73 3,cA 14 55 13 73,oO 15 (.unOp .not 4 (xT 14)),aO 12 15] [0,3,12] (cD 12 (sR [aI 4 2] [4] (.ret)) (.skip)))))) (.keep [0,3] (sR [lS 17 73 3 0,mO 18 0,nC 19 18,fO 20 75 19 0,lS 21 29 20 4,⟨some 22,(cL 56 #[(xT 17),(xT 21)] #[73,29]),none,[],5,[],true⟩,mO 16 22,xO 23 16 0,xO 24 16 1,⟨some 5,(.alloc 29),none,[6],9,[0,4,5],false⟩,sT 29 5 23,aO 6 24] [0,3,5,6] (sQ [mO 25 6,bQ .neq 26 54 25 0 54] [0,3,5,6,26] (cD 26 (sR [mO 27 6,aO 4 27] [4] (.ret)) (.skip)) [0,3,5] (sR [mO 29 0,nC 30 29,fO 31 75 30 2,lS 32 73 31 3,lS 33 73 3 4,⟨some 34,(cL 57 #[(xT 32),(xT 33)] #[73,73]),none,[],5,[],true⟩,mO 28 34,xO 35 28 0,xO 36 28 1,⟨some 7,(.alloc 73),none,[7],9,[3,4,5],false⟩,sT 73 7 35,aO 8 36] [0,5,7,8] (sQ [mO 37 8,oO 38 (.unOp .not 4 (xT 37)),mO 39 38,lG 40 73 7 39 false,oG 41 (cL 55 #[(xT 40)] #[73]) 39 false,oG 42 (.unOp .not 4 (xT 41)) 39 false,pT 43 39 42] [0,5,7,43] (cD 43 (sR [aI 4 3] [4] (.ret)) (.skip)) [0,5,7] (sR [mO 44 0,mO 45 0,lO 46 29 5,lS 47 73 7 3,nC 48 44,fO 49 75 48 0,⟨none,(.store 29 (xT 49) (xT 46)),none,[],6,[3],false⟩,nC 50 45,fO 51 75 50 2,sT 73 51 47] [] (sR [aI 4 0] [4] (.ret)))))))))
theorem Rp:BM Tryz.prog 34 52 [(.tmp 4)] KP:=AH Tryz.func34
def Ir:CC:=sR [bB .lss 47 3 46 45 3] [0,1,5,7,9,44,45,46,47] (.seq (cD 47 (.skip) (.exit 0)) (.keep [0,1,5,7,9,44,45,46] (.seq (.block 1 (sR [iO 48 64 44 46,lO 49 73 48,aL 11 73 [7],sT 73 11 49] [0,1,5,7,9,11,44,45,46] (sR [lO 51 73 11,lO 52 29 9,cB 53 56 51 52 73 29,mO 50 53,xO 54 50 0,xO 55 50 1,sT 29 9 54,aO 6 55] [0,1,5,6,7,9,44,45,46] (sR [mO 56 6,bQ .neq 57 54 56 0 54] [0,1,5,6,7,9,44,45,46,57] (cD 57 (sR [mO 58 6,aO 4 58] [4] (.ret)) (.skip)))))) (.keep [0,1,5,7,9,44,45,46] (.reg [bQ .add 59 3 46 1 3,mO 46 59] [0,1,5,7,9,44,45,46]))))) 
def Jr:CC:=sR [aI 4 0] [0,1] (sQ [mO 13 0,oO 14 (.binOp .eql 31 (xT 13) (.const (.pointer none)) 31)] [0,1,14] (cD 14 (sR [aI 4 1] [4] (.ret)) (.skip)) [0,1] (sR [mO 16 1,mO 17 0,nC 18 17,fO 19 75 18 1,lO 20 3 19,cB 21 50 16 20 30 3,mO 15 21,xO 22 15 0,xO 23 15 1,aO 5 22,aO 6 23] [0,1,5,6] (sQ [mO 24 6,bQ .neq 25 54 24 0 54] [0,1,5,6,25] (cD 25 (sR [mO 26 6,aO 4 26] [4] (.ret)) (.skip)) [0,1,5] (sR [mO 28 0,nC 29 28,fO 30 75 29 2,lO 31 73 30,mO 32 5,cB 33 58 31 32 73 64,mO 27 33,xO 34 27 0,xO 35 27 1,xO 36 27 2,aL 7 73 [5],sT 73 7 34,aO 8 35,aO 6 36] [0,1,5,6,7,8] (sQ [mO 37 6,bQ .neq 38 54 37 0 54] [0,1,5,6,7,8,38] (cD 38 (sR [mO 39 6,aO 4 39] [4] (.ret)) (.skip)) [0,1,5,7,8] (sR [mO 40 0,nC 41 40,fO 42 75 41 0,lO 43 29 42,aL 9 29 [6],sT 29 9 43] [0,1,5,7,8,9] (sQ [mO 44 8,bN 45 44 64,oO 46 (.move (nI 0))] [0,1,5,7,9,44,45,46] (.block 0 (.loop Ir)) [0,1,5,7,9] (sQ [fO 60 73 7 0,lO 61 3 60,bQ .eql 62 3 61 0 3] [0,1,5,7,9,62] (cD 62 (sR [mO 63 0,mO 64 0,mO 65 0,lO 66 29 9,mO 67 0,nC 68 67,fO 69 75 68 1,lO 70 3 69,mO 71 5,bN 72 71 64,bB .add 73 3 70 72 3,lS 74 73 7 11,nC 75 63,fO 76 75 75 0,⟨none,(.store 29 (xT 76) (xT 66)),none,[],14,[11],false⟩,nC 77 64,fO 78 75 77 1,⟨none,(.store 3 (xT 78) (xT 73)),none,[],17,[11],false⟩,nC 79 65,fO 80 75 79 2,sT 73 80 74] [] (sR [aI 4 0] [4] (.ret))) (.skip)) [0,1,9] (sR [mO 82 1,mO 83 0,nC 84 83,fO 85 75 84 1,lO 86 3 85,mO 87 0,nC 88 87,fO 89 75 88 2,lO 90 73 89,cE 91 35 82 86 90 30 3 73,mO 81 91,xO 92 81 0,xO 93 81 1,aO 12 92,aO 6 93] [0,6,9,12] (sQ [mO 94 6,bQ .neq 95 54 94 0 54] [0,6,9,12,95] (cD 95 (sR [mO 96 6,aO 4 96] [4] (.ret)) (.skip)) [0,9,12] (sR [mO 97 0,mO 98 0,mO 99 0,lO 100 29 9,mO 101 12,oO 102 (.build 73 #[]),nC 103 97,fO 104 75 103 0,sT 29 104 100,nC 105 98,fO 106 75 105 1,sT 3 106 101,nC 107 99,fO 108 75 107 2,sT 73 108 102] [] (sR [aI 4 0] [4] (.ret)))))))))))))
theorem O6:BM Tryz.prog 39 109 [(.tmp 4)] Jr:=AH Tryz.func39
def AR:CC:=sR [aN 2] [0] (sQ [mO 3 0,oO 4 (.binOp .eql 64 (xT 3) nS 64)] [0,4] (cD 4 (sR [aN 2] [2] (.ret)) (.skip)) [0] (sR [oO 5 (.buildSlice 64 0 #[]),mO 6 0,aP 7 5 6 64 64 [0],aO 2 7] [2] (.ret)))
theorem Bi:BM Tryz.prog 59 8 [(.tmp 2)] AR:=AH Tryz.func59
def OB:CC:=sR [oO 2 (.assign (.const (.string { data:=#[] })))] [0] (sQ [mO 3 0,bQ .neq 4 54 3 0 54] [0,4] (cD 4 (sR [mO 5 0,cA 6 31 5 3,oO 7 (.binOp .add 9 (.const (.string { data:=#[101,114,114,111,114,32] })) (xT 6) 9),aO 2 7] [2] (.ret)) (.skip)) [] (sR [oO 2 (.assign (.const (.string { data:=#[111,107] })))] [2] (.ret)))
theorem UQ:BM Tryz.prog 19 8 [(.tmp 2)] OB:=AH Tryz.func19
def K5:CC:=sR [aI 4 0,aB 5 false] [0,1] (sR [mO 9 0,cA 10 37 9 9,mO 8 10,xO 11 8 0,xO 12 8 1,aO 6 11,aO 7 12] [0,1,6,7] (sR [mO 13 6,mO 14 7,oO 15 (.binOp .eql 44 (xT 14) (.const .nilIface) 44),mO 16 15,mG 17 6 16 true,oG 18 (cL 31 #[(xT 17)] #[3]) 16 true,mG 19 0 16 true,oG 20 (bO .eql 9 18 19 9) 16 true,pF 21 16 20,mO 22 21,mG 23 6 22 true,oG 24 (.binOp .geq 3 (xT 23) (nI 0) 3) 22 true,pF 25 22 24,mO 26 25,mG 27 6 26 true,mG 28 1 26 true,oG 29 (bO .lss 3 27 28 3) 26 true,pF 30 26 29,aO 4 13,aO 5 30] [4,5] (.ret)))
theorem RC:BM Tryz.prog 20 31 [(.tmp 4),(.tmp 5)] K5:=AH Tryz.func20
def AD:CC:=sR [bQ .lss 15 3 14 4 3] [0,14,15] (.seq (cD 15 (.skip) (.exit 0)) (.keep [0,14] (.seq (.block 1 (sR [mO 16 14,aO 4 16] [0,4,14] (.reg [mO 17 0,mO 18 4,mO 19 0,nC 20 19,fO 21 34 20 1,lO 22 30 21,cA 23 12 22 30,nC 24 17,fO 25 34 24 2,iO 26 32 25 18,sT 31 26 23] [0,14]))) (.reg [bQ .add 27 3 14 1 3,mO 14 27] [0,14])))) 
def B6:CC:=sR [bX 3 29 1 [20]] [0,3] (sR [mO 5 0,mO 6 0,lS 7 29 3 2,lO 8 29 3,⟨some 9,(cL 11 #[(xT 8)] #[29]),none,[],4,[2],false⟩,nC 10 5,fO 11 34 10 0,sT 29 11 7,nC 12 6,fO 13 34 12 1,sT 30 13 9] [0] (sR [oO 14 (.move (nI 0))] [0,14] (.block 0 (.loop AD))))
theorem Gp:BM Tryz.prog 6 28 [] B6:=AH Tryz.func6
def EZ:CC:=sR [oO 4 (.assign (.const (.string { data:=#[] })))] [0,1] (sQ [mO 7 1] [0,7] (.block 0 (sR [oO 9 (.binOp .eql 9 (xT 7) (.const (.string { data:=#[104,117,98] })) 9),aO 8 9] [0,7,8] (cD 8 (sR [mO 11 0,nC 12 11,fO 13 34 12 1,lO 14 30 13,cA 15 24 14 30,mO 10 15,xO 16 10 0,xO 17 10 1,aL 5 29 [20],sT 29 5 16,aO 6 17] [5,6] (sR [lO 18 29 5,cA 19 30 18 29,oO 20 (.binOp .add 9 (xT 19) (.const (.string { data:=#[32] })) 9),mO 21 6,cA 22 31 21 3,bB .add 23 9 20 22 9,aO 4 23] [4] (.ret))) (sR [oO 25 (.binOp .eql 9 (xT 7) (.const (.string { data:=#[97,108,108] })) 9),aO 24 25] [0,24] (cD 24 (sR [mO 26 0,cA 27 32 26 25,aO 4 27] [4] (.ret)) (.skip)))))) [] (sR [oO 28 (cL 19 #[(nI 16)] #[54]),aO 4 28] [4] (.ret)))
theorem Hy:BM Tryz.prog 16 29 [(.tmp 4)] EZ:=AH Tryz.func16
def G4:CC:=sR [oO 6 (.assign (.const (.string { data:=#[] })))] [0,1,2] (sR [mO 11 2,cA 12 38 11 31,mO 10 12,xO 13 10 0,xO 14 10 1,xO 15 10 2,aL 7 29 [20],aL 9 73 [21],sT 29 7 13,aO 8 14,sT 73 9 15] [0,1,2,7,8,9] (sQ [mO 16 1] [0,2,7,8,9,16] (.block 0 (sR [oO 18 (.binOp .eql 9 (xT 16) (.const (.string { data:=#[115,121,110,99] })) 9),aO 17 18] [0,2,7,8,9,16,17] (cD 17 (sR [mO 19 2,mO 20 0,nC 21 20,fO 22 34 21 1,lO 23 30 22,cB 24 39 19 23 31 30,cA 25 19 24 54,aO 6 25] [6] (.ret)) (sR [oO 27 (.binOp .eql 9 (xT 16) (.const (.string { data:=#[114,101,115,101,116] })) 9),aO 26 27] [0,2,7,8,9,16,26] (cD 26 (sR [mO 28 2,mO 29 0,nC 30 29,fO 31 34 30 1,lO 32 30 31,cB 33 40 28 32 31 30,cA 34 19 33 54,aO 6 34] [6] (.ret)) (sR [oO 36 (.binOp .eql 9 (xT 16) (.const (.string { data:=#[115,104,111,119] })) 9),aO 35 36] [7,8,9,35] (cD 35 (sR [lO 37 29 7,⟨some 38,(cL 30 #[(xT 37)] #[29]),none,[],1,[],true⟩,oO 39 (.binOp .add 9 (xT 38) (.const (.string { data:=#[32] })) 9),mO 40 8,⟨some 41,(cL 31 #[(xT 40)] #[3]),none,[],4,[],true⟩,bB .add 42 9 39 41 9,oO 43 (.binOp .add 9 (xT 42) (.const (.string { data:=#[32] })) 9),⟨some 44,(lD 73 9),none,[],7,[1,4],false⟩,cA 45 41 44 73,bB .add 46 9 43 45 9,aO 6 46] [6] (.ret)) (.skip)))))))) [] (sR [oO 47 (cL 19 #[(nI 16)] #[54]),aO 6 47] [6] (.ret))))
theorem LG:BM Tryz.prog 21 48 [(.tmp 6)] G4:=AH Tryz.func21
def KG:CC:=sQ [mO 45 1,oO 46 (.indexAddr 51 (xT 45) (nI 0)),lO 47 9 46,oO 48 (.binOp .eql 9 (xT 47) (.const (.string { data:=#[112,117,115,104] })) 9)] [0,1,5,48] (cD 48 (sR [mO 50 1,oO 51 (.indexAddr 51 (xT 50) (nI 1)),lO 52 9 51,oO 53 (cL 20 #[(xT 52),(nI 1048576)] #[9,3]),mO 49 53,xO 54 49 0,xO 55 49 1,aO 9 54,aO 10 55] [0,5,9,10] (sR [mO 56 10] [0,5,9,56] (cD 56 (sR [mO 58 0,nC 59 58,fO 60 34 59 1,lO 61 30 60,mO 62 9,lO 63 73 5,cE 64 35 61 62 63 30 3 73,mO 57 64,xO 65 57 0,xO 66 57 1,aO 11 65,aO 12 66] [11,12] (sQ [mO 67 12,bQ .eql 68 54 67 0 54] [11,12,68] (cD 68 (sR [mO 69 11,cA 70 31 69 3,oO 71 (.binOp .add 9 (.const (.string { data:=#[111,107,32] })) (xT 70) 9),aO 4 71] [4] (.ret)) (.skip)) [12] (sR [mO 72 12,cA 73 19 72 54,aO 4 73] [4] (.ret)))) (.skip)))) (.skip)) [] (sR [oO 74 (cL 19 #[(nI 16)] #[54]),aO 4 74] [4] (.ret)) 
def G1:CC:=sR [oO 4 (.assign (.const (.string { data:=#[] })))] [0,1] (sR [mO 14 1,oO 15 (.indexAddr 51 (xT 14) (nI 2)),lO 16 9 15,cA 17 33 16 9,mO 13 17,xO 18 13 0,xO 19 13 1,aL 5 73 [20],sT 73 5 18,aO 6 19] [0,1,5,6] (sQ [mO 20 6,bQ .neq 21 54 20 0 54] [0,1,5,6,21] (cD 21 (sR [mO 22 6,cA 23 19 22 54,aO 4 23] [4] (.ret)) (.skip)) [0,1,5] (sQ [mO 24 1,oO 25 (.indexAddr 51 (xT 24) (nI 0)),lO 26 9 25,oO 27 (.binOp .eql 9 (xT 26) (.const (.string { data:=#[100,111] })) 9)] [0,1,5,27] (cD 27 (sR [mO 29 1,oO 30 (.indexAddr 51 (xT 29) (nI 1)),lO 31 9 30,oO 32 (cL 20 #[(xT 31),(nI 4)] #[9,3]),mO 28 32,xO 33 28 0,xO 34 28 1,aO 7 33,aO 8 34] [0,1,5,7,8] (sR [mO 35 8] [0,1,5,7,35] (cD 35 (sR [mO 36 0,mO 37 7,nC 38 36,fO 39 34 38 2,iO 40 32 39 37,lO 41 31 40,lO 42 73 5,cB 43 34 41 42 31 73,cA 44 19 43 54,aO 4 44] [4] (.ret)) (.skip)))) (.skip)) [0,1,5] KG)))
theorem LK:BM Tryz.prog 17 75 [(.tmp 4)] G1:=AH Tryz.func17
def BR:CC:=sR [oO 4 (.assign (.const (.string { data:=#[] })))] [0,1] (sR [mO 10 1,oO 11 (.call { callee:=(.value (.func 15)),args:=#[(xT 10),(.const (.string { data:=#[32] }))],argTypes:=#[9,9] }),aO 5 11] [0,5] (.seq (.block 0 (sR [mO 13 5,bN 14 13 51,bQ .eql 15 3 14 1 3,aO 12 15] [0,5,12] (cD 12 (sR [mO 16 0,mO 17 5,oO 18 (.indexAddr 51 (xT 17) (nI 0)),lO 19 9 18,cB 20 16 16 19 25 9,aO 4 20] [4] (.ret)) (sR [mO 22 5,bN 23 22 51,bQ .eql 24 3 23 3 3,aO 21 24] [0,5,21] (cD 21 (sR [mO 25 0,mO 26 5,cB 27 17 25 26 25 51,aO 4 27] [4] (.ret)) (sR [mO 29 5,bN 30 29 51,bQ .eql 31 3 30 2 3,mO 32 31,mG 33 5 32 true,oG 34 (.indexAddr 51 (xT 33) (nI 0)) 32 true,lG 35 9 34 32 true,oG 36 (.binOp .eql 9 (xT 35) (.const (.string { data:=#[116,114,101,101] })) 9) 32 true,pF 37 32 36,aO 28 37] [0,5,28] (cD 28 (sR [mO 39 5,oO 40 (.indexAddr 51 (xT 39) (nI 1)),lO 41 9 40,cA 42 18 41 9,mO 38 42,xO 43 38 0,xO 44 38 1,aL 6 29 [20],sT 29 6 43,aO 7 44] [0,6,7] (sQ [mO 45 7,bQ .eql 46 54 45 0 54] [0,6,7,46] (cD 46 (.reg [mO 47 0,lO 48 29 6,cB 49 6 47 48 25 29] [7]) (.skip)) [7] (sR [mO 50 7,cA 51 19 50 54,aO 4 51] [4] (.ret)))) (sR [mO 53 5,bN 54 53 51,bQ .eql 55 3 54 2 3,aO 52 55] [0,5,52] (cD 52 (sR [mO 57 5,oO 58 (.indexAddr 51 (xT 57) (nI 1)),lO 59 9 58,oO 60 (cL 20 #[(xT 59),(nI 4)] #[9,3]),mO 56 60,xO 61 56 0,xO 62 56 1,aO 8 61,aO 9 62] [0,5,8,9] (sR [mO 63 9] [0,5,8,63] (cD 63 (sR [mO 64 0,mO 65 5,oO 66 (.indexAddr 51 (xT 65) (nI 0)),lO 67 9 66,mO 68 0,mO 69 8,nC 70 68,fO 71 34 70 2,iO 72 32 71 69,lO 73 31 72,cE 74 21 64 67 73 25 9 31,aO 4 74] [4] (.ret)) (.skip)))) (.skip)))))))))) (.keep [] (sR [oO 75 (cL 19 #[(nI 16)] #[54]),aO 4 75] [4] (.ret)))))
theorem Cg:BM Tryz.prog 9 76 [(.tmp 4)] BR:=AH Tryz.func9
def Ca:CC:=sQ [mO 8 4,mO 9 0,bB .lss 10 3 8 9 3] [0,3,4,10] (cD 10 (.skip) (.exit 0)) [0,3,4] (.seq (.block 1 (.reg [mO 13 3,oO 14 (.binOp .add 9 (xT 13) (.const (.string { data:=#[120,10] })) 9),aO 3 14] [0,3,4])) (.reg [mO 11 4,bQ .add 12 3 11 1 3,aO 4 12] [0,3,4]))
def Dq:CC:=sR [mO 17 3,cA 18 4 17 9,bN 19 18 9,mO 20 0,oO 21 (.binOp .mul 3 (nI 9) (xT 20) 3),bB .eql 22 3 19 21 3,mO 23 22,oG 24 (cL 5 #[] #[]) 23 true,pF 25 23 24,aO 2 25] [2] (.ret) 
def Fs:CC:=sR [aB 2 false] [0] (sR [mO 5 0,bQ .and 6 3 5 7 3,oO 7 (.binOp .add 3 (nI 197) (xT 6) 3),aO 0 7] [0] (sR [oO 3 (.assign (.const (.string { data:=#[] })))] [0,3] (sQ [aI 4 0] [0,3,4] (.block 0 (.loop Ca)) [0,3] (sQ [mO 15 0,bQ .gtr 16 3 15 200 3] [0,3,16] (cD 16 (.reg [aI 0 200] [0,3]) (.skip)) [0,3] Dq))))
theorem Jt:BM Tryz.prog 3 26 [(.tmp 2)] Fs:=AH Tryz.func3
def G2:CC:=sR [aB 0 false] [] (sR [oO 1 (.call { callee:=(.value (.func 4)),args:=#[(.const (.string { data:=#[116,114,101,101,32,123,49,125,10,100,111,32,48,32,115,123,48,58,49,58,49,58,50,124,125,10,115,121,110,99,32,48,10,104,117,98] }))],argTypes:=#[9] }),oO 2 (.binOp .eql 9 (xT 1) (.const (.string { data:=#[111,107,10,111,107,10,111,107,10,123,50,125,32,49,10] })) 9),aO 0 2] [0] (.ret))
theorem LF:BM Tryz.prog 5 3 [(.tmp 0)] G2:=AH Tryz.func5
end Go.Proofs.YtgkdikddjfgajaaGreatDoor
namespace Go.Proofs.YtgkdikddjfgajaaGreatDoor
set_option maxRecDepth 20000
open Go Go.G Go.Proofs Go.PL Go.RowKit
def kG (cs:List A) (h:∀ x,x ∈ cs→Eo x):FamK 1:=⟨fun _ _ p=>if p=[] then ⟨1,.cells cs⟩ else ⟨0,.none⟩,fun t i hi p=>by
  split
  ·simp[VOb.ren,Ob.ren,(BO h).1]
  ·rfl,fun t i hi p=>by
  split
  ·exact(BO h).2 _
  ·trivial⟩
@[simp] theorem eE {cs:List A} {h:∀ x,x ∈ cs→Eo x} {ρ:Fo} {i:Nat} {p:Nm}:(kG cs h).F ρ i p=if p=[] then ⟨1,.cells cs⟩ else ⟨0,.none⟩:=rfl
theorem JI {t:T}:Eo (tX t):=H8 fun x hx=>by
 simp at hx;rcases hx with rfl | rfl | rfl<;>simp
def LO (l:List E):A:=.sl l.isEmpty (l.map eX)
theorem bc {l:List E}:Eo (LO l):=by
 unfold LO;simp
def Ip (t:T) (l:List E):List A:=tL t++[LO l]
theorem Nu {t:T} {l:List E}:∀ x,x ∈ Ip t l→Eo x:=fun x hx=>by
 simp only[Ip,List.mem_append,List.mem_cons,List.not_mem_nil,or_false] at hx;rcases hx with (rfl | rfl | rfl) | rfl
 ·simp
 ·simp
 ·simp
 ·exact bc
def Lm (t:T) (l:List E):FamK 1:=kG (Ip t l) Nu
def EM (t:T) (n:Int) (e:E):List A:=tL t++[iv n]++eL e
theorem QG {t:T} {n:Int} {e:E}:∀ x,x ∈ EM t n e→Eo x:=fun x hx=>by
 simp only[EM,List.mem_append,List.mem_cons,List.not_mem_nil,or_false] at hx;rcases hx with ((rfl | rfl | rfl) | rfl) | (rfl | rfl | rfl | rfl | rfl | rfl | rfl | rfl | rfl | rfl | rfl)<;>simp
def K2 (t:T) (n:Int) (e:E):FamK 1:=kG (EM t n e) QG
@[simp] theorem AcW {t:T} {l:List E} {ρ:Fo} {i:Nat} {p:Nm}:(Lm t l).F ρ i p=if p=[] then ⟨1,.cells (Ip t l)⟩ else ⟨0,.none⟩:=rfl
@[simp] theorem zU {t:T} {n:Int} {e:E} {ρ:Fo} {i:Nat} {p:Nm}:(K2 t n e).F ρ i p=if p=[] then ⟨1,.cells (EM t n e)⟩ else ⟨0,.none⟩:=rfl
theorem NZ {t:T} (hw:CG t) (hr:Ay 64 t=true) (hk:t.kind ≠ 10):SpecK Tryz.prog 11 0 1 (fun _=>[tX t]) FamK.no (fun ρ=>.pob [ρ 0] 1 0) (Lm (Aq t) []):=by
 refine Bq bF (by simp) (by omega) (Hz fun x hx=>?_) (B4 (i:=0) (by omega)) (fun i _ _ p=>?_) fun w0 I0 M0 m0 hM=>?_
 ·simp at hx;subst hx;exact JI
 ·simp;split<;>simp
 ·unfold Sv;simp;refine Af (E8 hw) (by simp) ?_;rw[hr];simp[hk];refine Af (Hj t hw) (by simp) ?_;simp;refine Bf (r0:=.pob [0] 1 0) (by simp) rfl fun i hi p=>?_;have:i=0:=by omega
  subst this;by_cases p0:p=[]
  ·subst p0;simp[Ip,LO]
  ·simp[p0,Aa]
theorem Oz {t:T} {l:List E}:SpecK Tryz.prog 24 1 1 (fun ρ=>[.pob [ρ 0] 1 0]) (Lm t l) (fun _=>.tup [tX t,iv l.length]) (Lm t l):=by
 refine Bq RB (by simp) (by omega) (A3 (B4 (i:=0) (by omega)) EH) (DR (GR fun x hx=>?_)) (fun i h1 h2 p=>by omega) fun w0 I0 M0 m0 hM=>?_
 ·simp only[List.mem_cons,List.not_mem_nil,or_false] at hx;rcases hx with rfl | rfl
  ·exact JI
  ·simp
 ·unfold KN;simp[Ip,LO];refine Bf (r0:=.tup [tX t,iv l.length]) (by simp) rfl fun i hi p=>?_;have:i=0:=by omega
  subst this;by_cases p0:p=[]
  ·subst p0;simp[Ip,LO]
  ·simp[p0,Aa]
theorem TB {t:T} {n:Int} {e:E}:SpecK Tryz.prog 38 1 1 (fun ρ=>[.pob [ρ 0] 1 0]) (K2 t n e) (fun _=>.tup [tX t,iv n,eX e]) (K2 t n e):=by
 refine Bq Qc (by simp) (by omega) (A3 (B4 (i:=0) (by omega)) EH) (DR (GR fun x hx=>?_)) (fun i h1 h2 p=>by omega) fun w0 I0 M0 m0 hM=>?_
 ·simp only[List.mem_cons,List.not_mem_nil,or_false] at hx;rcases hx with rfl | rfl | rfl
  ·exact JI
  ·simp
  ·exact H8 fun x hx=>by
    simp only[List.mem_cons,List.not_mem_nil,or_false] at hx;rcases hx with rfl | rfl | rfl | rfl | rfl | rfl | rfl | rfl | rfl | rfl | rfl<;>simp
 ·unfold JD;simp[EM];refine Bf (r0:=.tup [tX t,iv n,eX e]) (by simp) rfl fun i hi p=>?_;have:i=0:=by omega
  subst this;by_cases p0:p=[]
  ·subst p0;simp[EM]
  ·simp[p0,Aa]
theorem Cq {t:T} {l:List E}:SpecK Tryz.prog 12 1 2 (fun ρ=>[.pob [ρ 0] 1 0]) (Lm t l) (fun ρ=>.pob [ρ 1] 1 0) ((Lm t l).app (K2 t l.length E0)):=by
 refine Bq Xe (by simp) (by omega) (A3 (B4 (i:=0) (by omega)) EH) (B4 (i:=1) (by omega)) (fun i h1 h2 p=>?_) fun w0 I0 M0 m0 hM=>?_
 ·have:i=1:=by omega
  subst this;rw[A9 (by omega)];simp;split<;>simp
 ·unfold P5;simp;refine BD [0] (Oz (t:=t) (l:=l)) (by simp) (fun i hi p=>?_) (fun i h1 h2=>by simp at h2;omega) (by simp) (by simp) ?_
  ·have:i=0:=by omega
   subst this;simp
  simp;refine DQ (Uq (d:=[1]) (u:=1) (cs:=[iv t.kind,Gn t.words,DY t.kids,iv l.length,iv 0,iv 0,.sl true [],.sl true [],iv 0,.sl true [],.sl true [],.sl true [],.sl true [],iv 0,.sl true []]) (by simp)) (Bf (r0:=.pob [1] 1 0) (by simp) rfl fun i hi p=>?_);have:i=0∨i=1:=by omega
  rcases this with rfl | rfl
  ·rw[Bg (by omega)];by_cases p0:p=[]
   ·subst p0;simp[Ip,LO]
   ·simp[p0,Aa]
  ·rw[A9 (by omega)];by_cases p0:p=[]
   ·subst p0;simp[EM,A.softL,A.soft,IU,JW]
   ·simp[p0,Aa]
end Go.Proofs.YtgkdikddjfgajaaGreatDoor
namespace Go.PL
open Go
def Q4 (list:Int) (e:E):Bool:=decide (e.kind=0) || (decide (list=9)&&decide (e.kind=2)&&e.words.isEmpty&&e.kids.isEmpty)
def wC (g:List T):List OP:=if g=[] then [] else [.mk 1 0 g E0]
def ug (b:List T):List OP:=if b=[] then [] else [.mk 2 0 b E0]
def mi (out:List OP) (g b:List T):List OP:=out++(wC g++ug b)
def mr (out:List OP) (n:Int):List OP:=match out.getLast? with
 |some (.mk 0 m l e)=>out.dropLast++[.mk 0 (i64.wrap (m+n)) l e]
 |_=>out++[.mk 0 n [] E0]
def NY (list:Int):List OP→List OP→List T→List T→List OP
 |[],out,g,b=>mi out g b
 |o::os,out,g,b=>
  if o.kind=0 then NY list os (mr (mi out g b) o.n) [] []
  else if o.kind=1 then NY list os out (g++o.l.map Aq) b
  else if o.kind=2 then NY list os out g (b++o.l.map Aq)
  else if Q4 list o.e=true then NY list os (mr (mi out g b) 1) [] []
  else NY list os (mi out g b++[.mk 3 0 [] o.e]) [] []
mutual
def Km:E→E
 |.mk k o n ws ks l os=>if k=1 then .mk 1 (Aq o) (Aq n) [] [] 0 [] else if k=2 then .mk 2 T0 T0 ws (fy ks) 0 [] else if k=3 then .mk 3 T0 T0 [] [] l (NY l (fH os) [] [] []) else E0
def fy:List KE→List KE
 |[]=>[]
 |.mk a e::l=>.mk a (Km e)::fy l
def fH:List OP→List OP
 |[]=>[]
 |.mk k n t e::l=>.mk k n t (Km e)::fH l
end
def jL (x:KE):KE:=.mk x.at_ (Km x.e)
def jJ (x:OP):OP:=.mk x.kind x.n x.l (Km x.e)
theorem Uu:∀ l,fy l=l.map jL
 |[]=>by simp[fy]
 |.mk a e::l=>by rw[fy,Uu l];rfl
theorem Wt:∀ l,fH l=l.map jJ
 |[]=>by simp[fH]
 |.mk k n t e::l=>by rw[fH,Wt l];rfl
theorem gU (k:Int) (o n:T) (ws:List WE) (ks:List KE) (l:Int) (os:List OP):Km (.mk k o n ws ks l os)=if k=1 then .mk 1 (Aq o) (Aq n) [] [] 0 [] else if k=2 then .mk 2 T0 T0 ws (ks.map jL) 0 [] else if k=3 then .mk 3 T0 T0 [] [] l (NY l (os.map jJ) [] [] []) else E0:=by
 rw[Km,Uu,Wt]
end Go.PL
