/-
 Texts,merged,without what is not reached.
-/
import Derived.Test.YtndnlknocdangaaGreatKNc
set_option linter.unusedSimpArgs false
set_option linter.unusedVariables false
open Go.IntKind (i64 u64)
namespace Go.Proofs.YtndnlknocdangaaGreat
set_option maxRecDepth 20000
open Go Go.G Go.Proofs
@[simp] theorem AhF:Tryz.prog.underlying 9=some .string:=by kernel_rfl
@[simp] theorem AdI:Tryz.prog.underlying 138=some (.int .u64):=by kernel_rfl
@[simp] theorem Ad4:Tryz.prog.underlying 267=some (.int .i64):=by kernel_rfl
@[simp] theorem AeY:Tryz.prog.underlying 274=some (.int .u32):=by kernel_rfl
@[simp] theorem Ael:Tryz.prog.underlying 276=some (.int .u64):=by kernel_rfl
@[simp] theorem Afh:CX Tryz.prog 276=some 1:=by kernel_rfl
@[simp] theorem Aau:Dj Tryz.prog 276=some false:=by kernel_rfl
@[simp] theorem zO:Bh Tryz.prog 276=some (Value.int u64 0):=by kernel_rfl
def IA:CC:=sQ [mO 13 0,oO 14 (.binOp .geq 61 (xT 13) (.const (.int .u64 256)) 61)] [0,2,14] (cD 14 (sR [mO 15 0,oO 16 (.binOp .shr 61 (xT 15) (.const (.int .u64 8)) 138),aO 0 16] [0,2] (.reg [mO 17 2,bQ .add 18 3 17 8 3,aO 2 18] [0,2])) (.skip)) [0,2] (sR [mO 19 2,mO 20 0,oO 21 (.convert 61 5 (xT 20)),oO 22 (.index 9 (.const (.string { data:=#[0,1,2,2,3,3,3,3,4,4,4,4,4,4,4,4,5,5,5,5,5,5,5,5,5,5,5,5,5,5,5,5,6,6,6,6,6,6,6,6,6,6,6,6,6,6,6,6,6,6,6,6,6,6,6,6,6,6,6,6,6,6,6,6,7,7,7,7,7,7,7,7,7,7,7,7,7,7,7,7,7,7,7,7,7,7,7,7,7,7,7,7,7,7,7,7,7,7,7,7,7,7,7,7,7,7,7,7,7,7,7,7,7,7,7,7,7,7,7,7,7,7,7,7,7,7,7,7,8,8,8,8,8,8,8,8,8,8,8,8,8,8,8,8,8,8,8,8,8,8,8,8,8,8,8,8,8,8,8,8,8,8,8,8,8,8,8,8,8,8,8,8,8,8,8,8,8,8,8,8,8,8,8,8,8,8,8,8,8,8,8,8,8,8,8,8,8,8,8,8,8,8,8,8,8,8,8,8,8,8,8,8,8,8,8,8,8,8,8,8,8,8,8,8,8,8,8,8,8,8,8,8,8,8,8,8,8,8,8,8,8,8,8,8,8,8,8,8,8,8,8,8,8,8,8,8] })) (xT 21)),oO 23 (.convert 5 3 (xT 22)),bB .add 24 3 19 23 3,aO 2 24] [2] (.ret))
def II:CC:=sQ [mO 7 0,oO 8 (.binOp .geq 61 (xT 7) (.const (.int .u64 65536)) 61)] [0,2,8] (cD 8 (sR [mO 9 0,oO 10 (.binOp .shr 61 (xT 9) (.const (.int .u64 16)) 138),aO 0 10] [0,2] (.reg [mO 11 2,bQ .add 12 3 11 16 3,aO 2 12] [0,2])) (.skip)) [0,2] IA 
def I6:CC:=sR [aI 2 0] [0,2] (sQ [mO 3 0,oO 4 (.binOp .geq 61 (xT 3) (.const (.int .u64 4294967296)) 61)] [0,2,4] (cD 4 (sR [mO 5 0,oO 6 (.binOp .shr 61 (xT 5) (.const (.int .u64 32)) 138),aO 0 6] [0] (.reg [aI 2 32] [0,2])) (.skip)) [0,2] II)
theorem Pw:BU Tryz.prog 217 25 [(.tmp 2)] I6:=AH Tryz.func217
def KM:CC:=sR [aI 2 0] [0] (.seq (.cond (nB false) (sR [mO 3 0,oO 4 (.convert 138 274 (xT 3)),cA 5 216 4 274,aO 2 5] [2] (.ret)) (.skip)) (.keep [0] (sR [mO 6 0,cA 7 217 6 61,aO 2 7] [2] (.ret))))
theorem Ri:BU Tryz.prog 206 8 [(.tmp 2)] KM:=AH Tryz.func206
def A0:CC:=sQ [mO 18 9,mO 19 1,bB .gtr 20 3 18 19 3,mO 21 20,mG 22 3 21 true,mG 23 0 21 true,mG 24 9 21 true,oG 25 (iA 233 23 24) 21 true,lG 26 235 25 21 true,mG 27 0 21 true,mG 28 9 21 true,oG 29 (.binOp .sub 3 (xT 28) (nI 1) 3) 21 true,oG 30 (iA 233 27 29) 21 true,lG 31 235 30 21 true,oG 32 (.call { callee:=(.value (xT 22)),args:=#[(xT 26),(xT 31)],argTypes:=#[235,235] }) 21 true,oG 33 (.binOp .lss 3 (xT 32) (nI 0) 3) 21 true,pF 34 21 33] [0,1,2,3,8,9,34] (cD 34 (.skip) (.exit 2)) [0,1,2,3,8,9] (.seq (.block 3 (.reg [mO 37 0,mO 38 9,mO 39 0,mO 40 9,bQ .sub 41 3 40 1 3,mO 42 0,mO 43 9,bQ .sub 44 3 43 1 3,iO 45 233 42 44,lO 46 235 45,mO 47 0,mO 48 9,iO 49 233 47 48,lO 50 235 49,iO 51 233 37 38,sT 235 51 46,iO 52 233 39 41,sT 235 52 50] [0,1,2,3,8,9])) (.reg [mO 35 9,bQ .sub 36 3 35 1 3,aO 9 36] [0,1,2,3,8,9]))
def A4:CC:=sQ [mO 12 8,mO 13 2,bB .lss 14 3 12 13 3] [0,1,2,3,8,14] (cD 14 (.skip) (.exit 0)) [0,1,2,3,8] (.seq (.block 1 (sR [mO 17 8,aO 9 17] [0,1,2,3,8,9] (.block 2 (.loop A0)))) (.keep [0,1,2,3,8] (.reg [mO 15 8,bQ .add 16 3 15 1 3,aO 8 16] [0,1,2,3,8]))) 
def Ct:CC:=sR [mO 10 1,bQ .add 11 3 10 1 3,aO 8 11] [0,1,2,3,8] (.block 0 (.loop A4))
theorem EK:BU Tryz.prog 208 53 [] Ct:=AH Tryz.func208
def F6:CC:=sR [oO 2 (.assign (.const (.int .u64 0)))] [0] (sR [mO 3 0,oO 4 (.convert 3 138 (xT 3)),cA 5 206 4 138,oO 6 (.binOp .shl 138 (.const (.int .u64 1)) (xT 5) 3),aO 2 6] [2] (.ret))
theorem J3:BU Tryz.prog 219 7 [(.tmp 2)] F6:=AH Tryz.func219
def GG:CC:=sR [oO 2 (.assign (.const (.int .u64 0)))] [0] (sR [mO 3 0,nC 4 3,lO 5 276 4,mO 6 0,nC 7 6,lO 8 276 7,oO 9 (.binOp .shl 276 (xT 8) (.const (.int .u64 13)) 138),bB .xor 10 276 5 9 276,nC 11 3,sT 276 11 10] [0] (sR [mO 12 0,nC 13 12,lO 14 276 13,mO 15 0,nC 16 15,lO 17 276 16,oO 18 (.binOp .shr 276 (xT 17) (.const (.int .u64 7)) 138),bB .xor 19 276 14 18 276,nC 20 12,sT 276 20 19] [0] (sR [mO 21 0,nC 22 21,lO 23 276 22,mO 24 0,nC 25 24,lO 26 276 25,oO 27 (.binOp .shl 276 (xT 26) (.const (.int .u64 17)) 138),bB .xor 28 276 23 27 276,nC 29 21,sT 276 29 28] [0] (sR [mO 30 0,nC 31 30,lO 32 276 31,aO 2 32] [2] (.ret)))))
theorem Ke:BU Tryz.prog 220 33 [(.tmp 2)] GG:=AH Tryz.func220
def Bx:CC:=.reg [mO 49 0,mO 50 11,mO 51 0,mO 52 1,mO 53 12,bB .add 54 3 52 53 3,mO 55 0,mO 56 1,mO 57 12,bB .add 58 3 56 57 3,iO 59 233 55 58,lO 60 235 59,mO 61 0,mO 62 11,iO 63 233 61 62,lO 64 235 63,iO 65 233 49 50,sT 235 65 60,iO 66 233 51 54,sT 235 66 64] [0,1,8,9,10,11]
def Ap:CC:=sQ [mO 28 11,mO 29 1,mO 30 8,bQ .quo 31 3 30 4 3,bQ .mul 32 3 31 2 3,bB .add 33 3 29 32 3,bQ .add 34 3 33 1 3,bB .leq 35 3 28 34 3] [0,1,8,9,10,11,35] (cD 35 (.skip) (.exit 0)) [0,1,8,9,10,11] (.seq (.block 1 (sR [cA 38 220 9 276,mO 39 10,oO 40 (.binOp .sub 138 (xT 39) (.const (.int .u64 1)) 138),bB .and 41 138 38 40 138,oO 42 (.convert 138 3 (xT 41)),aO 12 42] [0,1,8,9,10,11,12] (sQ [mO 43 12,mO 44 8,bB .geq 45 3 43 44 3] [0,1,8,9,10,11,12,45] (cD 45 (.reg [mO 46 12,mO 47 8,bB .sub 48 3 46 47 3,aO 12 48] [0,1,8,9,10,11,12]) (.skip)) [0,1,8,9,10,11,12] Bx))) (.keep [0,1,8,9,10,11] (.reg [mO 36 11,bQ .add 37 3 36 1 3,aO 11 37] [0,1,8,9,10,11]))) 
def Cu:CC:=sR [mO 13 2,mO 14 1,bB .sub 15 3 13 14 3,aO 8 15] [0,1,8] (sR [mO 16 8,bQ .geq 17 3 16 8 3] [0,1,8,17] (cD 17 (sR [mO 18 8,oO 19 (.convert 3 276 (xT 18)),aL 9 276 [1],sT 276 9 19] [0,1,8,9] (sR [mO 20 8,cA 21 219 20 3,aO 10 21] [0,1,8,9,10] (sR [mO 22 1,mO 23 8,bQ .quo 24 3 23 4 3,bQ .mul 25 3 24 2 3,bB .add 26 3 22 25 3,bQ .sub 27 3 26 1 3,aO 11 27] [0,1,8,9,10,11] (.block 0 (.loop Ap))))) (.skip)))
theorem EM:BU Tryz.prog 210 67 [] Cu:=AH Tryz.func210
def Dp:CC:=sR [aI 10 0,aI 11 0] [0,1,2,3,4] (sQ [mO 12 4,mO 13 0,mO 14 2,iO 15 233 13 14,lO 16 235 15,mO 17 0,mO 18 1,iO 19 233 17 18,lO 20 235 19,oO 21 (.call { callee:=(.value (xT 12)),args:=#[(xT 16),(xT 20)],argTypes:=#[235,235] }),bQ .lss 22 3 21 0 3] [1,2,3,22] (cD 22 (sR [mO 23 3,nC 24 23,lO 25 3 24,bQ .add 26 3 25 1 3,nC 27 23,sT 3 27 26] [1,2] (sR [mO 28 2,mO 29 1,aO 10 28,aO 11 29] [10,11] (.ret))) (.skip)) [1,2] (sR [mO 30 1,mO 31 2,aO 10 30,aO 11 31] [10,11] (.ret)))
theorem Gw:BU Tryz.prog 223 32 [(.tmp 10),(.tmp 11)] Dp:=AH Tryz.func223
def Dk:CC:=sR [aI 12 0] [0,1,2,3,4,5] (sR [mO 14 0,mO 15 1,mO 16 2,mO 17 4,mO 18 5,oO 19 (cL 223 #[(xT 14),(xT 15),(xT 16),(xT 17),(xT 18)] #[233,3,3,280,254]),mO 13 19,xO 20 13 0,xO 21 13 1,aO 1 20,aO 2 21] [0,1,2,3,4,5] (sR [mO 23 0,mO 24 2,mO 25 3,mO 26 4,mO 27 5,oO 28 (cL 223 #[(xT 23),(xT 24),(xT 25),(xT 26),(xT 27)] #[233,3,3,280,254]),mO 22 28,xO 29 22 0,xO 30 22 1,aO 2 29,aO 3 30] [0,1,2,4,5] (sR [mO 32 0,mO 33 1,mO 34 2,mO 35 4,mO 36 5,oO 37 (cL 223 #[(xT 32),(xT 33),(xT 34),(xT 35),(xT 36)] #[233,3,3,280,254]),mO 31 37,xO 38 31 0,xO 39 31 1,aO 1 38,aO 2 39] [2] (sR [mO 40 2,aO 12 40] [12] (.ret)))))
theorem Gu:BU Tryz.prog 222 41 [(.tmp 12)] Dk:=AH Tryz.func222
def Cw:CC:=sR [lO 55 3 11] [13,55] (.block 0 (sR [bQ .eql 58 3 55 0 3,aO 57 58] [13,55,57] (cD 57 (sR [mO 59 13,aO 8 59,aI 9 1] [8,9] (.ret)) (sR [bQ .eql 61 3 55 12 3,aO 60 61] [13,60] (cD 60 (sR [mO 62 13,aO 8 62,aI 9 2] [8,9] (.ret)) (sR [mO 56 13,aO 8 56,aI 9 0] [8,9] (.ret))))))) 
def CI:CC:=sR [aI 8 0,aI 9 0] [0,1,2,3] (sR [mO 15 2,mO 16 1,bB .sub 17 3 15 16 3,aO 10 17] [0,1,3,10] (sR [aL 11 3 [1]] [0,1,3,10,11] (sR [mO 18 1,mO 19 10,bQ .quo 20 3 19 4 3,bQ .mul 21 3 20 1 3,bB .add 22 3 18 21 3,aO 12 22] [0,1,3,10,11,12] (sR [mO 23 1,mO 24 10,bQ .quo 25 3 24 4 3,bQ .mul 26 3 25 2 3,bB .add 27 3 23 26 3,aO 13 27] [0,1,3,10,11,12,13] (sR [mO 28 1,mO 29 10,bQ .quo 30 3 29 4 3,bQ .mul 31 3 30 3 3,bB .add 32 3 28 31 3,aO 14 32] [0,3,10,11,12,13,14] (sQ [mO 33 10,bQ .geq 34 3 33 8 3] [0,3,10,11,12,13,14,34] (cD 34 (sQ [mO 35 10,bQ .geq 36 3 35 50 3] [0,3,11,12,13,14,36] (cD 36 (sR [mO 37 0,mO 38 12,mO 39 3,oO 40 (cL 221 #[(xT 37),(xT 38),(xT 11),(xT 39)] #[233,3,280,254]),aO 12 40] [0,3,11,12,13,14] (sR [mO 41 0,mO 42 13,mO 43 3,oO 44 (cL 221 #[(xT 41),(xT 42),(xT 11),(xT 43)] #[233,3,280,254]),aO 13 44] [0,3,11,12,13,14] (.reg [mO 45 0,mO 46 14,mO 47 3,oO 48 (cL 221 #[(xT 45),(xT 46),(xT 11),(xT 47)] #[233,3,280,254]),aO 14 48] [0,3,11,12,13,14]))) (.skip)) [0,3,11,12,13,14] (.reg [mO 49 0,mO 50 12,mO 51 13,mO 52 14,mO 53 3,oO 54 (cL 222 #[(xT 49),(xT 50),(xT 51),(xT 52),(xT 11),(xT 53)] #[233,3,3,3,280,254]),aO 13 54] [11,13])) (.skip)) [11,13] Cw))))))
theorem Fe:BU Tryz.prog 211 63 [(.tmp 8),(.tmp 9)] CI:=AH Tryz.func211
def AI:CC:=sQ [mO 13 8,mO 14 9,bB .lss 15 3 13 14 3] [0,8,9,15] (cD 15 (.skip) (.exit 0)) [0,8,9] (.block 1 (sR [mO 16 0,mO 17 8,mO 18 0,mO 19 9,mO 20 0,mO 21 9,iO 22 233 20 21,lO 23 235 22,mO 24 0,mO 25 8,iO 26 233 24 25,lO 27 235 26,iO 28 233 16 17,sT 235 28 23,iO 29 233 18 19,sT 235 29 27] [0,8,9] (sR [mO 30 8,bQ .add 31 3 30 1 3,aO 8 31] [0,8,9] (.reg [mO 32 9,bQ .sub 33 3 32 1 3,aO 9 33] [0,8,9])))) 
def CB:CC:=sR [mO 10 1,aO 8 10] [0,2,8] (sR [mO 11 2,bQ .sub 12 3 11 1 3,aO 9 12] [0,8,9] (.block 0 (.loop AI)))
theorem EN:BU Tryz.prog 212 34 [] CB:=AH Tryz.func212
def Av:CC:=sQ [mO 19 9,mO 20 2,bB .lss 21 3 19 20 3,mO 22 21,mG 23 3 22 true,mG 24 0 22 true,mG 25 9 22 true,oG 26 (iA 233 24 25) 22 true,lG 27 235 26 22 true,mG 28 0 22 true,mG 29 9 22 true,oG 30 (.binOp .sub 3 (xT 29) (nI 1) 3) 22 true,oG 31 (iA 233 28 30) 22 true,lG 32 235 31 22 true,oG 33 (.call { callee:=(.value (xT 23)),args:=#[(xT 27),(xT 32)],argTypes:=#[235,235] }) 22 true,oG 34 (.binOp .lss 3 (xT 33) (nI 0) 3) 22 true,oG 35 (.unOp .not 4 (xT 34)) 22 true,pF 36 22 35] [0,1,2,3,9,10,36] (cD 36 (.skip) (.exit 2)) [0,1,2,3,9,10] (.block 3 (.reg [mO 37 9,bQ .add 38 3 37 1 3,aO 9 38] [0,1,2,3,9,10]))
def Dt:CC:=sQ [mO 68 11,bQ .geq 69 3 68 1 3] [0,1,2,3,9,10,11,69] (cD 69 (.skip) (.exit 4)) [0,1,2,3,9,10,11] (.seq (.block 5 (sQ [mO 72 3,mO 73 0,mO 74 11,iO 75 233 73 74,lO 76 235 75,mO 77 0,mO 78 11,bQ .sub 79 3 78 1 3,iO 80 233 77 79,lO 81 235 80,oO 82 (.call { callee:=(.value (xT 72)),args:=#[(xT 76),(xT 81)],argTypes:=#[235,235] }),bQ .lss 83 3 82 0 3,oO 84 (.unOp .not 4 (xT 83))] [0,1,2,3,9,10,11,84] (cD 84 (.exit 4) (.skip)) [0,1,2,3,9,10,11] (.reg [mO 85 0,mO 86 11,mO 87 0,mO 88 11,bQ .sub 89 3 88 1 3,mO 90 0,mO 91 11,bQ .sub 92 3 91 1 3,iO 93 233 90 92,lO 94 235 93,mO 95 0,mO 96 11,iO 97 233 95 96,lO 98 235 97,iO 99 233 85 86,sT 235 99 94,iO 100 233 87 89,sT 235 100 98] [0,1,2,3,9,10,11]))) (.keep [0,1,2,3,9,10,11] (.reg [mO 70 11,bQ .sub 71 3 70 1 3,aO 11 71] [0,1,2,3,9,10,11])))
def Dq:CC:=sQ [mO 107 12,mO 108 2,bB .lss 109 3 107 108 3] [0,1,2,3,9,10,12,109] (cD 109 (.skip) (.exit 6)) [0,1,2,3,9,10,12] (.seq (.block 7 (sQ [mO 112 3,mO 113 0,mO 114 12,iO 115 233 113 114,lO 116 235 115,mO 117 0,mO 118 12,bQ .sub 119 3 118 1 3,iO 120 233 117 119,lO 121 235 120,oO 122 (.call { callee:=(.value (xT 112)),args:=#[(xT 116),(xT 121)],argTypes:=#[235,235] }),bQ .lss 123 3 122 0 3,oO 124 (.unOp .not 4 (xT 123))] [0,1,2,3,9,10,12,124] (cD 124 (.exit 6) (.skip)) [0,1,2,3,9,10,12] (.reg [mO 125 0,mO 126 12,mO 127 0,mO 128 12,bQ .sub 129 3 128 1 3,mO 130 0,mO 131 12,bQ .sub 132 3 131 1 3,iO 133 233 130 132,lO 134 235 133,mO 135 0,mO 136 12,iO 137 233 135 136,lO 138 235 137,iO 139 233 125 126,sT 235 139 134,iO 140 233 127 129,sT 235 140 138] [0,1,2,3,9,10,12]))) (.keep [0,1,2,3,9,10,12] (.reg [mO 110 12,bQ .add 111 3 110 1 3,aO 12 111] [0,1,2,3,9,10,12])))
def Dn:CC:=sR [mO 101 2,mO 102 9,bB .sub 103 3 101 102 3,bQ .geq 104 3 103 2 3] [0,1,2,3,9,10,104] (cD 104 (sR [mO 105 9,bQ .add 106 3 105 1 3,aO 12 106] [0,1,2,3,9,10,12] (.block 6 (.loop Dq))) (.skip))
def BM:CC:=sQ [mO 15 10,bQ .lss 16 3 15 5 3] [0,1,2,3,9,10,16] (cD 16 (.skip) (.exit 0)) [0,1,2,3,9,10] (.seq (.block 1 (.seq (.block 2 (.loop Av)) (.keep [0,1,2,3,9,10] (sQ [mO 39 9,mO 40 2,bB .eql 41 3 39 40 3] [0,1,2,3,9,10,41] (cD 41 (sR [aB 8 true] [8] (.ret)) (.skip)) [0,1,2,3,9,10] (sQ [mO 42 2,mO 43 1,bB .sub 44 3 42 43 3,bQ .lss 45 3 44 50 3] [0,1,2,3,9,10,45] (cD 45 (sR [aB 8 false] [8] (.ret)) (.skip)) [0,1,2,3,9,10] (sR [mO 46 0,mO 47 9,mO 48 0,mO 49 9,bQ .sub 50 3 49 1 3,mO 51 0,mO 52 9,bQ .sub 53 3 52 1 3,iO 54 233 51 53,lO 55 235 54,mO 56 0,mO 57 9,iO 58 233 56 57,lO 59 235 58,iO 60 233 46 47,sT 235 60 55,iO 61 233 48 50,sT 235 61 59] [0,1,2,3,9,10] (sQ [mO 62 9,mO 63 1,bB .sub 64 3 62 63 3,bQ .geq 65 3 64 2 3] [0,1,2,3,9,10,65] (cD 65 (sR [mO 66 9,bQ .sub 67 3 66 1 3,aO 11 67] [0,1,2,3,9,10,11] (.block 4 (.loop Dt))) (.skip)) [0,1,2,3,9,10] Dn))))))) (.keep [0,1,2,3,9,10] (.reg [mO 17 10,bQ .add 18 3 17 1 3,aO 10 18] [0,1,2,3,9,10]))) 
def BQ:CC:=sR [aB 8 false] [0,1,2,3] (sR [mO 13 1,bQ .add 14 3 13 1 3,aO 9 14] [0,1,2,3,9] (sQ [aI 10 0] [0,1,2,3,9,10] (.block 0 (.loop BM)) [] (sR [aB 8 false] [8] (.ret))))
theorem Dw:BU Tryz.prog 213 141 [(.tmp 8)] BQ:=AH Tryz.func213
def AG:CC:=sQ [mO 31 11,mO 32 12,bB .leq 33 3 31 32 3,mO 34 33,mG 35 4 34 true,mG 36 0 34 true,mG 37 1 34 true,oG 38 (iA 233 36 37) 34 true,lG 39 235 38 34 true,mG 40 0 34 true,mG 41 11 34 true,oG 42 (iA 233 40 41) 34 true,lG 43 235 42 34 true,oG 44 (.call { callee:=(.value (xT 35)),args:=#[(xT 39),(xT 43)],argTypes:=#[235,235] }) 34 true,oG 45 (.binOp .lss 3 (xT 44) (nI 0) 3) 34 true,oG 46 (.unOp .not 4 (xT 45)) 34 true,pF 47 34 46] [0,1,4,11,12,47] (cD 47 (.skip) (.exit 2)) [0,1,4,11,12] (.block 3 (.reg [mO 48 11,bQ .add 49 3 48 1 3,aO 11 49] [0,1,4,11,12]))
def AF:CC:=sQ [mO 50 11,mO 51 12,bB .leq 52 3 50 51 3,mO 53 52,mG 54 4 53 true,mG 55 0 53 true,mG 56 1 53 true,oG 57 (iA 233 55 56) 53 true,lG 58 235 57 53 true,mG 59 0 53 true,mG 60 12 53 true,oG 61 (iA 233 59 60) 53 true,lG 62 235 61 53 true,oG 63 (.call { callee:=(.value (xT 54)),args:=#[(xT 58),(xT 62)],argTypes:=#[235,235] }) 53 true,oG 64 (.binOp .lss 3 (xT 63) (nI 0) 3) 53 true,pF 65 53 64] [0,1,4,11,12,65] (cD 65 (.skip) (.exit 4)) [0,1,4,11,12] (.block 5 (.reg [mO 66 12,bQ .sub 67 3 66 1 3,aO 12 67] [0,1,4,11,12]))
def Br:CC:=.block 1 (.seq (.block 2 (.loop AG)) (.keep [0,1,4,11,12] (.seq (.block 4 (.loop AF)) (.keep [0,1,4,11,12] (sQ [mO 68 11,mO 69 12,bB .gtr 70 3 68 69 3] [0,1,4,11,12,70] (cD 70 (.exit 0) (.skip)) [0,1,4,11,12] (sR [mO 71 0,mO 72 11,mO 73 0,mO 74 12,mO 75 0,mO 76 12,iO 77 233 75 76,lO 78 235 77,mO 79 0,mO 80 11,iO 81 233 79 80,lO 82 235 81,iO 83 233 71 72,sT 235 83 78,iO 84 233 73 74,sT 235 84 82] [0,1,4,11,12] (sR [mO 85 11,bQ .add 86 3 85 1 3,aO 11 86] [0,1,4,11,12] (.reg [mO 87 12,bQ .sub 88 3 87 1 3,aO 12 88] [0,1,4,11,12])))))))) 
def Cm:CC:=sR [aI 10 0] [0,1,2,3,4] (sR [mO 13 0,mO 14 1,mO 15 0,mO 16 3,mO 17 0,mO 18 3,iO 19 233 17 18,lO 20 235 19,mO 21 0,mO 22 1,iO 23 233 21 22,lO 24 235 23,iO 25 233 13 14,sT 235 25 20,iO 26 233 15 16,sT 235 26 24] [0,1,2,4] (sR [mO 27 1,bQ .add 28 3 27 1 3,mO 29 2,bQ .sub 30 3 29 1 3,aO 11 28,aO 12 30] [0,1,4,11,12] (.seq (.block 0 (.loop Br)) (.keep [11] (sR [mO 89 11,aO 10 89] [10] (.ret))))))
theorem Ev:BU Tryz.prog 214 90 [(.tmp 10)] Cm:=AH Tryz.func214
def AO:CC:=sQ [mO 32 12,mO 33 13,bB .leq 34 3 32 33 3,mO 35 34,mG 36 4 35 true,mG 37 0 35 true,mG 38 12 35 true,oG 39 (iA 233 37 38) 35 true,lG 40 235 39 35 true,mG 41 0 35 true,mG 42 1 35 true,oG 43 (iA 233 41 42) 35 true,lG 44 235 43 35 true,oG 45 (.call { callee:=(.value (xT 36)),args:=#[(xT 40),(xT 44)],argTypes:=#[235,235] }) 35 true,oG 46 (.binOp .lss 3 (xT 45) (nI 0) 3) 35 true,pF 47 35 46] [0,1,4,12,13,47] (cD 47 (.skip) (.exit 0)) [0,1,4,12,13] (.block 1 (.reg [mO 48 12,bQ .add 49 3 48 1 3,aO 12 49] [0,1,4,12,13]))
def AR:CC:=sQ [mO 50 12,mO 51 13,bB .leq 52 3 50 51 3,mO 53 52,mG 54 4 53 true,mG 55 0 53 true,mG 56 13 53 true,oG 57 (iA 233 55 56) 53 true,lG 58 235 57 53 true,mG 59 0 53 true,mG 60 1 53 true,oG 61 (iA 233 59 60) 53 true,lG 62 235 61 53 true,oG 63 (.call { callee:=(.value (xT 54)),args:=#[(xT 58),(xT 62)],argTypes:=#[235,235] }) 53 true,oG 64 (.binOp .lss 3 (xT 63) (nI 0) 3) 53 true,oG 65 (.unOp .not 4 (xT 64)) 53 true,pF 66 53 65] [0,1,4,12,13,66] (cD 66 (.skip) (.exit 2)) [0,1,4,12,13] (.block 3 (.reg [mO 67 13,bQ .sub 68 3 67 1 3,aO 13 68] [0,1,4,12,13]))
def AP:CC:=sQ [mO 105 12,mO 106 13,bB .leq 107 3 105 106 3,mO 108 107,mG 109 4 108 true,mG 110 0 108 true,mG 111 12 108 true,oG 112 (iA 233 110 111) 108 true,lG 113 235 112 108 true,mG 114 0 108 true,mG 115 1 108 true,oG 116 (iA 233 114 115) 108 true,lG 117 235 116 108 true,oG 118 (.call { callee:=(.value (xT 109)),args:=#[(xT 113),(xT 117)],argTypes:=#[235,235] }) 108 true,oG 119 (.binOp .lss 3 (xT 118) (nI 0) 3) 108 true,pF 120 108 119] [0,1,4,12,13,120] (cD 120 (.skip) (.exit 6)) [0,1,4,12,13] (.block 7 (.reg [mO 121 12,bQ .add 122 3 121 1 3,aO 12 122] [0,1,4,12,13]))
def AQ:CC:=sQ [mO 123 12,mO 124 13,bB .leq 125 3 123 124 3,mO 126 125,mG 127 4 126 true,mG 128 0 126 true,mG 129 13 126 true,oG 130 (iA 233 128 129) 126 true,lG 131 235 130 126 true,mG 132 0 126 true,mG 133 1 126 true,oG 134 (iA 233 132 133) 126 true,lG 135 235 134 126 true,oG 136 (.call { callee:=(.value (xT 127)),args:=#[(xT 131),(xT 135)],argTypes:=#[235,235] }) 126 true,oG 137 (.binOp .lss 3 (xT 136) (nI 0) 3) 126 true,oG 138 (.unOp .not 4 (xT 137)) 126 true,pF 139 126 138] [0,1,4,12,13,139] (cD 139 (.skip) (.exit 8)) [0,1,4,12,13] (.block 9 (.reg [mO 140 13,bQ .sub 141 3 140 1 3,aO 13 141] [0,1,4,12,13]))
def BK:CC:=.block 5 (.seq (.block 6 (.loop AP)) (.keep [0,1,4,12,13] (.seq (.block 8 (.loop AQ)) (.keep [0,1,4,12,13] (sQ [mO 142 12,mO 143 13,bB .gtr 144 3 142 143 3] [0,1,4,12,13,144] (cD 144 (.exit 4) (.skip)) [0,1,4,12,13] (sR [mO 145 0,mO 146 12,mO 147 0,mO 148 13,mO 149 0,mO 150 13,iO 151 233 149 150,lO 152 235 151,mO 153 0,mO 154 12,iO 155 233 153 154,lO 156 235 155,iO 157 233 145 146,sT 235 157 152,iO 158 233 147 148,sT 235 158 156] [0,1,4,12,13] (sR [mO 159 12,bQ .add 160 3 159 1 3,aO 12 160] [0,1,4,12,13] (.reg [mO 161 13,bQ .sub 162 3 161 1 3,aO 13 162] [0,1,4,12,13])))))))) 
def C3:CC:=sR [aI 10 0,aB 11 false] [0,1,2,3,4] (sR [mO 14 0,mO 15 1,mO 16 0,mO 17 3,mO 18 0,mO 19 3,iO 20 233 18 19,lO 21 235 20,mO 22 0,mO 23 1,iO 24 233 22 23,lO 25 235 24,iO 26 233 14 15,sT 235 26 21,iO 27 233 16 17,sT 235 27 25] [0,1,2,4] (sR [mO 28 1,bQ .add 29 3 28 1 3,mO 30 2,bQ .sub 31 3 30 1 3,aO 12 29,aO 13 31] [0,1,4,12,13] (.seq (.block 0 (.loop AO)) (.keep [0,1,4,12,13] (.seq (.block 2 (.loop AR)) (.keep [0,1,4,12,13] (sQ [mO 69 12,mO 70 13,bB .gtr 71 3 69 70 3] [0,1,4,12,13,71] (cD 71 (sR [mO 72 0,mO 73 13,mO 74 0,mO 75 1,mO 76 0,mO 77 1,iO 78 233 76 77,lO 79 235 78,mO 80 0,mO 81 13,iO 82 233 80 81,lO 83 235 82,iO 84 233 72 73,sT 235 84 79,iO 85 233 74 75,sT 235 85 83] [13] (sR [mO 86 13,aO 10 86,aB 11 true] [10,11] (.ret))) (.skip)) [0,1,4,12,13] (sR [mO 87 0,mO 88 12,mO 89 0,mO 90 13,mO 91 0,mO 92 13,iO 93 233 91 92,lO 94 235 93,mO 95 0,mO 96 12,iO 97 233 95 96,lO 98 235 97,iO 99 233 87 88,sT 235 99 94,iO 100 233 89 90,sT 235 100 98] [0,1,4,12,13] (sR [mO 101 12,bQ .add 102 3 101 1 3,aO 12 102] [0,1,4,12,13] (sR [mO 103 13,bQ .sub 104 3 103 1 3,aO 13 104] [0,1,4,12,13] (.seq (.block 4 (.loop BK)) (.keep [0,1,13] (sR [mO 163 0,mO 164 13,mO 165 0,mO 166 1,mO 167 0,mO 168 1,iO 169 233 167 168,lO 170 235 169,mO 171 0,mO 172 13,iO 173 233 171 172,lO 174 235 173,iO 175 233 163 164,sT 235 175 170,iO 176 233 165 166,sT 235 176 174] [13] (sR [mO 177 13,aO 10 177,aB 11 false] [10,11] (.ret)))))))))))))))
theorem FG:BU Tryz.prog 215 178 [(.tmp 10),(.tmp 11)] C3:=AH Tryz.func215
def Bm:CC:=sQ [mO 81 1,bQ .gtr 82 3 81 0 3,mO 83 82,mG 84 4 83 true,mG 85 0 83 true,mG 86 1 83 true,oG 87 (.binOp .sub 3 (xT 86) (nI 1) 3) 83 true,oG 88 (iA 233 85 87) 83 true,lG 89 235 88 83 true,mG 90 0 83 true,mG 91 13 83 true,oG 92 (iA 233 90 91) 83 true,lG 93 235 92 83 true,oG 94 (.call { callee:=(.value (xT 84)),args:=#[(xT 89),(xT 93)],argTypes:=#[235,235] }) 83 true,oG 95 (.binOp .lss 3 (xT 94) (nI 0) 3) 83 true,oG 96 (.unOp .not 4 (xT 95)) 83 true,pF 97 83 96] [0,1,2,3,4,10,11,12,13,97] (cD 97 (sR [mO 98 0,mO 99 1,mO 100 2,mO 101 13,mO 102 4,oO 103 (cL 214 #[(xT 98),(xT 99),(xT 100),(xT 101),(xT 102)] #[233,3,3,3,254]),aO 15 103] [0,2,3,4,10,11,15] (sR [mO 104 15,aO 1 104] [0,1,2,3,4,10,11] (.exit 1))) (.skip)) [0,1,2,3,4,12,13] (sR [mO 106 0,mO 107 1,mO 108 2,mO 109 13,mO 110 4,oO 111 (cL 215 #[(xT 106),(xT 107),(xT 108),(xT 109),(xT 110)] #[233,3,3,3,254]),mO 105 111,xO 112 105 0,xO 113 105 1,aO 16 112,aO 17 113] [0,1,2,3,4,12,16,17] (sR [mO 114 17,aO 11 114] [0,1,2,3,4,11,12,16] (sR [mO 115 16,mO 116 1,bB .sub 117 3 115 116 3,mO 118 2,mO 119 16,bB .sub 120 3 118 119 3,aO 18 117,aO 19 120] [0,1,2,3,4,11,12,16,18,19] (sR [mO 121 12,bQ .quo 122 3 121 8 3,aO 20 122] [0,1,2,3,4,11,16,18,19,20] (sR [mO 123 18,mO 124 19,bB .lss 125 3 123 124 3] [0,1,2,3,4,11,16,18,19,20,125] (cD 125 (sR [mO 126 18,mO 127 20,bB .geq 128 3 126 127 3,aO 10 128] [0,1,2,3,4,10,11,16] (sR [mO 129 0,mO 130 1,mO 131 16,mO 132 3,mO 133 4,oO 134 (cL 205 #[(xT 129),(xT 130),(xT 131),(xT 132),(xT 133)] #[233,3,3,3,254])] [0,2,3,4,10,11,16] (.reg [mO 135 16,bQ .add 136 3 135 1 3,aO 1 136] [0,1,2,3,4,10,11]))) (sR [mO 137 19,mO 138 20,bB .geq 139 3 137 138 3,aO 10 139] [0,1,2,3,4,10,11,16] (sR [mO 140 0,mO 141 16,bQ .add 142 3 141 1 3,mO 143 2,mO 144 3,mO 145 4,oO 146 (cL 205 #[(xT 140),(xT 142),(xT 143),(xT 144),(xT 145)] #[233,3,3,3,254])] [0,1,3,4,10,11,16] (.reg [mO 147 16,aO 2 147] [0,1,2,3,4,10,11])))))))))
def BT:CC:=sQ [mO 68 10,mO 69 68,mG 70 11 69 true,pF 71 69 70,mO 72 71,mG 73 14 72 true,oG 74 (.binOp .eql 267 (xT 73) (nI 1) 267) 72 true,pF 75 72 74] [0,1,2,3,4,10,11,12,13,75] (cD 75 (sR [mO 76 0,mO 77 1,mO 78 2,mO 79 4,oO 80 (cL 213 #[(xT 76),(xT 77),(xT 78),(xT 79)] #[233,3,3,254])] [0,1,2,3,4,10,11,12,13,80] (cD 80 (.ret) (.skip))) (.skip)) [0,1,2,3,4,10,11,12,13] Bm
def BS:CC:=sR [mO 48 0,mO 49 1,mO 50 2,mO 51 4,oO 52 (cL 211 #[(xT 48),(xT 49),(xT 50),(xT 51)] #[233,3,3,254]),mO 47 52,xO 53 47 0,xO 54 47 1,aO 13 53,aO 14 54] [0,1,2,3,4,10,11,12,13,14] (sQ [mO 55 14,bQ .eql 56 267 55 2 267] [0,1,2,3,4,10,11,12,13,14,56] (cD 56 (sR [mO 57 0,mO 58 1,mO 59 2,mO 60 4,oO 61 (cL 212 #[(xT 57),(xT 58),(xT 59),(xT 60)] #[233,3,3,254])] [0,1,2,3,4,10,11,12,13] (sR [mO 62 2,bQ .sub 63 3 62 1 3,mO 64 13,mO 65 1,bB .sub 66 3 64 65 3,bB .sub 67 3 63 66 3,aO 13 67] [0,1,2,3,4,10,11,12,13] (.reg [aI 14 1] [0,1,2,3,4,10,11,12,13,14]))) (.skip)) [0,1,2,3,4,10,11,12,13,14] BT)
def AA:CC:=.block 1 (sR [mO 21 2,mO 22 1,bB .sub 23 3 21 22 3,aO 12 23] [0,1,2,3,4,10,11,12] (sQ [mO 24 12,bQ .leq 25 3 24 12 3] [0,1,2,3,4,10,11,12,25] (cD 25 (sR [mO 26 0,mO 27 1,mO 28 2,mO 29 4,oO 30 (cL 208 #[(xT 26),(xT 27),(xT 28),(xT 29)] #[233,3,3,254])] [] (.ret)) (.skip)) [0,1,2,3,4,10,11,12] (sQ [mO 31 3,bQ .eql 32 3 31 0 3] [0,1,2,3,4,10,11,12,32] (cD 32 (sR [mO 33 0,mO 34 1,mO 35 2,mO 36 4,oO 37 (cL 209 #[(xT 33),(xT 34),(xT 35),(xT 36)] #[233,3,3,254])] [] (.ret)) (.skip)) [0,1,2,3,4,10,11,12] (sQ [mO 38 10,oO 39 (.unOp .not 4 (xT 38))] [0,1,2,3,4,10,11,12,39] (cD 39 (sR [mO 40 0,mO 41 1,mO 42 2,mO 43 4,oO 44 (cL 210 #[(xT 40),(xT 41),(xT 42),(xT 43)] #[233,3,3,254])] [0,1,2,3,4,10,11,12] (.reg [mO 45 3,bQ .sub 46 3 45 1 3,aO 3 46] [0,1,2,3,4,10,11,12])) (.skip)) [0,1,2,3,4,10,11,12] BS)))) 
def Dg:CC:=sR [aB 10 true] [0,1,2,3,4,10] (sR [aB 11 true] [0,1,2,3,4,10,11] (.block 0 (.loop AA)))
theorem Gb:BU Tryz.prog 205 148 [] Dg:=AH Tryz.func205
def CE:CC:=sR [mO 5 0,bN 6 5 233,aO 4 6] [0,1,4] (.reg [mO 7 0,mO 8 4,mO 9 4,oO 10 (.convert 3 138 (xT 9)),cA 11 206 10 138,mO 12 1,oO 13 (cL 205 #[(xT 7),(nI 0),(xT 8),(xT 11),(xT 12)] #[233,3,3,3,254])] [])
theorem Fo:BU Tryz.prog 198 14 [] CE:=AH Tryz.func198
end Go.Proofs.YtndnlknocdangaaGreat
namespace Go.Proofs.YtndnlknocdangaaGreat
open Go Go.G Go.Proofs Go.PL
theorem En {P:Program} {K:Sta→Prop} {rest:List CO} {s:Nat→A} {H:Hp} {dd:Option Nat} {nm:Nm} {ix:Nat} {un:List Nat} {l:Bool} {lg:Lg} {o:Operand} {g:FuncId} {aa:Array Operand} {ts:Array TypeId} {L:List A} {x:A} (ho:evs s o = .fnc g [] []) (hs:G.Spec P g L x) (hL:aa.toList.map (evs s)=L) (hb:L.all A.bare=true) (h:An P K rest (A9 l ix ⟨[],[]⟩ lg) (Sta.put ⟨s,H⟩ dd x H)) :
  An P K (⟨dd,.call { callee:=.value o,args:=aa,argTypes:=ts },none,nm,ix,un,l⟩::rest) lg ⟨s,H⟩:=by
 subst hL;exact LI ho (by simpa using hs) (by simpa using hb) h
instance:Inhabited Sc:=⟨Yz⟩
def Bz (a b:Sc):Bool:=decide (a.i<b.i)
theorem Uh (a b:Sc):decide (Eu a.i b.i<0)=Bz a b:=by
 unfold Eu Bz;by_cases h:a.i<b.i
 ·rw[if_pos (by omega)];simp[h]
 ·rw[if_neg (by omega)];by_cases h2:b.i<a.i
  ·rw[if_pos (by omega)];simp[h]
  ·rw[if_neg (by omega)];simp[h]
abbrev CU:A:=.fnc 199 [] []
theorem DM:EH (fun _=>CU):=XO Ah Ah
theorem Dv (a b:Sc):G.Spec Tryz.prog 199 [Jh a,Jh b] (iv (Eu a.i b.i)):=by
 refine Al UH (by simp) fun w0 I0=>?_;unfold Na;simp[Jh,Z6];refine Af (O5 a.i b.i) rfl ?_;simp;exact Ad rfl
abbrev A7 (d:Array Sc) (v:Nat):Fam:=Z5 d.toList v
theorem Bq {d:Array Sc} {i:Nat} (h:i<d.size):(d.toList.map Jh)[i]? = some (Jh d[i]!):=by
 rw[List.getElem?_map,Array.getElem?_toList,getElem!_pos d i h,Array.getElem?_eq_getElem h];rfl
theorem JK {d:Array Sc} {i j:Nat}:(Sort.swp d i j).toList.map Jh=((d.toList.map Jh).set i (Jh d[j]!)).set j (Jh d[i]!):=by
 unfold Sort.swp;simp[List.map_set]
theorem EY {d:Array Sc} {i j:Nat}:(Sort.swp d i j).size=d.size:=by simp[Sort.swp]
theorem Hf {d:Array Sc} {i j:Nat} (hi:i<d.size) (hj:j<d.size):((d.toList.map Jh).set i (Jh d[j]!))[j]? = some (Jh d[j]!):=by
 by_cases e:i=j
 ·subst e;rw[List.getElem?_set_self (by simpa using hi)]
 ·rw[List.getElem?_set_ne e,Bq hj]
variable {n0:Nat} {w0:World} {I0:Nat→Prop} {M0:Nm→Nat→Prop} {m0:Mu} {Q:Exit→Sta→Prop} {v:Nat}
abbrev GN (n v r:Nat):A:=.osl [r] v 2 0 n
theorem uC {a n:Nat} {b i:Int} (hn:n≤1000) (ha:a≤1000):∀ (j:Nat) (d:Array Sc) (H:Hp),d.size=n→j<n→(∀ p,H (0::p)=(A7 d v).F 0 p) →
  (∀ (H':Hp) (st:List (Nat × A)),(∀ p,H' (0::p)=(A7 (Sort.insInner Bz a j d) v).F 0 p)→Q (.exit 2) ⟨lk ([(0,GN n v 0),(1,iv a),(2,iv b),(3,CU),(8,iv i)]++st),H'⟩) →
  LoopC (DD Tryz.prog w0 I0 M0 n0 m0) A0 Q ⟨lk [(0,GN n v 0),(1,iv a),(2,iv b),(3,CU),(8,iv i),(9,iv j)],H⟩:=by
 intro j;induction j with
 |zero=>
  intro d H hd hj hH hq;refine Ab Ai A0.eq_1 ?_;simp[show ¬ (a:Int)<0 by omega];rw[Ay];simp;exact hq H [(9,iv 0),(34,bv false)] hH
 |succ j ih=>
  intro d H hd hj hH hq;have h0:=hH [];have g1:=Bq (d:=d) (i:=j+1) (by omega);have g0:=Bq (d:=d) (i:=j) (by omega);rw[Sort.insInner] at hq;have e1:i64.wrap ((j:Int)+1-1)=(j:Int):=Bg;simp only[Int.add_sub_cancel] at e1;refine Ab Ai A0.eq_1 ?_;by_cases h1:a<j+1
  ·have hc:=Uh d[j+1]! d[j]!;simp only[Jx] at h0;generalize hx:d[j+1]! = x at *;generalize hy:d[j]! = y at *;simp[show(a:Int)<j+1 by omega,h0,e1,g1,g0,hj,show j<n by omega,show(j:Int)+1<n by omega,show(j:Int)<n by omega,show(0:Int)≤(j:Int)+1 by omega,C0];rw[Ay];simp;refine En rfl (Dv x y) (by simp) rfl ?_;cases hL:Bz x y with
   |false=>
    rw[hL] at hc hq;rw[if_neg (by simp)] at hq;have hc':¬ Eu x.i y.i<0:=by simpa using hc
    simp[hc'];exact hq H [(9,iv (j+1:Nat)),(34,bv false)] (fun p=>by simp[hH])
   |true=>
    rw[hL] at hc hq;rw[if_pos (by simp;omega)] at hq;have hc':Eu x.i y.i<0:=by simpa using hc
    have g2:=Hf (d:=d) (i:=j+1) (j:=j) (by omega) (by omega);have hs:=JK (d:=d) (i:=j+1) (j:=j);rw[hx,hy] at hs;rw[hy] at g2;simp[hc',h0,e1,g1,g0,g2,hj,show j<n by omega,show(j:Int)+1<n by omega,show(j:Int)<n by omega,show(0:Int)≤(j:Int)+1 by omega,C0];exact ih (Sort.swp d (j+1) j) _ (by rw[EY];exact hd) (by omega) (fun p=>by by_cases hp:p=[]<;>simp[hp,hs,Aa,hH]) hq
  ·rw[if_neg (by simp;omega)] at hq;simp[show ¬ (a:Int)<j+1 by omega];rw[Ay];simp;exact hq H [(9,iv (j+1:Nat)),(34,bv false)] hH
theorem JL (lt:Sc→Sc→Bool) (a:Nat):∀ (j:Nat) (d:Array Sc),(Sort.insInner lt a j d).size=d.size
 |0,d=>rfl
 |j+1,d=>by
  unfold Sort.insInner;split
  ·rw[JL lt a j,EY]
  ·rfl
theorem uO {a b n:Nat} (hn:n≤1000) (ha:a≤1000) (hb:b≤n):∀ (m i:Nat) (d:Array Sc) (H:Hp),(i+m=b∨(b≤i∧m=0∧i≤1001))→d.size=n→(∀ p,H (0::p)=(A7 d v).F 0 p) →
  (∀ (H':Hp) (st:List (Nat × A)),(∀ p,H' (0::p)=(A7 (Sort.insOuter Bz a b i d) v).F 0 p)→Q (.exit 0) ⟨lk st,H'⟩) →
  LoopC (DD Tryz.prog w0 I0 M0 n0 m0) A4 Q ⟨lk [(0,GN n v 0),(1,iv a),(2,iv b),(3,CU),(8,iv i)],H⟩:=by
 intro m;induction m with
 |zero=>
  intro i d H hi hd hH hq;rw[Sort.insOuter,if_neg (by omega)] at hq;refine Ab Ai A4.eq_1 ?_;simp[show ¬ (i:Int)<b by omega,show ¬ i<b by omega];exact hq H [(0,GN n v 0),(1,iv a),(2,iv b),(3,CU),(8,iv i),(14,bv false)] hH
 |succ m ih=>
  intro i d H hi hd hH hq;have hib:i<b:=by omega
  have e1:=AW i;rw[Sort.insOuter,if_pos hib] at hq;refine Ab Ai A4.eq_1 ?_;simp[show(i:Int)<b by omega,hib];refine uC (n:=n) (v:=v) hn ha i d H hd (by omega) hH fun H' st h'=>?_;simp[e1];exact ih (i+1) _ H' (by omega) (by rw[JL];exact hd) h' hq
theorem Nf (lt:Sc→Sc→Bool) (a b:Nat):∀ (m i:Nat) (d:Array Sc),b-i≤m→(Sort.insOuter lt a b i d).size=d.size
 |0,i,d,h=>by rw[Sort.insOuter,if_neg (by omega)]
 |m+1,i,d,h=>by
  rw[Sort.insOuter];split
  ·rw[Nf lt a b m _ _ (by omega),JL]
  ·rfl
theorem M9 (n v:Nat):EH (fun r=>GN n v r):=C7
theorem WV (d:Array Sc) (v a b:Nat) (hn:d.size≤900) (ha:a≤900) (hb:b≤d.size):SpecF Tryz.prog 208 (fun r=>[GN d.size v r,iv a,iv b,CU]) (A7 d v) (fun _=>.tup []) (A7 (Sort.insertionSort Bz d a b) v):=by
 refine Aq EK (by simp) (Ae (M9 _ _) (Ae AB (Ae AB (Ae DM Ah)))) (A5 Ah) fun w0 I0 M0 m0=>?_;have e1:=AW a;unfold Ct;simp[e1];refine LoopC.le (Ao [(0,GN d.size v 0),(1,iv a),(2,iv b),(3,CU),(8,iv (a+1:Nat))] (by simp)) ?_;refine uO (n:=d.size) (v:=v) (by omega) (by omega) hb (b-(a+1)) (a+1) d _ (by omega) rfl (fun p=>by simp) fun H' st h'=>?_;simp;exact AU rfl rfl (fun p=>h' p)
theorem uV {n:Nat} (hn:n≤1000):∀ (m i j:Nat) (d:Array Sc) (H:Hp),j-i≤m→i≤n→j<n→d.size=n→(∀ p,H (0::p)=(A7 d v).F 0 p) →
  (∀ (H':Hp) (st:List (Nat × A)),(∀ p,H' (0::p)=(A7 (Sort.reverseLoop i j d) v).F 0 p)→Q (.exit 0) ⟨lk st,H'⟩) →
  LoopC (DD Tryz.prog w0 I0 M0 n0 m0) AI Q ⟨lk [(0,GN n v 0),(8,iv i),(9,iv j)],H⟩:=by
 intro m;induction m with
 |zero=>
  intro i j d H hm hi hj hd hH hq;rw[Sort.reverseLoop,if_neg (by omega)] at hq;refine Ab Ai AI.eq_1 ?_;simp[show ¬ (i:Int)<j by omega,show ¬ i<j by omega];exact hq H [(0,GN n v 0),(8,iv i),(9,iv j),(15,bv false)] hH
 |succ m ih=>
  intro i j d H hm hi hj hd hH hq;by_cases hij:i<j
  ·rw[Sort.reverseLoop,if_pos hij] at hq;have h0:=hH [];simp only[Jx] at h0;have e1:=AW i;have e2:i64.wrap ((j:Int)-1)=((j-1:Nat):Int):=Bg;have g1:=Bq (d:=d) (i:=i) (by omega);have g0:=Bq (d:=d) (i:=j) (by omega);have g2:=Hf (d:=d) (i:=i) (j:=j) (by omega) (by omega);have hs:=JK (d:=d) (i:=i) (j:=j);generalize d[i]! = x at g1 g2 hs;generalize d[j]! = y at g0 g2 hs;refine Ab Ai AI.eq_1 ?_;simp[hij,show(i:Int)<j by omega,h0,g0,g1,g2,e1,e2,show(i:Int)<n by omega,show(j:Int)<n by omega,show i<n by omega,hj,C0];refine LoopC.le (Ao [(0,GN n v 0),(8,iv (i+1:Nat)),(9,iv (j-1:Nat))] (by simp)) ?_;exact ih (i+1) (j-1) (Sort.swp d i j) _ (by omega) (by omega) (by omega) (by rw[EY];exact hd) (fun p=>by by_cases hp:p=[]<;>simp[hp,hs,Aa,hH]) hq
  ·rw[Sort.reverseLoop,if_neg hij] at hq;refine Ab Ai AI.eq_1 ?_;simp[show ¬ (i:Int)<j by omega,hij];exact hq H [(0,GN n v 0),(8,iv i),(9,iv j),(15,bv false)] hH
theorem W0 (d:Array Sc) (v a b:Nat) (hn:d.size≤900) (ha:a≤d.size) (hb:1≤b) (hb2:b≤d.size):SpecF Tryz.prog 212 (fun r=>[GN d.size v r,iv a,iv b,CU]) (A7 d v) (fun _=>.tup []) (A7 (Sort.reverseRange d a b) v):=by
 refine Aq EN (by simp) (Ae (M9 _ _) (Ae AB (Ae AB (Ae DM Ah)))) (A5 Ah) fun w0 I0 M0 m0=>?_;have e1:i64.wrap ((b:Int)-1)=((b-1:Nat):Int):=Bg;unfold CB;simp[e1];refine uV (n:=d.size) (v:=v) (by omega) (b-1-a) a (b-1) d _ (Cj _) ha (by omega) rfl (fun p=>by simp) fun H' st h'=>?_;simp;exact AU rfl rfl (fun p=>h' p)
def ceF (s:Nat):Fam:=⟨fun r p=>if p=[] then ⟨1,.cells [iv s]⟩ else ⟨0,.none⟩,fun {g δ r r'} hg hd p=>by
  by_cases h1:p=[]
  ·rw[if_pos h1];exact Fam.cells_ren (by simp[A.renL,A.ren])
  ·rw[if_neg h1];rfl,fun {D r} hD p=>by
  by_cases h1:p=[]
  ·rw[if_pos h1];simp[Ob.refs,A.refsL,A.refs]
  ·rw[if_neg h1];trivial⟩
@[simp] theorem AhZ {s r:Nat} {p:Nm}:(ceF s).F r p=if p=[] then ⟨1,.cells [iv s]⟩ else ⟨0,.none⟩:=rfl
abbrev yj (q:Nat):A:=.pob [q] 1 0
theorem LS (d:Array Sc) (v a b s:Nat) (hn:d.size≤900) (ha:a<d.size) (hb:b<d.size) (hs:s≤900):JB Tryz.prog 223 (fun r q=>[GN d.size v r,iv a,iv b,yj q,CU]) ((A7 d v).two (ceF s)) (fun _ _=>.tup [iv (Sort.order2 Bz d a b s).1,iv (Sort.order2 Bz d a b s).2.1]) ((A7 d v).two (ceF (Sort.order2 Bz d a b s).2.2)):=by
 refine F8 Gw (by simp) (Az (Bj (M9 _ _)) (Az (Bj AB) (Az (Bj AB) (Az (Jj Au) (Az (Bj DM) Eo))))) (fK (Az (Bj AB) (Az (Bj AB) Eo))) fun w0 I0 M0 m0=>?_;have ga:=Bq (d:=d) (i:=a) (by omega);have gb:=Bq (d:=d) (i:=b) (by omega);have hc:=Uh d[b]! d[a]!;have e1:=AW s;unfold Sort.order2;generalize d[a]! = x at *;generalize d[b]! = y at *;generalize d.size=n at hn ha hb ⊢;unfold Dp;simp[ga,gb,ha,hb,show(a:Int)<n by omega,show(b:Int)<n by omega,C0];refine En rfl (Dv y x) (by simp) rfl ?_;cases hL:Bz y x with
 |true=>
  rw[hL] at hc;have hc':Eu y.i x.i<0:=by simpa using hc
  simp[hc',e1,Aa];exact MB rfl rfl (fun p=>by simp) (fun p=>by by_cases hp:p=[]<;>simp[hp,Aa])
 |false=>
  rw[hL] at hc;have hc':¬ Eu y.i x.i<0:=by simpa using hc
  simp[hc'];exact MB rfl rfl (fun p=>by simp) (fun p=>by simp)
theorem Nv (lt:Sc→Sc→Bool) (d:Array Sc) (a b s n:Nat) (ha:a<n) (hb:b<n) (hs:s≤100):(Sort.order2 lt d a b s).1<n∧(Sort.order2 lt d a b s).2.1<n∧(Sort.order2 lt d a b s).2.2≤s+1:=by
 unfold Sort.order2;split
 ·exact⟨hb,ha,by simp⟩
 ·exact⟨ha,hb,by simp⟩
theorem Yh (d:Array Sc) (v a b c s:Nat) (hn:d.size≤900) (ha:a<d.size) (hb:b<d.size) (hcc:c<d.size) (hs:s≤90):JB Tryz.prog 222 (fun r q=>[GN d.size v r,iv a,iv b,iv c,yj q,CU]) ((A7 d v).two (ceF s)) (fun _ _=>iv (Sort.median Bz d a b c s).1) ((A7 d v).two (ceF (Sort.median Bz d a b c s).2)):=by
 refine F8 Gu (by simp) (Az (Bj (M9 _ _)) (Az (Bj AB) (Az (Bj AB) (Az (Bj AB) (Az (Jj Au) (Az (Bj DM) Eo)))))) (Bj AB) fun w0 I0 M0 m0=>?_;obtain⟨q1,q2,q3⟩:=Nv Bz d a b s d.size ha hb (by omega);have h1:=LS d v a b s hn ha hb (by omega);unfold Sort.median;simp only;generalize Sort.order2 Bz d a b s=R at h1 q1 q2 q3 ⊢;obtain⟨p1,p2,p3⟩:=Nv Bz d R.2.1 c R.2.2 d.size q2 hcc (by omega);have h2:=LS d v R.2.1 c R.2.2 hn q2 hcc (by omega);generalize Sort.order2 Bz d R.2.1 c R.2.2=S2 at h2 p1 p2 p3 ⊢;obtain⟨z1,z2,z3⟩:=Nv Bz d R.1 S2.1 S2.2.2 d.size q1 p1 (by omega);have h3:=LS d v R.1 S2.1 S2.2.2 hn q1 p1 (by omega);generalize Sort.order2 Bz d R.1 S2.1 S2.2.2=T3 at h3 z1 z2 z3 ⊢;unfold Dk;simp;refine Jn 0 1 (by omega) h1 (fun p=>by simp) (fun p=>by simp) (by simp) (by simp) ?_;simp;refine Jn 0 1 (by omega) h2 (fun p=>by simp) (fun p=>by simp) (by simp) (by simp) ?_;simp;refine Jn 0 1 (by omega) h3 (fun p=>by simp) (fun p=>by simp) (by simp) (by simp) ?_;simp;exact MB rfl rfl (fun p=>by simp) (fun p=>by simp)
def LY:Sort.Hint→Int
 |.unknown=>0
 |.increasing=>1
 |.decreasing=>2
theorem choose_spec (d:Array Sc) (v a b:Nat) (hn:d.size≤900) (hab:a+13≤b) (hb:b≤d.size) (hl:b-a<50):SpecF Tryz.prog 211 (fun r=>[GN d.size v r,iv a,iv b,CU]) (A7 d v) (fun _=>.tup [iv (Sort.choosePivot Bz d a b).1,iv (LY (Sort.choosePivot Bz d a b).2)]) (A7 d v):=by
 refine Aq Fe (by simp) (Ae (M9 _ _) (Ae AB (Ae AB (Ae DM Ah)))) (A5 (Ae AB (Ae AB Ah))) fun w0 I0 M0 m0=>?_;obtain⟨l,hll⟩:∃ l,l=b-a:=⟨_,rfl⟩;have e1:i64.wrap ((b:Int)-a)=(l:Int):=Bg;obtain⟨q,hq⟩:∃ q,q=l / 4:=⟨_,rfl⟩;have e2:i64.wrap ((l:Int).tdiv 4)=(q:Int):=by rw[Int.tdiv_eq_ediv_of_nonneg (by omega),Bf (by omega) (by omega)];omega
 have e3:i64.wrap ((q:Int)*1)=(q:Int):=Bg;have e4:i64.wrap ((q:Int)*2)=((q*2:Nat):Int):=Bg;have e5:i64.wrap ((q:Int)*3)=((q*3:Nat):Int):=Bg;have e6:i64.wrap ((a:Int)+q)=((a+q:Nat):Int):=Bg;have e7:i64.wrap ((a:Int)+(q:Int)*2)=((a+q*2:Nat):Int):=Bg;have e8:i64.wrap ((a:Int)+(q:Int)*3)=((a+q*3:Nat):Int):=Bg;have e9:i64.wrap ((l:Int) / 4)=(q:Int):=Bg;have e10:i64.wrap (q:Int)=(q:Int):=EJ;have hm:=Yh d v (a+q) (a+q*2) (a+q*3) 0 hn (by omega) (by omega) (by omega) (by omega);unfold Sort.choosePivot;simp only[← hll,← hq,Nat.mul_one,ge_iff_le,if_pos (show 8≤l by omega),if_neg (show ¬ 50≤l by omega)];generalize Sort.median Bz d (a+q) (a+q*2) (a+q*3) 0=R at hm ⊢;unfold CI;simp[e1,e2,e3,e4,e5,e6,e7,e8,e9,e10,show(8:Int)≤l by omega,show ¬ (50:Int)≤l by omega,Aa];refine Jn 0 1 (by omega) hm (fun p=>by simp) (fun p=>?_) (by simp) (by simp) ?_
 ·by_cases hp:p=[]
  ·subst hp;simp[FR]
  ·simp[FR,hp,Ne.symm hp]
 rw[zV];simp;rw[Cw.eq_1];by_cases h0:R.2=0
 ·simp[h0,LY];exact Ax rfl rfl (fun p=>by simp)
 ·by_cases h12:R.2=12
  ·simp[h12,LY];exact Ax rfl rfl (fun p=>by simp)
  ·have h0':¬ (R.2:Int)=0:=by omega
   have h12':¬ (R.2:Int)=12:=by omega
   simp[h0,h12,h0',h12',LY];exact Ax rfl rfl (fun p=>by simp)
theorem fD (lt:Sc→Sc→Bool) (d:Array Sc) (b:Nat):∀ (m i:Nat),b-i≤m→i≤b→i≤Sort.scanSorted lt d b i∧Sort.scanSorted lt d b i≤b
 |0,i,h,hi=>by rw[Sort.scanSorted,if_neg (by simp;omega)];omega
 |m+1,i,h,hi=>by
  rw[Sort.scanSorted];split
  ·rename_i hc;simp at hc;have:=fD lt d b m (i+1) (by omega) (by omega);omega
  ·omega
theorem rD {n a b:Nat} {k:Int} {d:Array Sc} {H:Hp} (hn:n≤900) (hb:b≤n) (hd:d.size=n) (hH:∀ p,H (0::p)=(A7 d v).F 0 p):∀ (m i:Nat),b-i≤m→1≤i→i≤b →
  (∀ (st:List (Nat × A)),Q (.exit 2) ⟨lk ([(0,GN n v 0),(1,iv a),(2,iv b),(3,CU),(9,iv (Sort.scanSorted Bz d b i)),(10,iv k)]++st),H⟩) →
  LoopC (DD Tryz.prog w0 I0 M0 n0 m0) Av Q ⟨lk [(0,GN n v 0),(1,iv a),(2,iv b),(3,CU),(9,iv i),(10,iv k)],H⟩:=by
 intro m;induction m with
 |zero=>
  intro i hm h1 hi hq;rw[Sort.scanSorted,if_neg (by simp;omega)] at hq;refine Ab Ai Av.eq_1 ?_;simp[show ¬ (i:Int)<b by omega,show ¬ i<b by omega];rw[Ay];simp;exact hq [(36,bv false)]
 |succ m ih=>
  intro i hm h1 hi hq;by_cases hib:i<b
  ·have h0:=hH [];simp only[Jx] at h0;have g1:=Bq (d:=d) (i:=i) (by omega);have g0:=Bq (d:=d) (i:=i-1) (by omega);have e1:=AW i;have e2:i64.wrap ((i:Int)-1)=((i-1:Nat):Int):=Bg;have hc:=Uh d[i]! d[i-1]!;rw[Sort.scanSorted] at hq;generalize d[i]! = x at g1 hc hq;generalize d[i-1]! = y at g0 hc hq;refine Ab Ai Av.eq_1 ?_;simp[hib,show(i:Int)<b by omega,h0,g1,g0,e2,show(i:Int)<n by omega,show i<n by omega,show i-1<n by omega,show((i-1:Nat):Int)<n by omega,C0];rw[Ay];simp;refine En rfl (Dv x y) (by simp) rfl ?_;cases hL:Bz x y with
   |true=>
    rw[hL] at hc hq;rw[if_neg (by simp)] at hq;have hc':Eu x.i y.i<0:=by simpa using hc
    simp[hc'];exact hq [(36,bv false)]
   |false=>
    rw[hL] at hc hq;rw[if_pos (by simp[hib])] at hq;have hc':¬ Eu x.i y.i<0:=by simpa using hc
    simp[hc',e1];exact ih (i+1) (by omega) (by omega) (by omega) hq
  ·rw[Sort.scanSorted,if_neg (by simp;omega)] at hq;refine Ab Ai Av.eq_1 ?_;simp[show ¬ (i:Int)<b by omega,hib];rw[Ay];simp;exact hq [(36,bv false)]
theorem Tj (d:Array Sc) (a b:Nat) (hl:b-a<50):Sort.partialInsertionSort Bz d a b=(d,decide (Sort.scanSorted Bz d b (a+1)=b)):=by
 unfold Sort.partialInsertionSort;rw[Sort.partialIns];simp only;split
 ·rename_i h;simp[h]
 ·rename_i h;simp[h,hl]
theorem Wm (d:Array Sc) (v a b:Nat) (hn:d.size≤900) (hab:a<b) (hb:b≤d.size) (hl:b-a<50):SpecF Tryz.prog 213 (fun r=>[GN d.size v r,iv a,iv b,CU]) (A7 d v) (fun _=>bv (Sort.partialInsertionSort Bz d a b).2) (A7 (Sort.partialInsertionSort Bz d a b).1 v):=by
 rw[Tj d a b hl];refine Aq Dw (by simp) (Ae (M9 _ _) (Ae AB (Ae AB (Ae DM Ah)))) AB fun w0 I0 M0 m0=>?_;have e1:=AW a;have e2:i64.wrap ((b:Int)-a)=((b-a:Nat):Int):=Bg;have hsc:=fD Bz d b (b-(a+1)) (a+1) (by omega) (by omega);have l1:=fun (Q:Exit→Sta→Prop) (H:Hp) (k:Int) (hH:∀ p,H (0::p)=(A7 d v).F 0 p)=>rD (n0:=141) (w0:=w0) (I0:=I0) (M0:=M0) (m0:=m0) (Q:=Q) (v:=v) (k:=k) (a:=a) hn hb rfl hH (b-(a+1)) (a+1) (Cj _) (by omega) (by omega);generalize Sort.scanSorted Bz d b (a+1)=z at hsc l1 ⊢;unfold BQ;simp[e1];refine Ab Ai BM.eq_1 ?_;simp;refine LoopC.le (Ao [(0,GN d.size v 0),(1,iv a),(2,iv b),(3,CU),(9,iv (a+1:Nat)),(10,iv 0)] (by simp)) ?_;refine l1 _ _ 0 (fun p=>by simp) fun st=>?_;by_cases hz:z=b
 ·simp[hz];exact Ax rfl rfl (fun p=>by simp)
 ·have hz':¬ (z:Int)=b:=by omega
  simp[hz,hz',e2,show((b-a:Nat):Int)<50 by omega];exact Ax rfl rfl (fun p=>by simp)
theorem Aaj {n a j:Nat} {z:Sc} {d:Array Sc} {H:Hp} (hn:n≤900) (ha:a<n) (hj:j<n) (hd:d.size=n) (hz:d[a]! = z) (hH:∀ p,H (0::p)=(A7 d v).F 0 p):∀ (m i:Nat),j+1-i≤m→i≤n →
  (∀ (st:List (Nat × A)),Q (.exit 0) ⟨lk ([(0,GN n v 0),(1,iv a),(4,CU),(12,iv (Sort.scanUp (fun x=>Bz x z) d j i)),(13,iv j)]++st),H⟩) →
  LoopC (DD Tryz.prog w0 I0 M0 n0 m0) AO Q ⟨lk [(0,GN n v 0),(1,iv a),(4,CU),(12,iv i),(13,iv j)],H⟩:=by
 intro m;induction m with
 |zero=>
  intro i hm hi hq;rw[Sort.scanUp,if_neg (by simp;omega)] at hq;refine Ab Ai AO.eq_1 ?_;simp[show ¬ (i:Int)≤j by omega,show ¬ i≤j by omega];rw[Ay];simp;exact hq [(47,bv false)]
 |succ m ih=>
  intro i hm hi hq;by_cases hij:i≤j
  ·have h0:=hH [];simp only[Jx] at h0;have gi:=Bq (d:=d) (i:=i) (by omega);have ga:=Bq (d:=d) (i:=a) (by omega);rw[hz] at ga;have e1:=AW i;rw[Sort.scanUp] at hq;generalize d[i]! = x at gi hq;have hc:=Uh x z;refine Ab Ai AO.eq_1 ?_;simp[hij,show(i:Int)≤j by omega,h0,gi,ga,show(i:Int)<n by omega,show i<n by omega,ha,show(a:Int)<n by omega,C0];rw[Ay];simp;refine En rfl (Dv x z) (by simp) rfl ?_;cases hL:Bz x z with
   |true=>
    rw[hL] at hc hq;have hc':Eu x.i z.i<0:=by simpa using hc
    rw[if_pos (by simp[hij])] at hq;simp[hc',e1];exact ih (i+1) (by omega) (by omega) hq
   |false=>
    rw[hL] at hc hq;have hc':¬ Eu x.i z.i<0:=by simpa using hc
    rw[if_neg (by simp)] at hq;simp[hc'];exact hq [(47,bv false)]
  ·rw[Sort.scanUp,if_neg (by simp;omega)] at hq;refine Ab Ai AO.eq_1 ?_;simp[show ¬ (i:Int)≤j by omega,hij];rw[Ay];simp;exact hq [(47,bv false)]
theorem AcE {n a j:Nat} {z:Sc} {d:Array Sc} {H:Hp} (hn:n≤900) (ha:a<n) (hj:j<n) (hd:d.size=n) (hz:d[a]! = z) (hH:∀ p,H (0::p)=(A7 d v).F 0 p):∀ (m i:Nat),j+1-i≤m→i≤n →
  (∀ (st:List (Nat × A)),Q (.exit 6) ⟨lk ([(0,GN n v 0),(1,iv a),(4,CU),(12,iv (Sort.scanUp (fun x=>Bz x z) d j i)),(13,iv j)]++st),H⟩) →
  LoopC (DD Tryz.prog w0 I0 M0 n0 m0) AP Q ⟨lk [(0,GN n v 0),(1,iv a),(4,CU),(12,iv i),(13,iv j)],H⟩:=by
 intro m;induction m with
 |zero=>
  intro i hm hi hq;rw[Sort.scanUp,if_neg (by simp;omega)] at hq;refine Ab Ai AP.eq_1 ?_;simp[show ¬ (i:Int)≤j by omega,show ¬ i≤j by omega];rw[Ay];simp;exact hq [(120,bv false)]
 |succ m ih=>
  intro i hm hi hq;by_cases hij:i≤j
  ·have h0:=hH [];simp only[Jx] at h0;have gi:=Bq (d:=d) (i:=i) (by omega);have ga:=Bq (d:=d) (i:=a) (by omega);rw[hz] at ga;have e1:=AW i;rw[Sort.scanUp] at hq;generalize d[i]! = x at gi hq;have hc:=Uh x z;refine Ab Ai AP.eq_1 ?_;simp[hij,show(i:Int)≤j by omega,h0,gi,ga,show(i:Int)<n by omega,show i<n by omega,ha,show(a:Int)<n by omega,C0];rw[Ay];simp;refine En rfl (Dv x z) (by simp) rfl ?_;cases hL:Bz x z with
   |true=>
    rw[hL] at hc hq;have hc':Eu x.i z.i<0:=by simpa using hc
    rw[if_pos (by simp[hij])] at hq;simp[hc',e1];exact ih (i+1) (by omega) (by omega) hq
   |false=>
    rw[hL] at hc hq;have hc':¬ Eu x.i z.i<0:=by simpa using hc
    rw[if_neg (by simp)] at hq;simp[hc'];exact hq [(120,bv false)]
  ·rw[Sort.scanUp,if_neg (by simp;omega)] at hq;refine Ab Ai AP.eq_1 ?_;simp[show ¬ (i:Int)≤j by omega,hij];rw[Ay];simp;exact hq [(120,bv false)]
theorem Abw {n a i:Nat} {z:Sc} {d:Array Sc} {H:Hp} (hn:n≤900) (ha:a<n) (hi:i≤n) (hi1:1≤i) (hd:d.size=n) (hz:d[a]! = z) (hH:∀ p,H (0::p)=(A7 d v).F 0 p):∀ (j:Nat),j<n →
  (∀ (st:List (Nat × A)),Q (.exit 2) ⟨lk ([(0,GN n v 0),(1,iv a),(4,CU),(12,iv i),(13,iv (Sort.scanDown (fun x=>!Bz x z) d i j))]++st),H⟩) →
  LoopC (DD Tryz.prog w0 I0 M0 n0 m0) AR Q ⟨lk [(0,GN n v 0),(1,iv a),(4,CU),(12,iv i),(13,iv j)],H⟩:=by
 intro j;induction j with
 |zero=>
  intro hj hq;rw[Sort.scanDown] at hq;refine Ab Ai AR.eq_1 ?_;simp[show ¬ (i:Int)≤0 by omega,show ¬ i=0 by omega];rw[Ay];simp;exact hq [(66,bv false)]
 |succ j ih=>
  intro hj hq;rw[Sort.scanDown] at hq;by_cases hij:i≤j+1
  ·have h0:=hH [];simp only[Jx] at h0;have gi:=Bq (d:=d) (i:=j+1) (by omega);have ga:=Bq (d:=d) (i:=a) (by omega);rw[hz] at ga;have e1:i64.wrap (((j+1:Nat):Int)-1)=(j:Int):=Bg;have e2:i64.wrap (j:Int)=(j:Int):=EJ;generalize d[j+1]! = x at gi hq;have hc:=Uh x z;have hij':(i:Int)≤((j+1:Nat):Int):=by omega
   have hj':((j+1:Nat):Int)<n:=by omega
   generalize hjj:j+1=jj at gi hij hij' hj hj' e1 hq ⊢;refine Ab Ai AR.eq_1 ?_;simp[hij,hij',h0,gi,ga,hj,hj',ha,show(a:Int)<n by omega,C0];rw[Ay];simp;refine En rfl (Dv x z) (by simp) rfl ?_;cases hL:Bz x z with
   |true=>
    rw[hL] at hc hq;have hc':Eu x.i z.i<0:=by simpa using hc
    rw[if_neg (by simp)] at hq;simp[hc'];exact hq [(66,bv false)]
   |false=>
    rw[hL] at hc hq;have hc':¬ Eu x.i z.i<0:=by simpa using hc
    rw[if_pos (by simp[hij])] at hq;simp[hc',e1];exact ih (by omega) hq
  ·rw[if_neg (by simp;omega)] at hq;refine Ab Ai AR.eq_1 ?_;have hij':¬ (i:Int)≤((j+1:Nat):Int):=by omega
   generalize hjj:j+1=jj at hij hij' hq ⊢;simp[hij,hij'];rw[Ay];simp;exact hq [(66,bv false)]
theorem AbI {n a i:Nat} {z:Sc} {d:Array Sc} {H:Hp} (hn:n≤900) (ha:a<n) (hi:i≤n) (hi1:1≤i) (hd:d.size=n) (hz:d[a]! = z) (hH:∀ p,H (0::p)=(A7 d v).F 0 p):∀ (j:Nat),j<n →
  (∀ (st:List (Nat × A)),Q (.exit 8) ⟨lk ([(0,GN n v 0),(1,iv a),(4,CU),(12,iv i),(13,iv (Sort.scanDown (fun x=>!Bz x z) d i j))]++st),H⟩) →
  LoopC (DD Tryz.prog w0 I0 M0 n0 m0) AQ Q ⟨lk [(0,GN n v 0),(1,iv a),(4,CU),(12,iv i),(13,iv j)],H⟩:=by
 intro j;induction j with
 |zero=>
  intro hj hq;rw[Sort.scanDown] at hq;refine Ab Ai AQ.eq_1 ?_;simp[show ¬ (i:Int)≤0 by omega,show ¬ i=0 by omega];rw[Ay];simp;exact hq [(139,bv false)]
 |succ j ih=>
  intro hj hq;rw[Sort.scanDown] at hq;by_cases hij:i≤j+1
  ·have h0:=hH [];simp only[Jx] at h0;have gi:=Bq (d:=d) (i:=j+1) (by omega);have ga:=Bq (d:=d) (i:=a) (by omega);rw[hz] at ga;have e1:i64.wrap (((j+1:Nat):Int)-1)=(j:Int):=Bg;have e2:i64.wrap (j:Int)=(j:Int):=EJ;generalize d[j+1]! = x at gi hq;have hc:=Uh x z;have hij':(i:Int)≤((j+1:Nat):Int):=by omega
   have hj':((j+1:Nat):Int)<n:=by omega
   generalize hjj:j+1=jj at gi hij hij' hj hj' e1 hq ⊢;refine Ab Ai AQ.eq_1 ?_;simp[hij,hij',h0,gi,ga,hj,hj',ha,show(a:Int)<n by omega,C0];rw[Ay];simp;refine En rfl (Dv x z) (by simp) rfl ?_;cases hL:Bz x z with
   |true=>
    rw[hL] at hc hq;have hc':Eu x.i z.i<0:=by simpa using hc
    rw[if_neg (by simp)] at hq;simp[hc'];exact hq [(139,bv false)]
   |false=>
    rw[hL] at hc hq;have hc':¬ Eu x.i z.i<0:=by simpa using hc
    rw[if_pos (by simp[hij])] at hq;simp[hc',e1];exact ih (by omega) hq
  ·rw[if_neg (by simp;omega)] at hq;refine Ab Ai AQ.eq_1 ?_;have hij':¬ (i:Int)≤((j+1:Nat):Int):=by omega
   generalize hjj:j+1=jj at hij hij' hq ⊢;simp[hij,hij'];rw[Ay];simp;exact hq [(139,bv false)]
theorem AbX {n a j:Nat} {z:Sc} {d:Array Sc} {H:Hp} (hn:n≤900) (ha:a<n) (hj:j<n) (hd:d.size=n) (hz:d[a]! = z) (hH:∀ p,H (0::p)=(A7 d v).F 0 p):∀ (m i:Nat),j+1-i≤m→i≤n →
  (∀ (st:List (Nat × A)),Q (.exit 2) ⟨lk ([(0,GN n v 0),(1,iv a),(4,CU),(11,iv (Sort.scanUp (fun x=>!Bz z x) d j i)),(12,iv j)]++st),H⟩) →
  LoopC (DD Tryz.prog w0 I0 M0 n0 m0) AG Q ⟨lk [(0,GN n v 0),(1,iv a),(4,CU),(11,iv i),(12,iv j)],H⟩:=by
 intro m;induction m with
 |zero=>
  intro i hm hi hq;rw[Sort.scanUp,if_neg (by simp;omega)] at hq;refine Ab Ai AG.eq_1 ?_;simp[show ¬ (i:Int)≤j by omega,show ¬ i≤j by omega];rw[Ay];simp;exact hq [(47,bv false)]
 |succ m ih=>
  intro i hm hi hq;by_cases hij:i≤j
  ·have h0:=hH [];simp only[Jx] at h0;have gi:=Bq (d:=d) (i:=i) (by omega);have ga:=Bq (d:=d) (i:=a) (by omega);rw[hz] at ga;have e1:=AW i;rw[Sort.scanUp] at hq;generalize d[i]! = x at gi hq;have hc:=Uh z x;refine Ab Ai AG.eq_1 ?_;simp[hij,show(i:Int)≤j by omega,h0,gi,ga,show(i:Int)<n by omega,show i<n by omega,ha,show(a:Int)<n by omega,C0];rw[Ay];simp;refine En rfl (Dv z x) (by simp) rfl ?_;cases hL:Bz z x with
   |true=>
    rw[hL] at hc hq;have hc':Eu z.i x.i<0:=by simpa using hc
    rw[if_neg (by simp)] at hq;simp[hc'];exact hq [(47,bv false)]
   |false=>
    rw[hL] at hc hq;have hc':¬ Eu z.i x.i<0:=by simpa using hc
    rw[if_pos (by simp[hij])] at hq;simp[hc',e1];exact ih (i+1) (by omega) (by omega) hq
  ·rw[Sort.scanUp,if_neg (by simp;omega)] at hq;refine Ab Ai AG.eq_1 ?_;simp[show ¬ (i:Int)≤j by omega,hij];rw[Ay];simp;exact hq [(47,bv false)]
theorem AcU {n a i:Nat} {z:Sc} {d:Array Sc} {H:Hp} (hn:n≤900) (ha:a<n) (hi:i≤n) (hi1:1≤i) (hd:d.size=n) (hz:d[a]! = z) (hH:∀ p,H (0::p)=(A7 d v).F 0 p):∀ (j:Nat),j<n →
  (∀ (st:List (Nat × A)),Q (.exit 4) ⟨lk ([(0,GN n v 0),(1,iv a),(4,CU),(11,iv i),(12,iv (Sort.scanDown (fun x=>Bz z x) d i j))]++st),H⟩) →
  LoopC (DD Tryz.prog w0 I0 M0 n0 m0) AF Q ⟨lk [(0,GN n v 0),(1,iv a),(4,CU),(11,iv i),(12,iv j)],H⟩:=by
 intro j;induction j with
 |zero=>
  intro hj hq;rw[Sort.scanDown] at hq;refine Ab Ai AF.eq_1 ?_;simp[show ¬ (i:Int)≤0 by omega,show ¬ i=0 by omega];rw[Ay];simp;exact hq [(65,bv false)]
 |succ j ih=>
  intro hj hq;rw[Sort.scanDown] at hq;by_cases hij:i≤j+1
  ·have h0:=hH [];simp only[Jx] at h0;have gi:=Bq (d:=d) (i:=j+1) (by omega);have ga:=Bq (d:=d) (i:=a) (by omega);rw[hz] at ga;have e1:i64.wrap (((j+1:Nat):Int)-1)=(j:Int):=Bg;have e2:i64.wrap (j:Int)=(j:Int):=EJ;generalize d[j+1]! = x at gi hq;have hc:=Uh z x;have hij':(i:Int)≤((j+1:Nat):Int):=by omega
   have hj':((j+1:Nat):Int)<n:=by omega
   generalize hjj:j+1=jj at gi hij hij' hj hj' e1 hq ⊢;refine Ab Ai AF.eq_1 ?_;simp[hij,hij',h0,gi,ga,hj,hj',ha,show(a:Int)<n by omega,C0];rw[Ay];simp;refine En rfl (Dv z x) (by simp) rfl ?_;cases hL:Bz z x with
   |true=>
    rw[hL] at hc hq;have hc':Eu z.i x.i<0:=by simpa using hc
    rw[if_pos (by simp[hij])] at hq;simp[hc',e1];exact ih (by omega) hq
   |false=>
    rw[hL] at hc hq;have hc':¬ Eu z.i x.i<0:=by simpa using hc
    rw[if_neg (by simp)] at hq;simp[hc'];exact hq [(65,bv false)]
  ·rw[if_neg (by simp;omega)] at hq;refine Ab Ai AF.eq_1 ?_;have hij':¬ (i:Int)≤((j+1:Nat):Int):=by omega
   generalize hjj:j+1=jj at hij hij' hq ⊢;simp[hij,hij'];rw[Ay];simp;exact hq [(65,bv false)]
theorem JV (p:Sc→Bool) (d:Array Sc) (j:Nat):∀ (m i:Nat),j+1-i≤m→i≤Sort.scanUp p d j i∧(Sort.scanUp p d j i≤j+1∨Sort.scanUp p d j i=i)
 |0,i,h=>by rw[Sort.scanUp,if_neg (by simp;omega)];exact⟨Cj _,.inr rfl⟩
 |m+1,i,h=>by
  rw[Sort.scanUp];split
  ·rename_i hc;simp at hc;have:=JV p d j m (i+1) (by omega);refine⟨by omega,.inl ?_⟩;rcases this.2 with h | h<;>omega
  ·exact⟨Cj _,.inr rfl⟩
theorem HD (p:Sc→Bool) (d:Array Sc) (i:Nat) (hi:1≤i):∀ j:Nat,Sort.scanDown p d i j≤j∧(i-1≤Sort.scanDown p d i j∨Sort.scanDown p d i j=j)
 |0=>by rw[Sort.scanDown];exact⟨Cj _,.inr rfl⟩
 |j+1=>by
  rw[Sort.scanDown];split
  ·rename_i hc;simp at hc;have:=HD p d i hi j;refine⟨by omega,?_⟩;rcases this.2 with h | h
   ·exact .inl h
   ·left;omega
  ·exact⟨Cj _,.inr rfl⟩
theorem Abx {n a:Nat} (hn:n≤900) (ha:a<n):∀ (m i j:Nat) (d:Array Sc) (H:Hp),j+1-i≤m→a+1≤i→i≤n→j<n→a≤j→i≤j+2→d.size=n→(∀ p,H (0::p)=(A7 d v).F 0 p) →
  (∀ (H':Hp) (x:A) (st:List (Nat × A)),(∀ p,H' (0::p)=(A7 (Sort.partLoop Bz a i j d).2 v).F 0 p)→a≤(Sort.partLoop Bz a i j d).1→(Sort.partLoop Bz a i j d).1<n→(Sort.partLoop Bz a i j d).2.size=n →
   Q (.exit 4) ⟨lk ([(0,GN n v 0),(1,iv a),(4,CU),(12,x),(13,iv (Sort.partLoop Bz a i j d).1)]++st),H'⟩) →
  LoopC (DD Tryz.prog w0 I0 M0 n0 m0) BK Q ⟨lk [(0,GN n v 0),(1,iv a),(4,CU),(12,iv i),(13,iv j)],H⟩:=by
 intro m;induction m using Nat.strongRecOn with
 |_ m ih=>
  intro i j d H hm h1 hi hj haj hij hd hH hq;rw[Sort.partLoop] at hq;have hu:=JV (fun x=>Bz x d[a]!) d j (j+1-i) i (Cj _);have lu:=fun (Q:Exit→Sta→Prop)=>AcE (n0:=n0) (w0:=w0) (I0:=I0) (M0:=M0) (m0:=m0) (Q:=Q) (v:=v) (a:=a) (j:=j) (H:=H) hn ha hj hd rfl hH (j+1-i) i (Cj _) hi;generalize Sort.scanUp (fun x=>Bz x d[a]!) d j i=i2 at hq hu lu;have hi2:i2≤n:=by rcases hu.2 with h | h<;>omega
  have hdn:=HD (fun x=>!Bz x d[a]!) d i2 (by omega) j;have ld:=fun (Q:Exit→Sta→Prop)=>AbI (n0:=n0) (w0:=w0) (I0:=I0) (M0:=M0) (m0:=m0) (Q:=Q) (v:=v) (a:=a) (i:=i2) (H:=H) hn ha hi2 (by omega) hd rfl hH j hj;generalize Sort.scanDown (fun x=>!Bz x d[a]!) d i2 j=j2 at hq hdn ld;refine Ab Ai BK.eq_1 ?_;simp;refine lu _ fun st=>?_;simp;refine ld _ fun st2=>?_;by_cases hc:j2<i2
  ·rw[if_pos hc] at hq;simp[hc,show(j2:Int)<i2 by omega];exact hq H (iv i2) [(144,bv true)] hH (by rcases hdn.2 with h | h<;>omega) (by omega) hd
  ·rw[if_neg hc] at hq;have hg:j2-1+1-(i2+1)<j+1-i:=by omega
   rw[dif_pos hg] at hq;have h0:=hH [];simp only[Jx] at h0;have e1:=AW i2;have e2:i64.wrap ((j2:Int)-1)=((j2-1:Nat):Int):=Bg;have g1:=Bq (d:=d) (i:=i2) (by omega);have g0:=Bq (d:=d) (i:=j2) (by omega);have g2:=Hf (d:=d) (i:=i2) (j:=j2) (by omega) (by omega);have hs:=JK (d:=d) (i:=i2) (j:=j2);generalize d[i2]! = x at g1 g2 hs;generalize d[j2]! = y at g0 g2 hs;simp[hc,show ¬ (j2:Int)<i2 by omega,h0,g0,g1,g2,e1,e2,show(i2:Int)<n by omega,show(j2:Int)<n by omega,show i2<n by omega,show j2<n by omega,C0];refine LoopC.le (Ao [(0,GN n v 0),(1,iv a),(4,CU),(12,iv (i2+1:Nat)),(13,iv (j2-1:Nat))] (by simp)) ?_;exact ih (j2-1+1-(i2+1)) (by omega) (i2+1) (j2-1) (Sort.swp d i2 j2) _ (Cj _) (by omega) (by omega) (by omega) (by omega) (by omega) (by rw[EY];exact hd) (fun p=>by by_cases hp:p=[]<;>simp[hp,hs,Aa,hH]) hq
theorem Aco {n a:Nat} (hn:n≤900) (ha:a<n):∀ (m i j:Nat) (d:Array Sc) (H:Hp),j+1-i≤m→a+1≤i→i≤n→j<n→a≤j→i≤j+2→d.size=n→(∀ p,H (0::p)=(A7 d v).F 0 p) →
  (∀ (H':Hp) (x:A) (st:List (Nat × A)),(∀ p,H' (0::p)=(A7 (Sort.partEqLoop Bz a i j d).2 v).F 0 p)→a<(Sort.partEqLoop Bz a i j d).1→(Sort.partEqLoop Bz a i j d).1≤n→(Sort.partEqLoop Bz a i j d).2.size=n →
   Q (.exit 0) ⟨lk ([(0,GN n v 0),(1,iv a),(4,CU),(11,iv (Sort.partEqLoop Bz a i j d).1),(12,x)]++st),H'⟩) →
  LoopC (DD Tryz.prog w0 I0 M0 n0 m0) Br Q ⟨lk [(0,GN n v 0),(1,iv a),(4,CU),(11,iv i),(12,iv j)],H⟩:=by
 intro m;induction m using Nat.strongRecOn with
 |_ m ih=>
  intro i j d H hm h1 hi hj haj hij hd hH hq;rw[Sort.partEqLoop] at hq;have hu:=JV (fun x=>!Bz d[a]! x) d j (j+1-i) i (Cj _);have lu:=fun (Q:Exit→Sta→Prop)=>AbX (n0:=n0) (w0:=w0) (I0:=I0) (M0:=M0) (m0:=m0) (Q:=Q) (v:=v) (a:=a) (j:=j) (H:=H) hn ha hj hd rfl hH (j+1-i) i (Cj _) hi;generalize Sort.scanUp (fun x=>!Bz d[a]! x) d j i=i2 at hq hu lu;have hi2:i2≤n:=by rcases hu.2 with h | h<;>omega
  have hdn:=HD (fun x=>Bz d[a]! x) d i2 (by omega) j;have ld:=fun (Q:Exit→Sta→Prop)=>AcU (n0:=n0) (w0:=w0) (I0:=I0) (M0:=M0) (m0:=m0) (Q:=Q) (v:=v) (a:=a) (i:=i2) (H:=H) hn ha hi2 (by omega) hd rfl hH j hj;generalize Sort.scanDown (fun x=>Bz d[a]! x) d i2 j=j2 at hq hdn ld;refine Ab Ai Br.eq_1 ?_;simp;refine lu _ fun st=>?_;simp;refine ld _ fun st2=>?_;by_cases hc:j2<i2
  ·rw[if_pos hc] at hq;simp[hc,show(j2:Int)<i2 by omega];exact hq H (iv j2) [(70,bv true)] hH (by omega) hi2 hd
  ·rw[if_neg hc] at hq;have hg:j2-1+1-(i2+1)<j+1-i:=by omega
   rw[dif_pos hg] at hq;have h0:=hH [];simp only[Jx] at h0;have e1:=AW i2;have e2:i64.wrap ((j2:Int)-1)=((j2-1:Nat):Int):=Bg;have g1:=Bq (d:=d) (i:=i2) (by omega);have g0:=Bq (d:=d) (i:=j2) (by omega);have g2:=Hf (d:=d) (i:=i2) (j:=j2) (by omega) (by omega);have hs:=JK (d:=d) (i:=i2) (j:=j2);generalize d[i2]! = x at g1 g2 hs;generalize d[j2]! = y at g0 g2 hs;simp[hc,show ¬ (j2:Int)<i2 by omega,h0,g0,g1,g2,e1,e2,show(i2:Int)<n by omega,show(j2:Int)<n by omega,show i2<n by omega,show j2<n by omega,C0];refine LoopC.le (Ao [(0,GN n v 0),(1,iv a),(4,CU),(11,iv (i2+1:Nat)),(12,iv (j2-1:Nat))] (by simp)) ?_;exact ih (j2-1+1-(i2+1)) (by omega) (i2+1) (j2-1) (Sort.swp d i2 j2) _ (Cj _) (by omega) (by omega) (by omega) (by omega) (by omega) (by rw[EY];exact hd) (fun p=>by by_cases hp:p=[]<;>simp[hp,hs,Aa,hH]) hq
theorem Ts (d:Array Sc) (v a b q:Nat) (hn:d.size≤900) (hab:a+2≤b) (hb:b≤d.size) (hq:q<d.size):SpecF Tryz.prog 215 (fun r=>[GN d.size v r,iv a,iv b,iv q,CU]) (A7 d v) (fun _=>.tup [iv (Sort.partition Bz d a b q).1,bv (Sort.partition Bz d a b q).2.1]) (A7 (Sort.partition Bz d a b q).2.2 v):=by
 refine Aq FG (by simp) (Ae (M9 _ _) (Ae AB (Ae AB (Ae AB (Ae DM Ah))))) (A5 (Ae AB (Ae AB Ah))) fun w0 I0 M0 m0=>?_;obtain⟨n,hnn⟩:∃ n,d.size=n:=⟨_,rfl⟩;rw[hnn] at hn hb hq ⊢;have e1:=AW a;have e2:i64.wrap ((b:Int)-1)=((b-1:Nat):Int):=Bg;have g1:=Bq (d:=d) (i:=a) (by omega);have g0:=Bq (d:=d) (i:=q) (by omega);have g2:=Hf (d:=d) (i:=a) (j:=q) (by omega) (by omega);have hs:=JK (d:=d) (i:=a) (j:=q);have hsz:(Sort.swp d a q).size=n:=by rw[EY];exact hnn
 obtain⟨R,hR⟩:∃ R,R=Sort.partition Bz d a b q:=⟨_,rfl⟩;rw[← hR];unfold Sort.partition at hR;generalize d[a]! = x at g1 g2 hs;generalize d[q]! = y at g0 g2 hs;generalize hd1:Sort.swp d a q=d1 at hs hsz hR;have hu:=JV (fun x=>Bz x d1[a]!) d1 (b-1) (b-1+1-(a+1)) (a+1) (Cj _);have lu:=fun (Q:Exit→Sta→Prop) (H:Hp) (hH:∀ p,H (0::p)=(A7 d1 v).F 0 p)=>Aaj (n0:=178) (w0:=w0) (I0:=I0) (M0:=M0) (m0:=m0) (Q:=Q) (v:=v) (a:=a) (j:=b-1) (H:=H) hn (by omega) (by omega) hsz rfl hH (b-1+1-(a+1)) (a+1) (Cj _) (by omega);simp only at hR;generalize Sort.scanUp (fun x=>Bz x d1[a]!) d1 (b-1) (a+1)=i2 at hR hu lu;have hi2:i2≤n:=by rcases hu.2 with h | h<;>omega
 have hdn:=HD (fun x=>!Bz x d1[a]!) d1 i2 (by omega) (b-1);have ld:=fun (Q:Exit→Sta→Prop) (H:Hp) (hH:∀ p,H (0::p)=(A7 d1 v).F 0 p)=>Abw (n0:=178) (w0:=w0) (I0:=I0) (M0:=M0) (m0:=m0) (Q:=Q) (v:=v) (a:=a) (i:=i2) (H:=H) hn (by omega) hi2 (by omega) hsz rfl hH (b-1) (by omega);generalize Sort.scanDown (fun x=>!Bz x d1[a]!) d1 i2 (b-1)=j2 at hR hdn ld;have hj2:a≤j2:=by rcases hdn.2 with h | h<;>omega
 have hj2n:j2<n:=by omega
 unfold C3;simp[g0,g1,g2,e1,e2,show(a:Int)<n by omega,show(q:Int)<n by omega,show a<n by omega,hq,C0,Aa];refine LoopC.le (Ao [(0,GN n v 0),(1,iv a),(4,CU),(12,iv (a+1:Nat)),(13,iv (b-1:Nat))] (by simp)) ?_;have hH1:∀ p,(ov 0 (AJ ((A7 d v).F 0) [] ⟨v,.arr 2 (((d.toList.map Jh).set a (Jh y)).set q (Jh x))⟩) (FR []):Hp) (0::p)=(A7 d1 v).F 0 p:=fun p=>by by_cases hp:p=[]<;>simp[hp,hs,Aa]
 refine lu _ _ hH1 fun st=>?_;simp;refine ld _ _ hH1 fun st2=>?_;have m1:=Bq (d:=d1) (i:=a) (by omega);have m2:=Bq (d:=d1) (i:=j2) (by omega);by_cases hc:j2<i2
 ·rw[if_pos hc] at hR;subst hR;have m3:=Hf (d:=d1) (i:=j2) (j:=a) (by omega) (by omega);have ms:=JK (d:=d1) (i:=j2) (j:=a);rw[hs] at m1 m2 m3 ms;simp only;generalize d1[a]! = z at m1 m3 ms;generalize d1[j2]! = u at m2 m3 ms;generalize hL:(((d.toList.map Jh).set a (Jh y)).set q (Jh x))=L at *;simp[hc,show(j2:Int)<i2 by omega,m1,m2,m3,Aa,show(a:Int)<n by omega,show(j2:Int)<n by omega,show a<n by omega,hj2n,C0];exact Ax rfl rfl (fun p=>by by_cases hp:p=[]<;>simp[hp,ms,Aa])
 ·rw[if_neg hc] at hR;have e3:=AW i2;have e4:i64.wrap ((j2:Int)-1)=((j2-1:Nat):Int):=Bg;have m1:=Bq (d:=d1) (i:=i2) (by omega);have m3:=Hf (d:=d1) (i:=i2) (j:=j2) (by omega) (by omega);have ms:=JK (d:=d1) (i:=i2) (j:=j2);have hsz2:(Sort.swp d1 i2 j2).size=n:=by rw[EY];exact hsz
  rw[hs] at m1 m2 m3 ms;generalize d1[i2]! = z at m1 m3 ms;generalize d1[j2]! = u at m2 m3 ms;generalize hd2:Sort.swp d1 i2 j2=d2 at ms hsz2 hR;have l5:=fun (Q:Exit→Sta→Prop) (H:Hp) (hH:∀ p,H (0::p)=(A7 d2 v).F 0 p)=>Abx (n0:=178) (w0:=w0) (I0:=I0) (M0:=M0) (m0:=m0) (Q:=Q) (v:=v) hn (show a<n by omega) (j2-1+1-(i2+1)) (i2+1) (j2-1) d2 H (Cj _) (by omega) (by omega) (by omega) (by omega) (by omega) hsz2 hH;generalize Sort.partLoop Bz a (i2+1) (j2-1) d2=T at hR l5;generalize hL:(((d.toList.map Jh).set a (Jh y)).set q (Jh x))=L at *;simp[hc,show ¬ (j2:Int)<i2 by omega,m1,m2,m3,e3,e4,Aa,show(i2:Int)<n by omega,show(j2:Int)<n by omega,show i2<n by omega,hj2n,C0];refine LoopC.le (Ao [(0,GN n v 0),(1,iv a),(4,CU),(12,iv (i2+1:Nat)),(13,iv (j2-1:Nat))] (by simp)) ?_;refine l5 _ _ (fun p=>by by_cases hp:p=[]<;>simp[hp,ms,Aa]) fun H' xx st3 hT t1 t2 t3=>?_;have h0:=hT [];simp only[Jx] at h0;have k1:=Bq (d:=T.2) (i:=a) (by omega);have k2:=Bq (d:=T.2) (i:=T.1) (by omega);have k3:=Hf (d:=T.2) (i:=T.1) (j:=a) (by omega) (by omega);have ks:=JK (d:=T.2) (i:=T.1) (j:=a);subst hR;simp only;generalize T.2[a]! = z' at k1 k3 ks;generalize T.2[T.1]! = u' at k2 k3 ks;simp[h0,k1,k2,k3,show(a:Int)<n by omega,show(T.1:Int)<n by omega,show a<n by omega,t2,C0];exact Ax rfl rfl (fun p=>by by_cases hp:p=[]<;>simp[hp,ks,hT,Aa])
theorem Zm (d:Array Sc) (v a b q:Nat) (hn:d.size≤900) (hab:a+2≤b) (hb:b≤d.size) (hq:q<d.size):SpecF Tryz.prog 214 (fun r=>[GN d.size v r,iv a,iv b,iv q,CU]) (A7 d v) (fun _=>iv (Sort.partitionEqual Bz d a b q).1) (A7 (Sort.partitionEqual Bz d a b q).2 v):=by
 refine Aq Ev (by simp) (Ae (M9 _ _) (Ae AB (Ae AB (Ae AB (Ae DM Ah))))) AB fun w0 I0 M0 m0=>?_;obtain⟨n,hnn⟩:∃ n,d.size=n:=⟨_,rfl⟩;rw[hnn] at hn hb hq ⊢;have e1:=AW a;have e2:i64.wrap ((b:Int)-1)=((b-1:Nat):Int):=Bg;have g1:=Bq (d:=d) (i:=a) (by omega);have g0:=Bq (d:=d) (i:=q) (by omega);have g2:=Hf (d:=d) (i:=a) (j:=q) (by omega) (by omega);have hs:=JK (d:=d) (i:=a) (j:=q);have hsz:(Sort.swp d a q).size=n:=by rw[EY];exact hnn
 unfold Sort.partitionEqual;generalize d[a]! = x at g1 g2 hs;generalize d[q]! = y at g0 g2 hs;generalize Sort.swp d a q=d1 at hs hsz ⊢;have l3:=fun (Q:Exit→Sta→Prop) (H:Hp) (hH:∀ p,H (0::p)=(A7 d1 v).F 0 p)=>Aco (n0:=90) (w0:=w0) (I0:=I0) (M0:=M0) (m0:=m0) (Q:=Q) (v:=v) hn (show a<n by omega) (b-1+1-(a+1)) (a+1) (b-1) d1 H (Cj _) (by omega) (by omega) (by omega) (by omega) (by omega) hsz hH;generalize Sort.partEqLoop Bz a (a+1) (b-1) d1=T at l3 ⊢;unfold Cm;simp[g0,g1,g2,e1,e2,show(a:Int)<n by omega,show(q:Int)<n by omega,show a<n by omega,hq,C0,Aa];refine LoopC.le (Ao [(0,GN n v 0),(1,iv a),(4,CU),(11,iv (a+1:Nat)),(12,iv (b-1:Nat))] (by simp)) ?_;refine l3 _ _ (fun p=>by by_cases hp:p=[]<;>simp[hp,hs,Aa]) fun H' xx st hT t1 t2 t3=>?_;simp;exact Ax rfl rfl hT
abbrev Ac2:List UInt8:=[0,1,2,2,3,3,3,3,4,4,4,4,4,4,4,4,5,5,5,5,5,5,5,5,5,5,5,5,5,5,5,5,6,6,6,6,6,6,6,6,6,6,6,6,6,6,6,6,6,6,6,6,6,6,6,6,6,6,6,6,6,6,6,6,7,7,7,7,7,7,7,7,7,7,7,7,7,7,7,7,7,7,7,7,7,7,7,7,7,7,7,7,7,7,7,7,7,7,7,7,7,7,7,7,7,7,7,7,7,7,7,7,7,7,7,7,7,7,7,7,7,7,7,7,7,7,7,7,8,8,8,8,8,8,8,8,8,8,8,8,8,8,8,8,8,8,8,8,8,8,8,8,8,8,8,8,8,8,8,8,8,8,8,8,8,8,8,8,8,8,8,8,8,8,8,8,8,8,8,8,8,8,8,8,8,8,8,8,8,8,8,8,8,8,8,8,8,8,8,8,8,8,8,8,8,8,8,8,8,8,8,8,8,8,8,8,8,8,8,8,8,8,8,8,8,8,8,8,8,8,8,8,8,8,8,8,8,8,8,8,8,8,8,8,8,8,8,8,8,8,8,8,8,8,8,8]
set_option maxRecDepth 100000 in
theorem Sj (n:Nat) (h:n<256):Ac2[n]? = some (UInt8.ofNat (Sort.bitsLen n))∧Sort.bitsLen n≤8:=by
 have:∀ n:Fin 256,Ac2[n.val]? = some (UInt8.ofNat (Sort.bitsLen n.val))∧Sort.bitsLen n.val≤8:=by decide +kernel
 exact this ⟨n,h⟩
set_option maxRecDepth 100000 in
theorem cT (n:Nat) (hn:n<256):G.Spec Tryz.prog 217 [uv n] (iv (Sort.bitsLen n)):=by
 refine Al Pw (by simp) fun w0 I0=>?_;unfold I6;simp[show ¬ (4294967296:Int)≤n by omega];rw[II.eq_1];simp[show ¬ (65536:Int)≤n by omega];rw[IA.eq_1];obtain⟨ht,hb⟩:=Sj n hn;have hx:(UInt8.ofNat (Sort.bitsLen n)).toNat=Sort.bitsLen n:=by rw[UInt8.toNat_ofNat'];exact Nat.mod_eq_of_lt (by omega)
 generalize UInt8.ofNat (Sort.bitsLen n)=y at ht hx;have e1:i64.wrap (Sort.bitsLen n:Int)=(Sort.bitsLen n:Int):=EJ;have e2:IntKind.u8.wrap (n:Int)=(n:Int):=by rw[IntKind.wrap_u8];omega
 simp[show ¬ (256:Int)≤n by omega,ht,e2];rw[hx,e1,e1];exact Ad rfl
theorem OJ (n:Nat) (hn:n<256):G.Spec Tryz.prog 206 [uv n] (iv (Sort.bitsLen n)):=by
 refine Al Ri (by simp) fun w0 I0=>?_;unfold KM;simp;refine Af (cT n hn) rfl ?_;simp;exact Ad rfl
theorem Xz (n:Nat) (hn:n<256):G.Spec Tryz.prog 219 [iv n] (uv (1 <<< Sort.bitsLen n:Nat)):=by
 refine Al J3 (by simp) fun w0 I0=>?_;obtain⟨_,hb⟩:=Sj n hn;have e1:u64.wrap (n:Int)=(n:Int):=Gp (by omega) (by omega);have h2:(2:Nat) ^ Sort.bitsLen n≤2 ^ 8:=Nat.pow_le_pow_right (by omega) hb;have h3:((2 ^ Sort.bitsLen n:Nat):Int)<18446744073709551616:=Int.ofNat_lt.2 (Nat.lt_of_le_of_lt h2 (by decide));have e2:u64.wrap (2 ^ min (Sort.bitsLen n) u64.bits:Int)=((1 <<< Sort.bitsLen n:Nat):Int):=by
  rw[show min (Sort.bitsLen n) u64.bits=Sort.bitsLen n from Nat.min_eq_left (Nat.le_trans hb (by decide)),Nat.one_shiftLeft];rw[show((2:Int) ^ Sort.bitsLen n)=((2 ^ Sort.bitsLen n:Nat):Int) by simp];exact Gp (Int.natCast_nonneg _) h3
 generalize hz:((1 <<< Sort.bitsLen n:Nat):Int)=z at e2 ⊢;unfold F6;simp[e1];refine Af (OJ n hn) rfl ?_;simp[e2];exact Ad rfl
theorem Aag (s:UInt64) (k:UInt64) (hk:k.toNat<64):bits .xor .u64 (s.toNat:Int) (u64.wrap ((s.toNat:Int)*2 ^ k.toNat))=((s ^^^ (s <<< k)).toNat:Int):=by
 have h:=s.toNat_lt;have e:u64.wrap ((s.toNat:Int)*2 ^ k.toNat)=((s <<< k).toNat:Int):=by
  rw[IntKind.wrap_u64,UInt64.toNat_shiftLeft,Nat.mod_eq_of_lt hk,Nat.shiftLeft_eq];rw[show((s.toNat:Int)*2 ^ k.toNat)=((s.toNat*2 ^ k.toNat:Nat):Int) by simp];omega
 rw[e,bits_xor_u64_nat _ _ h (s <<< k).toNat_lt,UInt64.toNat_xor]
theorem Af3 (s:UInt64) (k:UInt64) (hk:k.toNat<64):bits .xor .u64 (s.toNat:Int) ((s.toNat:Int) / 2 ^ k.toNat)=((s ^^^ (s >>> k)).toNat:Int):=by
 have h:=s.toNat_lt;have e:(s.toNat:Int) / 2 ^ k.toNat=((s >>> k).toNat:Int):=by
  rw[UInt64.toNat_shiftRight,Nat.mod_eq_of_lt hk,Nat.shiftRight_eq_div_pow];simp
 rw[e,bits_xor_u64_nat _ _ h (s >>> k).toNat_lt,UInt64.toNat_xor]
def yM (s:UInt64):Fam:=⟨fun r p=>if p=[] then ⟨1,.cells [uv s.toNat]⟩ else ⟨0,.none⟩,fun {g δ r r'} hg hd p=>by
  by_cases h1:p=[]
  ·rw[if_pos h1];exact Fam.cells_ren (by simp[A.renL,A.ren])
  ·rw[if_neg h1];rfl,fun {D r} hD p=>by
  by_cases h1:p=[]
  ·rw[if_pos h1];simp[Ob.refs,A.refsL,A.refs]
  ·rw[if_neg h1];trivial⟩
@[simp] theorem AhY {s:UInt64} {r:Nat} {p:Nm}:(yM s).F r p=if p=[] then ⟨1,.cells [uv s.toNat]⟩ else ⟨0,.none⟩:=rfl
theorem YM (s:UInt64):SpecF Tryz.prog 220 (fun r=>[yj r]) (yM s) (fun _=>uv (Sort.xorNext s).toNat) (yM (Sort.xorNext s)):=by
 refine Aq Ke (by simp) (Ae Au Ah) AB fun w0 I0 M0 m0=>?_;unfold GG;simp[Aa];have x1:bits .xor .u64 (s.toNat:Int) (u64.wrap ((s.toNat:Int)*2 ^ min 13 u64.bits))=((s ^^^ (s <<< 13)).toNat:Int):=Aag s 13 (by decide);rw[x1];have x2:=fun r:UInt64=>Af3 r 7 (by decide);have x2':∀ r:UInt64,bits .xor .u64 (r.toNat:Int) ((r.toNat:Int) / 2 ^ min 7 u64.bits)=((r ^^^ (r >>> 7)).toNat:Int):=fun r=>x2 r;rw[x2'];have x3:∀ r:UInt64,bits .xor .u64 (r.toNat:Int) (u64.wrap ((r.toNat:Int)*2 ^ min 17 u64.bits))=((r ^^^ (r <<< 17)).toNat:Int):=fun r=>Aag r 17 (by decide);rw[x3];exact Ax rfl rfl (fun p=>by by_cases hp:p=[]<;>simp[hp,Aa,Sort.xorNext])
theorem L4 (a l m:Nat) (st:UInt64 × Array Sc) (i:Nat):(Sort.breakStep a l m st i).2.size=st.2.size:=by
 unfold Sort.breakStep;exact EY
theorem qv {n a l k:Nat} (hn:n≤900) (hal:a+l≤n) (h13:13≤l) (h16:l≤49) (hk:k=Sort.bitsLen l) {i:Nat} (hi:i<n) (hib:i≤a+l / 4*2+1) {r:UInt64} {d:Array Sc} {H:Hp} (hd:d.size=n) (hH:∀ p,H (0::p)=(A7 d v).F 0 p) (hG:∀ p,H (1::p)=(yM r).F 1 p)
  (hq:∀ H':Hp,(∀ p,H' (0::p)=(A7 (Sort.breakStep a l (1 <<< k) (r,d) i).2 v).F 0 p)→(∀ p,H' (1::p)=(yM (Sort.breakStep a l (1 <<< k) (r,d) i).1).F 1 p)→LoopC (DD Tryz.prog w0 I0 M0 n0 m0) Ap Q ⟨lk [(0,GN n v 0),(1,iv a),(8,iv l),(9,yj 1),(10,uv (1 <<< k:Nat)),(11,iv (i+1:Nat))],H'⟩) :
  LoopC (DD Tryz.prog w0 I0 M0 n0 m0) Ap Q ⟨lk [(0,GN n v 0),(1,iv a),(8,iv l),(9,yj 1),(10,uv (1 <<< k:Nat)),(11,iv i)],H⟩:=by
 have hN:=YM r;obtain⟨m,hm⟩:∃ m,m=(1 <<< k:Nat):=⟨_,rfl⟩;obtain⟨q4,hq4⟩:∃ q4,q4=l / 4:=⟨_,rfl⟩;have e1:i64.wrap ((l:Int).tdiv 4)=(q4:Int):=by rw[Int.tdiv_eq_ediv_of_nonneg (by omega),Bf (by omega) (by omega)];omega
 have e1':i64.wrap ((l:Int) / 4)=(q4:Int):=Bg;have e2:i64.wrap ((q4:Int)*2)=(q4:Int)*2:=EJ;have e3:i64.wrap ((a:Int)+(q4:Int)*2)=(a:Int)+(q4:Int)*2:=EJ;have e4:i64.wrap ((a:Int)+(q4:Int)*2+1)=(a:Int)+(q4:Int)*2+1:=EJ;rw[← hm] at hq ⊢;refine Ab Ai Ap.eq_1 ?_;simp[e1,e1',e2,e3,e4,show(i:Int)≤(a:Int)+(q4:Int)*2+1 by omega];refine Ar 1 hN hG (by simp) (by simp) ?_;simp;have hX:=(Sort.xorNext r).toNat_lt;have hml:m≤2*l:=by
  rw[hm,hk,Nat.one_shiftLeft];exact Sort.two_pow_bitsLen_le (by omega)
 have hm1:1≤m:=by
  rw[hm,Nat.one_shiftLeft];exact Nat.one_le_two_pow
 obtain⟨o,ho⟩:∃ o,o=(Sort.xorNext r).toNat &&& (m-1):=⟨_,rfl⟩;have hol:o≤m-1:=by rw[ho];exact Nat.and_le_right
 have eA:bits .and .u64 ((Sort.xorNext r).toNat:Int) (u64.wrap ((m:Int)-1))=(o:Int):=by
  rw[show u64.wrap ((m:Int)-1)=((m-1:Nat):Int) by rw[Gp (by omega) (by omega)];omega,bits_and_u64_nat _ _ hX (by omega),← ho]
 have eB:i64.wrap (o:Int)=(o:Int):=EJ;have e5:=AW i;have fin:∀ o2:Nat,o2<l→Sort.breakStep a l m (r,d) i=(Sort.xorNext r,Sort.swp d i (a+o2))→WPC (DD Tryz.prog w0 I0 M0 n0 m0) Bx
   (BR 1 (F7 (WPC (DD Tryz.prog w0 I0 M0 n0 m0) (.keep [0,1,8,9,10,11] (.reg [co (some 36) (.move (.tmp 11)) none,co (some 37) (.binOp .add 3 (.tmp 36) (.const (.int .i64 1)) 3) none,co (some 11) (.assign (.tmp 37)) none] [0,1,8,9,10,11]))
    (F7 (LoopC (DD Tryz.prog w0 I0 M0 n0 m0) Ap Q) Q)) (F7 (LoopC (DD Tryz.prog w0 I0 M0 n0 m0) Ap Q) Q)))
   ⟨lk [(0,GN n v 0),(1,iv a),(8,iv l),(9,yj 1),(10,uv m),(11,iv i),(12,iv o2)],ov 1 ((yM (Sort.xorNext r)).F 1) H⟩:=fun o2 ho2 hst=>by
  have h0:=hH [];simp only[Jx] at h0;have e6:i64.wrap ((a:Int)+(o2:Int))=((a+o2:Nat):Int):=Bg;have g1:=Bq (d:=d) (i:=i) (by omega);have g0:=Bq (d:=d) (i:=a+o2) (by omega);have g2:=Hf (d:=d) (i:=i) (j:=a+o2) (by omega) (by omega);have hs:=JK (d:=d) (i:=i) (j:=a+o2);rw[hst] at hq;generalize d[i]! = x at g1 g2 hs;generalize d[a+o2]! = y at g0 g2 hs;have hj:((a+o2:Nat):Int)<n:=by omega
  have hj':a+o2<n:=by omega
  generalize Sort.swp d i (a+o2)=d2 at hs hq;generalize a+o2=jj at e6 g0 g2 hs hj hj';rw[Bx.eq_1];simp[e6,h0,g0,g1,g2,e5,show(i:Int)<n by omega,hi,hj,hj',C0];exact hq _ (fun p=>by by_cases hp:p=[]<;>simp[hp,hs,Aa,hH]) (fun p=>by simp[Aa])
 simp only[eA,eB];have hbs:Sort.breakStep a l m (r,d) i=(Sort.xorNext r,Sort.swp d i (a+(if o ≥ l then o-l else o))):=by
  unfold Sort.breakStep;simp only[← ho]
 by_cases hc:l≤o
 ·rw[if_pos (show o ≥ l from hc)] at hbs;refine⟨fun _=>?_,fun h=>by omega⟩;have e7:i64.wrap ((o:Int)-l)=((o-l:Nat):Int):=Bg;rw[e7];exact fin (o-l) (by omega) hbs
 ·rw[if_neg hc] at hbs;refine⟨fun h=>by omega,fun _=>?_⟩;exact fin o (by omega) hbs
theorem cJ (d:Array Sc) (v a b:Nat) (hn:d.size≤900) (hab:a+13≤b) (hb:b≤d.size) (hl:b-a<50):SpecF Tryz.prog 210 (fun r=>[GN d.size v r,iv a,iv b,CU]) (A7 d v) (fun _=>.tup []) (A7 (Sort.breakPatterns d a b) v):=by
 refine Aq EM (by simp) (Ae (M9 _ _) (Ae AB (Ae AB (Ae DM Ah)))) (A5 Ah) fun w0 I0 M0 m0=>?_;obtain⟨n,hnn⟩:∃ n,d.size=n:=⟨_,rfl⟩;rw[hnn] at hn hb ⊢;obtain⟨l,hll⟩:∃ l,l=b-a:=⟨_,rfl⟩;obtain⟨q4,hq4⟩:∃ q4,q4=l / 4:=⟨_,rfl⟩;have e0:i64.wrap ((b:Int)-a)=(l:Int):=Bg;have e1:i64.wrap ((l:Int).tdiv 4)=(q4:Int):=by rw[Int.tdiv_eq_ediv_of_nonneg (by omega),Bf (by omega) (by omega)];omega
 have e1':i64.wrap ((l:Int) / 4)=(q4:Int):=Bg;have e2:i64.wrap ((q4:Int)*2)=(q4:Int)*2:=EJ;have e3:i64.wrap ((a:Int)+(q4:Int)*2)=(a:Int)+(q4:Int)*2:=EJ;have e4:i64.wrap ((a:Int)+(q4:Int)*2-1)=((a+q4*2-1:Nat):Int):=Bg;have e5:i64.wrap ((a:Int)+(q4:Int)*2+1)=(a:Int)+(q4:Int)*2+1:=EJ;have eu:u64.wrap (l:Int)=(l:Int):=Gp (by omega) (by omega);have hNx:=Xz l (by omega);have ho:(UInt64.ofNat l).toNat=l:=by rw[UInt64.toNat_ofNat'];exact Nat.mod_eq_of_lt (by omega)
 unfold Sort.breakPatterns;simp only[← hll,ge_iff_le,if_pos (show 8≤l by omega),← hq4];have st:=@qv (n0:=67) w0 I0 M0 m0;generalize hid:a+q4*2-1=id0 at e4 ⊢;unfold Cu;generalize hmm:(1 <<< Sort.bitsLen l:Nat)=mm at hNx ⊢;simp[e0,eu,show(8:Int)≤l by omega,Aa];refine Af hNx rfl ?_;simp[e1,e1',e2,e3,e4];rw[← hmm];refine st hn (by omega) (by omega) (by omega) rfl (i:=id0) (r:=UInt64.ofNat l) (d:=d) (by omega) (by omega) hnn (fun p=>by simp) (fun p=>?_) fun H1 f1 g1=>?_
 ·by_cases hp:p=[]
  ·subst hp;simp[FR,ho]
  ·simp[FR,hp,Ne.symm hp]
 have s1:=L4 a l (1 <<< Sort.bitsLen l) (UInt64.ofNat l,d) id0;simp only[hnn] at s1;generalize Sort.breakStep a l (1 <<< Sort.bitsLen l) (UInt64.ofNat l,d) id0=S1 at f1 g1 s1 ⊢;refine st hn (by omega) (by omega) (by omega) rfl (i:=id0+1) (r:=S1.1) (d:=S1.2) (by omega) (by omega) s1 f1 g1 fun H2 f2 g2=>?_;have s2:=L4 a l (1 <<< Sort.bitsLen l) (S1.1,S1.2) (id0+1);simp only[s1] at s2;have eS:(S1.1,S1.2)=S1:=rfl;rw[eS] at f2 g2 s2;generalize Sort.breakStep a l (1 <<< Sort.bitsLen l) S1 (id0+1)=S2 at f2 g2 s2 ⊢;refine st hn (by omega) (by omega) (by omega) rfl (i:=id0+1+1) (r:=S2.1) (d:=S2.2) (by omega) (by omega) s2 f2 g2 fun H3 f3 g3=>?_;refine Ab Ai Ap.eq_1 ?_;have big:¬ ((id0+1+1+1:Nat):Int)≤(a:Int)+(q4:Int)*2+1:=by omega
 generalize id0+1+1+1=id3 at big ⊢;simp[e1,e1',e2,e3,e5,big];exact AU rfl rfl (fun p=>f3 p)
def tl (d:Array Sc) (a b lim q:Nat) (wb wp:Bool):Array Sc:=
 if (decide (a > 0)&&!Bz d[a-1]! d[q]!)=true then
  if a<(Sort.partitionEqual Bz d a b q).1∧(Sort.partitionEqual Bz d a b q).1≤b then Sort.pdq Bz (Sort.partitionEqual Bz d a b q).2 (Sort.partitionEqual Bz d a b q).1 b lim wb wp else (Sort.partitionEqual Bz d a b q).2
 else
  if a≤(Sort.partition Bz d a b q).1∧(Sort.partition Bz d a b q).1<b then
   if (Sort.partition Bz d a b q).1-a<b-(Sort.partition Bz d a b q).1 then
    Sort.pdq Bz (Sort.pdq Bz (Sort.partition Bz d a b q).2.2 a (Sort.partition Bz d a b q).1 lim true true) ((Sort.partition Bz d a b q).1+1) b lim (decide ((Sort.partition Bz d a b q).1-a ≥ (b-a) / 8)) (Sort.partition Bz d a b q).2.1
   else
    Sort.pdq Bz (Sort.pdq Bz (Sort.partition Bz d a b q).2.2 ((Sort.partition Bz d a b q).1+1) b lim true true) a (Sort.partition Bz d a b q).1 lim (decide (b-(Sort.partition Bz d a b q).1 ≥ (b-a) / 8)) (Sort.partition Bz d a b q).2.1
  else (Sort.partition Bz d a b q).2.2
def pq2 (d:Array Sc) (a b lim q:Nat) (hint:Sort.Hint) (wb wp:Bool):Array Sc:=
 if (wb&&wp&&decide (hint = .increasing))=true then
  if (Sort.partialInsertionSort Bz d a b).2=true then (Sort.partialInsertionSort Bz d a b).1 else tl (Sort.partialInsertionSort Bz d a b).1 a b lim q wb wp
 else tl d a b lim q wb wp
def p7 (d:Array Sc) (a b lim:Nat) (wb wp:Bool):Array Sc:=
 if (Sort.choosePivot Bz d a b).2 = .decreasing then pq2 (Sort.reverseRange d a b) a b lim ((b-1)-((Sort.choosePivot Bz d a b).1-a)) .increasing wb wp
 else pq2 d a b lim (Sort.choosePivot Bz d a b).1 (Sort.choosePivot Bz d a b).2 wb wp
theorem kV (d:Array Sc) (a b lim:Nat) (wb wp:Bool):Sort.pdq Bz d a b lim wb wp=if b-a≤12 then Sort.insertionSort Bz d a b else if lim=0 then Sort.heapSort Bz d a b else
  if wb=true then p7 d a b lim wb wp else p7 (Sort.breakPatterns d a b) a b (lim-1) wb wp:=by
 rw[Sort.pdq];split
 ·rfl
 ·split
  ·rfl
  ·have main:∀ (d:Array Sc) (lim:Nat),(let c:=Sort.choosePivot Bz d a b
    let d2:=if c.2 = .decreasing then Sort.reverseRange d a b else d
    let pivot:=if c.2 = .decreasing then (b-1)-(c.1-a) else c.1
    let hint:=if c.2 = .decreasing then Sort.Hint.increasing else c.2
    let pi:=if (wb&&wp&&hint = .increasing)=true then Sort.partialInsertionSort Bz d2 a b else (d2,false)
    if pi.2=true then pi.1 else tl pi.1 a b lim pivot wb wp)=p7 d a b lim wb wp:=fun d lim=>by
    simp only;unfold p7 pq2;by_cases hd:(Sort.choosePivot Bz d a b).2 = .decreasing
    ·simp only[hd,if_true];cases wb<;>cases wp<;>simp
    ·simp only[hd,if_false];by_cases hw:(wb&&wp&&decide ((Sort.choosePivot Bz d a b).2 = .increasing))=true
     ·rw[if_pos hw,if_pos hw]
     ·rw[if_neg hw,if_neg hw];simp
   cases wb with
   |true=>
    rw[if_pos rfl,← main];simp only[Bool.not_true,Bool.false_eq_true,if_false];unfold tl;rfl
   |false=>
    have e2:(if (false:Bool)=true then p7 d a b lim false wp else p7 (Sort.breakPatterns d a b) a b (lim-1) false wp)=p7 (Sort.breakPatterns d a b) a b (lim-1) false wp:=if_neg (by simp);rw[e2,← main];simp only[Bool.not_false,if_true];unfold tl;rfl
def Xo (l lim:Nat) (wb:Bool):Prop:=l≤12∨(l-12)+(if wb=true then 0 else 1)≤lim
section
variable {v n:Nat}
theorem L7 {l l' lim:Nat} (wb:Bool) (h:l'<l) (h2:l-12≤lim):Xo l' lim wb:=by
 unfold Xo;by_cases h3:l'≤12
 ·exact .inl h3
 ·right;split<;>omega
def yU (v n a b lim:Nat) (wb wp:Bool) (d:Array Sc):Prop:=∀ {n0:Nat} {w0:World} {I0:Nat→Prop} {M0:Nm→Nat→Prop} {m0:Mu} {Q:Exit→Sta→Prop} (H:Hp),(∀ p,H (0::p)=(A7 d v).F 0 p) →
  (∀ (H':Hp) (st:List (Nat × A)),(∀ p,H' (0::p)=(A7 (Sort.pdq Bz d a b lim wb wp) v).F 0 p)→Q .ret ⟨lk st,H'⟩) →
  LoopC (DD Tryz.prog w0 I0 M0 n0 m0) AA Q ⟨lk [(0,GN n v 0),(1,iv a),(2,iv b),(3,iv lim),(4,CU),(10,bv wb),(11,bv wp)],H⟩
def vR (v n a b lim:Nat) (d:Array Sc):Prop:=SpecF Tryz.prog 205 (fun r=>[GN n v r,iv a,iv b,iv lim,CU]) (A7 d v) (fun _=>.tup []) (A7 (Sort.pdq Bz d a b lim true true) v)
theorem XQ {a b lim:Nat} {d:Array Sc} (h:yU v n a b lim true true d):vR v n a b lim d:=by
 refine Aq Gb (by simp) (Ae (M9 _ _) (Ae AB (Ae AB (Ae AB (Ae DM Ah))))) (A5 Ah) fun w0 I0 M0 m0=>?_;unfold Dg;simp;refine LoopC.le (Ao [(0,GN n v 0),(1,iv a),(2,iv b),(3,iv lim),(4,CU),(10,bv true),(11,bv true)] (by simp)) ?_;refine h _ (fun p=>by simp) fun H' st h'=>?_;simp;exact AU rfl rfl (fun p=>h' p)
end
theorem a8 (a:Nat):∀ (m i j J:Nat) (d:Array Sc),j+1-i≤m→1≤i→i≤J+1→j≤J→i≤(Sort.partEqLoop Bz a i j d).1∧(Sort.partEqLoop Bz a i j d).1≤J+1∧(Sort.partEqLoop Bz a i j d).2.size=d.size:=by
 intro m;induction m using Nat.strongRecOn with
 |_ m ih=>
  intro i j J d hm h1 hi hj;rw[Sort.partEqLoop];have hu:=JV (fun x=>!Bz d[a]! x) d j (j+1-i) i (Cj _);generalize Sort.scanUp (fun x=>!Bz d[a]! x) d j i=i2 at hu ⊢;have hdn:=HD (fun x=>Bz d[a]! x) d i2 (by omega) j;generalize Sort.scanDown (fun x=>Bz d[a]! x) d i2 j=j2 at hdn ⊢;by_cases hc:i2 > j2
  ·simp only[hc,if_true];refine⟨hu.1,?_,trivial⟩;rcases hu.2 with h | h<;>omega
  ·have hg:j2-1+1-(i2+1)<j+1-i:=by omega
   simp only[hc,if_false,dif_pos hg];have:=ih (j2-1+1-(i2+1)) (by omega) (i2+1) (j2-1) J (Sort.swp d i2 j2) (Cj _) (by omega) (by omega) (by omega);rw[EY] at this;omega
theorem ia (d:Array Sc) (a b q:Nat) (hab:a+2≤b):a<(Sort.partitionEqual Bz d a b q).1∧(Sort.partitionEqual Bz d a b q).1≤b∧(Sort.partitionEqual Bz d a b q).2.size=d.size:=by
 unfold Sort.partitionEqual;have:=a8 a (b-1+1-(a+1)) (a+1) (b-1) (b-1) (Sort.swp d a q) (Cj _) (by omega) (by omega) (Cj _);rw[EY] at this;omega
theorem Abt:Sort.SWO Bz where
 irrefl x:=by simp[Bz]
 trans x y z h1 h2:=by simp[Bz] at *; omega
 ntrans x y z h1 h2:=by simp[Bz] at *; omega
theorem rf (d:Array Sc) (a b q:Nat) (h1:a≤q) (h2:q<b) (hb:b≤d.size):a≤(Sort.partition Bz d a b q).1∧(Sort.partition Bz d a b q).1<b∧(Sort.partition Bz d a b q).2.2.size=d.size:=by
 obtain⟨k1,k2,k3,_⟩:=Sort.partition_holds Bz Abt d a b q h1 h2 hb;exact⟨k1,k2,k3.1⟩
theorem KJ (d:Array Sc) (a b lim:Nat) (h:b-a≤12):(Sort.pdq Bz d a b lim true true).size=d.size:=by
 rw[kV,if_pos h];exact Nf Bz a b (b-(a+1)) (a+1) d (Cj _)
section
variable {n0:Nat} {w0:World} {I0:Nat→Prop} {M0:Nm→Nat→Prop} {m0:Mu} {Q:Exit→Sta→Prop} {v n:Nat}
theorem Aa1 {a b lim q l:Nat} {wb wp:Bool} {d:Array Sc} (hn:n≤900) (hd:d.size=n) (hab:a+13≤b) (hb:b≤n) (hl:l=b-a) (hl24:l≤24) (hq1:a≤q) (hq2:q<b) (hlim:l-12≤lim) (hlm:lim≤900)
  (ihL:∀ (a' b' lim':Nat) (wb' wp':Bool) (d':Array Sc),d'.size=n→a'≤b'→b'≤n→b'-a'<l→lim'≤900→Xo (b'-a') lim' wb'→yU v n a' b' lim' wb' wp' d')
  {H:Hp} (hH:∀ p,H (0::p)=(A7 d v).F 0 p) (hq:∀ (H':Hp) (st:List (Nat × A)),(∀ p,H' (0::p)=(A7 (tl d a b lim q wb wp) v).F 0 p)→Q .ret ⟨lk st,H'⟩) :
  WPC (DD Tryz.prog w0 I0 M0 n0 m0) Bm (BR 1 (F7 (LoopC (DD Tryz.prog w0 I0 M0 n0 m0) AA Q) Q)) ⟨lk [(0,GN n v 0),(1,iv a),(2,iv b),(3,iv lim),(4,CU),(10,bv wb),(11,bv wp),(12,iv l),(13,iv q)],H⟩:=by
 have hP:=Ts d v a b q (by omega) (by omega) (by omega) (by omega);have hE:=Zm d v a b q (by omega) (by omega) (by omega) (by omega);obtain⟨p1,p2,p3⟩:=rf d a b q hq1 hq2 (by omega);obtain⟨c1,c2,c3⟩:=ia d a b q (by omega);unfold tl at hq;rw[if_pos (show a<(Sort.partitionEqual Bz d a b q).1∧(Sort.partitionEqual Bz d a b q).1≤b from⟨c1,c2⟩),if_pos (show a≤(Sort.partition Bz d a b q).1∧(Sort.partition Bz d a b q).1<b from⟨p1,p2⟩)] at hq;generalize Sort.partitionEqual Bz d a b q=E at hE c1 c2 c3 hq;generalize Sort.partition Bz d a b q=R at hP p1 p2 p3 hq;obtain⟨mid,ap,d4⟩:=R;simp only at hP p1 p2 p3 hq;rw[hd] at hP hE p3 c3;have f1:i64.wrap ((mid:Int)-a)=((mid-a:Nat):Int):=Bg;have f2:i64.wrap ((b:Int)-mid)=((b-mid:Nat):Int):=Bg;have f3:i64.wrap ((l:Int).tdiv 8)=((l / 8:Nat):Int):=by rw[Int.tdiv_eq_ediv_of_nonneg (by omega),Bf (by omega) (by omega)];omega
 have f4:i64.wrap ((l:Int) / 8)=((l / 8:Nat):Int):=Bg;have f5:=AW mid;rw[Bm.eq_1];by_cases ha0:0<a
 ·have h0:=hH [];simp only[Jx] at h0;have g1:=Bq (d:=d) (i:=a-1) (by omega);have g0:=Bq (d:=d) (i:=q) (by omega);have hc:=Uh d[a-1]! d[q]!;have f6:i64.wrap ((a:Int)-1)=((a-1:Nat):Int):=Bg;generalize d[a-1]! = x at g1 hc hq;generalize d[q]! = y at g0 hc hq;simp[show(0:Int)<a by omega,ha0,h0,f6,g1,g0,show(q:Int)<n by omega,show q<n by omega,show a-1<n by omega,show((a-1:Nat):Int)<n by omega,C0];rw[Ay];simp;refine En rfl (Dv x y) (by simp) rfl ?_;cases hL:Bz x y with
  |false=>
   rw[hL] at hc hq;rw[if_pos (by simp;omega)] at hq;have hc':¬ Eu x.i y.i<0:=by simpa using hc
   simp[hc'];refine Ar 0 hE hH (by simp) (by simp) ?_;simp;exact ihL E.1 b lim wb wp E.2 c3 (by omega) hb (by omega) hlm (L7 _ (by omega) hlim) _ (fun p=>by simp) hq
  |true=>
   rw[hL] at hc hq;rw[if_neg (by simp)] at hq;have hc':Eu x.i y.i<0:=by simpa using hc
   simp[hc'];refine Ar 0 hP hH (by simp) (by simp) ?_;simp[f1,f2,f3,f4,f5];refine⟨fun hs=>?_,fun hs=>?_⟩
   ·rw[if_pos hs] at hq;have hS:vR v n a mid lim d4:=XQ (ihL a mid lim true true d4 p3 (by omega) (by omega) (by omega) hlm (.inl (by omega)));have hsz:=KJ d4 a mid lim (by omega);have hdec:decide ((l:Int) / 8≤((mid-a:Nat):Int))=decide (mid-a ≥ (b-a) / 8):=by rw[decide_eq_decide];omega
    refine Ar 0 hS (fun p=>by simp) (by simp) (by simp) ?_;simp[f5];rw[hdec];refine LoopC.le (Ao [(0,GN n v 0),(1,iv (mid+1:Nat)),(2,iv b),(3,iv lim),(4,CU),(10,bv (decide (mid-a ≥ (b-a) / 8))),(11,bv ap)] (by simp)) ?_;exact ihL (mid+1) b lim _ ap _ (by rw[hsz];exact p3) (by omega) hb (by omega) hlm (L7 _ (by omega) hlim) _ (fun p=>by simp) hq
   ·have hs':¬ mid-a<b-mid:=by omega
    rw[if_neg hs'] at hq;have hS:vR v n (mid+1) b lim d4:=XQ (ihL (mid+1) b lim true true d4 p3 (by omega) (by omega) (by omega) hlm (.inl (by omega)));have hsz:=KJ d4 (mid+1) b lim (by omega);have hdec:decide ((l:Int) / 8≤((b-mid:Nat):Int))=decide (b-mid ≥ (b-a) / 8):=by rw[decide_eq_decide];omega
    refine Ar 0 hS (fun p=>by simp) (by simp) (by simp) ?_;simp;rw[hdec];exact ihL a mid lim _ ap _ (by rw[hsz];exact p3) (by omega) (by omega) (by omega) hlm (L7 _ (by omega) hlim) _ (fun p=>by simp) hq
 ·rw[if_neg (by simp;omega)] at hq;have ha00:a=0:=by omega
  simp[show ¬ (0:Int)<a by omega,ha0];rw[Ay];simp;refine Ar 0 hP hH (by simp) (by simp) ?_;simp[f1,f2,f3,f4,f5];refine⟨fun hs=>?_,fun hs=>?_⟩
  ·rw[if_pos hs] at hq;have hS:vR v n a mid lim d4:=XQ (ihL a mid lim true true d4 p3 (by omega) (by omega) (by omega) hlm (.inl (by omega)));have hsz:=KJ d4 a mid lim (by omega);have hdec:decide ((l:Int) / 8≤((mid-a:Nat):Int))=decide (mid-a ≥ (b-a) / 8):=by rw[decide_eq_decide];omega
   refine Ar 0 hS (fun p=>by simp) (by simp) (by simp) ?_;simp[f5];rw[hdec];refine LoopC.le (Ao [(0,GN n v 0),(1,iv (mid+1:Nat)),(2,iv b),(3,iv lim),(4,CU),(10,bv (decide (mid-a ≥ (b-a) / 8))),(11,bv ap)] (by simp)) ?_;exact ihL (mid+1) b lim _ ap _ (by rw[hsz];exact p3) (by omega) hb (by omega) hlm (L7 _ (by omega) hlim) _ (fun p=>by simp) hq
  ·have hs':¬ mid-a<b-mid:=by omega
   rw[if_neg hs'] at hq;have hS:vR v n (mid+1) b lim d4:=XQ (ihL (mid+1) b lim true true d4 p3 (by omega) (by omega) (by omega) hlm (.inl (by omega)));have hsz:=KJ d4 (mid+1) b lim (by omega);have hdec:decide ((l:Int) / 8≤((b-mid:Nat):Int))=decide (b-mid ≥ (b-a) / 8):=by rw[decide_eq_decide];omega
   refine Ar 0 hS (fun p=>by simp) (by simp) (by simp) ?_;simp;rw[hdec];exact ihL a mid lim _ ap _ (by rw[hsz];exact p3) (by omega) (by omega) (by omega) hlm (L7 _ (by omega) hlim) _ (fun p=>by simp) hq
theorem tu {a b lim q l:Nat} {wb wp:Bool} {h:Sort.Hint} {d:Array Sc} (hn:n≤900) (hd:d.size=n) (hab:a+13≤b) (hb:b≤n) (hl:l=b-a) (hl24:l≤24) (hq1:a≤q) (hq2:q<b) (hlim:l-12≤lim) (hlm:lim≤900)
  (ihL:∀ (a' b' lim':Nat) (wb' wp':Bool) (d':Array Sc),d'.size=n→a'≤b'→b'≤n→b'-a'<l→lim'≤900→Xo (b'-a') lim' wb'→yU v n a' b' lim' wb' wp' d')
  {H:Hp} (hH:∀ p,H (0::p)=(A7 d v).F 0 p) (hq:∀ (H':Hp) (st:List (Nat × A)),(∀ p,H' (0::p)=(A7 (pq2 d a b lim q h wb wp) v).F 0 p)→Q .ret ⟨lk st,H'⟩) :
  WPC (DD Tryz.prog w0 I0 M0 n0 m0) BT (BR 1 (F7 (LoopC (DD Tryz.prog w0 I0 M0 n0 m0) AA Q) Q)) ⟨lk [(0,GN n v 0),(1,iv a),(2,iv b),(3,iv lim),(4,CU),(10,bv wb),(11,bv wp),(12,iv l),(13,iv q),(14,iv (LY h))],H⟩:=by
 have hP:=Wm d v a b (by omega) (by omega) (by omega) (by omega);have hpe:=Tj d a b (by omega);have h1:(Sort.partialInsertionSort Bz d a b).1=d:=by rw[hpe]
 have hk:∀ {H:Hp},(∀ p,H (0::p)=(A7 d v).F 0 p)→(∀ (H':Hp) (st:List (Nat × A)),(∀ p,H' (0::p)=(A7 (tl d a b lim q wb wp) v).F 0 p)→Q .ret ⟨lk st,H'⟩)→WPC (DD Tryz.prog w0 I0 M0 n0 m0) Bm (BR 1 (F7 (LoopC (DD Tryz.prog w0 I0 M0 n0 m0) AA Q) Q)) ⟨lk [(0,GN n v 0),(1,iv a),(2,iv b),(3,iv lim),(4,CU),(10,bv wb),(11,bv wp),(12,iv l),(13,iv q)],H⟩:=fun hH hq=>Aa1 hn hd hab hb hl hl24 hq1 hq2 hlim hlm ihL hH hq;unfold pq2 at hq;rw[h1] at hP hq;rw[hd] at hP;rw[BT.eq_1];by_cases hw:(wb&&wp&&decide (h = .increasing))=true
 ·rw[if_pos hw] at hq;simp at hw;obtain⟨⟨rfl,rfl⟩,rfl⟩:=hw;simp[LY];refine Ar 0 hP hH (by simp) (by simp) ?_;cases hp:(Sort.partialInsertionSort Bz d a b).2 with
  |true=>
   rw[if_pos hp] at hq;simp;exact hq _ [(0,GN n v 0),(1,iv a),(2,iv b),(3,iv lim),(4,CU),(10,bv true),(11,bv true),(12,iv l),(13,iv q),(80,bv true)] (fun p=>by simp)
  |false=>
   rw[if_neg (by rw[hp];simp)] at hq;simp;exact hk (fun p=>by simp) hq
 ·rw[if_neg hw] at hq;cases wb with
  |false=>
   simp;exact hk hH hq
  |true=>cases wp with
   |false=>
    simp;exact hk hH hq
   |true=>
    cases h with
    |increasing=>simp at hw
    |unknown=>
     simp[LY];exact hk hH hq
    |decreasing=>
     simp[LY];exact hk hH hq
theorem tt {a b lim l:Nat} {wb wp:Bool} {d:Array Sc} (hn:n≤900) (hd:d.size=n) (hab:a+13≤b) (hb:b≤n) (hl:l=b-a) (hl24:l≤24) (hlim:l-12≤lim) (hlm:lim≤900)
  (ihL:∀ (a' b' lim':Nat) (wb' wp':Bool) (d':Array Sc),d'.size=n→a'≤b'→b'≤n→b'-a'<l→lim'≤900→Xo (b'-a') lim' wb'→yU v n a' b' lim' wb' wp' d')
  {H:Hp} (hH:∀ p,H (0::p)=(A7 d v).F 0 p) (hq:∀ (H':Hp) (st:List (Nat × A)),(∀ p,H' (0::p)=(A7 (p7 d a b lim wb wp) v).F 0 p)→Q .ret ⟨lk st,H'⟩) :
  WPC (DD Tryz.prog w0 I0 M0 n0 m0) BS (BR 1 (F7 (LoopC (DD Tryz.prog w0 I0 M0 n0 m0) AA Q) Q)) ⟨lk [(0,GN n v 0),(1,iv a),(2,iv b),(3,iv lim),(4,CU),(10,bv wb),(11,bv wp),(12,iv l)],H⟩:=by
 have hC:=choose_spec d v a b (by omega) hab (by omega) (by omega);have hR:=W0 d v a b (by omega) (by omega) (by omega) (by omega);obtain⟨c1,c2⟩:=Sort.choosePivot_holds Bz d a b (by omega);have hrs:(Sort.reverseRange d a b).size=n:=by
  have:=(Sort.reverseRange_holds d a b (by omega) (by omega)).1;rw[this];exact hd
 unfold p7 at hq;rw[hd] at hC hR;rcases hqq:Sort.choosePivot Bz d a b with ⟨q,h⟩;rw[hqq] at hC c1 c2 hq;simp only at hC c1 c2 hq;rw[BS.eq_1];simp;refine Ar 0 hC hH (by simp) (by simp) ?_;by_cases hdec:h = .decreasing
 ·subst hdec;rw[if_pos rfl] at hq;have e1:i64.wrap ((b:Int)-1)=(b:Int)-1:=EJ;have e2:i64.wrap ((q:Int)-a)=(q:Int)-a:=EJ;have e3:i64.wrap ((b:Int)-1-((q:Int)-a))=((b-1-(q-a):Nat):Int):=Bg;simp[LY];refine Ar 0 hR (fun p=>by simp) (by simp) (by simp) ?_;simp[e1,e2,e3];exact tu (h:=.increasing) hn hrs hab hb hl hl24 (by omega) (by omega) hlim hlm ihL (fun p=>by simp) hq
 ·rw[if_neg hdec] at hq;have h2:¬ LY h=2:=by cases h<;>simp[LY] at hdec ⊢
  simp[h2];exact tu hn hd hab hb hl hl24 (by omega) (by omega) hlim hlm ihL (fun p=>by simp) hq
theorem wC (hn:n≤900):∀ (l:Nat),l≤24→∀ (a b lim:Nat) (wb wp:Bool) (d:Array Sc),d.size=n→a≤b→b≤n→b-a=l→lim≤900→Xo l lim wb→yU v n a b lim wb wp d:=by
 intro l;induction l using Nat.strongRecOn with
 |_ l ih=>
  intro hl24 a b lim wb wp d hd hab hb hl hlm hfar n0 w0 I0 M0 m0 Q H hH hq;have e0:i64.wrap ((b:Int)-a)=(l:Int):=Bg;refine Ab Ai AA.eq_1 ?_;rw[kV] at hq;by_cases h12:l≤12
  ·rw[if_pos (by omega)] at hq;have hI:=WV d v a b (by omega) (by omega) (by omega);rw[hd] at hI;simp[e0,show(l:Int)≤12 by omega,h12];refine Ar 0 hI hH (by simp) (by simp) ?_;simp;exact hq _ [] (fun p=>by simp)
  ·rw[if_neg (by omega)] at hq;have hlim:(l-12)+(if wb=true then 0 else 1)≤lim:=by
    rcases hfar with h | h
    ·omega
    ·exact h
   have hlim0:¬ lim=0:=by split at hlim<;>omega
   rw[if_neg hlim0] at hq;have ihL:∀ (a' b' lim':Nat) (wb' wp':Bool) (d':Array Sc),d'.size=n→a'≤b'→b'≤n→b'-a'<l→lim'≤900→Xo (b'-a') lim' wb'→yU v n a' b' lim' wb' wp' d':=fun a' b' lim' wb' wp' d' k1 k2 k3 k4 k5 k6=>ih (b'-a') k4 (by omega) a' b' lim' wb' wp' d' k1 k2 k3 rfl k5 k6;cases wb with
   |true=>
    rw[if_pos rfl] at hq;simp at hlim;simp[e0,show ¬ (l:Int)≤12 by omega,h12,hlim0];exact tt hn hd (by omega) hb hl.symm hl24 (by omega) hlm ihL hH hq
   |false=>
    rw[if_neg (by simp)] at hq;simp at hlim;have hB:=cJ d v a b (by omega) (by omega) (by omega) (by omega);rw[hd] at hB;have hbs:(Sort.breakPatterns d a b).size=n:=by
     have:=(Sort.breakPatterns_holds d a b hab (by omega)).1;rw[this];exact hd
    have e1:i64.wrap ((lim:Int)-1)=((lim-1:Nat):Int):=Bg;simp[e0,show ¬ (l:Int)≤12 by omega,h12,hlim0];refine Ar 0 hB hH (by simp) (by simp) ?_;simp[e1];exact tt hn hbs (by omega) hb hl.symm hl24 (by omega) (by omega) ihL (fun p=>by simp) hq
end
theorem Xc {o:List Sc} (ho:EB o) {d:Array Sc} (hp:d.toList.Perm o) (hs:Sort.SortedIn Bz 0 d.size d):d.toList=P3 o:=by
 have ha:EB d.toList:=by
  unfold EB at ho ⊢;exact(hp.pairwise_iff (fun {x y} h=>by rw[YK];exact h)).2 ho
 have hr:Iu d.toList:=by
  unfold Iu EB at *;rw[List.pairwise_iff_getElem] at ha ⊢;intro i j hi hj hij;have h1:=ha i j hi hj hij;have h2:=hs i j (Nat.zero_le _) hij (by simpa using hj);have e1:d[i]! = d.toList[i]:=by rw[getElem!_pos d i (by simpa using hi)];simp
  have e2:d[j]! = d.toList[j]:=by rw[getElem!_pos d j (by simpa using hj)];simp
  rw[e1,e2] at h2;simp[Bz] at h2;simp[Ug] at h1;simp at h1 h2 ⊢;omega
 obtain⟨k1,k2⟩:=N5 ho;exact Vv hr k1 (hp.trans k2.symm)
theorem cd {o:List Sc} (ho:EB o) (hl:o.length≤16) (v:Nat):SpecF Tryz.prog 198 (fun r=>[oU o v r,CU]) (Z5 o v) (fun _=>.tup []) (Z5 (P3 o) v):=by
 obtain⟨d,hd⟩:∃ d:Array Sc,d=o.toArray:=⟨_,rfl⟩;have hdl:d.toList=o:=by rw[hd]
 have hds:d.size=o.length:=by rw[hd];simp
 have hb:Sort.bitsLen o.length≤8:=(Sj o.length (by omega)).2;have hfar:Xo o.length (Sort.bitsLen o.length) true:=by
  have:∀ n:Fin 17,n.val≤12∨(n.val-12)+0≤Sort.bitsLen n.val:=by decide +kernel
  unfold Xo;simpa using this ⟨o.length,by omega⟩
 have hP:vR v o.length 0 o.length (Sort.bitsLen o.length) d:=XQ (wC (by omega) o.length (by omega) 0 o.length _ true true d hds (by omega) (Cj _) (by omega) (by omega) hfar);have hS:=Sort.pdq_sorts Bz Abt d 0 d.size (Sort.bitsLen o.length) true true (Nat.zero_le _) (Cj _) (.inl rfl);have hres:(Sort.pdq Bz d 0 o.length (Sort.bitsLen o.length) true true).toList=P3 o:=by
  rw[hds] at hS;obtain⟨⟨s1,_,s3⟩,s4⟩:=hS;refine Xc ho ?_ (by rw[s1,hds];exact s4);have e1:∀ x:Array Sc,x.size=o.length→x.extract 0 o.length=x:=fun x hx=>by rw[← hx];simp
  rw[e1 _ (by rw[s1,hds]),e1 _ hds,hdl] at s3;exact s3
 unfold vR at hP;rw[show(A7 d v)=Z5 o v by unfold A7;rw[hdl],show A7 (Sort.pdq Bz d 0 o.length (Sort.bitsLen o.length) true true) v=Z5 (P3 o) v by unfold A7;rw[hres]] at hP;refine Aq Fo (by simp) (Ae C7 (Ae DM Ah)) (A5 Ah) fun w0 I0 M0 m0=>?_;have e1:u64.wrap (o.length:Int)=(o.length:Int):=Gp (by omega) (by omega);have hL:=OJ o.length (by omega);unfold CE;simp[e1];refine Af hL rfl ?_;simp;refine Ar 0 hP (fun p=>by simp) (by simp) (by simp) ?_;simp;exact AU rfl rfl (fun p=>by simp)
@[simp] theorem zY {x:Sc}:(XL x).take 2=Z6 x:=rfl
theorem dv {all:List Sc}:∀ (m:Nat) (l junk o:List Sc) (v:Nat),l.length=m→l.length≤300→o.length+l.length≤300→KR l l.length→(∀ y,y ∈ all→y ∈ l∨Gn o y=false)→(∀ y,y ∈ l→y ∈ all) →
  ∃ o',KV all o o'∧∀ {n0:Nat} {w0:World} {I0:Nat→Prop} {Q:Exit→Sta→Prop} (u:Nat) (H:Hp),(∀ p,H (0::p)=(JQ l junk v).F 0 p)→(∀ p,H (2::p)=(Z5 o u).F 2 p) →
   (∀ (H':Hp) (u':Nat) (st:List (Nat × A)),(∀ p,H' (2::p)=(Z5 o' u').F 2 p)→Q (.exit 4) ⟨lk ([(3,Z8 0),(8,oU o' u' 2)]++st),H'⟩) →
   LoopC (cx Tryz.prog w0 I0 n0) Ge Q ⟨lk [(3,Z8 0),(8,oU o u 2)],H⟩:=by
 intro m;induction m with
 |zero=>
  intro l junk o v hm hl hol hh hall hsub;have:l=[]:=List.eq_nil_of_length_eq_zero hm;subst this;have hdone:∀ y,y ∈ all→Gn o y=false:=fun y hy=>by
   rcases hall y hy with h | h
   ·simp at h
   ·exact h
  refine⟨o,.done hdone,fun {n0 w0 I0 Q} u H hH hG hq=>?_⟩;have hL:=MD [] junk v (by simp);have h0:=hH [];refine Ab Ai Ge.eq_1 ?_;simp[h0];refine Ar 0 hL hH (by simp) (by simp) ?_;simp;exact hq _ u [(51,bv false)] (fun p=>by simp[hG])
 |succ m ih=>
  intro l junk o v hm hl hol hh hall hsub;obtain⟨q1,q2,q3⟩:=tY (l:=l) (by omega) hh;have hmin:∀ y,y ∈ l→Bk y (gt l 0)=false:=fun y hy=>by
   obtain⟨k,hk,rfl⟩:=List.getElem_of_mem hy;rw[← tf hk];exact od hh k hk
  obtain⟨g1,g2⟩:=lN q3 hmin hall hsub;have hP:=aW l junk v (by omega) (by omega);have hL:=MD l junk v (by omega);have hlen:=SO l;have hrl:((IW l).take (l.length-1)).length=m:=by simp;omega
  have q1':(IW l).getD (l.length-1) Yz=gt l 0:=q1;rw[q1'] at hP;have q2':KR ((IW l).take (l.length-1)) m:=fun k h1 h2=>q2 k h1 (by omega);clear q2;generalize gt l 0=x at hP g1 g2 q3 hmin;generalize (IW l).take (l.length-1)=rest at hP hrl q2' q3 g1 g2;have q2:KR rest rest.length:=fun k h1 h2=>q2' k h1 (by omega);have hsub':∀ y,y ∈ rest→y ∈ all:=fun y hy=>hsub y (q3.subset (by simp[hy]));cases hf:Gn o x with
  |true=>
   obtain⟨b1,b2⟩:=g1 hf;obtain⟨o',p1,p2⟩:=ih rest (x::junk) (o++[x]) v hrl (by omega) (by simp;omega) q2 b2 hsub';refine⟨o',.step b1 p1,fun {n0 w0 I0 Q} u H hH hG hq=>?_⟩;have hC:=Vu x o u (by omega);rw[hf] at hC;have h0:=hH [];simp only[sv] at h0;refine Ab Ai Ge.eq_1 ?_;simp[h0];refine Ar 0 hL hH (by simp) (by simp) ?_;simp[show 0<l.length by omega];refine Ar 0 hP (fun p=>by simp) (by simp) (by simp) ?_;simp[Aa,C0];have hG2:∀ p,(ov 0 ((JQ rest (x::junk) v).F 0) (AJ H [1] ⟨(H [1]).u+1,.cells (XL x)⟩):Hp) (2::p)=(Z5 o u).F 2 p:=fun p=>by simp[Aa,hG]
   refine Ar 2 hC hG2 (by simp) (by simp) ?_;have ht:(o.map Jh).take o.length=o.map Jh:=AX (by simp);simp[Aa,re,ht,C0];refine⟨cW,by omega,?_⟩;refine LoopC.le (Ao [(3,Z8 0),(8,oU (o++[x]) (u+1) 2)] (by simp)) ?_;exact p2 (u+1) _ (fun p=>by simp[Aa]) (fun p=>by by_cases hp:p=[]<;>simp[hp,Aa]) hq
  |false=>
   obtain⟨o',p1,p2⟩:=ih rest (x::junk) o v hrl (by omega) (by omega) q2 (g2 hf) hsub';refine⟨o',p1,fun {n0 w0 I0 Q} u H hH hG hq=>?_⟩;have hC:=Vu x o u (by omega);rw[hf] at hC;have h0:=hH [];simp only[sv] at h0;refine Ab Ai Ge.eq_1 ?_;simp[h0];refine Ar 0 hL hH (by simp) (by simp) ?_;simp[show 0<l.length by omega];refine Ar 0 hP (fun p=>by simp) (by simp) (by simp) ?_;simp[Aa,C0];have hG2:∀ p,(ov 0 ((JQ rest (x::junk) v).F 0) (AJ H [1] ⟨(H [1]).u+1,.cells (XL x)⟩):Hp) (2::p)=(Z5 o u).F 2 p:=fun p=>by simp[Aa,hG]
   refine Ar 2 hC hG2 (by simp) (by simp) ?_;simp;refine LoopC.le (Ao [(3,Z8 0),(8,oU o u 2)] (by simp)) ?_;exact p2 u _ (fun p=>by simp[Aa]) (fun p=>by simp) hq
end Go.Proofs.YtndnlknocdangaaGreat
namespace Go.PL
open List
def FZ (i:Nat):Nat→List Int→List Sc
 |_,[]=>[]
 |j,n::r=>if 0<n∧i<16∧j<16 then ⟨i,j,n⟩::FZ i (j+1) r else FZ i (j+1) r
def GL:Nat→List (List Int)→List Sc
 |_,[]=>[]
 |i,r::rs=>FZ i 0 r++GL (i+1) rs
theorem U4 {i:Nat}:∀ {r:List Int} {j:Nat},(FZ i j r).length≤16-j
 |[],j=>by simp[FZ]
 |n::r,j=>by
  have:=U4 (i:=i) (r:=r) (j:=j+1);unfold FZ;split
  ·simp;omega
  ·omega
theorem VU {i:Nat} (h:16≤i):∀ {r:List Int} {j:Nat},FZ i j r=[]
 |[],j=>rfl
 |n::r,j=>by
  unfold FZ;rw[if_neg (by omega),VU h]
theorem Qb:∀ {rs:List (List Int)} {i:Nat},(GL i rs).length≤(16-i)*16
 |[],i=>by simp[GL]
 |r::rs,i=>by
  have h1:=Qb (rs:=rs) (i:=i+1);have h2:=U4 (i:=i) (r:=r) (j:=0);unfold GL;rw[List.length_append];by_cases h:16≤i
  ·rw[VU h];simp;omega
  ·omega
theorem YJ {i:Nat}:∀ {r:List Int} {j:Nat} {x:Sc},x ∈ FZ i j r→x.i=i∧i<16∧x.j<16∧j≤x.j∧x.j<j+r.length∧r[x.j-j]? = some x.n∧0<x.n
 |[],j,x,h=>by simp[FZ] at h
 |n::r,j,x,h=>by
  have ih:x ∈ FZ i (j+1) r→x.i=i∧i<16∧x.j<16∧j≤x.j∧x.j<j+(n::r).length∧(n::r)[x.j-j]? = some x.n∧0<x.n:=fun h=>by
   obtain⟨h1,h2,h3,h4,h5,h6,h7⟩:=YJ h;refine⟨h1,h2,h3,by omega,by simp;omega,?_,h7⟩;rw[show x.j-j=(x.j-(j+1))+1 by omega];simpa using h6
  unfold FZ at h;split at h
  ·rename_i hc;rcases List.mem_cons.1 h with rfl | h
   ·exact⟨rfl,hc.2.1,hc.2.2,Cj _,by simp,by simp,hc.1⟩
   ·exact ih h
  ·exact ih h
end Go.PL
namespace Go.Proofs.YtndnlknocdangaaGreat
open Go Go.G Go.Proofs Go.PL
abbrev bP (l:List (List Int)):A:=.sl false (l.map Fc)
def HpI (H:Hp) (all:List Sc):Prop:=∃ (l junk:List Sc) (v:Nat),(∀ p,H (0::p)=(JQ l junk v).F 0 p)∧KR l l.length∧List.Perm l all∧∀ p,H (2::p)=⟨0,.none⟩
theorem qT {n0:Nat} {w0:World} {I0:Nat→Prop} {Q:Exit→Sta→Prop} {X:A} {N:Nat} {r:List Int} {i:Nat} (hr:r.length≤1000000):∀ (m j:Nat) (all:List Sc) (H:Hp),r.length=j+m→all.length+(FZ i j (r.drop j)).length≤256→HpI H all →
  (∀ (H':Hp) (st:List (Nat × A)),HpI H' (all++FZ i j (r.drop j))→Q (.exit 2) ⟨lk ([(3,Z8 0),(4,iv i),(12,X),(13,iv N),(14,iv i)]++st),H'⟩) →
  LoopC (cx Tryz.prog w0 I0 n0) Gm Q ⟨lk [(3,Z8 0),(4,iv i),(12,X),(13,iv N),(14,iv i),(19,Fc r),(20,iv r.length),(21,iv j)],H⟩:=by
 intro m;induction m with
 |zero=>
  intro j all H hm hl hI hq;refine Ab Ai Gm.eq_1 ?_;have:¬ (j:Int)<r.length:=by omega
  simp[this];have hd:r.drop j=[]:=List.drop_eq_nil_of_le (by omega);rw[hd] at hq;exact hq H [(19,Fc r),(20,iv r.length),(21,iv j),(22,bv false)] (by simpa[FZ] using hI)
 |succ m ih=>
  intro j all H hm hl hI hq;have hj:j<r.length:=by omega
  have hd:r.drop j=r[j]::r.drop (j+1):=(List.getElem_cons_drop hj).symm;have e1:=AW j;rw[hd] at hl hq;unfold FZ at hl hq;refine Ab Ai Gm.eq_1 ?_;simp[hj,show(j:Int)<r.length by omega];have next:∀ (all':List Sc) (H':Hp),all'.length+(FZ i (j+1) (r.drop (j+1))).length≤256→HpI H' all'→all'++FZ i (j+1) (r.drop (j+1))=all++(if 0<r[j]∧i<16∧j<16 then ⟨i,j,r[j]⟩::FZ i (j+1) (r.drop (j+1)) else FZ i (j+1) (r.drop (j+1)))→LoopC (cx Tryz.prog w0 I0 n0) Gm Q ⟨lk [(3,Z8 0),(4,iv i),(12,X),(13,iv N),(14,iv i),(19,Fc r),(20,iv r.length),(21,iv (j+1:Nat))],H'⟩:=fun all' H' hl' hI' he=>ih (j+1) all' H' (by omega) hl' hI' (by rw[he];exact hq)
  by_cases h1:0<r[j]
  ·by_cases h2:i<16
   ·by_cases h3:j<16
    ·rw[if_pos ⟨h1,h2,h3⟩] at hl;obtain⟨l,junk,v,q1,q2,q3,q4⟩:=hI;have hll:=q3.length_eq;simp at hl;have hP:=Zo l junk v (by omega) ⟨i,j,r[j]⟩;obtain⟨g1,g2⟩:=dZ q2 ⟨i,j,r[j]⟩;simp[h1,show(i:Int)<16 by omega,show(j:Int)<16 by omega];refine⟨?_,fun h=>by omega⟩;refine Ar 0 hP q1 (by simp[Mj,XL]) (by simp) ?_;simp[e1];refine next (all++[⟨i,j,r[j]⟩]) _ (by simp;omega) ⟨g8 (l.length+1) (l++[⟨i,j,r[j]⟩]) l.length,[],v+1,fun p=>by simp,?_,?_,fun p=>by simp[q4]⟩ (by rw[if_pos ⟨h1,h2,h3⟩];simp)
     ·rw[Xa];simpa using g1
     ·exact g2.trans ((q3.cons _).trans (List.perm_append_singleton _ _).symm)
    ·have:¬ (j:Int)<16:=by omega
     simp[h1,show(i:Int)<16 by omega,this,e1];intro _;refine next all H (by rw[if_neg (by omega)] at hl;exact hl) hI (by rw[if_neg (by omega)])
   ·have:¬ (i:Int)<16:=by omega
    simp[h1,this,e1];refine next all H (by rw[if_neg (by omega)] at hl;exact hl) hI (by rw[if_neg (by omega)])
  ·simp[h1,e1];refine next all H (by rw[if_neg (by omega)] at hl;exact hl) hI (by rw[if_neg (by omega)])
theorem rO {n0:Nat} {w0:World} {I0:Nat→Prop} {Q:Exit→Sta→Prop} {rs:List (List Int)} (hrs:rs.length≤1000000) (hr:∀ r,r ∈ rs→r.length≤1000000):∀ (m i:Nat) (all:List Sc) (H:Hp),rs.length=i+m→all.length+(GL i (rs.drop i)).length≤256→HpI H all →
  (∀ (H':Hp) (st:List (Nat × A)),HpI H' (all++GL i (rs.drop i))→Q (.exit 0) ⟨lk ([(3,Z8 0)]++st),H'⟩) →
  LoopC (cx Tryz.prog w0 I0 n0) Ia Q ⟨lk [(3,Z8 0),(12,bP rs),(13,iv rs.length),(14,iv i)],H⟩:=by
 intro m;induction m with
 |zero=>
  intro i all H hm hl hI hq;refine Ab Ai Ia.eq_1 ?_;have:¬ (i:Int)<rs.length:=by omega
  simp[this];have hd:rs.drop i=[]:=List.drop_eq_nil_of_le (by omega);rw[hd] at hq;exact hq H [(12,bP rs),(13,iv rs.length),(14,iv i),(15,bv false)] (by simpa[GL] using hI)
 |succ m ih=>
  intro i all H hm hl hI hq;have hj:i<rs.length:=by omega
  have hd:rs.drop i=rs[i]::rs.drop (i+1):=(List.getElem_cons_drop hj).symm;have e1:=AW i;have hri:=hr rs[i] (C5 hj);rw[hd] at hl hq;unfold GL at hl hq;rw[List.length_append] at hl;refine Ab Ai Ia.eq_1 ?_;simp[hj,show(i:Int)<rs.length by omega];refine LoopC.le (Ao [(3,Z8 0),(4,iv i),(12,bP rs),(13,iv rs.length),(14,iv i),(19,Fc rs[i]),(20,iv rs[i].length),(21,iv (0:Nat))] (by simp)) ?_;refine qT hri rs[i].length 0 all H (by omega) (by simp;omega) hI fun H' st hI'=>?_;simp[e1];refine ih (i+1) _ H' (by omega) ?_ (by simpa using hI') fun H2 st2 hI2=>?_
  ·simp;omega
  ·refine hq H2 st2 (by simpa using hI2)
theorem XR:∀ all:List Sc,∃ l,KR l l.length∧List.Perm l all
 |[]=>⟨[],fun k _ h=>by simp at h,List.Perm.refl _⟩
 |x::all=>by
  obtain⟨l,h1,h2⟩:=XR all;obtain⟨g1,g2⟩:=dZ h1 x;exact⟨_,by rw[Xa];simpa using g1,g2.trans (h2.cons x)⟩
theorem gU {all:List Sc} (h:all.length≤300):∃ o',KV all [] o':=by
 obtain⟨l,h1,h2⟩:=XR all;have:=h2.length_eq;obtain⟨o',h3,_⟩:=dv (all:=all) l.length l [] [] 0 rfl (by omega) (by simp;omega) h1 (fun y hy=>.inl (h2.symm.subset hy)) (fun y hy=>h2.subset hy);exact⟨o',h3⟩
theorem F4 {rs:List (List Int)} {o':List Sc} (h:KV (GL 0 rs) [] o'):EB o'∧(∀ x,x ∈ o'→x ∈ GL 0 rs):=XW h (by simp[EB]) (by simp)
theorem gE (rs:List (List Int)) (hrs:rs.length≤1000000) (hr:∀ r,r ∈ rs→r.length≤1000000) {o':List Sc} (ho:KV (GL 0 rs) [] o') (hl16:o'.length≤16):G.Spec Tryz.prog 185 [bP rs] (.sl false ((P3 o').map Jh)):=by
 obtain⟨hap,_⟩:=F4 ho;have hcl:=Qb (rs:=rs) (i:=0);refine Al Yd (by simp) fun w0 I0=>?_;unfold Q4;simp;refine LoopC.le (BX (d:=[0]) (u:=1) (cs:=[.sl true []]) 0 [0,0] 3 rfl rfl (by simp)) ?_;simp;refine LoopC.le (Ao [(3,Z8 0),(12,bP rs),(13,iv rs.length),(14,iv (0:Nat))] (by simp)) ?_;refine rO hrs hr rs.length 0 [] _ (by omega) (by simpa using hcl) ⟨[],[],1,fun p=>?_,fun k _ h=>by simp at h,List.Perm.refl _,fun p=>by simp⟩ fun H' st hI=>?_
 ·by_cases h1:p=[]
  ·subst h1;simp
  ·by_cases h2:p=[0]
   ·subst h2;simp
   ·simp[h1,h2,Ne.symm h1,Ne.symm h2]
 ·obtain⟨l,junk,v,q1,q2,q3,q4⟩:=hI;simp only[List.nil_append,List.drop_zero] at q3;have hll:=q3.length_eq;simp;refine LoopC.le (FF 8 [2] 2 (by simp)) ?_;obtain⟨o2,p1,p2⟩:=dv (all:=GL 0 rs) l.length l junk [] v rfl (by omega) (by simp;omega) q2 (fun y hy=>.inl (q3.symm.subset hy)) (fun y hy=>q3.subset hy);have:=hY p1 ho;subst this;refine LoopC.le (Ao [(3,Z8 0),(8,oU [] ((H' [2]).u+1) 2)] (by simp)) ?_;refine p2 _ _ (fun p=>by simp[Aa,q1]) (fun p=>?_) fun H2 u2 st2 hG=>?_
  ·by_cases h1:p=[]<;>simp[h1,Aa,q4]
  ·have hS:=cd hap hl16 u2;simp;refine Ar 2 hS hG (by simp) (by simp) ?_;simp;have hsl:(P3 o2).length=o2.length:=(N5 hap).2.length_eq;have:=Te (H:=ov 2 ((Z5 (P3 o2) u2).F 2) H2) (o:=[2]) (u:=u2) (sz:=2) (l:=P3 o2) (f:=Jh) (n:=o2.length) (by simp) (by omega) (by intro x;rfl);rw[AX (by omega)] at this;exact this
end Go.Proofs.YtndnlknocdangaaGreat
namespace Go.Proofs.YtndnlknocdangaaGreat
set_option maxRecDepth 20000
open Go Go.G Go.Proofs
@[simp] theorem Aex:Tryz.prog.underlying 161=some (.slice 166):=by kernel_rfl
@[simp] theorem AdT:Tryz.prog.underlying 187=some (.slice 190):=by kernel_rfl
@[simp] theorem Afg:Tryz.prog.underlying 209=some (.array 3 3):=by kernel_rfl
@[simp] theorem Afq:CX Tryz.prog 161=some 1:=by kernel_rfl
@[simp] theorem AdK:CX Tryz.prog 166=some 2:=by kernel_rfl
@[simp] theorem AfR:CX Tryz.prog 190=some 2:=by kernel_rfl
@[simp] theorem AcT:Dj Tryz.prog 161=some false:=by kernel_rfl
@[simp] theorem AcM:Dj Tryz.prog 166=some true:=by kernel_rfl
@[simp] theorem Adu:Dj Tryz.prog 190=some true:=by kernel_rfl
@[simp] theorem zj:Bh Tryz.prog 161=some (Value.slice none 0 0):=by kernel_rfl
@[simp] theorem zl:Bh Tryz.prog 166=some (Value.agg #[Value.int i64 0,Value.int i64 0]):=by kernel_rfl
@[simp] theorem yP:Bh Tryz.prog 190=some (Value.agg #[Value.int i64 0,Value.int i64 0]):=by kernel_rfl
@[simp] theorem xB:Bh Tryz.prog 209=some (Value.agg #[Value.int i64 0,Value.int i64 0,Value.int i64 0]):=by kernel_rfl
@[simp] theorem wW:Bs Tryz.prog 166=some 16:=by kernel_rfl
@[simp] theorem vI:Bs Tryz.prog 190=some 16:=by kernel_rfl
@[simp] theorem iW:Aj Tryz.prog 166 0=some 0:=by kernel_rfl
@[simp] theorem iZ:Aj Tryz.prog 166 1=some 1:=by kernel_rfl
@[simp] theorem ju:Aj Tryz.prog 190 0=some 0:=by kernel_rfl
@[simp] theorem jw:Aj Tryz.prog 190 1=some 1:=by kernel_rfl
@[simp] theorem jx:Aj Tryz.prog 207 0=some 0:=by kernel_rfl
@[simp] theorem uM (ps:List (Nat × A)):Ch Tryz.prog 166 ps=(CT (fun i=>([(0,1),(1,1)]:List (Nat × Nat))[i]?) [iv 0,iv 0] ps).map A.agg:=by kernel_rfl
@[simp] theorem vq (ps:List (Nat × A)):Ch Tryz.prog 190 ps=(CT (fun i=>([(0,1),(1,1)]:List (Nat × Nat))[i]?) [iv 0,iv 0] ps).map A.agg:=by kernel_rfl
@[simp] theorem uE (ps:List (Nat × A)):Ch Tryz.prog 207 ps=(CT (fun i=>([(0,1)]:List (Nat × Nat))[i]?) [A.sl true []] ps).map A.agg:=by kernel_rfl
def QU:CC:=sR [aI 8 0] [0,1,2,3] (.seq (.block 0 (sR [mO 10 2,mO 11 10,mG 12 3 11 true,pF 13 11 12,aO 9 13] [0,1,2,3,9] (cD 9 (sR [aI 8 0] [8] (.ret)) (sR [mO 15 2,mO 16 15,mG 17 3 16 false,oG 18 (.unOp .not 4 (xT 17)) 16 false,mG 19 18 16 false,mG 20 0 19 true,mG 21 1 19 true,oG 22 (.binOp .sub 3 (xT 21) (nI 1) 3) 19 true,oG 23 (iA 159 20 22) 19 true,lG 24 3 23 19 true,mG 25 0 19 true,mG 26 1 19 true,oG 27 (.binOp .add 3 (xT 26) (nI 1) 3) 19 true,oG 28 (iA 159 25 27) 19 true,lG 29 3 28 19 true,oG 30 (bO .lss 3 24 29 3) 19 true,oG 31 (.pick (xT 19) (xT 30) (nB false)) 16 false,pT 32 16 31,aO 14 32] [0,1,14] (cD 14 (sR [mO 33 0,mO 34 1,bQ .add 35 3 34 1 3,iO 36 159 33 35,lO 37 3 36,aO 8 37] [8] (.ret)) (.skip)))))) (.keep [0,1] (sR [mO 38 0,mO 39 1,bQ .sub 40 3 39 1 3,iO 41 159 38 40,lO 42 3 41,bQ .add 43 3 42 1 3,aO 8 43] [8] (.ret))))
theorem Zd:BU Tryz.prog 179 44 [(.tmp 8)] QU:=AH Tryz.func179
def FK:CC:=sQ [mO 73 13,mO 74 8,bB .lss 75 3 73 74 3,mO 76 75,mG 77 14 76 true,mG 78 9 76 true,oG 79 (bO .lss 3 77 78 3) 76 true,pF 80 76 79,mO 81 80,mG 82 13 81 true,oG 83 (.binOp .geq 3 (xT 82) (nI 0) 3) 81 true,pF 84 81 83,mO 85 84,mG 86 14 85 true,oG 87 (.binOp .geq 3 (xT 86) (nI 0) 3) 85 true,pF 88 85 87,mO 89 88,mG 90 0 89 true,mG 91 13 89 true,oG 92 (iA 159 90 91) 89 true,lG 93 3 92 89 true,mG 94 1 89 true,mG 95 14 89 true,oG 96 (iA 159 94 95) 89 true,lG 97 3 96 89 true,oG 98 (bO .eql 3 93 97 3) 89 true,pF 99 89 98] [0,1,2,8,9,10,11,12,13,14,99] (cD 99 (.skip) (.exit 4)) [0,1,2,8,9,10,11,12,13,14] (.block 5 (.reg [mO 100 13,bQ .add 101 3 100 1 3,mO 102 14,bQ .add 103 3 102 1 3,aO 13 101,aO 14 103] [0,1,2,8,9,10,11,12,13,14]))
def FN:CC:=sQ [mO 52 12,mO 53 11,bB .leq 54 3 52 53 3] [0,1,2,8,9,10,11,12,54] (cD 54 (.skip) (.exit 2)) [0,1,2,8,9,10,11,12] (.seq (.block 3 (sR [mO 57 10,mO 58 2,bQ .add 59 3 58 1 3,mO 60 12,bB .add 61 3 59 60 3,mO 62 12,mO 63 11,oO 64 (.unOp .neg 3 (xT 63)),bB .eql 65 3 62 64 3,mO 66 12,mO 67 11,bB .eql 68 3 66 67 3,oO 69 (cL 179 #[(xT 57),(xT 61),(xT 65),(xT 68)] #[159,3,4,4]),aO 13 69] [0,1,2,8,9,10,11,12,13] (sR [mO 70 13,mO 71 12,bB .sub 72 3 70 71 3,aO 14 72] [0,1,2,8,9,10,11,12,13,14] (.seq (.block 4 (.loop FK)) (.keep [0,1,2,8,9,10,11,12,13,14] (sR [mO 104 10,mO 105 2,bQ .add 106 3 105 1 3,mO 107 12,bB .add 108 3 106 107 3,mO 109 13,iO 110 159 104 108,sT 3 110 109] [0,1,2,8,9,10,11,12,13,14] (sR [mO 111 13,mO 112 8,bB .geq 113 3 111 112 3,mO 114 113,mG 115 14 114 true,mG 116 9 114 true,oG 117 (bO .geq 3 115 116 3) 114 true,pF 118 114 117] [0,1,2,8,9,10,11,12,118] (cD 118 (sR [mO 119 11,aO 6 119,aB 7 true] [6,7] (.ret)) (.skip))))))))) (.keep [0,1,2,8,9,10,11,12] (.reg [mO 55 12,bQ .add 56 3 55 2 3,aO 12 56] [0,1,2,8,9,10,11,12])))
def FO:CC:=sQ [mO 45 11,mO 46 2,bB .leq 47 3 45 46 3] [0,1,2,8,9,10,11,47] (cD 47 (.skip) (.exit 0)) [0,1,2,8,9,10,11] (.seq (.block 1 (sR [mO 50 11,oO 51 (.unOp .neg 3 (xT 50)),aO 12 51] [0,1,2,8,9,10,11,12] (.block 2 (.loop FN)))) (.keep [0,1,2,8,9,10,11] (.reg [mO 48 11,bQ .add 49 3 48 1 3,aO 11 49] [0,1,2,8,9,10,11]))) 
def Ll:CC:=sR [aI 6 0,aB 7 false] [0,1,2] (sR [mO 15 0,bN 16 15 159,mO 17 1,bN 18 17 159,aO 8 16,aO 9 18] [0,1,2,8,9] (sR [mO 19 2,oO 20 (bC .max #[(xT 19),(.const (.int .i64 (-1)))] #[3,3]),mO 21 8,mO 22 9,bB .add 23 3 21 22 3,oO 24 (bC .min #[(xT 20),(xT 23)] #[3,3]),aO 2 24] [0,1,2,8,9] (sQ [mO 25 2,bQ .lss 26 3 25 0 3,mO 27 26,mG 28 8 27 false,mG 29 9 27 false,oG 30 (bO .sub 3 28 29 3) 27 false,mG 31 2 27 false,oG 32 (bO .gtr 3 30 31 3) 27 false,pT 33 27 32,mO 34 33,mG 35 9 34 false,mG 36 8 34 false,oG 37 (bO .sub 3 35 36 3) 34 false,mG 38 2 34 false,oG 39 (bO .gtr 3 37 38 3) 34 false,pT 40 34 39] [0,1,2,8,9,40] (cD 40 (sR [aI 6 0,aB 7 false] [6,7] (.ret)) (.skip)) [0,1,2,8,9] (sR [mO 41 2,oO 42 (.binOp .mul 3 (nI 2) (xT 41) 3),bQ .add 43 3 42 3 3,oN 44 (.makeSlice 159 (xT 43) (xT 43)) [0],aO 10 44] [0,1,2,8,9,10] (sQ [aI 11 0] [0,1,2,8,9,10,11] (.block 0 (.loop FO)) [] (sR [aI 6 0,aB 7 false] [6,7] (.ret)))))))
theorem SQ:BU Tryz.prog 156 120 [(.tmp 6),(.tmp 7)] Ll:=AH Tryz.func156
def NC:CC:=.reg [mO 43 5,mO 44 9,bQ .add 45 3 44 1 3,mO 46 5,mO 47 9,bQ .add 48 3 47 1 3,iO 49 159 46 48,lO 50 3 49,mO 51 5,mO 52 9,iO 53 159 51 52,lO 54 3 53,oO 55 (bC .max #[(xT 50),(xT 54)] #[3,3]),mO 56 11,iO 57 159 43 45,sT 3 57 55,aO 8 56] [1,5,7,8,16,17,18,22,23,24]
def IK:CC:=sR [bB .lss 25 3 24 23 3] [1,5,7,8,16,17,18,22,23,24,25] (.seq (cD 25 (.skip) (.exit 2)) (.keep [1,5,7,8,16,17,18,22,23,24] (.seq (.block 3 (sR [mO 26 24,iO 27 159 22 24,lO 28 3 27,aO 9 26,aO 10 28] [1,5,7,8,9,10,16,17,18,22,23,24] (sR [mO 29 5,mO 30 9,bQ .add 31 3 30 1 3,iO 32 159 29 31,lO 33 3 32,aO 11 33] [1,5,7,8,9,10,11,16,17,18,22,23,24] (sQ [mO 34 7,mO 35 10,bB .eql 36 3 34 35 3] [1,5,7,8,9,11,16,17,18,22,23,24,36] (cD 36 (.reg [mO 37 5,mO 38 9,bQ .add 39 3 38 1 3,mO 40 8,bQ .add 41 3 40 1 3,iO 42 159 37 39,sT 3 42 41] [1,5,7,9,11,16,17,18,22,23,24]) (.skip)) [1,5,7,9,11,16,17,18,22,23,24] NC)))) (.keep [1,5,7,8,16,17,18,22,23,24] (.reg [bQ .add 58 3 24 1 3,mO 24 58] [1,5,7,8,16,17,18,22,23,24])))))
def KA:CC:=sR [bB .lss 19 3 18 17 3] [1,5,16,17,18,19] (.seq (cD 19 (.skip) (.exit 0)) (.keep [1,5,16,17,18] (.seq (.block 1 (sR [iO 20 159 16 18,lO 21 3 20,aO 7 21] [1,5,7,16,17,18] (sR [aI 8 0] [1,5,7,8,16,17,18] (sR [mO 22 1,bN 23 22 159,oO 24 (.move (nI 0))] [1,5,7,8,16,17,18,22,23,24] (.block 2 (.loop IK)))))) (.keep [1,5,16,17,18] (.reg [bQ .add 59 3 18 1 3,mO 18 59] [1,5,16,17,18]))))) 
def Vf:CC:=sR [aN 4] [0,1] (sR [mO 12 1,bN 13 12 159,bQ .add 14 3 13 1 3,oN 15 (.makeSlice 159 (xT 14) (xT 14)) [0],aO 5 15] [0,1,5] (sQ [mO 16 0,bN 17 16 159,oO 18 (.move (nI 0))] [1,5,16,17,18] (.block 0 (.loop KA)) [5] (sR [mO 60 5,aO 4 60] [4] (.ret))))
theorem gW:BU Tryz.prog 191 61 [(.tmp 4)] Vf:=AH Tryz.func191
def Hk:CC:=sR [bB .lss 12 3 11 10 3] [0,3,9,10,11,12] (.seq (cD 12 (.skip) (.exit 0)) (.keep [0,3,9,10,11] (.seq (.block 1 (sR [mO 13 11,iO 14 159 9 11,lO 15 3 14,aO 4 13,aO 5 15] [0,3,4,5,9,10,11] (.reg [mO 16 3,mO 17 0,bN 18 17 159,bQ .sub 19 3 18 1 3,mO 20 4,bB .sub 21 3 19 20 3,mO 22 5,iO 23 159 16 21,sT 3 23 22] [0,3,9,10,11]))) (.reg [bQ .add 24 3 11 1 3,mO 11 24] [0,3,9,10,11])))) 
def OK:CC:=sR [aN 2] [0] (sR [mO 6 0,bN 7 6 159,oN 8 (.makeSlice 159 (xT 7) (xT 7)) [0],aO 3 8] [0,3] (sQ [mO 9 0,bN 10 9 159,oO 11 (.move (nI 0))] [0,3,9,10,11] (.block 0 (.loop Hk)) [3] (sR [mO 25 3,aO 2 25] [2] (.ret))))
theorem WR:BU Tryz.prog 192 26 [(.tmp 2)] OK:=AH Tryz.func192
def H7:CC:=sR [bB .lss 26 3 25 24 3] [1,7,8,9,24,25,26] (.seq (cD 26 (.skip) (.exit 0)) (.keep [1,7,8,9,24,25] (.seq (.block 1 (sR [mO 27 25,aO 10 27] [1,7,8,9,10,24,25] (sR [mO 28 7,mO 29 10,iO 30 159 28 29,lO 31 3 30,mO 32 8,mO 33 1,bN 34 33 159,mO 35 10,bB .sub 36 3 34 35 3,iO 37 159 32 36,lO 38 3 37,bB .add 39 3 31 38 3,mO 40 7,mO 41 9,iO 42 159 40 41,lO 43 3 42,mO 44 8,mO 45 1,bN 46 45 159,mO 47 9,bB .sub 48 3 46 47 3,iO 49 159 44 48,lO 50 3 49,bB .add 51 3 43 50 3,bB .gtr 52 3 39 51 3] [1,7,8,9,10,24,25,52] (cD 52 (.reg [mO 53 10,aO 9 53] [1,7,8,9,24,25]) (.skip))))) (.keep [1,7,8,9,24,25] (.reg [bQ .add 54 3 25 1 3,mO 25 54] [1,7,8,9,24,25]))))) 
def QO:CC:=sR [aI 6 0] [0,1,2] (sR [mO 11 0,mO 12 2,oO 13 (.slice 159 (xT 11) none (some (xT 12)) none),mO 14 1,cB 15 191 13 14 159 159,mO 16 0,mO 17 2,oO 18 (.slice 159 (xT 16) (some (xT 17)) none none),cA 19 192 18 159,mO 20 1,cA 21 192 20 159,cB 22 191 19 21 159 159,aO 7 15,aO 8 22] [1,7,8] (sR [aI 9 0] [1,7,8,9] (sQ [mO 23 7,bN 24 23 159,oO 25 (.move (nI 0))] [1,7,8,9,24,25] (.block 0 (.loop H7)) [9] (sR [mO 55 9,aO 6 55] [6] (.ret)))))
theorem X3:BU Tryz.prog 182 56 [(.tmp 6)] QO:=AH Tryz.func182
def JU:CC:=sR [mO 6 2,bQ .gtr 7 3 6 0 3] [0,1,2,7] (cD 7 (.reg [mO 8 0,mO 9 0,nC 10 9,fO 11 207 10 0,lO 12 161 11,mO 13 1,mO 14 2,oO 15 (.build 166 #[(0,(xT 13)),(1,(xT 14))]),oO 16 (.buildSlice 161 1 #[(0,(xT 15))]),aP 17 12 16 161 161 [1],nC 18 8,fO 19 207 18 0,sT 161 19 17] []) (.skip))
theorem P9:BU Tryz.prog 180 20 [] JU:=AH Tryz.func180
def Ex:CC:=sR [bB .lss 11 3 10 9 3] [0,1,2,8,9,10,11] (.seq (cD 11 (.skip) (.exit 0)) (.keep [0,1,2,8,9,10] (.seq (.block 1 (sR [mO 12 10,iO 13 159 8 10,lO 14 3 13,aO 6 12,aO 7 14] [0,1,2,6,7,8,9,10] (sR [mO 15 1,mO 16 7,bB .eql 17 3 15 16 3] [0,1,2,6,8,9,10,17] (cD 17 (sR [mO 18 0,mO 19 6,oO 20 (cL 180 #[(xT 18),(nI 2),(xT 19)] #[205,3,3])] [0,2,6] (sR [mO 21 0,oO 22 (cL 180 #[(xT 21),(nI 0),(nI 1)] #[205,3,3])] [0,2,6] (sR [mO 23 0,mO 24 2,bN 25 24 159,mO 26 6,bB .sub 27 3 25 26 3,bQ .sub 28 3 27 1 3,oO 29 (cL 180 #[(xT 23),(nI 2),(xT 28)] #[205,3,3])] [] (.ret)))) (.skip))))) (.keep [0,1,2,8,9,10] (.reg [bQ .add 30 3 10 1 3,mO 10 30] [0,1,2,8,9,10]))))) 
def JX:CC:=sQ [mO 8 2,bN 9 8 159,oO 10 (.move (nI 0))] [0,1,2,8,9,10] (.block 0 (.loop Ex)) [0,2] (sR [mO 31 0,oO 32 (cL 180 #[(xT 31),(nI 1),(nI 1)] #[205,3,3])] [0,2] (.reg [mO 33 0,mO 34 2,bN 35 34 159,oO 36 (cL 180 #[(xT 33),(nI 2),(xT 35)] #[205,3,3])] []))
theorem Qi:BU Tryz.prog 181 37 [] JX:=AH Tryz.func181
def Du:CC:=.block 0 (sR [mO 32 1,bN 33 32 159,bQ .eql 34 3 33 0 3,mO 35 34,mG 36 2 35 false,oG 37 (bL 36 159) 35 false,oG 38 (.binOp .eql 3 (xT 37) (nI 0) 3) 35 false,pT 39 35 38,aO 31 39] [0,1,2,31] (cD 31 (sR [mO 40 0,mO 41 1,bN 42 41 159,oO 43 (cL 180 #[(xT 40),(nI 1),(xT 42)] #[205,3,3])] [0,2] (.reg [mO 44 0,mO 45 2,bN 46 45 159,oO 47 (cL 180 #[(xT 44),(nI 2),(xT 46)] #[205,3,3])] [])) (sR [mO 49 1,bN 50 49 159,bQ .eql 51 3 50 1 3,aO 48 51] [0,1,2,48] (cD 48 (.reg [mO 52 0,mO 53 1,oO 54 (.indexAddr 159 (xT 53) (nI 0)),lO 55 3 54,mO 56 2,cE 57 181 52 55 56 205 3 159] []) (sR [mO 8 1,bN 9 8 159,bQ .quo 10 3 9 2 3,aO 6 10] [0,1,2,6] (sR [mO 11 1,mO 12 2,mO 13 6,cE 14 182 11 12 13 159 159 3,aO 7 14] [0,1,2,6,7] (sR [mO 15 0,mO 16 1,mO 17 6,oO 18 (.slice 159 (xT 16) none (some (xT 17)) none),mO 19 2,mO 20 7,oO 21 (.slice 159 (xT 19) none (some (xT 20)) none),cE 22 157 15 18 21 205 159 159] [0,1,2,6,7] (.reg [mO 23 0,mO 24 1,mO 25 6,oO 26 (.slice 159 (xT 24) (some (xT 25)) none none),mO 27 2,mO 28 7,oO 29 (.slice 159 (xT 27) (some (xT 28)) none none),cE 30 157 23 26 29 205 159 159] []))))))))
theorem ED:BU Tryz.prog 157 58 [] Du:=AH Tryz.func157
def HT:CC:=sR [bX 1 166 0 [0],aB 2 false] [1] (sR [fO 3 166 1 0,lO 4 3 3,bQ .geq 5 3 4 0 3,mO 6 5,fG 7 166 1 0 6 true,lG 8 3 7 6 true,oG 9 (.binOp .leq 3 (xT 8) (nI 2) 3) 6 true,pF 10 6 9,mO 11 10,fG 12 166 1 1 11 true,lG 13 3 12 11 true,oG 14 (.binOp .geq 3 (xT 13) (nI 1) 3) 11 true,pF 15 11 14,mO 16 15,fG 17 166 1 1 16 true,lG 18 3 17 16 true,oG 19 (.binOp .leq 3 (xT 18) (nI 1048576) 3) 16 true,pF 20 16 19,aO 2 20] [2] (.ret))
theorem MS:BU Tryz.prog 159 21 [(.tmp 2)] HT:=AH Tryz.func159
def D6:CC:=sR [bB .lss 9 3 8 7 3] [1,2,6,7,8,9] (.seq (cD 9 (.skip) (.exit 0)) (.keep [1,2,6,7,8] (.seq (.block 1 (sR [iO 10 159 6 8,lO 11 3 10,aO 5 11] [1,2,5,6,7,8] (sQ [mO 12 5,iO 13 209 1 12,lO 14 3 13,bQ .gtr 15 3 14 0 3] [1,2,5,6,7,8,15] (cD 15 (.reg [lS 16 161 2 0,mO 17 5,mO 18 5,iO 19 209 1 18,lO 20 3 19,oO 21 (.build 166 #[(0,(xT 17)),(1,(xT 20))]),⟨some 22,(.buildSlice 161 1 #[(0,(xT 21))]),none,[],6,[0],false⟩,aP 23 16 22 161 161 [1],sT 161 2 23] [1,2,5,6,7,8]) (.skip)) [1,2,5,6,7,8] (.reg [mO 24 5,iO 25 209 1 24,oS (.store 3 (xT 25) (nI 0))] [1,2,6,7,8])))) (.keep [1,2,6,7,8] (.reg [bQ .add 26 3 8 1 3,mO 8 26] [1,2,6,7,8]))))) 
def Jl:CC:=sR [mO 6 0,bN 7 6 159,oO 8 (.move (nI 0))] [1,2,6,7,8] (.block 0 (.loop D6))
theorem O7:BU Tryz.prog 158 27 [] Jl:=AH Tryz.func158
def Fi:CC:=.reg [fO 29 166 7 0,lO 30 3 29,iO 31 209 4 30,lO 32 3 31,fO 33 166 7 1,lO 34 3 33,bB .add 35 3 32 34 3,iO 36 209 4 30,sT 3 36 35] [3,4,5,9,10,11]
def DH:CC:=sR [bB .lss 12 3 11 10 3] [3,4,5,9,10,11,12] (.seq (cD 12 (.skip) (.exit 0)) (.keep [3,4,5,9,10,11] (.seq (.block 1 (sR [iO 13 161 9 11,lO 14 166 13,aL 7 166 [2],sT 166 7 14] [3,4,5,7,9,10,11] (.seq (.block 2 (sR [lO 19 166 7,cA 20 159 19 166,oO 21 (.unOp .not 4 (xT 20)),aO 18 21] [3,4,5,7,9,10,11,18] (cD 18 (.exit 1) (sR [fO 23 166 7 0,lO 24 3 23,bQ .eql 25 3 24 0 3,aO 22 25] [3,4,5,7,9,10,11,22] (cD 22 (.reg [mO 26 5,oO 27 (.buildSlice 159 2 #[(0,(nI 1)),(1,(nI 2))]),oO 28 (.call { callee:=(.value (xT 26)),args:=#[(xT 27)],argTypes:=#[159] })] [3,4,5,7,9,10,11]) (.reg [mO 15 5,oO 16 (.buildSlice 159 1 #[(0,(nI 0))]),oO 17 (.call { callee:=(.value (xT 15)),args:=#[(xT 16)],argTypes:=#[159] })] [3,4,5,7,9,10,11])))))) (.keep [3,4,5,7,9,10,11] Fi)))) (.keep [3,4,5,9,10,11] (.reg [bQ .add 37 3 11 1 3,mO 11 37] [3,4,5,9,10,11]))))) 
def KY:CC:=sR [aN 2] [0] (sR [aL 3 161 [0]] [0,3] (sR [aL 4 209 [0,1]] [0,3,4] (sR [oO 8 (.makeFunc (.func 158) #[] #[(xT 4),(xT 3)]),aO 5 8] [0,3,4,5] (sQ [mO 9 0,bN 10 9 161,oO 11 (.move (nI 0))] [3,4,5,9,10,11] (.block 0 (.loop DH)) [3,5] (sR [mO 38 5,oO 39 (.buildSlice 159 3 #[(0,(nI 0)),(1,(nI 1)),(2,(nI 2))]),oO 40 (.call { callee:=(.value (xT 38)),args:=#[(xT 39)],argTypes:=#[159] })] [3] (sR [lO 41 161 3,aO 2 41] [2] (.ret)))))))
theorem Rj:BU Tryz.prog 123 42 [(.tmp 2)] KY:=AH Tryz.func123
def TR:CC:=sR [aN 6,aB 7 false] [0,1,2] (sQ [mO 12 0,mO 13 1,mO 14 2,cE 15 156 12 13 14 159 159 3,mO 11 15,xO 16 11 0,xO 17 11 1,aO 8 16,aO 9 17] [0,1,9] (sR [mO 18 9,oO 19 (.unOp .not 4 (xT 18))] [0,1,19] (cD 19 (sR [aN 6,aB 7 false] [6,7] (.ret)) (.skip))) [0,1] (sR [oO 20 (.build 207 #[]),bX 21 207 20 [0],aO 10 21] [0,1,10] (.stop (sR [mO 22 10,mO 23 0,mO 24 1,cE 25 157 22 23 24 205 159 159] [10] (sR [mO 26 10,nC 27 26,fO 28 207 27 0,lO 29 161 28,cA 30 123 29 161,aO 6 30,aB 7 true] [6,7] (.ret))))))
theorem aQ:BU Tryz.prog 122 31 [(.tmp 6),(.tmp 7)] TR:=AH Tryz.func122
end Go.Proofs.YtndnlknocdangaaGreat
namespace Go.PL
open List
def XJ (x:Int):List Int→Option (List Int)
 |[]=>none
 |y::b=>if x=y then some b else XJ x b
def AE:List Int→List Int→Nat
 |[],_=>0
 |x::a,b=>max (AE a b) (match XJ x b with | some b'=>AE a b'+1 | none=>0)
theorem dt {x:Int} {s:List Int}:∀ {b:List Int},x::s <+ b→∃ b',XJ x b=some b'∧s <+ b'
 |[],h=>by cases h
 |y::b,h=>by
  unfold XJ;by_cases e:x=y
  ·subst e;refine⟨b,by simp,?_⟩;cases h with
   |cons _ h=>exact(List.sublist_cons_self x s).trans h
   |cons_cons _ h=>exact h
  ·rw[if_neg e];cases h with
   |cons _ h=>exact dt h
   |cons_cons _ h=>exact absurd rfl e
theorem My {x:Int}:∀ {b b':List Int},XJ x b=some b'→∃ b0,b=b0++x::b'∧x ∉ b0
 |[],b',h=>by cases h
 |y::b,b',h=>by
  unfold XJ at h;by_cases e:x=y
  ·rw[if_pos e] at h;cases h;exact⟨[],by simp[e],by simp⟩
  ·rw[if_neg e] at h;obtain⟨b0,h1,h2⟩:=My h;exact⟨y::b0,by simp[h1],by simp[e,h2]⟩
theorem YS {x:Int}:∀ {b:List Int},XJ x b=none→x ∉ b
 |[],_=>by simp
 |y::b,h=>by
  unfold XJ at h;by_cases e:x=y
  ·rw[if_pos e] at h;cases h
  ·rw[if_neg e] at h;simp[e,YS h]
theorem Xv {x:Int}:∀ {b0 b':List Int},x ∉ b0→XJ x (b0++x::b')=some b'
 |[],b',_=>by simp[XJ]
 |y::b0,b',h=>by
  simp at h;simp[XJ,h.1,Xv h.2]
theorem Hd:∀ a b:List Int,∃ s,s <+ a∧s <+ b∧s.length=AE a b
 |[],b=>⟨[],by simp,by simp,rfl⟩
 |x::a,b=>by
  obtain⟨s,h1,h2,h3⟩:=Hd a b;unfold AE;cases e:XJ x b with
  |none=>exact⟨s,h1.cons x,h2,by simp[h3]⟩
  |some b'=>
   obtain⟨t,g1,g2,g3⟩:=Hd a b';simp only;by_cases hle:AE a b≤AE a b'+1
   ·obtain⟨b0,rfl,_⟩:=My e;exact⟨x::t,g1.cons_cons x,(g2.cons_cons x).trans (List.sublist_append_right _ _),by simp;omega⟩
   ·exact⟨s,h1.cons x,h2,by omega⟩
theorem Hs:∀ {a b s:List Int},s <+ a→s <+ b→s.length≤AE a b
 |[],b,s,h1,h2=>by
  have:=List.sublist_nil.1 h1;subst this;simp
 |x::a,b,s,h1,h2=>by
  unfold AE;cases h1 with
  |cons _ h=>have:=Hs h h2;omega
  |@cons_cons s' _ _ h=>
   obtain⟨b',e,h3⟩:=dt h2;have:=Hs h h3;rw[e];simp;omega
theorem uD {a b:List Int} {n:Nat} (h1:∃ s,s <+ a∧s <+ b∧s.length=n) (h2:∀ s,s <+ a→s <+ b→s.length≤n):AE a b=n:=by
 obtain⟨s,g1,g2,g3⟩:=h1;obtain⟨t,k1,k2,k3⟩:=Hd a b;have:=Hs g1 g2;have:=h2 t k1 k2;omega
theorem I8 (a b:List Int):AE a.reverse b.reverse=AE a b:=by
 obtain⟨s,h1,h2,h3⟩:=Hd a b;refine uD ⟨s.reverse,h1.reverse,h2.reverse,by simpa using h3⟩ fun t g1 g2=>?_;have:=Hs (a:=a) (b:=b) (s:=t.reverse) (by simpa using g1.reverse) (by simpa using g2.reverse);simpa using this
theorem Mx {a b a' b':List Int} (h1:a <+ a') (h2:b <+ b'):AE a b≤AE a' b':=by
 obtain⟨s,g1,g2,g3⟩:=Hd a b;have:=Hs (g1.trans h1) (g2.trans h2);omega
theorem eG (a b a' b':List Int):AE a b+AE a' b'≤AE (a++a') (b++b'):=by
 obtain⟨s,g1,g2,g3⟩:=Hd a b;obtain⟨t,k1,k2,k3⟩:=Hd a' b';have:=Hs (g1.append k1) (g2.append k2);simp at this;omega
theorem gC (a a' b:List Int):∃ b1 b2,b=b1++b2∧AE (a++a') b=AE a b1+AE a' b2:=by
 obtain⟨s,g1,g2,g3⟩:=Hd (a++a') b;obtain⟨s1,s2,rfl,k1,k2⟩:=List.sublist_append_iff.1 g1;obtain⟨b1,b2,rfl,m1,m2⟩:=List.append_sublist_iff.1 g2;refine⟨b1,b2,rfl,?_⟩;have h1:=Hs k1 m1;have h2:=Hs k2 m2;have h3:=eG a b1 a' b2;simp at g3;omega
theorem HZ (a b:List Int):AE a b≤a.length∧AE a b≤b.length:=by
 obtain⟨s,g1,g2,g3⟩:=Hd a b;have:=g1.length_le;have:=g2.length_le;omega
theorem JM (x:Int) (a b:List Int):AE (x::a) (x::b)=AE a b+1:=by
 have h:AE a (x::b)≤AE a b+1:=by
  obtain⟨s,g1,g2,g3⟩:=Hd a (x::b);cases g2 with
  |cons _ h=>have:=Hs g1 h;omega
  |@cons_cons s' _ _ h=>
   have:=Hs ((List.sublist_cons_self x s').trans g1) h;simp at g3;omega
 rw[AE];simp[XJ];omega
theorem Uy {x y:Int} (h:x ≠ y) (a b:List Int):AE (x::a) (y::b)=max (AE a (y::b)) (AE (x::a) b):=by
 have h1:AE a b≤AE a (y::b):=Mx (List.Sublist.refl _) (List.sublist_cons_self _ _);rw[AE,AE];simp only[XJ,if_neg h];omega
theorem Nb (x:Int) (a b:List Int):AE (a++[x]) (b++[x])=AE a b+1:=by
 rw[← I8];simp[JM,I8]
theorem MV {x y:Int} (h:x ≠ y) (a b:List Int):AE (a++[x]) (b++[y])=max (AE a (b++[y])) (AE (a++[x]) b):=by
 rw[← I8,← I8 a (b++[y]),← I8 (a++[x]) b];simp[Uy h]
theorem Yu (x:Int) (a b:List Int):AE (x::a) b≤AE a b+1:=by
 rw[AE];cases e:XJ x b with
 |none=>simp
 |some b'=>
  obtain⟨b0,rfl,_⟩:=My e;have:AE a b'≤AE a (b0++x::b'):=Mx (List.Sublist.refl _) ((List.sublist_cons_self x b').trans (List.sublist_append_right _ _));simp only;omega
theorem ZB (x:Int) (a b:List Int):AE (a++[x]) b≤AE a b+1:=by
 rw[← I8,← I8 a b];simpa using Yu x a.reverse b.reverse
@[simp] theorem AfJ (a:List Int):AE a []=0:=by have:=(HZ a []).2;simpa using this
@[simp] theorem Acf (b:List Int):AE [] b=0:=rfl
theorem Kc:∀ (a u v w:List Int),AE a (u++(v++w))+AE a v≤AE a (u++v)+AE a (v++w)
 |[],u,v,w=>by simp
 |x::a,u,v,w=>by
  have m1:∀ p q:List Int,AE a q≤AE a (p++q):=fun p q=>Mx (List.Sublist.refl _) (List.sublist_append_right _ _);have up:∀ q:List Int,AE a q≤AE (x::a) q:=fun q=>by rw[AE];omega
  have tk:∀ q0 q':List Int,x ∉ q0→AE a q'+1≤AE (x::a) (q0++x::q'):=fun q0 q' h=>by rw[AE,Xv h];simp;omega
  have tk':∀ q0 q':List Int,AE a q'+1≤AE (x::a) (q0++x::q'):=fun q0 q'=>by
   have:=JM x a q';have h2:AE (x::a) (x::q')≤AE (x::a) (q0++x::q'):=Mx (List.Sublist.refl _) (List.sublist_append_right _ _);omega
  -- what the two of the left take
  have c1:AE (x::a) (u++(v++w))=AE a (u++(v++w))∨∃ q0 q',u++(v++w)=q0++x::q'∧x ∉ q0∧AE (x::a) (u++(v++w))=AE a q'+1:=by
   rw[AE];cases e:XJ x (u++(v++w)) with
   |none=>left;simp
   |some q'=>
    obtain⟨q0,h1,h2⟩:=My e;simp only;by_cases hle:AE a (u++(v++w))≤AE a q'+1
    ·right;exact⟨q0,q',h1,h2,by omega⟩
    ·left;omega
  have c2:AE (x::a) v=AE a v∨∃ v0 v',v=v0++x::v'∧x ∉ v0∧AE (x::a) v=AE a v'+1:=by
   rw[AE];cases e:XJ x v with
   |none=>left;simp
   |some q'=>
    obtain⟨q0,h1,h2⟩:=My e;simp only;by_cases hle:AE a v≤AE a q'+1
    ·right;exact⟨q0,q',h1,h2,by omega⟩
    ·left;omega
  rcases c1 with e1 | ⟨q0,q',h1,hn,e1⟩
  ·rcases c2 with e2 | ⟨v0,v',rfl,hv,e2⟩
   ·have:=Kc a u v w;have:=up (u++v);have:=up (v++w);omega
   ·have h:=Kc a (u++(v0++[x])) v' w;have g1:=up (u++(v0++x::v'));have g2:=tk v0 (v'++w) hv;simp at h g1 g2 e1 e2 ⊢;omega
  ·-- where the first x stands
   rcases List.append_eq_append_iff.1 h1 with ⟨t,ht1,ht2⟩ | ⟨t,ht1,ht2⟩
   ·-- q0=u++t,v++w=t++x::q'
    subst ht1;have hnu:x ∉ u:=fun h=>hn (by simp[h]);have hnt:x ∉ t:=fun h=>hn (by simp[h]);rcases List.append_eq_append_iff.1 ht2 with ⟨t2,hs1,hs2⟩ | ⟨t2,hs1,hs2⟩
    ·-- t=v++t2: x stands in w
     subst hs1;have hnv:x ∉ v:=fun h=>hnt (by simp[h]);have e2:AE (x::a) v=AE a v:=by
      rcases c2 with e2 | ⟨v0,v',rfl,_,_⟩
      ·exact e2
      ·exact absurd (by simp) hnv
     have g1:=tk (v++t2) q' hnt;have g2:=up (u++v);have g3:=m1 u v;rw[ht2] at e1 ⊢;omega
    ·-- v=t++t2,x::q'=t2++w
     subst hs1;cases t2 with
     |nil=>
      simp at hs2;subst hs2;have e2:AE (x::a) t=AE a t:=by
       rcases c2 with e2 | ⟨v0,v',hv,_,_⟩
       ·simpa using e2
       ·exact absurd (by simp at hv;simp[hv]) hnt
      have g1:=tk t q' hnt;have g2:=up (u++t);have g3:=m1 u t;simp at e1 e2 g1 g2 g3 ⊢;omega
     |cons y v'=>
      simp at hs2;obtain⟨rfl,rfl⟩:=hs2;have g1:=tk t (v'++w) hnt;have e2:AE (x::a) (t++x::v')≤max (AE a (t++x::v')) (AE a v'+1):=by rw[AE,Xv hnt];simp
      have g2:=up (u++(t++x::v'));have g3:=m1 u (t++x::v');have g4:=tk' (u++t) v';simp at e1 e2 g1 g2 g3 g4 ⊢;omega
   ·-- u=q0++t,x::q'=t++(v++w)
    cases t with
    |nil=>
     simp at ht2 ht1;subst ht1
     -- x heads v++w
     cases v with
     |nil=>
      simp at ht2;have g1:=tk [] q' (by simp);have g0:=up u;simp at g1 e1 ⊢;rw[← ht2] at e1 ⊢;rw[e1];omega
     |cons y v'=>
      simp at ht2;obtain⟨rfl,rfl⟩:=ht2;have g1:=tk [] (v'++w) (by simp);have e2:=JM x a v';have g4:=tk' u v';simp at e1 g1 g4 ⊢;omega
    |cons y u'=>
     simp at ht2;obtain⟨rfl,rfl⟩:=ht2;subst ht1;rcases c2 with e2 | ⟨v0,v',rfl,hv,e2⟩
     ·have h:=Kc a u' v w;have g1:=tk q0 (u'++v) hn;have g2:=up (v++w);simp at e1 e2 g1 g2 h ⊢;omega
     ·have h:=Kc a (u'++(v0++[x])) v' w;have g1:=tk q0 (u'++(v0++x::v')) hn;have g2:=tk v0 (v'++w) hv;simp at e1 e2 g1 g2 h ⊢;omega
def sg (l:List Int) (p q:Nat):List Int:=(l.take q).drop p
def GH (a b:List Int) (i h j k:Nat):Nat:=AE (sg a i h) (sg b j k)
theorem JJ (l:List Int) (p q:Nat) (h:q≤l.length):(sg l p q).length=q-p:=by simp[sg];omega
theorem NG {l:List Int} {p k q:Nat} (h1:p≤k) (h2:k≤q):sg l p q=sg l p k++sg l k q:=by
 unfold sg;have e:(l.take q).drop p=((l.take q).drop p).take (k-p)++((l.take q).drop p).drop (k-p):=(List.take_append_drop _ _).symm;rw[e,List.drop_drop,List.take_drop,List.take_take];congr 3<;>first | omega | skip
theorem OM (l:List Int) (q:Nat):sg l 0 q=l.take q:=by simp[sg]
theorem Wn (l:List Int) (p:Nat):sg l p l.length=l.drop p:=by simp[sg]
theorem tP (l:List Int) (p:Nat):sg l p p=[]:=by simp[sg]
theorem RL {l:List Int} {n p q:Nat} (h:q≤n):sg (l.take n) p q=sg l p q:=by
 unfold sg;rw[List.take_take];congr 2;omega
theorem RK {l:List Int} {n p q:Nat}:sg (l.drop n) p q=sg l (n+p) (n+q):=by
 unfold sg;rw[List.take_drop,List.drop_drop]
theorem FM {a b:List Int} {i h t j k q:Nat} (h1:i≤h) (h2:h≤t) (h3:j≤k) (h4:k≤q):GH a b i h j k+GH a b h t k q≤GH a b i t j q:=by
 unfold GH;rw[NG h1 h2,NG h3 h4];exact eG _ _ _ _
theorem Io (a b:List Int) {i h t j q:Nat} (h1:i≤h) (h2:h≤t) (h3:j≤q) (h4:q≤b.length):∃ k,j≤k∧k≤q∧GH a b i h j k+GH a b h t k q=GH a b i t j q:=by
 unfold GH;rw[NG h1 h2];obtain⟨b1,b2,e,hs⟩:=gC (sg a i h) (sg a h t) (sg b j q);have hl:=JJ b j q h4;rw[e] at hl;simp at hl;refine⟨j+b1.length,by omega,by omega,?_⟩;have e2:=NG (l:=b) (p:=j) (k:=j+b1.length) (q:=q) (by omega) (by omega);rw[e] at e2;obtain⟨g1,g2⟩:=List.append_inj e2 (by rw[JJ _ _ _ (by omega)];omega);rw[← g1,← g2,← hs]
theorem Vw (a b:List Int) (i h:Nat) {p p' q q':Nat} (h1:p≤p') (h2:p'≤q) (h3:q≤q'):GH a b i h p q'+GH a b i h p' q≤GH a b i h p q+GH a b i h p' q':=by
 unfold GH;rw[NG (l:=b) h1 (by omega:p'≤q'),NG (l:=b) h2 h3,NG (l:=b) h1 h2];exact Kc _ _ _ _
def Zc (p:Nat→Bool):Nat→Nat→Nat
 |0,j=>j
 |f+1,j=>if p j=true then j else Zc p f (j+1)
theorem Xx {p:Nat→Bool}:∀ {f j k:Nat},j≤k→k≤j+f→p k=true→p (Zc p f j)=true∧j≤Zc p f j∧Zc p f j≤k
 |0,j,k,h1,h2,h=>by
  have:k=j:=by omega
  subst this;exact⟨h,by simp[Zc],by simp[Zc]⟩
 |f+1,j,k,h1,h2,h=>by
  unfold Zc;by_cases e:p j=true
  ·simp[e,h1]
  ·rw[if_neg e];have hne:j ≠ k:=fun h'=>by rw[h'] at e;exact e h
   have:=Xx (f:=f) (j:=j+1) (k:=k) (by omega) (by omega) h;exact⟨this.1,by omega,this.2.2⟩
def PB (a b:List Int) (i j:Nat):Bool:=decide (GH a b 0 i 0 j+GH a b i a.length j b.length=AE a b)
def Cp (a b:List Int) (i:Nat):Nat:=Zc (PB a b i) b.length 0
theorem fI (a b:List Int):GH a b 0 a.length 0 b.length=AE a b:=by simp[GH,sg]
theorem L8 {a b:List Int} {i j:Nat} (hi:i≤a.length) (hj:j≤b.length):GH a b 0 i 0 j+GH a b i a.length j b.length≤AE a b:=by
 rw[← fI];exact FM (by omega) hi (by omega) hj
theorem G8 {a b:List Int} {i:Nat} (hi:i≤a.length):PB a b i (Cp a b i)=true∧Cp a b i≤b.length∧∀ j,j≤b.length→PB a b i j=true→Cp a b i≤j:=by
 obtain⟨k,h1,h2,h3⟩:=Io a b (i:=0) (h:=i) (t:=a.length) (j:=0) (q:=b.length) (by omega) hi (by omega) (by omega);rw[fI] at h3;have:=Xx (p:=PB a b i) (f:=b.length) (j:=0) (k:=k) (by omega) (by omega) (by simpa[PB] using h3);refine⟨this.1,by unfold Cp;omega,fun j hj h=>?_⟩;exact(Xx (p:=PB a b i) (f:=b.length) (j:=0) (k:=j) (by omega) (by omega) h).2.2
theorem PS {a b:List Int} {i k:Nat} (hi:i≤a.length) (hk:k≤b.length) (h1:PB a b i k=true) (h2:∀ j,j<k→PB a b i j=false):Cp a b i=k:=by
 obtain⟨g1,g2,g3⟩:=G8 (a:=a) (b:=b) hi;have:=g3 k hk h1;by_cases e:Cp a b i<k
 ·have:=h2 _ e;rw[g1] at this;cases this
 ·omega
theorem Ti (a b:List Int):Cp a b 0=0:=PS (by omega) (by omega) (by simp[PB,GH,sg]) (by omega)
theorem SB {a b:List Int} {i h:Nat} (hih:i≤h) (hh:h≤a.length):Cp a b i≤Cp a b h:=by
 obtain⟨g1,g2,g3⟩:=G8 (a:=a) (b:=b) hh;obtain⟨k,h1,h2,h3⟩:=Io a b (i:=0) (h:=i) (t:=h) (j:=0) (q:=Cp a b h) (by omega) hih (by omega) g2;have h4:=FM (a:=a) (b:=b) (i:=i) (h:=h) (t:=a.length) (j:=k) (k:=Cp a b h) (q:=b.length) hih hh h2 g2;have h5:=L8 (a:=a) (b:=b) (i:=i) (j:=k) (by omega) (by omega);have hg:=g1;unfold PB at hg;simp only[decide_eq_true_eq] at hg;have:=(G8 (a:=a) (b:=b) (i:=i) (by omega)).2.2 k (by omega) (by unfold PB;simp only[decide_eq_true_eq];omega);omega
theorem Xs {a b:List Int} {i h:Nat} (hih:i≤h) (hh:h≤a.length):Cp (a.take h) (b.take (Cp a b h)) i=Cp a b i:=by
 obtain⟨g1,g2,g3⟩:=G8 (a:=a) (b:=b) hh;obtain⟨f1,f2,f3⟩:=G8 (a:=a) (b:=b) (i:=i) (by omega);have hm:=SB (a:=a) (b:=b) hih hh;generalize hJ:Cp a b h=J at *;generalize hj:Cp a b i=j at *;have la:(a.take h).length=h:=by simp;omega
 have lb:(b.take J).length=J:=by simp;omega
 have e0:AE (a.take h) (b.take J)=GH a b 0 h 0 J:=by simp[GH,OM]
 have e1:∀ k,k≤J→PB (a.take h) (b.take J) i k=decide (GH a b 0 i 0 k+GH a b i h k J=GH a b 0 h 0 J):=fun k hk=>by
  unfold PB;rw[e0,la,lb];unfold GH;rw[RL hih,RL hk,RL (Cj _),RL (Cj _)]
 unfold PB at g1 f1;simp only[decide_eq_true_eq] at g1 f1;refine PS (by omega) (by omega) ?_ fun k hk=>?_
 ·rw[e1 j hm,decide_eq_true_eq]
  -- the way through (i,j) comes to row h at k
  obtain⟨k,h1,h2,h3⟩:=Io a b (i:=i) (h:=h) (t:=a.length) (j:=j) (q:=b.length) hih hh f2 (by omega);have h4:=FM (a:=a) (b:=b) (i:=0) (h:=i) (t:=h) (j:=0) (k:=j) (q:=k) (by omega) hih (by omega) h1;have h5:=L8 (a:=a) (b:=b) (i:=h) (j:=k) hh h2;have hJk:J≤k:=g3 k h2 (by unfold PB;simp only[decide_eq_true_eq];omega);obtain⟨k2,i1,i2,i3⟩:=Io a b (i:=0) (h:=i) (t:=h) (j:=0) (q:=J) (by omega) hih (by omega) g2;have i4:=FM (a:=a) (b:=b) (i:=i) (h:=h) (t:=a.length) (j:=k2) (k:=J) (q:=b.length) hih hh i2 g2;have i5:=L8 (a:=a) (b:=b) (i:=i) (j:=k2) (by omega) (by omega);have hjk2:j≤k2:=f3 k2 (by omega) (by unfold PB;simp only[decide_eq_true_eq];omega);have m:=Vw a b i h (p:=j) (p':=k2) (q:=J) (q':=k) hjk2 i2 hJk;have t1:=FM (a:=a) (b:=b) (i:=0) (h:=i) (t:=h) (j:=0) (k:=j) (q:=J) (by omega) hih (by omega) hm;have t2:=FM (a:=a) (b:=b) (i:=i) (h:=h) (t:=a.length) (j:=k2) (k:=k) (q:=b.length) hih hh (by omega) h2;omega
 ·rw[e1 k (by omega),decide_eq_false_iff_not];intro e;have h4:=FM (a:=a) (b:=b) (i:=i) (h:=h) (t:=a.length) (j:=k) (k:=J) (q:=b.length) hih hh (by omega) g2;have h5:=L8 (a:=a) (b:=b) (i:=i) (j:=k) (by omega) (by omega);have:=f3 k (by omega) (by unfold PB;simp only[decide_eq_true_eq];omega);omega
theorem Xp {a b:List Int} {i h:Nat} (hh:h+i≤a.length):Cp (a.drop h) (b.drop (Cp a b h)) i+Cp a b h=Cp a b (h+i):=by
 obtain⟨g1,g2,g3⟩:=G8 (a:=a) (b:=b) (i:=h) (by omega);obtain⟨f1,f2,f3⟩:=G8 (a:=a) (b:=b) (i:=h+i) hh;have hm:=SB (a:=a) (b:=b) (i:=h) (h:=h+i) (by omega) hh;generalize hJ:Cp a b h=J at *;generalize hj:Cp a b (h+i)=j at *;have la:h+(a.drop h).length=a.length:=by simp;omega
 have lb:J+(b.drop J).length=b.length:=by simp;omega
 have e0:AE (a.drop h) (b.drop J)=GH a b h a.length J b.length:=by simp[GH,Wn]
 have e1:∀ k,PB (a.drop h) (b.drop J) i k=decide (GH a b h (h+i) J (J+k)+GH a b (h+i) a.length (J+k) b.length=GH a b h a.length J b.length):=fun k=>by
  unfold PB;rw[e0];unfold GH;rw[RK,RK,RK,RK,la,lb,Nat.add_zero,Nat.add_zero]
 unfold PB at g1 f1;simp only[decide_eq_true_eq] at g1 f1
 suffices hw:Cp (a.drop h) (b.drop J) i=j-J by omega
 refine PS (by omega) (by omega) ?_ fun k hk=>?_
 ·rw[e1,decide_eq_true_eq,show J+(j-J)=j by omega]
  -- the way through (h+i,j) comes from row h at k
  obtain⟨k,h1,h2,h3⟩:=Io a b (i:=0) (h:=h) (t:=h+i) (j:=0) (q:=j) (by omega) (by omega) (by omega) f2;have h4:=FM (a:=a) (b:=b) (i:=h) (h:=h+i) (t:=a.length) (j:=k) (k:=j) (q:=b.length) (by omega) hh h2 f2;have h5:=L8 (a:=a) (b:=b) (i:=h) (j:=k) (by omega) (by omega);have hJk:J≤k:=g3 k (by omega) (by unfold PB;simp only[decide_eq_true_eq];omega);obtain⟨k2,i1,i2,i3⟩:=Io a b (i:=h) (h:=h+i) (t:=a.length) (j:=J) (q:=b.length) (by omega) hh g2 (by omega);have i4:=FM (a:=a) (b:=b) (i:=0) (h:=h) (t:=h+i) (j:=0) (k:=J) (q:=k2) (by omega) (by omega) (by omega) i1;have i5:=L8 (a:=a) (b:=b) (i:=h+i) (j:=k2) hh i2;have hjk2:j≤k2:=f3 k2 (by omega) (by unfold PB;simp only[decide_eq_true_eq];omega);have m:=Vw a b h (h+i) (p:=J) (p':=k) (q:=j) (q':=k2) hJk h2 hjk2;have t1:=FM (a:=a) (b:=b) (i:=h) (h:=h+i) (t:=a.length) (j:=J) (k:=j) (q:=b.length) (by omega) hh hm f2;have t2:=FM (a:=a) (b:=b) (i:=0) (h:=h) (t:=h+i) (j:=0) (k:=k) (q:=k2) (by omega) (by omega) (by omega) (by omega);omega
 ·rw[e1,decide_eq_false_iff_not];intro e;have h4:=FM (a:=a) (b:=b) (i:=0) (h:=h) (t:=h+i) (j:=0) (k:=J) (q:=J+k) (by omega) (by omega) (by omega) (by omega);have h5:=L8 (a:=a) (b:=b) (i:=h+i) (j:=J+k) hh (by omega);have:=f3 (J+k) (by omega) (by unfold PB;simp only[decide_eq_true_eq];omega);omega
structure Sp where
 k:Nat
 n:Nat
 deriving DecidableEq
def Sp.ok (s:Sp):Prop:=s.k≤2∧1≤s.n∧s.n≤1048576
def Sp.may (s:Sp):Prop:=s.k≤2∧s.n≤1048576
def Bb (l:List Sp):List Nat:=l.flatMap fun s=>replicate s.n s.k
@[simp] theorem Ip:Bb []=[]:=rfl
@[simp] theorem Bl (s:Sp) (l:List Sp):Bb (s::l)=replicate s.n s.k++Bb l:=rfl
@[simp] theorem Il (l m:List Sp):Bb (l++m)=Bb l++Bb m:=by simp[Bb]
def fl (k n:Nat):List Sp:=if n=0 then [] else [⟨k,n⟩]
@[simp] theorem Afp (k:Nat):fl k 0=[]:=rfl
theorem R4 {k n:Nat} (h:0<n):fl k n=[⟨k,n⟩]:=by unfold fl;rw[if_neg (by omega)]
@[simp] theorem LW (k n:Nat):Bb (fl k n)=replicate n k:=by
 unfold fl;split
 ·rename_i h;simp[h]
 ·simp[Bb]
theorem Sf {k n:Nat} (hk:k≤2) (hn:n≤1048576):∀ s,s ∈ fl k n→s.ok:=by
 intro s hs;unfold fl at hs;split at hs
 ·simp at hs
 ·simp at hs;subst hs;exact⟨hk,by simp;omega,hn⟩
def N9:List Nat→Nat→Nat→Nat→List Sp
 |[],k,d,i=>fl 0 k++(fl 1 d++fl 2 i)
 |x::us,k,d,i=>if x=0 then fl 1 d++(fl 2 i++N9 us (k+1) 0 0) else fl 0 k++(if x=1 then N9 us 0 (d+1) i else N9 us 0 d (i+1))
def JD (us:List Nat):List Sp:=N9 us 0 0 0
theorem YW:∀ (n:Nat) (us:List Nat) (k d i:Nat),0<n→(d=0∧i=0∨k=0)→N9 (replicate n 0++us) k d i=fl 1 d++(fl 2 i++N9 us (k+n) 0 0)
 |n+1,us,k,d,i,_,h=>by
  rw[List.replicate_succ,List.cons_append,N9,if_pos rfl];cases n with
  |zero=>simp
  |succ n=>
   rw[YW (n+1) us (k+1) 0 0 (by omega) (.inl ⟨rfl,rfl⟩)];simp;rw[show k+1+(n+1)=k+(n+1+1) by omega]
theorem V7:∀ (n:Nat) (us:List Nat) (k d i:Nat),0<n→N9 (replicate n 1++us) k d i=fl 0 k++N9 us 0 (d+n) i
 |n+1,us,k,d,i,_=>by
  rw[List.replicate_succ,List.cons_append,N9,if_neg (by decide),if_pos rfl];cases n with
  |zero=>simp
  |succ n=>
   rw[V7 (n+1) us 0 (d+1) i (by omega)];simp;rw[show d+1+(n+1)=d+(n+1+1) by omega]
theorem RF:∀ (n:Nat) (us:List Nat) (k d i:Nat),0<n→N9 (replicate n 2++us) k d i=fl 0 k++N9 us 0 d (i+n)
 |n+1,us,k,d,i,_=>by
  rw[List.replicate_succ,List.cons_append,N9,if_neg (by decide),if_neg (by decide)];cases n with
  |zero=>simp
  |succ n=>
   rw[RF (n+1) us 0 d (i+1) (by omega)];simp;rw[show i+1+(n+1)=i+(n+1+1) by omega]
def MM (p q:Nat):List Nat:=if p<q then replicate (q-p-1) 2++[0] else [1]
def FH (a b:List Int):List Nat:=(List.range a.length).flatMap (fun i=>MM (Cp a b i) (Cp a b (i+1)))++replicate (b.length-Cp a b a.length) 2
theorem Pk {α:Type} (f:Nat→List α) (m n:Nat):(List.range (m+n)).flatMap f=(List.range m).flatMap f++(List.range n).flatMap (fun i=>f (m+i)):=by
 rw[List.range_add,List.flatMap_append,List.flatMap_map]
theorem Fx {α:Type} {f g:Nat→List α} {n:Nat} (h:∀ i,i<n→f i=g i):(List.range n).flatMap f=(List.range n).flatMap g:=by
 induction n with
 |zero=>rfl
 |succ n ih=>
  rw[List.range_succ,List.flatMap_append,List.flatMap_append,ih fun i hi=>h i (by omega)];simp[h n (by omega)]
theorem jP (p q t:Nat):MM (p+t) (q+t)=MM p q:=by
 unfold MM;by_cases h:p<q
 ·rw[if_pos h,if_pos (by omega),show q+t-(p+t)-1=q-p-1 by omega]
 ·rw[if_neg h,if_neg (by omega)]
theorem VN (a b:List Int) {h:Nat} (hh:h≤a.length):FH a b=FH (a.take h) (b.take (Cp a b h))++FH (a.drop h) (b.drop (Cp a b h)):=by
 obtain⟨g1,g2,g3⟩:=G8 (a:=a) (b:=b) hh;have la:(a.take h).length=h:=by simp;omega
 have lb:(b.take (Cp a b h)).length=Cp a b h:=by simp;omega
 have ld:(a.drop h).length=a.length-h:=by simp
 have le:(b.drop (Cp a b h)).length=b.length-Cp a b h:=by simp
 have e1:FH (a.take h) (b.take (Cp a b h))=(List.range h).flatMap fun i=>MM (Cp a b i) (Cp a b (i+1)):=by
  unfold FH;rw[la,lb,Xs (Cj _) hh,Nat.sub_self,List.replicate_zero,List.append_nil];exact Fx fun i hi=>by rw[Xs (by omega) hh,Xs (by omega) hh]
 have e2:FH (a.drop h) (b.drop (Cp a b h))=(List.range (a.length-h)).flatMap (fun i=>MM (Cp a b (h+i)) (Cp a b (h+i+1)))++replicate (b.length-Cp a b a.length) 2:=by
  unfold FH;rw[ld,le];have hw:=Xp (a:=a) (b:=b) (h:=h) (i:=a.length-h) (by omega);rw[show h+(a.length-h)=a.length by omega] at hw;congr 1
  ·refine Fx fun i hi=>?_;have w1:=Xp (a:=a) (b:=b) (h:=h) (i:=i) (by omega);have w2:=Xp (a:=a) (b:=b) (h:=h) (i:=i+1) (by omega);rw[← jP _ _ (Cp a b h),w1,w2];rfl
  ·congr 1;omega
 rw[e1,e2,← List.append_assoc];unfold FH;congr 1;have:=Pk (fun i=>MM (Cp a b i) (Cp a b (i+1))) h (a.length-h);rw[show h+(a.length-h)=a.length by omega] at this;exact this
theorem ZU (b:List Int):FH [] b=replicate b.length 2:=by
 unfold FH;simp[Ti]
theorem iJ (a:List Int):FH a []=replicate a.length 1:=by
 have h:∀ i,i≤a.length→Cp a [] i=0:=fun i hi=>by have:=(G8 (a:=a) (b:=[]) hi).2.1;simpa using this
 unfold FH;rw[h _ (Cj _)];simp;rw[Fx (g:=fun _=>[1]) fun i hi=>by rw[h i (by omega),h (i+1) (by omega)];rfl];generalize a.length=n;induction n with
 |zero=>rfl
 |succ n ih=>rw[List.range_succ,List.flatMap_append,ih,List.replicate_succ'];simp
def De (x:Int):List Int→Nat
 |[]=>0
 |y::b=>if x=y then 0 else De x b+1
theorem Ow (x:Int):∀ b,De x b≤b.length
 |[]=>by simp[De]
 |y::b=>by
  have:=Ow x b;unfold De;split<;>simp<;>omega
theorem OA (x:Int):∀ {b},(h:De x b<b.length)→b[De x b]=x
 |[],h=>by simp[De] at h
 |y::b,h=>by
  unfold De at h;by_cases e:x=y
  ·simp[De,e]
  ·rw[if_neg e] at h;simp only[De,if_neg e,List.getElem_cons_succ];exact OA x (by simpa using h)
theorem Pj (x:Int):∀ {b:List Int} {j:Nat},j≤De x b→x ∉ b.take j
 |[],j,h=>by simp
 |y::b,0,h=>by simp
 |y::b,j+1,h=>by
  unfold De at h;by_cases e:x=y
  ·rw[if_pos e] at h;omega
  ·rw[if_neg e] at h;simp[e,Pj x (b:=b) (j:=j) (by omega)]
theorem Xn (x:Int) (b:List Int):AE [x] b=if x ∈ b then 1 else 0:=by
 unfold AE;cases e:XJ x b with
 |none=>simp[YS e]
 |some b'=>
  obtain⟨b0,rfl,_⟩:=My e;simp
theorem dI (x:Int) (b:List Int):Cp [x] b 1=if De x b<b.length then De x b+1 else 0:=by
 have on:∀ j,PB [x] b 1 j=decide ((if x ∈ b.take j then 1 else 0)=if x ∈ b then 1 else 0):=fun j=>by
  unfold PB GH;rw[Xn];simp[OM,tP,Xn,sg]
 have hle:=Ow x b;by_cases h:De x b<b.length
 ·rw[if_pos h];have hx:x ∈ b:=by rw[← OA x h];exact C5 h
  refine PS (by simp) (by omega) ?_ fun j hj=>?_
  ·rw[on,if_pos hx,if_pos ?_]
   ·rfl
   ·rw[HP h,OA x h];simp
  ·rw[on,if_pos hx,if_neg (Pj x (by omega))];rfl
 ·rw[if_neg h];refine PS (by simp) (by omega) ?_ fun j hj=>by omega
  rw[on,if_neg (by simp),if_neg ?_]
  ·rfl
  ·have:=Pj x (b:=b) (j:=b.length) (by omega)
   rwa [AX (Cj _)] at this
theorem SE (x:Int) (b:List Int):FH [x] b=if De x b<b.length then replicate (De x b) 2++(0::replicate (b.length-De x b-1) 2) else 1::replicate b.length 2:=by
 unfold FH;have:(List.range [x].length)=[0]:=rfl;rw[this,show [x].length=1 from rfl,dI];simp only[List.flatMap_cons,List.flatMap_nil,List.append_nil,Ti,Nat.zero_add];rw[dI];split
 ·unfold MM;rw[if_pos (by omega),show De x b+1-0-1=De x b by omega,show b.length-(De x b+1)=b.length-De x b-1 by omega];simp
 ·simp[MM]
def Dr (a b:List Int) (i j:Nat):Nat:=i+j-2*AE (a.take i) (b.take j)
theorem Im (a b:List Int) (i j:Nat):AE (a.take i) (b.take j)≤i∧AE (a.take i) (b.take j)≤j:=by
 have h:=HZ (a.take i) (b.take j);simp at h;omega
theorem TU (a b:List Int) (i j:Nat):i≤j+Dr a b i j∧j≤i+Dr a b i j:=by
 have h:=Im a b i j;unfold Dr;omega
theorem Nd {l:List Int} {i:Nat} (h:l.length≤i):l.take (i+1)=l.take i:=by
 rw[AX (by omega),AX h]
theorem TW {a b:List Int} {i j:Nat} (h:¬ ∃ (h1:i<a.length) (h2:j<b.length),a[i]=b[j]):Dr a b (i+1) (j+1)=Dr a b i (j+1)+1∨Dr a b (i+1) (j+1)=Dr a b (i+1) j+1:=by
 have g1:=Im a b i (j+1);have g2:=Im a b (i+1) j;have g3:=Im a b (i+1) (j+1);unfold Dr;by_cases h1:i<a.length
 ·by_cases h2:j<b.length
  ·have hne:a[i] ≠ b[j]:=fun e=>h ⟨h1,h2,e⟩;have e:=MV hne (a.take i) (b.take j);rw[← HP h1,← HP h2] at e;omega
  ·rw[Nd (l:=b) (by omega)] at *;omega
 ·rw[Nd (l:=a) (by omega)] at *;omega
theorem NI {a b:List Int} {i j:Nat} (h1:i<a.length) (h2:j<b.length) (h:a[i]=b[j]):Dr a b (i+1) (j+1)=Dr a b i j:=by
 have g:=Im a b i j;unfold Dr;rw[HP h1,HP h2,h,Nb];omega
theorem gr (a b:List Int) (i j:Nat):Dr a b (i+1) j≤Dr a b i j+1:=by
 have:AE (a.take i) (b.take j)≤AE (a.take (i+1)) (b.take j):=Mx (List.take_sublist_take_left (by omega)) (List.Sublist.refl _);unfold Dr;omega
theorem gR (a b:List Int) (i j:Nat):Dr a b i (j+1)≤Dr a b i j+1:=by
 have:AE (a.take i) (b.take j)≤AE (a.take i) (b.take (j+1)):=Mx (List.Sublist.refl _) (List.take_sublist_take_left (by omega));unfold Dr;omega
def CH (a b:List Int):Nat:=a.length+b.length-2*AE a b
theorem r5 (a b:List Int):Dr a b a.length b.length=CH a b:=by simp[Dr,CH]
theorem qU {a b:List Int} {i j:Nat} (h1:a.length≤i) (h2:b.length≤j):CH a b≤Dr a b i j:=by
 unfold Dr CH;rw[AX h1,AX h2];omega
structure NY (a b:List Int) (c d p x:Nat):Prop where
 on:p≤x+c
 may:Dr a b x (x+c-p)≤d
 most:∀ i j,i+c=j+p→Dr a b i j≤d→i≤x
structure W3 (a b:List Int) (c d p x:Nat):Prop where
 on:p≤x+c
 may:Dr a b x (x+c-p)≤d
 most:∀ i j,i+c=j+p→Dr a b i j≤d→i≤x∨∃ i' j',i=i'+1∧j=j'+1∧(∃ (h1:i'<a.length) (h2:j'<b.length),a[i']=b[j'])∧Dr a b i' j'≤d
theorem mX (a b:List Int) (c:Nat):W3 a b c 0 c 0:=by
 refine⟨by omega,by simp[Dr],fun i j h hm=>?_⟩;have:i=j:=by omega
 subst this;cases i with
 |zero=>exact .inl (by omega)
 |succ i=>
  right;refine⟨i,i,rfl,rfl,?_⟩;by_cases hs:∃ (h1:i<a.length) (h2:i<b.length),a[i]=b[i]
  ·obtain⟨h1,h2,e⟩:=hs;rw[NI h1 h2 e] at hm;exact⟨⟨h1,h2,e⟩,hm⟩
  ·have:=TW hs;omega
theorem OW {a b:List Int} {c d p x:Nat} (hc:d+1≤c) (hp1:c≤p+(d+1)) (hp2:p≤c+(d+1)) (hp0:1≤p) {y z:Nat} (hy:p+(d+1) ≠ c→NY a b c d (p-1) y) (hz:p ≠ c+(d+1)→NY a b c d (p+1) z)
  (hx:(p+(d+1) ≠ c∧x=y+1)∨(p ≠ c+(d+1)∧x=z)) (hxy:p+(d+1) ≠ c→y+1≤x) (hxz:p ≠ c+(d+1)→z≤x):W3 a b c (d+1) p x:=by
 have on:p≤x+c∧Dr a b x (x+c-p)≤d+1:=by
  rcases hx with ⟨h,rfl⟩ | ⟨h,rfl⟩
  ·have g:=hy h;have g1:=g.on;have g2:=g.may;have:=gr a b y (y+c-(p-1));refine⟨by omega,?_⟩;rw[show y+1+c-p=y+c-(p-1) by omega];omega
  ·have g:=hz h;have g1:=g.on;have g2:=g.may;have:=gR a b x (x+c-(p+1));refine⟨by omega,?_⟩;rw[show x+c-p=x+c-(p+1)+1 by omega];omega
 refine⟨on.1,on.2,fun i j h hm=>?_⟩;cases i with
 |zero=>exact .inl (by omega)
 |succ i=>
  cases j with
  |zero=>exact .inl (by omega)
  |succ j=>
   by_cases hs:∃ (h1:i<a.length) (h2:j<b.length),a[i]=b[j]
   ·obtain⟨h1,h2,e⟩:=hs;rw[NI h1 h2 e] at hm;exact .inr ⟨i,j,rfl,rfl,⟨h1,h2,e⟩,hm⟩
   ·left;rcases TW hs with e | e
    ·have hd:=TU a b i (j+1);have hne:p+(d+1) ≠ c:=fun h'=>by omega
     have:=(hy hne).most i (j+1) (by omega) (by omega);have:=hxy hne;omega
    ·have hd:=TU a b (i+1) j;have hne:p ≠ c+(d+1):=fun h'=>by omega
     have:=(hz hne).most (i+1) j (by omega) (by omega);have:=hxz hne;omega
theorem wR {a b:List Int} {c d p x:Nat} (h:W3 a b c d p x) {y:Nat} (hy:x+c=y+p) (h1:x<a.length) (h2:y<b.length) (e:a[x]=b[y]):W3 a b c d p (x+1):=by
 have hm:=h.may;rw[show x+c-p=y by omega] at hm;refine⟨by omega,?_,fun i j hij hc=>?_⟩
 ·rw[show x+1+c-p=y+1 by omega,NI h1 h2 e];exact hm
 ·rcases h.most i j hij hc with k | k
  ·exact .inl (by omega)
  ·exact .inr k
theorem Rx {a b:List Int} {c d p x:Nat} (h:W3 a b c d p x) {y:Nat} (hy:x+c=y+p) (hs:¬ ∃ (h1:x<a.length) (h2:y<b.length),a[x]=b[y]):NY a b c d p x:=by
 refine⟨h.on,h.may,fun i=>?_⟩;induction i with
 |zero=>intro j _ _;omega
 |succ i ih=>
  intro j hij hc;rcases h.most _ _ hij hc with k | ⟨i',j',e1,e2,k,km⟩
  ·exact k
  ·have e1:i=i':=by omega
   subst e1;have:=ih j' (by omega) km;by_cases e:i=x
   ·subst e;have:j'=y:=by omega
    subst this;exact absurd k hs
   ·omega
theorem j7 {a b:List Int} {c d p x y:Nat} (h:NY a b c d p x) (hy:x+c=y+p) (h1:a.length≤x) (h2:b.length≤y):CH a b≤d:=by
 have:=h.may;rw[show x+c-p=y by omega] at this;have:=qU (a:=a) (b:=b) h1 h2;omega
theorem gB {a b:List Int} {c d p x y:Nat} (h:NY a b c d p x) (hy:x+c=y+p) (hp:a.length+c=b.length+p) (hd:CH a b≤d):a.length≤x∧b.length≤y:=by
 have:=h.most a.length b.length hp (by rw[r5];exact hd);omega
theorem VV (a b:List Int):a.length≤b.length+CH a b∧b.length≤a.length+CH a b∧(a.length+b.length+CH a b) % 2=0:=by
 have h:=HZ a b;unfold CH;omega
end Go.PL
namespace Go.Proofs.YtndnlknocdangaaGreat
open Go Go.G Go.Proofs Go.PL
def JG (f:Nat→Int) (n:Nat):List A:=(List.range n).map fun q=>iv (f q)
@[simp] theorem Aef {f:Nat→Int} {n:Nat}:(JG f n).length=n:=by simp[JG]
@[simp] theorem Ij {f:Nat→Int} {n k:Nat} (h:k<n):(JG f n)[k]? = some (iv (f k)):=by simp[JG,h]
@[simp] theorem Aho {f:Nat→Int} {n k:Nat} (h:k<(JG f n).length):(JG f n)[k]=iv (f k):=by simp[JG]
@[simp] theorem Ae7 {f:Nat→Int} {n k:Nat} {z:Int}:(JG f n).set k (iv z)=JG (fun q=>if q=k then z else f q) n:=by
 apply List.ext_getElem?;intro i;rw[List.getElem?_set];by_cases hi:i<n
 ·rw[Ij hi];by_cases e:k=i
  ·subst e;simp[hi,Ij hi]
  ·rw[if_neg e,Ij hi,if_neg (Ne.symm e)]
 ·rw[List.getElem?_eq_none (l:=JG _ n) (by simp;omega)];split
  ·rename_i e;rw[if_neg (by simp;omega),List.getElem?_eq_none (by simp;omega)]
  ·rw[List.getElem?_eq_none (by simp;omega)]
theorem SM {n:Nat}:List.replicate n (iv 0)=JG (fun _=>0) n:=by
 apply List.ext_getElem?;intro i;by_cases hi:i<n
 ·rw[Ij hi];simp[hi]
 ·rw[List.getElem?_eq_none (by simp;omega),List.getElem?_eq_none (by simp;omega)]
theorem P5 {f g:Nat→Int} {n:Nat} (h:∀ q,q<n→f q=g q):JG f n=JG g n:=by
 unfold JG;exact List.map_congr_left fun q hq=>by rw[h q (by simpa using hq)]
theorem ke (l:List Int):l.map iv=JG (fun q=>l.getD q 0) l.length:=by
 apply List.ext_getElem?;intro i;by_cases hi:i<l.length
 ·rw[Ij hi];simp[hi]
 ·rw[List.getElem?_eq_none (by simp;omega),List.getElem?_eq_none (by simp;omega)]
theorem Wp {H:Hp} {o:Nm} {u n:Nat} {f:Nat→Int} (h:H o=⟨u,.arr 1 (JG f n)⟩):IZ H (.osl o u 1 0 n) (.sl false (JG f n)):=by
 have:=B0 (H:=H) (o:=o) (u:=u) (sz:=1) (l:=List.range n) (f:=fun q=>iv (f q)) (n:=n) (by rw[h];simp[JG]) (by simp) (fun x=>rfl);exact this
theorem MF (l:List Int):A.softL (l.map iv)=l.map iv:=by rw[Bi,List.map_map];rfl
theorem Xm (l:List Int) (n:Nat):A.softL ((l.map iv).take n)=(l.map iv).take n:=by rw[← List.map_take,MF]
theorem WH (l:List Int) (n:Nat):A.softL ((l.map iv).drop n)=(l.map iv).drop n:=by rw[← List.map_drop,MF]
theorem aK {f:Nat→Int} {n k:Nat} {lo hi:Bool} (hk:1≤k) (hk2:k+1<n) (hn:n≤100000000) (hf:∀ q,-1000000000≤f q∧f q≤1000000000):G.Spec Tryz.prog 179 [.sl false (JG f n),iv k,bv lo,bv hi] (iv (if lo=true∧hi=true then 0 else if lo=true∨(hi=false∧f (k-1)<f (k+1)) then f (k+1) else f (k-1)+1)):=by
 have e1:i64.wrap ((k:Int)-1)=((k-1:Nat):Int):=Bg;have e2:=AW k;have h1:=hf (k-1);have e3:i64.wrap (f (k-1)+1)=f (k-1)+1:=EJ;have g1:(JG f n)[k-1]? = some (iv (f (k-1))):=Ij (by omega);have g2:(JG f n)[k+1]? = some (iv (f (k+1))):=Ij hk2;have b1:k-1<n:=by omega
 have b2:(0:Int)≤(k:Int)+1:=by omega
 have b3:(k:Int)+1<n:=by omega
 refine Al Zd (by simp) fun w0 I0=>?_;unfold QU;cases lo<;>cases hi
 ·by_cases h:f (k-1)<f (k+1)
  ·simp[e1,e2,e3,g1,g2,h,b1,b2,b3,hk2];exact Ad rfl
  ·simp[e1,e2,e3,g1,g2,h,b1,b2,b3,hk2];exact Jz rfl
 ·simp[e1,e2,e3,g1,g2,b1,b2,b3,hk2];exact Ad rfl
 ·simp[e1,e2,e3,g1,g2,b1,b2,b3,hk2];exact Ad rfl
 ·simp;exact Ad rfl
variable {n0:Nat} {w0:World} {I0:Nat→Prop} {Q:Exit→Sta→Prop}
theorem wj {a b:List Int} {i u:Nat} {x:Int} (hi:i<a.length) (hx:a[i]=x) (hb:b.length≤1000000):∀ (m j:Nat) (f:Nat→Int) (H:Hp),j+m=b.length→(∀ q,q≤b.length→f q=if q≤j then (AE (a.take (i+1)) (b.take q):Nat) else (AE (a.take i) (b.take q):Nat))→H [0]=⟨u,.arr 1 (JG f (b.length+1))⟩ →
  (∀ (f':Nat→Int) (z:Int) (H':Hp) (st:List (Nat × A)),(∀ q,q≤b.length→f' q=(AE (a.take (i+1)) (b.take q):Nat))→H' [0]=⟨u,.arr 1 (JG f' (b.length+1))⟩→Q (.exit 2) ⟨lk ([(1,Fc b),(5,.osl [0] u 1 0 (b.length+1)),(7,iv x),(8,iv z),(16,Fc a),(17,iv a.length),(18,iv i)]++st),H'⟩) →
  LoopC (cx Tryz.prog w0 I0 n0) IK Q ⟨lk [(1,Fc b),(5,.osl [0] u 1 0 (b.length+1)),(7,iv x),(8,iv (AE (a.take i) (b.take j):Nat)),(16,Fc a),(17,iv a.length),(18,iv i),(22,Fc b),(23,iv b.length),(24,iv j)],H⟩:=by
 intro m;induction m with
 |zero=>
  intro j f H hm hf hH hq;refine Ab Ai IK.eq_1 ?_;have:j=b.length:=by omega
  subst this;simp;exact hq f _ H [(22,Fc b),(23,iv b.length),(24,iv b.length),(25,bv false)] (fun q hq=>by rw[hf q hq,if_pos hq]) hH
 |succ m ih=>
  intro j f H hm hf hH hq;have hj:j<b.length:=by omega
  have e1:=AW j;have g1:(JG f (b.length+1))[j]? = some (iv (f j)):=Ij (by omega);have g2:(JG f (b.length+1))[j+1]? = some (iv (f (j+1))):=Ij (by omega);have f1:=hf j (by omega);have f2:=hf (j+1) (by omega);rw[if_pos (Cj _)] at f1;rw[if_neg (by omega)] at f2;have m0:(0:Int)≤(j:Int)+1:=by omega
  have m1:(j:Int)<(b.length:Int)+1:=by omega
  have ll:=HZ (a.take i) (b.take j);simp at ll;have e2:i64.wrap ((AE (a.take i) (b.take j):Nat)+1)=((AE (a.take i) (b.take j)+1:Nat):Int):=Bg;have tk:a.take (i+1)=a.take i++[x]:=by rw[HP hi,hx]
  have tj:b.take (j+1)=b.take j++[b[j]]:=HP hj;have next:∀ (z:Int) (f':Nat→Int),z=(AE (a.take (i+1)) (b.take (j+1)):Nat)→(∀ q,q ≠ j+1→f' q=f q)→f' (j+1)=z→LoopC (cx Tryz.prog w0 I0 n0) IK Q ⟨lk [(1,Fc b),(5,.osl [0] u 1 0 (b.length+1)),(7,iv x),(8,iv (AE (a.take i) (b.take (j+1)):Nat)),(16,Fc a),(17,iv a.length),(18,iv i),(22,Fc b),(23,iv b.length),(24,iv (j+1:Nat))],AJ H [0] ⟨u,.arr 1 (JG f' (b.length+1))⟩⟩:=fun z f' hz h1 h2=>by
   refine ih (j+1) f' _ (by omega) (fun q hq=>?_) (by simp[Aa]) hq;by_cases e:q=j+1
   ·subst e;rw[if_pos (Cj _),h2,hz]
   ·rw[h1 q e,hf q hq];by_cases h3:q≤j
    ·rw[if_pos h3,if_pos (by omega)]
    ·rw[if_neg h3,if_neg (by omega)]
  refine Ab Ai IK.eq_1 ?_;by_cases h:x=b[j]
  ·simp[hj,h,e1,g2,hH,m0,m1];rw[NC.eq_1];have hjb:j<b.length+1:=by omega
   simp[hj,h,e1,hjb,hH,m0,m1,Aa,e2];rw[f2,← h];have e:=Nb x (a.take i) (b.take j);have e':=ZB x (a.take i) (b.take j);rw[← tk] at e e';rw[h,← tj] at e;refine next _ _ rfl (fun q hq=>by simp[hq]) ?_
   simp;rw[f1,e];omega
  ·simp[hj,h,e1,g2,hH,m0,m1];rw[NC.eq_1];have hjb:j<b.length+1:=by omega
   simp[hj,h,e1,hjb,hH,m0,m1];rw[f2];have e:=MV h (a.take i) (b.take j);rw[← tj,← tk] at e;refine next _ _ rfl (fun q hq=>by simp[hq]) ?_
   simp;rw[f1,e];omega
theorem uX {a b:List Int} {u:Nat} (ha:a.length≤1000000) (hb:b.length≤1000000) (hq:∀ (f':Nat→Int) (H':Hp) (st:List (Nat × A)),(∀ q,q≤b.length→f' q=(AE a (b.take q):Nat))→H' [0]=⟨u,.arr 1 (JG f' (b.length+1))⟩→Q (.exit 0) ⟨lk ([(1,Fc b),(5,.osl [0] u 1 0 (b.length+1))]++st),H'⟩):∀ (m i:Nat) (f:Nat→Int) (H:Hp),i+m=a.length→(∀ q,q≤b.length→f q=(AE (a.take i) (b.take q):Nat))→H [0]=⟨u,.arr 1 (JG f (b.length+1))⟩ →
  LoopC (cx Tryz.prog w0 I0 n0) KA Q ⟨lk [(1,Fc b),(5,.osl [0] u 1 0 (b.length+1)),(16,Fc a),(17,iv a.length),(18,iv i)],H⟩:=by
 intro m;induction m with
 |zero=>
  intro i f H hm hf hH;refine Ab Ai KA.eq_1 ?_;have:i=a.length:=by omega
  subst this;simp;exact hq f H [(16,Fc a),(17,iv a.length),(18,iv a.length),(19,bv false)] (fun q hq=>by rw[hf q hq,AX (Cj _)]) hH
 |succ m ih=>
  intro i f H hm hf hH;have hi:i<a.length:=by omega
  have e1:=AW i;refine Ab Ai KA.eq_1 ?_;simp[hi];refine LoopC.le (Ao [(1,Fc b),(5,.osl [0] u 1 0 (b.length+1)),(7,iv a[i]),(8,iv (AE (a.take i) (b.take 0):Nat)),(16,Fc a),(17,iv a.length),(18,iv i),(22,Fc b),(23,iv b.length),(24,iv (0:Nat))] (by simp)) ?_;refine wj hi rfl hb b.length 0 f H (by omega) (fun q hq=>?_) hH fun f' z H' st h1 h2=>?_
  ·rw[hf q hq];by_cases h0:q≤0
   ·have:q=0:=by omega
    subst this;simp
   ·rw[if_neg h0]
  ·simp[e1];exact ih (i+1) f' H' (by omega) h1 h2
theorem gu {l:List Int} {u:Nat} (hl:l.length≤1000000) (hq:∀ (f':Nat→Int) (H':Hp) (st:List (Nat × A)),(∀ q,q<l.length→f' q=l.getD (l.length-1-q) 0)→H' [0]=⟨u,.arr 1 (JG f' l.length)⟩→Q (.exit 0) ⟨lk ([(0,Fc l),(3,.osl [0] u 1 0 l.length)]++st),H'⟩):∀ (m i:Nat) (f:Nat→Int) (H:Hp),i+m=l.length→(∀ q,q<l.length→l.length≤q+i→f q=l.getD (l.length-1-q) 0)→H [0]=⟨u,.arr 1 (JG f l.length)⟩ →
  LoopC (cx Tryz.prog w0 I0 n0) Hk Q ⟨lk [(0,Fc l),(3,.osl [0] u 1 0 l.length),(9,Fc l),(10,iv l.length),(11,iv i)],H⟩:=by
 intro m;induction m with
 |zero=>
  intro i f H hm hf hH;refine Ab Ai Hk.eq_1 ?_;have:i=l.length:=by omega
  subst this;simp;exact hq f H [(9,Fc l),(10,iv l.length),(11,iv l.length),(12,bv false)] (fun q hq=>hf q hq (by omega)) hH
 |succ m ih=>
  intro i f H hm hf hH;have hi:i<l.length:=by omega
  have e1:=AW i;have e2:i64.wrap (i64.wrap ((l.length:Int)-1)-i)=((l.length-1-i:Nat):Int):=by rw[Bf (n:=(l.length:Int)-1) (by omega) (by omega),Bf (by omega) (by omega)];omega
  have b1:l.length-1-i<l.length:=by omega
  refine Ab Ai Hk.eq_1 ?_;simp[hi,e1,e2,hH,b1];refine ih (i+1) _ _ (by omega) (fun q hq1 hq2=>?_) (by simp[Aa];rfl);by_cases e:q=l.length-1-i
  ·rw[if_pos e];have:l.length-1-q=i:=by omega
   rw[this];simp[List.getD_eq_getElem?_getD,hi]
  ·rw[if_neg e];exact hf q hq1 (by omega)
theorem Tn {a b:List Int} (ha:a.length≤1000000) (hb:b.length≤1000000):G.Spec Tryz.prog 191 [Fc a,Fc b] (.sl false (JG (fun q=>(AE a (b.take q):Nat)) (b.length+1))):=by
 have e1:i64.wrap ((b.length:Int)+1)=((b.length+1:Nat):Int):=Bg;refine Al gW (by simp) fun w0 I0=>?_;unfold Vf;simp[e1];refine⟨by omega,?_⟩;refine LoopC.le (Ao [(1,Fc b),(5,.osl [0] 1 1 0 (b.length+1)),(16,Fc a),(17,iv a.length),(18,iv (0:Nat))] (by simp)) ?_;refine uX ha hb (fun f' H' st h1 h2=>?_) a.length 0 (fun _=>0) _ (by omega) (fun q hq=>by simp) (by simp[SM]);simp;rw[← P5 fun q hq=>h1 q (by omega)];exact Wp h2
theorem Q9 {l:List Int} (hl:l.length≤1000000):G.Spec Tryz.prog 192 [Fc l] (Fc l.reverse):=by
 refine Al WR (by simp) fun w0 I0=>?_;unfold OK;simp;refine⟨by omega,?_⟩;refine LoopC.le (Ao [(0,Fc l),(3,.osl [0] 1 1 0 l.length),(9,Fc l),(10,iv l.length),(11,iv (0:Nat))] (by simp)) ?_;refine gu hl (fun f' H' st h1 h2=>?_) l.length 0 (fun _=>0) _ (by omega) (fun q hq=>by omega) (by simp[SM]);simp;have e:l.reverse.map iv=JG f' l.length:=by
  rw[ke,List.length_reverse];refine P5 fun q hq=>?_;rw[h1 q hq];simp[List.getD_eq_getElem?_getD,List.getElem?_reverse hq]
 have e':Fc l.reverse = .sl false (JG f' l.length):=by rw[← e]
 rw[e'];exact Wp h2
theorem mw {n0:Nat} {w0:World} {I0:Nat→Prop} {Q:Exit→Sta→Prop} {a b:List Int} {half:Nat} (hh:half≤a.length) (hb:b.length≤1000000) {H:Hp} {f g:Nat→Int} (hf:∀ q,q≤b.length→f q=(GH a b 0 half 0 q:Nat)) (hg:∀ q,q≤b.length→g (b.length-q)=(GH a b half a.length q b.length:Nat))
  (hq:∀ st,Q (.exit 0) ⟨lk ([(1,Fc b),(7,.sl false (JG f (b.length+1))),(8,.sl false (JG g (b.length+1))),(9,iv (Cp a b half))]++st),H⟩):∀ (m i best:Nat),i+m=b.length+1→best≤b.length→(∀ q,q<best→GH a b 0 half 0 q+GH a b half a.length q b.length<GH a b 0 half 0 best+GH a b half a.length best b.length)→(∀ q,q<i→GH a b 0 half 0 q+GH a b half a.length q b.length≤GH a b 0 half 0 best+GH a b half a.length best b.length) →
  LoopC (cx Tryz.prog w0 I0 n0) H7 Q ⟨lk [(1,Fc b),(7,.sl false (JG f (b.length+1))),(8,.sl false (JG g (b.length+1))),(9,iv best),(24,iv (b.length+1:Nat)),(25,iv i)],H⟩:=by
 intro m;induction m with
 |zero=>
  intro i best hm hbl h1 h2;refine Ab Ai H7.eq_1 ?_;have:i=b.length+1:=by omega
  subst this;have hw:Cp a b half=best:=by
   obtain⟨g1,g2,g3⟩:=G8 (a:=a) (b:=b) hh;have hle:=L8 (a:=a) (b:=b) (i:=half) (j:=best) hh hbl;have h3:=h2 (Cp a b half) (by omega);unfold PB at g1;simp only[decide_eq_true_eq] at g1;refine PS hh hbl (by unfold PB;simp only[decide_eq_true_eq];omega) fun j hj=>?_;have:=h1 j hj;unfold PB;simp only[decide_eq_false_iff_not];omega
  simp;rw[← hw];exact hq [(24,iv (b.length+1:Nat)),(25,iv (b.length+1:Nat)),(26,bv false)]
 |succ m ih=>
  intro i best hm hbl h1 h2;have hi:i<b.length+1:=by omega
  have e1:=AW i;have e2:i64.wrap ((b.length:Int)-i)=((b.length-i:Nat):Int):=Bg;have e3:i64.wrap ((b.length:Int)-best)=((b.length-best:Nat):Int):=Bg;have fi:=hf i (by omega);have gi:=hg i (by omega);have fb:=hf best hbl;have gb:=hg best hbl;have l1:=HZ (sg a 0 half) (sg b 0 i);have l2:=HZ (sg a half a.length) (sg b i b.length);have l3:=HZ (sg a 0 half) (sg b 0 best);have l4:=HZ (sg a half a.length) (sg b best b.length);rw[JJ _ _ _ hh,JJ _ _ _ (by omega)] at l1;rw[JJ _ _ _ (by omega),JJ _ _ _ (by omega)] at l2;rw[JJ _ _ _ hh,JJ _ _ _ hbl] at l3;rw[JJ _ _ _ (by omega),JJ _ _ _ (by omega)] at l4;have e4:i64.wrap (f i+g (b.length-i))=((GH a b 0 half 0 i+GH a b half a.length i b.length:Nat):Int):=by rw[fi,gi,Bf (by unfold GH;omega) (by unfold GH;omega)];omega
  have e5:i64.wrap (f best+g (b.length-best))=((GH a b 0 half 0 best+GH a b half a.length best b.length:Nat):Int):=by rw[fb,gb,Bf (by unfold GH;omega) (by unfold GH;omega)];omega
  have b1:b.length-i<b.length+1:=by omega
  have b2:b.length-best<b.length+1:=by omega
  have b3:best<b.length+1:=by omega
  refine Ab Ai H7.eq_1 ?_;have c1:(i:Int)<(b.length:Int)+1:=by omega
  have c2:((b.length-i:Nat):Int)<(b.length:Int)+1:=by omega
  have c3:(best:Int)<(b.length:Int)+1:=by omega
  have c4:((b.length-best:Nat):Int)<(b.length:Int)+1:=by omega
  by_cases h:(GH a b 0 half 0 best:Int)+(GH a b half a.length best b.length:Int)<(GH a b 0 half 0 i:Int)+(GH a b half a.length i b.length:Int)
  ·simp[hi,e1,e2,e3,e4,e5,b1,b2,b3,h,c1,c2,c3,c4];refine ih (i+1) i (by omega) (by omega) (fun q hq=>?_) (fun q hq=>?_)
   ·have:=h2 q hq;omega
   ·by_cases e:q=i
    ·subst e;omega
    ·have:=h2 q (by omega);omega
  ·simp[hi,e1,e2,e3,e4,e5,b1,b2,b3,h,c1,c2,c3,c4];refine ih (i+1) best (by omega) hbl h1 (fun q hq=>?_);by_cases e:q=i
   ·subst e;omega
   ·exact h2 q (by omega)
theorem cC {a b:List Int} {half:Nat} (hh:half≤a.length) (ha:a.length≤1000000) (hb:b.length≤1000000):G.Spec Tryz.prog 182 [Fc a,Fc b,iv half] (iv (Cp a b half)):=by
 refine Al X3 (by simp) fun w0 I0=>?_;have s1:=Tn (a:=a.take half) (b:=b) (by simp;omega) hb;have s2:=Q9 (l:=a.drop half) (by simp;omega);have s3:=Q9 (l:=b) hb;have s4:=Tn (a:=(a.drop half).reverse) (b:=b.reverse) (by simp;omega) (by simpa using hb);rw[List.length_reverse] at s4;unfold QO;simp[hh];refine Af (s1.soft (by simp[A.softL,A.soft,MF,Xm])) (by simp) ?_;simp[hh];refine Af (s2.soft (by simp[A.softL,A.soft,MF,WH,AX])) (by simp) ?_;simp[hh];refine Af s3 (by simp) ?_;simp[hh];refine Af s4 (by simp) ?_;simp[hh];refine LoopC.le (Ao [(1,Fc b),(7,.sl false (JG (fun q=>(AE (a.take half) (b.take q):Nat)) (b.length+1))),(8,.sl false (JG (fun q=>(AE (a.drop half).reverse (b.reverse.take q):Nat)) (b.length+1))),(9,iv (0:Nat)),(24,iv (b.length+1:Nat)),(25,iv (0:Nat))] (by simp)) ?_;refine mw hh hb (fun q hq=>by simp[GH,OM]) (fun q hq=>?_) (fun st=>?_) (b.length+1) 0 0 (by omega) (by omega) (fun q hq=>by omega) (fun q hq=>by omega)
 ·have e:b.reverse.take (b.length-q)=(b.drop q).reverse:=by
   rw[List.take_reverse];congr 2;omega
  show((AE (a.drop half).reverse (b.reverse.take (b.length-q)):Nat):Int)=_;rw[e,I8];simp[GH,Wn]
 ·simp;exact Ad rfl
theorem TX {a b:List Int} {c d p x y:Nat} (h:W3 a b c d p x) (hy:x+c=y+p):x≤d+a.length∧y≤d+b.length:=by
 have h1:=h.may;rw[show x+c-p=y by omega] at h1;have h2:=HZ (a.take x) (b.take y);have h3:=Im a b x y;unfold Dr at h1;simp at h2;omega
theorem xc {a b:List Int} {M d p t:Nat} {f:Nat→Nat} (hd:d≤M) (ht:t≤d) (hp:p+d=M+1+2*t) (hold:∀ p s,s<d→p+d=M+1+1+2*s→NY a b (M+1) (d-1) p (f p)):∃ x:Nat,(if decide (t=0)=true∧decide (t=d)=true then (0:Int) else if decide (t=0)=true∨(decide (t=d)=false∧((f (p-1):Nat):Int)<(f (p+1):Nat)) then ((f (p+1):Nat):Int) else ((f (p-1):Nat):Int)+1)=(x:Int)∧W3 a b (M+1) d p x:=by
 cases d with
 |zero=>
  have:t=0:=by omega
  subst this;have:p=M+1:=by omega
  subst this;exact⟨0,by simp,mX a b (M+1)⟩
 |succ d=>
  have hy:p+(d+1) ≠ M+1→NY a b (M+1) d (p-1) (f (p-1)):=fun h=>hold (p-1) (t-1) (by omega) (by omega);have hz:p ≠ M+1+(d+1)→NY a b (M+1) d (p+1) (f (p+1)):=fun h=>hold (p+1) t (by omega) (by omega);by_cases h0:t=0
  ·exact⟨f (p+1),by simp[h0],OW (by omega) (by omega) (by omega) (by omega) hy hz (.inr ⟨by omega,rfl⟩) (fun h=>by omega) (fun h=>Cj _)⟩
  ·by_cases h1:t=d+1
   ·exact⟨f (p-1)+1,by simp[h1],OW (by omega) (by omega) (by omega) (by omega) hy hz (.inl ⟨by omega,rfl⟩) (fun h=>Cj _) (fun h=>by omega)⟩
   ·by_cases h2:f (p-1)<f (p+1)
    ·exact⟨f (p+1),by simp[h0,h1,h2],OW (by omega) (by omega) (by omega) (by omega) hy hz (.inr ⟨by omega,rfl⟩) (fun h=>by omega) (fun h=>Cj _)⟩
    ·exact⟨f (p-1)+1,by simp[h0,h1,h2],OW (by omega) (by omega) (by omega) (by omega) hy hz (.inl ⟨by omega,rfl⟩) (fun h=>Cj _) (fun h=>by omega)⟩
theorem p5 {a b:List Int} (ha:a.length≤1000000) (hb:b.length≤1000000) {c d p:Nat} {X:A} {M k:Int} {H:Hp}
  (hq:∀ (x y:Nat) st,W3 a b c d p x→NY a b c d p x→x+c=y+p→Q (.exit 4) ⟨lk ([(0,Fc a),(1,Fc b),(2,iv M),(8,iv a.length),(9,iv b.length),(10,X),(11,iv d),(12,iv k),(13,iv x),(14,iv y)]++st),H⟩):∀ (m x y:Nat),a.length≤x+m→W3 a b c d p x→x+c=y+p →
  LoopC (cx Tryz.prog w0 I0 n0) FK Q ⟨lk [(0,Fc a),(1,Fc b),(2,iv M),(8,iv a.length),(9,iv b.length),(10,X),(11,iv d),(12,iv k),(13,iv x),(14,iv y)],H⟩:=by
 intro m;induction m with
 |zero=>
  intro x y hm hS hy;refine Ab Ai FK.eq_1 ?_;simp[show ¬ x<a.length by omega];exact hq x y [(99,bv false)] hS (Rx hS hy fun ⟨h1,_,_⟩=>by omega) hy
 |succ m ih=>
  intro x y hm hS hy;refine Ab Ai FK.eq_1 ?_;by_cases h1:x<a.length
  ·by_cases h2:y<b.length
   ·have e1:=AW x;have e2:=AW y;by_cases h3:a[x]=b[y]
    ·simp[h1,h2,h3,e1,e2];exact ih (x+1) (y+1) (by omega) (wR hS hy h1 h2 h3) (by omega)
    ·simp[h1,h2,h3];exact hq x y [(99,bv false)] hS (Rx hS hy fun ⟨_,_,h⟩=>h3 h) hy
   ·simp[h1,h2];exact hq x y [(99,bv false)] hS (Rx hS hy fun ⟨_,h,_⟩=>h2 h) hy
  ·simp[h1];exact hq x y [(99,bv false)] hS (Rx hS hy fun ⟨h,_,_⟩=>h1 h) hy
theorem sf {a b:List Int} (ha:a.length≤1000000) (hb:b.length≤1000000) {M d u:Nat} (hM:M≤a.length+b.length) (hd:d≤M) (hdd:d≤CH a b)
  (hq:∀ (f:Nat→Nat) (H:Hp) st,(∀ q,f q≤10000000)→(∀ p s,s≤d→p+d=M+1+2*s→NY a b (M+1) d p (f p))→d<CH a b→H [0]=⟨u,.arr 1 (JG (fun q=>(f q:Nat)) (2*M+3))⟩→Q (.exit 2) ⟨lk ([(0,Fc a),(1,Fc b),(2,iv M),(8,iv a.length),(9,iv b.length),(10,.osl [0] u 1 0 (2*M+3)),(11,iv d)]++st),H⟩)
  (hq2:∀ H,d=CH a b→Q .ret ⟨lk [(6,iv d),(7,bv true)],H⟩):∀ (m t:Nat) (f:Nat→Nat) (H:Hp),t+m=d+1→(∀ q,f q≤10000000) →
  (∀ p s,s<d→p+d=M+1+1+2*s→NY a b (M+1) (d-1) p (f p))→(∀ p s,s<t→p+d=M+1+2*s→NY a b (M+1) d p (f p)∧¬ (a.length≤f p∧b.length+p≤f p+(M+1)))→H [0]=⟨u,.arr 1 (JG (fun q=>(f q:Nat)) (2*M+3))⟩ →
  LoopC (cx Tryz.prog w0 I0 n0) FN Q ⟨lk [(0,Fc a),(1,Fc b),(2,iv M),(8,iv a.length),(9,iv b.length),(10,.osl [0] u 1 0 (2*M+3)),(11,iv d),(12,iv (2*(t:Int)-d))],H⟩:=by
 intro m;induction m with
 |zero=>
  intro t f H hm hb0 hold hnew hH;have:t=d+1:=by omega
  subst this;refine Ab Ai FN.eq_1 ?_;have hk:¬ (2*((d+1:Nat):Int)-d≤d):=by omega
  simp only[Int.natCast_add,Int.cast_ofNat_Int] at hk;simp[hk];refine hq f H _ hb0 (fun p s hs hp=>(hnew p s (by omega) hp).1) ?_ hH;by_cases h:d<CH a b
  ·exact h
  ·exfalso;have hdg:=VV a b;have he:CH a b=d:=by omega
   rw[he] at hdg;obtain⟨p,hp⟩:∃ p,a.length+(M+1)=b.length+p:=⟨a.length+(M+1)-b.length,by omega⟩;obtain⟨s,hs⟩:∃ s,a.length+d=b.length+2*s:=⟨(a.length+d-b.length) / 2,by omega⟩;obtain⟨g1,g2⟩:=hnew p s (by omega) (by omega);have g3:=g1.on;have:=gB (y:=f p+(M+1)-p) g1 (by omega) hp (by omega);exact g2 ⟨this.1,by omega⟩
 |succ m ih=>
  intro t f H hm hb0 hold hnew hH;have ht:t≤d:=by omega
  obtain⟨p,hp⟩:∃ p,p+d=M+1+2*t:=⟨M+1+2*t-d,by omega⟩;have hk:(2*(t:Int)-d≤d):=by omega
  have e0:i64.wrap ((M:Int)+1)=(M:Int)+1:=EJ;have e1:i64.wrap ((M:Int)+1+(2*(t:Int)-d))=(p:Int):=Bg;have e2:i64.wrap (2*(t:Int)-d+2)=2*((t+1:Nat):Int)-d:=Bg;have e3:i64.wrap (-(d:Int)) = -(d:Int):=EJ;have lo:decide (2*(t:Int)-d = -(d:Int))=decide (t=0):=by by_cases h:t=0<;>simp[h]<;>omega
  have hi:decide (2*(t:Int)-d=(d:Int))=decide (t=d):=by by_cases h:t=d<;>simp[h]<;>omega
  have hR:=aK (f:=fun q=>(f q:Nat)) (n:=2*M+3) (k:=p) (lo:=decide (t=0)) (hi:=decide (t=d)) (by omega) (by omega) (by omega) (fun q=>by have:=hb0 q;omega)
  -- the step's place
  obtain⟨x,hx,hS⟩:=xc hd ht hp hold;rw[hx] at hR;have hon:=hS.on;obtain⟨y,hy⟩:∃ y,x+(M+1)=y+p:=⟨x+(M+1)-p,by omega⟩;have hbd:=TX hS hy;have e4:i64.wrap ((x:Int)-(2*(t:Int)-d))=(y:Int):=Bg;refine Ab Ai FN.eq_1 ?_;simp[hk,e0,e1,e3,lo,hi];refine ZV [.sl false (JG (fun q=>(f q:Nat)) (2*M+3)),iv p,bv (decide (t=0)),bv (decide (t=d))] (hR.toB rfl) (by simp;exact⟨Wp hH,Ad rfl,Ad rfl,Ad rfl⟩) (by simp) ?_;simp[e4];refine LoopC.le (Ao [(0,Fc a),(1,Fc b),(2,iv M),(8,iv a.length),(9,iv b.length),(10,.osl [0] u 1 0 (2*M+3)),(11,iv d),(12,iv (2*(t:Int)-d)),(13,iv x),(14,iv y)] (by simp)) ?_;refine p5 ha hb (c:=M+1) (p:=p) (fun x y st hS hG hy=>?_) a.length x y (by omega) hS hy;have hbd:=TX hS hy;have hpl:p<2*M+3:=by omega
  have hpl':(p:Int)<2*(M:Int)+3:=by omega
  by_cases hdone:a.length≤x∧b.length≤y
  ·have he:=j7 hG hy hdone.1 hdone.2;simp[hk,e0,e1,e3,lo,hi,hH,hpl,hpl',hdone.1,hdone.2];exact hq2 _ (by omega)
  ·simp[hk,e0,e1,e2,hH,hpl,hpl'];refine⟨fun h1 h2=>absurd ⟨h1,h2⟩ hdone,fun _=>?_⟩;refine ih (t+1) (fun q=>if q=p then x else f q) _ (by omega) (fun q=>?_) (fun p' s hs hp'=>?_) (fun p' s hs hp'=>?_) ?_
   ·show(if q=p then x else f q)≤_;split
    ·omega
    ·exact hb0 q
   ·show NY a b (M+1) (d-1) p' (if p'=p then x else f p');rw[if_neg (by omega)];exact hold p' s hs hp'
   ·show NY a b (M+1) d p' (if p'=p then x else f p')∧¬ (a.length≤(if p'=p then x else f p')∧b.length+p'≤(if p'=p then x else f p')+(M+1));by_cases e:s=t
    ·have:p'=p:=by omega
     subst this;rw[if_pos rfl];exact⟨hG,fun h=>hdone ⟨h.1,by omega⟩⟩
    ·rw[if_neg (by omega)];exact hnew p' s (by omega) hp'
   ·simp only[Aa,if_true];congr 2;refine P5 fun q _=>?_;split<;>rfl
theorem qJ {a b:List Int} (ha:a.length≤1000000) (hb:b.length≤1000000) {M u:Nat} (hM:M≤a.length+b.length)
  (hq:∀ H st,M<CH a b→Q (.exit 0) ⟨lk st,H⟩) (hq2:∀ H,CH a b≤M→Q .ret ⟨lk [(6,iv (CH a b)),(7,bv true)],H⟩):∀ (m d:Nat) (f:Nat→Nat) (H:Hp),d+m=M+1→(∀ q,f q≤10000000)→d≤CH a b →
  (∀ p s,s<d→p+d=M+1+1+2*s→NY a b (M+1) (d-1) p (f p))→H [0]=⟨u,.arr 1 (JG (fun q=>(f q:Nat)) (2*M+3))⟩ →
  LoopC (cx Tryz.prog w0 I0 n0) FO Q ⟨lk [(0,Fc a),(1,Fc b),(2,iv M),(8,iv a.length),(9,iv b.length),(10,.osl [0] u 1 0 (2*M+3)),(11,iv d)],H⟩:=by
 intro m;induction m with
 |zero=>
  intro d f H hm hb0 hdd hold hH;have:d=M+1:=by omega
  subst this;refine Ab Ai FO.eq_1 ?_;have hk:¬ (((M+1:Nat):Int)≤M):=by omega
  simp only[Int.natCast_add,Int.cast_ofNat_Int] at hk;simp[hk];exact hq H _ (by omega)
 |succ m ih=>
  intro d f H hm hb0 hdd hold hH;have e1:=AW d;have e3:i64.wrap (-(d:Int)) = -(d:Int):=EJ;have hd:d≤M:=by omega
  refine Ab Ai FO.eq_1 ?_;simp[hd,e3];refine LoopC.le (Ao [(0,Fc a),(1,Fc b),(2,iv M),(8,iv a.length),(9,iv b.length),(10,.osl [0] u 1 0 (2*M+3)),(11,iv d),(12,iv (2*((0:Nat):Int)-d))] (by simp)) ?_;refine sf ha hb hM hd hdd (fun f' H' st g1 g2 g3 g4=>?_) (fun H' he=>?_) (d+1) 0 f H (by omega) hb0 hold (fun p s hs=>by omega) hH
  ·simp[e1];refine ih (d+1) f' H' (by omega) g1 (by omega) (fun p s hs hp=>?_) g4;exact g2 p s (by omega) (by omega)
  ·simp;have:=hq2 H' (by omega);rw[← he] at this;exact this
theorem iy {a b:List Int} (ha:a.length≤1000000) (hb:b.length≤1000000) {M0:Int} (hM0:BN M0):∃ d:Int,G.Spec Tryz.prog 156 [Fc a,Fc b,iv M0] (.tup [iv d,bv (decide ((CH a b:Int)≤M0))]):=by
 refine⟨if (CH a b:Int)≤M0 then CH a b else 0,?_⟩;refine Al SQ (by simp) fun w0 I0=>?_;have hdg:=VV a b;have hdl:CH a b≤a.length+b.length:=by unfold CH;omega
 have e1:i64.wrap ((a.length:Int)+b.length)=((a.length+b.length:Nat):Int):=Bg;have e2:i64.wrap ((a.length:Int)-b.length)=(a.length:Int)-b.length:=EJ;have e3:i64.wrap ((b.length:Int)-a.length)=(b.length:Int)-a.length:=EJ;obtain⟨M1,hM1⟩:∃ M1:Int,min (max M0 (-1)) ((a.length:Int)+b.length)=M1:=⟨_,rfl⟩;have hle:((CH a b:Int)≤M0) ↔ ((CH a b:Int)≤M1):=by omega
 have hMb:M1≤(a.length:Int)+b.length:=by omega
 unfold Ll;simp[e1,e2,e3,hM1];refine⟨fun h=>?_,fun h1 h2 h3=>?_⟩
 ·have hno:¬ (CH a b:Int)≤M0:=by omega
  simp[hno];exact Ad rfl
 ·obtain⟨M,rfl⟩:∃ M:Nat,M1=M:=⟨M1.toNat,by omega⟩;have e4:i64.wrap (2*(M:Int))=2*(M:Int):=EJ;have e5:i64.wrap (2*(M:Int)+3)=((2*M+3:Nat):Int):=Bg;have e6:(2*(M:Int)+3).toNat=2*M+3:=by omega
  rw[e4,e5];refine⟨by omega,?_⟩;refine LoopC.le (Ao [(0,Fc a),(1,Fc b),(2,iv M),(8,iv a.length),(9,iv b.length),(10,.osl [0] 1 1 0 (2*M+3)),(11,iv (0:Nat))] (by simp[e6])) ?_;refine qJ ha hb (by omega) (fun H st h=>?_) (fun H h=>?_) (M+1) 0 (fun _=>0) _ (by omega) (fun q=>by omega) (by omega) (fun p s hs=>by omega) (by simp[SM,e6])
  ·have hno:¬ (CH a b:Int)≤M0:=by omega
   simp[hno];exact Ad rfl
  ·have hyes:(CH a b:Int)≤M0:=by omega
   simp[hyes];exact Ad rfl
def Uq (s:Sp):List A:=[iv s.k,iv s.n]
def Mp (s:Sp):A:=.agg (Uq s)
@[simp] theorem yq {s:Sp}:(Mp s).cells=Uq s:=rfl
@[simp] theorem Afa {s:Sp}:(Uq s).length=2:=rfl
theorem dD {l:List Sp}:Dd 2 (l.map Mp)=true:=by rw[EX];simp
def qK (l:List Sp) (v:Nat):Fam:=⟨fun r p=>if p=[] then ⟨1,.cells [.osl (r::[0]) v 2 0 l.length]⟩ else if p=[0] then ⟨v,.arr 2 (l.map Mp)⟩ else ⟨0,.none⟩,fun {g δ r r'} hg hd p=>by
  by_cases h1:p=[]
  ·rw[if_pos h1,if_pos h1];refine Fam.cells_ren ?_;simp[A.renL,A.ren,hg,hd]
  ·rw[if_neg h1,if_neg h1];by_cases h2:p=[0]
   ·rw[if_pos h2];refine Fam.arr_ren ?_;have e:∀ x:Sp,(Mp x).ren g δ=Mp x:=fun x=>by simp[Mp,Uq,A.ren,A.renL]
    simp only[Co,List.map_map];refine List.map_congr_left fun x _=>?_;exact e x
   ·rw[if_neg h2];rfl,fun {D r} hD p=>by
  by_cases h1:p=[]
  ·rw[if_pos h1];simp[Ob.refs,A.refsL,A.refs,hD]
  ·rw[if_neg h1];by_cases h2:p=[0]
   ·rw[if_pos h2];simp only[Ob.refs,refsL_iff];intro y hy;obtain⟨x,_,rfl⟩:=List.mem_map.1 hy;simp[A.refs,A.refsL,Mp,Uq]
   ·rw[if_neg h2];trivial⟩
@[simp] theorem AhO {l:List Sp} {v r:Nat} {p:Nm}:(qK l v).F r p=if p=[] then ⟨1,.cells [.osl (r::[0]) v 2 0 l.length]⟩ else if p=[0] then ⟨v,.arr 2 (l.map Mp)⟩ else ⟨0,.none⟩:=rfl
abbrev yr (r:Nat):A:=.pob [r] 1 0
theorem Gd (l:List Sp) (v:Nat) (hl:l.length≤100000000) (k n:Nat):SpecF Tryz.prog 180 (fun r=>[yr r,iv k,iv n]) (qK l v) (fun _=>.tup []) (qK (l++fl k n) (v+(fl k n).length)):=by
 refine Aq P9 (by simp) (Ae Au (Ae AB (Ae AB Ah))) (A5 Ah) fun w0 I0 M0 m0=>?_;unfold JU;by_cases h:0<n
 ·rw[R4 h];simp[h,dD,Aa];refine⟨by omega,?_⟩;refine AU rfl rfl (fun p=>?_);by_cases h1:p=[]<;>by_cases h2:p=[0]<;>simp[h1,h2,Aa,Mp,Uq]
  rw[AX (by simp)]
 ·have h0:n=0:=by omega
  subst h0;simp;refine AU rfl rfl (fun p=>by simp)
def Nz (x:Int) (b:List Int):List Sp:=if De x b<b.length then fl 2 (De x b)++(fl 0 1++fl 2 (b.length-De x b-1)) else fl 1 1++fl 2 b.length
theorem aR (x:Int) (b:List Int):Bb (Nz x b)=FH [x] b:=by
 rw[SE];unfold Nz;split<;>simp
theorem HO (k n:Nat):(fl k n).length≤1:=by unfold fl;split<;>simp
theorem ow (x:Int) (b:List Int):(Nz x b).length≤3:=by
 unfold Nz;have:=HO 2 (De x b);have:=HO 0 1;have:=HO 1 1;have:=HO 2 (b.length-De x b-1);have:=HO 2 b.length;split<;>simp<;>omega
theorem rL {x:Int} {b:List Int} (hb:b.length≤1000000):∀ s,s ∈ Nz x b→s.ok:=by
 intro s hs;have:=Ow x b;unfold Nz at hs;split at hs<;>simp only[List.mem_append] at hs
 ·rcases hs with hs | hs | hs
  ·exact Sf (by omega) (by omega) s hs
  ·exact Sf (by omega) (by omega) s hs
  ·exact Sf (by omega) (by omega) s hs
 ·rcases hs with hs | hs
  ·exact Sf (by omega) (by omega) s hs
  ·exact Sf (by omega) (by omega) s hs
theorem Ye {x:Int}:∀ {b:List Int} {j:Nat},j≤De x b→(h:j<b.length)→(b[j]=x ↔ De x b=j)
 |[],j,_,h=>by simp at h
 |y::b,0,_,h=>by
  unfold De;by_cases e:x=y
  ·simp[e]
  ·simp[e];exact fun h=>e h.symm
 |y::b,j+1,hj,h=>by
  unfold De at hj ⊢;by_cases e:x=y
  ·rw[if_pos e] at hj;omega
  ·rw[if_neg e] at hj ⊢;have:=Ye (x:=x) (b:=b) (j:=j) (by omega) (by simpa using h);simp only[List.getElem_cons_succ];omega
section
variable {n0:Nat} {w0:World} {I0:Nat→Prop} {M0:Nm→Nat→Prop} {m0:Mu} {Q:Exit→Sta→Prop}
theorem uh {l:List Sp} {v:Nat} {x:Int} {b:List Int} {H:Hp} (hl:l.length≤10000000) (hb:b.length≤1000000) (hH:∀ p,H (0::p)=(qK l v).F 0 p)
  (hq:De x b=b.length→∀ st,Q (.exit 0) ⟨lk ([(0,yr 0),(1,iv x),(2,Fc b)]++st),H⟩)
  (hq2:∀ H',De x b<b.length→(∀ p,H' (0::p)=(qK (l++Nz x b) (v+(Nz x b).length)).F 0 p)→∀ st,Q .ret ⟨lk st,H'⟩):∀ (m j:Nat),j+m=b.length→j≤De x b →
  LoopC (DD Tryz.prog w0 I0 M0 n0 m0) Ex Q ⟨lk [(0,yr 0),(1,iv x),(2,Fc b),(8,Fc b),(9,iv b.length),(10,iv j)],H⟩:=by
 have hle:=Ow x b;intro m;induction m with
 |zero=>
  intro j hm hj;refine Ab Ai Ex.eq_1 ?_;have:j=b.length:=by omega
  subst this;simp;exact hq (by omega) [(8,Fc b),(9,iv b.length),(10,iv b.length),(11,bv false)]
 |succ m ih=>
  intro j hm hj;have hlt:j<b.length:=by omega
  have e1:=AW j;have hd:=Ye hj hlt;refine Ab Ai Ex.eq_1 ?_;by_cases h:x=b[j]
  ·have hf:=hd.1 h.symm;have e2:i64.wrap (i64.wrap ((b.length:Int)-j)-1)=((b.length-j-1:Nat):Int):=by rw[Bf (n:=(b.length:Int)-j) (by omega) (by omega),Bf (by omega) (by omega)];omega
   have A1:=Gd l v (by omega) 2 j;have l1:=HO 2 j;have l2:=HO 0 1;have A2:=Gd (l++fl 2 j) (v+(fl 2 j).length) (by simp;omega) 0 1;have A3:=Gd (l++fl 2 j++fl 0 1) (v+(fl 2 j).length+(fl 0 1).length) (by simp;omega) 2 (b.length-j-1);simp[hlt,h];refine Ar 0 A1 hH (by simp) (by simp) ?_;simp;refine Ar 0 A2 (fun p=>by simp) (by simp) (by simp) ?_;simp[e2];refine Ar 0 A3 (fun p=>by simp) (by simp) (by simp) ?_;simp;refine hq2 _ (by omega) (fun p=>?_) _;have eo:Nz x b=fl 2 j++(fl 0 1++fl 2 (b.length-j-1)):=by unfold Nz;rw[if_pos (by omega),hf]
   rw[eo];simp[Nat.add_assoc]
  ·have hne:¬ De x b=j:=fun e=>h (hd.2 e).symm;simp[hlt,h,e1];exact ih (j+1) (by omega) (by omega)
end
theorem nE (l:List Sp) (v:Nat) (hl:l.length≤10000000) (x:Int) (b:List Int) (hb:b.length≤1000000):SpecF Tryz.prog 181 (fun r=>[yr r,iv x,Fc b]) (qK l v) (fun _=>.tup []) (qK (l++Nz x b) (v+(Nz x b).length)):=by
 refine Aq Qi (by simp) (Ae Au (Ae AB (Ae Ba Ah))) (A5 Ah) fun w0 I0 M0 m0=>?_;unfold JX;simp;refine LoopC.le (Ao [(0,yr 0),(1,iv x),(2,Fc b),(8,Fc b),(9,iv b.length),(10,iv (0:Nat))] (by simp)) ?_;refine uh (l:=l) (v:=v) hl hb (fun p=>by simp) (fun hn st=>?_) (fun H' hf hH st=>?_) b.length 0 (by omega) (by omega)
 ·have A1:=Gd l v (by omega) 1 1;have l1:=HO 1 1;have A2:=Gd (l++fl 1 1) (v+(fl 1 1).length) (by simp;omega) 2 b.length;simp;refine Ar 0 A1 (fun p=>by simp) (by simp) (by simp) ?_;simp;refine Ar 0 A2 (fun p=>by simp) (by simp) (by simp) ?_;simp;have eo:Nz x b=fl 1 1++fl 2 b.length:=by unfold Nz;rw[if_neg (by omega)]
  rw[eo];refine AU rfl rfl (fun p=>by simp[Nat.add_assoc])
 ·simp;exact Ax rfl rfl hH
theorem fJ {P:Sp→Prop} {l m:List Sp} (h1:∀ s,s ∈ l→P s) (h2:∀ s,s ∈ m→P s):∀ s,s ∈ l++m→P s:=fun s hs=>(List.mem_append.1 hs).elim (h1 s) (h2 s)
theorem lC:∀ (n:Nat) (a b:List Int),a.length≤n→a.length≤1000000→b.length≤1000000→∃ sts:List Sp,Bb sts=FH a b∧(∀ s,s ∈ sts→s.ok)∧sts.length≤max 1 (3*a.length) ∧
  ∀ (l:List Sp) (v:Nat),l.length+3*a.length≤9000000→SpecF Tryz.prog 157 (fun r=>[yr r,Fc a,Fc b]) (qK l v) (fun _=>.tup []) (qK (l++sts) (v+sts.length)):=by
 intro n;induction n with
 |zero=>
  intro a b hn ha hb;have:=List.eq_nil_of_length_eq_zero (by omega:a.length=0);subst this;refine⟨fl 2 b.length,by rw[ZU];simp,Sf (by omega) (by omega),by have:=HO 2 b.length;simp;omega,fun l v hl=>?_⟩;have A1:=Gd l v (by simp at hl;omega) 1 0;have A2:=Gd (l++fl 1 0) (v+(fl 1 0).length) (by simp at hl;simp;omega) 2 b.length;refine Aq ED (by simp) (Ae Au (Ae Ba (Ae Ba Ah))) (A5 Ah) fun w0 I0 M0 m0=>?_;unfold Du;simp;refine Ar 0 A1 (fun p=>by simp) (by simp) (by simp) ?_;simp;refine Ar 0 A2 (fun p=>by simp) (by simp) (by simp) ?_;simp;refine AU rfl rfl (fun p=>by simp)
 |succ n ih=>
  intro a b hn ha hb;by_cases hb0:b=[]
  ·subst hb0;refine⟨fl 1 a.length,by rw[iJ];simp,Sf (by omega) (by omega),by have:=HO 1 a.length;omega,fun l v hl=>?_⟩;have:=HO 1 a.length;have A1:=Gd l v (by omega) 1 a.length;have A2:=Gd (l++fl 1 a.length) (v+(fl 1 a.length).length) (by simp;omega) 2 0;refine Aq ED (by simp) (Ae Au (Ae Ba (Ae Ba Ah))) (A5 Ah) fun w0 I0 M0 m0=>?_;unfold Du;simp;refine Ar 0 A1 (fun p=>by simp) (by simp) (by simp) ?_;simp;refine Ar 0 A2 (fun p=>by simp) (by simp) (by simp) ?_;simp;refine AU rfl rfl (fun p=>by simp)
  have hbl:0<b.length:=List.length_pos_iff.2 hb0
  match a,hn,ha with
  |[],hn,ha=>
   obtain⟨sts,h⟩:=ih [] b (by simp) ha hb;exact⟨sts,h⟩
  |[x],hn,ha=>
   refine⟨Nz x b,aR x b,rL hb,by have:=ow x b;simp;omega,fun l v hl=>?_⟩;have A1:=nE l v (by simp at hl;omega) x b hb;refine Aq ED (by simp) (Ae Au (Ae Ba (Ae Ba Ah))) (A5 Ah) fun w0 I0 M0 m0=>?_;unfold Du;simp[hb0];refine Ar 0 A1 (fun p=>by simp) (by simp) (by simp) ?_;simp;refine AU rfl rfl (fun p=>by simp)
  |x::y::a',hn,ha=>
   have e0:∃ a:List Int,a=x::y::a':=⟨_,rfl⟩;obtain⟨a,ea⟩:=e0;rw[← ea] at hn ha ⊢;have hal:2≤a.length:=by rw[ea];simp
   clear ea;obtain⟨h,eh⟩:∃ h,a.length / 2=h:=⟨_,rfl⟩;have hh:h≤a.length:=by omega
   obtain⟨w1,w2,w3⟩:=G8 (a:=a) (b:=b) hh;obtain⟨s1,u1,o1,n1,F1⟩:=ih (a.take h) (b.take (Cp a b h)) (by simp;omega) (by simp;omega) (by simp;omega);obtain⟨s2,u2,o2,n2,F2⟩:=ih (a.drop h) (b.drop (Cp a b h)) (by simp;omega) (by simp;omega) (by simp;omega);simp at n1 n2;refine⟨s1++s2,by rw[Il,u1,u2,← VN a b hh],fJ o1 o2,by simp;omega,fun l v hl=>?_⟩;have G1:=F1 l v (by simp;omega);have G2:=F2 (l++s1) (v+s1.length) (by simp;omega);have hS:=cC (a:=a) (b:=b) hh ha hb;refine Aq ED (by simp) (Ae Au (Ae Ba (Ae Ba Ah))) (A5 Ah) fun w0 I0 M0 m0=>?_;have c1:¬ a=[]:=fun e=>by rw[e] at hal;simp at hal
   have c2:¬ a.length=1:=by omega
   have c3:¬ (a.length:Int)=1:=by omega
   have c4:((a.length:Int)).tdiv 2=(h:Int):=by rw[Int.tdiv_eq_ediv_of_nonneg (by omega)];omega
   have c5:i64.wrap (h:Int)=(h:Int):=EJ;unfold Du;simp[hb0,c1,c2,c3,c4,c5];refine Af hS (by simp) ?_;simp[hh,w2];refine Ar 0 G1 (fun p=>by simp) (by simp) (by simp) ?_;simp[hh,w2];refine Ar 0 G2 (fun p=>by simp) (by simp[AX]) (by simp) ?_;simp;refine AU rfl rfl (fun p=>by simp[Nat.add_assoc])
end Go.Proofs.YtndnlknocdangaaGreat
