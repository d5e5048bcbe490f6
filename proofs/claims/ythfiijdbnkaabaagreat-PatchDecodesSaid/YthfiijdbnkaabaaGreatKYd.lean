/-
  Texts, merged, without what is not reached.
-/
import Derived.Test.YthfiijdbnkaabaaGreatKYc
namespace Go.Proofs.YthfiijdbnkaabaaGreat
set_option linter.unusedVariables false
set_option linter.unusedSimpArgs false
set_option maxRecDepth 20000
open Go Go.G Go.Proofs
@[simp] theorem und_26 : Tryz.prog.underlying 26 = some (.slice 63) := by kernel_rfl
@[simp] theorem und_27 : Tryz.prog.underlying 27 = some (.slice 66) := by kernel_rfl
@[simp] theorem und_28 : Tryz.prog.underlying 28 = some (.slice 69) := by kernel_rfl
@[simp] theorem szT_26 : szT Tryz.prog 26 = some 1 := by kernel_rfl
@[simp] theorem szT_27 : szT Tryz.prog 27 = some 1 := by kernel_rfl
@[simp] theorem szT_28 : szT Tryz.prog 28 = some 1 := by kernel_rfl
@[simp] theorem szT_30 : szT Tryz.prog 30 = some 11 := by kernel_rfl
@[simp] theorem szT_63 : szT Tryz.prog 63 = some 4 := by kernel_rfl
@[simp] theorem szT_66 : szT Tryz.prog 66 = some 12 := by kernel_rfl
@[simp] theorem szT_69 : szT Tryz.prog 69 = some 14 := by kernel_rfl
@[simp] theorem aggT_26 : aggT Tryz.prog 26 = some false := by kernel_rfl
@[simp] theorem aggT_27 : aggT Tryz.prog 27 = some false := by kernel_rfl
@[simp] theorem aggT_28 : aggT Tryz.prog 28 = some false := by kernel_rfl
@[simp] theorem aggT_30 : aggT Tryz.prog 30 = some true := by kernel_rfl
@[simp] theorem aggT_63 : aggT Tryz.prog 63 = some true := by kernel_rfl
@[simp] theorem aggT_66 : aggT Tryz.prog 66 = some true := by kernel_rfl
@[simp] theorem aggT_69 : aggT Tryz.prog 69 = some true := by kernel_rfl
@[simp] theorem zeroT_63 : zeroT Tryz.prog 63 = some (Value.agg #[Value.int IntKind.i64 0,Value.int IntKind.u8 0,Value.int IntKind.u64 0,Value.int IntKind.u64 0]) := by kernel_rfl
@[simp] theorem zeroT_66 : zeroT Tryz.prog 66 = some (Value.agg #[Value.int IntKind.i64 0,Value.int IntKind.i64 0,Value.int IntKind.i64 0,Value.slice none 0 0,Value.slice none 0 0,Value.int IntKind.i64 0,Value.slice none 0 0,Value.slice none 0 0,Value.slice none 0 0,Value.slice none 0 0,Value.int IntKind.i64 0,Value.slice none 0 0]) := by kernel_rfl
@[simp] theorem zeroT_69 : zeroT Tryz.prog 69 = some (Value.agg #[Value.int IntKind.i64 0,Value.int IntKind.i64 0,Value.slice none 0 0,Value.int IntKind.i64 0,Value.int IntKind.i64 0,Value.slice none 0 0,Value.slice none 0 0,Value.int IntKind.i64 0,Value.slice none 0 0,Value.slice none 0 0,Value.slice none 0 0,Value.slice none 0 0,Value.int IntKind.i64 0,Value.slice none 0 0]) := by kernel_rfl
@[simp] theorem bytesT_63 : bytesT Tryz.prog 63 = some 32 := by kernel_rfl
@[simp] theorem bytesT_66 : bytesT Tryz.prog 66 = some 208 := by kernel_rfl
@[simp] theorem bytesT_69 : bytesT Tryz.prog 69 = some 240 := by kernel_rfl
@[simp] theorem fieldOffT_30_0 : fieldOffT Tryz.prog 30 0 = some 0 := by kernel_rfl
@[simp] theorem fieldOffT_30_1 : fieldOffT Tryz.prog 30 1 = some 1 := by kernel_rfl
@[simp] theorem fieldOffT_30_2 : fieldOffT Tryz.prog 30 2 = some 4 := by kernel_rfl
@[simp] theorem fieldOffT_30_3 : fieldOffT Tryz.prog 30 3 = some 7 := by kernel_rfl
@[simp] theorem fieldOffT_30_4 : fieldOffT Tryz.prog 30 4 = some 8 := by kernel_rfl
@[simp] theorem fieldOffT_30_5 : fieldOffT Tryz.prog 30 5 = some 9 := by kernel_rfl
@[simp] theorem fieldOffT_30_6 : fieldOffT Tryz.prog 30 6 = some 10 := by kernel_rfl
@[simp] theorem fieldOffT_63_0 : fieldOffT Tryz.prog 63 0 = some 0 := by kernel_rfl
@[simp] theorem fieldOffT_63_1 : fieldOffT Tryz.prog 63 1 = some 1 := by kernel_rfl
@[simp] theorem fieldOffT_63_2 : fieldOffT Tryz.prog 63 2 = some 2 := by kernel_rfl
@[simp] theorem fieldOffT_63_3 : fieldOffT Tryz.prog 63 3 = some 3 := by kernel_rfl
@[simp] theorem fieldOffT_66_0 : fieldOffT Tryz.prog 66 0 = some 0 := by kernel_rfl
@[simp] theorem fieldOffT_66_1 : fieldOffT Tryz.prog 66 1 = some 1 := by kernel_rfl
@[simp] theorem fieldOffT_69_0 : fieldOffT Tryz.prog 69 0 = some 0 := by kernel_rfl
@[simp] theorem fieldOffT_69_1 : fieldOffT Tryz.prog 69 1 = some 1 := by kernel_rfl
@[simp] theorem fieldOffT_69_2 : fieldOffT Tryz.prog 69 2 = some 2 := by kernel_rfl
@[simp] theorem fieldOffT_69_3 : fieldOffT Tryz.prog 69 3 = some 3 := by kernel_rfl
@[simp] theorem buildA_30 (ps : List (Nat × A)) : buildA Tryz.prog 30 ps = (fillA (fun i => ([(0,1),(1,3),(4,3),(7,1),(8,1),(9,1),(10,1)] : List (Nat × Nat))[i]?) [A.v (Value.int IntKind.i64 0),A.v (Value.int IntKind.i64 0),A.sl true [],A.sl true [],A.v (Value.int IntKind.i64 0),A.sl true [],A.sl true [],A.sl true [],A.sl true [],A.v (Value.int IntKind.i64 0),A.sl true []] ps).map A.agg := by kernel_rfl
def c_centoref20_none : CC := sR [oN 1 (.box 25 (xT 0)) [0],oO 2 (.assign (nB false))] [1] (sR [fO 3 25 1 0,lO 4 3 3,oO 5 (.binOp .eql 3 (xT 4) (nI 0) 3),mO 6 5,oG 7 (fA 25 1 1) 6 true,oG 8 (lD 22 7) 6 true,oG 9 (bL 8 22) 6 true,oG 10 (fA 25 1 2) 6 true,oG 11 (lD 23 10) 6 true,oG 12 (bL 11 23) 6 true,oG 13 (bO .add 3 9 12 3) 6 true,oG 14 (.binOp .eql 3 (xT 13) (nI 0) 3) 6 true,oO 15 (.pick (xT 6) (xT 14) (nB false)),aO 2 15] [2] (.ret))
theorem t_centoref20_none : Txt Tryz.prog 49 16 [(.tmp 2)] c_centoref20_none := txt_of (code := Tryz.f49.body.getD .ret) mixed (by kernel_rfl) Tryz.func49 (by kernel_rfl) Tryz.ntmps49 (by kernel_rfl) (ls := lsOf c_centoref20_none) (by kernel_rfl)
def c_centoref20_within : CC := sR [oO 4 (.assign (nB false))] [0,1] (sR [mO 5 0,mO 6 1,oO 7 (cL 78 #[(xT 5),(.const (.int .u64 0)),(xT 6)] #[60,60,5]),oO 8 (.binOp .eql 60 (xT 7) (.const (.int .u64 0)) 60),aO 4 8] [4] (.ret))
theorem t_centoref20_within : Txt Tryz.prog 50 9 [(.tmp 4)] c_centoref20_within := txt_of (code := Tryz.f50.body.getD .ret) mixed (by kernel_rfl) Tryz.func50 (by kernel_rfl) Tryz.ntmps50 (by kernel_rfl) (ls := lsOf c_centoref20_within) (by kernel_rfl)
def c_centoref20_same : CC := sR [oN 1 (.box 30 (xT 0)) [0],oO 2 (.assign (nB false))] [1] (sR [fO 3 30 1 0,lO 4 3 3,oO 5 (.binOp .eql 3 (xT 4) (nI 0) 3),mO 6 5,oG 7 (fA 30 1 1) 6 true,oG 8 (lD 25 7) 6 true,oG 9 (cL 49 #[(xT 8)] #[25]) 6 true,oO 10 (.pick (xT 6) (xT 9) (nB false)),mO 11 10,oG 12 (fA 30 1 2) 11 true,oG 13 (lD 25 12) 11 true,oG 14 (cL 49 #[(xT 13)] #[25]) 11 true,oO 15 (.pick (xT 11) (xT 14) (nB false)),mO 16 15,oG 17 (fA 30 1 3) 16 true,oG 18 (lD 26 17) 16 true,oG 19 (bL 18 26) 16 true,oG 20 (fA 30 1 4) 16 true,oG 21 (lD 27 20) 16 true,oG 22 (bL 21 27) 16 true,oG 23 (bO .add 3 19 22 3) 16 true,oG 24 (fA 30 1 6) 16 true,oG 25 (lD 28 24) 16 true,oG 26 (bL 25 28) 16 true,oG 27 (bO .add 3 23 26 3) 16 true,oG 28 (.binOp .eql 3 (xT 27) (nI 0) 3) 16 true,oO 29 (.pick (xT 16) (xT 28) (nB false)),mO 30 29,oG 31 (fA 30 1 5) 30 true,oG 32 (lD 3 31) 30 true,oG 33 (.binOp .eql 3 (xT 32) (nI 0) 3) 30 true,oO 34 (.pick (xT 30) (xT 33) (nB false)),aO 2 34] [2] (.ret))
theorem t_centoref20_same : Txt Tryz.prog 79 35 [(.tmp 2)] c_centoref20_same := txt_of (code := Tryz.f79.body.getD .ret) mixed (by kernel_rfl) Tryz.func79 (by kernel_rfl) Tryz.ntmps79 (by kernel_rfl) (ls := lsOf c_centoref20_same) (by kernel_rfl)
def l1_centoref20_op : CC := .seq (sR [mO 46 7,fO 47 69 4 2,lO 48 23 47,oO 49 (bL 48 23),oO 50 (bO .lss 3 46 49 3)] [0,4,7,50] (cD 50 (.skip) (.exit 0))) (.keep [0,4,7] (.seq (.block 1 (sR [mO 53 0,fO 54 69 4 2,lO 55 23 54,mO 56 7,mO 57 7,oO 58 (.binOp .add 3 (xT 57) (nI 1) 3),oO 59 (.slice 23 (xT 55) (some (xT 56)) (some (xT 58)) none),oO 60 (.build 25 #[(0,(xT 53)),(2,(xT 59))]),oO 61 (cL 17 #[(xT 60),(nI 64)] #[25,3]),oO 62 (.unOp .not 4 (xT 61))] [0,4,7,62] (cD 62 (sR [oO 6 (.assign (nB false))] [6] (.ret)) (.skip)))) (.keep [0,4,7] (.reg [mO 51 7,oO 52 (.binOp .add 3 (xT 51) (nI 1) 3),aO 7 52] [0,4,7])))) 
def c_centoref20_op : CC := sR [oN 4 (.box 69 (xT 1)) [0],oO 6 (.assign (nB false))] [0,2,4] (.seq (sR [fO 8 69 4 0,lO 9 3 8,oO 10 (.binOp .eql 3 (xT 9) (nI 0) 3)] [0,2,4,10] (cD 10 (sR [fO 11 69 4 1,lO 12 3 11,oO 13 (.binOp .geq 3 (xT 12) (nI 1) 3),mO 14 13,oG 15 (fA 69 4 1) 14 true,oG 16 (lD 3 15) 14 true,oG 17 (.binOp .leq 3 (xT 16) (nI 1048576) 3) 14 true,oO 18 (.pick (xT 14) (xT 17) (nB false)),mO 19 18,oG 20 (fA 69 4 2) 19 true,oG 21 (lD 23 20) 19 true,oG 22 (bL 21 23) 19 true,oG 23 (.binOp .eql 3 (xT 22) (nI 0) 3) 19 true,oO 24 (.pick (xT 19) (xT 23) (nB false)),mO 25 24,oG 26 (fA 69 4 3) 25 true,oG 27 (lD 30 26) 25 true,oG 28 (cL 79 #[(xT 27)] #[30]) 25 true,oO 29 (.pick (xT 25) (xT 28) (nB false)),aO 6 29] [6] (.ret)) (.skip))) (.keep [0,2,4] (.seq (sR [fO 30 69 4 1,lO 31 3 30,oO 32 (.binOp .neq 3 (xT 31) (nI 0) 3),mO 33 32,oG 34 (fA 69 4 0) 33 false,oG 35 (lD 3 34) 33 false,oG 36 (.binOp .lss 3 (xT 35) (nI 0) 3) 33 false,oO 37 (.pick (xT 33) (nB true) (xT 36)),mO 38 37,oG 39 (fA 69 4 0) 38 false,oG 40 (lD 3 39) 38 false,oG 41 (.binOp .gtr 3 (xT 40) (nI 3) 3) 38 false,oO 42 (.pick (xT 38) (nB true) (xT 41))] [0,2,4,42] (cD 42 (sR [oO 6 (.assign (nB false))] [6] (.ret)) (.skip))) (.keep [0,2,4] (.seq (sR [fO 43 69 4 0,lO 44 3 43,oO 45 (.binOp .lss 3 (xT 44) (nI 3) 3)] [0,2,4,45] (cD 45 (.seq (sR [oO 7 (.assign (nI 0))] [0,4,7] (.block 0 (.loop l1_centoref20_op))) (.keep [4] (sR [fO 63 69 4 2,lO 64 23 63,oO 65 (bL 64 23),oO 66 (.binOp .gtr 3 (xT 65) (nI 0) 3),mO 67 66,oG 68 (fA 69 4 3) 67 true,oG 69 (lD 30 68) 67 true,oG 70 (cL 79 #[(xT 69)] #[30]) 67 true,oO 71 (.pick (xT 67) (xT 70) (nB false)),aO 6 71] [6] (.ret)))) (.skip))) (.keep [0,2,4] (.seq (sR [fO 72 69 4 2,lO 73 23 72,oO 74 (bL 73 23),oO 75 (.binOp .gtr 3 (xT 74) (nI 0) 3),mO 76 75,oG 77 (fA 69 4 3) 76 false,oG 78 (fA 30 77 0) 76 false,oG 79 (lD 3 78) 76 false,oG 80 (.binOp .eql 3 (xT 79) (nI 0) 3) 76 false,oO 81 (.pick (xT 76) (nB true) (xT 80)),mO 82 81,oG 83 (mV 0) 82 false,oG 84 (.binOp .leq 3 (xT 83) (nI 7) 3) 82 false,oO 85 (.pick (xT 82) (nB true) (xT 84)),mO 86 85,oG 87 (fA 69 4 3) 86 false,oG 88 (lD 30 87) 86 false,oG 89 (mV 2) 86 false,oG 90 (cL 23 #[(xT 88),(xT 89)] #[30,3]) 86 false,oG 91 (.unOp .not 4 (xT 90)) 86 false,oO 92 (.pick (xT 86) (nB true) (xT 91))] [0,4,92] (cD 92 (sR [oO 6 (.assign (nB false))] [6] (.ret)) (.skip))) (.keep [0,4] (sR [mO 93 0,oO 94 (.binOp .eql 3 (xT 93) (nI 8) 3),mO 95 94,oG 96 (fA 69 4 3) 95 false,oG 97 (fA 30 96 0) 95 false,oG 98 (lD 3 97) 95 false,oG 99 (.binOp .eql 3 (xT 98) (nI 2) 3) 95 false,oO 100 (.pick (xT 95) (nB true) (xT 99)),mO 101 100,oG 102 (fA 69 4 3) 101 false,oG 103 (fA 30 102 0) 101 false,oG 104 (lD 3 103) 101 false,oG 105 (.binOp .eql 3 (xT 104) (nI 1) 3) 101 false,oG 106 (mV 105) 101 false,oG 107 (fA 69 4 3) 106 true,oG 108 (fA 30 107 1) 106 true,oG 109 (fA 25 108 0) 106 true,oG 110 (lD 3 109) 106 true,oG 111 (.binOp .eql 3 (xT 110) (nI 1) 3) 106 true,oG 112 (.pick (xT 106) (xT 111) (nB false)) 101 false,oG 113 (mV 112) 101 false,oG 114 (fA 69 4 3) 113 true,oG 115 (fA 30 114 2) 113 true,oG 116 (fA 25 115 0) 113 true,oG 117 (lD 3 116) 113 true,oG 118 (.binOp .eql 3 (xT 117) (nI 1) 3) 113 true,oG 119 (.pick (xT 113) (xT 118) (nB false)) 101 false,oO 120 (.pick (xT 101) (nB true) (xT 119)),aO 6 120] [6] (.ret))))))))))
theorem t_centoref20_op : Txt Tryz.prog 51 121 [(.tmp 6)] c_centoref20_op := txt_of (code := Tryz.f51.body.getD .ret) mixed (by kernel_rfl) Tryz.func51 (by kernel_rfl) Tryz.ntmps51 (by kernel_rfl) (ls := lsOf c_centoref20_op) (by kernel_rfl)
def l1_centoref20_Right : CC := .seq (sR [mO 93 6,fO 94 30 2 3,lO 95 26 94,oO 96 (bL 95 26),oO 97 (bO .lss 3 93 96 3)] [1,2,5,6,97] (cD 97 (.skip) (.exit 0))) (.keep [1,2,5,6] (.seq (.block 1 (sR [fO 100 30 2 3,lO 101 26 100,mO 102 6,oO 103 (iA 26 101 102),lO 104 63 103,oN 7 (.alloc 63) [1],oS (.store 63 (xT 7) (xT 104))] [1,2,5,6,7] (.seq (sR [fO 105 63 7 0,lO 106 3 105,mO 107 5,oO 108 (bO .leq 3 106 107 3),mO 109 108,oG 110 (fA 63 7 0) 109 false,oG 111 (lD 3 110) 109 false,oG 112 (.binOp .gtr 3 (xT 111) (nI 65534) 3) 109 false,oO 113 (.pick (xT 109) (nB true) (xT 112)),mO 114 113,oG 115 (fA 63 7 1) 114 false,oG 116 (lD 5 115) 114 false,oG 117 (.binOp .eql 5 (xT 116) (.const (.int .u8 0)) 5) 114 false,oO 118 (.pick (xT 114) (nB true) (xT 117)),mO 119 118,oG 120 (fA 63 7 2) 119 false,oG 121 (lD 60 120) 119 false,oG 122 (fA 63 7 1) 119 false,oG 123 (lD 5 122) 119 false,oG 124 (cL 50 #[(xT 121),(xT 123)] #[60,5]) 119 false,oG 125 (.unOp .not 4 (xT 124)) 119 false,oO 126 (.pick (xT 119) (nB true) (xT 125)),mO 127 126,oG 128 (fA 63 7 3) 127 false,oG 129 (lD 60 128) 127 false,oG 130 (fA 63 7 1) 127 false,oG 131 (lD 5 130) 127 false,oG 132 (cL 50 #[(xT 129),(xT 131)] #[60,5]) 127 false,oG 133 (.unOp .not 4 (xT 132)) 127 false,oO 134 (.pick (xT 127) (nB true) (xT 133))] [1,2,6,7,134] (cD 134 (sR [oO 4 (.assign (nB false))] [4] (.ret)) (.skip))) (.keep [1,2,6,7] (.reg [fO 135 63 7 0,lO 136 3 135,aO 5 136] [1,2,5,6]))))) (.keep [1,2,5,6] (.reg [mO 98 6,oO 99 (.binOp .add 3 (xT 98) (nI 1) 3),aO 6 99] [1,2,5,6]))))
def l2_centoref20_Right : CC := .seq (sR [mO 137 8,fO 138 30 2 4,lO 139 27 138,oO 140 (bL 139 27),oO 141 (bO .lss 3 137 140 3)] [1,2,5,8,141] (cD 141 (.skip) (.exit 2))) (.keep [1,2,5,8] (.seq (.block 3 (sR [fO 144 30 2 4,lO 145 27 144,mO 146 8,oO 147 (iA 27 145 146),lO 148 66 147,oN 9 (.alloc 66) [2],oS (.store 66 (xT 9) (xT 148))] [1,2,5,8,9] (.seq (sR [fO 149 66 9 0,lO 150 3 149,mO 151 5,oO 152 (bO .leq 3 150 151 3),mO 153 152,oG 154 (fA 66 9 0) 153 false,oG 155 (lD 3 154) 153 false,oG 156 (.binOp .gtr 3 (xT 155) (nI 65534) 3) 153 false,oO 157 (.pick (xT 153) (nB true) (xT 156)),mO 158 157,oG 159 (fA 66 9 1) 158 false,oG 160 (fA 30 159 0) 158 false,oG 161 (lD 3 160) 158 false,oG 162 (.binOp .eql 3 (xT 161) (nI 0) 3) 158 false,oO 163 (.pick (xT 158) (nB true) (xT 162)),mO 164 163,oG 165 (fA 66 9 1) 164 false,oG 166 (lD 30 165) 164 false,oG 167 (mV 1) 164 false,oG 168 (.binOp .sub 3 (xT 167) (nI 1) 3) 164 false,oG 169 (cL 23 #[(xT 166),(xT 168)] #[30,3]) 164 false,oG 170 (.unOp .not 4 (xT 169)) 164 false,oO 171 (.pick (xT 164) (nB true) (xT 170))] [1,2,8,9,171] (cD 171 (sR [oO 4 (.assign (nB false))] [4] (.ret)) (.skip))) (.keep [1,2,8,9] (.reg [fO 172 66 9 0,lO 173 3 172,aO 5 173] [1,2,5,8]))))) (.keep [1,2,5,8] (.reg [mO 142 8,oO 143 (.binOp .add 3 (xT 142) (nI 1) 3),aO 8 143] [1,2,5,8]))))
def l3_centoref20_Right : CC := .seq (sR [mO 187 10,fO 188 30 2 6,lO 189 28 188,oO 190 (bL 189 28),oO 191 (bO .lss 3 187 190 3)] [1,2,10,191] (cD 191 (.skip) (.exit 4))) (.keep [1,2,10] (.seq (.block 5 (sR [fO 194 30 2 5,lO 195 3 194,fO 196 30 2 6,lO 197 28 196,mO 198 10,oO 199 (iA 28 197 198),lO 200 69 199,mO 201 1,oO 202 (.binOp .sub 3 (xT 201) (nI 1) 3),oO 203 (cL 51 #[(xT 195),(xT 200),(xT 202)] #[3,69,3]),oO 204 (.unOp .not 4 (xT 203))] [1,2,10,204] (cD 204 (sR [oO 4 (.assign (nB false))] [4] (.ret)) (.skip)))) (.keep [1,2,10] (.reg [mO 192 10,oO 193 (.binOp .add 3 (xT 192) (nI 1) 3),aO 10 193] [1,2,10])))) 
def c_centoref20_Right : CC := sR [oN 2 (.box 30 (xT 0)) [0],oO 4 (.assign (nB false))] [1,2] (.seq (sR [mO 13 1,oO 14 (.binOp .eql 3 (xT 13) (nI 0) 3),mO 15 14,oG 16 (fA 30 2 0) 15 false,oG 17 (lD 3 16) 15 false,oG 18 (.binOp .lss 3 (xT 17) (nI 0) 3) 15 false,oO 19 (.pick (xT 15) (nB true) (xT 18)),mO 20 19,oG 21 (fA 30 2 0) 20 false,oG 22 (lD 3 21) 20 false,oG 23 (.binOp .gtr 3 (xT 22) (nI 3) 3) 20 false,oO 24 (.pick (xT 20) (nB true) (xT 23))] [1,2,24] (cD 24 (sR [oO 4 (.assign (nB false))] [4] (.ret)) (.skip))) (.keep [1,2] (.seq (sR [fO 25 30 2 0,lO 26 3 25,oO 27 (.binOp .neq 3 (xT 26) (nI 1) 3),mO 28 27,oG 29 (fA 30 2 1) 28 true,oG 30 (lD 25 29) 28 true,oG 31 (cL 49 #[(xT 30)] #[25]) 28 true,oG 32 (mV 31) 28 true,oG 33 (fA 30 2 2) 32 true,oG 34 (lD 25 33) 32 true,oG 35 (cL 49 #[(xT 34)] #[25]) 32 true,oG 36 (.pick (xT 32) (xT 35) (nB false)) 28 true,oG 37 (.unOp .not 4 (xT 36)) 28 true,oO 38 (.pick (xT 28) (xT 37) (nB false)),mO 39 38,oG 40 (fA 30 2 0) 39 false,oG 41 (lD 3 40) 39 false,oG 42 (.binOp .neq 3 (xT 41) (nI 2) 3) 39 false,oG 43 (mV 42) 39 false,oG 44 (fA 30 2 3) 43 true,oG 45 (lD 26 44) 43 true,oG 46 (bL 45 26) 43 true,oG 47 (fA 30 2 4) 43 true,oG 48 (lD 27 47) 43 true,oG 49 (bL 48 27) 43 true,oG 50 (bO .add 3 46 49 3) 43 true,oG 51 (.binOp .gtr 3 (xT 50) (nI 0) 3) 43 true,oG 52 (.pick (xT 43) (xT 51) (nB false)) 39 false,oO 53 (.pick (xT 39) (nB true) (xT 52)),mO 54 53,oG 55 (fA 30 2 0) 54 false,oG 56 (lD 3 55) 54 false,oG 57 (.binOp .neq 3 (xT 56) (nI 3) 3) 54 false,oG 58 (mV 57) 54 false,oG 59 (fA 30 2 5) 58 true,oG 60 (lD 3 59) 58 true,oG 61 (.binOp .neq 3 (xT 60) (nI 0) 3) 58 true,oG 62 (mV 61) 58 true,oG 63 (fA 30 2 6) 62 false,oG 64 (lD 28 63) 62 false,oG 65 (bL 64 28) 62 false,oG 66 (.binOp .gtr 3 (xT 65) (nI 0) 3) 62 false,oG 67 (.pick (xT 62) (nB true) (xT 66)) 58 true,oG 68 (.pick (xT 58) (xT 67) (nB false)) 54 false,oO 69 (.pick (xT 54) (nB true) (xT 68))] [1,2,69] (cD 69 (sR [oO 4 (.assign (nB false))] [4] (.ret)) (.skip))) (.keep [1,2] (.seq (sR [fO 70 30 2 0,lO 71 3 70,oO 72 (.binOp .eql 3 (xT 71) (nI 1) 3)] [1,2,72] (cD 72 (sR [fO 73 30 2 1,lO 74 25 73,oO 75 (cL 17 #[(xT 74),(nI 64)] #[25,3]),mO 76 75,oG 77 (fA 30 2 2) 76 true,oG 78 (lD 25 77) 76 true,oG 79 (cL 17 #[(xT 78),(nI 64)] #[25,3]) 76 true,oO 80 (.pick (xT 76) (xT 79) (nB false)),mO 81 80,oG 82 (fA 30 2 1) 81 true,oG 83 (fA 25 82 0) 81 true,oG 84 (lD 3 83) 81 true,oG 85 (.binOp .neq 3 (xT 84) (nI 10) 3) 81 true,oO 86 (.pick (xT 81) (xT 85) (nB false)),mO 87 86,oG 88 (fA 30 2 2) 87 true,oG 89 (fA 25 88 0) 87 true,oG 90 (lD 3 89) 87 true,oG 91 (.binOp .neq 3 (xT 90) (nI 10) 3) 87 true,oO 92 (.pick (xT 87) (xT 91) (nB false)),aO 4 92] [4] (.ret)) (.skip))) (.keep [1,2] (sR [oO 5 (.assign (.const (.int .i64 (-1))))] [1,2,5] (.seq (sR [oO 6 (.assign (nI 0))] [1,2,5,6] (.block 0 (.loop l1_centoref20_Right))) (.keep [1,2] (sR [oO 5 (.assign (.const (.int .i64 (-1))))] [1,2,5] (.seq (sR [oO 8 (.assign (nI 0))] [1,2,5,8] (.block 2 (.loop l2_centoref20_Right))) (.keep [1,2] (.seq (sR [fO 174 30 2 0,lO 175 3 174,oO 176 (.binOp .eql 3 (xT 175) (nI 3) 3),mO 177 176,oG 178 (fA 30 2 5) 177 true,oG 179 (lD 3 178) 177 true,oG 180 (.binOp .lss 3 (xT 179) (nI 2) 3) 177 true,oG 181 (mV 180) 177 true,oG 182 (fA 30 2 5) 181 false,oG 183 (lD 3 182) 181 false,oG 184 (.binOp .gtr 3 (xT 183) (nI 9) 3) 181 false,oG 185 (.pick (xT 181) (nB true) (xT 184)) 177 true,oO 186 (.pick (xT 177) (xT 185) (nB false))] [1,2,186] (cD 186 (sR [oO 4 (.assign (nB false))] [4] (.ret)) (.skip))) (.keep [1,2] (.seq (sR [oO 10 (.assign (nI 0))] [1,2,10] (.block 4 (.loop l3_centoref20_Right))) (.keep [2] (sR [lO 206 30 2,oO 207 (cL 52 #[(xT 206)] #[30]),mO 205 207,xO 208 205 0,xO 209 205 1,aO 11 208,aO 12 209] [11,12] (sR [mO 210 11,oO 211 (.binOp .lss 3 (xT 210) (nI 1048576) 3),mO 212 211,oG 213 (mV 12) 212 true,oG 214 (.binOp .lss 3 (xT 213) (nI 1048576) 3) 212 true,oO 215 (.pick (xT 212) (xT 214) (nB false)),aO 4 215] [4] (.ret)))))))))))))))))))
theorem t_centoref20_Right : Txt Tryz.prog 23 216 [(.tmp 4)] c_centoref20_Right := txt_of (code := Tryz.f23.body.getD .ret) mixed (by kernel_rfl) Tryz.func23 (by kernel_rfl) Tryz.ntmps23 (by kernel_rfl) (ls := lsOf c_centoref20_Right) (by kernel_rfl)
def k1_centoref20_Lengths : CC := .seq (sR [mO 42 4,oO 43 (.binOp .gtr 3 (xT 42) (nI 1048576) 3)] [1,4,5,6,43] (cD 43 (.reg [oO 4 (.assign (nI 1048576))] [1,4,5,6]) (.skip))) (.keep [1,4,5,6] (sR [mO 44 5,oO 45 (.binOp .gtr 3 (xT 44) (nI 1048576) 3)] [1,4,5,6,45] (cD 45 (.reg [oO 5 (.assign (nI 1048576))] [1,4,5,6]) (.skip))))
def k2_centoref20_Lengths : CC := .seq (sR [fO 36 69 7 0,lO 37 3 36,oO 38 (.binOp .neq 3 (xT 37) (nI 1) 3)] [1,4,5,6,8,38] (cD 38 (.reg [mO 39 5,mO 40 8,oO 41 (bO .add 3 39 40 3),aO 5 41] [1,4,5,6]) (.skip))) (.keep [1,4,5,6] k1_centoref20_Lengths)
def k3_centoref20_Lengths : CC := .seq (sR [fO 30 69 7 0,lO 31 3 30,oO 32 (.binOp .neq 3 (xT 31) (nI 2) 3)] [1,4,5,6,7,8,32] (cD 32 (.reg [mO 33 4,mO 34 8,oO 35 (bO .add 3 33 34 3),aO 4 35] [1,4,5,6,7,8]) (.skip))) (.keep [1,4,5,6,7,8] k2_centoref20_Lengths)
def l1_centoref20_Lengths : CC := .seq (sR [mO 9 6,fO 10 30 1 6,lO 11 28 10,oO 12 (bL 11 28),oO 13 (bO .lss 3 9 12 3)] [1,4,5,6,13] (cD 13 (.skip) (.exit 0))) (.keep [1,4,5,6] (.seq (.block 1 (sR [fO 16 30 1 6,lO 17 28 16,mO 18 6,oO 19 (iA 28 17 18),lO 20 69 19,oN 7 (.alloc 69) [1],oS (.store 69 (xT 7) (xT 20))] [1,4,5,6,7] (sR [fO 21 69 7 1,lO 22 3 21,fO 23 69 7 2,lO 24 23 23,oO 25 (bL 24 23),oO 26 (bO .add 3 22 25 3),aO 8 26] [1,4,5,6,7,8] (.seq (sR [fO 27 69 7 0,lO 28 3 27,oO 29 (.binOp .eql 3 (xT 28) (nI 3) 3)] [1,4,5,6,7,8,29] (cD 29 (.reg [oO 8 (.assign (nI 1))] [1,4,5,6,7,8]) (.skip))) (.keep [1,4,5,6,7,8] k3_centoref20_Lengths))))) (.keep [1,4,5,6] (.reg [mO 14 6,oO 15 (.binOp .add 3 (xT 14) (nI 1) 3),aO 6 15] [1,4,5,6])))) 
def c_centoref20_Lengths : CC := sR [oN 1 (.box 30 (xT 0)) [0],oO 2 (.assign (nI 0)),oO 3 (.assign (nI 0))] [1] (sR [oO 4 (.assign (nI 0)),oO 5 (.assign (nI 0))] [1,4,5] (.seq (sR [oO 6 (.assign (nI 0))] [1,4,5,6] (.block 0 (.loop l1_centoref20_Lengths))) (.keep [4,5] (sR [mO 46 4,mO 47 5,aO 2 46,aO 3 47] [2,3] (.ret)))))
theorem t_centoref20_Lengths : Txt Tryz.prog 52 48 [(.tmp 2),(.tmp 3)] c_centoref20_Lengths := txt_of (code := Tryz.f52.body.getD .ret) mixed (by kernel_rfl) Tryz.func52 (by kernel_rfl) Tryz.ntmps52 (by kernel_rfl) (ls := lsOf c_centoref20_Lengths) (by kernel_rfl)
def c_centoref27_row : CC := sR [oN 2 (.alloc 25) [0]] [0,2] (.seq (sR [mO 3 0,oO 4 (bL 3 23),oO 5 (.binOp .eql 3 (xT 4) (nI 0) 3)] [0,2,5] (cD 5 (sR [oO 6 (.build 25 #[]),oS (.store 25 (xT 2) (xT 6))] [2] (.ret)) (.skip))) (.keep [0,2] (sR [mO 7 0,oO 8 (.build 25 #[(0,(nI 9)),(2,(xT 7))]),oS (.store 25 (xT 2) (xT 8))] [2] (.ret))))
theorem t_centoref27_row : Txt Tryz.prog 39 9 [(.cell 2 25)] c_centoref27_row := txt_of (code := Tryz.f39.body.getD .ret) mixed (by kernel_rfl) Tryz.func39 (by kernel_rfl) Tryz.ntmps39 (by kernel_rfl) (ls := lsOf c_centoref27_row) (by kernel_rfl)
def l1_centoref27_Tree : CC := .seq (sR [mO 83 6,fO 84 30 1 3,lO 85 26 84,oO 86 (bL 85 26),oO 87 (bO .lss 3 83 86 3)] [1,2,3,4,5,6,87] (cD 87 (.skip) (.exit 3))) (.keep [1,2,3,4,5,6] (.seq (.block 4 (sR [fO 90 30 1 3,lO 91 26 90,mO 92 6,oO 93 (iA 26 91 92),lO 94 63 93,oN 7 (.alloc 63) [3],oS (.store 63 (xT 7) (xT 94))] [1,2,3,4,5,6,7] (.reg [mO 95 4,fO 96 63 7 0,lO 97 3 96,oO 98 (.convert 3 60 (xT 97)),fO 99 63 7 1,lO 100 5 99,oO 101 (.convert 5 60 (xT 100)),oO 102 (.binOp .mul 60 (.const (.int .u64 4294967296)) (xT 101) 60),oO 103 (bO .add 60 98 102 60),fO 104 63 7 2,lO 105 60 104,fO 106 63 7 3,lO 107 60 106,oO 108 (.buildSlice 22 3 #[(0,(xT 103)),(1,(xT 105)),(2,(xT 107))]),oO 109 (.build 25 #[(0,(nI 1)),(1,(xT 108))]),oO 110 (.buildSlice 23 1 #[(0,(xT 109))]),oN 111 (bC .append #[(xT 95),(xT 110)] #[23,23]) [4],aO 4 111] [1,2,3,4,5,6]))) (.reg [mO 88 6,oO 89 (.binOp .add 3 (xT 88) (nI 1) 3),aO 6 89] [1,2,3,4,5,6])))
def l2_centoref27_Tree : CC := .seq (sR [mO 112 8,fO 113 30 1 4,lO 114 27 113,oO 115 (bL 114 27),oO 116 (bO .lss 3 112 115 3)] [1,2,3,4,5,8,116] (cD 116 (.skip) (.exit 5))) (.keep [1,2,3,4,5,8] (.seq (.block 6 (.reg [mO 119 5,fO 120 30 1 4,⟨some 121,(lD 27 120),none,[],2,[],true⟩,mO 122 8,oO 123 (iA 27 121 122),fO 124 66 123 0,⟨some 125,(lD 3 124),none,[],6,[],true⟩,oO 126 (.convert 3 60 (xT 125)),⟨some 127,(.buildSlice 22 1 #[(0,(xT 126))]),none,[],8,[],true⟩,fO 128 30 1 4,⟨some 129,(lD 27 128),none,[],10,[8],false⟩,mO 130 8,oO 131 (iA 27 129 130),fO 132 66 131 1,⟨some 133,(lD 30 132),none,[],14,[8],false⟩,⟨some 134,(cL 15 #[(xT 133)] #[30]),none,[],15,[2,6,8],false⟩,⟨some 135,(.buildSlice 23 1 #[(0,(xT 134))]),none,[],16,[2,6,8],false⟩,oO 136 (.build 25 #[(0,(nI 1)),(1,(xT 127)),(2,(xT 135))]),oO 137 (.buildSlice 23 1 #[(0,(xT 136))]),oN 138 (bC .append #[(xT 119),(xT 137)] #[23,23]) [5],aO 5 138] [1,2,3,4,5,8])) (.reg [mO 117 8,oO 118 (.binOp .add 3 (xT 117) (nI 1) 3),aO 8 118] [1,2,3,4,5,8])))
def l3_centoref27_Tree : CC := .seq (sR [mO 23 9,fO 24 30 1 6,lO 25 28 24,oO 26 (bL 25 28),oO 27 (bO .lss 3 23 26 3)] [1,2,3,4,9,27] (cD 27 (.skip) (.exit 1))) (.keep [1,2,3,4,9] (.seq (.block 2 (sR [fO 30 30 1 6,lO 31 28 30,mO 32 9,oO 33 (iA 28 31 32),lO 34 69 33,oN 10 (.alloc 69) [6],oS (.store 69 (xT 10) (xT 34))] [1,2,3,4,9,10] (sR [fO 35 69 10 0,lO 36 3 35,fO 37 69 10 1,lO 38 3 37,oO 39 (.binOp .mul 3 (nI 256) (xT 38) 3),oO 40 (bO .add 3 36 39 3),oO 41 (.convert 3 60 (xT 40)),oO 42 (.buildSlice 22 1 #[(0,(xT 41))]),oO 43 (.build 25 #[(0,(nI 1)),(1,(xT 42))]),oN 11 (.alloc 25) [7],oS (.store 25 (xT 11) (xT 43))] [1,2,3,4,9,10,11] (.seq (sR [fO 44 69 10 0,lO 45 3 44,oO 46 (.binOp .eql 3 (xT 45) (nI 3) 3)] [1,2,3,4,9,10,11,46] (cD 46 (.reg [fO 47 69 10 3,lO 48 30 47,oO 49 (cL 15 #[(xT 48)] #[30]),oO 50 (.buildSlice 23 1 #[(0,(xT 49))]),fO 51 25 11 2,oS (.store 23 (xT 51) (xT 50))] [1,2,3,4,9,11]) (sR [fO 52 69 10 0,lO 53 3 52,oO 54 (.binOp .gtr 3 (xT 53) (nI 0) 3)] [1,2,3,4,9,10,11,54] (cD 54 (.reg [fO 55 30 1 5,lO 56 3 55,fO 57 69 10 2,lO 58 23 57,oO 59 (.build 25 #[(0,(xT 56)),(2,(xT 58))]),oO 60 (.buildSlice 23 1 #[(0,(xT 59))]),fO 61 25 11 2,oS (.store 23 (xT 61) (xT 60))] [1,2,3,4,9,11]) (.skip))))) (.keep [1,2,3,4,9,11] (.reg [mO 62 4,lO 63 25 11,oO 64 (.buildSlice 23 1 #[(0,(xT 63))]),oN 65 (bC .append #[(xT 62),(xT 64)] #[23,23]) [8],aO 4 65] [1,2,3,4,9])))))) (.keep [1,2,3,4,9] (.reg [mO 28 9,oO 29 (.binOp .add 3 (xT 28) (nI 1) 3),aO 9 29] [1,2,3,4,9])))) 
def c_centoref27_Tree : CC := sR [oN 1 (.box 30 (xT 0)) [0],oN 2 (.alloc 25) [1]] [1,2] (sR [fO 12 30 1 0,lO 13 3 12,fO 14 30 1 5,lO 15 3 14,oO 16 (.binOp .mul 3 (nI 256) (xT 15) 3),oO 17 (bO .add 3 13 16 3),oO 18 (.convert 3 60 (xT 17)),oO 19 (.buildSlice 22 1 #[(0,(xT 18))]),oO 20 (.build 25 #[(0,(nI 1)),(1,(xT 19))]),oN 3 (.alloc 25) [2],oS (.store 25 (xT 3) (xT 20))] [1,2,3] (sR [oO 4 (.assign nS),oO 5 (.assign nS)] [1,2,3,4,5] (.seq (sR [fO 21 30 1 0,lO 22 3 21] [1,2,3,4,5,22] (.block 0 (sR [oO 71 (.binOp .eql 3 (xT 22) (nI 0) 3),aO 70 71] [1,2,3,4,5,22,70] (cD 70 (sR [oO 72 (.build 25 #[]),oS (.store 25 (xT 2) (xT 72))] [2] (.ret)) (sR [oO 74 (.binOp .eql 3 (xT 22) (nI 1) 3),aO 73 74] [1,2,3,4,5,22,73] (cD 73 (.reg [fO 75 30 1 1,lO 76 25 75,fO 77 30 1 2,lO 78 25 77,oO 79 (.buildSlice 23 2 #[(0,(xT 76)),(1,(xT 78))]),fO 80 25 3 2,oS (.store 23 (xT 80) (xT 79))] [2,3]) (sR [oO 82 (.binOp .eql 3 (xT 22) (nI 2) 3),aO 81 82] [1,2,3,4,5,81] (cD 81 (.seq (sR [oO 6 (.assign (nI 0))] [1,2,3,4,5,6] (.block 3 (.loop l1_centoref27_Tree))) (.keep [1,2,3,4,5] (.seq (sR [oO 8 (.assign (nI 0))] [1,2,3,4,5,8] (.block 5 (.loop l2_centoref27_Tree))) (.keep [2,3,4,5] (.stop (.reg [mO 139 4,oO 140 (cL 39 #[(xT 139)] #[23]),mO 141 5,oO 142 (cL 39 #[(xT 141)] #[23]),oO 143 (.buildSlice 23 2 #[(0,(xT 140)),(1,(xT 142))]),fO 144 25 3 2,oS (.store 23 (xT 144) (xT 143))] [2,3])))))) (.seq (sR [oO 9 (.assign (nI 0))] [1,2,3,4,9] (.block 1 (.loop l3_centoref27_Tree))) (.keep [2,3,4] (.stop (.reg [mO 66 4,oO 67 (cL 39 #[(xT 66)] #[23]),oO 68 (.buildSlice 23 1 #[(0,(xT 67))]),fO 69 25 3 2,oS (.store 23 (xT 69) (xT 68))] [2,3])))))))))))) (.keep [2,3] (sR [lO 145 25 3,oS (.store 25 (xT 2) (xT 145))] [2] (.ret))))))
theorem t_centoref27_Tree : Txt Tryz.prog 15 146 [(.cell 2 25)] c_centoref27_Tree := txt_of (code := Tryz.f15.body.getD .ret) mixed (by kernel_rfl) Tryz.func15 (by kernel_rfl) Tryz.ntmps15 (by kernel_rfl) (ls := lsOf c_centoref27_Tree) (by kernel_rfl)
end Go.Proofs.YthfiijdbnkaabaaGreat

namespace Go.Proofs.YthfiijdbnkaabaaGreat
set_option linter.unusedVariables false
set_option linter.unusedSimpArgs false
set_option maxRecDepth 20000
open Go Go.G Go.Proofs
def c_tree_Word : CC := sR [oN 2 (.box 25 (xT 0)) [0],oO 4 (.assign (.const (.int .u64 0)))] [1,2] (.seq (sR [mO 5 1,oO 6 (.binOp .lss 3 (xT 5) (nI 0) 3),mO 7 6,oG 8 (mV 1) 7 false,oG 9 (fA 25 2 1) 7 false,oG 10 (lD 22 9) 7 false,oG 11 (bL 10 22) 7 false,oG 12 (bO .geq 3 8 11 3) 7 false,oO 13 (.pick (xT 7) (nB true) (xT 12))] [1,2,13] (cD 13 (sR [oO 4 (.assign (.const (.int .u64 0)))] [4] (.ret)) (.skip))) (.keep [1,2] (sR [fO 14 25 2 1,lO 15 22 14,mO 16 1,oO 17 (iA 22 15 16),lO 18 60 17,aO 4 18] [4] (.ret))))
theorem t_tree_Word : Txt Tryz.prog 70 19 [(.tmp 4)] c_tree_Word := txt_of (code := Tryz.f70.body.getD .ret) mixed (by kernel_rfl) Tryz.func70 (by kernel_rfl) Tryz.ntmps70 (by kernel_rfl) (ls := lsOf c_tree_Word) (by kernel_rfl)
def c_tree_Kid : CC := sR [oN 2 (.box 25 (xT 0)) [0],oN 4 (.alloc 25) [1]] [1,2,4] (.seq (sR [mO 5 1,oO 6 (.binOp .lss 3 (xT 5) (nI 0) 3),mO 7 6,oG 8 (mV 1) 7 false,oG 9 (fA 25 2 2) 7 false,oG 10 (lD 23 9) 7 false,oG 11 (bL 10 23) 7 false,oG 12 (bO .geq 3 8 11 3) 7 false,oO 13 (.pick (xT 7) (nB true) (xT 12))] [1,2,4,13] (cD 13 (sR [oO 14 (.build 25 #[]),oS (.store 25 (xT 4) (xT 14))] [4] (.ret)) (.skip))) (.keep [1,2,4] (sR [fO 15 25 2 2,lO 16 23 15,mO 17 1,oO 18 (iA 23 16 17),lO 19 25 18,oS (.store 25 (xT 4) (xT 19))] [4] (.ret))))
theorem t_tree_Kid : Txt Tryz.prog 72 20 [(.cell 4 25)] c_tree_Kid := txt_of (code := Tryz.f72.body.getD .ret) mixed (by kernel_rfl) Tryz.func72 (by kernel_rfl) Tryz.ntmps72 (by kernel_rfl) (ls := lsOf c_tree_Kid) (by kernel_rfl)
def l1_word_Wide : CC := sR [oO 6 (.binOp .lss 3 (xT 5) (nI 8) 3)] [0,3,5,6] (.seq (cD 6 (.skip) (.exit 0)) (.keep [0,3,5] (.seq (.block 1 (sR [mO 7 5,aO 4 7] [0,3,4,5] (sR [mO 8 0,mO 9 4,oO 10 (bO .shr 5 8 9 3),oO 11 (.binOp .and 5 (xT 10) (.const (.int .u8 1)) 5),oO 12 (.binOp .eql 5 (xT 11) (.const (.int .u8 1)) 5)] [0,3,4,5,12] (cD 12 (.reg [mO 13 3,mO 14 4,oO 15 (.binOp .mul 3 (nI 8) (xT 14) 3),oO 16 (.binOp .shl 60 (.const (.int .u64 255)) (xT 15) 3),oO 17 (bO .or 60 13 16 60),aO 3 17] [0,3,5]) (.skip))))) (.keep [0,3,5] (.reg [oO 18 (.binOp .add 3 (xT 5) (nI 1) 3),mO 5 18] [0,3,5]))))) 
def c_word_Wide : CC := sR [oO 2 (.assign (.const (.int .u64 0)))] [0] (sR [oO 3 (.assign (.const (.int .u64 0)))] [0,3] (.seq (sR [oO 5 (.move (nI 0))] [0,3,5] (.block 0 (.loop l1_word_Wide))) (.keep [3] (sR [mO 19 3,aO 2 19] [2] (.ret)))))
theorem t_word_Wide : Txt Tryz.prog 146 20 [(.tmp 2)] c_word_Wide := txt_of (code := Tryz.f146.body.getD .ret) mixed (by kernel_rfl) Tryz.func146 (by kernel_rfl) Tryz.ntmps146 (by kernel_rfl) (ls := lsOf c_word_Wide) (by kernel_rfl)
def c_word_Mix : CC := sR [oO 6 (.assign (.const (.int .u64 0)))] [0,1,2] (sR [mO 7 0,mO 8 2,oO 9 (cL 146 #[(xT 8)] #[5]),oO 10 (bO .andNot 60 7 9 60),mO 11 1,mO 12 2,oO 13 (cL 146 #[(xT 12)] #[5]),oO 14 (bO .and 60 11 13 60),oO 15 (bO .or 60 10 14 60),aO 6 15] [6] (.ret))
theorem t_word_Mix : Txt Tryz.prog 126 16 [(.tmp 6)] c_word_Mix := txt_of (code := Tryz.f126.body.getD .ret) mixed (by kernel_rfl) Tryz.func126 (by kernel_rfl) Tryz.ntmps126 (by kernel_rfl) (ls := lsOf c_word_Mix) (by kernel_rfl)
def l1_unfold_Value : CC := sR [oO 16 (bO .lss 3 15 14 3)] [1,2,4,14,15,16] (.seq (cD 16 (.skip) (.exit 0)) (.keep [1,2,4,14,15] (.seq (.block 1 (sR [mO 17 15,aO 5 17] [1,2,4,5,14,15] (.reg [fO 18 25 4 1,⟨some 19,(lD 22 18),none,[],1,[],true⟩,lO 20 93 1,mO 21 5,⟨some 22,(cL 145 #[(xT 20),(xT 21)] #[93,3]),none,[],4,[1],false⟩,⟨some 23,(.buildSlice 22 1 #[(0,(xT 22))]),none,[],5,[1],false⟩,oN 24 (bC .append #[(xT 19),(xT 23)] #[22,22]) [3],fO 25 25 4 1,oS (.store 22 (xT 25) (xT 24))] [1,2,4,14,15]))) (.reg [oO 26 (.binOp .add 3 (xT 15) (nI 1) 3),mO 15 26] [1,2,4,14,15]))))
def l2_unfold_Value : CC := sR [oO 30 (bO .lss 3 29 28 3)] [1,2,4,28,29,30] (.seq (cD 30 (.skip) (.exit 2)) (.keep [1,2,4,28,29] (.seq (.block 3 (sR [mO 31 29,aO 6 31] [1,2,4,6,28,29] (sR [lO 33 93 1,mO 34 6,oO 35 (cL 139 #[(xT 33),(xT 34)] #[93,3]),mO 32 35,xO 36 32 0,xO 37 32 1,oN 7 (.alloc 93) [4],oS (.store 93 (xT 7) (xT 36)),aO 8 37] [1,2,4,7,8,28,29] (.seq (sR [mO 38 8,oO 39 (.binOp .neq 45 (xT 38) (nI 0) 45)] [1,2,4,7,8,28,29,39] (cD 39 (sR [oO 40 (.build 25 #[]),mO 41 8,oS (.store 25 (xT 2) (xT 40)),aO 3 41] [2,3] (.ret)) (.skip))) (.keep [1,2,4,7,28,29] (sR [lO 43 93 7,oO 44 (cL 124 #[(xT 43)] #[93]),mO 42 44,xO 45 42 0,xO 46 42 1,oN 9 (.alloc 25) [5],oS (.store 25 (xT 9) (xT 45)),aO 8 46] [1,2,4,8,9,28,29] (.seq (sR [mO 47 8,oO 48 (.binOp .neq 45 (xT 47) (nI 0) 45)] [1,2,4,8,9,28,29,48] (cD 48 (sR [oO 49 (.build 25 #[]),mO 50 8,oS (.store 25 (xT 2) (xT 49)),aO 3 50] [2,3] (.ret)) (.skip))) (.keep [1,2,4,9,28,29] (.reg [fO 51 25 4 2,lO 52 23 51,lO 53 25 9,oO 54 (.buildSlice 23 1 #[(0,(xT 53))]),oN 55 (bC .append #[(xT 52),(xT 54)] #[23,23]) [6],fO 56 25 4 2,oS (.store 23 (xT 56) (xT 55))] [1,2,4,28,29]))))))))) (.keep [1,2,4,28,29] (.reg [oO 57 (.binOp .add 3 (xT 29) (nI 1) 3),mO 29 57] [1,2,4,28,29]))))) 
def c_unfold_Value : CC := sR [oN 1 (.box 93 (xT 0)) [0],oN 2 (.alloc 25) [1],oO 3 (.assign (nI 0))] [1,2] (sR [lO 10 93 1,oO 11 (cL 101 #[(xT 10)] #[93]),oO 12 (.build 25 #[(0,(xT 11))]),oN 4 (.alloc 25) [2],oS (.store 25 (xT 4) (xT 12))] [1,2,4] (.stop (.seq (sR [lO 13 93 1,oO 14 (cL 137 #[(xT 13)] #[93]),oO 15 (.move (nI 0))] [1,2,4,14,15] (.block 0 (.loop l1_unfold_Value))) (.keep [1,2,4] (.seq (sR [lO 27 93 1,oO 28 (cL 102 #[(xT 27)] #[93]),oO 29 (.move (nI 0))] [1,2,4,28,29] (.block 2 (.loop l2_unfold_Value))) (.keep [2,4] (sR [lO 58 25 4,oS (.store 25 (xT 2) (xT 58)),oO 3 (.assign (nI 0))] [2,3] (.ret))))))))
theorem t_unfold_Value : Txt Tryz.prog 124 59 [(.cell 2 25),(.tmp 3)] c_unfold_Value := txt_of (code := Tryz.f124.body.getD .ret) mixed (by kernel_rfl) Tryz.func124 (by kernel_rfl) Tryz.ntmps124 (by kernel_rfl) (ls := lsOf c_unfold_Value) (by kernel_rfl)
end Go.Proofs.YthfiijdbnkaabaaGreat

namespace Go.Proofs.YthfiijdbnkaabaaGreat
set_option linter.unusedVariables false
set_option linter.unusedSimpArgs false
open Go Go.G Go.Proofs Go.PL
theorem treeWord_spec (t : T) (i : Nat) : G.Spec Tryz.prog 70 [tX t,iv i] (uv (t.words.getD i 0)) := by
  refine spec_of t_tree_Word (by simp) fun w0 I0 => ?_
  unfold c_tree_Word
  have hn : ¬ (i : Int) < 0 := by omega
  by_cases h : i < t.words.length
  · have h2 : ¬ t.words.length≤i := by omega
    simp [h,hn,h2]
    exact frz_is rfl (by simp [h])
  · have h2 : t.words.length≤i := by omega
    simp [h,hn,h2]
    exact frz_is rfl (by simp [List.getElem?_eq_none (Nat.le_of_not_lt h)])
theorem treeKid_spec (t : T) (i : Nat) : G.Spec Tryz.prog 72 [tX t,iv i] (tX (t.kids.getD i T0)) := by
  refine spec_of t_tree_Kid (by simp) fun w0 I0 => ?_
  unfold c_tree_Kid
  have hn : ¬ (i : Int) < 0 := by omega
  by_cases h : i < t.kids.length
  · have h2 : ¬ t.kids.length≤i := by omega
    simp [h,hn,h2]
    exact frz_bare (by simp)
  · have h2 : t.kids.length≤i := by omega
    simp [h,hn,h2]
    exact frz_agg (by simp; exact ⟨frz_bare rfl,frz_sl,frz_sl⟩)
section
variable {n0 : Nat} {w0 : World} {I0 : Nat→Prop} {Q : Exit→Sta→Prop}
theorem value_l1 {l : List (List Int)} (hs : Sg l) {r : Rf} {t : T} (hm : Means l r t) {k : Int}
    (hq : ∀ (q : Bool) (H : Hp),H [0] = ⟨1,.cells (paL l r)⟩→H [2] = ⟨1,.cells [iv k,.osl [3] (t.words.length + 1) 1 0 t.words.length,.osl [6] 1 3 0 0]⟩→H [3] = ⟨t.words.length + 1,.arr 1 (t.words.map uv)⟩→H [6] = ⟨1,.arr 3 []⟩→H [1] = ⟨1,.cells [iv 0,.sl true [],.sl true []]⟩ →
      Q (.exit 0) ⟨lk [(1,.pob [0] 1 0),(2,.pob [1] 1 0),(4,.pob [2] 1 0),(14,iv t.words.length),(15,iv t.words.length),(16,bv q)],H⟩) :
    ∀ (j i : Nat) (H : Hp),i + j = t.words.length→H [0] = ⟨1,.cells (paL l r)⟩→H [2] = ⟨1,.cells [iv k,.osl [3] (i + 1) 1 0 i,.osl [6] 1 3 0 0]⟩→H [3] = ⟨i + 1,.arr 1 ((t.words.take i).map uv)⟩→H [6] = ⟨1,.arr 3 []⟩→H [1] = ⟨1,.cells [iv 0,.sl true [],.sl true []]⟩ →
    LoopC (cx Tryz.prog w0 I0 n0) l1_unfold_Value Q ⟨lk [(1,.pob [0] 1 0),(2,.pob [1] 1 0),(4,.pob [2] 1 0),(14,iv t.words.length),(15,iv i)],H⟩ := by
  obtain ⟨hw1,hw2⟩ := means_word hm
  have hln := means_len hm
  intro j
  induction j with
  | zero =>
    intro i H hi h0 h2 h3 h6 h1
    have : i = t.words.length := by omega
    subst this
    rw [List.take_of_length_le (Nat.le_refl _)] at h3
    refine loopC_once mixed l1_unfold_Value.eq_1 ?_
    simp
    exact hq _ H h0 h2 h3 h6 h1
  | succ j ih =>
    intro i H hi h0 h2 h3 h6 h1
    have hlt : i < t.words.length := by omega
    have ei : IntKind.i64.wrap ((i : Int) + 1) = ((i + 1 : Nat) : Int) := i64_same (by omega) (by omega)
    have htk : (t.words.take (i + 1)).map uv = (t.words.take i).map uv ++ [uv t.words[i]] := by rw [List.take_succ_eq_append_getElem hlt,List.map_append]; rfl
    refine loopC_once mixed l1_unfold_Value.eq_1 ?_
    simp [hlt,h0,h2]
    refine sc_call (word_spec' hs (means_ok hm) i) (by simp) ?_
    rw [hw2 i hlt]
    simp [h2,h3,ei,updF_app]
    refine ⟨⟨by omega,by omega⟩,?_⟩
    refine ih (i + 1) _ (by omega) (by simp [updF_app,h0]) (by simp [updF_app]) ?_ (by simp [updF_app,h6]) (by simp [updF_app,h1])
    rw [htk]
    simp [updF_app,List.take_take]
theorem value_l2 {l : List (List Int)} (hs : Sg l) {r : Rf} {t : T} (hm : Means l r t) {k : Int} {c1 : A} {X : VOb} (ih0 : ∀ c,c ∈ t.kids→∀ x,Means l x c→G.Spec Tryz.prog 124 [paX l x] (.tup [tX c,iv 0]))
    (hq : ∀ (q : Bool) (H : Hp),H [2] = ⟨1,.cells [iv k,c1,.osl [6] (t.kids.length + 1) 3 0 t.kids.length]⟩→H [6] = ⟨t.kids.length + 1,.arr 3 (t.kids.map tA)⟩→H [3] = X→H [1] = ⟨1,.cells [iv 0,.sl true [],.sl true []]⟩ →
      Q (.exit 2) ⟨lk [(1,.pob [0] 1 0),(2,.pob [1] 1 0),(4,.pob [2] 1 0),(28,iv t.kids.length),(29,iv t.kids.length),(30,bv q)],H⟩) :
    ∀ (j i : Nat) (H : Hp),i + j = t.kids.length→H [0] = ⟨1,.cells (paL l r)⟩→H [2] = ⟨1,.cells [iv k,c1,.osl [6] (i + 1) 3 0 i]⟩→H [6] = ⟨i + 1,.arr 3 ((t.kids.take i).map tA)⟩→H [3] = X→H [1] = ⟨1,.cells [iv 0,.sl true [],.sl true []]⟩ →
    LoopC (cx Tryz.prog w0 I0 n0) l2_unfold_Value Q ⟨lk [(1,.pob [0] 1 0),(2,.pob [1] 1 0),(4,.pob [2] 1 0),(28,iv t.kids.length),(29,iv i)],H⟩ := by
  have hln := means_len hm
  intro j
  induction j with
  | zero =>
    intro i H hi h0 h2 h6 h3 h1
    have : i = t.kids.length := by omega
    subst this
    rw [List.take_of_length_le (Nat.le_refl _)] at h6
    refine loopC_once mixed l2_unfold_Value.eq_1 ?_
    simp
    exact hq _ H h2 h6 h3 h1
  | succ j ih =>
    intro i H hi h0 h2 h6 h3 h1
    have hlt : i < t.kids.length := by omega
    obtain ⟨k1,k2⟩ := means_kid hm hlt
    have ei : IntKind.i64.wrap ((i : Int) + 1) = ((i + 1 : Nat) : Int) := i64_same (by omega) (by omega)
    have htk : (t.kids.take (i + 1)).map tA = (t.kids.take i).map tA ++ [tA t.kids[i]] := by rw [List.take_succ_eq_append_getElem hlt,List.map_append]; rfl
    refine loopC_once mixed l2_unfold_Value.eq_1 ?_
    simp [hlt,h0]
    refine sc_call (kid_spec hs (means_ok hm) i) (by simp) ?_
    rw [k1]
    simp [updF_app,h0]
    refine sc_call (ih0 _ (List.getElem_mem hlt) _ k2) (by simp) ?_
    simp [updF_app,h2,h6,ei]
    refine ⟨⟨by omega,by omega⟩,?_⟩
    refine ih (i + 1) _ (by omega) (by simp [updF_app,h0]) (by simp [updF_app]) ?_ (by simp [updF_app,h3]) (by simp [updF_app,h1])
    rw [htk]
    simp [updF_app,List.take_take]
end
theorem value_spec {l : List (List Int)} (hs : Sg l) : ∀ (t : T) (r : Rf),Means l r t→G.Spec Tryz.prog 124 [paX l r] (.tup [tX t,iv 0]) := by
  refine T.ind fun k w ks ih r hm => ?_
  refine spec_of t_unfold_Value (by simp) fun w0 I0 => ?_
  unfold c_unfold_Value
  simp
  refine sc_call (refKind_spec l r) (by simp) ?_
  simp
  refine stop_le (le_blankC (d := [2]) (u := 1) (cs := [iv r.kind,.sl true [],.sl true []]) 1 [3] 1 (by simp) rfl (by simp)) ?_
  refine stop_le (le_blankC (d := [2]) (u := 1) (cs := [iv r.kind,.osl [3] 1 1 0 0,.sl true []]) 2 [6] 3 (by simp [updF_app]) rfl (by simp)) (stop_go ?_)
  simp [updF_app]
  refine sc_call (refWords_spec' l r) (by simp) ?_
  rw [(means_word hm).1]
  simp [updF_app]
  refine value_l1 hs hm (k := r.kind) (fun q H h0 h2 h3 h6 h1 => ?_) w.length 0 _ (by simp) (by simp [updF_app]) (by simp [updF_app]) (by simp [updF_app]) (by simp [updF_app]) (by simp [updF_app])
  simp [h0]
  refine sc_call (refKids_spec' l r) (by simp) ?_
  rw [means_nk hm]
  simp
  refine value_l2 hs hm (k := r.kind) (c1 := .osl [3] (w.length + 1) 1 0 w.length) (X := ⟨w.length + 1,.arr 1 (w.map uv)⟩) ih (fun q H' h2' h6' h3' h1' => ?_) ks.length 0 H (by simp) h0 h2 (by simpa using h6) h3 h1
  simp [h2',h1',updF_app]
  rw [means_kind hm]
  exact frz_tup ⟨frz_agg ⟨frz_bare rfl,frz_row (f := uv) (l := w) (by simp [updF_app,h3']) rfl (fun x => by simp),frz_row (f := tA) (l := ks) (by simp [updF_app,h6']) rfl (fun x => by simp),trivial⟩,frz_bare rfl,trivial⟩
end Go.Proofs.YthfiijdbnkaabaaGreat

namespace Go.Proofs.YthfiijdbnkaabaaGreat
set_option linter.unusedVariables false
set_option linter.unusedSimpArgs false
open Go Go.G Go.Proofs Go.PL
abbrev tL (t : T) : List A := [iv t.kind,uws t.words,tKs t.kids]
section
variable {n0 : Nat} {w0 : World} {I0 : Nat→Prop} {Q : Exit→Sta→Prop}
theorem frame_l1 {t : T} (hl : t.kids.length * 56≤140737488355328) {H : Hp} (hH : H [0] = ⟨1,.cells (tL t)⟩) : ∀ (m i a b : Nat),i + m = t.kids.length →
    (∀ i' q (x y : Nat),x = max a (frameW (t.kids.drop i))→y = max b (frameK (t.kids.drop i))→Q (.exit 0) ⟨lk [(1,.pob [0] 1 0),(4,iv x),(5,iv y),(6,iv i'),(11,bv q)],H⟩) →
    LoopC (cx Tryz.prog w0 I0 n0) l1_centoref07_Frame Q ⟨lk [(1,.pob [0] 1 0),(4,iv a),(5,iv b),(6,iv i)],H⟩ := by
  intro m
  induction m with
  | zero =>
    intro i a b hi hq
    have : i = t.kids.length := by omega
    subst this
    refine loopC_once mixed l1_centoref07_Frame.eq_1 ?_
    simp [hH]
    exact hq _ false _ _ (by simp [frameW]) (by simp [frameK])
  | succ m ih =>
    intro i a b hi hq
    have hlt : i < t.kids.length := by omega
    have e : t.kids.drop i = t.kids[i] :: t.kids.drop (i + 1) := List.drop_eq_getElem_cons hlt
    have ei : IntKind.i64.wrap ((i : Int) + 1) = ((i + 1 : Nat) : Int) := i64_same (by omega) (by omega)
    refine loopC_once mixed l1_centoref07_Frame.eq_1 ?_
    simp [hH,hlt]
    refine ⟨fun h1 => ?_,fun h1 => ?_⟩
    all_goals
      rw [k1_centoref07_Frame.eq_1]
      simp [hH,hlt,ei]
      refine ⟨fun h2 => ?_,fun h2 => ?_⟩
    · exact ih (i + 1) _ _ (by omega) fun i' q x y hx hy => hq i' q x y (by rw [hx,e,frameW]; omega) (by rw [hy,e,frameK]; omega)
    · exact ih (i + 1) _ _ (by omega) fun i' q x y hx hy => hq i' q x y (by rw [hx,e,frameW]; omega) (by rw [hy,e,frameK]; omega)
    · exact ih (i + 1) _ _ (by omega) fun i' q x y hx hy => hq i' q x y (by rw [hx,e,frameW]; omega) (by rw [hy,e,frameK]; omega)
    · exact ih (i + 1) _ _ (by omega) fun i' q x y hx hy => hq i' q x y (by rw [hx,e,frameW]; omega) (by rw [hy,e,frameK]; omega)
end
theorem rFrame_spec (t : T) (hl : t.kids.length * 56≤140737488355328) : G.Spec Tryz.prog 112 [tX t] (.tup [iv (frameW t.kids),iv (frameK t.kids)]) := by
  refine spec_of t_centoref07_Frame (by simp) fun w0 I0 => ?_
  unfold c_centoref07_Frame
  simp
  refine frame_l1 (t := t) hl (by simp) t.kids.length 0 0 0 (by omega) fun i' q x y hx hy => ?_
  simp
  refine frz_is rfl ?_
  simp [hx,hy]
section
variable {n0 : Nat} {w0 : World} {I0 : Nat→Prop} {Q : Exit→Sta→Prop}
theorem same_l1 {a b : T} (hl : a.kids.length * 56≤140737488355328) (hn : a.kids.length = b.kids.length) (ih : ∀ c,c ∈ a.kids→∀ u,G.Spec Tryz.prog 14 [tX c,tX u] (bv (sameB c u)))
    {H : Hp} (hA : H [0] = ⟨1,.cells (tL a)⟩) (hB : H [1] = ⟨1,.cells (tL b)⟩) : ∀ (m i : Nat),i + m = a.kids.length→a.kids.take i = b.kids.take i→(a.kids = b.kids→∀ i' q,Q (.exit 0) ⟨lk [(2,.pob [0] 1 0),(3,.pob [1] 1 0),(5,iv i'),(32,bv q)],H⟩)→(a.kids ≠ b.kids→Q .ret ⟨lk [(4,bv false)],H⟩) →
    LoopC (cx Tryz.prog w0 I0 n0) l1_centoref07_Same Q ⟨lk [(2,.pob [0] 1 0),(3,.pob [1] 1 0),(5,iv i)],H⟩ := by
  intro m
  induction m with
  | zero =>
    intro i hi ht h1 h2
    have : i = a.kids.length := by omega
    subst this
    refine loopC_once mixed l1_centoref07_Same.eq_1 ?_
    simp [hA,hB]
    refine h1 ?_ _ _
    rw [List.take_of_length_le (Nat.le_refl _),List.take_of_length_le (by omega)] at ht
    exact ht
  | succ m ihm =>
    intro i hi ht h1 h2
    have hlt : i < a.kids.length := by omega
    have hlt' : i < b.kids.length := by omega
    refine loopC_once mixed l1_centoref07_Same.eq_1 ?_
    simp [hA,hB,hlt,hlt']
    refine sc_call (ih _ (List.getElem_mem hlt) b.kids[i]) rfl ?_
    simp
    cases hs : sameB a.kids[i] b.kids[i] with
    | false =>
      simp
      refine h2 fun e => ?_
      have : a.kids[i] = b.kids[i] := by simp [e]
      rw [← sameB_iff,hs] at this
      cases this
    | true =>
      simp
      rw [i64_same (by omega) (by omega)]
      refine ihm (i + 1) (by omega) ?_ h1 h2
      rw [List.take_succ_eq_append_getElem hlt,List.take_succ_eq_append_getElem hlt',ht,sameB_iff.1 hs]
end
set_option maxRecDepth 8000 in
theorem rTSame_spec : ∀ (a : T),wfT a→∀ b : T,G.Spec Tryz.prog 14 [tX a,tX b] (bv (sameB a b)) := by
  refine T.ind fun k w l ih hw b => ?_
  have hw' := wfT_iff.1 hw
  have hwl := hw'.wl
  have hkl := hw'.kl
  simp at hwl hkl
  refine spec_of t_centoref07_Same (by simp) fun w0 I0 => ?_
  unfold c_centoref07_Same
  have no : (k ≠ b.kind∨w ≠ b.words∨l ≠ b.kids)→sameB (.mk k w l) b = false := fun h => by
    rw [Bool.eq_false_iff]
    intro e
    have := sameB_iff.1 e
    subst this
    simp at h
  by_cases h1 : k = b.kind
  · by_cases h2 : w = b.words
    · by_cases h3 : l.length = b.kids.length
      · simp [h1]
        refine sc_call_gf rfl (fun _ => rSame_spec w b.words hwl) (fun _ => rfl) rfl ?_
        simp [h2,h3]
        refine same_l1 (a := .mk k w l) (b := b) hkl h3 (fun c hc u => ih c hc (hw'.ks c hc) u) (by simp [h1,h2]) (by simp) l.length 0 (by simp) rfl (fun e i' q => ?_) (fun e => ?_)
        · simp
          have : sameB (.mk k w l) b = true := sameB_iff.2 (T.ext' h1 h2 e)
          rw [← h1,← h2,this]
          exact frz_bare rfl
        · simp
          rw [← h1,← h2,no (.inr (.inr e))]
          exact frz_bare rfl
      · simp [h1]
        refine sc_call_gf rfl (fun _ => rSame_spec w b.words hwl) (fun _ => rfl) rfl ?_
        simp [h2,h3]
        refine ⟨fun h => absurd (by omega) h3,fun _ => ?_⟩
        rw [← h1,← h2,no (.inr (.inr fun e => h3 (by rw [e])))]
        exact frz_bare rfl
    · simp [h1]
      refine sc_call_gf rfl (fun _ => rSame_spec w b.words hwl) (fun _ => rfl) rfl ?_
      simp [h2]
      rw [← h1,no (.inr (.inl h2))]
      exact frz_bare rfl
  · simp [h1]
    refine sc_call_off rfl ?_
    simp
    rw [no (.inl h1)]
    exact frz_bare rfl
section
variable {n0 : Nat} {w0 : World} {I0 : Nat→Prop} {Q : Exit→Sta→Prop}
theorem norm_l1 {t : T} (hl : t.kids.length * 56≤140737488355328) (ih : ∀ c,c ∈ t.kids→G.Spec Tryz.prog 56 [tX c] (tX (norm c))) {v : VOb} : ∀ (m i : Nat) (u : Nat) (H : Hp),i + m = t.kids.length→H [0] = ⟨1,.cells (tL t)⟩→H [1] = v→H [3] = ⟨u,.arr 3 (((t.kids.take i).map norm).map tA)⟩ →
    (∀ i' q (u' : Nat) (H' : Hp),H' [0] = ⟨1,.cells (tL t)⟩→H' [1] = v→H' [3] = ⟨u',.arr 3 ((t.kids.map norm).map tA)⟩→Q (.exit 0) ⟨lk [(1,.pob [0] 1 0),(2,.pob [1] 1 0),(3,.osl [3] u' 3 0 t.kids.length),(4,iv (trimK t.kids).length),(5,iv i'),(16,bv q)],H'⟩) →
    LoopC (cx Tryz.prog w0 I0 n0) l1_centoref07_Norm Q ⟨lk [(1,.pob [0] 1 0),(2,.pob [1] 1 0),(3,.osl [3] u 3 0 i),(4,iv (trimK (t.kids.take i)).length),(5,iv i)],H⟩ := by
  intro m
  induction m with
  | zero =>
    intro i u H hi hA hR hB hq
    have : i = t.kids.length := by omega
    subst this
    refine loopC_once mixed l1_centoref07_Norm.eq_1 ?_
    simp [hA]
    have := hq t.kids.length false u H hA hR (by rw [hB]; simp)
    simpa using this
  | succ m ihm =>
    intro i u H hi hA hR hB hq
    have hlt : i < t.kids.length := by omega
    refine loopC_once mixed l1_centoref07_Norm.eq_1 ?_
    simp [hA,hlt]
    refine sc_call (ih _ (List.getElem_mem hlt)) rfl ?_
    simp [updF_app,hB]
    have ei : IntKind.i64.wrap ((i : Int) + 1) = ((i + 1 : Nat) : Int) := i64_same (by omega) (by omega)
    have hrow := row_succ (f := tA ∘ norm) hlt (x := A.agg [iv t.kids[i].kind,uws (norm t.kids[i]).words,tKs (norm t.kids[i]).kids]) (by simp)
    rw [hrow]
    refine ⟨⟨by omega,by omega⟩,fun h => ?_,fun h => ?_⟩
    · rw [ei,← trimK_zero hlt h]
      exact ihm (i + 1) (u + 1) _ (by omega) (by simp [updF_app,hA]) (by simp [updF_app,hR]) (by simp [updF_app]) hq
    · have ek : (trimK (t.kids.take (i + 1))).length = i + 1 := by rw [trimK_stop hlt h]; simp; omega
      rw [ei]
      have := fun H h1 h2 h3 => ihm (i + 1) (u + 1) H (by omega) h1 h2 h3 hq
      rw [ek] at this
      exact this _ (by simp [updF_app,hA]) (by simp [updF_app,hR]) (by simp [updF_app])
end
theorem rNorm_spec : ∀ (t : T),wfT t→G.Spec Tryz.prog 56 [tX t] (tX (norm t)) := by
  refine T.ind fun k w l ih hw => ?_
  have hw' := wfT_iff.1 hw
  have hwl := hw'.wl
  have hkl := hw'.kl
  simp at hwl hkl
  refine spec_of t_centoref07_Norm (by simp) fun w0 I0 => ?_
  unfold c_centoref07_Norm
  rw [norm_mk]
  by_cases h0 : k = 0
  · simp [h0]
    exact frz_T0
  · simp [h0]
    refine LoopC.le (le_blank 3 [3] 3 (by simp)) ?_
    simp
    refine LoopC.le (le_list [(1,.pob [0] 1 0),(2,.pob [1] 1 0),(3,.osl [3] 1 3 0 0),(4,iv 0),(5,iv 0)] (by simp [upd])) ?_
    refine norm_l1 (t := .mk k w l) (by simpa using hkl) (fun c hc => ih c hc (hw'.ks c hc)) l.length 0 1 _ (by simp) (by simp) rfl (by simp) fun i' q u' H' hA hR hB => ?_
    have hle := trimK_le l
    by_cases h1 : k = 1
    · subst h1
      simp at hA hR hB
      simp [hA,hR,hB,hle,updF_app]
      refine sc_call (rTrim_spec w hwl) rfl ?_
      simp [hA,hR,hB,hle,updF_app]
      refine frz_agg ?_
      simp
      rw [trimK_map]
      refine ⟨frz_bare rfl,frz_bare rfl,?_⟩
      have := frz_rowT (H := updF H' [1] ⟨1,.cells [A.v (Value.int IntKind.i64 1),A.sl false (List.map uv (trimW w)),A.osl [3] u' 3 0 (trimK l).length]⟩) (o := [3]) (u := u') (sz := 3) (l := l) (f := tA ∘ norm) (by simp [updF_app,hB]) hle (by simp)
      rw [← List.map_take]
      show Frz _ _ (A.sl false (((l.take (trimK l).length).map norm).map tA))
      rw [List.map_map]
      exact this
    · simp at hA hR hB
      simp [hA,hR,hB,h1,updF_app]
      refine ⟨hwl,frz_agg ?_⟩
      simp
      refine ⟨frz_bare rfl,frz_row (by simp [updF_app]) rfl (by simp),?_⟩
      have := frz_row (H := updF (updF H' [4] { u := (H' [4]).u + 1,ob := Ob.arr 1 (List.map uv w) }) [1] ⟨1,.cells [A.v (Value.int IntKind.i64 k),A.osl [4] ((H' [4]).u + 1) 1 0 w.length,A.osl [3] u' 3 0 l.length]⟩) (o := [3]) (u := u') (sz := 3) (l := l) (f := tA ∘ norm) (by simp [updF_app,hB]) rfl (by simp)
      show Frz _ _ (A.sl false ((l.map norm).map tA))
      rw [List.map_map]
      exact this
theorem rEqual_spec {a b : T} (ha : wfT a) (hb : wfT b) (hn : wfT (norm a)) : G.Spec Tryz.prog 43 [tX a,tX b] (bv (eqT a b)) := by
  refine spec_of t_centoref07_Equal (by simp) fun w0 I0 => ?_
  unfold c_centoref07_Equal
  simp
  refine sc_call (rNorm_spec a ha) rfl ?_
  simp
  refine sc_call (rNorm_spec b hb) rfl ?_
  simp
  refine sc_call (rTSame_spec (norm a) hn (norm b)) rfl ?_
  simp
  exact frz_bare rfl
end Go.Proofs.YthfiijdbnkaabaaGreat

namespace Go.Proofs.YthfiijdbnkaabaaGreat
set_option linter.unusedVariables false
set_option linter.unusedSimpArgs false
open Go Go.G Go.Proofs Go.PL
abbrev raX (r : Rf) : A := .agg [iv r.kind,iv r.s,iv r.at_,iv r.data,iv r.kids,iv r.count,uv r.n]
def bitZ (g : List Int) (i : Int) : Int := if i < 0 then 0 else ((g[(i / 64).toNat]?).getD 0) / 2 ^ (i % 64).toNat % 2
section
variable {n0 : Nat} {w0 : World} {I0 : Nat→Prop} {Q : Exit→Sta→Prop} {H : Hp}
theorem rBit_l1 {i : Int} (hi : 0≤i) : ∀ (m : Nat) (x j : Int),0≤x→x < 18446744073709551616→0≤j→j + m = i % 64→(∀ j' b,Q (.exit 0) ⟨lk [(1,iv i),(5,uv (x / 2 ^ m)),(6,iv j'),(24,bv b)],H⟩) →
    LoopC (cx Tryz.prog w0 I0 n0) l1_centoref01_Bit Q ⟨lk [(1,iv i),(5,uv x),(6,iv j)],H⟩ := by
  have e : i.tmod 64 = i % 64 := Int.tmod_eq_emod_of_nonneg hi
  intro m
  induction m with
  | zero =>
    intro x j h0 h1 h2 h3 hq
    have : j = i % 64 := by simpa using h3
    subst this
    refine loopC_once mixed l1_centoref01_Bit.eq_1 ?_
    simp [e]
    simpa using hq _ _
  | succ m ih =>
    intro x j h0 h1 h2 h3 hq
    refine loopC_once mixed l1_centoref01_Bit.eq_1 ?_
    have hj : j < i % 64 := by omega
    simp [e,hj]
    rw [i64_same (by omega) (by omega),Int.tdiv_eq_ediv_of_nonneg h0,u64_same (by omega) (by omega)]
    exact ih _ _ (by omega) (by omega) (by omega) (by omega) (by rw [pow_half]; exact hq)
end
theorem rBit_spec {g : List Int} (hg : ∀ x,x ∈ g→0≤x∧x < 18446744073709551616) {i : Int} (hi1 : i < 1000000000000000000) (hi : 0≤i) : G.Spec Tryz.prog 160 [uws g,iv i] (uv (bitZ g i)) := by
  refine spec_of t_centoref01_Bit (by simp) fun w0 I0 => ?_
  unfold c_centoref01_Bit
  have e2 : IntKind.i64.wrap (i.tdiv 64) = i / 64 := by rw [Int.tdiv_eq_ediv_of_nonneg hi,i64_same (by omega) (by omega)]
  have hn : ¬ i < 0 := by omega
  have hd0 : 0≤i / 64 := by omega
  by_cases hr : (g.length : Int)≤i / 64
  · have en : g[(i / 64).toNat]? = none := List.getElem?_eq_none (by omega)
    simp [hn,e2,hr,hi]
    exact frz_is rfl (by simp [bitZ,en])
  · have hlt : (i / 64).toNat < g.length := by omega
    have hlt' : i / 64 < g.length := by omega
    have hx := hg _ (List.getElem_mem hlt)
    simp [hn,e2,hr,hi,hd0,hlt,hlt']
    have hx0 : 0≤g[(i / 64).toNat] / 2 ^ (i % 64).toNat := Int.ediv_nonneg hx.1 (Int.le_of_lt (Int.pow_pos (by decide)))
    have hx1 : g[(i / 64).toNat] / 2 ^ (i % 64).toNat < 18446744073709551616 := Int.lt_of_le_of_lt (Int.ediv_le_self _ hx.1) hx.2
    refine rBit_l1 hi (i % 64).toNat _ 0 hx.1 hx.2 (by omega) (by omega) fun j' b => ?_
    simp [Int.tmod_eq_emod_of_nonneg hx0]
    exact frz_is rfl (by simp [bitZ,hn,hlt])
theorem bits_up (y : Int) (m k : Nat) : y / 2 ^ (m + 1) % 2 ^ k * 2 + y / 2 ^ m % 2 = y / 2 ^ m % 2 ^ (k + 1) := by
  have e : y / 2 ^ (m + 1) = y / 2 ^ m / 2 := by
    rw [Int.pow_succ,Int.ediv_ediv_of_nonneg (Int.le_of_lt (Int.pow_pos (by decide)))]
  rw [e]
  generalize y / 2 ^ m = z
  have e2 : z % 2 ^ (k + 1) = z - 2 ^ (k + 1) * (z / 2 ^ (k + 1)) := Int.emod_def ..
  have e3 : z / 2 ^ (k + 1) = z / 2 / 2 ^ k := by rw [Int.pow_succ,Int.mul_comm,Int.ediv_ediv_of_nonneg (by decide)]
  have e4 : z / 2 % 2 ^ k = z / 2 - 2 ^ k * (z / 2 / 2 ^ k) := Int.emod_def ..
  rw [e2,e3,e4,Int.pow_succ,Int.mul_comm (2 ^ k) 2,Int.mul_assoc]
  generalize 2 ^ k * (z / 2 / 2 ^ k) = q
  omega
theorem bit_of {g : List Int} {i w : Int} (hi : 0≤i) (hw : w = 1∨w = 8∨w = 16∨w = 32∨w = 64) (m : Nat) (hm : (m : Int) < w) : bitZ g (i * w + m) = ((g[(i * w / 64).toNat]?).getD 0) / 2 ^ (i * w % 64).toNat / 2 ^ m % 2 := by
  have hp : 0≤i * w := by rcases hw with rfl | rfl | rfl | rfl | rfl <;> omega
  have h1 : (i * w + m) / 64 = i * w / 64∧(i * w + m) % 64 = i * w % 64 + m := by
    rcases hw with rfl | rfl | rfl | rfl | rfl <;> omega
  unfold bitZ
  rw [if_neg (by omega),h1.1,h1.2,Int.ediv_ediv_of_nonneg (Int.le_of_lt (Int.pow_pos (by decide))),← Int.pow_add]
  have : (i * w % 64 + (m : Int)).toNat = (i * w % 64).toNat + m := by omega
  rw [this]
section
variable {n0 : Nat} {w0 : World} {I0 : Nat→Prop} {Q : Exit→Sta→Prop} {H : Hp}
theorem rGet_l1 {g : List Int} (hg : ∀ x,x ∈ g→0≤x∧x < 18446744073709551616) {i w y : Int} (hi : 0≤i) (hi1 : i≤1099511627776) (hw : w = 1∨w = 8∨w = 16∨w = 32∨w = 64) (hy : y = ((g[(i * w / 64).toNat]?).getD 0) / 2 ^ (i * w % 64).toNat) (y0 : 0≤y) (y1 : y < 18446744073709551616) : ∀ (m : Nat) (k : Nat) (x j : Int),k + m = w→j = (m : Int) - 1→x = y / 2 ^ m % 2 ^ k →
    (∀ j' b,Q (.exit 0) ⟨lk [(0,uws g),(2,iv i),(7,iv w),(8,uv (y % 2 ^ w.toNat)),(9,iv j'),(25,bv b)],H⟩) →
    LoopC (cx Tryz.prog w0 I0 n0) l1_centoref01_Get Q ⟨lk [(0,uws g),(2,iv i),(7,iv w),(8,uv x),(9,iv j)],H⟩ := by
  intro m
  induction m with
  | zero =>
    intro k x j hk hj hx hq
    subst hj
    refine loopC_once mixed l1_centoref01_Get.eq_1 ?_
    simp
    have : w.toNat = k := by omega
    rw [this] at hq
    rw [hx]
    simpa using hq _ _
  | succ m ih =>
    intro k x j hk hj hx hq
    have hj' : j = m := by omega
    subst hj'
    have hm : (m : Int) < w := by omega
    have hb : 0≤i * w∧i * w≤70368744177664 := by rcases hw with rfl | rfl | rfl | rfl | rfl <;> omega
    have e1 : IntKind.i64.wrap (i * w) = i * w := i64_same (by omega) (by omega)
    have e2 : IntKind.i64.wrap (i * w + m) = i * w + m := i64_same (by omega) (by omega)
    have e3 : IntKind.i64.wrap ((m : Int) - 1) = m - 1 := i64_same (by omega) (by omega)
    refine loopC_once mixed l1_centoref01_Get.eq_1 ?_
    simp [e1,e2]
    refine sc_call (rBit_spec hg (i := i * w + m) (by omega) (by omega)) rfl ?_
    simp [e3]
    rw [bit_of hi hw m hm,← hy]
    have hu := bits_up y m k
    have hz0 : 0≤y / 2 ^ m := Int.ediv_nonneg y0 (Int.le_of_lt (Int.pow_pos (by decide)))
    have hz1 : y / 2 ^ m≤y := Int.ediv_le_self _ y0
    have p2 : (0 : Int) < 2 ^ (k + 1) := Int.pow_pos (by omega)
    have m0 := Int.emod_nonneg (y / 2 ^ m) (by omega : (2 : Int) ^ (k + 1) ≠ 0)
    have m1 : y / 2 ^ m % 2 ^ (k + 1)≤y / 2 ^ m := by
      rw [Int.emod_def]
      have := Int.mul_nonneg (a := 2 ^ (k + 1)) (b := y / 2 ^ m / 2 ^ (k + 1)) (by omega) (Int.ediv_nonneg hz0 (by omega))
      omega
    have p3 : (0 : Int) < 2 ^ k := Int.pow_pos (by omega)
    have n0 := Int.emod_nonneg (y / 2 ^ (m + 1)) (by omega : (2 : Int) ^ k ≠ 0)
    rw [← hx] at hu n0
    rw [u64_same (n := x * 2) (by omega) (by omega),u64_same (by omega) (by omega)]
    exact ih (k + 1) _ _ (by omega) rfl hu hq
end
theorem rGet_spec {g : List Int} (hg : ∀ x,x ∈ g→0≤x∧x < 18446744073709551616) (c i : Int) : G.Spec Tryz.prog 144 [uws g,iv c,iv i] (uv (getZ g c i)) := by
  refine spec_of t_centoref01_Get (by simp) fun w0 I0 => ?_
  unfold c_centoref01_Get
  simp
  refine sc_call (rWidth_spec c) rfl ?_
  have hw := widthZ_cases c
  by_cases h0 : widthZ c < 1∨i < 0∨1099511627776 < i
  · have e : getZ g c i = 0 := by unfold getZ; rw [if_pos h0]
    rw [e]
    have hd : (decide (widthZ c < 1) || decide (i < 0) || decide (1099511627776 < i)) = true := by simp; omega
    simp [hd]
    exact frz_bare rfl
  · have hw1 : widthZ c = 1∨widthZ c = 8∨widthZ c = 16∨widthZ c = 32∨widthZ c = 64 := by omega
    have hd : (decide (widthZ c < 1) || decide (i < 0) || decide (1099511627776 < i)) = false := by simp; omega
    have hi0 : 0≤i := by omega
    have e : getZ g c i = ((g[(i * widthZ c / 64).toNat]?).getD 0) / 2 ^ (i * widthZ c % 64).toNat % 2 ^ (widthZ c).toNat := by unfold getZ; rw [if_neg h0]
    rw [e]
    simp [hd]
    clear e hw
    generalize widthZ c = w at hw1 h0
    rw [i64_same (by omega) (by omega)]
    have hx : 0≤(g[(i * w / 64).toNat]?).getD 0∧(g[(i * w / 64).toNat]?).getD 0 < 18446744073709551616 := by
      cases e : g[(i * w / 64).toNat]? with
      | none => simp
      | some x => exact hg x (List.mem_of_getElem? e)
    have y0 : 0≤(g[(i * w / 64).toNat]?).getD 0 / 2 ^ (i * w % 64).toNat := Int.ediv_nonneg hx.1 (Int.le_of_lt (Int.pow_pos (by decide)))
    have y1 : (g[(i * w / 64).toNat]?).getD 0 / 2 ^ (i * w % 64).toNat < 18446744073709551616 := Int.lt_of_le_of_lt (Int.ediv_le_self _ hx.1) hx.2
    refine rGet_l1 hg hi0 (by omega) hw1 rfl y0 y1 w.toNat 0 0 _ (by omega) (by omega) (by simp) fun j' b => ?_
    simp
    exact frz_is rfl rfl
theorem raKids_spec (r : Rf) : G.Spec Tryz.prog 121 [raX r] (iv (nk r)) := by
  refine spec_of t_centoref09_Ref_Kids (by simp) fun w0 I0 => ?_
  unfold c_centoref09_Ref_Kids
  by_cases h1 : r.kind = 1
  · simp [h1]; exact frz_is rfl (by simp [nk,h1])
  · simp [h1]; exact frz_is rfl (by simp [nk,h1])
theorem raAt_spec {l : List (List Int)} (hs : Sg l) (s a : Int) : G.Spec Tryz.prog 83 [sgs l,iv s,iv a] (.tup [raX (atP l s a).1,iv (atP l s a).2]) := by
  have hf := follow_folw hs.w s a
  refine spec_of t_centoref09_At (by simp) fun w0 I0 => ?_
  unfold c_centoref09_At
  simp
  refine sc_call (refFollow_spec l hs.b hs.w s a) rfl ?_
  unfold atP
  generalize followP l s a = x at hf
  obtain ⟨x,e⟩ := x
  unfold Folw at hf
  simp only at hf ⊢
  by_cases hc : e ≠ 0∨x.p.kind = 0
  · have hd : (!decide (e = 0) || decide (x.p.kind = 0)) = true := by simp; omega
    simp [hd,hc]
    exact frz_is rfl (by simp [Rf.zero])
  · have hd : (!decide (e = 0) || decide (x.p.kind = 0)) = false := by simp; omega
    have he : e = 0 := by omega
    obtain h0 | ⟨hk,hsh,hw⟩ := hf he
    · omega
    have hbd := hasW_bound hs hw
    rw [if_neg hc]
    simp [hd]
    unfold refP
    by_cases k1 : x.p.kind = 1
    · simp [k1,he]
      exact frz_is rfl rfl
    · have k2 : x.p.kind = 2 := by omega
      obtain ⟨c0,c1,_,_⟩ := hsh.k2 k2
      by_cases c7 : x.p.code < 7
      · have e2 : IntKind.i64.wrap (2 + x.p.code) = 2 + x.p.code := i64_same (by omega) (by omega)
        simp [k1,c7,e2]
        exact ⟨frz_is rfl rfl,fun h => absurd h (by omega)⟩
      · rw [wordsP_comp k2 (by omega)] at hw
        have hcnt := (hsh.k2 k2).2.2
        obtain ⟨q1,q2,q3,q4,q5,q6,q7⟩ := hasW_in hw
        simp only [Option.getD_some] at q7
        have q8 : x.at_.toNat < l[x.s.toNat].length := by omega
        have q9 : x.at_ < l[x.s.toNat].length := by omega
        have e0 : (word l x.s x.at_).getD 0 = l[x.s.toNat][x.at_.toNat] := by
          unfold word
          rw [if_pos q3,q6]
          simp [q8]
        have h0 : 0≤(word l x.s x.at_).getD 0∧(word l x.s x.at_).getD 0 < 18446744073709551616 := by
          cases e : word l x.s x.at_ with
          | none => simp
          | some x => exact word_in hs.w e
        simp [k1,c7,q1,q2,q3,q5,q8,q9,ws]
        unfold compP
        rw [← e0]
        generalize (word l x.s x.at_).getD 0 = w at h0
        intro _
        refine sc_call (refDecode_spec h0.1 h0.2) rfl ?_
        have hsh := dec_shp h0.1 h0.2
        have ho := dec_off h0.1 h0.2
        have hdp : 0≤(dec w).data∧(dec w).data < 65536∧0≤(dec w).ptrs∧(dec w).ptrs < 65536 := by
          unfold dec
          repeat' split
          all_goals simp
          all_goals omega
        generalize dec w = p at hsh ho hdp
        have hb : -70368744177664≤p.off * (p.data + p.ptrs)∧p.off * (p.data + p.ptrs)≤70368744177664 := by
          have b1 : p.off * (p.data + p.ptrs)≤536870912 * (p.data + p.ptrs) := Int.mul_le_mul_of_nonneg_right (by omega) (by omega)
          have b2 : -536870912 * (p.data + p.ptrs)≤p.off * (p.data + p.ptrs) := Int.mul_le_mul_of_nonneg_right (by omega) (by omega)
          omega
        have e1 : IntKind.i64.wrap (p.data + p.ptrs) = p.data + p.ptrs := i64_same (by omega) (by omega)
        have e2 : IntKind.i64.wrap (p.off * (p.data + p.ptrs)) = p.off * (p.data + p.ptrs) := i64_same (by omega) (by omega)
        have e3 : IntKind.i64.wrap (x.at_ + 1) = x.at_ + 1 := i64_same (by omega) (by omega)
        by_cases hc : (w ≠ 0∧p.kind ≠ 1)∨p.off < 0∨x.p.count < p.off * (p.data + p.ptrs)
        · have hd : (((!decide (w = 0) && !decide (p.kind = 1)) || decide (p.off < 0)) || decide (x.p.count < p.off * (p.data + p.ptrs))) = true := by simp; omega
          rw [if_pos hc]
          simp [e1,e2,hd]
          exact frz_is rfl (by simp [Rf.zero])
        · have hd : (((!decide (w = 0) && !decide (p.kind = 1)) || decide (p.off < 0)) || decide (x.p.count < p.off * (p.data + p.ptrs))) = false := by simp; omega
          rw [if_neg hc]
          simp [e1,e2,e3,hd]
          exact frz_is rfl rfl
theorem raKid_spec {l : List (List Int)} (hs : Sg l) {r : Rf} (hr : RfOk l r) (i : Int) : G.Spec Tryz.prog 122 [raX r,sgs l,iv i] (.tup [raX (kidP l r i).1,iv (kidP l r i).2]) := by
  refine spec_of t_centoref09_Ref_Kid (by simp) fun w0 I0 => ?_
  unfold c_centoref09_Ref_Kid
  simp
  refine sc_call_gf rfl (fun _ => raKids_spec r) (fun e => by simp [e]) (by simp) ?_
  by_cases hi : i < 0∨nk r≤i
  · have hd : (decide (i < 0) || decide (nk r≤i)) = true := by simpa using hi
    simp [hd]
    exact frz_is rfl (by simp [kidP,hi,Rf.zero])
  · have hd : (decide (i < 0) || decide (nk r≤i)) = false := by simpa using hi
    have hi0 : 0≤i := by omega
    have hi1 : i < nk r := by omega
    have hk := nk_nonneg hr
    rw [kidP,if_neg hi]
    cases hr with
    | zero => simp [nk,Rf.zero] at hi1; omega
    | str s a d k a1 a2 a3 a4 h =>
      have hb := hasW_bound hs h
      have e1 : IntKind.i64.wrap (IntKind.i64.wrap (a + d) + i) = a + d + i := by
        rw [i64_same (n := a + d) (by omega) (by omega),i64_same (by omega) (by omega)]
      simp [hd,e1]
      refine sc_call (raAt_spec hs s (a + d + i)) rfl ?_
      simp
      exact frz_is rfl rfl
    | dat c s a n a1 a2 a3 a4 h =>
      have n1 : ¬ (2 + c = 1) := by omega
      have n8 : ¬ (2 + c = 8) := by omega
      have n9 : ¬ (2 + c = 9) := by omega
      obtain ⟨q1,q2,q3,q4,q5,q6,q7⟩ := hasW_in h
      have hz : 0≤(n * bitsOf c + 63) / 64 := q4
      have q8 : a≤l[s.toNat].length := by omega
      have e2 : IntKind.i64.wrap (2 + c - 2) = 2 + c - 2 := i64_same (by omega) (by omega)
      have et : List.take (l[s.toNat].length - a.toNat) (List.drop a.toNat (List.map uv l[s.toNat])) = (l[s.toNat].drop a.toNat).map uv := by
        rw [List.take_of_length_le (by simp),List.map_drop]
      simp [hd,n1,n8,n9,q1,q2,q3,q5,q8,e2,et]
      refine sc_calle (L := [uws (l[s.toNat].drop a.toNat),iv (2 + c - 2),iv i]) (by simp) (rGet_spec (fun x hx => hs.w _ (List.getElem_mem q5) x (List.mem_of_mem_drop hx)) (2 + c - 2) i) rfl ?_
      simp
      exact frz_is rfl (by simp [atomZ,q6])
    | ptrs s a n a1 a2 h =>
      have hb := hasW_bound hs h
      have e1 : IntKind.i64.wrap (a + i) = a + i := i64_same (by omega) (by omega)
      simp [hd,e1]
      refine sc_call (raAt_spec hs s (a + i)) rfl ?_
      simp
      exact frz_is rfl rfl
    | comp s a d k n a1 a2 a3 a4 a5 a6 h =>
      have hb := hasW_bound hs h
      have hn : i < n := by simpa [nk] using hi1
      have m1 : 0≤i * (d + k) := Int.mul_nonneg hi0 (by omega)
      have m2 : i * (d + k)≤n * (d + k) := mul_le_of (by omega) (by omega)
      have e1 : IntKind.i64.wrap (d + k) = d + k := i64_same (by omega) (by omega)
      have e2 : IntKind.i64.wrap (i * (d + k)) = i * (d + k) := i64_same (by omega) (by omega)
      have e3 : IntKind.i64.wrap (a + i * (d + k)) = a + i * (d + k) := i64_same (by omega) (by omega)
      simp [hd,e1,e2,e3]
      exact frz_is rfl rfl
    | atom n a1 a2 => simp [nk] at hi1; omega
theorem raWords_spec {l : List (List Int)} (hs : Sg l) {r : Rf} (hr : RfOk l r) : G.Spec Tryz.prog 120 [raX r,sgs l] (uws (wordsR l r)) := by
  refine spec_of t_centoref09_Ref_Words (by simp) fun w0 I0 => ?_
  unfold c_centoref09_Ref_Words
  by_cases h10 : r.kind = 10
  · simp [h10]
    have : wordsR l r = [r.n] := by simp [wordsR,h10]
    rw [this]
    exact frz_sl
  by_cases h1 : r.kind = 1
  · cases hr with
    | str s a d k a1 a2 a3 a4 h =>
      obtain ⟨q1,q2,q3,q4,q5,q6,q7⟩ := hasW_in h
      have hbd := hasW_bound hs h
      have e1 : IntKind.i64.wrap (a + d) = a + d := i64_same (by omega) (by omega)
      have g1 : a≤a + d := by omega
      have g2 : a + d≤l[s.toNat].length := by omega
      have g3 := hs.b _ (List.getElem_mem q5)
      have g4 : 0≤a + d := by omega
      have g5 : a.toNat≤(a + d).toNat := by omega
      have g6 : (a + d).toNat≤l[s.toNat].length := by omega
      have g7 : max (a + d) 0 = a + d := by omega
      simp [e1,q1,q2,q3,q5,g1,g2,g4,g5,g6,g7]
      have gl : (List.take ((a + d).toNat - a.toNat) (List.drop a.toNat (List.map uv l[s.toNat]))) = (part l s a d).map uv := by
        simp only [part,q6,Option.getD_some,List.map_take,List.map_drop]
        congr 1
        omega
      refine ⟨by omega,?_⟩
      rw [gl]
      have : wordsR l ⟨1,s,a,d,k,0,0⟩ = part l s a d := by simp [wordsR]
      rw [this]
      exact frz_row (sz := 1) (by simp) (by simp [part,q6]; omega) (by simp)
    | dat c s a n a1 a2 a3 a4 h => simp at h1; omega
    | _ => simp [Rf.zero] at h1
  · have : wordsR l r = [] := by simp [wordsR,h1,h10]
    rw [this]
    simp [h1,h10]
    exact frz_sl
end Go.Proofs.YthfiijdbnkaabaaGreat

namespace Go.Proofs.YthfiijdbnkaabaaGreat
set_option linter.unusedVariables false
set_option linter.unusedSimpArgs false
open Go Go.G Go.Proofs Go.PL
abbrev LB (l : List (List Int)) (B : Int) (rec : Rf→Int→T × Int × Int) : Prop := ∀ r,RfOk l r→∀ left : Int,0≤left→left≤B→0≤(rec r left).2.1∧(rec r left).2.1≤B
theorem loopM_lb {B : Int} {f : Nat→Int→T × Int × Int} (hf : ∀ i left,0≤left→left≤B→0≤(f i left).2.1∧(f i left).2.1≤B) : ∀ (m i : Nat) (acc : List T) (left : Int),0≤left→left≤B→0≤(loopM f m i acc left).2.1∧(loopM f m i acc left).2.1≤B
  | 0,i,acc,left,h0,h1 => ⟨h0,h1⟩
  | m + 1,i,acc,left,h0,h1 => by
    rw [loopM]
    have := hf i left h0 h1
    split
    · exact this
    · exact loopM_lb hf m _ _ _ this.1 this.2
theorem stepM_lb {l : List (List Int)} (hw : Wds l) {B : Int} {rec : Rf→Int→T × Int × Int} (h : LB l B rec) {r : Rf} (hr : RfOk l r) (i : Nat) (left : Int) (h0 : 0≤left) (h1 : left≤B) : 0≤(stepM l rec r i left).2.1∧(stepM l rec r i left).2.1≤B := by
  unfold stepM
  split
  · exact ⟨h0,h1⟩
  · exact h _ (kid_ok hw hr i) _ h0 h1
theorem kidsM_lb {l : List (List Int)} (hw : Wds l) {B : Int} {rec : Rf→Int→T × Int × Int} (h : LB l B rec) : LB l B (kidsM l rec) := fun r hr left h0 h1 =>
  loopM_lb (stepM_lb hw h hr) _ _ _ _ h0 h1
theorem leafM_lb {l : List (List Int)} {B : Int} : LB l B (leafM l) := fun r hr left h0 h1 => ⟨h0,h1⟩
theorem costM_pos {l : List (List Int)} {r : Rf} (hr : RfOk l r) : 1≤costM r∧costM r≤100000000000000 := by
  cases hr with
  | zero => simp [costM,nk,Rf.zero]
  | str s a d k a1 a2 a3 a4 h => simp [costM]; omega
  | dat c s a n a1 a2 a3 a4 h => simp [costM,nk]; rw [if_neg (by omega),if_neg (by omega),if_neg (by omega)]; omega
  | ptrs s a n a1 a2 h => simp [costM,nk]; omega
  | comp s a d k n a1 a2 a3 a4 a5 a6 h =>
    simp [costM]
    have m1 : 0≤n * (1 + d + k) := Int.mul_nonneg (by omega) (by omega)
    have m2 : n * (1 + d + k)≤536870912 * (1 + d + k) := mul_le_of (by omega) (by omega)
    omega
  | atom n a1 a2 => simp [costM,nk]
theorem restM_lb {l : List (List Int)} (hw : Wds l) {B : Int} {r : Rf} (hr : RfOk l r) {rec1 rec2 : Rf→Int→T × Int × Int} (h1 : LB l B rec1) (h2 : LB l B rec2) {left : Int} (h3 : ¬ left < costM r) (h4 : left≤B) : 0≤(restM l r rec1 rec2 left).2.1∧(restM l r rec1 rec2 left).2.1≤B := by
  have := costM_pos hr
  unfold restM
  refine loopM_lb (stepM_lb hw ?_ hr) _ _ _ _ (by omega) (by omega)
  split
  · exact kidsM_lb hw h2
  · split
    · exact h1
    · exact leafM_lb
theorem meaning_lb {l : List (List Int)} (hw : Wds l) {B : Int} : ∀ d : Nat,LB l B (meaning l d)
  | 0,r,hr,left,h0,h1 => by
    rw [meaning]; split <;> exact ⟨h0,h1⟩
  | 1,r,hr,left,h0,h1 => by
    rw [meaning]
    split
    · exact ⟨h0,h1⟩
    · split
      · exact ⟨h0,h1⟩
      · split
        · exact ⟨h0,h1⟩
        · rename_i hc
          exact restM_lb hw hr (meaning_lb hw 0) (fun r hr left h0 h1 => ⟨h0,h1⟩) hc h1
  | d + 2,r,hr,left,h0,h1 => by
    rw [meaning]
    split
    · exact ⟨h0,h1⟩
    · split
      · exact ⟨h0,h1⟩
      · rename_i hc
        exact restM_lb hw hr (meaning_lb hw (d + 1)) (meaning_lb hw d) hc h1
abbrev M3 (x : T × Int × Int) : A := .tup [tX x.1,iv x.2.1,iv x.2.2]
abbrev raL (r : Rf) : List A := [iv r.kind,iv r.s,iv r.at_,iv r.data,iv r.kids,iv r.count,uv r.n]
abbrev RecS (l : List (List Int)) (g : FuncId) (d : Nat) (B : Int) (rec : Rf→Int→T × Int × Int) : Prop := ∀ r,RfOk l r→∀ left : Int,0≤left→left≤B→G.Spec Tryz.prog g [sgs l,raX r,iv d,iv left] (M3 (rec r left))
abbrev zT : List A := [iv 0,.sl true [],.sl true []]
theorem kids_in {l : List (List Int)} {r : Rf} (hr : RfOk l r) : 0≤r.kids∧r.kids < 65536 := by
  cases hr <;> simp [Rf.zero] <;> omega
section
variable {n0 : Nat} {w0 : World} {I0 : Nat→Prop} {Q : Exit→Sta→Prop}
theorem rkids_l1 {l : List (List Int)} (hs : Sg l) {r : Rf} (hr : RfOk l r) {rec : Rf→Int→T × Int × Int} {d : Nat} {B : Int} (hrec : RecS l 84 d B rec) (hlb : LB l B rec) {W : List Int} {ks : List T} {lf e : Int} : ∀ (m i u : Nat) (acc : List T) (left : Int) (H : Hp),(i : Int) + m = r.kids→acc.length = i→0≤left→left≤B→H [0] = ⟨1,.cells (raL r)⟩→H [1] = ⟨1,.cells zT⟩→H [2] = ⟨1,.cells [iv 1,uws W,.osl [5] u 3 0 i]⟩→H [5] = ⟨u,.arr 3 (acc.map tA)⟩→loopM (stepM l rec r) m i acc left = (ks,lf,e) →
    (e = 0→∀ i' q u' H',H' [1] = ⟨1,.cells zT⟩→H' [2] = ⟨1,.cells [iv 1,uws W,.osl [5] u' 3 0 ks.length]⟩→H' [5] = ⟨u',.arr 3 (ks.map tA)⟩→Q (.exit 0) ⟨lk [(0,sgs l),(2,iv d),(3,iv lf),(5,.pob [0] 1 0),(8,.pob [1] 1 0),(11,.pob [2] 1 0),(12,iv i'),(25,bv q)],H'⟩) →
    (e ≠ 0→∀ u' H',H' [1] = ⟨1,.cells [iv 1,uws W,.osl [5] u' 3 0 ks.length]⟩→H' [5] = ⟨u',.arr 3 (ks.map tA)⟩→Q .ret ⟨lk [(8,.pob [1] 1 0),(9,iv lf),(10,iv e)],H'⟩) →
    LoopC (cx Tryz.prog w0 I0 n0) l1_centoref10_kids Q ⟨lk [(0,sgs l),(2,iv d),(3,iv left),(5,.pob [0] 1 0),(8,.pob [1] 1 0),(11,.pob [2] 1 0),(12,iv i)],H⟩ := by
  have hb := kids_in hr
  intro m
  induction m with
  | zero =>
    intro i u acc left H hi ha h0 h1 hA hR hO hK hX hq hq2
    have : (i : Int) = r.kids := by omega
    rw [loopM] at hX
    cases hX
    refine loopC_once mixed l1_centoref10_kids.eq_1 ?_
    simp [hA,this]
    refine hq rfl _ _ u H hR (by rw [hO,ha]) hK
  | succ m ihm =>
    intro i u acc left H hi ha h0 h1 hA hR hO hK hX hq hq2
    have hlt : (i : Int) < r.kids := by omega
    have ei : IntKind.i64.wrap ((i : Int) + 1) = ((i + 1 : Nat) : Int) := i64_same (by omega) (by omega)
    rw [loopM] at hX
    refine loopC_once mixed l1_centoref10_kids.eq_1 ?_
    simp [hA,hlt]
    refine sc_call (raKid_spec hs hr i) (by simp) ?_
    by_cases he : (kidP l r i).2 = 0
    · have hst : stepM l rec r i left = rec (kidP l r i).1 left := by rw [stepM,if_neg (by omega)]
      rw [hst] at hX
      have hlb' := hlb _ (kid_ok hs.w hr i) left h0 h1
      simp [he,hA,hR,hO,hK,updF_app]
      refine sc_call (hrec _ (kid_ok hs.w hr i) left h0 h1) (by simp) ?_
      generalize hy : rec (kidP l r i).1 left = y at hX hlb'
      obtain ⟨y,yl,ye⟩ := y
      simp only at hX hlb'
      by_cases hye : ye = 0
      · rw [if_neg (by simp [hye])] at hX
        simp [hye,hA,hR,hO,hK,updF_app]
        have hrow : List.take i (acc.map tA) ++ [tX y] = (acc ++ [y]).map tA := by rw [List.take_of_length_le (by simp; omega)]; simp
        have hrow' : List.take i (acc.map tA) = acc.map tA := List.take_of_length_le (by simp; omega)
        rw [ei]
        refine ⟨⟨by omega,by omega⟩,?_⟩
        exact ihm (i + 1) (u + 1) (acc ++ [y]) yl _ (by omega) (by simp [ha]) hlb'.1 hlb'.2 (by simp [updF_app,hA]) (by simp [updF_app,hR]) (by simp [updF_app]) (by simp [updF_app,hrow']) hX hq hq2
      · rw [if_pos hye] at hX
        simp only [Prod.mk.injEq] at hX
        obtain ⟨rfl,rfl,rfl⟩ := hX
        simp [hye,hA,hR,hO,hK,updF_app]
        refine hq2 hye u _ ?_ ?_
        · simp [updF_app,hR,ha]
        · simp [updF_app,hK]
    · have hst : stepM l rec r i left = (T0,left,(kidP l r i).2) := by rw [stepM,if_pos he]
      rw [hst,if_pos he] at hX
      simp only [Prod.mk.injEq] at hX
      obtain ⟨rfl,rfl,rfl⟩ := hX
      simp [he,hA,hR,hO,hK,updF_app]
      refine hq2 he u _ ?_ ?_
      · simp [updF_app,hR,ha]
      · simp [updF_app,hK]
end
theorem rkids_spec {l : List (List Int)} (hs : Sg l) {rec : Rf→Int→T × Int × Int} {d : Nat} {B : Int} (hrec : RecS l 84 d B rec) (hlb : LB l B rec) : RecS l 123 d B (kidsM l rec) := fun r hr left h0 h1 => by
  have hb := kids_in hr
  refine spec_of t_centoref10_kids (by simp) fun w0 I0 => ?_
  unfold c_centoref10_kids
  simp
  refine sc_call (raWords_spec hs hr) (by simp) ?_
  simp
  refine LoopC.le (le_blankC (d := [2]) 2 [5] 3 rfl rfl (by simp)) ?_
  simp
  generalize hX : loopM (stepM l rec r) r.kids.toNat 0 [] left = X
  obtain ⟨ks,lf,e⟩ := X
  have fin : ∀ (H : Hp) (u : Nat),H [5] = ⟨u,.arr 3 (ks.map tA)⟩→Frz H (.tup [.agg [iv 1,uws (wordsR l r),.osl [5] u 3 0 ks.length],iv lf,iv e]) (M3 (kidsM l rec r left)) := fun H u hH => by
    unfold kidsM
    rw [hX]
    refine frz_tup ?_
    simp
    refine ⟨frz_agg ?_,frz_bare rfl,frz_bare rfl⟩
    simp
    exact ⟨frz_bare rfl,frz_bare rfl,frz_row (by simp [hH]) rfl (by simp)⟩
  refine rkids_l1 (W := wordsR l r) hs hr hrec hlb r.kids.toNat 0 1 [] left _ (by omega) rfl h0 h1 (by simp) (by simp) (by simp) (by simp) hX (fun he i' q u' H' hR hO hK => ?_) (fun he u' H' hR hK => ?_)
  · simp [hR,hO,hK,updF_app]
    rw [← he]
    exact fin _ u' (by simp [updF_app,hK])
  · simp [hR,hK,updF_app]
    exact fin _ u' hK
end Go.Proofs.YthfiijdbnkaabaaGreat

namespace Go.Proofs.YthfiijdbnkaabaaGreat
set_option linter.unusedVariables false
set_option linter.unusedSimpArgs false
open Go Go.G Go.Proofs Go.PL
def rawT (b : Bool) (t : T) : A := if b = true then .agg [iv t.kind,uws t.words,.sl true []] else tA t
theorem frz_raw {H : Hp} {o : Nm} {u n : Nat} {b : Bool} {l : List T} (h : vr (H o) u = some (3,l.map (rawT b))) (hn : n = l.length) (hb : b = true→∀ t,t ∈ l→t.kids = []) : Frz H (.osl o u 3 0 n) (tKs l) := by
  subst hn
  cases b with
  | false =>
    have e : rawT false = tA := by funext t; simp [rawT]
    rw [e] at h
    exact frz_row (by simpa using h) rfl (by simp)
  | true =>
    refine frz_osl' (xs := l.map (rawT true)) (by simpa using h) (by simp) (by simp) (fun y hy => ?_) ?_ ?_
    · obtain ⟨x,hx,rfl⟩ := List.mem_map.1 hy
      simp
    · simp only [A.ones,List.all_eq_true,List.mem_flatMap]
      rintro y ⟨z,hz,hy⟩
      obtain ⟨x,hx,rfl⟩ := List.mem_map.1 hz
      simp at hy
      rcases hy with rfl | rfl | rfl <;> rfl
    · rw [List.drop_zero,List.take_of_length_le (by simp)]
      have : ∀ (m : List T),(∀ x,x ∈ m→x ∈ l)→FrzL H ((m.map (rawT true)).flatMap A.cells) ((m.map tA).flatMap A.cells) := by
        intro m
        induction m with
        | nil => intro _; simp
        | cons x m ih =>
          intro hm
          have := hb rfl x (hm x (by simp))
          have := ih fun y hy => hm y (by simp [hy])
          simp [rawT] at this ⊢
          exact ⟨frz_bare rfl,frz_bare rfl,by rw [hb rfl x (hm x (by simp))]; exact frz_sl,this⟩
      exact this l fun x hx => hx
def recM (l : List (List Int)) (r : Rf) (rec1 rec2 : Rf→Int→T × Int × Int) : Rf→Int→T × Int × Int := if r.kind = 9 then kidsM l rec2 else if r.kind = 1∨r.kind = 8 then rec1 else leafM l
def leafB (r : Rf) : Bool := !(decide (r.kind = 9) || decide (r.kind = 1) || decide (r.kind = 8))
theorem leaf_kids {l : List (List Int)} {r : Rf} {rec1 rec2 : Rf→Int→T × Int × Int} (hb : leafB r = true) : ∀ (m i : Nat) (acc : List T) (left : Int),(∀ t,t ∈ acc→t.kids = [])→∀ t,t ∈ (loopM (stepM l (recM l r rec1 rec2) r) m i acc left).1→t.kids = []
  | 0,i,acc,left,ha,t,ht => ha t ht
  | m + 1,i,acc,left,ha,t,ht => by
    have e : recM l r rec1 rec2 = leafM l := by
      simp [leafB] at hb
      rw [recM,if_neg hb.1.1,if_neg (by omega)]
    rw [loopM] at ht
    split at ht
    · exact ha t ht
    · refine leaf_kids hb m _ _ _ (fun t ht => ?_) t ht
      rcases List.mem_append.1 ht with h | h
      · exact ha t h
      · simp only [List.mem_singleton] at h
        subst h
        rw [e]
        unfold stepM
        split
        · rfl
        · rfl
section
variable {n0 : Nat} {w0 : World} {I0 : Nat→Prop} {Q : Exit→Sta→Prop}
theorem meaning_l1 {l : List (List Int)} (hs : Sg l) {r : Rf} (hr : RfOk l r) {rec1 rec2 : Rf→Int→T × Int × Int} {d : Nat} (hd : d≤1000) {B : Int}
    (h1 : r.kind = 1∨r.kind = 8→∃ d1 : Nat,d = d1 + 1∧RecS l 84 d1 B rec1∧LB l B rec1)
    (h2 : r.kind = 9→0 < r.count→∃ d2 : Nat,d = d2 + 2∧RecS l 123 d2 B (kidsM l rec2)∧LB l B (kidsM l rec2))
    {W : List Int} {ks : List T} {lf e : Int} : ∀ (m i u : Nat) (acc : List T) (left : Int) (H : Hp),(i : Int) + m = nk r→acc.length = i→0≤left→left≤B→H [0] = ⟨1,.cells (raL r)⟩→H [1] = ⟨1,.cells zT⟩→H [2] = ⟨1,.cells [iv r.kind,uws W,.osl [5] u 3 0 i]⟩→H [5] = ⟨u,.arr 3 (acc.map (rawT (leafB r)))⟩→loopM (stepM l (recM l r rec1 rec2) r) m i acc left = (ks,lf,e) →
    (e = 0→∀ i' q u' H',H' [1] = ⟨1,.cells zT⟩→H' [2] = ⟨1,.cells [iv r.kind,uws W,.osl [5] u' 3 0 ks.length]⟩→H' [5] = ⟨u',.arr 3 (ks.map (rawT (leafB r)))⟩→Q (.exit 0) ⟨lk [(0,sgs l),(2,iv d),(3,iv lf),(5,.pob [0] 1 0),(8,.pob [1] 1 0),(11,.pob [2] 1 0),(13,iv i'),(82,bv q)],H'⟩) →
    (e ≠ 0→∀ u' H',H' [1] = ⟨1,.cells [iv r.kind,uws W,.osl [5] u' 3 0 ks.length]⟩→H' [5] = ⟨u',.arr 3 (ks.map (rawT (leafB r)))⟩→Q .ret ⟨lk [(8,.pob [1] 1 0),(9,iv lf),(10,iv e)],H'⟩) →
    LoopC (cx Tryz.prog w0 I0 n0) l1_centoref10_Meaning Q ⟨lk [(0,sgs l),(2,iv d),(3,iv left),(5,.pob [0] 1 0),(8,.pob [1] 1 0),(11,.pob [2] 1 0),(13,iv i)],H⟩ := by
  have hb := nk_nonneg hr
  intro m
  induction m with
  | zero =>
    intro i u acc left H hi ha h0 hl hA hR hO hK hX hq hq2
    have : (i : Int) = nk r := by omega
    rw [loopM] at hX
    cases hX
    refine loopC_once mixed l1_centoref10_Meaning.eq_1 ?_
    simp [hA]
    refine sc_call (raKids_spec r) (by simp) ?_
    simp [this]
    refine hq rfl _ _ u H hR (by rw [hO,ha]) hK
  | succ m ihm =>
    intro i u acc left H hi ha h0 hl hA hR hO hK hX hq hq2
    have hlt : (i : Int) < nk r := by omega
    have ei : IntKind.i64.wrap ((i : Int) + 1) = ((i + 1 : Nat) : Int) := i64_same (by omega) (by omega)
    have hrow : List.take i (acc.map (rawT (leafB r))) = acc.map (rawT (leafB r)) := List.take_of_length_le (by simp; omega)
    rw [loopM] at hX
    refine loopC_once mixed l1_centoref10_Meaning.eq_1 ?_
    simp [hA]
    refine sc_call (raKids_spec r) (by simp) ?_
    simp [hA,hlt]
    refine sc_call (raKid_spec hs hr i) (by simp) ?_
    have hok := kid_ok hs.w hr i
    have next : ∀ (y : T) (yl ye : Int),stepM l (recM l r rec1 rec2) r i left = (y,yl,ye)→ye = 0→0≤yl→yl≤B→∀ (x : A) (H' : Hp),rawT (leafB r) y = x→H' [0] = ⟨1,.cells (raL r)⟩→H' [1] = ⟨1,.cells zT⟩→H' [2] = ⟨1,.cells [iv r.kind,uws W,.osl [5] (u + 1) 3 0 (i + 1)]⟩→H' [5] = ⟨u + 1,.arr 3 (acc.map (rawT (leafB r)) ++ [x])⟩ →
        LoopC (cx Tryz.prog w0 I0 n0) l1_centoref10_Meaning Q ⟨lk [(0,sgs l),(2,iv d),(3,iv yl),(5,.pob [0] 1 0),(8,.pob [1] 1 0),(11,.pob [2] 1 0),(13,iv ((i + 1 : Nat) : Int))],H'⟩ := fun y yl ye hy he y0 y1 x H' hx a0 a1 a2 a5 => by
      rw [hy,if_neg (by simp [he])] at hX
      exact ihm (i + 1) (u + 1) (acc ++ [y]) yl H' (by omega) (by simp [ha]) y0 y1 a0 a1 a2 (by rw [a5,← hx]; simp) hX hq hq2
    by_cases he : (kidP l r i).2 = 0
    · have hst : stepM l (recM l r rec1 rec2) r i left = recM l r rec1 rec2 (kidP l r i).1 left := by rw [stepM,if_neg (by omega)]
      rw [hst] at hX next
      simp [he,hA,hR,hO,hK,updF_app]
      refine sc_call (raWords_spec hs hok) (by simp) ?_
      simp [he,hA,hR,hO,hK,updF_app]
      by_cases h9 : r.kind = 9
      · have hrec : recM l r rec1 rec2 = kidsM l rec2 := by rw [recM,if_pos h9]
        have hlf : leafB r = false := by simp [leafB,h9]
        rw [hrec] at hX next
        obtain ⟨d2,ed,hsp,hlb⟩ := h2 h9 (by unfold nk at hlt; rw [if_neg (by omega)] at hlt; omega)
        have e2 : IntKind.i64.wrap ((d : Int) - 2) = (d2 : Int) := by rw [i64_same (by omega) (by omega)]; omega
        have hlb' := hlb _ hok left h0 hl
        simp [h9,e2,hA,updF_app]
        refine sc_call (hsp _ hok left h0 hl) (by simp) ?_
        generalize hy : kidsM l rec2 (kidP l r i).1 left = y at hX hlb' next
        obtain ⟨y,yl,ye⟩ := y
        simp only at hX hlb'
        rw [k1_centoref10_Meaning.eq_1]
        by_cases hye : ye = 0
        · simp [hye,hA,hR,hO,hK,updF_app,hrow]
          rw [ei]
          refine ⟨⟨by omega,by omega⟩,?_⟩
          refine next y yl ye rfl hye hlb'.1 hlb'.2 _ _ rfl ?_ ?_ ?_ ?_
          · simp [updF_app,hA]
          · simp [updF_app,hR]
          · simp [updF_app,h9]
          · simp [updF_app,hlf,rawT]
        · rw [if_pos hye] at hX
          simp only [Prod.mk.injEq] at hX
          obtain ⟨rfl,rfl,rfl⟩ := hX
          simp [hye,hA,hR,hO,hK,updF_app]
          refine hq2 hye u _ ?_ ?_
          · simp [updF_app,hR,ha,h9]
          · simp [updF_app,hK]
      · by_cases h18 : r.kind = 1∨r.kind = 8
        · have hrec : recM l r rec1 rec2 = rec1 := by rw [recM,if_neg h9,if_pos h18]
          have hlf : leafB r = false := by rcases h18 with h | h <;> simp [leafB,h]
          have hdc : (decide (r.kind = 1) || decide (r.kind = 8)) = true := by simpa using h18
          rw [hrec] at hX next
          obtain ⟨d1,ed,hsp,hlb⟩ := h1 h18
          have e2 : IntKind.i64.wrap ((d : Int) - 1) = (d1 : Int) := by rw [i64_same (by omega) (by omega)]; omega
          have hlb' := hlb _ hok left h0 hl
          simp [h9,hdc,e2,hA,updF_app]
          refine ⟨fun _ => ?_,fun a b => by omega⟩
          refine sc_call (hsp _ hok left h0 hl) (by simp) ?_
          generalize hy : rec1 (kidP l r i).1 left = y at hX hlb' next
          obtain ⟨y,yl,ye⟩ := y
          simp only at hX hlb'
          rw [k1_centoref10_Meaning.eq_1]
          by_cases hye : ye = 0
          · simp [hye,hA,hR,hO,hK,updF_app,hrow]
            rw [ei]
            refine ⟨⟨by omega,by omega⟩,?_⟩
            refine next y yl ye rfl hye hlb'.1 hlb'.2 _ _ rfl ?_ ?_ ?_ ?_
            · simp [updF_app,hA]
            · simp [updF_app,hR]
            · simp [updF_app]
            · simp [updF_app,hlf,rawT]
          · rw [if_pos hye] at hX
            simp only [Prod.mk.injEq] at hX
            obtain ⟨rfl,rfl,rfl⟩ := hX
            simp [hye,hA,hR,hO,hK,updF_app]
            refine hq2 hye u _ ?_ ?_
            · simp [updF_app,hR,ha]
            · simp [updF_app,hK]
        · have hrec : recM l r rec1 rec2 = leafM l := by rw [recM,if_neg h9,if_neg h18]
          have hlf : leafB r = true := by simp [leafB]; omega
          have hdc : (decide (r.kind = 1) || decide (r.kind = 8)) = false := by simpa using h18
          rw [hrec] at next
          simp [h9,hdc,hA,updF_app]
          rw [k1_centoref10_Meaning.eq_1]
          simp [he,hA,hR,hO,hK,updF_app,hrow]
          rw [ei]
          refine ⟨fun h => absurd h h18,fun _ _ => ⟨⟨by omega,by omega⟩,?_⟩⟩
          refine next _ _ _ rfl rfl h0 hl _ _ rfl ?_ ?_ ?_ ?_
          · simp [updF_app,hA]
          · simp [updF_app,hR]
          · simp [updF_app]
          · simp [updF_app,hlf,rawT]
    · have hst : stepM l (recM l r rec1 rec2) r i left = (T0,left,(kidP l r i).2) := by rw [stepM,if_pos he]
      rw [hst,if_pos he] at hX
      simp only [Prod.mk.injEq] at hX
      obtain ⟨rfl,rfl,rfl⟩ := hX
      simp [he,hA,hR,hO,hK,updF_app]
      refine hq2 he u _ ?_ ?_
      · simp [updF_app,hR,ha]
      · simp [updF_app,hK]
end
theorem meaning_step {l : List (List Int)} (hs : Sg l) {r : Rf} (hr : RfOk l r) {rec1 rec2 : Rf→Int→T × Int × Int} {d : Nat} (hd : d≤1000) {B : Int} (hB : B≤1000000)
    (h1 : r.kind = 1∨r.kind = 8→0 < d→∃ d1 : Nat,d = d1 + 1∧RecS l 84 d1 B rec1∧LB l B rec1)
    (h2 : r.kind = 9→0 < r.count→1 < d→∃ d2 : Nat,d = d2 + 2∧RecS l 123 d2 B (kidsM l rec2)∧LB l B (kidsM l rec2))
    {left : Int} (h0 : 0≤left) (hl : left≤B) {X : T × Int × Int} (hX : X = if r.kind = 0 then leafM l r left else if d < 1∨(r.kind = 9∧0 < r.count∧d < 2) then stopM l r left else if left < costM r then stopM l r left else restM l r rec1 rec2 left) : G.Spec Tryz.prog 84 [sgs l,raX r,iv d,iv left] (M3 X) := by
  have hb := nk_nonneg hr
  have hc := costM_pos hr
  refine spec_of t_centoref10_Meaning (by simp) fun w0 I0 => ?_
  unfold c_centoref10_Meaning
  simp
  refine sc_call (raWords_spec hs hr) (by simp) ?_
  have leaf : ∀ (H : Hp) (k lf e : Int) (X : T × Int × Int),X = (.mk k (wordsR l r) [],lf,e)→Frz H (.tup [.agg [iv k,uws (wordsR l r),.sl true []],iv lf,iv e]) (M3 X) := fun H k lf e X hX => by
    rw [hX]
    exact frz_tup (by simp; exact ⟨frz_agg (by simp; exact ⟨frz_bare rfl,frz_bare rfl,frz_sl⟩),frz_bare rfl,frz_bare rfl⟩)
  by_cases k0 : r.kind = 0
  · rw [if_pos k0,leafM,k0] at hX
    simp [k0]
    exact leaf _ _ _ _ _ hX
  rw [if_neg k0] at hX
  by_cases hst : d < 1∨(r.kind = 9∧0 < r.count∧d < 2)
  · have hd : (decide ((d : Int) < 1) || ((decide (r.kind = 9) && decide (0 < r.count)) && decide ((d : Int) < 2))) = true := by simp; omega
    rw [if_pos hst,stopM] at hX
    by_cases d0 : (d : Int) < 1
    · simp [k0,d0]
      exact leaf _ _ _ _ _ hX
    · have h9 : r.kind = 9 := by omega
      have hcn : 0 < r.count := by omega
      have d2 : (d : Int) < 2 := by omega
      simp [k0,d0,h9,hcn,d2]
      rw [h9] at hX
      exact leaf _ _ _ _ _ hX
  rw [if_neg hst] at hX
  have d0 : ¬ (d : Int) < 1 := by omega
  have fin : ∀ (H : Hp),H [0] = ⟨1,.cells (raL r)⟩→H [1] = ⟨1,.cells zT⟩→H [2] = ⟨1,.cells [iv r.kind,uws (wordsR l r),.sl true []]⟩→H [5] = ⟨0,.none⟩→WPC (cx Tryz.prog w0 I0 149) k2_centoref10_Meaning (RetC Tryz.prog [.cell 8 25,.tmp 9,.tmp 10] (M3 X)) ⟨lk [(0,sgs l),(2,iv d),(3,iv left),(5,.pob [0] 1 0),(8,.pob [1] 1 0),(11,.pob [2] 1 0),(12,iv (costM r))],H⟩ := fun H hA hR hO hN => by
    rw [k2_centoref10_Meaning.eq_1]
    by_cases hlc : left < costM r
    · rw [if_pos hlc,stopM] at hX
      simp [hlc,hA,hR,hO,updF_app]
      exact leaf _ _ _ _ _ hX
    · rw [if_neg hlc,restM] at hX
      have ew : IntKind.i64.wrap (left - costM r) = left - costM r := i64_same (by omega) (by omega)
      simp [hlc,hA,hR,hO,updF_app,ew]
      have hX' : X = (.mk r.kind (wordsR l r) (loopM (stepM l (recM l r rec1 rec2) r) (nk r).toNat 0 [] (left - costM r)).1,(loopM (stepM l (recM l r rec1 rec2) r) (nk r).toNat 0 [] (left - costM r)).2.1,(loopM (stepM l (recM l r rec1 rec2) r) (nk r).toNat 0 [] (left - costM r)).2.2) := hX
      have hleaf := fun hb => leaf_kids (rec1 := rec1) (rec2 := rec2) (l := l) (r := r) hb (nk r).toNat 0 [] (left - costM r) (by simp)
      generalize hY : loopM (stepM l (recM l r rec1 rec2) r) (nk r).toNat 0 [] (left - costM r) = Y at hX' hleaf
      obtain ⟨ks,lf,e⟩ := Y
      have done : ∀ (H : Hp) (u : Nat),H [5] = ⟨u,.arr 3 (ks.map (rawT (leafB r)))⟩→Frz H (.tup [.agg [iv r.kind,uws (wordsR l r),.osl [5] u 3 0 ks.length],iv lf,iv e]) (M3 X) := fun H u hH => by
        rw [hX']
        exact frz_tup (by simp; exact ⟨frz_agg (by simp; exact ⟨frz_bare rfl,frz_bare rfl,frz_raw (by simp [hH]) rfl hleaf⟩),frz_bare rfl,frz_bare rfl⟩)
      refine LoopC.le (le_blankC (d := [2]) 2 [5] 3 hO rfl (by simp)) ?_
      refine meaning_l1 (W := wordsR l r) hs hr hd (fun k => h1 k (by omega)) (fun k k' => h2 k k' (by omega)) (nk r).toNat 0 1 [] (left - costM r) _ (by omega) rfl (by omega) (by omega) (by simp [updF_app,hA]) (by simp [updF_app,hR]) (by simp [updF_app,hN]) (by simp [updF_app,hN]) hY (fun he i' q u' H' hR hO hK => ?_) (fun he u' H' hR hK => ?_)
      · simp [hR,hO,hK,updF_app]
        rw [← he]
        exact done _ u' (by simp [updF_app,hK])
      · simp [hR,hK,updF_app]
        exact done _ u' hK
  have b0 : decide (r.kind = 0) = false := by simpa using k0
  have hst' : ((decide (r.kind = 9) && decide (0 < r.count)) && decide ((d : Int) < 2)) = false := by
    simp only [Bool.and_eq_false_iff,decide_eq_false_iff_not]
    omega
  simp [b0,d0,hst']
  refine sc_call (raKids_spec r) (by simp) ?_
  have ek : IntKind.i64.wrap (1 + nk r) = 1 + nk r := i64_same (by omega) (by omega)
  by_cases k1 : r.kind = 1
  · have b1 : decide (r.kind = 1) = true := by simpa using k1
    have b9 : decide (r.kind = 9) = false := by simp [k1]
    have ec : IntKind.i64.wrap (IntKind.i64.wrap (1 + r.data) + r.kids) = costM r := by
      cases hr with
      | str s a d k a1 a2 a3 a4 h =>
        rw [i64_same (n := 1 + _) (by simp; omega) (by simp; omega),i64_same (by simp; omega) (by simp; omega)]
        simp [costM]
      | dat c s a n a1 a2 a3 a4 h => simp at k1; omega
      | _ => simp [Rf.zero] at k1
    simp [b1]
    rw [k3_centoref10_Meaning.eq_1]
    simp [b9,ec]
    exact fin _ (by simp) (by simp) (by simp) (by simp)
  · have b1 : decide (r.kind = 1) = false := by simpa using k1
    by_cases k9 : r.kind = 9
    · have b9 : decide (r.kind = 9) = true := by simpa using k9
      have ec : IntKind.i64.wrap (1 + IntKind.i64.wrap (r.count * IntKind.i64.wrap (IntKind.i64.wrap (1 + r.data) + r.kids))) = costM r := by
        have e : costM r = 1 + r.count * (1 + r.data + r.kids) := by simp [costM,k9]
        have hd : 0≤r.data∧r.data < 65536∧0≤r.kids∧r.kids < 65536 := by
          cases hr with
          | comp s a d k n a1 a2 a3 a4 a5 a6 h => exact ⟨a1,a2,a3,a4⟩
          | dat c s a n a1 a2 a3 a4 h => simp at k9; omega
          | _ => simp [Rf.zero] at k9
        rw [i64_same (n := 1 + r.data) (by omega) (by omega),i64_same (n := 1 + r.data + r.kids) (by omega) (by omega),i64_same (n := r.count * _) (by omega) (by omega),i64_same (by omega) (by omega),e]
      simp [b1,ek]
      rw [k3_centoref10_Meaning.eq_1]
      simp [b9,ec]
      exact fin _ (by simp) (by simp) (by simp) (by simp)
    · have b9 : decide (r.kind = 9) = false := by simpa using k9
      have ec : 1 + nk r = costM r := by simp [costM,k1,k9]
      have ek' : IntKind.i64.wrap (1 + nk r) = costM r := by rw [ek,ec]
      simp [b1,ek']
      rw [k3_centoref10_Meaning.eq_1]
      simp [b9]
      refine fin _ ?_ ?_ ?_ ?_ <;> simp
theorem meaning_spec {l : List (List Int)} (hs : Sg l) {B : Int} (hB : B≤1000000) : ∀ d : Nat,d≤1000→RecS l 84 d B (meaning l d)
  | 0,hd,r,hr,left,h0,hl => by
    refine meaning_step hs hr hd hB (rec1 := leafM l) (rec2 := leafM l) (fun _ h => absurd h (by omega)) (fun _ _ h => absurd h (by omega)) h0 hl ?_
    rw [meaning]
    simp
  | 1,hd,r,hr,left,h0,hl => by
    refine meaning_step hs hr hd hB (rec1 := meaning l 0) (rec2 := fun r left => stopM l r left) (fun _ _ => ⟨0,rfl,meaning_spec hs hB 0 (by omega),meaning_lb hs.w 0⟩) (fun _ _ h => absurd h (by omega)) h0 hl ?_
    rw [meaning]
    simp
  | d + 2,hd,r,hr,left,h0,hl => by
    refine meaning_step hs hr hd hB (rec1 := meaning l (d + 1)) (rec2 := meaning l d) (fun _ _ => ⟨d + 1,rfl,meaning_spec hs hB (d + 1) (by omega),meaning_lb hs.w (d + 1)⟩) (fun _ _ _ => ⟨d,rfl,rkids_spec hs (meaning_spec hs hB d (by omega)) (meaning_lb hs.w d),kidsM_lb hs.w (meaning_lb hs.w d)⟩) h0 hl ?_
    have n1 : ¬ (d + 2 < 1∨r.kind = 9∧0 < r.count∧d + 2 < 2) := by omega
    rw [meaning,if_neg n1]
end Go.Proofs.YthfiijdbnkaabaaGreat

namespace Go.Proofs.YthfiijdbnkaabaaGreat
set_option linter.unusedVariables false
set_option linter.unusedSimpArgs false
open Go Go.G Go.Proofs Go.PL
def clampZ (x m : Int) : Int := if x < 0 then 0 else if m < x then m else x
theorem within10_spec (x m : Int) : G.Spec Tryz.prog 117 [iv x,iv m] (iv (clampZ x m)) := by
  refine spec_of t_centoref10_within (by simp) fun w0 I0 => ?_
  unfold c_centoref10_within
  by_cases h : x < 0
  · simp [h]
    exact frz_is rfl (by simp [clampZ,h])
  · by_cases h2 : m < x
    · simp [h,h2]
      exact frz_is rfl (by simp [clampZ,h,h2])
    · simp [h,h2]
      exact frz_is rfl (by simp [clampZ,h,h2])
abbrev liX (a b c d : Int) : A := .agg [iv a,iv b,iv c,iv d]
set_option maxRecDepth 100000 in
theorem limits_spec (a b c d : Int) : G.Spec Tryz.prog 82 [liX a b c d] (liX (clampZ a 64) (clampZ b 65536) (clampZ c 4096) (clampZ d 131072)) := by
  refine spec_of t_centoref10_Limits (by simp) fun w0 I0 => ?_
  unfold c_centoref10_Limits
  simp
  refine sc_call (within10_spec a 64) rfl ?_
  simp
  refine sc_call (within10_spec b 65536) rfl ?_
  simp
  refine sc_call (within10_spec c 4096) rfl ?_
  simp
  refine sc_call (within10_spec d 131072) rfl ?_
  simp
  exact frz_bare rfl
def unfP (l : List (List Int)) (a b : Int) : T × Int × Int :=
  if (atP l 0 0).2 ≠ 0 then (T0,0,(atP l 0 0).2)
  else if (meaning l (clampZ a 64).toNat (atP l 0 0).1 (clampZ b 65536)).2.2 ≠ 0 then (T0,0,(meaning l (clampZ a 64).toNat (atP l 0 0).1 (clampZ b 65536)).2.2)
  else ((meaning l (clampZ a 64).toNat (atP l 0 0).1 (clampZ b 65536)).1,clampZ b 65536 - (meaning l (clampZ a 64).toNat (atP l 0 0).1 (clampZ b 65536)).2.1,0)
theorem clamp_in (x m : Int) (h : 0≤m) : 0≤clampZ x m∧clampZ x m≤m := by
  unfold clampZ; split
  · omega
  · split <;> omega
theorem unfold_spec {l : List (List Int)} (hs : Sg l) (a b c d : Int) : G.Spec Tryz.prog 54 [sgs l,liX a b c d] (M3 (unfP l a b)) := by
  have ha := clamp_in a 64 (by decide)
  have hb := clamp_in b 65536 (by decide)
  refine spec_of t_centoref10_Unfold (by simp) fun w0 I0 => ?_
  unfold c_centoref10_Unfold
  simp
  refine sc_call (limits_spec a b c d) rfl ?_
  simp
  refine sc_call (raAt_spec hs 0 0) rfl ?_
  simp
  unfold unfP
  have hok := at_ok hs.w 0 0
  generalize hx : atP l 0 0 = x at hok
  obtain ⟨r,e⟩ := x
  simp only
  by_cases he : e = 0
  · rw [if_neg (by simp [he])]
    obtain ⟨D,hD⟩ : ∃ D : Nat,clampZ a 64 = (D : Int) := ⟨(clampZ a 64).toNat,by omega⟩
    have hm := meaning_spec hs (B := 65536) (by omega) D (by omega) r hok (clampZ b 65536) hb.1 hb.2
    have hlb := meaning_lb hs.w (B := 65536) D r hok (clampZ b 65536) hb.1 hb.2
    simp [he,hD]
    refine sc_call hm (by simp) ?_
    generalize meaning l D r (clampZ b 65536) = y at hlb
    obtain ⟨t,lf,e2⟩ := y
    simp only at hlb ⊢
    by_cases he2 : e2 = 0
    · have ew : IntKind.i64.wrap (clampZ b 65536 - lf) = clampZ b 65536 - lf := i64_same (by omega) (by omega)
      simp [he2,ew]
      exact frz_bare (tup_bare (by simp))
    · simp [he2]
      exact frz_tup (by simp; exact ⟨frz_T0,frz_bare rfl,frz_bare rfl⟩)
  · rw [if_pos he]
    simp [he]
    exact frz_tup (by simp; exact ⟨frz_T0,frz_bare rfl,frz_bare rfl⟩)
theorem unfold_means {l : List (List Int)} (hs : Sg l) {a b : Int} (h : (unfP l a b).2.2 = 0) : Means l (atP l 0 0).1 (unfP l a b).1 := by
  unfold unfP at h ⊢
  split at h
  · rename_i h0; exact absurd h h0
  · rename_i h0
    rw [if_neg h0]
    split at h
    · rename_i h1; exact absurd h h1
    · rename_i h1
      rw [if_neg h1]
      exact meaning_means hs.w _ _ _ (at_ok hs.w 0 0) (by omega)
end Go.Proofs.YthfiijdbnkaabaaGreat

namespace Go.PL
set_option linter.unusedVariables false
set_option linter.unusedSimpArgs false
def ptrZ (at_ to kind upper : Int) : Int := 4 * (if to - at_ - 1 < 0 then to - at_ - 1 + 1073741824 else to - at_ - 1) + kind + upper * 4294967296
def putL (w : Nat) : List Int→Nat→List Int→List Int
  | [],_,out => out
  | n :: ns,i,out => putL w ns (i + 1) (if w = 0 then out else out.set (i * w / 64) (out.getD (i * w / 64) 0 + n * 2 ^ (i * w % 64)))
def putZ (c : Int) (ns : List Int) : List Int := putL (widthZ c).toNat ns 0 (List.replicate (roomZ c ns.length).toNat 0)
def hd (t : T) : Int := t.words.headD 0
def setW : Nat→List Int→List Int→List Int
  | _,[],l => l
  | b,x :: ws,l => setW (b + 1) ws (l.set b x)
def rowsC (w k : Nat) : List T→List Int
  | [] => []
  | t :: ts => t.words ++ List.replicate (w + k - t.words.length) 0 ++ rowsC w k ts
mutual
def layT : T→Nat→List Int→List Int
  | .mk k w ks,at_,l =>
    if k = 0 then l
    else if k = 1 then layL ks (l.length + w.length) (l.set at_ (ptrZ at_ (if w.length + ks.length = 0 then at_ else l.length) 0 ((w.length : Int) + 65536 * ks.length)) ++ w ++ List.replicate ks.length 0)
    else if k = 8 then layL ks l.length (l.set at_ (ptrZ at_ l.length 1 (6 + 8 * ks.length)) ++ List.replicate ks.length 0)
    else if k = 9 then layC (frameW ks) (frameK ks) ks (l.length + 1) (l.set at_ (ptrZ at_ l.length 1 (7 + 8 * (ks.length * (frameW ks + frameK ks) : Nat))) ++ [4 * (ks.length : Int) + 4294967296 * ((frameW ks : Int) + 65536 * frameK ks)] ++ rowsC (frameW ks) (frameK ks) ks)
    else l.set at_ (ptrZ at_ l.length 1 (k - 2 + 8 * ks.length)) ++ putZ (k - 2) (ks.map hd)
def layL : List T→Nat→List Int→List Int
  | [],_,l => l
  | t :: ts,at_,l => layL ts (at_ + 1) (layT t at_ l)
def layC (w k : Nat) : List T→Nat→List Int→List Int
  | [],_,l => l
  | .mk _ _ ks :: ts,at_,l => layC w k ts (at_ + (w + k)) (layL ks (at_ + w) l)
end
theorem layT_mk (k : Int) (w : List Int) (ks : List T) (at_ : Nat) (l : List Int) : layT (.mk k w ks) at_ l = if k = 0 then l
    else if k = 1 then layL ks (l.length + w.length) (l.set at_ (ptrZ at_ (if w.length + ks.length = 0 then at_ else l.length) 0 ((w.length : Int) + 65536 * ks.length)) ++ w ++ List.replicate ks.length 0)
    else if k = 8 then layL ks l.length (l.set at_ (ptrZ at_ l.length 1 (6 + 8 * ks.length)) ++ List.replicate ks.length 0)
    else if k = 9 then layC (frameW ks) (frameK ks) ks (l.length + 1) (l.set at_ (ptrZ at_ l.length 1 (7 + 8 * (ks.length * (frameW ks + frameK ks) : Nat))) ++ [4 * (ks.length : Int) + 4294967296 * ((frameW ks : Int) + 65536 * frameK ks)] ++ rowsC (frameW ks) (frameK ks) ks)
    else l.set at_ (ptrZ at_ l.length 1 (k - 2 + 8 * ks.length)) ++ putZ (k - 2) (ks.map hd) := by rw [layT]
@[simp] theorem layL_nil (at_ : Nat) (l : List Int) : layL [] at_ l = l := by rw [layL]
@[simp] theorem layL_cons (t : T) (ts : List T) (at_ : Nat) (l : List Int) : layL (t :: ts) at_ l = layL ts (at_ + 1) (layT t at_ l) := by rw [layL]
@[simp] theorem layC_nil (w k at_ : Nat) (l : List Int) : layC w k [] at_ l = l := by rw [layC]
@[simp] theorem layC_cons (w k : Nat) (t : T) (ts : List T) (at_ : Nat) (l : List Int) : layC w k (t :: ts) at_ l = layC w k ts (at_ + (w + k)) (layL t.kids (at_ + w) l) := by cases t; rw [layC]; rfl
theorem putL_length : ∀ (w : Nat) (ns : List Int) (i : Nat) (out : List Int),(putL w ns i out).length = out.length
  | w,[],i,out => rfl
  | w,n :: ns,i,out => by
    rw [putL,putL_length]
    split <;> simp
@[simp] theorem putZ_length (c : Int) (ns : List Int) : (putZ c ns).length = (roomZ c ns.length).toNat := by simp [putZ,putL_length]
@[simp] theorem setW_length : ∀ (b : Nat) (ws l : List Int),(setW b ws l).length = l.length
  | _,[],_ => rfl
  | b,x :: ws,l => by rw [setW,setW_length,List.length_set]
structure PutI (w i : Nat) (out : List Int) : Prop where
  rng : ∀ (j : Nat) (h : j < out.length),0≤out[j]∧out[j] < 18446744073709551616
  here : ∀ (h : i * w / 64 < out.length),out[i * w / 64] < 2 ^ (i * w % 64)
  zero : ∀ (j : Nat) (h : j < out.length),i * w / 64 < j→out[j] = 0
theorem PutI.start (w m : Nat) : PutI w 0 (List.replicate m 0) := ⟨fun j h => by simp,fun h => by simp,fun j h _ => by simp⟩
theorem putI_step {w i : Nat} {out : List Int} (h : PutI w i out) (hw : w = 1∨w = 8∨w = 16∨w = 32∨w = 64) {n : Int} (h0 : 0≤n) (h1 : n < 2 ^ w) (hl : i * w / 64 < out.length) : PutI w (i + 1) (out.set (i * w / 64) (out.getD (i * w / 64) 0 + n * 2 ^ (i * w % 64))) ∧
    0≤out.getD (i * w / 64) 0∧out.getD (i * w / 64) 0 < 2 ^ (i * w % 64)∧n * 2 ^ (i * w % 64) < 18446744073709551616∧out.getD (i * w / 64) 0 + n * 2 ^ (i * w % 64) < 18446744073709551616 := by
  have hg : out.getD (i * w / 64) 0 = out[i * w / 64] := by simp [hl]
  rw [hg]
  obtain ⟨r0,r1⟩ := h.rng _ hl
  have hh := h.here hl
  have hs : i * w % 64 + w≤64 := by
    rcases hw with rfl | rfl | rfl | rfl | rfl <;> omega
  have hp : (0 : Int) < 2 ^ (i * w % 64) := Int.pow_pos (by decide)
  have hsum : out[i * w / 64] + n * 2 ^ (i * w % 64) < 2 ^ (i * w % 64 + w) := by
    have e1 : n * 2 ^ (i * w % 64)≤(2 ^ w - 1) * 2 ^ (i * w % 64) := Int.mul_le_mul_of_nonneg_right (by omega) (by omega)
    have e2 : (2 ^ w - 1) * 2 ^ (i * w % 64) = (2 : Int) ^ (i * w % 64 + w) - 2 ^ (i * w % 64) := by
      rw [Int.sub_mul,Int.one_mul,Int.pow_add,Int.mul_comm]
    omega
  have hle : (2 : Int) ^ (i * w % 64 + w)≤2 ^ 64 := by
    have e : ∀ k : Nat,(2 : Int) ^ k = ((2 ^ k : Nat) : Int) := fun k => by simp
    rw [e,e]
    exact Int.ofNat_le.2 (Nat.pow_le_pow_right (by decide) hs)
  have hnn : 0≤n * 2 ^ (i * w % 64) := Int.mul_nonneg h0 (by omega)
  have h64 : (2 : Int) ^ 64 = 18446744073709551616 := by decide
  refine ⟨⟨fun j hj => ?_,fun hj => ?_,fun j hj hlt => ?_⟩,r0,hh,by omega,by omega⟩
  · rw [List.getElem_set]
    split
    · omega
    · exact h.rng j (by simpa using hj)
  · rw [List.getElem_set]
    split
    · rename_i e
      have e3 : (i + 1) * w % 64 = i * w % 64 + w := by
        rw [Nat.add_mul,Nat.one_mul] at e ⊢
        rcases hw with rfl | rfl | rfl | rfl | rfl <;> omega
      rw [e3]
      exact hsum
    · rename_i e
      have e4 : i * w / 64 < (i + 1) * w / 64 := by
        have : i * w / 64≤(i + 1) * w / 64 := Nat.div_le_div_right (by rw [Nat.add_mul]; omega)
        omega
      rw [h.zero _ (by simpa using hj) e4]
      exact Int.pow_pos (by decide)
  · have e5 : i * w / 64≤(i + 1) * w / 64 := Nat.div_le_div_right (by rw [Nat.add_mul]; omega)
    rw [List.getElem_set]
    split
    · omega
    · exact h.zero j (by simpa using hj) (by omega)
theorem put_at {w n i : Nat} (hw : w = 1∨w = 8∨w = 16∨w = 32∨w = 64) (h : i < n) : i * w / 64 < (n * w + 63) / 64 := by
  have : (i + 1) * w≤n * w := Nat.mul_le_mul_right _ h
  rw [Nat.add_mul] at this
  rcases hw with rfl | rfl | rfl | rfl | rfl <;> omega
def LS (f : Nat→List Int→List Int) (n : Nat) : Prop := ∀ (at_ p : Nat) (x : Int) (l : List Int),p < l.length→(p < at_∨at_ + n≤p)→f at_ (l.set p x) = (f at_ l).set p x
def LM (f : Nat→List Int→List Int) : Prop := ∀ (at_ : Nat) (l : List Int),l.length≤(f at_ l).length
theorem set_app {l m : List Int} {p : Nat} {x : Int} (h : p < l.length) : l.set p x ++ m = (l ++ m).set p x := by rw [List.set_append_left _ _ h]
theorem layL_ls : ∀ {ts : List T},(∀ t,t ∈ ts→LS (layT t) 1∧LM (layT t))→LS (layL ts) ts.length∧LM (layL ts)
  | [],_ => ⟨fun at_ p x l _ _ => by simp,fun at_ l => by simp⟩
  | t :: ts,h => by
    obtain ⟨h1,h2⟩ := h t (by simp)
    obtain ⟨h3,h4⟩ := layL_ls (ts := ts) fun u hu => h u (by simp [hu])
    refine ⟨fun at_ p x l hp hr => ?_,fun at_ l => ?_⟩
    · simp only [List.length_cons] at hr
      have := h2 at_ l
      rw [layL_cons,layL_cons,h1 at_ p x l hp (by omega),h3 (at_ + 1) p x _ (by omega) (by omega)]
    · rw [layL_cons]
      exact Nat.le_trans (h2 at_ l) (h4 _ _)
theorem layC_ls {w k : Nat} : ∀ {ts : List T},(∀ t,t ∈ ts→LS (layL t.kids) t.kids.length∧LM (layL t.kids))→(∀ (at_ p : Nat) (x : Int) (l : List Int),p < l.length→p < at_→layC w k ts at_ (l.set p x) = (layC w k ts at_ l).set p x)∧LM (layC w k ts)
  | [],_ => ⟨fun at_ p x l _ _ => by simp,fun at_ l => by simp⟩
  | t :: ts,h => by
    obtain ⟨h1,h2⟩ := h t (by simp)
    obtain ⟨h3,h4⟩ := layC_ls (w := w) (k := k) (ts := ts) fun u hu => h u (by simp [hu])
    refine ⟨fun at_ p x l hp hr => ?_,fun at_ l => ?_⟩
    · have := h2 (at_ + w) l
      rw [layC_cons,layC_cons,h1 (at_ + w) p x l hp (by omega),h3 _ p x _ (by omega) (by omega)]
    · rw [layC_cons]
      exact Nat.le_trans (h2 _ l) (h4 _ _)
theorem lay_ls : ∀ t : T,(LS (layT t) 1∧LM (layT t))∧(LS (layL t.kids) t.kids.length∧LM (layL t.kids)) := by
  refine T.ind fun k w ks ih => ?_
  have hK := layL_ls fun t ht => (ih t ht).1
  have hC := fun (w k : Nat) => layC_ls (w := w) (k := k) fun t ht => (ih t ht).2
  refine ⟨⟨fun at_ p x l hp hr => ?_,fun at_ l => ?_⟩,hK⟩
  · have hne : at_ ≠ p := by omega
    rw [layT_mk,layT_mk]
    simp only [List.length_set]
    split
    · rfl
    · split
      · rw [List.set_comm _ _ (Ne.symm hne),set_app (by simpa using hp),set_app (by simp; omega),hK.1 _ _ _ _ (by simp; omega) (by omega)]
      · split
        · rw [List.set_comm _ _ (Ne.symm hne),set_app (by simpa using hp),hK.1 _ _ _ _ (by simp; omega) (by omega)]
        · split
          · rw [List.set_comm _ _ (Ne.symm hne),set_app (by simpa using hp),set_app (by simp; omega),(hC _ _).1 _ _ _ _ (by simp; omega) (by omega)]
          · rw [List.set_comm _ _ (Ne.symm hne),set_app (by simpa using hp)]
  · rw [layT_mk]
    split
    · exact Nat.le_refl _
    · split
      · exact Nat.le_trans (by simp) (hK.2 _ _)
      · split
        · exact Nat.le_trans (by simp) (hK.2 _ _)
        · split
          · exact Nat.le_trans (by simp) ((hC _ _).2 _ _)
          · simp
theorem layL_set (ts : List T) : LS (layL ts) ts.length := (layL_ls fun t _ => (lay_ls t).1).1
theorem layL_setW {ts : List T} : ∀ (ws : List Int) (b at_ : Nat) (l : List Int),b + ws.length≤l.length→at_ + ts.length≤b→layL ts at_ (setW b ws l) = setW b ws (layL ts at_ l)
  | [],b,at_,l,_,_ => rfl
  | x :: ws,b,at_,l,h,h2 => by
    simp only [List.length_cons] at h
    rw [setW,setW,layL_setW ws (b + 1) at_ _ (by simp; omega) (by omega),layL_set ts at_ b x l (by omega) (by omega)]
def cpC (w long : Nat) : List T→Nat→List Int→List Int
  | [],_,l => l
  | t :: ts,b,l => cpC w long ts (b + long) (layL t.kids (b + w) (setW b t.words l))
def fillC (long : Nat) : List T→Nat→List Int→List Int
  | [],_,l => l
  | t :: ts,b,l => fillC long ts (b + long) (setW b t.words l)
theorem fillC_lay {long : Nat} {ks : List T} : ∀ (ts : List T) (b at_ : Nat) (l : List Int),(∀ t,t ∈ ts→t.words.length≤long)→b + ts.length * long≤l.length→at_ + ks.length≤b→fillC long ts b (layL ks at_ l) = layL ks at_ (fillC long ts b l)
  | [],b,at_,l,_,_,_ => rfl
  | t :: ts,b,at_,l,hw,h,h2 => by
    have h3 := hw t (by simp)
    simp only [List.length_cons,Nat.add_mul,Nat.one_mul] at h
    rw [fillC,fillC,← layL_setW _ _ _ _ (by omega) h2,fillC_lay ts _ _ _ (fun u hu => hw u (by simp [hu])) (by simp; omega) (by omega)]
theorem rightT_mono : ∀ (t : T) (d d' : Nat),d≤d'→rightT d t = true→rightT d' t = true := by
  refine T.ind fun k w ks ih d d' hd h => ?_
  rw [rightT_mk] at h ⊢
  by_cases h0 : k = 0
  · rw [if_pos h0] at h ⊢; exact h
  · rw [if_neg h0] at h ⊢
    by_cases h10 : k = 10
    · rw [if_pos h10] at h ⊢; exact h
    · rw [if_neg h10] at h ⊢
      split at h
      · cases h
      · rename_i hb
        have hb' : ¬ tooBig k d' w.length ks.length = true := by
          intro e
          apply hb
          unfold tooBig at e ⊢
          simp only [Bool.or_eq_true,decide_eq_true_eq] at e ⊢
          have : d' = 0→d = 0 := by omega
          rcases e with (((((e | e) | e) | e) | e) | e) | e
          · exact .inl (.inl (.inl (.inl (.inl (.inl e)))))
          · exact .inl (.inl (.inl (.inl (.inl (.inr e)))))
          · exact .inl (.inl (.inl (.inl (.inr (this e)))))
          · exact .inl (.inl (.inl (.inr e)))
          · exact .inl (.inl (.inr e))
          · exact .inl (.inr e)
          · exact .inr e
        rw [if_neg hb']
        refine rightL_all.2 fun t ht => ?_
        obtain ⟨h1,h2⟩ := rightL_all.1 h t ht
        exact ⟨ih t ht _ _ (by omega) h1,h2⟩
inductive LayOk : T→Prop
  | null (w : List Int) : LayOk (.mk 0 w [])
  | str (w : List Int) (ks : List T) : w.length < 65536→ks.length < 65536→(∀ t,t ∈ ks→LayOk t)→LayOk (.mk 1 w ks)
  | ptrs (w : List Int) (ks : List T) : ks.length < 536870912→(∀ t,t ∈ ks→LayOk t)→LayOk (.mk 8 w ks)
  | comp (w : List Int) (ks : List T) : ks.length < 536870912→(∀ t,t ∈ ks→t.words.length < 65536∧t.kids.length < 65536)→(∀ t,t ∈ ks→∀ u,u ∈ t.kids→LayOk u)→LayOk (.mk 9 w ks)
  | data (k : Int) (w : List Int) (ks : List T) : 2≤k→k≤7→ks.length < 536870912→(∀ c,c ∈ ks→∃ x,c.words = [x]∧0≤x∧x < 18446744073709551616∧fitsZ (k - 2) x = true)→LayOk (.mk k w ks)
def LN (f : Nat→List Int→List Int) (n : Int) : Prop := ∀ (at_ : Nat) (l : List Int),((f at_ l).length : Int) = l.length + n
theorem layL_ln : ∀ {ts : List T},(∀ t,t ∈ ts→LN (layT t) (sizeT t))→LN (layL ts) (sizeL ts)
  | [],_ => fun at_ l => by simp
  | t :: ts,h => fun at_ l => by
    rw [layL_cons,layL_ln (ts := ts) (fun u hu => h u (by simp [hu])),h t (by simp),sizeL_cons]
    omega
theorem layC_ln {w k : Nat} : ∀ {ts : List T},(∀ t,t ∈ ts→LN (layL t.kids) (sizeL t.kids))→LN (layC w k ts) (sizeLL ts)
  | [],_ => fun at_ l => by simp
  | t :: ts,h => fun at_ l => by
    rw [layC_cons,layC_ln (ts := ts) (fun u hu => h u (by simp [hu])),h t (by simp),sizeLL_cons]
    omega
theorem frameW_le : ∀ {ts : List T} {t : T},t ∈ ts→t.words.length≤frameW ts
  | u :: ts,t,h => by
    rcases List.mem_cons.1 h with rfl | h
    · simp only [frameW]; omega
    · have := frameW_le h
      simp only [frameW]; omega
theorem frameK_le : ∀ {ts : List T} {t : T},t ∈ ts→t.kids.length≤frameK ts
  | u :: ts,t,h => by
    rcases List.mem_cons.1 h with rfl | h
    · simp only [frameK]; omega
    · have := frameK_le h
      simp only [frameK]; omega
theorem rowsC_length {w k : Nat} : ∀ (ts : List T),(∀ t,t ∈ ts→t.words.length≤w + k)→(rowsC w k ts).length = ts.length * (w + k)
  | [],_ => by simp [rowsC]
  | t :: ts,h => by
    have h1 := h t (by simp)
    rw [rowsC,List.length_append,List.length_append,List.length_replicate,rowsC_length ts fun u hu => h u (by simp [hu])]
    simp only [List.length_cons,Nat.add_mul,Nat.one_mul]
    omega
theorem roomZ_nonneg (c n : Int) : 0≤roomZ c n := by
  unfold roomZ bitsZ
  repeat' split
  all_goals omega
theorem lay_len : ∀ t : T,(LayOk t→LN (layT t) (sizeT t))∧((∀ u,u ∈ t.kids→LayOk u)→LN (layL t.kids) (sizeL t.kids)) := by
  refine T.ind fun k w ks ih => ?_
  have hK : (∀ u,u ∈ ks→LayOk u)→LN (layL ks) (sizeL ks) := fun h => layL_ln fun t ht => (ih t ht).1 (h t ht)
  refine ⟨fun h at_ l => ?_,hK⟩
  rw [layT_mk,sizeT_mk]
  cases h with
  | null => simp
  | str w ks b1 b2 h =>
    rw [if_neg (by decide),if_pos rfl,if_pos rfl,hK h]
    simp
    omega
  | ptrs w ks b1 h =>
    rw [if_neg (by decide),if_neg (by decide),if_pos rfl,if_neg (by decide),if_pos rfl,hK h]
    simp
    omega
  | comp w ks b1 b2 h =>
    have hr := rowsC_length (w := frameW ks) (k := frameK ks) ks fun t ht => by have := frameW_le ht; omega
    rw [if_neg (by decide),if_neg (by decide),if_neg (by decide),if_pos rfl,if_neg (by decide),if_neg (by decide),if_neg (by decide),if_pos rfl,layC_ln fun t ht => (ih t ht).2 (h t ht)]
    simp only [List.length_append,List.length_set,List.length_singleton,hr]
    have e : ((ks.length * (frameW ks + frameK ks) : Nat) : Int) = (ks.length : Int) * ((frameW ks : Int) + frameK ks) := by rw [Int.natCast_mul,Int.natCast_add]
    rw [← e]
    omega
  | data k w ks h1 h2 b1 b2 =>
    rw [if_neg (by omega),if_neg (by omega),if_neg (by omega),if_neg (by omega),if_neg (by omega),if_neg (by omega),if_pos ⟨h1,h2⟩]
    simp only [List.length_append,List.length_set,putZ_length,List.length_map]
    have := roomZ_nonneg (k - 2) ks.length
    omega
theorem layL_len {ts : List T} (h : ∀ t,t ∈ ts→LayOk t) : LN (layL ts) (sizeL ts) := layL_ln fun t ht => (lay_len t).1 (h t ht)
theorem size_nonneg : ∀ t : T,(LayOk t→0≤sizeT t)∧((∀ u,u ∈ t.kids→LayOk u)→0≤sizeL t.kids) := fun t => by
  refine ⟨fun h => ?_,fun h => ?_⟩
  · have h1 := (lay_len t).1 h 0 []
    simp at h1
    omega
  · have h1 := (lay_len t).2 h 0 []
    simp at h1
    omega
theorem cpC_eq {w k : Nat} : ∀ (ts : List T) (b : Nat) (l : List Int),(∀ t,t ∈ ts→t.words.length≤w∧t.kids.length≤k)→b + ts.length * (w + k)≤l.length→cpC w (w + k) ts b l = layC w k ts b (fillC (w + k) ts b l)
  | [],b,l,_,_ => by simp [cpC,fillC]
  | t :: ts,b,l,hw,h => by
    obtain ⟨h3,h4⟩ := hw t (by simp)
    simp only [List.length_cons,Nat.add_mul,Nat.one_mul] at h
    have hm := ((layL_ls fun t _ => (lay_ls t).1).2 : LM (layL t.kids)) (b + w) (setW b t.words l)
    rw [setW_length] at hm
    rw [cpC,layC_cons,fillC,cpC_eq ts _ _ (fun u hu => hw u (by simp [hu])) (by omega),fillC_lay ts _ _ _ (fun u hu => by have := (hw u (by simp [hu])).1; omega) (by simp; omega) (by omega)]
theorem setW_app : ∀ (ws : List Int) (a z : List Int),ws.length≤z.length→setW a.length ws (a ++ z) = a ++ ws ++ z.drop ws.length
  | [],a,z,_ => by simp [setW]
  | x :: ws,a,[],h => by simp at h
  | x :: ws,a,y :: z,h => by
    simp only [List.length_cons] at h
    have : (a ++ y :: z).set a.length x = (a ++ [x]) ++ z := by simp
    rw [setW,this,show a.length + 1 = (a ++ [x]).length from by simp,setW_app ws (a ++ [x]) z (by omega)]
    simp
theorem fillC_app {w k : Nat} : ∀ (ts : List T) (a : List Int),(∀ t,t ∈ ts→t.words.length≤w + k)→fillC (w + k) ts a.length (a ++ List.replicate (ts.length * (w + k)) 0) = a ++ rowsC w k ts
  | [],a,_ => by simp [fillC,rowsC]
  | t :: ts,a,h => by
    have h1 := h t (by simp)
    have e : List.replicate ((t :: ts).length * (w + k)) (0 : Int) = List.replicate (w + k) 0 ++ List.replicate (ts.length * (w + k)) 0 := by
      rw [List.replicate_append_replicate]
      congr 1
      simp only [List.length_cons,Nat.add_mul,Nat.one_mul]
      omega
    rw [fillC,e,setW_app _ _ _ (by simp; omega),rowsC]
    have e2 : a ++ t.words ++ List.drop t.words.length (List.replicate (w + k) (0 : Int) ++ List.replicate (ts.length * (w + k)) 0) = (a ++ t.words ++ List.replicate (w + k - t.words.length) 0) ++ List.replicate (ts.length * (w + k)) 0 := by
      rw [List.drop_append_of_le_length (by simp; omega),List.drop_replicate]
      simp
    have e3 : a.length + (w + k) = (a ++ t.words ++ List.replicate (w + k - t.words.length) (0 : Int)).length := by simp; omega
    rw [e2,e3,fillC_app ts _ fun u hu => h u (by simp [hu])]
    simp
end Go.PL

namespace Go.Proofs.YthfiijdbnkaabaaGreat
set_option linter.unusedVariables false
set_option linter.unusedSimpArgs false
open Go Go.G Go.Proofs Go.PL
theorem at_kind (l : List (List Int)) (s a : Int) : (atP l s a).1.kind ≠ 10 := by
  unfold atP
  split
  · simp [Rf.zero]
  · unfold refP
    split
    · simp
    · split
      · simp; omega
      · unfold compP
        split <;> simp [Rf.zero]
theorem rf_kind {l : List (List Int)} {r : Rf} (h : RfOk l r) : 0≤r.kind∧r.kind≤10 := by cases h <;> simp [Rf.zero] <;> omega
theorem kid_kind {l : List (List Int)} {r : Rf} (h : r.kind = 1∨r.kind = 8) (i : Int) : (kidP l r i).1.kind ≠ 10 := by
  unfold kidP
  split
  · simp [Rf.zero]
  · rcases h with h | h
    · rw [if_pos h]; exact at_kind _ _ _
    · rw [if_neg (by omega),if_pos h]; exact at_kind _ _ _
theorem kid_comp {l : List (List Int)} {r : Rf} (h : r.kind = 9) {i : Int} (h0 : 0≤i) (h1 : i < nk r) : (kidP l r i).1.kind = 1 := by
  rw [kidP,if_neg (by omega),if_neg (by omega),if_neg (by omega),if_pos h]
theorem getZ_fits {g : List Int} {c i : Int} (hg : ∀ x,x ∈ g→0≤x∧x < 18446744073709551616) (hc : 0≤c) (hc6 : c < 6) : fitsZ c (getZ g c i) = true := by
  have hw : 0≤widthZ c := by unfold widthZ; repeat' split <;> omega
  have hp : (0 : Int) < 2 ^ (widthZ c).toNat := Int.pow_pos (by decide)
  simp only [fitsZ,Bool.and_eq_true,decide_eq_true_eq]
  refine ⟨hw,?_⟩
  unfold getZ
  split
  · simp
  · rw [Int.ediv_eq_zero_of_lt]
    · exact Int.emod_nonneg _ (by omega)
    · exact Int.emod_lt_of_pos _ hp
theorem atom_words {l : List (List Int)} {r : Rf} {t : T} (hm : Means l r t) (hk : 2≤t.kind) (hk7 : t.kind≤7) {i : Nat} (hi : i < t.kids.length) : t.kids[i].kind = 10∧t.kids[i].words = [hd t.kids[i]] := by
  obtain ⟨h1,h2⟩ := means_kid hm hi
  have hkr := means_kind hm
  have hnk := means_nk hm
  have hkk := means_kind h2
  have hw := (means_word h2).1
  have hkid : (kidP l r i).1.kind = 10 := by
    rw [kidP,if_neg (by omega),if_neg (by omega),if_neg (by omega),if_neg (by omega)]
  have hlen : t.kids[i].words.length = 1 := by
    have : nwR (kidP l r i).1 = 1 := by simp [nwR,hkid]
    omega
  refine ⟨by omega,?_⟩
  match hq : t.kids[i].words,hlen with
  | [x],_ => simp [hd,hq]
theorem data_fits {l : List (List Int)} (hs : Sg l) {r : Rf} {t : T} (hm : Means l r t) (k2 : 2≤t.kind) (k7 : t.kind≤7) : ∀ x,x ∈ t.kids.map hd→u64R x∧fitsZ (t.kind - 2) x = true := fun x hx => by
  obtain ⟨c,hc,rfl⟩ := List.mem_map.1 hx
  obtain ⟨i,hi,rfl⟩ := List.mem_iff_getElem.1 hc
  obtain ⟨h1,kk⟩ := means_kid hm hi
  obtain ⟨a1,a2⟩ := atom_words hm k2 k7 hi
  have hkr := means_kind hm
  have hnk := means_nk hm
  have hwd := (means_word kk).2 0 (by rw [a2]; simp)
  simp only [a2,List.getElem_cons_zero] at hwd
  have hkid : kidP l r i = (⟨10,0,0,0,0,0,atomZ l r i⟩,0) := by
    rw [kidP,if_neg (by omega),if_neg (by omega),if_neg (by omega),if_neg (by omega)]
  rw [hkid] at hwd
  have e : hd t.kids[i] = atomZ l r i := by
    rw [← hwd]
    simp [wordAt,nwR]
  have hgx : ∀ x,x ∈ ((seg l r.s).getD []).drop r.at_.toNat→0≤x∧x < 18446744073709551616 := fun x hx => by
    have hx := List.mem_of_mem_drop hx
    cases e : seg l r.s with
    | none => rw [e] at hx; simp at hx
    | some g =>
      rw [e] at hx
      simp at hx
      obtain ⟨_,_,_,rfl⟩ := seg_some e
      exact hs.w _ (List.getElem_mem _) x hx
  rw [e,← hkr]
  exact ⟨getZ_range hgx,getZ_fits hgx (by omega) (by omega)⟩
theorem laid_of {l : List (List Int)} (hs : Sg l) : ∀ (t : T) (r : Rf),Means l r t→t.kind ≠ 10→LayOk (norm t) := by
  refine T.ind fun k w ks ih r hm h10 => ?_
  have hk := means_kind hm
  have hok := means_ok hm
  have hb := rf_kind hok
  simp at hk h10
  rw [norm_mk]
  have kid : ∀ (i : Nat) (hi : i < ks.length),Means l (kidP l r i).1 ks[i] := fun i hi => (means_kid hm (by simpa using hi)).2
  by_cases h0 : k = 0
  · rw [if_pos h0]; exact .null _
  · rw [if_neg h0]
    by_cases h1 : k = 1
    · rw [if_pos h1]
      have hb1 : w.length < 65536∧ks.length < 65536 := by
        have hn := means_nk hm
        have hw := (means_word hm).1
        simp at hn hw
        have : nk r < 65536∧nwR r < 65536 := by
          cases hok <;> simp [Rf.zero,nk,nwR] at hk ⊢ <;> omega
        omega
      have hb2 := trimW_le w
      have hb3 := trimK_le (ks.map norm)
      rw [List.length_map] at hb3
      refine .str _ _ (by omega) (by omega) fun t ht => ?_
      rw [trimK_map] at ht
      obtain ⟨u,hu,rfl⟩ := List.mem_map.1 (List.mem_of_mem_take ht)
      obtain ⟨i,hi,rfl⟩ := List.mem_iff_getElem.1 hu
      refine ih _ hu _ (kid i hi) ?_
      rw [← means_kind (kid i hi)]
      exact kid_kind (.inl (by omega)) i
    · rw [if_neg h1]
      by_cases h8 : k = 8
      · subst h8
        have hln := means_len hm
        refine .ptrs _ _ (by simpa using hln.2) fun t ht => ?_
        obtain ⟨u,hu,rfl⟩ := List.mem_map.1 ht
        obtain ⟨i,hi,rfl⟩ := List.mem_iff_getElem.1 hu
        refine ih _ hu _ (kid i hi) ?_
        rw [← means_kind (kid i hi)]
        exact kid_kind (.inr (by omega)) i
      · by_cases h9 : k = 9
        · subst h9
          have hln := means_len hm
          have hkn := means_nk hm
          simp at hkn
          refine .comp _ _ (by simpa using hln.2) (fun t ht => ?_) fun t ht u hu' => ?_
          · obtain ⟨v,hv,rfl⟩ := List.mem_map.1 ht
            obtain ⟨i,hi,rfl⟩ := List.mem_iff_getElem.1 hv
            have kk := kid i hi
            have hkk := means_kind kk
            rw [kid_comp (by omega) (by omega) (by omega)] at hkk
            have hL := ih _ hv _ kk (by omega)
            have hkn2 : (norm ks[i]).kind = 1 := by rw [norm_kind]; omega
            generalize norm ks[i] = x at hL hkn2
            cases hL with
            | str w ks b1 b2 h => exact ⟨b1,b2⟩
            | _ => simp at hkn2 <;> omega
          obtain ⟨v,hv,rfl⟩ := List.mem_map.1 ht
          obtain ⟨i,hi,rfl⟩ := List.mem_iff_getElem.1 hv
          have hkn := means_nk hm
          simp at hkn
          have hkk := means_kind (kid i hi)
          rw [kid_comp (by omega) (by omega) (by omega)] at hkk
          have := ih _ hv _ (kid i hi) (by omega)
          have hkn2 : (norm ks[i]).kind = 1 := by rw [norm_kind]; omega
          generalize norm ks[i] = x at this hkn2 hu'
          cases this with
          | str w ks b1 b2 h => exact h u hu'
          | _ => simp at hkn2 <;> omega
        · have hln := means_len hm
          refine .data _ _ _ (by omega) (by omega) (by simpa using hln.2) fun c hc => ?_
          obtain ⟨v,hv,rfl⟩ := List.mem_map.1 hc
          obtain ⟨i,hi,rfl⟩ := List.mem_iff_getElem.1 hv
          obtain ⟨a1,a2⟩ := atom_words hm (by simp; omega) (by simp; omega) (i := i) (by simpa using hi)
          obtain ⟨f1,f2⟩ := data_fits hs hm (by simp; omega) (by simp; omega) _ (List.mem_map.2 ⟨ks[i],by simp,rfl⟩)
          simp only [T.kids_mk,T.kind_mk] at a1 a2 f1 f2
          refine ⟨hd ks[i],?_,f1.1,f1.2,f2⟩
          have := norm_words (means_bare (kid i hi))
          rw [this,a2]
          simp [nW,a1,a2]
theorem wordsR_len {l : List (List Int)} {r : Rf} (h : RfOk l r) (h10 : r.kind ≠ 10) : (wordsR l r).length = (if r.kind = 1 then r.data else 0).toNat := by
  unfold wordsR
  rw [if_neg h10]
  by_cases h1 : r.kind = 1
  · rw [if_neg (by omega),if_pos h1]
    cases h with
    | str s a d k a1 a2 a3 a4 h =>
      simp only
      simp only [hasW,decide_eq_true_eq] at h
      obtain ⟨b1,b2,b3,b4,b5⟩ := h
      obtain ⟨g1,g2⟩ := seg_in b1 b2
      simp [part,g2,szAt] at b5 ⊢
      omega
    | _ => simp [Rf.zero] at h1 <;> omega
  · rw [if_pos h1,if_neg h1]; rfl
theorem costM_nonneg {l : List (List Int)} {r : Rf} (h : RfOk l r) : 0≤costM r := by
  cases h with
  | zero => simp [costM,Rf.zero,nk]
  | str s a d k a1 a2 a3 a4 h => simp [costM]; omega
  | dat c s a n a1 a2 a3 a4 h => rw [costM,if_neg (by simp; omega),if_neg (by simp; omega)]; simp [nk]; split <;> omega
  | ptrs s a n a1 a2 h => simp [costM,nk]; omega
  | comp s a d k n a1 a2 a3 a4 a5 a6 h =>
    simp [costM]
    have := Int.mul_nonneg a5 (show 0≤1 + d + k by omega)
    omega
  | atom n a1 a2 => simp [costM,nk]
theorem stop_lb (l : List (List Int)) (B : Int) : LB l B (fun r left => stopM l r left) := fun r hr left h0 h1 => ⟨h0,h1⟩
end Go.Proofs.YthfiijdbnkaabaaGreat

namespace Go.Proofs.YthfiijdbnkaabaaGreat
set_option linter.unusedVariables false
set_option linter.unusedSimpArgs false
open Go Go.G Go.Proofs Go.PL
abbrev s1 : List (List Int) := [[4294967296,7]]
abbrev s2 : List (List Int) := [[8589934592,7,0]]
abbrev s3 : List (List Int) := [[4294967296,8]]
end Go.Proofs.YthfiijdbnkaabaaGreat

namespace Go.Proofs.YthfiijdbnkaabaaGreat
set_option linter.unusedVariables false
set_option linter.unusedSimpArgs false
open Go Go.G Go.Proofs Go.PL
def mixG (h x : Int) : Int := IntKind.u64.wrap (bits .xor .u64 h x * 1099511628211)
def mixH (h x : Int) : Int := bits .xor .u64 (mixG h x) (mixG h x / 2 ^ min 29 IntKind.u64.bits)
mutual
def hashN : T→Int
  | .mk k w l => hashL (w.foldl mixH (mixH (mixH 14695981039346656037 (IntKind.u64.wrap k)) (IntKind.u64.wrap w.length))) l
def hashL : Int→List T→Int
  | h,[] => h
  | h,t :: l => hashL (mixH h (hashN t)) l
end
end Go.Proofs.YthfiijdbnkaabaaGreat

namespace Go.Proofs.YthfiijdbnkaabaaGreat
set_option linter.unusedVariables false
set_option linter.unusedSimpArgs false
open Go Go.G Go.Proofs Go.PL
theorem wf_norm : ∀ (t : T),wfT t→wfT (norm t) := by
  refine T.ind fun k w l ih hw => ?_
  have hw' := wfT_iff.1 hw
  rw [norm_mk]
  have h2 : ∀ (l : List T),(∀ t,t ∈ l→∃ u,u ∈ l∧t = u)→True := fun _ _ => trivial
  have hm : ∀ t,t ∈ l.map norm→wfT t := fun t ht => by
    obtain ⟨u,hu,rfl⟩ := List.mem_map.1 ht
    exact ih u hu (hw'.ks u hu)
  split
  · exact wfT_iff.2 ⟨by simp [i64R],by simp,by simp,by simp,by simp⟩
  · split
    · refine wfT_iff.2 ⟨by simp [i64R],fun x hx => ?_,?_,?_,fun t ht => ?_⟩
      · simp only [T.words_mk] at hx
        rw [trimW_take] at hx
        exact hw'.w x (List.mem_of_mem_take hx)
      · have := trimW_le w
        have := hw'.wl
        simp at this ⊢
        omega
      · have := trimK_le (l.map norm)
        have := hw'.kl
        simp at this ⊢
        simp at *
        omega
      · simp only [T.kids_mk] at ht
        rw [trimK_take] at ht
        exact hm t (List.mem_of_mem_take ht)
    · exact wfT_iff.2 ⟨hw'.k,hw'.w,hw'.wl,by simpa using hw'.kl,by simpa using hm⟩
section
variable {n0 : Nat} {w0 : World} {I0 : Nat→Prop} {Q : Exit→Sta→Prop}
theorem size_l3 {t : T} (hl : t.kids.length * 56≤140737488355328) (ih : ∀ c,c ∈ t.kids→G.Spec Tryz.prog 80 [tX c] (iv (i64w (sizeT c)))) {H : Hp} (hA : H [0] = ⟨1,.cells (tL t)⟩) : ∀ (m i : Nat) (x : Int),i + m = t.kids.length →
    (∀ i' q,Q (.exit 5) ⟨lk [(1,.pob [0] 1 0),(3,iv (i64w (x + sizeL (t.kids.drop i)))),(8,iv i'),(89,bv q)],H⟩) →
    LoopC (cx Tryz.prog w0 I0 n0) l3_centoref07_Size Q ⟨lk [(1,.pob [0] 1 0),(3,iv (i64w x)),(8,iv i)],H⟩ := by
  intro m
  induction m with
  | zero =>
    intro i x hi hq
    have : i = t.kids.length := by omega
    subst this
    refine loopC_once mixed l3_centoref07_Size.eq_1 ?_
    simp [hA]
    simpa using hq t.kids.length false
  | succ m ihm =>
    intro i x hi hq
    have hlt : i < t.kids.length := by omega
    have e : t.kids.drop i = t.kids[i] :: t.kids.drop (i + 1) := List.drop_eq_getElem_cons hlt
    have ei : IntKind.i64.wrap ((i : Int) + 1) = ((i + 1 : Nat) : Int) := i64_same (by omega) (by omega)
    refine loopC_once mixed l3_centoref07_Size.eq_1 ?_
    simp [hA,hlt]
    refine sc_call (ih _ (List.getElem_mem hlt)) rfl ?_
    simp [ei,i64_add_l,i64_add_r]
    exact ihm (i + 1) (x + sizeT t.kids[i]) (by omega) fun i' q => by
      have := hq i' q
      rw [e,sizeL_cons,← Int.add_assoc] at this
      exact this
theorem size_l1 {t : T} (hl : t.kids.length * 56≤140737488355328) {i : Nat} (hi : i < t.kids.length) (hl2 : t.kids[i].kids.length * 56≤140737488355328) (ih : ∀ c,c ∈ t.kids[i].kids→G.Spec Tryz.prog 80 [tX c] (iv (i64w (sizeT c)))) {H : Hp} (hA : H [0] = ⟨1,.cells (tL t)⟩) : ∀ (m j : Nat) (x : Int),j + m = t.kids[i].kids.length →
    (∀ i' q,Q (.exit 3) ⟨lk [(1,.pob [0] 1 0),(3,iv (i64w (x + sizeL (t.kids[i].kids.drop j)))),(6,iv i),(7,iv i'),(69,bv q)],H⟩) →
    LoopC (cx Tryz.prog w0 I0 n0) l1_centoref07_Size Q ⟨lk [(1,.pob [0] 1 0),(3,iv (i64w x)),(6,iv i),(7,iv j)],H⟩ := by
  intro m
  induction m with
  | zero =>
    intro j x hj hq
    have : j = t.kids[i].kids.length := by omega
    subst this
    refine loopC_once mixed l1_centoref07_Size.eq_1 ?_
    simp [hA,hi]
    simpa using hq t.kids[i].kids.length false
  | succ m ihm =>
    intro j x hj hq
    have hlt : j < t.kids[i].kids.length := by omega
    have e : t.kids[i].kids.drop j = t.kids[i].kids[j] :: t.kids[i].kids.drop (j + 1) := List.drop_eq_getElem_cons hlt
    have ej : IntKind.i64.wrap ((j : Int) + 1) = ((j + 1 : Nat) : Int) := i64_same (by omega) (by omega)
    refine loopC_once mixed l1_centoref07_Size.eq_1 ?_
    simp [hA,hi,hlt]
    refine sc_call (ih _ (List.getElem_mem hlt)) rfl ?_
    simp [ej,i64_add_l,i64_add_r]
    exact ihm (j + 1) (x + sizeT t.kids[i].kids[j]) (by omega) fun i' q => by
      have := hq i' q
      rw [e,sizeL_cons,← Int.add_assoc] at this
      exact this
theorem size_l2 {t : T} (hl : t.kids.length * 56≤140737488355328) (hl2 : ∀ c,c ∈ t.kids→c.kids.length * 56≤140737488355328) (ih : ∀ c,c ∈ t.kids→∀ d,d ∈ c.kids→G.Spec Tryz.prog 80 [tX d] (iv (i64w (sizeT d)))) {H : Hp} (hA : H [0] = ⟨1,.cells (tL t)⟩) : ∀ (m i : Nat) (x : Int),i + m = t.kids.length →
    (∀ i' q,Q (.exit 1) ⟨lk [(1,.pob [0] 1 0),(3,iv (i64w (x + sizeLL (t.kids.drop i)))),(6,iv i'),(58,bv q)],H⟩) →
    LoopC (cx Tryz.prog w0 I0 n0) l2_centoref07_Size Q ⟨lk [(1,.pob [0] 1 0),(3,iv (i64w x)),(6,iv i)],H⟩ := by
  intro m
  induction m with
  | zero =>
    intro i x hi hq
    have : i = t.kids.length := by omega
    subst this
    refine loopC_once mixed l2_centoref07_Size.eq_1 ?_
    simp [hA]
    simpa using hq t.kids.length false
  | succ m ihm =>
    intro i x hi hq
    have hlt : i < t.kids.length := by omega
    have e : t.kids.drop i = t.kids[i] :: t.kids.drop (i + 1) := List.drop_eq_getElem_cons hlt
    have ei : IntKind.i64.wrap ((i : Int) + 1) = ((i + 1 : Nat) : Int) := i64_same (by omega) (by omega)
    refine loopC_once mixed l2_centoref07_Size.eq_1 ?_
    simp [hA,hlt]
    refine size_l1 hl hlt (hl2 _ (List.getElem_mem hlt)) (ih _ (List.getElem_mem hlt)) hA t.kids[i].kids.length 0 x (by omega) fun i' q => ?_
    simp [ei]
    exact ihm (i + 1) (x + sizeL t.kids[i].kids) (by omega) fun i' q => by
      have := hq i' q
      rw [e,sizeLL_cons,← Int.add_assoc] at this
      exact this
end
set_option maxRecDepth 8000 in
theorem size_all : ∀ (t : T),wfT t→G.Spec Tryz.prog 80 [tX t] (iv (i64w (sizeT t)))∧∀ c,c ∈ t.kids→G.Spec Tryz.prog 80 [tX c] (iv (i64w (sizeT c))) := by
  refine T.ind fun k w l ih hw => ?_
  have hw' := wfT_iff.1 hw
  have hwl := hw'.wl
  have hkl := hw'.kl
  simp at hwl hkl
  have ih1 : ∀ c,c ∈ (T.mk k w l).kids→G.Spec Tryz.prog 80 [tX c] (iv (i64w (sizeT c))) := fun c hc => (ih c hc (hw'.ks c hc)).1
  refine ⟨?_,ih1⟩
  refine spec_of t_centoref07_Size (by simp) fun w0 I0 => ?_
  unfold c_centoref07_Size
  rw [sizeT_mk]
  have fin : ∀ (x y : Int) (H : Hp) (r : Int),y = i64w x→H [0] = ⟨1,.cells (tL (.mk k w l))⟩→r = x + sizeL l→WPC (cx Tryz.prog w0 I0 101) k2_centoref07_Size (RetC Tryz.prog [.tmp 2] (iv (i64w r))) ⟨lk [(1,.pob [0] 1 0),(3,iv y)],H⟩ := fun x y H r hy hH hr => by
    subst hy
    rw [k2_centoref07_Size.eq_1]
    simp
    refine size_l3 (t := .mk k w l) (by simpa using hkl) ih1 hH l.length 0 x (by simp) fun i' q => ?_
    simp [hr]
    exact frz_bare rfl
  have room : 2≤k∧k≤7→i64w (roomZ (k - 2) l.length) = roomZ (k - 2) l.length := fun hk => by
    have : 0≤roomZ (k - 2) l.length∧roomZ (k - 2) l.length≤1099511627776 := by
      unfold roomZ bitsZ
      repeat' split
      all_goals omega
    exact i64_same (by omega) (by omega)
  by_cases h1 : k = 1
  · simp [h1]
    exact fin _ _ _ _ rfl (by simp [h1]) rfl
  by_cases h8 : k = 8
  · simp [h8]
    exact fin _ _ _ _ (i64_same (by omega) (by omega)).symm (by simp [h8]) rfl
  by_cases h27 : 2≤k∧k≤7
  · have hr := room h27
    have h6 : k = 2∨k = 3∨k = 4∨k = 5∨k = 6∨k = 7 := by omega
    rw [if_neg h1,if_neg h8,if_pos h27,hr]
    clear fin hr room ih ih1 hw hw' h27
    rcases h6 with rfl | rfl | rfl | rfl | rfl | rfl
    all_goals
      simp
      rw [k1_centoref07_Size.eq_1]
      simp
      refine sc_call (rRoom_spec _ _) rfl ?_
      simp
      exact frz_bare rfl
  rw [if_neg h1,if_neg h8,if_neg h27]
  by_cases h9 : k = 9
  · subst h9
    simp
    rw [k1_centoref07_Size.eq_1]
    simp
    refine sc_call (rFrame_spec (.mk 9 w l) (by simpa using hkl)) rfl ?_
    simp [i64_add_r,i64_mul_r]
    refine size_l2 (t := .mk 9 w l) (by simpa using hkl) (fun c hc => (wfT_iff.1 (hw'.ks c hc)).kl) (fun c hc => (ih c hc (hw'.ks c hc)).2) (by simp) l.length 0 _ (by simp) fun i' q => ?_
    simp
    exact frz_bare rfl
  · have h2 : ¬ k = 2 := by omega
    have h3 : ¬ k = 3 := by omega
    have h4 : ¬ k = 4 := by omega
    have h5 : ¬ k = 5 := by omega
    have h6 : ¬ k = 6 := by omega
    have h7 : ¬ k = 7 := by omega
    simp [h1,h2,h3,h4,h5,h6,h7,h8,h9]
    rw [k1_centoref07_Size.eq_1]
    simp [h9]
    exact fin 0 _ _ _ (by decide) (by simp) (by simp)
theorem rSize_spec (t : T) (h : wfT t) : G.Spec Tryz.prog 80 [tX t] (iv (i64w (sizeT t))) := (size_all t h).1
theorem fits_word {c : T} (h : wfT c) (hl : c.words.length = 1) : ∃ x,c.words = [x]∧u64R x := by
  have := (wfT_iff.1 h).w
  match hc : c.words,hl with
  | [x],_ => exact ⟨x,rfl,this x (by simp [hc])⟩
theorem right_kind10 {d : Nat} {c : T} (h : rightT d c = true) (h10 : c.kind = 10) : c.words.length = 1 := by
  obtain ⟨k,w,l⟩ := c
  simp at h10
  subst h10
  rw [rightT_mk] at h
  simp at h
  exact h.1
section
variable {n0 : Nat} {w0 : World} {I0 : Nat→Prop} {Q : Exit→Sta→Prop}
theorem right_l1 {t : T} (hl : t.kids.length * 56≤140737488355328) (hk0 : 0≤t.kind) (hk1 : t.kind≤10) {d : Nat} (hd : 1≤d) (hd1 : d≤1000) (hw : ∀ c,c ∈ t.kids→wfT c) (ih : ∀ c,c ∈ t.kids→∀ d : Nat,d≤1000→G.Spec Tryz.prog 17 [tX c,iv d] (bv (rightT d c))) : ∀ (m i : Nat) (H : Hp),i + m = t.kids.length→H [0] = ⟨1,.cells (tL t)⟩ →
    (rightL (d - 1) t.kind (t.kids.drop i) = true→∀ i' q H',Q (.exit 0) ⟨lk [(1,iv d),(2,.pob [0] 1 0),(5,iv i'),(82,bv q)],H'⟩)→(rightL (d - 1) t.kind (t.kids.drop i) = false→∀ H',Q .ret ⟨lk [(4,bv false)],H'⟩) →
    LoopC (cx Tryz.prog w0 I0 n0) l1_centoref07_Right Q ⟨lk [(1,iv d),(2,.pob [0] 1 0),(5,iv i)],H⟩ := by
  intro m
  induction m with
  | zero =>
    intro i H hi hA h1 h2
    have : i = t.kids.length := by omega
    subst this
    refine loopC_once mixed l1_centoref07_Right.eq_1 ?_
    simp [hA]
    exact h1 (by simp) _ _ _
  | succ m ihm =>
    intro i H hi hA h1 h2
    have hlt : i < t.kids.length := by omega
    have e : t.kids.drop i = t.kids[i] :: t.kids.drop (i + 1) := List.drop_eq_getElem_cons hlt
    have ei : IntKind.i64.wrap ((i : Int) + 1) = ((i + 1 : Nat) : Int) := i64_same (by omega) (by omega)
    have ed : IntKind.i64.wrap ((d : Int) - 1) = ((d - 1 : Nat) : Int) := by rw [i64_same (by omega) (by omega)]; omega
    rw [e,rightL_cons] at h1 h2
    have hwc := hw _ (List.getElem_mem hlt)
    have ihc := ih _ (List.getElem_mem hlt) (d - 1) (by omega)
    generalize hc : t.kids[i] = c at *
    refine loopC_once mixed l1_centoref07_Right.eq_1 ?_
    simp [hA,hlt,hc,updF_app,ed]
    refine sc_call ihc rfl ?_
    cases hr : rightT (d - 1) c with
    | false =>
      simp
      exact h2 (by simp [hr]) _
    | true =>
      rw [hr] at h1 h2
      have good : kidOk t.kind c = true→∀ H',H' [0] = ⟨1,.cells (tL t)⟩→LoopC (cx Tryz.prog w0 I0 n0) l1_centoref07_Right Q ⟨lk [(1,iv d),(2,.pob [0] 1 0),(5,iv ((i : Int) + 1))],H'⟩ := fun hg H' hA' =>
        ihm (i + 1) H' (by omega) hA' (fun hh => h1 (by simp [hg,hh])) (fun hh => h2 (by simp [hh]))
      have bad : kidOk t.kind c = false→∀ H',Q .ret ⟨lk [(4,bv false)],H'⟩ := fun hg => h2 (by simp [hg])
      rw [show ((i + 1 : Nat) : Int) = (i : Int) + 1 from rfl] at ei
      by_cases hD : 2≤t.kind∧t.kind≤7
      · obtain ⟨d2,d7⟩ := hD
        have d9 : ¬ t.kind = 9 := by omega
        by_cases h10 : c.kind = 10
        · obtain ⟨x,hx,hx64⟩ := fits_word hwc (right_kind10 hr h10)
          have hk : kidOk t.kind c = fitsZ (t.kind - 2) x := by simp [kidOk,isData,d2,d7,d9,h10,hx]
          have e2 : IntKind.i64.wrap (t.kind - 2) = t.kind - 2 := i64_same (by omega) (by omega)
          simp [updF_app,hA,d2,d7,d9,h10,hx,e2]
          refine sc_call_gt rfl (fun _ => rFits_spec hx64) (fun _ => rfl) rfl ?_
          cases hf : fitsZ (t.kind - 2) x with
          | false => simp; exact bad (by rw [hk,hf]) _
          | true => simp [ei]; exact good (by rw [hk,hf]) _ (by simp [updF_app,hA])
        · have hk : kidOk t.kind c = false := by simp [kidOk,isData,d2,d7,d9,h10]
          simp [updF_app,hA,d2,d7,d9,h10]
          refine sc_call_off rfl ?_
          simp
          exact bad hk _
      · have hD' : (decide (2≤t.kind) && decide (t.kind≤7)) = false := by simp; omega
        by_cases h10 : c.kind = 10
        · have hk : kidOk t.kind c = false := by simp [kidOk,isData,hD',h10]
          simp [updF_app,hA,hD',h10]
          refine sc_call_off rfl ?_
          simp
          exact bad hk _
        · by_cases h9 : t.kind = 9
          · by_cases h1' : c.kind = 1
            · have hk : kidOk t.kind c = true := by simp [kidOk,isData,hD',h9,h1']
              rw [h9] at hD'
              simp [updF_app,hA,hD',h10,h9,h1']
              refine sc_call_off rfl ?_
              simp [ei]
              exact good hk _ (by simp [updF_app,hA])
            · have hk : kidOk t.kind c = false := by simp [kidOk,isData,hD',h9,h1',h10]
              rw [h9] at hD'
              simp [updF_app,hA,hD',h10,h9,h1']
              refine sc_call_off rfl ?_
              simp
              exact bad hk _
          · have hk : kidOk t.kind c = true := by simp [kidOk,isData,hD',h9,h10]
            simp [updF_app,hA,hD',h10,h9]
            refine sc_call_off rfl ?_
            simp [ei]
            exact good hk _ (by simp [updF_app,hA])
end
theorem rRight_spec : ∀ (t : T),wfT t→∀ d : Nat,d≤1000→G.Spec Tryz.prog 17 [tX t,iv d] (bv (rightT d t)) := by
  refine T.ind fun k w l ih hw d hd => ?_
  have hw' := wfT_iff.1 hw
  have hwl := hw'.wl
  have hkl := hw'.kl
  simp at hwl hkl
  refine spec_of t_centoref07_Right (by simp) fun w0 I0 => ?_
  unfold c_centoref07_Right
  rw [rightT_mk]
  by_cases h0 : k = 0
  · simp [h0]
    exact frz_bool (by cases w <;> cases l <;> simp <;> (rw [← List.length_eq_zero_iff]; omega))
  by_cases h10 : k = 10
  · simp [h10]
    exact frz_bool (by cases w <;> cases l <;> simp <;> (rw [← List.length_eq_zero_iff]; omega))
  rw [if_neg h0,if_neg h10]
  have bad : tooBig k d w.length l.length = true→∀ H,Frz H (bv false) (bv (if tooBig k d w.length l.length = true then false else rightL (d - 1) k l)) := fun hb H => frz_bool (by simp [hb])
  by_cases ha : k < 0∨10 < k∨d = 0∨65536≤w.length
  · have ha' : (decide (k < 0) || decide (10 < k) || decide (d = 0) || decide (65536≤(w.length : Int))) = true := by simp; omega
    simp [h0,h10,ha']
    have := bad (by simp [tooBig]; omega) (lkH [([0],{ u := 1,ob := Ob.cells [iv k,uws w,tKs l] })])
    simpa using this
  have ha' : (decide (k < 0) || decide (10 < k) || decide (d = 0) || decide (65536≤(w.length : Int))) = false := by simp; omega
  by_cases h1 : k = 1∧65536≤l.length
  · have hl : (65536 : Int)≤l.length := by omega
    simp [h0,h10,ha',h1.1,hl]
    have := bad (by simp [tooBig]; omega) (lkH [([0],{ u := 1,ob := Ob.cells [iv k,uws w,tKs l] })])
    simpa [h1.1] using this
  by_cases h2 : 1048576≤l.length
  · have hl : (1048576 : Int)≤l.length := by omega
    have hk1 : ¬ k = 1 := by omega
    simp [h0,h10,ha',hk1,hl]
    have := bad (by simp [tooBig]; omega) (lkH [([0],{ u := 1,ob := Ob.cells [iv k,uws w,tKs l] })])
    simpa using this
  have hl2 : ¬ (1048576 : Int)≤l.length := by omega
  by_cases h3 : 1 < k∧0 < w.length
  · have hk1 : ¬ k = 1 := by omega
    have hw0 : w ≠ [] := fun e => by simp [e] at h3
    simp [h0,h10,ha',hk1,hl2,h3.1,h3.2,hw0]
    have := bad (by simp [tooBig]; omega) (lkH [([0],{ u := 1,ob := Ob.cells [iv k,uws w,tKs l] })])
    simpa using this
  have hb : tooBig k d w.length l.length = false := by
    rw [Bool.eq_false_iff]
    unfold tooBig
    simp only [Bool.or_eq_true,Bool.and_eq_true,decide_eq_true_eq,ne_eq]
    omega
  have hw0 : (1 < k→w = []) := fun h => List.eq_nil_of_length_eq_zero (by omega)
  have fin : LoopC (cx Tryz.prog w0 I0 132) l1_centoref07_Right (InBlock 0 (ThenC (WPC (cx Tryz.prog w0 I0 132) (.keep [] (.seq (.reg [co (some 4) (.assign (.const (.bool true))) none] [4]) .ret)) (RetC Tryz.prog [.tmp 4] (bv (rightL (d - 1) k l)))) (RetC Tryz.prog [.tmp 4] (bv (rightL (d - 1) k l))))) ⟨lk [(1,iv d),(2,.pob [0] 1 0),(5,iv 0)],lkH [([0],⟨1,.cells [iv k,uws w,tKs l]⟩)]⟩ := by
    refine right_l1 (t := .mk k w l) (by simpa using hkl) (by simp; omega) (by simp; omega) (by omega) hd (fun c hc => hw'.ks c hc) (fun c hc => ih c hc (hw'.ks c hc)) l.length 0 _ (by simp) (by simp) (fun hr i' q H' => ?_) (fun hr H' => ?_)
    · simp
      exact frz_bool (by simpa using hr.symm)
    · simp
      exact frz_bool (by simpa using hr.symm)
  rw [if_neg (by simp [hb])]
  by_cases k1 : k = 1
  · have hl3 : ¬ (65536 : Int)≤l.length := by omega
    have ha1 : (decide (d = 0) || decide (65536≤(w.length : Int))) = false := by simp; omega
    simp [ha1,k1,hl2,hl3]
    simpa [k1] using fin
  · simp [h0,h10,ha',k1,hl2]
    refine ⟨fun a b => absurd ⟨a,by omega⟩ h3,fun _ => ?_⟩
    exact fin
end Go.Proofs.YthfiijdbnkaabaaGreat

namespace Go.Proofs.YthfiijdbnkaabaaGreat
set_option linter.unusedVariables false
set_option linter.unusedSimpArgs false
open Go Go.G Go.Proofs Go.PL
theorem means_wf {l : List (List Int)} (hs : Sg l) : ∀ (t : T) (r : Rf),Means l r t→wfT t := by
  refine T.ind fun k w ks ih r ht => ?_
  have hln := means_len ht
  have hk := means_kind ht
  have hok := means_ok ht
  simp at hln hk
  refine wfT_iff.2 ⟨?_,?_,?_,?_,?_⟩
  · simp only [T.kind_mk]
    rw [← hk]
    unfold i64R
    cases hok <;> simp [Rf.zero] <;> omega
  · intro x hx
    obtain ⟨i,hi,rfl⟩ := List.mem_iff_getElem.1 hx
    have := (means_word ht).2 i hi
    rw [← this]
    unfold u64R wordAt
    split
    · omega
    · split
      · cases hok with
        | atom n a1 a2 => exact ⟨a1,a2⟩
        | dat c s a n a1 a2 a3 a4 h => simp
        | _ => simp [Rf.zero]
      · cases e : word l r.s (r.at_ + i) with
        | none => simp
        | some x => exact word_in hs.w e
  · simp; omega
  · simp; omega
  · intro c hc
    obtain ⟨i,hi,rfl⟩ := List.mem_iff_getElem.1 hc
    exact ih _ (List.getElem_mem hi) _ (means_kid ht hi).2
end Go.Proofs.YthfiijdbnkaabaaGreat

namespace Go.G
set_option linter.unusedVariables false
set_option linter.unusedSimpArgs false
open Go.RowKit
structure Fam where
  F : Nat→Nm→VOb
  ren : ∀ {g : Nm→Nm} {δ : Nm→Nat} {r r' : Nat},(∀ p,g (r :: p) = r' :: p)→(∀ p,δ (r :: p) = 0)→∀ p,(F r p).ren g δ 0 = F r' p
  refs : ∀ {D : Nm→Prop} {r : Nat},(∀ p,D (r :: p))→∀ p,(F r p).ob.refs D
def Fam.no : Fam := ⟨fun _ _ => ⟨0,.none⟩,fun _ _ _ => rfl,fun _ _ => trivial⟩
@[simp] theorem Fam.no_F {r : Nat} {p : Nm} : Fam.no.F r p = ⟨0,.none⟩ := rfl
structure FamA (a : Nat→A) : Prop where
  ren : ∀ {g : Nm→Nm} {δ : Nm→Nat} {r r' : Nat},(∀ p,g (r :: p) = r' :: p)→(∀ p,δ (r :: p) = 0)→(a r).ren g δ = a r'
  refs : ∀ {D : Nm→Prop} {r : Nat},(∀ p,D (r :: p))→(a r).refs D
structure FamL (a : Nat→List A) : Prop where
  ren : ∀ {g : Nm→Nm} {δ : Nm→Nat} {r r' : Nat},(∀ p,g (r :: p) = r' :: p)→(∀ p,δ (r :: p) = 0)→A.renL g δ (a r) = a r'
  refs : ∀ {D : Nm→Prop} {r : Nat},(∀ p,D (r :: p))→A.refsL D (a r)
@[simp] theorem famL_nil : FamL (fun _ => []) := ⟨fun _ _ => by simp [A.renL],fun _ => by simp [A.refsL]⟩
theorem famL_cons {a : Nat→A} {l : Nat→List A} (h : FamA a) (k : FamL l) : FamL (fun r => a r :: l r) := ⟨fun h1 h2 => by simp [A.renL,h.ren h1 h2,k.ren h1 h2],fun h1 => by simp only [A.refsL]; exact ⟨h.refs h1,k.refs h1⟩⟩
@[simp] theorem famL_cons_iff {a : Nat→A} {l : Nat→List A} (h : FamA a) : FamL (fun r => a r :: l r) = FamL l := by
  refine propext ⟨fun k => ⟨fun h1 h2 => ?_,fun h1 => ?_⟩,famL_cons h⟩
  · have := k.ren h1 h2
    simp only [A.renL,List.cons.injEq] at this
    exact this.2
  · have := k.refs h1
    simp only [A.refsL] at this
    exact this.2
theorem FamL.all {l : List A} (h : ∀ x,x ∈ l→FamA (fun _ => x)) : FamL (fun _ => l) := by
  induction l with
  | nil => simp
  | cons x l ih => exact famL_cons (h x (by simp)) (ih fun y hy => h y (by simp [hy]))
@[simp] theorem famA_any : FamA (fun _ => .any) := ⟨fun _ _ => by simp [A.ren],fun _ => by simp [A.refs]⟩
@[simp] theorem famA_v {x : Value} : FamA (fun _ => .v x) := ⟨fun _ _ => by simp [A.ren],fun _ => by simp [A.refs]⟩
@[simp] theorem famA_sl {f : Bool} {xs : List A} : FamA (fun _ => .sl f xs) := ⟨fun _ _ => by simp [A.ren],fun _ => by simp [A.refs]⟩
@[simp] theorem famA_pim {xs : List A} : FamA (fun _ => .pim xs) := ⟨fun _ _ => by simp [A.ren],fun _ => by simp [A.refs]⟩
@[simp] theorem famA_pob {u off : Nat} {q : Nm} : FamA (fun r => .pob (r :: q) u off) := ⟨fun h1 h2 => by simp [A.ren,h1,h2],fun h => by simp [A.refs,h]⟩
@[simp] theorem famA_osl {u sz off len : Nat} {q : Nm} : FamA (fun r => .osl (r :: q) u sz off len) := ⟨fun h1 h2 => by simp [A.ren,h1,h2],fun h => by simp [A.refs,h]⟩
@[simp] theorem famA_pel {u i j : Nat} {q : Nm} : FamA (fun r => .pel (r :: q) u i j) := ⟨fun h1 h2 => by simp [A.ren,h1,h2],fun h => by simp [A.refs,h]⟩
@[simp] theorem famA_agg {l : Nat→List A} (h : FamL l) : FamA (fun r => .agg (l r)) := ⟨fun h1 h2 => by simp [A.ren,h.ren h1 h2],fun h1 => by simp only [A.refs]; exact h.refs h1⟩
@[simp] theorem famA_tup {l : Nat→List A} (h : FamL l) : FamA (fun r => .tup (l r)) := ⟨fun h1 h2 => by simp [A.ren,h.ren h1 h2],fun h1 => by simp only [A.refs]; exact h.refs h1⟩
@[simp] theorem famA_fnc {f : FuncId} {l m : Nat→List A} (h : FamL l) (k : FamL m) : FamA (fun r => .fnc f (l r) (m r)) := ⟨fun h1 h2 => by simp [A.ren,h.ren h1 h2,k.ren h1 h2],fun h1 => by simp only [A.refs]; exact ⟨h.refs h1,k.refs h1⟩⟩
theorem famA_bare1 {a : A} (h : a.bare1 = true) : FamA (fun _ => a) := by cases a <;> simp [A.bare1] at h ⊢
theorem famA_bare {a : A} {cs : List A} (ha : a = .agg cs) (h : ∀ x,x ∈ cs→x.bare1 = true) : FamA (fun _ => a) := by
  subst ha
  exact famA_agg (l := fun _ => cs) (FamL.all fun x hx => famA_bare1 (h x hx))
theorem Fam.cells_ren {g : Nm→Nm} {δ : Nm→Nat} {u : Nat} {l l' : List A} (h : A.renL g δ l = l') : VOb.ren g δ 0 ⟨u,.cells l⟩ = ⟨u,.cells l'⟩ := by simp [VOb.ren,Ob.ren,h]
theorem Fam.arr_ren {g : Nm→Nm} {δ : Nm→Nat} {u sz : Nat} {l l' : List A} (h : A.renL g δ l = l') : VOb.ren g δ 0 ⟨u,.arr sz l⟩ = ⟨u,.arr sz l'⟩ := by simp [VOb.ren,Ob.ren,h]
structure SpecF (P : Program) (f : FuncId) (as' : Nat→List A) (F : Fam) (x : Nat→A) (F' : Fam) : Prop where
  fa : FamL as'
  fx : FamA x
  h : SpecH P f 1 (as' 0) (ov 0 (F.F 0) (lkH [])) (x 0) (ov 0 (F'.F 0) (lkH []))
section
variable {P : Program} {K : Sta→Prop} {rest : List CO} {s : Nat→A} {H : Hp} {dd : Option Nat} {nm : Nm} {ix : Nat} {un : List Nat} {l : Bool} {lg : Lg} {g : FuncId} {aa : Array Operand} {ts : Array TypeId}
theorem fam_in {r : Nat} {F : Fam} (hF : ∀ p,H (r :: p) = F.F r p) : inHp [r] 1 H = ov 0 (F.F 0) (lkH []) := by
  funext o
  cases o with
  | nil => rfl
  | cons i p =>
    by_cases hi : i < 1
    · have : i = 0 := by omega
      subst this
      simp only [inHp,if_pos hi,ov_cons,if_true]
      show (H (r :: p)).ren _ _ 0 = _
      rw [hF]
      exact F.ren (fun q => by simp [dnN]) (fun _ => rfl) p
    · simp only [inHp,if_neg hi,ov_cons]
      rw [if_neg (by omega)]
      rfl
theorem fam_out {r : Nat} {F' : Fam} : outG [r] (dlt [r] 1 H) H (ov 0 (F'.F 0) (lkH [])) = ov r (F'.F r) H := by
  have hd : ∀ p,dlt [r] 1 H (0 :: p) = 0 := fun p => rfl
  funext o
  cases o with
  | nil => rfl
  | cons j p =>
    by_cases hj : j = r
    · subst hj
      simp only [outG,ov_cons,if_true]
      rw [if_pos (by simp)]
      have : [j].idxOf j = 0 := by simp
      rw [this,if_pos rfl,hd]
      exact F'.ren (fun q => by simp [upN]) hd p
    · have : ¬ [r].contains j = true := by simpa using hj
      simp only [outG,if_neg this,ov_cons,if_neg hj]
theorem fam_closed {r : Nat} {F : Fam} (hF : ∀ p,H (r :: p) = F.F r p) : ClosedH [r] 1 H := by
  intro j p hj
  have hjr : j = r := by
    have := (idx_mem (rs := [r])).1 (by simpa using hj)
    simpa using this
  rw [hjr,hF]
  exact F.refs (fun q => by simp [inS]) p
theorem fam_refs {F' : Fam} (i : Nat) (p : Nm) (hi : i < 1) : ((ov 0 (F'.F 0) (lkH [])) (i :: p)).ob.refs (outS 1) := by
  have : i = 0 := by omega
  subst this
  simp only [ov_cons,if_true]
  exact F'.refs (fun q => by simp [outS]) p
theorem sc_fam {as' : Nat→List A} {F F' : Fam} {x : Nat→A} (r : Nat) (hS : SpecF P g as' F x F') (hF : ∀ p,H (r :: p) = F.F r p) (ha : aa.toList.map (evs s) = as' r) (hck : Ck un lg ⟨[],[([r],true)]⟩)
    (h : SeqC P K rest (addL l ix ⟨[],[([r],true)]⟩ lg) (Sta.put ⟨s,H⟩ dd (x r) (ov r (F'.F r) H))) :
    SeqC P K (⟨dd,.call { callee := .value (.func g),args := aa,argTypes := ts },none,nm,ix,un,l⟩ :: rest) lg ⟨s,H⟩ := by
  have hd : ∀ p,dlt [r] 1 H (0 :: p) = 0 := fun p => rfl
  refine sc_callH [r] 1 hS.h (by simp) (by simp) ?_ ?_ (fam_in hF) (fam_closed hF) (hS.fx.refs (fun p => by simp [outS])) (fun i p hi => fam_refs i p hi) (fun i p h1 h2 => by simp at h2; omega) (hS.fx.ren (fun q => by simp [upN]) hd) fam_out hck h
  · rw [ha]; exact hS.fa.ren (fun q => by simp [dnN]) (fun _ => rfl)
  · rw [ha]; exact hS.fa.refs (fun q => by simp [inS])
end
theorem ov_ov {r : Nat} {F F' : Nm→VOb} {H : Hp} : ov r F (ov r F' H) = ov r F H := by
  funext o
  cases o with
  | nil => rfl
  | cons j p => by_cases hj : j = r <;> simp [hj]
@[simp] theorem ov_same {r : Nat} {F F' : Nm→VOb} {H : Hp} : ov r F (ov r F' H) = ov r F H := ov_ov
theorem specF_of {P : Program} {f : FuncId} {n : Nat} {rs : List ResultVar} {cc : CC} {as' : Nat→List A} {F F' : Fam} {x : Nat→A} (t : Txt P f n rs cc) (ha : (as' 0).length≤n) (h0 : FamL as') (h1 : FamA x)
    (h : ∀ w0 I0 M0 m0,WPC (cxh P w0 I0 M0 n m0) cc (RetH (cxh P w0 I0 M0 n m0) rs 1 (x 0) (ov 0 (F'.F 0) (lkH []))) ⟨argS (as' 0),ov 0 (F.F 0) (lkH [])⟩) : SpecF P f as' F x F' :=
  ⟨h0,h1,specH_of t ha h⟩
theorem reth_fam {c : Cx} {rs : List ResultVar} {x : A} {F' : Nm→VOb} {r0 : A} {st : Sta} (h : resA c.P st rs = some r0) (he : r0 = x) (hh : ∀ p,st.H (0 :: p) = F' p) : RetH c rs 1 x (ov 0 F' (lkH [])) .ret st :=
  reth_ret h he fun i p hi => by
    have : i = 0 := by omega
    subst this
    rw [hh]
    simp
theorem reth_famN {c : Cx} {rs : List ResultVar} {x : A} {F' : Nm→VOb} {r0 : A} {st : Sta} (h : resA c.P st rs = some r0) (he : r0 = x) (hh : ∀ p,st.H (0 :: p) = F' p) : RetH c rs 1 x (ov 0 F' (lkH [])) .normal st :=
  reth_normal h he fun i p hi => by
    have : i = 0 := by omega
    subst this
    rw [hh]
    simp
structure FamL2 (a : Nat→Nat→List A) : Prop where
  ren : ∀ {g : Nm→Nm} {δ : Nm→Nat} {r r' q q' : Nat},(∀ p,g (r :: p) = r' :: p)→(∀ p,δ (r :: p) = 0)→(∀ p,g (q :: p) = q' :: p)→(∀ p,δ (q :: p) = 0)→A.renL g δ (a r q) = a r' q'
  refs : ∀ {D : Nm→Prop} {r q : Nat},(∀ p,D (r :: p))→(∀ p,D (q :: p))→A.refsL D (a r q)
@[simp] theorem famL2_nil : FamL2 (fun _ _ => []) := ⟨fun _ _ _ _ => by simp [A.renL],fun _ _ => by simp [A.refsL]⟩
section
variable {P : Program} {K : Sta→Prop} {rest : List CO} {s : Nat→A} {H : Hp} {dd : Option Nat} {nm : Nm} {ix : Nat} {un : List Nat} {l : Bool} {lg : Lg} {g : FuncId} {aa : Array Operand} {ts : Array TypeId}
end
def rowM (u sz : Nat) (xs : List A) (h : ∀ x,x ∈ xs→FamA (fun _ => x)) : Fam := ⟨fun _ p => if p = [] then ⟨u,.arr sz xs⟩ else ⟨0,.none⟩,fun {g δ r r'} hg hd p => by
    by_cases hp : p = []
    · rw [if_pos hp]
      exact Fam.arr_ren ((FamL.all h).ren hg hd)
    · rw [if_neg hp]; rfl,fun {D r} hD p => by
    by_cases hp : p = []
    · rw [if_pos hp]
      exact (FamL.all h).refs hD
    · rw [if_neg hp]; trivial⟩
@[simp] theorem rowM_F {u sz : Nat} {xs : List A} {h : ∀ x,x ∈ xs→FamA (fun _ => x)} {r : Nat} {p : Nm} : (rowM u sz xs h).F r p = if p = [] then ⟨u,.arr sz xs⟩ else ⟨0,.none⟩ := rfl
structure Fam2 where
  B : Nat→Nat→Nm→VOb
  C : Nat→Nat→Nm→VOb
  ren : ∀ {g : Nm→Nm} {δ : Nm→Nat} {r r' q q' : Nat},(∀ p,g (r :: p) = r' :: p)→(∀ p,δ (r :: p) = 0)→(∀ p,g (q :: p) = q' :: p)→(∀ p,δ (q :: p) = 0)→∀ p,(B r q p).ren g δ 0 = B r' q' p∧(C r q p).ren g δ 0 = C r' q' p
  refs : ∀ {D : Nm→Prop} {r q : Nat},(∀ p,D (r :: p))→(∀ p,D (q :: p))→∀ p,(B r q p).ob.refs D∧(C r q p).ob.refs D
def Fam.two (F G : Fam) : Fam2 := ⟨fun r _ => F.F r,fun _ q => G.F q,fun h1 h2 h3 h4 p => ⟨F.ren h1 h2 p,G.ren h3 h4 p⟩,fun h1 h2 p => ⟨F.refs h1 p,G.refs h2 p⟩⟩
@[simp] theorem two_B {F G : Fam} {r q : Nat} : (F.two G).B r q = F.F r := rfl
@[simp] theorem two_C {F G : Fam} {r q : Nat} : (F.two G).C r q = G.F q := rfl
section
variable {P : Program} {K : Sta→Prop} {rest : List CO} {s : Nat→A} {H : Hp} {dd : Option Nat} {nm : Nm} {ix : Nat} {un : List Nat} {l : Bool} {lg : Lg} {g : FuncId} {aa : Array Operand} {ts : Array TypeId}
end
end Go.G

namespace Go.PL
set_option linter.unusedVariables false
set_option linter.unusedSimpArgs false
def fndP (stop : Nat→Bool) (pl : List Nat) : Nat→Nat→Nat
  | 0,a => a
  | f + 1,a => if pl.getD a 0 = 0 then a else if stop (pl.getD a 0) = true then a else fndP stop pl f ((a + 1) % pl.length)
theorem mod_succ (a d m : Nat) : ((a + 1) % m + d) % m = (a + (d + 1)) % m := by
  rw [Nat.mod_add_mod]
  congr 1
  omega
theorem fndP_spec {stop : Nat→Bool} {pl : List Nat} : ∀ (f a d : Nat),a < pl.length→d < f→pl.getD ((a + d) % pl.length) 0 = 0 →
    fndP stop pl f a < pl.length∧(pl.getD (fndP stop pl f a) 0 = 0∨stop (pl.getD (fndP stop pl f a) 0) = true) ∧
      ∃ k,fndP stop pl f a = (a + k) % pl.length∧∀ e,e < k→pl.getD ((a + e) % pl.length) 0 ≠ 0∧stop (pl.getD ((a + e) % pl.length) 0) = false := by
  intro f
  induction f with
  | zero => intro a d _ h; omega
  | succ f ih =>
    intro a d ha hd hz
    unfold fndP
    have hself : ∃ k,a = (a + k) % pl.length∧∀ e,e < k→pl.getD ((a + e) % pl.length) 0 ≠ 0∧stop (pl.getD ((a + e) % pl.length) 0) = false := ⟨0,by rw [Nat.add_zero,Nat.mod_eq_of_lt ha],fun e he => by omega⟩
    split
    · rename_i h0
      exact ⟨ha,.inl h0,hself⟩
    · rename_i h0
      split
      · rename_i h1
        exact ⟨ha,.inr h1,hself⟩
      · rename_i h1
        cases d with
        | zero => rw [Nat.add_zero,Nat.mod_eq_of_lt ha] at hz; exact absurd hz h0
        | succ d =>
          obtain ⟨p1,p2,k,p3,p4⟩ := ih ((a + 1) % pl.length) d (Nat.mod_lt _ (by omega)) (by omega) (by rw [mod_succ]; exact hz)
          refine ⟨p1,p2,k + 1,by rw [p3,mod_succ],fun e he => ?_⟩
          cases e with
          | zero => rw [Nat.add_zero,Nat.mod_eq_of_lt ha]; exact ⟨h0,by simpa using h1⟩
          | succ e =>
            have := p4 e (by omega)
            rwa [mod_succ] at this
structure Pl (hs : List Nat) (pl : List Nat) : Prop where
  cnt : pl.countP (fun v => v != 0) = hs.length
  vals : ∀ v,v ∈ pl→v≤hs.length
  reach : ∀ (c : Nat) (hc : c < hs.length),∃ d,pl[(hs[c] + d) % pl.length]? = some (c + 1)∧∀ e,e < d→pl.getD ((hs[c] + e) % pl.length) 0 ≠ 0
theorem Pl.free {hs pl : List Nat} (h : Pl hs pl) (hl : hs.length < pl.length) (a : Nat) : ∃ d,d < pl.length∧pl.getD ((a + d) % pl.length) 0 = 0 := by
  have hm : ∃ v,v ∈ pl∧v = 0 := by
    apply Classical.byContradiction
    intro hn
    have : pl.countP (fun v => v != 0) = pl.length := List.countP_eq_length.2 fun v hv => by
      simp only [bne_iff_ne,ne_eq]
      exact fun e => hn ⟨v,hv,e⟩
    have := h.cnt
    omega
  obtain ⟨v,hv,rfl⟩ := hm
  obtain ⟨i,hi,e⟩ := List.mem_iff_getElem.1 hv
  refine ⟨(i + (pl.length - a % pl.length)) % pl.length,Nat.mod_lt _ (by omega),?_⟩
  have : (a + (i + (pl.length - a % pl.length)) % pl.length) % pl.length = i := by
    rw [Nat.add_mod_mod]
    have h1 := Nat.mod_lt a (show 0 < pl.length by omega)
    have h2 := Nat.div_add_mod a pl.length
    have h3 : a + (i + (pl.length - a % pl.length)) = i + pl.length * (a / pl.length + 1) := by
      rw [Nat.mul_add,Nat.mul_one]
      omega
    rw [h3,Nat.add_mul_mod_self_left,Nat.mod_eq_of_lt hi]
  rw [this]
  simp [hi,e]
theorem countP_set {pl : List Nat} {a v : Nat} (ha : a < pl.length) (h0 : pl.getD a 0 = 0) (hv : v ≠ 0) : (pl.set a v).countP (fun v => v != 0) = pl.countP (fun v => v != 0) + 1 := by
  induction pl generalizing a with
  | nil => simp at ha
  | cons x l ih =>
    cases a with
    | zero =>
      simp at h0
      subst h0
      simp [hv]
    | succ a =>
      simp only [List.set_cons_succ,List.countP_cons]
      rw [ih (by simpa using ha) (by simpa using h0)]
      omega
theorem Pl.ins {hs pl : List Nat} (h : Pl hs pl) {x a k : Nat} (ha : a < pl.length) (h0 : pl.getD a 0 = 0) (he : a = (x + k) % pl.length) (hk : ∀ e,e < k→pl.getD ((x + e) % pl.length) 0 ≠ 0) : Pl (hs ++ [x]) (pl.set a (hs.length + 1)) := by
  have hmod : ∀ y,y % pl.length < pl.length := fun y => Nat.mod_lt _ (by omega)
  have nz : ∀ y,pl.getD (y % pl.length) 0 ≠ 0→(pl.set a (hs.length + 1)).getD (y % pl.length) 0 ≠ 0 := fun y hy => by
    have hne : a ≠ y % pl.length := fun e => hy (by rw [← e]; exact h0)
    simpa [List.getD_eq_getElem?_getD,List.getElem?_set_ne hne] using hy
  refine ⟨?_,fun v hv => ?_,fun c hc => ?_⟩
  · rw [countP_set ha h0 (by omega),h.cnt]; simp
  · rw [List.length_append,List.length_singleton]
    rcases List.mem_or_eq_of_mem_set hv with hv | rfl
    · have := h.vals v hv; omega
    · omega
  · simp only [List.length_set]
    by_cases hcl : c < hs.length
    · obtain ⟨d,h1,h2⟩ := h.reach c hcl
      rw [List.getElem_append_left hcl]
      refine ⟨d,?_,fun e he => nz _ (h2 e he)⟩
      have hne : a ≠ (hs[c] + d) % pl.length := fun e => by
        rw [← e] at h1
        rw [List.getD_eq_getElem?_getD,h1] at h0
        simp at h0
      rw [List.getElem?_set_ne hne,h1]
    · have : c = hs.length := by simp at hc; omega
      subst this
      rw [List.getElem_append_right (Nat.le_refl _)]
      simp only [Nat.sub_self,List.getElem_cons_zero]
      refine ⟨k,?_,fun e he => nz _ (hk e he)⟩
      rw [← he,List.getElem?_set_self ha]
def insP (pl : List Nat) (x v : Nat) : List Nat := pl.set (fndP (fun _ => false) pl pl.length (x % pl.length)) v
def growP : List Nat→Nat→List Nat→List Nat
  | pl,_,[] => pl
  | pl,i,x :: hs => growP (insP pl x (i + 1)) (i + 1) hs
@[simp] theorem insP_length {pl : List Nat} {x v : Nat} : (insP pl x v).length = pl.length := by simp [insP]
theorem Pl.nil (m : Nat) : Pl [] (List.replicate m 0) := by
  refine ⟨?_,fun v hv => ?_,fun c hc => ?_⟩
  · simp [List.countP_replicate]
  · simp at hv; omega
  · simp at hc
theorem fndP_mod {stop : Nat→Bool} {pl : List Nat} {x : Nat} {hs : List Nat} (h : Pl hs pl) (hl : hs.length < pl.length) :
    fndP stop pl pl.length (x % pl.length) < pl.length∧(pl.getD (fndP stop pl pl.length (x % pl.length)) 0 = 0∨stop (pl.getD (fndP stop pl pl.length (x % pl.length)) 0) = true) ∧
      ∃ k,fndP stop pl pl.length (x % pl.length) = (x + k) % pl.length∧∀ e,e < k→pl.getD ((x + e) % pl.length) 0 ≠ 0∧stop (pl.getD ((x + e) % pl.length) 0) = false := by
  obtain ⟨d,h1,h2⟩ := h.free hl (x % pl.length)
  have := fndP_spec (stop := stop) pl.length (x % pl.length) d (Nat.mod_lt _ (by omega)) h1 h2
  simpa using this
theorem Pl.insP {hs pl : List Nat} (h : Pl hs pl) (hl : hs.length < pl.length) (x : Nat) : Pl (hs ++ [x]) (insP pl x (hs.length + 1)) := by
  obtain ⟨h1,h2,k,h3,h4⟩ := fndP_mod (stop := fun _ => false) (x := x) h hl
  refine h.ins h1 (h2.resolve_right (by simp)) h3 fun e he => (h4 e he).1
theorem Pl.grow : ∀ {hs2 hs pl : List Nat},Pl hs pl→hs.length + hs2.length≤pl.length→Pl (hs ++ hs2) (growP pl hs.length hs2)
  | [],hs,pl,h,_ => by simpa [growP] using h
  | x :: hs2,hs,pl,h,hl => by
    simp only [List.length_cons] at hl
    have h1 := h.insP (by omega) x
    have := Pl.grow (hs2 := hs2) h1 (by simp; omega)
    rw [List.append_assoc] at this
    simpa [growP] using this
end Go.PL

namespace Go.Proofs.YthfiijdbnkaabaaGreat
set_option linter.unusedVariables false
set_option linter.unusedSimpArgs false
open Go Go.G Go.Proofs Go.PL
structure Cl where
  l : List (List Int)
  r : Rf
  t : T
noncomputable def Cl.h (c : Cl) : Int := hashN (norm c.t)
noncomputable def Cl.hn (c : Cl) : Nat := c.h.toNat
abbrev clL (h : Int) (l : List (List Int)) (r : Rf) : List A := uv h :: paL l r
noncomputable def Cl.a (c : Cl) : A := .agg (clL c.h c.l c.r)
abbrev nv (n : Nat) : A := iv (n : Int)
structure Tb where
  u : Nat
  uc : Nat
  up : Nat
  cl : List Cl
  pl : List Nat
structure Tb.Ok (S : Tb) : Prop where
  p8 : 8≤S.pl.length
  half : 2 * S.cl.length≤S.pl.length
  most : S.pl.length≤8 + 4 * S.cl.length
  pl : Pl (S.cl.map Cl.hn) S.pl
  means : ∀ c,c ∈ S.cl→Sg c.l∧Means c.l c.r c.t
  nd : (S.cl.map fun c => norm c.t).Nodup
noncomputable def Tb.ks (S : Tb) : List T := S.cl.map fun c => norm c.t
@[simp] theorem Tb.ks_length (S : Tb) : S.ks.length = S.cl.length := by simp [Tb.ks]
theorem Tb.Ok.lt {S : Tb} (h : S.Ok) : S.cl.length < S.pl.length := by have := h.p8; have := h.half; omega
structure Tb.Ok1 (S : Tb) : Prop where
  p8 : 8≤S.pl.length
  half : 2 * S.cl.length≤S.pl.length + 2
  most : S.pl.length≤8 + 4 * S.cl.length
  pl : Pl (S.cl.map Cl.hn) S.pl
  means : ∀ c,c ∈ S.cl→Sg c.l∧Means c.l c.r c.t
  nd : (S.cl.map fun c => norm c.t).Nodup
theorem Tb.Ok1.ok {S : Tb} (h : S.Ok1) (hf : ¬ S.pl.length < 2 * S.cl.length) : S.Ok := ⟨h.p8,by omega,h.most,h.pl,h.means,h.nd⟩
section
variable {n0 : Nat} {w0 : World} {I0 : Nat→Prop} {Q : Exit→Sta→Prop}
end
end Go.Proofs.YthfiijdbnkaabaaGreat

namespace Go.Proofs.YthfiijdbnkaabaaGreat
set_option linter.unusedVariables false
set_option linter.unusedSimpArgs false
open Go Go.G Go.Proofs Go.PL
section
variable {n0 : Nat} {w0 : World} {I0 : Nat→Prop} {M0 : Nm→Nat→Prop} {m0 : Mu} {Q : Exit→Sta→Prop}
end
theorem famL_ref (l : List (List Int)) (r : Rf) : FamA (fun _ => paX l r) := famA_bare rfl fun x hx => by
  simp at hx
  rcases hx with rfl | rfl | rfl | rfl | rfl | rfl | rfl | rfl <;> simp
end Go.Proofs.YthfiijdbnkaabaaGreat

namespace Go.Proofs.YthfiijdbnkaabaaGreat
set_option linter.unusedVariables false
set_option linter.unusedSimpArgs false
open Go Go.G Go.Proofs Go.PL
structure Cp where
  v : Nat
  W : List Int
theorem renL_uv {g : Nm→Nm} {δ : Nm→Nat} (l : List Int) : A.renL g δ (l.map uv) = l.map uv := by
  rw [renL_map,List.map_map]
  rfl
def ptQ (p : Pt) (at_ to : Int) : Pt := { p with off := if p.kind = 1∧p.data + p.ptrs = 0 then -1 else to - at_ - 1 }
abbrev ptL (p : Pt) : List A := [iv p.kind,iv p.off,iv p.data,iv p.ptrs,iv p.code,iv p.count,iv p.seg,bv p.dbl]
theorem enc_str {at_ to w k : Int} (h0 : 0≤at_) (h1 : at_≤200000) (h2 : 0≤to) (h3 : to≤200000) (w0 : 0≤w) (w1 : w < 65536) (k0 : 0≤k) (k1 : k < 65536) : encW (ptQ ⟨1,0,w,k,0,0,0,false⟩ at_ to) = ptrZ at_ (if w + k = 0 then at_ else to) 0 (w + 65536 * k) := by
  by_cases hz : w + k = 0
  · have e : ptQ ⟨1,0,w,k,0,0,0,false⟩ at_ to = ⟨1,-1,w,k,0,0,0,false⟩ := by simp [ptQ,hz]
    rw [e,if_pos hz]
    unfold encW ptrZ
    simp only
    rw [if_pos trivial,if_pos (by omega),if_pos (by omega)]
    omega
  · have e : ptQ ⟨1,0,w,k,0,0,0,false⟩ at_ to = ⟨1,to - at_ - 1,w,k,0,0,0,false⟩ := by simp [ptQ,hz]
    rw [e,if_neg hz]
    unfold encW ptrZ
    simp only
    rw [if_pos trivial,if_pos (by omega)]
    split <;> omega
theorem enc_list {at_ to c n : Int} (h0 : 0≤at_) (h1 : at_≤200000) (h2 : 0≤to) (h3 : to≤200000) (c0 : 0≤c) (c1 : c≤7) (n0 : 0≤n) (n1 : n < 536870912) : encW (ptQ ⟨2,0,0,0,c,n,0,false⟩ at_ to) = ptrZ at_ to 1 (c + 8 * n) := by
  have e : ptQ ⟨2,0,0,0,c,n,0,false⟩ at_ to = ⟨2,to - at_ - 1,0,0,c,n,0,false⟩ := by simp [ptQ]
  rw [e]
  unfold encW ptrZ
  simp only
  rw [if_neg (by decide),if_pos trivial,if_pos (by omega)]
  split <;> omega
end Go.Proofs.YthfiijdbnkaabaaGreat

namespace Go.Proofs.YthfiijdbnkaabaaGreat
set_option linter.unusedVariables false
set_option linter.unusedSimpArgs false
open Go Go.G Go.Proofs Go.PL
theorem kid_lay {l : List (List Int)} (hs : Sg l) {r : Rf} {t : T} (hm : Means l r t) (hk : t.kind = 1∨t.kind = 8) {i : Nat} (hi : i < t.kids.length) : t.kids[i].kind ≠ 10∧LayOk (norm t.kids[i]) := by
  obtain ⟨h1,h2⟩ := means_kid hm hi
  have hr := means_kind hm
  have : t.kids[i].kind ≠ 10 := by
    rw [← means_kind h2]
    exact kid_kind (by omega) i
  exact ⟨this,laid_of hs _ _ h2 this⟩
theorem kids_lay {l : List (List Int)} (hs : Sg l) {r : Rf} {t : T} (hm : Means l r t) (hk : t.kind = 1∨t.kind = 8) (n i : Nat) : ∀ u,u ∈ ((t.kids.take n).drop i).map norm→LayOk u := fun u hu => by
  obtain ⟨v,hv,rfl⟩ := List.mem_map.1 hu
  obtain ⟨j,hj,rfl⟩ := List.mem_iff_getElem.1 (List.mem_of_mem_take (List.mem_of_mem_drop hv))
  exact (kid_lay hs hm hk hj).2
theorem sizeL_nonneg {ts : List T} (h : ∀ u,u ∈ ts→LayOk u) : 0≤sizeL ts := by
  have := layL_len h 0 []
  simp at this
  omega
section
variable {n0 : Nat} {w0 : World} {I0 : Nat→Prop} {M0 : Nm→Nat→Prop} {m0 : Mu} {Q : Exit→Sta→Prop}
end
theorem norm_w_len {l : List (List Int)} {r : Rf} {t : T} (hm : Means l r t) : (norm t).words.length = nW t∧(norm t).kids.length = nK t := by
  have h1 := norm_words (means_bare hm)
  have h2 := norm_kids (means_bare hm)
  have := nW_le t
  have := nK_le t
  rw [h1,h2]
  simp
  omega
end Go.Proofs.YthfiijdbnkaabaaGreat

namespace Go.Proofs.YthfiijdbnkaabaaGreat
set_option linter.unusedVariables false
set_option linter.unusedSimpArgs false
open Go Go.G Go.Proofs Go.PL
theorem frame_bound {ts : List T} {w k : Nat} (h : ∀ t,t ∈ ts→t.words.length≤w∧t.kids.length≤k) : frameW ts≤w∧frameK ts≤k := by
  induction ts with
  | nil => simp [frameW,frameK]
  | cons t ts ih =>
    have h1 := h t (by simp)
    have h2 := ih fun u hu => h u (by simp [hu])
    simp only [frameW,frameK]
    omega
section
variable {n0 : Nat} {w0 : World} {I0 : Nat→Prop} {Q : Exit→Sta→Prop}
end
theorem sizeLL_nonneg {ts : List T} (h : ∀ t,t ∈ ts→∀ u,u ∈ t.kids→LayOk u) : 0≤sizeLL ts := by
  induction ts with
  | nil => simp
  | cons t ts ih =>
    rw [sizeLL_cons]
    have := sizeL_nonneg (h t (by simp))
    have := ih fun u hu => h u (by simp [hu])
    omega
end Go.Proofs.YthfiijdbnkaabaaGreat

namespace Go.Proofs.YthfiijdbnkaabaaGreat
set_option linter.unusedVariables false
set_option linter.unusedSimpArgs false
open Go Go.G Go.Proofs Go.PL
theorem width_cases {c : Int} (h0 : 0≤c) (h6 : c < 6) : ∃ w : Nat,widthZ c = w∧bitsZ c = w∧(w = 0∨w = 1∨w = 8∨w = 16∨w = 32∨w = 64) := by
  have : c = 0∨c = 1∨c = 2∨c = 3∨c = 4∨c = 5 := by omega
  rcases this with rfl | rfl | rfl | rfl | rfl | rfl
  · exact ⟨0,rfl,rfl,by simp⟩
  · exact ⟨1,rfl,rfl,by simp⟩
  · exact ⟨8,rfl,rfl,by simp⟩
  · exact ⟨16,rfl,rfl,by simp⟩
  · exact ⟨32,rfl,rfl,by simp⟩
  · exact ⟨64,rfl,rfl,by simp⟩
theorem fits_lt {c n : Int} {w : Nat} (hw : widthZ c = w) (h0 : 0≤n) (h : fitsZ c n = true) : n < 2 ^ w := by
  simp only [fitsZ,Bool.and_eq_true,decide_eq_true_eq,hw] at h
  have hp : (0 : Int) < 2 ^ w := Int.pow_pos (by decide)
  have h2 := h.2
  simp only [Int.toNat_natCast] at h2
  have h3 := Int.emod_add_mul_ediv n (2 ^ w)
  rw [h2,Int.mul_zero,Int.add_zero] at h3
  rw [← h3]
  exact Int.emod_lt_of_pos _ hp
theorem prod_mod {i w : Nat} (hw : w≤64) (hi : i≤1000000000) : IntKind.i64.wrap ((i : Int) * w) = (i : Int) * w∧((i : Int) * w).tmod 64 = ((i * w % 64 : Nat) : Int)∧((i : Int) * w).tdiv 64 = ((i * w / 64 : Nat) : Int) := by
  have him : i * w≤1000000000 * 64 := Nat.mul_le_mul hi hw
  have e : (i : Int) * w = ((i * w : Nat) : Int) := by rw [Int.natCast_mul]
  rw [e]
  refine ⟨i64_same (by omega) (by omega),?_,?_⟩
  · rw [Int.tmod_eq_emod_of_nonneg (by omega)]; omega
  · rw [Int.tdiv_eq_ediv_of_nonneg (by omega)]; omega
section
variable {n0 : Nat} {w0 : World} {I0 : Nat→Prop} {Q : Exit→Sta→Prop}
theorem rPut_l1 {c : A} {ns : List Int} {w i s : Nat} {m : Nat} {H : Hp} (hw : w≤64) (hi : i≤1000000000) (hs : i * w % 64 = s) : ∀ (j k : Nat) (x : Int),k + j = s→0≤x→x * 2 ^ j < 18446744073709551616→(∀ q,Q (.exit 2) ⟨lk [(0,c),(1,uws ns),(6,nv w),(7,.osl [0] 1 1 0 m),(8,nv i),(9,uv (x * 2 ^ j)),(10,nv s),(39,bv q)],H⟩) →
    LoopC (cx Tryz.prog w0 I0 n0) l1_centoref01_Put Q ⟨lk [(0,c),(1,uws ns),(6,nv w),(7,.osl [0] 1 1 0 m),(8,nv i),(9,uv x),(10,nv k)],H⟩ := by
  obtain ⟨e1,e2,_⟩ := prod_mod hw hi
  rw [hs] at e2
  have hs64 : s < 64 := by omega
  intro j
  induction j with
  | zero =>
    intro k x hk h0 hx hq
    have : k = s := by omega
    subst this
    refine loopC_once mixed l1_centoref01_Put.eq_1 ?_
    have := hq false
    simp [e1,e2] at this ⊢
    exact this
  | succ j ih =>
    intro k x hk h0 hx hq
    have hlt : k < s := by omega
    have ek : IntKind.i64.wrap ((k : Int) + 1) = ((k + 1 : Nat) : Int) := i64_same (by omega) (by omega)
    have hp : (0 : Int) < 2 ^ j := Int.pow_pos (by decide)
    rw [Int.pow_succ,Int.mul_comm (2 ^ j) 2,← Int.mul_assoc] at hx hq
    have h2 : x * 2≤x * 2 * 2 ^ j := by
      have := Int.mul_le_mul_of_nonneg_left (show (1 : Int)≤2 ^ j by omega) (show 0≤x * 2 by omega)
      omega
    have ex : IntKind.u64.wrap (x * 2) = x * 2 := u64_same (by omega) (by omega)
    refine loopC_once mixed l1_centoref01_Put.eq_1 ?_
    simp [e1,e2,hlt,ek,ex]
    exact ih (k + 1) (x * 2) (by omega) (by omega) hx hq
theorem rPut_l2 {c : Int} {ns : List Int} (hn : ns.length≤1000000000) {w : Nat} (hw : w = 0∨w = 1∨w = 8∨w = 16∨w = 32∨w = 64) (hwc : widthZ c = w) (hfit : ∀ x,x ∈ ns→u64R x∧fitsZ c x = true) {m : Nat} (hm : w ≠ 0→m = (ns.length * w + 63) / 64)
    (hq : ∀ (q : Bool) (H' : Hp) (out : List Int),out = putL w ns 0 (List.replicate m 0)→H' [0] = ⟨1,.arr 1 (out.map uv)⟩→Q (.exit 0) ⟨lk [(0,iv c),(1,uws ns),(6,nv w),(7,.osl [0] 1 1 0 m),(8,nv ns.length),(23,bv q)],H'⟩) :
    ∀ (j i : Nat) (out : List Int) (H : Hp),i + j = ns.length→out.length = m→(w ≠ 0→PutI w i out)→putL w (ns.drop i) i out = putL w ns 0 (List.replicate m 0)→H [0] = ⟨1,.arr 1 (out.map uv)⟩ →
    LoopC (cx Tryz.prog w0 I0 n0) l2_centoref01_Put Q ⟨lk [(0,iv c),(1,uws ns),(6,nv w),(7,.osl [0] 1 1 0 m),(8,nv i)],H⟩ := by
  have hw64 : w≤64 := by omega
  intro j
  induction j with
  | zero =>
    intro i out H hi hl hI hp hH
    have : i = ns.length := by omega
    subst this
    rw [List.drop_eq_nil_of_le (Nat.le_refl _),putL] at hp
    refine loopC_once mixed l2_centoref01_Put.eq_1 ?_
    simp
    exact hq _ H out hp hH
  | succ j ih =>
    intro i out H hi hl hI hp hH
    have hlt : i < ns.length := by omega
    have ei : IntKind.i64.wrap ((i : Int) + 1) = ((i + 1 : Nat) : Int) := i64_same (by omega) (by omega)
    obtain ⟨f1,f2⟩ := hfit _ (List.getElem_mem hlt)
    have f1' := f1
    unfold u64R at f1'
    have hx2 := fits_lt hwc f1'.1 f2
    obtain ⟨e1,e2,e3⟩ := prod_mod (i := i) hw64 (by omega)
    rw [List.drop_eq_getElem_cons hlt,putL] at hp
    refine loopC_once mixed l2_centoref01_Put.eq_1 ?_
    simp [hlt]
    refine sc_call (rFits_spec f1) (by simp) ?_
    simp [f2]
    by_cases h0 : w = 0
    · subst h0
      rw [if_pos rfl] at hp
      refine rPut_l1 (s := 0) hw64 (by omega) (by simp) 0 0 _ (by omega) f1'.1 (by simpa using f1'.2) (fun q => ?_)
      simp [ei]
      exact ih (i + 1) out H (by omega) hl (fun h => absurd rfl h) hp hH
    · rw [if_neg h0] at hp
      have hat : i * w / 64 < out.length := by rw [hl,hm h0]; exact put_at (by omega) hlt
      obtain ⟨p1,p2,p3,p4,p5⟩ := putI_step (hI h0) (by omega) f1'.1 hx2 hat
      refine rPut_l1 (s := i * w % 64) hw64 (by omega) rfl (i * w % 64) 0 _ (by omega) f1'.1 p4 (fun q => ?_)
      have hw0 : (0 : Int) < w := by omega
      have hw0' : 0 < w := by omega
      have hg : out.getD (i * w / 64) 0 = out[i * w / 64] := by simp [hat]
      have hat' : ((i * w / 64 : Nat) : Int) < m := by omega
      have hatm : i * w / 64 < m := by omega
      rw [hg] at p1 p2 p3 p5 hp
      have ex : IntKind.u64.wrap (out[i * w / 64] + ns[i] * 2 ^ (i * w % 64)) = out[i * w / 64] + ns[i] * 2 ^ (i * w % 64) := by
        have := Int.mul_nonneg f1'.1 (show (0 : Int)≤2 ^ (i * w % 64) from Int.le_of_lt (Int.pow_pos (by decide)))
        exact u64_same (by omega) (by omega)
      have him : i * w≤1000000000 * 64 := Nat.mul_le_mul (by omega) hw64
      have eP : IntKind.i64.wrap ((i * w / 64 : Nat) : Int) = ((i * w / 64 : Nat) : Int) := i64_same (by omega) (by omega)
      generalize i * w / 64 = P at *
      simp [ei,hw0',e1,e3,hH,hat,hatm,ex,eP]
      refine ih (i + 1) (out.set P (out[P] + ns[i] * 2 ^ (i * w % 64))) _ (by omega) (by simpa using hl) (fun _ => p1) hp ?_
      simp [List.map_set]
end
theorem rPut_spec {c : Int} (c0 : 0≤c) (c6 : c < 6) {ns : List Int} (hn : ns.length≤1000000000) (hfit : ∀ x,x ∈ ns→u64R x∧fitsZ c x = true) : G.Spec Tryz.prog 115 [iv c,uws ns] (.tup [uws (putZ c ns),bv true]) := by
  obtain ⟨w,w1,w2,w3⟩ := width_cases c0 c6
  have hroom : roomZ c ns.length = (((ns.length * w + 63) / 64 : Nat) : Int) := by
    unfold roomZ
    rw [if_neg (by omega),w2]
    have e : (ns.length : Int) * w = ((ns.length * w : Nat) : Int) := by rw [Int.natCast_mul]
    rw [e]
    omega
  have hm : (roomZ c ns.length).toNat = (ns.length * w + 63) / 64 := by rw [hroom]; omega
  have hb : (ns.length * w + 63) / 64≤1000000001 := by
    have : ns.length * w≤1000000000 * 64 := Nat.mul_le_mul hn (by omega)
    omega
  refine spec_of t_centoref01_Put (by simp) fun w0 I0 => ?_
  unfold c_centoref01_Put
  simp
  refine sc_call (rWidth_spec c) rfl ?_
  rw [w1]
  have hnn : ¬ (w : Int) < 0 := by omega
  simp [hnn]
  refine sc_call (rRoom_spec c ns.length) (by simp) ?_
  rw [hroom]
  generalize hM : (ns.length * w + 63) / 64 = m at *
  have hm8 : (m : Int) * 8≤140737488355328 := by omega
  have hz : putZ c ns = putL w ns 0 (List.replicate m 0) := by
    unfold putZ
    rw [w1,hm]
    simp
  rw [hz]
  simp [hm8]
  refine ⟨by omega,?_⟩
  refine rPut_l2 hn w3 w1 hfit (m := m) (fun _ => hM.symm) (fun q H' out ho hH => ?_) ns.length 0 (List.replicate m 0) _ (by omega) (by simp) (fun _ => PutI.start w m) (by simp) ?_
  rotate_left
  · simp
  subst ho
  simp
  refine frz_tup ?_
  simp
  exact ⟨frz_row (f := uv) (by rw [hH]; simp) (by simp [putL_length]) (fun x => by simp),frz_bare rfl⟩
section
variable {n0 : Nat} {w0 : World} {I0 : Nat→Prop} {M0 : Nm→Nat→Prop} {m0 : Mu} {Q : Exit→Sta→Prop}
end
end Go.Proofs.YthfiijdbnkaabaaGreat

namespace Go.PL
set_option linter.unusedVariables false
set_option linter.unusedSimpArgs false
def trimG {α : Type} (p : α→Bool) (l : List α) : List α := (l.reverse.dropWhile p).reverse
theorem trimG_snoc {α : Type} {p : α→Bool} (l : List α) (x : α) : trimG p (l ++ [x]) = if p x = true then trimG p l else l ++ [x] := by
  unfold trimG
  rw [List.reverse_append,List.reverse_singleton,List.singleton_append,List.dropWhile_cons]
  split <;> simp
theorem snocRec {α : Type} {P : List α→Prop} (h0 : P []) (h1 : ∀ l x,P l→P (l ++ [x])) (l : List α) : P l := by
  have : ∀ m : List α,P m.reverse := by
    intro m
    induction m with
    | nil => exact h0
    | cons x m ih => rw [List.reverse_cons]; exact h1 _ _ ih
  have := this l.reverse
  rwa [List.reverse_reverse] at this
theorem trimG_getD {α : Type} {p : α→Bool} {z : α} (l : List α) : (∀ x,x ∈ l→p x = true→x = z)→∀ i,(trimG p l).getD i z = l.getD i z := by
  refine snocRec (P := fun l => (∀ x,x ∈ l→p x = true→x = z)→∀ i,(trimG p l).getD i z = l.getD i z) (fun _ i => rfl) (fun l x ih h i => ?_) l
  rw [trimG_snoc]
  split
  · rename_i hx
    rw [ih (fun y hy => h y (by simp [hy])) i]
    have := h x (by simp) hx
    subst this
    simp only [List.getD_eq_getElem?_getD,List.getElem?_append]
    split
    · rfl
    · rw [List.getElem?_eq_none (by omega)]
      by_cases e : i - l.length = 0
      · simp [e]
      · rw [List.getElem?_eq_none (by simp; omega)]
  · rfl
theorem trimG_last {α : Type} {p : α→Bool} {z : α} (l : List α) : trimG p l ≠ []→p ((trimG p l).getD ((trimG p l).length - 1) z) = false := by
  refine snocRec (P := fun l => trimG p l ≠ []→p ((trimG p l).getD ((trimG p l).length - 1) z) = false) (fun h => absurd rfl h) (fun l x ih h => ?_) l
  rw [trimG_snoc] at h ⊢
  split
  · rename_i hx
    rw [if_pos hx] at h
    exact ih h
  · rename_i hx
    simp at hx ⊢
    exact hx
theorem trimG_eq {α : Type} {p : α→Bool} {z : α} (hz : p z = true) {a b : List α} (ha : ∀ x,x ∈ a→p x = true→x = z) (hb : ∀ x,x ∈ b→p x = true→x = z) : trimG p a = trimG p b ↔ ∀ i,a.getD i z = b.getD i z := by
  constructor
  · intro h i
    rw [← trimG_getD a ha,h,trimG_getD b hb]
  · intro h
    have h' : ∀ i,(trimG p a).getD i z = (trimG p b).getD i z := fun i => by rw [trimG_getD a ha,trimG_getD b hb,h]
    have one : ∀ c d : List α,(∀ i,(trimG p c).getD i z = (trimG p d).getD i z)→(trimG p c).length≤(trimG p d).length := fun c d hcd => by
      by_cases e : trimG p c = []
      · simp [e]
      · have hl := trimG_last (z := z) c e
        have hpos : 0 < (trimG p c).length := List.length_pos_iff.2 e
        rw [hcd] at hl
        refine Nat.le_of_not_lt fun hlt => ?_
        rw [List.getD_eq_getElem?_getD,List.getElem?_eq_none (by omega)] at hl
        simp [hz] at hl
    have hlen : (trimG p a).length = (trimG p b).length := Nat.le_antisymm (one a b h') (one b a fun i => (h' i).symm)
    apply List.ext_getElem hlen
    intro i h1 h2
    have := h' i
    simpa [List.getD_eq_getElem?_getD,h1,h2] using this
theorem trimW_G (l : List Int) : trimW l = trimG (fun x => x == 0) l := rfl
theorem trimK_G (l : List T) : trimK l = trimG (fun x => x.kind == 0) l := rfl
theorem trimW_eq {a b : List Int} : trimW a = trimW b ↔ ∀ i,a.getD i 0 = b.getD i 0 := by
  rw [trimW_G,trimW_G]
  exact trimG_eq rfl (fun x _ h => by simpa using h) (fun x _ h => by simpa using h)
theorem norm_kind0 {t : T} (h : t.kind = 0) : norm t = T0 := by cases t; simp at h; rw [norm_mk,if_pos h]
theorem norm_T0 : norm T0 = T0 := norm_kind0 rfl
theorem getD_norm (l : List T) (i : Nat) : (l.map norm).getD i T0 = norm (l.getD i T0) := by
  simp only [List.getD_eq_getElem?_getD,List.getElem?_map]
  cases l[i]? with
  | none => simp [norm_T0]
  | some x => rfl
theorem trimK_eq {a b : List T} : trimK (a.map norm) = trimK (b.map norm) ↔ ∀ i,norm (a.getD i T0) = norm (b.getD i T0) := by
  have hz : ∀ c : List T,∀ x,x ∈ c.map norm→(x.kind == 0) = true→x = T0 := fun c x hx h0 => by
    obtain ⟨y,_,rfl⟩ := List.mem_map.1 hx
    simp at h0
    exact norm_kind0 h0
  rw [trimK_G,trimK_G,trimG_eq (z := T0) rfl (hz a) (hz b)]
  constructor
  · intro h i; rw [← getD_norm,← getD_norm]; exact h i
  · intro h i; rw [getD_norm,getD_norm]; exact h i
theorem struct_eq {w w' : List Int} {a b : List T} : norm (.mk 1 w a) = norm (.mk 1 w' b) ↔ (∀ i,w.getD i 0 = w'.getD i 0)∧∀ i,norm (a.getD i T0) = norm (b.getD i T0) := by
  rw [norm_mk,norm_mk]
  simp only [if_neg (show ¬ (1 : Int) = 0 by decide),if_true,T.mk.injEq,true_and]
  rw [trimW_eq,trimK_eq]
theorem other_eq {k : Int} {w w' : List Int} {a b : List T} (h0 : k ≠ 0) (h1 : k ≠ 1) : norm (.mk k w a) = norm (.mk k w' b) ↔ w = w'∧a.map norm = b.map norm := by
  rw [norm_mk,norm_mk]
  simp [h0,h1]
theorem norm_norm : ∀ t,norm (norm t) = norm t := by
  refine T.ind fun k w ks ih => ?_
  have hm : (ks.map norm).map norm = ks.map norm := by
    rw [List.map_map]
    exact List.map_congr_left fun x hx => ih x hx
  rw [norm_mk]
  split
  · exact norm_T0
  · rename_i h0
    split
    · rename_i h1
      subst h1
      rw [struct_eq (w' := w) (b := ks) |>.2 ⟨fun i => ?_,fun i => ?_⟩,norm_mk]
      · simp
      · rw [trimW_G]
        exact trimG_getD w (fun x _ h => by simpa using h) i
      · have hz : ∀ x,x ∈ ks.map norm→(x.kind == 0) = true→x = T0 := fun x hx h0 => by
          obtain ⟨y,_,rfl⟩ := List.mem_map.1 hx
          simp at h0
          exact norm_kind0 h0
        rw [trimK_G,trimG_getD _ hz i,← getD_norm,hm,getD_norm]
    · rename_i h1
      rw [norm_mk,if_neg h0,if_neg h1,hm]
end Go.PL

namespace Go.PL
set_option linter.unusedVariables false
set_option linter.unusedSimpArgs false
def fieldZ (w : Nat) (out : List Int) (j : Nat) : Int := out.getD (j * w / 64) 0 / 2 ^ (j * w % 64) % 2 ^ w
theorem pow_split {a b : Nat} : (2 : Int) ^ (a + b) = 2 ^ a * 2 ^ b := Int.pow_add _ _ _
theorem field_low {x n : Int} {a b w : Nat} (h : a + w≤b) : (x + n * 2 ^ b) / 2 ^ a % 2 ^ w = x / 2 ^ a % 2 ^ w := by
  obtain ⟨c,rfl⟩ : ∃ c,b = a + (w + c) := ⟨b - a - w,by omega⟩
  have pa : (0 : Int) < 2 ^ a := Int.pow_pos (by decide)
  have e : n * 2 ^ (a + (w + c)) = (n * 2 ^ c * 2 ^ w) * 2 ^ a := by
    rw [pow_split,pow_split]
    rw [Int.mul_comm ((2 : Int) ^ w) (2 ^ c),Int.mul_comm ((2 : Int) ^ a),← Int.mul_assoc,← Int.mul_assoc]
  rw [e,Int.add_mul_ediv_right _ _ (by omega),Int.add_mul_emod_self_right]
theorem field_here {x n : Int} {b w : Nat} (h0 : 0≤x) (h1 : x < 2 ^ b) (n0 : 0≤n) (n1 : n < 2 ^ w) : (x + n * 2 ^ b) / 2 ^ b % 2 ^ w = n := by
  have pb : (0 : Int) < 2 ^ b := Int.pow_pos (by decide)
  rw [Int.add_mul_ediv_right _ _ (by omega),Int.ediv_eq_zero_of_lt h0 h1,Int.zero_add,Int.emod_eq_of_lt n0 n1]
theorem getD_set_same {l : List Int} {q : Nat} {x : Int} (h : q < l.length) : (l.set q x).getD q 0 = x := by simp [List.getD_eq_getElem?_getD,h]
theorem getD_set_other {l : List Int} {q p : Nat} {x : Int} (h : q ≠ p) : (l.set q x).getD p 0 = l.getD p 0 := by simp [List.getD_eq_getElem?_getD,List.getElem?_set_ne h]
theorem putL_field {w : Nat} (hw : w = 1∨w = 8∨w = 16∨w = 32∨w = 64) : ∀ (ns : List Int) (i : Nat) (out : List Int),PutI w i out→(∀ x,x ∈ ns→0≤x∧x < 2 ^ w)→(∀ j,j < i + ns.length→j * w / 64 < out.length) →
    (∀ j,j < i→fieldZ w (putL w ns i out) j = fieldZ w out j)∧∀ (j : Nat) (h : j < ns.length),fieldZ w (putL w ns i out) (i + j) = ns[j]
  | [],i,out,_,_,_ => ⟨fun j _ => by rw [putL],fun j h => by simp at h⟩
  | n :: ns,i,out,h,hn,hl => by
    have hat := hl i (by simp)
    obtain ⟨n0,n1⟩ := hn n (by simp)
    obtain ⟨g,x0,x1,g2,g3⟩ := putI_step h hw n0 n1 hat
    have hrec := putL_field hw ns (i + 1) _ g (fun x hx => hn x (by simp [hx])) (fun j hj => by rw [List.length_set]; exact hl j (by simp; omega))
    obtain ⟨r1,r2⟩ := hrec
    rw [putL,if_neg (by omega)]
    refine ⟨fun j hj => ?_,fun j hj => ?_⟩
    · rw [r1 j (by omega)]
      unfold fieldZ
      by_cases hq : i * w / 64 = j * w / 64
      · rw [← hq,getD_set_same hat]
        refine field_low ?_
        have h1 : (j + 1) * w≤i * w := Nat.mul_le_mul_right _ hj
        rw [Nat.add_mul,Nat.one_mul] at h1
        omega
      · rw [getD_set_other hq]
    · cases j with
      | zero =>
        have e0 : i + 0 = i := rfl
        rw [e0,r1 i (by omega)]
        unfold fieldZ
        rw [getD_set_same hat]
        exact field_here x0 x1 n0 n1
      | succ j =>
        have := r2 j (by simpa using hj)
        rw [show i + (j + 1) = i + 1 + j by omega]
        simpa using this
theorem keep_of {f : Nat→List Int→List Int} {n : Nat} (h : LS f n) (hm : LM f) {a p : Nat} {l : List Int} (hp : p < l.length) (hr : p < a∨a + n≤p) : (f a l)[p]? = l[p]? := by
  have h1 := h a p l[p] l hp hr
  rw [List.set_getElem_self] at h1
  have h2 := hm a l
  rw [h1,List.getElem?_set_self (by omega),List.getElem?_eq_getElem hp]
theorem keepT {t : T} {a p : Nat} {l : List Int} (hp : p < l.length) (hr : p ≠ a) : (layT t a l)[p]? = l[p]? := keep_of (lay_ls t).1.1 (lay_ls t).1.2 hp (by omega)
theorem layL_lm (ts : List T) : LM (layL ts) := (layL_ls fun t _ => (lay_ls t).1).2
theorem layC_lm (w k : Nat) (ts : List T) : LM (layC w k ts) := (layC_ls (w := w) (k := k) fun t _ => (lay_ls t).2).2
theorem keepL {ts : List T} {a p : Nat} {l : List Int} (hp : p < l.length) (hr : p < a∨a + ts.length≤p) : (layL ts a l)[p]? = l[p]? := keep_of (layL_set ts) (layL_lm ts) hp hr
theorem mul_succ' (i m : Nat) : (i + 1) * m = m + i * m := by rw [Nat.add_mul,Nat.one_mul,Nat.add_comm]
theorem keepC {w k : Nat} : ∀ {ts : List T} {b p : Nat} {l : List Int},(∀ t,t ∈ ts→t.kids.length≤k)→p < l.length→(∀ i,i < ts.length→¬ (b + i * (w + k) + w≤p∧p < b + i * (w + k) + w + k))→(layC w k ts b l)[p]? = l[p]?
  | [],b,p,l,_,_,_ => by rw [layC_nil]
  | t :: ts,b,p,l,hk,hp,hr => by
    have h0 := hr 0 (by simp)
    have hkt := hk t (by simp)
    have hm := layL_lm t.kids (b + w) l
    rw [layC_cons,keepC (fun u hu => hk u (by simp [hu])) (by omega) (fun i hi => ?_),keepL hp (by omega)]
    have := hr (i + 1) (by simp; omega)
    rw [mul_succ'] at this
    omega
theorem rowsC_get {w k : Nat} : ∀ {ts : List T},(∀ t,t ∈ ts→t.words.length≤w)→∀ (i : Nat) (hi : i < ts.length) (j : Nat),j < w + k→(rowsC w k ts)[i * (w + k) + j]? = some (ts[i].words.getD j 0)
  | t :: ts,h,i,hi,j,hj => by
    have ht := h t (by simp)
    have hlen : (t.words ++ List.replicate (w + k - t.words.length) (0 : Int)).length = w + k := by simp; omega
    rw [rowsC]
    cases i with
    | zero =>
      rw [List.getElem?_append_left (by rw [hlen]; omega)]
      simp only [Nat.zero_mul,Nat.zero_add,List.getElem_cons_zero]
      rw [List.getElem?_append]
      split
      · rename_i hl
        rw [List.getD_eq_getElem?_getD,List.getElem?_eq_getElem hl]; rfl
      · rename_i hl
        rw [List.getElem?_replicate,if_pos (by omega),List.getD_eq_getElem?_getD,List.getElem?_eq_none (by omega)]; rfl
    | succ i =>
      rw [List.getElem?_append_right (by rw [hlen,mul_succ']; omega),hlen,show (i + 1) * (w + k) + j - (w + k) = i * (w + k) + j by rw [mul_succ']; omega]
      rw [rowsC_get (fun u hu => h u (by simp [hu])) i (by simpa using hi) j hj]
      simp
theorem frame_ltW {B : Nat} (hB : 0 < B) : ∀ {ts : List T},(∀ t,t ∈ ts→t.words.length < B)→frameW ts < B
  | [],_ => hB
  | t :: ts,h => by
    have h1 := h t (by simp)
    have h2 := frame_ltW hB (ts := ts) fun u hu => h u (by simp [hu])
    simp only [frameW]; omega
theorem frame_ltK {B : Nat} (hB : 0 < B) : ∀ {ts : List T},(∀ t,t ∈ ts→t.kids.length < B)→frameK ts < B
  | [],_ => hB
  | t :: ts,h => by
    have h1 := h t (by simp)
    have h2 := frame_ltK hB (ts := ts) fun u hu => h u (by simp [hu])
    simp only [frameK]; omega
theorem listOf {α : Type} {n : Nat} {P : Nat→α→Prop} (h : ∀ i,i < n→∃ u,P i u) : ∃ us : List α,us.length = n∧∀ (i : Nat) (hi : i < us.length),P i us[i] := by
  induction n with
  | zero => exact ⟨[],rfl,fun i hi => by simp at hi⟩
  | succ n ih =>
    obtain ⟨us,h1,h2⟩ := ih fun i hi => h i (by omega)
    obtain ⟨u,hu⟩ := h n (by omega)
    refine ⟨us ++ [u],by simp [h1],fun i hi => ?_⟩
    rw [List.getElem_append]
    split
    · exact h2 i _
    · have : i = n := by simp at hi; omega
      subst this
      simpa using hu
theorem map_norm_eq {a b : List T} (hl : a.length = b.length) (h : ∀ (i : Nat) (h1 : i < a.length) (h2 : i < b.length),norm a[i] = norm b[i]) : a.map norm = b.map norm := by
  apply List.ext_getElem (by simpa using hl)
  intro i h1 h2
  simp only [List.getElem_map]
  exact h i (by simpa using h1) (by simpa using h2)
end Go.PL

namespace Go.Proofs.YthfiijdbnkaabaaGreat
set_option linter.unusedVariables false
set_option linter.unusedSimpArgs false
open Go Go.G Go.Proofs Go.PL
theorem word_1 {L : List Int} {a : Nat} {x : Int} (h : L[a]? = some x) : word [L] 0 a = some x := by
  unfold word seg
  simp [h]
theorem hasW_1 {L : List Int} {a n : Nat} (h : a + n≤L.length) : hasW [L] 0 a n = true := by
  simp only [hasW,decide_eq_true_eq,szAt,seg]
  simp
  omega
theorem part_1 {L : List Int} {a n : Nat} : part [L] 0 a n = (L.drop a).take n := by
  unfold part seg
  simp
theorem dec_struct {a to w k : Nat} (ha : a < 200000) (ht : to≤200000) (hw : w < 65536) (hk : k < 65536) (hz : w + k = 0→to = a) :
    dec (ptrZ a to 0 ((w : Int) + 65536 * k)) = ⟨1,(to : Int) - a - 1,w,k,0,0,0,false⟩ := by
  unfold ptrZ
  split
  · rename_i h
    generalize hv : 4 * ((to : Int) - a - 1 + 1073741824) + 0 + ((w : Int) + 65536 * k) * 4294967296 = v
    unfold dec offs
    rw [if_neg (by omega),if_pos (by omega)]
    simp only [Pt.mk.injEq,true_and,and_true]
    refine ⟨?_,by omega,by omega⟩
    split <;> omega
  · rename_i h
    generalize hv : 4 * ((to : Int) - a - 1) + 0 + ((w : Int) + 65536 * k) * 4294967296 = v
    unfold dec offs
    rw [if_neg (by omega),if_pos (by omega)]
    simp only [Pt.mk.injEq,true_and,and_true]
    refine ⟨?_,by omega,by omega⟩
    split <;> omega
theorem dec_list {a to : Nat} {c n : Int} (ha : a < 200000) (ht : to≤200000) (c0 : 0≤c) (c8 : c < 8) (n0 : 0≤n) (hn : n < 536870912) :
    dec (ptrZ a to 1 (c + 8 * n)) = ⟨2,(to : Int) - a - 1,0,0,c,n,0,false⟩ := by
  unfold ptrZ
  split
  · rename_i h
    generalize hv : 4 * ((to : Int) - a - 1 + 1073741824) + 1 + (c + 8 * n) * 4294967296 = v
    unfold dec offs
    rw [if_neg (by omega),if_neg (by omega),if_pos (by omega)]
    simp only [Pt.mk.injEq,true_and,and_true]
    refine ⟨?_,by omega,by omega⟩
    split <;> omega
  · rename_i h
    generalize hv : 4 * ((to : Int) - a - 1) + 1 + (c + 8 * n) * 4294967296 = v
    unfold dec offs
    rw [if_neg (by omega),if_neg (by omega),if_pos (by omega)]
    simp only [Pt.mk.injEq,true_and,and_true]
    refine ⟨?_,by omega,by omega⟩
    split <;> omega
theorem at_null {L : List Int} {a : Nat} (h : L[a]? = some 0) : atP [L] 0 a = (Rf.zero,0) := by
  have e : followP [L] 0 a = (Lc.zero,0) := by
    unfold followP
    rw [word_1 h]
    rfl
  unfold atP
  rw [e]
  rfl
theorem follow_near {L : List Int} {a to : Nat} {v n : Int} {p : Pt} (h : L[a]? = some v) (hd : dec v = p) (hk : p.kind = 1∨p.kind = 2) (ho : p.off = (to : Int) - a - 1) (hp : wordsP p = some n) (hn : hasW [L] 0 to n = true) :
    followP [L] 0 a = (⟨{ p with off := 0 },0,to⟩,0) := by
  unfold followP
  rw [word_1 h]
  simp only [hd]
  rw [if_neg (by omega),if_pos (by omega)]
  unfold nearP
  rw [if_pos hk]
  unfold insideP
  have e : (a : Int) + 1 + p.off = to := by omega
  simp only [e,hp,Option.getD_some]
  rw [if_pos hn]
theorem at_struct {L : List Int} {a to w k : Nat} (hL : L.length≤200000) (h : L[a]? = some (ptrZ a to 0 ((w : Int) + 65536 * k))) (ha : a < L.length) (hw : w < 65536) (hk : k < 65536) (hz : w + k = 0→to = a) (hin : to + (w + k)≤L.length) :
    atP [L] 0 a = (⟨1,0,to,w,k,0,0⟩,0) := by
  have hd := dec_struct (a := a) (to := to) (by omega) (by omega) hw hk hz
  have e := follow_near (n := (w : Int) + k) h hd (.inl rfl) rfl (by simp [wordsP]) (by have := hasW_1 (L := L) (a := to) (n := w + k) hin; simpa using this)
  unfold atP
  rw [e]
  simp [refP]
theorem at_list {L : List Int} {a to : Nat} {c : Int} {n m : Nat} (hL : L.length≤200000) (h : L[a]? = some (ptrZ a to 1 (c + 8 * n))) (ha : a < L.length) (c0 : 0≤c) (c7 : c < 7) (hn : n < 536870912) (hm : ((n : Int) * bitsOf c + 63) / 64 = m) (hin : to + m≤L.length) :
    atP [L] 0 a = (⟨2 + c,0,to,0,0,n,0⟩,0) := by
  have hd := dec_list (a := a) (to := to) (c := c) (n := n) (by omega) (by omega) c0 (by omega) (by omega) (by omega)
  have e := follow_near (n := (m : Int)) h hd (.inr rfl) rfl (by rw [wordsP_dat rfl ⟨by simp,by simp; omega,by simp⟩ c7]; simp [hm]) (hasW_1 hin)
  unfold atP
  rw [e]
  simp [refP,c7]
theorem at_comp {L : List Int} {a to n w k : Nat} (hL : L.length≤200000) (h : L[a]? = some (ptrZ a to 1 (7 + 8 * (n * (w + k) : Nat)))) (ha : a < L.length) (ht : L[to]? = some (4 * (n : Int) + 4294967296 * ((w : Int) + 65536 * k))) (hn : n < 536870912) (hw : w < 65536) (hk : k < 65536) (hin : to + (n * (w + k) + 1)≤L.length) :
    atP [L] 0 a = (⟨9,0,(to : Int) + 1,w,k,n,0⟩,0) := by
  have hd := dec_list (a := a) (to := to) (c := 7) (n := ((n * (w + k) : Nat) : Int)) (by omega) (by omega) (by omega) (by omega) (by omega) (by omega)
  have e := follow_near (n := ((n * (w + k) + 1 : Nat) : Int)) h hd (.inr rfl) rfl (by rw [wordsP_comp rfl rfl]; simp) (hasW_1 hin)
  unfold atP
  rw [e]
  have hm : ((n * (w + k) : Nat) : Int) = (n : Int) * ((w : Int) + k) := by rw [Int.natCast_mul,Int.natCast_add]
  have hdt : (4 * (n : Int) + 4294967296 * ((w : Int) + 65536 * k) = 0∧n = 0∧w = 0∧k = 0)∨dec (4 * (n : Int) + 4294967296 * ((w : Int) + 65536 * k)) = ⟨1,n,w,k,0,0,0,false⟩ := by
    by_cases h0 : 4 * (n : Int) + 4294967296 * ((w : Int) + 65536 * k) = 0
    · exact .inl ⟨h0,by omega,by omega,by omega⟩
    · right
      unfold dec offs
      rw [if_neg h0,if_pos (by omega)]
      simp only [Pt.mk.injEq,true_and,and_true]
      refine ⟨?_,by omega,by omega⟩
      split <;> omega
  simp only [refP,if_neg (show ¬ (2 : Int) = 1 by decide),if_neg (show ¬ (7 : Int) < 7 by decide)]
  rw [if_neg (by simp)]
  unfold compP
  rw [word_1 ht]
  simp only [Option.getD_some]
  rcases hdt with ⟨h0,rfl,rfl,rfl⟩ | hdt
  · rw [h0]
    simp [dec]
  · rw [hdt]
    simp only
    rw [if_neg]
    rw [← hm]
    simp
def LMean (t : T) : Prop := ∀ (a : Nat) (l L : List Int),a < l.length→l[a]? = some 0→(layT t a l).length≤L.length→L.length≤200000→(∀ p,(p = a∨l.length≤p)→p < (layT t a l).length→L[p]? = (layT t a l)[p]?) →
  ∃ r u,atP [L] 0 a = (r,0)∧Means [L] r u∧norm u = norm t
theorem lmeanL : ∀ {ts : List T},(∀ t,t ∈ ts→LMean t)→∀ (b : Nat) (l L : List Int),b + ts.length≤l.length→(∀ i,i < ts.length→l[b + i]? = some 0)→(layL ts b l).length≤L.length→L.length≤200000 →
    (∀ p,((b≤p∧p < b + ts.length)∨l.length≤p)→p < (layL ts b l).length→L[p]? = (layL ts b l)[p]?)→∀ (i : Nat) (hi : i < ts.length),∃ r u,atP [L] 0 ((b + i : Nat) : Int) = (r,0)∧Means [L] r u∧norm u = norm ts[i]
  | t :: ts,h,b,l,L,hb,hz,hl,hL,hag,i,hi => by
    have hm1 := (lay_ls t).1.2 b l
    have hm2 := layL_lm ts (b + 1) (layT t b l)
    rw [layL_cons] at hl hag
    simp only [List.length_cons] at hb hz hag hi
    cases i with
    | zero =>
      refine h t (by simp) b l L (by omega) (hz 0 (by omega)) (by omega) hL fun p hp hlt => ?_
      rw [hag p (by omega) (by omega),keepL hlt (by omega)]
    | succ i =>
      have := lmeanL (ts := ts) (fun u hu => h u (by simp [hu])) (b + 1) (layT t b l) L (by omega) (fun j hj => ?_) hl hL (fun p hp hlt => hag p (by omega) hlt) i (by omega)
      · rw [show b + 1 + i = b + (i + 1) by omega] at this
        simpa using this
      · rw [keepT (by omega) (by omega),show b + 1 + j = b + (j + 1) by omega]
        exact hz (j + 1) (by omega)
theorem means_zero (l : List (List Int)) : Means l Rf.zero T0 := .mk _ _ .zero rfl (by simp [wordsR,Rf.zero]) (by simp [nk,Rf.zero]) (fun i h => by simp at h) (fun i h => by simp at h)
theorem lmeanC {w k : Nat} : ∀ {ts : List T},(∀ t,t ∈ ts→t.kids.length≤k∧∀ c,c ∈ t.kids→LMean c)→∀ (b : Nat) (l L : List Int),b + ts.length * (w + k)≤l.length→(∀ i,i < ts.length→∀ j,j < k→l[b + i * (w + k) + w + j]? = some 0)→(layC w k ts b l).length≤L.length→L.length≤200000 →
    (∀ p,((∃ i,i < ts.length∧b + i * (w + k) + w≤p∧p < b + i * (w + k) + w + k)∨l.length≤p)→p < (layC w k ts b l).length→L[p]? = (layC w k ts b l)[p]?) →
    ∀ (i : Nat) (hi : i < ts.length) (j : Nat),j < k→∃ r u,atP [L] 0 ((b + i * (w + k) + w + j : Nat) : Int) = (r,0)∧Means [L] r u∧norm u = norm (ts[i].kids.getD j T0)
  | t :: ts,h,b,l,L,hb,hz,hl,hL,hag,i,hi,j,hj => by
    obtain ⟨hk,hc⟩ := h t (by simp)
    have hm1 := layL_lm t.kids (b + w) l
    have hm2 := layC_lm w k ts (b + (w + k)) (layL t.kids (b + w) l)
    have hks : ∀ u,u ∈ ts→u.kids.length≤k := fun u hu => (h u (by simp [hu])).1
    rw [layC_cons] at hl hag
    simp only [List.length_cons] at hb hz hag hi
    rw [mul_succ'] at hb
    have hout : ∀ p,p < b + (w + k)∨l.length≤p→∀ i,i < ts.length→¬ (b + (w + k) + i * (w + k) + w≤p∧p < b + (w + k) + i * (w + k) + w + k) := fun p hp i hi => by
      have h1 : (i + 1) * (w + k)≤ts.length * (w + k) := Nat.mul_le_mul_right _ hi
      rw [mul_succ'] at h1
      omega
    cases i with
    | zero =>
      rw [Nat.zero_mul,Nat.add_zero]
      by_cases hjk : j < t.kids.length
      · have := lmeanL hc (b + w) l L (by omega) (fun i hi => ?_) (by omega) hL (fun p hp hlt => ?_) j hjk
        · simpa [List.getD_eq_getElem?_getD,hjk] using this
        · have := hz 0 (by omega) i (by omega)
          rwa [Nat.zero_mul,Nat.add_zero] at this
        · rw [hag p ?_ (by omega),keepC hks hlt (hout p (by omega))]
          rcases hp with hp | hp
          · exact .inl ⟨0,by omega,by omega,by omega⟩
          · exact .inr hp
      · have e : L[b + w + j]? = some 0 := by
          have h0 := hz 0 (by omega) j hj
          rw [Nat.zero_mul,Nat.add_zero] at h0
          have hlt : b + w + j < l.length := by omega
          rw [hag (b + w + j) (.inl ⟨0,by omega,by omega,by omega⟩) (by omega),keepC hks (by omega) (hout _ (by omega)),keepL hlt (by omega),h0]
        refine ⟨Rf.zero,T0,at_null e,means_zero _,?_⟩
        simp [List.getD_eq_getElem?_getD,List.getElem?_eq_none (by omega : t.kids.length≤j)]
    | succ i =>
      have := lmeanC (ts := ts) (fun u hu => h u (by simp [hu])) (b + (w + k)) (layL t.kids (b + w) l) L (by omega) (fun x hx y hy => ?_) hl hL (fun p hp hlt => hag p ?_ hlt) i (by omega) j hj
      · rw [mul_succ',show b + (w + k + i * (w + k)) + w + j = b + (w + k) + i * (w + k) + w + j by omega]
        simpa using this
      · have h1 : (x + 1) * (w + k)≤ts.length * (w + k) := Nat.mul_le_mul_right _ hx
        have h2 := hz (x + 1) (by omega) y hy
        rw [mul_succ'] at h1 h2
        rw [keepL (by omega) (by omega),show b + (w + k) + x * (w + k) + w + y = b + (w + k + x * (w + k)) + w + y by omega]
        exact h2
      · rcases hp with ⟨x,hx,hp1,hp2⟩ | hp
        · refine .inl ⟨x + 1,by omega,?_,?_⟩ <;> rw [mul_succ'] <;> omega
        · exact .inr (by omega)
theorem means_struct {L : List Int} {to w k : Nat} {W : List Int} {us : List T} (hw : w < 65536) (hk : k < 65536) (hin : to + (w + k)≤L.length) (hW : (L.drop to).take w = W) (hu : us.length = k) (hm : ∀ (i : Nat) (hi : i < us.length),∃ r,atP [L] 0 ((to + w + i : Nat) : Int) = (r,0)∧Means [L] r us[i]) :
    Means [L] ⟨1,0,to,w,k,0,0⟩ (.mk 1 W us) := by
  have hkid : ∀ (i : Nat),i < us.length→kidP [L] ⟨1,0,to,w,k,0,0⟩ i = atP [L] 0 ((to + w + i : Nat) : Int) := fun i hi => by
    unfold kidP
    rw [if_neg (by simp [nk]; omega),if_pos rfl]
    simp
  refine .mk _ _ (.str _ _ _ _ (by omega) (by omega) (by omega) (by omega) (by have := hasW_1 (L := L) (a := to) (n := w + k) hin; simpa using this)) rfl ?_ (by simp [nk,hu]) (fun i hi => ?_) (fun i hi => ?_)
  · simp [wordsR,part_1,hW]
  · obtain ⟨r,e,_⟩ := hm i hi
    rw [hkid i hi,e]
  · obtain ⟨r,e,h⟩ := hm i hi
    rw [hkid i hi,e]
    exact h
theorem right_kids {d : Nat} {t : T} (h : rightT d t = true) : ∀ c,c ∈ t.kids→rightT (d - 1) c = true∧kidOk t.kind c = true := by
  cases t
  exact rightT_struct h
theorem kidP_data {l : List (List Int)} {kd s a n i : Int} (h1 : kd ≠ 1) (h8 : kd ≠ 8) (h9 : kd ≠ 9) (h0 : 0≤i) (hn : i < n) : kidP l ⟨kd,s,a,0,0,n,0⟩ i = (⟨10,0,0,0,0,0,atomZ l ⟨kd,s,a,0,0,n,0⟩ i⟩,0) := by
  unfold kidP nk
  simp only [if_neg h1,if_neg h8,if_neg h9]
  rw [if_neg (by omega)]
theorem bits_width {c : Int} (c0 : 0≤c) (c6 : c < 6) : bitsOf c = bitsZ c := by
  have : c = 0∨c = 1∨c = 2∨c = 3∨c = 4∨c = 5 := by omega
  rcases this with rfl | rfl | rfl | rfl | rfl | rfl <;> rfl
theorem lay_means : ∀ t : T,(LayOk t→(∃ d,rightT d t = true)→LMean t)∧∀ c,c ∈ t.kids→LayOk c→(∃ d,rightT d c = true)→LMean c := by
  refine T.ind fun k w ks ih => ?_
  refine ⟨fun hok hr => ?_,fun c hc => (ih c hc).1⟩
  obtain ⟨d,hr⟩ := hr
  have hkr := rightT_struct hr
  intro a l L ha h0 hl hL hag
  have hw0 : 2≤k→w = [] := fun hk2 => by
    rw [rightT_mk,if_neg (by omega)] at hr
    split at hr
    · rename_i h10
      cases hok <;> omega
    · split at hr
      · cases hr
      · rename_i hb
        simp [tooBig] at hb
        have := hb.2 (by omega)
        exact this
  cases hok with
  | null =>
    rw [layT_mk,if_pos rfl] at hag hl
    exact ⟨Rf.zero,T0,at_null (by rw [hag a (.inl rfl) ha,h0]),means_zero _,by rw [norm_T0,norm_kind0 rfl]⟩
  | str w ks b1 b2 hk =>
    rw [layT_mk,if_neg (by decide),if_pos rfl] at hag hl
    obtain ⟨to,hto⟩ : ∃ to : Nat,to = if w.length + ks.length = 0 then a else l.length := ⟨_,rfl⟩
    rw [show (if w.length + ks.length = 0 then (a : Int) else (l.length : Int)) = (to : Int) by rw [hto]; split <;> rfl] at hag hl
    obtain ⟨P,hP⟩ : ∃ P : Int,P = ptrZ a to 0 ((w.length : Int) + 65536 * ks.length) := ⟨_,rfl⟩
    rw [← hP] at hag hl
    obtain ⟨l2,hl2⟩ : ∃ l2,l2 = l.set a P ++ w ++ List.replicate ks.length (0 : Int) := ⟨_,rfl⟩
    rw [← hl2] at hag hl
    have hlen : l2.length = l.length + w.length + ks.length := by rw [hl2]; simp; omega
    have hm := layL_lm ks (l.length + w.length) l2
    have ga : L[a]? = some P := by
      rw [hag a (.inl rfl) (by omega),keepL (by omega) (by omega),hl2,List.append_assoc,List.getElem?_append_left (by simpa using ha),List.getElem?_set_self ha]
    have gw : (L.drop to).take w.length = w := by
      by_cases hz : w.length + ks.length = 0
      · have : w = [] := List.length_eq_zero_iff.1 (by omega)
        subst this; simp
      · rw [if_neg hz] at hto
        subst hto
        apply List.ext_getElem?
        intro i
        rw [List.getElem?_take]
        split
        · rename_i hi
          rw [List.getElem?_drop,hag _ (.inr (by omega)) (by omega),keepL (by omega) (by omega),hl2,List.getElem?_append_left (by simp; omega),List.getElem?_append_right (by simp)]
          simp
        · rename_i hi
          rw [List.getElem?_eq_none (by omega)]
    have hkm := lmeanL (fun t ht => (ih t ht).1 (hk t ht) ⟨_,(hkr t ht).1⟩) (l.length + w.length) l2 L (by omega) (fun i hi => by
      rw [hl2,List.getElem?_append_right (by simp),List.getElem?_replicate]
      simp
      omega) hl hL (fun p hp hlt => hag p (.inr (by omega)) hlt)
    obtain ⟨us,u1,u2⟩ := listOf (P := fun i u => ∃ r,atP [L] 0 ((l.length + w.length + i : Nat) : Int) = (r,0)∧Means [L] r u∧∀ hi : i < ks.length,norm u = norm ks[i]) (n := ks.length) fun i hi => by
      obtain ⟨r,u,e1,e2,e3⟩ := hkm i hi
      exact ⟨u,r,e1,e2,fun _ => e3⟩
    refine ⟨⟨1,0,to,w.length,ks.length,0,0⟩,.mk 1 w us,at_struct hL (by rw [ga,hP]) (by omega) b1 b2 (fun e => by rw [hto,if_pos e]) (by rw [hto]; split <;> omega),?_,?_⟩
    · refine means_struct b1 b2 (by rw [hto]; split <;> omega) gw u1 fun i hi => ?_
      obtain ⟨r,e1,e2,_⟩ := u2 i hi
      have : to = l.length := by rw [hto,if_neg (by omega)]
      rw [this]
      exact ⟨r,e1,e2⟩
    · refine struct_eq.2 ⟨fun i => rfl,fun i => ?_⟩
      by_cases hi : i < ks.length
      · obtain ⟨_,_,_,e3⟩ := u2 i (by omega)
        simpa [List.getD_eq_getElem?_getD,hi,u1] using e3 hi
      · simp [List.getD_eq_getElem?_getD,List.getElem?_eq_none (by omega : ks.length≤i),List.getElem?_eq_none (by omega : us.length≤i)]
  | ptrs w ks b1 hk =>
    obtain rfl := hw0 (by omega)
    rw [layT_mk,if_neg (by decide),if_neg (by decide),if_pos rfl] at hag hl
    obtain ⟨P,hP⟩ : ∃ P : Int,P = ptrZ a l.length 1 (6 + 8 * (ks.length : Int)) := ⟨_,rfl⟩
    rw [← hP] at hag hl
    obtain ⟨l2,hl2⟩ : ∃ l2,l2 = l.set a P ++ List.replicate ks.length (0 : Int) := ⟨_,rfl⟩
    rw [← hl2] at hag hl
    have hlen : l2.length = l.length + ks.length := by rw [hl2]; simp
    have hm := layL_lm ks l.length l2
    have ga : L[a]? = some P := by
      rw [hag a (.inl rfl) (by omega),keepL (by omega) (by omega),hl2,List.getElem?_append_left (by simpa using ha),List.getElem?_set_self ha]
    have hkm := lmeanL (fun t ht => (ih t ht).1 (hk t ht) ⟨_,(hkr t ht).1⟩) l.length l2 L (by omega) (fun i hi => by
      rw [hl2,List.getElem?_append_right (by simp),List.getElem?_replicate]
      simp
      omega) hl hL (fun p hp hlt => hag p (.inr (by omega)) hlt)
    obtain ⟨us,u1,u2⟩ := listOf (P := fun i u => ∃ r,atP [L] 0 ((l.length + i : Nat) : Int) = (r,0)∧Means [L] r u∧∀ hi : i < ks.length,norm u = norm ks[i]) (n := ks.length) fun i hi => by
      obtain ⟨r,u,e1,e2,e3⟩ := hkm i hi
      exact ⟨u,r,e1,e2,fun _ => e3⟩
    have hb : bitsOf 6 = 64 := by decide
    have hin : l.length + ks.length≤L.length := by omega
    have hat := at_list (L := L) (a := a) (to := l.length) (c := 6) (n := ks.length) (m := ks.length) hL (by rw [ga,hP]) (by omega) (by omega) (by omega) b1 (by rw [hb]; omega) hin
    have hkid : ∀ (i : Nat),i < us.length→kidP [L] ⟨8,0,(l.length : Int),0,0,ks.length,0⟩ i = atP [L] 0 ((l.length + i : Nat) : Int) := fun i hi => by
      unfold kidP
      rw [if_neg (by simp [nk]; omega),if_neg (by simp),if_pos rfl]
      simp
    refine ⟨⟨8,0,l.length,0,0,ks.length,0⟩,.mk 8 [] us,hat,?_,?_⟩
    · refine .mk _ _ (.ptrs _ _ _ (by omega) (by omega) (hasW_1 hin)) rfl (by simp [wordsR]) (by simp [nk,u1]) (fun i hi => ?_) (fun i hi => ?_)
      · obtain ⟨r,e,_⟩ := u2 i hi
        rw [hkid i hi,e]
      · obtain ⟨r,e,h,_⟩ := u2 i hi
        rw [hkid i hi,e]
        exact h
    · refine (other_eq (by decide) (by decide)).2 ⟨rfl,map_norm_eq u1 fun i h1 h2 => ?_⟩
      obtain ⟨_,_,_,e⟩ := u2 i h1
      exact e h2
  | comp w ks b1 b2 hk =>
    obtain rfl := hw0 (by omega)
    have hF1 : frameW ks < 65536 := frame_ltW (by decide) fun t ht => (b2 t ht).1
    have hF2 : frameK ks < 65536 := frame_ltK (by decide) fun t ht => (b2 t ht).2
    have hfw : ∀ t,t ∈ ks→t.words.length≤frameW ks := fun t ht => frameW_le ht
    have hfk : ∀ t,t ∈ ks→t.kids.length≤frameK ks := fun t ht => frameK_le ht
    rw [layT_mk,if_neg (by decide),if_neg (by decide),if_neg (by decide),if_pos rfl] at hag hl
    generalize hW : frameW ks = W at *
    generalize hK : frameK ks = K at *
    obtain ⟨P,hP⟩ : ∃ P : Int,P = ptrZ a l.length 1 (7 + 8 * (ks.length * (W + K) : Nat)) := ⟨_,rfl⟩
    rw [← hP] at hag hl
    obtain ⟨l2,hl2⟩ : ∃ l2,l2 = l.set a P ++ [4 * (ks.length : Int) + 4294967296 * ((W : Int) + 65536 * K)] ++ rowsC W K ks := ⟨_,rfl⟩
    rw [← hl2] at hag hl
    have hrl := rowsC_length (w := W) (k := K) ks fun t ht => by have := hfw t ht; omega
    have hlen : l2.length = l.length + 1 + ks.length * (W + K) := by rw [hl2]; simp [hrl]; omega
    have hm := layC_lm W K ks (l.length + 1) l2
    have ga : L[a]? = some P := by
      rw [hag a (.inl rfl) (by omega),keepC hfk (by omega) (fun i hi => by omega),hl2,List.append_assoc,List.getElem?_append_left (by simpa using ha),List.getElem?_set_self ha]
    have gt : L[l.length]? = some (4 * (ks.length : Int) + 4294967296 * ((W : Int) + 65536 * K)) := by
      rw [hag _ (.inr (by omega)) (by omega),keepC hfk (by omega) (fun i hi => by omega),hl2,List.getElem?_append_left (by simp),List.getElem?_append_right (by simp)]
      simp
    have hrow : ∀ (i : Nat) (hi : i < ks.length) (j : Nat),j < W + K→l2[l.length + 1 + i * (W + K) + j]? = some (ks[i].words.getD j 0) := fun i hi j hj => by
      rw [hl2,List.getElem?_append_right (by simp; omega)]
      simp only [List.length_append,List.length_set,List.length_singleton]
      rw [show l.length + 1 + i * (W + K) + j - (l.length + 1) = i * (W + K) + j by omega]
      exact rowsC_get hfw i hi j hj
    have hin1 : ∀ i,i < ks.length→i * (W + K) + (W + K)≤ks.length * (W + K) := fun i hi => by
      have h1 : (i + 1) * (W + K)≤ks.length * (W + K) := Nat.mul_le_mul_right _ hi
      rw [mul_succ'] at h1
      omega
    have hz : ∀ i,i < ks.length→∀ j,j < K→l2[l.length + 1 + i * (W + K) + W + j]? = some 0 := fun i hi j hj => by
      rw [show l.length + 1 + i * (W + K) + W + j = l.length + 1 + i * (W + K) + (W + j) by omega,hrow i hi (W + j) (by omega)]
      have := hfw _ (List.getElem_mem hi)
      simp [List.getD_eq_getElem?_getD,List.getElem?_eq_none (by omega : ks[i].words.length≤W + j)]
    have hkm := lmeanC (w := W) (k := K) (ts := ks) (fun t ht => ⟨hfk t ht,fun c hc => (ih t ht).2 c hc (hk t ht c hc) ⟨_,(right_kids (hkr t ht).1 c hc).1⟩⟩) (l.length + 1) l2 L (by omega) hz hl hL (fun p hp hlt => hag p (.inr (by
      rcases hp with ⟨i,_,hp,_⟩ | hp <;> omega)) hlt)
    have hin : l.length + (ks.length * (W + K) + 1)≤L.length := by omega
    have hst : ∀ i,i < ks.length→∃ u,Means [L] ⟨1,0,((l.length + 1 + i * (W + K) : Nat) : Int),W,K,0,0⟩ u∧∀ hi : i < ks.length,norm u = norm ks[i] := fun i hi => by
      have hc1 : ks[i].kind = 1 := kidOk_9 (hkr _ (List.getElem_mem hi)).2
      have h5 := hin1 i hi
      obtain ⟨us,u1,u2⟩ := listOf (P := fun j u => ∃ r,atP [L] 0 ((l.length + 1 + i * (W + K) + W + j : Nat) : Int) = (r,0)∧Means [L] r u∧norm u = norm (ks[i].kids.getD j T0)) (n := K) fun j hj => by
        obtain ⟨r,u,e1,e2,e3⟩ := hkm i hi j hj
        exact ⟨u,r,e1,e2,e3⟩
      refine ⟨.mk 1 ((L.drop (l.length + 1 + i * (W + K))).take W) us,means_struct hF1 hF2 (by omega) rfl u1 fun j hj => ?_,fun _ => ?_⟩
      · obtain ⟨r,e1,e2,_⟩ := u2 j hj
        exact ⟨r,e1,e2⟩
      · have e : ks[i] = .mk 1 ks[i].words ks[i].kids := by rw [← hc1]; exact T.eta _
        rw [e]
        refine struct_eq.2 ⟨fun j => ?_,fun j => ?_⟩
        · by_cases hj : j < W
          · have : ∀ x,x < ks.length→¬ (l.length + 1 + x * (W + K) + W≤l.length + 1 + i * (W + K) + j∧l.length + 1 + i * (W + K) + j < l.length + 1 + x * (W + K) + W + K) := fun x hx => by
              rcases Nat.lt_trichotomy x i with c | c | c
              · have h1 : (x + 1) * (W + K)≤i * (W + K) := Nat.mul_le_mul_right _ c
                rw [mul_succ'] at h1
                omega
              · subst c; omega
              · have h1 : (i + 1) * (W + K)≤x * (W + K) := Nat.mul_le_mul_right _ c
                rw [mul_succ'] at h1
                omega
            rw [List.getD_eq_getElem?_getD,List.getElem?_take,if_pos hj,List.getElem?_drop,hag _ (.inr (by omega)) (by omega),keepC hfk (by omega) this,hrow i hi j (by omega)]
            rfl
          · have := hfw _ (List.getElem_mem hi)
            simp [List.getD_eq_getElem?_getD,List.getElem?_take,hj,List.getElem?_eq_none (by omega : ks[i].words.length≤j)]
        · by_cases hj : j < K
          · obtain ⟨_,_,_,e3⟩ := u2 j (by omega)
            rw [← e3]
            simp [List.getD_eq_getElem?_getD,u1,hj]
          · have := hfk _ (List.getElem_mem hi)
            simp [List.getD_eq_getElem?_getD,List.getElem?_eq_none (by omega : ks[i].kids.length≤j),List.getElem?_eq_none (by omega : us.length≤j)]
    obtain ⟨us,u1,u2⟩ := listOf hst
    have hat := at_comp (L := L) (a := a) (to := l.length) (n := ks.length) (w := W) (k := K) hL (by rw [ga,hP]) (by omega) gt b1 hF1 hF2 hin
    have hkid : ∀ (i : Nat),i < us.length→kidP [L] ⟨9,0,(l.length : Int) + 1,W,K,ks.length,0⟩ i = (⟨1,0,((l.length + 1 + i * (W + K) : Nat) : Int),W,K,0,0⟩,0) := fun i hi => by
      unfold kidP
      rw [if_neg (by simp [nk]; omega),if_neg (by simp),if_neg (by simp),if_pos rfl]
      simp
    refine ⟨⟨9,0,(l.length : Int) + 1,W,K,ks.length,0⟩,.mk 9 [] us,hat,?_,?_⟩
    · have hh := hasW_1 (L := L) (a := l.length + 1) (n := ks.length * (W + K)) (by omega)
      refine .mk _ _ (.comp _ _ _ _ _ (by omega) (by omega) (by omega) (by omega) (by omega) (by omega) (by simpa using hh)) rfl (by simp [wordsR]) (by simp [nk,u1]) (fun i hi => ?_) (fun i hi => ?_)
      · rw [hkid i hi]
      · rw [hkid i hi]
        exact (u2 i hi).1
    · refine (other_eq (by decide) (by decide)).2 ⟨rfl,map_norm_eq u1 fun i h1 h2 => ?_⟩
      exact (u2 i h1).2 h2
  | data k w ks h1 h2 b1 b2 =>
    obtain rfl := hw0 h1
    rw [layT_mk,if_neg (by omega),if_neg (by omega),if_neg (by omega),if_neg (by omega)] at hag hl
    obtain ⟨P,hP⟩ : ∃ P : Int,P = ptrZ a l.length 1 (k - 2 + 8 * (ks.length : Int)) := ⟨_,rfl⟩
    rw [← hP] at hag hl
    obtain ⟨wd,w1,w2,w3⟩ := width_cases (c := k - 2) (by omega) (by omega)
    have hroom : roomZ (k - 2) (ks.map hd).length = (((ks.length * wd + 63) / 64 : Nat) : Int) := by
      unfold roomZ
      rw [List.length_map,if_neg (by omega),w2]
      have e : (ks.length : Int) * wd = ((ks.length * wd : Nat) : Int) := by rw [Int.natCast_mul]
      rw [e]
      omega
    have hpl : (putZ (k - 2) (ks.map hd)).length = (ks.length * wd + 63) / 64 := by rw [putZ_length,hroom]; omega
    simp only [List.length_append,List.length_set,hpl] at hl hag
    have ga : L[a]? = some P := by
      rw [hag a (.inl rfl) (by omega),List.getElem?_append_left (by simpa using ha),List.getElem?_set_self ha]
    have hm : ((ks.length : Int) * bitsOf (k - 2) + 63) / 64 = (((ks.length * wd + 63) / 64 : Nat) : Int) := by
      rw [bits_width (by omega) (by omega),w2]
      have e : (ks.length : Int) * wd = ((ks.length * wd : Nat) : Int) := by rw [Int.natCast_mul]
      rw [e]
      omega
    have hat := at_list (L := L) (a := a) (to := l.length) (c := k - 2) (n := ks.length) (m := (ks.length * wd + 63) / 64) hL (by rw [ga,hP]) (by omega) (by omega) (by omega) b1 hm (by omega)
    have hk2 : 2 + (k - 2) = k := by omega
    have hq : ∀ q,q < (ks.length * wd + 63) / 64→(L.drop l.length)[q]? = (putZ (k - 2) (ks.map hd))[q]? := fun q hq => by
      rw [List.getElem?_drop,hag _ (.inr (by omega)) (by omega),List.getElem?_append_right (by simp)]
      simp
    have hkid : ∀ (i : Nat) (hi : i < ks.length),kidP [L] ⟨2 + (k - 2),0,l.length,0,0,ks.length,0⟩ i = (⟨10,0,0,0,0,0,hd ks[i]⟩,0) := fun i hi => by
      rw [kidP_data (by omega) (by omega) (by omega) (by omega) (by omega)]
      have : atomZ [L] ⟨2 + (k - 2),0,l.length,0,0,ks.length,0⟩ i = hd ks[i] := by
        unfold atomZ getZ
        have e0 : ((seg [L] 0).getD []).drop (l.length : Int).toNat = L.drop l.length := by simp [seg]
        simp only [e0,show 2 + (k - 2) - 2 = k - 2 by omega,w1]
        obtain ⟨x,hx1,hx2,hx3,hx4⟩ := b2 _ (List.getElem_mem hi)
        have hhd : hd ks[i] = x := by unfold hd; rw [hx1]; rfl
        by_cases hw0 : wd = 0
        · subst hw0
          rw [if_pos (by omega),hhd]
          unfold fitsZ at hx4
          rw [w1] at hx4
          simp at hx4
          omega
        · rw [if_neg (by omega)]
          have e1 : ((i : Int) * wd / 64).toNat = i * wd / 64 := by
            have : (i : Int) * wd = ((i * wd : Nat) : Int) := by rw [Int.natCast_mul]
            rw [this]; omega
          have e2 : ((i : Int) * wd % 64).toNat = i * wd % 64 := by
            have : (i : Int) * wd = ((i * wd : Nat) : Int) := by rw [Int.natCast_mul]
            rw [this]; omega
          rw [e1,e2,Int.toNat_natCast]
          have hat2 : ∀ j,j < ks.length→j * wd / 64 < (ks.length * wd + 63) / 64 := fun j hj => put_at (by omega) hj
          rw [hq _ (hat2 i hi)]
          have hput : putZ (k - 2) (ks.map hd) = putL wd (ks.map hd) 0 (List.replicate ((ks.length * wd + 63) / 64) 0) := by
            unfold putZ
            rw [w1,hroom]
            simp only [Int.toNat_natCast]
          have hf := (putL_field (w := wd) (by omega) (ks.map hd) 0 _ (PutI.start wd ((ks.length * wd + 63) / 64)) (fun y hy => by
            obtain ⟨c,hc,rfl⟩ := List.mem_map.1 hy
            obtain ⟨z,z1,z2,z3,z4⟩ := b2 c hc
            have : hd c = z := by unfold hd; rw [z1]; rfl
            rw [this]
            exact ⟨z2,fits_lt w1 z2 z4⟩) (fun j hj => by
            rw [List.length_replicate]
            exact hat2 j (by simpa using hj))).2 i (by simpa using hi)
          rw [Nat.zero_add,← hput] at hf
          unfold fieldZ at hf
          rw [List.getD_eq_getElem?_getD] at hf
          rw [hf]
          simp
      rw [this]
    refine ⟨⟨2 + (k - 2),0,l.length,0,0,ks.length,0⟩,.mk k [] ks,hat,?_,rfl⟩
    have hh := hasW_1 (L := L) (a := l.length) (n := (ks.length * wd + 63) / 64) (by omega)
    rw [← hm] at hh
    refine .mk _ _ (.dat _ _ _ _ (by omega) (by omega) (by omega) (by omega) hh) hk2 ?_ ?_ (fun i hi => ?_) (fun i hi => ?_)
    · unfold wordsR
      rw [if_neg (by simp only; omega),if_pos (by simp only; omega)]
      rfl
    · unfold nk
      rw [if_neg (by simp only; omega)]
      rfl
    · change i < ks.length at hi
      rw [hkid i hi]
    · change i < ks.length at hi
      rw [hkid i hi]
      obtain ⟨x,hx1,hx2,hx3,hx4⟩ := b2 _ (List.getElem_mem hi)
      obtain ⟨g1,g2⟩ := hkr _ (List.getElem_mem hi)
      have hhd : hd ks[i] = x := by unfold hd; rw [hx1]; rfl
      have hkd : ks[i].kind = 10 := by
        have hd : isData k = true := by simp [isData]; omega
        unfold kidOk at g2
        rw [hd] at g2
        simp at g2
        first | exact g2.1.1 | exact of_decide_eq_true g2.1.1
      have hks : ks[i].kids = [] := by
        rw [T.eta ks[i],rightT_mk,hkd] at g1
        simp at g1
        exact g1.2
      have e : ks[i] = .mk 10 [x] [] := by rw [T.eta ks[i],hkd,hx1,hks]
      show Means [L] _ ks[i]
      rw [hhd,e]
      exact .mk _ _ (.atom _ hx2 hx3) rfl (by simp [wordsR]) (by simp [nk]) (fun i hi => by simp at hi) (fun i hi => by simp at hi)
theorem lay_root {t : T} (hok : LayOk t) {d : Nat} (hr : rightT d t = true) (hL : (layT t 0 [0]).length≤200000) : ∃ r u,atP [layT t 0 [0]] 0 0 = (r,0)∧Means [layT t 0 [0]] r u∧norm u = norm t := by
  have := (lay_means t).1 hok ⟨d,hr⟩ 0 [0] (layT t 0 [0]) (by simp) rfl (Nat.le_refl _) hL (fun p _ _ => rfl)
  simpa using this
theorem means_same {l : List (List Int)} : ∀ (t u : T) (r : Rf),Means l r t→Means l r u→t = u := by
  refine T.ind fun k w ks ih u r h1 h2 => ?_
  obtain ⟨_,_,_,a1,a2,a3,a4,a5⟩ := h1
  obtain ⟨_,_,_,b1,b2,b3,b4,b5⟩ := h2
  obtain ⟨k',w',ks'⟩ := u
  simp only [T.kind_mk,T.words_mk,T.kids_mk] at *
  have hl : ks.length = ks'.length := by omega
  have e : ks = ks' := by
    apply List.ext_getElem hl
    intro i h1 h2
    exact ih _ (List.getElem_mem h1) _ _ (a5 i h1) (b5 i h2)
  rw [← a1,← a2,b1,b2,e]
end Go.Proofs.YthfiijdbnkaabaaGreat

namespace Go.PL
set_option linter.unusedVariables false
set_option linter.unusedSimpArgs false
def wdT (t : T) (i : Nat) : Int := t.words.getD i 0
def kdT (t : T) (i : Nat) : T := t.kids.getD i T0
theorem sizeOf_T0 (t : T) : SizeOf.sizeOf T0≤SizeOf.sizeOf t := by
  obtain ⟨k,w,l⟩ := t
  have h1 : 1≤SizeOf.sizeOf k := by
    cases k with
    | ofNat n => rw [Int.ofNat.sizeOf_spec]; omega
    | negSucc n => rw [Int.negSucc.sizeOf_spec]; omega
  have h2 : 1≤SizeOf.sizeOf w := by cases w <;> simp <;> omega
  have h3 : 1≤SizeOf.sizeOf l := by cases l <;> simp <;> omega
  simp only [T.mk.sizeOf_spec]
  have e1 : SizeOf.sizeOf (0 : Int) = 1 := rfl
  have e2 : SizeOf.sizeOf ([] : List Int) = 1 := rfl
  have e3 : SizeOf.sizeOf ([] : List T) = 1 := rfl
  omega
theorem kd_mem {t : T} {i : Nat} {x : T} (hx : x ∈ (kdT t i).kids) : kdT t i ∈ t.kids := by
  unfold kdT at hx ⊢
  rw [List.getD_eq_getElem?_getD] at hx ⊢
  cases h : t.kids[i]? with
  | none => rw [h] at hx; simp at hx
  | some y => exact List.mem_of_getElem? (by rw [h]; rfl)
theorem kids_lt {t c : T} (h : c ∈ t.kids) : SizeOf.sizeOf c < SizeOf.sizeOf t := by
  obtain ⟨k,w,l⟩ := t
  have := List.sizeOf_lt_of_mem h
  simp only [T.kids_mk] at this
  simp only [T.mk.sizeOf_spec]
  omega
theorem kd_lt {t x : T} {i : Nat} (hx : x ∈ (kdT t i).kids) (j : Nat) : SizeOf.sizeOf (kdT x j) < SizeOf.sizeOf t := by
  have h1 := kids_lt (kd_mem hx)
  have h2 := kids_lt hx
  have h3 : SizeOf.sizeOf (kdT x j)≤SizeOf.sizeOf x := by
    have e : kdT x j = T0∨kdT x j ∈ x.kids := by
      unfold kdT
      rw [List.getD_eq_getElem?_getD]
      cases h : x.kids[j]? with
      | none => exact .inl rfl
      | some y => exact .inr (List.mem_of_getElem? (by rw [h]; rfl))
    rcases e with e | e
    · rw [e]; exact sizeOf_T0 x
    · exact Nat.le_of_lt (kids_lt e)
  omega
def wordG (x : T) : WE := ⟨wdT x 0 % 4294967296,wdT x 0 / 4294967296 % 256,wdT x 1,wdT x 2⟩
def guess (t : T) : E :=
  if t.kind ≠ 1 then E0 else
  .mk (wdT t 0 % 256) (if wdT t 0 % 256 = 1 then kdT t 0 else T0) (if wdT t 0 % 256 = 1 then kdT t 1 else T0)
    (if wdT t 0 % 256 = 2 then (kdT t 0).kids.map wordG else [])
    (if wdT t 0 % 256 = 2 then (kdT t 1).kids.attach.map (fun x => KE.mk (wdT x.1 0 % 4294967296) (guess (kdT x.1 0))) else [])
    (wdT t 0 / 256 % 256)
    (if wdT t 0 % 256 = 3 then (kdT t 0).kids.attach.map (fun x => OP.mk (wdT x.1 0 % 256) (wdT x.1 0 / 256 % 1099511627776) (if wdT x.1 0 % 256 = 1∨wdT x.1 0 % 256 = 2 then (kdT x.1 0).kids else []) (if wdT x.1 0 % 256 = 3 then guess (kdT x.1 0) else E0)) else [])
termination_by SizeOf.sizeOf t
decreasing_by all_goals exact kd_lt x.2 0
def kidG (x : T) : KE := KE.mk (wdT x 0 % 4294967296) (guess (kdT x 0))
def stpG (x : T) : OP := OP.mk (wdT x 0 % 256) (wdT x 0 / 256 % 1099511627776) (if wdT x 0 % 256 = 1∨wdT x 0 % 256 = 2 then (kdT x 0).kids else []) (if wdT x 0 % 256 = 3 then guess (kdT x 0) else E0)
theorem guess_eq (t : T) : guess t = if t.kind ≠ 1 then E0 else
    .mk (wdT t 0 % 256) (if wdT t 0 % 256 = 1 then kdT t 0 else T0) (if wdT t 0 % 256 = 1 then kdT t 1 else T0) (if wdT t 0 % 256 = 2 then (kdT t 0).kids.map wordG else [])
      (if wdT t 0 % 256 = 2 then (kdT t 1).kids.map kidG else []) (wdT t 0 / 256 % 256) (if wdT t 0 % 256 = 3 then (kdT t 0).kids.map stpG else []) := by
  rw [guess]
  have h1 : ∀ l : List T,l.attach.map (fun x => KE.mk (wdT x.1 0 % 4294967296) (guess (kdT x.1 0))) = l.map kidG := fun l => by
    rw [show (fun x : { x // x ∈ l } => KE.mk (wdT x.1 0 % 4294967296) (guess (kdT x.1 0))) = kidG ∘ Subtype.val from rfl,← List.map_map,List.attach_map_subtype_val]
  have h2 : ∀ l : List T,l.attach.map (fun x => OP.mk (wdT x.1 0 % 256) (wdT x.1 0 / 256 % 1099511627776) (if wdT x.1 0 % 256 = 1∨wdT x.1 0 % 256 = 2 then (kdT x.1 0).kids else []) (if wdT x.1 0 % 256 = 3 then guess (kdT x.1 0) else E0)) = l.map stpG := fun l => by
    rw [show (fun x : { x // x ∈ l } => OP.mk (wdT x.1 0 % 256) (wdT x.1 0 / 256 % 1099511627776) (if wdT x.1 0 % 256 = 1∨wdT x.1 0 % 256 = 2 then (kdT x.1 0).kids else []) (if wdT x.1 0 % 256 = 3 then guess (kdT x.1 0) else E0)) = stpG ∘ Subtype.val from rfl,← List.map_map,List.attach_map_subtype_val]
  rw [h1,h2]
@[simp] theorem rowT'_kids (l : List T) : (rowT' l).kids = l := by cases l <;> simp
theorem noneT_T0 {t : T} (h : noneT t = true) : t = T0 := by
  obtain ⟨k,w,l⟩ := t
  simp only [noneT,Bool.and_eq_true,decide_eq_true_eq,List.isEmpty_iff,T.kind_mk,T.words_mk,T.kids_mk] at h
  obtain ⟨⟨h0,rfl⟩,rfl⟩ := h
  obtain rfl := of_decide_eq_true h0
  rfl
theorem sameE_eq {e : E} (h : sameE e = true) : e = E0 := by
  obtain ⟨k,o,n,ws,ks,l,os⟩ := e
  simp only [sameE,Bool.and_eq_true,decide_eq_true_eq,List.isEmpty_iff,E.kind_mk,E.old_mk,E.new_mk,E.words_mk,E.kids_mk,E.list_mk,E.ops_mk] at h
  obtain ⟨⟨⟨⟨h0,h1⟩,h2⟩,⟨rfl,rfl⟩,rfl⟩,h3⟩ := h
  obtain rfl := of_decide_eq_true h0
  obtain rfl := of_decide_eq_true h3
  rw [noneT_T0 h1,noneT_T0 h2]
theorem headOk_iff {d : Nat} {k : Int} {o n : T} {nw nk : Nat} {l : Int} {no : Nat} : headOk d k o n nw nk l no = true ↔ d ≠ 0∧0≤k∧k≤3∧(k ≠ 1→noneT o = true∧noneT n = true)∧(k ≠ 2→nw = 0∧nk = 0)∧(k ≠ 3→l = 0∧no = 0) := by
  unfold headOk
  simp only [Bool.and_eq_true,Bool.not_eq_true',Bool.or_eq_false_iff,Bool.and_eq_false_iff,decide_eq_false_iff_not,Bool.not_eq_false',decide_eq_true_eq]
  constructor
  · rintro ⟨⟨⟨h1,h2⟩,h3⟩,⟨h4,h5⟩,h6⟩
    refine ⟨h1,by omega,by omega,fun hk => ?_,fun hk => ?_,fun hk => ?_⟩
    · rcases h4 with h4 | h4
      · exact absurd h4 hk
      · exact h4
    · rcases h5 with h5 | h5
      · exact absurd h5 hk
      · omega
    · rcases h6 with h6 | h6
      · exact absurd h6 hk
      · exact ⟨h6.1,by omega⟩
  · rintro ⟨h1,h2,h3,h4,h5,h6⟩
    refine ⟨⟨⟨h1,by omega⟩,by omega⟩,⟨?_,?_⟩,?_⟩
    · by_cases hk : k = 1
      · exact .inl hk
      · exact .inr (h4 hk)
    · by_cases hk : k = 2
      · exact .inl hk
      · exact .inr (by have := h5 hk; omega)
    · by_cases hk : k = 3
      · exact .inl hk
      · exact .inr ⟨(h6 hk).1,by have := h6 hk; omega⟩
structure RightE (d : Nat) (k : Int) (o n : T) (ws : List WE) (ks : List KE) (l : Int) (os : List OP) : Prop where
  d0 : d ≠ 0
  k0 : 0≤k
  k3 : k≤3
  one : k ≠ 1→o = T0∧n = T0
  two : k ≠ 2→ws = []∧ks = []
  three : k ≠ 3→l = 0∧os = []
  rep : k = 1→rightT 64 o = true∧rightT 64 n = true∧o.kind ≠ 10∧n.kind ≠ 10
  wok : wordsOk (-1) ws = true
  kok : rightKs (d - 1) (-1) ks = true
  lst : k = 3→2≤l∧l≤9
  ook : rightOs (d - 1) l os = true
  len : (lengths 0 0 os).1 < 1048576∧(lengths 0 0 os).2 < 1048576
theorem rightE_iff {d : Nat} {k : Int} {o n : T} {ws : List WE} {ks : List KE} {l : Int} {os : List OP} : rightE d (.mk k o n ws ks l os) = true ↔ RightE d k o n ws ks l os := by
  rw [rightE_mk]
  constructor
  · intro h
    by_cases hh : headOk d k o n ws.length ks.length l os.length = true
    · rw [if_neg (by rw [hh]; simp)] at h
      obtain ⟨h1,h2,h3,h4,h5,h6⟩ := headOk_iff.1 hh
      have g1 : k ≠ 1→o = T0∧n = T0 := fun hk => ⟨noneT_T0 (h4 hk).1,noneT_T0 (h4 hk).2⟩
      have g2 : k ≠ 2→ws = []∧ks = [] := fun hk => ⟨List.length_eq_zero_iff.1 (h5 hk).1,List.length_eq_zero_iff.1 (h5 hk).2⟩
      have g3 : k ≠ 3→l = 0∧os = [] := fun hk => ⟨(h6 hk).1,List.length_eq_zero_iff.1 (h6 hk).2⟩
      by_cases hk : k = 1
      · rw [if_pos hk] at h
        simp at h
        obtain ⟨rfl,rfl⟩ := g2 (by omega)
        obtain ⟨rfl,rfl⟩ := g3 (by omega)
        exact ⟨h1,h2,h3,g1,g2,g3,fun _ => ⟨h.1.1.1,h.1.1.2,h.1.2,h.2⟩,by simp [wordsOk],by simp,fun e => by omega,by simp,by simp [lengths]⟩
      · rw [if_neg hk] at h
        split at h
        · cases h
        · rename_i hw
          split at h
          · cases h
          · rename_i hks
            split at h
            · cases h
            · rename_i hl
              split at h
              · cases h
              · rename_i ho
                simp at h hw hks ho
                exact ⟨h1,h2,h3,g1,g2,g3,fun e => absurd e hk,hw,hks,fun e => by omega,ho,h⟩
    · rw [if_pos (by simpa using hh)] at h
      cases h
  · intro h
    have hh : headOk d k o n ws.length ks.length l os.length = true := headOk_iff.2 ⟨h.d0,h.k0,h.k3,fun hk => by rw [(h.one hk).1,(h.one hk).2]; exact ⟨rfl,rfl⟩,fun hk => by rw [(h.two hk).1,(h.two hk).2]; exact ⟨rfl,rfl⟩,fun hk => by rw [(h.three hk).1,(h.three hk).2]; exact ⟨rfl,rfl⟩⟩
    rw [if_neg (by rw [hh]; simp)]
    by_cases hk : k = 1
    · rw [if_pos hk]
      obtain ⟨a,b,c,e⟩ := h.rep hk
      simp [a,b,c,e]
    · rw [if_neg hk,if_neg (by rw [h.wok]; simp),if_neg (by rw [h.kok]; simp),if_neg (by have := h.lst; omega),if_neg (by rw [h.ook]; simp)]
      simp [h.len]
theorem wordsOk_in : ∀ {l : List WE} {last : Int},-1≤last→wordsOk last l = true→∀ w,w ∈ l→0≤w.at_∧w.at_≤65534∧w.mask ≠ 0
  | [],_,_,_,w,hw => nomatch hw
  | x :: l,last,hl,h,w,hw => by
    rw [wordsOk,Bool.and_eq_true] at h
    have h1 := h.1
    simp [wordOk] at h1
    rcases List.mem_cons.1 hw with rfl | hw
    · exact ⟨by omega,by omega,h1.1.1.2⟩
    · exact wordsOk_in (by omega) h.2 w hw
theorem rightKs_allE : ∀ {l : List KE} {d : Nat} {last : Int},-1≤last→rightKs d last l = true→∀ x,x ∈ l→0≤x.at_∧x.at_≤65534∧x.e.kind ≠ 0∧rightE d x.e = true
  | [],_,_,_,_,x,hx => nomatch hx
  | y :: l,d,last,hl,h,x,hx => by
    rw [rightKs_cons] at h
    simp at h
    rcases List.mem_cons.1 hx with rfl | hx
    · exact ⟨by omega,by omega,h.1.1.2,h.1.2⟩
    · exact rightKs_allE (by omega) h.2 x hx
structure RightO (d : Nat) (list : Int) (x : OP) : Prop where
  k0 : 0≤x.kind
  k3 : x.kind≤3
  keep : x.kind = 0→1≤x.n∧x.n≤1048576∧x.l = []
  nn : x.kind ≠ 0→x.n = 0
  same : x.kind ≠ 3→x.e = E0
  some : x.kind = 1∨x.kind = 2→x.l ≠ []∧∀ t,t ∈ x.l→rightT 64 (.mk list [] [t]) = true
  down : x.kind = 3→x.l = []∧x.e.kind ≠ 0∧8≤list∧rightE d x.e = true∧opFit list x = true
theorem rightO_of {d : Nat} {list : Int} {x : OP} (h : rightO d list x = true) : RightO d list x := by
  rw [rightO_eq,Bool.and_eq_true] at h
  obtain ⟨h1,h2⟩ := h
  unfold opFlat at h1
  by_cases k0 : x.kind = 0
  · rw [if_pos k0] at h1
    simp at h1
    exact ⟨by omega,by omega,fun _ => ⟨h1.1.1.1,h1.1.1.2,h1.1.2⟩,fun e => absurd k0 e,fun _ => sameE_eq h1.2,fun e => by omega,fun e => by omega⟩
  · rw [if_neg k0] at h1
    split at h1
    · cases h1
    · rename_i hn
      by_cases k3 : x.kind < 3
      · rw [if_pos k3] at h1
        simp at h1
        exact ⟨by omega,by omega,fun e => absurd e k0,fun _ => by omega,fun _ => sameE_eq h1.2,fun _ => ⟨by simpa using h1.1.2,h1.1.1⟩,fun e => by omega⟩
      · have k3' : x.kind = 3 := by omega
        rw [if_pos k3'] at h2
        simp [opDeep] at h2
        exact ⟨by omega,by omega,fun e => absurd e k0,fun _ => by omega,fun e => absurd k3' e,fun e => by omega,fun _ => ⟨h2.1.1.1.1,h2.1.1.1.2,by omega,h2.1.2,h2.2⟩⟩
theorem sameE_E0 : sameE E0 = true := rfl
theorem rightO_to {d : Nat} {list : Int} {x : OP} (O : RightO d list x) : rightO d list x = true := by
  rw [rightO_eq,Bool.and_eq_true]
  unfold opFlat
  by_cases k0 : x.kind = 0
  · obtain ⟨a,b,c⟩ := O.keep k0
    rw [if_pos k0,if_neg (by omega),O.same (by omega),c]
    exact ⟨by simp [a,b,sameE_E0],rfl⟩
  · have hn := O.nn k0
    have h0 := O.k0
    have h3 := O.k3
    rw [if_neg k0,if_neg (by omega)]
    by_cases k3 : x.kind = 3
    · obtain ⟨a,b,c,e,f⟩ := O.down k3
      rw [if_neg (by omega),if_pos k3]
      refine ⟨rfl,?_⟩
      rw [e,f]
      simp [opDeep,a,b]
      omega
    · obtain ⟨a,b⟩ := O.some (by omega)
      rw [if_pos (by omega),if_neg k3,O.same k3]
      refine ⟨?_,rfl⟩
      simp [sameE_E0,a]
      exact b
theorem u64m_of {n : Int} (h : 0≤n) (h1 : n < 18446744073709551616) : u64m n = n := Int.emod_eq_of_lt h h1
theorem wordG_tree {w : WE} (h : 0≤w.at_∧w.at_≤65534) (hm : 0≤w.mask∧w.mask < 256) : wordG (treeW w) = w := by
  obtain ⟨a,m,o,n⟩ := w
  simp only at h hm
  unfold wordG treeW wdT
  simp only [T.words_mk]
  rw [u64m_of (by omega) (by omega)]
  simp
  omega
mutual
def maskE : E→Prop
  | .mk _ _ _ ws ks _ os => (∀ w,w ∈ ws→0≤w.mask∧w.mask < 256)∧maskKs ks∧maskOs os
def maskKs : List KE→Prop
  | [] => True
  | .mk _ e :: l => maskE e∧maskKs l
def maskOs : List OP→Prop
  | [] => True
  | .mk _ _ _ e :: l => maskE e∧maskOs l
end
theorem maskE_mk (k : Int) (o n : T) (ws : List WE) (ks : List KE) (l : Int) (os : List OP) : maskE (.mk k o n ws ks l os) ↔ (∀ w,w ∈ ws→0≤w.mask∧w.mask < 256)∧maskKs ks∧maskOs os := by rw [maskE]
theorem maskKs_all : ∀ {l : List KE},maskKs l ↔ ∀ x,x ∈ l→maskE x.e
  | [] => by rw [maskKs]; simp
  | .mk a e :: l => by rw [maskKs,maskKs_all]; simp
theorem maskOs_all : ∀ {l : List OP},maskOs l ↔ ∀ x,x ∈ l→maskE x.e
  | [] => by rw [maskOs]; simp
  | .mk k n t e :: l => by rw [maskOs,maskOs_all]; simp
theorem guess_T0 : guess T0 = E0 := by rw [guess_eq]; simp
theorem map_same {α β : Type} {f : α→β} {g : β→α} {l : List α} (h : ∀ x,x ∈ l→g (f x) = x) : (l.map f).map g = l := by
  rw [List.map_map]
  have : l.map (g ∘ f) = l.map id := List.map_congr_left fun x hx => h x hx
  rw [this,List.map_id]
end Go.PL
