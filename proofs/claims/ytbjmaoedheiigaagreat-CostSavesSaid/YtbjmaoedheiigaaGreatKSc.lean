/-
  Texts, merged, without what is not reached.
-/
import Derived.Test.YtbjmaoedheiigaaGreatKSb
namespace Go.Proofs.YtbjmaoedheiigaaGreat
set_option linter.unusedVariables false
set_option linter.unusedSimpArgs false
set_option maxRecDepth 20000
open Go Go.G Go.Proofs
@[simp] theorem und_5 : Tryz.prog.underlying 5 = some (.int .u8) := by kernel_rfl
@[simp] theorem und_22 : Tryz.prog.underlying 22 = some (.slice 51) := by kernel_rfl
@[simp] theorem und_249 : Tryz.prog.underlying 249 = some (.array 8 5) := by kernel_rfl
@[simp] theorem und_253 : Tryz.prog.underlying 253 = some (.slice 5) := by kernel_rfl
@[simp] theorem und_270 : Tryz.prog.underlying 270 = some (.array 6 3) := by kernel_rfl
@[simp] theorem szT_5 : szT Tryz.prog 5 = some 1 := by kernel_rfl
@[simp] theorem szT_51 : szT Tryz.prog 51 = some 1 := by kernel_rfl
@[simp] theorem szT_249 : szT Tryz.prog 249 = some 8 := by kernel_rfl
@[simp] theorem szT_270 : szT Tryz.prog 270 = some 6 := by kernel_rfl
@[simp] theorem aggT_5 : aggT Tryz.prog 5 = some false := by kernel_rfl
@[simp] theorem aggT_51 : aggT Tryz.prog 51 = some false := by kernel_rfl
@[simp] theorem aggT_249 : aggT Tryz.prog 249 = some true := by kernel_rfl
@[simp] theorem zeroT_51 : zeroT Tryz.prog 51 = some (Value.int IntKind.u64 0) := by kernel_rfl
@[simp] theorem zeroT_249 : zeroT Tryz.prog 249 = some (Value.agg #[Value.int IntKind.u8 0,Value.int IntKind.u8 0,Value.int IntKind.u8 0,Value.int IntKind.u8 0,Value.int IntKind.u8 0,Value.int IntKind.u8 0,Value.int IntKind.u8 0,Value.int IntKind.u8 0]) := by kernel_rfl
@[simp] theorem zeroT_270 : zeroT Tryz.prog 270 = some (Value.agg #[Value.int IntKind.i64 0,Value.int IntKind.i64 0,Value.int IntKind.i64 0,Value.int IntKind.i64 0,Value.int IntKind.i64 0,Value.int IntKind.i64 0]) := by kernel_rfl
@[simp] theorem bytesT_51 : bytesT Tryz.prog 51 = some 8 := by kernel_rfl
@[simp] theorem buildA_249 (ps : List (Nat × A)) : buildA Tryz.prog 249 ps = (fillA (fun i => some (i * 1,1)) [A.v (Value.int IntKind.u8 0),A.v (Value.int IntKind.u8 0),A.v (Value.int IntKind.u8 0),A.v (Value.int IntKind.u8 0),A.v (Value.int IntKind.u8 0),A.v (Value.int IntKind.u8 0),A.v (Value.int IntKind.u8 0),A.v (Value.int IntKind.u8 0)] ps).map A.agg := by kernel_rfl
@[simp] theorem buildA_270 (ps : List (Nat × A)) : buildA Tryz.prog 270 ps = (fillA (fun i => some (i * 1,1)) [A.v (Value.int IntKind.i64 0),A.v (Value.int IntKind.i64 0),A.v (Value.int IntKind.i64 0),A.v (Value.int IntKind.i64 0),A.v (Value.int IntKind.i64 0),A.v (Value.int IntKind.i64 0)] ps).map A.agg := by kernel_rfl
def c_centoref01_Width : CC := sR [oO 2 (.assign (nI 0))] [0] (.seq (sR [mO 3 0] [3] (.block 0 (sR [oO 5 (.binOp .eql 3 (xT 3) (nI 0) 3),aO 4 5] [3,4] (cD 4 (sR [oO 2 (.assign (nI 0))] [2] (.ret)) (sR [oO 7 (.binOp .eql 3 (xT 3) (nI 1) 3),aO 6 7] [3,6] (cD 6 (sR [oO 2 (.assign (nI 1))] [2] (.ret)) (sR [oO 9 (.binOp .eql 3 (xT 3) (nI 2) 3),aO 8 9] [3,8] (cD 8 (sR [oO 2 (.assign (nI 8))] [2] (.ret)) (sR [oO 11 (.binOp .eql 3 (xT 3) (nI 3) 3),aO 10 11] [3,10] (cD 10 (sR [oO 2 (.assign (nI 16))] [2] (.ret)) (sR [oO 13 (.binOp .eql 3 (xT 3) (nI 4) 3),aO 12 13] [3,12] (cD 12 (sR [oO 2 (.assign (nI 32))] [2] (.ret)) (sR [oO 15 (.binOp .eql 3 (xT 3) (nI 5) 3),aO 14 15] [14] (cD 14 (sR [oO 2 (.assign (nI 64))] [2] (.ret)) (.skip))))))))))))))) (.keep [] (sR [oO 2 (.assign (.const (.int .i64 (-1))))] [2] (.ret))))
theorem t_centoref01_Width : Txt Tryz.prog 109 16 [(.tmp 2)] c_centoref01_Width := txt_of (code := Tryz.f109.body.getD .ret) mixed (by kernel_rfl) Tryz.func109 (by kernel_rfl) Tryz.ntmps109 (by kernel_rfl) (ls := lsOf c_centoref01_Width) (by kernel_rfl)
def l1_centoref01_Fits : CC := .seq (sR [mO 11 6,mO 12 5,oO 13 (bO .lss 3 11 12 3)] [1,5,6,13] (cD 13 (.skip) (.exit 0))) (.keep [1,5,6] (.seq (.block 1 (.reg [mO 16 1,oO 17 (.binOp .quo 51 (xT 16) (.const (.int .u64 2)) 51),aO 1 17] [1,5,6])) (.reg [mO 14 6,oO 15 (.binOp .add 3 (xT 14) (nI 1) 3),aO 6 15] [1,5,6]))) 
def c_centoref01_Fits : CC := sR [oO 4 (.assign (nB false))] [0,1] (sR [mO 7 0,oO 8 (cL 109 #[(xT 7)] #[3]),aO 5 8] [1,5] (.seq (sR [mO 9 5,oO 10 (.binOp .lss 3 (xT 9) (nI 0) 3)] [1,5,10] (cD 10 (sR [oO 4 (.assign (nB false))] [4] (.ret)) (.skip))) (.keep [1,5] (.seq (sR [oO 6 (.assign (nI 0))] [1,5,6] (.block 0 (.loop l1_centoref01_Fits))) (.keep [1] (sR [mO 18 1,oO 19 (.binOp .eql 51 (xT 18) (.const (.int .u64 0)) 51),aO 4 19] [4] (.ret)))))))
theorem t_centoref01_Fits : Txt Tryz.prog 57 20 [(.tmp 4)] c_centoref01_Fits := txt_of (code := Tryz.f57.body.getD .ret) mixed (by kernel_rfl) Tryz.func57 (by kernel_rfl) Tryz.ntmps57 (by kernel_rfl) (ls := lsOf c_centoref01_Fits) (by kernel_rfl)
def c_centoref01_Room : CC := sR [oO 4 (.assign (nI 0))] [0,1] (.seq (sR [mO 6 0,oO 7 (cL 109 #[(xT 6)] #[3]),oO 8 (.binOp .lss 3 (xT 7) (nI 1) 3),mO 9 8,oG 10 (mV 1) 9 false,oG 11 (.binOp .lss 3 (xT 10) (nI 0) 3) 9 false,oO 12 (.pick (xT 9) (nB true) (xT 11)),mO 13 12,oG 14 (mV 1) 13 false,oG 15 (.binOp .gtr 3 (xT 14) (nI 1099511627776) 3) 13 false,oO 16 (.pick (xT 13) (nB true) (xT 15))] [0,1,16] (cD 16 (sR [oO 4 (.assign (nI 0))] [4] (.ret)) (.skip))) (.keep [0,1] (sR [mO 17 0,oO 18 (cL 109 #[(xT 17)] #[3]),oO 19 (.binOp .quo 3 (nI 64) (xT 18) 3),aO 5 19] [1,5] (.seq (sR [mO 20 1,mO 21 5,oO 22 (bO .rem 3 20 21 3),oO 23 (.binOp .gtr 3 (xT 22) (nI 0) 3)] [1,5,23] (cD 23 (sR [mO 24 1,mO 25 5,oO 26 (bO .quo 3 24 25 3),oO 27 (.binOp .add 3 (xT 26) (nI 1) 3),aO 4 27] [4] (.ret)) (.skip))) (.keep [1,5] (sR [mO 28 1,mO 29 5,oO 30 (bO .quo 3 28 29 3),aO 4 30] [4] (.ret)))))))
theorem t_centoref01_Room : Txt Tryz.prog 65 31 [(.tmp 4)] c_centoref01_Room := txt_of (code := Tryz.f65.body.getD .ret) mixed (by kernel_rfl) Tryz.func65 (by kernel_rfl) Tryz.ntmps65 (by kernel_rfl) (ls := lsOf c_centoref01_Room) (by kernel_rfl)
def c_word_width : CC := sR [oO 2 (.assign (nI 0)),oO 3 (.assign (nB false))] [0] (sR [oO 5 (.build 270 #[(0,(nI 0)),(1,(nI 1)),(2,(nI 8)),(3,(nI 16)),(4,(nI 32)),(5,(nI 64))]),oN 4 (.alloc 270) [0],oS (.store 270 (xT 4) (xT 5))] [0,4] (.seq (sR [mO 6 0,oO 7 (.binOp .lss 3 (xT 6) (nI 0) 3),mO 8 7,oG 9 (mV 0) 8 false,oG 10 (.binOp .geq 3 (xT 9) (nI 6) 3) 8 false,oO 11 (.pick (xT 8) (nB true) (xT 10))] [0,4,11] (cD 11 (sR [oO 2 (.assign (nI 0)),oO 3 (.assign (nB false))] [2,3] (.ret)) (.skip))) (.keep [0,4] (sR [mO 12 0,oO 13 (iA 270 4 12),lO 14 3 13,aO 2 14,oO 3 (.assign (nB true))] [2,3] (.ret)))))
theorem t_word_width : Txt Tryz.prog 185 15 [(.tmp 2),(.tmp 3)] c_word_width := txt_of (code := Tryz.f185.body.getD .ret) mixed (by kernel_rfl) Tryz.func185 (by kernel_rfl) Tryz.ntmps185 (by kernel_rfl) (ls := lsOf c_word_width) (by kernel_rfl)
def c_word_Room : CC := sR [oO 4 (.assign (nI 0))] [0,1] (sR [mO 8 0,oO 9 (cL 185 #[(xT 8)] #[3]),mO 7 9,xO 10 7 0,xO 11 7 1,aO 5 10,aO 6 11] [1,5,6] (.seq (sR [mO 12 6,oO 13 (.unOp .not 4 (xT 12)),mO 14 13,oG 15 (mV 1) 14 false,oG 16 (.binOp .lss 3 (xT 15) (nI 0) 3) 14 false,oO 17 (.pick (xT 14) (nB true) (xT 16)),mO 18 17,oG 19 (mV 1) 18 false,oG 20 (.binOp .gtr 3 (xT 19) (nI 1099511627776) 3) 18 false,oO 21 (.pick (xT 18) (nB true) (xT 20))] [1,5,21] (cD 21 (sR [oO 4 (.assign (nI 0))] [4] (.ret)) (.skip))) (.keep [1,5] (sR [mO 22 1,mO 23 5,oO 24 (bO .mul 3 22 23 3),oO 25 (.binOp .add 3 (xT 24) (nI 63) 3),oO 26 (.binOp .quo 3 (xT 25) (nI 64) 3),aO 4 26] [4] (.ret)))))
theorem t_word_Room : Txt Tryz.prog 182 27 [(.tmp 4)] c_word_Room := txt_of (code := Tryz.f182.body.getD .ret) mixed (by kernel_rfl) Tryz.func182 (by kernel_rfl) Tryz.ntmps182 (by kernel_rfl) (ls := lsOf c_word_Room) (by kernel_rfl)
def c_tree_Data : CC := sR [oO 2 (.assign (nB false))] [0] (sR [mO 3 0,oO 4 (.binOp .geq 3 (xT 3) (nI 2) 3),mO 5 4,oG 6 (mV 0) 5 true,oG 7 (.binOp .leq 3 (xT 6) (nI 7) 3) 5 true,oO 8 (.pick (xT 5) (xT 7) (nB false)),aO 2 8] [2] (.ret))
theorem t_tree_Data : Txt Tryz.prog 140 9 [(.tmp 2)] c_tree_Data := txt_of (code := Tryz.f140.body.getD .ret) mixed (by kernel_rfl) Tryz.func140 (by kernel_rfl) Tryz.ntmps140 (by kernel_rfl) (ls := lsOf c_tree_Data) (by kernel_rfl)
def l1_centoref07_Trim : CC := .seq (sR [mO 7 3,oO 8 (.binOp .gtr 3 (xT 7) (nI 0) 3),mO 9 8,oG 10 (mV 0) 9 true,oG 11 (mV 3) 9 true,oG 12 (.binOp .sub 3 (xT 11) (nI 1) 3) 9 true,oG 13 (iA 22 10 12) 9 true,oG 14 (lD 51 13) 9 true,oG 15 (.binOp .eql 51 (xT 14) (.const (.int .u64 0)) 51) 9 true,oO 16 (.pick (xT 9) (xT 15) (nB false))] [0,3,16] (cD 16 (.skip) (.exit 0))) (.keep [0,3] (.block 1 (.reg [mO 17 3,oO 18 (.binOp .sub 3 (xT 17) (nI 1) 3),aO 3 18] [0,3]))) 
def c_centoref07_Trim : CC := sR [oO 2 (.assign nS)] [0] (sR [mO 5 0,oO 6 (bL 5 22),aO 3 6] [0,3] (.seq (.block 0 (.loop l1_centoref07_Trim)) (.keep [0,3] (sR [oO 4 (.assign nS)] [0,3,4] (sR [mO 19 4,mO 20 0,mO 21 3,oO 22 (.slice 22 (xT 20) none (some (xT 21)) none),oN 23 (bC .append #[(xT 19),(xT 22)] #[22,22]) [0],aO 2 23] [2] (.ret))))))
theorem t_centoref07_Trim : Txt Tryz.prog 64 24 [(.tmp 2)] c_centoref07_Trim := txt_of (code := Tryz.f64.body.getD .ret) mixed (by kernel_rfl) Tryz.func64 (by kernel_rfl) Tryz.ntmps64 (by kernel_rfl) (ls := lsOf c_centoref07_Trim) (by kernel_rfl)
@[simp] theorem und_41 : Tryz.prog.underlying 41 = some (.slice 22) := by kernel_rfl
@[simp] theorem und_50 : Tryz.prog.underlying 50 = some (.pointer 133) := by kernel_rfl
@[simp] theorem und_327 : Tryz.prog.underlying 327 = some (.array 7 3) := by kernel_rfl
@[simp] theorem szT_22 : szT Tryz.prog 22 = some 1 := by kernel_rfl
@[simp] theorem szT_41 : szT Tryz.prog 41 = some 1 := by kernel_rfl
@[simp] theorem szT_137 : szT Tryz.prog 137 = some 10 := by kernel_rfl
@[simp] theorem szT_198 : szT Tryz.prog 198 = some 10 := by kernel_rfl
@[simp] theorem szT_327 : szT Tryz.prog 327 = some 7 := by kernel_rfl
@[simp] theorem aggT_22 : aggT Tryz.prog 22 = some false := by kernel_rfl
@[simp] theorem aggT_41 : aggT Tryz.prog 41 = some false := by kernel_rfl
@[simp] theorem aggT_137 : aggT Tryz.prog 137 = some true := by kernel_rfl
@[simp] theorem aggT_198 : aggT Tryz.prog 198 = some true := by kernel_rfl
@[simp] theorem zeroT_22 : zeroT Tryz.prog 22 = some (Value.slice none 0 0) := by kernel_rfl
@[simp] theorem zeroT_137 : zeroT Tryz.prog 137 = some (Value.agg #[Value.int IntKind.i64 0,Value.int IntKind.i64 0,Value.int IntKind.i64 0,Value.int IntKind.i64 0,Value.int IntKind.i64 0,Value.int IntKind.i64 0,Value.int IntKind.i64 0,Value.bool false,Value.int IntKind.i64 0,Value.int IntKind.i64 0]) := by kernel_rfl
@[simp] theorem zeroT_198 : zeroT Tryz.prog 198 = some (Value.agg #[Value.int IntKind.i64 0,Value.int IntKind.i64 0,Value.int IntKind.i64 0,Value.int IntKind.i64 0,Value.int IntKind.i64 0,Value.int IntKind.i64 0,Value.int IntKind.i64 0,Value.bool false,Value.int IntKind.i64 0,Value.int IntKind.i64 0]) := by kernel_rfl
@[simp] theorem zeroT_327 : zeroT Tryz.prog 327 = some (Value.agg #[Value.int IntKind.i64 0,Value.int IntKind.i64 0,Value.int IntKind.i64 0,Value.int IntKind.i64 0,Value.int IntKind.i64 0,Value.int IntKind.i64 0,Value.int IntKind.i64 0]) := by kernel_rfl
@[simp] theorem bytesT_22 : bytesT Tryz.prog 22 = some 24 := by kernel_rfl
@[simp] theorem fieldOffT_133_0 : fieldOffT Tryz.prog 133 0 = some 0 := by kernel_rfl
@[simp] theorem fieldOffT_135_0 : fieldOffT Tryz.prog 135 0 = some 0 := by kernel_rfl
@[simp] theorem fieldOffT_135_1 : fieldOffT Tryz.prog 135 1 = some 1 := by kernel_rfl
@[simp] theorem fieldOffT_135_2 : fieldOffT Tryz.prog 135 2 = some 2 := by kernel_rfl
@[simp] theorem fieldOffT_135_3 : fieldOffT Tryz.prog 135 3 = some 3 := by kernel_rfl
@[simp] theorem fieldOffT_135_4 : fieldOffT Tryz.prog 135 4 = some 4 := by kernel_rfl
@[simp] theorem fieldOffT_135_5 : fieldOffT Tryz.prog 135 5 = some 5 := by kernel_rfl
@[simp] theorem fieldOffT_135_6 : fieldOffT Tryz.prog 135 6 = some 6 := by kernel_rfl
@[simp] theorem fieldOffT_135_7 : fieldOffT Tryz.prog 135 7 = some 7 := by kernel_rfl
@[simp] theorem fieldOffT_137_0 : fieldOffT Tryz.prog 137 0 = some 0 := by kernel_rfl
@[simp] theorem fieldOffT_137_1 : fieldOffT Tryz.prog 137 1 = some 8 := by kernel_rfl
@[simp] theorem fieldOffT_137_2 : fieldOffT Tryz.prog 137 2 = some 9 := by kernel_rfl
@[simp] theorem fieldOffT_198_0 : fieldOffT Tryz.prog 198 0 = some 0 := by kernel_rfl
@[simp] theorem fieldOffT_198_1 : fieldOffT Tryz.prog 198 1 = some 8 := by kernel_rfl
@[simp] theorem fieldOffT_198_2 : fieldOffT Tryz.prog 198 2 = some 9 := by kernel_rfl
@[simp] theorem buildA_133 (ps : List (Nat × A)) : buildA Tryz.prog 133 ps = (fillA (fun i => ([(0,1),(1,1),(2,1),(3,1)] : List (Nat × Nat))[i]?) [A.sl true [],A.v (Value.int IntKind.i64 0),A.v (Value.int IntKind.i64 0),A.v (Value.int IntKind.i64 0)] ps).map A.agg := by kernel_rfl
@[simp] theorem buildA_137 (ps : List (Nat × A)) : buildA Tryz.prog 137 ps = (fillA (fun i => ([(0,8),(8,1),(9,1)] : List (Nat × Nat))[i]?) [A.v (Value.int IntKind.i64 0),A.v (Value.int IntKind.i64 0),A.v (Value.int IntKind.i64 0),A.v (Value.int IntKind.i64 0),A.v (Value.int IntKind.i64 0),A.v (Value.int IntKind.i64 0),A.v (Value.int IntKind.i64 0),A.v (Value.bool false),A.v (Value.int IntKind.i64 0),A.v (Value.int IntKind.i64 0)] ps).map A.agg := by kernel_rfl
@[simp] theorem buildA_198 (ps : List (Nat × A)) : buildA Tryz.prog 198 ps = (fillA (fun i => ([(0,8),(8,1),(9,1)] : List (Nat × Nat))[i]?) [A.v (Value.int IntKind.i64 0),A.v (Value.int IntKind.i64 0),A.v (Value.int IntKind.i64 0),A.v (Value.int IntKind.i64 0),A.v (Value.int IntKind.i64 0),A.v (Value.int IntKind.i64 0),A.v (Value.int IntKind.i64 0),A.v (Value.bool false),A.v (Value.int IntKind.i64 0),A.v (Value.int IntKind.i64 0)] ps).map A.agg := by kernel_rfl
@[simp] theorem buildA_327 (ps : List (Nat × A)) : buildA Tryz.prog 327 ps = (fillA (fun i => some (i * 1,1)) [A.v (Value.int IntKind.i64 0),A.v (Value.int IntKind.i64 0),A.v (Value.int IntKind.i64 0),A.v (Value.int IntKind.i64 0),A.v (Value.int IntKind.i64 0),A.v (Value.int IntKind.i64 0),A.v (Value.int IntKind.i64 0)] ps).map A.agg := by kernel_rfl
def c_slices_Clone_uint64_uint64 : CC := sR [oO 2 (.assign nS)] [0] (.seq (sR [mO 3 0,oO 4 (.binOp .eql 22 (xT 3) nS 22)] [0,4] (cD 4 (sR [oO 2 (.assign nS)] [2] (.ret)) (.skip))) (.keep [0] (sR [oO 5 (.buildSlice 22 0 #[]),mO 6 0,oN 7 (bC .append #[(xT 5),(xT 6)] #[22,22]) [0],aO 2 7] [2] (.ret))))
theorem t_slices_Clone_uint64_uint64 : Txt Tryz.prog 63 8 [(.tmp 2)] c_slices_Clone_uint64_uint64 := txt_of (code := Tryz.f63.body.getD .ret) mixed (by kernel_rfl) Tryz.func63 (by kernel_rfl) Tryz.ntmps63 (by kernel_rfl) (ls := lsOf c_slices_Clone_uint64_uint64) (by kernel_rfl)
@[simp] theorem und_4 : Tryz.prog.underlying 4 = some .bool := by kernel_rfl
@[simp] theorem und_23 : Tryz.prog.underlying 23 = some (.slice 25) := by kernel_rfl
@[simp] theorem szT_23 : szT Tryz.prog 23 = some 1 := by kernel_rfl
@[simp] theorem szT_25 : szT Tryz.prog 25 = some 3 := by kernel_rfl
@[simp] theorem aggT_23 : aggT Tryz.prog 23 = some false := by kernel_rfl
@[simp] theorem aggT_25 : aggT Tryz.prog 25 = some true := by kernel_rfl
@[simp] theorem zeroT_25 : zeroT Tryz.prog 25 = some (Value.agg #[Value.int IntKind.i64 0,Value.slice none 0 0,Value.slice none 0 0]) := by kernel_rfl
@[simp] theorem bytesT_25 : bytesT Tryz.prog 25 = some 56 := by kernel_rfl
@[simp] theorem fieldOffT_25_0 : fieldOffT Tryz.prog 25 0 = some 0 := by kernel_rfl
@[simp] theorem fieldOffT_25_1 : fieldOffT Tryz.prog 25 1 = some 1 := by kernel_rfl
@[simp] theorem fieldOffT_25_2 : fieldOffT Tryz.prog 25 2 = some 2 := by kernel_rfl
@[simp] theorem buildA_25 (ps : List (Nat × A)) : buildA Tryz.prog 25 ps = (fillA (fun i => ([(0,1),(1,1),(2,1)] : List (Nat × Nat))[i]?) [A.v (Value.int IntKind.i64 0),A.sl true [],A.sl true []] ps).map A.agg := by kernel_rfl
def l1_centoref07_Right : CC := .seq (sR [mO 78 5,fO 79 25 2 2,lO 80 23 79,oO 81 (bL 80 23),oO 82 (bO .lss 3 78 81 3)] [1,2,5,82] (cD 82 (.skip) (.exit 0))) (.keep [1,2,5] (.seq (.block 1 (sR [fO 85 25 2 2,lO 86 23 85,mO 87 5,oO 88 (iA 23 86 87),lO 89 25 88,oN 6 (.alloc 25) [1],oS (.store 25 (xT 6) (xT 89))] [1,2,5,6] (.seq (sR [lO 90 25 6,mO 91 1,oO 92 (.binOp .sub 3 (xT 91) (nI 1) 3),oO 93 (cL 28 #[(xT 90),(xT 92)] #[25,3]),oO 94 (.unOp .not 4 (xT 93))] [1,2,5,6,94] (cD 94 (sR [oO 4 (.assign (nB false))] [4] (.ret)) (.skip))) (.keep [1,2,5,6] (sR [fO 95 25 2 0,lO 96 3 95,oO 97 (.binOp .geq 3 (xT 96) (nI 2) 3),mO 98 97,oG 99 (fA 25 2 0) 98 true,oG 100 (lD 3 99) 98 true,oG 101 (.binOp .leq 3 (xT 100) (nI 7) 3) 98 true,oO 102 (.pick (xT 98) (xT 101) (nB false)),aO 7 102] [1,2,5,6,7] (sR [mO 103 7,fO 104 25 6 0,lO 105 3 104,oO 106 (.binOp .eql 3 (xT 105) (nI 10) 3),oO 107 (bO .neq 4 103 106 4),mO 108 107,oG 109 (fA 25 2 0) 108 false,oG 110 (lD 3 109) 108 false,oG 111 (.binOp .eql 3 (xT 110) (nI 9) 3) 108 false,oG 112 (mV 111) 108 false,oG 113 (fA 25 6 0) 112 true,oG 114 (lD 3 113) 112 true,oG 115 (.binOp .neq 3 (xT 114) (nI 1) 3) 112 true,oG 116 (.pick (xT 112) (xT 115) (nB false)) 108 false,oO 117 (.pick (xT 108) (nB true) (xT 116)),mO 118 117,oG 119 (mV 7) 118 false,oG 120 (mV 119) 118 false,oG 121 (fA 25 2 0) 120 true,oG 122 (lD 3 121) 120 true,oG 123 (.binOp .sub 3 (xT 122) (nI 2) 3) 120 true,oG 124 (fA 25 6 1) 120 true,oG 125 (lD 22 124) 120 true,oG 126 (.indexAddr 22 (xT 125) (nI 0)) 120 true,oG 127 (lD 51 126) 120 true,oG 128 (cL 57 #[(xT 123),(xT 127)] #[3,51]) 120 true,oG 129 (.unOp .not 4 (xT 128)) 120 true,oG 130 (.pick (xT 120) (xT 129) (nB false)) 118 false,oO 131 (.pick (xT 118) (nB true) (xT 130))] [1,2,5,131] (cD 131 (sR [oO 4 (.assign (nB false))] [4] (.ret)) (.skip)))))))) (.keep [1,2,5] (.reg [mO 83 5,oO 84 (.binOp .add 3 (xT 83) (nI 1) 3),aO 5 84] [1,2,5])))) 
def c_centoref07_Right : CC := sR [oN 2 (.box 25 (xT 0)) [0],oO 4 (.assign (nB false))] [1,2] (.seq (sR [fO 8 25 2 0,lO 9 3 8,oO 10 (.binOp .eql 3 (xT 9) (nI 0) 3)] [1,2,10] (cD 10 (sR [fO 11 25 2 1,lO 12 22 11,oO 13 (bL 12 22),oO 14 (.binOp .eql 3 (xT 13) (nI 0) 3),mO 15 14,oG 16 (fA 25 2 2) 15 true,oG 17 (lD 23 16) 15 true,oG 18 (bL 17 23) 15 true,oG 19 (.binOp .eql 3 (xT 18) (nI 0) 3) 15 true,oO 20 (.pick (xT 15) (xT 19) (nB false)),aO 4 20] [4] (.ret)) (.skip))) (.keep [1,2] (.seq (sR [fO 21 25 2 0,lO 22 3 21,oO 23 (.binOp .eql 3 (xT 22) (nI 10) 3)] [1,2,23] (cD 23 (sR [fO 24 25 2 1,lO 25 22 24,oO 26 (bL 25 22),oO 27 (.binOp .eql 3 (xT 26) (nI 1) 3),mO 28 27,oG 29 (fA 25 2 2) 28 true,oG 30 (lD 23 29) 28 true,oG 31 (bL 30 23) 28 true,oG 32 (.binOp .eql 3 (xT 31) (nI 0) 3) 28 true,oO 33 (.pick (xT 28) (xT 32) (nB false)),aO 4 33] [4] (.ret)) (.skip))) (.keep [1,2] (.seq (sR [fO 34 25 2 0,lO 35 3 34,oO 36 (.binOp .lss 3 (xT 35) (nI 0) 3),mO 37 36,oG 38 (fA 25 2 0) 37 false,oG 39 (lD 3 38) 37 false,oG 40 (.binOp .gtr 3 (xT 39) (nI 10) 3) 37 false,oO 41 (.pick (xT 37) (nB true) (xT 40)),mO 42 41,oG 43 (mV 1) 42 false,oG 44 (.binOp .eql 3 (xT 43) (nI 0) 3) 42 false,oO 45 (.pick (xT 42) (nB true) (xT 44)),mO 46 45,oG 47 (fA 25 2 1) 46 false,oG 48 (lD 22 47) 46 false,oG 49 (bL 48 22) 46 false,oG 50 (.binOp .geq 3 (xT 49) (nI 65536) 3) 46 false,oO 51 (.pick (xT 46) (nB true) (xT 50)),mO 52 51,oG 53 (fA 25 2 0) 52 false,oG 54 (lD 3 53) 52 false,oG 55 (.binOp .eql 3 (xT 54) (nI 1) 3) 52 false,oG 56 (mV 55) 52 false,oG 57 (fA 25 2 2) 56 true,oG 58 (lD 23 57) 56 true,oG 59 (bL 58 23) 56 true,oG 60 (.binOp .geq 3 (xT 59) (nI 65536) 3) 56 true,oG 61 (.pick (xT 56) (xT 60) (nB false)) 52 false,oO 62 (.pick (xT 52) (nB true) (xT 61)),mO 63 62,oG 64 (fA 25 2 2) 63 false,oG 65 (lD 23 64) 63 false,oG 66 (bL 65 23) 63 false,oG 67 (.binOp .geq 3 (xT 66) (nI 1048576) 3) 63 false,oO 68 (.pick (xT 63) (nB true) (xT 67))] [1,2,68] (cD 68 (sR [oO 4 (.assign (nB false))] [4] (.ret)) (.skip))) (.keep [1,2] (.seq (sR [fO 69 25 2 0,lO 70 3 69,oO 71 (.binOp .gtr 3 (xT 70) (nI 1) 3),mO 72 71,oG 73 (fA 25 2 1) 72 true,oG 74 (lD 22 73) 72 true,oG 75 (bL 74 22) 72 true,oG 76 (.binOp .gtr 3 (xT 75) (nI 0) 3) 72 true,oO 77 (.pick (xT 72) (xT 76) (nB false))] [1,2,77] (cD 77 (sR [oO 4 (.assign (nB false))] [4] (.ret)) (.skip))) (.keep [1,2] (.seq (sR [oO 5 (.assign (nI 0))] [1,2,5] (.block 0 (.loop l1_centoref07_Right))) (.keep [] (sR [oO 4 (.assign (nB true))] [4] (.ret))))))))))))
theorem t_centoref07_Right : Txt Tryz.prog 28 132 [(.tmp 4)] c_centoref07_Right := txt_of (code := Tryz.f28.body.getD .ret) mixed (by kernel_rfl) Tryz.func28 (by kernel_rfl) Tryz.ntmps28 (by kernel_rfl) (ls := lsOf c_centoref07_Right) (by kernel_rfl)
def l1_centoref07_Norm : CC := .seq (sR [mO 12 5,fO 13 25 1 2,lO 14 23 13,oO 15 (bL 14 23),oO 16 (bO .lss 3 12 15 3)] [1,2,3,4,5,16] (cD 16 (.skip) (.exit 0))) (.keep [1,2,3,4,5] (.seq (.block 1 (sR [fO 19 25 1 2,lO 20 23 19,mO 21 5,oO 22 (iA 23 20 21),lO 23 25 22,oO 24 (cL 32 #[(xT 23)] #[25]),oN 6 (.alloc 25) [2],oS (.store 25 (xT 6) (xT 24))] [1,2,3,4,5,6] (sR [mO 25 3,lO 26 25 6,oO 27 (.buildSlice 23 1 #[(0,(xT 26))]),oN 28 (bC .append #[(xT 25),(xT 27)] #[23,23]) [3],aO 3 28] [1,2,3,4,5,6] (sR [fO 29 25 6 0,lO 30 3 29,oO 31 (.binOp .neq 3 (xT 30) (nI 0) 3)] [1,2,3,4,5,31] (cD 31 (.reg [mO 32 5,oO 33 (.binOp .add 3 (xT 32) (nI 1) 3),aO 4 33] [1,2,3,4,5]) (.skip)))))) (.keep [1,2,3,4,5] (.reg [mO 17 5,oO 18 (.binOp .add 3 (xT 17) (nI 1) 3),aO 5 18] [1,2,3,4,5])))) 
def c_centoref07_Norm : CC := sR [oN 1 (.box 25 (xT 0)) [0],oN 2 (.alloc 25) [1]] [1,2] (.seq (sR [fO 8 25 1 0,lO 9 3 8,oO 10 (.binOp .eql 3 (xT 9) (nI 0) 3)] [1,2,10] (cD 10 (sR [oO 11 (.build 25 #[]),oS (.store 25 (xT 2) (xT 11))] [2] (.ret)) (.skip))) (.keep [1,2] (sR [oO 3 (.assign nS)] [1,2,3] (sR [oO 4 (.assign (nI 0))] [1,2,3,4] (.seq (sR [oO 5 (.assign (nI 0))] [1,2,3,4,5] (.block 0 (.loop l1_centoref07_Norm))) (.keep [1,2,3,4] (.seq (sR [fO 34 25 1 0,lO 35 3 34,oO 36 (.binOp .eql 3 (xT 35) (nI 1) 3)] [1,2,3,4,36] (cD 36 (sR [fO 37 25 1 1,lO 38 22 37,oO 39 (cL 64 #[(xT 38)] #[22]),mO 40 3,mO 41 4,oO 42 (.slice 23 (xT 40) none (some (xT 41)) none),oO 43 (.build 25 #[(0,(nI 1)),(1,(xT 39)),(2,(xT 42))]),oS (.store 25 (xT 2) (xT 43))] [2] (.ret)) (.skip))) (.keep [1,2,3] (sR [oO 7 (.assign nS)] [1,2,3,7] (sR [mO 44 7,fO 45 25 1 1,lO 46 22 45,oN 47 (bC .append #[(xT 44),(xT 46)] #[22,22]) [4],aO 7 47] [1,2,3,7] (sR [fO 48 25 1 0,lO 49 3 48,mO 50 7,mO 51 3,oO 52 (.build 25 #[(0,(xT 49)),(1,(xT 50)),(2,(xT 51))]),oS (.store 25 (xT 2) (xT 52))] [2] (.ret))))))))))))
theorem t_centoref07_Norm : Txt Tryz.prog 32 53 [(.cell 2 25)] c_centoref07_Norm := txt_of (code := Tryz.f32.body.getD .ret) mixed (by kernel_rfl) Tryz.func32 (by kernel_rfl) Tryz.ntmps32 (by kernel_rfl) (ls := lsOf c_centoref07_Norm) (by kernel_rfl)
def k1_centoref07_Frame : CC := sR [fO 30 25 1 2,lO 31 23 30,mO 32 6,oO 33 (iA 23 31 32),fO 34 25 33 2,lO 35 23 34,oO 36 (bL 35 23),mO 37 5,oO 38 (bO .gtr 3 36 37 3)] [1,4,5,6,38] (cD 38 (.reg [fO 39 25 1 2,lO 40 23 39,mO 41 6,oO 42 (iA 23 40 41),fO 43 25 42 2,lO 44 23 43,oO 45 (bL 44 23),aO 5 45] [1,4,5,6]) (.skip))
def l1_centoref07_Frame : CC := .seq (sR [mO 7 6,fO 8 25 1 2,lO 9 23 8,oO 10 (bL 9 23),oO 11 (bO .lss 3 7 10 3)] [1,4,5,6,11] (cD 11 (.skip) (.exit 0))) (.keep [1,4,5,6] (.seq (.block 1 (.seq (sR [fO 14 25 1 2,lO 15 23 14,mO 16 6,oO 17 (iA 23 15 16),fO 18 25 17 1,lO 19 22 18,oO 20 (bL 19 22),mO 21 4,oO 22 (bO .gtr 3 20 21 3)] [1,4,5,6,22] (cD 22 (.reg [fO 23 25 1 2,lO 24 23 23,mO 25 6,oO 26 (iA 23 24 25),fO 27 25 26 1,lO 28 22 27,oO 29 (bL 28 22),aO 4 29] [1,4,5,6]) (.skip))) (.keep [1,4,5,6] k1_centoref07_Frame))) (.keep [1,4,5,6] (.reg [mO 12 6,oO 13 (.binOp .add 3 (xT 12) (nI 1) 3),aO 6 13] [1,4,5,6])))) 
def c_centoref07_Frame : CC := sR [oN 1 (.box 25 (xT 0)) [0],oO 2 (.assign (nI 0)),oO 3 (.assign (nI 0))] [1] (sR [oO 4 (.assign (nI 0)),oO 5 (.assign (nI 0))] [1,4,5] (.seq (sR [oO 6 (.assign (nI 0))] [1,4,5,6] (.block 0 (.loop l1_centoref07_Frame))) (.keep [4,5] (sR [mO 46 4,mO 47 5,aO 2 46,aO 3 47] [2,3] (.ret)))))
theorem t_centoref07_Frame : Txt Tryz.prog 66 48 [(.tmp 2),(.tmp 3)] c_centoref07_Frame := txt_of (code := Tryz.f66.body.getD .ret) mixed (by kernel_rfl) Tryz.func66 (by kernel_rfl) Tryz.ntmps66 (by kernel_rfl) (ls := lsOf c_centoref07_Frame) (by kernel_rfl)
def l1_centoref07_Size : CC := .seq (sR [mO 61 7,fO 62 25 1 2,lO 63 23 62,mO 64 6,oO 65 (iA 23 63 64),fO 66 25 65 2,lO 67 23 66,oO 68 (bL 67 23),oO 69 (bO .lss 3 61 68 3)] [1,3,6,7,69] (cD 69 (.skip) (.exit 3))) (.keep [1,3,6,7] (.seq (.block 4 (.reg [mO 72 3,fO 73 25 1 2,lO 74 23 73,mO 75 6,oO 76 (iA 23 74 75),fO 77 25 76 2,lO 78 23 77,mO 79 7,oO 80 (iA 23 78 79),lO 81 25 80,oO 82 (cL 33 #[(xT 81)] #[25]),oO 83 (bO .add 3 72 82 3),aO 3 83] [1,3,6,7])) (.reg [mO 70 7,oO 71 (.binOp .add 3 (xT 70) (nI 1) 3),aO 7 71] [1,3,6,7])))
def l2_centoref07_Size : CC := .seq (sR [mO 54 6,fO 55 25 1 2,lO 56 23 55,oO 57 (bL 56 23),oO 58 (bO .lss 3 54 57 3)] [1,3,6,58] (cD 58 (.skip) (.exit 1))) (.keep [1,3,6] (.seq (.block 2 (sR [oO 7 (.assign (nI 0))] [1,3,6,7] (.block 3 (.loop l1_centoref07_Size)))) (.keep [1,3,6] (.reg [mO 59 6,oO 60 (.binOp .add 3 (xT 59) (nI 1) 3),aO 6 60] [1,3,6]))))
def k1_centoref07_Size : CC := cD 25 (sR [fO 32 25 1 0,lO 33 3 32,oO 34 (.binOp .sub 3 (xT 33) (nI 2) 3),fO 35 25 1 2,lO 36 23 35,oO 37 (bL 36 23),oO 38 (cL 65 #[(xT 34),(xT 37)] #[3,3]),aO 2 38] [2] (.ret)) (sR [oO 40 (.binOp .eql 3 (xT 10) (nI 9) 3),aO 39 40] [1,3,39] (cD 39 (sR [lO 42 25 1,oO 43 (cL 66 #[(xT 42)] #[25]),mO 41 43,xO 44 41 0,xO 45 41 1,aO 4 44,aO 5 45] [1,4,5] (sR [fO 46 25 1 2,lO 47 23 46,oO 48 (bL 47 23),mO 49 4,mO 50 5,oO 51 (bO .add 3 49 50 3),oO 52 (bO .mul 3 48 51 3),oO 53 (.binOp .add 3 (nI 1) (xT 52) 3),aO 3 53] [1,3] (.seq (sR [oO 6 (.assign (nI 0))] [1,3,6] (.block 1 (.loop l2_centoref07_Size))) (.keep [3] (sR [mO 84 3,aO 2 84] [2] (.ret)))))) (.skip)))
def l3_centoref07_Size : CC := .seq (sR [mO 85 8,fO 86 25 1 2,lO 87 23 86,oO 88 (bL 87 23),oO 89 (bO .lss 3 85 88 3)] [1,3,8,89] (cD 89 (.skip) (.exit 5))) (.keep [1,3,8] (.seq (.block 6 (.reg [mO 92 3,fO 93 25 1 2,lO 94 23 93,mO 95 8,oO 96 (iA 23 94 95),lO 97 25 96,oO 98 (cL 33 #[(xT 97)] #[25]),oO 99 (bO .add 3 92 98 3),aO 3 99] [1,3,8])) (.reg [mO 90 8,oO 91 (.binOp .add 3 (xT 90) (nI 1) 3),aO 8 91] [1,3,8])))
def k2_centoref07_Size : CC := .seq (sR [oO 8 (.assign (nI 0))] [1,3,8] (.block 5 (.loop l3_centoref07_Size))) (.keep [3] (sR [mO 100 3,aO 2 100] [2] (.ret))) 
def c_centoref07_Size : CC := sR [oN 1 (.box 25 (xT 0)) [0],oO 2 (.assign (nI 0))] [1] (sR [oO 3 (.assign (nI 0))] [1,3] (.seq (sR [fO 9 25 1 0,lO 10 3 9] [1,3,10] (.block 0 (sR [oO 12 (.binOp .eql 3 (xT 10) (nI 1) 3),aO 11 12] [1,3,10,11] (cD 11 (.reg [fO 13 25 1 1,lO 14 22 13,oO 15 (bL 14 22),fO 16 25 1 2,lO 17 23 16,oO 18 (bL 17 23),oO 19 (bO .add 3 15 18 3),aO 3 19] [1,3]) (sR [oO 21 (.binOp .eql 3 (xT 10) (nI 8) 3),aO 20 21] [1,3,10,20] (cD 20 (.reg [fO 22 25 1 2,lO 23 23 22,oO 24 (bL 23 23),aO 3 24] [1,3]) (.seq (sR [oO 26 (.binOp .eql 3 (xT 10) (nI 2) 3),aO 25 26] [1,3,10,25] (cD 25 (.skip) (sR [oO 27 (.binOp .eql 3 (xT 10) (nI 3) 3),aO 25 27] [1,3,10,25] (cD 25 (.skip) (sR [oO 28 (.binOp .eql 3 (xT 10) (nI 4) 3),aO 25 28] [1,3,10,25] (cD 25 (.skip) (sR [oO 29 (.binOp .eql 3 (xT 10) (nI 5) 3),aO 25 29] [1,3,10,25] (cD 25 (.skip) (sR [oO 30 (.binOp .eql 3 (xT 10) (nI 6) 3),aO 25 30] [1,3,10,25] (cD 25 (.skip) (.reg [oO 31 (.binOp .eql 3 (xT 10) (nI 7) 3),aO 25 31] [1,3,10,25]))))))))))) (.keep [1,3,10,25] k1_centoref07_Size)))))))) (.keep [1,3] k2_centoref07_Size)))
theorem t_centoref07_Size : Txt Tryz.prog 33 101 [(.tmp 2)] c_centoref07_Size := txt_of (code := Tryz.f33.body.getD .ret) mixed (by kernel_rfl) Tryz.func33 (by kernel_rfl) Tryz.ntmps33 (by kernel_rfl) (ls := lsOf c_centoref07_Size) (by kernel_rfl)
def l1_centoref07_Shallow : CC := .seq (sR [mO 20 7,fO 21 25 3 2,lO 22 23 21,oO 23 (bL 22 23),oO 24 (bO .lss 3 20 23 3),mO 25 24,oG 26 (mV 2) 25 true,oG 27 (.binOp .geq 3 (xT 26) (nI 0) 3) 25 true,oO 28 (.pick (xT 25) (xT 27) (nB false))] [1,2,3,7,28] (cD 28 (.skip) (.exit 0))) (.keep [1,2,3,7] (.seq (.block 1 (.reg [fO 31 25 3 2,lO 32 23 31,mO 33 7,oO 34 (iA 23 32 33),lO 35 25 34,mO 36 1,oO 37 (.binOp .sub 3 (xT 36) (nI 1) 3),mO 38 2,oO 39 (cL 27 #[(xT 35),(xT 37),(xT 38)] #[25,3,3]),aO 2 39] [1,2,3,7])) (.reg [mO 29 7,oO 30 (.binOp .add 3 (xT 29) (nI 1) 3),aO 7 30] [1,2,3,7]))) 
def c_centoref07_Shallow : CC := sR [oN 3 (.box 25 (xT 0)) [0],oO 6 (.assign (nI 0))] [1,2,3] (sR [mO 8 2,oO 9 (.binOp .sub 3 (xT 8) (nI 1) 3),fO 10 25 3 1,lO 11 22 10,oO 12 (bL 11 22),oO 13 (bO .sub 3 9 12 3),aO 2 13] [1,2,3] (.seq (sR [mO 14 1,oO 15 (.binOp .eql 3 (xT 14) (nI 0) 3),mO 16 15,oG 17 (mV 2) 16 false,oG 18 (.binOp .lss 3 (xT 17) (nI 0) 3) 16 false,oO 19 (.pick (xT 16) (nB true) (xT 18))] [1,2,3,19] (cD 19 (sR [oO 6 (.assign (.const (.int .i64 (-1))))] [6] (.ret)) (.skip))) (.keep [1,2,3] (.seq (sR [oO 7 (.assign (nI 0))] [1,2,3,7] (.block 0 (.loop l1_centoref07_Shallow))) (.keep [2] (sR [mO 40 2,aO 6 40] [6] (.ret)))))))
theorem t_centoref07_Shallow : Txt Tryz.prog 27 41 [(.tmp 6)] c_centoref07_Shallow := txt_of (code := Tryz.f27.body.getD .ret) mixed (by kernel_rfl) Tryz.func27 (by kernel_rfl) Tryz.ntmps27 (by kernel_rfl) (ls := lsOf c_centoref07_Shallow) (by kernel_rfl)
def l1_tree_Frame : CC := sR [oO 12 (bO .lss 3 11 10 3)] [4,5,9,10,11,12] (.seq (cD 12 (.skip) (.exit 0)) (.keep [4,5,9,10,11] (.seq (.block 1 (sR [oO 13 (iA 23 9 11),lO 14 25 13,oN 7 (.alloc 25) [1],oS (.store 25 (xT 7) (xT 14))] [4,5,7,9,10,11] (.reg [mO 15 4,fO 16 25 7 1,lO 17 22 16,oO 18 (bL 17 22),oO 19 (bC .max #[(xT 15),(xT 18)] #[3,3]),mO 20 5,fO 21 25 7 2,lO 22 23 21,oO 23 (bL 22 23),oO 24 (bC .max #[(xT 20),(xT 23)] #[3,3]),aO 4 19,aO 5 24] [4,5,9,10,11]))) (.reg [oO 25 (.binOp .add 3 (xT 11) (nI 1) 3),mO 11 25] [4,5,9,10,11])))) 
def c_tree_Frame : CC := sR [oN 1 (.box 25 (xT 0)) [0],oO 2 (.assign (nI 0)),oO 3 (.assign (nI 0))] [1] (sR [oO 4 (.assign (nI 0)),oO 5 (.assign (nI 0))] [1,4,5] (.seq (sR [fO 8 25 1 2,lO 9 23 8,oO 10 (bL 9 23),oO 11 (.move (nI 0))] [4,5,9,10,11] (.block 0 (.loop l1_tree_Frame))) (.keep [4,5] (sR [mO 26 4,mO 27 5,aO 2 26,aO 3 27] [2,3] (.ret)))))
theorem t_tree_Frame : Txt Tryz.prog 183 28 [(.tmp 2),(.tmp 3)] c_tree_Frame := txt_of (code := Tryz.f183.body.getD .ret) mixed (by kernel_rfl) Tryz.func183 (by kernel_rfl) Tryz.ntmps183 (by kernel_rfl) (ls := lsOf c_tree_Frame) (by kernel_rfl)
def l1_tree_Norm : CC := sR [oO 20 (bO .lss 3 19 18 3)] [1,2,3,17,18,19,20] (.seq (cD 20 (.skip) (.exit 0)) (.keep [1,2,3,17,18,19] (.seq (.block 1 (sR [oO 21 (iA 23 17 19),lO 22 25 21,oN 5 (.alloc 25) [3],oS (.store 25 (xT 5) (xT 22))] [1,2,3,5,17,18,19] (.reg [fO 23 25 3 2,⟨some 24,(lD 23 23),none,[],1,[],true⟩,lO 25 25 5,⟨some 26,(cL 31 #[(xT 25)] #[25]),none,[],3,[1],false⟩,⟨some 27,(.buildSlice 23 1 #[(0,(xT 26))]),none,[],4,[1],false⟩,oN 28 (bC .append #[(xT 24),(xT 27)] #[23,23]) [4],fO 29 25 3 2,oS (.store 23 (xT 29) (xT 28))] [1,2,3,17,18,19]))) (.reg [oO 30 (.binOp .add 3 (xT 19) (nI 1) 3),mO 19 30] [1,2,3,17,18,19]))))
def l2_tree_Norm : CC := .seq (sR [fO 34 25 3 1,lO 35 22 34,oO 36 (bL 35 22),oO 37 (.binOp .gtr 3 (xT 36) (nI 0) 3),mO 38 37,oG 39 (fA 25 3 1) 38 true,oG 40 (lD 22 39) 38 true,oG 41 (fA 25 3 1) 38 true,oG 42 (lD 22 41) 38 true,oG 43 (bL 42 22) 38 true,oG 44 (.binOp .sub 3 (xT 43) (nI 1) 3) 38 true,oG 45 (iA 22 40 44) 38 true,oG 46 (lD 51 45) 38 true,oG 47 (.binOp .eql 51 (xT 46) (.const (.int .u64 0)) 51) 38 true,oO 48 (.pick (xT 38) (xT 47) (nB false))] [2,3,48] (cD 48 (.skip) (.exit 2))) (.keep [2,3] (.block 3 (.reg [fO 49 25 3 1,lO 50 22 49,fO 51 25 3 1,lO 52 22 51,oO 53 (bL 52 22),oO 54 (.binOp .sub 3 (xT 53) (nI 1) 3),oO 55 (.slice 22 (xT 50) none (some (xT 54)) none),fO 56 25 3 1,oS (.store 22 (xT 56) (xT 55))] [2,3])))
def l3_tree_Norm : CC := .seq (sR [fO 57 25 3 2,lO 58 23 57,oO 59 (bL 58 23),oO 60 (.binOp .gtr 3 (xT 59) (nI 0) 3),mO 61 60,oG 62 (fA 25 3 2) 61 true,oG 63 (lD 23 62) 61 true,oG 64 (fA 25 3 2) 61 true,oG 65 (lD 23 64) 61 true,oG 66 (bL 65 23) 61 true,oG 67 (.binOp .sub 3 (xT 66) (nI 1) 3) 61 true,oG 68 (iA 23 63 67) 61 true,oG 69 (fA 25 68 0) 61 true,oG 70 (lD 3 69) 61 true,oG 71 (.binOp .eql 3 (xT 70) (nI 0) 3) 61 true,oO 72 (.pick (xT 61) (xT 71) (nB false))] [2,3,72] (cD 72 (.skip) (.exit 4))) (.keep [2,3] (.block 5 (.reg [fO 73 25 3 2,lO 74 23 73,fO 75 25 3 2,lO 76 23 75,oO 77 (bL 76 23),oO 78 (.binOp .sub 3 (xT 77) (nI 1) 3),oO 79 (.slice 23 (xT 74) none (some (xT 78)) none),fO 80 25 3 2,oS (.store 23 (xT 80) (xT 79))] [2,3]))) 
def c_tree_Norm : CC := sR [oN 1 (.box 25 (xT 0)) [0],oN 2 (.alloc 25) [1]] [1,2] (.seq (sR [fO 6 25 1 0,lO 7 3 6,oO 8 (.binOp .eql 3 (xT 7) (nI 0) 3)] [1,2,8] (cD 8 (sR [oO 9 (.build 25 #[]),oS (.store 25 (xT 2) (xT 9))] [2] (.ret)) (.skip))) (.keep [1,2] (sR [fO 10 25 1 0,⟨some 11,(lD 3 10),none,[],1,[],true⟩,fO 12 25 1 1,⟨some 13,(lD 22 12),none,[],3,[],true⟩,⟨some 14,(cL 63 #[(xT 13)] #[22]),none,[],4,[1],true⟩,oO 15 (.build 25 #[(0,(xT 11)),(1,(xT 14))]),⟨some 3,(.alloc 25),none,[2],6,[1,3,4],false⟩,oS (.store 25 (xT 3) (xT 15))] [1,2,3] (.seq (sR [fO 16 25 1 2,lO 17 23 16,oO 18 (bL 17 23),oO 19 (.move (nI 0))] [1,2,3,17,18,19] (.block 0 (.loop l1_tree_Norm))) (.keep [1,2,3] (.seq (sR [fO 31 25 1 0,lO 32 3 31,oO 33 (.binOp .eql 3 (xT 32) (nI 1) 3)] [2,3,33] (cD 33 (.seq (.block 2 (.loop l2_tree_Norm)) (.keep [2,3] (.block 4 (.loop l3_tree_Norm)))) (.skip))) (.keep [2,3] (sR [lO 81 25 3,oS (.store 25 (xT 2) (xT 81))] [2] (.ret)))))))))
theorem t_tree_Norm : Txt Tryz.prog 31 82 [(.cell 2 25)] c_tree_Norm := txt_of (code := Tryz.f31.body.getD .ret) mixed (by kernel_rfl) Tryz.func31 (by kernel_rfl) Tryz.ntmps31 (by kernel_rfl) (ls := lsOf c_tree_Norm) (by kernel_rfl)
def l1_tree_size : CC := sR [oO 60 (bO .lss 3 59 58 3)] [3,57,58,59,60] (.seq (cD 60 (.skip) (.exit 1)) (.keep [3,57,58,59] (.seq (.block 2 (sR [oO 61 (iA 23 57 59),lO 62 25 61,oN 7 (.alloc 25) [1],oS (.store 25 (xT 7) (xT 62))] [3,7,57,58,59] (.reg [mO 63 3,lO 64 25 7,⟨some 65,(cL 124 #[(xT 64)] #[25]),none,[],2,[],true⟩,fO 66 25 7 1,⟨some 67,(lD 22 66),none,[],4,[2],false⟩,oO 68 (bL 67 22),oO 69 (bO .sub 3 65 68 3),fO 70 25 7 2,⟨some 71,(lD 23 70),none,[],8,[2],false⟩,oO 72 (bL 71 23),oO 73 (bO .sub 3 69 72 3),oO 74 (bO .add 3 63 73 3),aO 3 74] [3,57,58,59]))) (.reg [oO 75 (.binOp .add 3 (xT 59) (nI 1) 3),mO 59 75] [3,57,58,59]))))
def l2_tree_size : CC := sR [oO 81 (bO .lss 3 80 79 3)] [3,78,79,80,81] (.seq (cD 81 (.skip) (.exit 3)) (.keep [3,78,79,80] (.seq (.block 4 (sR [oO 82 (iA 23 78 80),lO 83 25 82,oN 9 (.alloc 25) [2],oS (.store 25 (xT 9) (xT 83))] [3,9,78,79,80] (.reg [mO 84 3,lO 85 25 9,oO 86 (cL 124 #[(xT 85)] #[25]),oO 87 (bO .add 3 84 86 3),aO 3 87] [3,78,79,80]))) (.reg [oO 88 (.binOp .add 3 (xT 80) (nI 1) 3),mO 80 88] [3,78,79,80]))))
def k1_tree_size : CC := .seq (sR [fO 77 25 1 2,lO 78 23 77,oO 79 (bL 78 23),oO 80 (.move (nI 0))] [3,78,79,80] (.block 3 (.loop l2_tree_size))) (.keep [3] (sR [mO 89 3,aO 2 89] [2] (.ret))) 
def c_tree_size : CC := sR [oN 1 (.box 25 (xT 0)) [0],oO 2 (.assign (nI 0))] [1] (sR [oO 3 (.assign (nI 0))] [1,3] (.seq (.block 0 (sR [fO 11 25 1 0,lO 12 3 11,oO 13 (.binOp .eql 3 (xT 12) (nI 1) 3),aO 10 13] [1,3,10] (cD 10 (.reg [fO 14 25 1 1,lO 15 22 14,oO 16 (bL 15 22),fO 17 25 1 2,lO 18 23 17,oO 19 (bL 18 23),oO 20 (bO .add 3 16 19 3),aO 3 20] [1,3]) (sR [fO 22 25 1 0,lO 23 3 22,oO 24 (.binOp .eql 3 (xT 23) (nI 8) 3),aO 21 24] [1,3,21] (cD 21 (.reg [fO 25 25 1 2,lO 26 23 25,oO 27 (bL 26 23),aO 3 27] [1,3]) (sR [fO 29 25 1 0,lO 30 3 29,oO 31 (cL 140 #[(xT 30)] #[3]),aO 28 31] [1,3,28] (cD 28 (sR [fO 32 25 1 0,lO 33 3 32,oO 34 (.binOp .sub 3 (xT 33) (nI 2) 3),fO 35 25 1 2,lO 36 23 35,oO 37 (bL 36 23),oO 38 (cL 182 #[(xT 34),(xT 37)] #[3,3]),aO 2 38] [2] (.ret)) (sR [fO 40 25 1 0,lO 41 3 40,oO 42 (.binOp .eql 3 (xT 41) (nI 9) 3),aO 39 42] [1,3,39] (cD 39 (sR [lO 44 25 1,oO 45 (cL 183 #[(xT 44)] #[25]),mO 43 45,xO 46 43 0,xO 47 43 1,aO 4 46,aO 5 47] [1,4,5] (sR [fO 48 25 1 2,lO 49 23 48,oO 50 (bL 49 23),mO 51 4,mO 52 5,oO 53 (bO .add 3 51 52 3),oO 54 (bO .mul 3 50 53 3),oO 55 (.binOp .add 3 (nI 1) (xT 54) 3),aO 3 55] [1,3] (.seq (sR [fO 56 25 1 2,lO 57 23 56,oO 58 (bL 57 23),oO 59 (.move (nI 0))] [3,57,58,59] (.block 1 (.loop l1_tree_size))) (.keep [3] (sR [mO 76 3,aO 2 76] [2] (.ret)))))) (.skip)))))))))) (.keep [1,3] k1_tree_size)))
theorem t_tree_size : Txt Tryz.prog 124 90 [(.tmp 2)] c_tree_size := txt_of (code := Tryz.f124.body.getD .ret) mixed (by kernel_rfl) Tryz.func124 (by kernel_rfl) Tryz.ntmps124 (by kernel_rfl) (ls := lsOf c_tree_size) (by kernel_rfl)
def c_tree_Size : CC := sR [oN 1 (.box 25 (xT 0)) [0],oO 2 (.assign (nI 0))] [1] (sR [lO 3 25 1,oO 4 (cL 31 #[(xT 3)] #[25]),oO 5 (cL 124 #[(xT 4)] #[25]),aO 2 5] [2] (.ret))
theorem t_tree_Size : Txt Tryz.prog 75 6 [(.tmp 2)] c_tree_Size := txt_of (code := Tryz.f75.body.getD .ret) mixed (by kernel_rfl) Tryz.func75 (by kernel_rfl) Tryz.ntmps75 (by kernel_rfl) (ls := lsOf c_tree_Size) (by kernel_rfl)
@[simp] theorem und_47 : Tryz.prog.underlying 47 = some (.int .i64) := by kernel_rfl
@[simp] theorem szT_43 : szT Tryz.prog 43 = some 4 := by kernel_rfl
@[simp] theorem szT_50 : szT Tryz.prog 50 = some 1 := by kernel_rfl
@[simp] theorem szT_53 : szT Tryz.prog 53 = some 8 := by kernel_rfl
@[simp] theorem szT_75 : szT Tryz.prog 75 = some 7 := by kernel_rfl
@[simp] theorem aggT_43 : aggT Tryz.prog 43 = some true := by kernel_rfl
@[simp] theorem aggT_50 : aggT Tryz.prog 50 = some false := by kernel_rfl
@[simp] theorem aggT_53 : aggT Tryz.prog 53 = some true := by kernel_rfl
@[simp] theorem aggT_75 : aggT Tryz.prog 75 = some true := by kernel_rfl
@[simp] theorem zeroT_43 : zeroT Tryz.prog 43 = some (Value.agg #[Value.int IntKind.i64 0,Value.int IntKind.i64 0,Value.int IntKind.i64 0,Value.int IntKind.i64 0]) := by kernel_rfl
@[simp] theorem zeroT_53 : zeroT Tryz.prog 53 = some (Value.agg #[Value.pointer none,Value.int IntKind.i64 0,Value.int IntKind.i64 0,Value.int IntKind.i64 0,Value.int IntKind.i64 0,Value.int IntKind.i64 0,Value.int IntKind.i64 0,Value.int IntKind.u64 0]) := by kernel_rfl
@[simp] theorem zeroT_75 : zeroT Tryz.prog 75 = some (Value.agg #[Value.int IntKind.i64 0,Value.int IntKind.i64 0,Value.int IntKind.i64 0,Value.int IntKind.i64 0,Value.int IntKind.i64 0,Value.int IntKind.i64 0,Value.int IntKind.u64 0]) := by kernel_rfl
@[simp] theorem fieldOffT_43_0 : fieldOffT Tryz.prog 43 0 = some 0 := by kernel_rfl
@[simp] theorem fieldOffT_43_1 : fieldOffT Tryz.prog 43 1 = some 1 := by kernel_rfl
@[simp] theorem fieldOffT_43_2 : fieldOffT Tryz.prog 43 2 = some 2 := by kernel_rfl
@[simp] theorem fieldOffT_43_3 : fieldOffT Tryz.prog 43 3 = some 3 := by kernel_rfl
@[simp] theorem fieldOffT_53_0 : fieldOffT Tryz.prog 53 0 = some 0 := by kernel_rfl
@[simp] theorem fieldOffT_53_1 : fieldOffT Tryz.prog 53 1 = some 1 := by kernel_rfl
@[simp] theorem fieldOffT_53_2 : fieldOffT Tryz.prog 53 2 = some 2 := by kernel_rfl
@[simp] theorem fieldOffT_53_3 : fieldOffT Tryz.prog 53 3 = some 3 := by kernel_rfl
@[simp] theorem fieldOffT_53_4 : fieldOffT Tryz.prog 53 4 = some 4 := by kernel_rfl
@[simp] theorem fieldOffT_53_5 : fieldOffT Tryz.prog 53 5 = some 5 := by kernel_rfl
@[simp] theorem fieldOffT_53_6 : fieldOffT Tryz.prog 53 6 = some 6 := by kernel_rfl
@[simp] theorem fieldOffT_53_7 : fieldOffT Tryz.prog 53 7 = some 7 := by kernel_rfl
@[simp] theorem fieldOffT_75_0 : fieldOffT Tryz.prog 75 0 = some 0 := by kernel_rfl
@[simp] theorem fieldOffT_75_1 : fieldOffT Tryz.prog 75 1 = some 1 := by kernel_rfl
@[simp] theorem fieldOffT_75_2 : fieldOffT Tryz.prog 75 2 = some 2 := by kernel_rfl
@[simp] theorem fieldOffT_75_3 : fieldOffT Tryz.prog 75 3 = some 3 := by kernel_rfl
@[simp] theorem fieldOffT_75_4 : fieldOffT Tryz.prog 75 4 = some 4 := by kernel_rfl
@[simp] theorem fieldOffT_75_5 : fieldOffT Tryz.prog 75 5 = some 5 := by kernel_rfl
@[simp] theorem fieldOffT_75_6 : fieldOffT Tryz.prog 75 6 = some 6 := by kernel_rfl
@[simp] theorem buildA_43 (ps : List (Nat × A)) : buildA Tryz.prog 43 ps = (fillA (fun i => ([(0,1),(1,1),(2,1),(3,1)] : List (Nat × Nat))[i]?) [A.v (Value.int IntKind.i64 0),A.v (Value.int IntKind.i64 0),A.v (Value.int IntKind.i64 0),A.v (Value.int IntKind.i64 0)] ps).map A.agg := by kernel_rfl
@[simp] theorem buildA_53 (ps : List (Nat × A)) : buildA Tryz.prog 53 ps = (fillA (fun i => ([(0,1),(1,1),(2,1),(3,1),(4,1),(5,1),(6,1),(7,1)] : List (Nat × Nat))[i]?) [A.v (Value.pointer none),A.v (Value.int IntKind.i64 0),A.v (Value.int IntKind.i64 0),A.v (Value.int IntKind.i64 0),A.v (Value.int IntKind.i64 0),A.v (Value.int IntKind.i64 0),A.v (Value.int IntKind.i64 0),A.v (Value.int IntKind.u64 0)] ps).map A.agg := by kernel_rfl
@[simp] theorem buildA_75 (ps : List (Nat × A)) : buildA Tryz.prog 75 ps = (fillA (fun i => ([(0,1),(1,1),(2,1),(3,1),(4,1),(5,1),(6,1)] : List (Nat × Nat))[i]?) [A.v (Value.int IntKind.i64 0),A.v (Value.int IntKind.i64 0),A.v (Value.int IntKind.i64 0),A.v (Value.int IntKind.i64 0),A.v (Value.int IntKind.i64 0),A.v (Value.int IntKind.i64 0),A.v (Value.int IntKind.u64 0)] ps).map A.agg := by kernel_rfl
@[simp] theorem fieldOffT_316_0 : fieldOffT Tryz.prog 316 0 = some 0 := by kernel_rfl
@[simp] theorem buildA_316 (ps : List (Nat × A)) : buildA Tryz.prog 316 ps = (fillA (fun i => ([(0,1)] : List (Nat × Nat))[i]?) [A.v (Value.int IntKind.u64 0)] ps).map A.agg := by kernel_rfl
@[simp] theorem und_164 : Tryz.prog.underlying 164 = some (.slice 3) := by kernel_rfl
@[simp] theorem und_236 : Tryz.prog.underlying 236 = some (.pointer 276) := by kernel_rfl
@[simp] theorem und_274 : Tryz.prog.underlying 274 = some (.slice 302) := by kernel_rfl
@[simp] theorem szT_164 : szT Tryz.prog 164 = some 1 := by kernel_rfl
@[simp] theorem szT_274 : szT Tryz.prog 274 = some 1 := by kernel_rfl
@[simp] theorem szT_302 : szT Tryz.prog 302 = some 9 := by kernel_rfl
@[simp] theorem aggT_164 : aggT Tryz.prog 164 = some false := by kernel_rfl
@[simp] theorem aggT_274 : aggT Tryz.prog 274 = some false := by kernel_rfl
@[simp] theorem aggT_302 : aggT Tryz.prog 302 = some true := by kernel_rfl
@[simp] theorem zeroT_3 : zeroT Tryz.prog 3 = some (Value.int IntKind.i64 0) := by kernel_rfl
@[simp] theorem zeroT_302 : zeroT Tryz.prog 302 = some (Value.agg #[Value.int IntKind.u64 0,Value.pointer none,Value.int IntKind.i64 0,Value.int IntKind.i64 0,Value.int IntKind.i64 0,Value.int IntKind.i64 0,Value.int IntKind.i64 0,Value.int IntKind.i64 0,Value.int IntKind.u64 0]) := by kernel_rfl
@[simp] theorem bytesT_3 : bytesT Tryz.prog 3 = some 8 := by kernel_rfl
@[simp] theorem bytesT_302 : bytesT Tryz.prog 302 = some 72 := by kernel_rfl
@[simp] theorem fieldOffT_276_0 : fieldOffT Tryz.prog 276 0 = some 0 := by kernel_rfl
@[simp] theorem fieldOffT_276_1 : fieldOffT Tryz.prog 276 1 = some 1 := by kernel_rfl
@[simp] theorem fieldOffT_302_0 : fieldOffT Tryz.prog 302 0 = some 0 := by kernel_rfl
@[simp] theorem fieldOffT_302_1 : fieldOffT Tryz.prog 302 1 = some 1 := by kernel_rfl
@[simp] theorem buildA_276 (ps : List (Nat × A)) : buildA Tryz.prog 276 ps = (fillA (fun i => ([(0,1),(1,1)] : List (Nat × Nat))[i]?) [A.sl true [],A.sl true []] ps).map A.agg := by kernel_rfl
@[simp] theorem buildA_302 (ps : List (Nat × A)) : buildA Tryz.prog 302 ps = (fillA (fun i => ([(0,1),(1,8)] : List (Nat × Nat))[i]?) [A.v (Value.int IntKind.u64 0),A.v (Value.pointer none),A.v (Value.int IntKind.i64 0),A.v (Value.int IntKind.i64 0),A.v (Value.int IntKind.i64 0),A.v (Value.int IntKind.i64 0),A.v (Value.int IntKind.i64 0),A.v (Value.int IntKind.i64 0),A.v (Value.int IntKind.u64 0)] ps).map A.agg := by kernel_rfl
def k1_centoref12_pointer : CC := sR [mO 18 9,oO 19 (.binOp .mul 3 (nI 4) (xT 18) 3),mO 20 2,oO 21 (bO .add 3 19 20 3),oO 22 (.convert 3 51 (xT 21)),mO 23 3,oO 24 (.binOp .mul 51 (xT 23) (.const (.int .u64 4294967296)) 51),oO 25 (bO .add 51 22 24 51),aO 8 25] [8] (.ret) 
def c_centoref12_pointer : CC := sR [oO 8 (.assign (.const (.int .u64 0)))] [0,1,2,3] (sR [mO 10 1,mO 11 0,oO 12 (bO .sub 3 10 11 3),oO 13 (.binOp .sub 3 (xT 12) (nI 1) 3),aO 9 13] [2,3,9] (.seq (sR [mO 14 9,oO 15 (.binOp .lss 3 (xT 14) (nI 0) 3)] [2,3,9,15] (cD 15 (.reg [mO 16 9,oO 17 (.binOp .add 3 (xT 16) (nI 1073741824) 3),aO 9 17] [2,3,9]) (.skip))) (.keep [2,3,9] k1_centoref12_pointer)))
theorem t_centoref12_pointer : Txt Tryz.prog 67 26 [(.tmp 8)] c_centoref12_pointer := txt_of (code := Tryz.f67.body.getD .ret) mixed (by kernel_rfl) Tryz.func67 (by kernel_rfl) Tryz.ntmps67 (by kernel_rfl) (ls := lsOf c_centoref12_pointer) (by kernel_rfl)
def l1_centoref12_atoms : CC := .seq (sR [mO 5 4,fO 6 25 1 2,lO 7 23 6,oO 8 (bL 7 23),oO 9 (bO .lss 3 5 8 3)] [1,3,4,9] (cD 9 (.skip) (.exit 0))) (.keep [1,3,4] (.seq (.block 1 (.reg [mO 12 3,fO 13 25 1 2,lO 14 23 13,mO 15 4,oO 16 (iA 23 14 15),fO 17 25 16 1,lO 18 22 17,oO 19 (.indexAddr 22 (xT 18) (nI 0)),lO 20 51 19,oO 21 (.buildSlice 22 1 #[(0,(xT 20))]),oN 22 (bC .append #[(xT 12),(xT 21)] #[22,22]) [1],aO 3 22] [1,3,4])) (.reg [mO 10 4,oO 11 (.binOp .add 3 (xT 10) (nI 1) 3),aO 4 11] [1,3,4]))) 
def c_centoref12_atoms : CC := sR [oN 1 (.box 25 (xT 0)) [0],oO 2 (.assign nS)] [1] (sR [oO 3 (.assign nS)] [1,3] (.seq (sR [oO 4 (.assign (nI 0))] [1,3,4] (.block 0 (.loop l1_centoref12_atoms))) (.keep [3] (sR [mO 23 3,aO 2 23] [2] (.ret)))))
theorem t_centoref12_atoms : Txt Tryz.prog 70 24 [(.tmp 2)] c_centoref12_atoms := txt_of (code := Tryz.f70.body.getD .ret) mixed (by kernel_rfl) Tryz.func70 (by kernel_rfl) Tryz.ntmps70 (by kernel_rfl) (ls := lsOf c_centoref12_atoms) (by kernel_rfl)
def l1_centoref12_add : CC := .seq (sR [mO 6 5,mO 7 1,oO 8 (bO .lss 3 6 7 3)] [0,1,5,8] (cD 8 (.skip) (.exit 0))) (.keep [0,1,5] (.seq (.block 1 (.reg [mO 11 0,oO 12 (.buildSlice 22 1 #[(0,(.const (.int .u64 0)))]),oN 13 (bC .append #[(xT 11),(xT 12)] #[22,22]) [1],aO 0 13] [0,1,5])) (.reg [mO 9 5,oO 10 (.binOp .add 3 (xT 9) (nI 1) 3),aO 5 10] [0,1,5]))) 
def c_centoref12_add : CC := sR [oO 4 (.assign nS)] [0,1] (.seq (sR [oO 5 (.assign (nI 0))] [0,1,5] (.block 0 (.loop l1_centoref12_add))) (.keep [0] (sR [mO 14 0,aO 4 14] [4] (.ret))))
theorem t_centoref12_add : Txt Tryz.prog 68 15 [(.tmp 4)] c_centoref12_add := txt_of (code := Tryz.f68.body.getD .ret) mixed (by kernel_rfl) Tryz.func68 (by kernel_rfl) Tryz.ntmps68 (by kernel_rfl) (ls := lsOf c_centoref12_add) (by kernel_rfl)
def l1_centoref12_Lay : CC := .seq (sR [mO 61 8,fO 62 25 5 2,lO 63 23 62,oO 64 (bL 63 23),oO 65 (bO .lss 3 61 64 3)] [0,5,7,8,65] (cD 65 (.skip) (.exit 1))) (.keep [0,5,7,8] (.seq (.block 2 (.reg [mO 68 0,mO 69 7,fO 70 25 5 1,lO 71 22 70,oO 72 (bL 71 22),oO 73 (bO .add 3 69 72 3),mO 74 8,oO 75 (bO .add 3 73 74 3),fO 76 25 5 2,lO 77 23 76,mO 78 8,oO 79 (iA 23 77 78),lO 80 25 79,oO 81 (cL 34 #[(xT 68),(xT 75),(xT 80)] #[22,3,25]),aO 0 81] [0,5,7,8])) (.reg [mO 66 8,oO 67 (.binOp .add 3 (xT 66) (nI 1) 3),aO 8 67] [0,5,7,8])))
def k1_centoref12_Lay : CC := sR [mO 36 0,mO 37 1,mO 38 1,mO 39 7,fO 40 25 5 1,lO 41 22 40,oO 42 (bL 41 22),oO 43 (.convert 3 51 (xT 42)),fO 44 25 5 2,lO 45 23 44,oO 46 (bL 45 23),oO 47 (.convert 3 51 (xT 46)),oO 48 (.binOp .mul 51 (.const (.int .u64 65536)) (xT 47) 51),oO 49 (bO .add 51 43 48 51),oO 50 (cL 67 #[(xT 38),(xT 39),(nI 0),(xT 49)] #[3,3,3,51]),oO 51 (iA 22 36 37),oS (.store 51 (xT 51) (xT 50))] [0,5,7] (sR [mO 52 0,fO 53 25 5 1,lO 54 22 53,oN 55 (bC .append #[(xT 52),(xT 54)] #[22,22]) [2],aO 0 55] [0,5,7] (sR [mO 56 0,fO 57 25 5 2,lO 58 23 57,oO 59 (bL 58 23),oO 60 (cL 68 #[(xT 56),(xT 59)] #[22,3]),aO 0 60] [0,5,7] (.seq (sR [oO 8 (.assign (nI 0))] [0,5,7,8] (.block 1 (.loop l1_centoref12_Lay))) (.keep [0] (sR [mO 82 0,aO 6 82] [6] (.ret))))))
def l2_centoref12_Lay : CC := .seq (sR [mO 102 9,fO 103 25 5 2,lO 104 23 103,oO 105 (bL 104 23),oO 106 (bO .lss 3 102 105 3)] [0,5,7,9,106] (cD 106 (.skip) (.exit 3))) (.keep [0,5,7,9] (.seq (.block 4 (.reg [mO 109 0,mO 110 7,mO 111 9,oO 112 (bO .add 3 110 111 3),fO 113 25 5 2,lO 114 23 113,mO 115 9,oO 116 (iA 23 114 115),lO 117 25 116,oO 118 (cL 34 #[(xT 109),(xT 112),(xT 117)] #[22,3,25]),aO 0 118] [0,5,7,9])) (.reg [mO 107 9,oO 108 (.binOp .add 3 (xT 107) (nI 1) 3),aO 9 108] [0,5,7,9])))
def l3_centoref12_Lay : CC := .seq (sR [mO 158 13,mO 159 12,oO 160 (bO .lss 3 158 159 3)] [0,5,7,10,11,12,13,160] (cD 160 (.skip) (.exit 5))) (.keep [0,5,7,10,11,12,13] (.seq (.block 6 (sR [mO 163 0,fO 164 25 5 2,lO 165 23 164,mO 166 13,oO 167 (iA 23 165 166),fO 168 25 167 1,lO 169 22 168,oN 170 (bC .append #[(xT 163),(xT 169)] #[22,22]) [4],aO 0 170] [0,5,7,10,11,12,13] (.reg [mO 171 0,mO 172 10,mO 173 11,oO 174 (bO .add 3 172 173 3),fO 175 25 5 2,lO 176 23 175,mO 177 13,oO 178 (iA 23 176 177),fO 179 25 178 1,lO 180 22 179,oO 181 (bL 180 22),oO 182 (bO .sub 3 174 181 3),oO 183 (cL 68 #[(xT 171),(xT 182)] #[22,3]),aO 0 183] [0,5,7,10,11,12,13]))) (.reg [mO 161 13,oO 162 (.binOp .add 3 (xT 161) (nI 1) 3),aO 13 162] [0,5,7,10,11,12,13])))
def l4_centoref12_Lay : CC := .seq (sR [mO 189 15,fO 190 25 5 2,lO 191 23 190,mO 192 14,oO 193 (iA 23 191 192),fO 194 25 193 2,lO 195 23 194,oO 196 (bL 195 23),oO 197 (bO .lss 3 189 196 3)] [0,5,7,10,11,12,14,15,197] (cD 197 (.skip) (.exit 9))) (.keep [0,5,7,10,11,12,14,15] (.seq (.block 10 (.reg [mO 200 0,mO 201 7,oO 202 (.binOp .add 3 (xT 201) (nI 1) 3),mO 203 14,mO 204 10,mO 205 11,oO 206 (bO .add 3 204 205 3),oO 207 (bO .mul 3 203 206 3),oO 208 (bO .add 3 202 207 3),mO 209 10,oO 210 (bO .add 3 208 209 3),mO 211 15,oO 212 (bO .add 3 210 211 3),fO 213 25 5 2,lO 214 23 213,mO 215 14,oO 216 (iA 23 214 215),fO 217 25 216 2,lO 218 23 217,mO 219 15,oO 220 (iA 23 218 219),lO 221 25 220,oO 222 (cL 34 #[(xT 200),(xT 212),(xT 221)] #[22,3,25]),aO 0 222] [0,5,7,10,11,12,14,15])) (.reg [mO 198 15,oO 199 (.binOp .add 3 (xT 198) (nI 1) 3),aO 15 199] [0,5,7,10,11,12,14,15])))
def l5_centoref12_Lay : CC := .seq (sR [mO 184 14,mO 185 12,oO 186 (bO .lss 3 184 185 3)] [0,5,7,10,11,12,14,186] (cD 186 (.skip) (.exit 7))) (.keep [0,5,7,10,11,12,14] (.seq (.block 8 (sR [oO 15 (.assign (nI 0))] [0,5,7,10,11,12,14,15] (.block 9 (.loop l4_centoref12_Lay)))) (.keep [0,5,7,10,11,12,14] (.reg [mO 187 14,oO 188 (.binOp .add 3 (xT 187) (nI 1) 3),aO 14 188] [0,5,7,10,11,12,14])))) 
def c_centoref12_Lay : CC := sR [oN 5 (.box 25 (xT 2)) [1],oO 6 (.assign nS)] [0,1,5] (sR [mO 18 0,oO 19 (bL 18 22),aO 7 19] [0,1,5,7] (.seq (sR [fO 20 25 5 0,lO 21 3 20] [0,1,5,7,21] (.block 0 (sR [oO 23 (.binOp .eql 3 (xT 21) (nI 0) 3),aO 22 23] [0,1,5,7,21,22] (cD 22 (sR [mO 24 0,aO 6 24] [6] (.ret)) (sR [oO 26 (.binOp .eql 3 (xT 21) (nI 1) 3),aO 25 26] [0,1,5,7,21,25] (cD 25 (.seq (sR [fO 27 25 5 1,lO 28 22 27,oO 29 (bL 28 22),fO 30 25 5 2,lO 31 23 30,oO 32 (bL 31 23),oO 33 (bO .add 3 29 32 3),oO 34 (.binOp .eql 3 (xT 33) (nI 0) 3)] [0,1,5,7,34] (cD 34 (.reg [mO 35 1,aO 7 35] [0,1,5,7]) (.skip))) (.keep [0,1,5,7] k1_centoref12_Lay)) (sR [oO 84 (.binOp .eql 3 (xT 21) (nI 8) 3),aO 83 84] [0,1,5,7,21,83] (cD 83 (sR [mO 85 0,mO 86 1,mO 87 1,mO 88 7,fO 89 25 5 2,lO 90 23 89,oO 91 (bL 90 23),oO 92 (.convert 3 51 (xT 91)),oO 93 (.binOp .mul 51 (.const (.int .u64 8)) (xT 92) 51),oO 94 (.binOp .add 51 (.const (.int .u64 6)) (xT 93) 51),oO 95 (cL 67 #[(xT 87),(xT 88),(nI 1),(xT 94)] #[3,3,3,51]),oO 96 (iA 22 85 86),oS (.store 51 (xT 96) (xT 95))] [0,5,7] (sR [mO 97 0,fO 98 25 5 2,lO 99 23 98,oO 100 (bL 99 23),oO 101 (cL 68 #[(xT 97),(xT 100)] #[22,3]),aO 0 101] [0,5,7] (.seq (sR [oO 9 (.assign (nI 0))] [0,5,7,9] (.block 3 (.loop l2_centoref12_Lay))) (.keep [0] (sR [mO 119 0,aO 6 119] [6] (.ret)))))) (sR [oO 121 (.binOp .eql 3 (xT 21) (nI 9) 3),aO 120 121] [0,1,5,7,120] (cD 120 (sR [lO 123 25 5,oO 124 (cL 66 #[(xT 123)] #[25]),mO 122 124,xO 125 122 0,xO 126 122 1,aO 10 125,aO 11 126] [0,1,5,7,10,11] (sR [fO 127 25 5 2,lO 128 23 127,oO 129 (bL 128 23),aO 12 129] [0,1,5,7,10,11,12] (sR [mO 130 0,mO 131 1,mO 132 1,mO 133 7,mO 134 12,mO 135 10,mO 136 11,oO 137 (bO .add 3 135 136 3),oO 138 (bO .mul 3 134 137 3),oO 139 (.convert 3 51 (xT 138)),oO 140 (.binOp .mul 51 (.const (.int .u64 8)) (xT 139) 51),oO 141 (.binOp .add 51 (.const (.int .u64 7)) (xT 140) 51),oO 142 (cL 67 #[(xT 132),(xT 133),(nI 1),(xT 141)] #[3,3,3,51]),oO 143 (iA 22 130 131),oS (.store 51 (xT 143) (xT 142))] [0,5,7,10,11,12] (sR [mO 144 0,mO 145 12,oO 146 (.binOp .mul 3 (nI 4) (xT 145) 3),oO 147 (.convert 3 51 (xT 146)),mO 148 10,oO 149 (.convert 3 51 (xT 148)),mO 150 11,oO 151 (.convert 3 51 (xT 150)),oO 152 (.binOp .mul 51 (.const (.int .u64 65536)) (xT 151) 51),oO 153 (bO .add 51 149 152 51),oO 154 (.binOp .mul 51 (.const (.int .u64 4294967296)) (xT 153) 51),oO 155 (bO .add 51 147 154 51),oO 156 (.buildSlice 22 1 #[(0,(xT 155))]),oN 157 (bC .append #[(xT 144),(xT 156)] #[22,22]) [3],aO 0 157] [0,5,7,10,11,12] (.seq (sR [oO 13 (.assign (nI 0))] [0,5,7,10,11,12,13] (.block 5 (.loop l3_centoref12_Lay))) (.keep [0,5,7,10,11,12] (.seq (sR [oO 14 (.assign (nI 0))] [0,5,7,10,11,12,14] (.block 7 (.loop l5_centoref12_Lay))) (.keep [0] (sR [mO 223 0,aO 6 223] [6] (.ret)))))))))) (.skip))))))))))) (.keep [0,1,5,7] (sR [fO 225 25 5 0,⟨some 226,(lD 3 225),none,[],1,[],true⟩,oO 227 (.binOp .sub 3 (xT 226) (nI 2) 3),lO 228 25 5,⟨some 229,(cL 70 #[(xT 228)] #[25]),none,[],4,[1],false⟩,oO 230 (cL 69 #[(xT 227),(xT 229)] #[3,22]),mO 224 230,xO 231 224 0,xO 232 224 1,aO 16 231,aO 17 232] [0,1,5,7,16] (sR [mO 233 0,mO 234 1,mO 235 1,mO 236 7,fO 237 25 5 0,lO 238 3 237,oO 239 (.binOp .sub 3 (xT 238) (nI 2) 3),oO 240 (.convert 3 51 (xT 239)),fO 241 25 5 2,lO 242 23 241,oO 243 (bL 242 23),oO 244 (.convert 3 51 (xT 243)),oO 245 (.binOp .mul 51 (.const (.int .u64 8)) (xT 244) 51),oO 246 (bO .add 51 240 245 51),oO 247 (cL 67 #[(xT 235),(xT 236),(nI 1),(xT 246)] #[3,3,3,51]),oO 248 (iA 22 233 234),oS (.store 51 (xT 248) (xT 247))] [0,16] (sR [mO 249 0,mO 250 16,oN 251 (bC .append #[(xT 249),(xT 250)] #[22,22]) [5],aO 6 251] [6] (.ret)))))))
theorem t_centoref12_Lay : Txt Tryz.prog 34 252 [(.tmp 6)] c_centoref12_Lay := txt_of (code := Tryz.f34.body.getD .ret) mixed (by kernel_rfl) Tryz.func34 (by kernel_rfl) Tryz.ntmps34 (by kernel_rfl) (ls := lsOf c_centoref12_Lay) (by kernel_rfl)
def c_centoref12_Encode : CC := sR [oN 2 (.box 25 (xT 0)) [0],oO 4 (.assign nS),oO 5 (.assign (nB false))] [1,2] (.seq (sR [lO 6 25 2,oO 7 (cL 28 #[(xT 6),(nI 64)] #[25,3]),oO 8 (.unOp .not 4 (xT 7)),mO 9 8,oG 10 (fA 25 2 0) 9 false,oG 11 (lD 3 10) 9 false,oG 12 (.binOp .eql 3 (xT 11) (nI 10) 3) 9 false,oO 13 (.pick (xT 9) (nB true) (xT 12))] [1,2,13] (cD 13 (sR [oO 4 (.assign nS),oO 5 (.assign (nB false))] [4,5] (.ret)) (.skip))) (.keep [1,2] (sR [lO 14 25 2,oO 15 (cL 32 #[(xT 14)] #[25]),oS (.store 25 (xT 2) (xT 15))] [1,2] (.seq (sR [lO 16 25 2,oO 17 (cL 33 #[(xT 16)] #[25]),mO 18 1,oO 19 (bO .geq 3 17 18 3),mO 20 19,oG 21 (lD 25 2) 20 false,oG 22 (cL 33 #[(xT 21)] #[25]) 20 false,oG 23 (.binOp .geq 3 (xT 22) (nI 131072) 3) 20 false,oO 24 (.pick (xT 20) (nB true) (xT 23))] [2,24] (cD 24 (sR [oO 4 (.assign nS),oO 5 (.assign (nB false))] [4,5] (.ret)) (.skip))) (.keep [2] (sR [oN 25 (.buildSlice 22 1 #[(0,(.const (.int .u64 0)))]) [5],lO 26 25 2,oO 27 (cL 34 #[(xT 25),(nI 0),(xT 26)] #[22,3,25]),aO 4 27,oO 5 (.assign (nB true))] [4,5] (.ret)))))))
theorem t_centoref12_Encode : Txt Tryz.prog 12 28 [(.tmp 4),(.tmp 5)] c_centoref12_Encode := txt_of (code := Tryz.f12.body.getD .ret) mixed (by kernel_rfl) Tryz.func12 (by kernel_rfl) Tryz.ntmps12 (by kernel_rfl) (ls := lsOf c_centoref12_Encode) (by kernel_rfl)
def l1_centoref01_Put : CC := .seq (sR [mO 34 10,mO 35 8,mO 36 6,oO 37 (bO .mul 3 35 36 3),oO 38 (.binOp .rem 3 (xT 37) (nI 64) 3),oO 39 (bO .lss 3 34 38 3)] [0,1,6,7,8,9,10,39] (cD 39 (.skip) (.exit 2))) (.keep [0,1,6,7,8,9,10] (.seq (.block 3 (.reg [mO 42 9,oO 43 (.binOp .mul 51 (xT 42) (.const (.int .u64 2)) 51),aO 9 43] [0,1,6,7,8,9,10])) (.reg [mO 40 10,oO 41 (.binOp .add 3 (xT 40) (nI 1) 3),aO 10 41] [0,1,6,7,8,9,10])))
def l2_centoref01_Put : CC := .seq (sR [mO 20 8,mO 21 1,oO 22 (bL 21 22),oO 23 (bO .lss 3 20 22 3)] [0,1,6,7,8,23] (cD 23 (.skip) (.exit 0))) (.keep [0,1,6,7,8] (.seq (.block 1 (sR [mO 26 1,mO 27 8,oO 28 (iA 22 26 27),lO 29 51 28,aO 9 29] [0,1,6,7,8,9] (.seq (sR [mO 30 0,mO 31 9,oO 32 (cL 57 #[(xT 30),(xT 31)] #[3,51]),oO 33 (.unOp .not 4 (xT 32))] [0,1,6,7,8,9,33] (cD 33 (sR [oO 4 (.assign nS),oO 5 (.assign (nB false))] [4,5] (.ret)) (.skip))) (.keep [0,1,6,7,8,9] (.seq (sR [oO 10 (.assign (nI 0))] [0,1,6,7,8,9,10] (.block 2 (.loop l1_centoref01_Put))) (.keep [0,1,6,7,8,9] (sR [mO 44 6,oO 45 (.binOp .gtr 3 (xT 44) (nI 0) 3)] [0,1,6,7,8,9,45] (cD 45 (.reg [mO 46 7,mO 47 8,mO 48 6,oO 49 (bO .mul 3 47 48 3),oO 50 (.binOp .quo 3 (xT 49) (nI 64) 3),mO 51 7,mO 52 8,mO 53 6,oO 54 (bO .mul 3 52 53 3),oO 55 (.binOp .quo 3 (xT 54) (nI 64) 3),oO 56 (iA 22 51 55),lO 57 51 56,mO 58 9,oO 59 (bO .add 51 57 58 51),oO 60 (iA 22 46 50),oS (.store 51 (xT 60) (xT 59))] [0,1,6,7,8]) (.skip))))))))) (.keep [0,1,6,7,8] (.reg [mO 24 8,oO 25 (.binOp .add 3 (xT 24) (nI 1) 3),aO 8 25] [0,1,6,7,8])))) 
def c_centoref01_Put : CC := sR [oO 4 (.assign nS),oO 5 (.assign (nB false))] [0,1] (sR [mO 11 0,oO 12 (cL 109 #[(xT 11)] #[3]),aO 6 12] [0,1,6] (.seq (sR [mO 13 6,oO 14 (.binOp .lss 3 (xT 13) (nI 0) 3)] [0,1,6,14] (cD 14 (sR [oO 4 (.assign nS),oO 5 (.assign (nB false))] [4,5] (.ret)) (.skip))) (.keep [0,1,6] (sR [mO 15 0,mO 16 1,oO 17 (bL 16 22),oO 18 (cL 65 #[(xT 15),(xT 17)] #[3,3]),oN 19 (.makeSlice 22 (xT 18) (xT 18)) [0],aO 7 19] [0,1,6,7] (.seq (sR [oO 8 (.assign (nI 0))] [0,1,6,7,8] (.block 0 (.loop l2_centoref01_Put))) (.keep [7] (sR [mO 61 7,aO 4 61,oO 5 (.assign (nB true))] [4,5] (.ret))))))))
theorem t_centoref01_Put : Txt Tryz.prog 69 62 [(.tmp 4),(.tmp 5)] c_centoref01_Put := txt_of (code := Tryz.f69.body.getD .ret) mixed (by kernel_rfl) Tryz.func69 (by kernel_rfl) Tryz.ntmps69 (by kernel_rfl) (ls := lsOf c_centoref01_Put) (by kernel_rfl)
@[simp] theorem fieldOffT_102_0 : fieldOffT Tryz.prog 102 0 = some 0 := by kernel_rfl
@[simp] theorem fieldOffT_102_1 : fieldOffT Tryz.prog 102 1 = some 1 := by kernel_rfl
@[simp] theorem fieldOffT_102_2 : fieldOffT Tryz.prog 102 2 = some 2 := by kernel_rfl
@[simp] theorem fieldOffT_102_3 : fieldOffT Tryz.prog 102 3 = some 3 := by kernel_rfl
@[simp] theorem buildA_102 (ps : List (Nat × A)) : buildA Tryz.prog 102 ps = (fillA (fun i => ([(0,1),(1,1),(2,1),(3,1)] : List (Nat × Nat))[i]?) [A.sl true [],A.v (Value.int IntKind.i64 0),A.v (Value.int IntKind.i64 0),A.v (Value.int IntKind.i64 0)] ps).map A.agg := by kernel_rfl
@[simp] theorem szT_94 : szT Tryz.prog 94 = some 1 := by kernel_rfl
@[simp] theorem aggT_94 : aggT Tryz.prog 94 = some false := by kernel_rfl
@[simp] theorem fieldOffT_97_0 : fieldOffT Tryz.prog 97 0 = some 0 := by kernel_rfl
@[simp] theorem fieldOffT_97_1 : fieldOffT Tryz.prog 97 1 = some 1 := by kernel_rfl
@[simp] theorem buildA_97 (ps : List (Nat × A)) : buildA Tryz.prog 97 ps = (fillA (fun i => ([(0,1),(1,1)] : List (Nat × Nat))[i]?) [A.v (Value.pointer none),A.v (Value.bool false)] ps).map A.agg := by kernel_rfl
@[simp] theorem und_29 : Tryz.prog.underlying 29 = some (.slice 80) := by kernel_rfl
@[simp] theorem und_30 : Tryz.prog.underlying 30 = some (.slice 89) := by kernel_rfl
@[simp] theorem und_31 : Tryz.prog.underlying 31 = some (.slice 91) := by kernel_rfl
@[simp] theorem szT_29 : szT Tryz.prog 29 = some 1 := by kernel_rfl
@[simp] theorem szT_30 : szT Tryz.prog 30 = some 1 := by kernel_rfl
@[simp] theorem szT_31 : szT Tryz.prog 31 = some 1 := by kernel_rfl
@[simp] theorem szT_33 : szT Tryz.prog 33 = some 11 := by kernel_rfl
@[simp] theorem szT_80 : szT Tryz.prog 80 = some 4 := by kernel_rfl
@[simp] theorem szT_89 : szT Tryz.prog 89 = some 12 := by kernel_rfl
@[simp] theorem szT_91 : szT Tryz.prog 91 = some 14 := by kernel_rfl
@[simp] theorem aggT_29 : aggT Tryz.prog 29 = some false := by kernel_rfl
@[simp] theorem aggT_30 : aggT Tryz.prog 30 = some false := by kernel_rfl
@[simp] theorem aggT_31 : aggT Tryz.prog 31 = some false := by kernel_rfl
@[simp] theorem aggT_33 : aggT Tryz.prog 33 = some true := by kernel_rfl
@[simp] theorem aggT_80 : aggT Tryz.prog 80 = some true := by kernel_rfl
@[simp] theorem aggT_89 : aggT Tryz.prog 89 = some true := by kernel_rfl
@[simp] theorem aggT_91 : aggT Tryz.prog 91 = some true := by kernel_rfl
@[simp] theorem zeroT_80 : zeroT Tryz.prog 80 = some (Value.agg #[Value.int IntKind.i64 0,Value.int IntKind.u8 0,Value.int IntKind.u64 0,Value.int IntKind.u64 0]) := by kernel_rfl
@[simp] theorem zeroT_89 : zeroT Tryz.prog 89 = some (Value.agg #[Value.int IntKind.i64 0,Value.int IntKind.i64 0,Value.int IntKind.i64 0,Value.slice none 0 0,Value.slice none 0 0,Value.int IntKind.i64 0,Value.slice none 0 0,Value.slice none 0 0,Value.slice none 0 0,Value.slice none 0 0,Value.int IntKind.i64 0,Value.slice none 0 0]) := by kernel_rfl
@[simp] theorem zeroT_91 : zeroT Tryz.prog 91 = some (Value.agg #[Value.int IntKind.i64 0,Value.int IntKind.i64 0,Value.slice none 0 0,Value.int IntKind.i64 0,Value.int IntKind.i64 0,Value.slice none 0 0,Value.slice none 0 0,Value.int IntKind.i64 0,Value.slice none 0 0,Value.slice none 0 0,Value.slice none 0 0,Value.slice none 0 0,Value.int IntKind.i64 0,Value.slice none 0 0]) := by kernel_rfl
@[simp] theorem bytesT_80 : bytesT Tryz.prog 80 = some 32 := by kernel_rfl
@[simp] theorem bytesT_89 : bytesT Tryz.prog 89 = some 208 := by kernel_rfl
@[simp] theorem bytesT_91 : bytesT Tryz.prog 91 = some 240 := by kernel_rfl
@[simp] theorem fieldOffT_33_0 : fieldOffT Tryz.prog 33 0 = some 0 := by kernel_rfl
@[simp] theorem fieldOffT_33_1 : fieldOffT Tryz.prog 33 1 = some 1 := by kernel_rfl
@[simp] theorem fieldOffT_33_2 : fieldOffT Tryz.prog 33 2 = some 4 := by kernel_rfl
@[simp] theorem fieldOffT_33_3 : fieldOffT Tryz.prog 33 3 = some 7 := by kernel_rfl
@[simp] theorem fieldOffT_33_4 : fieldOffT Tryz.prog 33 4 = some 8 := by kernel_rfl
@[simp] theorem fieldOffT_33_5 : fieldOffT Tryz.prog 33 5 = some 9 := by kernel_rfl
@[simp] theorem fieldOffT_33_6 : fieldOffT Tryz.prog 33 6 = some 10 := by kernel_rfl
@[simp] theorem fieldOffT_80_2 : fieldOffT Tryz.prog 80 2 = some 2 := by kernel_rfl
@[simp] theorem fieldOffT_80_3 : fieldOffT Tryz.prog 80 3 = some 3 := by kernel_rfl
@[simp] theorem fieldOffT_89_0 : fieldOffT Tryz.prog 89 0 = some 0 := by kernel_rfl
@[simp] theorem fieldOffT_89_1 : fieldOffT Tryz.prog 89 1 = some 1 := by kernel_rfl
@[simp] theorem fieldOffT_91_0 : fieldOffT Tryz.prog 91 0 = some 0 := by kernel_rfl
@[simp] theorem fieldOffT_91_2 : fieldOffT Tryz.prog 91 2 = some 2 := by kernel_rfl
@[simp] theorem fieldOffT_91_3 : fieldOffT Tryz.prog 91 3 = some 3 := by kernel_rfl
@[simp] theorem buildA_33 (ps : List (Nat × A)) : buildA Tryz.prog 33 ps = (fillA (fun i => ([(0,1),(1,3),(4,3),(7,1),(8,1),(9,1),(10,1)] : List (Nat × Nat))[i]?) [A.v (Value.int IntKind.i64 0),A.v (Value.int IntKind.i64 0),A.sl true [],A.sl true [],A.v (Value.int IntKind.i64 0),A.sl true [],A.sl true [],A.sl true [],A.sl true [],A.v (Value.int IntKind.i64 0),A.sl true []] ps).map A.agg := by kernel_rfl
def l1_cost_pointers : CC := .seq (sR [mO 6 3,oO 7 (.binOp .gtr 3 (xT 6) (nI 0) 3)] [0,3,7] (cD 7 (.skip) (.exit 0))) (.keep [0,3] (.seq (.block 1 (sR [mO 10 0,mO 11 3,oO 12 (.binOp .sub 3 (xT 11) (nI 1) 3),oO 13 (iA 23 10 12),fO 14 25 13 0,lO 15 3 14,oO 16 (.binOp .neq 3 (xT 15) (nI 0) 3)] [0,3,16] (cD 16 (sR [mO 17 3,aO 2 17] [2] (.ret)) (.skip)))) (.keep [0,3] (.reg [mO 8 3,oO 9 (.binOp .sub 3 (xT 8) (nI 1) 3),aO 3 9] [0,3])))) 
def c_cost_pointers : CC := sR [oO 2 (.assign (nI 0))] [0] (.seq (sR [mO 4 0,oO 5 (bL 4 23),aO 3 5] [0,3] (.block 0 (.loop l1_cost_pointers))) (.keep [] (sR [oO 2 (.assign (nI 0))] [2] (.ret))))
theorem t_cost_pointers : Txt Tryz.prog 122 18 [(.tmp 2)] c_cost_pointers := txt_of (code := Tryz.f122.body.getD .ret) mixed (by kernel_rfl) Tryz.func122 (by kernel_rfl) Tryz.ntmps122 (by kernel_rfl) (ls := lsOf c_cost_pointers) (by kernel_rfl)
def l1_cost_kids : CC := sR [oO 9 (bO .lss 3 8 7 3)] [0,3,6,7,8,9] (.seq (cD 9 (.skip) (.exit 0)) (.keep [0,3,6,7,8] (.seq (.block 1 (sR [mO 10 8,oO 11 (iA 23 6 8),lO 12 25 11,oN 5 (.alloc 25) [0],aO 4 10,oS (.store 25 (xT 5) (xT 12))] [0,3,4,5,6,7,8] (sR [mO 13 3,lO 14 25 5,oO 15 (cL 75 #[(xT 14)] #[25]),oO 16 (bO .add 3 13 15 3),aO 3 16] [0,3,4,5,6,7,8] (sR [fO 17 25 5 0,lO 18 3 17,oO 19 (.binOp .neq 3 (xT 18) (nI 0) 3)] [0,3,4,6,7,8,19] (cD 19 (.reg [mO 20 3,mO 21 4,oO 22 (.binOp .add 3 (xT 21) (nI 1) 3),mO 23 0,mO 24 4,oO 25 (.slice 23 (xT 23) none (some (xT 24)) none),oO 26 (cL 122 #[(xT 25)] #[23]),oO 27 (bO .sub 3 22 26 3),oO 28 (bO .add 3 20 27 3),aO 3 28] [0,3,6,7,8]) (.skip)))))) (.keep [0,3,6,7,8] (.reg [oO 29 (.binOp .add 3 (xT 8) (nI 1) 3),mO 8 29] [0,3,6,7,8]))))) 
def c_cost_kids : CC := sR [oO 2 (.assign (nI 0))] [0] (sR [oO 3 (.assign (nI 0))] [0,3] (.seq (sR [mO 6 0,oO 7 (bL 6 23),oO 8 (.move (nI 0))] [0,3,6,7,8] (.block 0 (.loop l1_cost_kids))) (.keep [3] (sR [mO 30 3,aO 2 30] [2] (.ret)))))
theorem t_cost_kids : Txt Tryz.prog 71 31 [(.tmp 2)] c_cost_kids := txt_of (code := Tryz.f71.body.getD .ret) mixed (by kernel_rfl) Tryz.func71 (by kernel_rfl) Tryz.ntmps71 (by kernel_rfl) (ls := lsOf c_cost_kids) (by kernel_rfl)
def c_cost_node : CC := sR [oN 1 (.box 33 (xT 0)) [0],oO 2 (.assign (nI 0))] [1] (.seq (sR [fO 3 33 1 0,lO 4 3 3] [1,4] (.block 0 (sR [oO 6 (.binOp .eql 3 (xT 4) (nI 1) 3),aO 5 6] [1,4,5] (cD 5 (sR [fO 7 33 1 1,lO 8 25 7,fO 9 33 1 2,lO 10 25 9,oO 11 (.buildSlice 23 2 #[(0,(xT 8)),(1,(xT 10))]),oO 12 (cL 71 #[(xT 11)] #[23]),oO 13 (.binOp .add 3 (nI 1) (xT 12) 3),aO 2 13] [2] (.ret)) (sR [oO 15 (.binOp .eql 3 (xT 4) (nI 2) 3),aO 14 15] [1,4,14] (cD 14 (sR [lO 16 33 1,oO 17 (cL 72 #[(xT 16)] #[33]),oO 18 (.binOp .add 3 (nI 1) (xT 17) 3),aO 2 18] [2] (.ret)) (sR [oO 20 (.binOp .eql 3 (xT 4) (nI 3) 3),aO 19 20] [1,19] (cD 19 (sR [lO 21 33 1,oO 22 (cL 73 #[(xT 21)] #[33]),oO 23 (.binOp .add 3 (nI 1) (xT 22) 3),aO 2 23] [2] (.ret)) (.skip))))))))) (.keep [] (sR [oO 2 (.assign (nI 0))] [2] (.ret))))
theorem t_cost_node : Txt Tryz.prog 35 24 [(.tmp 2)] c_cost_node := txt_of (code := Tryz.f35.body.getD .ret) mixed (by kernel_rfl) Tryz.func35 (by kernel_rfl) Tryz.ntmps35 (by kernel_rfl) (ls := lsOf c_cost_node) (by kernel_rfl)
def l1_cost_structure : CC := sR [oO 21 (bO .lss 3 20 19 3)] [1,3,4,5,18,19,20,21] (.seq (cD 21 (.skip) (.exit 0)) (.keep [1,3,4,5,18,19,20] (.seq (.block 1 (sR [oO 22 (iA 29 18 20),lO 23 80 22,oN 7 (.alloc 80) [1],oS (.store 80 (xT 7) (xT 23))] [1,3,4,5,7,18,19,20] (.block 2 (sR [fO 25 80 7 3,lO 26 51 25,oO 27 (.binOp .neq 51 (xT 26) (.const (.int .u64 0)) 51),aO 24 27] [1,3,4,5,7,18,19,20,24] (cD 24 (.reg [oO 5 (.assign (nI 3))] [1,3,4,5,18,19,20]) (sR [fO 29 80 7 2,lO 30 51 29,oO 31 (.binOp .neq 51 (xT 30) (.const (.int .u64 0)) 51),aO 28 31] [1,3,4,5,18,19,20,28] (cD 28 (.reg [mO 32 5,oO 33 (bC .max #[(xT 32),(nI 2)] #[3,3]),aO 5 33] [1,3,4,5,18,19,20]) (.skip)))))))) (.keep [1,3,4,5,18,19,20] (.reg [oO 34 (.binOp .add 3 (xT 20) (nI 1) 3),mO 20 34] [1,3,4,5,18,19,20])))))
def l2_cost_structure : CC := sR [oO 70 (bO .lss 3 69 68 3)] [3,67,68,69,70] (.seq (cD 70 (.skip) (.exit 3)) (.keep [3,67,68,69] (.seq (.block 4 (sR [oO 71 (iA 30 67 69),lO 72 89 71,oN 11 (.alloc 89) [2],oS (.store 89 (xT 11) (xT 72))] [3,11,67,68,69] (.reg [mO 73 3,fO 74 89 11 1,lO 75 33 74,oO 76 (cL 35 #[(xT 75)] #[33]),oO 77 (bO .add 3 73 76 3),aO 3 77] [3,67,68,69]))) (.reg [oO 78 (.binOp .add 3 (xT 69) (nI 1) 3),mO 69 78] [3,67,68,69]))))
def k1_cost_structure : CC := sR [fO 66 33 1 4,lO 67 30 66,oO 68 (bL 67 30),oO 69 (.move (nI 0))] [3,67,68,69] (.block 3 (.loop l2_cost_structure))
def k2_cost_structure : CC := sR [mO 54 3,mO 55 8,mO 56 9,oO 57 (bO .mul 3 55 56 3),oO 58 (.binOp .add 3 (nI 2) (xT 57) 3),oO 59 (bO .add 3 54 58 3),aO 3 59] [1,3] (.seq (sR [fO 60 33 1 3,lO 61 29 60,oO 62 (bL 61 29),oO 63 (.binOp .eql 3 (xT 62) (nI 0) 3)] [1,3,63] (cD 63 (.reg [mO 64 3,oO 65 (.binOp .add 3 (xT 64) (nI 1) 3),aO 3 65] [1,3]) (.skip))) (.keep [1,3] k1_cost_structure))
def k3_cost_structure : CC := .seq (sR [fO 41 33 1 4,lO 42 30 41,oO 43 (bL 42 30),aO 8 43] [1,3,8] (sR [mO 44 8,oO 45 (.binOp .gtr 3 (xT 44) (nI 0) 3)] [1,3,8,45] (cD 45 (sR [oO 9 (.assign (nI 2))] [1,3,8,9] (.seq (sR [fO 46 33 1 4,lO 47 30 46,mO 48 8,oO 49 (.binOp .sub 3 (xT 48) (nI 1) 3),oO 50 (iA 30 47 49),fO 51 89 50 0,lO 52 3 51,oO 53 (.binOp .eql 3 (xT 52) (nI 0) 3)] [1,3,8,9,53] (cD 53 (.reg [oO 9 (.assign (nI 1))] [1,3,8,9]) (.skip))) (.keep [1,3,8,9] k2_cost_structure))) (.skip)))) (.keep [3] (sR [mO 79 3,aO 2 79] [2] (.ret))) 
def c_cost_structure : CC := sR [oN 1 (.box 33 (xT 0)) [0],oO 2 (.assign (nI 0))] [1] (sR [oO 3 (.assign (nI 0))] [1,3] (.seq (sR [fO 12 33 1 3,lO 13 29 12,oO 14 (bL 13 29),aO 4 14] [1,3,4] (sR [mO 15 4,oO 16 (.binOp .gtr 3 (xT 15) (nI 0) 3)] [1,3,4,16] (cD 16 (sR [oO 5 (.assign (nI 1))] [1,3,4,5] (.seq (sR [fO 17 33 1 3,lO 18 29 17,oO 19 (bL 18 29),oO 20 (.move (nI 0))] [1,3,4,5,18,19,20] (.block 0 (.loop l1_cost_structure))) (.keep [1,3,4,5] (.reg [mO 35 3,mO 36 4,mO 37 5,oO 38 (bO .mul 3 36 37 3),oO 39 (.binOp .add 3 (nI 2) (xT 38) 3),oO 40 (bO .add 3 35 39 3),aO 3 40] [1,3])))) (.skip)))) (.keep [1,3] k3_cost_structure)))
theorem t_cost_structure : Txt Tryz.prog 72 80 [(.tmp 2)] c_cost_structure := txt_of (code := Tryz.f72.body.getD .ret) mixed (by kernel_rfl) Tryz.func72 (by kernel_rfl) Tryz.ntmps72 (by kernel_rfl) (ls := lsOf c_cost_structure) (by kernel_rfl)
def k1_cost_list : CC := cD 20 (sR [oO 3 (.assign (nI 2))] [1,3,4,6,12,13,14] (.reg [mO 23 4,fO 24 33 1 5,lO 25 3 24,fO 26 91 6 2,lO 27 23 26,oO 28 (.build 25 #[(0,(xT 25)),(2,(xT 27))]),oO 29 (cL 75 #[(xT 28)] #[25]),oO 30 (bO .add 3 23 29 3),aO 4 30] [1,3,4,12,13,14])) (sR [oO 32 (.binOp .eql 3 (xT 19) (nI 3) 3),aO 31 32] [1,3,4,6,12,13,14,31] (cD 31 (sR [oO 3 (.assign (nI 2))] [1,3,4,6,12,13,14] (.reg [mO 33 4,fO 34 91 6 3,lO 35 33 34,oO 36 (cL 35 #[(xT 35)] #[33]),oO 37 (bO .add 3 33 36 3),aO 4 37] [1,3,4,12,13,14])) (.skip)))
def l1_cost_list : CC := sR [oO 15 (bO .lss 3 14 13 3)] [1,3,4,12,13,14,15] (.seq (cD 15 (.skip) (.exit 0)) (.keep [1,3,4,12,13,14] (.seq (.block 1 (sR [oO 16 (iA 31 12 14),lO 17 91 16,oN 6 (.alloc 91) [1],oS (.store 91 (xT 6) (xT 17))] [1,3,4,6,12,13,14] (sR [fO 18 91 6 0,lO 19 3 18] [1,3,4,6,12,13,14,19] (.block 2 (.seq (sR [oO 21 (.binOp .eql 3 (xT 19) (nI 1) 3),aO 20 21] [1,3,4,6,12,13,14,19,20] (cD 20 (.skip) (.reg [oO 22 (.binOp .eql 3 (xT 19) (nI 2) 3),aO 20 22] [1,3,4,6,12,13,14,19,20]))) (.keep [1,3,4,6,12,13,14,19,20] k1_cost_list)))))) (.keep [1,3,4,12,13,14] (.reg [oO 38 (.binOp .add 3 (xT 14) (nI 1) 3),mO 14 38] [1,3,4,12,13,14]))))) 
def c_cost_list : CC := sR [oN 1 (.box 33 (xT 0)) [0],oO 2 (.assign (nI 0))] [1] (.seq (sR [fO 7 33 1 6,lO 8 31 7,oO 9 (bL 8 31),oO 10 (.binOp .eql 3 (xT 9) (nI 0) 3)] [1,10] (cD 10 (sR [oO 2 (.assign (nI 0))] [2] (.ret)) (.skip))) (.keep [1] (sR [oO 3 (.assign (nI 1)),oO 4 (.assign (nI 0))] [1,3,4] (.seq (sR [fO 11 33 1 6,lO 12 31 11,oO 13 (bL 12 31),oO 14 (.move (nI 0))] [1,3,4,12,13,14] (.block 0 (.loop l1_cost_list))) (.keep [1,3,4] (sR [fO 39 33 1 6,lO 40 31 39,oO 41 (bL 40 31),mO 42 3,oO 43 (bO .mul 3 41 42 3),oO 44 (.binOp .add 3 (nI 2) (xT 43) 3),mO 45 4,oO 46 (bO .add 3 44 45 3),aO 2 46] [2] (.ret)))))))
theorem t_cost_list : Txt Tryz.prog 73 47 [(.tmp 2)] c_cost_list := txt_of (code := Tryz.f73.body.getD .ret) mixed (by kernel_rfl) Tryz.func73 (by kernel_rfl) Tryz.ntmps73 (by kernel_rfl) (ls := lsOf c_cost_list) (by kernel_rfl)
def c_cost_Words : CC := sR [oN 1 (.box 33 (xT 0)) [0],oO 2 (.assign (nI 0))] [1] (sR [lO 3 33 1,oO 4 (cL 35 #[(xT 3)] #[33]),oO 5 (.binOp .add 3 (nI 1) (xT 4) 3),aO 2 5] [2] (.ret))
theorem t_cost_Words : Txt Tryz.prog 13 6 [(.tmp 2)] c_cost_Words := txt_of (code := Tryz.f13.body.getD .ret) mixed (by kernel_rfl) Tryz.func13 (by kernel_rfl) Tryz.ntmps13 (by kernel_rfl) (ls := lsOf c_cost_Words) (by kernel_rfl)
def c_centolaw39_awake : CC := sR [oO 0 (.assign (nB false))] [] (sR [oO 1 (.build 33 #[]),oO 2 (cL 13 #[(xT 1)] #[33]),oO 3 (.binOp .eql 3 (xT 2) (nI 1) 3),mO 4 3,oG 5 (.build 33 #[(0,(nI 1))]) 4 true,oG 6 (cL 13 #[(xT 5)] #[33]) 4 true,oG 7 (.binOp .eql 3 (xT 6) (nI 2) 3) 4 true,oO 8 (.pick (xT 4) (xT 7) (nB false)),aO 0 8] [0] (.ret))
theorem t_centolaw39_awake : Txt Tryz.prog 10 9 [(.tmp 0)] c_centolaw39_awake := txt_of (code := Tryz.f10.body.getD .ret) mixed (by kernel_rfl) Tryz.func10 (by kernel_rfl) Tryz.ntmps10 (by kernel_rfl) (ls := lsOf c_centolaw39_awake) (by kernel_rfl)
def c_tree_Word : CC := sR [oN 2 (.box 25 (xT 0)) [0],oO 4 (.assign (.const (.int .u64 0)))] [1,2] (.seq (sR [mO 5 1,oO 6 (.binOp .lss 3 (xT 5) (nI 0) 3),mO 7 6,oG 8 (mV 1) 7 false,oG 9 (fA 25 2 1) 7 false,oG 10 (lD 22 9) 7 false,oG 11 (bL 10 22) 7 false,oG 12 (bO .geq 3 8 11 3) 7 false,oO 13 (.pick (xT 7) (nB true) (xT 12))] [1,2,13] (cD 13 (sR [oO 4 (.assign (.const (.int .u64 0)))] [4] (.ret)) (.skip))) (.keep [1,2] (sR [fO 14 25 2 1,lO 15 22 14,mO 16 1,oO 17 (iA 22 15 16),lO 18 51 17,aO 4 18] [4] (.ret))))
theorem t_tree_Word : Txt Tryz.prog 115 19 [(.tmp 4)] c_tree_Word := txt_of (code := Tryz.f115.body.getD .ret) mixed (by kernel_rfl) Tryz.func115 (by kernel_rfl) Tryz.ntmps115 (by kernel_rfl) (ls := lsOf c_tree_Word) (by kernel_rfl)
def c_tree_Kid : CC := sR [oN 2 (.box 25 (xT 0)) [0],oN 4 (.alloc 25) [1]] [1,2,4] (.seq (sR [mO 5 1,oO 6 (.binOp .lss 3 (xT 5) (nI 0) 3),mO 7 6,oG 8 (mV 1) 7 false,oG 9 (fA 25 2 2) 7 false,oG 10 (lD 23 9) 7 false,oG 11 (bL 10 23) 7 false,oG 12 (bO .geq 3 8 11 3) 7 false,oO 13 (.pick (xT 7) (nB true) (xT 12))] [1,2,4,13] (cD 13 (sR [oO 14 (.build 25 #[]),oS (.store 25 (xT 4) (xT 14))] [4] (.ret)) (.skip))) (.keep [1,2,4] (sR [fO 15 25 2 2,lO 16 23 15,mO 17 1,oO 18 (iA 23 16 17),lO 19 25 18,oS (.store 25 (xT 4) (xT 19))] [4] (.ret))))
theorem t_tree_Kid : Txt Tryz.prog 116 20 [(.cell 4 25)] c_tree_Kid := txt_of (code := Tryz.f116.body.getD .ret) mixed (by kernel_rfl) Tryz.func116 (by kernel_rfl) Tryz.ntmps116 (by kernel_rfl) (ls := lsOf c_tree_Kid) (by kernel_rfl)
def l1_word_Wide : CC := sR [oO 6 (.binOp .lss 3 (xT 5) (nI 8) 3)] [0,3,5,6] (.seq (cD 6 (.skip) (.exit 0)) (.keep [0,3,5] (.seq (.block 1 (sR [mO 7 5,aO 4 7] [0,3,4,5] (sR [mO 8 0,mO 9 4,oO 10 (bO .shr 5 8 9 3),oO 11 (.binOp .and 5 (xT 10) (.const (.int .u8 1)) 5),oO 12 (.binOp .eql 5 (xT 11) (.const (.int .u8 1)) 5)] [0,3,4,5,12] (cD 12 (.reg [mO 13 3,mO 14 4,oO 15 (.binOp .mul 3 (nI 8) (xT 14) 3),oO 16 (.binOp .shl 51 (.const (.int .u64 255)) (xT 15) 3),oO 17 (bO .or 51 13 16 51),aO 3 17] [0,3,5]) (.skip))))) (.keep [0,3,5] (.reg [oO 18 (.binOp .add 3 (xT 5) (nI 1) 3),mO 5 18] [0,3,5]))))) 
def c_word_Wide : CC := sR [oO 2 (.assign (.const (.int .u64 0)))] [0] (sR [oO 3 (.assign (.const (.int .u64 0)))] [0,3] (.seq (sR [oO 5 (.move (nI 0))] [0,3,5] (.block 0 (.loop l1_word_Wide))) (.keep [3] (sR [mO 19 3,aO 2 19] [2] (.ret)))))
theorem t_word_Wide : Txt Tryz.prog 218 20 [(.tmp 2)] c_word_Wide := txt_of (code := Tryz.f218.body.getD .ret) mixed (by kernel_rfl) Tryz.func218 (by kernel_rfl) Tryz.ntmps218 (by kernel_rfl) (ls := lsOf c_word_Wide) (by kernel_rfl)
def c_word_Mix : CC := sR [oO 6 (.assign (.const (.int .u64 0)))] [0,1,2] (sR [mO 7 0,mO 8 2,oO 9 (cL 218 #[(xT 8)] #[5]),oO 10 (bO .andNot 51 7 9 51),mO 11 1,mO 12 2,oO 13 (cL 218 #[(xT 12)] #[5]),oO 14 (bO .and 51 11 13 51),oO 15 (bO .or 51 10 14 51),aO 6 15] [6] (.ret))
theorem t_word_Mix : Txt Tryz.prog 174 16 [(.tmp 6)] c_word_Mix := txt_of (code := Tryz.f174.body.getD .ret) mixed (by kernel_rfl) Tryz.func174 (by kernel_rfl) Tryz.ntmps174 (by kernel_rfl) (ls := lsOf c_word_Mix) (by kernel_rfl)
@[simp] theorem zeroT_33 : zeroT Tryz.prog 33 = some (Value.agg #[Value.int IntKind.i64 0,Value.int IntKind.i64 0,Value.slice none 0 0,Value.slice none 0 0,Value.int IntKind.i64 0,Value.slice none 0 0,Value.slice none 0 0,Value.slice none 0 0,Value.slice none 0 0,Value.int IntKind.i64 0,Value.slice none 0 0]) := by kernel_rfl
@[simp] theorem fieldOffT_80_0 : fieldOffT Tryz.prog 80 0 = some 0 := by kernel_rfl
@[simp] theorem fieldOffT_80_1 : fieldOffT Tryz.prog 80 1 = some 1 := by kernel_rfl
@[simp] theorem fieldOffT_91_1 : fieldOffT Tryz.prog 91 1 = some 1 := by kernel_rfl
@[simp] theorem fieldOffT_116_0 : fieldOffT Tryz.prog 116 0 = some 0 := by kernel_rfl
@[simp] theorem fieldOffT_130_0 : fieldOffT Tryz.prog 130 0 = some 0 := by kernel_rfl
@[simp] theorem fieldOffT_130_1 : fieldOffT Tryz.prog 130 1 = some 1 := by kernel_rfl
@[simp] theorem buildA_80 (ps : List (Nat × A)) : buildA Tryz.prog 80 ps = (fillA (fun i => ([(0,1),(1,1),(2,1),(3,1)] : List (Nat × Nat))[i]?) [A.v (Value.int IntKind.i64 0),A.v (Value.int IntKind.u8 0),A.v (Value.int IntKind.u64 0),A.v (Value.int IntKind.u64 0)] ps).map A.agg := by kernel_rfl
@[simp] theorem buildA_89 (ps : List (Nat × A)) : buildA Tryz.prog 89 ps = (fillA (fun i => ([(0,1),(1,11)] : List (Nat × Nat))[i]?) [A.v (Value.int IntKind.i64 0),A.v (Value.int IntKind.i64 0),A.v (Value.int IntKind.i64 0),A.sl true [],A.sl true [],A.v (Value.int IntKind.i64 0),A.sl true [],A.sl true [],A.sl true [],A.sl true [],A.v (Value.int IntKind.i64 0),A.sl true []] ps).map A.agg := by kernel_rfl
@[simp] theorem buildA_91 (ps : List (Nat × A)) : buildA Tryz.prog 91 ps = (fillA (fun i => ([(0,1),(1,1),(2,1),(3,11)] : List (Nat × Nat))[i]?) [A.v (Value.int IntKind.i64 0),A.v (Value.int IntKind.i64 0),A.sl true [],A.v (Value.int IntKind.i64 0),A.v (Value.int IntKind.i64 0),A.sl true [],A.sl true [],A.v (Value.int IntKind.i64 0),A.sl true [],A.sl true [],A.sl true [],A.sl true [],A.v (Value.int IntKind.i64 0),A.sl true []] ps).map A.agg := by kernel_rfl
@[simp] theorem buildA_116 (ps : List (Nat × A)) : buildA Tryz.prog 116 ps = (fillA (fun i => ([(0,1)] : List (Nat × Nat))[i]?) [A.sl true []] ps).map A.agg := by kernel_rfl
@[simp] theorem buildA_130 (ps : List (Nat × A)) : buildA Tryz.prog 130 ps = (fillA (fun i => ([(0,1),(1,1)] : List (Nat × Nat))[i]?) [A.v (Value.int IntKind.i64 0),A.v (Value.int IntKind.i64 0)] ps).map A.agg := by kernel_rfl
@[simp] theorem eqA_80 (x0 y0 : Int) (x1 y1 : Int) (x2 y2 : Int) (x3 y3 : Int) : eqA Tryz.prog 100 80 (.agg [A.v (.int .i64 x0),A.v (.int .u8 x1),A.v (.int .u64 x2),A.v (.int .u64 x3)]) (.agg [A.v (.int .i64 y0),A.v (.int .u8 y1),A.v (.int .u64 y2),A.v (.int .u64 y3)]) = some (((x0 == y0) && ((x1 == y1) && ((x2 == y2) && ((x3 == y3) && (true)))))) := by kernel_rfl
@[simp] theorem eqG_80 : Tryz.prog.eqGuardType Tryz.prog.depth 80 = false := by kernel_rfl
@[simp] theorem fieldT_25_2 : fieldT Tryz.prog 25 2 = some (23,2) := by kernel_rfl
def c_word_Fits : CC := sR [oO 4 (.assign (nB false))] [0,1] (sR [mO 8 0,oO 9 (cL 185 #[(xT 8)] #[3]),mO 7 9,xO 10 7 0,xO 11 7 1,aO 5 10,aO 6 11] [1,5,6] (sR [mO 12 6,mO 13 12,oG 14 (mV 5) 13 true,oG 15 (.binOp .eql 3 (xT 14) (nI 64) 3) 13 true,oG 16 (mV 15) 13 true,oG 17 (mV 1) 16 false,oG 18 (mV 5) 16 false,oG 19 (bO .shr 51 17 18 3) 16 false,oG 20 (.binOp .eql 51 (xT 19) (.const (.int .u64 0)) 51) 16 false,oG 21 (.pick (xT 16) (nB true) (xT 20)) 13 true,oO 22 (.pick (xT 13) (xT 21) (nB false)),aO 4 22] [4] (.ret)))
theorem t_word_Fits : Txt Tryz.prog 186 23 [(.tmp 4)] c_word_Fits := txt_of (code := Tryz.f186.body.getD .ret) mixed (by kernel_rfl) Tryz.func186 (by kernel_rfl) Tryz.ntmps186 (by kernel_rfl) (ls := lsOf c_word_Fits) (by kernel_rfl)
def l1_word_Put : CC := sR [oO 26 (bO .lss 3 25 24 3)] [0,6,8,23,24,25,26] (.seq (cD 26 (.skip) (.exit 0)) (.keep [0,6,8,23,24,25] (.seq (.block 1 (sR [mO 27 25,oO 28 (iA 22 23 25),lO 29 51 28,aO 9 27,aO 10 29] [0,6,8,9,10,23,24,25] (.seq (sR [mO 30 0,mO 31 10,oO 32 (cL 186 #[(xT 30),(xT 31)] #[3,51]),oO 33 (.unOp .not 4 (xT 32))] [0,6,8,9,10,23,24,25,33] (cD 33 (sR [oO 4 (.assign nS),oO 5 (.assign (nB false))] [4,5] (.ret)) (.skip))) (.keep [0,6,8,9,10,23,24,25] (sR [mO 34 6,oO 35 (.binOp .gtr 3 (xT 34) (nI 0) 3)] [0,6,8,9,10,23,24,25,35] (cD 35 (.reg [mO 36 8,mO 37 9,mO 38 6,oO 39 (bO .mul 3 37 38 3),oO 40 (.binOp .quo 3 (xT 39) (nI 64) 3),oO 41 (iA 22 36 40),lO 42 51 41,mO 43 10,mO 44 9,mO 45 6,oO 46 (bO .mul 3 44 45 3),oO 47 (.binOp .rem 3 (xT 46) (nI 64) 3),oO 48 (bO .shl 51 43 47 3),oO 49 (bO .or 51 42 48 51),oO 50 (iA 22 36 40),oS (.store 51 (xT 50) (xT 49))] [0,6,8,23,24,25]) (.skip))))))) (.keep [0,6,8,23,24,25] (.reg [oO 51 (.binOp .add 3 (xT 25) (nI 1) 3),mO 25 51] [0,6,8,23,24,25]))))) 
def c_word_Put : CC := sR [oO 4 (.assign nS),oO 5 (.assign (nB false))] [0,1] (sR [mO 12 0,oO 13 (cL 185 #[(xT 12)] #[3]),mO 11 13,xO 14 11 0,xO 15 11 1,aO 6 14,aO 7 15] [0,1,6,7] (.seq (sR [mO 16 7,oO 17 (.unOp .not 4 (xT 16))] [0,1,6,17] (cD 17 (sR [oO 4 (.assign nS),oO 5 (.assign (nB false))] [4,5] (.ret)) (.skip))) (.keep [0,1,6] (sR [mO 18 0,mO 19 1,oO 20 (bL 19 22),oO 21 (cL 182 #[(xT 18),(xT 20)] #[3,3]),oN 22 (.makeSlice 22 (xT 21) (xT 21)) [0],aO 8 22] [0,1,6,8] (.seq (sR [mO 23 1,oO 24 (bL 23 22),oO 25 (.move (nI 0))] [0,6,8,23,24,25] (.block 0 (.loop l1_word_Put))) (.keep [8] (sR [mO 52 8,aO 4 52,oO 5 (.assign (nB true))] [4,5] (.ret))))))))
theorem t_word_Put : Txt Tryz.prog 129 53 [(.tmp 4),(.tmp 5)] c_word_Put := txt_of (code := Tryz.f129.body.getD .ret) mixed (by kernel_rfl) Tryz.func129 (by kernel_rfl) Tryz.ntmps129 (by kernel_rfl) (ls := lsOf c_word_Put) (by kernel_rfl)
def c_tree_List : CC := sR [oO 2 (.assign (nB false))] [0] (sR [mO 3 0,oO 4 (.binOp .geq 3 (xT 3) (nI 2) 3),mO 5 4,oG 6 (mV 0) 5 true,oG 7 (.binOp .leq 3 (xT 6) (nI 9) 3) 5 true,oO 8 (.pick (xT 5) (xT 7) (nB false)),aO 2 8] [2] (.ret))
theorem t_tree_List : Txt Tryz.prog 61 9 [(.tmp 2)] c_tree_List := txt_of (code := Tryz.f61.body.getD .ret) mixed (by kernel_rfl) Tryz.func61 (by kernel_rfl) Tryz.ntmps61 (by kernel_rfl) (ls := lsOf c_tree_List) (by kernel_rfl)
def c_tree_kid : CC := sR [oN 3 (.box 25 (xT 1)) [0],oO 4 (.assign (nB false))] [0,3] (.seq (.block 0 (sR [mO 6 0,oO 7 (cL 140 #[(xT 6)] #[3]),aO 5 7] [0,3,5] (cD 5 (sR [fO 8 25 3 0,lO 9 3 8,oO 10 (.binOp .eql 3 (xT 9) (nI 10) 3),mO 11 10,oG 12 (fA 25 3 2) 11 true,oG 13 (lD 23 12) 11 true,oG 14 (bL 13 23) 11 true,oG 15 (.binOp .eql 3 (xT 14) (nI 0) 3) 11 true,oO 16 (.pick (xT 11) (xT 15) (nB false)),mO 17 16,oG 18 (fA 25 3 1) 17 true,oG 19 (lD 22 18) 17 true,oG 20 (bL 19 22) 17 true,oG 21 (.binOp .eql 3 (xT 20) (nI 1) 3) 17 true,oO 22 (.pick (xT 17) (xT 21) (nB false)),mO 23 22,oG 24 (mV 0) 23 true,oG 25 (.binOp .sub 3 (xT 24) (nI 2) 3) 23 true,oG 26 (fA 25 3 1) 23 true,oG 27 (lD 22 26) 23 true,oG 28 (.indexAddr 22 (xT 27) (nI 0)) 23 true,oG 29 (lD 51 28) 23 true,oG 30 (cL 186 #[(xT 25),(xT 29)] #[3,51]) 23 true,oO 31 (.pick (xT 23) (xT 30) (nB false)),aO 4 31] [4] (.ret)) (sR [mO 33 0,oO 34 (.binOp .eql 3 (xT 33) (nI 9) 3),aO 32 34] [3,32] (cD 32 (sR [fO 35 25 3 0,lO 36 3 35,oO 37 (.binOp .eql 3 (xT 36) (nI 1) 3),aO 4 37] [4] (.ret)) (.skip)))))) (.keep [3] (sR [fO 38 25 3 0,lO 39 3 38,oO 40 (.binOp .neq 3 (xT 39) (nI 10) 3),aO 4 40] [4] (.ret))))
theorem t_tree_kid : Txt Tryz.prog 181 41 [(.tmp 4)] c_tree_kid := txt_of (code := Tryz.f181.body.getD .ret) mixed (by kernel_rfl) Tryz.func181 (by kernel_rfl) Tryz.ntmps181 (by kernel_rfl) (ls := lsOf c_tree_kid) (by kernel_rfl)
def k1_tree_right : CC := sR [mO 87 7,oO 88 (.unOp .not 4 (xT 87)),mO 89 88,oG 90 (lD 25 6) 89 false,oG 91 (mV 1) 89 false,oG 92 (.binOp .sub 3 (xT 91) (nI 1) 3) 89 false,oG 93 (cL 123 #[(xT 90),(xT 92)] #[25,3]) 89 false,oG 94 (.unOp .not 4 (xT 93)) 89 false,oO 95 (.pick (xT 89) (nB true) (xT 94))] [1,2,71,72,73,95] (cD 95 (sR [oO 4 (.assign (nB false))] [4] (.ret)) (.skip))
def l1_tree_right : CC := sR [oO 74 (bO .lss 3 73 72 3)] [1,2,71,72,73,74] (.seq (cD 74 (.skip) (.exit 1)) (.keep [1,2,71,72,73] (.seq (.block 2 (sR [oO 75 (iA 23 71 73),lO 76 25 75,oN 6 (.alloc 25) [1],oS (.store 25 (xT 6) (xT 76))] [1,2,6,71,72,73] (sR [fO 77 25 6 0,lO 78 3 77,oO 79 (.binOp .neq 3 (xT 78) (nI 10) 3),aO 7 79] [1,2,6,7,71,72,73] (.seq (sR [fO 80 25 2 0,lO 81 3 80,oO 82 (.binOp .neq 3 (xT 81) (nI 1) 3)] [1,2,6,7,71,72,73,82] (cD 82 (.reg [fO 83 25 2 0,lO 84 3 83,lO 85 25 6,oO 86 (cL 181 #[(xT 84),(xT 85)] #[3,25]),aO 7 86] [1,2,6,7,71,72,73]) (.skip))) (.keep [1,2,6,7,71,72,73] k1_tree_right))))) (.keep [1,2,71,72,73] (.reg [oO 96 (.binOp .add 3 (xT 73) (nI 1) 3),mO 73 96] [1,2,71,72,73])))))
def k2_tree_right : CC := .seq (sR [fO 70 25 2 2,lO 71 23 70,oO 72 (bL 71 23),oO 73 (.move (nI 0))] [1,2,71,72,73] (.block 1 (.loop l1_tree_right))) (.keep [] (sR [oO 4 (.assign (nB true))] [4] (.ret))) 
def c_tree_right : CC := sR [oN 2 (.box 25 (xT 0)) [0],oO 4 (.assign (nB false))] [1,2] (.seq (.block 0 (sR [fO 9 25 2 0,lO 10 3 9,oO 11 (.binOp .eql 3 (xT 10) (nI 0) 3),aO 8 11] [1,2,8] (cD 8 (sR [fO 12 25 2 1,lO 13 22 12,oO 14 (bL 13 22),oO 15 (.binOp .eql 3 (xT 14) (nI 0) 3),mO 16 15,oG 17 (fA 25 2 2) 16 true,oG 18 (lD 23 17) 16 true,oG 19 (bL 18 23) 16 true,oG 20 (.binOp .eql 3 (xT 19) (nI 0) 3) 16 true,oO 21 (.pick (xT 16) (xT 20) (nB false)),aO 4 21] [4] (.ret)) (sR [fO 23 25 2 0,lO 24 3 23,oO 25 (.binOp .eql 3 (xT 24) (nI 10) 3),aO 22 25] [1,2,22] (cD 22 (sR [fO 26 25 2 1,lO 27 22 26,oO 28 (bL 27 22),oO 29 (.binOp .eql 3 (xT 28) (nI 1) 3),mO 30 29,oG 31 (fA 25 2 2) 30 true,oG 32 (lD 23 31) 30 true,oG 33 (bL 32 23) 30 true,oG 34 (.binOp .eql 3 (xT 33) (nI 0) 3) 30 true,oO 35 (.pick (xT 30) (xT 34) (nB false)),aO 4 35] [4] (.ret)) (sR [mO 37 1,oO 38 (.binOp .eql 3 (xT 37) (nI 0) 3),aO 36 38] [1,2,36] (cD 36 (sR [oO 4 (.assign (nB false))] [4] (.ret)) (sR [fO 40 25 2 0,lO 41 3 40,oO 42 (.binOp .eql 3 (xT 41) (nI 1) 3),aO 39 42] [1,2,39] (cD 39 (sR [fO 43 25 2 1,lO 44 22 43,oO 45 (bL 44 22),oO 46 (.binOp .geq 3 (xT 45) (nI 65536) 3),mO 47 46,oG 48 (fA 25 2 2) 47 false,oG 49 (lD 23 48) 47 false,oG 50 (bL 49 23) 47 false,oG 51 (.binOp .geq 3 (xT 50) (nI 65536) 3) 47 false,oO 52 (.pick (xT 47) (nB true) (xT 51))] [1,2,52] (cD 52 (sR [oO 4 (.assign (nB false))] [4] (.ret)) (.skip))) (sR [fO 54 25 2 0,lO 55 3 54,oO 56 (cL 61 #[(xT 55)] #[3]),oO 57 (.unOp .not 4 (xT 56)),mO 58 57,oG 59 (fA 25 2 1) 58 false,oG 60 (lD 22 59) 58 false,oG 61 (bL 60 22) 58 false,oG 62 (.binOp .gtr 3 (xT 61) (nI 0) 3) 58 false,oO 63 (.pick (xT 58) (nB true) (xT 62)),mO 64 63,oG 65 (fA 25 2 2) 64 false,oG 66 (lD 23 65) 64 false,oG 67 (bL 66 23) 64 false,oG 68 (.binOp .geq 3 (xT 67) (nI 1048576) 3) 64 false,oO 69 (.pick (xT 64) (nB true) (xT 68)),aO 53 69] [1,2,53] (cD 53 (sR [oO 4 (.assign (nB false))] [4] (.ret)) (.skip)))))))))))) (.keep [1,2] k2_tree_right))
theorem t_tree_right : Txt Tryz.prog 123 97 [(.tmp 4)] c_tree_right := txt_of (code := Tryz.f123.body.getD .ret) mixed (by kernel_rfl) Tryz.func123 (by kernel_rfl) Tryz.ntmps123 (by kernel_rfl) (ls := lsOf c_tree_right) (by kernel_rfl)
def c_tree_Right : CC := sR [oN 1 (.box 25 (xT 0)) [0],oO 2 (.assign (nB false))] [1] (sR [lO 3 25 1,oO 4 (cL 123 #[(xT 3),(nI 64)] #[25,3]),aO 2 4] [2] (.ret))
theorem t_tree_Right : Txt Tryz.prog 74 5 [(.tmp 2)] c_tree_Right := txt_of (code := Tryz.f74.body.getD .ret) mixed (by kernel_rfl) Tryz.func74 (by kernel_rfl) Tryz.ntmps74 (by kernel_rfl) (ls := lsOf c_tree_Right) (by kernel_rfl)
def l1_slices_Equal_uint64_uint64 : CC := sR [oO 14 (bO .lss 3 13 12 3)] [0,1,12,13,14] (.seq (cD 14 (.skip) (.exit 0)) (.keep [0,1,12,13] (.seq (.block 1 (sR [mO 15 13,aO 5 15] [0,1,5,12,13] (sR [mO 16 0,mO 17 5,oO 18 (iA 22 16 17),lO 19 51 18,mO 20 1,mO 21 5,oO 22 (iA 22 20 21),lO 23 51 22,oO 24 (bO .neq 51 19 23 51)] [0,1,12,13,24] (cD 24 (sR [oO 4 (.assign (nB false))] [4] (.ret)) (.skip))))) (.keep [0,1,12,13] (.reg [oO 25 (.binOp .add 3 (xT 13) (nI 1) 3),mO 13 25] [0,1,12,13]))))) 
def c_slices_Equal_uint64_uint64 : CC := sR [oO 4 (.assign (nB false))] [0,1] (.seq (sR [mO 6 0,oO 7 (bL 6 22),mO 8 1,oO 9 (bL 8 22),oO 10 (bO .neq 3 7 9 3)] [0,1,10] (cD 10 (sR [oO 4 (.assign (nB false))] [4] (.ret)) (.skip))) (.keep [0,1] (.seq (sR [mO 11 0,oO 12 (bL 11 22),oO 13 (.move (nI 0))] [0,1,12,13] (.block 0 (.loop l1_slices_Equal_uint64_uint64))) (.keep [] (sR [oO 4 (.assign (nB true))] [4] (.ret))))))
theorem t_slices_Equal_uint64_uint64 : Txt Tryz.prog 114 26 [(.tmp 4)] c_slices_Equal_uint64_uint64 := txt_of (code := Tryz.f114.body.getD .ret) mixed (by kernel_rfl) Tryz.func114 (by kernel_rfl) Tryz.ntmps114 (by kernel_rfl) (ls := lsOf c_slices_Equal_uint64_uint64) (by kernel_rfl)
def l1_tree_Equal : CC := sR [oO 50 (bO .lss 3 49 48 3)] [2,3,48,49,50] (.seq (cD 50 (.skip) (.exit 0)) (.keep [2,3,48,49] (.seq (.block 1 (sR [mO 51 49,aO 5 51] [2,3,5,48,49] (sR [lO 52 25 2,mO 53 5,⟨some 54,(cL 115 #[(xT 52),(xT 53)] #[25,3]),none,[],2,[],true⟩,⟨some 55,(lD 25 3),none,[],3,[2],false⟩,mO 56 5,oO 57 (cL 115 #[(xT 55),(xT 56)] #[25,3]),oO 58 (bO .neq 51 54 57 51)] [2,3,48,49,58] (cD 58 (sR [oO 4 (.assign (nB false))] [4] (.ret)) (.skip))))) (.keep [2,3,48,49] (.reg [oO 59 (.binOp .add 3 (xT 49) (nI 1) 3),mO 49 59] [2,3,48,49])))))
def l2_tree_Equal : CC := sR [oO 68 (bO .lss 3 67 66 3)] [2,3,66,67,68] (.seq (cD 68 (.skip) (.exit 2)) (.keep [2,3,66,67] (.seq (.block 3 (sR [mO 69 67,aO 6 69] [2,3,6,66,67] (sR [lO 70 25 2,mO 71 6,⟨some 72,(cL 116 #[(xT 70),(xT 71)] #[25,3]),none,[],2,[],true⟩,⟨some 73,(lD 25 3),none,[],3,[2],false⟩,mO 74 6,oO 75 (cL 116 #[(xT 73),(xT 74)] #[25,3]),oO 76 (cL 59 #[(xT 72),(xT 75)] #[25,25]),oO 77 (.unOp .not 4 (xT 76))] [2,3,66,67,77] (cD 77 (sR [oO 4 (.assign (nB false))] [4] (.ret)) (.skip))))) (.keep [2,3,66,67] (.reg [oO 78 (.binOp .add 3 (xT 67) (nI 1) 3),mO 67 78] [2,3,66,67])))))
def k1_tree_Equal : CC := .seq (sR [fO 42 25 2 1,lO 43 22 42,oO 44 (bL 43 22),fO 45 25 3 1,lO 46 22 45,oO 47 (bL 46 22),oO 48 (bC .max #[(xT 44),(xT 47)] #[3,3]),oO 49 (.move (nI 0))] [2,3,48,49] (.block 0 (.loop l1_tree_Equal))) (.keep [2,3] (.seq (sR [fO 60 25 2 2,lO 61 23 60,oO 62 (bL 61 23),fO 63 25 3 2,lO 64 23 63,oO 65 (bL 64 23),oO 66 (bC .max #[(xT 62),(xT 65)] #[3,3]),oO 67 (.move (nI 0))] [2,3,66,67] (.block 2 (.loop l2_tree_Equal))) (.keep [] (sR [oO 4 (.assign (nB true))] [4] (.ret))))) 
def c_tree_Equal : CC := sR [oN 2 (.box 25 (xT 0)) [0],oN 3 (.box 25 (xT 1)) [1],oO 4 (.assign (nB false))] [2,3] (.seq (sR [fO 7 25 2 0,lO 8 3 7,fO 9 25 3 0,lO 10 3 9,oO 11 (bO .neq 3 8 10 3),mO 12 11,oG 13 (fA 25 2 0) 12 false,oG 14 (lD 3 13) 12 false,oG 15 (.binOp .eql 3 (xT 14) (nI 0) 3) 12 false,oO 16 (.pick (xT 12) (nB true) (xT 15))] [2,3,16] (cD 16 (sR [fO 17 25 2 0,lO 18 3 17,fO 19 25 3 0,lO 20 3 19,oO 21 (bO .eql 3 18 20 3),aO 4 21] [4] (.ret)) (.skip))) (.keep [2,3] (.seq (sR [fO 22 25 2 0,lO 23 3 22,oO 24 (.binOp .neq 3 (xT 23) (nI 1) 3),mO 25 24,oG 26 (fA 25 2 2) 25 true,oG 27 (lD 23 26) 25 true,oG 28 (bL 27 23) 25 true,oG 29 (fA 25 3 2) 25 true,oG 30 (lD 23 29) 25 true,oG 31 (bL 30 23) 25 true,oG 32 (bO .neq 3 28 31 3) 25 true,oG 33 (mV 32) 25 true,oG 34 (fA 25 2 1) 33 false,oG 35 (lD 22 34) 33 false,oG 36 (fA 25 3 1) 33 false,oG 37 (lD 22 36) 33 false,oG 38 (cL 114 #[(xT 35),(xT 37)] #[22,22]) 33 false,oG 39 (.unOp .not 4 (xT 38)) 33 false,oG 40 (.pick (xT 33) (nB true) (xT 39)) 25 true,oO 41 (.pick (xT 25) (xT 40) (nB false))] [2,3,41] (cD 41 (sR [oO 4 (.assign (nB false))] [4] (.ret)) (.skip))) (.keep [2,3] (.stop k1_tree_Equal)))))
theorem t_tree_Equal : Txt Tryz.prog 59 79 [(.tmp 4)] c_tree_Equal := txt_of (code := Tryz.f59.body.getD .ret) mixed (by kernel_rfl) Tryz.func59 (by kernel_rfl) Tryz.ntmps59 (by kernel_rfl) (ls := lsOf c_tree_Equal) (by kernel_rfl)
def c_canon_writer_give : CC := sR [oO 4 (.assign (nI 0))] [0,1] (sR [mO 6 0,oO 7 (.nilCheck (xT 6)),fO 8 116 7 0,lO 9 22 8,oO 10 (bL 9 22),aO 5 10] [0,1,5] (sR [mO 11 0,mO 12 0,oO 13 (.nilCheck (xT 12)),fO 14 116 13 0,lO 15 22 14,mO 16 1,oN 17 (bC .append #[(xT 15),(xT 16)] #[22,3]) [1],oO 18 (.nilCheck (xT 11)),fO 19 116 18 0,oS (.store 22 (xT 19) (xT 17))] [5] (sR [mO 20 5,aO 4 20] [4] (.ret))))
theorem t_canon_writer_give : Txt Tryz.prog 77 21 [(.tmp 4)] c_canon_writer_give := txt_of (code := Tryz.f77.body.getD .ret) mixed (by kernel_rfl) Tryz.func77 (by kernel_rfl) Tryz.ntmps77 (by kernel_rfl) (ls := lsOf c_canon_writer_give) (by kernel_rfl)
def k1_canon_writer_point : CC := sR [lO 29 175 7,oO 30 (cL 184 #[(xT 29)] #[175]),mO 28 30,xO 31 28 0,xO 32 28 1,aO 9 31,aO 10 32] [0,1,9,10] (sR [mO 33 0,oO 34 (.nilCheck (xT 33)),fO 35 116 34 0,lO 36 22 35,mO 37 1,mO 38 9,oO 39 (iA 22 36 37),oS (.store 51 (xT 39) (xT 38))] [10] (sR [mO 40 10,aO 8 40] [8] (.ret))) 
def c_canon_writer_point : CC := sR [oN 7 (.box 175 (xT 3)) [1],oO 8 (.assign (nB false))] [0,1,2,7] (sR [mO 11 2,mO 12 1,oO 13 (bO .sub 3 11 12 3),oO 14 (.binOp .sub 3 (xT 13) (nI 1) 3),fO 15 175 7 1,oS (.store 3 (xT 15) (xT 14))] [0,1,7] (.seq (sR [fO 16 175 7 0,lO 17 3 16,oO 18 (.binOp .eql 3 (xT 17) (nI 1) 3),mO 19 18,oG 20 (fA 175 7 2) 19 true,oG 21 (lD 3 20) 19 true,oG 22 (fA 175 7 3) 19 true,oG 23 (lD 3 22) 19 true,oG 24 (bO .add 3 21 23 3) 19 true,oG 25 (.binOp .eql 3 (xT 24) (nI 0) 3) 19 true,oO 26 (.pick (xT 19) (xT 25) (nB false))] [0,1,7,26] (cD 26 (.reg [fO 27 175 7 1,oS (.store 3 (xT 27) (.const (.int .i64 (-1))))] [0,1,7]) (.skip))) (.keep [0,1,7] k1_canon_writer_point)))
theorem t_canon_writer_point : Txt Tryz.prog 125 41 [(.tmp 8)] c_canon_writer_point := txt_of (code := Tryz.f125.body.getD .ret) mixed (by kernel_rfl) Tryz.func125 (by kernel_rfl) Tryz.ntmps125 (by kernel_rfl) (ls := lsOf c_canon_writer_point) (by kernel_rfl)
def l1_canon_writer_tree : CC := sR [oO 91 (bO .lss 3 90 89 3)] [0,1,5,9,10,88,89,90,91] (.seq (cD 91 (.skip) (.exit 1)) (.keep [0,1,5,9,10,88,89,90] (.seq (.block 2 (sR [oO 92 (iA 23 88 90),lO 93 25 92,oN 12 (.alloc 25) [2],oS (.store 25 (xT 12) (xT 93))] [0,1,5,9,10,12,88,89,90] (.reg [mO 94 10,lO 95 25 12,oO 96 (cL 115 #[(xT 95),(nI 0)] #[25,3]),oO 97 (.buildSlice 22 1 #[(0,(xT 96))]),oN 98 (bC .append #[(xT 94),(xT 97)] #[22,22]) [3],aO 10 98] [0,1,5,9,10,88,89,90]))) (.reg [oO 99 (.binOp .add 3 (xT 90) (nI 1) 3),mO 90 99] [0,1,5,9,10,88,89,90])))) 
def c_canon_writer_tree : CC := sR [oN 5 (.box 25 (xT 2)) [1],oO 6 (.assign (nB false))] [0,1,5] (.seq (.block 0 (sR [fO 17 25 5 0,lO 18 3 17,oO 19 (.binOp .eql 3 (xT 18) (nI 0) 3),aO 16 19] [0,1,5,16] (cD 16 (sR [oO 6 (.assign (nB true))] [6] (.ret)) (sR [fO 21 25 5 0,lO 22 3 21,oO 23 (.binOp .eql 3 (xT 22) (nI 1) 3),aO 20 23] [0,1,5,20] (cD 20 (sR [mO 24 0,fO 25 25 5 1,lO 26 22 25,oO 27 (bL 26 22),fO 28 25 5 2,lO 29 23 28,oO 30 (bL 29 23),oO 31 (bO .add 3 27 30 3),oO 32 (cL 77 #[(xT 24),(xT 31)] #[114,3]),aO 7 32] [0,1,5,7] (sR [mO 33 0,mO 34 1,mO 35 7,fO 36 25 5 1,lO 37 22 36,oO 38 (bL 37 22),fO 39 25 5 2,lO 40 23 39,oO 41 (bL 40 23),oO 42 (.build 175 #[(0,(nI 1)),(2,(xT 38)),(3,(xT 41))]),oO 43 (cL 125 #[(xT 33),(xT 34),(xT 35),(xT 42)] #[114,3,3,175]),mO 44 43,oG 45 (mV 0) 44 true,oG 46 (mV 7) 44 true,oG 47 (fA 25 5 1) 44 true,oG 48 (lD 22 47) 44 true,oG 49 (bL 48 22) 44 true,oG 50 (lD 25 5) 44 true,oG 51 (cL 126 #[(xT 45),(xT 46),(xT 49),(xT 50)] #[114,3,3,25]) 44 true,oO 52 (.pick (xT 44) (xT 51) (nB false)),aO 6 52] [6] (.ret))) (sR [fO 54 25 5 0,lO 55 3 54,oO 56 (.binOp .eql 3 (xT 55) (nI 9) 3),aO 53 56] [0,1,5,53] (cD 53 (sR [mO 57 0,mO 58 1,lO 59 25 5,oO 60 (cL 127 #[(xT 57),(xT 58),(xT 59)] #[114,3,25]),aO 6 60] [6] (.ret)) (sR [fO 62 25 5 0,lO 63 3 62,oO 64 (.binOp .eql 3 (xT 63) (nI 8) 3),aO 61 64] [0,1,5,61] (cD 61 (sR [mO 65 0,fO 66 25 5 2,lO 67 23 66,oO 68 (bL 67 23),oO 69 (cL 77 #[(xT 65),(xT 68)] #[114,3]),aO 8 69] [0,1,5,8] (sR [mO 70 0,mO 71 1,mO 72 8,fO 73 25 5 2,lO 74 23 73,oO 75 (bL 74 23),oO 76 (.build 175 #[(0,(nI 2)),(4,(nI 6)),(5,(xT 75))]),oO 77 (cL 125 #[(xT 70),(xT 71),(xT 72),(xT 76)] #[114,3,3,175]),mO 78 77,oG 79 (mV 0) 78 true,oG 80 (mV 8) 78 true,oG 81 (lD 25 5) 78 true,oG 82 (cL 128 #[(xT 79),(xT 80),(xT 81)] #[114,3,25]) 78 true,oO 83 (.pick (xT 78) (xT 82) (nB false)),aO 6 83] [6] (.ret))) (.skip)))))))))) (.keep [0,1,5] (sR [fO 84 25 5 0,lO 85 3 84,oO 86 (.binOp .sub 3 (xT 85) (nI 2) 3),aO 9 86] [0,1,5,9] (sR [oO 10 (.assign nS)] [0,1,5,9,10] (.seq (sR [fO 87 25 5 2,lO 88 23 87,oO 89 (bL 88 23),oO 90 (.move (nI 0))] [0,1,5,9,10,88,89,90] (.block 1 (.loop l1_canon_writer_tree))) (.keep [0,1,5,9,10] (.stop (sR [mO 101 9,mO 102 10,oO 103 (cL 129 #[(xT 101),(xT 102)] #[3,22]),mO 100 103,xO 104 100 0,xO 105 100 1,aO 13 104,aO 14 105] [0,1,5,9,13,14] (sR [mO 106 0,mO 107 13,oO 108 (bL 107 22),oO 109 (cL 77 #[(xT 106),(xT 108)] #[114,3]),aO 15 109] [0,1,5,9,13,14,15] (sR [mO 110 0,oO 111 (.nilCheck (xT 110)),fO 112 116 111 0,lO 113 22 112,mO 114 15,oO 115 (.slice 22 (xT 113) (some (xT 114)) none none),mO 116 13,oO 117 (bC .copy #[(xT 115),(xT 116)] #[22,22])] [0,1,5,9,14,15] (sR [mO 118 14,mO 119 118,oG 120 (mV 0) 119 true,oG 121 (mV 1) 119 true,oG 122 (mV 15) 119 true,oG 123 (mV 9) 119 true,oG 124 (fA 25 5 2) 119 true,oG 125 (lD 23 124) 119 true,oG 126 (bL 125 23) 119 true,oG 127 (.build 175 #[(0,(nI 2)),(4,(xT 123)),(5,(xT 126))]) 119 true,oG 128 (cL 125 #[(xT 120),(xT 121),(xT 122),(xT 127)] #[114,3,3,175]) 119 true,oO 129 (.pick (xT 119) (xT 128) (nB false)),aO 6 129] [6] (.ret))))))))))))
theorem t_canon_writer_tree : Txt Tryz.prog 76 130 [(.tmp 6)] c_canon_writer_tree := txt_of (code := Tryz.f76.body.getD .ret) mixed (by kernel_rfl) Tryz.func76 (by kernel_rfl) Tryz.ntmps76 (by kernel_rfl) (ls := lsOf c_canon_writer_tree) (by kernel_rfl)
def l1_canon_writer_kids : CC := sR [oO 13 (bO .lss 3 12 11 3)] [0,1,10,11,12,13] (.seq (cD 13 (.skip) (.exit 0)) (.keep [0,1,10,11,12] (.seq (.block 1 (sR [mO 14 12,oO 15 (iA 23 10 12),lO 16 25 15,oN 8 (.alloc 25) [2],aO 7 14,oS (.store 25 (xT 8) (xT 16))] [0,1,7,8,10,11,12] (sR [mO 17 0,mO 18 1,mO 19 7,oO 20 (bO .add 3 18 19 3),lO 21 25 8,oO 22 (cL 76 #[(xT 17),(xT 20),(xT 21)] #[114,3,25]),oO 23 (.unOp .not 4 (xT 22))] [0,1,10,11,12,23] (cD 23 (sR [oO 6 (.assign (nB false))] [6] (.ret)) (.skip))))) (.keep [0,1,10,11,12] (.reg [oO 24 (.binOp .add 3 (xT 12) (nI 1) 3),mO 12 24] [0,1,10,11,12]))))) 
def c_canon_writer_kids : CC := sR [oN 5 (.box 25 (xT 2)) [1],oO 6 (.assign (nB false))] [0,1,5] (.seq (sR [fO 9 25 5 2,lO 10 23 9,oO 11 (bL 10 23),oO 12 (.move (nI 0))] [0,1,10,11,12] (.block 0 (.loop l1_canon_writer_kids))) (.keep [] (sR [oO 6 (.assign (nB true))] [6] (.ret))))
theorem t_canon_writer_kids : Txt Tryz.prog 128 25 [(.tmp 6)] c_canon_writer_kids := txt_of (code := Tryz.f128.body.getD .ret) mixed (by kernel_rfl) Tryz.func128 (by kernel_rfl) Tryz.ntmps128 (by kernel_rfl) (ls := lsOf c_canon_writer_kids) (by kernel_rfl)
def c_canon_writer_structure : CC := sR [oN 7 (.box 25 (xT 3)) [1],oO 8 (.assign (nB false))] [0,1,2,7] (sR [mO 9 0,oO 10 (.nilCheck (xT 9)),fO 11 116 10 0,lO 12 22 11,mO 13 1,oO 14 (.slice 22 (xT 12) (some (xT 13)) none none),fO 15 25 7 1,lO 16 22 15,oO 17 (bC .copy #[(xT 14),(xT 16)] #[22,22])] [0,1,2,7] (sR [mO 18 0,mO 19 1,mO 20 2,oO 21 (bO .add 3 19 20 3),lO 22 25 7,oO 23 (cL 128 #[(xT 18),(xT 21),(xT 22)] #[114,3,25]),aO 8 23] [8] (.ret)))
theorem t_canon_writer_structure : Txt Tryz.prog 126 24 [(.tmp 8)] c_canon_writer_structure := txt_of (code := Tryz.f126.body.getD .ret) mixed (by kernel_rfl) Tryz.func126 (by kernel_rfl) Tryz.ntmps126 (by kernel_rfl) (ls := lsOf c_canon_writer_structure) (by kernel_rfl)
def l1_canon_writer_composite : CC := sR [oO 65 (bO .lss 3 64 63 3)] [0,5,7,9,11,12,62,63,64,65] (.seq (cD 65 (.skip) (.exit 0)) (.keep [0,5,7,9,11,12,62,63,64] (.seq (.block 1 (sR [mO 66 64,oO 67 (iA 23 62 64),lO 68 25 67,oN 14 (.alloc 25) [2],aO 13 66,oS (.store 25 (xT 14) (xT 68))] [0,5,7,9,11,12,13,14,62,63,64] (sR [mO 69 0,mO 70 12,oO 71 (.binOp .add 3 (xT 70) (nI 1) 3),mO 72 13,mO 73 9,oO 74 (bO .mul 3 72 73 3),oO 75 (bO .add 3 71 74 3),mO 76 7,lO 77 25 14,oO 78 (cL 126 #[(xT 69),(xT 75),(xT 76),(xT 77)] #[114,3,3,25]),oO 79 (.unOp .not 4 (xT 78))] [0,5,7,9,11,12,62,63,64,79] (cD 79 (sR [oO 6 (.assign (nB false))] [6] (.ret)) (.skip))))) (.keep [0,5,7,9,11,12,62,63,64] (.reg [oO 80 (.binOp .add 3 (xT 64) (nI 1) 3),mO 64 80] [0,5,7,9,11,12,62,63,64])))))
def k1_canon_writer_composite : CC := sR [mO 35 0,fO 36 25 5 2,lO 37 23 36,oO 38 (bL 37 23),mO 39 9,oO 40 (bO .mul 3 38 39 3),oO 41 (.binOp .add 3 (nI 1) (xT 40) 3),oO 42 (cL 77 #[(xT 35),(xT 41)] #[114,3]),aO 12 42] [0,1,5,7,9,10,11,12] (sR [mO 43 0,oO 44 (.nilCheck (xT 43)),fO 45 116 44 0,lO 46 22 45,mO 47 12,mO 48 10,oO 49 (iA 22 46 47),oS (.store 51 (xT 49) (xT 48))] [0,1,5,7,9,11,12] (.seq (sR [mO 50 0,mO 51 1,mO 52 12,fO 53 25 5 2,lO 54 23 53,oO 55 (bL 54 23),mO 56 9,oO 57 (bO .mul 3 55 56 3),oO 58 (.build 175 #[(0,(nI 2)),(4,(nI 7)),(5,(xT 57))]),oO 59 (cL 125 #[(xT 50),(xT 51),(xT 52),(xT 58)] #[114,3,3,175]),oO 60 (.unOp .not 4 (xT 59))] [0,5,7,9,11,12,60] (cD 60 (sR [oO 6 (.assign (nB false))] [6] (.ret)) (.skip))) (.keep [0,5,7,9,11,12] (.seq (sR [fO 61 25 5 2,lO 62 23 61,oO 63 (bL 62 23),oO 64 (.move (nI 0))] [0,5,7,9,11,12,62,63,64] (.block 0 (.loop l1_canon_writer_composite))) (.keep [5,9,11] (sR [mO 81 11,mO 82 81,oG 83 (fA 25 5 2) 82 false,oG 84 (lD 23 83) 82 false,oG 85 (bL 84 23) 82 false,oG 86 (mV 9) 82 false,oG 87 (bO .add 3 85 86 3) 82 false,oG 88 (.binOp .eql 3 (xT 87) (nI 0) 3) 82 false,oO 89 (.pick (xT 82) (nB true) (xT 88)),aO 6 89] [6] (.ret))))))) 
def c_canon_writer_composite : CC := sR [oN 5 (.box 25 (xT 2)) [1],oO 6 (.assign (nB false))] [0,1,5] (sR [lO 16 25 5,oO 17 (cL 183 #[(xT 16)] #[25]),mO 15 17,xO 18 15 0,xO 19 15 1,aO 7 18,aO 8 19] [0,1,5,7,8] (sR [mO 20 7,mO 21 8,oO 22 (bO .add 3 20 21 3),aO 9 22] [0,1,5,7,8,9] (sR [fO 24 25 5 2,lO 25 23 24,oO 26 (bL 25 23),mO 27 7,mO 28 8,oO 29 (.build 175 #[(0,(nI 1)),(1,(xT 26)),(2,(xT 27)),(3,(xT 28))]),oO 30 (cL 184 #[(xT 29)] #[175]),mO 23 30,xO 31 23 0,xO 32 23 1,aO 10 31,aO 11 32] [0,1,5,7,9,10,11] (.seq (sR [mO 33 11,oO 34 (.unOp .not 4 (xT 33))] [0,1,5,7,9,10,11,34] (cD 34 (.reg [oO 10 (.assign (.const (.int .u64 0)))] [0,1,5,7,9,10,11]) (.skip))) (.keep [0,1,5,7,9,10,11] k1_canon_writer_composite)))))
theorem t_canon_writer_composite : Txt Tryz.prog 127 90 [(.tmp 6)] c_canon_writer_composite := txt_of (code := Tryz.f127.body.getD .ret) mixed (by kernel_rfl) Tryz.func127 (by kernel_rfl) Tryz.ntmps127 (by kernel_rfl) (ls := lsOf c_canon_writer_composite) (by kernel_rfl)
def c_canon_Encode : CC := sR [oN 2 (.box 25 (xT 0)) [0],oO 4 (.assign nS),oO 5 (.assign (nB false))] [1,2] (.seq (sR [lO 9 25 2,oO 10 (cL 74 #[(xT 9)] #[25]),oO 11 (.unOp .not 4 (xT 10)),mO 12 11,oG 13 (fA 25 2 0) 12 false,oG 14 (lD 3 13) 12 false,oG 15 (.binOp .eql 3 (xT 14) (nI 10) 3) 12 false,oO 16 (.pick (xT 12) (nB true) (xT 15))] [1,2,16] (cD 16 (sR [oO 4 (.assign nS),oO 5 (.assign (nB false))] [4,5] (.ret)) (.skip))) (.keep [1,2] (sR [lO 17 25 2,oO 18 (cL 31 #[(xT 17)] #[25]),oS (.store 25 (xT 2) (xT 18))] [1,2] (.seq (sR [lO 19 25 2,oO 20 (cL 75 #[(xT 19)] #[25]),aO 6 20] [1,2,6] (sR [mO 21 6,mO 22 1,oO 23 (bO .geq 3 21 22 3),mO 24 23,oG 25 (mV 6) 24 false,oG 26 (.binOp .geq 3 (xT 25) (nI 131072) 3) 24 false,oO 27 (.pick (xT 24) (nB true) (xT 26))] [2,27] (cD 27 (sR [oO 4 (.assign nS),oO 5 (.assign (nB false))] [4,5] (.ret)) (.skip)))) (.keep [2] (sR [oO 28 (.build 116 #[]),oN 29 (.box 116 (xT 28)) [1],aO 7 29] [2,7] (.stop (sR [mO 30 7,mO 31 7,⟨some 32,(cL 77 #[(xT 31),(nI 1)] #[114,3]),none,[],2,[],true⟩,⟨some 33,(lD 25 2),none,[],3,[2],false⟩,oO 34 (cL 76 #[(xT 30),(xT 32),(xT 33)] #[114,3,25]),aO 8 34] [7,8] (sR [mO 35 7,oO 36 (.nilCheck (xT 35)),fO 37 116 36 0,lO 38 22 37,mO 39 8,aO 4 38,aO 5 39] [4,5] (.ret))))))))))
theorem t_canon_Encode : Txt Tryz.prog 36 40 [(.tmp 4),(.tmp 5)] c_canon_Encode := txt_of (code := Tryz.f36.body.getD .ret) mixed (by kernel_rfl) Tryz.func36 (by kernel_rfl) Tryz.ntmps36 (by kernel_rfl) (ls := lsOf c_canon_Encode) (by kernel_rfl)
@[simp] theorem und_240 : Tryz.prog.underlying 240 = some (.slice 164) := by kernel_rfl
@[simp] theorem und_242 : Tryz.prog.underlying 242 = some (.slice 245) := by kernel_rfl
@[simp] theorem und_258 : Tryz.prog.underlying 258 = some (.slice 260) := by kernel_rfl
@[simp] theorem und_279 : Tryz.prog.underlying 279 = some (.slice 282) := by kernel_rfl
@[simp] theorem szT_245 : szT Tryz.prog 245 = some 2 := by kernel_rfl
@[simp] theorem szT_260 : szT Tryz.prog 260 = some 2 := by kernel_rfl
@[simp] theorem szT_279 : szT Tryz.prog 279 = some 1 := by kernel_rfl
@[simp] theorem szT_282 : szT Tryz.prog 282 = some 3 := by kernel_rfl
@[simp] theorem aggT_245 : aggT Tryz.prog 245 = some true := by kernel_rfl
@[simp] theorem aggT_260 : aggT Tryz.prog 260 = some true := by kernel_rfl
@[simp] theorem aggT_279 : aggT Tryz.prog 279 = some false := by kernel_rfl
@[simp] theorem aggT_282 : aggT Tryz.prog 282 = some true := by kernel_rfl
@[simp] theorem zeroT_164 : zeroT Tryz.prog 164 = some (Value.slice none 0 0) := by kernel_rfl
@[simp] theorem zeroT_245 : zeroT Tryz.prog 245 = some (Value.agg #[Value.int IntKind.i64 0,Value.int IntKind.i64 0]) := by kernel_rfl
@[simp] theorem zeroT_260 : zeroT Tryz.prog 260 = some (Value.agg #[Value.int IntKind.i64 0,Value.int IntKind.i64 0]) := by kernel_rfl
@[simp] theorem zeroT_282 : zeroT Tryz.prog 282 = some (Value.agg #[Value.int IntKind.i64 0,Value.int IntKind.i64 0,Value.int IntKind.i64 0]) := by kernel_rfl
@[simp] theorem bytesT_164 : bytesT Tryz.prog 164 = some 24 := by kernel_rfl
@[simp] theorem bytesT_245 : bytesT Tryz.prog 245 = some 16 := by kernel_rfl
@[simp] theorem bytesT_260 : bytesT Tryz.prog 260 = some 16 := by kernel_rfl
@[simp] theorem bytesT_282 : bytesT Tryz.prog 282 = some 24 := by kernel_rfl
@[simp] theorem fieldOffT_245_0 : fieldOffT Tryz.prog 245 0 = some 0 := by kernel_rfl
@[simp] theorem fieldOffT_245_1 : fieldOffT Tryz.prog 245 1 = some 1 := by kernel_rfl
@[simp] theorem fieldOffT_260_0 : fieldOffT Tryz.prog 260 0 = some 0 := by kernel_rfl
@[simp] theorem fieldOffT_260_1 : fieldOffT Tryz.prog 260 1 = some 1 := by kernel_rfl
@[simp] theorem fieldOffT_282_0 : fieldOffT Tryz.prog 282 0 = some 0 := by kernel_rfl
@[simp] theorem fieldOffT_282_1 : fieldOffT Tryz.prog 282 1 = some 2 := by kernel_rfl
@[simp] theorem buildA_245 (ps : List (Nat × A)) : buildA Tryz.prog 245 ps = (fillA (fun i => ([(0,1),(1,1)] : List (Nat × Nat))[i]?) [A.v (Value.int IntKind.i64 0),A.v (Value.int IntKind.i64 0)] ps).map A.agg := by kernel_rfl
@[simp] theorem buildA_260 (ps : List (Nat × A)) : buildA Tryz.prog 260 ps = (fillA (fun i => ([(0,1),(1,1)] : List (Nat × Nat))[i]?) [A.v (Value.int IntKind.i64 0),A.v (Value.int IntKind.i64 0)] ps).map A.agg := by kernel_rfl
@[simp] theorem buildA_282 (ps : List (Nat × A)) : buildA Tryz.prog 282 ps = (fillA (fun i => ([(0,2),(2,1)] : List (Nat × Nat))[i]?) [A.v (Value.int IntKind.i64 0),A.v (Value.int IntKind.i64 0),A.v (Value.int IntKind.i64 0)] ps).map A.agg := by kernel_rfl
def c_cmp_isNaN_int : CC := sR [oO 2 (.assign (nB false))] [0] (sR [mO 3 0,mO 4 0,oO 5 (bO .neq 3 3 4 3),aO 2 5] [2] (.ret))
theorem t_cmp_isNaN_int : Txt Tryz.prog 266 6 [(.tmp 2)] c_cmp_isNaN_int := txt_of (code := Tryz.f266.body.getD .ret) mixed (by kernel_rfl) Tryz.func266 (by kernel_rfl) Tryz.ntmps266 (by kernel_rfl) (ls := lsOf c_cmp_isNaN_int) (by kernel_rfl)
def c_cmp_Compare_int : CC := sR [oO 4 (.assign (nI 0))] [0,1] (sR [mO 7 0,oO 8 (cL 266 #[(xT 7)] #[3]),aO 5 8] [0,1,5] (sR [mO 9 1,oO 10 (cL 266 #[(xT 9)] #[3]),aO 6 10] [0,1,5,6] (.seq (sR [mO 11 5] [0,1,6,11] (cD 11 (.seq (sR [mO 12 6] [12] (cD 12 (sR [oO 4 (.assign (nI 0))] [4] (.ret)) (.skip))) (.keep [] (sR [oO 4 (.assign (.const (.int .i64 (-1))))] [4] (.ret)))) (.skip))) (.keep [0,1,6] (.seq (sR [mO 13 6] [0,1,13] (cD 13 (sR [oO 4 (.assign (nI 1))] [4] (.ret)) (.skip))) (.keep [0,1] (.seq (sR [mO 14 0,mO 15 1,oO 16 (bO .lss 3 14 15 3)] [0,1,16] (cD 16 (sR [oO 4 (.assign (.const (.int .i64 (-1))))] [4] (.ret)) (.skip))) (.keep [0,1] (.seq (sR [mO 17 0,mO 18 1,oO 19 (bO .gtr 3 17 18 3)] [19] (cD 19 (sR [oO 4 (.assign (nI 1))] [4] (.ret)) (.skip))) (.keep [] (sR [oO 4 (.assign (nI 0))] [4] (.ret))))))))))))
theorem t_cmp_Compare_int : Txt Tryz.prog 243 20 [(.tmp 4)] c_cmp_Compare_int := txt_of (code := Tryz.f243.body.getD .ret) mixed (by kernel_rfl) Tryz.func243 (by kernel_rfl) Tryz.ntmps243 (by kernel_rfl) (ls := lsOf c_cmp_Compare_int) (by kernel_rfl)
def l1_cmp_Or_int : CC := sR [oO 9 (bO .lss 3 8 7 3)] [3,6,7,8,9] (.seq (cD 9 (.skip) (.exit 0)) (.keep [3,6,7,8] (.seq (.block 1 (sR [oO 10 (iA 164 6 8),lO 11 3 10,aO 5 11] [3,5,6,7,8] (sR [mO 12 5,mO 13 3,oO 14 (bO .neq 3 12 13 3)] [3,5,6,7,8,14] (cD 14 (sR [mO 15 5,aO 2 15] [2] (.ret)) (.skip))))) (.keep [3,6,7,8] (.reg [oO 16 (.binOp .add 3 (xT 8) (nI 1) 3),mO 8 16] [3,6,7,8]))))) 
def c_cmp_Or_int : CC := sR [oO 2 (.assign (nI 0))] [0] (sR [oO 3 (.assign (nI 0))] [0,3] (.seq (sR [mO 6 0,oO 7 (bL 6 164),oO 8 (.move (nI 0))] [3,6,7,8] (.block 0 (.loop l1_cmp_Or_int))) (.keep [3] (sR [mO 17 3,aO 2 17] [2] (.ret)))))
theorem t_cmp_Or_int : Txt Tryz.prog 310 18 [(.tmp 2)] c_cmp_Or_int := txt_of (code := Tryz.f310.body.getD .ret) mixed (by kernel_rfl) Tryz.func310 (by kernel_rfl) Tryz.ntmps310 (by kernel_rfl) (ls := lsOf c_cmp_Or_int) (by kernel_rfl)
def c_pair_scored_ahead : CC := sR [oN 2 (.box 282 (xT 0)) [0],oN 3 (.box 282 (xT 1)) [1],oO 4 (.assign (nB false))] [2,3] (sR [fO 5 282 3 1,lO 6 3 5,fO 7 282 2 1,lO 8 3 7,⟨some 9,(cL 243 #[(xT 6),(xT 8)] #[3,3]),none,[],4,[],true⟩,fO 10 282 2 0,fO 11 245 10 0,⟨some 12,(lD 3 11),none,[],7,[4],false⟩,fO 13 282 3 0,fO 14 245 13 0,⟨some 15,(lD 3 14),none,[],10,[4],false⟩,⟨some 16,(cL 243 #[(xT 12),(xT 15)] #[3,3]),none,[],11,[],true⟩,fO 17 282 2 0,fO 18 245 17 1,⟨some 19,(lD 3 18),none,[],14,[4,11],false⟩,fO 20 282 3 0,fO 21 245 20 1,⟨some 22,(lD 3 21),none,[],17,[4,11],false⟩,oO 23 (cL 243 #[(xT 19),(xT 22)] #[3,3]),oO 24 (.buildSlice 164 3 #[(0,(xT 9)),(1,(xT 16)),(2,(xT 23))]),oO 25 (cL 310 #[(xT 24)] #[164]),oO 26 (.binOp .lss 3 (xT 25) (nI 0) 3),aO 4 26] [4] (.ret))
theorem t_pair_scored_ahead : Txt Tryz.prog 309 27 [(.tmp 4)] c_pair_scored_ahead := txt_of (code := Tryz.f309.body.getD .ret) mixed (by kernel_rfl) Tryz.func309 (by kernel_rfl) Tryz.ntmps309 (by kernel_rfl) (ls := lsOf c_pair_scored_ahead) (by kernel_rfl)
def c_pair_row_Push : CC := .reg [mO 4 0,mO 5 0,oO 6 (.nilCheck (xT 5)),⟨some 7,(lD 279 6),none,[],3,[],true⟩,mO 8 1,oO 9 (.typeAssert (xT 8) 20 282 false),⟨some 10,(.buildSlice 279 1 #[(0,(xT 9))]),none,[],6,[3],false⟩,oN 11 (bC .append #[(xT 7),(xT 10)] #[279,279]) [1],oO 12 (.nilCheck (xT 4)),oS (.store 279 (xT 12) (xT 11))] []
theorem t_pair_row_Push : Txt Tryz.prog 307 13 [] c_pair_row_Push := txt_of (code := Tryz.f307.body.getD .ret) mixed (by kernel_rfl) Tryz.func307 (by kernel_rfl) Tryz.ntmps307 (by kernel_rfl) (ls := lsOf c_pair_row_Push) (by kernel_rfl)
def c_pair_row_Pop : CC := sR [oO 2 (.assign (.const .nilIface))] [0] (sR [mO 5 0,oO 6 (.nilCheck (xT 5)),lO 7 279 6,aO 3 7] [0,3] (sR [mO 8 3,mO 9 3,oO 10 (bL 9 279),oO 11 (.binOp .sub 3 (xT 10) (nI 1) 3),oO 12 (iA 279 8 11),lO 13 282 12,oN 4 (.alloc 282) [1],oS (.store 282 (xT 4) (xT 13))] [0,3,4] (sR [mO 14 0,mO 15 3,mO 16 3,oO 17 (bL 16 279),oO 18 (.binOp .sub 3 (xT 17) (nI 1) 3),oO 19 (.slice 279 (xT 15) none (some (xT 18)) none),oO 20 (.nilCheck (xT 14)),oS (.store 279 (xT 20) (xT 19))] [4] (sR [lO 21 282 4,oO 22 (.makeInterface 282 (xT 21)),aO 2 22] [2] (.ret)))))
theorem t_pair_row_Pop : Txt Tryz.prog 306 23 [(.tmp 2)] c_pair_row_Pop := txt_of (code := Tryz.f306.body.getD .ret) mixed (by kernel_rfl) Tryz.func306 (by kernel_rfl) Tryz.ntmps306 (by kernel_rfl) (ls := lsOf c_pair_row_Pop) (by kernel_rfl)
def c_pair_row_Len : CC := sR [oO 2 (.assign (nI 0))] [0] (sR [mO 3 0,oO 4 (bL 3 279),aO 2 4] [2] (.ret))
theorem t_pair_row_Len : Txt Tryz.prog 237 5 [(.tmp 2)] c_pair_row_Len := txt_of (code := Tryz.f237.body.getD .ret) mixed (by kernel_rfl) Tryz.func237 (by kernel_rfl) Tryz.ntmps237 (by kernel_rfl) (ls := lsOf c_pair_row_Len) (by kernel_rfl)
def c_pair_row_Less : CC := sR [oO 6 (.assign (nB false))] [0,1,2] (sR [mO 7 0,mO 8 1,oO 9 (iA 279 7 8),lO 10 282 9,mO 11 0,mO 12 2,oO 13 (iA 279 11 12),lO 14 282 13,oO 15 (cL 309 #[(xT 10),(xT 14)] #[282,282]),aO 6 15] [6] (.ret))
theorem t_pair_row_Less : Txt Tryz.prog 305 16 [(.tmp 6)] c_pair_row_Less := txt_of (code := Tryz.f305.body.getD .ret) mixed (by kernel_rfl) Tryz.func305 (by kernel_rfl) Tryz.ntmps305 (by kernel_rfl) (ls := lsOf c_pair_row_Less) (by kernel_rfl)
def c_pair_row_Swap : CC := .reg [mO 6 0,mO 7 1,mO 8 0,mO 9 2,mO 10 0,mO 11 2,oO 12 (iA 279 10 11),lO 13 282 12,mO 14 0,mO 15 1,oO 16 (iA 279 14 15),lO 17 282 16,oO 18 (iA 279 6 7),oS (.store 282 (xT 18) (xT 13)),oO 19 (iA 279 8 9),oS (.store 282 (xT 19) (xT 17))] []
theorem t_pair_row_Swap : Txt Tryz.prog 308 20 [] c_pair_row_Swap := txt_of (code := Tryz.f308.body.getD .ret) mixed (by kernel_rfl) Tryz.func308 (by kernel_rfl) Tryz.ntmps308 (by kernel_rfl) (ls := lsOf c_pair_row_Swap) (by kernel_rfl)
def l1_container_heap_up : CC := .block 1 (sR [mO 5 1,oO 6 (.binOp .sub 3 (xT 5) (nI 1) 3),oO 7 (.binOp .quo 3 (xT 6) (nI 2) 3),aO 4 7] [0,1,4] (.seq (sR [mO 8 4,mO 9 1,oO 10 (bO .eql 3 8 9 3),mO 11 10,oG 12 (mV 0) 11 false,oG 13 (mV 1) 11 false,oG 14 (mV 4) 11 false,oG 15 (.call { callee := (.invoke (xT 12) "Less"),args := #[(xT 13),(xT 14)],argTypes := #[3,3] }) 11 false,oG 16 (.unOp .not 4 (xT 15)) 11 false,oO 17 (.pick (xT 11) (nB true) (xT 16))] [0,1,4,17] (cD 17 (.exit 0) (.skip))) (.keep [0,1,4] (sR [mO 18 0,mO 19 4,mO 20 1,oO 21 (.call { callee := (.invoke (xT 18) "Swap"),args := #[(xT 19),(xT 20)],argTypes := #[3,3] })] [0,4] (.reg [mO 22 4,aO 1 22] [0,1]))))) 
def c_container_heap_up : CC := .block 0 (.loop l1_container_heap_up)
theorem t_container_heap_up : Txt Tryz.prog 261 23 [] c_container_heap_up := txt_of (code := Tryz.f261.body.getD .ret) mixed (by kernel_rfl) Tryz.func261 (by kernel_rfl) Tryz.ntmps261 (by kernel_rfl) (ls := lsOf c_container_heap_up) (by kernel_rfl)
def k1_container_heap_down : CC := .seq (sR [mO 35 0,mO 36 9,mO 37 7,oO 38 (.call { callee := (.invoke (xT 35) "Less"),args := #[(xT 36),(xT 37)],argTypes := #[3,3] }),oO 39 (.unOp .not 4 (xT 38))] [0,1,2,7,9,39] (cD 39 (.exit 0) (.skip))) (.keep [0,1,2,7,9] (sR [mO 40 0,mO 41 7,mO 42 9,oO 43 (.call { callee := (.invoke (xT 40) "Swap"),args := #[(xT 41),(xT 42)],argTypes := #[3,3] })] [0,1,2,9] (.reg [mO 44 9,aO 7 44] [0,1,2,7])))
def l1_container_heap_down : CC := .block 1 (sR [mO 12 7,oO 13 (.binOp .mul 3 (nI 2) (xT 12) 3),oO 14 (.binOp .add 3 (xT 13) (nI 1) 3),aO 8 14] [0,1,2,7,8] (.seq (sR [mO 15 8,mO 16 2,oO 17 (bO .geq 3 15 16 3),mO 18 17,oG 19 (mV 8) 18 false,oG 20 (.binOp .lss 3 (xT 19) (nI 0) 3) 18 false,oO 21 (.pick (xT 18) (nB true) (xT 20))] [0,1,2,7,8,21] (cD 21 (.exit 0) (.skip))) (.keep [0,1,2,7,8] (sR [mO 22 8,aO 9 22] [0,1,2,7,8,9] (.seq (sR [mO 23 8,oO 24 (.binOp .add 3 (xT 23) (nI 1) 3),aO 10 24] [0,1,2,7,8,9,10] (sR [mO 25 10,mO 26 2,oO 27 (bO .lss 3 25 26 3),mO 28 27,oG 29 (mV 0) 28 true,oG 30 (mV 10) 28 true,oG 31 (mV 8) 28 true,oG 32 (.call { callee := (.invoke (xT 29) "Less"),args := #[(xT 30),(xT 31)],argTypes := #[3,3] }) 28 true,oO 33 (.pick (xT 28) (xT 32) (nB false))] [0,1,2,7,9,10,33] (cD 33 (.reg [mO 34 10,aO 9 34] [0,1,2,7,9]) (.skip)))) (.keep [0,1,2,7,9] k1_container_heap_down)))))) 
def c_container_heap_down : CC := sR [oO 6 (.assign (nB false))] [0,1,2] (sR [mO 11 1,aO 7 11] [0,1,2,7] (.seq (.block 0 (.loop l1_container_heap_down)) (.keep [1,7] (sR [mO 45 7,mO 46 1,oO 47 (bO .gtr 3 45 46 3),aO 6 47] [6] (.ret)))))
theorem t_container_heap_down : Txt Tryz.prog 262 48 [(.tmp 6)] c_container_heap_down := txt_of (code := Tryz.f262.body.getD .ret) mixed (by kernel_rfl) Tryz.func262 (by kernel_rfl) Tryz.ntmps262 (by kernel_rfl) (ls := lsOf c_container_heap_down) (by kernel_rfl)
def c_container_heap_Push : CC := sR [mO 4 0,mO 5 1,oO 6 (.call { callee := (.invoke (xT 4) "Push"),args := #[(xT 5)],argTypes := #[20] })] [0] (.reg [mO 7 0,mO 8 0,oO 9 (.call { callee := (.invoke (xT 8) "Len"),args := #[],argTypes := #[] }),oO 10 (.binOp .sub 3 (xT 9) (nI 1) 3),oO 11 (cL 261 #[(xT 7),(xT 10)] #[304,3])] [])
theorem t_container_heap_Push : Txt Tryz.prog 236 12 [] c_container_heap_Push := txt_of (code := Tryz.f236.body.getD .ret) mixed (by kernel_rfl) Tryz.func236 (by kernel_rfl) Tryz.ntmps236 (by kernel_rfl) (ls := lsOf c_container_heap_Push) (by kernel_rfl)
def c_container_heap_Pop : CC := sR [oO 2 (.assign (.const .nilIface))] [0] (sR [mO 4 0,oO 5 (.call { callee := (.invoke (xT 4) "Len"),args := #[],argTypes := #[] }),oO 6 (.binOp .sub 3 (xT 5) (nI 1) 3),aO 3 6] [0,3] (sR [mO 7 0,mO 8 3,oO 9 (.call { callee := (.invoke (xT 7) "Swap"),args := #[(nI 0),(xT 8)],argTypes := #[3,3] })] [0,3] (sR [mO 10 0,mO 11 3,oO 12 (cL 262 #[(xT 10),(nI 0),(xT 11)] #[304,3,3])] [0] (sR [mO 13 0,oO 14 (.call { callee := (.invoke (xT 13) "Pop"),args := #[],argTypes := #[] }),aO 2 14] [2] (.ret)))))
theorem t_container_heap_Pop : Txt Tryz.prog 238 15 [(.tmp 2)] c_container_heap_Pop := txt_of (code := Tryz.f238.body.getD .ret) mixed (by kernel_rfl) Tryz.func238 (by kernel_rfl) Tryz.ntmps238 (by kernel_rfl) (ls := lsOf c_container_heap_Pop) (by kernel_rfl)
def c_pair_Pair_crosses : CC := sR [oN 2 (.box 245 (xT 0)) [0],oN 3 (.box 245 (xT 1)) [1],oO 4 (.assign (nB false))] [2,3] (sR [fO 5 245 2 0,lO 6 3 5,fO 7 245 3 0,lO 8 3 7,oO 9 (bO .lss 3 6 8 3),mO 10 9,oG 11 (fA 245 2 1) 10 true,oG 12 (lD 3 11) 10 true,oG 13 (fA 245 3 1) 10 true,oG 14 (lD 3 13) 10 true,oG 15 (bO .lss 3 12 14 3) 10 true,oO 16 (.pick (xT 10) (xT 15) (nB false)),mO 17 16,oG 18 (fA 245 2 0) 17 false,oG 19 (lD 3 18) 17 false,oG 20 (fA 245 3 0) 17 false,oG 21 (lD 3 20) 17 false,oG 22 (bO .gtr 3 19 21 3) 17 false,oG 23 (mV 22) 17 false,oG 24 (fA 245 2 1) 23 true,oG 25 (lD 3 24) 23 true,oG 26 (fA 245 3 1) 23 true,oG 27 (lD 3 26) 23 true,oG 28 (bO .gtr 3 25 27 3) 23 true,oG 29 (.pick (xT 23) (xT 28) (nB false)) 17 false,oO 30 (.pick (xT 17) (nB true) (xT 29)),oO 31 (.unOp .not 4 (xT 30)),aO 4 31] [4] (.ret))
theorem t_pair_Pair_crosses : Txt Tryz.prog 240 32 [(.tmp 4)] c_pair_Pair_crosses := txt_of (code := Tryz.f240.body.getD .ret) mixed (by kernel_rfl) Tryz.func240 (by kernel_rfl) Tryz.ntmps240 (by kernel_rfl) (ls := lsOf c_pair_Pair_crosses) (by kernel_rfl)
def l1_slices_IndexFunc_pair_Pair_pair_Pair : CC := sR [oO 9 (bO .lss 3 8 7 3)] [0,1,7,8,9] (.seq (cD 9 (.skip) (.exit 0)) (.keep [0,1,7,8] (.seq (.block 1 (sR [mO 10 8,aO 5 10] [0,1,5,7,8] (sR [mO 11 1,mO 12 0,mO 13 5,oO 14 (iA 242 12 13),lO 15 245 14,oO 16 (.call { callee := (.value (xT 11)),args := #[(xT 15)],argTypes := #[245] })] [0,1,5,7,8,16] (cD 16 (sR [mO 17 5,aO 4 17] [4] (.ret)) (.skip))))) (.keep [0,1,7,8] (.reg [oO 18 (.binOp .add 3 (xT 8) (nI 1) 3),mO 8 18] [0,1,7,8]))))) 
def c_slices_IndexFunc_pair_Pair_pair_Pair : CC := sR [oO 4 (.assign (nI 0))] [0,1] (.seq (sR [mO 6 0,oO 7 (bL 6 242),oO 8 (.move (nI 0))] [0,1,7,8] (.block 0 (.loop l1_slices_IndexFunc_pair_Pair_pair_Pair))) (.keep [] (sR [oO 4 (.assign (.const (.int .i64 (-1))))] [4] (.ret))))
theorem t_slices_IndexFunc_pair_Pair_pair_Pair : Txt Tryz.prog 263 19 [(.tmp 4)] c_slices_IndexFunc_pair_Pair_pair_Pair := txt_of (code := Tryz.f263.body.getD .ret) mixed (by kernel_rfl) Tryz.func263 (by kernel_rfl) Tryz.ntmps263 (by kernel_rfl) (ls := lsOf c_slices_IndexFunc_pair_Pair_pair_Pair) (by kernel_rfl)
def c_slices_ContainsFunc_pair_Pair_pair_Pair : CC := sR [oO 4 (.assign (nB false))] [0,1] (sR [mO 5 0,mO 6 1,oO 7 (cL 263 #[(xT 5),(xT 6)] #[242,285]),oO 8 (.binOp .geq 3 (xT 7) (nI 0) 3),aO 4 8] [4] (.ret))
theorem t_slices_ContainsFunc_pair_Pair_pair_Pair : Txt Tryz.prog 239 9 [(.tmp 4)] c_slices_ContainsFunc_pair_Pair_pair_Pair := txt_of (code := Tryz.f239.body.getD .ret) mixed (by kernel_rfl) Tryz.func239 (by kernel_rfl) Tryz.ntmps239 (by kernel_rfl) (ls := lsOf c_slices_ContainsFunc_pair_Pair_pair_Pair) (by kernel_rfl)
def c_pair_Pick_1 : CC := sR [oN 2 (.box 245 (xT 0)) [0],oN 3 (.box 245 (xT 1)) [1],oO 4 (.assign (nI 0))] [2,3] (sR [fO 5 245 2 0,lO 6 3 5,fO 7 245 3 0,lO 8 3 7,oO 9 (cL 243 #[(xT 6),(xT 8)] #[3,3]),aO 4 9] [4] (.ret))
theorem t_pair_Pick_1 : Txt Tryz.prog 242 10 [(.tmp 4)] c_pair_Pick_1 := txt_of (code := Tryz.f242.body.getD .ret) mixed (by kernel_rfl) Tryz.func242 (by kernel_rfl) Tryz.ntmps242 (by kernel_rfl) (ls := lsOf c_pair_Pick_1) (by kernel_rfl)
def l1_pair_Pick : CC := sR [oO 22 (bO .lss 3 21 20 3)] [3,4,12,13,14,19,20,21,22] (.seq (cD 22 (.skip) (.exit 2)) (.keep [3,4,12,13,14,19,20,21] (.seq (.block 3 (sR [mO 23 21,oO 24 (iA 164 19 21),lO 25 3 24,aO 6 23,aO 7 25] [3,4,6,7,12,13,14,19,20,21] (sR [mO 26 7,oO 27 (.binOp .gtr 3 (xT 26) (nI 0) 3),mO 28 27,oG 29 (mV 4) 28 true,oG 30 (.binOp .lss 3 (xT 29) (nI 16) 3) 28 true,oO 31 (.pick (xT 28) (xT 30) (nB false)),mO 32 31,oG 33 (mV 6) 32 true,oG 34 (.binOp .lss 3 (xT 33) (nI 16) 3) 32 true,oO 35 (.pick (xT 32) (xT 34) (nB false))] [3,4,6,7,12,13,14,19,20,21,35] (cD 35 (.reg [mO 36 3,oO 37 (.makeInterface 277 (xT 36)),mO 38 4,mO 39 6,oO 40 (.build 245 #[(0,(xT 38)),(1,(xT 39))]),mO 41 7,oO 42 (.build 282 #[(0,(xT 40)),(1,(xT 41))]),oO 43 (.makeInterface 282 (xT 42)),oO 44 (cL 236 #[(xT 37),(xT 43)] #[304,20])] [3,4,12,13,14,19,20,21]) (.skip))))) (.keep [3,4,12,13,14,19,20,21] (.reg [oO 45 (.binOp .add 3 (xT 21) (nI 1) 3),mO 21 45] [3,4,12,13,14,19,20,21])))))
def l2_pair_Pick : CC := sR [oO 15 (bO .lss 3 14 13 3)] [3,12,13,14,15] (.seq (cD 15 (.skip) (.exit 0)) (.keep [3,12,13,14] (.seq (.block 1 (sR [mO 16 14,oO 17 (iA 240 12 14),lO 18 164 17,aO 4 16,aO 5 18] [3,4,5,12,13,14] (sR [mO 19 5,oO 20 (bL 19 164),oO 21 (.move (nI 0))] [3,4,12,13,14,19,20,21] (.block 2 (.loop l1_pair_Pick))))) (.keep [3,12,13,14] (.reg [oO 46 (.binOp .add 3 (xT 14) (nI 1) 3),mO 14 46] [3,12,13,14])))))
def l3_pair_Pick : CC := .seq (sR [mO 47 3,oO 48 (.nilCheck (xT 47)),lO 49 279 48,oO 50 (cL 237 #[(xT 49)] #[277]),oO 51 (.binOp .gtr 3 (xT 50) (nI 0) 3)] [3,8,51] (cD 51 (.skip) (.exit 4))) (.keep [3,8] (.block 5 (sR [mO 52 3,oO 53 (.makeInterface 277 (xT 52)),oO 54 (cL 238 #[(xT 53)] #[304]),oO 55 (.typeAssert (xT 54) 20 282 false),oN 9 (.alloc 282) [1],oS (.store 282 (xT 9) (xT 55))] [3,8,9] (sR [mO 56 8,fO 57 282 9 0,lO 58 245 57,oO 59 (.makeFunc (.func 240) #[(xT 58)] #[]),oO 60 (cL 239 #[(xT 56),(xT 59)] #[242,285]),oO 61 (.unOp .not 4 (xT 60))] [3,8,9,61] (cD 61 (.reg [mO 62 8,fO 63 282 9 0,lO 64 245 63,oO 65 (.buildSlice 242 1 #[(0,(xT 64))]),oN 66 (bC .append #[(xT 62),(xT 65)] #[242,242]) [2],aO 8 66] [3,8]) (.skip)))))) 
def c_pair_Pick : CC := sR [oO 2 (.assign nS)] [0] (sR [oO 10 (.buildSlice 279 0 #[]),oN 11 (.box 279 (xT 10)) [0],aO 3 11] [0,3] (.seq (sR [mO 12 0,oO 13 (bL 12 240),oO 14 (.move (nI 0))] [3,12,13,14] (.block 0 (.loop l2_pair_Pick))) (.keep [3] (sR [oO 8 (.assign nS)] [3,8] (.seq (.block 4 (.loop l3_pair_Pick)) (.keep [8] (sR [mO 67 8,oO 68 (cL 241 #[(xT 67),(.func 242)] #[242,287])] [8] (sR [mO 69 8,aO 2 69] [2] (.ret)))))))))
theorem t_pair_Pick : Txt Tryz.prog 203 70 [(.tmp 2)] c_pair_Pick := txt_of (code := Tryz.f203.body.getD .ret) mixed (by kernel_rfl) Tryz.func203 (by kernel_rfl) Tryz.ntmps203 (by kernel_rfl) (ls := lsOf c_pair_Pick) (by kernel_rfl)
def l1_pair_Score : CC := sR [oO 31 (bO .lss 3 30 29 3)] [2,3,5,29,30,31] (.seq (cD 31 (.skip) (.exit 0)) (.keep [2,3,5,29,30] (.seq (.block 1 (sR [mO 32 30,aO 6 32] [2,3,5,6,29,30] (sR [fO 33 25 2 1,lO 34 22 33,mO 35 6,oO 36 (iA 22 34 35),lO 37 51 36,fO 38 25 3 1,lO 39 22 38,mO 40 6,oO 41 (iA 22 39 40),lO 42 51 41,oO 43 (bO .eql 51 37 42 51)] [2,3,5,29,30,43] (cD 43 (.reg [mO 44 5,oO 45 (.binOp .add 3 (xT 44) (nI 1) 3),aO 5 45] [2,3,5,29,30]) (.skip))))) (.keep [2,3,5,29,30] (.reg [oO 46 (.binOp .add 3 (xT 30) (nI 1) 3),mO 30 46] [2,3,5,29,30])))))
def l2_pair_Score : CC := sR [oO 55 (bO .lss 3 54 53 3)] [2,3,5,53,54,55] (.seq (cD 55 (.skip) (.exit 2)) (.keep [2,3,5,53,54] (.seq (.block 3 (sR [mO 56 54,aO 7 56] [2,3,5,7,53,54] (sR [fO 57 25 2 2,lO 58 23 57,mO 59 7,oO 60 (iA 23 58 59),lO 61 25 60,fO 62 25 3 2,lO 63 23 62,mO 64 7,oO 65 (iA 23 63 64),lO 66 25 65,oO 67 (cL 59 #[(xT 61),(xT 66)] #[25,25])] [2,3,5,53,54,67] (cD 67 (.reg [mO 68 5,oO 69 (.binOp .add 3 (xT 68) (nI 1) 3),aO 5 69] [2,3,5,53,54]) (.skip))))) (.keep [2,3,5,53,54] (.reg [oO 70 (.binOp .add 3 (xT 54) (nI 1) 3),mO 54 70] [2,3,5,53,54]))))) 
def c_pair_Score : CC := sR [oN 2 (.box 25 (xT 0)) [0],oN 3 (.box 25 (xT 1)) [1],oO 4 (.assign (nI 0))] [2,3] (.seq (sR [fO 8 25 2 0,lO 9 3 8,fO 10 25 3 0,lO 11 3 10,oO 12 (bO .neq 3 9 11 3),mO 13 12,oG 14 (fA 25 2 0) 13 false,oG 15 (lD 3 14) 13 false,oG 16 (.binOp .eql 3 (xT 15) (nI 0) 3) 13 false,oO 17 (.pick (xT 13) (nB true) (xT 16)),mO 18 17,oG 19 (fA 25 2 0) 18 false,oG 20 (lD 3 19) 18 false,oG 21 (.binOp .eql 3 (xT 20) (nI 10) 3) 18 false,oO 22 (.pick (xT 18) (nB true) (xT 21))] [2,3,22] (cD 22 (sR [oO 4 (.assign (nI 0))] [4] (.ret)) (.skip))) (.keep [2,3] (sR [oO 5 (.assign (nI 1))] [2,3,5] (.seq (sR [fO 23 25 2 1,lO 24 22 23,oO 25 (bL 24 22),fO 26 25 3 1,lO 27 22 26,oO 28 (bL 27 22),oO 29 (bC .min #[(xT 25),(xT 28)] #[3,3]),oO 30 (.move (nI 0))] [2,3,5,29,30] (.block 0 (.loop l1_pair_Score))) (.keep [2,3,5] (.seq (sR [fO 47 25 2 2,lO 48 23 47,oO 49 (bL 48 23),fO 50 25 3 2,lO 51 23 50,oO 52 (bL 51 23),oO 53 (bC .min #[(xT 49),(xT 52)] #[3,3]),oO 54 (.move (nI 0))] [2,3,5,53,54] (.block 2 (.loop l2_pair_Score))) (.keep [5] (sR [mO 71 5,aO 4 71] [4] (.ret)))))))))
theorem t_pair_Score : Txt Tryz.prog 202 72 [(.tmp 4)] c_pair_Score := txt_of (code := Tryz.f202.body.getD .ret) mixed (by kernel_rfl) Tryz.func202 (by kernel_rfl) Tryz.ntmps202 (by kernel_rfl) (ls := lsOf c_pair_Score) (by kernel_rfl)
end Go.Proofs.YtbjmaoedheiigaaGreat
namespace Go.Proofs.YtbjmaoedheiigaaGreat
set_option linter.unusedVariables false
set_option linter.unusedSimpArgs false
open Go Go.G Go.Proofs
abbrev iv (n : Int) : A := .v (.int .i64 n)
abbrev uv (n : Int) : A := .v (.int .u64 n)
abbrev bv (b : Bool) : A := .v (.bool b)
theorem near_spec (a : Int) : G.Spec Tryz.prog 224 [iv a] (bv (decide (-536870912≤a) && decide (a < 536870912))) := by
  refine spec_of t_ptr_near (by simp) fun w0 I0 => ?_
  unfold c_ptr_near
  simp
  exact frz_bare rfl
theorem within_spec (a b : Int) : G.Spec Tryz.prog 225 [iv a,iv b] (bv (decide (0≤a) && decide (a≤b))) := by
  refine spec_of t_ptr_within (by simp) fun w0 I0 => ?_
  unfold c_ptr_within
  simp
  exact frz_bare rfl
theorem pow_half (w : Int) (m : Nat) : w / 2 / 2 ^ m = w / 2 ^ (m + 1) := by
  rw [Int.ediv_ediv_of_nonneg (by decide),Int.pow_succ,Int.mul_comm]
theorem i64_same {n : Int} (h0 : -9223372036854775808≤n) (h1 : n < 9223372036854775808) : IntKind.i64.wrap n = n := by rw [IntKind.wrap_i64]; omega
theorem u64_same {n : Int} (h0 : 0≤n) (h1 : n < 18446744073709551616) : IntKind.u64.wrap n = n := by rw [IntKind.wrap_u64]; omega
structure Pt where
  (kind off data ptrs code count seg : Int)
  dbl : Bool
deriving DecidableEq
@[simp] def Pt.a (p : Pt) : A := .agg [iv p.kind,iv p.off,iv p.data,iv p.ptrs,iv p.code,iv p.count,iv p.seg,bv p.dbl]
def offs (w : Int) : Int := if w / 4 % 1073741824 < 536870912 then w / 4 % 1073741824 else w / 4 % 1073741824 - 1073741824
def dec (w : Int) : Pt :=
  if w = 0 then ⟨0,0,0,0,0,0,0,false⟩
  else if w % 4 = 0 then ⟨1,offs w,w / 4294967296 % 65536,w / 281474976710656,0,0,0,false⟩
  else if w % 4 = 1 then ⟨2,offs w,0,0,w / 4294967296 % 8,w / 34359738368,0,false⟩
  else if w % 4 = 2 then ⟨3,w / 8 % 536870912,0,0,0,0,w / 4294967296,decide (w / 4 % 2 = 1)⟩
  else ⟨4,0,0,0,0,0,0,false⟩
end Go.Proofs.YtbjmaoedheiigaaGreat
namespace Go.PL
set_option linter.unusedVariables false
set_option linter.unusedSimpArgs false
inductive T where
  | mk (kind : Int) (words : List Int) (kids : List T)
  deriving Inhabited
namespace T
def kind : T→Int | mk k _ _ => k
def words : T→List Int | mk _ w _ => w
def kids : T→List T | mk _ _ l => l
@[simp] theorem kind_mk {k : Int} {w : List Int} {l : List T} : (mk k w l).kind = k := rfl
@[simp] theorem words_mk {k : Int} {w : List Int} {l : List T} : (mk k w l).words = w := rfl
@[simp] theorem kids_mk {k : Int} {w : List Int} {l : List T} : (mk k w l).kids = l := rfl
end T
theorem snocInd {α : Type} {P : List α→Prop} (h0 : P []) (h1 : ∀ l x,P l→P (l ++ [x])) (l : List α) : P l := by
  have : ∀ m : List α,P m.reverse := by
    intro m
    induction m with
    | nil => exact h0
    | cons x m ih => rw [List.reverse_cons]; exact h1 _ _ ih
  have h := this l.reverse
  rwa [List.reverse_reverse] at h
abbrev T0 : T := .mk 0 [] []
mutual
theorem T.ind {P : T→Prop} (h : ∀ k w l,(∀ t,t ∈ l→P t)→P (.mk k w l)) : ∀ t,P t
  | .mk k w l => h k w l (T.indL h l)
theorem T.indL {P : T→Prop} (h : ∀ k w l,(∀ t,t ∈ l→P t)→P (.mk k w l)) : ∀ (l : List T),∀ t,t ∈ l→P t
  | [],t,ht => nomatch ht
  | x :: l,t,ht => by
    rcases List.mem_cons.1 ht with e | ht
    · rw [e]; exact T.ind h x
    · exact T.indL h l t ht
end
def trimW (l : List Int) : List Int := (l.reverse.dropWhile (fun x => x == 0)).reverse
def trimK (l : List T) : List T := (l.reverse.dropWhile (fun x => x.kind == 0)).reverse
mutual
def norm : T→T
  | .mk k w l => if k = 0 then T0 else if k = 1 then .mk 1 (trimW w) (trimK (normL l)) else .mk k w (normL l)
def normL : List T→List T
  | [] => []
  | t :: l => norm t :: normL l
end
@[simp] theorem normL_map : ∀ l,normL l = l.map norm
  | [] => by simp [normL]
  | t :: l => by simp [normL,normL_map l]
theorem norm_mk (k : Int) (w : List Int) (l : List T) : norm (.mk k w l) = if k = 0 then T0 else if k = 1 then .mk 1 (trimW w) (trimK (l.map norm)) else .mk k w (l.map norm) := by simp [norm]
@[simp] theorem norm_kind (t : T) : (norm t).kind = t.kind := by
  cases t; rw [norm_mk]; split
  · rename_i h; rw [h]; rfl
  · split
    · rename_i h; rw [h]; rfl
    · rfl
@[simp] theorem trimW_nil : trimW [] = [] := rfl
@[simp] theorem trimK_nil : trimK [] = [] := rfl
theorem trimW_snoc (l : List Int) (x : Int) : trimW (l ++ [x]) = if x = 0 then trimW l else l ++ [x] := by
  unfold trimW; simp [List.dropWhile_cons]; split <;> simp
theorem trimK_snoc (l : List T) (x : T) : trimK (l ++ [x]) = if x.kind = 0 then trimK l else l ++ [x] := by
  unfold trimK
  by_cases h : x.kind = 0 <;> simp [List.dropWhile_cons,h]
theorem trimW_le (l : List Int) : (trimW l).length≤l.length := by
  unfold trimW; simp; have := (List.dropWhile_sublist (fun x : Int => x == 0) (l := l.reverse)).length_le; simpa using this
theorem trimK_le (l : List T) : (trimK l).length≤l.length := by
  unfold trimK; simp; have := (List.dropWhile_sublist (fun x : T => x.kind == 0) (l := l.reverse)).length_le; simpa using this
theorem trimW_take (l : List Int) : trimW l = l.take (trimW l).length := by
  induction l using snocInd with
  | h0 => rfl
  | h1 l x ih =>
    rw [trimW_snoc]
    split
    · rw [List.take_append_of_le_length (trimW_le l)]; exact ih
    · rw [List.take_of_length_le (Nat.le_refl _)]
theorem trimK_take (l : List T) : trimK l = l.take (trimK l).length := by
  induction l using snocInd with
  | h0 => rfl
  | h1 l x ih =>
    rw [trimK_snoc]
    split
    · rw [List.take_append_of_le_length (trimK_le l)]; exact ih
    · rw [List.take_of_length_le (Nat.le_refl _)]
def bitsZ (c : Int) : Int := if c = 1 then 1 else if c = 2 then 8 else if c = 3 then 16 else if c = 4 then 32 else if c = 5 then 64 else 0
def roomZ (c n : Int) : Int := if n < 0∨n > 1099511627776 then 0 else (n * bitsZ c + 63) / 64
def frameW : List T→Nat
  | [] => 0
  | t :: l => max t.words.length (frameW l)
def frameK : List T→Nat
  | [] => 0
  | t :: l => max t.kids.length (frameK l)
mutual
def sizeT : T→Int
  | .mk k w l => if k = 1 then w.length + l.length + sizeL l else if k = 8 then l.length + sizeL l else if 2≤k∧k≤7 then roomZ (k - 2) l.length
    else if k = 9 then 1 + l.length * (frameW l + frameK l) + sizeLL l else sizeL l
def sizeK : T→Int
  | .mk _ _ l => sizeL l
def sizeL : List T→Int
  | [] => 0
  | t :: l => sizeT t + sizeL l
def sizeLL : List T→Int
  | [] => 0
  | t :: l => sizeK t + sizeLL l
end
theorem sizeT_mk (k : Int) (w : List Int) (l : List T) : sizeT (.mk k w l) = if k = 1 then w.length + l.length + sizeL l else if k = 8 then l.length + sizeL l else if 2≤k∧k≤7 then roomZ (k - 2) l.length
    else if k = 9 then 1 + l.length * (frameW l + frameK l) + sizeLL l else sizeL l := by rw [sizeT]
@[simp] theorem sizeK_eq (t : T) : sizeK t = sizeL t.kids := by cases t; rw [sizeK]; rfl
@[simp] theorem sizeL_nil : sizeL [] = 0 := by rw [sizeL]
@[simp] theorem sizeL_cons (t : T) (l : List T) : sizeL (t :: l) = sizeT t + sizeL l := by rw [sizeL]
@[simp] theorem sizeLL_nil : sizeLL [] = 0 := by rw [sizeLL]
@[simp] theorem sizeLL_cons (t : T) (l : List T) : sizeLL (t :: l) = sizeL t.kids + sizeLL l := by rw [sizeLL,sizeK_eq]
@[simp] theorem sizeL_append (l m : List T) : sizeL (l ++ m) = sizeL l + sizeL m := by
  induction l with
  | nil => simp
  | cons t l ih => simp [ih]; omega
@[simp] theorem sizeT_zero (w : List Int) : sizeT (.mk 0 w []) = 0 := by rw [sizeT_mk]; simp
mutual
def sizeP : T→Int
  | .mk k w l => if k = 1 then w.length + l.length + sizePL l else if k = 8 then l.length + sizePL l else if 2≤k∧k≤7 then roomZ (k - 2) l.length
    else if k = 9 then 1 + l.length * (frameW l + frameK l) + sizePC l else sizePL l
def sizePL : List T→Int
  | [] => 0
  | t :: l => sizeP t + sizePL l
def sizePC : List T→Int
  | [] => 0
  | t :: l => (sizeP t - t.words.length - t.kids.length) + sizePC l
end
theorem sizeP_mk (k : Int) (w : List Int) (l : List T) : sizeP (.mk k w l) = if k = 1 then w.length + l.length + sizePL l else if k = 8 then l.length + sizePL l else if 2≤k∧k≤7 then roomZ (k - 2) l.length
    else if k = 9 then 1 + l.length * (frameW l + frameK l) + sizePC l else sizePL l := by rw [sizeP]
@[simp] theorem sizePL_nil : sizePL [] = 0 := by rw [sizePL]
@[simp] theorem sizePL_cons (t : T) (l : List T) : sizePL (t :: l) = sizeP t + sizePL l := by rw [sizePL]
@[simp] theorem sizePC_nil : sizePC [] = 0 := by rw [sizePC]
@[simp] theorem sizePC_cons (t : T) (l : List T) : sizePC (t :: l) = (sizeP t - t.words.length - t.kids.length) + sizePC l := by rw [sizePC]
def widthZ (c : Int) : Int := if c = 0 then 0 else if c = 1 then 1 else if c = 2 then 8 else if c = 3 then 16 else if c = 4 then 32 else if c = 5 then 64 else -1
def fitsZ (c n : Int) : Bool := decide (0≤widthZ c) && decide (n / 2 ^ (widthZ c).toNat = 0)
def isData (k : Int) : Bool := decide (2≤k) && decide (k≤7)
def kidOk (k : Int) (c : T) : Bool := !(isData k != decide (c.kind = 10) || decide (k = 9) && !decide (c.kind = 1) || isData k && !fitsZ (k - 2) (c.words.headD 0))
def tooBig (k : Int) (d nw nl : Nat) : Bool := decide (k < 0) || decide (k > 10) || decide (d = 0) || decide (nw ≥ 65536) || decide (k = 1) && decide (nl ≥ 65536) || decide (nl ≥ 1048576) || decide (k > 1) && decide (nw > 0)
mutual
def rightT : Nat→T→Bool
  | d,.mk k w l => if k = 0 then w.isEmpty && l.isEmpty else if k = 10 then decide (w.length = 1) && l.isEmpty
    else if tooBig k d w.length l.length = true then false else rightL (d - 1) k l
def rightL : Nat→Int→List T→Bool
  | _,_,[] => true
  | d,k,t :: l => rightT d t && kidOk k t && rightL d k l
end
theorem rightT_mk (d : Nat) (k : Int) (w : List Int) (l : List T) : rightT d (.mk k w l) = if k = 0 then w.isEmpty && l.isEmpty else if k = 10 then decide (w.length = 1) && l.isEmpty
    else if tooBig k d w.length l.length = true then false else rightL (d - 1) k l := by rw [rightT]
@[simp] theorem rightL_nil (d : Nat) (k : Int) : rightL d k [] = true := by rw [rightL]
@[simp] theorem rightL_cons (d : Nat) (k : Int) (t : T) (l : List T) : rightL d k (t :: l) = (rightT d t && kidOk k t && rightL d k l) := by rw [rightL]
theorem rightL_all {d : Nat} {k : Int} : ∀ {l : List T},rightL d k l = true ↔ ∀ t,t ∈ l→rightT d t = true∧kidOk k t = true
  | [] => by simp
  | t :: l => by simp [rightL_all (l := l),and_assoc]
mutual
def shallow : Nat→Int→T→Int
  | d,n,.mk _ w l => if d = 0∨n - 1 - w.length < 0 then -1 else shallowL (d - 1) (n - 1 - w.length) l
def shallowL : Nat→Int→List T→Int
  | _,n,[] => n
  | d,n,t :: l => if n < 0 then n else shallowL d (shallow d n t) l
end
theorem shallow_mk (d : Nat) (n : Int) (k : Int) (w : List Int) (l : List T) : shallow d n (.mk k w l) = if d = 0∨n - 1 - w.length < 0 then -1 else shallowL (d - 1) (n - 1 - w.length) l := by rw [shallow]
@[simp] theorem shallowL_nil (d : Nat) (n : Int) : shallowL d n [] = n := by rw [shallowL]
@[simp] theorem shallowL_cons (d : Nat) (n : Int) (t : T) (l : List T) : shallowL d n (t :: l) = if n < 0 then n else shallowL d (shallow d n t) l := by rw [shallowL]
theorem kidOk_9 {c : T} (h : kidOk 9 c = true) : c.kind = 1 := by
  simp [kidOk,isData] at h
  exact h.2
theorem rightT_struct {d : Nat} {k : Int} {w : List Int} {l : List T} (h : rightT d (.mk k w l) = true) : ∀ t,t ∈ l→rightT (d - 1) t = true∧kidOk k t = true := by
  rw [rightT_mk] at h
  split at h
  · simp at h; intro t ht; rw [h.2] at ht; cases ht
  · split at h
    · simp at h; intro t ht; rw [h.2] at ht; cases ht
    · split at h
      · cases h
      · exact rightL_all.1 h
theorem sizePL_eq {l : List T} (h : ∀ t,t ∈ l→sizeP t = sizeT t) : sizePL l = sizeL l := by
  induction l with
  | nil => simp
  | cons t l ih => simp [h t (by simp),ih fun u hu => h u (by simp [hu])]
theorem size_norm : ∀ (t : T) (d : Nat),rightT d t = true→sizeP (norm t) = sizeT (norm t) := by
  refine T.ind fun k w l ih d h => ?_
  have hk := rightT_struct h
  have ihl : ∀ t,t ∈ l.map norm→sizeP t = sizeT t := fun t ht => by
    obtain ⟨u,hu,rfl⟩ := List.mem_map.1 ht
    exact ih u hu _ (hk u hu).1
  rw [norm_mk]
  split
  · rfl
  · split
    · rw [sizeP_mk,sizeT_mk]; simp
      refine sizePL_eq fun t ht => ihl t ?_
      rw [trimK_take] at ht
      exact List.mem_of_mem_take ht
    · rw [sizeP_mk,sizeT_mk]
      rw [sizePL_eq ihl]
      have e9 : k = 9→sizePC (l.map norm) = sizeLL (l.map norm) := fun e => by
        subst e
        have : ∀ (m : List T),(∀ t,t ∈ m→sizeP t = sizeT t∧t.kind = 1)→sizePC m = sizeLL m := by
          intro m
          induction m with
          | nil => simp
          | cons t m ih =>
            intro hm
            obtain ⟨h1,h2⟩ := hm t (by simp)
            simp [ih fun u hu => hm u (by simp [hu]),h1]
            cases t; simp at h2; subst h2
            rw [sizeT_mk]; simp; omega
        refine this _ fun t ht => ⟨ihl t ht,?_⟩
        obtain ⟨u,hu,rfl⟩ := List.mem_map.1 ht
        rw [norm_kind]
        exact kidOk_9 (hk u hu).2
      by_cases h9 : k = 9
      · simp [e9 h9]
      · simp [h9]
end Go.PL
namespace Go.PL
set_option linter.unusedVariables false
set_option linter.unusedSimpArgs false
structure WE where
  at_ : Int
  mask : Int
  old : Int
  new : Int
mutual
inductive E where
  | mk (kind : Int) (old new : T) (words : List WE) (kids : List KE) (list : Int) (ops : List OP)
inductive KE where
  | mk (at_ : Int) (e : E)
inductive OP where
  | mk (kind n : Int) (l : List T) (e : E)
end
namespace E
def kind : E→Int | mk k _ _ _ _ _ _ => k
def old : E→T | mk _ o _ _ _ _ _ => o
def new : E→T | mk _ _ n _ _ _ _ => n
def words : E→List WE | mk _ _ _ w _ _ _ => w
def kids : E→List KE | mk _ _ _ _ k _ _ => k
def list : E→Int | mk _ _ _ _ _ l _ => l
def ops : E→List OP | mk _ _ _ _ _ _ o => o
variable {k l : Int} {o n : T} {w : List WE} {ks : List KE} {os : List OP}
@[simp] theorem kind_mk : (mk k o n w ks l os).kind = k := rfl
@[simp] theorem old_mk : (mk k o n w ks l os).old = o := rfl
@[simp] theorem new_mk : (mk k o n w ks l os).new = n := rfl
@[simp] theorem words_mk : (mk k o n w ks l os).words = w := rfl
@[simp] theorem kids_mk : (mk k o n w ks l os).kids = ks := rfl
@[simp] theorem list_mk : (mk k o n w ks l os).list = l := rfl
@[simp] theorem ops_mk : (mk k o n w ks l os).ops = os := rfl
end E
namespace KE
def at_ : KE→Int | mk a _ => a
def e : KE→E | mk _ e => e
@[simp] theorem at_mk {a : Int} {e : E} : (mk a e).at_ = a := rfl
@[simp] theorem e_mk {a : Int} {e : E} : (mk a e).e = e := rfl
end KE
namespace OP
def kind : OP→Int | mk k _ _ _ => k
def n : OP→Int | mk _ n _ _ => n
def l : OP→List T | mk _ _ l _ => l
def e : OP→E | mk _ _ _ e => e
variable {k m : Int} {t : List T} {x : E}
@[simp] theorem kind_mk : (mk k m t x).kind = k := rfl
@[simp] theorem n_mk : (mk k m t x).n = m := rfl
@[simp] theorem l_mk : (mk k m t x).l = t := rfl
@[simp] theorem e_mk : (mk k m t x).e = x := rfl
end OP
abbrev E0 : E := .mk 0 T0 T0 [] [] 0 []
mutual
theorem E.ind {P : E→Prop} (h : ∀ k o n w ks l os,(∀ x,x ∈ ks→P x.e)→(∀ x,x ∈ os→P x.e)→P (.mk k o n w ks l os)) : ∀ e,P e
  | .mk k o n w ks l os => h k o n w ks l os (E.indK h ks) (E.indO h os)
theorem E.indK {P : E→Prop} (h : ∀ k o n w ks l os,(∀ x,x ∈ ks→P x.e)→(∀ x,x ∈ os→P x.e)→P (.mk k o n w ks l os)) : ∀ (ks : List KE),∀ x,x ∈ ks→P x.e
  | [],_,hx => nomatch hx
  | .mk a e :: ks,x,hx => by
    rcases List.mem_cons.1 hx with q | hx
    · rw [q]; exact E.ind h e
    · exact E.indK h ks x hx
theorem E.indO {P : E→Prop} (h : ∀ k o n w ks l os,(∀ x,x ∈ ks→P x.e)→(∀ x,x ∈ os→P x.e)→P (.mk k o n w ks l os)) : ∀ (os : List OP),∀ x,x ∈ os→P x.e
  | [],_,hx => nomatch hx
  | .mk a n l e :: os,x,hx => by
    rcases List.mem_cons.1 hx with q | hx
    · rw [q]; exact E.ind h e
    · exact E.indO h os x hx
end
def kids2 (a b : T) : Int := sizeP (norm a) + (if a.kind ≠ 0 then 1 else 0) + sizeP (norm b) + (if b.kind ≠ 0 then 2 - (if a.kind ≠ 0 then 1 else 0) else 0)
def wideW : Int→List WE→Int
  | x,[] => x
  | x,w :: l => wideW (if w.new ≠ 0 then 3 else if w.old ≠ 0 then max x 2 else x) l
def wideO : Int→List OP→Int
  | x,[] => x
  | x,o :: l => wideO (if o.kind = 1∨o.kind = 2∨o.kind = 3 then 2 else x) l
def lastAt : List KE→Int
  | [] => 0
  | [x] => x.at_
  | _ :: l => lastAt l
mutual
def nodeE : E→Int
  | .mk k o n ws ks l os =>
    if k = 1 then 1 + kids2 o n
    else if k = 2 then 1 + ((if ws = [] then 0 else 2 + ws.length * wideW 1 ws) + (if ks.isEmpty = true then 0 else 2 + ks.length * (if lastAt ks = 0 then 1 else 2) + (if ws = [] then 1 else 0) + nodeKs ks))
    else if k = 3 then 1 + (if os.isEmpty = true then 0 else 2 + os.length * wideO 1 os + nodeOs l os)
    else 0
def nodeKs : List KE→Int
  | [] => 0
  | .mk _ e :: l => nodeE e + nodeKs l
def nodeOs : Int→List OP→Int
  | _,[] => 0
  | list,.mk k n t e :: l => (if k = 1∨k = 2 then sizeP (norm (.mk list [] t)) else if k = 3 then nodeE e else 0) + nodeOs list l
end
theorem nodeE_mk (k : Int) (o n : T) (ws : List WE) (ks : List KE) (l : Int) (os : List OP) : nodeE (.mk k o n ws ks l os) =
    if k = 1 then 1 + kids2 o n
    else if k = 2 then 1 + ((if ws = [] then 0 else 2 + ws.length * wideW 1 ws) + (if ks.isEmpty = true then 0 else 2 + ks.length * (if lastAt ks = 0 then 1 else 2) + (if ws = [] then 1 else 0) + nodeKs ks))
    else if k = 3 then 1 + (if os.isEmpty = true then 0 else 2 + os.length * wideO 1 os + nodeOs l os)
    else 0 := by rw [nodeE]
@[simp] theorem nodeKs_nil : nodeKs [] = 0 := by rw [nodeKs]
@[simp] theorem nodeKs_cons (x : KE) (l : List KE) : nodeKs (x :: l) = nodeE x.e + nodeKs l := by cases x; rw [nodeKs]; rfl
@[simp] theorem nodeOs_nil (list : Int) : nodeOs list [] = 0 := by rw [nodeOs]
@[simp] theorem nodeOs_cons (list : Int) (x : OP) (l : List OP) : nodeOs list (x :: l) = (if x.kind = 1∨x.kind = 2 then sizeP (norm (.mk list [] x.l)) else if x.kind = 3 then nodeE x.e else 0) + nodeOs list l := by cases x; rw [nodeOs]; rfl
end Go.PL
namespace Go.PL
set_option linter.unusedVariables false
set_option linter.unusedSimpArgs false
theorem trimW_zero {w : List Int} {n : Nat} (h : n < w.length) (h0 : w[n] = 0) : trimW (w.take (n + 1)) = trimW (w.take n) := by
  rw [List.take_succ_eq_append_getElem h,trimW_snoc,if_pos h0]
theorem trimW_stop {w : List Int} {n : Nat} (h : n < w.length) (h0 : w[n] ≠ 0) : trimW (w.take (n + 1)) = w.take (n + 1) := by
  rw [List.take_succ_eq_append_getElem h,trimW_snoc,if_neg h0]
theorem trimK_zero {w : List T} {n : Nat} (h : n < w.length) (h0 : w[n].kind = 0) : trimK (w.take (n + 1)) = trimK (w.take n) := by
  rw [List.take_succ_eq_append_getElem h,trimK_snoc,if_pos h0]
theorem trimK_stop {w : List T} {n : Nat} (h : n < w.length) (h0 : w[n].kind ≠ 0) : trimK (w.take (n + 1)) = w.take (n + 1) := by
  rw [List.take_succ_eq_append_getElem h,trimK_snoc,if_neg h0]
theorem trimK_map_len (l : List T) : (trimK (l.map norm)).length = (trimK l).length := by
  induction l using snocInd with
  | h0 => rfl
  | h1 l x ih =>
    rw [List.map_append,List.map_cons,List.map_nil,trimK_snoc,trimK_snoc,norm_kind]
    split
    · exact ih
    · simp
theorem trimK_map (l : List T) : trimK (l.map norm) = (l.map norm).take (trimK l).length := by
  rw [← trimK_map_len]; exact trimK_take _
theorem T.ext' {t u : T} (h1 : t.kind = u.kind) (h2 : t.words = u.words) (h3 : t.kids = u.kids) : t = u := by
  cases t; cases u; simp at h1 h2 h3; rw [h1,h2,h3]
noncomputable def sameB (t u : T) : Bool := by classical exact decide (t = u)
theorem sameB_iff {t u : T} : sameB t u = true ↔ t = u := by simp [sameB]
noncomputable def eqT (t u : T) : Bool := sameB (norm t) (norm u)
theorem eqT_iff {t u : T} : eqT t u = true ↔ norm t = norm u := sameB_iff
end Go.PL
namespace Go.Proofs.YtbjmaoedheiigaaGreat
set_option linter.unusedVariables false
set_option linter.unusedSimpArgs false
open Go Go.G Go.Proofs Go.PL
theorem sc_call_off {P : Program} {K : Sta→Prop} {rest : List CO} {s : Nat→A} {H : Hp} {dd : Option Nat} {k : Nat} {f : Bool} {nm : Nm} {ix : Nat} {un : List Nat} {l : Bool} {lg : Lg} {g : FuncId} {aa : Array Operand} {ts : Array TypeId}
    (hq : wantA (s k) f = some false) (h : SeqC P K rest (addL l ix ⟨[],[]⟩ lg) (Sta.put ⟨s,H⟩ dd (.v undef) H)) :
    SeqC P K (⟨dd,.call { callee := .value (.func g),args := aa,argTypes := ts },some (k,f),nm,ix,un,l⟩ :: rest) lg ⟨s,H⟩ :=
  sc_call_g (q := false) (x := .any) hq (fun e => by cases e) h
abbrev uws (l : List Int) : A := .sl false (l.map uv)
abbrev ivs (l : List Int) : A := .sl false (l.map iv)
abbrev u8 (n : Int) : A := .v (.int .u8 n)
mutual
def tC : T→List A
  | .mk k w l => [iv k,uws w,.sl false (tCs l)]
def tCs : List T→List A
  | [] => []
  | t :: l => .agg (tC t) :: tCs l
end
def tA (t : T) : A := .agg (tC t)
abbrev tKs (l : List T) : A := .sl false (l.map tA)
abbrev tX (t : T) : A := .agg [iv t.kind,uws t.words,tKs t.kids]
theorem tCs_map : ∀ l,tCs l = l.map tA
  | [] => by rw [tCs]; rfl
  | t :: l => by rw [tCs,tCs_map l]; rfl
theorem tC_eq (t : T) : tC t = [iv t.kind,uws t.words,tKs t.kids] := by cases t; rw [tC,tCs_map]; rfl
@[simp] theorem tA_eq (t : T) : tA t = tX t := by rw [tA,tC_eq]
def wA (w : WE) : A := .agg [iv w.at_,u8 w.mask,uv w.old,uv w.new]
abbrev wX (w : WE) : A := .agg [iv w.at_,u8 w.mask,uv w.old,uv w.new]
@[simp] theorem wA_eq (w : WE) : wA w = wX w := rfl
abbrev wKs (l : List WE) : A := .sl false (l.map wA)
mutual
def eC : E→List A
  | .mk k o n w ks l os => [iv k,iv o.kind,uws o.words,tKs o.kids,iv n.kind,uws n.words,tKs n.kids,wKs w,.sl false (eKs ks),iv l,.sl false (eOs os)]
def eKs : List KE→List A
  | [] => []
  | .mk a e :: l => .agg (iv a :: eC e) :: eKs l
def eOs : List OP→List A
  | [] => []
  | .mk k n t e :: l => .agg (iv k :: iv n :: tKs t :: eC e) :: eOs l
end
def kA (x : KE) : A := .agg (iv x.at_ :: eC x.e)
def oA (x : OP) : A := .agg (iv x.kind :: iv x.n :: tKs x.l :: eC x.e)
abbrev kKs (l : List KE) : A := .sl false (l.map kA)
abbrev oKs (l : List OP) : A := .sl false (l.map oA)
abbrev eL (e : E) : List A := [iv e.kind,iv e.old.kind,uws e.old.words,tKs e.old.kids,iv e.new.kind,uws e.new.words,tKs e.new.kids,wKs e.words,kKs e.kids,iv e.list,oKs e.ops]
abbrev eX (e : E) : A := .agg (eL e)
abbrev kX (x : KE) : A := .agg (iv x.at_ :: eL x.e)
abbrev oX (x : OP) : A := .agg (iv x.kind :: iv x.n :: tKs x.l :: eL x.e)
theorem eKs_map : ∀ l,eKs l = l.map kA
  | [] => by rw [eKs]; rfl
  | .mk a e :: l => by rw [eKs,eKs_map l]; rfl
theorem eOs_map : ∀ l,eOs l = l.map oA
  | [] => by rw [eOs]; rfl
  | .mk k n t e :: l => by rw [eOs,eOs_map l]; rfl
theorem eC_eq (e : E) : eC e = eL e := by cases e; rw [eC,eKs_map,eOs_map]; rfl
@[simp] theorem kA_eq (x : KE) : kA x = kX x := by rw [kA,eC_eq]
@[simp] theorem oA_eq (x : OP) : oA x = oX x := by rw [oA,eC_eq]
@[simp] theorem lens_uv (l : List Int) : lens 1 (l.map uv) = true := by simp [lens]
@[simp] theorem lens_iv (l : List Int) : lens 1 (l.map iv) = true := by simp [lens]
@[simp] theorem lens_tA (l : List T) : lens 3 (l.map tA) = true := by simp [lens]
@[simp] theorem lens_wA (l : List WE) : lens 4 (l.map wA) = true := by simp [lens]
@[simp] theorem lens_kA (l : List KE) : lens 12 (l.map kA) = true := by simp [lens]
@[simp] theorem lens_oA (l : List OP) : lens 14 (l.map oA) = true := by simp [lens]
theorem lens_all {n : Nat} {l : List A} : lens n l = true ↔ ∀ x,x ∈ l→x.cells.length = n := by simp [lens]
@[simp] theorem lens_take {n k : Nat} {l : List A} (h : lens n l = true) : lens n (l.take k) = true := by
  rw [lens_all] at h ⊢
  exact fun x hx => h x (List.mem_of_mem_take hx)
@[simp] theorem lens_drop {n k : Nat} {l : List A} (h : lens n l = true) : lens n (l.drop k) = true := by
  rw [lens_all] at h ⊢
  exact fun x hx => h x (List.mem_of_mem_drop hx)
theorem frz_row {α : Type} {H : Hp} {o : Nm} {u n sz : Nat} {l : List α} {f : α→A} (h : vr (H o) u = some (sz,l.map f)) (hn : n = l.length) (hf : ∀ x,((f x).cells.length == sz && (f x).cells.all fun y => A.bare1 y && y.one) = true) : Frz H (.osl o u sz 0 n) (.sl false (l.map f)) := by
  subst hn
  have := frz_osl (H := H) (o := o) (u := u) (off := 0) (len := l.length) (sz := sz) (xs := l.map f) (by simpa using h) (by simp) (by
    simp only [List.drop_zero]
    rw [List.take_of_length_le (by simp),List.all_map,List.all_eq_true]
    exact fun x _ => hf x)
  simp [List.take_of_length_le] at this
  exact this
theorem frz_rowT {α : Type} {H : Hp} {o : Nm} {u n sz : Nat} {l : List α} {f : α→A} (h : vr (H o) u = some (sz,l.map f)) (hn : n≤l.length) (hf : ∀ x,((f x).cells.length == sz && (f x).cells.all fun y => A.bare1 y && y.one) = true) : Frz H (.osl o u sz 0 n) (.sl false ((l.take n).map f)) := by
  have := frz_osl (H := H) (o := o) (u := u) (off := 0) (len := n) (sz := sz) (xs := l.map f) (by simpa using h) (by simpa using hn) (by
    simp only [List.drop_zero]
    rw [← List.map_take,List.all_map,List.all_eq_true]
    exact fun x _ => hf x)
  simpa using this
theorem row_succ {α : Type} {f : α→A} {l : List α} {i : Nat} (h : i < l.length) {x : A} (hx : f l[i] = x) : List.take i (List.take i (l.map f)) ++ [x] = (l.take (i + 1)).map f := by
  rw [List.take_take,Nat.min_self,List.take_succ_eq_append_getElem h,List.map_append,List.map_take,← hx]; rfl
theorem frz_T0 {H : Hp} : Frz H (.agg [iv 0,.sl true [],.sl true []]) (tX T0) := frz_agg (by simp; exact ⟨frz_bare rfl,frz_sl,frz_sl⟩)
abbrev i64w (n : Int) : Int := IntKind.i64.wrap n
theorem i64_congr {a b : Int} (h : a % 18446744073709551616 = b % 18446744073709551616) : i64w a = i64w b := by
  unfold i64w; rw [IntKind.wrap_i64,IntKind.wrap_i64]; omega
theorem i64_mod (a : Int) : i64w a % 18446744073709551616 = a % 18446744073709551616 := by
  unfold i64w; rw [IntKind.wrap_i64]; omega
theorem i64_add_l (a b : Int) : IntKind.i64.wrap (IntKind.i64.wrap a + b) = IntKind.i64.wrap (a + b) := i64_congr (by have := i64_mod a; unfold i64w at this; omega)
theorem i64_add_r (a b : Int) : IntKind.i64.wrap (a + IntKind.i64.wrap b) = IntKind.i64.wrap (a + b) := i64_congr (by have := i64_mod b; unfold i64w at this; omega)
theorem i64_sub_l (a b : Int) : IntKind.i64.wrap (IntKind.i64.wrap a - b) = IntKind.i64.wrap (a - b) := i64_congr (by have := i64_mod a; unfold i64w at this; omega)
theorem i64_mul_r (a b : Int) : IntKind.i64.wrap (a * IntKind.i64.wrap b) = IntKind.i64.wrap (a * b) := i64_congr (by rw [Int.mul_emod]; have := i64_mod b; unfold i64w at this; rw [this,← Int.mul_emod])
theorem i64_i64 (a : Int) : IntKind.i64.wrap (IntKind.i64.wrap a) = IntKind.i64.wrap a := i64_congr (i64_mod a)
def i64R (n : Int) : Prop := -9223372036854775808≤n∧n < 9223372036854775808
def u64R (n : Int) : Prop := 0≤n∧n < 18446744073709551616
mutual
def wfT : T→Prop
  | .mk k w l => i64R k∧(∀ x,x ∈ w→u64R x)∧w.length * 8≤140737488355328∧l.length * 56≤140737488355328∧wfTs l
def wfTs : List T→Prop
  | [] => True
  | t :: l => wfT t∧wfTs l
end
theorem wfTs_all : ∀ {l : List T},wfTs l ↔ ∀ t,t ∈ l→wfT t
  | [] => by simp [wfTs]
  | t :: l => by simp [wfTs,wfTs_all (l := l)]
structure WfT (t : T) : Prop where
  k : i64R t.kind
  w : ∀ x,x ∈ t.words→u64R x
  wl : t.words.length * 8≤140737488355328
  kl : t.kids.length * 56≤140737488355328
  ks : ∀ x,x ∈ t.kids→wfT x
theorem wfT_iff {t : T} : wfT t ↔ WfT t := by
  cases t; rw [wfT,wfTs_all]
  exact ⟨fun ⟨a,b,c,d,e⟩ => ⟨a,b,c,d,e⟩,fun ⟨a,b,c,d,e⟩ => ⟨a,b,c,d,e⟩⟩
def WE.wf (w : WE) : Prop := i64R w.at_∧(0≤w.mask∧w.mask < 256)∧u64R w.old∧u64R w.new
mutual
def wfE : E→Prop
  | .mk k o n w ks l os => (i64R k∧i64R l∧wfT o∧wfT n∧(∀ x,x ∈ w→WE.wf x)∧w.length * 32≤140737488355328∧ks.length * 208≤140737488355328∧os.length * 240≤140737488355328)∧wfKs ks∧wfOs os
def wfKs : List KE→Prop
  | [] => True
  | .mk a e :: l => (i64R a∧wfE e)∧wfKs l
def wfOs : List OP→Prop
  | [] => True
  | .mk k n t e :: l => (i64R k∧i64R n∧wfTs t∧t.length * 56≤140737488355328∧wfE e)∧wfOs l
end
structure WfO (x : OP) : Prop where
  k : i64R x.kind
  n : i64R x.n
  l : ∀ t,t ∈ x.l→wfT t
  ll : x.l.length * 56≤140737488355328
  e : wfE x.e
theorem wfKs_all : ∀ {l : List KE},wfKs l ↔ ∀ x,x ∈ l→i64R x.at_∧wfE x.e
  | [] => by simp [wfKs]
  | .mk a e :: l => by simp [wfKs,wfKs_all (l := l)]
theorem wfOs_all : ∀ {l : List OP},wfOs l ↔ ∀ x,x ∈ l→WfO x
  | [] => by simp [wfOs]
  | .mk k n t e :: l => by
    simp only [wfOs,wfOs_all (l := l),wfTs_all,List.forall_mem_cons]
    exact ⟨fun ⟨⟨a,b,c,d,e⟩,h⟩ => ⟨⟨a,b,c,d,e⟩,h⟩,fun ⟨⟨a,b,c,d,e⟩,h⟩ => ⟨⟨a,b,c,d,e⟩,h⟩⟩
structure WfE (e : E) : Prop where
  k : i64R e.kind
  l : i64R e.list
  o : wfT e.old
  n : wfT e.new
  w : ∀ x,x ∈ e.words→WE.wf x
  wl : e.words.length * 32≤140737488355328
  kl : e.kids.length * 208≤140737488355328
  ol : e.ops.length * 240≤140737488355328
  ks : ∀ x,x ∈ e.kids→i64R x.at_∧wfE x.e
  os : ∀ x,x ∈ e.ops→WfO x
theorem wfE_iff {e : E} : wfE e ↔ WfE e := by
  cases e; rw [wfE,wfKs_all,wfOs_all]
  exact ⟨fun ⟨⟨a,b,c,d,e,f,g,h⟩,i,j⟩ => ⟨a,b,c,d,e,f,g,h,i,j⟩,fun ⟨a,b,c,d,e,f,g,h,i,j⟩ => ⟨⟨a,b,c,d,e,f,g,h⟩,i,j⟩⟩
end Go.Proofs.YtbjmaoedheiigaaGreat
namespace Go.PL
set_option linter.unusedVariables false
set_option linter.unusedSimpArgs false
structure Sc where
  i : Nat
  j : Nat
  n : Int
  deriving DecidableEq
def sc0 : Sc := ⟨0,0,0⟩
def aheadB (a b : Sc) : Bool := decide (b.n < a.n) || (decide (a.n = b.n) && (decide (a.i < b.i) || (decide (a.i = b.i) && decide (a.j < b.j))))
def swL (l : List Sc) (i j : Nat) : List Sc := (l.set i (l.getD j sc0)).set j (l.getD i sc0)
@[simp] theorem swL_len {l : List Sc} {i j : Nat} : (swL l i j).length = l.length := by simp [swL]
def upL : Nat→List Sc→Nat→List Sc
  | 0,l,_ => l
  | f + 1,l,j => if (j - 1) / 2 = j∨aheadB (l.getD j sc0) (l.getD ((j - 1) / 2) sc0) = false then l else upL f (swL l ((j - 1) / 2) j) ((j - 1) / 2)
def kidL (l : List Sc) (i n : Nat) : Nat := if 2 * i + 2 < n∧aheadB (l.getD (2 * i + 2) sc0) (l.getD (2 * i + 1) sc0) = true then 2 * i + 2 else 2 * i + 1
def downL : Nat→List Sc→Nat→Nat→List Sc × Nat
  | 0,l,i,_ => (l,i)
  | f + 1,l,i,n => if n≤2 * i + 1 then (l,i) else if aheadB (l.getD (kidL l i n) sc0) (l.getD i sc0) = true then downL f (swL l i (kidL l i n)) (kidL l i n) n else (l,i)
theorem upL_len : ∀ (f : Nat) (l : List Sc) (j : Nat),(upL f l j).length = l.length
  | 0,l,j => rfl
  | f + 1,l,j => by
    unfold upL
    split
    · rfl
    · rw [upL_len f]; simp
theorem downL_len : ∀ (f : Nat) (l : List Sc) (i n : Nat),(downL f l i n).1.length = l.length
  | 0,l,i,n => rfl
  | f + 1,l,i,n => by
    unfold downL
    split
    · rfl
    · split
      · rw [downL_len f]; simp
      · rfl
end Go.PL
namespace Go.PL
set_option linter.unusedVariables false
set_option linter.unusedSimpArgs false
open List
theorem ahead_iff {a b : Sc} : aheadB a b = true ↔ b.n < a.n∨(a.n = b.n∧(a.i < b.i∨(a.i = b.i∧a.j < b.j))) := by
  unfold aheadB
  simp
theorem ahead_not {a b : Sc} : aheadB a b = false ↔ a.n < b.n∨(a.n = b.n∧(b.i < a.i∨(a.i = b.i∧b.j≤a.j))) := by
  rw [Bool.eq_false_iff,ne_eq,ahead_iff]
  omega
theorem ahead_irr (a : Sc) : aheadB a a = false := by rw [ahead_not]; omega
theorem ahead_asym {a b : Sc} (h : aheadB a b = true) : aheadB b a = false := by
  rw [ahead_iff] at h; rw [ahead_not]; omega
theorem nb_trans {a b c : Sc} (h1 : aheadB b a = false) (h2 : aheadB c b = false) : aheadB c a = false := by
  rw [ahead_not] at h1 h2 ⊢; omega
theorem ahead_tot {a b : Sc} (h1 : aheadB a b = false) (h2 : aheadB b a = false) : a = b := by
  rw [ahead_not] at h1 h2
  obtain ⟨i,j,n⟩ := a
  obtain ⟨i',j',n'⟩ := b
  simp at h1 h2 ⊢
  omega
abbrev gt (l : List Sc) (k : Nat) : Sc := l.getD k sc0
theorem swL_get {l : List Sc} {i j : Nat} (hi : i < l.length) (hj : j < l.length) (k : Nat) : gt (swL l i j) k = if k = j then gt l i else if k = i then gt l j else gt l k := by
  unfold gt swL
  simp only [List.getD_eq_getElem?_getD,List.getElem?_set,List.length_set]
  by_cases h1 : k = j
  · subst h1; simp [hj]
  · rw [if_neg (fun e => h1 e.symm)]
    by_cases h2 : k = i
    · subst h2; simp [h1,hi]
    · rw [if_neg (fun e => h2 e.symm)]; simp [h1,h2]
theorem swL_perm {l : List Sc} {i j : Nat} (hi : i < l.length) (hj : j < l.length) : swL l i j ~ l := by
  unfold swL
  rw [List.getD_eq_getElem?_getD,List.getD_eq_getElem?_getD,List.getElem?_eq_getElem hi,List.getElem?_eq_getElem hj]
  exact List.set_set_perm hi hj
def HeapL (l : List Sc) (n : Nat) : Prop := ∀ k,0 < k→k < n→aheadB (gt l k) (gt l ((k - 1) / 2)) = false
theorem heap_min {l : List Sc} {n : Nat} (h : HeapL l n) : ∀ k,k < n→aheadB (gt l k) (gt l 0) = false := by
  intro k
  induction k using Nat.strongRecOn with
  | _ k ih =>
    intro hk
    by_cases h0 : k = 0
    · subst h0; exact ahead_irr _
    · exact nb_trans (ih ((k - 1) / 2) (by omega) (by omega)) (h k (by omega) hk)
def UpInv (l : List Sc) (n j : Nat) : Prop := (∀ k,0 < k→k < n→k ≠ j→aheadB (gt l k) (gt l ((k - 1) / 2)) = false)∧(∀ k,0 < k→k < n→(k - 1) / 2 = j→0 < j→aheadB (gt l k) (gt l ((j - 1) / 2)) = false)
theorem up_ok : ∀ (f : Nat) (l : List Sc) (j : Nat),j < f→j < l.length→UpInv l l.length j→HeapL (upL f l j) l.length∧upL f l j ~ l
  | 0,l,j,hf,_,_ => by omega
  | f + 1,l,j,hf,hj,⟨h1,h2⟩ => by
    unfold upL
    split
    · rename_i hc
      refine ⟨fun k hk hk2 => ?_,Perm.refl _⟩
      by_cases e : k = j
      · subst e
        rcases hc with hc | hc
        · omega
        · exact hc
      · exact h1 k hk hk2 e
    · rename_i hc
      have hij : ¬ (j - 1) / 2 = j := fun e => hc (.inl e)
      have hA : aheadB (gt l j) (gt l ((j - 1) / 2)) = true := by
        cases hq : aheadB (gt l j) (gt l ((j - 1) / 2)) with
        | true => rfl
        | false => exact (hc (.inr hq)).elim
      obtain ⟨i,hi⟩ : ∃ i,i = (j - 1) / 2 := ⟨_,rfl⟩
      rw [← hi] at hij hA h2 ⊢
      have hil : i < l.length := by omega
      have hlt : i < j := by omega
      have ih := up_ok f (swL l i j) i (by omega) (by simp; omega) ⟨fun k hk hk2 hne => ?_,fun k hk hk2 hp h0 => ?_⟩
      · simp only [swL_len] at ih
        exact ⟨ih.1,ih.2.trans (swL_perm hil hj)⟩
      · simp only [swL_len] at hk2
        rw [swL_get hil hj,swL_get hil hj]
        by_cases e1 : k = j
        · subst e1
          rw [if_pos rfl,← hi,if_neg (by omega),if_pos rfl]
          exact ahead_asym hA
        · rw [if_neg e1,if_neg hne]
          by_cases e2 : (k - 1) / 2 = j
          · rw [if_pos e2]
            exact h2 k hk hk2 e2 (by omega)
          · rw [if_neg e2]
            by_cases e3 : (k - 1) / 2 = i
            · rw [if_pos e3]
              have := h1 k hk hk2 e1
              rw [e3] at this
              exact nb_trans (ahead_asym hA) this
            · rw [if_neg e3]
              exact h1 k hk hk2 e1
      · simp only [swL_len] at hk2
        rw [swL_get hil hj,swL_get hil hj]
        have hpi := h1 i h0 hil (by omega)
        rw [if_neg (by omega : ¬ (i - 1) / 2 = j),if_neg (by omega : ¬ (i - 1) / 2 = i)]
        by_cases e1 : k = j
        · rw [if_pos e1]; exact hpi
        · rw [if_neg e1,if_neg (by omega : ¬ k = i)]
          have := h1 k hk hk2 e1
          rw [hp] at this
          exact nb_trans hpi this
theorem push_ok {l : List Sc} (h : HeapL l l.length) (x : Sc) : HeapL (upL (l.length + 1) (l ++ [x]) l.length) (l.length + 1)∧upL (l.length + 1) (l ++ [x]) l.length ~ x :: l := by
  have hg : ∀ k,k < l.length→gt (l ++ [x]) k = gt l k := fun k hk => by
    unfold gt
    rw [List.getD_eq_getElem?_getD,List.getD_eq_getElem?_getD,List.getElem?_append_left hk]
  have := up_ok (l.length + 1) (l ++ [x]) l.length (by omega) (by simp) ⟨fun k hk hk2 hne => ?_,fun k hk hk2 hp h0 => ?_⟩
  · simp only [List.length_append,List.length_singleton] at this
    exact ⟨this.1,this.2.trans (List.perm_append_singleton x l)⟩
  · simp at hk2
    rw [hg k (by omega),hg _ (by omega)]
    exact h k hk (by omega)
  · simp at hk2; omega
def DownInv (l : List Sc) (n i : Nat) : Prop := (∀ k,0 < k→k < n→(k - 1) / 2 ≠ i→aheadB (gt l k) (gt l ((k - 1) / 2)) = false)∧(∀ k,0 < k→k < n→(k - 1) / 2 = i→0 < i→aheadB (gt l k) (gt l ((i - 1) / 2)) = false)
theorem kid_facts {l : List Sc} {i n : Nat} (h : 2 * i + 1 < n) : kidL l i n < n∧(kidL l i n - 1) / 2 = i∧i < kidL l i n∧∀ k,0 < k→k < n→(k - 1) / 2 = i→aheadB (gt l k) (gt l (kidL l i n)) = false := by
  unfold kidL
  split
  · rename_i hc
    refine ⟨hc.1,by omega,by omega,fun k hk hk2 hp => ?_⟩
    have : k = 2 * i + 1∨k = 2 * i + 2 := by omega
    rcases this with rfl | rfl
    · exact ahead_asym hc.2
    · exact ahead_irr _
  · rename_i hc
    refine ⟨h,by omega,by omega,fun k hk hk2 hp => ?_⟩
    have : k = 2 * i + 1∨k = 2 * i + 2 := by omega
    rcases this with rfl | rfl
    · exact ahead_irr _
    · cases hq : aheadB (gt l (2 * i + 2)) (gt l (2 * i + 1)) with
      | false => rfl
      | true => exact (hc ⟨hk2,hq⟩).elim
theorem down_ok : ∀ (f : Nat) (l : List Sc) (i n : Nat),n≤l.length→i < l.length→n < i + f→DownInv l n i→HeapL (downL f l i n).1 n∧(downL f l i n).1 ~ l∧∀ k,n≤k→gt (downL f l i n).1 k = if k = i then gt (downL f l i n).1 i else gt l k
  | 0,l,i,n,hn,hil,hf,⟨h1,h2⟩ => by
    refine ⟨fun k hk hk2 => h1 k hk hk2 (by omega),Perm.refl _,fun k hk => ?_⟩
    show gt l k = if k = i then gt l i else gt l k
    split
    · rename_i e; rw [e]
    · rfl
  | f + 1,l,i,n,hn,hil,hf,⟨h1,h2⟩ => by
    have same : ∀ k : Nat,gt l k = if k = i then gt l i else gt l k := fun k => by
      split
      · rename_i e; rw [e]
      · rfl
    unfold downL
    split
    · refine ⟨fun k hk hk2 => h1 k hk hk2 (by omega),Perm.refl _,fun k _ => same k⟩
    · rename_i hlt
      obtain ⟨c1,c2,c3,c4⟩ := kid_facts (l := l) (i := i) (n := n) (by omega)
      split
      · rename_i hA
        generalize kidL l i n = c at *
        have hcl : c < l.length := by omega
        have ih := down_ok f (swL l i c) c n (by simp; omega) (by simp; omega) (by omega) ⟨fun k hk hk2 hne => ?_,fun k hk hk2 hp h0 => ?_⟩
        · refine ⟨ih.1,ih.2.1.trans (swL_perm hil hcl),fun k hk => ?_⟩
          rw [ih.2.2 k hk,if_neg (by omega : ¬ k = c),swL_get hil hcl,if_neg (by omega : ¬ k = c)]
          by_cases e : k = i
          · subst e
            omega
          · rw [if_neg e,if_neg e]
        · rw [swL_get hil hcl,swL_get hil hcl]
          by_cases e1 : k = c
          · subst e1
            rw [if_pos rfl,c2,if_neg (by omega),if_pos rfl]
            exact ahead_asym hA
          · rw [if_neg e1]
            by_cases e2 : k = i
            · subst e2
              rw [if_pos rfl,if_neg hne,if_neg (by omega : ¬ (k - 1) / 2 = k)]
              exact h2 c (by omega) c1 c2 hk
            · rw [if_neg e2,if_neg hne]
              by_cases e3 : (k - 1) / 2 = i
              · rw [if_pos e3]
                exact c4 k hk hk2 e3
              · rw [if_neg e3]
                exact h1 k hk hk2 e3
        · rw [swL_get hil hcl,swL_get hil hcl,c2,if_neg (by omega : ¬ i = c),if_pos rfl,if_neg (by omega : ¬ k = c),if_neg (by omega : ¬ k = i)]
          have := h1 k hk hk2 (by omega)
          rwa [hp] at this
      · rename_i hA
        have hA' : aheadB (gt l (kidL l i n)) (gt l i) = false := by
          cases hq : aheadB (gt l (kidL l i n)) (gt l i) with
          | false => rfl
          | true => exact (hA hq).elim
        refine ⟨fun k hk hk2 => ?_,Perm.refl _,fun k _ => same k⟩
        by_cases e : (k - 1) / 2 = i
        · rw [e]
          exact nb_trans hA' (c4 k hk hk2 e)
        · exact h1 k hk hk2 e
def popL (l : List Sc) : List Sc := (downL (l.length - 1 + 1) (swL l 0 (l.length - 1)) 0 (l.length - 1)).1
theorem popL_len (l : List Sc) : (popL l).length = l.length := by unfold popL; rw [downL_len]; simp
theorem gt_at {l : List Sc} {i : Nat} (h : i < l.length) : gt l i = l[i] := by unfold gt; rw [List.getD_eq_getElem?_getD,List.getElem?_eq_getElem h]; rfl
theorem gt_take {l : List Sc} {n k : Nat} (h : k < n) : gt (l.take n) k = gt l k := by
  unfold gt
  rw [List.getD_eq_getElem?_getD,List.getD_eq_getElem?_getD,List.getElem?_take,if_pos h]
theorem pop_ok {l : List Sc} (h0 : 0 < l.length) (h : HeapL l l.length) : gt (popL l) (l.length - 1) = gt l 0∧HeapL ((popL l).take (l.length - 1)) (l.length - 1)∧(gt l 0 :: (popL l).take (l.length - 1)) ~ l := by
  have hlen := popL_len l
  obtain ⟨n,hn⟩ : ∃ n,n = l.length - 1 := ⟨_,rfl⟩
  unfold popL at hlen ⊢
  rw [← hn] at hlen ⊢
  have hnl : n < l.length := by omega
  have hd := down_ok (n + 1) (swL l 0 n) 0 n (by simp; omega) (by simp; omega) (by omega) ⟨fun k hk hk2 hne => ?_,fun k _ _ _ h0 => by omega⟩
  · generalize hl2 : (downL (n + 1) (swL l 0 n) 0 n).1 = l2 at hd hlen
    have hg : gt l2 n = gt l 0 := by
      by_cases e : n = 0
      · subst e
        have : l2 = swL l 0 0 := by rw [← hl2,downL,if_pos (by omega)]
        rw [this,swL_get h0 h0,if_pos rfl]
      · rw [hd.2.2 n (Nat.le_refl _),if_neg e,swL_get h0 hnl,if_pos rfl]
    refine ⟨hg,fun k hk hk2 => ?_,?_⟩
    · rw [gt_take hk2,gt_take (by omega)]
      exact hd.1 k hk hk2
    · have hsplit : l2 = l2.take n ++ [gt l2 n] := by
        rw [gt_at (by omega),List.take_append_getElem,List.take_of_length_le (by omega)]
      refine Perm.trans ?_ (hd.2.1.trans (swL_perm h0 hnl))
      conv => rhs; rw [hsplit]
      rw [hg]
      exact (List.perm_append_singleton _ _).symm
  · rw [swL_get h0 hnl,swL_get h0 hnl,if_neg (by omega : ¬ k = n),if_neg (by omega : ¬ k = 0),if_neg (by omega : ¬ (k - 1) / 2 = n),if_neg hne]
    exact h k hk (by omega)
def par (p q : Sc) : Bool := (decide (p.i < q.i) && decide (p.j < q.j)) || (decide (q.i < p.i) && decide (q.j < p.j))
theorem par_symm {p q : Sc} : par p q = par q p := by unfold par; rw [Bool.or_comm]
theorem par_irr (p : Sc) : par p p = false := by simp [par]
def freeB (o : List Sc) (x : Sc) : Bool := o.all fun p => par p x
theorem free_snoc {o : List Sc} {x y : Sc} : freeB (o ++ [x]) y = (freeB o y && par x y) := by simp [freeB]
def Best (all o : List Sc) (x : Sc) : Prop := x ∈ all∧freeB o x = true∧∀ y,y ∈ all→freeB o y = true→aheadB y x = false
inductive Picks (all : List Sc) : List Sc→List Sc→Prop
  | done {o} : (∀ y,y ∈ all→freeB o y = false)→Picks all o o
  | step {o x o'} : Best all o x→Picks all (o ++ [x]) o'→Picks all o o'
theorem best_one {all o : List Sc} {x y : Sc} (h : Best all o x) (k : Best all o y) : x = y := ahead_tot (k.2.2 x h.1 h.2.1) (h.2.2 y k.1 k.2.1)
theorem picks_one {all o a b : List Sc} (h : Picks all o a) : Picks all o b→a = b := by
  induction h with
  | done h =>
    intro k
    cases k with
    | done => rfl
    | step hb _ =>
      have := hb.2.1
      rw [h _ hb.1] at this
      cases this
  | step hb _ ih =>
    intro k
    cases k with
    | done k =>
      have := hb.2.1
      rw [k _ hb.1] at this
      cases this
    | step hb' k =>
      have := best_one hb hb'
      subst this
      exact ih k
def Apart19 (o : List Sc) : Prop := o.Pairwise fun p q => par p q = true
theorem apart_snoc {o : List Sc} {x : Sc} (h : Apart19 o) (hx : freeB o x = true) : Apart19 (o ++ [x]) := by
  unfold Apart19 at h ⊢
  rw [List.pairwise_append]
  refine ⟨h,by simp,fun p hp q hq => ?_⟩
  simp at hq
  subst hq
  simp [freeB] at hx
  exact hx p hp
theorem picks_apart {all o o' : List Sc} (h : Picks all o o') : Apart19 o→(∀ x,x ∈ o→x ∈ all)→Apart19 o'∧∀ x,x ∈ o'→x ∈ all := by
  induction h with
  | done => exact fun h k => ⟨h,k⟩
  | step hb _ ih =>
    intro h k
    refine ih (apart_snoc h hb.2.1) fun x hx => ?_
    rcases List.mem_append.1 hx with hx | hx
    · exact k x hx
    · simp at hx; subst hx; exact hb.1
theorem pick_pop {all o : List Sc} {x : Sc} {l rest : List Sc} (hl : x :: rest ~ l) (hmin : ∀ y,y ∈ l→aheadB y x = false) (hall : ∀ y,y ∈ all→y ∈ l∨freeB o y = false) (hsub : ∀ y,y ∈ l→y ∈ all) :
    (freeB o x = true→Best all o x∧(∀ y,y ∈ all→y ∈ rest∨freeB (o ++ [x]) y = false))∧(freeB o x = false→∀ y,y ∈ all→y ∈ rest∨freeB o y = false) := by
  refine ⟨fun hx => ⟨⟨hsub x (hl.subset (by simp)),hx,fun y hy hf => ?_⟩,fun y hy => ?_⟩,fun hx y hy => ?_⟩
  · rcases hall y hy with h | h
    · exact hmin y h
    · rw [h] at hf; cases hf
  · rcases hall y hy with h | h
    · rcases List.mem_cons.1 (hl.symm.subset h) with rfl | h
      · right; rw [free_snoc,par_irr]; simp
      · exact .inl h
    · right; rw [free_snoc,h]; rfl
  · rcases hall y hy with h | h
    · rcases List.mem_cons.1 (hl.symm.subset h) with rfl | h
      · exact .inr hx
      · exact .inl h
    · exact .inr h
def insI (x : Sc) : List Sc→List Sc
  | [] => [x]
  | y :: l => if y.i < x.i then y :: insI x l else x :: y :: l
def Rises (l : List Sc) : Prop := l.Pairwise fun p q => p.i < q.i
theorem insI_perm (x : Sc) : ∀ l,insI x l ~ x :: l
  | [] => Perm.refl _
  | y :: l => by
    unfold insI
    split
    · exact ((insI_perm x l).cons y).trans (Perm.swap x y l)
    · exact Perm.refl _
theorem insI_rises {x : Sc} : ∀ {l : List Sc},Rises l→(∀ y,y ∈ l→y.i ≠ x.i)→Rises (insI x l)
  | [],_,_ => by simp [insI,Rises]
  | y :: l,h,hne => by
    unfold insI
    unfold Rises at h ⊢
    rw [List.pairwise_cons] at h
    split
    · rename_i hlt
      rw [List.pairwise_cons]
      refine ⟨fun z hz => ?_,insI_rises h.2 fun z hz => hne z (by simp [hz])⟩
      rcases List.mem_cons.1 ((insI_perm x l).subset hz) with rfl | hz
      · exact hlt
      · exact h.1 z hz
    · rename_i hlt
      have := hne y (by simp)
      rw [List.pairwise_cons,List.pairwise_cons]
      refine ⟨fun z hz => ?_,h⟩
      rcases List.mem_cons.1 hz with rfl | hz
      · omega
      · have := h.1 z hz; omega
theorem rises_one : ∀ {l m : List Sc},Rises l→Rises m→l ~ m→l = m
  | [],m,_,_,h => (List.nil_perm.1 h).symm
  | x :: l,[],_,_,h => by have := h.length_eq; simp at this
  | x :: l,y :: m,hl,hm,h => by
    unfold Rises at hl hm
    rw [List.pairwise_cons] at hl hm
    have e : x = y := by
      rcases List.mem_cons.1 (h.subset (by simp : x ∈ x :: l)) with e | e
      · exact e
      · rcases List.mem_cons.1 (h.symm.subset (by simp : y ∈ y :: m)) with e2 | e2
        · exact e2.symm
        · have h1 := hm.1 x e
          have h2 := hl.1 y e2
          omega
    subst e
    rw [rises_one hl.2 hm.2 ((List.perm_cons x).1 h)]
def srtI (o : List Sc) : List Sc := o.foldl (fun l x => insI x l) []
theorem srt_ok {o : List Sc} (h : Apart19 o) : Rises (srtI o)∧srtI o ~ o := by
  have main : ∀ (o l p : List Sc),Rises l→l ~ p→(p ++ o).Pairwise (fun a b => par a b = true)→Rises (o.foldl (fun l x => insI x l) l)∧o.foldl (fun l x => insI x l) l ~ p ++ o := by
    intro o
    induction o with
    | nil => intro l p h1 h2 _; simpa using ⟨h1,h2⟩
    | cons x o ih =>
      intro l p h1 h2 h3
      have hx : ∀ y,y ∈ p→par y x = true := fun y hy => by
        rw [List.pairwise_append] at h3
        exact h3.2.2 y hy x (by simp)
      have := ih (insI x l) (p ++ [x]) (insI_rises h1 fun y hy e => by
        have := hx y (h2.subset hy)
        simp [par] at this
        omega) ((insI_perm x l).trans ((h2.cons x).trans (List.perm_append_singleton x p).symm)) (by simpa using h3)
      simpa using this
  have := main o [] [] (by simp [Rises]) (Perm.refl _) (by show Apart19 ([] ++ o); exact h)
  simpa [srtI] using this
theorem rises_len : ∀ (l : List Sc) (a b : Nat),Rises l→(∀ x,x ∈ l→a≤x.i∧x.i < b)→l.length≤b - a
  | [],a,b,_,_ => by simp
  | x :: l,a,b,h,hb => by
    unfold Rises at h
    rw [List.pairwise_cons] at h
    have h1 := hb x (by simp)
    have := rises_len l (x.i + 1) b h.2 fun y hy => ⟨h.1 y hy,(hb y (by simp [hy])).2⟩
    simp
    omega
end Go.PL
namespace Go.Proofs.YtbjmaoedheiigaaGreat
set_option linter.unusedVariables false
set_option linter.unusedSimpArgs false
open Go Go.G Go.Proofs Go.PL
def scC (x : Sc) : List A := [iv x.i,iv x.j,iv x.n]
def scA (x : Sc) : A := .agg (scC x)
@[simp] theorem scA_cells {x : Sc} : (scA x).cells = scC x := rfl
@[simp] theorem scC_len {x : Sc} : (scC x).length = 3 := rfl
@[simp] theorem ifc_rowP {a : A} : ifcA Tryz.prog 277 a = some (.ifc 277 a) := by
  unfold ifcA
  rw [show Tryz.prog.underlying 277 = some (.pointer 279) by kernel_rfl]
@[simp] theorem ifc_sc {a : A} : ifcA Tryz.prog 282 a = some (.ifc 282 a) := by
  unfold ifcA
  rw [show Tryz.prog.underlying 282 = some (.struct (Tryz.prog.fieldsOf 282)) by kernel_rfl]
@[simp] theorem assert_sc {a : A} : assertA Tryz.prog 282 false (.ifc 282 a) = some a := by
  simp only [assertA,if_true]
  rw [show Tryz.prog.underlying 282 = some (.struct (Tryz.prog.fieldsOf 282)) by kernel_rfl]
  rfl
def hpF (l junk : List Sc) (v : Nat) : Fam := ⟨fun r p => if p = [] then ⟨1,.cells [.osl (r :: [0]) v 3 0 l.length]⟩ else if p = [0] then ⟨v,.arr 3 ((l ++ junk).map scA)⟩ else ⟨0,.none⟩,fun {g δ r r'} hg hd p => by
    by_cases h1 : p = []
    · rw [if_pos h1,if_pos h1]
      refine Fam.cells_ren ?_
      simp [A.renL,A.ren,hg,hd]
    · rw [if_neg h1,if_neg h1]
      by_cases h2 : p = [0]
      · rw [if_pos h2]
        refine Fam.arr_ren ?_
        have e : ∀ x : Sc,(scA x).ren g δ = scA x := fun x => by simp [scA,scC,A.ren,A.renL]
        simp only [renL_map,List.map_map]
        refine List.map_congr_left fun x _ => ?_
        exact e x
      · rw [if_neg h2]; rfl,fun {D r} hD p => by
    by_cases h1 : p = []
    · rw [if_pos h1]
      simp [Ob.refs,A.refsL,A.refs,hD]
    · rw [if_neg h1]
      by_cases h2 : p = [0]
      · rw [if_pos h2]
        simp only [Ob.refs,refsL_iff]
        intro y hy
        obtain ⟨x,_,rfl⟩ := List.mem_map.1 hy
        simp [A.refs,A.refsL,scA,scC]
      · rw [if_neg h2]; trivial⟩
@[simp] theorem hpF_F {l junk : List Sc} {v r : Nat} {p : Nm} : (hpF l junk v).F r p = if p = [] then ⟨1,.cells [.osl (r :: [0]) v 3 0 l.length]⟩ else if p = [0] then ⟨v,.arr 3 ((l ++ junk).map scA)⟩ else ⟨0,.none⟩ := rfl
abbrev hpP (r : Nat) : A := .pob [r] 1 0
abbrev hpI (r : Nat) : A := .ifc 277 (hpP r)
abbrev scI (x : Sc) : A := .ifc 282 (scA x)
theorem sc_bare {x : Sc} : ∀ y,y ∈ scC x→y.bare1 = true := fun y hy => by simp [scC] at hy; rcases hy with rfl | rfl | rfl <;> rfl
@[simp] theorem sc_ones {x : Sc} : A.ones (scC x) = true := rfl
@[simp] theorem sc_take {x : Sc} : (scC x).take 3 = scC x := rfl
theorem sc_agg {x : Sc} : A.agg (scC x) = scA x := rfl
theorem lens_sc {l : List Sc} : lens 3 (l.map scA) = true := by rw [lens_all]; simp
theorem famA_scI (x : Sc) : FamA (fun _ => scI x) := famA_ifc (famA_bare (cs := scC x) rfl fun y hy => by simp [scC] at hy; rcases hy with rfl | rfl | rfl <;> rfl)
theorem hLen_spec (l junk : List Sc) (v : Nat) (hl : l.length≤1000) : SpecF Tryz.prog 237 (fun r => [.osl (r :: [0]) v 3 0 l.length]) (hpF l junk v) (fun _ => iv l.length) (hpF l junk v) := by
  refine specF_of t_pair_row_Len (by simp) (famL_cons famA_osl famL_nil) famA_v fun w0 I0 M0 m0 => ?_
  unfold c_pair_row_Len
  simp
  exact reth_fam rfl rfl (fun p => by simp)
theorem hPush_spec (l junk : List Sc) (v : Nat) (hl : l.length≤1000) (x : Sc) : SpecF Tryz.prog 307 (fun r => [hpP r,scI x]) (hpF l junk v) (fun _ => .tup []) (hpF (l ++ [x]) [] (v + 1)) := by
  refine specF_of t_pair_row_Push (by simp) (famL_cons famA_pob (famL_cons (famA_scI x) famL_nil)) (famA_tup famL_nil) fun w0 I0 M0 m0 => ?_
  unfold c_pair_row_Push
  simp [lens_sc,updF_app]
  refine ⟨sc_bare,by omega,?_⟩
  exact reth_famN rfl rfl (fun p => by by_cases h1 : p = [] <;> by_cases h2 : p = [0] <;> simp [h1,h2,updF_app])
theorem hPop_spec (l junk : List Sc) (v : Nat) (hl : l.length≤1000) (x : Sc) : SpecF Tryz.prog 306 (fun r => [hpP r]) (hpF (l ++ [x]) junk v) (fun _ => scI x) (hpF l (x :: junk) v) := by
  refine specF_of t_pair_row_Pop (by simp) (famL_cons famA_pob famL_nil) (famA_scI x) fun w0 I0 M0 m0 => ?_
  have e1 : IntKind.i64.wrap (l.length : Int) = (l.length : Int) := i64_same (by omega) (by omega)
  have he : (l.map scA ++ scA x :: junk.map scA)[l.length]? = some (scA x) := by
    rw [List.getElem?_append_right (by simp)]; simp
  unfold c_pair_row_Pop
  simp [e1,he,updF_app,show (l.length : Int) < l.length + 1 by omega,show (l.length : Int)≤l.length + 1 by omega]
  exact reth_famN rfl rfl (fun p => by by_cases h1 : p = [] <;> by_cases h2 : p = [0] <;> simp [h1,h2,updF_app])
theorem isNaN_spec (n : Int) : G.Spec Tryz.prog 266 [iv n] (bv false) := by
  refine spec_of t_cmp_isNaN_int (by simp) fun w0 I0 => ?_
  unfold c_cmp_isNaN_int
  simp
  exact frz_bare rfl
def cmpZ (a b : Int) : Int := if a < b then -1 else if b < a then 1 else 0
theorem cmp_spec (a b : Int) : G.Spec Tryz.prog 243 [iv a,iv b] (iv (cmpZ a b)) := by
  refine spec_of t_cmp_Compare_int (by simp) fun w0 I0 => ?_
  unfold c_cmp_Compare_int cmpZ
  simp
  refine sc_call (isNaN_spec a) rfl ?_
  simp
  refine sc_call (isNaN_spec b) rfl ?_
  by_cases h : a < b
  · simp [h]
    exact frz_bare rfl
  · by_cases h2 : b < a
    · simp [h,h2]
      exact frz_bare rfl
    · simp [h,h2]
      exact frz_bare rfl
theorem or_spec (a b c : Int) : G.Spec Tryz.prog 310 [.sl true [iv a,iv b,iv c]] (iv (if a ≠ 0 then a else if b ≠ 0 then b else c)) := by
  refine spec_of t_cmp_Or_int (by simp) fun w0 I0 => ?_
  have w1 : IntKind.i64.wrap 1 = 1 := rfl
  have w2 : IntKind.i64.wrap 2 = 2 := rfl
  have w3 : IntKind.i64.wrap 3 = 3 := rfl
  unfold c_cmp_Or_int
  simp
  refine loopC_once mixed l1_cmp_Or_int.eq_1 ?_
  by_cases h1 : a = 0
  · simp [h1,w1]
    refine loopC_once mixed l1_cmp_Or_int.eq_1 ?_
    by_cases h2 : b = 0
    · simp [h2,w2]
      refine loopC_once mixed l1_cmp_Or_int.eq_1 ?_
      by_cases h3 : c = 0
      · simp [h3,w3]
        refine loopC_once mixed l1_cmp_Or_int.eq_1 ?_
        simp
        exact frz_bare rfl
      · simp [h3]
        exact frz_bare rfl
    · simp [h2]
      exact frz_bare rfl
  · simp [h1]
    exact frz_bare rfl
theorem ahead_cmp (a b : Sc) : decide ((if cmpZ b.n a.n ≠ 0 then cmpZ b.n a.n else if cmpZ a.i b.i ≠ 0 then cmpZ a.i b.i else cmpZ a.j b.j) < 0) = aheadB a b := by
  have h3 : ∀ x y : Int,(x < y∧cmpZ x y = -1)∨(x = y∧cmpZ x y = 0)∨(y < x∧cmpZ x y = 1) := fun x y => by
    unfold cmpZ
    rcases Int.lt_trichotomy x y with h | h | h
    · exact .inl ⟨h,if_pos h⟩
    · exact .inr (.inl ⟨h,by rw [if_neg (by omega),if_neg (by omega)]⟩)
    · exact .inr (.inr ⟨h,by rw [if_neg (by omega),if_pos h]⟩)
  unfold aheadB
  rcases h3 b.n a.n with ⟨h,e⟩ | ⟨h,e⟩ | ⟨h,e⟩
  · rw [e]; simp [h]
  · rw [e]
    rcases h3 a.i b.i with ⟨h2,e2⟩ | ⟨h2,e2⟩ | ⟨h2,e2⟩
    · rw [e2]
      have : a.i < b.i := by omega
      simp [h,this]
    · rw [e2]
      have h2' : a.i = b.i := by omega
      rcases h3 a.j b.j with ⟨h4,e4⟩ | ⟨h4,e4⟩ | ⟨h4,e4⟩
      · rw [e4]
        have : a.j < b.j := by omega
        simp [h,h2',this]
      · rw [e4]
        have : ¬ a.j < b.j := by omega
        simp [h,h2',this]
      · rw [e4]
        have : ¬ a.j < b.j := by omega
        simp [h,h2',this]
    · rw [e2]
      have h5 : ¬ a.i < b.i := by omega
      have h6 : ¬ a.i = b.i := by omega
      simp [h,h5,h6]
  · rw [e]
    have h5 : ¬ b.n < a.n := by omega
    have h6 : ¬ a.n = b.n := by omega
    simp [h5,h6]
theorem ahead_spec (a b : Sc) : G.Spec Tryz.prog 309 [scA a,scA b] (bv (aheadB a b)) := by
  refine spec_of t_pair_scored_ahead (by simp) fun w0 I0 => ?_
  have hO := or_spec (cmpZ b.n a.n) (cmpZ a.i b.i) (cmpZ a.j b.j)
  unfold c_pair_scored_ahead
  simp [scA,scC]
  refine sc_call (cmp_spec b.n a.n) rfl ?_
  simp
  refine sc_call (cmp_spec a.i b.i) rfl ?_
  simp
  refine sc_call (cmp_spec a.j b.j) rfl ?_
  simp
  refine sc_call hO rfl ?_
  simp
  refine frz_bool ?_
  rw [← ahead_cmp]
  simp
theorem hLess_spec (l junk : List Sc) (v : Nat) (hl : l.length≤1000) (i j : Nat) (hi : i < l.length) (hj : j < l.length) : SpecF Tryz.prog 305 (fun r => [.osl (r :: [0]) v 3 0 l.length,iv i,iv j]) (hpF l junk v) (fun _ => bv (aheadB l[i] l[j])) (hpF l junk v) := by
  refine specF_of t_pair_row_Less (by simp) (famL_cons famA_osl (famL_cons famA_v (famL_cons famA_v famL_nil))) famA_v fun w0 I0 M0 m0 => ?_
  have hA := ahead_spec l[i] l[j]
  have gi : (l.map scA ++ junk.map scA)[i]? = some (scA l[i]) := by rw [List.getElem?_append_left (by simpa using hi)]; simp [hi]
  have gj : (l.map scA ++ junk.map scA)[j]? = some (scA l[j]) := by rw [List.getElem?_append_left (by simpa using hj)]; simp [hj]
  unfold c_pair_row_Less
  simp [gi,gj,hi,hj,show (i : Int) < l.length by omega,show (j : Int) < l.length by omega,sc_agg]
  refine sc_call hA rfl ?_
  simp
  exact reth_fam rfl rfl (fun p => by simp)
theorem hSwap_spec (l junk : List Sc) (v : Nat) (hl : l.length≤1000) (i j : Nat) (hi : i < l.length) (hj : j < l.length) : SpecF Tryz.prog 308 (fun r => [.osl (r :: [0]) v 3 0 l.length,iv i,iv j]) (hpF l junk v) (fun _ => .tup []) (hpF ((l.set i l[j]).set j l[i]) junk v) := by
  refine specF_of t_pair_row_Swap (by simp) (famL_cons famA_osl (famL_cons famA_v (famL_cons famA_v famL_nil))) (famA_tup famL_nil) fun w0 I0 M0 m0 => ?_
  have gi : (l.map scA ++ junk.map scA)[i]? = some (scA l[i]) := by rw [List.getElem?_append_left (by simpa using hi)]; simp [hi]
  have gj : (l.map scA ++ junk.map scA)[j]? = some (scA l[j]) := by rw [List.getElem?_append_left (by simpa using hj)]; simp [hj]
  unfold c_pair_row_Swap
  simp [gi,gj,hi,hj,show (i : Int) < l.length by omega,show (j : Int) < l.length by omega,sc_agg]
  have gk : ((l.map scA).set i (scA l[j]) ++ junk.map scA)[j]? = some (scA l[j]) := by
    rw [List.getElem?_append_left (by simpa using hj)]
    by_cases e : i = j
    · subst e; simp [hi]
    · rw [List.getElem?_set_ne e]; simp [hj]
  rw [gk]
  simp [hj]
  exact reth_famN rfl rfl (fun p => by by_cases h1 : p = [] <;> by_cases h2 : p = [0] <;> simp [h1,h2,updF_app,List.map_set])
theorem meth_Less : methA Tryz.prog 277 "Less" = some (305,some 279) := by kernel_rfl
theorem meth_Swap : methA Tryz.prog 277 "Swap" = some (308,some 279) := by kernel_rfl
theorem meth_Len : methA Tryz.prog 277 "Len" = some (237,some 279) := by kernel_rfl
theorem meth_Push : methA Tryz.prog 277 "Push" = some (307,none) := by kernel_rfl
theorem meth_Pop : methA Tryz.prog 277 "Pop" = some (306,none) := by kernel_rfl
theorem getD_at {l : List Sc} {i : Nat} (h : i < l.length) : l.getD i sc0 = l[i] := by rw [List.getD_eq_getElem?_getD,List.getElem?_eq_getElem h]; rfl
theorem swL_at {l : List Sc} {i j : Nat} (hi : i < l.length) (hj : j < l.length) : swL l i j = (l.set i l[j]).set j l[i] := by unfold swL; rw [getD_at hi,getD_at hj]
theorem recv_row {H : Hp} {l junk : List Sc} {v : Nat} (hH : ∀ p,H (0 :: p) = (hpF l junk v).F 0 p) : recvA Tryz.prog H (some 279) (hpP 0) = some (.osl [0,0] v 3 0 l.length) := by
  have := hH []
  unfold recvA
  simp [this]
theorem up_l1 {n0 : Nat} {w0 : World} {I0 : Nat→Prop} {M0 : Nm→Nat→Prop} {m0 : Mu} {Q : Exit→Sta→Prop} {junk : List Sc} {v : Nat} : ∀ (f : Nat) (l : List Sc) (j : Nat) (H : Hp),l.length≤1000→j < l.length→j < f→(∀ p,H (0 :: p) = (hpF l junk v).F 0 p) →
    (∀ (H' : Hp) (st : List (Nat × A)),(∀ p,H' (0 :: p) = (hpF (upL f l j) junk v).F 0 p)→Q (.exit 0) ⟨lk st,H'⟩) →
    LoopC (cxh Tryz.prog w0 I0 M0 n0 m0) l1_container_heap_up Q ⟨lk [(0,hpI 0),(1,iv j)],H⟩ := by
  intro f
  induction f with
  | zero => intro l j H _ _ hf; omega
  | succ f ih =>
    intro l j H hl hj hf hH hq
    obtain ⟨i,hi⟩ : ∃ i,i = (j - 1) / 2 := ⟨_,rfl⟩
    have hil : i < l.length := by omega
    have e1 : IntKind.i64.wrap ((j : Int) - 1) = (j : Int) - 1 := i64_same (by omega) (by omega)
    have e2 : IntKind.i64.wrap (((j : Int) - 1).tdiv 2) = (i : Int) := by
      by_cases h0 : j = 0
      · subst h0
        have : i = 0 := by omega
        subst this; rfl
      · rw [Int.tdiv_eq_ediv_of_nonneg (by omega),i64_same (by omega) (by omega)]; omega
    have hL := hLess_spec l junk v hl j i hj hil
    have hS := hSwap_spec l junk v hl i j hil hj
    rw [upL,← hi,getD_at hj,getD_at hil,swL_at hil hj] at hq
    refine loopC_once mixed l1_container_heap_up.eq_1 ?_
    by_cases hij : i = j
    · rw [if_pos (.inl hij)] at hq
      simp [e1,e2,hij]
      rw [sc_guard]
      simp
      exact hq H [(0,hpI 0),(1,iv j),(4,iv j),(17,bv true)] hH
    · have hij' : ¬ (i : Int) = j := by omega
      simp [e1,e2,hij,hij']
      rw [sc_guard]
      simp
      refine sc_invF 0 hL hH rfl meth_Less (recv_row hH) rfl (by simp) ?_
      cases hA : aheadB l[j] l[i] with
      | false =>
        rw [hA,if_pos (.inr rfl)] at hq
        simp
        exact hq _ [(0,hpI 0),(1,iv j),(4,iv i),(17,bv true)] (fun p => by simp)
      | true =>
        rw [hA,if_neg (by simp [hij])] at hq
        simp
        have hH2 : ∀ p,(ov 0 ((hpF l junk v).F 0) H) (0 :: p) = (hpF l junk v).F 0 p := fun p => by simp
        refine sc_invF 0 hS hH2 rfl meth_Swap (recv_row hH2) rfl (by simp) ?_
        simp
        refine ih _ i _ (by simp; omega) (by simp; omega) (by omega) (fun p => by simp) hq
theorem up_spec (l junk : List Sc) (v : Nat) (hl : l.length≤1000) (j : Nat) (hj : j < l.length) : SpecF Tryz.prog 261 (fun r => [hpI r,iv j]) (hpF l junk v) (fun _ => .tup []) (hpF (upL (j + 1) l j) junk v) := by
  refine specF_of t_container_heap_up (by simp) (famL_cons (famA_ifc famA_pob) (famL_cons famA_v famL_nil)) (famA_tup famL_nil) fun w0 I0 M0 m0 => ?_
  unfold c_container_heap_up
  simp
  refine LoopC.le (le_list [(0,hpI 0),(1,iv j)] (by simp)) ?_
  refine up_l1 (junk := junk) (v := v) (j + 1) l j _ hl hj (by omega) (fun p => by simp) fun H' st hH => ?_
  simp
  exact reth_famN rfl rfl hH
theorem kidL_lt {l : List Sc} {i n : Nat} (h : 2 * i + 1 < n) : kidL l i n < n∧i < kidL l i n := by
  unfold kidL
  split
  · rename_i h2; omega
  · omega
theorem down_k1 {n0 : Nat} {w0 : World} {I0 : Nat→Prop} {M0 : Nm→Nat→Prop} {m0 : Mu} {Q' : Exit→Sta→Prop} {junk l : List Sc} {v i k : Nat} {i0 n : Int} {H : Hp} (hl : l.length≤1000) (hi : i < l.length) (hk : k < l.length) (hH : ∀ p,H (0 :: p) = (hpF l junk v).F 0 p)
    (h0 : aheadB l[k] l[i] = false→∀ (H' : Hp),(∀ p,H' (0 :: p) = (hpF l junk v).F 0 p)→Q' (.exit 0) ⟨lk [(0,hpI 0),(1,iv i0),(2,iv n),(7,iv i),(9,iv k),(39,bv true)],H'⟩)
    (h1 : aheadB l[k] l[i] = true→∀ (H' : Hp),(∀ p,H' (0 :: p) = (hpF (swL l i k) junk v).F 0 p)→Q' .normal ⟨lk [(0,hpI 0),(1,iv i0),(2,iv n),(7,iv k)],H'⟩) :
    WPC (cxh Tryz.prog w0 I0 M0 n0 m0) k1_container_heap_down Q' ⟨lk [(0,hpI 0),(1,iv i0),(2,iv n),(7,iv i),(9,iv k)],H⟩ := by
  have hL := hLess_spec l junk v hl k i hk hi
  have hS := hSwap_spec l junk v hl i k hi hk
  rw [← swL_at hi hk] at hS
  rw [k1_container_heap_down.eq_1]
  simp
  refine sc_invF 0 hL hH rfl meth_Less (recv_row hH) rfl (by simp) ?_
  cases hA : aheadB l[k] l[i] with
  | false =>
    simp
    exact h0 hA _ (fun p => by simp)
  | true =>
    simp
    have hH2 : ∀ p,(ov 0 ((hpF l junk v).F 0) H) (0 :: p) = (hpF l junk v).F 0 p := fun p => by simp
    refine sc_invF 0 hS hH2 rfl meth_Swap (recv_row hH2) rfl (by simp) ?_
    simp
    exact h1 hA _ (fun p => by simp)
theorem down_l1 {n0 : Nat} {w0 : World} {I0 : Nat→Prop} {M0 : Nm→Nat→Prop} {m0 : Mu} {Q : Exit→Sta→Prop} {junk : List Sc} {v n : Nat} {i0 : Int} : ∀ (f : Nat) (l : List Sc) (i : Nat) (H : Hp),l.length≤1000→n≤l.length→(i < n∨(n = 0∧i = 0))→n < i + f→i < l.length→(∀ p,H (0 :: p) = (hpF l junk v).F 0 p) →
    (∀ (H' : Hp) (st : List (Nat × A)),(∀ p,H' (0 :: p) = (hpF (downL f l i n).1 junk v).F 0 p)→(lk st) 1 = iv i0→(lk st) 7 = iv (downL f l i n).2→Q (.exit 0) ⟨lk st,H'⟩) →
    LoopC (cxh Tryz.prog w0 I0 M0 n0 m0) l1_container_heap_down Q ⟨lk [(0,hpI 0),(1,iv i0),(2,iv n),(7,iv i)],H⟩ := by
  intro f
  induction f with
  | zero => intro l i H hl hn hi hf hil hH hq; omega
  | succ f ih =>
    intro l i H hl hn hi hf hil hH hq
    have e1 : IntKind.i64.wrap (2 * (i : Int)) = 2 * (i : Int) := i64_same (by omega) (by omega)
    have e2 : IntKind.i64.wrap (2 * (i : Int) + 1) = ((2 * i + 1 : Nat) : Int) := by rw [i64_same (by omega) (by omega)]; omega
    rw [downL] at hq
    refine loopC_once mixed l1_container_heap_down.eq_1 ?_
    by_cases h1 : n≤2 * i + 1
    · rw [if_pos h1] at hq
      simp [e1,e2,show (n : Int)≤2 * i + 1 by omega]
      exact hq H [(0,hpI 0),(1,iv i0),(2,iv n),(7,iv i),(8,iv (2 * i + 1 : Nat)),(21,bv true)] hH rfl rfl
    · rw [if_neg h1] at hq
      have e3 : IntKind.i64.wrap (2 * (i : Int) + 1 + 1) = ((2 * i + 2 : Nat) : Int) := by rw [i64_same (by omega) (by omega)]; omega
      have hkl := kidL_lt (l := l) (i := i) (n := n) (by omega)
      have fin : ∀ (H' : Hp),(∀ p,H' (0 :: p) = (hpF l junk v).F 0 p)→WPC (cxh Tryz.prog w0 I0 M0 n0 m0) k1_container_heap_down (InBlock 1 (ThenC (LoopC (cxh Tryz.prog w0 I0 M0 n0 m0) l1_container_heap_down Q) Q)) ⟨lk [(0,hpI 0),(1,iv i0),(2,iv n),(7,iv i),(9,iv (kidL l i n))],H'⟩ := fun H' hH' => by
        refine down_k1 hl hil (k := kidL l i n) (by omega) hH' (fun hA H2 h2 => ?_) (fun hA H2 h2 => ?_)
        · rw [← getD_at (by omega),← getD_at hil] at hA
          rw [if_neg (by rw [hA]; simp)] at hq
          exact hq H2 _ h2 rfl rfl
        · rw [← getD_at (by omega),← getD_at hil] at hA
          rw [if_pos hA] at hq
          simp
          exact ih _ _ H2 (by simp; omega) (by simp; omega) (.inl hkl.1) (by omega) (by simp; omega) h2 hq
      clear hq ih
      simp [e1,e2,show ¬ (n : Int)≤2 * i + 1 by omega,show ¬ 2 * (i : Int) + 1 < 0 by omega,e3]
      by_cases h2 : 2 * i + 2 < n
      · have hL := hLess_spec l junk v hl (2 * i + 2) (2 * i + 1) (by omega) (by omega)
        simp [show 2 * (i : Int) + 2 < n by omega]
        rw [sc_guard]
        simp
        refine sc_invF 0 hL hH rfl meth_Less (recv_row hH) rfl (by simp) ?_
        have hk : kidL l i n = if aheadB l[2 * i + 2] l[2 * i + 1] = true then 2 * i + 2 else 2 * i + 1 := by
          unfold kidL
          rw [getD_at (by omega),getD_at (by omega)]
          simp [h2]
        rw [hk] at fin
        cases hA : aheadB l[2 * i + 2] l[2 * i + 1] with
        | false =>
          rw [hA] at fin
          simp
          exact fin _ (fun p => by simp)
        | true =>
          rw [hA] at fin
          simp
          exact fin _ (fun p => by simp)
      · have hk : kidL l i n = 2 * i + 1 := by
          unfold kidL
          rw [if_neg (fun e => h2 e.1)]
        rw [hk] at fin
        simp [show ¬ 2 * (i : Int) + 2 < n by omega]
        rw [sc_guard]
        simp
        exact fin _ hH
theorem down_spec (l junk : List Sc) (v : Nat) (hl : l.length≤1000) (n : Nat) (hn : n≤l.length) (h0 : 0 < l.length) : SpecF Tryz.prog 262 (fun r => [hpI r,iv 0,iv n]) (hpF l junk v) (fun _ => bv (decide (0 < (downL (n + 1) l 0 n).2))) (hpF (downL (n + 1) l 0 n).1 junk v) := by
  refine specF_of t_container_heap_down (by simp) (famL_cons (famA_ifc famA_pob) (famL_cons famA_v (famL_cons famA_v famL_nil))) famA_v fun w0 I0 M0 m0 => ?_
  unfold c_container_heap_down
  simp
  refine LoopC.le (le_list [(0,hpI 0),(1,iv 0),(2,iv n),(7,iv (0 : Nat))] (by simp)) ?_
  refine down_l1 (junk := junk) (v := v) (n + 1) l 0 _ hl hn (by omega) (by omega) h0 (fun p => by simp) fun H' st hH h1 h7 => ?_
  simp [h1,h7]
  exact reth_fam rfl rfl hH
theorem hpPush_spec (l junk : List Sc) (v : Nat) (hl : l.length≤900) (x : Sc) : SpecF Tryz.prog 236 (fun r => [hpI r,scI x]) (hpF l junk v) (fun _ => .tup []) (hpF (upL (l.length + 1) (l ++ [x]) l.length) [] (v + 1)) := by
  refine specF_of t_container_heap_Push (by simp) (famL_cons (famA_ifc famA_pob) (famL_cons (famA_scI x) famL_nil)) (famA_tup famL_nil) fun w0 I0 M0 m0 => ?_
  have hP := hPush_spec l junk v (by omega) x
  have hL := hLen_spec (l ++ [x]) [] (v + 1) (by simp; omega)
  have hU := up_spec (l ++ [x]) [] (v + 1) (by simp; omega) l.length (by simp)
  have e1 : IntKind.i64.wrap (l.length : Int) = (l.length : Int) := i64_same (by omega) (by omega)
  unfold c_container_heap_Push
  simp
  refine sc_invF 0 hP (fun p => by simp) rfl meth_Push rfl rfl (by simp) ?_
  simp
  have hH2 : ∀ p,(ov 0 ((hpF (l ++ [x]) [] (v + 1)).F 0) (lkH []) : Hp) (0 :: p) = (hpF (l ++ [x]) [] (v + 1)).F 0 p := fun p => by simp
  refine sc_invF 0 hL hH2 rfl meth_Len (recv_row hH2) rfl (by simp) ?_
  simp [e1]
  refine sc_fam 0 hU (fun p => by simp) (by simp) (by simp) ?_
  simp
  exact reth_famN rfl rfl (fun p => by simp)
theorem hpPop_spec (l junk : List Sc) (v : Nat) (hl : l.length≤900) (h0 : 0 < l.length) : SpecF Tryz.prog 238 (fun r => [hpI r]) (hpF l junk v) (fun _ => scI ((popL l).getD (l.length - 1) sc0)) (hpF ((popL l).take (l.length - 1)) ((popL l).getD (l.length - 1) sc0 :: junk) v) := by
  refine specF_of t_container_heap_Pop (by simp) (famL_cons (famA_ifc famA_pob) famL_nil) (famA_scI _) fun w0 I0 M0 m0 => ?_
  obtain ⟨n,hn⟩ : ∃ n,n = l.length - 1 := ⟨_,rfl⟩
  have hlen := popL_len l
  rw [← hn]
  have hL := hLen_spec l junk v (by omega)
  have hS := hSwap_spec l junk v (by omega) 0 n h0 (by omega)
  rw [← swL_at h0 (by omega)] at hS
  have hD := down_spec (swL l 0 n) junk v (by simp; omega) n (by simp; omega) (by simp; omega)
  have hpd : (downL (n + 1) (swL l 0 n) 0 n).1 = popL l := by unfold popL; rw [← hn]
  rw [hpd] at hD
  have hsplit : popL l = (popL l).take n ++ [(popL l).getD n sc0] := by
    rw [getD_at (by omega),List.take_append_getElem,List.take_of_length_le (by omega)]
  have hP := hPop_spec ((popL l).take n) junk v (by simp; omega) ((popL l).getD n sc0)
  rw [← hsplit] at hP
  have e1 : IntKind.i64.wrap ((l.length : Int) - 1) = (n : Int) := by rw [i64_same (by omega) (by omega)]; omega
  have hH1 : ∀ p,(ov 0 ((hpF l junk v).F 0) (lkH []) : Hp) (0 :: p) = (hpF l junk v).F 0 p := fun p => by simp
  have hH3 : ∀ l2 : List Sc,∀ p,(ov 0 ((hpF l2 junk v).F 0) (lkH []) : Hp) (0 :: p) = (hpF l2 junk v).F 0 p := fun l2 p => by simp
  generalize (popL l).getD n sc0 = z at hP ⊢
  generalize (popL l).take n = l3 at hP ⊢
  generalize popL l = l2 at hD hP
  generalize (downL (n + 1) (swL l 0 n) 0 n).2 = dd at hD
  generalize swL l 0 n = l1 at hS hD
  unfold c_container_heap_Pop
  simp
  refine sc_invF 0 hL hH1 rfl meth_Len (recv_row hH1) rfl (by simp) ?_
  simp [e1]
  refine sc_invF 0 hS hH1 rfl meth_Swap (recv_row hH1) rfl (by simp) ?_
  simp
  refine sc_fam 0 hD (fun p => by simp) (by simp) (by simp) ?_
  simp
  refine sc_invF 0 hP (fun p => by simp) rfl meth_Pop rfl rfl (by simp) ?_
  simp
  exact reth_fam rfl rfl (fun p => by simp)
def prC (x : Sc) : List A := [iv x.i,iv x.j]
def prA (x : Sc) : A := .agg (prC x)
@[simp] theorem prA_cells {x : Sc} : (prA x).cells = prC x := rfl
@[simp] theorem prC_len {x : Sc} : (prC x).length = 2 := rfl
@[simp] theorem pr_ones {x : Sc} : A.ones (prC x) = true := rfl
@[simp] theorem pr_take {x : Sc} : (prC x).take 2 = prC x := rfl
theorem pr_agg {x : Sc} : A.agg (prC x) = prA x := rfl
theorem pr_bare {x : Sc} : ∀ y,y ∈ prC x→y.bare1 = true := fun y hy => by simp [prC] at hy; rcases hy with rfl | rfl <;> rfl
theorem lens_pr {l : List Sc} : lens 2 (l.map prA) = true := by rw [lens_all]; simp
theorem famA_pr (x : Sc) : FamA (fun _ => prA x) := famA_bare (cs := prC x) rfl pr_bare
def rpF (l : List Sc) (v : Nat) : Fam := ⟨fun r p => if p = [] then ⟨v,.arr 2 (l.map prA)⟩ else ⟨0,.none⟩,fun {g δ r r'} hg hd p => by
    by_cases h1 : p = []
    · rw [if_pos h1]
      refine Fam.arr_ren ?_
      have e : ∀ x : Sc,(prA x).ren g δ = prA x := fun x => by simp [prA,prC,A.ren,A.renL]
      simp only [renL_map,List.map_map]
      refine List.map_congr_left fun x _ => ?_
      exact e x
    · rw [if_neg h1]; rfl,fun {D r} hD p => by
    by_cases h1 : p = []
    · rw [if_pos h1]
      simp only [Ob.refs,refsL_iff]
      intro y hy
      obtain ⟨x,_,rfl⟩ := List.mem_map.1 hy
      simp [A.refs,A.refsL,prA,prC]
    · rw [if_neg h1]; trivial⟩
@[simp] theorem rpF_F {l : List Sc} {v r : Nat} {p : Nm} : (rpF l v).F r p = if p = [] then ⟨v,.arr 2 (l.map prA)⟩ else ⟨0,.none⟩ := rfl
abbrev rpS (l : List Sc) (v r : Nat) : A := .osl [r] v 2 0 l.length
theorem crosses_spec (p q : Sc) : G.Spec Tryz.prog 240 [prA p,prA q] (bv (!par p q)) := by
  refine spec_of t_pair_Pair_crosses (by simp) fun w0 I0 => ?_
  unfold c_pair_Pair_crosses par
  by_cases h1 : p.i < q.i <;> by_cases h2 : p.j < q.j <;> by_cases h3 : q.i < p.i <;> by_cases h4 : q.j < p.j <;> simp [prA,prC,h1,h2,h3,h4,updF_app] <;> exact frz_bool rfl
abbrev crF (x : Sc) : A := .fnc 240 [prA x] []
theorem famA_crF (x : Sc) : FamA (fun _ => crF x) := famA_fnc (famL_cons (famA_pr x) famL_nil) famL_nil
def idxCr (x : Sc) : List Sc→Nat→Int
  | [],_ => -1
  | q :: l,i => if par x q = true then idxCr x l (i + 1) else i
theorem idxCr_free (x : Sc) : ∀ (l : List Sc) (i : Nat),decide (0≤idxCr x l i) = !(l.all fun q => par x q)
  | [],i => rfl
  | q :: l,i => by
    unfold idxCr
    cases h : par x q with
    | true => simp [h,idxCr_free x l (i + 1)]
    | false => simp [h]
theorem idx_l1 {n0 : Nat} {w0 : World} {I0 : Nat→Prop} {M0 : Nm→Nat→Prop} {m0 : Mu} {Q : Exit→Sta→Prop} {x : Sc} {l : List Sc} {v : Nat} {H : Hp} (hl : l.length≤1000) (hH : ∀ p,H (0 :: p) = (rpF l v).F 0 p)
    (hq : ∀ y : Int,y = idxCr x l 0→y ≠ -1→Q .ret ⟨lk [(4,iv y)],H⟩) (hq2 : idxCr x l 0 = -1→Q (.exit 0) ⟨lk [(0,rpS l v 0),(1,crF x),(7,iv l.length),(8,iv l.length),(9,bv false)],H⟩) : ∀ (m i : Nat),i + m = l.length→idxCr x (l.drop i) i = idxCr x l 0 →
    LoopC (cxh Tryz.prog w0 I0 M0 n0 m0) l1_slices_IndexFunc_pair_Pair_pair_Pair Q ⟨lk [(0,rpS l v 0),(1,crF x),(7,iv l.length),(8,iv i)],H⟩ := by
  intro m
  induction m with
  | zero =>
    intro i hi he
    have : i = l.length := by omega
    subst this
    rw [List.drop_length] at he
    refine loopC_once mixed l1_slices_IndexFunc_pair_Pair_pair_Pair.eq_1 ?_
    simp
    exact hq2 (he.symm.trans rfl)
  | succ m ih =>
    intro i hi he
    have hlt : i < l.length := by omega
    have h0 := hH []
    have hg : (l.map prA)[i]? = some (prA l[i]) := by simp [hlt]
    have e1 : IntKind.i64.wrap ((i : Int) + 1) = ((i + 1 : Nat) : Int) := by rw [i64_same (by omega) (by omega)]; omega
    rw [List.drop_eq_getElem_cons hlt,idxCr] at he
    refine loopC_once mixed l1_slices_IndexFunc_pair_Pair_pair_Pair.eq_1 ?_
    simp [h0,hg,hlt,pr_agg,show (i : Int) < l.length by omega]
    refine sc_callv (fs := [prA x]) (caps := []) rfl (crosses_spec x l[i]) rfl ?_
    cases hp : par x l[i] with
    | true =>
      rw [hp,if_pos rfl] at he
      simp [e1]
      exact ih (i + 1) (by omega) he
    | false =>
      rw [hp,if_neg (by simp)] at he
      simp
      exact hq _ he (by omega)
theorem idxF_spec (x : Sc) (l : List Sc) (v : Nat) (hl : l.length≤1000) : SpecF Tryz.prog 263 (fun r => [rpS l v r,crF x]) (rpF l v) (fun _ => iv (idxCr x l 0)) (rpF l v) := by
  refine specF_of t_slices_IndexFunc_pair_Pair_pair_Pair (by simp) (famL_cons famA_osl (famL_cons (famA_crF x) famL_nil)) famA_v fun w0 I0 M0 m0 => ?_
  unfold c_slices_IndexFunc_pair_Pair_pair_Pair
  simp
  refine idx_l1 (v := v) (x := x) hl (fun p => by simp) (fun y hy hn => ?_) (fun h => ?_) l.length 0 (by omega) rfl
  · simp
    exact reth_fam (by rw [hy]; rfl) rfl (fun p => by simp)
  · simp
    exact reth_fam (by rw [h]; rfl) rfl (fun p => by simp)
theorem cont_spec (x : Sc) (l : List Sc) (v : Nat) (hl : l.length≤1000) : SpecF Tryz.prog 239 (fun r => [rpS l v r,crF x]) (rpF l v) (fun _ => bv (!freeB l x)) (rpF l v) := by
  have hI := idxF_spec x l v hl
  have e : decide (0≤idxCr x l 0) = !freeB l x := by
    rw [idxCr_free]
    unfold freeB
    congr 2
    funext q
    exact par_symm
  refine specF_of t_slices_ContainsFunc_pair_Pair_pair_Pair (by simp) (famL_cons famA_osl (famL_cons (famA_crF x) famL_nil)) famA_v fun w0 I0 M0 m0 => ?_
  unfold c_slices_ContainsFunc_pair_Pair_pair_Pair
  simp
  refine sc_fam 0 hI (fun p => by simp) (by simp) (by simp) ?_
  simp
  rw [← e]
  exact reth_fam rfl rfl (fun p => by simp)
end Go.Proofs.YtbjmaoedheiigaaGreat
namespace Go.Proofs.YtbjmaoedheiigaaGreat
set_option linter.unusedVariables false
set_option linter.unusedSimpArgs false
set_option maxRecDepth 20000
open Go Go.G Go.Proofs
@[simp] theorem und_9 : Tryz.prog.underlying 9 = some .string := by kernel_rfl
@[simp] theorem und_269 : Tryz.prog.underlying 269 = some (.int .u64) := by kernel_rfl
@[simp] theorem und_319 : Tryz.prog.underlying 319 = some (.int .i64) := by kernel_rfl
@[simp] theorem und_328 : Tryz.prog.underlying 328 = some (.int .u64) := by kernel_rfl
@[simp] theorem szT_328 : szT Tryz.prog 328 = some 1 := by kernel_rfl
@[simp] theorem aggT_328 : aggT Tryz.prog 328 = some false := by kernel_rfl
@[simp] theorem zeroT_328 : zeroT Tryz.prog 328 = some (Value.int IntKind.u64 0) := by kernel_rfl
def k1_math_bits_Len64 : CC := .seq (sR [mO 13 0,oO 14 (.binOp .geq 51 (xT 13) (.const (.int .u64 256)) 51)] [0,2,14] (cD 14 (sR [mO 15 0,oO 16 (.binOp .shr 51 (xT 15) (.const (.int .u64 8)) 269),aO 0 16] [0,2] (.reg [mO 17 2,oO 18 (.binOp .add 3 (xT 17) (nI 8) 3),aO 2 18] [0,2])) (.skip))) (.keep [0,2] (sR [mO 19 2,mO 20 0,oO 21 (.convert 51 5 (xT 20)),oO 22 (.index 9 (.const (.string { data := #[0,1,2,2,3,3,3,3,4,4,4,4,4,4,4,4,5,5,5,5,5,5,5,5,5,5,5,5,5,5,5,5,6,6,6,6,6,6,6,6,6,6,6,6,6,6,6,6,6,6,6,6,6,6,6,6,6,6,6,6,6,6,6,6,7,7,7,7,7,7,7,7,7,7,7,7,7,7,7,7,7,7,7,7,7,7,7,7,7,7,7,7,7,7,7,7,7,7,7,7,7,7,7,7,7,7,7,7,7,7,7,7,7,7,7,7,7,7,7,7,7,7,7,7,7,7,7,7,8,8,8,8,8,8,8,8,8,8,8,8,8,8,8,8,8,8,8,8,8,8,8,8,8,8,8,8,8,8,8,8,8,8,8,8,8,8,8,8,8,8,8,8,8,8,8,8,8,8,8,8,8,8,8,8,8,8,8,8,8,8,8,8,8,8,8,8,8,8,8,8,8,8,8,8,8,8,8,8,8,8,8,8,8,8,8,8,8,8,8,8,8,8,8,8,8,8,8,8,8,8,8,8,8,8,8,8,8,8,8,8,8,8,8,8,8,8,8,8,8,8,8,8,8,8,8,8] })) (xT 21)),oO 23 (.convert 5 3 (xT 22)),oO 24 (bO .add 3 19 23 3),aO 2 24] [2] (.ret)))
def k2_math_bits_Len64 : CC := .seq (sR [mO 7 0,oO 8 (.binOp .geq 51 (xT 7) (.const (.int .u64 65536)) 51)] [0,2,8] (cD 8 (sR [mO 9 0,oO 10 (.binOp .shr 51 (xT 9) (.const (.int .u64 16)) 269),aO 0 10] [0,2] (.reg [mO 11 2,oO 12 (.binOp .add 3 (xT 11) (nI 16) 3),aO 2 12] [0,2])) (.skip))) (.keep [0,2] k1_math_bits_Len64) 
def c_math_bits_Len64 : CC := sR [oO 2 (.assign (nI 0))] [0,2] (.seq (sR [mO 3 0,oO 4 (.binOp .geq 51 (xT 3) (.const (.int .u64 4294967296)) 51)] [0,2,4] (cD 4 (sR [mO 5 0,oO 6 (.binOp .shr 51 (xT 5) (.const (.int .u64 32)) 269),aO 0 6] [0] (.reg [oO 2 (.assign (nI 32))] [0,2])) (.skip))) (.keep [0,2] k2_math_bits_Len64))
theorem t_math_bits_Len64 : Txt Tryz.prog 280 25 [(.tmp 2)] c_math_bits_Len64 := txt_of (code := Tryz.f280.body.getD .ret) mixed (by kernel_rfl) Tryz.func280 (by kernel_rfl) Tryz.ntmps280 (by kernel_rfl) (ls := lsOf c_math_bits_Len64) (by kernel_rfl)
def c_math_bits_Len : CC := sR [oO 2 (.assign (nI 0))] [0] (.seq (.cond (nB false) (sR [mO 3 0,oO 4 (.convert 269 288 (xT 3)),oO 5 (cL 279 #[(xT 4)] #[288]),aO 2 5] [2] (.ret)) (.skip)) (.keep [0] (sR [mO 6 0,oO 7 (cL 280 #[(xT 6)] #[51]),aO 2 7] [2] (.ret))))
theorem t_math_bits_Len : Txt Tryz.prog 265 8 [(.tmp 2)] c_math_bits_Len := txt_of (code := Tryz.f265.body.getD .ret) mixed (by kernel_rfl) Tryz.func265 (by kernel_rfl) Tryz.ntmps265 (by kernel_rfl) (ls := lsOf c_math_bits_Len) (by kernel_rfl)
def l1_slices_insertionSortCmpFunc_pair_Pair : CC := .seq (sR [mO 18 9,mO 19 1,oO 20 (bO .gtr 3 18 19 3),mO 21 20,oG 22 (mV 3) 21 true,oG 23 (mV 0) 21 true,oG 24 (mV 9) 21 true,oG 25 (iA 242 23 24) 21 true,oG 26 (lD 245 25) 21 true,oG 27 (mV 0) 21 true,oG 28 (mV 9) 21 true,oG 29 (.binOp .sub 3 (xT 28) (nI 1) 3) 21 true,oG 30 (iA 242 27 29) 21 true,oG 31 (lD 245 30) 21 true,oG 32 (.call { callee := (.value (xT 22)),args := #[(xT 26),(xT 31)],argTypes := #[245,245] }) 21 true,oG 33 (.binOp .lss 3 (xT 32) (nI 0) 3) 21 true,oO 34 (.pick (xT 21) (xT 33) (nB false))] [0,1,2,3,8,9,34] (cD 34 (.skip) (.exit 2))) (.keep [0,1,2,3,8,9] (.seq (.block 3 (.reg [mO 37 0,mO 38 9,mO 39 0,mO 40 9,oO 41 (.binOp .sub 3 (xT 40) (nI 1) 3),mO 42 0,mO 43 9,oO 44 (.binOp .sub 3 (xT 43) (nI 1) 3),oO 45 (iA 242 42 44),lO 46 245 45,mO 47 0,mO 48 9,oO 49 (iA 242 47 48),lO 50 245 49,oO 51 (iA 242 37 38),oS (.store 245 (xT 51) (xT 46)),oO 52 (iA 242 39 41),oS (.store 245 (xT 52) (xT 50))] [0,1,2,3,8,9])) (.reg [mO 35 9,oO 36 (.binOp .sub 3 (xT 35) (nI 1) 3),aO 9 36] [0,1,2,3,8,9])))
def l2_slices_insertionSortCmpFunc_pair_Pair : CC := .seq (sR [mO 12 8,mO 13 2,oO 14 (bO .lss 3 12 13 3)] [0,1,2,3,8,14] (cD 14 (.skip) (.exit 0))) (.keep [0,1,2,3,8] (.seq (.block 1 (sR [mO 17 8,aO 9 17] [0,1,2,3,8,9] (.block 2 (.loop l1_slices_insertionSortCmpFunc_pair_Pair)))) (.keep [0,1,2,3,8] (.reg [mO 15 8,oO 16 (.binOp .add 3 (xT 15) (nI 1) 3),aO 8 16] [0,1,2,3,8])))) 
def c_slices_insertionSortCmpFunc_pair_Pair : CC := sR [mO 10 1,oO 11 (.binOp .add 3 (xT 10) (nI 1) 3),aO 8 11] [0,1,2,3,8] (.block 0 (.loop l2_slices_insertionSortCmpFunc_pair_Pair))
theorem t_slices_insertionSortCmpFunc_pair_Pair : Txt Tryz.prog 271 53 [] c_slices_insertionSortCmpFunc_pair_Pair := txt_of (code := Tryz.f271.body.getD .ret) mixed (by kernel_rfl) Tryz.func271 (by kernel_rfl) Tryz.ntmps271 (by kernel_rfl) (ls := lsOf c_slices_insertionSortCmpFunc_pair_Pair) (by kernel_rfl)
def c_slices_nextPowerOfTwo : CC := sR [oO 2 (.assign (.const (.int .u64 0)))] [0] (sR [mO 3 0,oO 4 (.convert 3 269 (xT 3)),oO 5 (cL 265 #[(xT 4)] #[269]),oO 6 (.binOp .shl 269 (.const (.int .u64 1)) (xT 5) 3),aO 2 6] [2] (.ret))
theorem t_slices_nextPowerOfTwo : Txt Tryz.prog 282 7 [(.tmp 2)] c_slices_nextPowerOfTwo := txt_of (code := Tryz.f282.body.getD .ret) mixed (by kernel_rfl) Tryz.func282 (by kernel_rfl) Tryz.ntmps282 (by kernel_rfl) (ls := lsOf c_slices_nextPowerOfTwo) (by kernel_rfl)
def c_slices_xorshift_Next : CC := sR [oO 2 (.assign (.const (.int .u64 0)))] [0] (sR [mO 3 0,oO 4 (.nilCheck (xT 3)),lO 5 328 4,mO 6 0,oO 7 (.nilCheck (xT 6)),lO 8 328 7,oO 9 (.binOp .shl 328 (xT 8) (.const (.int .u64 13)) 269),oO 10 (bO .xor 328 5 9 328),oO 11 (.nilCheck (xT 3)),oS (.store 328 (xT 11) (xT 10))] [0] (sR [mO 12 0,oO 13 (.nilCheck (xT 12)),lO 14 328 13,mO 15 0,oO 16 (.nilCheck (xT 15)),lO 17 328 16,oO 18 (.binOp .shr 328 (xT 17) (.const (.int .u64 7)) 269),oO 19 (bO .xor 328 14 18 328),oO 20 (.nilCheck (xT 12)),oS (.store 328 (xT 20) (xT 19))] [0] (sR [mO 21 0,oO 22 (.nilCheck (xT 21)),lO 23 328 22,mO 24 0,oO 25 (.nilCheck (xT 24)),lO 26 328 25,oO 27 (.binOp .shl 328 (xT 26) (.const (.int .u64 17)) 269),oO 28 (bO .xor 328 23 27 328),oO 29 (.nilCheck (xT 21)),oS (.store 328 (xT 29) (xT 28))] [0] (sR [mO 30 0,oO 31 (.nilCheck (xT 30)),lO 32 328 31,aO 2 32] [2] (.ret)))))
theorem t_slices_xorshift_Next : Txt Tryz.prog 283 33 [(.tmp 2)] c_slices_xorshift_Next := txt_of (code := Tryz.f283.body.getD .ret) mixed (by kernel_rfl) Tryz.func283 (by kernel_rfl) Tryz.ntmps283 (by kernel_rfl) (ls := lsOf c_slices_xorshift_Next) (by kernel_rfl)
def k1_slices_breakPatternsCmpFunc_pair_Pair : CC := .reg [mO 49 0,mO 50 11,mO 51 0,mO 52 1,mO 53 12,oO 54 (bO .add 3 52 53 3),mO 55 0,mO 56 1,mO 57 12,oO 58 (bO .add 3 56 57 3),oO 59 (iA 242 55 58),lO 60 245 59,mO 61 0,mO 62 11,oO 63 (iA 242 61 62),lO 64 245 63,oO 65 (iA 242 49 50),oS (.store 245 (xT 65) (xT 60)),oO 66 (iA 242 51 54),oS (.store 245 (xT 66) (xT 64))] [0,1,8,9,10,11]
def l1_slices_breakPatternsCmpFunc_pair_Pair : CC := .seq (sR [mO 28 11,mO 29 1,mO 30 8,oO 31 (.binOp .quo 3 (xT 30) (nI 4) 3),oO 32 (.binOp .mul 3 (xT 31) (nI 2) 3),oO 33 (bO .add 3 29 32 3),oO 34 (.binOp .add 3 (xT 33) (nI 1) 3),oO 35 (bO .leq 3 28 34 3)] [0,1,8,9,10,11,35] (cD 35 (.skip) (.exit 0))) (.keep [0,1,8,9,10,11] (.seq (.block 1 (sR [oO 38 (cL 283 #[(xT 9)] #[328]),mO 39 10,oO 40 (.binOp .sub 269 (xT 39) (.const (.int .u64 1)) 269),oO 41 (bO .and 269 38 40 269),oO 42 (.convert 269 3 (xT 41)),aO 12 42] [0,1,8,9,10,11,12] (.seq (sR [mO 43 12,mO 44 8,oO 45 (bO .geq 3 43 44 3)] [0,1,8,9,10,11,12,45] (cD 45 (.reg [mO 46 12,mO 47 8,oO 48 (bO .sub 3 46 47 3),aO 12 48] [0,1,8,9,10,11,12]) (.skip))) (.keep [0,1,8,9,10,11,12] k1_slices_breakPatternsCmpFunc_pair_Pair)))) (.keep [0,1,8,9,10,11] (.reg [mO 36 11,oO 37 (.binOp .add 3 (xT 36) (nI 1) 3),aO 11 37] [0,1,8,9,10,11])))) 
def c_slices_breakPatternsCmpFunc_pair_Pair : CC := sR [mO 13 2,mO 14 1,oO 15 (bO .sub 3 13 14 3),aO 8 15] [0,1,8] (sR [mO 16 8,oO 17 (.binOp .geq 3 (xT 16) (nI 8) 3)] [0,1,8,17] (cD 17 (sR [mO 18 8,oO 19 (.convert 3 328 (xT 18)),oN 9 (.alloc 328) [1],oS (.store 328 (xT 9) (xT 19))] [0,1,8,9] (sR [mO 20 8,oO 21 (cL 282 #[(xT 20)] #[3]),aO 10 21] [0,1,8,9,10] (sR [mO 22 1,mO 23 8,oO 24 (.binOp .quo 3 (xT 23) (nI 4) 3),oO 25 (.binOp .mul 3 (xT 24) (nI 2) 3),oO 26 (bO .add 3 22 25 3),oO 27 (.binOp .sub 3 (xT 26) (nI 1) 3),aO 11 27] [0,1,8,9,10,11] (.block 0 (.loop l1_slices_breakPatternsCmpFunc_pair_Pair))))) (.skip)))
theorem t_slices_breakPatternsCmpFunc_pair_Pair : Txt Tryz.prog 273 67 [] c_slices_breakPatternsCmpFunc_pair_Pair := txt_of (code := Tryz.f273.body.getD .ret) mixed (by kernel_rfl) Tryz.func273 (by kernel_rfl) Tryz.ntmps273 (by kernel_rfl) (ls := lsOf c_slices_breakPatternsCmpFunc_pair_Pair) (by kernel_rfl)
def c_slices_order2CmpFunc_pair_Pair : CC := sR [oO 10 (.assign (nI 0)),oO 11 (.assign (nI 0))] [0,1,2,3,4] (.seq (sR [mO 12 4,mO 13 0,mO 14 2,oO 15 (iA 242 13 14),lO 16 245 15,mO 17 0,mO 18 1,oO 19 (iA 242 17 18),lO 20 245 19,oO 21 (.call { callee := (.value (xT 12)),args := #[(xT 16),(xT 20)],argTypes := #[245,245] }),oO 22 (.binOp .lss 3 (xT 21) (nI 0) 3)] [1,2,3,22] (cD 22 (sR [mO 23 3,oO 24 (.nilCheck (xT 23)),lO 25 3 24,oO 26 (.binOp .add 3 (xT 25) (nI 1) 3),oO 27 (.nilCheck (xT 23)),oS (.store 3 (xT 27) (xT 26))] [1,2] (sR [mO 28 2,mO 29 1,aO 10 28,aO 11 29] [10,11] (.ret))) (.skip))) (.keep [1,2] (sR [mO 30 1,mO 31 2,aO 10 30,aO 11 31] [10,11] (.ret))))
theorem t_slices_order2CmpFunc_pair_Pair : Txt Tryz.prog 286 32 [(.tmp 10),(.tmp 11)] c_slices_order2CmpFunc_pair_Pair := txt_of (code := Tryz.f286.body.getD .ret) mixed (by kernel_rfl) Tryz.func286 (by kernel_rfl) Tryz.ntmps286 (by kernel_rfl) (ls := lsOf c_slices_order2CmpFunc_pair_Pair) (by kernel_rfl)
def c_slices_medianCmpFunc_pair_Pair : CC := sR [oO 12 (.assign (nI 0))] [0,1,2,3,4,5] (sR [mO 14 0,mO 15 1,mO 16 2,mO 17 4,mO 18 5,oO 19 (cL 286 #[(xT 14),(xT 15),(xT 16),(xT 17),(xT 18)] #[242,3,3,332,287]),mO 13 19,xO 20 13 0,xO 21 13 1,aO 1 20,aO 2 21] [0,1,2,3,4,5] (sR [mO 23 0,mO 24 2,mO 25 3,mO 26 4,mO 27 5,oO 28 (cL 286 #[(xT 23),(xT 24),(xT 25),(xT 26),(xT 27)] #[242,3,3,332,287]),mO 22 28,xO 29 22 0,xO 30 22 1,aO 2 29,aO 3 30] [0,1,2,4,5] (sR [mO 32 0,mO 33 1,mO 34 2,mO 35 4,mO 36 5,oO 37 (cL 286 #[(xT 32),(xT 33),(xT 34),(xT 35),(xT 36)] #[242,3,3,332,287]),mO 31 37,xO 38 31 0,xO 39 31 1,aO 1 38,aO 2 39] [2] (sR [mO 40 2,aO 12 40] [12] (.ret)))))
theorem t_slices_medianCmpFunc_pair_Pair : Txt Tryz.prog 285 41 [(.tmp 12)] c_slices_medianCmpFunc_pair_Pair := txt_of (code := Tryz.f285.body.getD .ret) mixed (by kernel_rfl) Tryz.func285 (by kernel_rfl) Tryz.ntmps285 (by kernel_rfl) (ls := lsOf c_slices_medianCmpFunc_pair_Pair) (by kernel_rfl)
def k1_slices_choosePivotCmpFunc_pair_Pair : CC := sR [lO 55 3 11] [13,55] (.block 0 (sR [oO 58 (.binOp .eql 3 (xT 55) (nI 0) 3),aO 57 58] [13,55,57] (cD 57 (sR [mO 59 13,aO 8 59,oO 9 (.assign (nI 1))] [8,9] (.ret)) (sR [oO 61 (.binOp .eql 3 (xT 55) (nI 12) 3),aO 60 61] [13,60] (cD 60 (sR [mO 62 13,aO 8 62,oO 9 (.assign (nI 2))] [8,9] (.ret)) (sR [mO 56 13,aO 8 56,oO 9 (.assign (nI 0))] [8,9] (.ret))))))) 
def c_slices_choosePivotCmpFunc_pair_Pair : CC := sR [oO 8 (.assign (nI 0)),oO 9 (.assign (nI 0))] [0,1,2,3] (sR [mO 15 2,mO 16 1,oO 17 (bO .sub 3 15 16 3),aO 10 17] [0,1,3,10] (sR [oN 11 (.alloc 3) [1]] [0,1,3,10,11] (sR [mO 18 1,mO 19 10,oO 20 (.binOp .quo 3 (xT 19) (nI 4) 3),oO 21 (.binOp .mul 3 (xT 20) (nI 1) 3),oO 22 (bO .add 3 18 21 3),aO 12 22] [0,1,3,10,11,12] (sR [mO 23 1,mO 24 10,oO 25 (.binOp .quo 3 (xT 24) (nI 4) 3),oO 26 (.binOp .mul 3 (xT 25) (nI 2) 3),oO 27 (bO .add 3 23 26 3),aO 13 27] [0,1,3,10,11,12,13] (sR [mO 28 1,mO 29 10,oO 30 (.binOp .quo 3 (xT 29) (nI 4) 3),oO 31 (.binOp .mul 3 (xT 30) (nI 3) 3),oO 32 (bO .add 3 28 31 3),aO 14 32] [0,3,10,11,12,13,14] (.seq (sR [mO 33 10,oO 34 (.binOp .geq 3 (xT 33) (nI 8) 3)] [0,3,10,11,12,13,14,34] (cD 34 (.seq (sR [mO 35 10,oO 36 (.binOp .geq 3 (xT 35) (nI 50) 3)] [0,3,11,12,13,14,36] (cD 36 (sR [mO 37 0,mO 38 12,mO 39 3,oO 40 (cL 284 #[(xT 37),(xT 38),(xT 11),(xT 39)] #[242,3,332,287]),aO 12 40] [0,3,11,12,13,14] (sR [mO 41 0,mO 42 13,mO 43 3,oO 44 (cL 284 #[(xT 41),(xT 42),(xT 11),(xT 43)] #[242,3,332,287]),aO 13 44] [0,3,11,12,13,14] (.reg [mO 45 0,mO 46 14,mO 47 3,oO 48 (cL 284 #[(xT 45),(xT 46),(xT 11),(xT 47)] #[242,3,332,287]),aO 14 48] [0,3,11,12,13,14]))) (.skip))) (.keep [0,3,11,12,13,14] (.reg [mO 49 0,mO 50 12,mO 51 13,mO 52 14,mO 53 3,oO 54 (cL 285 #[(xT 49),(xT 50),(xT 51),(xT 52),(xT 11),(xT 53)] #[242,3,3,3,332,287]),aO 13 54] [11,13]))) (.skip))) (.keep [11,13] k1_slices_choosePivotCmpFunc_pair_Pair)))))))
theorem t_slices_choosePivotCmpFunc_pair_Pair : Txt Tryz.prog 274 63 [(.tmp 8),(.tmp 9)] c_slices_choosePivotCmpFunc_pair_Pair := txt_of (code := Tryz.f274.body.getD .ret) mixed (by kernel_rfl) Tryz.func274 (by kernel_rfl) Tryz.ntmps274 (by kernel_rfl) (ls := lsOf c_slices_choosePivotCmpFunc_pair_Pair) (by kernel_rfl)
def l1_slices_reverseRangeCmpFunc_pair_Pair : CC := .seq (sR [mO 13 8,mO 14 9,oO 15 (bO .lss 3 13 14 3)] [0,8,9,15] (cD 15 (.skip) (.exit 0))) (.keep [0,8,9] (.block 1 (sR [mO 16 0,mO 17 8,mO 18 0,mO 19 9,mO 20 0,mO 21 9,oO 22 (iA 242 20 21),lO 23 245 22,mO 24 0,mO 25 8,oO 26 (iA 242 24 25),lO 27 245 26,oO 28 (iA 242 16 17),oS (.store 245 (xT 28) (xT 23)),oO 29 (iA 242 18 19),oS (.store 245 (xT 29) (xT 27))] [0,8,9] (sR [mO 30 8,oO 31 (.binOp .add 3 (xT 30) (nI 1) 3),aO 8 31] [0,8,9] (.reg [mO 32 9,oO 33 (.binOp .sub 3 (xT 32) (nI 1) 3),aO 9 33] [0,8,9]))))) 
def c_slices_reverseRangeCmpFunc_pair_Pair : CC := sR [mO 10 1,aO 8 10] [0,2,8] (sR [mO 11 2,oO 12 (.binOp .sub 3 (xT 11) (nI 1) 3),aO 9 12] [0,8,9] (.block 0 (.loop l1_slices_reverseRangeCmpFunc_pair_Pair)))
theorem t_slices_reverseRangeCmpFunc_pair_Pair : Txt Tryz.prog 275 34 [] c_slices_reverseRangeCmpFunc_pair_Pair := txt_of (code := Tryz.f275.body.getD .ret) mixed (by kernel_rfl) Tryz.func275 (by kernel_rfl) Tryz.ntmps275 (by kernel_rfl) (ls := lsOf c_slices_reverseRangeCmpFunc_pair_Pair) (by kernel_rfl)
def l1_slices_partialInsertionSortCmpFunc_pair_Pair : CC := .seq (sR [mO 19 9,mO 20 2,oO 21 (bO .lss 3 19 20 3),mO 22 21,oG 23 (mV 3) 22 true,oG 24 (mV 0) 22 true,oG 25 (mV 9) 22 true,oG 26 (iA 242 24 25) 22 true,oG 27 (lD 245 26) 22 true,oG 28 (mV 0) 22 true,oG 29 (mV 9) 22 true,oG 30 (.binOp .sub 3 (xT 29) (nI 1) 3) 22 true,oG 31 (iA 242 28 30) 22 true,oG 32 (lD 245 31) 22 true,oG 33 (.call { callee := (.value (xT 23)),args := #[(xT 27),(xT 32)],argTypes := #[245,245] }) 22 true,oG 34 (.binOp .lss 3 (xT 33) (nI 0) 3) 22 true,oG 35 (.unOp .not 4 (xT 34)) 22 true,oO 36 (.pick (xT 22) (xT 35) (nB false))] [0,1,2,3,9,10,36] (cD 36 (.skip) (.exit 2))) (.keep [0,1,2,3,9,10] (.block 3 (.reg [mO 37 9,oO 38 (.binOp .add 3 (xT 37) (nI 1) 3),aO 9 38] [0,1,2,3,9,10])))
def l2_slices_partialInsertionSortCmpFunc_pair_Pair : CC := .seq (sR [mO 68 11,oO 69 (.binOp .geq 3 (xT 68) (nI 1) 3)] [0,1,2,3,9,10,11,69] (cD 69 (.skip) (.exit 4))) (.keep [0,1,2,3,9,10,11] (.seq (.block 5 (.seq (sR [mO 72 3,mO 73 0,mO 74 11,oO 75 (iA 242 73 74),lO 76 245 75,mO 77 0,mO 78 11,oO 79 (.binOp .sub 3 (xT 78) (nI 1) 3),oO 80 (iA 242 77 79),lO 81 245 80,oO 82 (.call { callee := (.value (xT 72)),args := #[(xT 76),(xT 81)],argTypes := #[245,245] }),oO 83 (.binOp .lss 3 (xT 82) (nI 0) 3),oO 84 (.unOp .not 4 (xT 83))] [0,1,2,3,9,10,11,84] (cD 84 (.exit 4) (.skip))) (.keep [0,1,2,3,9,10,11] (.reg [mO 85 0,mO 86 11,mO 87 0,mO 88 11,oO 89 (.binOp .sub 3 (xT 88) (nI 1) 3),mO 90 0,mO 91 11,oO 92 (.binOp .sub 3 (xT 91) (nI 1) 3),oO 93 (iA 242 90 92),lO 94 245 93,mO 95 0,mO 96 11,oO 97 (iA 242 95 96),lO 98 245 97,oO 99 (iA 242 85 86),oS (.store 245 (xT 99) (xT 94)),oO 100 (iA 242 87 89),oS (.store 245 (xT 100) (xT 98))] [0,1,2,3,9,10,11])))) (.keep [0,1,2,3,9,10,11] (.reg [mO 70 11,oO 71 (.binOp .sub 3 (xT 70) (nI 1) 3),aO 11 71] [0,1,2,3,9,10,11]))))
def l3_slices_partialInsertionSortCmpFunc_pair_Pair : CC := .seq (sR [mO 107 12,mO 108 2,oO 109 (bO .lss 3 107 108 3)] [0,1,2,3,9,10,12,109] (cD 109 (.skip) (.exit 6))) (.keep [0,1,2,3,9,10,12] (.seq (.block 7 (.seq (sR [mO 112 3,mO 113 0,mO 114 12,oO 115 (iA 242 113 114),lO 116 245 115,mO 117 0,mO 118 12,oO 119 (.binOp .sub 3 (xT 118) (nI 1) 3),oO 120 (iA 242 117 119),lO 121 245 120,oO 122 (.call { callee := (.value (xT 112)),args := #[(xT 116),(xT 121)],argTypes := #[245,245] }),oO 123 (.binOp .lss 3 (xT 122) (nI 0) 3),oO 124 (.unOp .not 4 (xT 123))] [0,1,2,3,9,10,12,124] (cD 124 (.exit 6) (.skip))) (.keep [0,1,2,3,9,10,12] (.reg [mO 125 0,mO 126 12,mO 127 0,mO 128 12,oO 129 (.binOp .sub 3 (xT 128) (nI 1) 3),mO 130 0,mO 131 12,oO 132 (.binOp .sub 3 (xT 131) (nI 1) 3),oO 133 (iA 242 130 132),lO 134 245 133,mO 135 0,mO 136 12,oO 137 (iA 242 135 136),lO 138 245 137,oO 139 (iA 242 125 126),oS (.store 245 (xT 139) (xT 134)),oO 140 (iA 242 127 129),oS (.store 245 (xT 140) (xT 138))] [0,1,2,3,9,10,12])))) (.keep [0,1,2,3,9,10,12] (.reg [mO 110 12,oO 111 (.binOp .add 3 (xT 110) (nI 1) 3),aO 12 111] [0,1,2,3,9,10,12]))))
def k1_slices_partialInsertionSortCmpFunc_pair_Pair : CC := sR [mO 101 2,mO 102 9,oO 103 (bO .sub 3 101 102 3),oO 104 (.binOp .geq 3 (xT 103) (nI 2) 3)] [0,1,2,3,9,10,104] (cD 104 (sR [mO 105 9,oO 106 (.binOp .add 3 (xT 105) (nI 1) 3),aO 12 106] [0,1,2,3,9,10,12] (.block 6 (.loop l3_slices_partialInsertionSortCmpFunc_pair_Pair))) (.skip))
def l4_slices_partialInsertionSortCmpFunc_pair_Pair : CC := .seq (sR [mO 15 10,oO 16 (.binOp .lss 3 (xT 15) (nI 5) 3)] [0,1,2,3,9,10,16] (cD 16 (.skip) (.exit 0))) (.keep [0,1,2,3,9,10] (.seq (.block 1 (.seq (.block 2 (.loop l1_slices_partialInsertionSortCmpFunc_pair_Pair)) (.keep [0,1,2,3,9,10] (.seq (sR [mO 39 9,mO 40 2,oO 41 (bO .eql 3 39 40 3)] [0,1,2,3,9,10,41] (cD 41 (sR [oO 8 (.assign (nB true))] [8] (.ret)) (.skip))) (.keep [0,1,2,3,9,10] (.seq (sR [mO 42 2,mO 43 1,oO 44 (bO .sub 3 42 43 3),oO 45 (.binOp .lss 3 (xT 44) (nI 50) 3)] [0,1,2,3,9,10,45] (cD 45 (sR [oO 8 (.assign (nB false))] [8] (.ret)) (.skip))) (.keep [0,1,2,3,9,10] (sR [mO 46 0,mO 47 9,mO 48 0,mO 49 9,oO 50 (.binOp .sub 3 (xT 49) (nI 1) 3),mO 51 0,mO 52 9,oO 53 (.binOp .sub 3 (xT 52) (nI 1) 3),oO 54 (iA 242 51 53),lO 55 245 54,mO 56 0,mO 57 9,oO 58 (iA 242 56 57),lO 59 245 58,oO 60 (iA 242 46 47),oS (.store 245 (xT 60) (xT 55)),oO 61 (iA 242 48 50),oS (.store 245 (xT 61) (xT 59))] [0,1,2,3,9,10] (.seq (sR [mO 62 9,mO 63 1,oO 64 (bO .sub 3 62 63 3),oO 65 (.binOp .geq 3 (xT 64) (nI 2) 3)] [0,1,2,3,9,10,65] (cD 65 (sR [mO 66 9,oO 67 (.binOp .sub 3 (xT 66) (nI 1) 3),aO 11 67] [0,1,2,3,9,10,11] (.block 4 (.loop l2_slices_partialInsertionSortCmpFunc_pair_Pair))) (.skip))) (.keep [0,1,2,3,9,10] k1_slices_partialInsertionSortCmpFunc_pair_Pair)))))))))) (.keep [0,1,2,3,9,10] (.reg [mO 17 10,oO 18 (.binOp .add 3 (xT 17) (nI 1) 3),aO 10 18] [0,1,2,3,9,10])))) 
def c_slices_partialInsertionSortCmpFunc_pair_Pair : CC := sR [oO 8 (.assign (nB false))] [0,1,2,3] (sR [mO 13 1,oO 14 (.binOp .add 3 (xT 13) (nI 1) 3),aO 9 14] [0,1,2,3,9] (.seq (sR [oO 10 (.assign (nI 0))] [0,1,2,3,9,10] (.block 0 (.loop l4_slices_partialInsertionSortCmpFunc_pair_Pair))) (.keep [] (sR [oO 8 (.assign (nB false))] [8] (.ret)))))
theorem t_slices_partialInsertionSortCmpFunc_pair_Pair : Txt Tryz.prog 276 141 [(.tmp 8)] c_slices_partialInsertionSortCmpFunc_pair_Pair := txt_of (code := Tryz.f276.body.getD .ret) mixed (by kernel_rfl) Tryz.func276 (by kernel_rfl) Tryz.ntmps276 (by kernel_rfl) (ls := lsOf c_slices_partialInsertionSortCmpFunc_pair_Pair) (by kernel_rfl)
def l1_slices_partitionEqualCmpFunc_pair_Pair : CC := .seq (sR [mO 31 11,mO 32 12,oO 33 (bO .leq 3 31 32 3),mO 34 33,oG 35 (mV 4) 34 true,oG 36 (mV 0) 34 true,oG 37 (mV 1) 34 true,oG 38 (iA 242 36 37) 34 true,oG 39 (lD 245 38) 34 true,oG 40 (mV 0) 34 true,oG 41 (mV 11) 34 true,oG 42 (iA 242 40 41) 34 true,oG 43 (lD 245 42) 34 true,oG 44 (.call { callee := (.value (xT 35)),args := #[(xT 39),(xT 43)],argTypes := #[245,245] }) 34 true,oG 45 (.binOp .lss 3 (xT 44) (nI 0) 3) 34 true,oG 46 (.unOp .not 4 (xT 45)) 34 true,oO 47 (.pick (xT 34) (xT 46) (nB false))] [0,1,4,11,12,47] (cD 47 (.skip) (.exit 2))) (.keep [0,1,4,11,12] (.block 3 (.reg [mO 48 11,oO 49 (.binOp .add 3 (xT 48) (nI 1) 3),aO 11 49] [0,1,4,11,12])))
def l2_slices_partitionEqualCmpFunc_pair_Pair : CC := .seq (sR [mO 50 11,mO 51 12,oO 52 (bO .leq 3 50 51 3),mO 53 52,oG 54 (mV 4) 53 true,oG 55 (mV 0) 53 true,oG 56 (mV 1) 53 true,oG 57 (iA 242 55 56) 53 true,oG 58 (lD 245 57) 53 true,oG 59 (mV 0) 53 true,oG 60 (mV 12) 53 true,oG 61 (iA 242 59 60) 53 true,oG 62 (lD 245 61) 53 true,oG 63 (.call { callee := (.value (xT 54)),args := #[(xT 58),(xT 62)],argTypes := #[245,245] }) 53 true,oG 64 (.binOp .lss 3 (xT 63) (nI 0) 3) 53 true,oO 65 (.pick (xT 53) (xT 64) (nB false))] [0,1,4,11,12,65] (cD 65 (.skip) (.exit 4))) (.keep [0,1,4,11,12] (.block 5 (.reg [mO 66 12,oO 67 (.binOp .sub 3 (xT 66) (nI 1) 3),aO 12 67] [0,1,4,11,12])))
def l3_slices_partitionEqualCmpFunc_pair_Pair : CC := .block 1 (.seq (.block 2 (.loop l1_slices_partitionEqualCmpFunc_pair_Pair)) (.keep [0,1,4,11,12] (.seq (.block 4 (.loop l2_slices_partitionEqualCmpFunc_pair_Pair)) (.keep [0,1,4,11,12] (.seq (sR [mO 68 11,mO 69 12,oO 70 (bO .gtr 3 68 69 3)] [0,1,4,11,12,70] (cD 70 (.exit 0) (.skip))) (.keep [0,1,4,11,12] (sR [mO 71 0,mO 72 11,mO 73 0,mO 74 12,mO 75 0,mO 76 12,oO 77 (iA 242 75 76),lO 78 245 77,mO 79 0,mO 80 11,oO 81 (iA 242 79 80),lO 82 245 81,oO 83 (iA 242 71 72),oS (.store 245 (xT 83) (xT 78)),oO 84 (iA 242 73 74),oS (.store 245 (xT 84) (xT 82))] [0,1,4,11,12] (sR [mO 85 11,oO 86 (.binOp .add 3 (xT 85) (nI 1) 3),aO 11 86] [0,1,4,11,12] (.reg [mO 87 12,oO 88 (.binOp .sub 3 (xT 87) (nI 1) 3),aO 12 88] [0,1,4,11,12]))))))))) 
def c_slices_partitionEqualCmpFunc_pair_Pair : CC := sR [oO 10 (.assign (nI 0))] [0,1,2,3,4] (sR [mO 13 0,mO 14 1,mO 15 0,mO 16 3,mO 17 0,mO 18 3,oO 19 (iA 242 17 18),lO 20 245 19,mO 21 0,mO 22 1,oO 23 (iA 242 21 22),lO 24 245 23,oO 25 (iA 242 13 14),oS (.store 245 (xT 25) (xT 20)),oO 26 (iA 242 15 16),oS (.store 245 (xT 26) (xT 24))] [0,1,2,4] (sR [mO 27 1,oO 28 (.binOp .add 3 (xT 27) (nI 1) 3),mO 29 2,oO 30 (.binOp .sub 3 (xT 29) (nI 1) 3),aO 11 28,aO 12 30] [0,1,4,11,12] (.seq (.block 0 (.loop l3_slices_partitionEqualCmpFunc_pair_Pair)) (.keep [11] (sR [mO 89 11,aO 10 89] [10] (.ret))))))
theorem t_slices_partitionEqualCmpFunc_pair_Pair : Txt Tryz.prog 277 90 [(.tmp 10)] c_slices_partitionEqualCmpFunc_pair_Pair := txt_of (code := Tryz.f277.body.getD .ret) mixed (by kernel_rfl) Tryz.func277 (by kernel_rfl) Tryz.ntmps277 (by kernel_rfl) (ls := lsOf c_slices_partitionEqualCmpFunc_pair_Pair) (by kernel_rfl)
def l1_slices_partitionCmpFunc_pair_Pair : CC := .seq (sR [mO 32 12,mO 33 13,oO 34 (bO .leq 3 32 33 3),mO 35 34,oG 36 (mV 4) 35 true,oG 37 (mV 0) 35 true,oG 38 (mV 12) 35 true,oG 39 (iA 242 37 38) 35 true,oG 40 (lD 245 39) 35 true,oG 41 (mV 0) 35 true,oG 42 (mV 1) 35 true,oG 43 (iA 242 41 42) 35 true,oG 44 (lD 245 43) 35 true,oG 45 (.call { callee := (.value (xT 36)),args := #[(xT 40),(xT 44)],argTypes := #[245,245] }) 35 true,oG 46 (.binOp .lss 3 (xT 45) (nI 0) 3) 35 true,oO 47 (.pick (xT 35) (xT 46) (nB false))] [0,1,4,12,13,47] (cD 47 (.skip) (.exit 0))) (.keep [0,1,4,12,13] (.block 1 (.reg [mO 48 12,oO 49 (.binOp .add 3 (xT 48) (nI 1) 3),aO 12 49] [0,1,4,12,13])))
def l2_slices_partitionCmpFunc_pair_Pair : CC := .seq (sR [mO 50 12,mO 51 13,oO 52 (bO .leq 3 50 51 3),mO 53 52,oG 54 (mV 4) 53 true,oG 55 (mV 0) 53 true,oG 56 (mV 13) 53 true,oG 57 (iA 242 55 56) 53 true,oG 58 (lD 245 57) 53 true,oG 59 (mV 0) 53 true,oG 60 (mV 1) 53 true,oG 61 (iA 242 59 60) 53 true,oG 62 (lD 245 61) 53 true,oG 63 (.call { callee := (.value (xT 54)),args := #[(xT 58),(xT 62)],argTypes := #[245,245] }) 53 true,oG 64 (.binOp .lss 3 (xT 63) (nI 0) 3) 53 true,oG 65 (.unOp .not 4 (xT 64)) 53 true,oO 66 (.pick (xT 53) (xT 65) (nB false))] [0,1,4,12,13,66] (cD 66 (.skip) (.exit 2))) (.keep [0,1,4,12,13] (.block 3 (.reg [mO 67 13,oO 68 (.binOp .sub 3 (xT 67) (nI 1) 3),aO 13 68] [0,1,4,12,13])))
def l3_slices_partitionCmpFunc_pair_Pair : CC := .seq (sR [mO 105 12,mO 106 13,oO 107 (bO .leq 3 105 106 3),mO 108 107,oG 109 (mV 4) 108 true,oG 110 (mV 0) 108 true,oG 111 (mV 12) 108 true,oG 112 (iA 242 110 111) 108 true,oG 113 (lD 245 112) 108 true,oG 114 (mV 0) 108 true,oG 115 (mV 1) 108 true,oG 116 (iA 242 114 115) 108 true,oG 117 (lD 245 116) 108 true,oG 118 (.call { callee := (.value (xT 109)),args := #[(xT 113),(xT 117)],argTypes := #[245,245] }) 108 true,oG 119 (.binOp .lss 3 (xT 118) (nI 0) 3) 108 true,oO 120 (.pick (xT 108) (xT 119) (nB false))] [0,1,4,12,13,120] (cD 120 (.skip) (.exit 6))) (.keep [0,1,4,12,13] (.block 7 (.reg [mO 121 12,oO 122 (.binOp .add 3 (xT 121) (nI 1) 3),aO 12 122] [0,1,4,12,13])))
def l4_slices_partitionCmpFunc_pair_Pair : CC := .seq (sR [mO 123 12,mO 124 13,oO 125 (bO .leq 3 123 124 3),mO 126 125,oG 127 (mV 4) 126 true,oG 128 (mV 0) 126 true,oG 129 (mV 13) 126 true,oG 130 (iA 242 128 129) 126 true,oG 131 (lD 245 130) 126 true,oG 132 (mV 0) 126 true,oG 133 (mV 1) 126 true,oG 134 (iA 242 132 133) 126 true,oG 135 (lD 245 134) 126 true,oG 136 (.call { callee := (.value (xT 127)),args := #[(xT 131),(xT 135)],argTypes := #[245,245] }) 126 true,oG 137 (.binOp .lss 3 (xT 136) (nI 0) 3) 126 true,oG 138 (.unOp .not 4 (xT 137)) 126 true,oO 139 (.pick (xT 126) (xT 138) (nB false))] [0,1,4,12,13,139] (cD 139 (.skip) (.exit 8))) (.keep [0,1,4,12,13] (.block 9 (.reg [mO 140 13,oO 141 (.binOp .sub 3 (xT 140) (nI 1) 3),aO 13 141] [0,1,4,12,13])))
def l5_slices_partitionCmpFunc_pair_Pair : CC := .block 5 (.seq (.block 6 (.loop l3_slices_partitionCmpFunc_pair_Pair)) (.keep [0,1,4,12,13] (.seq (.block 8 (.loop l4_slices_partitionCmpFunc_pair_Pair)) (.keep [0,1,4,12,13] (.seq (sR [mO 142 12,mO 143 13,oO 144 (bO .gtr 3 142 143 3)] [0,1,4,12,13,144] (cD 144 (.exit 4) (.skip))) (.keep [0,1,4,12,13] (sR [mO 145 0,mO 146 12,mO 147 0,mO 148 13,mO 149 0,mO 150 13,oO 151 (iA 242 149 150),lO 152 245 151,mO 153 0,mO 154 12,oO 155 (iA 242 153 154),lO 156 245 155,oO 157 (iA 242 145 146),oS (.store 245 (xT 157) (xT 152)),oO 158 (iA 242 147 148),oS (.store 245 (xT 158) (xT 156))] [0,1,4,12,13] (sR [mO 159 12,oO 160 (.binOp .add 3 (xT 159) (nI 1) 3),aO 12 160] [0,1,4,12,13] (.reg [mO 161 13,oO 162 (.binOp .sub 3 (xT 161) (nI 1) 3),aO 13 162] [0,1,4,12,13]))))))))) 
def c_slices_partitionCmpFunc_pair_Pair : CC := sR [oO 10 (.assign (nI 0)),oO 11 (.assign (nB false))] [0,1,2,3,4] (sR [mO 14 0,mO 15 1,mO 16 0,mO 17 3,mO 18 0,mO 19 3,oO 20 (iA 242 18 19),lO 21 245 20,mO 22 0,mO 23 1,oO 24 (iA 242 22 23),lO 25 245 24,oO 26 (iA 242 14 15),oS (.store 245 (xT 26) (xT 21)),oO 27 (iA 242 16 17),oS (.store 245 (xT 27) (xT 25))] [0,1,2,4] (sR [mO 28 1,oO 29 (.binOp .add 3 (xT 28) (nI 1) 3),mO 30 2,oO 31 (.binOp .sub 3 (xT 30) (nI 1) 3),aO 12 29,aO 13 31] [0,1,4,12,13] (.seq (.block 0 (.loop l1_slices_partitionCmpFunc_pair_Pair)) (.keep [0,1,4,12,13] (.seq (.block 2 (.loop l2_slices_partitionCmpFunc_pair_Pair)) (.keep [0,1,4,12,13] (.seq (sR [mO 69 12,mO 70 13,oO 71 (bO .gtr 3 69 70 3)] [0,1,4,12,13,71] (cD 71 (sR [mO 72 0,mO 73 13,mO 74 0,mO 75 1,mO 76 0,mO 77 1,oO 78 (iA 242 76 77),lO 79 245 78,mO 80 0,mO 81 13,oO 82 (iA 242 80 81),lO 83 245 82,oO 84 (iA 242 72 73),oS (.store 245 (xT 84) (xT 79)),oO 85 (iA 242 74 75),oS (.store 245 (xT 85) (xT 83))] [13] (sR [mO 86 13,aO 10 86,oO 11 (.assign (nB true))] [10,11] (.ret))) (.skip))) (.keep [0,1,4,12,13] (sR [mO 87 0,mO 88 12,mO 89 0,mO 90 13,mO 91 0,mO 92 13,oO 93 (iA 242 91 92),lO 94 245 93,mO 95 0,mO 96 12,oO 97 (iA 242 95 96),lO 98 245 97,oO 99 (iA 242 87 88),oS (.store 245 (xT 99) (xT 94)),oO 100 (iA 242 89 90),oS (.store 245 (xT 100) (xT 98))] [0,1,4,12,13] (sR [mO 101 12,oO 102 (.binOp .add 3 (xT 101) (nI 1) 3),aO 12 102] [0,1,4,12,13] (sR [mO 103 13,oO 104 (.binOp .sub 3 (xT 103) (nI 1) 3),aO 13 104] [0,1,4,12,13] (.seq (.block 4 (.loop l5_slices_partitionCmpFunc_pair_Pair)) (.keep [0,1,13] (sR [mO 163 0,mO 164 13,mO 165 0,mO 166 1,mO 167 0,mO 168 1,oO 169 (iA 242 167 168),lO 170 245 169,mO 171 0,mO 172 13,oO 173 (iA 242 171 172),lO 174 245 173,oO 175 (iA 242 163 164),oS (.store 245 (xT 175) (xT 170)),oO 176 (iA 242 165 166),oS (.store 245 (xT 176) (xT 174))] [13] (sR [mO 177 13,aO 10 177,oO 11 (.assign (nB false))] [10,11] (.ret))))))))))))))))
theorem t_slices_partitionCmpFunc_pair_Pair : Txt Tryz.prog 278 178 [(.tmp 10),(.tmp 11)] c_slices_partitionCmpFunc_pair_Pair := txt_of (code := Tryz.f278.body.getD .ret) mixed (by kernel_rfl) Tryz.func278 (by kernel_rfl) Tryz.ntmps278 (by kernel_rfl) (ls := lsOf c_slices_partitionCmpFunc_pair_Pair) (by kernel_rfl)
def k1_slices_pdqsortCmpFunc_pair_Pair : CC := .seq (sR [mO 81 1,oO 82 (.binOp .gtr 3 (xT 81) (nI 0) 3),mO 83 82,oG 84 (mV 4) 83 true,oG 85 (mV 0) 83 true,oG 86 (mV 1) 83 true,oG 87 (.binOp .sub 3 (xT 86) (nI 1) 3) 83 true,oG 88 (iA 242 85 87) 83 true,oG 89 (lD 245 88) 83 true,oG 90 (mV 0) 83 true,oG 91 (mV 13) 83 true,oG 92 (iA 242 90 91) 83 true,oG 93 (lD 245 92) 83 true,oG 94 (.call { callee := (.value (xT 84)),args := #[(xT 89),(xT 93)],argTypes := #[245,245] }) 83 true,oG 95 (.binOp .lss 3 (xT 94) (nI 0) 3) 83 true,oG 96 (.unOp .not 4 (xT 95)) 83 true,oO 97 (.pick (xT 83) (xT 96) (nB false))] [0,1,2,3,4,10,11,12,13,97] (cD 97 (sR [mO 98 0,mO 99 1,mO 100 2,mO 101 13,mO 102 4,oO 103 (cL 277 #[(xT 98),(xT 99),(xT 100),(xT 101),(xT 102)] #[242,3,3,3,287]),aO 15 103] [0,2,3,4,10,11,15] (sR [mO 104 15,aO 1 104] [0,1,2,3,4,10,11] (.exit 1))) (.skip))) (.keep [0,1,2,3,4,12,13] (sR [mO 106 0,mO 107 1,mO 108 2,mO 109 13,mO 110 4,oO 111 (cL 278 #[(xT 106),(xT 107),(xT 108),(xT 109),(xT 110)] #[242,3,3,3,287]),mO 105 111,xO 112 105 0,xO 113 105 1,aO 16 112,aO 17 113] [0,1,2,3,4,12,16,17] (sR [mO 114 17,aO 11 114] [0,1,2,3,4,11,12,16] (sR [mO 115 16,mO 116 1,oO 117 (bO .sub 3 115 116 3),mO 118 2,mO 119 16,oO 120 (bO .sub 3 118 119 3),aO 18 117,aO 19 120] [0,1,2,3,4,11,12,16,18,19] (sR [mO 121 12,oO 122 (.binOp .quo 3 (xT 121) (nI 8) 3),aO 20 122] [0,1,2,3,4,11,16,18,19,20] (sR [mO 123 18,mO 124 19,oO 125 (bO .lss 3 123 124 3)] [0,1,2,3,4,11,16,18,19,20,125] (cD 125 (sR [mO 126 18,mO 127 20,oO 128 (bO .geq 3 126 127 3),aO 10 128] [0,1,2,3,4,10,11,16] (sR [mO 129 0,mO 130 1,mO 131 16,mO 132 3,mO 133 4,oO 134 (cL 264 #[(xT 129),(xT 130),(xT 131),(xT 132),(xT 133)] #[242,3,3,3,287])] [0,2,3,4,10,11,16] (.reg [mO 135 16,oO 136 (.binOp .add 3 (xT 135) (nI 1) 3),aO 1 136] [0,1,2,3,4,10,11]))) (sR [mO 137 19,mO 138 20,oO 139 (bO .geq 3 137 138 3),aO 10 139] [0,1,2,3,4,10,11,16] (sR [mO 140 0,mO 141 16,oO 142 (.binOp .add 3 (xT 141) (nI 1) 3),mO 143 2,mO 144 3,mO 145 4,oO 146 (cL 264 #[(xT 140),(xT 142),(xT 143),(xT 144),(xT 145)] #[242,3,3,3,287])] [0,1,3,4,10,11,16] (.reg [mO 147 16,aO 2 147] [0,1,2,3,4,10,11]))))))))))
def k2_slices_pdqsortCmpFunc_pair_Pair : CC := .seq (sR [mO 68 10,mO 69 68,oG 70 (mV 11) 69 true,oO 71 (.pick (xT 69) (xT 70) (nB false)),mO 72 71,oG 73 (mV 14) 72 true,oG 74 (.binOp .eql 319 (xT 73) (nI 1) 319) 72 true,oO 75 (.pick (xT 72) (xT 74) (nB false))] [0,1,2,3,4,10,11,12,13,75] (cD 75 (sR [mO 76 0,mO 77 1,mO 78 2,mO 79 4,oO 80 (cL 276 #[(xT 76),(xT 77),(xT 78),(xT 79)] #[242,3,3,287])] [0,1,2,3,4,10,11,12,13,80] (cD 80 (.ret) (.skip))) (.skip))) (.keep [0,1,2,3,4,10,11,12,13] k1_slices_pdqsortCmpFunc_pair_Pair)
def k3_slices_pdqsortCmpFunc_pair_Pair : CC := sR [mO 48 0,mO 49 1,mO 50 2,mO 51 4,oO 52 (cL 274 #[(xT 48),(xT 49),(xT 50),(xT 51)] #[242,3,3,287]),mO 47 52,xO 53 47 0,xO 54 47 1,aO 13 53,aO 14 54] [0,1,2,3,4,10,11,12,13,14] (.seq (sR [mO 55 14,oO 56 (.binOp .eql 319 (xT 55) (nI 2) 319)] [0,1,2,3,4,10,11,12,13,14,56] (cD 56 (sR [mO 57 0,mO 58 1,mO 59 2,mO 60 4,oO 61 (cL 275 #[(xT 57),(xT 58),(xT 59),(xT 60)] #[242,3,3,287])] [0,1,2,3,4,10,11,12,13] (sR [mO 62 2,oO 63 (.binOp .sub 3 (xT 62) (nI 1) 3),mO 64 13,mO 65 1,oO 66 (bO .sub 3 64 65 3),oO 67 (bO .sub 3 63 66 3),aO 13 67] [0,1,2,3,4,10,11,12,13] (.reg [oO 14 (.assign (nI 1))] [0,1,2,3,4,10,11,12,13,14]))) (.skip))) (.keep [0,1,2,3,4,10,11,12,13,14] k2_slices_pdqsortCmpFunc_pair_Pair))
def l1_slices_pdqsortCmpFunc_pair_Pair : CC := .block 1 (sR [mO 21 2,mO 22 1,oO 23 (bO .sub 3 21 22 3),aO 12 23] [0,1,2,3,4,10,11,12] (.seq (sR [mO 24 12,oO 25 (.binOp .leq 3 (xT 24) (nI 12) 3)] [0,1,2,3,4,10,11,12,25] (cD 25 (sR [mO 26 0,mO 27 1,mO 28 2,mO 29 4,oO 30 (cL 271 #[(xT 26),(xT 27),(xT 28),(xT 29)] #[242,3,3,287])] [] (.ret)) (.skip))) (.keep [0,1,2,3,4,10,11,12] (.seq (sR [mO 31 3,oO 32 (.binOp .eql 3 (xT 31) (nI 0) 3)] [0,1,2,3,4,10,11,12,32] (cD 32 (sR [mO 33 0,mO 34 1,mO 35 2,mO 36 4,oO 37 (cL 272 #[(xT 33),(xT 34),(xT 35),(xT 36)] #[242,3,3,287])] [] (.ret)) (.skip))) (.keep [0,1,2,3,4,10,11,12] (.seq (sR [mO 38 10,oO 39 (.unOp .not 4 (xT 38))] [0,1,2,3,4,10,11,12,39] (cD 39 (sR [mO 40 0,mO 41 1,mO 42 2,mO 43 4,oO 44 (cL 273 #[(xT 40),(xT 41),(xT 42),(xT 43)] #[242,3,3,287])] [0,1,2,3,4,10,11,12] (.reg [mO 45 3,oO 46 (.binOp .sub 3 (xT 45) (nI 1) 3),aO 3 46] [0,1,2,3,4,10,11,12])) (.skip))) (.keep [0,1,2,3,4,10,11,12] k3_slices_pdqsortCmpFunc_pair_Pair))))))) 
def c_slices_pdqsortCmpFunc_pair_Pair : CC := sR [oO 10 (.assign (nB true))] [0,1,2,3,4,10] (sR [oO 11 (.assign (nB true))] [0,1,2,3,4,10,11] (.block 0 (.loop l1_slices_pdqsortCmpFunc_pair_Pair)))
theorem t_slices_pdqsortCmpFunc_pair_Pair : Txt Tryz.prog 264 148 [] c_slices_pdqsortCmpFunc_pair_Pair := txt_of (code := Tryz.f264.body.getD .ret) mixed (by kernel_rfl) Tryz.func264 (by kernel_rfl) Tryz.ntmps264 (by kernel_rfl) (ls := lsOf c_slices_pdqsortCmpFunc_pair_Pair) (by kernel_rfl)
def c_slices_SortFunc_pair_Pair_pair_Pair : CC := sR [mO 5 0,oO 6 (bL 5 242),aO 4 6] [0,1,4] (.reg [mO 7 0,mO 8 4,mO 9 4,oO 10 (.convert 3 269 (xT 9)),oO 11 (cL 265 #[(xT 10)] #[269]),mO 12 1,oO 13 (cL 264 #[(xT 7),(nI 0),(xT 8),(xT 11),(xT 12)] #[242,3,3,3,287])] [])
theorem t_slices_SortFunc_pair_Pair_pair_Pair : Txt Tryz.prog 241 14 [] c_slices_SortFunc_pair_Pair_pair_Pair := txt_of (code := Tryz.f241.body.getD .ret) mixed (by kernel_rfl) Tryz.func241 (by kernel_rfl) Tryz.ntmps241 (by kernel_rfl) (ls := lsOf c_slices_SortFunc_pair_Pair_pair_Pair) (by kernel_rfl)
end Go.Proofs.YtbjmaoedheiigaaGreat
