/-
  Texts, merged, without what is not reached.
-/
import Derived.Test.YtbjmaoedheiigaaGreatKSd
namespace Go.Proofs.YtbjmaoedheiigaaGreat
set_option linter.unusedVariables false
set_option linter.unusedSimpArgs false
set_option maxRecDepth 20000
open Go Go.G Go.Proofs
@[simp] theorem fieldOffT_152_0 : fieldOffT Tryz.prog 152 0 = some 0 := by kernel_rfl
@[simp] theorem fieldOffT_152_1 : fieldOffT Tryz.prog 152 1 = some 1 := by kernel_rfl
@[simp] theorem fieldOffT_152_2 : fieldOffT Tryz.prog 152 2 = some 2 := by kernel_rfl
@[simp] theorem fieldOffT_163_0 : fieldOffT Tryz.prog 163 0 = some 0 := by kernel_rfl
@[simp] theorem buildA_152 (ps : List (Nat × A)) : buildA Tryz.prog 152 ps = (fillA (fun i => ([(0,1),(1,1),(2,1)] : List (Nat × Nat))[i]?) [A.sl true [],A.sl true [],A.sl true []] ps).map A.agg := by kernel_rfl
@[simp] theorem buildA_163 (ps : List (Nat × A)) : buildA Tryz.prog 163 ps = (fillA (fun i => ([(0,1)] : List (Nat × Nat))[i]?) [A.sl true []] ps).map A.agg := by kernel_rfl
def l1_word_Bytes : CC := sR [oO 6 (.binOp .lss 3 (xT 5) (nI 8) 3)] [0,2,3,5,6] (.seq (cD 6 (.skip) (.exit 0)) (.keep [0,2,3,5] (.seq (.block 1 (sR [mO 7 5,aO 4 7] [0,2,3,4,5] (.reg [mO 8 4,mO 9 0,mO 10 4,oO 11 (.binOp .mul 3 (nI 8) (xT 10) 3),oO 12 (bO .shr 51 9 11 3),oO 13 (.convert 51 5 (xT 12)),oO 14 (iA 249 3 8),oS (.store 5 (xT 14) (xT 13))] [0,2,3,5]))) (.reg [oO 15 (.binOp .add 3 (xT 5) (nI 1) 3),mO 5 15] [0,2,3,5])))) 
def c_word_Bytes : CC := sR [oN 2 (.alloc 249) [0]] [0,2] (sR [oN 3 (.alloc 249) [1]] [0,2,3] (.seq (sR [oO 5 (.move (nI 0))] [0,2,3,5] (.block 0 (.loop l1_word_Bytes))) (.keep [2,3] (sR [lO 16 249 3,oS (.store 249 (xT 2) (xT 16))] [2] (.ret)))))
theorem t_word_Bytes : Txt Tryz.prog 217 17 [(.cell 2 249)] c_word_Bytes := txt_of (code := Tryz.f217.body.getD .ret) mixed (by kernel_rfl) Tryz.func217 (by kernel_rfl) Tryz.ntmps217 (by kernel_rfl) (ls := lsOf c_word_Bytes) (by kernel_rfl)
def l1_word_Unlike : CC := sR [oO 13 (.binOp .lss 3 (xT 12) (nI 8) 3)] [5,11,12,13] (.seq (cD 13 (.skip) (.exit 0)) (.keep [5,11,12] (.seq (.block 1 (sR [mO 14 12,oO 15 (.index 249 (xT 11) (xT 12)),aO 6 14,aO 7 15] [5,6,7,11,12] (sR [mO 16 7,oO 17 (.binOp .neq 5 (xT 16) (.const (.int .u8 0)) 5)] [5,6,11,12,17] (cD 17 (.reg [mO 18 5,mO 19 6,oO 20 (.binOp .shl 5 (.const (.int .u8 1)) (xT 19) 3),oO 21 (bO .or 5 18 20 5),aO 5 21] [5,11,12]) (.skip))))) (.keep [5,11,12] (.reg [oO 22 (.binOp .add 3 (xT 12) (nI 1) 3),mO 12 22] [5,11,12]))))) 
def c_word_Unlike : CC := sR [oO 4 (.assign (.const (.int .u8 0)))] [0,1] (sR [oO 5 (.assign (.const (.int .u8 0)))] [0,1,5] (.seq (sR [mO 8 0,mO 9 1,oO 10 (bO .xor 51 8 9 51),oO 11 (cL 217 #[(xT 10)] #[51]),oO 12 (.move (nI 0))] [5,11,12] (.block 0 (.loop l1_word_Unlike))) (.keep [5] (sR [mO 23 5,aO 4 23] [4] (.ret)))))
theorem t_word_Unlike : Txt Tryz.prog 173 24 [(.tmp 4)] c_word_Unlike := txt_of (code := Tryz.f173.body.getD .ret) mixed (by kernel_rfl) Tryz.func173 (by kernel_rfl) Tryz.ntmps173 (by kernel_rfl) (ls := lsOf c_word_Unlike) (by kernel_rfl)
def c_normal_Idle : CC := sR [oN 3 (.box 33 (xT 1)) [0],oO 4 (.assign (nB false))] [0,3] (sR [fO 5 33 3 0,lO 6 3 5,oO 7 (.binOp .eql 3 (xT 6) (nI 0) 3),mO 8 7,oG 9 (mV 0) 8 false,oG 10 (.binOp .eql 3 (xT 9) (nI 9) 3) 8 false,oG 11 (mV 10) 8 false,oG 12 (fA 33 3 0) 11 true,oG 13 (lD 3 12) 11 true,oG 14 (.binOp .eql 3 (xT 13) (nI 2) 3) 11 true,oG 15 (.pick (xT 11) (xT 14) (nB false)) 8 false,oG 16 (mV 15) 8 false,oG 17 (fA 33 3 3) 16 true,oG 18 (lD 29 17) 16 true,oG 19 (bL 18 29) 16 true,oG 20 (fA 33 3 4) 16 true,oG 21 (lD 30 20) 16 true,oG 22 (bL 21 30) 16 true,oG 23 (bO .add 3 19 22 3) 16 true,oG 24 (.binOp .eql 3 (xT 23) (nI 0) 3) 16 true,oG 25 (.pick (xT 16) (xT 24) (nB false)) 8 false,oO 26 (.pick (xT 8) (nB true) (xT 25)),aO 4 26] [4] (.ret))
theorem t_normal_Idle : Txt Tryz.prog 112 27 [(.tmp 4)] c_normal_Idle := txt_of (code := Tryz.f112.body.getD .ret) mixed (by kernel_rfl) Tryz.func112 (by kernel_rfl) Tryz.ntmps112 (by kernel_rfl) (ls := lsOf c_normal_Idle) (by kernel_rfl)
def l1_normal_wait : CC := sR [oO 9 (bO .lss 3 8 7 3)] [0,6,7,8,9] (.seq (cD 9 (.skip) (.exit 0)) (.keep [0,6,7,8] (.seq (.block 1 (sR [oO 10 (iA 23 6 8),lO 11 25 10,oN 5 (.alloc 25) [1],oS (.store 25 (xT 5) (xT 11))] [0,5,6,7,8] (.reg [mO 12 0,oO 13 (.nilCheck (xT 12)),⟨some 14,(lD 23 13),none,[],2,[],true⟩,⟨some 15,(lD 25 5),none,[],3,[],true⟩,⟨some 16,(cL 31 #[(xT 15)] #[25]),none,[],4,[2],true⟩,oO 17 (bL 14 23),⟨some 18,(.buildSlice 23 1 #[(0,(.const (.agg #[(.int .i64 0),(.slice none 0 0),(.slice none 0 0)])))]),none,[],6,[2,3,4],false⟩,oN 19 (bC .append #[(xT 14),(xT 18)] #[23,23]) [2],oO 20 (iA 23 19 17),⟨none,(.store 25 (xT 20) (xT 16)),none,[],9,[],true⟩,oO 21 (.nilCheck (xT 12)),⟨none,(.store 23 (xT 21) (xT 19)),none,[],11,[9],false⟩] [0,6,7,8]))) (.reg [oO 22 (.binOp .add 3 (xT 8) (nI 1) 3),mO 8 22] [0,6,7,8])))) 
def c_normal_wait : CC := sR [mO 6 1,oO 7 (bL 6 23),oO 8 (.move (nI 0))] [0,6,7,8] (.block 0 (.loop l1_normal_wait))
theorem t_normal_wait : Txt Tryz.prog 111 23 [] c_normal_wait := txt_of (code := Tryz.f111.body.getD .ret) mixed (by kernel_rfl) Tryz.func111 (by kernel_rfl) Tryz.ntmps111 (by kernel_rfl) (ls := lsOf c_normal_wait) (by kernel_rfl)
def k1_normal_writer_flush : CC := .seq (sR [mO 23 0,oO 24 (.nilCheck (xT 23)),fO 25 152 24 2,lO 26 23 25,oO 27 (bL 26 23),oO 28 (.binOp .gtr 3 (xT 27) (nI 0) 3)] [0,28] (cD 28 (.reg [mO 29 0,oO 30 (.nilCheck (xT 29)),fO 31 152 30 0,⟨some 32,(lD 31 31),none,[],3,[],true⟩,mO 33 0,oO 34 (.nilCheck (xT 33)),fO 35 152 34 2,⟨some 36,(lD 23 35),none,[],7,[],true⟩,oO 37 (.build 91 #[(0,(nI 2)),(2,(xT 36))]),oO 38 (bL 32 31),⟨some 39,(.buildSlice 31 1 #[(0,(.const (.agg #[(.int .i64 0),(.int .i64 0),(.slice none 0 0),(.int .i64 0),(.int .i64 0),(.slice none 0 0),(.slice none 0 0),(.int .i64 0),(.slice none 0 0),(.slice none 0 0),(.slice none 0 0),(.slice none 0 0),(.int .i64 0),(.slice none 0 0)])))]),none,[],10,[3,7],false⟩,oN 40 (bC .append #[(xT 32),(xT 39)] #[31,31]) [2],oO 41 (iA 31 40 38),⟨none,(.store 91 (xT 41) (xT 37)),none,[],13,[],true⟩,oO 42 (.nilCheck (xT 29)),fO 43 152 42 0,⟨none,(.store 31 (xT 43) (xT 40)),none,[],16,[13],false⟩] [0]) (.skip))) (.keep [0] (.reg [mO 44 0,mO 45 0,oO 46 (.nilCheck (xT 44)),fO 47 152 46 1,oS (.store 23 (xT 47) nS),oO 48 (.nilCheck (xT 45)),fO 49 152 48 2,oS (.store 23 (xT 49) nS)] [])) 
def c_normal_writer_flush : CC := .seq (sR [mO 2 0,oO 3 (.nilCheck (xT 2)),fO 4 152 3 1,lO 5 23 4,oO 6 (bL 5 23),oO 7 (.binOp .gtr 3 (xT 6) (nI 0) 3)] [0,7] (cD 7 (.reg [mO 8 0,oO 9 (.nilCheck (xT 8)),fO 10 152 9 0,⟨some 11,(lD 31 10),none,[],3,[],true⟩,mO 12 0,oO 13 (.nilCheck (xT 12)),fO 14 152 13 1,⟨some 15,(lD 23 14),none,[],7,[],true⟩,oO 16 (.build 91 #[(0,(nI 1)),(2,(xT 15))]),oO 17 (bL 11 31),⟨some 18,(.buildSlice 31 1 #[(0,(.const (.agg #[(.int .i64 0),(.int .i64 0),(.slice none 0 0),(.int .i64 0),(.int .i64 0),(.slice none 0 0),(.slice none 0 0),(.int .i64 0),(.slice none 0 0),(.slice none 0 0),(.slice none 0 0),(.slice none 0 0),(.int .i64 0),(.slice none 0 0)])))]),none,[],10,[3,7],false⟩,oN 19 (bC .append #[(xT 11),(xT 18)] #[31,31]) [1],oO 20 (iA 31 19 17),⟨none,(.store 91 (xT 20) (xT 16)),none,[],13,[],true⟩,oO 21 (.nilCheck (xT 8)),fO 22 152 21 0,⟨none,(.store 31 (xT 22) (xT 19)),none,[],16,[13],false⟩] [0]) (.skip))) (.keep [0] k1_normal_writer_flush)
theorem t_normal_writer_flush : Txt Tryz.prog 113 50 [] c_normal_writer_flush := txt_of (code := Tryz.f113.body.getD .ret) mixed (by kernel_rfl) Tryz.func113 (by kernel_rfl) Tryz.ntmps113 (by kernel_rfl) (ls := lsOf c_normal_writer_flush) (by kernel_rfl)
def c_normal_writer_keep : CC := sR [mO 5 0,oO 6 (cL 113 #[(xT 5)] #[150])] [0,1] (.seq (sR [mO 7 0,oO 8 (.nilCheck (xT 7)),fO 9 152 8 0,lO 10 31 9,oO 11 (bL 10 31),oO 12 (.binOp .sub 3 (xT 11) (nI 1) 3),aO 4 12] [0,1,4] (sR [mO 13 4,oO 14 (.binOp .geq 3 (xT 13) (nI 0) 3),mO 15 14,oG 16 (mV 0) 15 true,oG 17 (.nilCheck (xT 16)) 15 true,oG 18 (fA 152 17 0) 15 true,oG 19 (lD 31 18) 15 true,oG 20 (mV 4) 15 true,oG 21 (iA 31 19 20) 15 true,oG 22 (fA 91 21 0) 15 true,oG 23 (lD 3 22) 15 true,oG 24 (.binOp .eql 3 (xT 23) (nI 0) 3) 15 true,oO 25 (.pick (xT 15) (xT 24) (nB false))] [0,1,4,25] (cD 25 (sR [mO 26 0,oO 27 (.nilCheck (xT 26)),fO 28 152 27 0,lO 29 31 28,mO 30 4,oO 31 (iA 31 29 30),fO 32 91 31 1,lO 33 3 32,mO 34 1,oO 35 (bO .add 3 33 34 3),oO 36 (iA 31 29 30),fO 37 91 36 1,oS (.store 3 (xT 37) (xT 35))] [] (.ret)) (.skip)))) (.keep [0,1] (.reg [mO 38 0,oO 39 (.nilCheck (xT 38)),fO 40 152 39 0,⟨some 41,(lD 31 40),none,[],3,[],true⟩,mO 42 1,oO 43 (.build 91 #[(0,(nI 0)),(1,(xT 42))]),oO 44 (bL 41 31),⟨some 45,(.buildSlice 31 1 #[(0,(.const (.agg #[(.int .i64 0),(.int .i64 0),(.slice none 0 0),(.int .i64 0),(.int .i64 0),(.slice none 0 0),(.slice none 0 0),(.int .i64 0),(.slice none 0 0),(.slice none 0 0),(.slice none 0 0),(.slice none 0 0),(.int .i64 0),(.slice none 0 0)])))]),none,[],7,[3],false⟩,oN 46 (bC .append #[(xT 41),(xT 45)] #[31,31]) [1],oO 47 (iA 31 46 44),⟨none,(.store 91 (xT 47) (xT 43)),none,[],10,[],true⟩,oO 48 (.nilCheck (xT 38)),fO 49 152 48 0,⟨none,(.store 31 (xT 49) (xT 46)),none,[],13,[10],false⟩] [])))
theorem t_normal_writer_keep : Txt Tryz.prog 110 50 [] c_normal_writer_keep := txt_of (code := Tryz.f110.body.getD .ret) mixed (by kernel_rfl) Tryz.func110 (by kernel_rfl) Tryz.ntmps110 (by kernel_rfl) (ls := lsOf c_normal_writer_keep) (by kernel_rfl)
def l1_normal_Ops : CC := sR [oO 14 (bO .lss 3 13 12 3)] [0,5,11,12,13,14] (.seq (cD 14 (.skip) (.exit 0)) (.keep [0,5,11,12,13] (.seq (.block 1 (sR [oO 15 (iA 31 11 13),lO 16 91 15,oN 7 (.alloc 91) [1],oS (.store 91 (xT 7) (xT 16))] [0,5,7,11,12,13] (sR [fO 17 91 7 0,lO 18 3 17] [0,5,7,11,12,13,18] (.block 2 (sR [oO 20 (.binOp .eql 3 (xT 18) (nI 0) 3),aO 19 20] [0,5,7,11,12,13,18,19] (cD 19 (.reg [mO 21 5,fO 22 91 7 1,lO 23 3 22,oO 24 (cL 110 #[(xT 21),(xT 23)] #[150,3])] [0,5,11,12,13]) (sR [oO 26 (.binOp .eql 3 (xT 18) (nI 1) 3),aO 25 26] [0,5,7,11,12,13,18,25] (cD 25 (.reg [mO 27 5,oO 28 (.nilCheck (xT 27)),fO 29 152 28 1,fO 30 91 7 2,lO 31 23 30,oO 32 (cL 111 #[(xT 29),(xT 31)] #[155,23])] [0,5,11,12,13]) (sR [oO 34 (.binOp .eql 3 (xT 18) (nI 2) 3),aO 33 34] [0,5,7,11,12,13,18,33] (cD 33 (.reg [mO 35 5,oO 36 (.nilCheck (xT 35)),fO 37 152 36 2,fO 38 91 7 2,lO 39 23 38,oO 40 (cL 111 #[(xT 37),(xT 39)] #[155,23])] [0,5,11,12,13]) (sR [oO 42 (.binOp .eql 3 (xT 18) (nI 3) 3),aO 41 42] [0,5,7,11,12,13,41] (cD 41 (sR [fO 43 91 7 3,lO 44 33 43,oO 45 (cL 29 #[(xT 44)] #[33]),oN 8 (.alloc 33) [2],oS (.store 33 (xT 8) (xT 45))] [0,5,8,11,12,13] (sR [mO 46 0,lO 47 33 8,oO 48 (cL 112 #[(xT 46),(xT 47)] #[3,33])] [0,5,8,11,12,13,48] (cD 48 (.reg [mO 49 5,oO 50 (cL 110 #[(xT 49),(nI 1)] #[150,3])] [0,5,11,12,13]) (sR [mO 51 5,oO 52 (cL 113 #[(xT 51)] #[150])] [0,5,8,11,12,13] (.reg [mO 53 5,oO 54 (.nilCheck (xT 53)),fO 55 152 54 0,⟨some 56,(lD 31 55),none,[],3,[],true⟩,⟨some 57,(lD 33 8),none,[],4,[],true⟩,oO 58 (.build 91 #[(0,(nI 3)),(3,(xT 57))]),oO 59 (bL 56 31),⟨some 60,(.buildSlice 31 1 #[(0,(.const (.agg #[(.int .i64 0),(.int .i64 0),(.slice none 0 0),(.int .i64 0),(.int .i64 0),(.slice none 0 0),(.slice none 0 0),(.int .i64 0),(.slice none 0 0),(.slice none 0 0),(.slice none 0 0),(.slice none 0 0),(.int .i64 0),(.slice none 0 0)])))]),none,[],7,[3,4],false⟩,oN 61 (bC .append #[(xT 56),(xT 60)] #[31,31]) [3],oO 62 (iA 31 61 59),⟨none,(.store 91 (xT 62) (xT 58)),none,[],10,[],true⟩,oO 63 (.nilCheck (xT 53)),fO 64 152 63 0,⟨none,(.store 31 (xT 64) (xT 61)),none,[],13,[10],false⟩] [0,5,11,12,13]))))) (.skip))))))))))))) (.keep [0,5,11,12,13] (.reg [oO 65 (.binOp .add 3 (xT 13) (nI 1) 3),mO 13 65] [0,5,11,12,13]))))) 
def c_normal_Ops : CC := sR [oO 4 (.assign nS)] [0,1] (sR [oO 9 (.build 152 #[]),oN 10 (.box 152 (xT 9)) [0],aO 5 10] [0,1,5] (.seq (sR [mO 11 1,oO 12 (bL 11 31),oO 13 (.move (nI 0))] [0,5,11,12,13] (.block 0 (.loop l1_normal_Ops))) (.keep [5] (sR [mO 66 5,oO 67 (cL 113 #[(xT 66)] #[150])] [5] (sR [mO 68 5,oO 69 (.nilCheck (xT 68)),fO 70 152 69 0,lO 71 31 70,aO 4 71] [4] (.ret))))))
theorem t_normal_Ops : Txt Tryz.prog 58 72 [(.tmp 4)] c_normal_Ops := txt_of (code := Tryz.f58.body.getD .ret) mixed (by kernel_rfl) Tryz.func58 (by kernel_rfl) Tryz.ntmps58 (by kernel_rfl) (ls := lsOf c_normal_Ops) (by kernel_rfl)
def l1_normal_Edit : CC := sR [oO 35 (bO .lss 3 34 33 3)] [2,3,32,33,34,35] (.seq (cD 35 (.skip) (.exit 1)) (.keep [2,3,32,33,34] (.seq (.block 2 (sR [oO 36 (iA 30 32 34),lO 37 89 36,oN 5 (.alloc 89) [4],oS (.store 89 (xT 5) (xT 37))] [2,3,5,32,33,34] (.reg [fO 38 33 3 4,⟨some 39,(lD 30 38),none,[],1,[],true⟩,fO 40 89 5 0,⟨some 41,(lD 3 40),none,[],3,[],true⟩,fO 42 89 5 1,lO 43 33 42,⟨some 44,(cL 29 #[(xT 43)] #[33]),none,[],6,[1,3],false⟩,oO 45 (.build 89 #[(0,(xT 41)),(1,(xT 44))]),⟨some 46,(.buildSlice 30 1 #[(0,(xT 45))]),none,[],8,[1],false⟩,oN 47 (bC .append #[(xT 39),(xT 46)] #[30,30]) [5],fO 48 33 3 4,oS (.store 30 (xT 48) (xT 47))] [2,3,32,33,34]))) (.reg [oO 49 (.binOp .add 3 (xT 34) (nI 1) 3),mO 34 49] [2,3,32,33,34])))) 
def c_normal_Edit : CC := sR [oN 1 (.box 33 (xT 0)) [0],oN 2 (.alloc 33) [1]] [1,2] (sR [fO 6 33 1 0,lO 7 3 6,fO 8 33 1 5,lO 9 3 8,oO 10 (.build 33 #[(0,(xT 7)),(5,(xT 9))]),oN 3 (.alloc 33) [2],oS (.store 33 (xT 3) (xT 10))] [1,2,3] (.seq (sR [fO 11 33 1 0,lO 12 3 11] [1,2,3,12] (.block 0 (sR [oO 14 (.binOp .eql 3 (xT 12) (nI 1) 3),aO 13 14] [1,2,3,12,13] (cD 13 (.reg [fO 15 33 1 1,lO 16 25 15,⟨some 17,(cL 31 #[(xT 16)] #[25]),none,[],2,[],true⟩,fO 18 33 1 2,⟨some 19,(lD 25 18),none,[],4,[2],false⟩,oO 20 (cL 31 #[(xT 19)] #[25]),fO 21 33 3 1,oS (.store 25 (xT 21) (xT 17)),fO 22 33 3 2,oS (.store 25 (xT 22) (xT 20))] [2,3]) (sR [oO 24 (.binOp .eql 3 (xT 12) (nI 2) 3),aO 23 24] [1,2,3,12,23] (cD 23 (sR [fO 25 33 3 3,lO 26 29 25,fO 27 33 1 3,lO 28 29 27,oN 29 (bC .append #[(xT 26),(xT 28)] #[29,29]) [3],fO 30 33 3 3,oS (.store 29 (xT 30) (xT 29))] [1,2,3] (sR [fO 31 33 1 4,lO 32 30 31,oO 33 (bL 32 30),oO 34 (.move (nI 0))] [2,3,32,33,34] (.block 1 (.loop l1_normal_Edit)))) (sR [oO 51 (.binOp .eql 3 (xT 12) (nI 3) 3),aO 50 51] [1,2,3,50] (cD 50 (.reg [fO 52 33 1 5,lO 53 3 52,fO 54 33 1 6,lO 55 31 54,oO 56 (cL 58 #[(xT 53),(xT 55)] #[3,31]),fO 57 33 3 6,oS (.store 31 (xT 57) (xT 56))] [2,3]) (.skip))))))))) (.keep [2,3] (sR [lO 58 33 3,oS (.store 33 (xT 2) (xT 58))] [2] (.ret)))))
theorem t_normal_Edit : Txt Tryz.prog 29 59 [(.cell 2 33)] c_normal_Edit := txt_of (code := Tryz.f29.body.getD .ret) mixed (by kernel_rfl) Tryz.func29 (by kernel_rfl) Tryz.ntmps29 (by kernel_rfl) (ls := lsOf c_normal_Edit) (by kernel_rfl)
def c_diff_Word : CC := sR [oN 6 (.alloc 80) [0],oO 7 (.assign (nB false))] [0,1,2,6] (sR [mO 9 1,mO 10 2,oO 11 (cL 173 #[(xT 9),(xT 10)] #[51,51]),aO 8 11] [0,1,2,6,8] (.seq (sR [mO 12 8,oO 13 (.binOp .eql 5 (xT 12) (.const (.int .u8 0)) 5)] [0,1,2,6,8,13] (cD 13 (sR [oO 14 (.build 80 #[]),oS (.store 80 (xT 6) (xT 14)),oO 7 (.assign (nB false))] [6,7] (.ret)) (.skip))) (.keep [0,1,2,6,8] (sR [mO 15 0,mO 16 8,mO 17 1,mO 18 8,oO 19 (cL 174 #[(.const (.int .u64 0)),(xT 17),(xT 18)] #[51,51,5]),mO 20 2,mO 21 8,oO 22 (cL 174 #[(.const (.int .u64 0)),(xT 20),(xT 21)] #[51,51,5]),oO 23 (.build 80 #[(0,(xT 15)),(1,(xT 16)),(2,(xT 19)),(3,(xT 22))]),oS (.store 80 (xT 6) (xT 23)),oO 7 (.assign (nB true))] [6,7] (.ret)))))
theorem t_diff_Word : Txt Tryz.prog 117 24 [(.cell 6 80),(.tmp 7)] c_diff_Word := txt_of (code := Tryz.f117.body.getD .ret) mixed (by kernel_rfl) Tryz.func117 (by kernel_rfl) Tryz.ntmps117 (by kernel_rfl) (ls := lsOf c_diff_Word) (by kernel_rfl)
def l1_diff_structure : CC := sR [oO 22 (bO .lss 3 21 20 3)] [2,3,4,6,7,20,21,22] (.seq (cD 22 (.skip) (.exit 0)) (.keep [2,3,4,6,7,20,21] (.seq (.block 1 (sR [mO 23 21,aO 8 23] [2,3,4,6,7,8,20,21] (sR [mO 25 8,⟨some 26,(lD 25 3),none,[],1,[],true⟩,mO 27 8,⟨some 28,(cL 115 #[(xT 26),(xT 27)] #[25,3]),none,[],3,[],true⟩,⟨some 29,(lD 25 4),none,[],4,[3],true⟩,mO 30 8,⟨some 31,(cL 115 #[(xT 29),(xT 30)] #[25,3]),none,[],6,[],true⟩,⟨some 32,(cL 117 #[(xT 25),(xT 28),(xT 31)] #[3,51,51]),none,[],7,[],true⟩,mO 24 32,xO 33 24 0,xO 34 24 1,⟨some 9,(.alloc 80),none,[4],11,[1,3,4,6,7],false⟩,oS (.store 80 (xT 9) (xT 33)),aO 10 34] [2,3,4,6,7,9,10,20,21] (sR [mO 35 10] [2,3,4,6,7,9,20,21,35] (cD 35 (.reg [fO 36 33 7 3,lO 37 29 36,lO 38 80 9,oO 39 (.buildSlice 29 1 #[(0,(xT 38))]),oN 40 (bC .append #[(xT 37),(xT 39)] #[29,29]) [5],fO 41 33 7 3,oS (.store 29 (xT 41) (xT 40))] [2,3,4,6,7,20,21]) (.skip)))))) (.keep [2,3,4,6,7,20,21] (.reg [oO 42 (.binOp .add 3 (xT 21) (nI 1) 3),mO 21 42] [2,3,4,6,7,20,21])))))
def l2_diff_structure : CC := sR [oO 51 (bO .lss 3 50 49 3)] [2,3,4,6,7,49,50,51] (.seq (cD 51 (.skip) (.exit 2)) (.keep [2,3,4,6,7,49,50] (.seq (.block 3 (sR [mO 52 50,aO 11 52] [2,3,4,6,7,11,49,50] (sR [⟨some 53,(lD 25 3),none,[],0,[],true⟩,mO 54 11,⟨some 55,(cL 116 #[(xT 53),(xT 54)] #[25,3]),none,[],2,[],true⟩,⟨some 56,(lD 25 4),none,[],3,[2],true⟩,mO 57 11,⟨some 58,(cL 116 #[(xT 56),(xT 57)] #[25,3]),none,[],5,[],true⟩,mO 59 2,⟨some 60,(cL 30 #[(xT 55),(xT 58),(xT 59)] #[25,25,3]),none,[],7,[],true⟩,⟨some 12,(.alloc 33),none,[6],8,[0,2,3,5,7],false⟩,oS (.store 33 (xT 12) (xT 60))] [2,3,4,6,7,11,12,49,50] (sR [fO 61 33 12 0,lO 62 3 61,oO 63 (.binOp .neq 3 (xT 62) (nI 0) 3)] [2,3,4,6,7,11,12,49,50,63] (cD 63 (.reg [fO 64 33 7 4,lO 65 30 64,mO 66 11,lO 67 33 12,oO 68 (.build 89 #[(0,(xT 66)),(1,(xT 67))]),oO 69 (.buildSlice 30 1 #[(0,(xT 68))]),oN 70 (bC .append #[(xT 65),(xT 69)] #[30,30]) [7],fO 71 33 7 4,oS (.store 30 (xT 71) (xT 70))] [2,3,4,6,7,49,50]) (.skip)))))) (.keep [2,3,4,6,7,49,50] (.reg [oO 72 (.binOp .add 3 (xT 50) (nI 1) 3),mO 50 72] [2,3,4,6,7,49,50]))))) 
def c_diff_structure : CC := sR [oN 3 (.box 25 (xT 0)) [0],oN 4 (.box 25 (xT 1)) [1],oN 6 (.alloc 33) [2]] [2,3,4,6] (sR [oO 13 (.build 33 #[(0,(nI 2))]),oN 7 (.alloc 33) [3],oS (.store 33 (xT 7) (xT 13))] [2,3,4,6,7] (.seq (sR [fO 14 25 3 1,lO 15 22 14,oO 16 (bL 15 22),fO 17 25 4 1,lO 18 22 17,oO 19 (bL 18 22),oO 20 (bC .max #[(xT 16),(xT 19)] #[3,3]),oO 21 (.move (nI 0))] [2,3,4,6,7,20,21] (.block 0 (.loop l1_diff_structure))) (.keep [2,3,4,6,7] (.seq (sR [fO 43 25 3 2,lO 44 23 43,oO 45 (bL 44 23),fO 46 25 4 2,lO 47 23 46,oO 48 (bL 47 23),oO 49 (bC .max #[(xT 45),(xT 48)] #[3,3]),oO 50 (.move (nI 0))] [2,3,4,6,7,49,50] (.block 2 (.loop l2_diff_structure))) (.keep [6,7] (sR [lO 73 33 7,oS (.store 33 (xT 6) (xT 73))] [6] (.ret)))))))
theorem t_diff_structure : Txt Tryz.prog 60 74 [(.cell 6 33)] c_diff_structure := txt_of (code := Tryz.f60.body.getD .ret) mixed (by kernel_rfl) Tryz.func60 (by kernel_rfl) Tryz.ntmps60 (by kernel_rfl) (ls := lsOf c_diff_structure) (by kernel_rfl)
def l1_diff_classes_of : CC := sR [oO 22 (bO .lss 3 21 20 3)] [0,5,7,10,11,12,19,20,21,22] (.seq (cD 22 (.skip) (.exit 2)) (.keep [0,5,7,10,11,12,19,20,21] (.seq (.block 3 (sR [mO 23 21,oO 24 (iA 23 19 21),lO 25 25 24,oN 9 (.alloc 25) [2],aO 8 23,oS (.store 25 (xT 9) (xT 25))] [0,5,7,8,9,10,11,12,19,20,21] (sR [lO 26 25 9,lO 27 25 7,oO 28 (cL 59 #[(xT 26),(xT 27)] #[25,25])] [0,5,7,8,10,11,12,19,20,21,28] (cD 28 (sR [mO 29 5,mO 30 8,oO 31 (.buildSlice 164 1 #[(0,(xT 30))]),oN 32 (bC .append #[(xT 29),(xT 31)] #[164,164]) [3],aO 5 32] [0,5,10,11,12] (.exit 1)) (.skip))))) (.keep [0,5,7,10,11,12,19,20,21] (.reg [oO 33 (.binOp .add 3 (xT 21) (nI 1) 3),mO 21 33] [0,5,7,10,11,12,19,20,21])))))
def l2_diff_classes_of : CC := sR [oO 13 (bO .lss 3 12 11 3)] [0,5,10,11,12,13] (.seq (cD 13 (.skip) (.exit 0)) (.keep [0,5,10,11,12] (.seq (.block 1 (sR [oO 14 (iA 23 10 12),lO 15 25 14,oN 7 (.alloc 25) [1],oS (.store 25 (xT 7) (xT 15))] [0,5,7,10,11,12] (.seq (sR [mO 16 0,oO 17 (.nilCheck (xT 16)),fO 18 163 17 0,lO 19 23 18,oO 20 (bL 19 23),oO 21 (.move (nI 0))] [0,5,7,10,11,12,19,20,21] (.block 2 (.loop l1_diff_classes_of))) (.keep [0,5,7,10,11,12] (sR [mO 34 5,mO 35 0,oO 36 (.nilCheck (xT 35)),fO 37 163 36 0,lO 38 23 37,oO 39 (bL 38 23),oO 40 (.buildSlice 164 1 #[(0,(xT 39))]),oN 41 (bC .append #[(xT 34),(xT 40)] #[164,164]) [3],aO 5 41] [0,5,7,10,11,12] (.reg [mO 42 0,oO 43 (.nilCheck (xT 42)),fO 44 163 43 0,⟨some 45,(lD 23 44),none,[],3,[],true⟩,⟨some 46,(lD 25 7),none,[],4,[],true⟩,oO 47 (bL 45 23),⟨some 48,(.buildSlice 23 1 #[(0,(.const (.agg #[(.int .i64 0),(.slice none 0 0),(.slice none 0 0)])))]),none,[],6,[3,4],false⟩,oN 49 (bC .append #[(xT 45),(xT 48)] #[23,23]) [5],oO 50 (iA 23 49 47),⟨none,(.store 25 (xT 50) (xT 46)),none,[],9,[],true⟩,oO 51 (.nilCheck (xT 42)),fO 52 163 51 0,⟨none,(.store 23 (xT 52) (xT 49)),none,[],12,[9],false⟩] [0,5,10,11,12])))))) (.keep [0,5,10,11,12] (.reg [oO 53 (.binOp .add 3 (xT 12) (nI 1) 3),mO 12 53] [0,5,10,11,12]))))) 
def c_diff_classes_of : CC := sR [oO 4 (.assign nS)] [0,1] (.scope (sR [oO 5 (.assign nS)] [0,1,5] (.seq (.skip) (.seq (sR [mO 10 1,oO 11 (bL 10 23),oO 12 (.move (nI 0))] [0,5,10,11,12] (.block 0 (.loop l2_diff_classes_of))) (.keep [5] (.stop (sR [mO 54 5,aO 4 54] [4] (.ret))))))))
theorem t_diff_classes_of : Txt Tryz.prog 118 55 [(.tmp 4)] c_diff_classes_of := txt_of (code := Tryz.f118.body.getD .ret) mixed (by kernel_rfl) Tryz.func118 (by kernel_rfl) Tryz.ntmps118 (by kernel_rfl) (ls := lsOf c_diff_classes_of) (by kernel_rfl)
def c_diff_some : CC := sR [oO 4 (.assign nS)] [0,1] (.seq (sR [mO 5 1,oO 6 (bL 5 23),oO 7 (.binOp .eql 3 (xT 6) (nI 0) 3)] [0,1,7] (cD 7 (sR [oO 4 (.assign nS)] [4] (.ret)) (.skip))) (.keep [0,1] (sR [mO 8 0,mO 9 1,oO 10 (.build 91 #[(0,(xT 8)),(2,(xT 9))]),oO 11 (.buildSlice 31 1 #[(0,(xT 10))]),aO 4 11] [4] (.ret))))
theorem t_diff_some : Txt Tryz.prog 223 12 [(.tmp 4)] c_diff_some := txt_of (code := Tryz.f223.body.getD .ret) mixed (by kernel_rfl) Tryz.func223 (by kernel_rfl) Tryz.ntmps223 (by kernel_rfl) (ls := lsOf c_diff_some) (by kernel_rfl)
def c_diff_remove : CC := sR [oO 2 (.assign nS)] [0] (sR [mO 3 0,oO 4 (cL 223 #[(nI 1),(xT 3)] #[3,23]),aO 2 4] [2] (.ret))
theorem t_diff_remove : Txt Tryz.prog 180 5 [(.tmp 2)] c_diff_remove := txt_of (code := Tryz.f180.body.getD .ret) mixed (by kernel_rfl) Tryz.func180 (by kernel_rfl) Tryz.ntmps180 (by kernel_rfl) (ls := lsOf c_diff_remove) (by kernel_rfl)
def c_diff_insert : CC := sR [oO 2 (.assign nS)] [0] (sR [mO 3 0,oO 4 (cL 223 #[(nI 2),(xT 3)] #[3,23]),aO 2 4] [2] (.ret))
theorem t_diff_insert : Txt Tryz.prog 179 5 [(.tmp 2)] c_diff_insert := txt_of (code := Tryz.f179.body.getD .ret) mixed (by kernel_rfl) Tryz.func179 (by kernel_rfl) Tryz.ntmps179 (by kernel_rfl) (ls := lsOf c_diff_insert) (by kernel_rfl)
def l1_diff_Gap : CC := sR [oO 29 (bO .lss 3 28 27 3)] [1,2,3,9,11,12,20,21,22,26,27,28,29] (.seq (cD 29 (.skip) (.exit 2)) (.keep [1,2,3,9,11,12,20,21,22,26,27,28] (.seq (.block 3 (sR [oO 30 (iA 23 26 28),lO 31 25 30,oN 14 (.alloc 25) [1],oS (.store 25 (xT 14) (xT 31))] [1,2,3,9,11,12,14,20,21,22,26,27,28] (.reg [mO 32 12,lO 33 25 11,lO 34 25 14,oO 35 (cL 202 #[(xT 33),(xT 34)] #[25,25]),oO 36 (.buildSlice 164 1 #[(0,(xT 35))]),oN 37 (bC .append #[(xT 32),(xT 36)] #[164,164]) [2],aO 12 37] [1,2,3,9,11,12,20,21,22,26,27,28]))) (.reg [oO 38 (.binOp .add 3 (xT 28) (nI 1) 3),mO 28 38] [1,2,3,9,11,12,20,21,22,26,27,28]))))
def l2_diff_Gap : CC := sR [oO 23 (bO .lss 3 22 21 3)] [1,2,3,9,20,21,22,23] (.seq (cD 23 (.skip) (.exit 0)) (.keep [1,2,3,9,20,21,22] (.seq (.block 1 (sR [oO 24 (iA 23 20 22),lO 25 25 24,oN 11 (.alloc 25) [0],oS (.store 25 (xT 11) (xT 25))] [1,2,3,9,11,20,21,22] (sR [oO 12 (.assign nS)] [1,2,3,9,11,12,20,21,22] (.seq (sR [mO 26 2,oO 27 (bL 26 23),oO 28 (.move (nI 0))] [1,2,3,9,11,12,20,21,22,26,27,28] (.block 2 (.loop l1_diff_Gap))) (.keep [1,2,3,9,12,20,21,22] (.stop (.reg [mO 39 9,mO 40 12,oO 41 (.buildSlice 240 1 #[(0,(xT 40))]),oN 42 (bC .append #[(xT 39),(xT 41)] #[240,240]) [3],aO 9 42] [1,2,3,9,20,21,22]))))))) (.keep [1,2,3,9,20,21,22] (.reg [oO 43 (.binOp .add 3 (xT 22) (nI 1) 3),mO 22 43] [1,2,3,9,20,21,22])))))
def l3_diff_Gap : CC := sR [oO 48 (bO .lss 3 47 46 3)] [1,2,3,15,16,17,45,46,47,48] (.seq (cD 48 (.skip) (.exit 4)) (.keep [1,2,3,15,16,17,45,46,47] (.seq (.block 5 (sR [oO 49 (iA 242 45 47),lO 50 245 49,oN 19 (.alloc 245) [4],oS (.store 245 (xT 19) (xT 50))] [1,2,3,15,16,17,19,45,46,47] (sR [mO 51 15,mO 52 1,mO 53 16,fO 54 245 19 0,lO 55 3 54,oO 56 (.slice 23 (xT 52) (some (xT 53)) (some (xT 55)) none),⟨some 57,(cL 180 #[(xT 56)] #[23]),none,[],6,[],true⟩,⟨some 58,(bC .append #[(xT 51),(xT 57)] #[31,31]),none,[5],7,[],true⟩,mO 59 2,mO 60 17,fO 61 245 19 1,⟨some 62,(lD 3 61),none,[],11,[6,7],false⟩,oO 63 (.slice 23 (xT 59) (some (xT 60)) (some (xT 62)) none),oO 64 (cL 179 #[(xT 63)] #[23]),oN 65 (bC .append #[(xT 58),(xT 64)] #[31,31]) [6],aO 15 65] [1,2,3,15,19,45,46,47] (sR [mO 66 15,mO 67 1,fO 68 245 19 0,lO 69 3 68,oO 70 (iA 23 67 69),lO 71 25 70,mO 72 2,fO 73 245 19 1,lO 74 3 73,oO 75 (iA 23 72 74),lO 76 25 75,mO 77 3,oO 78 (cL 30 #[(xT 71),(xT 76),(xT 77)] #[25,25,3]),oO 79 (.build 91 #[(0,(nI 3)),(3,(xT 78))]),oO 80 (.buildSlice 31 1 #[(0,(xT 79))]),oN 81 (bC .append #[(xT 66),(xT 80)] #[31,31]) [7],aO 15 81] [1,2,3,15,19,45,46,47] (.reg [fO 82 245 19 0,lO 83 3 82,oO 84 (.binOp .add 3 (xT 83) (nI 1) 3),fO 85 245 19 1,lO 86 3 85,oO 87 (.binOp .add 3 (xT 86) (nI 1) 3),aO 16 84,aO 17 87] [1,2,3,15,16,17,45,46,47]))))) (.reg [oO 88 (.binOp .add 3 (xT 47) (nI 1) 3),mO 47 88] [1,2,3,15,16,17,45,46,47])))) 
def c_diff_Gap : CC := sR [oO 8 (.assign nS)] [1,2,3] (sR [oO 9 (.assign nS)] [1,2,3,9] (.seq (sR [mO 20 1,oO 21 (bL 20 23),oO 22 (.move (nI 0))] [1,2,3,9,20,21,22] (.block 0 (.loop l2_diff_Gap))) (.keep [1,2,3,9] (sR [oO 15 (.assign nS)] [1,2,3,9,15] (sR [oO 16 (.assign (nI 0)),oO 17 (.assign (nI 0))] [1,2,3,9,15,16,17] (.stop (.seq (sR [mO 44 9,oO 45 (cL 203 #[(xT 44)] #[240]),oO 46 (bL 45 242),oO 47 (.move (nI 0))] [1,2,3,15,16,17,45,46,47] (.block 4 (.loop l3_diff_Gap))) (.keep [1,2,15,16,17] (sR [mO 89 15,mO 90 1,mO 91 16,oO 92 (.slice 23 (xT 90) (some (xT 91)) none none),oO 93 (cL 180 #[(xT 92)] #[23]),oN 94 (bC .append #[(xT 89),(xT 93)] #[31,31]) [8],mO 95 2,mO 96 17,oO 97 (.slice 23 (xT 95) (some (xT 96)) none none),oO 98 (cL 179 #[(xT 97)] #[23]),oN 99 (bC .append #[(xT 94),(xT 98)] #[31,31]) [9],aO 8 99] [8] (.ret))))))))))
theorem t_diff_Gap : Txt Tryz.prog 154 100 [(.tmp 8)] c_diff_Gap := txt_of (code := Tryz.f154.body.getD .ret) mixed (by kernel_rfl) Tryz.func154 (by kernel_rfl) Tryz.ntmps154 (by kernel_rfl) (ls := lsOf c_diff_Gap) (by kernel_rfl)
def l1_diff_ops : CC := .seq (sR [mO 19 12,mO 20 0,oO 21 (bL 20 166),oO 22 (bO .lss 3 19 21 3)] [0,3,5,9,10,11,12,22] (cD 22 (.skip) (.exit 0))) (.keep [0,3,5,9,10,11,12] (.seq (.block 1 (sR [mO 25 0,mO 26 12,oO 27 (iA 166 25 26),fO 28 171 27 1,lO 29 3 28,aO 13 29] [0,3,5,9,10,11,12,13] (.block 2 (sR [mO 40 0,mO 41 12,oO 42 (iA 166 40 41),fO 43 171 42 0,lO 44 3 43,oO 45 (.binOp .eql 3 (xT 44) (nI 0) 3),aO 39 45] [0,3,5,9,10,11,12,13,39] (cD 39 (.reg [mO 46 9,mO 47 13,oO 48 (.build 91 #[(1,(xT 47))]),oO 49 (.buildSlice 31 1 #[(0,(xT 48))]),oN 50 (bC .append #[(xT 46),(xT 49)] #[31,31]) [2],mO 51 10,mO 52 13,oO 53 (.slice 23 (xT 51) (some (xT 52)) none none),mO 54 11,mO 55 13,oO 56 (.slice 23 (xT 54) (some (xT 55)) none none),aO 9 50,aO 10 53,aO 11 56] [0,3,5,9,10,11,12]) (sR [mO 58 0,mO 59 12,oO 60 (iA 166 58 59),fO 61 171 60 0,lO 62 3 61,oO 63 (.binOp .eql 3 (xT 62) (nI 2) 3),aO 57 63] [0,3,5,9,10,11,12,13,57] (cD 57 (.reg [mO 64 9,mO 65 11,mO 66 13,oO 67 (.slice 23 (xT 65) none (some (xT 66)) none),oO 68 (cL 179 #[(xT 67)] #[23]),oN 69 (bC .append #[(xT 64),(xT 68)] #[31,31]) [3],mO 70 11,mO 71 13,oO 72 (.slice 23 (xT 70) (some (xT 71)) none none),aO 9 69,aO 11 72] [0,3,5,9,10,11,12]) (sR [mO 74 12,oO 75 (.binOp .add 3 (xT 74) (nI 1) 3),mO 76 0,oO 77 (bL 76 166),oO 78 (bO .lss 3 75 77 3),mO 79 78,oG 80 (mV 0) 79 true,oG 81 (mV 12) 79 true,oG 82 (.binOp .add 3 (xT 81) (nI 1) 3) 79 true,oG 83 (iA 166 80 82) 79 true,oG 84 (fA 171 83 0) 79 true,oG 85 (lD 3 84) 79 true,oG 86 (.binOp .eql 3 (xT 85) (nI 2) 3) 79 true,oO 87 (.pick (xT 79) (xT 86) (nB false)),aO 73 87] [0,3,5,9,10,11,12,13,73] (cD 73 (sR [mO 88 0,mO 89 12,oO 90 (.binOp .add 3 (xT 89) (nI 1) 3),oO 91 (iA 166 88 90),fO 92 171 91 1,lO 93 3 92,aO 14 93] [0,3,5,9,10,11,12,13,14] (sR [mO 94 9,fO 95 25 5 0,lO 96 3 95,mO 97 10,mO 98 13,oO 99 (.slice 23 (xT 97) none (some (xT 98)) none),mO 100 11,mO 101 14,oO 102 (.slice 23 (xT 100) none (some (xT 101)) none),mO 103 3,oO 104 (cL 154 #[(xT 96),(xT 99),(xT 102),(xT 103)] #[3,23,23,3]),oN 105 (bC .append #[(xT 94),(xT 104)] #[31,31]) [4],aO 9 105] [0,3,5,9,10,11,12,13,14] (sR [mO 106 10,mO 107 13,oO 108 (.slice 23 (xT 106) (some (xT 107)) none none),mO 109 11,mO 110 14,oO 111 (.slice 23 (xT 109) (some (xT 110)) none none),aO 10 108,aO 11 111] [0,3,5,9,10,11,12] (.reg [mO 112 12,oO 113 (.binOp .add 3 (xT 112) (nI 1) 3),aO 12 113] [0,3,5,9,10,11,12])))) (.reg [mO 30 9,mO 31 10,mO 32 13,oO 33 (.slice 23 (xT 31) none (some (xT 32)) none),oO 34 (cL 180 #[(xT 33)] #[23]),oN 35 (bC .append #[(xT 30),(xT 34)] #[31,31]) [5],mO 36 10,mO 37 13,oO 38 (.slice 23 (xT 36) (some (xT 37)) none none),aO 9 35,aO 10 38] [0,3,5,9,10,11,12])))))))))) (.keep [0,3,5,9,10,11,12] (.reg [mO 23 12,oO 24 (.binOp .add 3 (xT 23) (nI 1) 3),aO 12 24] [0,3,5,9,10,11,12])))) 
def c_diff_ops : CC := sR [oN 5 (.box 25 (xT 1)) [0],oN 6 (.box 25 (xT 2)) [1],oO 8 (.assign nS)] [0,3,5,6] (sR [oO 9 (.assign nS)] [0,3,5,6,9] (sR [fO 15 25 5 2,lO 16 23 15,fO 17 25 6 2,lO 18 23 17,aO 10 16,aO 11 18] [0,3,5,9,10,11] (.seq (sR [oO 12 (.assign (nI 0))] [0,3,5,9,10,11,12] (.block 0 (.loop l1_diff_ops))) (.keep [9] (sR [mO 114 9,aO 8 114] [8] (.ret))))))
theorem t_diff_ops : Txt Tryz.prog 121 115 [(.tmp 8)] c_diff_ops := txt_of (code := Tryz.f121.body.getD .ret) mixed (by kernel_rfl) Tryz.func121 (by kernel_rfl) Tryz.ntmps121 (by kernel_rfl) (ls := lsOf c_diff_ops) (by kernel_rfl)
def k1_diff_list : CC := sR [fO 39 25 3 0,⟨some 40,(lD 3 39),none,[],1,[],true⟩,mO 41 9,lO 42 25 3,lO 43 25 4,mO 44 2,⟨some 45,(cL 121 #[(xT 41),(xT 42),(xT 43),(xT 44)] #[166,25,25,3]),none,[],6,[1],false⟩,oO 46 (.build 33 #[(0,(nI 3)),(5,(xT 40)),(6,(xT 45))]),oS (.store 33 (xT 6) (xT 46))] [6] (.ret) 
def c_diff_list : CC := sR [oN 3 (.box 25 (xT 0)) [0],oN 4 (.box 25 (xT 1)) [1],oN 6 (.alloc 33) [2]] [2,3,4,6] (sR [oO 11 (.build 163 #[]),oN 12 (.box 163 (xT 11)) [3],aO 7 12] [2,3,4,6,7] (.stop (sR [mO 13 7,fO 14 25 3 2,lO 15 23 14,oO 16 (cL 118 #[(xT 13),(xT 15)] #[161,23]),aO 8 16] [2,3,4,6,7,8] (sR [mO 18 8,mO 19 7,fO 20 25 4 2,lO 21 23 20,oO 22 (cL 118 #[(xT 19),(xT 21)] #[161,23]),mO 23 2,oO 24 (cL 119 #[(xT 18),(xT 22),(xT 23)] #[164,164,3]),mO 17 24,xO 25 17 0,xO 26 17 1,aO 9 25,aO 10 26] [2,3,4,6,9,10] (.seq (sR [mO 27 10,oO 28 (.unOp .not 4 (xT 27))] [2,3,4,6,9,28] (cD 28 (.reg [fO 29 25 3 2,lO 30 23 29,oO 31 (bL 30 23),oO 32 (.build 171 #[(0,(nI 1)),(1,(xT 31))]),fO 33 25 4 2,lO 34 23 33,oO 35 (bL 34 23),oO 36 (.build 171 #[(0,(nI 2)),(1,(xT 35))]),oO 37 (.buildSlice 166 2 #[(0,(xT 32)),(1,(xT 36))]),oO 38 (cL 120 #[(xT 37)] #[166]),aO 9 38] [2,3,4,6,9]) (.skip))) (.keep [2,3,4,6,9] k1_diff_list))))))
theorem t_diff_list : Txt Tryz.prog 62 47 [(.cell 6 33)] c_diff_list := txt_of (code := Tryz.f62.body.getD .ret) mixed (by kernel_rfl) Tryz.func62 (by kernel_rfl) Tryz.ntmps62 (by kernel_rfl) (ls := lsOf c_diff_list) (by kernel_rfl)
def c_diff_one : CC := sR [oN 3 (.box 25 (xT 0)) [0],oN 4 (.box 25 (xT 1)) [1],oN 6 (.alloc 33) [2]] [2,3,4,6] (.seq (.block 0 (sR [lO 8 25 3,lO 9 25 4,oO 10 (cL 59 #[(xT 8),(xT 9)] #[25,25]),aO 7 10] [2,3,4,6,7] (cD 7 (sR [oO 11 (.build 33 #[]),oS (.store 33 (xT 6) (xT 11))] [6] (.ret)) (sR [fO 13 25 3 0,lO 14 3 13,oO 15 (.binOp .eql 3 (xT 14) (nI 1) 3),mO 16 15,oG 17 (fA 25 4 0) 16 true,oG 18 (lD 3 17) 16 true,oG 19 (.binOp .eql 3 (xT 18) (nI 1) 3) 16 true,oO 20 (.pick (xT 16) (xT 19) (nB false)),aO 12 20] [2,3,4,6,12] (cD 12 (sR [lO 21 25 3,lO 22 25 4,mO 23 2,oO 24 (cL 60 #[(xT 21),(xT 22),(xT 23)] #[25,25,3]),oS (.store 33 (xT 6) (xT 24))] [6] (.ret)) (sR [fO 26 25 3 0,lO 27 3 26,fO 28 25 4 0,lO 29 3 28,oO 30 (bO .eql 3 27 29 3),mO 31 30,oG 32 (fA 25 3 0) 31 true,oG 33 (lD 3 32) 31 true,oG 34 (cL 61 #[(xT 33)] #[3]) 31 true,oO 35 (.pick (xT 31) (xT 34) (nB false)),aO 25 35] [2,3,4,6,25] (cD 25 (sR [lO 36 25 3,lO 37 25 4,mO 38 2,oO 39 (cL 62 #[(xT 36),(xT 37),(xT 38)] #[25,25,3]),oS (.store 33 (xT 6) (xT 39))] [6] (.ret)) (.skip)))))))) (.keep [3,4,6] (sR [lO 40 25 3,lO 41 25 4,oO 42 (.build 33 #[(0,(nI 1)),(1,(xT 40)),(2,(xT 41))]),oS (.store 33 (xT 6) (xT 42))] [6] (.ret))))
theorem t_diff_one : Txt Tryz.prog 30 43 [(.cell 6 33)] c_diff_one := txt_of (code := Tryz.f30.body.getD .ret) mixed (by kernel_rfl) Tryz.func30 (by kernel_rfl) Tryz.ntmps30 (by kernel_rfl) (ls := lsOf c_diff_one) (by kernel_rfl)
def c_diff_Trees : CC := sR [oN 3 (.box 25 (xT 0)) [0],oN 4 (.box 25 (xT 1)) [1],oN 6 (.alloc 33) [2]] [2,3,4,6] (sR [lO 7 25 3,⟨some 8,(cL 31 #[(xT 7)] #[25]),none,[],1,[],true⟩,⟨some 9,(lD 25 4),none,[],2,[1],false⟩,oO 10 (cL 31 #[(xT 9)] #[25]),mO 11 2,oO 12 (cL 30 #[(xT 8),(xT 10),(xT 11)] #[25,25,3]),oO 13 (cL 29 #[(xT 12)] #[33]),oS (.store 33 (xT 6) (xT 13))] [6] (.ret))
theorem t_diff_Trees : Txt Tryz.prog 11 14 [(.cell 6 33)] c_diff_Trees := txt_of (code := Tryz.f11.body.getD .ret) mixed (by kernel_rfl) Tryz.func11 (by kernel_rfl) Tryz.ntmps11 (by kernel_rfl) (ls := lsOf c_diff_Trees) (by kernel_rfl)
def c_centolaw26_Good : CC := sR [oN 1 (.box 25 (xT 0)) [0],oO 2 (.assign (nB false))] [1] (sR [lO 3 25 1,oO 4 (cL 27 #[(xT 3),(nI 70),(nI 400)] #[25,3,3]),oO 5 (.binOp .geq 3 (xT 4) (nI 0) 3),mO 6 5,oG 7 (lD 25 1) 6 true,oG 8 (cL 28 #[(xT 7),(nI 64)] #[25,3]) 6 true,oO 9 (.pick (xT 6) (xT 8) (nB false)),mO 10 9,oG 11 (fA 25 1 0) 10 true,oG 12 (lD 3 11) 10 true,oG 13 (.binOp .neq 3 (xT 12) (nI 10) 3) 10 true,oO 14 (.pick (xT 10) (xT 13) (nB false)),aO 2 14] [2] (.ret))
theorem t_centolaw26_Good : Txt Tryz.prog 8 15 [(.tmp 2)] c_centolaw26_Good := txt_of (code := Tryz.f8.body.getD .ret) mixed (by kernel_rfl) Tryz.func8 (by kernel_rfl) Tryz.ntmps8 (by kernel_rfl) (ls := lsOf c_centolaw26_Good) (by kernel_rfl)
end Go.Proofs.YtbjmaoedheiigaaGreat
namespace Go.Proofs.YtbjmaoedheiigaaGreat
set_option linter.unusedVariables false
set_option linter.unusedSimpArgs false
open Go Go.G Go.Proofs Go.PL
theorem rWidth_spec (c : Int) : G.Spec Tryz.prog 109 [iv c] (iv (widthZ c)) := by
  refine spec_of t_centoref01_Width (by simp) fun w0 I0 => ?_
  unfold c_centoref01_Width
  by_cases h0 : c = 0
  · subst h0; simp; exact frz_is rfl rfl
  by_cases h1 : c = 1
  · subst h1; simp; exact frz_is rfl rfl
  by_cases h2 : c = 2
  · subst h2; simp; exact frz_is rfl rfl
  by_cases h3 : c = 3
  · subst h3; simp; exact frz_is rfl rfl
  by_cases h4 : c = 4
  · subst h4; simp; exact frz_is rfl rfl
  by_cases h5 : c = 5
  · subst h5; simp; exact frz_is rfl rfl
  simp [h0,h1,h2,h3,h4,h5]
  exact frz_is rfl (by simp [widthZ,h0,h1,h2,h3,h4,h5])
theorem widthZ_cases (c : Int) : widthZ c = -1∨widthZ c = 0∨widthZ c = 1∨widthZ c = 8∨widthZ c = 16∨widthZ c = 32∨widthZ c = 64 := by
  unfold widthZ; repeat' split
  all_goals simp
section
variable {n0 : Nat} {w0 : World} {I0 : Nat→Prop} {Q : Exit→Sta→Prop} {H : Hp}
theorem rFits_l1 {w : Int} (hw : w≤64) : ∀ (m : Nat) (x i : Int),0≤x→x < 18446744073709551616→0≤i→i + m = w→(∀ b,Q (.exit 0) ⟨lk [(1,uv (x / 2 ^ m)),(5,iv w),(6,iv w),(13,bv b)],H⟩) →
    LoopC (cx Tryz.prog w0 I0 n0) l1_centoref01_Fits Q ⟨lk [(1,uv x),(5,iv w),(6,iv i)],H⟩ := by
  intro m
  induction m with
  | zero =>
    intro x i h0 h1 h2 h3 hq
    have : i = w := by simpa using h3
    subst this
    refine loopC_once mixed l1_centoref01_Fits.eq_1 ?_
    simp
    simpa using hq _
  | succ m ih =>
    intro x i h0 h1 h2 h3 hq
    refine loopC_once mixed l1_centoref01_Fits.eq_1 ?_
    have hi : i < w := by omega
    simp [hi]
    rw [i64_same (by omega) (by omega),Int.tdiv_eq_ediv_of_nonneg h0,u64_same (by omega) (by omega)]
    exact ih _ _ (by omega) (by omega) (by omega) (by omega) (by rw [pow_half]; exact hq)
end
theorem rFits_spec {c n : Int} (h : u64R n) : G.Spec Tryz.prog 57 [iv c,uv n] (bv (fitsZ c n)) := by
  refine spec_of t_centoref01_Fits (by simp) fun w0 I0 => ?_
  unfold c_centoref01_Fits
  simp
  refine sc_call (rWidth_spec c) rfl ?_
  simp
  have hw := widthZ_cases c
  refine ⟨fun h0 => ?_,fun h0 => ?_⟩
  · refine frz_bool ?_
    simp [fitsZ]; omega
  · refine rFits_l1 (w := widthZ c) (by omega) (widthZ c).toNat n 0 h.1 h.2 (by omega) (by omega) (fun b => ?_)
    simp
    refine frz_bool ?_
    simp [fitsZ,h0]
theorem bitsZ_width (c : Int) : bitsZ c = if widthZ c < 1 then 0 else widthZ c := by
  unfold bitsZ widthZ
  by_cases h0 : c = 0
  · subst h0; rfl
  by_cases h1 : c = 1
  · subst h1; rfl
  by_cases h2 : c = 2
  · subst h2; rfl
  by_cases h3 : c = 3
  · subst h3; rfl
  by_cases h4 : c = 4
  · subst h4; rfl
  by_cases h5 : c = 5
  · subst h5; rfl
  simp [h0,h1,h2,h3,h4,h5]
theorem rRoom_spec (c n : Int) : G.Spec Tryz.prog 65 [iv c,iv n] (iv (roomZ c n)) := by
  refine spec_of t_centoref01_Room (by simp) fun w0 I0 => ?_
  unfold c_centoref01_Room
  simp
  refine sc_call (rWidth_spec c) rfl ?_
  simp
  have hw := widthZ_cases c
  have hb := bitsZ_width c
  refine ⟨fun h0 => ?_,fun a1 a2 a3 => ?_⟩
  · refine frz_int ?_
    unfold roomZ
    split
    · rfl
    · rw [hb,if_pos (by omega)]; simp
  · refine sc_call (rWidth_spec c) rfl ?_
    rw [if_neg (by omega)] at hb
    have hw : widthZ c = 1∨widthZ c = 8∨widthZ c = 16∨widthZ c = 32∨widthZ c = 64 := by omega
    have e : roomZ c n = (n * widthZ c + 63) / 64 := by unfold roomZ; rw [if_neg (by omega),hb]
    rw [e]
    generalize widthZ c = w at *
    simp
    have hq : (64 : Int).tdiv w = 64 / w := Int.tdiv_eq_ediv_of_nonneg (by omega)
    rcases hw with rfl | rfl | rfl | rfl | rfl
    all_goals
      simp [hq,Int.tdiv_eq_ediv_of_nonneg a2,Int.tmod_eq_emod_of_nonneg a2]
      simp (disch := omega) only [i64_same]
      simp
      first
        | exact ⟨fun h => frz_int (by omega),fun h => frz_int (by omega)⟩
        | exact frz_int (by omega)
section
variable {n0 : Nat} {w0 : World} {I0 : Nat→Prop} {Q : Exit→Sta→Prop} {H : Hp}
end
theorem width_spec (c : Int) : G.Spec Tryz.prog 185 [iv c] (.tup [iv (if widthZ c < 0 then 0 else widthZ c),bv (decide (0≤widthZ c))]) := by
  refine spec_of t_word_width (by simp) fun w0 I0 => ?_
  unfold c_word_width
  by_cases h0 : c = 0
  · subst h0; simp; exact frz_is rfl rfl
  by_cases h1 : c = 1
  · subst h1; simp; exact frz_is rfl rfl
  by_cases h2 : c = 2
  · subst h2; simp; exact frz_is rfl rfl
  by_cases h3 : c = 3
  · subst h3; simp; exact frz_is rfl rfl
  by_cases h4 : c = 4
  · subst h4; simp; exact frz_is rfl rfl
  by_cases h5 : c = 5
  · subst h5; simp; exact frz_is rfl rfl
  have hd : (decide (c < 0) || decide (6≤c)) = true := by simp; omega
  simp [hd]
  exact frz_is rfl (by simp [widthZ,h0,h1,h2,h3,h4,h5])
theorem room_spec' (c n : Int) : G.Spec Tryz.prog 182 [iv c,iv n] (iv (roomZ c n)) := by
  refine spec_of t_word_Room (by simp) fun w0 I0 => ?_
  unfold c_word_Room
  simp
  refine sc_call (width_spec c) rfl ?_
  have hw := widthZ_cases c
  have hb := bitsZ_width c
  simp
  refine ⟨fun h0 => ?_,fun a1 a2 a3 => ?_⟩
  · refine frz_int ?_
    unfold roomZ
    split
    · rfl
    · rw [hb,if_pos (by omega)]; simp
  · have e : roomZ c n = (n * widthZ c + 63) / 64 := by
      unfold roomZ; rw [if_neg (by omega),hb]
      split
      · have : widthZ c = 0 := by omega
        simp [this]
      · rfl
    rw [e,if_neg (by omega)]
    generalize widthZ c = w at *
    have hw : w = 0∨w = 1∨w = 8∨w = 16∨w = 32∨w = 64 := by omega
    refine frz_int ?_
    rcases hw with rfl | rfl | rfl | rfl | rfl | rfl
    all_goals
      try simp
      try simp (disch := omega) only [i64_same,Int.tdiv_eq_ediv_of_nonneg]
      try rfl
theorem data_spec (k : Int) : G.Spec Tryz.prog 140 [iv k] (bv (isData k)) := by
  refine spec_of t_tree_Data (by simp) fun w0 I0 => ?_
  unfold c_tree_Data
  simp
  refine frz_bool ?_
  simp [isData]
section
variable {n0 : Nat} {w0 : World} {I0 : Nat→Prop} {Q : Exit→Sta→Prop} {H : Hp}
theorem rTrim_l1 {w : List Int} (hb : w.length * 8≤140737488355328) (hq : ∀ q,Q (.exit 0) ⟨lk [(0,uws w),(3,iv (trimW w).length),(16,bv q)],H⟩) : ∀ (n : Nat),n≤w.length→trimW (w.take n) = trimW w →
    LoopC (cx Tryz.prog w0 I0 n0) l1_centoref07_Trim Q ⟨lk [(0,uws w),(3,iv n)],H⟩ := by
  intro n
  induction n with
  | zero =>
    intro hn ht
    refine loopC_once mixed l1_centoref07_Trim.eq_1 ?_
    simp
    have e : (trimW w).length = 0 := by rw [← ht]; rfl
    have := hq false
    rw [e] at this
    exact this
  | succ n ih =>
    intro hn ht
    have hlt : n < w.length := by omega
    have e : IntKind.i64.wrap (n : Int) = n := i64_same (by omega) (by omega)
    refine loopC_once mixed l1_centoref07_Trim.eq_1 ?_
    by_cases h0 : w[n] = 0
    · simp [e,hlt,h0]
      exact ih (by omega) (by rw [← trimW_zero hlt h0]; exact ht)
    · have e2 : (trimW w).length = n + 1 := by rw [← ht,trimW_stop hlt h0]; simp; omega
      have := hq false
      rw [e2] at this
      simp [e,hlt,h0]
      simpa using this
end
theorem rTrim_spec (w : List Int) (hb : w.length * 8≤140737488355328) : G.Spec Tryz.prog 64 [uws w] (uws (trimW w)) := by
  refine spec_of t_centoref07_Trim (by simp) fun w0 I0 => ?_
  unfold c_centoref07_Trim
  simp
  refine rTrim_l1 hb (fun q => ?_) w.length (Nat.le_refl _) (by rw [List.take_of_length_le (Nat.le_refl _)])
  have hl := trimW_le w
  have hb' : (trimW w).length * 8≤140737488355328 := by omega
  simp [hl]
  refine ⟨hb',?_⟩
  rw [← List.map_take,← trimW_take]
  exact frz_row (by simp) rfl (by simp)
abbrev bys (l : List Int) : List A := l.map u8
def bytesN : Nat→Int→List Int
  | 0,_ => []
  | m + 1,x => x % 256 :: bytesN m (x / 256)
@[simp] theorem bytesN_length : ∀ (m : Nat) (x : Int),(bytesN m x).length = m
  | 0,_ => rfl
  | m + 1,x => by simp [bytesN,bytesN_length m]
theorem splice_set {l : List Int} {i : Nat} {v : Int} (h : i < l.length) : splice (l.map u8) i [u8 v] = (l.set i v).map u8 := by
  apply List.ext_getElem?
  intro j
  simp only [splice,List.length_singleton]
  rw [List.append_assoc,List.map_set]
  by_cases h1 : j < i
  · rw [List.getElem?_append_left (by simp; omega),List.getElem?_take,if_pos h1,List.getElem?_set_ne (by omega)]
  · rw [List.getElem?_append_right (by simp; omega)]
    have e : (List.take i (l.map u8)).length = i := by simp; omega
    rw [e]
    by_cases h2 : j = i
    · subst h2
      rw [List.getElem?_set_self (by simpa using h)]
      simp
    · rw [List.getElem?_set_ne (by omega),List.getElem?_append_right (by simp; omega),List.getElem?_drop]
      congr 1
      simp; omega
section
variable {n0 : Nat} {w0 : World} {I0 : Nat→Prop} {Q : Exit→Sta→Prop}
end
def bytesZ (x : Int) : List Int := bytesN 8 x
theorem frz_bytes {H : Hp} {l : List Int} : Frz H (.agg (bys l)) (.agg (bys l)) := frz_bare (by simp)
section
variable {n0 : Nat} {w0 : World} {I0 : Nat→Prop} {Q : Exit→Sta→Prop} {H : Hp}
end
def namedZ (x : Int) (i : Nat) : Bool := decide (x / 2 ^ i % 2 = 1)
def ofZ : List Int→Int
  | [] => 0
  | b :: l => b + 256 * ofZ l
theorem ofZ_range : ∀ (l : List Int),(∀ b,b ∈ l→0≤b∧b < 256)→0≤ofZ l∧ofZ l < 256 ^ l.length
  | [],_ => by simp [ofZ]
  | b :: l,h => by
    have h1 := h b (by simp)
    have h2 := ofZ_range l fun x hx => h x (by simp [hx])
    simp only [ofZ,List.length_cons,Int.pow_succ]
    omega
section
variable {n0 : Nat} {w0 : World} {I0 : Nat→Prop} {Q : Exit→Sta→Prop} {H : Hp}
end
theorem bytesN_range : ∀ (m : Nat) (x : Int),∀ b,b ∈ bytesN m x→0≤b∧b < 256
  | m + 1,x,b,h => by
    rcases List.mem_cons.1 h with rfl | h
    · omega
    · exact bytesN_range m _ b h
def mixL (a b : List Int) (mask : Int) (k : Nat) : List Int := (List.range k).map (fun i => if namedZ mask i = true then b.getD i 0 else a.getD i 0) ++ a.drop k
theorem mixL_length {a b : List Int} {mask : Int} {k : Nat} (h : k≤a.length) : (mixL a b mask k).length = a.length := by simp [mixL]; omega
section
variable {n0 : Nat} {w0 : World} {I0 : Nat→Prop} {Q : Exit→Sta→Prop}
end
def mixZ (a b mask : Int) : Int := ofZ (mixL (bytesZ a) (bytesZ b) mask 8)
theorem mixL_range {a b mask : Int} {k : Nat} : ∀ x,x ∈ mixL (bytesZ a) (bytesZ b) mask k→0≤x∧x < 256 := by
  have hg : ∀ (y : Int) (i : Nat),0≤(bytesZ y).getD i 0∧(bytesZ y).getD i 0 < 256 := fun y i => by
    rw [List.getD_eq_getElem?_getD]
    cases e : (bytesZ y)[i]? with
    | none => simp
    | some z => exact bytesN_range 8 y z (List.mem_of_getElem? e)
  intro x hx
  rcases List.mem_append.1 hx with hx | hx
  · obtain ⟨i,_,rfl⟩ := List.mem_map.1 hx
    split
    · exact hg b i
    · exact hg a i
  · exact bytesN_range 8 a x (List.mem_of_mem_drop hx)
theorem bytesZ_length (x : Int) : (bytesZ x).length = 8 := bytesN_length 8 x
def mixN : Nat→Nat→Nat→Nat→Nat
  | 0,_,_,_ => 0
  | k + 1,a,b,m => (if m % 2 = 1 then b % 256 else a % 256) + 256 * mixN k (a / 256) (b / 256) (m / 2)
def wideN : Nat→Nat→Nat
  | 0,_ => 0
  | k + 1,m => (if m % 2 = 1 then 255 else 0) + 256 * wideN k (m / 2)
theorem wideN_lt : ∀ k m,wideN k m < 256 ^ k
  | 0,m => by simp [wideN]
  | k + 1,m => by
    have := wideN_lt k (m / 2)
    simp only [wideN,Nat.pow_succ]
    split <;> omega
theorem mixN_bits : ∀ k a b m,a < 256 ^ k→b < 256 ^ k→(a &&& (256 ^ k - 1 - wideN k m)) ||| (b &&& wideN k m) = mixN k a b m
  | 0,a,b,m,ha,hb => by
    simp at ha hb
    subst ha hb
    simp [mixN,wideN]
  | k + 1,a,b,m,ha,hb => by
    have hw := wideN_lt k (m / 2)
    rw [Nat.pow_succ] at ha hb
    have ih := mixN_bits k (a / 256) (b / 256) (m / 2) (by omega) (by omega)
    have p0 : 0 < 256 ^ k := Nat.pow_pos (by decide)
    generalize hx : (a &&& (256 ^ (k + 1) - 1 - wideN (k + 1) m)) ||| (b &&& wideN (k + 1) m) = x
    have d1 : wideN (k + 1) m / 256 = wideN k (m / 2) := by simp only [wideN]; split <;> omega
    have d2 : (256 ^ (k + 1) - 1 - wideN (k + 1) m) / 256 = 256 ^ k - 1 - wideN k (m / 2) := by simp only [wideN,Nat.pow_succ]; split <;> omega
    have m1 : wideN (k + 1) m % 256 = if m % 2 = 1 then 255 else 0 := by simp only [wideN]; split <;> omega
    have m2 : (256 ^ (k + 1) - 1 - wideN (k + 1) m) % 256 = if m % 2 = 1 then 0 else 255 := by simp only [wideN,Nat.pow_succ]; split <;> omega
    have e1 : x / 256 = mixN k (a / 256) (b / 256) (m / 2) := by
      have q1 := @Nat.or_div_two_pow (a &&& (256 ^ (k + 1) - 1 - wideN (k + 1) m)) (b &&& wideN (k + 1) m) 8
      have q2 := @Nat.and_div_two_pow a (256 ^ (k + 1) - 1 - wideN (k + 1) m) 8
      have q3 := @Nat.and_div_two_pow b (wideN (k + 1) m) 8
      have c : (2 : Nat) ^ 8 = 256 := rfl
      rw [q2,q3,c,d1,d2,hx] at q1
      rw [q1,ih]
    have e2 : x % 256 = if m % 2 = 1 then b % 256 else a % 256 := by
      have h : x % 2 ^ 8 = (a % 2 ^ 8 &&& (256 ^ (k + 1) - 1 - wideN (k + 1) m) % 2 ^ 8) ||| (b % 2 ^ 8 &&& wideN (k + 1) m % 2 ^ 8) := by
        rw [← hx,Nat.or_mod_two_pow,Nat.and_mod_two_pow,Nat.and_mod_two_pow]
      have c : (2 : Nat) ^ 8 = 256 := rfl
      rw [c,m1,m2] at h
      rw [h]
      have h255 : (255 : Nat) = 2 ^ 8 - 1 := rfl
      split
      · rw [h255,Nat.and_two_pow_sub_one_eq_mod]; simp
      · rw [h255,Nat.and_two_pow_sub_one_eq_mod]; simp
    simp only [mixN]
    omega
theorem mx_range : ∀ (k : Nat) (a b mask : Int),0≤a→0≤b→0≤mask→ofZ ((List.range k).map fun i => if namedZ mask i = true then (bytesN k b).getD i 0 else (bytesN k a).getD i 0) = (mixN k a.toNat b.toNat mask.toNat : Nat)
  | 0,a,b,mask,_,_,_ => by simp [ofZ,mixN]
  | k + 1,a,b,mask,ha,hb,hm => by
    have ih := mx_range k (a / 256) (b / 256) (mask / 2) (by omega) (by omega) (by omega)
    have e1 : (a / 256).toNat = a.toNat / 256 := by omega
    have e2 : (b / 256).toNat = b.toNat / 256 := by omega
    have e3 : (mask / 2).toNat = mask.toNat / 2 := by omega
    rw [e1,e2,e3] at ih
    rw [List.range_succ_eq_map,List.map_cons,List.map_map,ofZ]
    have h : (List.range k).map ((fun i => if namedZ mask i = true then (bytesN (k + 1) b).getD i 0 else (bytesN (k + 1) a).getD i 0) ∘ Nat.succ) = (List.range k).map fun i => if namedZ (mask / 2) i = true then (bytesN k (b / 256)).getD i 0 else (bytesN k (a / 256)).getD i 0 := by
      refine List.map_congr_left fun i _ => ?_
      have hn : namedZ mask (i + 1) = namedZ (mask / 2) i := by
        unfold namedZ
        have : mask / 2 ^ (i + 1) = mask / 2 / 2 ^ i := by
          rw [Int.ediv_ediv_of_nonneg (by decide),Int.pow_succ,Int.mul_comm]
        rw [this]
      simp [bytesN,hn]
    rw [h,ih]
    have h0 : (namedZ mask 0 = true) = (mask.toNat % 2 = 1) := by
      simp [namedZ]
      omega
    simp only [h0,mixN,bytesN,List.getD_cons_zero]
    split <;> omega
theorem mixZ_nat {a b mask : Int} (ha : u64R a) (hb : u64R b) (h0 : 0≤mask) : mixZ a b mask = (mixN 8 a.toNat b.toNat mask.toNat : Nat) := by
  rw [← mx_range 8 a b mask ha.1 hb.1 h0]
  unfold mixZ mixL bytesZ
  rw [List.drop_eq_nil_of_le (by simp),List.append_nil]
def wS (mask : Int) : Nat→Int
  | 0 => 0
  | i + 1 => if bits .and .u8 (mask / 2 ^ min i 8) 1 = 1 then bits .or .u64 (wS mask i) (IntKind.u64.wrap (255 * 2 ^ min (8 * i) 64)) else wS mask i
theorem wS_all : ∀ m : Nat,m < 256→wS m 8 = (wideN 8 m : Nat) := by decide +kernel
section
variable {n0 : Nat} {w0 : World} {I0 : Nat→Prop} {Q : Exit→Sta→Prop}
theorem mxwide_l1 {mask : Int} (hq : ∀ q,Q (.exit 0) ⟨lk [(0,u8 mask),(3,uv (wS mask 8)),(5,iv 8),(6,bv q)],lkH []⟩) :
    ∀ (j i : Nat),i + j = 8→LoopC (cx Tryz.prog w0 I0 n0) l1_word_Wide Q ⟨lk [(0,u8 mask),(3,uv (wS mask i)),(5,iv i)],lkH []⟩ := by
  intro j
  induction j with
  | zero =>
    intro i hi
    have : i = 8 := by omega
    subst this
    refine loopC_once mixed l1_word_Wide.eq_1 ?_
    simp
    exact hq _
  | succ j ih =>
    intro i hi
    refine loopC_once mixed l1_word_Wide.eq_1 ?_
    have hlt : i < 8 := by omega
    have hlt2 : (i : Int) < 8 := by omega
    have e8 : IntKind.i64.wrap (8 * (i : Int)) = ((8 * i : Nat) : Int) := (i64_same (by omega) (by omega)).trans (by omega)
    have ei : IntKind.i64.wrap ((i : Int) + 1) = ((i + 1 : Nat) : Int) := i64_same (by omega) (by omega)
    have b8 : IntKind.u8.bits = 8 := rfl
    have b64 : IntKind.u64.bits = 64 := rfl
    have hs := ih (i + 1) (by omega)
    rw [wS] at hs
    have e9 : (8 * (i : Int)).toNat = 8 * i := by omega
    simp [hlt,hlt2,e8,ei,b8,b64,e9]
    refine ⟨fun hc => ⟨by omega,?_⟩,fun hc => ?_⟩
    · rw [if_pos hc] at hs
      exact hs
    · rw [if_neg hc] at hs
      exact hs
end
theorem pWide_spec {mask : Int} (h0 : 0≤mask) (h1 : mask < 256) : G.Spec Tryz.prog 218 [u8 mask] (uv (wideN 8 mask.toNat : Nat)) := by
  refine spec_of t_word_Wide (by simp) fun w0 I0 => ?_
  unfold c_word_Wide
  simp
  obtain ⟨m,rfl⟩ := Int.eq_ofNat_of_zero_le h0
  refine mxwide_l1 (fun q => ?_) 8 0 rfl
  simp
  rw [wS_all m (by omega)]
  exact frz_bare rfl
theorem mx_nat {x : Nat} (h : x < 2 ^ 64) : (BitVec.ofInt 64 (x : Int)).toNat = x := by
  rw [BitVec.toNat_ofInt]
  omega
theorem mx_and {x y : Nat} (hx : x < 2 ^ 64) (hy : y < 2 ^ 64) : bits .and .u64 x y = (x &&& y : Nat) := by
  have h := Nat.lt_of_le_of_lt (Nat.and_le_left (n := x) (m := y)) hx
  show IntKind.u64.wrap ((BitVec.ofInt 64 x &&& BitVec.ofInt 64 y).toNat : Nat) = _
  rw [BitVec.toNat_and,mx_nat hx,mx_nat hy]
  exact u64_same (by omega) (by omega)
theorem mx_or {x y : Nat} (hx : x < 2 ^ 64) (hy : y < 2 ^ 64) : bits .or .u64 x y = (x ||| y : Nat) := by
  have h := Nat.or_lt_two_pow hx hy
  show IntKind.u64.wrap ((BitVec.ofInt 64 x ||| BitVec.ofInt 64 y).toNat : Nat) = _
  rw [BitVec.toNat_or,mx_nat hx,mx_nat hy]
  exact u64_same (by omega) (by omega)
theorem mx_andN {x y : Nat} (hx : x < 2 ^ 64) (hy : y < 2 ^ 64) : bits .andNot .u64 x y = (x &&& (256 ^ 8 - 1 - y) : Nat) := by
  have h := Nat.lt_of_le_of_lt (Nat.and_le_left (n := x) (m := 256 ^ 8 - 1 - y)) hx
  show IntKind.u64.wrap ((BitVec.ofInt 64 x &&& ~~~ BitVec.ofInt 64 y).toNat : Nat) = _
  rw [BitVec.toNat_and,BitVec.toNat_not,mx_nat hx,mx_nat hy]
  have e : (2 : Nat) ^ 64 - 1 - y = 256 ^ 8 - 1 - y := rfl
  rw [e]
  exact u64_same (by omega) (by omega)
theorem pMix_spec {a b mask : Int} (ha : u64R a) (hb : u64R b) (h0 : 0≤mask) (h1 : mask < 256) : G.Spec Tryz.prog 174 [uv a,uv b,u8 mask] (uv (mixZ a b mask)) := by
  refine spec_of t_word_Mix (by simp) fun w0 I0 => ?_
  unfold c_word_Mix
  simp
  refine sc_call (pWide_spec h0 h1) (by simp) ?_
  simp
  refine sc_call (pWide_spec h0 h1) (by simp) ?_
  simp
  refine frz_int ?_
  rw [mixZ_nat ha hb h0]
  obtain ⟨x,rfl⟩ := Int.eq_ofNat_of_zero_le ha.1
  obtain ⟨y,rfl⟩ := Int.eq_ofNat_of_zero_le hb.1
  have hx : x < 2 ^ 64 := by have := ha.2; omega
  have hy : y < 2 ^ 64 := by have := hb.2; omega
  have hw : wideN 8 mask.toNat < 2 ^ 64 := wideN_lt 8 _
  rw [mx_andN hx hw,mx_and hy hw,mx_or (Nat.lt_of_le_of_lt Nat.and_le_left hx) (Nat.lt_of_le_of_lt Nat.and_le_left hy)]
  have := mixN_bits 8 x y mask.toNat hx hy
  simp only [Int.toNat_natCast]
  rw [← this]
theorem or_bit26 : ∀ i : Fin 8,∀ m : Fin 256,m.val < 2 ^ i.val→bits .or .u8 (m.val : Int) ((2 ^ i.val : Nat) : Int) = (m.val : Int) + ((2 ^ i.val : Nat) : Int) := by decide +kernel
def byteZ (x : Int) (i : Nat) : Int := x / 256 ^ i % 256
def unlM (a b : Int) : Nat→Nat
  | 0 => 0
  | k + 1 => unlM a b k + (if byteZ a k ≠ byteZ b k then 2 ^ k else 0)
def unlZ (a b : Int) : Int := (unlM a b 8 : Nat)
theorem unlM_lt (a b : Int) : ∀ k,unlM a b k < 2 ^ k
  | 0 => by simp [unlM]
  | k + 1 => by
    have := unlM_lt a b k
    unfold unlM
    rw [Nat.pow_succ]
    split <;> omega
theorem unlZ_in (a b : Int) : 0≤unlZ a b∧unlZ a b < 256 := by
  have := unlM_lt a b 8
  unfold unlZ
  omega
theorem bytN_get26 : ∀ (n : Nat) (x : Int) (i : Nat),i < n→(bytesN n x)[i]? = some (byteZ x i)
  | n + 1,x,0,_ => by simp [bytesN,byteZ]
  | n + 1,x,i + 1,h => by
    have := bytN_get26 n (x / 256) i (by omega)
    simp only [bytesN,List.getElem?_cons_succ]
    rw [this]
    unfold byteZ
    rw [Int.ediv_ediv_of_nonneg (by omega),Int.pow_succ,Int.mul_comm]
theorem xor_byte {a b : Int} (ha : u64R a) (hb : u64R b) (i : Nat) : byteZ (bits .xor .u64 a b) i = 0 ↔ byteZ a i = byteZ b i := by
  obtain ⟨x,rfl⟩ : ∃ x : Nat,a = x := ⟨a.toNat,by unfold u64R at ha; omega⟩
  obtain ⟨y,rfl⟩ : ∃ y : Nat,b = y := ⟨b.toNat,by unfold u64R at hb; omega⟩
  unfold u64R at ha hb
  rw [bits_xor_u64_nat x y (by omega) (by omega)]
  unfold byteZ
  have h : ∀ z : Nat,((z : Int) / 256 ^ i % 256) = (((z / 2 ^ (8 * i)) % 2 ^ 8 : Nat) : Int) := fun z => by
    have h1 : ((256 : Int) ^ i) = ((2 ^ (8 * i) : Nat) : Int) := by
      rw [Nat.pow_mul,Int.natCast_pow]; rfl
    rw [h1,Int.natCast_emod,Int.natCast_ediv]
    rfl
  rw [h,h,h]
  have e : ((x ^^^ y) / 2 ^ (8 * i)) % 2 ^ 8 = ((x / 2 ^ (8 * i)) % 2 ^ 8) ^^^ ((y / 2 ^ (8 * i)) % 2 ^ 8) := by
    rw [← Nat.shiftRight_eq_div_pow,← Nat.shiftRight_eq_div_pow,← Nat.shiftRight_eq_div_pow,Nat.shiftRight_xor_distrib,Nat.xor_mod_two_pow]
  rw [e]
  constructor
  · intro h
    have h : ((x / 2 ^ (8 * i)) % 2 ^ 8) ^^^ ((y / 2 ^ (8 * i)) % 2 ^ 8) = 0 := by omega
    generalize (x / 2 ^ (8 * i)) % 2 ^ 8 = p at h ⊢
    generalize (y / 2 ^ (8 * i)) % 2 ^ 8 = q at h ⊢
    have h2 : p ^^^ q ^^^ q = q := by rw [h,Nat.zero_xor]
    rw [Nat.xor_assoc,Nat.xor_self,Nat.xor_zero] at h2
    rw [h2]
  · intro h
    have h : (x / 2 ^ (8 * i)) % 2 ^ 8 = (y / 2 ^ (8 * i)) % 2 ^ 8 := by omega
    rw [h,Nat.xor_self]
    rfl
section
variable {n0 : Nat} {w0 : World} {I0 : Nat→Prop} {Q : Exit→Sta→Prop}
theorem unl_l1 {a b : Int} (ha : u64R a) (hb : u64R b) {H : Hp} (hq : ∀ st,Q (.exit 0) ⟨lk ([(5,u8 (unlZ a b))] ++ st),H⟩) : ∀ (m i : Nat),i + m = 8 →
    LoopC (cx Tryz.prog w0 I0 n0) l1_word_Unlike Q ⟨lk [(5,u8 (unlM a b i : Nat)),(11,.agg (bys (bytesZ (bits .xor .u64 a b)))),(12,iv i)],H⟩ := by
  intro m
  induction m with
  | zero =>
    intro i hm
    refine loopC_once mixed l1_word_Unlike.eq_1 ?_
    have : i = 8 := by omega
    subst this
    simp
    exact hq [(11,.agg (bys (bytesZ (bits .xor .u64 a b)))),(12,iv 8),(13,bv false)]
  | succ m ih =>
    intro i hm
    have hi : i < 8 := by omega
    have hi' : (i : Int) < 8 := by omega
    have ew : IntKind.i64.wrap ((i : Int) + 1) = ((i + 1 : Nat) : Int) := by rw [i64_same (by omega) (by omega)]; omega
    have hb1 : (bytesZ (bits .xor .u64 a b))[i]? = some (byteZ (bits .xor .u64 a b) i) := bytN_get26 8 _ i hi
    have hx := xor_byte ha hb i
    have hlt := unlM_lt a b i
    have next := ih (i + 1) (by omega)
    refine loopC_once mixed l1_word_Unlike.eq_1 ?_
    by_cases h : byteZ a i = byteZ b i
    · have h0 := hx.2 h
      have e : unlM a b (i + 1) = unlM a b i := by simp [unlM,h]
      rw [e] at next
      simp [hi',hi,ew,bys,hb1,h0]
      simpa [bys] using next
    · have h0 : ¬ byteZ (bits .xor .u64 a b) i = 0 := fun e => h (hx.1 e)
      have e : unlM a b (i + 1) = unlM a b i + 2 ^ i := by simp [unlM,h]
      rw [e] at next
      have p8 : 2 ^ i < 256 := by
        have : 2 ^ i≤2 ^ 7 := Nat.pow_le_pow_right (by omega) (by omega)
        omega
      have eb : IntKind.u8.wrap (2 ^ min i IntKind.u8.bits) = ((2 ^ i : Nat) : Int) := by
        have : min i IntKind.u8.bits = i := Nat.min_eq_left (by show i≤8; omega)
        rw [this,IntKind.wrap_u8,Int.natCast_pow]
        have : ((2 : Int) ^ i) = ((2 ^ i : Nat) : Int) := by rw [Int.natCast_pow]; rfl
        omega
      have eo := or_bit26 ⟨i,hi⟩ ⟨unlM a b i,by omega⟩ hlt
      simp only at eo
      simp [hi',hi,ew,bys,hb1,h0]
      rw [eb,eo,← Int.natCast_add]
      simpa [bys] using next
end
def bytP (x : Int) (i : Nat) : List Int := (List.range 8).map fun j => if j < i then byteZ x j else 0
theorem bytP_len (x : Int) (i : Nat) : (bytP x i).length = 8 := by simp [bytP]
theorem bytP_zero (x : Int) : bytP x 0 = List.replicate 8 0 := by simp [bytP]; rfl
theorem bytP_all (x : Int) : bytP x 8 = bytesZ x := by
  apply List.ext_getElem?
  intro j
  by_cases h : j < 8
  · rw [show (bytesZ x)[j]? = _ from bytN_get26 8 x j h]
    simp [bytP,h]
  · rw [List.getElem?_eq_none (by rw [bytP_len]; omega),List.getElem?_eq_none (by simp [bytesZ]; omega)]
theorem bytP_set (x : Int) {i : Nat} (h : i < 8) : (bytP x i).set i (byteZ x i) = bytP x (i + 1) := by
  apply List.ext_getElem?
  intro j
  by_cases hj : j < 8
  · by_cases e : j = i
    · subst e
      rw [List.getElem?_set_self (by rw [bytP_len]; omega)]
      simp [bytP,hj]
    · rw [List.getElem?_set_ne (by omega)]
      simp [bytP,hj]
      have : (j < i + 1) = (j < i) := by simp; omega
      simp [this]
  · rw [List.getElem?_eq_none (by simp [bytP_len]; omega),List.getElem?_eq_none (by rw [bytP_len]; omega)]
section
variable {n0 : Nat} {w0 : World} {I0 : Nat→Prop} {Q : Exit→Sta→Prop}
theorem pbyt_l1 {x : Int} (hx : u64R x) (hq : ∀ (st : List (Nat × A)) (H : Hp),H [0] = ⟨1,.cells (bys (List.replicate 8 0))⟩→H [1] = ⟨1,.cells (bys (bytesZ x))⟩→Q (.exit 0) ⟨lk ([(0,uv x),(2,.pob [0] 1 0),(3,.pob [1] 1 0)] ++ st),H⟩) : ∀ (m i : Nat) (H : Hp),i + m = 8→H [0] = ⟨1,.cells (bys (List.replicate 8 0))⟩→H [1] = ⟨1,.cells (bys (bytP x i))⟩ →
    LoopC (cx Tryz.prog w0 I0 n0) l1_word_Bytes Q ⟨lk [(0,uv x),(2,.pob [0] 1 0),(3,.pob [1] 1 0),(5,iv i)],H⟩ := by
  intro m
  induction m with
  | zero =>
    intro i H hm h0 h1
    refine loopC_once mixed l1_word_Bytes.eq_1 ?_
    have : i = 8 := by omega
    subst this
    rw [bytP_all] at h1
    simp
    exact hq [(5,iv 8),(6,bv false)] H h0 h1
  | succ m ih =>
    intro i H hm h0 h1
    have hi : i < 8 := by omega
    have hi' : (i : Int) < 8 := by omega
    have ew : IntKind.i64.wrap ((i : Int) + 1) = ((i + 1 : Nat) : Int) := by rw [i64_same (by omega) (by omega)]; omega
    have e8 : IntKind.i64.wrap (8 * (i : Int)) = ((8 * i : Nat) : Int) := (i64_same (by omega) (by omega)).trans (by omega)
    have b64 : IntKind.u64.bits = 64 := rfl
    have e9 : (8 * (i : Int)).toNat = 8 * i := by omega
    have ev : IntKind.u8.wrap (x / 2 ^ min (8 * i) 64) = byteZ x i := by
      rw [IntKind.wrap_u8,Nat.min_eq_left (by omega)]
      unfold byteZ
      have h1 : ((256 : Int) ^ i) = ((2 : Int) ^ (8 * i)) := by rw [Int.pow_mul]; rfl
      rw [h1]
      try rfl
    refine loopC_once mixed l1_word_Bytes.eq_1 ?_
    simp [hi',hi,ew,e8,e9,b64,ev,h1,bytP_len]
    refine ⟨by omega,by omega,?_⟩
    rw [splice_set (by rw [bytP_len]; omega),bytP_set x hi]
    simpa using ih (i + 1) _ (by omega) (by simp [updF_app,h0]) (by simp [updF_app])
end
theorem pBytes_spec {x : Int} (h : u64R x) : G.Spec Tryz.prog 217 [uv x] (.agg (bys (bytesZ x))) := by
  refine spec_of t_word_Bytes (by simp) fun w0 I0 => ?_
  unfold c_word_Bytes
  simp
  refine LoopC.le (le_list [(0,uv x),(2,.pob [0] 1 0),(3,.pob [1] 1 0),(5,iv (0 : Nat))] (by simp)) ?_
  refine pbyt_l1 h (fun st H h0 h1 => ?_) 8 0 _ rfl (by simp [updF_app]) (by simp [updF_app,bytP_zero])
  have e : List.take 8 (bys (bytesZ x)) = bys (bytesZ x) := List.take_of_length_le (by simp [bytesZ])
  have el : (bytesZ x).length = 8 := by simp [bytesZ]
  simp [h1,h0,updF_app,e,el]
  exact ⟨by simp [A.ones],frz_bytes⟩
theorem pUnlike_spec {a b : Int} (ha : u64R a) (hb : u64R b) : G.Spec Tryz.prog 173 [uv a,uv b] (u8 (unlZ a b)) := by
  have hu : u64R (bits .xor .u64 a b) := by
    obtain ⟨x,rfl⟩ : ∃ x : Nat,a = x := ⟨a.toNat,by unfold u64R at ha; omega⟩
    obtain ⟨y,rfl⟩ : ∃ y : Nat,b = y := ⟨b.toNat,by unfold u64R at hb; omega⟩
    unfold u64R at ha hb
    rw [bits_xor_u64_nat x y (by omega) (by omega)]
    have := @Nat.xor_lt_two_pow x y 64 (by omega) (by omega)
    unfold u64R
    omega
  refine spec_of t_word_Unlike (by simp) fun w0 I0 => ?_
  unfold c_word_Unlike
  simp
  refine sc_call (pBytes_spec hu) (by simp) ?_
  simp
  refine LoopC.le (le_list [(5,u8 (unlM a b 0 : Nat)),(11,.agg (bys (bytesZ (bits .xor .u64 a b)))),(12,iv (0 : Nat))] (by simp [unlM])) ?_
  refine unl_l1 ha hb (fun st => ?_) 8 0 rfl
  simp
  exact frz_bare rfl
section
variable {n0 : Nat} {w0 : World} {I0 : Nat→Prop} {Q : Exit→Sta→Prop}
end
def wdE (at_ : Int) (a b : Int) : WE := ⟨at_,unlZ a b,mixZ 0 a (unlZ a b),mixZ 0 b (unlZ a b)⟩
def WE0 : WE := ⟨0,0,0,0⟩
theorem pWord_spec {i a b : Int} (ha : u64R a) (hb : u64R b) : G.Spec Tryz.prog 117 [iv i,uv a,uv b] (.tup [wX (if unlZ a b = 0 then WE0 else wdE i a b),bv (!decide (unlZ a b = 0))]) := by
  have hin := unlZ_in a b
  have z : u64R 0 := by unfold u64R; omega
  refine spec_of t_diff_Word (by simp) fun w0 I0 => ?_
  unfold c_diff_Word
  simp
  refine sc_call (pUnlike_spec ha hb) (by simp) ?_
  by_cases h : unlZ a b = 0
  · simp [h]
    exact frz_bare rfl
  · simp [h]
    refine sc_call (pMix_spec z ha hin.1 hin.2) (by simp) ?_
    simp
    refine sc_call (pMix_spec z hb hin.1 hin.2) (by simp) ?_
    simp
    exact frz_bare rfl
end Go.Proofs.YtbjmaoedheiigaaGreat
namespace Go.Proofs.YtbjmaoedheiigaaGreat
set_option linter.unusedVariables false
set_option linter.unusedSimpArgs false
open Go Go.G Go.Proofs
theorem u64_mask (i : Nat) (hi : i≤64) {x : Int} (h0 : 0≤x) (h1 : x < 18446744073709551616) : bits .and .u64 x (2 ^ i - 1) = x % 2 ^ i :=
  bits_mask .u64 64 (by decide) (fun n a b => u64_same a b) i hi x h0 h1
theorem u64_or (i : Nat) {x y : Int} (hx0 : 0≤x) (hx : x % 2 ^ i = 0) (hx1 : x < 18446744073709551616) (hy0 : 0≤y) (hy : y < 2 ^ i) (hy1 : y < 18446744073709551616) : bits .or .u64 x y = x + y :=
  bits_join .u64 64 (by decide) (fun n a b => u64_same a b) i x y hx0 hx hx1 hy0 hy hy1
theorem u64_or' (i : Nat) {x y : Int} (hx0 : 0≤x) (hx : x < 2 ^ i) (hx1 : x < 18446744073709551616) (hy0 : 0≤y) (hy : y % 2 ^ i = 0) (hy1 : y < 18446744073709551616) : bits .or .u64 x y = x + y := by
  have : bits .or .u64 x y = bits .or .u64 y x := by simp only [bits,BitVec.or_comm]
  rw [this,u64_or i hy0 hy hy1 hx0 hx hx1,Int.add_comm]
theorem u64_and4 {x : Int} (h0 : 0≤x) (h1 : x < 18446744073709551616) : (bits .and .u64 x 4 = 0) ↔ x / 4 % 2 = 0 := by
  obtain ⟨a,rfl⟩ := Int.eq_ofNat_of_zero_le h0
  have h2 := bits_and_u64_nat a 4 (by omega) (by omega)
  have h3 : bits .and .u64 (a : Int) 4 = ((a &&& 4 : Nat) : Int) := h2
  rw [h3]
  have h4 : a &&& 4 = 4 * (a / 4 % 2) := by
    have e : a &&& 4 = (a % 8) &&& 4 := by
      rw [show a % 8 = a &&& 7 from (Nat.and_two_pow_sub_one_eq_mod a 3).symm,Nat.and_assoc]; rfl
    have d : ∀ r,r < 8→r &&& 4 = 4 * (r / 4 % 2) := by decide
    rw [e,d _ (by omega)]
    omega
  rw [h4]
  omega
theorem i32_shr2 {w : Int} : (IntKind.i32.wrap (IntKind.u32.wrap w)) / 4 = offs w := by
  rw [IntKind.wrap_i32,IntKind.wrap_u32,offs]
  split <;> omega
theorem Decode_spec {w : Int} (h0 : 0≤w) (h1 : w < 18446744073709551616) : G.Spec Tryz.prog 204 [uv w] (dec w).a := by
  refine spec_of t_ptr_Decode (by simp) fun w0 I0 => ?_
  unfold c_ptr_Decode
  simp [convA_int]
  have e3 : bits .and .u64 w 3 = w % 4 := u64_mask 2 (by decide) h0 h1
  have e1 : IntKind.i64.wrap (bits .and .u64 (w / 2 ^ min 32 IntKind.u64.bits) 65535) = w / 4294967296 % 65536 := by
    rw [show w / 2 ^ min 32 IntKind.u64.bits = w / 4294967296 from rfl,show bits .and .u64 (w / 4294967296) 65535 = w / 4294967296 % 65536 from u64_mask 16 (by decide) (by omega) (by omega)]
    exact i64_same (by omega) (by omega)
  have e2 : IntKind.i64.wrap (w / 2 ^ min 48 IntKind.u64.bits) = w / 281474976710656 := by
    rw [show w / 2 ^ min 48 IntKind.u64.bits = w / 281474976710656 from rfl]
    exact i64_same (by omega) (by omega)
  have e4 : IntKind.i64.wrap (bits .and .u64 (w / 2 ^ min 32 IntKind.u64.bits) 7) = w / 4294967296 % 8 := by
    rw [show w / 2 ^ min 32 IntKind.u64.bits = w / 4294967296 from rfl,show bits .and .u64 (w / 4294967296) 7 = w / 4294967296 % 8 from u64_mask 3 (by decide) (by omega) (by omega)]
    exact i64_same (by omega) (by omega)
  have e5 : IntKind.i64.wrap (w / 2 ^ min 35 IntKind.u64.bits) = w / 34359738368 := by
    rw [show w / 2 ^ min 35 IntKind.u64.bits = w / 34359738368 from rfl]
    exact i64_same (by omega) (by omega)
  have e6 : IntKind.i64.wrap (bits .and .u64 (w / 2 ^ min 3 IntKind.u64.bits) 536870911) = w / 8 % 536870912 := by
    rw [show w / 2 ^ min 3 IntKind.u64.bits = w / 8 from rfl,show bits .and .u64 (w / 8) 536870911 = w / 8 % 536870912 from u64_mask 29 (by decide) (by omega) (by omega)]
    exact i64_same (by omega) (by omega)
  have e7 : IntKind.i64.wrap (w / 2 ^ min 32 IntKind.u64.bits) = w / 4294967296 := by
    rw [show w / 2 ^ min 32 IntKind.u64.bits = w / 4294967296 from rfl]
    exact i64_same (by omega) (by omega)
  have e8 : (!decide (bits .and .u64 w 4 = 0)) = decide (w / 4 % 2 = 1) := by
    have := u64_and4 h0 h1
    by_cases h : w / 4 % 2 = 1
    · rw [decide_eq_true h,decide_eq_false (by rw [this]; omega)]; rfl
    · rw [decide_eq_false h,decide_eq_true (by rw [this]; omega)]; rfl
  have e9 : IntKind.i64.wrap (IntKind.i32.wrap (IntKind.u32.wrap w)) / 2 ^ min 2 IntKind.i64.bits = offs w := by
    rw [← i32_shr2,IntKind.wrap_i32,i64_same (by omega) (by omega)]
    rfl
  rw [e1,e2,e3,e4,e5,e6,e7,e8,e9]
  refine ⟨fun h => ?_,fun h => ⟨fun h2 => ?_,fun h2 => ⟨fun h3 => ?_,fun h3 => ⟨fun h4 => ?_,fun h4 => ?_⟩⟩⟩⟩
  · subst h; exact frz_bare rfl
  · rw [show dec w = _ from (if_neg h).trans (if_pos h2)]; exact frz_bare rfl
  · rw [show dec w = _ from (if_neg h).trans ((if_neg h2).trans (if_pos h3))]; exact frz_bare rfl
  · rw [show dec w = _ from (if_neg h).trans ((if_neg h2).trans ((if_neg h3).trans (if_pos h4)))]; exact frz_bare rfl
  · rw [show dec w = _ from (if_neg h).trans ((if_neg h2).trans ((if_neg h3).trans (if_neg h4)))]; exact frz_bare rfl
theorem u64_or4 {x : Int} (h0 : 0≤x) (h1 : x < 18446744073709551616) (h2 : x % 8 < 4) : bits .or .u64 x 4 = x + 4 := by
  obtain ⟨a,rfl⟩ := Int.eq_ofNat_of_zero_le h0
  have h3 : bits .or .u64 (a : Int) 4 = ((a ||| 4 : Nat) : Int) := bits_or_u64_nat a 4 (by omega) (by omega)
  rw [h3]
  have h4 : a = 2 ^ 3 * (a / 8) + a % 8 := by omega
  have h5 : a ||| 4 = a + 4 := by
    have e1 : 2 ^ 3 * (a / 8) + a % 8 = 2 ^ 3 * (a / 8) ||| a % 8 := Nat.two_pow_add_eq_or_of_lt (by omega) _
    have d : ∀ r,r < 4→(r ||| 4) = r + 4∧r ||| 4 < 8 := by decide
    obtain ⟨d1,d2⟩ := d (a % 8) (by omega)
    have e2 : 2 ^ 3 * (a / 8) + (a % 8 ||| 4) = 2 ^ 3 * (a / 8) ||| (a % 8 ||| 4) := Nat.two_pow_add_eq_or_of_lt (by omega) _
    have e3 : a ||| 4 = 2 ^ 3 * (a / 8) ||| (a % 8 ||| 4) := by rw [← Nat.or_assoc,← e1,← h4]
    rw [e3,← e2,d1]
    omega
  rw [h5]
  rfl
theorem low_spec {a b : Int} (ha : -536870912≤a) (ha1 : a < 536870912) (hb : 0≤b) (hb1 : b < 4) : G.Spec Tryz.prog 226 [iv a,iv b] (uv (a * 4 % 4294967296 + b)) := by
  refine spec_of t_ptr_low (by simp) fun w0 I0 => ?_
  unfold c_ptr_low
  simp [convA_int]
  have e1 : IntKind.u32.wrap (IntKind.u32.wrap a * 2 ^ min 2 IntKind.u32.bits) = a * 4 % 4294967296 := by
    rw [show IntKind.u32.wrap a * 2 ^ min 2 IntKind.u32.bits = IntKind.u32.wrap a * 4 from rfl,IntKind.wrap_u32,IntKind.wrap_u32]
    omega
  have e2 : IntKind.u32.wrap b = b := by rw [IntKind.wrap_u32]; omega
  have e3 : bits .or .u32 (a * 4 % 4294967296) b = a * 4 % 4294967296 + b :=
    bits_join .u32 32 (by decide) (fun n h0 h1 => by rw [IntKind.wrap_u32]; omega) 2 _ _ (by omega) (by omega) (by omega) hb (by omega) (by omega)
  rw [e1,e2,e3,u64_same (by omega) (by omega)]
  exact frz_bare rfl
def encW (p : Pt) : Int :=
  if p.kind = 1 then if -536870912≤p.off∧p.off < 536870912∧0≤p.data∧p.data≤65535∧0≤p.ptrs∧p.ptrs≤65535 then p.off * 4 % 4294967296 + p.data * 4294967296 + p.ptrs * 281474976710656 else 0
  else if p.kind = 2 then if -536870912≤p.off∧p.off < 536870912∧0≤p.code∧p.code≤7∧0≤p.count∧p.count≤536870911 then p.off * 4 % 4294967296 + 1 + p.code * 4294967296 + p.count * 34359738368 else 0
  else if p.kind = 3 then if 0≤p.off∧p.off≤536870911∧0≤p.seg∧p.seg≤4294967295 then p.off * 8 + 2 + p.seg * 4294967296 + (if p.dbl = true then 4 else 0) else 0
  else 0
def encB (p : Pt) : Bool := decide (dec (encW p) = p) && !decide (p.kind = 4)
theorem pt_eq (q p : Pt) : (q.kind == p.kind && (q.off == p.off && (q.data == p.data && (q.ptrs == p.ptrs && (q.code == p.code && (q.count == p.count && (q.seg == p.seg && q.dbl == p.dbl))))))) = decide (q = p) := by
  obtain ⟨a1,a2,a3,a4,a5,a6,a7,a8⟩ := q
  obtain ⟨b1,b2,b3,b4,b5,b6,b7,b8⟩ := p
  rw [Bool.eq_iff_iff]
  simp
theorem encW_range (p : Pt) : 0≤encW p∧encW p < 18446744073709551616 := by
  unfold encW
  repeat' split
  all_goals omega
theorem Encode_k1 {n : Nat} {w0 : World} {I0 : Nat→Prop} {p : Pt} {W : Int} (hW : W = encW p) : WPC (cx Tryz.prog w0 I0 n) k1_ptr_Encode (RetC Tryz.prog [.tmp 2,.tmp 3] (.tup [uv (encW p),bv (encB p)]))
    ⟨lk [(1,.pob [0] 1 0),(4,uv W),(93,.any),(94,.any),(95,.any)],lkH [([0],⟨1,.cells [iv p.kind,iv p.off,iv p.data,iv p.ptrs,iv p.code,iv p.count,iv p.seg,bv p.dbl]⟩)]⟩ := by
  subst hW
  unfold k1_ptr_Encode
  simp
  refine sc_call (Decode_spec (encW_range p).1 (encW_range p).2) rfl ?_
  simp
  rw [pt_eq]
  exact frz_bare rfl
theorem u64_of_i64 {n : Int} (h0 : 0≤n) (h1 : n < 18446744073709551616) (k : Nat) (h2 : n * 2 ^ k < 18446744073709551616) (hk : k≤63) : IntKind.u64.wrap (IntKind.u64.wrap n * 2 ^ min k IntKind.u64.bits) = n * 2 ^ k := by
  have : (0 : Int) < 2 ^ k := Int.pow_pos (by decide)
  rw [show min k IntKind.u64.bits = k from by simp [IntKind.bits]; omega,u64_same h0 h1,u64_same (Int.mul_nonneg h0 (by omega)) h2]
theorem Encode_spec (p : Pt) : G.Spec Tryz.prog 184 [p.a] (.tup [uv (encW p),bv (encB p)]) := by
  refine spec_of t_ptr_Encode (by simp) fun w0 I0 => ?_
  unfold c_ptr_Encode
  simp
  refine ⟨fun h => ?_,fun h => ⟨fun h2 => ?_,fun h2 => ⟨fun h3 => ?_,fun h3 => ?_⟩⟩⟩
  · refine sc_call (near_spec _) rfl ?_
    simp
    refine sc_call_gt rfl (fun _ => within_spec p.data 65535) (fun e => by simp [e]) rfl ?_
    simp
    refine sc_call_gt rfl (fun _ => within_spec p.ptrs 65535) (fun e => by simp [e]) rfl ?_
    simp
    refine ⟨fun a1 a2 a3 a4 a5 a6 => ?_,fun hn => ?_⟩
    · refine sc_call (low_spec a1 a2 (by decide) (by decide)) rfl ?_
      try simp
      refine Encode_k1 ?_
      rw [u64_of_i64 a3 (by omega) 32 (by omega) (by decide),u64_of_i64 a5 (by omega) 48 (by omega) (by decide)]
      rw [show bits .or .u64 (p.off * 4 % 4294967296) (p.data * 2 ^ 32) = p.off * 4 % 4294967296 + p.data * 2 ^ 32 from u64_or' 32 (by omega) (by omega) (by omega) (by omega) (by omega) (by omega)]
      rw [show bits .or .u64 (p.off * 4 % 4294967296 + p.data * 2 ^ 32) (p.ptrs * 2 ^ 48) = p.off * 4 % 4294967296 + p.data * 2 ^ 32 + p.ptrs * 2 ^ 48 from u64_or' 48 (by omega) (by omega) (by omega) (by omega) (by omega) (by omega)]
      rw [encW,if_pos h,if_pos ⟨a1,a2,a3,a4,a5,a6⟩]
      rfl
    · refine Encode_k1 ?_
      rw [encW,if_pos h,if_neg (by omega)]
  · refine sc_call (near_spec _) rfl ?_
    simp
    refine sc_call_gt rfl (fun _ => within_spec p.code 7) (fun e => by simp [e]) rfl ?_
    simp
    refine sc_call_gt rfl (fun _ => within_spec p.count 536870911) (fun e => by simp [e]) rfl ?_
    simp
    refine ⟨fun a1 a2 a3 a4 a5 a6 => ?_,fun hn => ?_⟩
    · refine sc_call (low_spec a1 a2 (by decide) (by decide)) rfl ?_
      try simp
      refine Encode_k1 ?_
      rw [u64_of_i64 a3 (by omega) 32 (by omega) (by decide),u64_of_i64 a5 (by omega) 35 (by omega) (by decide)]
      rw [show bits .or .u64 (p.off * 4 % 4294967296 + 1) (p.code * 2 ^ 32) = p.off * 4 % 4294967296 + 1 + p.code * 2 ^ 32 from u64_or' 32 (by omega) (by omega) (by omega) (by omega) (by omega) (by omega)]
      rw [show bits .or .u64 (p.off * 4 % 4294967296 + 1 + p.code * 2 ^ 32) (p.count * 2 ^ 35) = p.off * 4 % 4294967296 + 1 + p.code * 2 ^ 32 + p.count * 2 ^ 35 from u64_or' 35 (by omega) (by omega) (by omega) (by omega) (by omega) (by omega)]
      rw [encW,if_neg h,if_pos h2,if_pos ⟨a1,a2,a3,a4,a5,a6⟩]
      rfl
    · refine Encode_k1 ?_
      rw [encW,if_neg h,if_pos h2,if_neg (by omega)]
  · refine sc_call (within_spec _ 536870911) rfl ?_
    simp
    refine sc_call_gt rfl (fun _ => within_spec p.seg 4294967295) (fun e => by simp [e]) rfl ?_
    simp
    refine ⟨fun a1 a2 a3 a4 => ?_,fun hn => ?_⟩
    · try simp
      rw [u64_of_i64 a1 (by omega) 3 (by omega) (by decide),u64_of_i64 a3 (by omega) 32 (by omega) (by decide)]
      rw [show bits .or .u64 (p.off * 2 ^ 3) 2 = p.off * 2 ^ 3 + 2 from u64_or 3 (by omega) (by omega) (by omega) (by omega) (by omega) (by omega)]
      rw [show bits .or .u64 (p.off * 2 ^ 3 + 2) (p.seg * 2 ^ 32) = p.off * 2 ^ 3 + 2 + p.seg * 2 ^ 32 from u64_or' 32 (by omega) (by omega) (by omega) (by omega) (by omega) (by omega)]
      rw [u64_or4 (by omega) (by omega) (by omega)]
      have e : encW p = p.off * 8 + 2 + p.seg * 4294967296 + (if p.dbl = true then 4 else 0) := by
        rw [encW,if_neg h,if_neg h2,if_pos h3,if_pos ⟨a1,a2,a3,a4⟩]
      cases hd : p.dbl with
      | true =>
        rw [hd] at e
        simp
        have := Encode_k1 (n := 97) (w0 := w0) (I0 := I0) (p := p) (W := p.off * 2 ^ 3 + 2 + p.seg * 2 ^ 32 + 4) (by rw [e]; rfl)
        rw [hd] at this
        exact this
      | false =>
        rw [hd] at e
        simp
        have := Encode_k1 (n := 97) (w0 := w0) (I0 := I0) (p := p) (W := p.off * 2 ^ 3 + 2 + p.seg * 2 ^ 32) (by rw [e]; simp)
        rw [hd] at this
        exact this
    · refine Encode_k1 ?_
      rw [encW,if_neg h,if_neg h2,if_pos h3,if_neg (by omega)]
  · refine Encode_k1 ?_
    rw [encW,if_neg h,if_neg h2,if_neg h3]
abbrev ws (l : List Int) : A := .sl false (l.map uv)
abbrev sgs (l : List (List Int)) : A := .sl false (l.map ws)
@[simp] theorem lens_ws (l : List (List Int)) : lens 1 (l.map ws) = true := by simp [lens]
theorem clone_spec (f : Bool) (l : List Int) (h : l.length * 8≤140737488355328) : SpecB Tryz.prog 63 [.sl f (l.map uv)] (ws l) := by
  cases l with
  | nil =>
    refine specB_nil (fun cap => ?_) (fun a cap => ?_)
    · refine specB_of t_slices_Clone_uint64_uint64 (by simp) fun w0 I0 => ?_
      unfold c_slices_Clone_uint64_uint64
      simp
      exact frzN_nil
    · refine specB_of t_slices_Clone_uint64_uint64 (by simp) fun w0 I0 => ?_
      unfold c_slices_Clone_uint64_uint64
      simp
      exact frzN_osl (sz := 1) (xs := []) (by simp) (by simp) (by simp)
  | cons x l =>
    refine specB_of t_slices_Clone_uint64_uint64 (by simp) fun w0 I0 => ?_
    unfold c_slices_Clone_uint64_uint64
    simp at h ⊢
    refine ⟨h,?_⟩
    have := frzN_osl (H := lkH [([0],{ u := 1,ob := Ob.arr 1 (uv x :: l.map uv) })]) (o := [0]) (u := 1) (off := 0) (len := l.length + 1) (sz := 1) (xs := uv x :: l.map uv) (by simp) (by simp) (by simp [A.flat1,List.take_of_length_le])
    simp [List.take_of_length_le] at this
    exact this
abbrev arX (l : List (List Int)) (z m u : Int) : A := .pim [sgs l,iv z,iv m,iv u]
abbrev arn (l : List (List Int)) : A := arX l 0 0 0
def seg (l : List (List Int)) (s : Int) : Option (List Int) := if 0≤s then l[s.toNat]? else none
def szAt (l : List (List Int)) (s : Int) : Nat := ((seg l s).map List.length).getD 0
theorem seg_some {l : List (List Int)} {s : Int} {g : List Int} (h : seg l s = some g) : 0≤s∧s < l.length∧∃ h : s.toNat < l.length,g = l[s.toNat] := by
  unfold seg at h
  split at h
  · obtain ⟨h1,h2⟩ := List.getElem?_eq_some_iff.1 h
    exact ⟨by assumption,by omega,h1,h2.symm⟩
  · cases h
def hasW (l : List (List Int)) (s a n : Int) : Bool := decide (0≤s∧s < l.length∧0≤a∧0≤n∧a + n≤szAt l s)
def word (l : List (List Int)) (s a : Int) : Option Int := if 0≤a then (seg l s).bind fun g => g[a.toNat]? else none
def part (l : List (List Int)) (s a n : Int) : List Int := (((seg l s).getD []).drop a.toNat).take n.toNat
def bitsOf (c : Int) : Int := if c = 0 then 0 else if c = 1 then 1 else if c = 2 then 8 else if c = 3 then 16 else if c = 4 then 32 else 64
def wordsP (p : Pt) : Option Int :=
  if p.kind = 1 then some (p.data + p.ptrs)
  else if p.kind = 2∧p.code = 7 then some (p.count + 1)
  else if p.kind = 2∧0≤p.code∧p.code≤6∧0≤p.count∧p.count≤536870911 then some ((p.count * bitsOf p.code + 63) / 64)
  else none
structure Lc where
  p : Pt
  s : Int
  at_ : Int
deriving DecidableEq
def Pt.l (p : Pt) : List A := [iv p.kind,iv p.off,iv p.data,iv p.ptrs,iv p.code,iv p.count,iv p.seg,bv p.dbl]
@[simp] theorem Pt.l_eq (p : Pt) : p.l = [iv p.kind,iv p.off,iv p.data,iv p.ptrs,iv p.code,iv p.count,iv p.seg,bv p.dbl] := rfl
def Pt.zero : Pt := ⟨0,0,0,0,0,0,0,false⟩
def Lc.zero : Lc := ⟨Pt.zero,0,0⟩
abbrev Lc.a (x : Lc) : A := .agg [iv x.p.kind,iv x.p.off,iv x.p.data,iv x.p.ptrs,iv x.p.code,iv x.p.count,iv x.p.seg,bv x.p.dbl,iv x.s,iv x.at_]
def insideP (l : List (List Int)) (x : Lc) : Lc × Int := if hasW l x.s x.at_ ((wordsP x.p).getD 0) = true then (⟨{ x.p with off := 0 },x.s,x.at_⟩,0) else (Lc.zero,7)
def nearP (l : List (List Int)) (p : Pt) (s a : Int) : Lc × Int :=
  if p.kind = 1∨p.kind = 2 then insideP l ⟨p,s,a + 1 + p.off⟩ else if p.kind = 4 then (Lc.zero,9) else (Lc.zero,8)
def Wds (l : List (List Int)) : Prop := ∀ x,x ∈ l→∀ y,y ∈ x→0≤y∧y < 18446744073709551616
def doubleP (l : List (List Int)) (s a : Int) : Lc × Int :=
  match word l s a,word l s (a + 1) with
  | some v,some w =>
    if (dec v).kind ≠ 3∨(dec v).dbl = true then (Lc.zero,8)
    else if (dec w).kind = 4 then (Lc.zero,9)
    else if ((dec w).kind ≠ 1∧(dec w).kind ≠ 2)∨(dec w).off ≠ 0 then (Lc.zero,8)
    else insideP l ⟨dec w,(dec v).seg,(dec v).off⟩
  | _,_ => (Lc.zero,7)
def followP (l : List (List Int)) (s a : Int) : Lc × Int :=
  match word l s a with
  | none => (Lc.zero,7)
  | some w =>
    if (dec w).kind = 0 then (Lc.zero,0)
    else if (dec w).kind ≠ 3 then nearP l (dec w) s a
    else if (dec w).dbl = true then doubleP l (dec w).seg (dec w).off
    else match word l (dec w).seg (dec w).off with
      | none => (Lc.zero,7)
      | some v => nearP l (dec v) (dec w).seg (dec w).off
abbrev zs : List A := [iv 0,iv 0,iv 0,iv 0,iv 0,iv 0,iv 0,bv false,iv 0,iv 0]
end Go.Proofs.YtbjmaoedheiigaaGreat
namespace Go.Proofs.YtbjmaoedheiigaaGreat
set_option linter.unusedVariables false
set_option linter.unusedSimpArgs false
open Go Go.G Go.Proofs Go.PL
structure Rf where
  kind : Int
  s : Int
  at_ : Int
  data : Int
  kids : Int
  count : Int
  n : Int
def Rf.zero : Rf := ⟨0,0,0,0,0,0,0⟩
def nk (r : Rf) : Int := if r.kind = 1 then r.kids else r.count
def compP (l : List (List Int)) (s a m : Int) : Rf × Int :=
  if ((word l s a).getD 0 ≠ 0∧(dec ((word l s a).getD 0)).kind ≠ 1)∨(dec ((word l s a).getD 0)).off < 0∨m < (dec ((word l s a).getD 0)).off * ((dec ((word l s a).getD 0)).data + (dec ((word l s a).getD 0)).ptrs) then (Rf.zero,8)
  else (⟨9,s,a + 1,(dec ((word l s a).getD 0)).data,(dec ((word l s a).getD 0)).ptrs,(dec ((word l s a).getD 0)).off,0⟩,0)
def refP (l : List (List Int)) (x : Lc) : Rf × Int :=
  if x.p.kind = 1 then (⟨1,x.s,x.at_,x.p.data,x.p.ptrs,0,0⟩,0)
  else if x.p.code < 7 then (⟨2 + x.p.code,x.s,x.at_,0,0,x.p.count,0⟩,0)
  else compP l x.s x.at_ x.p.count
def atP (l : List (List Int)) (s a : Int) : Rf × Int :=
  if (followP l s a).2 ≠ 0∨(followP l s a).1.p.kind = 0 then (Rf.zero,(followP l s a).2) else refP l (followP l s a).1
def getZ (g : List Int) (c i : Int) : Int :=
  if widthZ c < 1∨i < 0∨1099511627776 < i then 0 else ((g[(i * widthZ c / 64).toNat]?).getD 0) / 2 ^ (i * widthZ c % 64).toNat % 2 ^ (widthZ c).toNat
def atomZ (l : List (List Int)) (r : Rf) (i : Int) : Int := getZ (((seg l r.s).getD []).drop r.at_.toNat) (r.kind - 2) i
def kidP (l : List (List Int)) (r : Rf) (i : Int) : Rf × Int :=
  if i < 0∨nk r≤i then (Rf.zero,0)
  else if r.kind = 1 then atP l r.s (r.at_ + r.data + i)
  else if r.kind = 8 then atP l r.s (r.at_ + i)
  else if r.kind = 9 then (⟨1,r.s,r.at_ + i * (r.data + r.kids),r.data,r.kids,0,0⟩,0)
  else (⟨10,0,0,0,0,0,atomZ l r i⟩,0)
def wordsR (l : List (List Int)) (r : Rf) : List Int := if r.kind = 10 then [r.n] else if r.kind ≠ 1 then [] else part l r.s r.at_ r.data
inductive RfOk (l : List (List Int)) : Rf→Prop
  | zero : RfOk l Rf.zero
  | str (s a d k : Int) : 0≤d→d < 65536→0≤k→k < 65536→hasW l s a (d + k) = true→RfOk l ⟨1,s,a,d,k,0,0⟩
  | dat (c s a n : Int) : 0≤c→c < 6→0≤n→n < 536870912→hasW l s a ((n * bitsOf c + 63) / 64) = true→RfOk l ⟨2 + c,s,a,0,0,n,0⟩
  | ptrs (s a n : Int) : 0≤n→n < 536870912→hasW l s a n = true→RfOk l ⟨8,s,a,0,0,n,0⟩
  | comp (s a d k n : Int) : 0≤d→d < 65536→0≤k→k < 65536→0≤n→n < 536870912→hasW l s a (n * (d + k)) = true→RfOk l ⟨9,s,a,d,k,n,0⟩
  | atom (n : Int) : 0≤n→n < 18446744073709551616→RfOk l ⟨10,0,0,0,0,0,n⟩
inductive Means (l : List (List Int)) : Rf→T→Prop
  | mk (r : Rf) (t : T) : RfOk l r→r.kind = t.kind→wordsR l r = t.words→nk r = t.kids.length→(∀ (i : Nat) (h : i < t.kids.length),(kidP l r i).2 = 0)→(∀ (i : Nat) (h : i < t.kids.length),Means l (kidP l r i).1 t.kids[i])→Means l r t
@[simp] theorem GtG_shift {q : Bool} {n : Nat} {y : A} {K : A→Prop} : GtG q (A.shift n (gd q y)) K = GtG q (A.shift n y) K := GtG_same fun h => by rw [h]; rfl
theorem soft_uv (l : List Int) : A.softL (l.map uv) = l.map uv := by
  rw [softL_map,List.map_map]; rfl
theorem soft_tA : ∀ t : T,(tA t).soft = tA t := by
  refine T.ind fun k w l ih => ?_
  rw [tA_eq]
  simp only [A.soft,A.softL,T.kind_mk,T.words_mk,T.kids_mk,soft_uv]
  have e : l.map (A.soft ∘ tA) = l.map tA := List.map_congr_left fun t ht => ih t ht
  rw [softL_map,List.map_map,e]
  rfl
theorem soft_tKs (l : List T) : A.softL (l.map tA) = l.map tA := by
  rw [softL_map,List.map_map]
  exact List.map_congr_left fun t _ => soft_tA t
structure Sg (l : List (List Int)) : Prop where
  b : ∀ x,x ∈ l→x.length * 8≤140737488355328
  w : Wds l
def arO (l : List (List Int)) (r : Rf) : A := if r.kind = 0 then .v (.pointer none) else arn l
@[simp] theorem arO_cells (l : List (List Int)) (r : Rf) : (arO l r).cells = [arO l r] := by unfold arO; split <;> rfl
@[simp] theorem arO_one (l : List (List Int)) (r : Rf) : (arO l r).one = true := by unfold arO; split <;> rfl
@[simp] theorem arO_bare (l : List (List Int)) (r : Rf) : (arO l r).bare = true := by unfold arO; split <;> rfl
@[simp] theorem arO_bare1 (l : List (List Int)) (r : Rf) : (arO l r).bare1 = true := by unfold arO; split <;> rfl
@[simp] theorem arO_bare2 (l : List (List Int)) (r : Rf) : (arO l r).bare2 = true := by unfold arO; split <;> rfl
abbrev paL (l : List (List Int)) (r : Rf) : List A := [arO l r,iv r.kind,iv r.s,iv r.at_,iv r.data,iv r.kids,iv r.count,uv r.n]
abbrev s1 : List (List Int) := [[4294967296,7]]
abbrev s2 : List (List Int) := [[8589934592,7,0]]
abbrev s3 : List (List Int) := [[4294967296,8]]
def mixG (h x : Int) : Int := IntKind.u64.wrap (bits .xor .u64 h x * 1099511628211)
def mixH (h x : Int) : Int := bits .xor .u64 (mixG h x) (mixG h x / 2 ^ min 29 IntKind.u64.bits)
mutual
def hashN : T→Int
  | .mk k w l => hashL (w.foldl mixH (mixH (mixH 14695981039346656037 (IntKind.u64.wrap k)) (IntKind.u64.wrap w.length))) l
def hashL : Int→List T→Int
  | h,[] => h
  | h,t :: l => hashL (mixH h (hashN t)) l
end
mutual
theorem shallow_range : ∀ (t : T) (d : Nat) (n : Int),-1≤shallow d n t∧(-1≤n→shallow d n t≤n)
  | .mk k w l,d,n => by
    rw [shallow_mk]
    split
    · omega
    · have := shallowL_range l (d - 1) (n - 1 - w.length) (by omega)
      omega
theorem shallowL_range : ∀ (l : List T) (d : Nat) (n : Int),-1≤n→-1≤shallowL d n l∧shallowL d n l≤n
  | [],d,n,h => by simp; omega
  | t :: l,d,n,h => by
    rw [shallowL_cons]
    split
    · omega
    · have h1 := shallow_range t d n
      have h2 := shallowL_range l d (shallow d n t) h1.1
      omega
end
theorem shallowL_neg (l : List T) (d : Nat) {n : Int} (h : n < 0) : shallowL d n l = n := by
  cases l with
  | nil => simp
  | cons t l => simp [h]
section
variable {n0 : Nat} {w0 : World} {I0 : Nat→Prop} {Q : Exit→Sta→Prop}
theorem shallow_l1 {t : T} {d : Nat} (hd : 1≤d) (hd1 : d≤1000) (hl : t.kids.length * 56≤140737488355328) (ih : ∀ c,c ∈ t.kids→∀ (d : Nat) (n : Int),d≤1000→0≤n→n≤1000000→G.Spec Tryz.prog 27 [tX c,iv d,iv n] (iv (shallow d n c)))
    {H : Hp} (hH : H [0] = ⟨1,.cells [iv t.kind,uws t.words,tKs t.kids]⟩) : ∀ (m i : Nat) (n : Int),i + m = t.kids.length→-1≤n→n≤1000000 →
    (∀ i' q,Q (.exit 0) ⟨lk [(1,iv d),(2,iv (shallowL (d - 1) n (t.kids.drop i))),(3,.pob [0] 1 0),(7,iv i'),(28,bv q)],H⟩) →
    LoopC (cx Tryz.prog w0 I0 n0) l1_centoref07_Shallow Q ⟨lk [(1,iv d),(2,iv n),(3,.pob [0] 1 0),(7,iv i)],H⟩ := by
  intro m
  induction m with
  | zero =>
    intro i n hi h1 h2 hq
    have : i = t.kids.length := by omega
    subst this
    refine loopC_once mixed l1_centoref07_Shallow.eq_1 ?_
    simp [hH]
    simpa using hq _ false
  | succ m ihm =>
    intro i n hi h1 h2 hq
    have hlt : i < t.kids.length := by omega
    refine loopC_once mixed l1_centoref07_Shallow.eq_1 ?_
    have e : t.kids.drop i = t.kids[i] :: t.kids.drop (i + 1) := List.drop_eq_getElem_cons hlt
    by_cases hn : n < 0
    · simp [hH,hlt,show ¬ (0 : Int)≤n by omega]
      have := hq i false
      rwa [shallowL_neg _ _ hn] at this
    · have hn' : 0≤n := by omega
      simp [hH,hlt,hn']
      have ed : IntKind.i64.wrap ((d : Int) - 1) = ((d - 1 : Nat) : Int) := by rw [i64_same (by omega) (by omega)]; omega
      rw [ed]
      refine sc_call (ih _ (List.getElem_mem hlt) (d - 1) n (by omega) hn' h2) rfl ?_
      simp
      have hr := shallow_range t.kids[i] (d - 1) n
      rw [i64_same (by omega) (by omega)]
      refine ihm (i + 1) _ (by omega) hr.1 (by omega) fun i' q => ?_
      have := hq i' q
      rw [e,shallowL_cons,if_neg (by omega)] at this
      exact this
end
theorem shallow_spec : ∀ (t : T),wfT t→∀ (d : Nat) (n : Int),d≤1000→0≤n→n≤1000000→G.Spec Tryz.prog 27 [tX t,iv d,iv n] (iv (shallow d n t)) := by
  refine T.ind fun k w l ih hw d n hd hn hn1 => ?_
  have hw' := wfT_iff.1 hw
  have hwl := hw'.wl
  have hkl := hw'.kl
  simp at hwl hkl
  have ihc : ∀ c,c ∈ (T.mk k w l).kids→∀ (d : Nat) (n : Int),d≤1000→0≤n→n≤1000000→G.Spec Tryz.prog 27 [tX c,iv d,iv n] (iv (shallow d n c)) := fun c hc => ih c hc (hw'.ks c hc)
  refine spec_of t_centoref07_Shallow (by simp) fun w0 I0 => ?_
  unfold c_centoref07_Shallow
  have e1 : IntKind.i64.wrap (IntKind.i64.wrap (n - 1) - (w.length : Int)) = n - 1 - w.length := by rw [i64_same (n := n - 1) (by omega) (by omega),i64_same (by omega) (by omega)]
  rw [shallow_mk]
  by_cases hc : d = 0∨n - 1 - (w.length : Int) < 0
  · have hd : (decide (d = 0) || decide (n - 1 - (w.length : Int) < 0)) = true := by simp; omega
    simp [e1,hd,hc]
    exact frz_bare rfl
  · have hd : (decide (d = 0) || decide (n - 1 - (w.length : Int) < 0)) = false := by simp; omega
    simp [e1,hd,hc]
    refine shallow_l1 (t := .mk k w l) (by omega) (by omega) hkl ihc (by simp) l.length 0 _ (by simp) (by omega) (by omega) fun i' q => ?_
    simp
    exact frz_bare rfl
abbrev tL (t : T) : List A := [iv t.kind,uws t.words,tKs t.kids]
section
variable {n0 : Nat} {w0 : World} {I0 : Nat→Prop} {Q : Exit→Sta→Prop}
theorem frame_l1 {t : T} (hl : t.kids.length * 56≤140737488355328) {H : Hp} (hH : H [0] = ⟨1,.cells (tL t)⟩) : ∀ (m i a b : Nat),i + m = t.kids.length →
    (∀ i' q (x y : Nat),x = max a (frameW (t.kids.drop i))→y = max b (frameK (t.kids.drop i))→Q (.exit 0) ⟨lk [(1,.pob [0] 1 0),(4,iv x),(5,iv y),(6,iv i'),(11,bv q)],H⟩) →
    LoopC (cx Tryz.prog w0 I0 n0) l1_centoref07_Frame Q ⟨lk [(1,.pob [0] 1 0),(4,iv a),(5,iv b),(6,iv i)],H⟩ := by
  intro m
  induction m with
  | zero =>
    intro i a b hi hq
    have : i = t.kids.length := by omega
    subst this
    refine loopC_once mixed l1_centoref07_Frame.eq_1 ?_
    simp [hH]
    exact hq _ false _ _ (by simp [frameW]) (by simp [frameK])
  | succ m ih =>
    intro i a b hi hq
    have hlt : i < t.kids.length := by omega
    have e : t.kids.drop i = t.kids[i] :: t.kids.drop (i + 1) := List.drop_eq_getElem_cons hlt
    have ei : IntKind.i64.wrap ((i : Int) + 1) = ((i + 1 : Nat) : Int) := i64_same (by omega) (by omega)
    refine loopC_once mixed l1_centoref07_Frame.eq_1 ?_
    simp [hH,hlt]
    refine ⟨fun h1 => ?_,fun h1 => ?_⟩
    all_goals
      rw [k1_centoref07_Frame.eq_1]
      simp [hH,hlt,ei]
      refine ⟨fun h2 => ?_,fun h2 => ?_⟩
    · exact ih (i + 1) _ _ (by omega) fun i' q x y hx hy => hq i' q x y (by rw [hx,e,frameW]; omega) (by rw [hy,e,frameK]; omega)
    · exact ih (i + 1) _ _ (by omega) fun i' q x y hx hy => hq i' q x y (by rw [hx,e,frameW]; omega) (by rw [hy,e,frameK]; omega)
    · exact ih (i + 1) _ _ (by omega) fun i' q x y hx hy => hq i' q x y (by rw [hx,e,frameW]; omega) (by rw [hy,e,frameK]; omega)
    · exact ih (i + 1) _ _ (by omega) fun i' q x y hx hy => hq i' q x y (by rw [hx,e,frameW]; omega) (by rw [hy,e,frameK]; omega)
end
theorem rFrame_spec (t : T) (hl : t.kids.length * 56≤140737488355328) : G.Spec Tryz.prog 66 [tX t] (.tup [iv (frameW t.kids),iv (frameK t.kids)]) := by
  refine spec_of t_centoref07_Frame (by simp) fun w0 I0 => ?_
  unfold c_centoref07_Frame
  simp
  refine frame_l1 (t := t) hl (by simp) t.kids.length 0 0 0 (by omega) fun i' q x y hx hy => ?_
  simp
  refine frz_is rfl ?_
  simp [hx,hy]
section
variable {n0 : Nat} {w0 : World} {I0 : Nat→Prop} {Q : Exit→Sta→Prop}
end
section
variable {n0 : Nat} {w0 : World} {I0 : Nat→Prop} {Q : Exit→Sta→Prop}
theorem norm_l1 {t : T} (hl : t.kids.length * 56≤140737488355328) (ih : ∀ c,c ∈ t.kids→G.Spec Tryz.prog 32 [tX c] (tX (norm c))) {v : VOb} : ∀ (m i : Nat) (u : Nat) (H : Hp),i + m = t.kids.length→H [0] = ⟨1,.cells (tL t)⟩→H [1] = v→H [3] = ⟨u,.arr 3 (((t.kids.take i).map norm).map tA)⟩ →
    (∀ i' q (u' : Nat) (H' : Hp),H' [0] = ⟨1,.cells (tL t)⟩→H' [1] = v→H' [3] = ⟨u',.arr 3 ((t.kids.map norm).map tA)⟩→Q (.exit 0) ⟨lk [(1,.pob [0] 1 0),(2,.pob [1] 1 0),(3,.osl [3] u' 3 0 t.kids.length),(4,iv (trimK t.kids).length),(5,iv i'),(16,bv q)],H'⟩) →
    LoopC (cx Tryz.prog w0 I0 n0) l1_centoref07_Norm Q ⟨lk [(1,.pob [0] 1 0),(2,.pob [1] 1 0),(3,.osl [3] u 3 0 i),(4,iv (trimK (t.kids.take i)).length),(5,iv i)],H⟩ := by
  intro m
  induction m with
  | zero =>
    intro i u H hi hA hR hB hq
    have : i = t.kids.length := by omega
    subst this
    refine loopC_once mixed l1_centoref07_Norm.eq_1 ?_
    simp [hA]
    have := hq t.kids.length false u H hA hR (by rw [hB]; simp)
    simpa using this
  | succ m ihm =>
    intro i u H hi hA hR hB hq
    have hlt : i < t.kids.length := by omega
    refine loopC_once mixed l1_centoref07_Norm.eq_1 ?_
    simp [hA,hlt]
    refine sc_call (ih _ (List.getElem_mem hlt)) rfl ?_
    simp [updF_app,hB]
    have ei : IntKind.i64.wrap ((i : Int) + 1) = ((i + 1 : Nat) : Int) := i64_same (by omega) (by omega)
    have hrow := row_succ (f := tA ∘ norm) hlt (x := A.agg [iv t.kids[i].kind,uws (norm t.kids[i]).words,tKs (norm t.kids[i]).kids]) (by simp)
    rw [hrow]
    refine ⟨⟨by omega,by omega⟩,fun h => ?_,fun h => ?_⟩
    · rw [ei,← trimK_zero hlt h]
      exact ihm (i + 1) (u + 1) _ (by omega) (by simp [updF_app,hA]) (by simp [updF_app,hR]) (by simp [updF_app]) hq
    · have ek : (trimK (t.kids.take (i + 1))).length = i + 1 := by rw [trimK_stop hlt h]; simp; omega
      rw [ei]
      have := fun H h1 h2 h3 => ihm (i + 1) (u + 1) H (by omega) h1 h2 h3 hq
      rw [ek] at this
      exact this _ (by simp [updF_app,hA]) (by simp [updF_app,hR]) (by simp [updF_app])
end
theorem rNorm_spec : ∀ (t : T),wfT t→G.Spec Tryz.prog 32 [tX t] (tX (norm t)) := by
  refine T.ind fun k w l ih hw => ?_
  have hw' := wfT_iff.1 hw
  have hwl := hw'.wl
  have hkl := hw'.kl
  simp at hwl hkl
  refine spec_of t_centoref07_Norm (by simp) fun w0 I0 => ?_
  unfold c_centoref07_Norm
  rw [norm_mk]
  by_cases h0 : k = 0
  · simp [h0]
    exact frz_T0
  · simp [h0]
    refine LoopC.le (le_blank 3 [3] 3 (by simp)) ?_
    simp
    refine LoopC.le (le_list [(1,.pob [0] 1 0),(2,.pob [1] 1 0),(3,.osl [3] 1 3 0 0),(4,iv 0),(5,iv 0)] (by simp [upd])) ?_
    refine norm_l1 (t := .mk k w l) (by simpa using hkl) (fun c hc => ih c hc (hw'.ks c hc)) l.length 0 1 _ (by simp) (by simp) rfl (by simp) fun i' q u' H' hA hR hB => ?_
    have hle := trimK_le l
    by_cases h1 : k = 1
    · subst h1
      simp at hA hR hB
      simp [hA,hR,hB,hle,updF_app]
      refine sc_call (rTrim_spec w hwl) rfl ?_
      simp [hA,hR,hB,hle,updF_app]
      refine frz_agg ?_
      simp
      rw [trimK_map]
      refine ⟨frz_bare rfl,frz_bare rfl,?_⟩
      have := frz_rowT (H := updF H' [1] ⟨1,.cells [A.v (Value.int IntKind.i64 1),A.sl false (List.map uv (trimW w)),A.osl [3] u' 3 0 (trimK l).length]⟩) (o := [3]) (u := u') (sz := 3) (l := l) (f := tA ∘ norm) (by simp [updF_app,hB]) hle (by simp)
      rw [← List.map_take]
      show Frz _ _ (A.sl false (((l.take (trimK l).length).map norm).map tA))
      rw [List.map_map]
      exact this
    · simp at hA hR hB
      simp [hA,hR,hB,h1,updF_app]
      refine ⟨hwl,frz_agg ?_⟩
      simp
      refine ⟨frz_bare rfl,frz_row (by simp [updF_app]) rfl (by simp),?_⟩
      have := frz_row (H := updF (updF H' [4] { u := (H' [4]).u + 1,ob := Ob.arr 1 (List.map uv w) }) [1] ⟨1,.cells [A.v (Value.int IntKind.i64 k),A.osl [4] ((H' [4]).u + 1) 1 0 w.length,A.osl [3] u' 3 0 l.length]⟩) (o := [3]) (u := u') (sz := 3) (l := l) (f := tA ∘ norm) (by simp [updF_app,hB]) rfl (by simp)
      show Frz _ _ (A.sl false ((l.map norm).map tA))
      rw [List.map_map]
      exact this
theorem wf_norm : ∀ (t : T),wfT t→wfT (norm t) := by
  refine T.ind fun k w l ih hw => ?_
  have hw' := wfT_iff.1 hw
  rw [norm_mk]
  have h2 : ∀ (l : List T),(∀ t,t ∈ l→∃ u,u ∈ l∧t = u)→True := fun _ _ => trivial
  have hm : ∀ t,t ∈ l.map norm→wfT t := fun t ht => by
    obtain ⟨u,hu,rfl⟩ := List.mem_map.1 ht
    exact ih u hu (hw'.ks u hu)
  split
  · exact wfT_iff.2 ⟨by simp [i64R],by simp,by simp,by simp,by simp⟩
  · split
    · refine wfT_iff.2 ⟨by simp [i64R],fun x hx => ?_,?_,?_,fun t ht => ?_⟩
      · simp only [T.words_mk] at hx
        rw [trimW_take] at hx
        exact hw'.w x (List.mem_of_mem_take hx)
      · have := trimW_le w
        have := hw'.wl
        simp at this ⊢
        omega
      · have := trimK_le (l.map norm)
        have := hw'.kl
        simp at this ⊢
        simp at *
        omega
      · simp only [T.kids_mk] at ht
        rw [trimK_take] at ht
        exact hm t (List.mem_of_mem_take ht)
    · exact wfT_iff.2 ⟨hw'.k,hw'.w,hw'.wl,by simpa using hw'.kl,by simpa using hm⟩
section
variable {n0 : Nat} {w0 : World} {I0 : Nat→Prop} {Q : Exit→Sta→Prop}
theorem size_l3 {t : T} (hl : t.kids.length * 56≤140737488355328) (ih : ∀ c,c ∈ t.kids→G.Spec Tryz.prog 33 [tX c] (iv (i64w (sizeT c)))) {H : Hp} (hA : H [0] = ⟨1,.cells (tL t)⟩) : ∀ (m i : Nat) (x : Int),i + m = t.kids.length →
    (∀ i' q,Q (.exit 5) ⟨lk [(1,.pob [0] 1 0),(3,iv (i64w (x + sizeL (t.kids.drop i)))),(8,iv i'),(89,bv q)],H⟩) →
    LoopC (cx Tryz.prog w0 I0 n0) l3_centoref07_Size Q ⟨lk [(1,.pob [0] 1 0),(3,iv (i64w x)),(8,iv i)],H⟩ := by
  intro m
  induction m with
  | zero =>
    intro i x hi hq
    have : i = t.kids.length := by omega
    subst this
    refine loopC_once mixed l3_centoref07_Size.eq_1 ?_
    simp [hA]
    simpa using hq t.kids.length false
  | succ m ihm =>
    intro i x hi hq
    have hlt : i < t.kids.length := by omega
    have e : t.kids.drop i = t.kids[i] :: t.kids.drop (i + 1) := List.drop_eq_getElem_cons hlt
    have ei : IntKind.i64.wrap ((i : Int) + 1) = ((i + 1 : Nat) : Int) := i64_same (by omega) (by omega)
    refine loopC_once mixed l3_centoref07_Size.eq_1 ?_
    simp [hA,hlt]
    refine sc_call (ih _ (List.getElem_mem hlt)) rfl ?_
    simp [ei,i64_add_l,i64_add_r]
    exact ihm (i + 1) (x + sizeT t.kids[i]) (by omega) fun i' q => by
      have := hq i' q
      rw [e,sizeL_cons,← Int.add_assoc] at this
      exact this
theorem size_l1 {t : T} (hl : t.kids.length * 56≤140737488355328) {i : Nat} (hi : i < t.kids.length) (hl2 : t.kids[i].kids.length * 56≤140737488355328) (ih : ∀ c,c ∈ t.kids[i].kids→G.Spec Tryz.prog 33 [tX c] (iv (i64w (sizeT c)))) {H : Hp} (hA : H [0] = ⟨1,.cells (tL t)⟩) : ∀ (m j : Nat) (x : Int),j + m = t.kids[i].kids.length →
    (∀ i' q,Q (.exit 3) ⟨lk [(1,.pob [0] 1 0),(3,iv (i64w (x + sizeL (t.kids[i].kids.drop j)))),(6,iv i),(7,iv i'),(69,bv q)],H⟩) →
    LoopC (cx Tryz.prog w0 I0 n0) l1_centoref07_Size Q ⟨lk [(1,.pob [0] 1 0),(3,iv (i64w x)),(6,iv i),(7,iv j)],H⟩ := by
  intro m
  induction m with
  | zero =>
    intro j x hj hq
    have : j = t.kids[i].kids.length := by omega
    subst this
    refine loopC_once mixed l1_centoref07_Size.eq_1 ?_
    simp [hA,hi]
    simpa using hq t.kids[i].kids.length false
  | succ m ihm =>
    intro j x hj hq
    have hlt : j < t.kids[i].kids.length := by omega
    have e : t.kids[i].kids.drop j = t.kids[i].kids[j] :: t.kids[i].kids.drop (j + 1) := List.drop_eq_getElem_cons hlt
    have ej : IntKind.i64.wrap ((j : Int) + 1) = ((j + 1 : Nat) : Int) := i64_same (by omega) (by omega)
    refine loopC_once mixed l1_centoref07_Size.eq_1 ?_
    simp [hA,hi,hlt]
    refine sc_call (ih _ (List.getElem_mem hlt)) rfl ?_
    simp [ej,i64_add_l,i64_add_r]
    exact ihm (j + 1) (x + sizeT t.kids[i].kids[j]) (by omega) fun i' q => by
      have := hq i' q
      rw [e,sizeL_cons,← Int.add_assoc] at this
      exact this
theorem size_l2 {t : T} (hl : t.kids.length * 56≤140737488355328) (hl2 : ∀ c,c ∈ t.kids→c.kids.length * 56≤140737488355328) (ih : ∀ c,c ∈ t.kids→∀ d,d ∈ c.kids→G.Spec Tryz.prog 33 [tX d] (iv (i64w (sizeT d)))) {H : Hp} (hA : H [0] = ⟨1,.cells (tL t)⟩) : ∀ (m i : Nat) (x : Int),i + m = t.kids.length →
    (∀ i' q,Q (.exit 1) ⟨lk [(1,.pob [0] 1 0),(3,iv (i64w (x + sizeLL (t.kids.drop i)))),(6,iv i'),(58,bv q)],H⟩) →
    LoopC (cx Tryz.prog w0 I0 n0) l2_centoref07_Size Q ⟨lk [(1,.pob [0] 1 0),(3,iv (i64w x)),(6,iv i)],H⟩ := by
  intro m
  induction m with
  | zero =>
    intro i x hi hq
    have : i = t.kids.length := by omega
    subst this
    refine loopC_once mixed l2_centoref07_Size.eq_1 ?_
    simp [hA]
    simpa using hq t.kids.length false
  | succ m ihm =>
    intro i x hi hq
    have hlt : i < t.kids.length := by omega
    have e : t.kids.drop i = t.kids[i] :: t.kids.drop (i + 1) := List.drop_eq_getElem_cons hlt
    have ei : IntKind.i64.wrap ((i : Int) + 1) = ((i + 1 : Nat) : Int) := i64_same (by omega) (by omega)
    refine loopC_once mixed l2_centoref07_Size.eq_1 ?_
    simp [hA,hlt]
    refine size_l1 hl hlt (hl2 _ (List.getElem_mem hlt)) (ih _ (List.getElem_mem hlt)) hA t.kids[i].kids.length 0 x (by omega) fun i' q => ?_
    simp [ei]
    exact ihm (i + 1) (x + sizeL t.kids[i].kids) (by omega) fun i' q => by
      have := hq i' q
      rw [e,sizeLL_cons,← Int.add_assoc] at this
      exact this
end
set_option maxRecDepth 8000 in
theorem size_all : ∀ (t : T),wfT t→G.Spec Tryz.prog 33 [tX t] (iv (i64w (sizeT t)))∧∀ c,c ∈ t.kids→G.Spec Tryz.prog 33 [tX c] (iv (i64w (sizeT c))) := by
  refine T.ind fun k w l ih hw => ?_
  have hw' := wfT_iff.1 hw
  have hwl := hw'.wl
  have hkl := hw'.kl
  simp at hwl hkl
  have ih1 : ∀ c,c ∈ (T.mk k w l).kids→G.Spec Tryz.prog 33 [tX c] (iv (i64w (sizeT c))) := fun c hc => (ih c hc (hw'.ks c hc)).1
  refine ⟨?_,ih1⟩
  refine spec_of t_centoref07_Size (by simp) fun w0 I0 => ?_
  unfold c_centoref07_Size
  rw [sizeT_mk]
  have fin : ∀ (x y : Int) (H : Hp) (r : Int),y = i64w x→H [0] = ⟨1,.cells (tL (.mk k w l))⟩→r = x + sizeL l→WPC (cx Tryz.prog w0 I0 101) k2_centoref07_Size (RetC Tryz.prog [.tmp 2] (iv (i64w r))) ⟨lk [(1,.pob [0] 1 0),(3,iv y)],H⟩ := fun x y H r hy hH hr => by
    subst hy
    rw [k2_centoref07_Size.eq_1]
    simp
    refine size_l3 (t := .mk k w l) (by simpa using hkl) ih1 hH l.length 0 x (by simp) fun i' q => ?_
    simp [hr]
    exact frz_bare rfl
  have room : 2≤k∧k≤7→i64w (roomZ (k - 2) l.length) = roomZ (k - 2) l.length := fun hk => by
    have : 0≤roomZ (k - 2) l.length∧roomZ (k - 2) l.length≤1099511627776 := by
      unfold roomZ bitsZ
      repeat' split
      all_goals omega
    exact i64_same (by omega) (by omega)
  by_cases h1 : k = 1
  · simp [h1]
    exact fin _ _ _ _ rfl (by simp [h1]) rfl
  by_cases h8 : k = 8
  · simp [h8]
    exact fin _ _ _ _ (i64_same (by omega) (by omega)).symm (by simp [h8]) rfl
  by_cases h27 : 2≤k∧k≤7
  · have hr := room h27
    have h6 : k = 2∨k = 3∨k = 4∨k = 5∨k = 6∨k = 7 := by omega
    rw [if_neg h1,if_neg h8,if_pos h27,hr]
    clear fin hr room ih ih1 hw hw' h27
    rcases h6 with rfl | rfl | rfl | rfl | rfl | rfl
    all_goals
      simp
      rw [k1_centoref07_Size.eq_1]
      simp
      refine sc_call (rRoom_spec _ _) rfl ?_
      simp
      exact frz_bare rfl
  rw [if_neg h1,if_neg h8,if_neg h27]
  by_cases h9 : k = 9
  · subst h9
    simp
    rw [k1_centoref07_Size.eq_1]
    simp
    refine sc_call (rFrame_spec (.mk 9 w l) (by simpa using hkl)) rfl ?_
    simp [i64_add_r,i64_mul_r]
    refine size_l2 (t := .mk 9 w l) (by simpa using hkl) (fun c hc => (wfT_iff.1 (hw'.ks c hc)).kl) (fun c hc => (ih c hc (hw'.ks c hc)).2) (by simp) l.length 0 _ (by simp) fun i' q => ?_
    simp
    exact frz_bare rfl
  · have h2 : ¬ k = 2 := by omega
    have h3 : ¬ k = 3 := by omega
    have h4 : ¬ k = 4 := by omega
    have h5 : ¬ k = 5 := by omega
    have h6 : ¬ k = 6 := by omega
    have h7 : ¬ k = 7 := by omega
    simp [h1,h2,h3,h4,h5,h6,h7,h8,h9]
    rw [k1_centoref07_Size.eq_1]
    simp [h9]
    exact fin 0 _ _ _ (by decide) (by simp) (by simp)
theorem rSize_spec (t : T) (h : wfT t) : G.Spec Tryz.prog 33 [tX t] (iv (i64w (sizeT t))) := (size_all t h).1
theorem fits_word {c : T} (h : wfT c) (hl : c.words.length = 1) : ∃ x,c.words = [x]∧u64R x := by
  have := (wfT_iff.1 h).w
  match hc : c.words,hl with
  | [x],_ => exact ⟨x,rfl,this x (by simp [hc])⟩
theorem right_kind10 {d : Nat} {c : T} (h : rightT d c = true) (h10 : c.kind = 10) : c.words.length = 1 := by
  obtain ⟨k,w,l⟩ := c
  simp at h10
  subst h10
  rw [rightT_mk] at h
  simp at h
  exact h.1
section
variable {n0 : Nat} {w0 : World} {I0 : Nat→Prop} {Q : Exit→Sta→Prop}
theorem right_l1 {t : T} (hl : t.kids.length * 56≤140737488355328) (hk0 : 0≤t.kind) (hk1 : t.kind≤10) {d : Nat} (hd : 1≤d) (hd1 : d≤1000) (hw : ∀ c,c ∈ t.kids→wfT c) (ih : ∀ c,c ∈ t.kids→∀ d : Nat,d≤1000→G.Spec Tryz.prog 28 [tX c,iv d] (bv (rightT d c))) : ∀ (m i : Nat) (H : Hp),i + m = t.kids.length→H [0] = ⟨1,.cells (tL t)⟩ →
    (rightL (d - 1) t.kind (t.kids.drop i) = true→∀ i' q H',Q (.exit 0) ⟨lk [(1,iv d),(2,.pob [0] 1 0),(5,iv i'),(82,bv q)],H'⟩)→(rightL (d - 1) t.kind (t.kids.drop i) = false→∀ H',Q .ret ⟨lk [(4,bv false)],H'⟩) →
    LoopC (cx Tryz.prog w0 I0 n0) l1_centoref07_Right Q ⟨lk [(1,iv d),(2,.pob [0] 1 0),(5,iv i)],H⟩ := by
  intro m
  induction m with
  | zero =>
    intro i H hi hA h1 h2
    have : i = t.kids.length := by omega
    subst this
    refine loopC_once mixed l1_centoref07_Right.eq_1 ?_
    simp [hA]
    exact h1 (by simp) _ _ _
  | succ m ihm =>
    intro i H hi hA h1 h2
    have hlt : i < t.kids.length := by omega
    have e : t.kids.drop i = t.kids[i] :: t.kids.drop (i + 1) := List.drop_eq_getElem_cons hlt
    have ei : IntKind.i64.wrap ((i : Int) + 1) = ((i + 1 : Nat) : Int) := i64_same (by omega) (by omega)
    have ed : IntKind.i64.wrap ((d : Int) - 1) = ((d - 1 : Nat) : Int) := by rw [i64_same (by omega) (by omega)]; omega
    rw [e,rightL_cons] at h1 h2
    have hwc := hw _ (List.getElem_mem hlt)
    have ihc := ih _ (List.getElem_mem hlt) (d - 1) (by omega)
    generalize hc : t.kids[i] = c at *
    refine loopC_once mixed l1_centoref07_Right.eq_1 ?_
    simp [hA,hlt,hc,updF_app,ed]
    refine sc_call ihc rfl ?_
    cases hr : rightT (d - 1) c with
    | false =>
      simp
      exact h2 (by simp [hr]) _
    | true =>
      rw [hr] at h1 h2
      have good : kidOk t.kind c = true→∀ H',H' [0] = ⟨1,.cells (tL t)⟩→LoopC (cx Tryz.prog w0 I0 n0) l1_centoref07_Right Q ⟨lk [(1,iv d),(2,.pob [0] 1 0),(5,iv ((i : Int) + 1))],H'⟩ := fun hg H' hA' =>
        ihm (i + 1) H' (by omega) hA' (fun hh => h1 (by simp [hg,hh])) (fun hh => h2 (by simp [hh]))
      have bad : kidOk t.kind c = false→∀ H',Q .ret ⟨lk [(4,bv false)],H'⟩ := fun hg => h2 (by simp [hg])
      rw [show ((i + 1 : Nat) : Int) = (i : Int) + 1 from rfl] at ei
      by_cases hD : 2≤t.kind∧t.kind≤7
      · obtain ⟨d2,d7⟩ := hD
        have d9 : ¬ t.kind = 9 := by omega
        by_cases h10 : c.kind = 10
        · obtain ⟨x,hx,hx64⟩ := fits_word hwc (right_kind10 hr h10)
          have hk : kidOk t.kind c = fitsZ (t.kind - 2) x := by simp [kidOk,isData,d2,d7,d9,h10,hx]
          have e2 : IntKind.i64.wrap (t.kind - 2) = t.kind - 2 := i64_same (by omega) (by omega)
          simp [updF_app,hA,d2,d7,d9,h10,hx,e2]
          refine sc_call_gt rfl (fun _ => rFits_spec hx64) (fun _ => rfl) rfl ?_
          cases hf : fitsZ (t.kind - 2) x with
          | false => simp; exact bad (by rw [hk,hf]) _
          | true => simp [ei]; exact good (by rw [hk,hf]) _ (by simp [updF_app,hA])
        · have hk : kidOk t.kind c = false := by simp [kidOk,isData,d2,d7,d9,h10]
          simp [updF_app,hA,d2,d7,d9,h10]
          refine sc_call_off rfl ?_
          simp
          exact bad hk _
      · have hD' : (decide (2≤t.kind) && decide (t.kind≤7)) = false := by simp; omega
        by_cases h10 : c.kind = 10
        · have hk : kidOk t.kind c = false := by simp [kidOk,isData,hD',h10]
          simp [updF_app,hA,hD',h10]
          refine sc_call_off rfl ?_
          simp
          exact bad hk _
        · by_cases h9 : t.kind = 9
          · by_cases h1' : c.kind = 1
            · have hk : kidOk t.kind c = true := by simp [kidOk,isData,hD',h9,h1']
              rw [h9] at hD'
              simp [updF_app,hA,hD',h10,h9,h1']
              refine sc_call_off rfl ?_
              simp [ei]
              exact good hk _ (by simp [updF_app,hA])
            · have hk : kidOk t.kind c = false := by simp [kidOk,isData,hD',h9,h1',h10]
              rw [h9] at hD'
              simp [updF_app,hA,hD',h10,h9,h1']
              refine sc_call_off rfl ?_
              simp
              exact bad hk _
          · have hk : kidOk t.kind c = true := by simp [kidOk,isData,hD',h9,h10]
            simp [updF_app,hA,hD',h10,h9]
            refine sc_call_off rfl ?_
            simp [ei]
            exact good hk _ (by simp [updF_app,hA])
end
theorem rRight_spec : ∀ (t : T),wfT t→∀ d : Nat,d≤1000→G.Spec Tryz.prog 28 [tX t,iv d] (bv (rightT d t)) := by
  refine T.ind fun k w l ih hw d hd => ?_
  have hw' := wfT_iff.1 hw
  have hwl := hw'.wl
  have hkl := hw'.kl
  simp at hwl hkl
  refine spec_of t_centoref07_Right (by simp) fun w0 I0 => ?_
  unfold c_centoref07_Right
  rw [rightT_mk]
  by_cases h0 : k = 0
  · simp [h0]
    exact frz_bool (by cases w <;> cases l <;> simp <;> (rw [← List.length_eq_zero_iff]; omega))
  by_cases h10 : k = 10
  · simp [h10]
    exact frz_bool (by cases w <;> cases l <;> simp <;> (rw [← List.length_eq_zero_iff]; omega))
  rw [if_neg h0,if_neg h10]
  have bad : tooBig k d w.length l.length = true→∀ H,Frz H (bv false) (bv (if tooBig k d w.length l.length = true then false else rightL (d - 1) k l)) := fun hb H => frz_bool (by simp [hb])
  by_cases ha : k < 0∨10 < k∨d = 0∨65536≤w.length
  · have ha' : (decide (k < 0) || decide (10 < k) || decide (d = 0) || decide (65536≤(w.length : Int))) = true := by simp; omega
    simp [h0,h10,ha']
    have := bad (by simp [tooBig]; omega) (lkH [([0],{ u := 1,ob := Ob.cells [iv k,uws w,tKs l] })])
    simpa using this
  have ha' : (decide (k < 0) || decide (10 < k) || decide (d = 0) || decide (65536≤(w.length : Int))) = false := by simp; omega
  by_cases h1 : k = 1∧65536≤l.length
  · have hl : (65536 : Int)≤l.length := by omega
    simp [h0,h10,ha',h1.1,hl]
    have := bad (by simp [tooBig]; omega) (lkH [([0],{ u := 1,ob := Ob.cells [iv k,uws w,tKs l] })])
    simpa [h1.1] using this
  by_cases h2 : 1048576≤l.length
  · have hl : (1048576 : Int)≤l.length := by omega
    have hk1 : ¬ k = 1 := by omega
    simp [h0,h10,ha',hk1,hl]
    have := bad (by simp [tooBig]; omega) (lkH [([0],{ u := 1,ob := Ob.cells [iv k,uws w,tKs l] })])
    simpa using this
  have hl2 : ¬ (1048576 : Int)≤l.length := by omega
  by_cases h3 : 1 < k∧0 < w.length
  · have hk1 : ¬ k = 1 := by omega
    have hw0 : w ≠ [] := fun e => by simp [e] at h3
    simp [h0,h10,ha',hk1,hl2,h3.1,h3.2,hw0]
    have := bad (by simp [tooBig]; omega) (lkH [([0],{ u := 1,ob := Ob.cells [iv k,uws w,tKs l] })])
    simpa using this
  have hb : tooBig k d w.length l.length = false := by
    rw [Bool.eq_false_iff]
    unfold tooBig
    simp only [Bool.or_eq_true,Bool.and_eq_true,decide_eq_true_eq,ne_eq]
    omega
  have hw0 : (1 < k→w = []) := fun h => List.eq_nil_of_length_eq_zero (by omega)
  have fin : LoopC (cx Tryz.prog w0 I0 132) l1_centoref07_Right (InBlock 0 (ThenC (WPC (cx Tryz.prog w0 I0 132) (.keep [] (.seq (.reg [co (some 4) (.assign (.const (.bool true))) none] [4]) .ret)) (RetC Tryz.prog [.tmp 4] (bv (rightL (d - 1) k l)))) (RetC Tryz.prog [.tmp 4] (bv (rightL (d - 1) k l))))) ⟨lk [(1,iv d),(2,.pob [0] 1 0),(5,iv 0)],lkH [([0],⟨1,.cells [iv k,uws w,tKs l]⟩)]⟩ := by
    refine right_l1 (t := .mk k w l) (by simpa using hkl) (by simp; omega) (by simp; omega) (by omega) hd (fun c hc => hw'.ks c hc) (fun c hc => ih c hc (hw'.ks c hc)) l.length 0 _ (by simp) (by simp) (fun hr i' q H' => ?_) (fun hr H' => ?_)
    · simp
      exact frz_bool (by simpa using hr.symm)
    · simp
      exact frz_bool (by simpa using hr.symm)
  rw [if_neg (by simp [hb])]
  by_cases k1 : k = 1
  · have hl3 : ¬ (65536 : Int)≤l.length := by omega
    have ha1 : (decide (d = 0) || decide (65536≤(w.length : Int))) = false := by simp; omega
    simp [ha1,k1,hl2,hl3]
    simpa [k1] using fin
  · simp [h0,h10,ha',k1,hl2]
    refine ⟨fun a b => absurd ⟨a,by omega⟩ h3,fun _ => ?_⟩
    exact fin
end Go.Proofs.YtbjmaoedheiigaaGreat
namespace Go.PL
set_option linter.unusedVariables false
set_option linter.unusedSimpArgs false
def fndP (stop : Nat→Bool) (pl : List Nat) : Nat→Nat→Nat
  | 0,a => a
  | f + 1,a => if pl.getD a 0 = 0 then a else if stop (pl.getD a 0) = true then a else fndP stop pl f ((a + 1) % pl.length)
theorem mod_succ (a d m : Nat) : ((a + 1) % m + d) % m = (a + (d + 1)) % m := by
  rw [Nat.mod_add_mod]
  congr 1
  omega
theorem fndP_spec {stop : Nat→Bool} {pl : List Nat} : ∀ (f a d : Nat),a < pl.length→d < f→pl.getD ((a + d) % pl.length) 0 = 0 →
    fndP stop pl f a < pl.length∧(pl.getD (fndP stop pl f a) 0 = 0∨stop (pl.getD (fndP stop pl f a) 0) = true) ∧
      ∃ k,fndP stop pl f a = (a + k) % pl.length∧∀ e,e < k→pl.getD ((a + e) % pl.length) 0 ≠ 0∧stop (pl.getD ((a + e) % pl.length) 0) = false := by
  intro f
  induction f with
  | zero => intro a d _ h; omega
  | succ f ih =>
    intro a d ha hd hz
    unfold fndP
    have hself : ∃ k,a = (a + k) % pl.length∧∀ e,e < k→pl.getD ((a + e) % pl.length) 0 ≠ 0∧stop (pl.getD ((a + e) % pl.length) 0) = false := ⟨0,by rw [Nat.add_zero,Nat.mod_eq_of_lt ha],fun e he => by omega⟩
    split
    · rename_i h0
      exact ⟨ha,.inl h0,hself⟩
    · rename_i h0
      split
      · rename_i h1
        exact ⟨ha,.inr h1,hself⟩
      · rename_i h1
        cases d with
        | zero => rw [Nat.add_zero,Nat.mod_eq_of_lt ha] at hz; exact absurd hz h0
        | succ d =>
          obtain ⟨p1,p2,k,p3,p4⟩ := ih ((a + 1) % pl.length) d (Nat.mod_lt _ (by omega)) (by omega) (by rw [mod_succ]; exact hz)
          refine ⟨p1,p2,k + 1,by rw [p3,mod_succ],fun e he => ?_⟩
          cases e with
          | zero => rw [Nat.add_zero,Nat.mod_eq_of_lt ha]; exact ⟨h0,by simpa using h1⟩
          | succ e =>
            have := p4 e (by omega)
            rwa [mod_succ] at this
structure Pl (hs : List Nat) (pl : List Nat) : Prop where
  cnt : pl.countP (fun v => v != 0) = hs.length
  vals : ∀ v,v ∈ pl→v≤hs.length
  reach : ∀ (c : Nat) (hc : c < hs.length),∃ d,pl[(hs[c] + d) % pl.length]? = some (c + 1)∧∀ e,e < d→pl.getD ((hs[c] + e) % pl.length) 0 ≠ 0
theorem Pl.free {hs pl : List Nat} (h : Pl hs pl) (hl : hs.length < pl.length) (a : Nat) : ∃ d,d < pl.length∧pl.getD ((a + d) % pl.length) 0 = 0 := by
  have hm : ∃ v,v ∈ pl∧v = 0 := by
    apply Classical.byContradiction
    intro hn
    have : pl.countP (fun v => v != 0) = pl.length := List.countP_eq_length.2 fun v hv => by
      simp only [bne_iff_ne,ne_eq]
      exact fun e => hn ⟨v,hv,e⟩
    have := h.cnt
    omega
  obtain ⟨v,hv,rfl⟩ := hm
  obtain ⟨i,hi,e⟩ := List.mem_iff_getElem.1 hv
  refine ⟨(i + (pl.length - a % pl.length)) % pl.length,Nat.mod_lt _ (by omega),?_⟩
  have : (a + (i + (pl.length - a % pl.length)) % pl.length) % pl.length = i := by
    rw [Nat.add_mod_mod]
    have h1 := Nat.mod_lt a (show 0 < pl.length by omega)
    have h2 := Nat.div_add_mod a pl.length
    have h3 : a + (i + (pl.length - a % pl.length)) = i + pl.length * (a / pl.length + 1) := by
      rw [Nat.mul_add,Nat.mul_one]
      omega
    rw [h3,Nat.add_mul_mod_self_left,Nat.mod_eq_of_lt hi]
  rw [this]
  simp [hi,e]
theorem countP_set {pl : List Nat} {a v : Nat} (ha : a < pl.length) (h0 : pl.getD a 0 = 0) (hv : v ≠ 0) : (pl.set a v).countP (fun v => v != 0) = pl.countP (fun v => v != 0) + 1 := by
  induction pl generalizing a with
  | nil => simp at ha
  | cons x l ih =>
    cases a with
    | zero =>
      simp at h0
      subst h0
      simp [hv]
    | succ a =>
      simp only [List.set_cons_succ,List.countP_cons]
      rw [ih (by simpa using ha) (by simpa using h0)]
      omega
theorem Pl.ins {hs pl : List Nat} (h : Pl hs pl) {x a k : Nat} (ha : a < pl.length) (h0 : pl.getD a 0 = 0) (he : a = (x + k) % pl.length) (hk : ∀ e,e < k→pl.getD ((x + e) % pl.length) 0 ≠ 0) : Pl (hs ++ [x]) (pl.set a (hs.length + 1)) := by
  have hmod : ∀ y,y % pl.length < pl.length := fun y => Nat.mod_lt _ (by omega)
  have nz : ∀ y,pl.getD (y % pl.length) 0 ≠ 0→(pl.set a (hs.length + 1)).getD (y % pl.length) 0 ≠ 0 := fun y hy => by
    have hne : a ≠ y % pl.length := fun e => hy (by rw [← e]; exact h0)
    simpa [List.getD_eq_getElem?_getD,List.getElem?_set_ne hne] using hy
  refine ⟨?_,fun v hv => ?_,fun c hc => ?_⟩
  · rw [countP_set ha h0 (by omega),h.cnt]; simp
  · rw [List.length_append,List.length_singleton]
    rcases List.mem_or_eq_of_mem_set hv with hv | rfl
    · have := h.vals v hv; omega
    · omega
  · simp only [List.length_set]
    by_cases hcl : c < hs.length
    · obtain ⟨d,h1,h2⟩ := h.reach c hcl
      rw [List.getElem_append_left hcl]
      refine ⟨d,?_,fun e he => nz _ (h2 e he)⟩
      have hne : a ≠ (hs[c] + d) % pl.length := fun e => by
        rw [← e] at h1
        rw [List.getD_eq_getElem?_getD,h1] at h0
        simp at h0
      rw [List.getElem?_set_ne hne,h1]
    · have : c = hs.length := by simp at hc; omega
      subst this
      rw [List.getElem_append_right (Nat.le_refl _)]
      simp only [Nat.sub_self,List.getElem_cons_zero]
      refine ⟨k,?_,fun e he => nz _ (hk e he)⟩
      rw [← he,List.getElem?_set_self ha]
def insP (pl : List Nat) (x v : Nat) : List Nat := pl.set (fndP (fun _ => false) pl pl.length (x % pl.length)) v
def growP : List Nat→Nat→List Nat→List Nat
  | pl,_,[] => pl
  | pl,i,x :: hs => growP (insP pl x (i + 1)) (i + 1) hs
@[simp] theorem insP_length {pl : List Nat} {x v : Nat} : (insP pl x v).length = pl.length := by simp [insP]
theorem Pl.nil (m : Nat) : Pl [] (List.replicate m 0) := by
  refine ⟨?_,fun v hv => ?_,fun c hc => ?_⟩
  · simp [List.countP_replicate]
  · simp at hv; omega
  · simp at hc
theorem fndP_mod {stop : Nat→Bool} {pl : List Nat} {x : Nat} {hs : List Nat} (h : Pl hs pl) (hl : hs.length < pl.length) :
    fndP stop pl pl.length (x % pl.length) < pl.length∧(pl.getD (fndP stop pl pl.length (x % pl.length)) 0 = 0∨stop (pl.getD (fndP stop pl pl.length (x % pl.length)) 0) = true) ∧
      ∃ k,fndP stop pl pl.length (x % pl.length) = (x + k) % pl.length∧∀ e,e < k→pl.getD ((x + e) % pl.length) 0 ≠ 0∧stop (pl.getD ((x + e) % pl.length) 0) = false := by
  obtain ⟨d,h1,h2⟩ := h.free hl (x % pl.length)
  have := fndP_spec (stop := stop) pl.length (x % pl.length) d (Nat.mod_lt _ (by omega)) h1 h2
  simpa using this
theorem Pl.insP {hs pl : List Nat} (h : Pl hs pl) (hl : hs.length < pl.length) (x : Nat) : Pl (hs ++ [x]) (insP pl x (hs.length + 1)) := by
  obtain ⟨h1,h2,k,h3,h4⟩ := fndP_mod (stop := fun _ => false) (x := x) h hl
  refine h.ins h1 (h2.resolve_right (by simp)) h3 fun e he => (h4 e he).1
theorem Pl.grow : ∀ {hs2 hs pl : List Nat},Pl hs pl→hs.length + hs2.length≤pl.length→Pl (hs ++ hs2) (growP pl hs.length hs2)
  | [],hs,pl,h,_ => by simpa [growP] using h
  | x :: hs2,hs,pl,h,hl => by
    simp only [List.length_cons] at hl
    have h1 := h.insP (by omega) x
    have := Pl.grow (hs2 := hs2) h1 (by simp; omega)
    rw [List.append_assoc] at this
    simpa [growP] using this
noncomputable def clsI (ks : List T) (n : T) : Nat := ks.findIdx (fun k => sameB k n)
noncomputable def clsK (ks : List T) (n : T) : List T := if clsI ks n < ks.length then ks else ks ++ [n]
theorem clsI_none {ks : List T} {n : T} (h : n ∉ ks) : clsI ks n = ks.length := by
  unfold clsI
  rw [List.findIdx_eq_length]
  intro x hx
  rw [Bool.eq_false_iff]
  intro e
  rw [sameB_iff] at e
  subst e
  exact h hx
noncomputable def clsL : List T→List T→List T × List Nat
  | ks,[] => (ks,[])
  | ks,t :: l => ((clsL (clsK ks (norm t)) l).1,clsI ks (norm t) :: (clsL (clsK ks (norm t)) l).2)
end Go.PL
namespace Go.Proofs.YtbjmaoedheiigaaGreat
set_option linter.unusedVariables false
set_option linter.unusedSimpArgs false
open Go Go.G Go.Proofs Go.PL
structure Cl where
  l : List (List Int)
  r : Rf
  t : T
noncomputable def Cl.h (c : Cl) : Int := hashN (norm c.t)
noncomputable def Cl.hn (c : Cl) : Nat := c.h.toNat
abbrev clL (h : Int) (l : List (List Int)) (r : Rf) : List A := uv h :: paL l r
noncomputable def Cl.a (c : Cl) : A := .agg (clL c.h c.l c.r)
abbrev nv (n : Nat) : A := iv (n : Int)
structure Tb where
  u : Nat
  uc : Nat
  up : Nat
  cl : List Cl
  pl : List Nat
structure Tb.Ok (S : Tb) : Prop where
  p8 : 8≤S.pl.length
  half : 2 * S.cl.length≤S.pl.length
  most : S.pl.length≤8 + 4 * S.cl.length
  pl : Pl (S.cl.map Cl.hn) S.pl
  means : ∀ c,c ∈ S.cl→Sg c.l∧Means c.l c.r c.t
  nd : (S.cl.map fun c => norm c.t).Nodup
noncomputable def Tb.ks (S : Tb) : List T := S.cl.map fun c => norm c.t
@[simp] theorem Tb.ks_length (S : Tb) : S.ks.length = S.cl.length := by simp [Tb.ks]
theorem Tb.Ok.lt {S : Tb} (h : S.Ok) : S.cl.length < S.pl.length := by have := h.p8; have := h.half; omega
structure Tb.Ok1 (S : Tb) : Prop where
  p8 : 8≤S.pl.length
  half : 2 * S.cl.length≤S.pl.length + 2
  most : S.pl.length≤8 + 4 * S.cl.length
  pl : Pl (S.cl.map Cl.hn) S.pl
  means : ∀ c,c ∈ S.cl→Sg c.l∧Means c.l c.r c.t
  nd : (S.cl.map fun c => norm c.t).Nodup
theorem Tb.Ok1.ok {S : Tb} (h : S.Ok1) (hf : ¬ S.pl.length < 2 * S.cl.length) : S.Ok := ⟨h.p8,by omega,h.most,h.pl,h.means,h.nd⟩
section
variable {n0 : Nat} {w0 : World} {I0 : Nat→Prop} {Q : Exit→Sta→Prop}
end
theorem clsL_append : ∀ (l : List T) (ks : List T) (t : T),clsL ks (l ++ [t]) = (clsK (clsL ks l).1 (norm t),(clsL ks l).2 ++ [clsI (clsL ks l).1 (norm t)])
  | [],ks,t => by simp [clsL]
  | a :: l,ks,t => by simp [clsL,clsL_append l]
theorem clsL_length : ∀ (l : List T) (ks : List T),(clsL ks l).2.length = l.length
  | [],ks => rfl
  | a :: l,ks => by simp [clsL,clsL_length l]
section
variable {n0 : Nat} {w0 : World} {I0 : Nat→Prop} {M0 : Nm→Nat→Prop} {m0 : Mu} {Q : Exit→Sta→Prop}
end
theorem trs_fam {l : List T} : ∀ x,x ∈ l.map tA→FamA (fun _ => x) := fun x hx => by
  obtain ⟨t,_,rfl⟩ := List.mem_map.1 hx
  exact famA_bare (tA_eq t) fun y hy => by
    simp at hy
    rcases hy with rfl | rfl | rfl <;> rfl
theorem clsI_first {ks : List T} {n : T} {i : Nat} (h : i < ks.length) (e : ks[i] = n) (hb : ∀ (x : Nat) (hx : x < i),ks[x]'(by omega) ≠ n) : clsI ks n = i := by
  unfold clsI
  rw [List.findIdx_eq h]
  refine ⟨sameB_iff.2 e,fun j hj => ?_⟩
  rw [Bool.eq_false_iff]
  exact fun h2 => hb j hj (sameB_iff.1 h2)
section
variable {n0 : Nat} {w0 : World} {I0 : Nat→Prop} {M0 : Nm→Nat→Prop} {m0 : Mu} {Q : Exit→Sta→Prop}
end
theorem clsK_len (ks : List T) (n : T) : (clsK ks n).length≤ks.length + 1 := by
  unfold clsK
  split <;> simp
theorem clsL_len : ∀ (l ks : List T),(clsL ks l).1.length≤ks.length + l.length
  | [],ks => by simp [clsL]
  | t :: l,ks => by
    have := clsL_len l (clsK ks (norm t))
    have := clsK_len ks (norm t)
    simp only [clsL,List.length_cons]
    omega
theorem clsK_wf {ks : List T} {n : T} (h : ∀ k,k ∈ ks→wfT k) (hn : wfT n) : ∀ k,k ∈ clsK ks n→wfT k := by
  unfold clsK
  split
  · exact h
  · intro k hk
    rcases List.mem_append.1 hk with hk | hk
    · exact h k hk
    · simp at hk; subst hk; exact hn
theorem clsL_wf : ∀ {l ks : List T},(∀ k,k ∈ ks→wfT k)→(∀ k,k ∈ l→wfT k)→∀ k,k ∈ (clsL ks l).1→wfT k
  | [],ks,h,_ => h
  | t :: l,ks,h,hl => clsL_wf (l := l) (clsK_wf h (wf_norm _ (hl t (by simp)))) fun k hk => hl k (by simp [hk])
section
variable {n0 : Nat} {w0 : World} {I0 : Nat→Prop} {M0 : Nm→Nat→Prop} {m0 : Mu} {Q : Exit→Sta→Prop}
end
section
variable {n0 : Nat} {w0 : World} {I0 : Nat→Prop} {Q : Exit→Sta→Prop} {H : Hp}
end
theorem treeWord_spec (t : T) (i : Nat) : G.Spec Tryz.prog 115 [tX t,iv i] (uv (t.words.getD i 0)) := by
  refine spec_of t_tree_Word (by simp) fun w0 I0 => ?_
  unfold c_tree_Word
  have hn : ¬ (i : Int) < 0 := by omega
  by_cases h : i < t.words.length
  · have h2 : ¬ t.words.length≤i := by omega
    simp [h,hn,h2]
    exact frz_is rfl (by simp [h])
  · have h2 : t.words.length≤i := by omega
    simp [h,hn,h2]
    exact frz_is rfl (by simp [List.getElem?_eq_none (Nat.le_of_not_lt h)])
theorem treeKid_spec (t : T) (i : Nat) : G.Spec Tryz.prog 116 [tX t,iv i] (tX (t.kids.getD i T0)) := by
  refine spec_of t_tree_Kid (by simp) fun w0 I0 => ?_
  unfold c_tree_Kid
  have hn : ¬ (i : Int) < 0 := by omega
  by_cases h : i < t.kids.length
  · have h2 : ¬ t.kids.length≤i := by omega
    simp [h,hn,h2]
    exact frz_bare (by simp)
  · have h2 : t.kids.length≤i := by omega
    simp [h,hn,h2]
    exact frz_agg (by simp; exact ⟨frz_bare rfl,frz_sl,frz_sl⟩)
section
variable {n0 : Nat} {w0 : World} {I0 : Nat→Prop} {Q : Exit→Sta→Prop}
end
end Go.Proofs.YtbjmaoedheiigaaGreat
namespace Go.PL
set_option linter.unusedVariables false
set_option linter.unusedSimpArgs false
def ptrZ (at_ to kind upper : Int) : Int := 4 * (if to - at_ - 1 < 0 then to - at_ - 1 + 1073741824 else to - at_ - 1) + kind + upper * 4294967296
def putL (w : Nat) : List Int→Nat→List Int→List Int
  | [],_,out => out
  | n :: ns,i,out => putL w ns (i + 1) (if w = 0 then out else out.set (i * w / 64) (out.getD (i * w / 64) 0 + n * 2 ^ (i * w % 64)))
def putZ (c : Int) (ns : List Int) : List Int := putL (widthZ c).toNat ns 0 (List.replicate (roomZ c ns.length).toNat 0)
def hd (t : T) : Int := t.words.headD 0
def setW : Nat→List Int→List Int→List Int
  | _,[],l => l
  | b,x :: ws,l => setW (b + 1) ws (l.set b x)
def rowsC (w k : Nat) : List T→List Int
  | [] => []
  | t :: ts => t.words ++ List.replicate (w + k - t.words.length) 0 ++ rowsC w k ts
mutual
def layT : T→Nat→List Int→List Int
  | .mk k w ks,at_,l =>
    if k = 0 then l
    else if k = 1 then layL ks (l.length + w.length) (l.set at_ (ptrZ at_ (if w.length + ks.length = 0 then at_ else l.length) 0 ((w.length : Int) + 65536 * ks.length)) ++ w ++ List.replicate ks.length 0)
    else if k = 8 then layL ks l.length (l.set at_ (ptrZ at_ l.length 1 (6 + 8 * ks.length)) ++ List.replicate ks.length 0)
    else if k = 9 then layC (frameW ks) (frameK ks) ks (l.length + 1) (l.set at_ (ptrZ at_ l.length 1 (7 + 8 * (ks.length * (frameW ks + frameK ks) : Nat))) ++ [4 * (ks.length : Int) + 4294967296 * ((frameW ks : Int) + 65536 * frameK ks)] ++ rowsC (frameW ks) (frameK ks) ks)
    else l.set at_ (ptrZ at_ l.length 1 (k - 2 + 8 * ks.length)) ++ putZ (k - 2) (ks.map hd)
def layL : List T→Nat→List Int→List Int
  | [],_,l => l
  | t :: ts,at_,l => layL ts (at_ + 1) (layT t at_ l)
def layC (w k : Nat) : List T→Nat→List Int→List Int
  | [],_,l => l
  | .mk _ _ ks :: ts,at_,l => layC w k ts (at_ + (w + k)) (layL ks (at_ + w) l)
end
theorem layT_mk (k : Int) (w : List Int) (ks : List T) (at_ : Nat) (l : List Int) : layT (.mk k w ks) at_ l = if k = 0 then l
    else if k = 1 then layL ks (l.length + w.length) (l.set at_ (ptrZ at_ (if w.length + ks.length = 0 then at_ else l.length) 0 ((w.length : Int) + 65536 * ks.length)) ++ w ++ List.replicate ks.length 0)
    else if k = 8 then layL ks l.length (l.set at_ (ptrZ at_ l.length 1 (6 + 8 * ks.length)) ++ List.replicate ks.length 0)
    else if k = 9 then layC (frameW ks) (frameK ks) ks (l.length + 1) (l.set at_ (ptrZ at_ l.length 1 (7 + 8 * (ks.length * (frameW ks + frameK ks) : Nat))) ++ [4 * (ks.length : Int) + 4294967296 * ((frameW ks : Int) + 65536 * frameK ks)] ++ rowsC (frameW ks) (frameK ks) ks)
    else l.set at_ (ptrZ at_ l.length 1 (k - 2 + 8 * ks.length)) ++ putZ (k - 2) (ks.map hd) := by rw [layT]
@[simp] theorem layL_nil (at_ : Nat) (l : List Int) : layL [] at_ l = l := by rw [layL]
@[simp] theorem layL_cons (t : T) (ts : List T) (at_ : Nat) (l : List Int) : layL (t :: ts) at_ l = layL ts (at_ + 1) (layT t at_ l) := by rw [layL]
@[simp] theorem layC_nil (w k at_ : Nat) (l : List Int) : layC w k [] at_ l = l := by rw [layC]
@[simp] theorem layC_cons (w k : Nat) (t : T) (ts : List T) (at_ : Nat) (l : List Int) : layC w k (t :: ts) at_ l = layC w k ts (at_ + (w + k)) (layL t.kids (at_ + w) l) := by cases t; rw [layC]; rfl
theorem putL_length : ∀ (w : Nat) (ns : List Int) (i : Nat) (out : List Int),(putL w ns i out).length = out.length
  | w,[],i,out => rfl
  | w,n :: ns,i,out => by
    rw [putL,putL_length]
    split <;> simp
@[simp] theorem putZ_length (c : Int) (ns : List Int) : (putZ c ns).length = (roomZ c ns.length).toNat := by simp [putZ,putL_length]
@[simp] theorem setW_length : ∀ (b : Nat) (ws l : List Int),(setW b ws l).length = l.length
  | _,[],_ => rfl
  | b,x :: ws,l => by rw [setW,setW_length,List.length_set]
structure PutI (w i : Nat) (out : List Int) : Prop where
  rng : ∀ (j : Nat) (h : j < out.length),0≤out[j]∧out[j] < 18446744073709551616
  here : ∀ (h : i * w / 64 < out.length),out[i * w / 64] < 2 ^ (i * w % 64)
  zero : ∀ (j : Nat) (h : j < out.length),i * w / 64 < j→out[j] = 0
theorem PutI.start (w m : Nat) : PutI w 0 (List.replicate m 0) := ⟨fun j h => by simp,fun h => by simp,fun j h _ => by simp⟩
theorem putI_step {w i : Nat} {out : List Int} (h : PutI w i out) (hw : w = 1∨w = 8∨w = 16∨w = 32∨w = 64) {n : Int} (h0 : 0≤n) (h1 : n < 2 ^ w) (hl : i * w / 64 < out.length) : PutI w (i + 1) (out.set (i * w / 64) (out.getD (i * w / 64) 0 + n * 2 ^ (i * w % 64))) ∧
    0≤out.getD (i * w / 64) 0∧out.getD (i * w / 64) 0 < 2 ^ (i * w % 64)∧n * 2 ^ (i * w % 64) < 18446744073709551616∧out.getD (i * w / 64) 0 + n * 2 ^ (i * w % 64) < 18446744073709551616 := by
  have hg : out.getD (i * w / 64) 0 = out[i * w / 64] := by simp [hl]
  rw [hg]
  obtain ⟨r0,r1⟩ := h.rng _ hl
  have hh := h.here hl
  have hs : i * w % 64 + w≤64 := by
    rcases hw with rfl | rfl | rfl | rfl | rfl <;> omega
  have hp : (0 : Int) < 2 ^ (i * w % 64) := Int.pow_pos (by decide)
  have hsum : out[i * w / 64] + n * 2 ^ (i * w % 64) < 2 ^ (i * w % 64 + w) := by
    have e1 : n * 2 ^ (i * w % 64)≤(2 ^ w - 1) * 2 ^ (i * w % 64) := Int.mul_le_mul_of_nonneg_right (by omega) (by omega)
    have e2 : (2 ^ w - 1) * 2 ^ (i * w % 64) = (2 : Int) ^ (i * w % 64 + w) - 2 ^ (i * w % 64) := by
      rw [Int.sub_mul,Int.one_mul,Int.pow_add,Int.mul_comm]
    omega
  have hle : (2 : Int) ^ (i * w % 64 + w)≤2 ^ 64 := by
    have e : ∀ k : Nat,(2 : Int) ^ k = ((2 ^ k : Nat) : Int) := fun k => by simp
    rw [e,e]
    exact Int.ofNat_le.2 (Nat.pow_le_pow_right (by decide) hs)
  have hnn : 0≤n * 2 ^ (i * w % 64) := Int.mul_nonneg h0 (by omega)
  have h64 : (2 : Int) ^ 64 = 18446744073709551616 := by decide
  refine ⟨⟨fun j hj => ?_,fun hj => ?_,fun j hj hlt => ?_⟩,r0,hh,by omega,by omega⟩
  · rw [List.getElem_set]
    split
    · omega
    · exact h.rng j (by simpa using hj)
  · rw [List.getElem_set]
    split
    · rename_i e
      have e3 : (i + 1) * w % 64 = i * w % 64 + w := by
        rw [Nat.add_mul,Nat.one_mul] at e ⊢
        rcases hw with rfl | rfl | rfl | rfl | rfl <;> omega
      rw [e3]
      exact hsum
    · rename_i e
      have e4 : i * w / 64 < (i + 1) * w / 64 := by
        have : i * w / 64≤(i + 1) * w / 64 := Nat.div_le_div_right (by rw [Nat.add_mul]; omega)
        omega
      rw [h.zero _ (by simpa using hj) e4]
      exact Int.pow_pos (by decide)
  · have e5 : i * w / 64≤(i + 1) * w / 64 := Nat.div_le_div_right (by rw [Nat.add_mul]; omega)
    rw [List.getElem_set]
    split
    · omega
    · exact h.zero j (by simpa using hj) (by omega)
theorem put_at {w n i : Nat} (hw : w = 1∨w = 8∨w = 16∨w = 32∨w = 64) (h : i < n) : i * w / 64 < (n * w + 63) / 64 := by
  have : (i + 1) * w≤n * w := Nat.mul_le_mul_right _ h
  rw [Nat.add_mul] at this
  rcases hw with rfl | rfl | rfl | rfl | rfl <;> omega
def LS (f : Nat→List Int→List Int) (n : Nat) : Prop := ∀ (at_ p : Nat) (x : Int) (l : List Int),p < l.length→(p < at_∨at_ + n≤p)→f at_ (l.set p x) = (f at_ l).set p x
def LM (f : Nat→List Int→List Int) : Prop := ∀ (at_ : Nat) (l : List Int),l.length≤(f at_ l).length
theorem set_app {l m : List Int} {p : Nat} {x : Int} (h : p < l.length) : l.set p x ++ m = (l ++ m).set p x := by rw [List.set_append_left _ _ h]
theorem layL_ls : ∀ {ts : List T},(∀ t,t ∈ ts→LS (layT t) 1∧LM (layT t))→LS (layL ts) ts.length∧LM (layL ts)
  | [],_ => ⟨fun at_ p x l _ _ => by simp,fun at_ l => by simp⟩
  | t :: ts,h => by
    obtain ⟨h1,h2⟩ := h t (by simp)
    obtain ⟨h3,h4⟩ := layL_ls (ts := ts) fun u hu => h u (by simp [hu])
    refine ⟨fun at_ p x l hp hr => ?_,fun at_ l => ?_⟩
    · simp only [List.length_cons] at hr
      have := h2 at_ l
      rw [layL_cons,layL_cons,h1 at_ p x l hp (by omega),h3 (at_ + 1) p x _ (by omega) (by omega)]
    · rw [layL_cons]
      exact Nat.le_trans (h2 at_ l) (h4 _ _)
theorem layC_ls {w k : Nat} : ∀ {ts : List T},(∀ t,t ∈ ts→LS (layL t.kids) t.kids.length∧LM (layL t.kids))→(∀ (at_ p : Nat) (x : Int) (l : List Int),p < l.length→p < at_→layC w k ts at_ (l.set p x) = (layC w k ts at_ l).set p x)∧LM (layC w k ts)
  | [],_ => ⟨fun at_ p x l _ _ => by simp,fun at_ l => by simp⟩
  | t :: ts,h => by
    obtain ⟨h1,h2⟩ := h t (by simp)
    obtain ⟨h3,h4⟩ := layC_ls (w := w) (k := k) (ts := ts) fun u hu => h u (by simp [hu])
    refine ⟨fun at_ p x l hp hr => ?_,fun at_ l => ?_⟩
    · have := h2 (at_ + w) l
      rw [layC_cons,layC_cons,h1 (at_ + w) p x l hp (by omega),h3 _ p x _ (by omega) (by omega)]
    · rw [layC_cons]
      exact Nat.le_trans (h2 _ l) (h4 _ _)
theorem lay_ls : ∀ t : T,(LS (layT t) 1∧LM (layT t))∧(LS (layL t.kids) t.kids.length∧LM (layL t.kids)) := by
  refine T.ind fun k w ks ih => ?_
  have hK := layL_ls fun t ht => (ih t ht).1
  have hC := fun (w k : Nat) => layC_ls (w := w) (k := k) fun t ht => (ih t ht).2
  refine ⟨⟨fun at_ p x l hp hr => ?_,fun at_ l => ?_⟩,hK⟩
  · have hne : at_ ≠ p := by omega
    rw [layT_mk,layT_mk]
    simp only [List.length_set]
    split
    · rfl
    · split
      · rw [List.set_comm _ _ (Ne.symm hne),set_app (by simpa using hp),set_app (by simp; omega),hK.1 _ _ _ _ (by simp; omega) (by omega)]
      · split
        · rw [List.set_comm _ _ (Ne.symm hne),set_app (by simpa using hp),hK.1 _ _ _ _ (by simp; omega) (by omega)]
        · split
          · rw [List.set_comm _ _ (Ne.symm hne),set_app (by simpa using hp),set_app (by simp; omega),(hC _ _).1 _ _ _ _ (by simp; omega) (by omega)]
          · rw [List.set_comm _ _ (Ne.symm hne),set_app (by simpa using hp)]
  · rw [layT_mk]
    split
    · exact Nat.le_refl _
    · split
      · exact Nat.le_trans (by simp) (hK.2 _ _)
      · split
        · exact Nat.le_trans (by simp) (hK.2 _ _)
        · split
          · exact Nat.le_trans (by simp) ((hC _ _).2 _ _)
          · simp
theorem layL_set (ts : List T) : LS (layL ts) ts.length := (layL_ls fun t _ => (lay_ls t).1).1
theorem layL_setW {ts : List T} : ∀ (ws : List Int) (b at_ : Nat) (l : List Int),b + ws.length≤l.length→at_ + ts.length≤b→layL ts at_ (setW b ws l) = setW b ws (layL ts at_ l)
  | [],b,at_,l,_,_ => rfl
  | x :: ws,b,at_,l,h,h2 => by
    simp only [List.length_cons] at h
    rw [setW,setW,layL_setW ws (b + 1) at_ _ (by simp; omega) (by omega),layL_set ts at_ b x l (by omega) (by omega)]
def cpC (w long : Nat) : List T→Nat→List Int→List Int
  | [],_,l => l
  | t :: ts,b,l => cpC w long ts (b + long) (layL t.kids (b + w) (setW b t.words l))
def fillC (long : Nat) : List T→Nat→List Int→List Int
  | [],_,l => l
  | t :: ts,b,l => fillC long ts (b + long) (setW b t.words l)
theorem fillC_lay {long : Nat} {ks : List T} : ∀ (ts : List T) (b at_ : Nat) (l : List Int),(∀ t,t ∈ ts→t.words.length≤long)→b + ts.length * long≤l.length→at_ + ks.length≤b→fillC long ts b (layL ks at_ l) = layL ks at_ (fillC long ts b l)
  | [],b,at_,l,_,_,_ => rfl
  | t :: ts,b,at_,l,hw,h,h2 => by
    have h3 := hw t (by simp)
    simp only [List.length_cons,Nat.add_mul,Nat.one_mul] at h
    rw [fillC,fillC,← layL_setW _ _ _ _ (by omega) h2,fillC_lay ts _ _ _ (fun u hu => hw u (by simp [hu])) (by simp; omega) (by omega)]
inductive LayOk : T→Prop
  | null (w : List Int) : LayOk (.mk 0 w [])
  | str (w : List Int) (ks : List T) : w.length < 65536→ks.length < 65536→(∀ t,t ∈ ks→LayOk t)→LayOk (.mk 1 w ks)
  | ptrs (w : List Int) (ks : List T) : ks.length < 536870912→(∀ t,t ∈ ks→LayOk t)→LayOk (.mk 8 w ks)
  | comp (w : List Int) (ks : List T) : ks.length < 536870912→(∀ t,t ∈ ks→t.words.length < 65536∧t.kids.length < 65536)→(∀ t,t ∈ ks→∀ u,u ∈ t.kids→LayOk u)→LayOk (.mk 9 w ks)
  | data (k : Int) (w : List Int) (ks : List T) : 2≤k→k≤7→ks.length < 536870912→(∀ c,c ∈ ks→∃ x,c.words = [x]∧0≤x∧x < 18446744073709551616∧fitsZ (k - 2) x = true)→LayOk (.mk k w ks)
def LN (f : Nat→List Int→List Int) (n : Int) : Prop := ∀ (at_ : Nat) (l : List Int),((f at_ l).length : Int) = l.length + n
theorem layL_ln : ∀ {ts : List T},(∀ t,t ∈ ts→LN (layT t) (sizeT t))→LN (layL ts) (sizeL ts)
  | [],_ => fun at_ l => by simp
  | t :: ts,h => fun at_ l => by
    rw [layL_cons,layL_ln (ts := ts) (fun u hu => h u (by simp [hu])),h t (by simp),sizeL_cons]
    omega
theorem layC_ln {w k : Nat} : ∀ {ts : List T},(∀ t,t ∈ ts→LN (layL t.kids) (sizeL t.kids))→LN (layC w k ts) (sizeLL ts)
  | [],_ => fun at_ l => by simp
  | t :: ts,h => fun at_ l => by
    rw [layC_cons,layC_ln (ts := ts) (fun u hu => h u (by simp [hu])),h t (by simp),sizeLL_cons]
    omega
theorem frameW_le : ∀ {ts : List T} {t : T},t ∈ ts→t.words.length≤frameW ts
  | u :: ts,t,h => by
    rcases List.mem_cons.1 h with rfl | h
    · simp only [frameW]; omega
    · have := frameW_le h
      simp only [frameW]; omega
theorem frameK_le : ∀ {ts : List T} {t : T},t ∈ ts→t.kids.length≤frameK ts
  | u :: ts,t,h => by
    rcases List.mem_cons.1 h with rfl | h
    · simp only [frameK]; omega
    · have := frameK_le h
      simp only [frameK]; omega
theorem rowsC_length {w k : Nat} : ∀ (ts : List T),(∀ t,t ∈ ts→t.words.length≤w + k)→(rowsC w k ts).length = ts.length * (w + k)
  | [],_ => by simp [rowsC]
  | t :: ts,h => by
    have h1 := h t (by simp)
    rw [rowsC,List.length_append,List.length_append,List.length_replicate,rowsC_length ts fun u hu => h u (by simp [hu])]
    simp only [List.length_cons,Nat.add_mul,Nat.one_mul]
    omega
theorem roomZ_nonneg (c n : Int) : 0≤roomZ c n := by
  unfold roomZ bitsZ
  repeat' split
  all_goals omega
theorem lay_len : ∀ t : T,(LayOk t→LN (layT t) (sizeT t))∧((∀ u,u ∈ t.kids→LayOk u)→LN (layL t.kids) (sizeL t.kids)) := by
  refine T.ind fun k w ks ih => ?_
  have hK : (∀ u,u ∈ ks→LayOk u)→LN (layL ks) (sizeL ks) := fun h => layL_ln fun t ht => (ih t ht).1 (h t ht)
  refine ⟨fun h at_ l => ?_,hK⟩
  rw [layT_mk,sizeT_mk]
  cases h with
  | null => simp
  | str w ks b1 b2 h =>
    rw [if_neg (by decide),if_pos rfl,if_pos rfl,hK h]
    simp
    omega
  | ptrs w ks b1 h =>
    rw [if_neg (by decide),if_neg (by decide),if_pos rfl,if_neg (by decide),if_pos rfl,hK h]
    simp
    omega
  | comp w ks b1 b2 h =>
    have hr := rowsC_length (w := frameW ks) (k := frameK ks) ks fun t ht => by have := frameW_le ht; omega
    rw [if_neg (by decide),if_neg (by decide),if_neg (by decide),if_pos rfl,if_neg (by decide),if_neg (by decide),if_neg (by decide),if_pos rfl,layC_ln fun t ht => (ih t ht).2 (h t ht)]
    simp only [List.length_append,List.length_set,List.length_singleton,hr]
    have e : ((ks.length * (frameW ks + frameK ks) : Nat) : Int) = (ks.length : Int) * ((frameW ks : Int) + frameK ks) := by rw [Int.natCast_mul,Int.natCast_add]
    rw [← e]
    omega
  | data k w ks h1 h2 b1 b2 =>
    rw [if_neg (by omega),if_neg (by omega),if_neg (by omega),if_neg (by omega),if_neg (by omega),if_neg (by omega),if_pos ⟨h1,h2⟩]
    simp only [List.length_append,List.length_set,putZ_length,List.length_map]
    have := roomZ_nonneg (k - 2) ks.length
    omega
theorem layL_len {ts : List T} (h : ∀ t,t ∈ ts→LayOk t) : LN (layL ts) (sizeL ts) := layL_ln fun t ht => (lay_len t).1 (h t ht)
theorem size_nonneg : ∀ t : T,(LayOk t→0≤sizeT t)∧((∀ u,u ∈ t.kids→LayOk u)→0≤sizeL t.kids) := fun t => by
  refine ⟨fun h => ?_,fun h => ?_⟩
  · have h1 := (lay_len t).1 h 0 []
    simp at h1
    omega
  · have h1 := (lay_len t).2 h 0 []
    simp at h1
    omega
theorem cpC_eq {w k : Nat} : ∀ (ts : List T) (b : Nat) (l : List Int),(∀ t,t ∈ ts→t.words.length≤w∧t.kids.length≤k)→b + ts.length * (w + k)≤l.length→cpC w (w + k) ts b l = layC w k ts b (fillC (w + k) ts b l)
  | [],b,l,_,_ => by simp [cpC,fillC]
  | t :: ts,b,l,hw,h => by
    obtain ⟨h3,h4⟩ := hw t (by simp)
    simp only [List.length_cons,Nat.add_mul,Nat.one_mul] at h
    have hm := ((layL_ls fun t _ => (lay_ls t).1).2 : LM (layL t.kids)) (b + w) (setW b t.words l)
    rw [setW_length] at hm
    rw [cpC,layC_cons,fillC,cpC_eq ts _ _ (fun u hu => hw u (by simp [hu])) (by omega),fillC_lay ts _ _ _ (fun u hu => by have := (hw u (by simp [hu])).1; omega) (by simp; omega) (by omega)]
theorem setW_app : ∀ (ws : List Int) (a z : List Int),ws.length≤z.length→setW a.length ws (a ++ z) = a ++ ws ++ z.drop ws.length
  | [],a,z,_ => by simp [setW]
  | x :: ws,a,[],h => by simp at h
  | x :: ws,a,y :: z,h => by
    simp only [List.length_cons] at h
    have : (a ++ y :: z).set a.length x = (a ++ [x]) ++ z := by simp
    rw [setW,this,show a.length + 1 = (a ++ [x]).length from by simp,setW_app ws (a ++ [x]) z (by omega)]
    simp
theorem fillC_app {w k : Nat} : ∀ (ts : List T) (a : List Int),(∀ t,t ∈ ts→t.words.length≤w + k)→fillC (w + k) ts a.length (a ++ List.replicate (ts.length * (w + k)) 0) = a ++ rowsC w k ts
  | [],a,_ => by simp [fillC,rowsC]
  | t :: ts,a,h => by
    have h1 := h t (by simp)
    have e : List.replicate ((t :: ts).length * (w + k)) (0 : Int) = List.replicate (w + k) 0 ++ List.replicate (ts.length * (w + k)) 0 := by
      rw [List.replicate_append_replicate]
      congr 1
      simp only [List.length_cons,Nat.add_mul,Nat.one_mul]
      omega
    rw [fillC,e,setW_app _ _ _ (by simp; omega),rowsC]
    have e2 : a ++ t.words ++ List.drop t.words.length (List.replicate (w + k) (0 : Int) ++ List.replicate (ts.length * (w + k)) 0) = (a ++ t.words ++ List.replicate (w + k - t.words.length) 0) ++ List.replicate (ts.length * (w + k)) 0 := by
      rw [List.drop_append_of_le_length (by simp; omega),List.drop_replicate]
      simp
    have e3 : a.length + (w + k) = (a ++ t.words ++ List.replicate (w + k - t.words.length) (0 : Int)).length := by simp; omega
    rw [e2,e3,fillC_app ts _ fun u hu => h u (by simp [hu])]
    simp
end Go.PL
namespace Go.Proofs.YtbjmaoedheiigaaGreat
set_option linter.unusedVariables false
set_option linter.unusedSimpArgs false
open Go Go.G Go.Proofs Go.PL
structure Cp where
  v : Nat
  W : List Int
theorem renL_uv {g : Nm→Nm} {δ : Nm→Nat} (l : List Int) : A.renL g δ (l.map uv) = l.map uv := by
  rw [renL_map,List.map_map]
  rfl
def ptQ (p : Pt) (at_ to : Int) : Pt := { p with off := if p.kind = 1∧p.data + p.ptrs = 0 then -1 else to - at_ - 1 }
abbrev ptL (p : Pt) : List A := [iv p.kind,iv p.off,iv p.data,iv p.ptrs,iv p.code,iv p.count,iv p.seg,bv p.dbl]
theorem enc_str {at_ to w k : Int} (h0 : 0≤at_) (h1 : at_≤200000) (h2 : 0≤to) (h3 : to≤200000) (w0 : 0≤w) (w1 : w < 65536) (k0 : 0≤k) (k1 : k < 65536) : encW (ptQ ⟨1,0,w,k,0,0,0,false⟩ at_ to) = ptrZ at_ (if w + k = 0 then at_ else to) 0 (w + 65536 * k) := by
  by_cases hz : w + k = 0
  · have e : ptQ ⟨1,0,w,k,0,0,0,false⟩ at_ to = ⟨1,-1,w,k,0,0,0,false⟩ := by simp [ptQ,hz]
    rw [e,if_pos hz]
    unfold encW ptrZ
    simp only
    rw [if_pos trivial,if_pos (by omega),if_pos (by omega)]
    omega
  · have e : ptQ ⟨1,0,w,k,0,0,0,false⟩ at_ to = ⟨1,to - at_ - 1,w,k,0,0,0,false⟩ := by simp [ptQ,hz]
    rw [e,if_neg hz]
    unfold encW ptrZ
    simp only
    rw [if_pos trivial,if_pos (by omega)]
    split <;> omega
theorem enc_list {at_ to c n : Int} (h0 : 0≤at_) (h1 : at_≤200000) (h2 : 0≤to) (h3 : to≤200000) (c0 : 0≤c) (c1 : c≤7) (n0 : 0≤n) (n1 : n < 536870912) : encW (ptQ ⟨2,0,0,0,c,n,0,false⟩ at_ to) = ptrZ at_ to 1 (c + 8 * n) := by
  have e : ptQ ⟨2,0,0,0,c,n,0,false⟩ at_ to = ⟨2,to - at_ - 1,0,0,c,n,0,false⟩ := by simp [ptQ]
  rw [e]
  unfold encW ptrZ
  simp only
  rw [if_neg (by decide),if_pos trivial,if_pos (by omega)]
  split <;> omega
theorem sizeL_nonneg {ts : List T} (h : ∀ u,u ∈ ts→LayOk u) : 0≤sizeL ts := by
  have := layL_len h 0 []
  simp at this
  omega
section
variable {n0 : Nat} {w0 : World} {I0 : Nat→Prop} {M0 : Nm→Nat→Prop} {m0 : Mu} {Q : Exit→Sta→Prop}
end
theorem frame_bound {ts : List T} {w k : Nat} (h : ∀ t,t ∈ ts→t.words.length≤w∧t.kids.length≤k) : frameW ts≤w∧frameK ts≤k := by
  induction ts with
  | nil => simp [frameW,frameK]
  | cons t ts ih =>
    have h1 := h t (by simp)
    have h2 := ih fun u hu => h u (by simp [hu])
    simp only [frameW,frameK]
    omega
section
variable {n0 : Nat} {w0 : World} {I0 : Nat→Prop} {Q : Exit→Sta→Prop}
end
theorem sizeLL_nonneg {ts : List T} (h : ∀ t,t ∈ ts→∀ u,u ∈ t.kids→LayOk u) : 0≤sizeLL ts := by
  induction ts with
  | nil => simp
  | cons t ts ih =>
    rw [sizeLL_cons]
    have := sizeL_nonneg (h t (by simp))
    have := ih fun u hu => h u (by simp [hu])
    omega
theorem width_cases {c : Int} (h0 : 0≤c) (h6 : c < 6) : ∃ w : Nat,widthZ c = w∧bitsZ c = w∧(w = 0∨w = 1∨w = 8∨w = 16∨w = 32∨w = 64) := by
  have : c = 0∨c = 1∨c = 2∨c = 3∨c = 4∨c = 5 := by omega
  rcases this with rfl | rfl | rfl | rfl | rfl | rfl
  · exact ⟨0,rfl,rfl,by simp⟩
  · exact ⟨1,rfl,rfl,by simp⟩
  · exact ⟨8,rfl,rfl,by simp⟩
  · exact ⟨16,rfl,rfl,by simp⟩
  · exact ⟨32,rfl,rfl,by simp⟩
  · exact ⟨64,rfl,rfl,by simp⟩
theorem fits_lt {c n : Int} {w : Nat} (hw : widthZ c = w) (h0 : 0≤n) (h : fitsZ c n = true) : n < 2 ^ w := by
  simp only [fitsZ,Bool.and_eq_true,decide_eq_true_eq,hw] at h
  have hp : (0 : Int) < 2 ^ w := Int.pow_pos (by decide)
  have h2 := h.2
  simp only [Int.toNat_natCast] at h2
  have h3 := Int.emod_add_mul_ediv n (2 ^ w)
  rw [h2,Int.mul_zero,Int.add_zero] at h3
  rw [← h3]
  exact Int.emod_lt_of_pos _ hp
theorem prod_mod {i w : Nat} (hw : w≤64) (hi : i≤1000000000) : IntKind.i64.wrap ((i : Int) * w) = (i : Int) * w∧((i : Int) * w).tmod 64 = ((i * w % 64 : Nat) : Int)∧((i : Int) * w).tdiv 64 = ((i * w / 64 : Nat) : Int) := by
  have him : i * w≤1000000000 * 64 := Nat.mul_le_mul hi hw
  have e : (i : Int) * w = ((i * w : Nat) : Int) := by rw [Int.natCast_mul]
  rw [e]
  refine ⟨i64_same (by omega) (by omega),?_,?_⟩
  · rw [Int.tmod_eq_emod_of_nonneg (by omega)]; omega
  · rw [Int.tdiv_eq_ediv_of_nonneg (by omega)]; omega
section
variable {n0 : Nat} {w0 : World} {I0 : Nat→Prop} {Q : Exit→Sta→Prop}
theorem rPut_l1 {c : A} {ns : List Int} {w i s : Nat} {m : Nat} {H : Hp} (hw : w≤64) (hi : i≤1000000000) (hs : i * w % 64 = s) : ∀ (j k : Nat) (x : Int),k + j = s→0≤x→x * 2 ^ j < 18446744073709551616→(∀ q,Q (.exit 2) ⟨lk [(0,c),(1,uws ns),(6,nv w),(7,.osl [0] 1 1 0 m),(8,nv i),(9,uv (x * 2 ^ j)),(10,nv s),(39,bv q)],H⟩) →
    LoopC (cx Tryz.prog w0 I0 n0) l1_centoref01_Put Q ⟨lk [(0,c),(1,uws ns),(6,nv w),(7,.osl [0] 1 1 0 m),(8,nv i),(9,uv x),(10,nv k)],H⟩ := by
  obtain ⟨e1,e2,_⟩ := prod_mod hw hi
  rw [hs] at e2
  have hs64 : s < 64 := by omega
  intro j
  induction j with
  | zero =>
    intro k x hk h0 hx hq
    have : k = s := by omega
    subst this
    refine loopC_once mixed l1_centoref01_Put.eq_1 ?_
    have := hq false
    simp [e1,e2] at this ⊢
    exact this
  | succ j ih =>
    intro k x hk h0 hx hq
    have hlt : k < s := by omega
    have ek : IntKind.i64.wrap ((k : Int) + 1) = ((k + 1 : Nat) : Int) := i64_same (by omega) (by omega)
    have hp : (0 : Int) < 2 ^ j := Int.pow_pos (by decide)
    rw [Int.pow_succ,Int.mul_comm (2 ^ j) 2,← Int.mul_assoc] at hx hq
    have h2 : x * 2≤x * 2 * 2 ^ j := by
      have := Int.mul_le_mul_of_nonneg_left (show (1 : Int)≤2 ^ j by omega) (show 0≤x * 2 by omega)
      omega
    have ex : IntKind.u64.wrap (x * 2) = x * 2 := u64_same (by omega) (by omega)
    refine loopC_once mixed l1_centoref01_Put.eq_1 ?_
    simp [e1,e2,hlt,ek,ex]
    exact ih (k + 1) (x * 2) (by omega) (by omega) hx hq
theorem rPut_l2 {c : Int} {ns : List Int} (hn : ns.length≤1000000000) {w : Nat} (hw : w = 0∨w = 1∨w = 8∨w = 16∨w = 32∨w = 64) (hwc : widthZ c = w) (hfit : ∀ x,x ∈ ns→u64R x∧fitsZ c x = true) {m : Nat} (hm : w ≠ 0→m = (ns.length * w + 63) / 64)
    (hq : ∀ (q : Bool) (H' : Hp) (out : List Int),out = putL w ns 0 (List.replicate m 0)→H' [0] = ⟨1,.arr 1 (out.map uv)⟩→Q (.exit 0) ⟨lk [(0,iv c),(1,uws ns),(6,nv w),(7,.osl [0] 1 1 0 m),(8,nv ns.length),(23,bv q)],H'⟩) :
    ∀ (j i : Nat) (out : List Int) (H : Hp),i + j = ns.length→out.length = m→(w ≠ 0→PutI w i out)→putL w (ns.drop i) i out = putL w ns 0 (List.replicate m 0)→H [0] = ⟨1,.arr 1 (out.map uv)⟩ →
    LoopC (cx Tryz.prog w0 I0 n0) l2_centoref01_Put Q ⟨lk [(0,iv c),(1,uws ns),(6,nv w),(7,.osl [0] 1 1 0 m),(8,nv i)],H⟩ := by
  have hw64 : w≤64 := by omega
  intro j
  induction j with
  | zero =>
    intro i out H hi hl hI hp hH
    have : i = ns.length := by omega
    subst this
    rw [List.drop_eq_nil_of_le (Nat.le_refl _),putL] at hp
    refine loopC_once mixed l2_centoref01_Put.eq_1 ?_
    simp
    exact hq _ H out hp hH
  | succ j ih =>
    intro i out H hi hl hI hp hH
    have hlt : i < ns.length := by omega
    have ei : IntKind.i64.wrap ((i : Int) + 1) = ((i + 1 : Nat) : Int) := i64_same (by omega) (by omega)
    obtain ⟨f1,f2⟩ := hfit _ (List.getElem_mem hlt)
    have f1' := f1
    unfold u64R at f1'
    have hx2 := fits_lt hwc f1'.1 f2
    obtain ⟨e1,e2,e3⟩ := prod_mod (i := i) hw64 (by omega)
    rw [List.drop_eq_getElem_cons hlt,putL] at hp
    refine loopC_once mixed l2_centoref01_Put.eq_1 ?_
    simp [hlt]
    refine sc_call (rFits_spec f1) (by simp) ?_
    simp [f2]
    by_cases h0 : w = 0
    · subst h0
      rw [if_pos rfl] at hp
      refine rPut_l1 (s := 0) hw64 (by omega) (by simp) 0 0 _ (by omega) f1'.1 (by simpa using f1'.2) (fun q => ?_)
      simp [ei]
      exact ih (i + 1) out H (by omega) hl (fun h => absurd rfl h) hp hH
    · rw [if_neg h0] at hp
      have hat : i * w / 64 < out.length := by rw [hl,hm h0]; exact put_at (by omega) hlt
      obtain ⟨p1,p2,p3,p4,p5⟩ := putI_step (hI h0) (by omega) f1'.1 hx2 hat
      refine rPut_l1 (s := i * w % 64) hw64 (by omega) rfl (i * w % 64) 0 _ (by omega) f1'.1 p4 (fun q => ?_)
      have hw0 : (0 : Int) < w := by omega
      have hw0' : 0 < w := by omega
      have hg : out.getD (i * w / 64) 0 = out[i * w / 64] := by simp [hat]
      have hat' : ((i * w / 64 : Nat) : Int) < m := by omega
      have hatm : i * w / 64 < m := by omega
      rw [hg] at p1 p2 p3 p5 hp
      have ex : IntKind.u64.wrap (out[i * w / 64] + ns[i] * 2 ^ (i * w % 64)) = out[i * w / 64] + ns[i] * 2 ^ (i * w % 64) := by
        have := Int.mul_nonneg f1'.1 (show (0 : Int)≤2 ^ (i * w % 64) from Int.le_of_lt (Int.pow_pos (by decide)))
        exact u64_same (by omega) (by omega)
      have him : i * w≤1000000000 * 64 := Nat.mul_le_mul (by omega) hw64
      have eP : IntKind.i64.wrap ((i * w / 64 : Nat) : Int) = ((i * w / 64 : Nat) : Int) := i64_same (by omega) (by omega)
      generalize i * w / 64 = P at *
      simp [ei,hw0',e1,e3,hH,hat,hatm,ex,eP]
      refine ih (i + 1) (out.set P (out[P] + ns[i] * 2 ^ (i * w % 64))) _ (by omega) (by simpa using hl) (fun _ => p1) hp ?_
      simp [List.map_set]
end
theorem rPut_spec {c : Int} (c0 : 0≤c) (c6 : c < 6) {ns : List Int} (hn : ns.length≤1000000000) (hfit : ∀ x,x ∈ ns→u64R x∧fitsZ c x = true) : G.Spec Tryz.prog 69 [iv c,uws ns] (.tup [uws (putZ c ns),bv true]) := by
  obtain ⟨w,w1,w2,w3⟩ := width_cases c0 c6
  have hroom : roomZ c ns.length = (((ns.length * w + 63) / 64 : Nat) : Int) := by
    unfold roomZ
    rw [if_neg (by omega),w2]
    have e : (ns.length : Int) * w = ((ns.length * w : Nat) : Int) := by rw [Int.natCast_mul]
    rw [e]
    omega
  have hm : (roomZ c ns.length).toNat = (ns.length * w + 63) / 64 := by rw [hroom]; omega
  have hb : (ns.length * w + 63) / 64≤1000000001 := by
    have : ns.length * w≤1000000000 * 64 := Nat.mul_le_mul hn (by omega)
    omega
  refine spec_of t_centoref01_Put (by simp) fun w0 I0 => ?_
  unfold c_centoref01_Put
  simp
  refine sc_call (rWidth_spec c) rfl ?_
  rw [w1]
  have hnn : ¬ (w : Int) < 0 := by omega
  simp [hnn]
  refine sc_call (rRoom_spec c ns.length) (by simp) ?_
  rw [hroom]
  generalize hM : (ns.length * w + 63) / 64 = m at *
  have hm8 : (m : Int) * 8≤140737488355328 := by omega
  have hz : putZ c ns = putL w ns 0 (List.replicate m 0) := by
    unfold putZ
    rw [w1,hm]
    simp
  rw [hz]
  simp [hm8]
  refine ⟨by omega,?_⟩
  refine rPut_l2 hn w3 w1 hfit (m := m) (fun _ => hM.symm) (fun q H' out ho hH => ?_) ns.length 0 (List.replicate m 0) _ (by omega) (by simp) (fun _ => PutI.start w m) (by simp) ?_
  rotate_left
  · simp
  subst ho
  simp
  refine frz_tup ?_
  simp
  exact ⟨frz_row (f := uv) (by rw [hH]; simp) (by simp [putL_length]) (fun x => by simp),frz_bare rfl⟩
section
variable {n0 : Nat} {w0 : World} {I0 : Nat→Prop} {M0 : Nm→Nat→Prop} {m0 : Mu} {Q : Exit→Sta→Prop}
end
end Go.Proofs.YtbjmaoedheiigaaGreat
namespace Go.PL
set_option linter.unusedVariables false
set_option linter.unusedSimpArgs false
def trimG {α : Type} (p : α→Bool) (l : List α) : List α := (l.reverse.dropWhile p).reverse
theorem trimG_snoc {α : Type} {p : α→Bool} (l : List α) (x : α) : trimG p (l ++ [x]) = if p x = true then trimG p l else l ++ [x] := by
  unfold trimG
  rw [List.reverse_append,List.reverse_singleton,List.singleton_append,List.dropWhile_cons]
  split <;> simp
theorem snocRec {α : Type} {P : List α→Prop} (h0 : P []) (h1 : ∀ l x,P l→P (l ++ [x])) (l : List α) : P l := by
  have : ∀ m : List α,P m.reverse := by
    intro m
    induction m with
    | nil => exact h0
    | cons x m ih => rw [List.reverse_cons]; exact h1 _ _ ih
  have := this l.reverse
  rwa [List.reverse_reverse] at this
theorem trimG_getD {α : Type} {p : α→Bool} {z : α} (l : List α) : (∀ x,x ∈ l→p x = true→x = z)→∀ i,(trimG p l).getD i z = l.getD i z := by
  refine snocRec (P := fun l => (∀ x,x ∈ l→p x = true→x = z)→∀ i,(trimG p l).getD i z = l.getD i z) (fun _ i => rfl) (fun l x ih h i => ?_) l
  rw [trimG_snoc]
  split
  · rename_i hx
    rw [ih (fun y hy => h y (by simp [hy])) i]
    have := h x (by simp) hx
    subst this
    simp only [List.getD_eq_getElem?_getD,List.getElem?_append]
    split
    · rfl
    · rw [List.getElem?_eq_none (by omega)]
      by_cases e : i - l.length = 0
      · simp [e]
      · rw [List.getElem?_eq_none (by simp; omega)]
  · rfl
theorem trimG_last {α : Type} {p : α→Bool} {z : α} (l : List α) : trimG p l ≠ []→p ((trimG p l).getD ((trimG p l).length - 1) z) = false := by
  refine snocRec (P := fun l => trimG p l ≠ []→p ((trimG p l).getD ((trimG p l).length - 1) z) = false) (fun h => absurd rfl h) (fun l x ih h => ?_) l
  rw [trimG_snoc] at h ⊢
  split
  · rename_i hx
    rw [if_pos hx] at h
    exact ih h
  · rename_i hx
    simp at hx ⊢
    exact hx
theorem trimG_eq {α : Type} {p : α→Bool} {z : α} (hz : p z = true) {a b : List α} (ha : ∀ x,x ∈ a→p x = true→x = z) (hb : ∀ x,x ∈ b→p x = true→x = z) : trimG p a = trimG p b ↔ ∀ i,a.getD i z = b.getD i z := by
  constructor
  · intro h i
    rw [← trimG_getD a ha,h,trimG_getD b hb]
  · intro h
    have h' : ∀ i,(trimG p a).getD i z = (trimG p b).getD i z := fun i => by rw [trimG_getD a ha,trimG_getD b hb,h]
    have one : ∀ c d : List α,(∀ i,(trimG p c).getD i z = (trimG p d).getD i z)→(trimG p c).length≤(trimG p d).length := fun c d hcd => by
      by_cases e : trimG p c = []
      · simp [e]
      · have hl := trimG_last (z := z) c e
        have hpos : 0 < (trimG p c).length := List.length_pos_iff.2 e
        rw [hcd] at hl
        refine Nat.le_of_not_lt fun hlt => ?_
        rw [List.getD_eq_getElem?_getD,List.getElem?_eq_none (by omega)] at hl
        simp [hz] at hl
    have hlen : (trimG p a).length = (trimG p b).length := Nat.le_antisymm (one a b h') (one b a fun i => (h' i).symm)
    apply List.ext_getElem hlen
    intro i h1 h2
    have := h' i
    simpa [List.getD_eq_getElem?_getD,h1,h2] using this
theorem trimW_G (l : List Int) : trimW l = trimG (fun x => x == 0) l := rfl
theorem trimK_G (l : List T) : trimK l = trimG (fun x => x.kind == 0) l := rfl
theorem trimW_eq {a b : List Int} : trimW a = trimW b ↔ ∀ i,a.getD i 0 = b.getD i 0 := by
  rw [trimW_G,trimW_G]
  exact trimG_eq rfl (fun x _ h => by simpa using h) (fun x _ h => by simpa using h)
theorem norm_kind0 {t : T} (h : t.kind = 0) : norm t = T0 := by cases t; simp at h; rw [norm_mk,if_pos h]
theorem norm_T0 : norm T0 = T0 := norm_kind0 rfl
theorem getD_norm (l : List T) (i : Nat) : (l.map norm).getD i T0 = norm (l.getD i T0) := by
  simp only [List.getD_eq_getElem?_getD,List.getElem?_map]
  cases l[i]? with
  | none => simp [norm_T0]
  | some x => rfl
theorem trimK_eq {a b : List T} : trimK (a.map norm) = trimK (b.map norm) ↔ ∀ i,norm (a.getD i T0) = norm (b.getD i T0) := by
  have hz : ∀ c : List T,∀ x,x ∈ c.map norm→(x.kind == 0) = true→x = T0 := fun c x hx h0 => by
    obtain ⟨y,_,rfl⟩ := List.mem_map.1 hx
    simp at h0
    exact norm_kind0 h0
  rw [trimK_G,trimK_G,trimG_eq (z := T0) rfl (hz a) (hz b)]
  constructor
  · intro h i; rw [← getD_norm,← getD_norm]; exact h i
  · intro h i; rw [getD_norm,getD_norm]; exact h i
theorem struct_eq {w w' : List Int} {a b : List T} : norm (.mk 1 w a) = norm (.mk 1 w' b) ↔ (∀ i,w.getD i 0 = w'.getD i 0)∧∀ i,norm (a.getD i T0) = norm (b.getD i T0) := by
  rw [norm_mk,norm_mk]
  simp only [if_neg (show ¬ (1 : Int) = 0 by decide),if_true,T.mk.injEq,true_and]
  rw [trimW_eq,trimK_eq]
theorem other_eq {k : Int} {w w' : List Int} {a b : List T} (h0 : k ≠ 0) (h1 : k ≠ 1) : norm (.mk k w a) = norm (.mk k w' b) ↔ w = w'∧a.map norm = b.map norm := by
  rw [norm_mk,norm_mk]
  simp [h0,h1]
theorem norm_norm : ∀ t,norm (norm t) = norm t := by
  refine T.ind fun k w ks ih => ?_
  have hm : (ks.map norm).map norm = ks.map norm := by
    rw [List.map_map]
    exact List.map_congr_left fun x hx => ih x hx
  rw [norm_mk]
  split
  · exact norm_T0
  · rename_i h0
    split
    · rename_i h1
      subst h1
      rw [struct_eq (w' := w) (b := ks) |>.2 ⟨fun i => ?_,fun i => ?_⟩,norm_mk]
      · simp
      · rw [trimW_G]
        exact trimG_getD w (fun x _ h => by simpa using h) i
      · have hz : ∀ x,x ∈ ks.map norm→(x.kind == 0) = true→x = T0 := fun x hx h0 => by
          obtain ⟨y,_,rfl⟩ := List.mem_map.1 hx
          simp at h0
          exact norm_kind0 h0
        rw [trimK_G,trimG_getD _ hz i,← getD_norm,hm,getD_norm]
    · rename_i h1
      rw [norm_mk,if_neg h0,if_neg h1,hm]
def wdT (t : T) (i : Nat) : Int := t.words.getD i 0
def kdT (t : T) (i : Nat) : T := t.kids.getD i T0
inductive SmT : T→Prop
  | mk (k : Int) (w : List Int) (l : List T) : l.length≤1048576→(∀ t,t ∈ l→SmT t)→SmT (.mk k w l)
theorem SmT.len {t : T} (h : SmT t) : t.kids.length≤1048576 := by cases h; assumption
theorem SmT.kid {t : T} (h : SmT t) : ∀ c,c ∈ t.kids→SmT c := by cases h; assumption
theorem sm_T0 : SmT T0 := .mk _ _ _ (Nat.zero_le _) (fun t h => by cases h)
theorem SmT.kd {t : T} (h : SmT t) (i : Nat) : SmT (kdT t i) := by
  unfold kdT
  rw [List.getD_eq_getElem?_getD]
  cases e : t.kids[i]? with
  | none => exact sm_T0
  | some x => exact h.kid x (List.mem_of_getElem? e)
end Go.PL
namespace Go.Proofs.YtbjmaoedheiigaaGreat
set_option linter.unusedVariables false
set_option linter.unusedSimpArgs false
open Go Go.G Go.Proofs Go.PL
theorem pFits_spec {c n : Int} (h : u64R n) : G.Spec Tryz.prog 186 [iv c,uv n] (bv (fitsZ c n)) := by
  refine spec_of t_word_Fits (by simp) fun w0 I0 => ?_
  unfold c_word_Fits
  simp
  refine sc_call (width_spec c) rfl ?_
  have hw := widthZ_cases c
  unfold fitsZ
  rcases hw with h1 | h1 | h1 | h1 | h1 | h1 | h1
  all_goals
    rw [h1]
    simp
    refine frz_bool ?_
  all_goals try rfl
  all_goals
    obtain ⟨n0,n1⟩ := h
    have hb : IntKind.u64.bits = 64 := rfl
    simp [hb]
  all_goals omega
theorem tList_spec (k : Int) : G.Spec Tryz.prog 61 [iv k] (bv (decide (2≤k) && decide (k≤9))) := by
  refine spec_of t_tree_List (by simp) fun w0 I0 => ?_
  unfold c_tree_List
  simp
  exact frz_bare rfl
def pkid (list : Int) (t : T) : Bool := if isData list = true then decide (t.kind = 10) && t.kids.isEmpty && decide (t.words.length = 1) && fitsZ (list - 2) (t.words.headD 0) else if list = 9 then decide (t.kind = 1) else !decide (t.kind = 10)
theorem pkid_eq {list : Int} {t : T} {d : Nat} (h1 : list ≠ 1) : (pkid list t && rightT d t) = (rightT d t && kidOk list t) := by
  unfold pkid kidOk
  cases hd : isData list with
  | true =>
    simp only [if_true]
    by_cases h10 : t.kind = 10
    · have e : rightT d t = (decide (t.words.length = 1) && t.kids.isEmpty) := by
        obtain ⟨k,w,l⟩ := t
        simp at h10
        subst h10
        rw [rightT_mk]
        rfl
      have n9 : list ≠ 9 := fun e => by subst e; simp [isData] at hd
      rw [e]
      simp [h10,n9]
      cases decide (t.words.length = 1) <;> cases t.kids.isEmpty <;> simp
    · simp [h10]
  | false =>
    simp
    by_cases h9 : list = 9
    · subst h9
      simp
      cases h : rightT d t <;> simp
      by_cases h1 : t.kind = 1 <;> simp [h1]
    · simp [h9]
      cases h : rightT d t <;> simp
theorem pKid_spec (list : Int) (hl : i64R list) {t : T} (h : wfT t) : G.Spec Tryz.prog 181 [iv list,tX t] (bv (pkid list t)) := by
  have hw := wfT_iff.1 h
  refine spec_of t_tree_kid (by simp) fun w0 I0 => ?_
  unfold c_tree_kid
  simp
  refine sc_call (data_spec list) rfl ?_
  cases hd : isData list with
  | false =>
    simp
    by_cases h9 : list = 9
    · simp [h9]
      refine frz_bool ?_
      simp [pkid,isData]
    · simp [h9]
      refine frz_bool ?_
      simp [pkid,hd,h9]
  | true =>
    have hd' := hd
    simp [isData] at hd'
    by_cases hc : t.kind = 10∧t.kids = []∧t.words.length = 1
    · obtain ⟨c1,c2,c3⟩ := hc
      obtain ⟨x,hx⟩ : ∃ x,t.words = [x] := List.length_eq_one_iff.1 c3
      have hxr : u64R x := hw.w x (by rw [hx]; simp)
      have e2 : IntKind.i64.wrap (list - 2) = list - 2 := i64_same (by omega) (by omega)
      simp [c1,c2,hx,e2]
      refine sc_call_gt rfl (fun _ => pFits_spec hxr) (fun _ => rfl) rfl ?_
      simp
      refine frz_bool ?_
      simp [pkid,hd,c1,c2,hx]
    · have hp : pkid list t = false := by
        unfold pkid
        rw [if_pos hd]
        rw [Bool.eq_false_iff]
        intro e
        simp at e
        exact hc ⟨e.1.1.1,e.1.1.2,e.1.2⟩
      by_cases c1 : t.kind = 10
      · by_cases c2 : t.kids = []
        · have c3 : ¬ t.words.length = 1 := fun e => hc ⟨c1,c2,e⟩
          have c3' : ¬ (t.words.length : Int) = 1 := by omega
          simp [c1,c2,c3,c3']
          refine sc_call_off rfl ?_
          simp
          rw [hp]
          exact frz_bare rfl
        · have c2' : ¬ (t.kids.length : Int) = 0 := fun e => c2 (List.length_eq_zero_iff.1 (by omega))
          simp [c1,c2,c2']
          refine sc_call_off rfl ?_
          simp
          rw [hp]
          exact frz_bare rfl
      · simp [c1]
        refine sc_call_off rfl ?_
        simp
        rw [hp]
        exact frz_bare rfl
section
variable {n0 : Nat} {w0 : World} {I0 : Nat→Prop} {Q : Exit→Sta→Prop}
theorem pright_k1 {Q' : Exit→Sta→Prop} {c : T} {d : Nat} {b : Bool} {u : Nat} {p x y z : A} {H : Hp} (hd : 1≤d) (hd1 : d≤1000) (ihc : G.Spec Tryz.prog 123 [tX c,iv (d - 1 : Nat)] (bv (rightT (d - 1) c))) (hB : H [1] = ⟨u,.cells (tL c)⟩)
    (h1 : (b && rightT (d - 1) c) = true→Q' .normal ⟨lk [(1,iv d),(2,p),(71,x),(72,y),(73,z),(95,bv false)],H⟩) (h2 : (b && rightT (d - 1) c) = false→Q' .ret ⟨lk [(4,bv false)],H⟩) :
    WPC (cx Tryz.prog w0 I0 n0) k1_tree_right Q' ⟨lk [(1,iv d),(2,p),(6,.pob [1] u 0),(7,bv b),(71,x),(72,y),(73,z)],H⟩ := by
  rw [k1_tree_right.eq_1]
  have ed : IntKind.i64.wrap ((d : Int) - 1) = ((d - 1 : Nat) : Int) := by rw [i64_same (by omega) (by omega)]; omega
  cases b with
  | false =>
    simp
    refine sc_call_off rfl ?_
    simp
    exact h2 rfl
  | true =>
    simp [hB,ed]
    refine sc_call_gf rfl (fun _ => ihc) (fun _ => rfl) rfl ?_
    cases hr : rightT (d - 1) c with
    | false => simp; exact h2 (by simp [hr])
    | true => simp; exact h1 (by simp [hr])
theorem pright_l1 {t : T} (hk : i64R t.kind) (hl : t.kids.length * 56≤140737488355328) {d : Nat} (hd : 1≤d) (hd1 : d≤1000) (hw : ∀ c,c ∈ t.kids→wfT c) (ih : ∀ c,c ∈ t.kids→∀ d : Nat,d≤1000→G.Spec Tryz.prog 123 [tX c,iv d] (bv (rightT d c))) : ∀ (m i : Nat) (H : Hp),i + m = t.kids.length→H [0] = ⟨1,.cells (tL t)⟩ →
    (rightL (d - 1) t.kind (t.kids.drop i) = true→∀ i' q H',Q (.exit 1) ⟨lk [(1,iv d),(2,.pob [0] 1 0),(71,tKs t.kids),(72,iv t.kids.length),(73,iv i'),(74,bv q)],H'⟩)→(rightL (d - 1) t.kind (t.kids.drop i) = false→∀ H',Q .ret ⟨lk [(4,bv false)],H'⟩) →
    LoopC (cx Tryz.prog w0 I0 n0) l1_tree_right Q ⟨lk [(1,iv d),(2,.pob [0] 1 0),(71,tKs t.kids),(72,iv t.kids.length),(73,iv i)],H⟩ := by
  intro m
  induction m with
  | zero =>
    intro i H hi hA h1 h2
    have : i = t.kids.length := by omega
    subst this
    refine loopC_once mixed l1_tree_right.eq_1 ?_
    simp
    exact h1 (by simp) _ _ _
  | succ m ihm =>
    intro i H hi hA h1 h2
    have hlt : i < t.kids.length := by omega
    have e : t.kids.drop i = t.kids[i] :: t.kids.drop (i + 1) := List.drop_eq_getElem_cons hlt
    have ei : IntKind.i64.wrap ((i : Int) + 1) = ((i + 1 : Nat) : Int) := i64_same (by omega) (by omega)
    rw [e,rightL_cons] at h1 h2
    have hwc := hw _ (List.getElem_mem hlt)
    have ihc := ih _ (List.getElem_mem hlt) (d - 1) (by omega)
    generalize hc : t.kids[i] = c at *
    refine loopC_once mixed l1_tree_right.eq_1 ?_
    simp [hA,hlt,hc,updF_app]
    refine ⟨fun h10 => ?_,fun h10 => ?_⟩
    · have ek : kidOk t.kind c = !decide (c.kind = 10) := by
        unfold kidOk
        rw [h10]
        by_cases e : c.kind = 10 <;> simp [isData,e]
      try simp [hA,updF_app,h10]
      refine pright_k1 (c := c) hd hd1 ihc (by simp [updF_app]) (fun hr => ?_) (fun hr => ?_)
      · simp [ei]
        refine ihm (i + 1) _ (by omega) (by simp [updF_app,hA]) (fun hh => h1 ?_) (fun hh => h2 ?_)
        · rw [ek,hh]; simpa using And.comm.1 (by simpa using hr)
        · rw [hh]; simp
      · simp
        refine h2 ?_ _
        rw [ek]
        have : (rightT (d - 1) c && !decide (c.kind = 10)) = false := by rw [Bool.and_comm]; simpa using hr
        rw [this]; rfl
    · have ek := pkid_eq (t := c) (d := d - 1) h10
      simp [hA,updF_app,h10]
      refine sc_call (pKid_spec t.kind hk hwc) rfl ?_
      simp
      refine pright_k1 (c := c) hd hd1 ihc (by simp [updF_app]) (fun hr => ?_) (fun hr => ?_)
      · simp [ei]
        rw [ek] at hr
        refine ihm (i + 1) _ (by omega) (by simp [updF_app,hA]) (fun hh => h1 ?_) (fun hh => h2 ?_)
        · rw [hr,hh]; rfl
        · rw [hh]; simp
      · simp
        refine h2 ?_ _
        rw [ek] at hr
        rw [hr]; rfl
end
theorem pRight_spec : ∀ (t : T),wfT t→∀ d : Nat,d≤1000→G.Spec Tryz.prog 123 [tX t,iv d] (bv (rightT d t)) := by
  refine T.ind fun k w l ih hw d hd => ?_
  have hw' := wfT_iff.1 hw
  have hwl := hw'.wl
  have hkl := hw'.kl
  have hk := hw'.k
  simp at hwl hkl hk
  refine spec_of t_tree_right (by simp) fun w0 I0 => ?_
  unfold c_tree_right
  rw [rightT_mk]
  by_cases h0 : k = 0
  · simp [h0]
    exact frz_bool (by cases w <;> cases l <;> simp <;> (rw [← List.length_eq_zero_iff]; omega))
  by_cases h10 : k = 10
  · simp [h10]
    exact frz_bool (by cases w <;> cases l <;> simp <;> (rw [← List.length_eq_zero_iff]; omega))
  rw [if_neg h0,if_neg h10]
  obtain ⟨R,hR⟩ : ∃ R,R = (if tooBig k d w.length l.length = true then false else rightL (d - 1) k l) := ⟨_,rfl⟩
  rw [← hR]
  have bad : tooBig k d w.length l.length = true→R = false := fun h => by rw [hR,if_pos h]
  by_cases hd0 : d = 0
  · subst hd0
    simp [h0,h10]
    exact frz_bool (bad (by simp [tooBig])).symm
  have fin : tooBig k d w.length l.length = false→WPC (cx Tryz.prog w0 I0 97) k2_tree_right (RetC Tryz.prog [.tmp 4] (bv R)) ⟨lk [(1,iv d),(2,.pob [0] 1 0)],lkH [([0],⟨1,.cells [iv k,uws w,tKs l]⟩)]⟩ := fun hb => by
    rw [if_neg (by rw [hb]; simp)] at hR
    subst hR
    rw [k2_tree_right.eq_1]
    simp
    refine pright_l1 (t := .mk k w l) (by simpa using hk) (by simpa using hkl) (by omega) hd (fun c hc => hw'.ks c hc) (fun c hc => ih c hc (hw'.ks c hc)) l.length 0 _ (by simp) (by simp) (fun hr i' q H' => ?_) (fun hr H' => ?_)
    · simp
      exact frz_bool (by simpa using hr.symm)
    · simp
      exact frz_bool (by simpa using hr.symm)
  by_cases h1 : k = 1
  · subst h1
    by_cases hb : 65536≤w.length∨65536≤l.length
    · have hb' : (decide (65536≤(w.length : Int)) || decide (65536≤(l.length : Int))) = true := by simp; omega
      simp [hd0,hb']
      exact frz_bool (bad (by simp [tooBig]; omega)).symm
    · have hb' : (decide (65536≤(w.length : Int)) || decide (65536≤(l.length : Int))) = false := by simp; omega
      simp [hd0,hb']
      exact fin (by simp [tooBig]; omega)
  · simp [h0,h10,h1,hd0]
    refine sc_call (tList_spec k) rfl ?_
    simp
    refine ⟨fun hc => ?_,fun a b c e => ?_⟩
    · exact frz_bool (bad (by simp [tooBig]; omega)).symm
    · refine fin ?_
      rw [Bool.eq_false_iff]
      unfold tooBig
      simp only [Bool.or_eq_true,Bool.and_eq_true,decide_eq_true_eq,ne_eq]
      have hl0 : w.length = 0 := by first | omega | simp [c]
      omega
theorem ptRight_spec {t : T} (h : wfT t) : G.Spec Tryz.prog 74 [tX t] (bv (rightT 64 t)) := by
  refine spec_of t_tree_Right (by simp) fun w0 I0 => ?_
  unfold c_tree_Right
  simp
  refine sc_call (pRight_spec t h 64 (by omega)) (by simp) ?_
  simp
  exact frz_bare rfl
theorem kids_same {a b : List T} (hl : a.length = b.length) : a.map norm = b.map norm ↔ ∀ i,norm (a.getD i T0) = norm (b.getD i T0) := by
  constructor
  · intro h i; rw [← getD_norm,h,getD_norm]
  · intro h
    apply List.ext_getElem (by simpa using hl)
    intro i h1 h2
    have := h i
    simp at h1 h2
    simpa [List.getD_eq_getElem?_getD,h1,h2] using this
section
variable {n0 : Nat} {w0 : World} {I0 : Nat→Prop} {Q : Exit→Sta→Prop}
end
section
variable {n0 : Nat} {w0 : World} {I0 : Nat→Prop} {Q : Exit→Sta→Prop}
theorem seq_l1 {a b : List Int} (hl : a.length = b.length) (hb : a.length * 8≤140737488355328) {H : Hp} : ∀ (m i : Nat),i + m = a.length→a.take i = b.take i→(a = b→∀ q,Q (.exit 0) ⟨lk [(0,uws a),(1,uws b),(12,iv a.length),(13,iv a.length),(14,bv q)],H⟩)→(a ≠ b→Q .ret ⟨lk [(4,bv false)],H⟩) →
    LoopC (cx Tryz.prog w0 I0 n0) l1_slices_Equal_uint64_uint64 Q ⟨lk [(0,uws a),(1,uws b),(12,iv a.length),(13,iv i)],H⟩ := by
  intro m
  induction m with
  | zero =>
    intro i hi ht h1 h2
    have : i = a.length := by omega
    subst this
    rw [List.take_of_length_le (Nat.le_refl _),List.take_of_length_le (by omega)] at ht
    refine loopC_once mixed l1_slices_Equal_uint64_uint64.eq_1 ?_
    simp
    exact h1 ht _
  | succ m ih =>
    intro i hi ht h1 h2
    have hlt : i < a.length := by omega
    have hlt' : i < b.length := by omega
    have ei : IntKind.i64.wrap ((i : Int) + 1) = ((i + 1 : Nat) : Int) := i64_same (by omega) (by omega)
    refine loopC_once mixed l1_slices_Equal_uint64_uint64.eq_1 ?_
    by_cases e : a[i] = b[i]
    · simp [hlt,hlt',e,ei]
      refine ih (i + 1) (by omega) ?_ h1 h2
      rw [List.take_succ_eq_append_getElem hlt,List.take_succ_eq_append_getElem hlt',ht,e]
    · simp [hlt,hlt',e]
      exact h2 fun q => e (by simp [q])
end
theorem sEqual_spec (a b : List Int) (hb : a.length * 8≤140737488355328) : G.Spec Tryz.prog 114 [uws a,uws b] (bv (decide (a = b))) := by
  refine spec_of t_slices_Equal_uint64_uint64 (by simp) fun w0 I0 => ?_
  unfold c_slices_Equal_uint64_uint64
  by_cases hl : a.length = b.length
  · simp [hl]
    have := seq_l1 (n0 := 26) (w0 := w0) (I0 := I0) (a := a) (b := b) (H := lkH []) (Q := InBlock 0 (ThenC (WPC (cx Tryz.prog w0 I0 26) (.keep [] (.seq (.reg [co (some 4) (.assign (.const (.bool true))) none] [4]) .ret)) (RetC Tryz.prog [.tmp 4] (bv (decide (a = b))))) (RetC Tryz.prog [.tmp 4] (bv (decide (a = b)))))) hl hb a.length 0 (by simp) rfl (fun e q => ?_) (fun e => ?_)
    · rw [hl] at this
      simpa using this
    · simp
      exact frz_bool (by simp [e])
    · simp
      exact frz_bool (by simp [e])
  · have hl' : ¬ (a.length : Int) = b.length := by omega
    simp [hl,hl']
    exact frz_bool (by simp; intro e; exact absurd (by rw [e]) hl)
theorem eqS_kind {t u : T} (h : t.kind ≠ u.kind∨t.kind = 0) : eqT t u = decide (t.kind = u.kind) := by
  rw [Bool.eq_iff_iff,eqT_iff,decide_eq_true_eq]
  constructor
  · intro e; rw [← norm_kind t,e,norm_kind]
  · intro e
    rcases h with h | h
    · exact absurd e h
    · rw [norm_kind0 h,norm_kind0 (by omega)]
theorem pEqual_null {t u : T} (h : t.kind ≠ u.kind∨t.kind = 0) : G.Spec Tryz.prog 59 [tX t,tX u] (bv (eqT t u)) := by
  refine spec_of t_tree_Equal (by simp) fun w0 I0 => ?_
  unfold c_tree_Equal
  rw [eqS_kind h]
  by_cases e : t.kind = u.kind
  · have h0 : u.kind = 0 := by omega
    simp [e,h0]
    exact frz_bare rfl
  · simp [e]
    exact frz_bool (by simp [e])
section
variable {n0 : Nat} {w0 : World} {I0 : Nat→Prop} {Q : Exit→Sta→Prop}
theorem pequal_l1 {t u : T} {n : Nat} (hN : n≤100000000000000) {H : Hp} (h0 : H [0] = ⟨1,.cells (tL t)⟩) (h1 : H [1] = ⟨1,.cells (tL u)⟩)
    (hq : (∀ i,i < n→t.words.getD i 0 = u.words.getD i 0)→∀ (q : Bool),Q (.exit 0) ⟨lk [(2,.pob [0] 1 0),(3,.pob [1] 1 0),(48,iv n),(49,iv n),(50,bv q)],H⟩)
    (hf : (∃ i,t.words.getD i 0 ≠ u.words.getD i 0)→Q .ret ⟨lk [(4,bv false)],H⟩) :
    ∀ (j i : Nat),i + j = n→(∀ i',i' < i→t.words.getD i' 0 = u.words.getD i' 0) →
    LoopC (cx Tryz.prog w0 I0 n0) l1_tree_Equal Q ⟨lk [(2,.pob [0] 1 0),(3,.pob [1] 1 0),(48,iv n),(49,iv i)],H⟩ := by
  intro j
  induction j with
  | zero =>
    intro i hi he
    have : i = n := by omega
    subst this
    refine loopC_once mixed l1_tree_Equal.eq_1 ?_
    simp
    exact hq he _
  | succ j ih =>
    intro i hi he
    have hlt : i < n := by omega
    have ei : IntKind.i64.wrap ((i : Int) + 1) = ((i + 1 : Nat) : Int) := i64_same (by omega) (by omega)
    refine loopC_once mixed l1_tree_Equal.eq_1 ?_
    simp [hlt,h0,h1]
    refine sc_call (treeWord_spec t i) (by simp) ?_
    simp [h0,h1]
    refine sc_call (treeWord_spec u i) (by simp) ?_
    by_cases hw : t.words.getD i 0 = u.words.getD i 0
    · have hw' := hw
      simp only [List.getD_eq_getElem?_getD] at hw'
      simp [hw',ei]
      refine ih (i + 1) (by omega) (fun i' hi' => ?_)
      by_cases e : i' = i
      · rw [e]; exact hw
      · exact he i' (by omega)
    · have hw' := hw
      simp only [List.getD_eq_getElem?_getD] at hw'
      simp [hw']
      exact hf ⟨i,hw⟩
end
theorem getD_none {α : Type} {l : List α} {i : Nat} {z : α} (h : l.length≤i) : l.getD i z = z := by rw [List.getD_eq_getElem?_getD,List.getElem?_eq_none h]; rfl
theorem wfG_getD {u : T} (hw : wfT u) (i : Nat) : wfT (u.kids.getD i T0) := by
  by_cases hi' : i < u.kids.length
  · have e : u.kids.getD i T0 = u.kids[i] := by simp [List.getD_eq_getElem?_getD,hi']
    rw [e]
    exact (wfT_iff.1 hw).ks _ (List.getElem_mem hi')
  · have e : u.kids.getD i T0 = T0 := by rw [List.getD_eq_getElem?_getD,List.getElem?_eq_none (by simpa using hi')]; rfl
    rw [e]
    exact wfT_iff.2 ⟨by simp [i64R],by simp,by simp,by simp,by simp⟩
def EqG (t : T) : Prop := ∀ u : T,wfT t→wfT u→G.Spec Tryz.prog 59 [tX t,tX u] (bv (eqT t u))
theorem eqT_any {k : Int} {w : List Int} {a : List T} {u : T} (h0 : k ≠ 0) : eqT (.mk k w a) u = true ↔ k = u.kind∧(k = 1∨(a.length = u.kids.length∧w = u.words))∧(∀ i,w.getD i 0 = u.words.getD i 0)∧∀ i,norm (a.getD i T0) = norm (u.kids.getD i T0) := by
  rw [eqT_iff]
  obtain ⟨k',w',b⟩ := u
  by_cases hk : k = k'
  rotate_left
  · constructor
    · intro h
      have := congrArg T.kind h
      simp at this
      exact absurd this hk
    · intro h; exact absurd h.1 hk
  subst hk
  by_cases h1 : k = 1
  · subst h1
    rw [struct_eq]
    simp
  rw [other_eq h0 h1]
  constructor
  · rintro ⟨rfl,h⟩
    have hl : a.length = b.length := by simpa using congrArg List.length h
    exact ⟨rfl,.inr ⟨hl,rfl⟩,fun i => rfl,(kids_same hl).1 h⟩
  · rintro ⟨_,h,_,h3⟩
    rcases h with h | ⟨hl,rfl⟩
    · exact absurd h h1
    · exact ⟨rfl,(kids_same hl).2 h3⟩
section
variable {n0 : Nat} {w0 : World} {I0 : Nat→Prop} {Q : Exit→Sta→Prop}
theorem eqg_l2 {t u : T} {n : Nat} (hn : n≤100000000000000) (hw : wfT t) (hwu : wfT u) (hk : ∀ i,i < n→EqG (t.kids.getD i T0)) {H : Hp} (h0 : H [0] = ⟨1,.cells (tL t)⟩) (h1 : H [1] = ⟨1,.cells (tL u)⟩)
    (hq : (∀ i,i < n→norm (t.kids.getD i T0) = norm (u.kids.getD i T0))→∀ (q : Bool),Q (.exit 2) ⟨lk [(2,.pob [0] 1 0),(3,.pob [1] 1 0),(66,iv n),(67,iv n),(68,bv q)],H⟩)
    (hf : (∃ i,norm (t.kids.getD i T0) ≠ norm (u.kids.getD i T0))→Q .ret ⟨lk [(4,bv false)],H⟩) :
    ∀ (j i : Nat),i + j = n→(∀ i',i' < i→norm (t.kids.getD i' T0) = norm (u.kids.getD i' T0)) →
    LoopC (cx Tryz.prog w0 I0 n0) l2_tree_Equal Q ⟨lk [(2,.pob [0] 1 0),(3,.pob [1] 1 0),(66,iv n),(67,iv i)],H⟩ := by
  intro j
  induction j with
  | zero =>
    intro i hi he
    have : i = n := by omega
    subst this
    refine loopC_once mixed l2_tree_Equal.eq_1 ?_
    simp
    exact hq he _
  | succ j ih =>
    intro i hi he
    have hlt : i < n := by omega
    have ei : IntKind.i64.wrap ((i : Int) + 1) = ((i + 1 : Nat) : Int) := i64_same (by omega) (by omega)
    have hrec := hk i hlt (u.kids.getD i T0) (wfG_getD hw i) (wfG_getD hwu i)
    refine loopC_once mixed l2_tree_Equal.eq_1 ?_
    simp [hlt,h0,h1]
    refine sc_call (treeKid_spec t i) (by simp) ?_
    simp [h0,h1]
    refine sc_call (treeKid_spec u i) (by simp) ?_
    simp [h0,h1]
    refine sc_call hrec (by simp) ?_
    cases hb : eqT (t.kids.getD i T0) (u.kids.getD i T0) with
    | true =>
      simp [ei]
      refine ih (i + 1) (by omega) (fun i' hi' => ?_)
      by_cases e : i' = i
      · rw [e]; exact eqT_iff.1 hb
      · exact he i' (by omega)
    | false =>
      simp
      exact hf ⟨i,fun e => by rw [eqT_iff.2 e] at hb; cases hb⟩
end
set_option maxRecDepth 8000 in
theorem eqG_all : ∀ t : T,EqG t := by
  refine T.ind fun k w ks ih u hw hwu => ?_
  have hw' := wfT_iff.1 hw
  have hu' := wfT_iff.1 hwu
  have hwl := hw'.wl
  have hkl := hw'.kl
  have hul := hu'.wl
  have huk := hu'.kl
  simp only [T.words_mk,T.kids_mk] at hwl hkl
  have hk0 : ∀ i,EqG ((T.mk k w ks).kids.getD i T0) := fun i => by
    by_cases hi : i < ks.length
    · have e : (T.mk k w ks).kids.getD i T0 = ks[i] := by simp [List.getD_eq_getElem?_getD,hi]
      rw [e]; exact ih _ (List.getElem_mem hi)
    · have e : (T.mk k w ks).kids.getD i T0 = T0 := getD_none (by simpa using hi)
      rw [e]
      intro u _ _
      exact pEqual_null (.inr rfl)
  by_cases hkk : k ≠ u.kind∨k = 0
  · exact pEqual_null hkk
  have h1 : k = u.kind := by omega
  have h0 : ¬ u.kind = 0 := by omega
  simp only [T.kids_mk] at hk0
  have yes : (k = 1∨(ks.length = u.kids.length∧w = u.words))→(∀ i,w.getD i 0 = u.words.getD i 0)→(∀ i,norm (ks.getD i T0) = norm (u.kids.getD i T0))→eqT (.mk k w ks) u = true := fun a b c => (eqT_any (by omega)).2 ⟨h1,a,b,c⟩
  have no : ¬ ((k = 1∨(ks.length = u.kids.length∧w = u.words))∧(∀ i,w.getD i 0 = u.words.getD i 0)∧(∀ i,norm (ks.getD i T0) = norm (u.kids.getD i T0)))→eqT (.mk k w ks) u = false := fun h => by
    rw [Bool.eq_false_iff]
    intro e
    exact h ((eqT_any (by omega)).1 e).2
  obtain ⟨N,hN⟩ : ∃ N : Nat,N = max w.length u.words.length := ⟨_,rfl⟩
  obtain ⟨M,hM⟩ : ∃ M : Nat,M = max ks.length u.kids.length := ⟨_,rfl⟩
  have eN : max (w.length : Int) (u.words.length : Int) = (N : Int) := by omega
  have eM : max (ks.length : Int) (u.kids.length : Int) = (M : Int) := by omega
  refine spec_of t_tree_Equal (by simp) fun w0 I0 => ?_
  have main : (k = 1∨(ks.length = u.kids.length∧w = u.words))→WPC (cx Tryz.prog w0 I0 79) k1_tree_Equal (RetC Tryz.prog [.tmp 4] (bv (eqT (.mk k w ks) u))) ⟨lk [(2,.pob [0] 1 0),(3,.pob [1] 1 0)],lkH [([0],⟨1,.cells [iv k,uws w,tKs ks]⟩),([1],⟨1,.cells [iv u.kind,uws u.words,tKs u.kids]⟩)]⟩ := fun hc => by
    rw [k1_tree_Equal.eq_1]
    simp [eN]
    refine pequal_l1 (t := .mk k w ks) (u := u) (by omega) (by simp) (by simp) (fun he q => ?_) (fun hf => ?_) N 0 (by omega) (fun i hi => by omega)
    · have heq : ∀ i,w.getD i 0 = u.words.getD i 0 := fun i => by
        by_cases hi : i < N
        · exact he i hi
        · rw [getD_none (by omega),getD_none (by omega)]
      simp [eM]
      refine eqg_l2 (t := .mk k w ks) (u := u) (by omega) hw hwu (fun i _ => hk0 i) (by simp) (by simp) (fun he2 q => ?_) (fun hf => ?_) M 0 (by omega) (fun i hi => by omega)
      · simp
        refine frz_bool (yes hc heq fun i => ?_).symm
        by_cases hi : i < M
        · exact he2 i hi
        · rw [getD_none (by omega),getD_none (by omega)]
      · simp
        refine frz_bool (no fun h => ?_).symm
        obtain ⟨i,hi⟩ := hf
        exact hi (h.2.2 i)
    · simp
      refine frz_bool (no fun h => ?_).symm
      obtain ⟨i,hi⟩ := hf
      exact hi (h.2.1 i)
  unfold c_tree_Equal
  by_cases k1 : k = 1
  · have u1 : u.kind = 1 := by omega
    have hm := main (.inl k1)
    rw [u1] at hm
    subst k1
    simp [u1]
    refine sc_call_off rfl ?_
    simp
    exact stop_go hm
  · have u1 : ¬ u.kind = 1 := by omega
    by_cases hl : ks.length = u.kids.length
    · have hl' : (ks.length : Int) = u.kids.length := by omega
      simp [h1,h0,u1,hl']
      refine sc_call_gf rfl (fun _ => sEqual_spec w u.words (by omega)) (fun _ => rfl) rfl ?_
      by_cases hww : w = u.words
      · simp [hww]
        have := main (.inr ⟨hl,hww⟩)
        rw [h1,hww] at this
        exact stop_go this
      · simp [hww]
        refine frz_bool ?_
        rw [← h1]
        refine (no fun h => ?_).symm
        rcases h.1 with h | h
        · exact k1 h
        · exact hww h.2
    · have hl' : ¬ (ks.length : Int) = u.kids.length := by omega
      simp [h1,h0,u1,hl,hl']
      refine sc_call_off rfl ?_
      simp
      refine frz_bool ?_
      rw [← h1]
      exact (no fun h => by
        rcases h.1 with h | h
        · exact k1 h
        · exact hl h.1).symm
theorem eqG_spec {t u : T} (hw : wfT t) (hwu : wfT u) : G.Spec Tryz.prog 59 [tX t,tX u] (bv (eqT t u)) := eqG_all t u hw hwu
def kmF (v : Nat) (l : List T) : Fam := ⟨fun r p => if p = [] then ⟨1,.cells [.osl (r :: [0]) v 3 0 l.length]⟩ else if p = [0] then ⟨v,.arr 3 (l.map tA)⟩ else ⟨0,.none⟩,fun {γ δ r r'} hg hd p => by
    by_cases h1 : p = []
    · rw [if_pos h1,if_pos h1]
      refine Fam.cells_ren ?_
      simp [A.renL,A.ren,hg,hd]
    · rw [if_neg h1,if_neg h1]
      by_cases h2 : p = [0]
      · rw [if_pos h2]
        exact Fam.arr_ren ((FamL.all trs_fam).ren hg hd)
      · rw [if_neg h2]; rfl,fun {D r} hD p => by
    by_cases h1 : p = []
    · rw [if_pos h1]
      simp [Ob.refs,A.refsL,A.refs,hD]
    · rw [if_neg h1]
      by_cases h2 : p = [0]
      · rw [if_pos h2]
        exact (FamL.all trs_fam).refs hD
      · rw [if_neg h2]; trivial⟩
@[simp] theorem kmF_F {v : Nat} {l : List T} {r : Nat} {p : Nm} : (kmF v l).F r p = if p = [] then ⟨1,.cells [.osl (r :: [0]) v 3 0 l.length]⟩ else if p = [0] then ⟨v,.arr 3 (l.map tA)⟩ else ⟨0,.none⟩ := rfl
noncomputable def ofU (v : Nat) (ks : List T) (t : T) : Nat := if clsI ks t < ks.length then v else v + 1
noncomputable def ofVs : Nat→List T→List T→Nat
  | v,_,[] => v
  | v,ks,t :: l => ofVs (ofU v ks (norm t)) (clsK ks (norm t)) l
theorem ofVs_append : ∀ (l : List T) (u : Nat) (ks : List T) (t : T),ofVs u ks (l ++ [t]) = ofU (ofVs u ks l) (clsL ks l).1 (norm t)
  | [],u,ks,t => by simp [ofVs,clsL]
  | a :: l,u,ks,t => by simp [ofVs,clsL,ofVs_append l]
theorem clsK_nrm {ks : List T} {n : T} (h : ∀ k,k ∈ ks→norm k = k) (hn : norm n = n) : ∀ k,k ∈ clsK ks n→norm k = k := by
  unfold clsK
  split
  · exact h
  · intro k hk
    rcases List.mem_append.1 hk with hk | hk
    · exact h k hk
    · simp at hk; subst hk; exact hn
theorem clsL_nrm : ∀ {l ks : List T},(∀ k,k ∈ ks→norm k = k)→∀ k,k ∈ (clsL ks l).1→norm k = k
  | [],ks,h => h
  | t :: l,ks,h => clsL_nrm (l := l) (clsK_nrm h (norm_norm t))
section
variable {n0 : Nat} {w0 : World} {I0 : Nat→Prop} {M0 : Nm→Nat→Prop} {m0 : Mu} {Q : Exit→Sta→Prop}
theorem of_l1 {ks : List T} (hw : ∀ k,k ∈ ks→wfT k) (hn : ∀ k,k ∈ ks→norm k = k) (hl : ks.length≤1000000) {t : T} (wt : wfT t) (nt : norm t = t) {v w i N y : Nat} {na : Nat} {acc : List Nat} (hna : na = acc.length) (hacc : acc.length≤1000000) {X : A}
    (hq : clsI ks t = ks.length→∀ (st : List (Nat × A)) (H' : Hp),(∀ p,H' (0 :: p) = (kmF v ks).F 0 p)→H' [1] = ⟨y,.cells (tL t)⟩→H' [3] = ⟨w,.arr 1 (acc.map nv)⟩→Q (.exit 2) ⟨lk ([(0,.pob [0] 1 0),(5,.osl [3] w 1 0 na),(7,.pob [1] y 0),(10,X),(11,iv N),(12,iv i)] ++ st),H'⟩)
    (hq2 : clsI ks t < ks.length→∀ (H' : Hp),(∀ p,H' (0 :: p) = (kmF v ks).F 0 p)→H' [3] = ⟨w + 1,.arr 1 ((acc ++ [clsI ks t]).map nv)⟩→Q (.exit 1) ⟨lk [(0,.pob [0] 1 0),(5,.osl [3] (w + 1) 1 0 (na + 1)),(10,X),(11,iv N),(12,iv i)],H'⟩) :
    ∀ (m j : Nat) (H : Hp),j + m = ks.length→(∀ (x : Nat) (hx : x < j) (h : x < ks.length),ks[x] ≠ t)→(∀ p,H (0 :: p) = (kmF v ks).F 0 p)→H [1] = ⟨y,.cells (tL t)⟩→H [3] = ⟨w,.arr 1 (acc.map nv)⟩ →
    LoopC (cxh Tryz.prog w0 I0 M0 n0 m0) l1_diff_classes_of Q ⟨lk [(0,.pob [0] 1 0),(5,.osl [3] w 1 0 na),(7,.pob [1] y 0),(10,X),(11,iv N),(12,iv i),(19,.osl [0,0] v 3 0 ks.length),(20,iv ks.length),(21,iv j)],H⟩ := by
  subst hna
  intro m
  induction m with
  | zero =>
    intro j H hj hb hF h1 h3
    have : j = ks.length := by omega
    subst this
    refine loopC_once mixed l1_diff_classes_of.eq_1 ?_
    simp
    exact hq (clsI_none fun hm => by
      obtain ⟨x,hx,e⟩ := List.mem_iff_getElem.1 hm
      exact hb x hx hx e) [(19,.osl [0,0] v 3 0 ks.length),(20,iv ks.length),(21,iv ks.length),(22,bv false)] H hF h1 h3
  | succ m ih =>
    intro j H hj hb hF h1 h3
    have hlt : j < ks.length := by omega
    have ew : IntKind.i64.wrap ((j : Int) + 1) = ((j + 1 : Nat) : Int) := by rw [i64_same (by omega) (by omega)]; omega
    have hF1 := hF [0]
    simp at hF1
    have hk := List.getElem_mem hlt
    refine loopC_once mixed l1_diff_classes_of.eq_1 ?_
    simp [hlt,hF1,h1,updF_app]
    refine sc_call (eqG_spec (hw _ hk) wt) (by simp) ?_
    have hE : eqT ks[j] t = sameB ks[j] t := by unfold eqT; rw [hn _ hk,nt]
    rw [hE]
    by_cases he : ks[j] = t
    · have hc := clsI_first hlt he fun x hx => hb x hx (by omega)
      have hs : sameB ks[j] t = true := sameB_iff.2 he
      rw [hc] at hq2
      simp [hs,updF_app,h3]
      refine ⟨by omega,?_⟩
      simp [InBlock]
      exact hq2 hlt _ (fun p => by simp [updF_app,hF]) (by simp [updF_app,List.take_of_length_le])
    · have hs : sameB ks[j] t = false := by rw [Bool.eq_false_iff]; exact fun h => he (sameB_iff.1 h)
      simp [hs,ew]
      refine ih (j + 1) _ (by omega) (fun x hx h => ?_) (fun p => by simp [updF_app,hF]) (by simp [updF_app,h1]) (by simp [updF_app,h3])
      by_cases e : x = j
      · subst e; exact he
      · exact hb x (by omega) h
theorem of_l2 {ks0 ts : List T} (hw : ∀ k,k ∈ ks0→wfT k) (hn : ∀ k,k ∈ ks0→norm k = k) (ht : ∀ k,k ∈ ts→wfT k) (htn : ∀ k,k ∈ ts→norm k = k) (hl : ks0.length + ts.length≤1000000) {v0 : Nat}
    (hq : ∀ (st : List (Nat × A)) (H' : Hp),(∀ p,H' (0 :: p) = (kmF (ofVs v0 ks0 ts) (clsL ks0 ts).1).F 0 p)→H' [3] = ⟨ts.length + 1,.arr 1 ((clsL ks0 ts).2.map nv)⟩→Q (.exit 0) ⟨lk ([(0,.pob [0] 1 0),(5,.osl [3] (ts.length + 1) 1 0 ts.length)] ++ st),H'⟩) :
    ∀ (m i : Nat) (H : Hp),i + m = ts.length→(∀ p,H (0 :: p) = (kmF (ofVs v0 ks0 (ts.take i)) (clsL ks0 (ts.take i)).1).F 0 p)→H [3] = ⟨i + 1,.arr 1 ((clsL ks0 (ts.take i)).2.map nv)⟩ →
    LoopC (cxh Tryz.prog w0 I0 M0 n0 m0) l2_diff_classes_of Q ⟨lk [(0,.pob [0] 1 0),(5,.osl [3] (i + 1) 1 0 i),(10,tKs ts),(11,iv ts.length),(12,iv i)],H⟩ := by
  intro m
  induction m with
  | zero =>
    intro i H hi hF h3
    have : i = ts.length := by omega
    subst this
    rw [List.take_of_length_le (Nat.le_refl _)] at hF h3
    refine loopC_once mixed l2_diff_classes_of.eq_1 ?_
    simp
    exact hq [(10,tKs ts),(11,iv ts.length),(12,iv ts.length),(13,bv false)] H hF h3
  | succ m ih =>
    intro i H hi hF h3
    have hlt : i < ts.length := by omega
    have ew : IntKind.i64.wrap ((i : Int) + 1) = ((i + 1 : Nat) : Int) := by rw [i64_same (by omega) (by omega)]; omega
    have htk : ts.take (i + 1) = ts.take i ++ [ts[i]] := List.take_succ_eq_append_getElem hlt
    have hti := List.getElem_mem hlt
    have nt := htn _ hti
    have hlen := clsL_len (ts.take i) ks0
    rw [List.length_take,Nat.min_eq_left (by omega)] at hlen
    have hkw := clsL_wf hw (l := ts.take i) fun k hk => ht k (List.mem_of_mem_take hk)
    have hkn := clsL_nrm hn (l := ts.take i) 
    have hlL : (clsL ks0 (ts.take i)).2.length = i := by rw [clsL_length,List.length_take,Nat.min_eq_left (by omega)]
    have ihn := ih (i + 1)
    rw [htk,ofVs_append,clsL_append,nt] at ihn
    simp only at ihn
    have hF0 := hF []
    have hF1 := hF [0]
    simp at hF0 hF1
    generalize hv : ofVs v0 ks0 (ts.take i) = v at *
    generalize hL : (clsL ks0 (ts.take i)).2 = L at *
    generalize hK : (clsL ks0 (ts.take i)).1 = K at *
    refine loopC_once mixed l2_diff_classes_of.eq_1 ?_
    simp [hlt,hF0,updF_app]
    refine LoopC.le (le_list [(0,.pob [0] 1 0),(5,.osl [3] (i + 1) 1 0 i),(7,.pob [1] ((H [1]).u + 1) 0),(10,tKs ts),(11,iv ts.length),(12,iv i),(19,.osl [0,0] v 3 0 K.length),(20,iv K.length),(21,iv (0 : Nat))] (by simp)) ?_
    refine of_l1 hkw hkn (by omega) (ht _ hti) nt (v := v) (w := i + 1) (i := i) (N := ts.length) (acc := L) hlL.symm (by omega) (X := tKs ts) (y := (H [1]).u + 1) (fun hc st H' g0 g1 g3 => ?_) (fun hc H' g0 g3 => ?_) K.length 0 _ (by omega) (fun x hx => by omega) (fun p => by simp [hF,updF_app]) (by simp [updF_app]) (by simp [updF_app,h3])
    · have g00 := g0 []
      have g01 := g0 [0]
      simp at g00 g01
      rw [hc] at ihn
      have hcK : clsK K ts[i] = K ++ [ts[i]] := by unfold clsK; rw [if_neg (by omega)]
      have hcU : ofU v K ts[i] = v + 1 := by unfold ofU; rw [if_neg (by omega)]
      rw [hcK,hcU] at ihn
      simp [InBlock,g00,g01,g1,g3,hlL,updF_app]
      refine ⟨by omega,by omega,by omega,?_⟩
      rw [ew]
      refine ihn _ (by omega) (fun p => ?_) (by simp [updF_app,hlL,List.take_of_length_le])
      by_cases h1 : p = []
      · subst h1; simp [updF_app]
      · by_cases h2 : p = [0]
        · subst h2; simp [updF_app,List.take_of_length_le]
        · simp [h1,h2,updF_app,g0]
    · have hcK : clsK K ts[i] = K := by unfold clsK; rw [if_pos hc]
      have hcU : ofU v K ts[i] = v := by unfold ofU; rw [if_pos hc]
      rw [hcK,hcU] at ihn
      simp [InBlock,ew]
      exact ihn _ (by omega) g0 g3
end
theorem clsOf_spec {ks ts : List T} (hw : ∀ k,k ∈ ks→wfT k) (hn : ∀ k,k ∈ ks→norm k = k) (ht : ∀ k,k ∈ ts→wfT k) (htn : ∀ k,k ∈ ts→norm k = k) (hl : ks.length + ts.length≤1000000) (v : Nat) :
    SpecF Tryz.prog 118 (fun r => [.pob [r] 1 0,tKs ts]) (kmF v ks) (fun r => .sl false ((clsL ks ts).2.map nv)) (kmF (ofVs v ks ts) (clsL ks ts).1) := by
  refine specF_of' t_diff_classes_of (by simp) (famL_cons famA_pob (famL_cons famA_sl famL_nil)) famA_sl fun w0 I0 M0 m0 hM => ?_
  unfold c_diff_classes_of
  simp
  refine LoopC.le (le_blank 5 [3] 1 (by simp)) ?_
  refine LoopC.le (le_list [(0,.pob [0] 1 0),(5,.osl [3] (0 + 1) 1 0 0),(10,tKs ts),(11,iv ts.length),(12,iv (0 : Nat))] (by simp [upd])) ?_
  refine of_l2 hw hn ht htn hl (v0 := v) (fun st H' g0 g3 => ?_) ts.length 0 _ (by omega) (fun p => ?_) ?_
  · simp
    obtain ⟨H2,k1,k2⟩ := le_freezeR (c := cxh Tryz.prog w0 I0 M0 55 m0) (s := lk [(5,.osl [3] (ts.length + 1) 1 0 ts.length)]) (H := H') (fun r => 1≤r) (fun r p b hr => hM r p b hr) 5 (.sl false ((clsL ks ts).2.map nv)) (fun H1 e1 => by
      have e2 : H1 [3] = H' [3] := e1 3 [] (by omega)
      simp
      exact frz_row (o := [3]) (u := ts.length + 1) (n := ts.length) (sz := 1) (l := (clsL ks ts).2) (f := nv) (by rw [e2,g3]; simp) (clsL_length ts ks).symm (fun x => rfl))
    refine stop_le k1 (stop_go ?_)
    simp [upd]
    exact reth_fam rfl rfl fun p => (k2 0 p (by omega)).trans (g0 p)
  · simp [clsL,ofVs]
  · simp [clsL]
end Go.Proofs.YtbjmaoedheiigaaGreat
namespace Go.PL
set_option linter.unusedVariables false
set_option linter.unusedSimpArgs false
def cntW : List Int→List Int→Nat
  | a :: l,b :: m => (if a = b then 1 else 0) + cntW l m
  | _,_ => 0
noncomputable def cntK : List T→List T→Nat
  | a :: l,b :: m => (if eqT a b = true then 1 else 0) + cntK l m
  | _,_ => 0
noncomputable def scoreT (a b : T) : Nat := if a.kind ≠ b.kind∨a.kind = 0∨a.kind = 10 then 0 else 1 + cntW a.words b.words + cntK a.kids b.kids
theorem cntW_at {l m : List Int} {i : Nat} (h1 : i < l.length) (h2 : i < m.length) : cntW (l.drop i) (m.drop i) = (if l[i] = m[i] then 1 else 0) + cntW (l.drop (i + 1)) (m.drop (i + 1)) := by
  rw [(List.getElem_cons_drop h1).symm,(List.getElem_cons_drop h2).symm,cntW]
theorem cntK_at {l m : List T} {i : Nat} (h1 : i < l.length) (h2 : i < m.length) : cntK (l.drop i) (m.drop i) = (if eqT l[i] m[i] = true then 1 else 0) + cntK (l.drop (i + 1)) (m.drop (i + 1)) := by
  rw [(List.getElem_cons_drop h1).symm,(List.getElem_cons_drop h2).symm,cntK]
theorem cntW_end {l m : List Int} {i : Nat} (h : i = min l.length m.length) : cntW (l.drop i) (m.drop i) = 0 := by
  by_cases h1 : i = l.length
  · rw [List.drop_eq_nil_of_le (by omega : l.length≤i)]; cases m.drop i <;> rfl
  · rw [List.drop_eq_nil_of_le (by omega : m.length≤i)]; cases l.drop i <;> rfl
theorem cntK_end {l m : List T} {i : Nat} (h : i = min l.length m.length) : cntK (l.drop i) (m.drop i) = 0 := by
  by_cases h1 : i = l.length
  · rw [List.drop_eq_nil_of_le (by omega : l.length≤i)]; cases m.drop i <;> rfl
  · rw [List.drop_eq_nil_of_le (by omega : m.length≤i)]; cases l.drop i <;> rfl
theorem cntW_len : ∀ l m,cntW l m≤l.length
  | [],_ => by simp [cntW]
  | _ :: _,[] => by simp [cntW]
  | a :: l,b :: m => by
    have := cntW_len l m
    unfold cntW
    simp
    split <;> omega
end Go.PL
namespace Go.PL
set_option linter.unusedVariables false
set_option linter.unusedSimpArgs false
open List
theorem candS_mem : ∀ {rs : List (List Int)} {i : Nat} {x : Sc},x ∈ candS i rs→i≤x.i∧x.i < 16∧x.j < 16∧0 < x.n∧∃ r,rs[x.i - i]? = some r∧r[x.j]? = some x.n
  | [],i,x,h => by simp [candS] at h
  | r :: rs,i,x,h => by
    unfold candS at h
    rcases List.mem_append.1 h with h | h
    · obtain ⟨h1,h2,h3,h4,h5,h6,h7⟩ := candR_lt h
      exact ⟨by omega,by omega,h3,h7,r,by rw [h1]; simp,by simpa using h6⟩
    · obtain ⟨h1,h2,h3,h4,r',h5,h6⟩ := candS_mem h
      refine ⟨by omega,h2,h3,h4,r',?_,h6⟩
      rw [show x.i - i = (x.i - (i + 1)) + 1 by omega]
      simpa using h5
end Go.PL
namespace Go.Proofs.YtbjmaoedheiigaaGreat
set_option linter.unusedVariables false
set_option linter.unusedSimpArgs false
open Go Go.G Go.Proofs Go.PL
theorem picks_all26 (rs : List (List Int)) : ∃ o',Picks (candS 0 rs) [] o'∧o'.length≤16 := by
  obtain ⟨o',h⟩ := picks_any (all := candS 0 rs) (by have := candS_len (rs := rs) (i := 0); omega)
  obtain ⟨h1,h2⟩ := picks_facts h
  refine ⟨o',h,?_⟩
  have hs := srt_ok h1
  rw [← hs.2.length_eq]
  have := rises_len (srtI o') 0 16 hs.1 fun x hx => ⟨by omega,(candS_mem (h2 x (hs.2.subset hx))).2.1⟩
  omega
noncomputable def scR (a b : List T) : List (List Int) := a.map fun x => b.map fun y => (scoreT x y : Int)
noncomputable def pkO (rs : List (List Int)) : List Sc := (picks_all26 rs).choose
noncomputable def pkG (rs : List (List Int)) : List Sc := srtI (pkO rs)
theorem pkO_ok (rs : List (List Int)) : Picks (candS 0 rs) [] (pkO rs)∧(pkO rs).length≤16 := (picks_all26 rs).choose_spec
def gapO (one : T→T→E) (a b : List T) : List Sc→Nat→Nat→List OP→List OP
  | [],i,j,out => out ++ delO (a.drop i) ++ insO (b.drop j)
  | x :: xs,i,j,out => gapO one a b xs (x.i + 1) (x.j + 1) (out ++ delO ((a.take x.i).drop i) ++ insO ((b.take x.j).drop j) ++ [.mk 3 0 [] (one (a.getD x.i T0) (b.getD x.j T0))])
noncomputable def gapE (one : T→T→E) (a b : List T) : List OP := gapO one a b (pkG (scR a b)) 0 0 []
def opsG (gap : List T→List T→List OP) : List Sp→List T→List T→List OP→List OP
  | [],_,_,out => out
  | [s],a,b,out => if s.k = 0 then out ++ [.mk 0 s.n [] E0] else if s.k = 2 then out ++ insO (b.take s.n) else out ++ delO (a.take s.n)
  | s :: s2 :: ss,a,b,out =>
    if s.k = 0 then opsG gap (s2 :: ss) (a.drop s.n) (b.drop s.n) (out ++ [.mk 0 s.n [] E0])
    else if s.k = 2 then opsG gap (s2 :: ss) a (b.drop s.n) (out ++ insO (b.take s.n))
    else if s2.k = 2 then opsG gap ss (a.drop s.n) (b.drop s2.n) (out ++ gap (a.take s.n) (b.take s2.n))
    else opsG gap (s2 :: ss) (a.drop s.n) b (out ++ delO (a.take s.n))
abbrev zsN (l : List Nat) : List Int := l.map fun n : Nat => (n : Int)
noncomputable def caL (a : T) : List Int := zsN (clsL [] a.kids).2
noncomputable def cbL (a b : T) : List Int := zsN (clsL (clsL [] a.kids).1 b.kids).2
noncomputable def listE (one : T→T→E) (most : Int) (a b : T) : E :=
  .mk 3 T0 T0 [] [] a.kind (if (distL (caL a) (cbL a b) : Int)≤most then opsG (gapE one) (nrmS (wayU (caL a) (cbL a b))) a.kids b.kids [] else gapE one a.kids b.kids)
def wrdL (a b : T) (m : Nat) : List WE := (List.range m).filterMap fun i => if unlZ (a.words.getD i 0) (b.words.getD i 0) = 0 then none else some (wdE i (a.words.getD i 0) (b.words.getD i 0))
def kidL26 (one : T→T→E) (a b : T) (m : Nat) : List KE := (List.range m).filterMap fun i => if (one (a.kids.getD i T0) (b.kids.getD i T0)).kind = 0 then none else some (.mk i (one (a.kids.getD i T0) (b.kids.getD i T0)))
def strE (one : T→T→E) (a b : T) : E := .mk 2 T0 T0 (wrdL a b (max a.words.length b.words.length)) (kidL26 one a b (max a.kids.length b.kids.length)) 0 []
noncomputable def oneE (most : Int) : Nat→T→T→E
  | 0,a,b => if eqT a b = true then E0 else .mk 1 a b [] [] 0 []
  | f + 1,a,b => if eqT a b = true then E0 else if a.kind = 1∧b.kind = 1 then strE (oneE most f) a b else if a.kind = b.kind∧2≤a.kind∧a.kind≤9 then listE (oneE most f) most a b else .mk 1 a b [] [] 0 []
def dA (us : List Nat) : Nat := us.countP fun x => x != 2
def dB (us : List Nat) : Nat := us.countP fun x => x != 1
theorem dA_rep (n k : Nat) : dA (List.replicate n k) = if k = 2 then 0 else n := by unfold dA; rw [List.countP_replicate]; by_cases h : k = 2 <;> simp [h]
theorem dB_rep (n k : Nat) : dB (List.replicate n k) = if k = 1 then 0 else n := by unfold dB; rw [List.countP_replicate]; by_cases h : k = 1 <;> simp [h]
theorem dA_app (a b : List Nat) : dA (a ++ b) = dA a + dA b := List.countP_append
theorem dB_app (a b : List Nat) : dB (a ++ b) = dB a + dB b := List.countP_append
theorem goU_dA : ∀ (us : List Nat) (k d i : Nat),(∀ x,x ∈ us→x≤2)→dA (unitsS (goU us k d i)) = k + d + dA us∧dB (unitsS (goU us k d i)) = k + i + dB us
  | [],k,d,i,_ => by
    simp only [goU,units_app,units_fl,dA_app,dB_app,dA_rep,dB_rep]
    simp [dA,dB]
  | x :: us,k,d,i,h => by
    have hx := h x (by simp)
    have hu : ∀ y,y ∈ us→y≤2 := fun y hy => h y (by simp [hy])
    have e1 : dA (x :: us) = (if x = 2 then 0 else 1) + dA us := by
      have := dA_app [x] us
      rw [show [x] = List.replicate 1 x from rfl,dA_rep] at this
      simpa using this
    have e2 : dB (x :: us) = (if x = 1 then 0 else 1) + dB us := by
      have := dB_app [x] us
      rw [show [x] = List.replicate 1 x from rfl,dB_rep] at this
      simpa using this
    rw [e1,e2,goU]
    have hx3 : x = 0∨x = 1∨x = 2 := by omega
    rcases hx3 with rfl | rfl | rfl
    · obtain ⟨h1,h2⟩ := goU_dA us (k + 1) 0 0 hu
      simp only [if_true,units_app,units_fl,dA_app,dB_app,dA_rep,dB_rep,h1,h2]
      simp
      omega
    · obtain ⟨h1,h2⟩ := goU_dA us 0 (d + 1) i hu
      simp [dA_app,dB_app,dA_rep,dB_rep,h1,h2]
      omega
    · obtain ⟨h1,h2⟩ := goU_dA us 0 d (i + 1) hu
      simp [dA_app,dB_app,dA_rep,dB_rep,h1,h2]
      omega
theorem nrmS_d (us : List Nat) (h : ∀ x,x ∈ us→x≤2) : dA (unitsS (nrmS us)) = dA us∧dB (unitsS (nrmS us)) = dB us := by
  have := goU_dA us 0 0 0 h
  unfold nrmS
  omega
theorem goU_ok : ∀ (us : List Nat) (k d i : Nat),(∀ x,x ∈ us→x≤2)→∀ s,s ∈ goU us k d i→s.k≤2∧1≤s.n
  | [],k,d,i,_,s,hs => by
    simp only [goU,List.mem_append] at hs
    rcases hs with hs | hs | hs <;> (unfold fl at hs; split at hs <;> simp at hs; subst hs; simp; omega)
  | x :: us,k,d,i,h,s,hs => by
    have hu : ∀ y,y ∈ us→y≤2 := fun y hy => h y (by simp [hy])
    rw [goU] at hs
    have fin : ∀ q n,q≤2→s ∈ fl q n→s.k≤2∧1≤s.n := fun q n hq hs => by
      unfold fl at hs; split at hs <;> simp at hs; subst hs; simp; omega
    split at hs
    · simp only [List.mem_append] at hs
      rcases hs with hs | hs | hs
      · exact fin 1 _ (by omega) hs
      · exact fin 2 _ (by omega) hs
      · exact goU_ok us _ _ _ hu s hs
    · rw [List.mem_append] at hs
      rcases hs with hs | hs
      · exact fin 0 _ (by omega) hs
      · split at hs
        · exact goU_ok us _ _ _ hu s hs
        · exact goU_ok us _ _ _ hu s hs
theorem stpU_in (p q : Nat) : ∀ x,x ∈ stpU p q→x≤2 := by
  intro x hx
  unfold stpU at hx
  split at hx
  · rcases List.mem_append.1 hx with h | h
    · have := List.eq_of_mem_replicate h; omega
    · simp at h; omega
  · simp at hx; omega
theorem stpU_d {p q : Nat} (h : p≤q) : dA (stpU p q) = 1∧dB (stpU p q) = q - p := by
  unfold stpU
  split
  · rw [dA_app,dB_app,dA_rep,dB_rep]
    simp [dA,dB]
    omega
  · simp [dA,dB]
    omega
theorem wayU_in (a b : List Int) : ∀ x,x ∈ wayU a b→x≤2 := by
  intro x hx
  unfold wayU at hx
  rcases List.mem_append.1 hx with h | h
  · obtain ⟨i,_,hi⟩ := List.mem_flatMap.1 h
    exact stpU_in _ _ x hi
  · have := List.eq_of_mem_replicate h; omega
theorem wayU_dp (a b : List Int) : ∀ n,n≤a.length→dA ((List.range n).flatMap (fun i => stpU (wayN a b i) (wayN a b (i + 1)))) = n∧dB ((List.range n).flatMap (fun i => stpU (wayN a b i) (wayN a b (i + 1)))) = wayN a b n
  | 0,_ => by simp [dA,dB,way_zero]
  | n + 1,h => by
    obtain ⟨h1,h2⟩ := wayU_dp a b n (by omega)
    have hm := way_mono (a := a) (b := b) (i := n) (h := n + 1) (by omega) h
    obtain ⟨g1,g2⟩ := stpU_d hm
    rw [List.range_succ,List.flatMap_append,dA_app,dB_app,h1,h2]
    simp [g1,g2]
    omega
theorem wayU_d (a b : List Int) : dA (wayU a b) = a.length∧dB (wayU a b) = b.length := by
  obtain ⟨h1,h2⟩ := wayU_dp a b a.length (Nat.le_refl _)
  have hl := (way_on (a := a) (b := b) (i := a.length) (Nat.le_refl _)).2.1
  unfold wayU
  rw [dA_app,dB_app,h1,h2,dA_rep,dB_rep]
  simp
  omega
abbrev prs (l : List Sc) : A := .sl false (l.map prA)
section
variable {n0 : Nat} {w0 : World} {I0 : Nat→Prop} {Q : Exit→Sta→Prop}
end
section
variable {n0 : Nat} {w0 : World} {I0 : Nat→Prop} {Q : Exit→Sta→Prop}
theorem psc_l1 {a b : T} {H : Hp} (ha : wfT a) (hb : wfT b) (h0 : H [0] = ⟨1,.cells (tL a)⟩) (h1 : H [1] = ⟨1,.cells (tL b)⟩) : ∀ (m i n : Nat),i + m = min a.words.length b.words.length→n≤1 + i →
    (∀ st,Q (.exit 0) ⟨lk ([(2,.pob [0] 1 0),(3,.pob [1] 1 0),(5,nv (n + cntW (a.words.drop i) (b.words.drop i)))] ++ st),H⟩) →
    LoopC (cx Tryz.prog w0 I0 n0) l1_pair_Score Q ⟨lk [(2,.pob [0] 1 0),(3,.pob [1] 1 0),(5,nv n),(29,iv (min a.words.length b.words.length : Nat)),(30,iv i)],H⟩ := by
  have hal := (wfT_iff.1 ha).wl
  intro m
  induction m with
  | zero =>
    intro i n hm hn hq
    refine loopC_once mixed l1_pair_Score.eq_1 ?_
    rw [cntW_end (by omega)] at hq
    generalize min a.words.length b.words.length = N at *
    simp [show ¬ i < N by omega]
    exact hq [(29,iv N),(30,iv i),(31,bv false)]
  | succ m ih =>
    intro i n hm hn hq
    have hi : i < a.words.length := by omega
    have hj : i < b.words.length := by omega
    have e1 : IntKind.i64.wrap ((i : Int) + 1) = ((i + 1 : Nat) : Int) := by rw [i64_same (by omega) (by omega)]; omega
    have e2 : IntKind.i64.wrap ((n : Int) + 1) = ((n + 1 : Nat) : Int) := by rw [i64_same (by omega) (by omega)]; omega
    rw [cntW_at hi hj] at hq
    generalize min a.words.length b.words.length = N at *
    have hN : i < N := by omega
    refine loopC_once mixed l1_pair_Score.eq_1 ?_
    by_cases h : a.words[i] = b.words[i]
    · simp [h0,h1,hi,hj,hN,h,e1,e2]
      refine ih (i + 1) (n + 1) (by omega) (by omega) fun st => ?_
      have := hq st
      rw [if_pos h] at this
      rw [show n + 1 + cntW (a.words.drop (i + 1)) (b.words.drop (i + 1)) = n + (1 + cntW (a.words.drop (i + 1)) (b.words.drop (i + 1))) by omega]
      exact this
    · simp [h0,h1,hi,hj,hN,h,e1]
      refine ih (i + 1) n (by omega) (by omega) fun st => ?_
      have := hq st
      rw [if_neg h,Nat.zero_add] at this
      exact this
theorem psc_l2 {a b : T} {H : Hp} (ha : wfT a) (hb : wfT b) (h0 : H [0] = ⟨1,.cells (tL a)⟩) (h1 : H [1] = ⟨1,.cells (tL b)⟩) : ∀ (m i n : Nat),i + m = min a.kids.length b.kids.length→n≤100000000000000 + i →
    (∀ st,Q (.exit 2) ⟨lk ([(2,.pob [0] 1 0),(3,.pob [1] 1 0),(5,nv (n + cntK (a.kids.drop i) (b.kids.drop i)))] ++ st),H⟩) →
    LoopC (cx Tryz.prog w0 I0 n0) l2_pair_Score Q ⟨lk [(2,.pob [0] 1 0),(3,.pob [1] 1 0),(5,nv n),(53,iv (min a.kids.length b.kids.length : Nat)),(54,iv i)],H⟩ := by
  have hal := (wfT_iff.1 ha).kl
  intro m
  induction m with
  | zero =>
    intro i n hm hn hq
    refine loopC_once mixed l2_pair_Score.eq_1 ?_
    rw [cntK_end (by omega)] at hq
    generalize min a.kids.length b.kids.length = N at *
    simp [show ¬ i < N by omega]
    exact hq [(53,iv N),(54,iv i),(55,bv false)]
  | succ m ih =>
    intro i n hm hn hq
    have hi : i < a.kids.length := by omega
    have hj : i < b.kids.length := by omega
    have e1 : IntKind.i64.wrap ((i : Int) + 1) = ((i + 1 : Nat) : Int) := by rw [i64_same (by omega) (by omega)]; omega
    have e2 : IntKind.i64.wrap ((n : Int) + 1) = ((n + 1 : Nat) : Int) := by rw [i64_same (by omega) (by omega)]; omega
    have hE := eqG_spec ((wfT_iff.1 ha).ks _ (List.getElem_mem hi)) ((wfT_iff.1 hb).ks _ (List.getElem_mem hj))
    rw [cntK_at hi hj] at hq
    generalize min a.kids.length b.kids.length = N at *
    have hN : i < N := by omega
    refine loopC_once mixed l2_pair_Score.eq_1 ?_
    simp [h0,h1,hi,hj,hN]
    refine sc_call hE (by simp) ?_
    cases h : eqT a.kids[i] b.kids[i] with
    | true =>
      simp [e1,e2]
      refine ih (i + 1) (n + 1) (by omega) (by omega) fun st => ?_
      have := hq st
      rw [if_pos h] at this
      rw [show n + 1 + cntK (a.kids.drop (i + 1)) (b.kids.drop (i + 1)) = n + (1 + cntK (a.kids.drop (i + 1)) (b.kids.drop (i + 1))) by omega]
      exact this
    | false =>
      simp [e1]
      refine ih (i + 1) n (by omega) (by omega) fun st => ?_
      have := hq st
      rw [if_neg (by rw [h]; decide),Nat.zero_add] at this
      exact this
end
theorem pScore_spec {a b : T} (ha : wfT a) (hb : wfT b) : G.Spec Tryz.prog 202 [tX a,tX b] (nv (scoreT a b)) := by
  have hal := (wfT_iff.1 ha).wl
  refine spec_of t_pair_Score (by simp) fun w0 I0 => ?_
  unfold c_pair_Score
  by_cases hk : a.kind = b.kind
  · by_cases h0 : b.kind = 0
    · simp [hk,h0]
      exact frz_int (by simp [scoreT,hk,h0])
    · by_cases h10 : b.kind = 10
      · simp [hk,h0,h10]
        exact frz_int (by simp [scoreT,hk,h10])
      · simp [hk,h0,h10]
        refine LoopC.le (le_list [(2,.pob [0] 1 0),(3,.pob [1] 1 0),(5,nv 1),(29,iv (min a.words.length b.words.length : Nat)),(30,iv (0 : Nat))] (by simp; omega)) ?_
        refine psc_l1 ha hb (by simp [updF_app,hk]) (by simp [updF_app]) _ 0 1 (Nat.zero_add _) (by omega) fun st => ?_
        simp
        refine LoopC.le (le_list [(2,.pob [0] 1 0),(3,.pob [1] 1 0),(5,nv (1 + cntW a.words b.words)),(53,iv (min a.kids.length b.kids.length : Nat)),(54,iv (0 : Nat))] (by simp; omega)) ?_
        have := cntW_len a.words b.words
        refine psc_l2 ha hb (by simp [updF_app,hk]) (by simp [updF_app]) _ 0 _ (Nat.zero_add _) (by omega) fun st => ?_
        simp
        refine frz_int ?_
        simp [scoreT,hk,h0,h10]
  · simp [hk]
    exact frz_int (by simp [scoreT,hk])
section
variable {n0 : Nat} {w0 : World} {I0 : Nat→Prop} {Q : Exit→Sta→Prop}
theorem tframe_l1 {l : List T} (hl : l.length * 56≤140737488355328) : ∀ (m i a b : Nat) (H : Hp),i + m = l.length →
    (∀ i' q (x y : Nat) H',x = max a (frameW (l.drop i))→y = max b (frameK (l.drop i))→Q (.exit 0) ⟨lk [(4,iv x),(5,iv y),(9,tKs l),(10,iv l.length),(11,iv i'),(12,bv q)],H'⟩) →
    LoopC (cx Tryz.prog w0 I0 n0) l1_tree_Frame Q ⟨lk [(4,iv a),(5,iv b),(9,tKs l),(10,iv l.length),(11,iv i)],H⟩ := by
  intro m
  induction m with
  | zero =>
    intro i a b H hi hq
    have : i = l.length := by omega
    subst this
    refine loopC_once mixed l1_tree_Frame.eq_1 ?_
    simp
    exact hq _ false _ _ _ (by simp [frameW]) (by simp [frameK])
  | succ m ih =>
    intro i a b H hi hq
    have hlt : i < l.length := by omega
    have e : l.drop i = l[i] :: l.drop (i + 1) := List.drop_eq_getElem_cons hlt
    have ei : IntKind.i64.wrap ((i : Int) + 1) = ((i + 1 : Nat) : Int) := i64_same (by omega) (by omega)
    refine loopC_once mixed l1_tree_Frame.eq_1 ?_
    simp [hlt,ei]
    have em : ∀ (x y : Nat),max (x : Int) (y : Int) = ((max x y : Nat) : Int) := fun x y => by omega
    rw [em,em]
    exact ih (i + 1) _ _ _ (by omega) fun i' q x y H' hx hy => hq i' q x y H' (by rw [hx,e,frameW]; omega) (by rw [hy,e,frameK]; omega)
end
theorem tFrame_spec (t : T) (hl : t.kids.length * 56≤140737488355328) : G.Spec Tryz.prog 183 [tX t] (.tup [iv (frameW t.kids),iv (frameK t.kids)]) := by
  refine spec_of t_tree_Frame (by simp) fun w0 I0 => ?_
  unfold c_tree_Frame
  simp
  refine tframe_l1 hl t.kids.length 0 0 0 _ (by omega) fun i' q x y H' hx hy => ?_
  simp
  refine frz_is rfl ?_
  simp [hx,hy]
section
variable {n0 : Nat} {w0 : World} {I0 : Nat→Prop} {Q : Exit→Sta→Prop}
theorem tnorm_l1 {t : T} (hl : t.kids.length * 56≤140737488355328) (ih : ∀ c,c ∈ t.kids→G.Spec Tryz.prog 31 [tX c] (tX (norm c))) {v v0 : VOb} {k w : A} : ∀ (m i : Nat) (u : Nat) (H : Hp),i + m = t.kids.length→H [0] = v0→H [1] = v→H [2] = ⟨1,.cells [k,w,.osl [4] u 3 0 i]⟩→H [4] = ⟨u,.arr 3 ((t.kids.take i).map (tA ∘ norm))⟩ →
    (∀ i' q (u' : Nat) (H' : Hp),H' [0] = v0→H' [1] = v→H' [2] = ⟨1,.cells [k,w,.osl [4] u' 3 0 t.kids.length]⟩→H' [4] = ⟨u',.arr 3 (t.kids.map (tA ∘ norm))⟩→Q (.exit 0) ⟨lk [(1,.pob [0] 1 0),(2,.pob [1] 1 0),(3,.pob [2] 1 0),(17,tKs t.kids),(18,iv t.kids.length),(19,iv i'),(20,bv q)],H'⟩) →
    LoopC (cx Tryz.prog w0 I0 n0) l1_tree_Norm Q ⟨lk [(1,.pob [0] 1 0),(2,.pob [1] 1 0),(3,.pob [2] 1 0),(17,tKs t.kids),(18,iv t.kids.length),(19,iv i)],H⟩ := by
  intro m
  induction m with
  | zero =>
    intro i u H hi hA hR hO hB hq
    have : i = t.kids.length := by omega
    subst this
    refine loopC_once mixed l1_tree_Norm.eq_1 ?_
    simp
    exact hq _ _ u H hA hR hO (by rw [hB]; simp)
  | succ m ihm =>
    intro i u H hi hA hR hO hB hq
    have hlt : i < t.kids.length := by omega
    have ei : IntKind.i64.wrap ((i : Int) + 1) = ((i + 1 : Nat) : Int) := i64_same (by omega) (by omega)
    refine loopC_once mixed l1_tree_Norm.eq_1 ?_
    simp [hlt,updF_app,hO]
    refine sc_call (ih _ (List.getElem_mem hlt)) rfl ?_
    simp [updF_app,hO,hB]
    have hrow := row_succ (f := tA ∘ norm) hlt (x := tX (norm t.kids[i])) (by simp)
    rw [hrow,ei]
    refine ⟨⟨by omega,by omega⟩,?_⟩
    exact ihm (i + 1) (u + 1) _ (by omega) (by simp [updF_app,hA]) (by simp [updF_app,hR]) (by simp [updF_app]) (by simp [updF_app]) hq
theorem tnorm_l2 {w : List Int} (hl : w.length * 8≤140737488355328) {v v4 : VOb} {K : A} : ∀ (n : Nat) (H : Hp),n≤w.length→trimW (w.take n) = trimW w→H [1] = v→H [2] = ⟨1,.cells [iv 1,uws (w.take n),K]⟩→H [4] = v4 →
    (∀ q (H' : Hp),H' [1] = v→H' [2] = ⟨1,.cells [iv 1,uws (trimW w),K]⟩→H' [4] = v4→Q (.exit 2) ⟨lk [(2,.pob [1] 1 0),(3,.pob [2] 1 0),(48,bv q)],H'⟩) →
    LoopC (cx Tryz.prog w0 I0 n0) l2_tree_Norm Q ⟨lk [(2,.pob [1] 1 0),(3,.pob [2] 1 0)],H⟩ := by
  intro n
  induction n with
  | zero =>
    intro H hn ht hR hO hB hq
    refine loopC_once mixed l2_tree_Norm.eq_1 ?_
    simp [hO]
    refine hq _ H hR ?_ hB
    rw [← ht]
    simpa using hO
  | succ n ihn =>
    intro H hn ht hR hO hB hq
    have hlt : n < w.length := by omega
    have en : IntKind.i64.wrap (n : Int) = n := i64_same (by omega) (by omega)
    have emin : min (n + 1) w.length = n + 1 := by omega
    refine loopC_once mixed l2_tree_Norm.eq_1 ?_
    by_cases h0 : w[n] = 0
    · have hnn : (n : Int) < n + 1 := by omega
      have hnn' : (n : Int)≤n + 1 := by omega
      have hs : List.take n (List.take (n + 1) (List.map uv w)) = (w.take n).map uv := by rw [List.take_take,Nat.min_eq_left (by omega),List.map_take]
      simp [hO,emin,en,hlt,h0,hnn,hnn',hs]
      exact ihn _ (by omega) (by rw [← trimW_zero hlt h0]; exact ht) (by simp [updF_app,hR]) (by simp [updF_app]) (by simp [updF_app,hB]) hq
    · have hnn : (n : Int) < n + 1 := by omega
      simp [hO,emin,en,hlt,h0,hnn]
      refine hq _ H hR ?_ hB
      rw [hO,← ht,trimW_stop hlt h0]
theorem tnorm_l3 {l : List T} (hl : l.length * 56≤140737488355328) {v : VOb} {W : A} {u : Nat} : ∀ (n : Nat) (H : Hp),n≤l.length→trimK (l.take n) = trimK l→H [1] = v→H [2] = ⟨1,.cells [iv 1,W,.osl [4] u 3 0 n]⟩→H [4] = ⟨u,.arr 3 (l.map (tA ∘ norm))⟩ →
    (∀ q (H' : Hp),H' [1] = v→H' [2] = ⟨1,.cells [iv 1,W,.osl [4] u 3 0 (trimK l).length]⟩→H' [4] = ⟨u,.arr 3 (l.map (tA ∘ norm))⟩→Q (.exit 4) ⟨lk [(2,.pob [1] 1 0),(3,.pob [2] 1 0),(72,bv q)],H'⟩) →
    LoopC (cx Tryz.prog w0 I0 n0) l3_tree_Norm Q ⟨lk [(2,.pob [1] 1 0),(3,.pob [2] 1 0)],H⟩ := by
  intro n
  induction n with
  | zero =>
    intro H hn ht hR hO hB hq
    refine loopC_once mixed l3_tree_Norm.eq_1 ?_
    simp [hO]
    refine hq _ H hR ?_ hB
    rw [← ht]
    simpa using hO
  | succ n ihn =>
    intro H hn ht hR hO hB hq
    have hlt : n < l.length := by omega
    have en : IntKind.i64.wrap (n : Int) = n := i64_same (by omega) (by omega)
    have hnn : (n : Int) < n + 1 := by omega
    have hnn' : (n : Int)≤n + 1 := by omega
    refine loopC_once mixed l3_tree_Norm.eq_1 ?_
    by_cases h0 : l[n].kind = 0
    · simp [hO,hB,en,hlt,h0,hnn,hnn']
      exact ihn _ (by omega) (by rw [← trimK_zero hlt h0]; exact ht) (by simp [updF_app,hR]) (by simp [updF_app]) (by simp [updF_app,hB]) hq
    · simp [hO,hB,en,hlt,h0,hnn]
      refine hq _ H hR ?_ hB
      rw [hO,← ht,trimK_stop hlt h0]
      simp; omega
end
theorem tNorm_spec : ∀ (t : T),wfT t→G.Spec Tryz.prog 31 [tX t] (tX (norm t)) := by
  refine T.ind fun k w l ih hw => ?_
  have hw' := wfT_iff.1 hw
  have hwl := hw'.wl
  have hkl := hw'.kl
  simp at hwl hkl
  refine spec_of t_tree_Norm (by simp) fun w0 I0 => ?_
  unfold c_tree_Norm
  rw [norm_mk]
  by_cases h0 : k = 0
  · simp [h0]
    exact frz_T0
  · simp [h0]
    refine sc_call (clone_spec false w hwl).spec rfl ?_
    simp
    refine LoopC.le (le_blankC (d := [2]) 2 [4] 3 rfl rfl (by simp)) ?_
    simp
    refine tnorm_l1 (t := .mk k w l) (k := iv k) (w := uws w) (by simpa using hkl) (fun c hc => ih c hc (hw'.ks c hc)) l.length 0 1 _ (by simp) rfl rfl (by simp) (by simp) fun i' q u' H' hA hR hO hB => ?_
    by_cases h1 : k = 1
    · subst h1
      simp at hA hR hO hB
      simp [hA,hR,hO,hB]
      refine LoopC.le (le_list [(2,.pob [1] 1 0),(3,.pob [2] 1 0)] (by simp)) ?_
      refine tnorm_l2 hwl w.length _ (Nat.le_refl _) (by rw [List.take_of_length_le (Nat.le_refl _)]) hR (by rw [hO,List.take_of_length_le (Nat.le_refl _)]) hB fun q H2 hR2 hO2 hB2 => ?_
      simp
      refine tnorm_l3 hkl l.length _ (Nat.le_refl _) (by rw [List.take_of_length_le (Nat.le_refl _)]) hR2 hO2 hB2 fun q H3 hR3 hO3 hB3 => ?_
      simp [hO3,hR3,updF_app]
      refine frz_agg ?_
      simp
      rw [trimK_map]
      refine ⟨frz_bare rfl,frz_bare rfl,?_⟩
      have := frz_rowT (H := updF H3 [1] ⟨1,.cells [iv 1,uws (trimW w),A.osl [4] u' 3 0 (trimK l).length]⟩) (o := [4]) (u := u') (sz := 3) (l := l) (f := tA ∘ norm) (by simp [updF_app,hB3]) (trimK_le l) (by simp)
      rw [← List.map_take]
      show Frz _ _ (A.sl false (((l.take (trimK l).length).map norm).map tA))
      rw [List.map_map]
      exact this
    · simp at hA hR hO hB
      simp [hA,hR,hO,hB,h1,updF_app]
      refine frz_agg ?_
      simp
      refine ⟨frz_bare rfl,frz_bare rfl,?_⟩
      have := frz_row (H := updF H' [1] ⟨1,.cells [iv k,uws w,A.osl [4] u' 3 0 l.length]⟩) (o := [4]) (u := u') (sz := 3) (l := l) (f := tA ∘ norm) (by simp [updF_app,hB]) rfl (by simp)
      show Frz _ _ (A.sl false ((l.map norm).map tA))
      rw [List.map_map]
      exact this
section
variable {n0 : Nat} {w0 : World} {I0 : Nat→Prop} {Q : Exit→Sta→Prop}
theorem tsize_l1 {l : List T} (hl : l.length * 56≤140737488355328) (ih : ∀ c,c ∈ l→G.Spec Tryz.prog 124 [tX c] (iv (i64w (sizeP c)))) : ∀ (m i : Nat) (x y : Int) (H : Hp),i + m = l.length→y = i64w x →
    (∀ i' q H',Q (.exit 1) ⟨lk [(3,iv (i64w (x + sizePC (l.drop i)))),(57,tKs l),(58,iv l.length),(59,iv i'),(60,bv q)],H'⟩) →
    LoopC (cx Tryz.prog w0 I0 n0) l1_tree_size Q ⟨lk [(3,iv y),(57,tKs l),(58,iv l.length),(59,iv i)],H⟩ := by
  intro m
  induction m with
  | zero =>
    intro i x y H hi hy hq
    have : i = l.length := by omega
    subst this hy
    refine loopC_once mixed l1_tree_size.eq_1 ?_
    simp
    simpa using hq l.length false H
  | succ m ihm =>
    intro i x y H hi hy hq
    subst hy
    have hlt : i < l.length := by omega
    have e : l.drop i = l[i] :: l.drop (i + 1) := List.drop_eq_getElem_cons hlt
    have ei : IntKind.i64.wrap ((i : Int) + 1) = ((i + 1 : Nat) : Int) := i64_same (by omega) (by omega)
    refine loopC_once mixed l1_tree_size.eq_1 ?_
    simp [hlt,updF_app]
    refine sc_call (ih _ (List.getElem_mem hlt)) rfl ?_
    simp [ei,updF_app,i64_add_l,i64_add_r,i64_sub_l]
    refine ihm (i + 1) (x + (sizeP l[i] - l[i].words.length - l[i].kids.length)) _ _ (by omega) rfl fun i' q H' => ?_
    have := hq i' q H'
    rw [e,sizePC_cons,← Int.add_assoc] at this
    exact this
theorem tsize_l2 {l : List T} (hl : l.length * 56≤140737488355328) (ih : ∀ c,c ∈ l→G.Spec Tryz.prog 124 [tX c] (iv (i64w (sizeP c)))) : ∀ (m i : Nat) (x y : Int) (H : Hp),i + m = l.length→y = i64w x →
    (∀ i' q H',Q (.exit 3) ⟨lk [(3,iv (i64w (x + sizePL (l.drop i)))),(78,tKs l),(79,iv l.length),(80,iv i'),(81,bv q)],H'⟩) →
    LoopC (cx Tryz.prog w0 I0 n0) l2_tree_size Q ⟨lk [(3,iv y),(78,tKs l),(79,iv l.length),(80,iv i)],H⟩ := by
  intro m
  induction m with
  | zero =>
    intro i x y H hi hy hq
    have : i = l.length := by omega
    subst this hy
    refine loopC_once mixed l2_tree_size.eq_1 ?_
    simp
    simpa using hq l.length false H
  | succ m ihm =>
    intro i x y H hi hy hq
    subst hy
    have hlt : i < l.length := by omega
    have e : l.drop i = l[i] :: l.drop (i + 1) := List.drop_eq_getElem_cons hlt
    have ei : IntKind.i64.wrap ((i : Int) + 1) = ((i + 1 : Nat) : Int) := i64_same (by omega) (by omega)
    refine loopC_once mixed l2_tree_size.eq_1 ?_
    simp [hlt,updF_app]
    refine sc_call (ih _ (List.getElem_mem hlt)) rfl ?_
    simp [ei,i64_add_l,i64_add_r]
    refine ihm (i + 1) (x + sizeP l[i]) _ _ (by omega) rfl fun i' q H' => ?_
    have := hq i' q H'
    rw [e,sizePL_cons,← Int.add_assoc] at this
    exact this
end
set_option maxRecDepth 8000 in
theorem tsize_spec : ∀ (t : T),wfT t→G.Spec Tryz.prog 124 [tX t] (iv (i64w (sizeP t))) := by
  refine T.ind fun k w l ih hw => ?_
  have hw' := wfT_iff.1 hw
  have hwl := hw'.wl
  have hkl := hw'.kl
  simp at hwl hkl
  have ih1 : ∀ c,c ∈ l→G.Spec Tryz.prog 124 [tX c] (iv (i64w (sizeP c))) := fun c hc => ih c hc (hw'.ks c hc)
  refine spec_of t_tree_size (by simp) fun w0 I0 => ?_
  unfold c_tree_size
  rw [sizeP_mk]
  have fin : ∀ (x y : Int) (H : Hp) (r : Int),y = i64w x→H [0] = ⟨1,.cells [iv k,uws w,tKs l]⟩→r = x + sizePL l→WPC (cx Tryz.prog w0 I0 90) k1_tree_size (RetC Tryz.prog [.tmp 2] (iv (i64w r))) ⟨lk [(1,.pob [0] 1 0),(3,iv y)],H⟩ := fun x y H r hy hH hr => by
    subst hy
    rw [k1_tree_size.eq_1]
    simp [hH]
    refine tsize_l2 hkl ih1 l.length 0 x _ _ (by simp) rfl fun i' q H' => ?_
    simp [hr]
    exact frz_bare rfl
  have room : 2≤k∧k≤7→i64w (roomZ (k - 2) l.length) = roomZ (k - 2) l.length := fun hk => by
    have : 0≤roomZ (k - 2) l.length∧roomZ (k - 2) l.length≤1099511627776 := by
      unfold roomZ bitsZ
      repeat' split
      all_goals omega
    exact i64_same (by omega) (by omega)
  by_cases h1 : k = 1
  · simp [h1]
    exact fin _ _ _ _ rfl (by simp [h1]) rfl
  by_cases h8 : k = 8
  · simp [h8]
    exact fin _ _ _ _ (i64_same (by omega) (by omega)).symm (by simp [h8]) rfl
  rw [if_neg h1,if_neg h8]
  by_cases h27 : 2≤k∧k≤7
  · have hd : isData k = true := by simp [isData,h27]
    have e2 : IntKind.i64.wrap (k - 2) = k - 2 := i64_same (by omega) (by omega)
    simp [h1,h8]
    refine sc_call (data_spec k) rfl ?_
    simp [hd,e2]
    refine sc_call (room_spec' _ _) rfl ?_
    simp
    rw [if_pos h27,room h27]
    exact frz_bare rfl
  · have hd : isData k = false := by simp [isData]; omega
    simp [h1,h8]
    refine sc_call (data_spec k) rfl ?_
    rw [if_neg h27]
    by_cases h9 : k = 9
    · subst h9
      simp [hd]
      refine sc_call (tFrame_spec (.mk 9 w l) (by simpa using hkl)) rfl ?_
      simp [i64_add_r,i64_mul_r]
      refine tsize_l1 hkl ih1 l.length 0 _ _ _ (by simp) rfl fun i' q H' => ?_
      simp
      exact frz_bare rfl
    · simp [hd,h9]
      exact fin 0 _ _ _ (by decide) (by simp) (by simp)
theorem tSize_spec (t : T) (h : wfT t) : G.Spec Tryz.prog 75 [tX t] (iv (i64w (sizeP (norm t)))) := by
  refine spec_of t_tree_Size (by simp) fun w0 I0 => ?_
  unfold c_tree_Size
  simp
  refine sc_call (tNorm_spec t h) rfl ?_
  simp
  refine sc_call (tsize_spec (norm t) (wf_norm t h)) rfl ?_
  simp
  exact frz_bare rfl
end Go.Proofs.YtbjmaoedheiigaaGreat
namespace Go.PL
set_option linter.unusedVariables false
set_option linter.unusedSimpArgs false
theorem norm_null {t : T} (h : t.kind = 0) : norm t = T0 := by cases t; simp at h; rw [norm_mk,if_pos h]
theorem sizeL_trim (l : List T) (h : ∀ t,t ∈ l→t.kind = 0→sizeT t = 0) : sizeL (trimK l) = sizeL l := by
  induction l using snocInd with
  | h0 => rfl
  | h1 l x ih =>
    rw [trimK_snoc]
    split
    · rename_i hx
      rw [ih fun t ht => h t (by simp [ht])]
      simp [h x (by simp) hx]
    · rfl
theorem sizeL_trimN (l : List T) : sizeL (trimK (l.map norm)) = sizeL (l.map norm) := sizeL_trim _ fun t ht h0 => by
  obtain ⟨u,hu,rfl⟩ := List.mem_map.1 ht
  rw [norm_kind] at h0
  rw [norm_null h0]; simp
theorem size_one {w : List Int} {l : List T} : sizeT (norm (.mk 1 w l)) = (trimW w).length + (trimK (l.map norm)).length + sizeL (l.map norm) := by
  rw [norm_mk]; simp; rw [sizeT_mk]; simp [sizeL_trimN]
theorem trimK_1 {x : T} : trimK [x] = if x.kind = 0 then [] else [x] := by simpa using trimK_snoc [] x
def masks (ws : List WE) : Prop := ∀ w,w ∈ ws→0≤w.mask∧w.mask < 256
end Go.PL
namespace Go.Proofs.YtbjmaoedheiigaaGreat
set_option linter.unusedVariables false
set_option linter.unusedSimpArgs false
open Go Go.G Go.Proofs Go.PL
theorem wd_in {t : T} (h : wfT t) (i : Nat) : u64R (wdT t i) := by
  unfold wdT
  rw [List.getD_eq_getElem?_getD]
  cases e : t.words[i]? with
  | none => exact ⟨by simp,by simp⟩
  | some x => exact (wfT_iff.1 h).w x (List.mem_of_getElem? e)
section
variable {n0 : Nat} {w0 : World} {I0 : Nat→Prop} {Q : Exit→Sta→Prop}
end
theorem pWd_spec (t : T) (i : Nat) : G.Spec Tryz.prog 115 [tX t,iv i] (uv (wdT t i)) := treeWord_spec t i
section
variable {n0 : Nat} {w0 : World} {I0 : Nat→Prop} {Q : Exit→Sta→Prop}
end
inductive WI where
  | keep (n : Int)
  | del (k v : Nat) (l : List T)
  | ins (k v : Nat) (l : List T)
  | desc (e : E)
def WI.op : WI→OP
  | .keep n => .mk 0 n [] E0
  | .del _ _ l => .mk 1 0 l E0
  | .ins _ _ l => .mk 2 0 l E0
  | .desc e => .mk 3 0 [] e
def rawE : List A := [iv 0,iv 0,.sl true [],.sl true [],iv 0,.sl true [],.sl true [],.sl true [],.sl true [],iv 0,.sl true []]
def wiC (r : Nat) : WI→List A
  | .keep n => iv 0 :: iv n :: .sl true [] :: rawE
  | .del k v l => iv 1 :: iv 0 :: .osl (r :: [k]) v 3 0 l.length :: rawE
  | .ins k v l => iv 2 :: iv 0 :: .osl (r :: [k]) v 3 0 l.length :: rawE
  | .desc e => iv 3 :: iv 0 :: .sl true [] :: eL e
def wiA (r : Nat) (x : WI) : A := .agg (wiC r x)
@[simp] theorem wiA_cells {r : Nat} {x : WI} : (wiA r x).cells = wiC r x := rfl
@[simp] theorem wiC_len {r : Nat} {x : WI} : (wiC r x).length = 14 := by cases x <;> rfl
theorem wiC_ren {g : Nm→Nm} {δ : Nm→Nat} {r r' : Nat} (hg : ∀ p,g (r :: p) = r' :: p) (hd : ∀ p,δ (r :: p) = 0) (x : WI) : A.renL g δ (wiC r x) = wiC r' x := by
  cases x <;> simp [wiC,rawE,A.renL,A.ren,hg,hd]
theorem wiC_refs {D : Nm→Prop} {r : Nat} (hD : ∀ p,D (r :: p)) (x : WI) : A.refsL D (wiC r x) := by
  cases x <;> simp [wiC,rawE,A.refsL,A.refs,hD]
def wtV (r : Nat) : Option (Nat × Nat × List T)→A
  | some (k,v,l) => .osl (r :: [k]) v 3 0 l.length
  | none => .sl true []
abbrev Rws := Nat→Option (Nat × List T)
def rwB : Option (Nat × List T)→VOb
  | some (v,l) => ⟨v,.arr 3 (l.map tA)⟩
  | none => ⟨0,.none⟩
theorem wtV_ren {g : Nm→Nm} {δ : Nm→Nat} {r r' : Nat} (hg : ∀ p,g (r :: p) = r' :: p) (hd : ∀ p,δ (r :: p) = 0) (o : Option (Nat × Nat × List T)) : (wtV r o).ren g δ = wtV r' o := by
  rcases o with _ | ⟨k,v,l⟩
  · simp [wtV,A.ren]
  · simp [wtV,A.ren,hg,hd]
def rowAt (R : Rws) : Nm→VOb
  | [k] => rwB (R k)
  | _ => ⟨0,.none⟩
@[simp] theorem rowAt_one {R : Rws} {k : Nat} : rowAt R [k] = rwB (R k) := rfl
theorem rwB_ren {g : Nm→Nm} {δ : Nm→Nat} (o : Option (Nat × List T)) : VOb.ren g δ 0 (rwB o) = rwB o := by
  rcases o with _ | ⟨v,l⟩
  · rfl
  · refine Fam.arr_ren ?_
    simp only [renL_map,List.map_map]
    refine List.map_congr_left fun x _ => ?_
    simp [A.ren,A.renL]
theorem rowAt_ren {g : Nm→Nm} {δ : Nm→Nat} (R : Rws) : ∀ p,VOb.ren g δ 0 (rowAt R p) = rowAt R p
  | [] => rfl
  | [k] => rwB_ren _
  | _ :: _ :: _ => rfl
theorem rwB_refs {D : Nm→Prop} (o : Option (Nat × List T)) : (rwB o).ob.refs D := by
  rcases o with _ | ⟨v,l⟩
  · trivial
  · simp only [rwB,Ob.refs,refsL_iff]
    intro y hy
    obtain ⟨x,_,rfl⟩ := List.mem_map.1 hy
    simp [A.refs,A.refsL]
theorem rowAt_refs {D : Nm→Prop} (R : Rws) : ∀ p,(rowAt R p).ob.refs D
  | [] => trivial
  | [k] => rwB_refs _
  | _ :: _ :: _ => trivial
def wlF (its : List WI) (vo : Nat) (g b : Option (Nat × Nat × List T)) (R : Rws) : Fam := ⟨fun r p => if p = [] then ⟨1,.cells [.osl (r :: [0]) vo 14 0 its.length,wtV r g,wtV r b]⟩ else if p = [0] then ⟨vo,.arr 14 (its.map (wiA r))⟩ else rowAt R p,fun {γ δ r r'} hg hd p => by
    by_cases h1 : p = []
    · rw [if_pos h1,if_pos h1]
      refine Fam.cells_ren ?_
      simp [A.renL,A.ren,hg,hd,wtV_ren hg hd]
    · rw [if_neg h1,if_neg h1]
      by_cases h2 : p = [0]
      · rw [if_pos h2,if_pos h2]
        refine Fam.arr_ren ?_
        simp only [renL_map,List.map_map]
        refine List.map_congr_left fun x _ => ?_
        simp [wiA,A.ren,wiC_ren hg hd]
      · rw [if_neg h2,if_neg h2]
        exact rowAt_ren R p,fun {D r} hD p => by
    by_cases h1 : p = []
    · rw [if_pos h1]
      rcases g with _ | ⟨k,v,l⟩ <;> rcases b with _ | ⟨k',v',l'⟩ <;> simp [Ob.refs,A.refsL,A.refs,hD,wtV]
    · rw [if_neg h1]
      by_cases h2 : p = [0]
      · rw [if_pos h2]
        simp only [Ob.refs,refsL_iff]
        intro y hy
        obtain ⟨x,_,rfl⟩ := List.mem_map.1 hy
        simp only [A.refs,wiA]
        exact wiC_refs hD x
      · rw [if_neg h2]
        exact rowAt_refs R p⟩
@[simp] theorem wlF_F {its : List WI} {vo : Nat} {g b : Option (Nat × Nat × List T)} {R : Rws} {r : Nat} {p : Nm} : (wlF its vo g b R).F r p = if p = [] then ⟨1,.cells [.osl (r :: [0]) vo 14 0 its.length,wtV r g,wtV r b]⟩ else if p = [0] then ⟨vo,.arr 14 (its.map (wiA r))⟩ else rowAt R p := rfl
abbrev wrP (r : Nat) : A := .pob [r] 1 0
theorem lens_wi {r : Nat} {l : List WI} : lens 14 (l.map (wiA r)) = true := by rw [lens_all]; simp
def delI : Nat × Nat × List T→List WI
  | (k,v,l) => if l = [] then [] else [.del k v l]
def insI22 : Nat × Nat × List T→List WI
  | (k,v,l) => if l = [] then [] else [.ins k v l]
theorem flush_spec22 (its : List WI) (vo : Nat) (g b : Nat × Nat × List T) (R : Rws) (hl : its.length≤1000000) (hg : R g.1 = some (g.2.1,g.2.2)) (hb : R b.1 = some (b.2.1,b.2.2)) (hg0 : 1≤g.1) (hb0 : 1≤b.1) : SpecF Tryz.prog 113 (fun r => [wrP r]) (wlF its vo (some g) (some b) R) (fun _ => .tup []) (wlF (its ++ (delI g ++ insI22 b)) (vo + (delI g ++ insI22 b).length) none none R) := by
  obtain ⟨gk,gv,gl⟩ := g
  obtain ⟨bk,bv',bl⟩ := b
  refine specF_of t_normal_writer_flush (by simp) (famL_cons famA_pob famL_nil) (famA_tup famL_nil) fun w0 I0 M0 m0 => ?_
  unfold c_normal_writer_flush
  by_cases h1 : gl = []
  · by_cases h2 : bl = []
    · simp [h1,h2,wtV]
      rw [k1_normal_writer_flush.eq_1]
      simp [h1,h2,wtV,updF_app]
      refine reth_famN rfl rfl (fun p => ?_)
      by_cases p1 : p = []
      · subst p1; simp [updF_app,delI,insI22,wtV]
      · by_cases p2 : p = [0]
        · subst p2; simp [updF_app,delI,insI22]
        · simp [p1,p2,updF_app]
    · have h2' : (0 : Int) < bl.length := by have := List.length_pos_iff.2 h2; omega
      have h2n := List.length_pos_iff.2 h2
      simp [h1,h2,wtV]
      rw [k1_normal_writer_flush.eq_1]
      simp [h1,h2,h2',h2n,wtV,updF_app,lens_wi]
      refine ⟨by omega,by omega,?_⟩
      refine reth_famN rfl rfl (fun p => ?_)
      by_cases p1 : p = []
      · subst p1; simp [updF_app,delI,insI22,wtV,h1,h2]
      · by_cases p2 : p = [0]
        · subst p2; simp [updF_app,delI,insI22,h1,h2,wiA,wiC,rawE,List.take_of_length_le]
        · simp [p1,p2,updF_app]
  · have h1' : (0 : Int) < gl.length := by have := List.length_pos_iff.2 h1; omega
    have h1n := List.length_pos_iff.2 h1
    by_cases h2 : bl = []
    · simp [h1,h1',h1n,h2,wtV,updF_app,lens_wi]
      refine ⟨by omega,by omega,?_⟩
      rw [k1_normal_writer_flush.eq_1]
      simp [h1,h2,wtV,updF_app]
      refine reth_famN rfl rfl (fun p => ?_)
      by_cases p1 : p = []
      · subst p1; simp [updF_app,delI,insI22,wtV,h1,h2]
      · by_cases p2 : p = [0]
        · subst p2; simp [updF_app,delI,insI22,h1,h2,wiA,wiC,rawE,List.take_of_length_le]
        · simp [p1,p2,updF_app]
    · have h2' : (0 : Int) < bl.length := by have := List.length_pos_iff.2 h2; omega
      have h2n := List.length_pos_iff.2 h2
      simp [h1,h1',h1n,h2,wtV,updF_app,lens_wi]
      refine ⟨by omega,by omega,?_⟩
      rw [k1_normal_writer_flush.eq_1]
      simp [h1,h2,h2',h2n,wtV,updF_app]
      refine ⟨by omega,⟨by omega,by omega⟩,?_⟩
      refine reth_famN rfl rfl (fun p => ?_)
      by_cases p1 : p = []
      · subst p1; simp [updF_app,delI,insI22,wtV,h1,h2]
      · by_cases p2 : p = [0]
        · subst p2; simp [updF_app,delI,insI22,h1,h2,wiA,wiC,rawE,List.take_of_length_le]
        · simp [p1,p2,updF_app]
theorem tk_at (l : List T) (x : A) : (l.map tA ++ [x])[l.length]? = some x := by rw [List.getElem?_append_right (by simp)]; simp
theorem tk_take (l : List T) : List.take l.length (l.map tA) = l.map tA := List.take_of_length_le (by simp)
theorem wait_l1 {n0 : Nat} {w0 : World} {I0 : Nat→Prop} {M0 : Nm→Nat→Prop} {m0 : Mu} {Q : Exit→Sta→Prop} {its : List WI} {vo off k : Nat} {g b : Option (Nat × Nat × List T)} {R : Rws} {ts l0 : List T} {v0 : Nat} (hts : ∀ t,t ∈ ts→wfT t) (hl : l0.length + ts.length≤1000000) (hk : 1≤k)
    (F : Nat→List T→Fam) (hF0 : ∀ v l,(F v l).F 0 [] = ⟨1,.cells [.osl [0,0] vo 14 0 its.length,if off = 1 then .osl [0,k] v 3 0 l.length else wtV 0 g,if off = 1 then wtV 0 b else .osl [0,k] v 3 0 l.length]⟩) (hoff : off = 1∨off = 2) (hFk : ∀ v l,(F v l).F 0 [k] = ⟨v,.arr 3 (l.map tA)⟩) (hFo : ∀ v l v' l' p,p ≠ []→p ≠ [k]→(F v l).F 0 p = (F v' l').F 0 p)
    (hq : ∀ H st,(∀ p,H (0 :: p) = (F (v0 + ts.length) (l0 ++ ts.map norm)).F 0 p)→Q (.exit 0) ⟨lk st,H⟩) : ∀ (m i : Nat) (H : Hp),i + m = ts.length→(∀ p,H (0 :: p) = (F (v0 + i) (l0 ++ (ts.take i).map norm)).F 0 p) →
    LoopC (cxh Tryz.prog w0 I0 M0 n0 m0) l1_normal_wait Q ⟨lk [(0,.pob [0] 1 off),(6,tKs ts),(7,iv ts.length),(8,iv i)],H⟩ := by
  intro m
  induction m with
  | zero =>
    intro i H hm hH
    refine loopC_once mixed l1_normal_wait.eq_1 ?_
    have : i = ts.length := by omega
    subst this
    rw [List.take_of_length_le (Nat.le_refl _)] at hH
    simp
    exact hq H _ hH
  | succ m ih =>
    intro i H hm hH
    have hi : i < ts.length := by omega
    have ew : IntKind.i64.wrap ((i : Int) + 1) = ((i + 1 : Nat) : Int) := by rw [i64_same (by omega) (by omega)]; omega
    have h0 := hH []
    rw [hF0] at h0
    have h1 := hH [k]
    rw [hFk] at h1
    have hN := tNorm_spec ts[i] (hts _ (List.getElem_mem hi))
    have hLs : l0 ++ (ts.take (i + 1)).map norm = l0 ++ (ts.take i).map norm ++ [norm ts[i]] := by rw [List.take_succ_eq_append_getElem hi,List.map_append,← List.append_assoc]; rfl
    have hLl : (l0 ++ (ts.take i).map norm).length≤1000000 := by simp; omega
    have next := ih (i + 1)
    rw [hLs,← Nat.add_assoc] at next
    generalize l0 ++ (ts.take i).map norm = L at *
    generalize v0 + i = v at *
    have hH' : ∀ (p : Nm) (H2 : Hp),p ≠ []→p ≠ [k]→H2 (0 :: p) = H (0 :: p)→H2 (0 :: p) = (F (v + 1) (L ++ [norm ts[i]])).F 0 p := fun p H2 p1 p2 he => by rw [he,hH,hFo _ _ _ _ p p1 p2]
    refine loopC_once mixed l1_normal_wait.eq_1 ?_
    rcases hoff with rfl | rfl
    all_goals
      simp at h0 h1
      simp [hi,updF_app,h0]
      refine sc_call hN (by simp [updF_app]) ?_
      simp [updF_app,h0,h1,show ¬ k = 0 by omega,show ¬ 0 = k by omega,tk_at,tk_take,ew]
      refine ⟨by omega,by omega,?_⟩
      refine next _ (by omega) (fun p => ?_)
      by_cases p1 : p = []
      · subst p1; rw [hF0]; simp [updF_app,show ¬ k = 0 by omega,show ¬ 0 = k by omega]
      · by_cases p2 : p = [k]
        · subst p2; rw [hFk]; simp [updF_app,show ¬ k = 0 by omega,show ¬ 0 = k by omega]
        · exact hH' p _ p1 p2 (by simp [updF_app,p1,p2,Ne.symm p1,Ne.symm p2])
def setR (R : Rws) (k : Nat) (v : Nat) (l : List T) : Rws := fun q => if q = k then some (v,l) else R q
theorem setR_same {R : Rws} {k v : Nat} {l : List T} (h : R k = some (v,l)) : setR R k v l = R := by
  funext q
  unfold setR
  split
  · rename_i e; rw [e,h]
  · rfl
theorem waitG_spec (its : List WI) (vo k v : Nat) (l : List T) (b : Option (Nat × Nat × List T)) (R : Rws) (hR : R k = some (v,l)) (hk : 1≤k) (hb : ∀ x,b = some x→x.1 ≠ k) {ts : List T} (hts : ∀ t,t ∈ ts→wfT t) (hl : l.length + ts.length≤1000000) :
    SpecF Tryz.prog 111 (fun r => [.pob [r] 1 1,tKs ts]) (wlF its vo (some (k,v,l)) b R) (fun _ => .tup []) (wlF its vo (some (k,v + ts.length,l ++ ts.map norm)) b (setR R k (v + ts.length) (l ++ ts.map norm))) := by
  refine specF_of t_normal_wait (by simp) (famL_cons famA_pob (famL_cons famA_sl famL_nil)) (famA_tup famL_nil) fun w0 I0 M0 m0 => ?_
  unfold c_normal_wait
  simp
  refine LoopC.le (le_list [(0,.pob [0] 1 1),(6,tKs ts),(7,iv ts.length),(8,iv (0 : Nat))] (by simp)) ?_
  refine wait_l1 (its := its) (vo := vo) (off := 1) (k := k) (g := none) (b := b) (R := R) (ts := ts) (l0 := l) (v0 := v) hts hl hk (fun v l => wlF its vo (some (k,v,l)) b (setR R k v l)) (fun v l => by simp [wtV]) (.inl rfl) (fun v l => by simp [rwB,setR,show ¬ k = 0 by omega]) (fun v l v' l' p p1 p2 => ?_) (fun H st hH => ?_) ts.length 0 _ (by omega) (fun p => ?_)
  · rw [wlF_F,wlF_F,if_neg p1,if_neg p1]
    split
    · rfl
    · match p with
      | [] => rfl
      | [q] => simp [setR,show ¬ q = k from fun e => p2 (by rw [e])]
      | _ :: _ :: _ => rfl
  · simp
    exact reth_famN rfl rfl hH
  · simp only [List.take_zero,List.map_nil,List.append_nil,Nat.add_zero]
    rw [setR_same hR]
    simp
theorem waitB_spec (its : List WI) (vo k v : Nat) (l : List T) (g : Option (Nat × Nat × List T)) (R : Rws) (hR : R k = some (v,l)) (hk : 1≤k) {ts : List T} (hts : ∀ t,t ∈ ts→wfT t) (hl : l.length + ts.length≤1000000) :
    SpecF Tryz.prog 111 (fun r => [.pob [r] 1 2,tKs ts]) (wlF its vo g (some (k,v,l)) R) (fun _ => .tup []) (wlF its vo g (some (k,v + ts.length,l ++ ts.map norm)) (setR R k (v + ts.length) (l ++ ts.map norm))) := by
  refine specF_of t_normal_wait (by simp) (famL_cons famA_pob (famL_cons famA_sl famL_nil)) (famA_tup famL_nil) fun w0 I0 M0 m0 => ?_
  unfold c_normal_wait
  simp
  refine LoopC.le (le_list [(0,.pob [0] 1 2),(6,tKs ts),(7,iv ts.length),(8,iv (0 : Nat))] (by simp)) ?_
  refine wait_l1 (its := its) (vo := vo) (off := 2) (k := k) (g := g) (b := none) (R := R) (ts := ts) (l0 := l) (v0 := v) hts hl hk (fun v l => wlF its vo g (some (k,v,l)) (setR R k v l)) (fun v l => by simp [wtV]) (.inr rfl) (fun v l => by simp [rwB,setR,show ¬ k = 0 by omega]) (fun v l v' l' p p1 p2 => ?_) (fun H st hH => ?_) ts.length 0 _ (by omega) (fun p => ?_)
  · rw [wlF_F,wlF_F,if_neg p1,if_neg p1]
    split
    · rfl
    · match p with
      | [] => rfl
      | [q] => simp [setR,show ¬ q = k from fun e => p2 (by rw [e])]
      | _ :: _ :: _ => rfl
  · simp
    exact reth_famN rfl rfl hH
  · simp only [List.take_zero,List.map_nil,List.append_nil,Nat.add_zero]
    rw [setR_same hR]
    simp
end Go.Proofs.YtbjmaoedheiigaaGreat
