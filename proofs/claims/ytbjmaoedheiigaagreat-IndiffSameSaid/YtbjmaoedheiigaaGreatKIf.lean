/-
 Texts,merged,without what is not reached.
-/
import Derived.Test.YtbjmaoedheiigaaGreatKIe
set_option linter.unusedSimpArgs false
set_option linter.unusedVariables false
namespace Go.Proofs.YtbjmaoedheiigaaGreat
set_option maxRecDepth 20000
open Go Go.G Go.Proofs
@[simp] theorem Aig:CI Tryz.prog 47=some 1:=by kernel_rfl
@[simp] theorem Agf:C5 Tryz.prog 47=some false:=by kernel_rfl
@[simp] theorem pR:Aj Tryz.prog 83 0=some 0:=by kernel_rfl
@[simp] theorem o6:Aj Tryz.prog 83 1=some 1:=by kernel_rfl
@[simp] theorem zZ (ps:List (Nat × A)):Bs Tryz.prog 83 ps=(BW (fun i=>([(0,1),(1,1)]:List (Nat × Nat))[i]?) [iv 0,iv 0] ps).map A.agg:=by kernel_rfl
def HX:CC:=sR [mO 4 0,oO 5 (.nilCheck (xT 4)),fO 6 83 5 1,lO 7 47 6,oO 8 (.binOp .eql 47 (xT 7) (nI 0) 47)] [0,1,8] (cD 8 (.reg [mO 9 0,mO 10 1,oO 11 (.nilCheck (xT 9)),fO 12 83 11 1,oS (.store 47 (xT 12) (xT 10))] []) (.skip))
theorem Ns:Bh Tryz.prog 148 13 [] HX:=Au Tryz.func148
def HZ:CC:=sR [oN 3 (.box 53 (xT 1)) [1],oN 4 (.alloc 25) [2]] [0,3,4] (sR [lO 8 53 3,oO 9 (cL 156 #[(xT 8)] #[53]),mO 7 9,xO 10 7 0,xO 11 7 1,oN 5 (.alloc 25) [3],oS (.store 25 (xT 5) (xT 10)),aO 6 11] [0,4,5,6] (sR [mO 12 0,mO 13 6,oO 14 (cL 148 #[(xT 12),(xT 13)] #[81,47])] [4,5] (sR [lO 15 25 5,oO 16 (cL 31 #[(xT 15)] #[25]),oS (.store 25 (xT 4) (xT 16))] [4] (.ret))))
theorem NQ:Bh Tryz.prog 98 17 [(.cell 4 25)] HZ:=Au Tryz.func98
def IY:CC:=sR [oN 4 (.box 53 (xT 1)) [1],oN 6 (.alloc 53) [2]] [0,2,4,6] (sR [lO 10 53 4,mO 11 2,oO 12 (cL 194 #[(xT 10),(xT 11)] #[53,3]),mO 9 12,xO 13 9 0,xO 14 9 1,oN 7 (.alloc 53) [3],oS (.store 53 (xT 7) (xT 13)),aO 8 14] [0,6,7,8] (sR [mO 15 0,mO 16 8,oO 17 (cL 148 #[(xT 15),(xT 16)] #[81,47])] [6,7] (sR [lO 18 53 7,oS (.store 53 (xT 6) (xT 18))] [6] (.ret))))
theorem OS:Bh Tryz.prog 152 19 [(.cell 6 53)] IY:=Au Tryz.func152
def Iw:CC:=sR [oN 4 (.box 53 (xT 1)) [1],oN 5 (.box 53 (xT 2)) [2],oO 6 (.assign (nB false))] [0,4,5] (sR [lO 10 53 4,lO 11 53 5,oO 12 (cL 147 #[(xT 10),(xT 11)] #[53,53]),mO 9 12,xO 13 9 0,xO 14 9 1,aO 7 13,aO 8 14] [0,7,8] (sR [mO 15 0,mO 16 8,oO 17 (cL 148 #[(xT 15),(xT 16)] #[81,47])] [7] (sR [mO 18 7,aO 6 18] [6] (.ret))))
theorem NZ:Bh Tryz.prog 94 19 [(.tmp 6)] Iw:=Au Tryz.func94
def HY:CC:=sR [oN 3 (.box 53 (xT 1)) [1],oO 4 (.assign (nI 0))] [0,3] (sR [lO 8 53 3,oO 9 (cL 199 #[(xT 8)] #[53]),mO 7 9,xO 10 7 0,xO 11 7 1,aO 5 10,aO 6 11] [0,5,6] (sR [mO 12 0,mO 13 6,oO 14 (cL 148 #[(xT 12),(xT 13)] #[81,47])] [5] (sR [mO 15 5,aO 4 15] [4] (.ret))))
theorem Nk:Bh Tryz.prog 151 16 [(.tmp 4)] HY:=Au Tryz.func151
def Ja:CC:=sR [oN 4 (.box 53 (xT 1)) [1],oN 5 (.box 53 (xT 2)) [2],oN 6 (.alloc 33) [3]] [0,4,5,6] (.seq (.block 0 (sR [mO 8 0,oO 9 (.nilCheck (xT 8)),fO 10 83 9 1,lO 11 47 10,oO 12 (.binOp .neq 47 (xT 11) (nI 0) 47),mO 13 12,oG 14 (mV 0) 13 false,oG 15 (lD 53 4) 13 false,oG 16 (lD 53 5) 13 false,oG 17 (cL 94 #[(xT 14),(xT 15),(xT 16)] #[81,53,53]) 13 false,oO 18 (.pick (xT 13) (nB true) (xT 17)),aO 7 18] [0,4,5,6,7] (cD 7 (sR [oO 19 (.build 33 #[]),oS (.store 33 (xT 6) (xT 19))] [6] (.ret)) (sR [lO 21 53 4,oO 22 (cL 95 #[(xT 21)] #[53]),oO 23 (.binOp .eql 3 (xT 22) (nI 1) 3),mO 24 23,oG 25 (lD 53 5) 24 true,oG 26 (cL 95 #[(xT 25)] #[53]) 24 true,oG 27 (.binOp .eql 3 (xT 26) (nI 1) 3) 24 true,oO 28 (.pick (xT 24) (xT 27) (nB false)),aO 20 28] [0,4,5,6,20] (cD 20 (sR [mO 29 0,lO 30 53 4,lO 31 53 5,oO 32 (cL 96 #[(xT 29),(xT 30),(xT 31)] #[81,53,53]),oS (.store 33 (xT 6) (xT 32))] [6] (.ret)) (sR [lO 34 53 4,⟨some 35,(cL 95 #[(xT 34)] #[53]),none,[],1,[],true⟩,⟨some 36,(lD 53 5),none,[],2,[1],false⟩,oO 37 (cL 95 #[(xT 36)] #[53]),oO 38 (bO .eql 3 35 37 3),mO 39 38,oG 40 (lD 53 4) 39 true,oG 41 (cL 95 #[(xT 40)] #[53]) 39 true,oG 42 (cL 61 #[(xT 41)] #[3]) 39 true,oO 43 (.pick (xT 39) (xT 42) (nB false)),aO 33 43] [0,4,5,6,33] (cD 33 (sR [mO 44 0,lO 45 53 4,lO 46 53 5,oO 47 (cL 97 #[(xT 44),(xT 45),(xT 46)] #[81,53,53]),oS (.store 33 (xT 6) (xT 47))] [6] (.ret)) (.skip)))))))) (.keep [0,4,5,6] (sR [mO 48 0,lO 49 53 4,⟨some 50,(cL 98 #[(xT 48),(xT 49)] #[81,53]),none,[],2,[],true⟩,mO 51 0,⟨some 52,(lD 53 5),none,[],4,[2],false⟩,oO 53 (cL 98 #[(xT 51),(xT 52)] #[81,53]),oO 54 (.build 33 #[(0,(nI 1)),(1,(xT 50)),(2,(xT 53))]),oS (.store 33 (xT 6) (xT 54))] [6] (.ret))))
theorem OG:Bh Tryz.prog 48 55 [(.cell 6 33)] Ja:=Au Tryz.func48
def Cg:CC:=sR [oO 20 (bO .lss 3 19 18 3)] [0,4,5,6,7,18,19,20] (.seq (cD 20 (.skip) (.exit 0)) (.keep [0,4,5,6,7,18,19] (.seq (.block 1 (sR [mO 21 19,aO 8 21] [0,4,5,6,7,8,18,19] (sR [mO 23 8,⟨some 24,(lD 53 4),none,[],1,[],true⟩,mO 25 8,⟨some 26,(cL 150 #[(xT 24),(xT 25)] #[53,3]),none,[],3,[],true⟩,⟨some 27,(lD 53 5),none,[],4,[3],true⟩,mO 28 8,⟨some 29,(cL 150 #[(xT 27),(xT 28)] #[53,3]),none,[],6,[],true⟩,⟨some 30,(cL 117 #[(xT 23),(xT 26),(xT 29)] #[3,51,51]),none,[],7,[],true⟩,mO 22 30,xO 31 22 0,xO 32 22 1,⟨some 9,(.alloc 80),none,[5],11,[1,3,4,6,7],false⟩,oS (.store 80 (xT 9) (xT 31)),aO 10 32] [0,4,5,6,7,9,10,18,19] (sR [mO 33 10] [0,4,5,6,7,9,18,19,33] (cD 33 (.reg [fO 34 33 7 3,lO 35 29 34,lO 36 80 9,oO 37 (.buildSlice 29 1 #[(0,(xT 36))]),oN 38 (bC .append #[(xT 35),(xT 37)] #[29,29]) [6],fO 39 33 7 3,oS (.store 29 (xT 39) (xT 38))] [0,4,5,6,7,18,19]) (.skip)))))) (.keep [0,4,5,6,7,18,19] (.reg [oO 40 (.binOp .add 3 (xT 19) (nI 1) 3),mO 19 40] [0,4,5,6,7,18,19])))))
def Ci:CC:=sR [oO 49 (bO .lss 3 48 47 3)] [0,4,5,6,7,47,48,49] (.seq (cD 49 (.skip) (.exit 2)) (.keep [0,4,5,6,7,47,48] (.seq (.block 3 (sR [mO 50 48,aO 11 50] [0,4,5,6,7,11,47,48] (sR [mO 51 0,mO 52 0,⟨some 53,(lD 53 4),none,[],2,[],true⟩,mO 54 11,⟨some 55,(cL 152 #[(xT 52),(xT 53),(xT 54)] #[81,53,3]),none,[],4,[],true⟩,mO 56 0,⟨some 57,(lD 53 5),none,[],6,[4],true⟩,mO 58 11,⟨some 59,(cL 152 #[(xT 56),(xT 57),(xT 58)] #[81,53,3]),none,[],8,[],true⟩,⟨some 60,(cL 48 #[(xT 51),(xT 55),(xT 59)] #[81,53,53]),none,[],9,[],true⟩,⟨some 12,(.alloc 33),none,[7],10,[2,4,6,8,9],false⟩,oS (.store 33 (xT 12) (xT 60))] [0,4,5,6,7,11,12,47,48] (sR [fO 61 33 12 0,lO 62 3 61,oO 63 (.binOp .neq 3 (xT 62) (nI 0) 3)] [0,4,5,6,7,11,12,47,48,63] (cD 63 (.reg [fO 64 33 7 4,lO 65 30 64,mO 66 11,lO 67 33 12,oO 68 (.build 89 #[(0,(xT 66)),(1,(xT 67))]),oO 69 (.buildSlice 30 1 #[(0,(xT 68))]),oN 70 (bC .append #[(xT 65),(xT 69)] #[30,30]) [8],fO 71 33 7 4,oS (.store 30 (xT 71) (xT 70))] [0,4,5,6,7,47,48]) (.skip)))))) (.keep [0,4,5,6,7,47,48] (.reg [oO 72 (.binOp .add 3 (xT 48) (nI 1) 3),mO 48 72] [0,4,5,6,7,47,48]))))) 
def FF:CC:=sR [oN 4 (.box 53 (xT 1)) [1],oN 5 (.box 53 (xT 2)) [2],oN 6 (.alloc 33) [3]] [0,4,5,6] (sR [oO 13 (.build 33 #[(0,(nI 2))]),oN 7 (.alloc 33) [4],oS (.store 33 (xT 7) (xT 13))] [0,4,5,6,7] (.seq (sR [lO 14 53 4,⟨some 15,(cL 149 #[(xT 14)] #[53]),none,[],1,[],true⟩,⟨some 16,(lD 53 5),none,[],2,[1],false⟩,oO 17 (cL 149 #[(xT 16)] #[53]),oO 18 (bC .max #[(xT 15),(xT 17)] #[3,3]),oO 19 (.move (nI 0))] [0,4,5,6,7,18,19] (.block 0 (.loop Cg))) (.keep [0,4,5,6,7] (.seq (sR [mO 41 0,lO 42 53 4,⟨some 43,(cL 151 #[(xT 41),(xT 42)] #[81,53]),none,[],2,[],true⟩,mO 44 0,⟨some 45,(lD 53 5),none,[],4,[2],false⟩,oO 46 (cL 151 #[(xT 44),(xT 45)] #[81,53]),oO 47 (bC .max #[(xT 43),(xT 46)] #[3,3]),oO 48 (.move (nI 0))] [0,4,5,6,7,47,48] (.block 2 (.loop Ci))) (.keep [6,7] (sR [lO 73 33 7,oS (.store 33 (xT 6) (xT 73))] [6] (.ret)))))))
theorem Kb:Bh Tryz.prog 96 74 [(.cell 6 33)] FF:=Au Tryz.func96
def GO:CC:=sR [oN 4 (.box 53 (xT 1)) [1],oN 5 (.box 53 (xT 2)) [2],oO 6 (.assign nS)] [0,4,5] (sR [oO 13 (cL 200 #[] #[]),aO 7 13] [0,4,5,7] (sR [mO 15 7,lO 16 53 4,oO 17 (cL 201 #[(xT 15),(xT 16)] #[236,53]),mO 14 17,xO 18 14 0,xO 19 14 1,aO 8 18,aO 9 19] [0,4,5,7,8,9] (sR [mO 20 0,mO 21 9,oO 22 (cL 148 #[(xT 20),(xT 21)] #[81,47])] [0,4,5,7,8] (sR [mO 24 7,lO 25 53 5,oO 26 (cL 201 #[(xT 24),(xT 25)] #[236,53]),mO 23 26,xO 27 23 0,xO 28 23 1,aO 10 27,aO 9 28] [0,4,5,8,9,10] (sR [mO 29 0,mO 30 9,oO 31 (cL 148 #[(xT 29),(xT 30)] #[81,47])] [0,4,5,8,10] (.stop (sR [mO 33 8,mO 34 10,mO 35 0,oO 36 (.nilCheck (xT 35)),fO 37 83 36 0,lO 38 3 37,oO 39 (cL 119 #[(xT 33),(xT 34),(xT 38)] #[164,164,3]),mO 32 39,xO 40 32 0,xO 41 32 1,aO 11 40,aO 12 41] [4,5,11,12] (.seq (sR [mO 42 12,oO 43 (.unOp .not 4 (xT 42))] [4,5,11,43] (cD 43 (.reg [lO 44 53 4,⟨some 45,(cL 137 #[(xT 44)] #[53]),none,[],1,[],true⟩,oO 46 (.build 171 #[(0,(nI 1)),(1,(xT 45))]),⟨some 47,(lD 53 5),none,[],3,[1],false⟩,oO 48 (cL 137 #[(xT 47)] #[53]),oO 49 (.build 171 #[(0,(nI 2)),(1,(xT 48))]),oO 50 (.buildSlice 166 2 #[(0,(xT 46)),(1,(xT 49))]),oO 51 (cL 120 #[(xT 50)] #[166]),aO 11 51] [11]) (.skip))) (.keep [11] (sR [mO 52 11,aO 6 52] [6] (.ret)))))))))))
theorem LX:Bh Tryz.prog 153 53 [(.tmp 6)] GO:=Au Tryz.func153
def Df:CC:=sR [oO 13 (bO .lss 3 12 11 3)] [0,2,5,9,11,12,13] (.seq (cD 13 (.skip) (.exit 0)) (.keep [0,2,5,9,11,12] (.seq (.block 1 (sR [mO 14 12,aO 10 14] [0,2,5,9,10,11,12] (.reg [mO 15 9,mO 16 0,mO 17 0,lO 18 53 5,mO 19 2,mO 20 10,oO 21 (bO .add 3 19 20 3),oO 22 (cL 152 #[(xT 17),(xT 18),(xT 21)] #[81,53,3]),oO 23 (cL 98 #[(xT 16),(xT 22)] #[81,53]),oO 24 (.buildSlice 23 1 #[(0,(xT 23))]),oN 25 (bC .append #[(xT 15),(xT 24)] #[23,23]) [2],aO 9 25] [0,2,5,9,11,12]))) (.reg [oO 26 (.binOp .add 3 (xT 12) (nI 1) 3),mO 12 26] [0,2,5,9,11,12])))) 
def Io:CC:=sR [oN 5 (.box 53 (xT 1)) [1],oO 8 (.assign nS)] [0,2,3,5] (sR [oO 9 (.assign nS)] [0,2,3,5,9] (.seq (sR [mO 11 3,oO 12 (.move (nI 0))] [0,2,5,9,11,12] (.block 0 (.loop Df))) (.keep [9] (sR [mO 27 9,aO 8 27] [8] (.ret)))))
theorem MU:Bh Tryz.prog 155 28 [(.tmp 8)] Io:=Au Tryz.func155
def C9:CC:=sR [fO 78 33 7 6,⟨some 79,(lD 31 78),none,[],1,[],true⟩,lO 80 53 4,⟨some 81,(cL 95 #[(xT 80)] #[53]),none,[],3,[1],true⟩,mO 82 0,⟨some 83,(lD 53 4),none,[],5,[3],false⟩,mO 84 8,mO 85 12,⟨some 86,(cL 155 #[(xT 82),(xT 83),(xT 84),(xT 85)] #[81,53,3,3]),none,[],8,[1],true⟩,mO 87 0,⟨some 88,(lD 53 5),none,[],10,[3,8],false⟩,mO 89 9,mO 90 13,⟨some 91,(cL 155 #[(xT 87),(xT 88),(xT 89),(xT 90)] #[81,53,3,3]),none,[],13,[1],true⟩,mO 92 0,oO 93 (.nilCheck (xT 92)),fO 94 83 93 0,⟨some 95,(lD 3 94),none,[],17,[3,8,13],false⟩,⟨some 96,(cL 154 #[(xT 81),(xT 86),(xT 91),(xT 95)] #[3,23,23,3]),none,[],18,[1],false⟩,oN 97 (bC .append #[(xT 79),(xT 96)] #[31,31]) [7],fO 98 33 7 6,oS (.store 31 (xT 98) (xT 97))] [0,4,5,6,7,8,9,10,12,13] (.reg [mO 99 8,mO 100 12,oO 101 (bO .add 3 99 100 3),mO 102 9,mO 103 13,oO 104 (bO .add 3 102 103 3),aO 8 101,aO 9 104] [0,4,5,6,7,8,9,10])
def A9:CC:=.seq (sR [mO 21 10,oO 22 (bL 21 166),oO 23 (.binOp .gtr 3 (xT 22) (nI 0) 3),mO 24 23,oG 25 (mV 0) 24 true,oG 26 (.nilCheck (xT 25)) 24 true,oG 27 (fA 83 26 1) 24 true,oG 28 (lD 47 27) 24 true,oG 29 (.binOp .eql 47 (xT 28) (nI 0) 47) 24 true,oO 30 (.pick (xT 24) (xT 29) (nB false))] [0,4,5,6,7,8,9,10,30] (cD 30 (.skip) (.exit 0))) (.keep [0,4,5,6,7,8,9,10] (.block 1 (sR [mO 31 10,oO 32 (.indexAddr 166 (xT 31) (nI 0)),lO 33 171 32,oN 11 (.alloc 171) [5],oS (.store 171 (xT 11) (xT 33))] [0,4,5,6,7,8,9,10,11] (sR [mO 34 10,oO 35 (.slice 166 (xT 34) (some (nI 1)) none none),aO 10 35] [0,4,5,6,7,8,9,10,11] (.seq (sR [fO 36 171 11 0,lO 37 3 36,oO 38 (.binOp .eql 3 (xT 37) (nI 0) 3)] [0,4,5,6,7,8,9,10,11,38] (cD 38 (sR [fO 39 33 7 6,lO 40 31 39,fO 41 171 11 1,lO 42 3 41,oO 43 (.build 91 #[(1,(xT 42))]),oO 44 (.buildSlice 31 1 #[(0,(xT 43))]),oN 45 (bC .append #[(xT 40),(xT 44)] #[31,31]) [6],fO 46 33 7 6,oS (.store 31 (xT 46) (xT 45))] [0,4,5,6,7,8,9,10,11] (sR [mO 47 8,fO 48 171 11 1,lO 49 3 48,oO 50 (bO .add 3 47 49 3),mO 51 9,fO 52 171 11 1,lO 53 3 52,oO 54 (bO .add 3 51 53 3),aO 8 50,aO 9 54] [0,4,5,6,7,8,9,10] (.exit 1))) (.skip))) (.keep [0,4,5,6,7,8,9,10,11] (sR [fO 55 171 11 1,lO 56 3 55,oO 12 (.assign (nI 0)),aO 13 56] [0,4,5,6,7,8,9,10,11,12,13] (.seq (sR [fO 57 171 11 0,lO 58 3 57,oO 59 (.binOp .eql 3 (xT 58) (nI 1) 3)] [0,4,5,6,7,8,9,10,11,12,13,59] (cD 59 (sR [fO 60 171 11 1,lO 61 3 60,aO 12 61,oO 13 (.assign (nI 0))] [0,4,5,6,7,8,9,10,12,13] (sR [mO 62 10,oO 63 (bL 62 166),oO 64 (.binOp .gtr 3 (xT 63) (nI 0) 3),mO 65 64,oG 66 (mV 10) 65 true,oG 67 (.indexAddr 166 (xT 66) (nI 0)) 65 true,oG 68 (fA 171 67 0) 65 true,oG 69 (lD 3 68) 65 true,oG 70 (.binOp .eql 3 (xT 69) (nI 2) 3) 65 true,oO 71 (.pick (xT 65) (xT 70) (nB false))] [0,4,5,6,7,8,9,10,12,13,71] (cD 71 (.reg [mO 72 10,oO 73 (.indexAddr 166 (xT 72) (nI 0)),fO 74 171 73 1,lO 75 3 74,mO 76 10,oO 77 (.slice 166 (xT 76) (some (nI 1)) none none),aO 13 75,aO 10 77] [0,4,5,6,7,8,9,10,12,13]) (.skip)))) (.skip))) (.keep [0,4,5,6,7,8,9,10,12,13] C9))))))))) 
def Iy:CC:=sR [oN 4 (.box 53 (xT 1)) [1],oN 5 (.box 53 (xT 2)) [2],oN 6 (.alloc 33) [3]] [0,4,5,6] (sR [lO 14 53 4,oO 15 (cL 95 #[(xT 14)] #[53]),oO 16 (.build 33 #[(0,(nI 3)),(5,(xT 15))]),oN 7 (.alloc 33) [4],oS (.store 33 (xT 7) (xT 16))] [0,4,5,6,7] (sR [oO 8 (.assign (nI 0)),oO 9 (.assign (nI 0))] [0,4,5,6,7,8,9] (sR [mO 17 0,lO 18 53 4,lO 19 53 5,oO 20 (cL 153 #[(xT 17),(xT 18),(xT 19)] #[81,53,53]),aO 10 20] [0,4,5,6,7,8,9,10] (.seq (.block 0 (.loop A9)) (.keep [6,7] (sR [lO 105 33 7,oS (.store 33 (xT 6) (xT 105))] [6] (.ret)))))))
theorem Nn:Bh Tryz.prog 97 106 [(.cell 6 33)] Iy:=Au Tryz.func97
def MD:CC:=sR [oN 3 (.box 53 (xT 0)) [0],oN 4 (.box 53 (xT 1)) [1],oN 6 (.alloc 33) [2],oO 7 (.assign (nI 0))] [2,3,4,6] (sR [mO 10 2,oO 11 (.build 83 #[(0,(xT 10))]),oN 12 (.box 83 (xT 11)) [3],aO 8 12] [3,4,6,8] (sR [mO 13 8,lO 14 53 3,lO 15 53 4,oO 16 (cL 48 #[(xT 13),(xT 14),(xT 15)] #[81,53,53]),oN 9 (.alloc 33) [4],oS (.store 33 (xT 9) (xT 16))] [6,8,9] (.seq (sR [mO 17 8,oO 18 (.nilCheck (xT 17)),fO 19 83 18 1,lO 20 47 19,oO 21 (.binOp .neq 47 (xT 20) (nI 0) 47)] [6,8,9,21] (cD 21 (sR [oO 22 (.build 33 #[]),mO 23 8,oO 24 (.nilCheck (xT 23)),fO 25 83 24 1,⟨some 26,(lD 47 25),none,[],4,[],true⟩,⟨none,(.store 33 (xT 6) (xT 22)),none,[],5,[4],false⟩,aO 7 26] [6,7] (.ret)) (.skip))) (.keep [6,9] (sR [lO 27 33 9,oO 28 (cL 29 #[(xT 27)] #[33]),oS (.store 33 (xT 6) (xT 28)),oO 7 (.assign (nI 0))] [6,7] (.ret))))))
theorem TE:Bh Tryz.prog 22 29 [(.cell 6 33),(.tmp 7)] MD:=Au Tryz.func22
def KF:CC:=sR [oN 2 (.alloc 53) [0]] [0,2] (sR [mO 6 0,oO 7 (cL 43 #[(xT 6)] #[41]),oO 8 (cL 49 #[(xT 7)] #[50]),mO 5 8,xO 9 5 0,xO 10 5 1,oN 3 (.alloc 53) [1],oS (.store 53 (xT 3) (xT 9)),aO 4 10] [2,3] (sR [lO 11 53 3,oS (.store 53 (xT 2) (xT 11))] [2] (.ret)))
theorem QY:Bh Tryz.prog 23 12 [(.cell 2 53)] KF:=Au Tryz.func23
def J5:CC:=sR [oN 1 (.box 25 (xT 0)) [0],oO 2 (.assign (nB false))] [1] (sR [lO 3 25 1,oO 4 (cL 27 #[(xT 3),(nI 70),(nI 400)] #[25,3,3]),oO 5 (.binOp .geq 3 (xT 4) (nI 0) 3),aO 2 5] [2] (.ret))
theorem Qf:Bh Tryz.prog 20 6 [(.tmp 2)] J5:=Au Tryz.func20
def JJ:CC:=sR [oO 0 (.assign (nB false))] [] (sR [oO 4 (.buildSlice 22 2 #[(0,(.const (.int .u64 4294967296))),(1,(.const (.int .u64 7)))]),oO 5 (.buildSlice 41 1 #[(0,(xT 4))]),oO 6 (cL 23 #[(xT 5)] #[41]),oO 7 (.buildSlice 22 2 #[(0,(.const (.int .u64 4294967296))),(1,(.const (.int .u64 8)))]),oO 8 (.buildSlice 41 1 #[(0,(xT 7))]),oO 9 (cL 23 #[(xT 8)] #[41]),oO 10 (cL 22 #[(xT 6),(xT 9),(nI 9)] #[53,53,3]),mO 3 10,xO 11 3 0,xO 12 3 1,oN 1 (.alloc 33) [0],oS (.store 33 (xT 1) (xT 11)),aO 2 12] [1,2] (sR [mO 13 2,oO 14 (.binOp .eql 47 (xT 13) (nI 0) 47),mO 15 14,oG 16 (fA 33 1 0) 15 true,oG 17 (lD 3 16) 15 true,oG 18 (.binOp .eql 3 (xT 17) (nI 2) 3) 15 true,oO 19 (.pick (xT 15) (xT 18) (nB false)),mO 20 19,oG 21 (fA 33 1 3) 20 true,oG 22 (lD 29 21) 20 true,oG 23 (bL 22 29) 20 true,oG 24 (.binOp .eql 3 (xT 23) (nI 1) 3) 20 true,oO 25 (.pick (xT 20) (xT 24) (nB false)),mO 26 25,oG 27 (fA 33 1 3) 26 true,oG 28 (lD 29 27) 26 true,oG 29 (.indexAddr 29 (xT 28) (nI 0)) 26 true,oG 30 (lD 80 29) 26 true,oG 31 (.build 80 #[(1,(.const (.int .u8 1))),(2,(.const (.int .u64 7))),(3,(.const (.int .u64 8)))]) 26 true,oG 32 (bO .eql 80 30 31 80) 26 true,oO 33 (.pick (xT 26) (xT 32) (nB false)),aO 0 33] [0] (.ret)))
theorem PU:Bh Tryz.prog 21 34 [(.tmp 0)] JJ:=Au Tryz.func21
def Gy:CC:=sR [oN 4 (.box 43 (xT 1)) [0],oO 6 (.assign (nB false))] [0,2,4] (sR [lO 16 43 4,oO 17 (cL 18 #[(xT 16)] #[43]),oS (.store 43 (xT 4) (xT 17))] [0,2,4] (sR [mO 19 0,lO 20 43 4,oO 21 (cL 19 #[(xT 19),(xT 20)] #[41,43]),mO 18 21,xO 22 18 0,xO 23 18 1,xO 24 18 2,oN 7 (.alloc 25) [1],oS (.store 25 (xT 7) (xT 22)),aO 8 23,aO 9 24] [0,2,4,7,9] (.seq (sR [mO 25 9,oO 26 (.binOp .neq 3 (xT 25) (nI 0) 3),mO 27 26,oG 28 (lD 25 7) 27 false,oG 29 (cL 20 #[(xT 28)] #[25]) 27 false,oG 30 (.unOp .not 4 (xT 29)) 27 false,oO 31 (.pick (xT 27) (nB true) (xT 30))] [0,2,4,7,31] (cD 31 (sR [oO 32 (cL 21 #[] #[]),aO 6 32] [6] (.ret)) (.skip))) (.keep [0,2,4,7] (sR [lO 34 25 7,mO 35 2,oO 36 (cL 26 #[(xT 34),(xT 35),(nI 131072)] #[25,3,3]),mO 33 36,xO 37 33 0,xO 38 33 1,aO 10 37,aO 11 38] [0,4,10,11] (sR [mO 40 0,⟨some 41,(cL 23 #[(xT 40)] #[41]),none,[],1,[],true⟩,mO 42 0,⟨some 43,(cL 23 #[(xT 42)] #[41]),none,[],3,[],true⟩,fO 44 43 4 2,⟨some 45,(lD 3 44),none,[],5,[1,3],true⟩,⟨some 46,(cL 22 #[(xT 41),(xT 43),(xT 45)] #[53,53,3]),none,[],6,[],true⟩,mO 39 46,xO 47 39 0,xO 48 39 1,⟨some 12,(.alloc 33),none,[2],10,[1,3,5,6],false⟩,oS (.store 33 (xT 12) (xT 47)),aO 13 48] [0,4,10,11,12,13] (sR [mO 50 0,⟨some 51,(cL 23 #[(xT 50)] #[41]),none,[],1,[],true⟩,mO 52 10,⟨some 53,(cL 23 #[(xT 52)] #[41]),none,[],3,[],true⟩,fO 54 43 4 2,⟨some 55,(lD 3 54),none,[],5,[1,3],true⟩,⟨some 56,(cL 22 #[(xT 51),(xT 53),(xT 55)] #[53,53,3]),none,[],6,[],true⟩,mO 49 56,xO 57 49 0,xO 58 49 1,⟨some 14,(.alloc 33),none,[3],10,[1,3,5,6],false⟩,oS (.store 33 (xT 14) (xT 57)),aO 15 58] [11,12,13,14,15] (sR [fO 59 33 12 0,lO 60 3 59,oO 61 (.binOp .eql 3 (xT 60) (nI 0) 3),mO 62 61,oG 63 (mV 13) 62 true,oG 64 (.binOp .eql 47 (xT 63) (nI 0) 47) 62 true,oO 65 (.pick (xT 62) (xT 64) (nB false)),mO 66 65,oG 67 (mV 11) 66 true,oG 68 (.unOp .not 4 (xT 67)) 66 true,oG 69 (mV 68) 66 true,oG 70 (fA 33 14 0) 69 false,oG 71 (lD 3 70) 69 false,oG 72 (.binOp .eql 3 (xT 71) (nI 0) 3) 69 false,oG 73 (mV 72) 69 false,oG 74 (mV 15) 73 true,oG 75 (.binOp .eql 47 (xT 74) (nI 0) 47) 73 true,oG 76 (.pick (xT 73) (xT 75) (nB false)) 69 false,oG 77 (.pick (xT 69) (nB true) (xT 76)) 66 true,oO 78 (.pick (xT 66) (xT 77) (nB false)),mO 79 78,oG 80 (cL 21 #[] #[]) 79 true,oO 81 (.pick (xT 79) (xT 80) (nB false)),aO 6 81] [6] (.ret)))))))))
theorem Lx:Bh Tryz.prog 7 82 [(.tmp 6)] Gy:=Au Tryz.func7
end Go.Proofs.YtbjmaoedheiigaaGreat
namespace Go.Proofs.YtbjmaoedheiigaaGreat
open Go Go.G Go.Proofs Go.PL
theorem HU (t:T) (i:Nat):G.Spec Tryz.prog 115 [tX t,iv i] (uv (t.words.getD i 0)):=by
 refine Al bG (by simp) fun w0 I0=>?_
 unfold SG
 have hn:¬ (i:Int)<0:=by omega
 by_cases h:i<t.words.length
 ·have h2:¬ t.words.length≤i:=by omega
  simp[h,hn,h2]
  exact Ao rfl (by simp[h])
 ·have h2:t.words.length≤i:=by omega
  simp[h,hn,h2]
  exact Ao rfl (by simp[List.getElem?_eq_none (Nat.le_of_not_lt h)])
theorem Jf (t:T) (i:Nat):G.Spec Tryz.prog 116 [tX t,iv i] (tX (t.kids.getD i T0)):=by
 refine Al ey (by simp) fun w0 I0=>?_
 unfold UG
 have hn:¬ (i:Int)<0:=by omega
 by_cases h:i<t.kids.length
 ·have h2:¬ t.kids.length≤i:=by omega
  simp[h,hn,h2]
  exact Ab (by simp)
 ·have h2:t.kids.length≤i:=by omega
  simp[h,hn,h2]
  exact Dd (by simp;exact⟨Ab rfl,An,An⟩)
variable {n0:Nat} {w0:World} {I0:Nat→Prop} {Q:Exit→Sta→Prop}
theorem pv {l:List (List Int)} (hs:Sg l) {r:Rf} {t:T} (hm:Az l r t) {k:Int}
  (hq:∀ (q:Bool) (H:Hp),H [0]=⟨1,.cells (V5 l r)⟩→H [2]=⟨1,.cells [iv k,.osl [3] (t.words.length+1) 1 0 t.words.length,.osl [6] 1 3 0 0]⟩→H [3]=⟨t.words.length+1,.arr 1 (t.words.map uv)⟩→H [6]=⟨1,.arr 3 []⟩→H [1]=⟨1,.cells [iv 0,.sl true [],.sl true []]⟩ →
   Q (.exit 0) ⟨lk [(1,.pob [0] 1 0),(2,.pob [1] 1 0),(4,.pob [2] 1 0),(14,iv t.words.length),(15,iv t.words.length),(16,bv q)],H⟩) :
  ∀ (j i:Nat) (H:Hp),i+j=t.words.length→H [0]=⟨1,.cells (V5 l r)⟩→H [2]=⟨1,.cells [iv k,.osl [3] (i+1) 1 0 i,.osl [6] 1 3 0 0]⟩→H [3]=⟨i+1,.arr 1 ((t.words.take i).map uv)⟩→H [6]=⟨1,.arr 3 []⟩→H [1]=⟨1,.cells [iv 0,.sl true [],.sl true []]⟩ →
  LoopC (cx Tryz.prog w0 I0 n0) F4 Q ⟨lk [(1,.pob [0] 1 0),(2,.pob [1] 1 0),(4,.pob [2] 1 0),(14,iv t.words.length),(15,iv i)],H⟩:=by
 obtain⟨hw1,hw2⟩:=CR hm
 have hln:=Dk hm
 intro j
 induction j with
 |zero=>
  intro i H hi h0 h2 h3 h6 h1
  have:i=t.words.length:=by omega
  subst this
  rw[Bb (Cc _)] at h3
  refine Ad Ak F4.eq_1 ?_
  simp
  exact hq _ H h0 h2 h3 h6 h1
 |succ j ih=>
  intro i H hi h0 h2 h3 h6 h1
  have hlt:i<t.words.length:=by omega
  have ei:IntKind.i64.wrap ((i:Int)+1)=((i+1:Nat):Int):=Af (by omega) (by omega)
  have htk:(t.words.take (i+1)).map uv=(t.words.take i).map uv++[uv t.words[i]]:=by rw[Hj hlt,List.map_append];rfl
  refine Ad Ak F4.eq_1 ?_
  simp[hlt,h0,h2]
  refine Ae (Gi hs (Ce hm) i) (by simp) ?_
  rw[hw2 i hlt]
  simp[h2,h3,ei,Aa]
  refine⟨⟨by omega,by omega⟩,?_⟩
  refine ih (i+1) _ (by omega) (by simp[Aa,h0]) (by simp[Aa]) ?_ (by simp[Aa,h6]) (by simp[Aa,h1])
  rw[htk]
  simp[Aa,List.take_take]
theorem pV {l:List (List Int)} (hs:Sg l) {r:Rf} {t:T} (hm:Az l r t) {k:Int} {c1:A} {X:VOb} (ih0:∀ c,c ∈ t.kids→∀ x,Az l x c→G.Spec Tryz.prog 156 [Gx l x] (.tup [tX c,iv 0]))
  (hq:∀ (q:Bool) (H:Hp),H [2]=⟨1,.cells [iv k,c1,.osl [6] (t.kids.length+1) 3 0 t.kids.length]⟩→H [6]=⟨t.kids.length+1,.arr 3 (t.kids.map tA)⟩→H [3]=X→H [1]=⟨1,.cells [iv 0,.sl true [],.sl true []]⟩ →
   Q (.exit 2) ⟨lk [(1,.pob [0] 1 0),(2,.pob [1] 1 0),(4,.pob [2] 1 0),(28,iv t.kids.length),(29,iv t.kids.length),(30,bv q)],H⟩) :
  ∀ (j i:Nat) (H:Hp),i+j=t.kids.length→H [0]=⟨1,.cells (V5 l r)⟩→H [2]=⟨1,.cells [iv k,c1,.osl [6] (i+1) 3 0 i]⟩→H [6]=⟨i+1,.arr 3 ((t.kids.take i).map tA)⟩→H [3]=X→H [1]=⟨1,.cells [iv 0,.sl true [],.sl true []]⟩ →
  LoopC (cx Tryz.prog w0 I0 n0) Ga Q ⟨lk [(1,.pob [0] 1 0),(2,.pob [1] 1 0),(4,.pob [2] 1 0),(28,iv t.kids.length),(29,iv i)],H⟩:=by
 have hln:=Dk hm
 intro j
 induction j with
 |zero=>
  intro i H hi h0 h2 h6 h3 h1
  have:i=t.kids.length:=by omega
  subst this
  rw[Bb (Cc _)] at h6
  refine Ad Ak Ga.eq_1 ?_
  simp
  exact hq _ H h2 h6 h3 h1
 |succ j ih=>
  intro i H hi h0 h2 h6 h3 h1
  have hlt:i<t.kids.length:=by omega
  obtain⟨k1,k2⟩:=Fq hm hlt
  have ei:IntKind.i64.wrap ((i:Int)+1)=((i+1:Nat):Int):=Af (by omega) (by omega)
  have htk:(t.kids.take (i+1)).map tA=(t.kids.take i).map tA++[tA t.kids[i]]:=by rw[Hj hlt,List.map_append];rfl
  refine Ad Ak Ga.eq_1 ?_
  simp[hlt,h0]
  refine Ae (Ka hs (Ce hm) i) (by simp) ?_
  rw[k1]
  simp[Aa,h0]
  refine Ae (ih0 _ (BI hlt) _ k2) (by simp) ?_
  simp[Aa,h2,h6,ei]
  refine⟨⟨by omega,by omega⟩,?_⟩
  refine ih (i+1) _ (by omega) (by simp[Aa,h0]) (by simp[Aa]) ?_ (by simp[Aa,h3]) (by simp[Aa,h1])
  rw[htk]
  simp[Aa,List.take_take]
theorem dK {l:List (List Int)} (hs:Sg l):∀ (t:T) (r:Rf),Az l r t→G.Spec Tryz.prog 156 [Gx l r] (.tup [tX t,iv 0]):=by
 refine T.ind fun k w ks ih r hm=>?_
 refine Al UT (by simp) fun w0 I0=>?_
 unfold NV
 simp
 refine Ae (Ch l r) (by simp) ?_
 simp
 refine Dv (Bv (d:=[2]) (u:=1) (cs:=[iv r.kind,.sl true [],.sl true []]) 1 [3] 1 (by simp) rfl (by simp)) ?_
 refine Dv (Bv (d:=[2]) (u:=1) (cs:=[iv r.kind,.osl [3] 1 1 0 0,.sl true []]) 2 [6] 3 (by simp[Aa]) rfl (by simp)) (Dn ?_)
 simp[Aa]
 refine Ae (Hd l r) (by simp) ?_
 rw[(CR hm).1]
 simp[Aa]
 refine pv hs hm (k:=r.kind) (fun q H h0 h2 h3 h6 h1=>?_) w.length 0 _ (by simp) (by simp[Aa]) (by simp[Aa]) (by simp[Aa]) (by simp[Aa]) (by simp[Aa])
 simp[h0]
 refine Ae (DM l r) (by simp) ?_
 rw[GI hm]
 simp
 refine pV hs hm (k:=r.kind) (c1:=.osl [3] (w.length+1) 1 0 w.length) (X:=⟨w.length+1,.arr 1 (w.map uv)⟩) ih (fun q H' h2' h6' h3' h1'=>?_) ks.length 0 H (by simp) h0 h2 (by simpa using h6) h3 h1
 simp[h2',h1',Aa]
 rw[Cv hm]
 exact F5 ⟨Dd ⟨Ab rfl,BQ (f:=uv) (l:=w) (by simp[Aa,h3']) rfl (fun x=>by simp),BQ (f:=tA) (l:=ks) (by simp[Aa,h6']) rfl (fun x=>by simp),trivial⟩,Ab rfl,trivial⟩
end Go.Proofs.YtbjmaoedheiigaaGreat
namespace Go.G
open Go.RowKit
theorem Sim.move {c:Cx} {w:World} {I:Nat→Prop} {μ:Mu} {H:Hp} (hs:Sim c w I μ H) {d d':Nm} (hne:d ≠ d') (h0:(H d').u=0) (h1:1≤(H d).u) (hM:∀ b,¬ c.M0 d b) (htg:∀ e,C4 d' e=true) :
  Ext I μ w I (AQ μ d' (μ d)) w∧Sim c w I (AQ μ d' (μ d)) (AQ (AQ H d' (H d)) d ⟨(H d).u,.none⟩):=by
 have hu0:(μ d').u=0:=by rw[hs.ver,h0]
 have hu1:1≤(μ d).u:=by rw[hs.ver];exact h1
 have hm:MuLe μ (AQ μ d' (μ d)):=fun o=>by
  by_cases e:o=d'
  ·subst e
   rw[CN]
   exact⟨by omega,fun e=>by omega⟩
  ·rw[AM e]
   exact⟨Cc _,fun _=>rfl⟩
 have hx:Ext I μ w I (AQ μ d' (μ d)) w:=⟨fun b h=>h,fun b h=>rfl,hm⟩
 have hd:(AQ (AQ H d' (H d)) d ⟨(H d).u,.none⟩:Hp) d=⟨(H d).u,.none⟩:=CN
 have hd':(AQ (AQ H d' (H d)) d ⟨(H d).u,.none⟩:Hp) d'=H d:=by rw[AM (Ne.symm hne),CN]
 have hoth:∀ o,o ≠ d→o ≠ d'→(AQ (AQ H d' (H d)) d ⟨(H d).u,.none⟩:Hp) o=H o:=fun o e1 e2=>by rw[AM e1,AM e2]
 -- who has a block has it in the old state,under an old name
 have old:∀ o,Ec (AQ μ d' (μ d) o) ((AQ (AQ H d' (H d)) d ⟨(H d).u,.none⟩:Hp) o).ob=true→∃ p,Ec (μ p) (H p).ob=true∧(AQ μ d' (μ d) o)=μ p∧(o=d'∧p=d∨o ≠ d'∧o ≠ d∧p=o):=fun o h=>by
  by_cases e1:o=d
  ·subst e1
   rw[hd] at h
   cases h
  ·by_cases e2:o=d'
   ·subst e2
    rw[hd',CN] at h
    exact⟨d,h,CN,.inl ⟨rfl,rfl⟩⟩
   ·rw[hoth o e1 e2,AM e2] at h
    exact⟨o,h,AM e2,.inr ⟨e2,e1,rfl⟩⟩
 refine⟨hx,hs.kept,hs.lt,hs.old,hs.new,fun o=>?_,fun o=>?_,fun o o' k k' hoo=>?_,fun o k=>?_,hs.mle.trans hm,fun o k=>?_,hs.tab⟩
 ·by_cases e1:o=d
  ·subst e1
   rw[hd,AM hne]
   exact hs.ver o
  ·by_cases e2:o=d'
   ·subst e2
    rw[hd',CN]
    exact hs.ver d
   ·rw[hoth o e1 e2,AM e2]
    exact hs.ver o
 ·by_cases e1:o=d
  ·subst e1
   rw[hd]
   trivial
  ·by_cases e2:o=d'
   ·subst e2
    rw[hd',CN]
    exact OSim.keep hx (fun _=>rfl) (hs.ob d)
   ·rw[hoth o e1 e2,AM e2]
    exact OSim.keep hx (fun _=>rfl) (hs.ob o)
 ·obtain⟨p,k1,k2,k3⟩:=old o k
  obtain⟨p',g1,g2,g3⟩:=old o' k'
  rw[k2,g2]
  refine hs.apart p p' k1 g1 fun e=>hoo ?_
  rcases k3 with ⟨a1,a2⟩ | ⟨a1,a2,a3⟩<;>rcases g3 with ⟨b1,b2⟩ | ⟨b1,b2,b3⟩
  ·rw[a1,b1]
  ·exact absurd (by rw[← b3,← e,a2]) b2
  ·exact absurd (by rw[← a3,e,b2]) a2
  ·rw[← a3,← b3,e]
 ·obtain⟨p,k1,k2,k3⟩:=old o k
  rw[k2]
  obtain⟨q1,q2,q3⟩:=hs.own p k1
  refine⟨q1,?_,q3⟩
  rcases k3 with ⟨a1,a2⟩ | ⟨a1,a2,a3⟩
  ·subst a2
   rcases q2 with h | h
   ·exact(hM _ h).elim
   ·exact .inr h
  ·subst a3
   exact q2
 ·obtain⟨p,k1,k2,k3⟩:=old o k
  rw[k2]
  rcases k3 with ⟨a1,a2⟩ | ⟨a1,a2,a3⟩
  ·rw[a1];exact htg _
  ·rw[← a3];exact hs.tag p k1
theorem Vp {c:Cx} {s:Nat→A} {H:Hp} (R:Nat→Prop) [DecidablePred R] (hM:∀ r p b,R r→¬ c.M0 (r::p) b) (t:Nat) (a:A) (hf:∀ H1:Hp,(∀ r p,R r→H1 (r::p)=H (r::p))→Jw H1 (s t) a) :
  ∃ H2:Hp,Le c ⟨s,H⟩ ⟨upd s t a,H2⟩∧∀ r p,¬ R r→H2 (r::p)=H (r::p):=by
 refine⟨fun o=>match o with | r::p=>if R r then ⟨(H (r::p)).u,.none⟩ else H (r::p) | []=>H [],Xo (H1:=fun o=>match o with | r::p=>if R r then H (r::p) else ⟨(H (r::p)).u,.none⟩ | []=>⟨(H []).u,.none⟩) (fun o b h=>?_) t a (fun o=>?_) (fun o=>?_) (fun o=>?_) (hf _ fun r p h=>if_pos h),fun r p h=>if_neg h⟩
 ·cases o with
  |nil=>exact absurd rfl h
  |cons r p=>
   by_cases hr:R r
   ·exact hM r p b hr
   ·exact absurd (by simp[hr]) h
 ·cases o with
  |nil=>exact .inr rfl
  |cons r p=>
   by_cases hr:R r
   ·exact .inl (by simp[hr])
   ·exact .inr (by simp[hr])
 ·cases o with
  |nil=>exact .inl rfl
  |cons r p=>
   by_cases hr:R r
   ·exact .inr (by simp[hr])
   ·exact .inl (by simp[hr])
 ·cases o with
  |nil=>exact .inl rfl
  |cons r p=>
   by_cases hr:R r
   ·exact .inr (by simp[hr])
   ·exact .inl (by simp[hr])
theorem Qh {c:Cx} {s:Nat→A} {H:Hp} (R:Nat→Prop) [DecidablePred R] (hM:∀ r p b,R r→¬ c.M0 (r::p) b) {r0:Nat} {p0:Nm} (hr0:¬ R r0) {u:Nat} {cs cs':List A} (hd:H (r0::p0)=⟨u,.cells cs⟩) (h1:A.ones cs'=true)
  (hf:∀ H1:Hp,(∀ r p,R r→H1 (r::p)=H (r::p))→GG H1 cs cs') :
  ∃ H2:Hp,Le c ⟨s,H⟩ ⟨s,AQ H2 (r0::p0) ⟨u,.cells cs'⟩⟩∧∀ r p,¬ R r→H2 (r::p)=H (r::p):=by
 refine⟨fun o=>match o with | r::p=>if R r then ⟨(H (r::p)).u,.none⟩ else H (r::p) | []=>H [],fun a w I μ hs=>?_,fun r p h=>if_neg h⟩
 have part1:Part H (fun o=>match o with | r::p=>if R r then H (r::p) else ⟨(H (r::p)).u,.none⟩ | []=>⟨(H []).u,.none⟩):=fun o=>by
  cases o with
  |nil=>exact .inr rfl
  |cons r p=>
   by_cases hr:R r
   ·exact .inl (by simp[hr])
   ·exact .inr (by simp[hr])
 have part2:Part H (fun o=>match o with | r::p=>if R r then ⟨(H (r::p)).u,.none⟩ else H (r::p) | []=>H []):=fun o=>by
  cases o with
  |nil=>exact .inl rfl
  |cons r p=>
   by_cases hr:R r
   ·exact .inr (by simp[hr])
   ·exact .inl (by simp[hr])
 have h3:=hs.sim.freezeAll part1 part2 (fun o=>by
  cases o with
  |nil=>exact .inl rfl
  |cons r p=>
   by_cases hr:R r
   ·exact .inr (by simp[hr])
   ·exact .inl (by simp[hr])) (fun o b h=>by
  cases o with
  |nil=>exact absurd rfl h
  |cons r p=>
   by_cases hr:R r
   ·exact hM r p b hr
   ·exact absurd (by simp[hr]) h)
 have hd2:(fun o=>match o with | r::p=>if R r then (⟨(H (r::p)).u,.none⟩:VOb) else H (r::p) | []=>H []:Hp) (r0::p0)=⟨u,.cells cs⟩:=by
  show(if R r0 then _ else _)=_
  rw[if_neg hr0,hd]
 have hob:=hs.sim.ob (r0::p0)
 have hob:OSim w I μ (μ (r0::p0)) (.cells cs):=by
  have e:(⟨s,H⟩:Sta).H (r0::p0)=⟨u,.cells cs⟩:=hd
  rw[e] at hob
  exact hob
 obtain⟨vs,k1,k2,k3⟩:=hob
 obtain⟨hl,hg⟩:=JO (hf (fun o=>match o with | r::p=>if R r then H (r::p) else ⟨(H (r::p)).u,.none⟩ | []=>⟨(H []).u,.none⟩) fun r p h=>if_pos h)
 have hB:Ec (μ (r0::p0)) ((fun o=>match o with | r::p=>if R r then (⟨(H (r::p)).u,.none⟩:VOb) else H (r::p) | []=>H []:Hp) (r0::p0)).ob=true:=by rw[hd2];rfl
 obtain⟨hx2,hs2⟩:=h3.upd (Es w none) (r0::p0) (μ (r0::p0)) (.cells cs') (.inl rfl) (.inr rfl) (fun _=>.inr ⟨hB,rfl⟩) (fun _=>h3.tag _ hB) (fun hx2=>by
  refine⟨vs,k1,by rw[k2,hl],fun k y hk=>?_⟩
  rw[Fv]
  obtain⟨x,hx,hfx⟩:=hg k y hk
  simp only[A.ones,List.all_eq_true] at h1
  exact⟨h1 y (List.mem_of_getElem? hk),(hfx c w I μ _ (hs.sim.part part1) (k3 k x hx).2).ofI⟩)
 have hu:(μ (r0::p0)).u=u:=by exact(h3.ver (r0::p0)).trans (congrArg VOb.u hd2)
 rw[hu] at hs2
 exact⟨_,_,hs2,hs.size,hs.defers,fun t=>hx2.rel ((hs.rel t).mono0 (fun b h=>.inl h) (fun _ _=>rfl))⟩
theorem Lw {P:Program} {f:FuncId} {n:Nat} {rs:List ResultVar} {cc:CC} {as':Nat→List A} {F F':Fam} {x:Nat→A} (t:Bh P f n rs cc) (ha:(as' 0).length≤n) (h0:FamL as') (h1:ER x)
  (h:∀ w0 I0 M0 m0,(∀ r p b,1≤r→¬ M0 (r::p) b)→WPC (Ds P w0 I0 M0 n m0) cc (Mc (Ds P w0 I0 M0 n m0) rs 1 (x 0) (ov 0 (F'.F 0) (DH []))) ⟨Qb (as' 0),ov 0 (F.F 0) (DH [])⟩):Bg P f as' F x F':=
 ⟨h0,h1,Xj t ha fun w0 I0 M0 m0 hM=>h w0 I0 M0 m0 fun r p b hr=>hM (r::p) b (by
  simp only[AR]
  rw[if_neg (by omega)]
  rfl)⟩
end Go.G
namespace Go.Proofs.YtbjmaoedheiigaaGreat
open Go Go.G Go.Proofs Go.PL
abbrev z0:List A:=[iv 0,.sl true [],.sl true []]
theorem Xy {a b:List T} (hl:a.length=b.length):a.map Ai=b.map Ai ↔ ∀ i,Ai (a.getD i T0)=Ai (b.getD i T0):=by
 constructor
 ·intro h i;rw[← FB,h,FB]
 ·intro h
  apply List.ext_getElem (by simpa using hl)
  intro i h1 h2
  have:=h i
  simp at h1 h2
  simpa[List.getD_eq_getElem?_getD,h1,h2] using this
theorem nG (l:List (List Int)):Az l Rf.zero T0:=.mk _ _ .zero rfl (by simp[BK,Rf.zero]) (by simp[nk,Rf.zero]) (fun i h=>by simp at h) (fun i h=>by simp at h)
theorem JT {l:List (List Int)} {r:Rf} {t:T} (h:Az l r t) (i:Nat):(BT l r i).2=0∧Az l (BT l r i).1 (t.kids.getD i T0):=by
 by_cases hi:i<t.kids.length
 ·have:=Fq h hi
  rw[List.getD_eq_getElem?_getD,List.getElem?_eq_getElem hi]
  exact this
 ·have hn:=GI h
  have:BT l r i=(Rf.zero,0):=by
   unfold BT
   rw[if_pos (by omega)]
  rw[this,List.getD_eq_getElem?_getD,List.getElem?_eq_none (by omega)]
  exact⟨rfl,nG l⟩
theorem SQ {l:List (List Int)} {r:Rf} {t:T} (h:Az l r t) (i:Nat):Md l r i=t.words.getD i 0:=by
 obtain⟨h1,h2⟩:=CR h
 by_cases hi:i<t.words.length
 ·rw[h2 i hi,List.getD_eq_getElem?_getD,List.getElem?_eq_getElem hi];rfl
 ·rw[List.getD_eq_getElem?_getD,List.getElem?_eq_none (by omega)]
  unfold Md
  rw[if_pos (by omega)]
  rfl
variable {n0:Nat} {w0:World} {I0:Nat→Prop} {Q:Exit→Sta→Prop}
end Go.Proofs.YtbjmaoedheiigaaGreat
namespace Go.G
open Go.RowKit
abbrev S (l:List UInt8):A:=.v (.string ⟨l.toArray⟩)
abbrev u8v (b:UInt8):A:=.v (.int .u8 b.toNat)
@[simp] theorem Abm (l:List UInt8):(ByteArray.mk l.toArray).size=l.length:=by simp[ByteArray.size]
@[simp] theorem Afn (l:List UInt8) (i:Nat):(ByteArray.mk l.toArray)[i]? = l[i]?:=by
 by_cases h:i<l.length
 ·have h':i<(ByteArray.mk l.toArray).size:=by simpa using h
  rw[getElem?_pos (ByteArray.mk l.toArray) i h',List.getElem?_eq_getElem h]
  rfl
 ·have h':¬ i<(ByteArray.mk l.toArray).size:=by simpa using h
  rw[getElem?_neg (ByteArray.mk l.toArray) i h',List.getElem?_eq_none (by omega)]
@[simp] theorem Ab0 (l:List UInt8) (i:Nat) (h:i<(ByteArray.mk l.toArray).size):(ByteArray.mk l.toArray)[i]'h=l[i]'(by simpa using h):=rfl
@[simp] theorem va (l:List UInt8) (a b:Nat):(ByteArray.mk l.toArray).extract a b=ByteArray.mk ((l.drop a).take (b-a)).toArray:=by
 have h:((ByteArray.mk l.toArray).extract a b).data=((l.drop a).take (b-a)).toArray:=by
  rw[ByteArray.data_extract]
  simp
 cases hq:(ByteArray.mk l.toArray).extract a b with
 |mk d=>rw[hq] at h;simpa using h
@[simp] theorem vL (l m:List UInt8):ByteArray.mk l.toArray++ByteArray.mk m.toArray=ByteArray.mk (l++m).toArray:=Go.ByteArray.mk_append_mk l m
@[simp] theorem wq (l:List UInt8):(ByteArray.mk l.toArray).toList=l:=Go.ByteArray.toList_eq _
@[simp] theorem ya (l:List UInt8):Qm (l.map u8v)=some l:=by
 induction l with
 |nil=>rfl
 |cons b l ih=>
  have h:ab (u8v b)=some b:=by
   have:=b.toNat_lt
   simp[ab]
   omega
  simp[Qm,h,ih]
@[simp] theorem Ac4 {P:Program} {t u:TypeId} {f:Bool} {xs:List A}:JV P t u (.sl f xs)=match P.underlying t,P.underlying u with
  |some (.slice e),some .string=>(match P.underlying e,Qm xs with | some (.int .u8),some l=>some (S l) | _,_=>none)
  |_,_=>none:=by
 unfold JV
 cases P.underlying t with
 |none=>rfl
 |some d=>
  cases P.underlying u with
  |none=>cases d<;>rfl
  |some d'=>cases d<;>cases d'<;>rfl
end Go.G
namespace Go.PL
structure Sc where
 i:Nat
 j:Nat
 n:Int
 deriving DecidableEq
def ad:Sc:=⟨0,0,0⟩
def Bp (a b:Sc):Bool:=decide (b.n<a.n) || (decide (a.n=b.n)&&(decide (a.i<b.i) || (decide (a.i=b.i)&&decide (a.j<b.j))))
def Wb (l:List Sc) (i j:Nat):List Sc:=(l.set i (l.getD j ad)).set j (l.getD i ad)
@[simp] theorem YI {l:List Sc} {i j:Nat}:(Wb l i j).length=l.length:=by simp[Wb]
def jL:Nat→List Sc→Nat→List Sc
 |0,l,_=>l
 |f+1,l,j=>if (j-1) / 2=j∨Bp (l.getD j ad) (l.getD ((j-1) / 2) ad)=false then l else jL f (Wb l ((j-1) / 2) j) ((j-1) / 2)
def LF (l:List Sc) (i n:Nat):Nat:=if 2*i+2<n∧Bp (l.getD (2*i+2) ad) (l.getD (2*i+1) ad)=true then 2*i+2 else 2*i+1
def Ho:Nat→List Sc→Nat→Nat→List Sc × Nat
 |0,l,i,_=>(l,i)
 |f+1,l,i,n=>if n≤2*i+1 then (l,i) else if Bp (l.getD (LF l i n) ad) (l.getD i ad)=true then Ho f (Wb l i (LF l i n)) (LF l i n) n else (l,i)
theorem Y1:∀ (f:Nat) (l:List Sc) (j:Nat),(jL f l j).length=l.length
 |0,l,j=>rfl
 |f+1,l,j=>by
  unfold jL
  split
  ·rfl
  ·rw[Y1 f];simp
theorem Xz:∀ (f:Nat) (l:List Sc) (i n:Nat),(Ho f l i n).1.length=l.length
 |0,l,i,n=>rfl
 |f+1,l,i,n=>by
  unfold Ho
  split
  ·rfl
  ·split
   ·rw[Xz f];simp
   ·rfl
end Go.PL
namespace Go.PL
open List
theorem XN {a b:Sc}:Bp a b=true ↔ b.n<a.n∨(a.n=b.n∧(a.i<b.i∨(a.i=b.i∧a.j<b.j))):=by
 unfold Bp
 simp
theorem Ol {a b:Sc}:Bp a b=false ↔ a.n<b.n∨(a.n=b.n∧(b.i<a.i∨(a.i=b.i∧b.j≤a.j))):=by
 rw[Bool.eq_false_iff,ne_eq,XN]
 omega
theorem Sq (a:Sc):Bp a a=false:=by rw[Ol];omega
theorem L9 {a b:Sc} (h:Bp a b=true):Bp b a=false:=by
 rw[XN] at h;rw[Ol];omega
theorem Q1 {a b c:Sc} (h1:Bp b a=false) (h2:Bp c b=false):Bp c a=false:=by
 rw[Ol] at h1 h2 ⊢; omega
theorem jM {a b:Sc} (h1:Bp a b=false) (h2:Bp b a=false):a=b:=by
 rw[Ol] at h1 h2
 obtain⟨i,j,n⟩:=a
 obtain⟨i',j',n'⟩:=b
 simp at h1 h2 ⊢
 omega
abbrev gt (l:List Sc) (k:Nat):Sc:=l.getD k ad
theorem Fy {l:List Sc} {i j:Nat} (hi:i<l.length) (hj:j<l.length) (k:Nat):gt (Wb l i j) k=if k=j then gt l i else if k=i then gt l j else gt l k:=by
 unfold gt Wb
 simp only[List.getD_eq_getElem?_getD,List.getElem?_set,List.length_set]
 by_cases h1:k=j
 ·subst h1;simp[hj]
 ·rw[if_neg (fun e=>h1 e.symm)]
  by_cases h2:k=i
  ·subst h2;simp[h1,hi]
  ·rw[if_neg (fun e=>h2 e.symm)];simp[h1,h2]
theorem U4 {l:List Sc} {i j:Nat} (hi:i<l.length) (hj:j<l.length):Wb l i j ~ l:=by
 unfold Wb
 rw[List.getD_eq_getElem?_getD,List.getD_eq_getElem?_getD,List.getElem?_eq_getElem hi,List.getElem?_eq_getElem hj]
 exact List.set_set_perm hi hj
def MA (l:List Sc) (n:Nat):Prop:=∀ k,0<k→k<n→Bp (gt l k) (gt l ((k-1) / 2))=false
theorem qO {l:List Sc} {n:Nat} (h:MA l n):∀ k,k<n→Bp (gt l k) (gt l 0)=false:=by
 intro k
 induction k using Nat.strongRecOn with
 |_ k ih=>
  intro hk
  by_cases h0:k=0
  ·subst h0;exact Sq _
  ·exact Q1 (ih ((k-1) / 2) (by omega) (by omega)) (h k (by omega) hk)
def AaV (l:List Sc) (n j:Nat):Prop:=(∀ k,0<k→k<n→k ≠ j→Bp (gt l k) (gt l ((k-1) / 2))=false)∧(∀ k,0<k→k<n→(k-1) / 2=j→0<j→Bp (gt l k) (gt l ((j-1) / 2))=false)
theorem vd:∀ (f:Nat) (l:List Sc) (j:Nat),j<f→j<l.length→AaV l l.length j→MA (jL f l j) l.length∧jL f l j ~ l
 |0,l,j,hf,_,_=>by omega
 |f+1,l,j,hf,hj,⟨h1,h2⟩=>by
  unfold jL
  split
  ·rename_i hc
   refine⟨fun k hk hk2=>?_,Perm.refl _⟩
   by_cases e:k=j
   ·subst e
    rcases hc with hc | hc
    ·omega
    ·exact hc
   ·exact h1 k hk hk2 e
  ·rename_i hc
   have hij:¬ (j-1) / 2=j:=fun e=>hc (.inl e)
   have hA:Bp (gt l j) (gt l ((j-1) / 2))=true:=by
    cases hq:Bp (gt l j) (gt l ((j-1) / 2)) with
    |true=>rfl
    |false=>exact(hc (.inr hq)).elim
   obtain⟨i,hi⟩:∃ i,i=(j-1) / 2:=⟨_,rfl⟩
   rw[← hi] at hij hA h2 ⊢
   have hil:i<l.length:=by omega
   have hlt:i<j:=by omega
   have ih:=vd f (Wb l i j) i (by omega) (by simp;omega) ⟨fun k hk hk2 hne=>?_,fun k hk hk2 hp h0=>?_⟩
   ·simp only[YI] at ih
    exact⟨ih.1,ih.2.trans (U4 hil hj)⟩
   ·simp only[YI] at hk2
    rw[Fy hil hj,Fy hil hj]
    by_cases e1:k=j
    ·subst e1
     rw[if_pos rfl,← hi,if_neg (by omega),if_pos rfl]
     exact L9 hA
    ·rw[if_neg e1,if_neg hne]
     by_cases e2:(k-1) / 2=j
     ·rw[if_pos e2]
      exact h2 k hk hk2 e2 (by omega)
     ·rw[if_neg e2]
      by_cases e3:(k-1) / 2=i
      ·rw[if_pos e3]
       have:=h1 k hk hk2 e1
       rw[e3] at this
       exact Q1 (L9 hA) this
      ·rw[if_neg e3]
       exact h1 k hk hk2 e1
   ·simp only[YI] at hk2
    rw[Fy hil hj,Fy hil hj]
    have hpi:=h1 i h0 hil (by omega)
    rw[if_neg (by omega:¬ (i-1) / 2=j),if_neg (by omega:¬ (i-1) / 2=i)]
    by_cases e1:k=j
    ·rw[if_pos e1];exact hpi
    ·rw[if_neg e1,if_neg (by omega:¬ k=i)]
     have:=h1 k hk hk2 e1
     rw[hp] at this
     exact Q1 hpi this
theorem gL {l:List Sc} (h:MA l l.length) (x:Sc):MA (jL (l.length+1) (l++[x]) l.length) (l.length+1)∧jL (l.length+1) (l++[x]) l.length ~ x::l:=by
 have hg:∀ k,k<l.length→gt (l++[x]) k=gt l k:=fun k hk=>by
  unfold gt
  rw[List.getD_eq_getElem?_getD,List.getD_eq_getElem?_getD,List.getElem?_append_left hk]
 have:=vd (l.length+1) (l++[x]) l.length (by omega) (by simp) ⟨fun k hk hk2 hne=>?_,fun k hk hk2 hp h0=>?_⟩
 ·simp only[List.length_append,List.length_singleton] at this
  exact⟨this.1,this.2.trans (List.perm_append_singleton x l)⟩
 ·simp at hk2
  rw[hg k (by omega),hg _ (by omega)]
  exact h k hk (by omega)
 ·simp at hk2;omega
def se (l:List Sc) (n i:Nat):Prop:=(∀ k,0<k→k<n→(k-1) / 2 ≠ i→Bp (gt l k) (gt l ((k-1) / 2))=false)∧(∀ k,0<k→k<n→(k-1) / 2=i→0<i→Bp (gt l k) (gt l ((i-1) / 2))=false)
theorem kO {l:List Sc} {i n:Nat} (h:2*i+1<n):LF l i n<n∧(LF l i n-1) / 2=i∧i<LF l i n∧∀ k,0<k→k<n→(k-1) / 2=i→Bp (gt l k) (gt l (LF l i n))=false:=by
 unfold LF
 split
 ·rename_i hc
  refine⟨hc.1,by omega,by omega,fun k hk hk2 hp=>?_⟩
  have:k=2*i+1∨k=2*i+2:=by omega
  rcases this with rfl | rfl
  ·exact L9 hc.2
  ·exact Sq _
 ·rename_i hc
  refine⟨h,by omega,by omega,fun k hk hk2 hp=>?_⟩
  have:k=2*i+1∨k=2*i+2:=by omega
  rcases this with rfl | rfl
  ·exact Sq _
  ·cases hq:Bp (gt l (2*i+2)) (gt l (2*i+1)) with
   |false=>rfl
   |true=>exact(hc ⟨hk2,hq⟩).elim
theorem iY:∀ (f:Nat) (l:List Sc) (i n:Nat),n≤l.length→i<l.length→n<i+f→se l n i→MA (Ho f l i n).1 n∧(Ho f l i n).1 ~ l∧∀ k,n≤k→gt (Ho f l i n).1 k=if k=i then gt (Ho f l i n).1 i else gt l k
 |0,l,i,n,hn,hil,hf,⟨h1,h2⟩=>by
  refine⟨fun k hk hk2=>h1 k hk hk2 (by omega),Perm.refl _,fun k hk=>?_⟩
  show gt l k=if k=i then gt l i else gt l k
  split
  ·rename_i e;rw[e]
  ·rfl
 |f+1,l,i,n,hn,hil,hf,⟨h1,h2⟩=>by
  have same:∀ k:Nat,gt l k=if k=i then gt l i else gt l k:=fun k=>by
   split
   ·rename_i e;rw[e]
   ·rfl
  unfold Ho
  split
  ·refine⟨fun k hk hk2=>h1 k hk hk2 (by omega),Perm.refl _,fun k _=>same k⟩
  ·rename_i hlt
   obtain⟨c1,c2,c3,c4⟩:=kO (l:=l) (i:=i) (n:=n) (by omega)
   split
   ·rename_i hA
    generalize LF l i n=c at *
    have hcl:c<l.length:=by omega
    have ih:=iY f (Wb l i c) c n (by simp;omega) (by simp;omega) (by omega) ⟨fun k hk hk2 hne=>?_,fun k hk hk2 hp h0=>?_⟩
    ·refine⟨ih.1,ih.2.1.trans (U4 hil hcl),fun k hk=>?_⟩
     rw[ih.2.2 k hk,if_neg (by omega:¬ k=c),Fy hil hcl,if_neg (by omega:¬ k=c)]
     by_cases e:k=i
     ·subst e
      omega
     ·rw[if_neg e,if_neg e]
    ·rw[Fy hil hcl,Fy hil hcl]
     by_cases e1:k=c
     ·subst e1
      rw[if_pos rfl,c2,if_neg (by omega),if_pos rfl]
      exact L9 hA
     ·rw[if_neg e1]
      by_cases e2:k=i
      ·subst e2
       rw[if_pos rfl,if_neg hne,if_neg (by omega:¬ (k-1) / 2=k)]
       exact h2 c (by omega) c1 c2 hk
      ·rw[if_neg e2,if_neg hne]
       by_cases e3:(k-1) / 2=i
       ·rw[if_pos e3]
        exact c4 k hk hk2 e3
       ·rw[if_neg e3]
        exact h1 k hk hk2 e3
    ·rw[Fy hil hcl,Fy hil hcl,c2,if_neg (by omega:¬ i=c),if_pos rfl,if_neg (by omega:¬ k=c),if_neg (by omega:¬ k=i)]
     have:=h1 k hk hk2 (by omega)
     rwa [hp] at this
   ·rename_i hA
    have hA':Bp (gt l (LF l i n)) (gt l i)=false:=by
     cases hq:Bp (gt l (LF l i n)) (gt l i) with
     |false=>rfl
     |true=>exact(hA hq).elim
    refine⟨fun k hk hk2=>?_,Perm.refl _,fun k _=>same k⟩
    by_cases e:(k-1) / 2=i
    ·rw[e]
     exact Q1 hA' (c4 k hk hk2 e)
    ·exact h1 k hk hk2 e
def JY (l:List Sc):List Sc:=(Ho (l.length-1+1) (Wb l 0 (l.length-1)) 0 (l.length-1)).1
theorem VM (l:List Sc):(JY l).length=l.length:=by unfold JY;rw[Xz];simp
theorem vl {l:List Sc} {i:Nat} (h:i<l.length):gt l i=l[i]:=by unfold gt;rw[List.getD_eq_getElem?_getD,List.getElem?_eq_getElem h];rfl
theorem iH {l:List Sc} {n k:Nat} (h:k<n):gt (l.take n) k=gt l k:=by
 unfold gt
 rw[List.getD_eq_getElem?_getD,List.getD_eq_getElem?_getD,List.getElem?_take,if_pos h]
theorem xF {l:List Sc} (h0:0<l.length) (h:MA l l.length):gt (JY l) (l.length-1)=gt l 0∧MA ((JY l).take (l.length-1)) (l.length-1)∧(gt l 0::(JY l).take (l.length-1)) ~ l:=by
 have hlen:=VM l
 obtain⟨n,hn⟩:∃ n,n=l.length-1:=⟨_,rfl⟩
 unfold JY at hlen ⊢
 rw[← hn] at hlen ⊢
 have hnl:n<l.length:=by omega
 have hd:=iY (n+1) (Wb l 0 n) 0 n (by simp;omega) (by simp;omega) (by omega) ⟨fun k hk hk2 hne=>?_,fun k _ _ _ h0=>by omega⟩
 ·generalize hl2:(Ho (n+1) (Wb l 0 n) 0 n).1=l2 at hd hlen
  have hg:gt l2 n=gt l 0:=by
   by_cases e:n=0
   ·subst e
    have:l2=Wb l 0 0:=by rw[← hl2,Ho,if_pos (by omega)]
    rw[this,Fy h0 h0,if_pos rfl]
   ·rw[hd.2.2 n (Cc _),if_neg e,Fy h0 hnl,if_pos rfl]
  refine⟨hg,fun k hk hk2=>?_,?_⟩
  ·rw[iH hk2,iH (by omega)]
   exact hd.1 k hk hk2
  ·have hsplit:l2=l2.take n++[gt l2 n]:=by
    rw[vl (by omega),List.take_append_getElem,Bb (by omega)]
   refine Perm.trans ?_ (hd.2.1.trans (U4 h0 hnl))
   conv=>rhs;rw[hsplit]
   rw[hg]
   exact(List.perm_append_singleton _ _).symm
 ·rw[Fy h0 hnl,Fy h0 hnl,if_neg (by omega:¬ k=n),if_neg (by omega:¬ k=0),if_neg (by omega:¬ (k-1) / 2=n),if_neg hne]
  exact h k hk (by omega)
def Wu (p q:Sc):Bool:=(decide (p.i<q.i)&&decide (p.j<q.j)) || (decide (q.i<p.i)&&decide (q.j<p.j))
theorem aF {p q:Sc}:Wu p q=Wu q p:=by unfold Wu;rw[Bool.or_comm]
theorem tf (p:Sc):Wu p p=false:=by simp[Wu]
def Ha (o:List Sc) (x:Sc):Bool:=o.all fun p=>Wu p x
theorem W6 {o:List Sc} {x y:Sc}:Ha (o++[x]) y=(Ha o y&&Wu x y):=by simp[Ha]
def sT (all o:List Sc) (x:Sc):Prop:=x ∈ all∧Ha o x=true∧∀ y,y ∈ all→Ha o y=true→Bp y x=false
inductive MC (all:List Sc):List Sc→List Sc→Prop
 |done {o}:(∀ y,y ∈ all→Ha o y=false)→MC all o o
 |step {o x o'}:sT all o x→MC all (o++[x]) o'→MC all o o'
theorem nq {all o:List Sc} {x y:Sc} (h:sT all o x) (k:sT all o y):x=y:=jM (k.2.2 x h.1 h.2.1) (h.2.2 y k.1 k.2.1)
theorem kQ {all o a b:List Sc} (h:MC all o a):MC all o b→a=b:=by
 induction h with
 |done h=>
  intro k
  cases k with
  |done=>rfl
  |step hb _=>
   have:=hb.2.1
   rw[h _ hb.1] at this
   cases this
 |step hb _ ih=>
  intro k
  cases k with
  |done k=>
   have:=hb.2.1
   rw[k _ hb.1] at this
   cases this
  |step hb' k=>
   have:=nq hb hb'
   subst this
   exact ih k
def EK (o:List Sc):Prop:=o.Pairwise fun p q=>Wu p q=true
theorem fX {o:List Sc} {x:Sc} (h:EK o) (hx:Ha o x=true):EK (o++[x]):=by
 unfold EK at h ⊢
 rw[List.pairwise_append]
 refine⟨h,by simp,fun p hp q hq=>?_⟩
 simp at hq
 subst hq
 simp[Ha] at hx
 exact hx p hp
theorem ba {all o o':List Sc} (h:MC all o o'):EK o→(∀ x,x ∈ o→x ∈ all)→EK o'∧∀ x,x ∈ o'→x ∈ all:=by
 induction h with
 |done=>exact fun h k=>⟨h,k⟩
 |step hb _ ih=>
  intro h k
  refine ih (fX h hb.2.1) fun x hx=>?_
  rcases List.mem_append.1 hx with hx | hx
  ·exact k x hx
  ·simp at hx;subst hx;exact hb.1
theorem om {all o:List Sc} {x:Sc} {l rest:List Sc} (hl:x::rest ~ l) (hmin:∀ y,y ∈ l→Bp y x=false) (hall:∀ y,y ∈ all→y ∈ l∨Ha o y=false) (hsub:∀ y,y ∈ l→y ∈ all) :
  (Ha o x=true→sT all o x∧(∀ y,y ∈ all→y ∈ rest∨Ha (o++[x]) y=false))∧(Ha o x=false→∀ y,y ∈ all→y ∈ rest∨Ha o y=false):=by
 refine⟨fun hx=>⟨⟨hsub x (hl.subset (by simp)),hx,fun y hy hf=>?_⟩,fun y hy=>?_⟩,fun hx y hy=>?_⟩
 ·rcases hall y hy with h | h
  ·exact hmin y h
  ·rw[h] at hf;cases hf
 ·rcases hall y hy with h | h
  ·rcases List.mem_cons.1 (hl.symm.subset h) with rfl | h
   ·right;rw[W6,tf];simp
   ·exact .inl h
  ·right;rw[W6,h];rfl
 ·rcases hall y hy with h | h
  ·rcases List.mem_cons.1 (hl.symm.subset h) with rfl | h
   ·exact .inr hx
   ·exact .inl h
  ·exact .inr h
def Wt (x:Sc):List Sc→List Sc
 |[]=>[x]
 |y::l=>if y.i<x.i then y::Wt x l else x::y::l
def J8 (l:List Sc):Prop:=l.Pairwise fun p q=>p.i<q.i
theorem RM (x:Sc):∀ l,Wt x l ~ x::l
 |[]=>Perm.refl _
 |y::l=>by
  unfold Wt
  split
  ·exact((RM x l).cons y).trans (Perm.swap x y l)
  ·exact Perm.refl _
theorem Uu {x:Sc}:∀ {l:List Sc},J8 l→(∀ y,y ∈ l→y.i ≠ x.i)→J8 (Wt x l)
 |[],_,_=>by simp[Wt,J8]
 |y::l,h,hne=>by
  unfold Wt
  unfold J8 at h ⊢
  rw[List.pairwise_cons] at h
  split
  ·rename_i hlt
   rw[List.pairwise_cons]
   refine⟨fun z hz=>?_,Uu h.2 fun z hz=>hne z (by simp[hz])⟩
   rcases List.mem_cons.1 ((RM x l).subset hz) with rfl | hz
   ·exact hlt
   ·exact h.1 z hz
  ·rename_i hlt
   have:=hne y (by simp)
   rw[List.pairwise_cons,List.pairwise_cons]
   refine⟨fun z hz=>?_,h⟩
   rcases List.mem_cons.1 hz with rfl | hz
   ·omega
   ·have:=h.1 z hz;omega
theorem Xp:∀ {l m:List Sc},J8 l→J8 m→l ~ m→l=m
 |[],m,_,_,h=>(List.nil_perm.1 h).symm
 |x::l,[],_,_,h=>by have:=h.length_eq;simp at this
 |x::l,y::m,hl,hm,h=>by
  unfold J8 at hl hm
  rw[List.pairwise_cons] at hl hm
  have e:x=y:=by
   rcases List.mem_cons.1 (h.subset (by simp:x ∈ x::l)) with e | e
   ·exact e
   ·rcases List.mem_cons.1 (h.symm.subset (by simp:y ∈ y::m)) with e2 | e2
    ·exact e2.symm
    ·have h1:=hm.1 x e
     have h2:=hl.1 y e2
     omega
  subst e
  rw[Xp hl.2 hm.2 ((List.perm_cons x).1 h)]
def Ss (o:List Sc):List Sc:=o.foldl (fun l x=>Wt x l) []
theorem R6 {o:List Sc} (h:EK o):J8 (Ss o)∧Ss o ~ o:=by
 have main:∀ (o l p:List Sc),J8 l→l ~ p→(p++o).Pairwise (fun a b=>Wu a b=true)→J8 (o.foldl (fun l x=>Wt x l) l)∧o.foldl (fun l x=>Wt x l) l ~ p++o:=by
  intro o
  induction o with
  |nil=>intro l p h1 h2 _;simpa using ⟨h1,h2⟩
  |cons x o ih=>
   intro l p h1 h2 h3
   have hx:∀ y,y ∈ p→Wu y x=true:=fun y hy=>by
    rw[List.pairwise_append] at h3
    exact h3.2.2 y hy x (by simp)
   have:=ih (Wt x l) (p++[x]) (Uu h1 fun y hy e=>by
    have:=hx y (h2.subset hy)
    simp[Wu] at this
    omega) ((RM x l).trans ((h2.cons x).trans (List.perm_append_singleton x p).symm)) (by simpa using h3)
   simpa using this
 have:=main o [] [] (by simp[J8]) (Perm.refl _) (by show EK ([]++o);exact h)
 simpa[Ss] using this
theorem Xv:∀ (l:List Sc) (a b:Nat),J8 l→(∀ x,x ∈ l→a≤x.i∧x.i<b)→l.length≤b-a
 |[],a,b,_,_=>by simp
 |x::l,a,b,h,hb=>by
  unfold J8 at h
  rw[List.pairwise_cons] at h
  have h1:=hb x (by simp)
  have:=Xv l (x.i+1) b h.2 fun y hy=>⟨h.1 y hy,(hb y (by simp[hy])).2⟩
  simp
  omega
end Go.PL
namespace Go.Proofs.YtbjmaoedheiigaaGreat
open Go Go.G Go.Proofs Go.PL
def Zw (x:Sc):List A:=[iv x.i,iv x.j,iv x.n]
def Oj (x:Sc):A:=.agg (Zw x)
@[simp] theorem yM {x:Sc}:(Oj x).cells=Zw x:=rfl
@[simp] theorem Aft {x:Sc}:(Zw x).length=3:=rfl
@[simp] theorem Ac1 {a:A}:aK Tryz.prog 277 a=some (.ifc 277 a):=by
 unfold aK
 rw[show Tryz.prog.underlying 277=some (.pointer 279) by kernel_rfl]
@[simp] theorem Ahg {a:A}:aK Tryz.prog 282 a=some (.ifc 282 a):=by
 unfold aK
 rw[show Tryz.prog.underlying 282=some (.struct (Tryz.prog.fieldsOf 282)) by kernel_rfl]
@[simp] theorem yI {a:A}:Mi Tryz.prog 282 false (.ifc 282 a)=some a:=by
 simp only[Mi,if_true]
 rw[show Tryz.prog.underlying 282=some (.struct (Tryz.prog.fieldsOf 282)) by kernel_rfl]
 rfl
def K0 (l junk:List Sc) (v:Nat):Fam:=⟨fun r p=>if p=[] then ⟨1,.cells [.osl (r::[0]) v 3 0 l.length]⟩ else if p=[0] then ⟨v,.arr 3 ((l++junk).map Oj)⟩ else ⟨0,.none⟩,fun {g δ r r'} hg hd p=>by
  by_cases h1:p=[]
  ·rw[if_pos h1,if_pos h1]
   refine Fam.cells_ren ?_
   simp[A.renL,A.ren,hg,hd]
  ·rw[if_neg h1,if_neg h1]
   by_cases h2:p=[0]
   ·rw[if_pos h2]
    refine Fam.arr_ren ?_
    have e:∀ x:Sc,(Oj x).ren g δ=Oj x:=fun x=>by simp[Oj,Zw,A.ren,A.renL]
    simp only[Cm,List.map_map]
    refine List.map_congr_left fun x _=>?_
    exact e x
   ·rw[if_neg h2];rfl,fun {D r} hD p=>by
  by_cases h1:p=[]
  ·rw[if_pos h1]
   simp[Ob.refs,A.refsL,A.refs,hD]
  ·rw[if_neg h1]
   by_cases h2:p=[0]
   ·rw[if_pos h2]
    simp only[Ob.refs,refsL_iff]
    intro y hy
    obtain⟨x,_,rfl⟩:=List.mem_map.1 hy
    simp[A.refs,A.refsL,Oj,Zw]
   ·rw[if_neg h2];trivial⟩
@[simp] theorem uA {l junk:List Sc} {v r:Nat} {p:Nm}:(K0 l junk v).F r p=if p=[] then ⟨1,.cells [.osl (r::[0]) v 3 0 l.length]⟩ else if p=[0] then ⟨v,.arr 3 ((l++junk).map Oj)⟩ else ⟨0,.none⟩:=rfl
abbrev cF (r:Nat):A:=.pob [r] 1 0
abbrev cO (r:Nat):A:=.ifc 277 (cF r)
abbrev scI (x:Sc):A:=.ifc 282 (Oj x)
theorem sY {x:Sc}:∀ y,y ∈ Zw x→y.bare1=true:=fun y hy=>by simp[Zw] at hy;rcases hy with rfl | rfl | rfl<;>rfl
@[simp] theorem Ael {x:Sc}:A.ones (Zw x)=true:=rfl
@[simp] theorem Afd {x:Sc}:(Zw x).take 3=Zw x:=rfl
theorem qv {x:Sc}:A.agg (Zw x)=Oj x:=rfl
theorem sN {l:List Sc}:DS 3 (l.map Oj)=true:=by rw[Ip];simp
theorem Qu (x:Sc):ER (fun _=>scI x):=Nr (HE (cs:=Zw x) rfl fun y hy=>by simp[Zw] at hy;rcases hy with rfl | rfl | rfl<;>rfl)
theorem Ou (l junk:List Sc) (v:Nat) (hl:l.length≤1000):Bg Tryz.prog 237 (fun r=>[.osl (r::[0]) v 3 0 l.length]) (K0 l junk v) (fun _=>iv l.length) (K0 l junk v):=by
 refine AH UC (by simp) (Ah Iv Am) Ax fun w0 I0 M0 m0=>?_
 unfold Nq
 simp
 exact AZ rfl rfl (fun p=>by simp)
theorem fG (l junk:List Sc) (v:Nat) (hl:l.length≤1000) (x:Sc):Bg Tryz.prog 307 (fun r=>[cF r,scI x]) (K0 l junk v) (fun _=>.tup []) (K0 (l++[x]) [] (v+1)):=by
 refine AH Ty (by simp) (Ah AG (Ah (Qu x) Am)) (Bu Am) fun w0 I0 M0 m0=>?_
 unfold MJ
 simp[sN,Aa]
 refine⟨sY,by omega,?_⟩
 exact AO rfl rfl (fun p=>by by_cases h1:p=[]<;>by_cases h2:p=[0]<;>simp[h1,h2,Aa])
theorem jN (l junk:List Sc) (v:Nat) (hl:l.length≤1000) (x:Sc):Bg Tryz.prog 306 (fun r=>[cF r]) (K0 (l++[x]) junk v) (fun _=>scI x) (K0 l (x::junk) v):=by
 refine AH VA (by simp) (Ah AG Am) (Qu x) fun w0 I0 M0 m0=>?_
 have e1:IntKind.i64.wrap (l.length:Int)=(l.length:Int):=Af (by omega) (by omega)
 have he:(l.map Oj++Oj x::junk.map Oj)[l.length]? = some (Oj x):=by
  rw[List.getElem?_append_right (by simp)];simp
 unfold Ni
 simp[e1,he,Aa,show(l.length:Int)<l.length+1 by omega,show(l.length:Int)≤l.length+1 by omega]
 exact AO rfl rfl (fun p=>by by_cases h1:p=[]<;>by_cases h2:p=[0]<;>simp[h1,h2,Aa])
theorem U2 (n:Int):G.Spec Tryz.prog 266 [iv n] (bv false):=by
 refine Al TF (by simp) fun w0 I0=>?_
 unfold MF
 simp
 exact Ab rfl
def ED (a b:Int):Int:=if a<b then -1 else if b<a then 1 else 0
theorem QN (a b:Int):G.Spec Tryz.prog 243 [iv a,iv b] (iv (ED a b)):=by
 refine Al Q3 (by simp) fun w0 I0=>?_
 unfold Ky ED
 simp
 refine Ae (U2 a) rfl ?_
 simp
 refine Ae (U2 b) rfl ?_
 by_cases h:a<b
 ·simp[h]
  exact Ab rfl
 ·by_cases h2:b<a
  ·simp[h,h2]
   exact Ab rfl
  ·simp[h,h2]
   exact Ab rfl
theorem ti (a b c:Int):G.Spec Tryz.prog 310 [.sl true [iv a,iv b,iv c]] (iv (if a ≠ 0 then a else if b ≠ 0 then b else c)):=by
 refine Al Yt (by simp) fun w0 I0=>?_
 have w1:IntKind.i64.wrap 1=1:=rfl
 have w2:IntKind.i64.wrap 2=2:=rfl
 have w3:IntKind.i64.wrap 3=3:=rfl
 unfold QI
 simp
 refine Ad Ak F3.eq_1 ?_
 by_cases h1:a=0
 ·simp[h1,w1]
  refine Ad Ak F3.eq_1 ?_
  by_cases h2:b=0
  ·simp[h2,w2]
   refine Ad Ak F3.eq_1 ?_
   by_cases h3:c=0
   ·simp[h3,w3]
    refine Ad Ak F3.eq_1 ?_
    simp
    exact Ab rfl
   ·simp[h3]
    exact Ab rfl
  ·simp[h2]
   exact Ab rfl
 ·simp[h1]
  exact Ab rfl
theorem kt (a b:Sc):decide ((if ED b.n a.n ≠ 0 then ED b.n a.n else if ED a.i b.i ≠ 0 then ED a.i b.i else ED a.j b.j)<0)=Bp a b:=by
 have h3:∀ x y:Int,(x<y∧ED x y = -1)∨(x=y∧ED x y=0)∨(y<x∧ED x y=1):=fun x y=>by
  unfold ED
  rcases Int.lt_trichotomy x y with h | h | h
  ·exact .inl ⟨h,if_pos h⟩
  ·exact .inr (.inl ⟨h,by rw[if_neg (by omega),if_neg (by omega)]⟩)
  ·exact .inr (.inr ⟨h,by rw[if_neg (by omega),if_pos h]⟩)
 unfold Bp
 rcases h3 b.n a.n with ⟨h,e⟩ | ⟨h,e⟩ | ⟨h,e⟩
 ·rw[e];simp[h]
 ·rw[e]
  rcases h3 a.i b.i with ⟨h2,e2⟩ | ⟨h2,e2⟩ | ⟨h2,e2⟩
  ·rw[e2]
   have:a.i<b.i:=by omega
   simp[h,this]
  ·rw[e2]
   have h2':a.i=b.i:=by omega
   rcases h3 a.j b.j with ⟨h4,e4⟩ | ⟨h4,e4⟩ | ⟨h4,e4⟩
   ·rw[e4]
    have:a.j<b.j:=by omega
    simp[h,h2',this]
   ·rw[e4]
    have:¬ a.j<b.j:=by omega
    simp[h,h2',this]
   ·rw[e4]
    have:¬ a.j<b.j:=by omega
    simp[h,h2',this]
  ·rw[e2]
   have h5:¬ a.i<b.i:=by omega
   have h6:¬ a.i=b.i:=by omega
   simp[h,h5,h6]
 ·rw[e]
  have h5:¬ b.n<a.n:=by omega
  have h6:¬ a.n=b.n:=by omega
  simp[h5,h6]
theorem dv (a b:Sc):G.Spec Tryz.prog 309 [Oj a,Oj b] (bv (Bp a b)):=by
 refine Al Oy (by simp) fun w0 I0=>?_
 have hO:=ti (ED b.n a.n) (ED a.i b.i) (ED a.j b.j)
 unfold IW
 simp[Oj,Zw]
 refine Ae (QN b.n a.n) rfl ?_
 simp
 refine Ae (QN a.i b.i) rfl ?_
 simp
 refine Ae (QN a.j b.j) rfl ?_
 simp
 refine Ae hO rfl ?_
 simp
 refine Bl ?_
 rw[← kt]
 simp
theorem Pv (l junk:List Sc) (v:Nat) (hl:l.length≤1000) (i j:Nat) (hi:i<l.length) (hj:j<l.length):Bg Tryz.prog 305 (fun r=>[.osl (r::[0]) v 3 0 l.length,iv i,iv j]) (K0 l junk v) (fun _=>bv (Bp l[i] l[j])) (K0 l junk v):=by
 refine AH Tz (by simp) (Ah Iv (Ah Ax (Ah Ax Am))) Ax fun w0 I0 M0 m0=>?_
 have hA:=dv l[i] l[j]
 have gi:(l.map Oj++junk.map Oj)[i]? = some (Oj l[i]):=by rw[List.getElem?_append_left (by simpa using hi)];simp[hi]
 have gj:(l.map Oj++junk.map Oj)[j]? = some (Oj l[j]):=by rw[List.getElem?_append_left (by simpa using hj)];simp[hj]
 unfold MH
 simp[gi,gj,hi,hj,show(i:Int)<l.length by omega,show(j:Int)<l.length by omega,qv]
 refine Ae hA rfl ?_
 simp
 exact AZ rfl rfl (fun p=>by simp)
theorem PB (l junk:List Sc) (v:Nat) (hl:l.length≤1000) (i j:Nat) (hi:i<l.length) (hj:j<l.length):Bg Tryz.prog 308 (fun r=>[.osl (r::[0]) v 3 0 l.length,iv i,iv j]) (K0 l junk v) (fun _=>.tup []) (K0 ((l.set i l[j]).set j l[i]) junk v):=by
 refine AH TK (by simp) (Ah Iv (Ah Ax (Ah Ax Am))) (Bu Am) fun w0 I0 M0 m0=>?_
 have gi:(l.map Oj++junk.map Oj)[i]? = some (Oj l[i]):=by rw[List.getElem?_append_left (by simpa using hi)];simp[hi]
 have gj:(l.map Oj++junk.map Oj)[j]? = some (Oj l[j]):=by rw[List.getElem?_append_left (by simpa using hj)];simp[hj]
 unfold My
 simp[gi,gj,hi,hj,show(i:Int)<l.length by omega,show(j:Int)<l.length by omega,qv]
 have gk:((l.map Oj).set i (Oj l[j])++junk.map Oj)[j]? = some (Oj l[j]):=by
  rw[List.getElem?_append_left (by simpa using hj)]
  by_cases e:i=j
  ·subst e;simp[hi]
  ·rw[List.getElem?_set_ne e];simp[hj]
 rw[gk]
 simp[hj]
 exact AO rfl rfl (fun p=>by by_cases h1:p=[]<;>by_cases h2:p=[0]<;>simp[h1,h2,Aa,List.map_set])
theorem RO:Pg Tryz.prog 277 "Less" = some (305,some 279):=by kernel_rfl
theorem RJ:Pg Tryz.prog 277 "Swap" = some (308,some 279):=by kernel_rfl
theorem bM:Pg Tryz.prog 277 "Len" = some (237,some 279):=by kernel_rfl
theorem jh:Pg Tryz.prog 277 "Push" = some (307,none):=by kernel_rfl
theorem nh:Pg Tryz.prog 277 "Pop" = some (306,none):=by kernel_rfl
theorem G5 {l:List Sc} {i:Nat} (h:i<l.length):l.getD i ad=l[i]:=by rw[List.getD_eq_getElem?_getD,List.getElem?_eq_getElem h];rfl
theorem cT {l:List Sc} {i j:Nat} (hi:i<l.length) (hj:j<l.length):Wb l i j=(l.set i l[j]).set j l[i]:=by unfold Wb;rw[G5 hi,G5 hj]
theorem Ib {H:Hp} {l junk:List Sc} {v:Nat} (hH:∀ p,H (0::p)=(K0 l junk v).F 0 p):XG Tryz.prog H (some 279) (cF 0)=some (.osl [0,0] v 3 0 l.length):=by
 have:=hH []
 unfold XG
 simp[this]
theorem AdA {n0:Nat} {w0:World} {I0:Nat→Prop} {M0:Nm→Nat→Prop} {m0:Mu} {Q:Exit→Sta→Prop} {junk:List Sc} {v:Nat}:∀ (f:Nat) (l:List Sc) (j:Nat) (H:Hp),l.length≤1000→j<l.length→j<f→(∀ p,H (0::p)=(K0 l junk v).F 0 p) →
  (∀ (H':Hp) (st:List (Nat × A)),(∀ p,H' (0::p)=(K0 (jL f l j) junk v).F 0 p)→Q (.exit 0) ⟨lk st,H'⟩) →
  LoopC (Ds Tryz.prog w0 I0 M0 n0 m0) E9 Q ⟨lk [(0,cO 0),(1,iv j)],H⟩:=by
 intro f
 induction f with
 |zero=>intro l j H _ _ hf;omega
 |succ f ih=>
  intro l j H hl hj hf hH hq
  obtain⟨i,hi⟩:∃ i,i=(j-1) / 2:=⟨_,rfl⟩
  have hil:i<l.length:=by omega
  have e1:IntKind.i64.wrap ((j:Int)-1)=(j:Int)-1:=Af (by omega) (by omega)
  have e2:IntKind.i64.wrap (((j:Int)-1).tdiv 2)=(i:Int):=by
   by_cases h0:j=0
   ·subst h0
    have:i=0:=by omega
    subst this;rfl
   ·rw[Int.tdiv_eq_ediv_of_nonneg (by omega),Af (by omega) (by omega)];omega
  have hL:=Pv l junk v hl j i hj hil
  have hS:=PB l junk v hl i j hil hj
  rw[jL,← hi,G5 hj,G5 hil,cT hil hj] at hq
  refine Ad Ak E9.eq_1 ?_
  by_cases hij:i=j
  ·rw[if_pos (.inl hij)] at hq
   simp[e1,e2,hij]
   rw[AF]
   simp
   exact hq H [(0,cO 0),(1,iv j),(4,iv j),(17,bv true)] hH
  ·have hij':¬ (i:Int)=j:=by omega
   simp[e1,e2,hij,hij']
   rw[AF]
   simp
   refine HJ 0 hL hH rfl RO (Ib hH) rfl (by simp) ?_
   cases hA:Bp l[j] l[i] with
   |false=>
    rw[hA,if_pos (.inr rfl)] at hq
    simp
    exact hq _ [(0,cO 0),(1,iv j),(4,iv i),(17,bv true)] (fun p=>by simp)
   |true=>
    rw[hA,if_neg (by simp[hij])] at hq
    simp
    have hH2:∀ p,(ov 0 ((K0 l junk v).F 0) H) (0::p)=(K0 l junk v).F 0 p:=fun p=>by simp
    refine HJ 0 hS hH2 rfl RJ (Ib hH2) rfl (by simp) ?_
    simp
    refine ih _ i _ (by simp;omega) (by simp;omega) (by omega) (fun p=>by simp) hq
theorem sj (l junk:List Sc) (v:Nat) (hl:l.length≤1000) (j:Nat) (hj:j<l.length):Bg Tryz.prog 261 (fun r=>[cO r,iv j]) (K0 l junk v) (fun _=>.tup []) (K0 (jL (j+1) l j) junk v):=by
 refine AH OL (by simp) (Ah (Nr AG) (Ah Ax Am)) (Bu Am) fun w0 I0 M0 m0=>?_
 unfold I3
 simp
 refine LoopC.le (AA [(0,cO 0),(1,iv j)] (by simp)) ?_
 refine AdA (junk:=junk) (v:=v) (j+1) l j _ hl hj (by omega) (fun p=>by simp) fun H' st hH=>?_
 simp
 exact AO rfl rfl hH
theorem s0 {l:List Sc} {i n:Nat} (h:2*i+1<n):LF l i n<n∧i<LF l i n:=by
 unfold LF
 split
 ·rename_i h2;omega
 ·omega
theorem r8 {n0:Nat} {w0:World} {I0:Nat→Prop} {M0:Nm→Nat→Prop} {m0:Mu} {Q':Exit→Sta→Prop} {junk l:List Sc} {v i k:Nat} {i0 n:Int} {H:Hp} (hl:l.length≤1000) (hi:i<l.length) (hk:k<l.length) (hH:∀ p,H (0::p)=(K0 l junk v).F 0 p)
  (h0:Bp l[k] l[i]=false→∀ (H':Hp),(∀ p,H' (0::p)=(K0 l junk v).F 0 p)→Q' (.exit 0) ⟨lk [(0,cO 0),(1,iv i0),(2,iv n),(7,iv i),(9,iv k),(39,bv true)],H'⟩)
  (h1:Bp l[k] l[i]=true→∀ (H':Hp),(∀ p,H' (0::p)=(K0 (Wb l i k) junk v).F 0 p)→Q' .normal ⟨lk [(0,cO 0),(1,iv i0),(2,iv n),(7,iv k)],H'⟩) :
  WPC (Ds Tryz.prog w0 I0 M0 n0 m0) CX Q' ⟨lk [(0,cO 0),(1,iv i0),(2,iv n),(7,iv i),(9,iv k)],H⟩:=by
 have hL:=Pv l junk v hl k i hk hi
 have hS:=PB l junk v hl i k hi hk
 rw[← cT hi hk] at hS
 rw[CX.eq_1]
 simp
 refine HJ 0 hL hH rfl RO (Ib hH) rfl (by simp) ?_
 cases hA:Bp l[k] l[i] with
 |false=>
  simp
  exact h0 hA _ (fun p=>by simp)
 |true=>
  simp
  have hH2:∀ p,(ov 0 ((K0 l junk v).F 0) H) (0::p)=(K0 l junk v).F 0 p:=fun p=>by simp
  refine HJ 0 hS hH2 rfl RJ (Ib hH2) rfl (by simp) ?_
  simp
  exact h1 hA _ (fun p=>by simp)
theorem r9 {n0:Nat} {w0:World} {I0:Nat→Prop} {M0:Nm→Nat→Prop} {m0:Mu} {Q:Exit→Sta→Prop} {junk:List Sc} {v n:Nat} {i0:Int}:∀ (f:Nat) (l:List Sc) (i:Nat) (H:Hp),l.length≤1000→n≤l.length→(i<n∨(n=0∧i=0))→n<i+f→i<l.length→(∀ p,H (0::p)=(K0 l junk v).F 0 p) →
  (∀ (H':Hp) (st:List (Nat × A)),(∀ p,H' (0::p)=(K0 (Ho f l i n).1 junk v).F 0 p)→(lk st) 1=iv i0→(lk st) 7=iv (Ho f l i n).2→Q (.exit 0) ⟨lk st,H'⟩) →
  LoopC (Ds Tryz.prog w0 I0 M0 n0 m0) C0 Q ⟨lk [(0,cO 0),(1,iv i0),(2,iv n),(7,iv i)],H⟩:=by
 intro f
 induction f with
 |zero=>intro l i H hl hn hi hf hil hH hq;omega
 |succ f ih=>
  intro l i H hl hn hi hf hil hH hq
  have e1:IntKind.i64.wrap (2*(i:Int))=2*(i:Int):=Af (by omega) (by omega)
  have e2:IntKind.i64.wrap (2*(i:Int)+1)=((2*i+1:Nat):Int):=Av
  rw[Ho] at hq
  refine Ad Ak C0.eq_1 ?_
  by_cases h1:n≤2*i+1
  ·rw[if_pos h1] at hq
   simp[e1,e2,show(n:Int)≤2*i+1 by omega]
   exact hq H [(0,cO 0),(1,iv i0),(2,iv n),(7,iv i),(8,iv (2*i+1:Nat)),(21,bv true)] hH rfl rfl
  ·rw[if_neg h1] at hq
   have e3:IntKind.i64.wrap (2*(i:Int)+1+1)=((2*i+2:Nat):Int):=Av
   have hkl:=s0 (l:=l) (i:=i) (n:=n) (by omega)
   have fin:∀ (H':Hp),(∀ p,H' (0::p)=(K0 l junk v).F 0 p)→WPC (Ds Tryz.prog w0 I0 M0 n0 m0) CX (Cf 1 (Gv (LoopC (Ds Tryz.prog w0 I0 M0 n0 m0) C0 Q) Q)) ⟨lk [(0,cO 0),(1,iv i0),(2,iv n),(7,iv i),(9,iv (LF l i n))],H'⟩:=fun H' hH'=>by
    refine r8 hl hil (k:=LF l i n) (by omega) hH' (fun hA H2 h2=>?_) (fun hA H2 h2=>?_)
    ·rw[← G5 (by omega),← G5 hil] at hA
     rw[if_neg (by rw[hA];simp)] at hq
     exact hq H2 _ h2 rfl rfl
    ·rw[← G5 (by omega),← G5 hil] at hA
     rw[if_pos hA] at hq
     simp
     exact ih _ _ H2 (by simp;omega) (by simp;omega) (.inl hkl.1) (by omega) (by simp;omega) h2 hq
   clear hq ih
   simp[e1,e2,show ¬ (n:Int)≤2*i+1 by omega,show ¬ 2*(i:Int)+1<0 by omega,e3]
   by_cases h2:2*i+2<n
   ·have hL:=Pv l junk v hl (2*i+2) (2*i+1) (by omega) (by omega)
    simp[show 2*(i:Int)+2<n by omega]
    rw[AF]
    simp
    refine HJ 0 hL hH rfl RO (Ib hH) rfl (by simp) ?_
    have hk:LF l i n=if Bp l[2*i+2] l[2*i+1]=true then 2*i+2 else 2*i+1:=by
     unfold LF
     rw[G5 (by omega),G5 (by omega)]
     simp[h2]
    rw[hk] at fin
    cases hA:Bp l[2*i+2] l[2*i+1] with
    |false=>
     rw[hA] at fin
     simp
     exact fin _ (fun p=>by simp)
    |true=>
     rw[hA] at fin
     simp
     exact fin _ (fun p=>by simp)
   ·have hk:LF l i n=2*i+1:=by
     unfold LF
     rw[if_neg (fun e=>h2 e.1)]
    rw[hk] at fin
    simp[show ¬ 2*(i:Int)+2<n by omega]
    rw[AF]
    simp
    exact fin _ hH
theorem jY (l junk:List Sc) (v:Nat) (hl:l.length≤1000) (n:Nat) (hn:n≤l.length) (h0:0<l.length):Bg Tryz.prog 262 (fun r=>[cO r,iv 0,iv n]) (K0 l junk v) (fun _=>bv (decide (0<(Ho (n+1) l 0 n).2))) (K0 (Ho (n+1) l 0 n).1 junk v):=by
 refine AH MR (by simp) (Ah (Nr AG) (Ah Ax (Ah Ax Am))) Ax fun w0 I0 M0 m0=>?_
 unfold Hq
 simp
 refine LoopC.le (AA [(0,cO 0),(1,iv 0),(2,iv n),(7,iv (0:Nat))] (by simp)) ?_
 refine r9 (junk:=junk) (v:=v) (n+1) l 0 _ hl hn (by omega) (by omega) h0 (fun p=>by simp) fun H' st hH h1 h7=>?_
 simp[h1,h7]
 exact AZ rfl rfl hH
theorem Z6 (l junk:List Sc) (v:Nat) (hl:l.length≤900) (x:Sc):Bg Tryz.prog 236 (fun r=>[cO r,scI x]) (K0 l junk v) (fun _=>.tup []) (K0 (jL (l.length+1) (l++[x]) l.length) [] (v+1)):=by
 refine AH ML (by simp) (Ah (Nr AG) (Ah (Qu x) Am)) (Bu Am) fun w0 I0 M0 m0=>?_
 have hP:=fG l junk v (by omega) x
 have hL:=Ou (l++[x]) [] (v+1) (by simp;omega)
 have hU:=sj (l++[x]) [] (v+1) (by simp;omega) l.length (by simp)
 have e1:IntKind.i64.wrap (l.length:Int)=(l.length:Int):=Af (by omega) (by omega)
 unfold Ht
 simp
 refine HJ 0 hP (fun p=>by simp) rfl jh rfl rfl (by simp) ?_
 simp
 have hH2:∀ p,(ov 0 ((K0 (l++[x]) [] (v+1)).F 0) (DH []):Hp) (0::p)=(K0 (l++[x]) [] (v+1)).F 0 p:=fun p=>by simp
 refine HJ 0 hL hH2 rfl bM (Ib hH2) rfl (by simp) ?_
 simp[e1]
 refine AB 0 hU (fun p=>by simp) (by simp) (by simp) ?_
 simp
 exact AO rfl rfl (fun p=>by simp)
theorem fK (l junk:List Sc) (v:Nat) (hl:l.length≤900) (h0:0<l.length):Bg Tryz.prog 238 (fun r=>[cO r]) (K0 l junk v) (fun _=>scI ((JY l).getD (l.length-1) ad)) (K0 ((JY l).take (l.length-1)) ((JY l).getD (l.length-1) ad::junk) v):=by
 refine AH Nz (by simp) (Ah (Nr AG) Am) (Qu _) fun w0 I0 M0 m0=>?_
 obtain⟨n,hn⟩:∃ n,n=l.length-1:=⟨_,rfl⟩
 have hlen:=VM l
 rw[← hn]
 have hL:=Ou l junk v (by omega)
 have hS:=PB l junk v (by omega) 0 n h0 (by omega)
 rw[← cT h0 (by omega)] at hS
 have hD:=jY (Wb l 0 n) junk v (by simp;omega) n (by simp;omega) (by simp;omega)
 have hpd:(Ho (n+1) (Wb l 0 n) 0 n).1=JY l:=by unfold JY;rw[← hn]
 rw[hpd] at hD
 have hsplit:JY l=(JY l).take n++[(JY l).getD n ad]:=by
  rw[G5 (by omega),List.take_append_getElem,Bb (by omega)]
 have hP:=jN ((JY l).take n) junk v (by simp;omega) ((JY l).getD n ad)
 rw[← hsplit] at hP
 have e1:IntKind.i64.wrap ((l.length:Int)-1)=(n:Int):=Av
 have hH1:∀ p,(ov 0 ((K0 l junk v).F 0) (DH []):Hp) (0::p)=(K0 l junk v).F 0 p:=fun p=>by simp
 have hH3:∀ l2:List Sc,∀ p,(ov 0 ((K0 l2 junk v).F 0) (DH []):Hp) (0::p)=(K0 l2 junk v).F 0 p:=fun l2 p=>by simp
 generalize (JY l).getD n ad=z at hP ⊢
 generalize (JY l).take n=l3 at hP ⊢
 generalize JY l=l2 at hD hP
 generalize (Ho (n+1) (Wb l 0 n) 0 n).2=dd at hD
 generalize Wb l 0 n=l1 at hS hD
 unfold H5
 simp
 refine HJ 0 hL hH1 rfl bM (Ib hH1) rfl (by simp) ?_
 simp[e1]
 refine HJ 0 hS hH1 rfl RJ (Ib hH1) rfl (by simp) ?_
 simp
 refine AB 0 hD (fun p=>by simp) (by simp) (by simp) ?_
 simp
 refine HJ 0 hP (fun p=>by simp) rfl nh rfl rfl (by simp) ?_
 simp
 exact AZ rfl rfl (fun p=>by simp)
def cI (x:Sc):List A:=[iv x.i,iv x.j]
def Kz (x:Sc):A:=.agg (cI x)
@[simp] theorem z6 {x:Sc}:(Kz x).cells=cI x:=rfl
@[simp] theorem AgQ {x:Sc}:(cI x).length=2:=rfl
@[simp] theorem Afv {x:Sc}:A.ones (cI x)=true:=rfl
@[simp] theorem Ae0 {x:Sc}:(cI x).take 2=cI x:=rfl
theorem CY {x:Sc}:A.agg (cI x)=Kz x:=rfl
theorem iU {x:Sc}:∀ y,y ∈ cI x→y.bare1=true:=fun y hy=>by simp[cI] at hy;rcases hy with rfl | rfl<;>rfl
theorem sM {l:List Sc}:DS 2 (l.map Kz)=true:=by rw[Ip];simp
theorem uh (x:Sc):ER (fun _=>Kz x):=HE (cs:=cI x) rfl iU
def cH (l:List Sc) (v:Nat):Fam:=⟨fun r p=>if p=[] then ⟨v,.arr 2 (l.map Kz)⟩ else ⟨0,.none⟩,fun {g δ r r'} hg hd p=>by
  by_cases h1:p=[]
  ·rw[if_pos h1]
   refine Fam.arr_ren ?_
   have e:∀ x:Sc,(Kz x).ren g δ=Kz x:=fun x=>by simp[Kz,cI,A.ren,A.renL]
   simp only[Cm,List.map_map]
   refine List.map_congr_left fun x _=>?_
   exact e x
  ·rw[if_neg h1];rfl,fun {D r} hD p=>by
  by_cases h1:p=[]
  ·rw[if_pos h1]
   simp only[Ob.refs,refsL_iff]
   intro y hy
   obtain⟨x,_,rfl⟩:=List.mem_map.1 hy
   simp[A.refs,A.refsL,Kz,cI]
  ·rw[if_neg h1];trivial⟩
@[simp] theorem KD {l:List Sc} {v r:Nat} {p:Nm}:(cH l v).F r p=if p=[] then ⟨v,.arr 2 (l.map Kz)⟩ else ⟨0,.none⟩:=rfl
abbrev rk (l:List Sc) (v r:Nat):A:=.osl [r] v 2 0 l.length
theorem Yf (p q:Sc):G.Spec Tryz.prog 240 [Kz p,Kz q] (bv (!Wu p q)):=by
 refine Al OQ (by simp) fun w0 I0=>?_
 unfold IZ Wu
 by_cases h1:p.i<q.i<;>by_cases h2:p.j<q.j<;>by_cases h3:q.i<p.i<;>by_cases h4:q.j<p.j<;>simp[Kz,cI,h1,h2,h3,h4,Aa]<;>exact Bl rfl
abbrev crF (x:Sc):A:=.fnc 240 [Kz x] []
theorem cC (x:Sc):ER (fun _=>crF x):=ar (Ah (uh x) Am) Am
def OX (x:Sc):List Sc→Nat→Int
 |[],_=>-1
 |q::l,i=>if Wu x q=true then OX x l (i+1) else i
theorem VB (x:Sc):∀ (l:List Sc) (i:Nat),decide (0≤OX x l i) = !(l.all fun q=>Wu x q)
 |[],i=>rfl
 |q::l,i=>by
  unfold OX
  cases h:Wu x q with
  |true=>simp[h,VB x l (i+1)]
  |false=>simp[h]
theorem w7 {n0:Nat} {w0:World} {I0:Nat→Prop} {M0:Nm→Nat→Prop} {m0:Mu} {Q:Exit→Sta→Prop} {x:Sc} {l:List Sc} {v:Nat} {H:Hp} (hl:l.length≤1000) (hH:∀ p,H (0::p)=(cH l v).F 0 p)
  (hq:∀ y:Int,y=OX x l 0→y ≠ -1→Q .ret ⟨lk [(4,iv y)],H⟩) (hq2:OX x l 0 = -1→Q (.exit 0) ⟨lk [(0,rk l v 0),(1,crF x),(7,iv l.length),(8,iv l.length),(9,bv false)],H⟩):∀ (m i:Nat),i+m=l.length→OX x (l.drop i) i=OX x l 0 →
  LoopC (Ds Tryz.prog w0 I0 M0 n0 m0) Bc Q ⟨lk [(0,rk l v 0),(1,crF x),(7,iv l.length),(8,iv i)],H⟩:=by
 intro m
 induction m with
 |zero=>
  intro i hi he
  have:i=l.length:=by omega
  subst this
  rw[List.drop_length] at he
  refine Ad Ak Bc.eq_1 ?_
  simp
  exact hq2 (he.symm.trans rfl)
 |succ m ih=>
  intro i hi he
  have hlt:i<l.length:=by omega
  have h0:=hH []
  have hg:(l.map Kz)[i]? = some (Kz l[i]):=by simp[hlt]
  have e1:IntKind.i64.wrap ((i:Int)+1)=((i+1:Nat):Int):=Av
  rw[List.drop_eq_getElem_cons hlt,OX] at he
  refine Ad Ak Bc.eq_1 ?_
  simp[h0,hg,hlt,CY,show(i:Int)<l.length by omega]
  refine Lo (fs:=[Kz x]) (caps:=[]) rfl (Yf x l[i]) rfl ?_
  cases hp:Wu x l[i] with
  |true=>
   rw[hp,if_pos rfl] at he
   simp[e1]
   exact ih (i+1) (by omega) he
  |false=>
   rw[hp,if_neg (by simp)] at he
   simp
   exact hq _ he (by omega)
theorem ku (x:Sc) (l:List Sc) (v:Nat) (hl:l.length≤1000):Bg Tryz.prog 263 (fun r=>[rk l v r,crF x]) (cH l v) (fun _=>iv (OX x l 0)) (cH l v):=by
 refine AH Fk (by simp) (Ah Iv (Ah (cC x) Am)) Ax fun w0 I0 M0 m0=>?_
 unfold CH
 simp
 refine w7 (v:=v) (x:=x) hl (fun p=>by simp) (fun y hy hn=>?_) (fun h=>?_) l.length 0 (by omega) rfl
 ·simp
  exact AZ (by rw[hy];rfl) rfl (fun p=>by simp)
 ·simp
  exact AZ (by rw[h];rfl) rfl (fun p=>by simp)
theorem Xl (x:Sc) (l:List Sc) (v:Nat) (hl:l.length≤1000):Bg Tryz.prog 239 (fun r=>[rk l v r,crF x]) (cH l v) (fun _=>bv (!Ha l x)) (cH l v):=by
 have hI:=ku x l v hl
 have e:decide (0≤OX x l 0) = !Ha l x:=by
  rw[VB]
  unfold Ha
  congr 2
  funext q
  exact aF
 refine AH Eu (by simp) (Ah Iv (Ah (cC x) Am)) Ax fun w0 I0 M0 m0=>?_
 unfold Cp
 simp
 refine AB 0 hI (fun p=>by simp) (by simp) (by simp) ?_
 simp
 rw[← e]
 exact AZ rfl rfl (fun p=>by simp)
theorem Ex {P:Program} {K:Sta→Prop} {rest:List CO} {s:Nat→A} {H:Hp} {dd:Option Nat} {nm:Nm} {ix:Nat} {un:List Nat} {l:Bool} {lg:Lg} {o:Operand} {g:FuncId} {aa:Array Operand} {ts:Array TypeId} {L:List A} {x:A} (ho:evs s o = .fnc g [] []) (hs:G.Spec P g L x) (hL:aa.toList.map (evs s)=L) (hb:L.all A.bare=true) (h:Ap P K rest (Bd l ix ⟨[],[]⟩ lg) (Sta.put ⟨s,H⟩ dd x H)) :
  Ap P K (⟨dd,.call { callee:=.value o,args:=aa,argTypes:=ts },none,nm,ix,un,l⟩::rest) lg ⟨s,H⟩:=by
 subst hL
 exact Lo ho (by simpa using hs) (by simpa using hb) h
instance:Inhabited Sc:=⟨ad⟩
def BB (a b:Sc):Bool:=decide (a.i<b.i)
theorem Wv (a b:Sc):decide (ED a.i b.i<0)=BB a b:=by
 unfold ED BB
 by_cases h:a.i<b.i
 ·rw[if_pos (by omega)];simp[h]
 ·rw[if_neg (by omega)]
  by_cases h2:b.i<a.i
  ·rw[if_pos (by omega)];simp[h]
  ·rw[if_neg (by omega)];simp[h]
abbrev CV:A:=.fnc 242 [] []
theorem D5:ER (fun _=>CV):=ar Am Am
theorem DN (a b:Sc):G.Spec Tryz.prog 242 [Kz a,Kz b] (iv (ED a.i b.i)):=by
 refine Al WC (by simp) fun w0 I0=>?_
 unfold O4
 simp[Kz,cI]
 refine Ae (QN a.i b.i) rfl ?_
 simp
 exact Ab rfl
abbrev Bf (d:Array Sc) (v:Nat):Fam:=cH d.toList v
theorem Br {d:Array Sc} {i:Nat} (h:i<d.size):(d.toList.map Kz)[i]? = some (Kz d[i]!):=by
 rw[List.getElem?_map,Array.getElem?_toList,getElem!_pos d i h,Array.getElem?_eq_getElem h]
 rfl
theorem KQ {d:Array Sc} {i j:Nat}:(Sort.swp d i j).toList.map Kz=((d.toList.map Kz).set i (Kz d[j]!)).set j (Kz d[i]!):=by
 unfold Sort.swp
 simp[List.map_set]
theorem EU {d:Array Sc} {i j:Nat}:(Sort.swp d i j).size=d.size:=by simp[Sort.swp]
theorem HI {d:Array Sc} {i j:Nat} (hi:i<d.size) (hj:j<d.size):((d.toList.map Kz).set i (Kz d[j]!))[j]? = some (Kz d[j]!):=by
 by_cases e:i=j
 ·subst e
  rw[List.getElem?_set_self (by simpa using hi)]
 ·rw[List.getElem?_set_ne e,Br hj]
variable {n0:Nat} {w0:World} {I0:Nat→Prop} {M0:Nm→Nat→Prop} {m0:Mu} {Q:Exit→Sta→Prop} {v:Nat}
abbrev Hs (n v r:Nat):A:=.osl [r] v 2 0 n
theorem xd {a n:Nat} {b i:Int} (hn:n≤1000) (ha:a≤1000):∀ (j:Nat) (d:Array Sc) (H:Hp),d.size=n→j<n→(∀ p,H (0::p)=(Bf d v).F 0 p) →
  (∀ (H':Hp) (st:List (Nat × A)),(∀ p,H' (0::p)=(Bf (Sort.insInner BB a j d) v).F 0 p)→Q (.exit 2) ⟨lk ([(0,Hs n v 0),(1,iv a),(2,iv b),(3,CV),(8,iv i)]++st),H'⟩) →
  LoopC (Ds Tryz.prog w0 I0 M0 n0 m0) A8 Q ⟨lk [(0,Hs n v 0),(1,iv a),(2,iv b),(3,CV),(8,iv i),(9,iv j)],H⟩:=by
 intro j
 induction j with
 |zero=>
  intro d H hd hj hH hq
  refine Ad Ak A8.eq_1 ?_
  simp[show ¬ (a:Int)<0 by omega]
  rw[AF]
  simp
  exact hq H [(9,iv 0),(34,bv false)] hH
 |succ j ih=>
  intro d H hd hj hH hq
  have h0:=hH []
  have g1:=Br (d:=d) (i:=j+1) (by omega)
  have g0:=Br (d:=d) (i:=j) (by omega)
  rw[Sort.insInner] at hq
  have e1:IntKind.i64.wrap ((j:Int)+1-1)=(j:Int):=Av
  simp only[Int.add_sub_cancel] at e1
  refine Ad Ak A8.eq_1 ?_
  by_cases h1:a<j+1
  ·have hc:=Wv d[j+1]! d[j]!
   simp only[KD] at h0
   generalize hx:d[j+1]! = x at *
   generalize hy:d[j]! = y at *
   simp[show(a:Int)<j+1 by omega,h0,e1,g1,g0,hj,show j<n by omega,show(j:Int)+1<n by omega,show(j:Int)<n by omega,show(0:Int)≤(j:Int)+1 by omega,CY]
   rw[AF]
   simp
   refine Ex rfl (DN x y) (by simp) rfl ?_
   cases hL:BB x y with
   |false=>
    rw[hL] at hc hq
    rw[if_neg (by simp)] at hq
    have hc':¬ ED x.i y.i<0:=by simpa using hc
    simp[hc']
    exact hq H [(9,iv (j+1:Nat)),(34,bv false)] (fun p=>by simp[hH])
   |true=>
    rw[hL] at hc hq
    rw[if_pos (by simp;omega)] at hq
    have hc':ED x.i y.i<0:=by simpa using hc
    have g2:=HI (d:=d) (i:=j+1) (j:=j) (by omega) (by omega)
    have hs:=KQ (d:=d) (i:=j+1) (j:=j)
    rw[hx,hy] at hs
    rw[hy] at g2
    simp[hc',h0,e1,g1,g0,g2,hj,show j<n by omega,show(j:Int)+1<n by omega,show(j:Int)<n by omega,show(0:Int)≤(j:Int)+1 by omega,CY]
    exact ih (Sort.swp d (j+1) j) _ (by rw[EU];exact hd) (by omega) (fun p=>by by_cases hp:p=[]<;>simp[hp,hs,Aa,hH]) hq
  ·rw[if_neg (by simp;omega)] at hq
   simp[show ¬ (a:Int)<j+1 by omega]
   rw[AF]
   simp
   exact hq H [(9,iv (j+1:Nat)),(34,bv false)] hH
theorem KU (lt:Sc→Sc→Bool) (a:Nat):∀ (j:Nat) (d:Array Sc),(Sort.insInner lt a j d).size=d.size
 |0,d=>rfl
 |j+1,d=>by
  unfold Sort.insInner
  split
  ·rw[KU lt a j,EU]
  ·rfl
theorem xg {a b n:Nat} (hn:n≤1000) (ha:a≤1000) (hb:b≤n):∀ (m i:Nat) (d:Array Sc) (H:Hp),(i+m=b∨(b≤i∧m=0∧i≤1001))→d.size=n→(∀ p,H (0::p)=(Bf d v).F 0 p) →
  (∀ (H':Hp) (st:List (Nat × A)),(∀ p,H' (0::p)=(Bf (Sort.insOuter BB a b i d) v).F 0 p)→Q (.exit 0) ⟨lk st,H'⟩) →
  LoopC (Ds Tryz.prog w0 I0 M0 n0 m0) Ba Q ⟨lk [(0,Hs n v 0),(1,iv a),(2,iv b),(3,CV),(8,iv i)],H⟩:=by
 intro m
 induction m with
 |zero=>
  intro i d H hi hd hH hq
  rw[Sort.insOuter,if_neg (by omega)] at hq
  refine Ad Ak Ba.eq_1 ?_
  simp[show ¬ (i:Int)<b by omega,show ¬ i<b by omega]
  exact hq H [(0,Hs n v 0),(1,iv a),(2,iv b),(3,CV),(8,iv i),(14,bv false)] hH
 |succ m ih=>
  intro i d H hi hd hH hq
  have hib:i<b:=by omega
  have e1:IntKind.i64.wrap ((i:Int)+1)=((i+1:Nat):Int):=Av
  rw[Sort.insOuter,if_pos hib] at hq
  refine Ad Ak Ba.eq_1 ?_
  simp[show(i:Int)<b by omega,hib]
  refine xd (n:=n) (v:=v) hn ha i d H hd (by omega) hH fun H' st h'=>?_
  simp[e1]
  exact ih (i+1) _ H' (by omega) (by rw[KU];exact hd) h' hq
theorem O6 (lt:Sc→Sc→Bool) (a b:Nat):∀ (m i:Nat) (d:Array Sc),b-i≤m→(Sort.insOuter lt a b i d).size=d.size
 |0,i,d,h=>by rw[Sort.insOuter,if_neg (by omega)]
 |m+1,i,d,h=>by
  rw[Sort.insOuter]
  split
  ·rw[O6 lt a b m _ _ (by omega),KU]
  ·rfl
theorem Pq (n v:Nat):ER (fun r=>Hs n v r):=Iv
theorem Yr (d:Array Sc) (v a b:Nat) (hn:d.size≤900) (ha:a≤900) (hb:b≤d.size):Bg Tryz.prog 271 (fun r=>[Hs d.size v r,iv a,iv b,CV]) (Bf d v) (fun _=>.tup []) (Bf (Sort.insertionSort BB d a b) v):=by
 refine AH ES (by simp) (Ah (Pq _ _) (Ah Ax (Ah Ax (Ah D5 Am)))) (Bu Am) fun w0 I0 M0 m0=>?_
 have e1:IntKind.i64.wrap ((a:Int)+1)=((a+1:Nat):Int):=Av
 unfold CD
 simp[e1]
 refine LoopC.le (AA [(0,Hs d.size v 0),(1,iv a),(2,iv b),(3,CV),(8,iv (a+1:Nat))] (by simp)) ?_
 refine xg (n:=d.size) (v:=v) (by omega) (by omega) hb (b-(a+1)) (a+1) d _ (by omega) rfl (fun p=>by simp) fun H' st h'=>?_
 simp
 exact AO rfl rfl (fun p=>h' p)
theorem wg {n:Nat} (hn:n≤1000):∀ (m i j:Nat) (d:Array Sc) (H:Hp),j-i≤m→i≤n→j<n→d.size=n→(∀ p,H (0::p)=(Bf d v).F 0 p) →
  (∀ (H':Hp) (st:List (Nat × A)),(∀ p,H' (0::p)=(Bf (Sort.reverseLoop i j d) v).F 0 p)→Q (.exit 0) ⟨lk st,H'⟩) →
  LoopC (Ds Tryz.prog w0 I0 M0 n0 m0) AN Q ⟨lk [(0,Hs n v 0),(8,iv i),(9,iv j)],H⟩:=by
 intro m
 induction m with
 |zero=>
  intro i j d H hm hi hj hd hH hq
  rw[Sort.reverseLoop,if_neg (by omega)] at hq
  refine Ad Ak AN.eq_1 ?_
  simp[show ¬ (i:Int)<j by omega,show ¬ i<j by omega]
  exact hq H [(0,Hs n v 0),(8,iv i),(9,iv j),(15,bv false)] hH
 |succ m ih=>
  intro i j d H hm hi hj hd hH hq
  by_cases hij:i<j
  ·rw[Sort.reverseLoop,if_pos hij] at hq
   have h0:=hH []
   simp only[KD] at h0
   have e1:IntKind.i64.wrap ((i:Int)+1)=((i+1:Nat):Int):=Av
   have e2:IntKind.i64.wrap ((j:Int)-1)=((j-1:Nat):Int):=Av
   have g1:=Br (d:=d) (i:=i) (by omega)
   have g0:=Br (d:=d) (i:=j) (by omega)
   have g2:=HI (d:=d) (i:=i) (j:=j) (by omega) (by omega)
   have hs:=KQ (d:=d) (i:=i) (j:=j)
   generalize d[i]! = x at g1 g2 hs
   generalize d[j]! = y at g0 g2 hs
   refine Ad Ak AN.eq_1 ?_
   simp[hij,show(i:Int)<j by omega,h0,g0,g1,g2,e1,e2,show(i:Int)<n by omega,show(j:Int)<n by omega,show i<n by omega,hj,CY]
   refine LoopC.le (AA [(0,Hs n v 0),(8,iv (i+1:Nat)),(9,iv (j-1:Nat))] (by simp)) ?_
   exact ih (i+1) (j-1) (Sort.swp d i j) _ (by omega) (by omega) (by omega) (by rw[EU];exact hd) (fun p=>by by_cases hp:p=[]<;>simp[hp,hs,Aa,hH]) hq
  ·rw[Sort.reverseLoop,if_neg hij] at hq
   refine Ad Ak AN.eq_1 ?_
   simp[show ¬ (i:Int)<j by omega,hij]
   exact hq H [(0,Hs n v 0),(8,iv i),(9,iv j),(15,bv false)] hH
theorem YF (d:Array Sc) (v a b:Nat) (hn:d.size≤900) (ha:a≤d.size) (hb:1≤b) (hb2:b≤d.size):Bg Tryz.prog 275 (fun r=>[Hs d.size v r,iv a,iv b,CV]) (Bf d v) (fun _=>.tup []) (Bf (Sort.reverseRange d a b) v):=by
 refine AH Fe (by simp) (Ah (Pq _ _) (Ah Ax (Ah Ax (Ah D5 Am)))) (Bu Am) fun w0 I0 M0 m0=>?_
 have e1:IntKind.i64.wrap ((b:Int)-1)=((b-1:Nat):Int):=Av
 unfold CG
 simp[e1]
 refine wg (n:=d.size) (v:=v) (by omega) (b-1-a) a (b-1) d _ (Cc _) ha (by omega) rfl (fun p=>by simp) fun H' st h'=>?_
 simp
 exact AO rfl rfl (fun p=>h' p)
def ceF (s:Nat):Fam:=⟨fun r p=>if p=[] then ⟨1,.cells [iv s]⟩ else ⟨0,.none⟩,fun {g δ r r'} hg hd p=>by
  by_cases h1:p=[]
  ·rw[if_pos h1]
   exact Fam.cells_ren (by simp[A.renL,A.ren])
  ·rw[if_neg h1];rfl,fun {D r} hD p=>by
  by_cases h1:p=[]
  ·rw[if_pos h1];simp[Ob.refs,A.refsL,A.refs]
  ·rw[if_neg h1];trivial⟩
@[simp] theorem Ais {s r:Nat} {p:Nm}:(ceF s).F r p=if p=[] then ⟨1,.cells [iv s]⟩ else ⟨0,.none⟩:=rfl
abbrev ceP (q:Nat):A:=.pob [q] 1 0
theorem Nd (d:Array Sc) (v a b s:Nat) (hn:d.size≤900) (ha:a<d.size) (hb:b<d.size) (hs:s≤900):Hw Tryz.prog 286 (fun r q=>[Hs d.size v r,iv a,iv b,ceP q,CV]) ((Bf d v).two (ceF s)) (fun _ _=>.tup [iv (Sort.order2 BB d a b s).1,iv (Sort.order2 BB d a b s).2.1]) ((Bf d v).two (ceF (Sort.order2 BB d a b s).2.2)):=by
 refine BE G9 (by simp) (Aq (AU (Pq _ _)) (Aq (AU Ax) (Aq (AU Ax) (Aq (Yx AG) (Aq (AU D5) A0))))) (BF (Aq (AU Ax) (Aq (AU Ax) A0))) fun w0 I0 M0 m0=>?_
 have ga:=Br (d:=d) (i:=a) (by omega)
 have gb:=Br (d:=d) (i:=b) (by omega)
 have hc:=Wv d[b]! d[a]!
 have e1:IntKind.i64.wrap ((s:Int)+1)=((s+1:Nat):Int):=Av
 unfold Sort.order2
 generalize d[a]! = x at *
 generalize d[b]! = y at *
 generalize d.size=n at hn ha hb ⊢
 unfold DC
 simp[ga,gb,ha,hb,show(a:Int)<n by omega,show(b:Int)<n by omega,CY]
 refine Ex rfl (DN y x) (by simp) rfl ?_
 cases hL:BB y x with
 |true=>
  rw[hL] at hc
  have hc':ED y.i x.i<0:=by simpa using hc
  simp[hc',e1,Aa]
  exact Dl rfl rfl (fun p=>by simp) (fun p=>by by_cases hp:p=[]<;>simp[hp,Aa])
 |false=>
  rw[hL] at hc
  have hc':¬ ED y.i x.i<0:=by simpa using hc
  simp[hc']
  exact Dl rfl rfl (fun p=>by simp) (fun p=>by simp)
theorem PS (lt:Sc→Sc→Bool) (d:Array Sc) (a b s n:Nat) (ha:a<n) (hb:b<n) (hs:s≤100):(Sort.order2 lt d a b s).1<n∧(Sort.order2 lt d a b s).2.1<n∧(Sort.order2 lt d a b s).2.2≤s+1:=by
 unfold Sort.order2
 split
 ·exact⟨hb,ha,by simp⟩
 ·exact⟨ha,hb,by simp⟩
theorem a8 (d:Array Sc) (v a b c s:Nat) (hn:d.size≤900) (ha:a<d.size) (hb:b<d.size) (hcc:c<d.size) (hs:s≤90):Hw Tryz.prog 285 (fun r q=>[Hs d.size v r,iv a,iv b,iv c,ceP q,CV]) ((Bf d v).two (ceF s)) (fun _ _=>iv (Sort.median BB d a b c s).1) ((Bf d v).two (ceF (Sort.median BB d a b c s).2)):=by
 refine BE G0 (by simp) (Aq (AU (Pq _ _)) (Aq (AU Ax) (Aq (AU Ax) (Aq (AU Ax) (Aq (Yx AG) (Aq (AU D5) A0)))))) (AU Ax) fun w0 I0 M0 m0=>?_
 obtain⟨q1,q2,q3⟩:=PS BB d a b s d.size ha hb (by omega)
 have h1:=Nd d v a b s hn ha hb (by omega)
 unfold Sort.median
 simp only
 generalize Sort.order2 BB d a b s=R at h1 q1 q2 q3 ⊢
 obtain⟨p1,p2,p3⟩:=PS BB d R.2.1 c R.2.2 d.size q2 hcc (by omega)
 have h2:=Nd d v R.2.1 c R.2.2 hn q2 hcc (by omega)
 generalize Sort.order2 BB d R.2.1 c R.2.2=S2 at h2 p1 p2 p3 ⊢
 obtain⟨z1,z2,z3⟩:=PS BB d R.1 S2.1 S2.2.2 d.size q1 p1 (by omega)
 have h3:=Nd d v R.1 S2.1 S2.2.2 hn q1 p1 (by omega)
 generalize Sort.order2 BB d R.1 S2.1 S2.2.2=T3 at h3 z1 z2 z3 ⊢
 unfold Dt
 simp
 refine Bj 0 1 (by omega) h1 (fun p=>by simp) (fun p=>by simp) (by simp) (by simp) ?_
 simp
 refine Bj 0 1 (by omega) h2 (fun p=>by simp) (fun p=>by simp) (by simp) (by simp) ?_
 simp
 refine Bj 0 1 (by omega) h3 (fun p=>by simp) (fun p=>by simp) (by simp) (by simp) ?_
 simp
 exact Dl rfl rfl (fun p=>by simp) (fun p=>by simp)
def M5:Sort.Hint→Int
 |.unknown=>0
 |.increasing=>1
 |.decreasing=>2
theorem choose_spec (d:Array Sc) (v a b:Nat) (hn:d.size≤900) (hab:a+13≤b) (hb:b≤d.size) (hl:b-a<50):Bg Tryz.prog 274 (fun r=>[Hs d.size v r,iv a,iv b,CV]) (Bf d v) (fun _=>.tup [iv (Sort.choosePivot BB d a b).1,iv (M5 (Sort.choosePivot BB d a b).2)]) (Bf d v):=by
 refine AH Fs (by simp) (Ah (Pq _ _) (Ah Ax (Ah Ax (Ah D5 Am)))) (Bu (Ah Ax (Ah Ax Am))) fun w0 I0 M0 m0=>?_
 obtain⟨l,hll⟩:∃ l,l=b-a:=⟨_,rfl⟩
 have e1:IntKind.i64.wrap ((b:Int)-a)=(l:Int):=Av
 obtain⟨q,hq⟩:∃ q,q=l / 4:=⟨_,rfl⟩
 have e2:IntKind.i64.wrap ((l:Int).tdiv 4)=(q:Int):=by rw[Int.tdiv_eq_ediv_of_nonneg (by omega),Af (by omega) (by omega)];omega
 have e3:IntKind.i64.wrap ((q:Int)*1)=(q:Int):=Av
 have e4:IntKind.i64.wrap ((q:Int)*2)=((q*2:Nat):Int):=Av
 have e5:IntKind.i64.wrap ((q:Int)*3)=((q*3:Nat):Int):=Av
 have e6:IntKind.i64.wrap ((a:Int)+q)=((a+q:Nat):Int):=Av
 have e7:IntKind.i64.wrap ((a:Int)+(q:Int)*2)=((a+q*2:Nat):Int):=Av
 have e8:IntKind.i64.wrap ((a:Int)+(q:Int)*3)=((a+q*3:Nat):Int):=Av
 have e9:IntKind.i64.wrap ((l:Int) / 4)=(q:Int):=Av
 have e10:IntKind.i64.wrap (q:Int)=(q:Int):=Af (by omega) (by omega)
 have hm:=a8 d v (a+q) (a+q*2) (a+q*3) 0 hn (by omega) (by omega) (by omega) (by omega)
 unfold Sort.choosePivot
 simp only[← hll,← hq,Nat.mul_one,ge_iff_le,if_pos (show 8≤l by omega),if_neg (show ¬ 50≤l by omega)]
 generalize Sort.median BB d (a+q) (a+q*2) (a+q*3) 0=R at hm ⊢
 unfold CJ
 simp[e1,e2,e3,e4,e5,e6,e7,e8,e9,e10,show(8:Int)≤l by omega,show ¬ (50:Int)≤l by omega,Aa]
 refine Bj 0 1 (by omega) hm (fun p=>by simp) (fun p=>?_) (by simp) (by simp) ?_
 ·by_cases hp:p=[]
  ·subst hp;simp[DH]
  ·simp[DH,hp,Ne.symm hp]
 rw[AcM]
 simp
 rw[CF.eq_1]
 by_cases h0:R.2=0
 ·simp[h0,M5]
  exact AZ rfl rfl (fun p=>by simp)
 ·by_cases h12:R.2=12
  ·simp[h12,M5]
   exact AZ rfl rfl (fun p=>by simp)
  ·have h0':¬ (R.2:Int)=0:=by omega
   have h12':¬ (R.2:Int)=12:=by omega
   simp[h0,h12,h0',h12',M5]
   exact AZ rfl rfl (fun p=>by simp)
theorem iV (lt:Sc→Sc→Bool) (d:Array Sc) (b:Nat):∀ (m i:Nat),b-i≤m→i≤b→i≤Sort.scanSorted lt d b i∧Sort.scanSorted lt d b i≤b
 |0,i,h,hi=>by rw[Sort.scanSorted,if_neg (by simp;omega)];omega
 |m+1,i,h,hi=>by
  rw[Sort.scanSorted]
  split
  ·rename_i hc
   simp at hc
   have:=iV lt d b m (i+1) (by omega) (by omega)
   omega
  ·omega
theorem sh {n a b:Nat} {k:Int} {d:Array Sc} {H:Hp} (hn:n≤900) (hb:b≤n) (hd:d.size=n) (hH:∀ p,H (0::p)=(Bf d v).F 0 p):∀ (m i:Nat),b-i≤m→1≤i→i≤b →
  (∀ (st:List (Nat × A)),Q (.exit 2) ⟨lk ([(0,Hs n v 0),(1,iv a),(2,iv b),(3,CV),(9,iv (Sort.scanSorted BB d b i)),(10,iv k)]++st),H⟩) →
  LoopC (Ds Tryz.prog w0 I0 M0 n0 m0) AD Q ⟨lk [(0,Hs n v 0),(1,iv a),(2,iv b),(3,CV),(9,iv i),(10,iv k)],H⟩:=by
 intro m
 induction m with
 |zero=>
  intro i hm h1 hi hq
  rw[Sort.scanSorted,if_neg (by simp;omega)] at hq
  refine Ad Ak AD.eq_1 ?_
  simp[show ¬ (i:Int)<b by omega,show ¬ i<b by omega]
  rw[AF]
  simp
  exact hq [(36,bv false)]
 |succ m ih=>
  intro i hm h1 hi hq
  by_cases hib:i<b
  ·have h0:=hH []
   simp only[KD] at h0
   have g1:=Br (d:=d) (i:=i) (by omega)
   have g0:=Br (d:=d) (i:=i-1) (by omega)
   have e1:IntKind.i64.wrap ((i:Int)+1)=((i+1:Nat):Int):=Av
   have e2:IntKind.i64.wrap ((i:Int)-1)=((i-1:Nat):Int):=Av
   have hc:=Wv d[i]! d[i-1]!
   rw[Sort.scanSorted] at hq
   generalize d[i]! = x at g1 hc hq
   generalize d[i-1]! = y at g0 hc hq
   refine Ad Ak AD.eq_1 ?_
   simp[hib,show(i:Int)<b by omega,h0,g1,g0,e2,show(i:Int)<n by omega,show i<n by omega,show i-1<n by omega,show((i-1:Nat):Int)<n by omega,CY]
   rw[AF]
   simp
   refine Ex rfl (DN x y) (by simp) rfl ?_
   cases hL:BB x y with
   |true=>
    rw[hL] at hc hq
    rw[if_neg (by simp)] at hq
    have hc':ED x.i y.i<0:=by simpa using hc
    simp[hc']
    exact hq [(36,bv false)]
   |false=>
    rw[hL] at hc hq
    rw[if_pos (by simp[hib])] at hq
    have hc':¬ ED x.i y.i<0:=by simpa using hc
    simp[hc',e1]
    exact ih (i+1) (by omega) (by omega) (by omega) hq
  ·rw[Sort.scanSorted,if_neg (by simp;omega)] at hq
   refine Ad Ak AD.eq_1 ?_
   simp[show ¬ (i:Int)<b by omega,hib]
   rw[AF]
   simp
   exact hq [(36,bv false)]
theorem UL (d:Array Sc) (a b:Nat) (hl:b-a<50):Sort.partialInsertionSort BB d a b=(d,decide (Sort.scanSorted BB d b (a+1)=b)):=by
 unfold Sort.partialInsertionSort
 rw[Sort.partialIns]
 simp only
 split
 ·rename_i h;simp[h]
 ·rename_i h;simp[h,hl]
theorem Yc (d:Array Sc) (v a b:Nat) (hn:d.size≤900) (hab:a<b) (hb:b≤d.size) (hl:b-a<50):Bg Tryz.prog 276 (fun r=>[Hs d.size v r,iv a,iv b,CV]) (Bf d v) (fun _=>bv (Sort.partialInsertionSort BB d a b).2) (Bf (Sort.partialInsertionSort BB d a b).1 v):=by
 rw[UL d a b hl]
 refine AH DQ (by simp) (Ah (Pq _ _) (Ah Ax (Ah Ax (Ah D5 Am)))) Ax fun w0 I0 M0 m0=>?_
 have e1:IntKind.i64.wrap ((a:Int)+1)=((a+1:Nat):Int):=Av
 have e2:IntKind.i64.wrap ((b:Int)-a)=((b-a:Nat):Int):=Av
 have hsc:=iV BB d b (b-(a+1)) (a+1) (by omega) (by omega)
 have l1:=fun (Q:Exit→Sta→Prop) (H:Hp) (k:Int) (hH:∀ p,H (0::p)=(Bf d v).F 0 p)=>sh (n0:=141) (w0:=w0) (I0:=I0) (M0:=M0) (m0:=m0) (Q:=Q) (v:=v) (k:=k) (a:=a) hn hb rfl hH (b-(a+1)) (a+1) (Cc _) (by omega) (by omega)
 generalize Sort.scanSorted BB d b (a+1)=z at hsc l1 ⊢
 unfold BZ
 simp[e1]
 refine Ad Ak BS.eq_1 ?_
 simp
 refine LoopC.le (AA [(0,Hs d.size v 0),(1,iv a),(2,iv b),(3,CV),(9,iv (a+1:Nat)),(10,iv 0)] (by simp)) ?_
 refine l1 _ _ 0 (fun p=>by simp) fun st=>?_
 by_cases hz:z=b
 ·simp[hz]
  exact AZ rfl rfl (fun p=>by simp)
 ·have hz':¬ (z:Int)=b:=by omega
  simp[hz,hz',e2,show((b-a:Nat):Int)<50 by omega]
  exact AZ rfl rfl (fun p=>by simp)
theorem Adx {n a j:Nat} {z:Sc} {d:Array Sc} {H:Hp} (hn:n≤900) (ha:a<n) (hj:j<n) (hd:d.size=n) (hz:d[a]! = z) (hH:∀ p,H (0::p)=(Bf d v).F 0 p):∀ (m i:Nat),j+1-i≤m→i≤n →
  (∀ (st:List (Nat × A)),Q (.exit 0) ⟨lk ([(0,Hs n v 0),(1,iv a),(4,CV),(12,iv (Sort.scanUp (fun x=>BB x z) d j i)),(13,iv j)]++st),H⟩) →
  LoopC (Ds Tryz.prog w0 I0 M0 n0 m0) AX Q ⟨lk [(0,Hs n v 0),(1,iv a),(4,CV),(12,iv i),(13,iv j)],H⟩:=by
 intro m
 induction m with
 |zero=>
  intro i hm hi hq
  rw[Sort.scanUp,if_neg (by simp;omega)] at hq
  refine Ad Ak AX.eq_1 ?_
  simp[show ¬ (i:Int)≤j by omega,show ¬ i≤j by omega]
  rw[AF]
  simp
  exact hq [(47,bv false)]
 |succ m ih=>
  intro i hm hi hq
  by_cases hij:i≤j
  ·have h0:=hH []
   simp only[KD] at h0
   have gi:=Br (d:=d) (i:=i) (by omega)
   have ga:=Br (d:=d) (i:=a) (by omega)
   rw[hz] at ga
   have e1:IntKind.i64.wrap ((i:Int)+1)=((i+1:Nat):Int):=Av
   rw[Sort.scanUp] at hq
   generalize d[i]! = x at gi hq
   have hc:=Wv x z
   refine Ad Ak AX.eq_1 ?_
   simp[hij,show(i:Int)≤j by omega,h0,gi,ga,show(i:Int)<n by omega,show i<n by omega,ha,show(a:Int)<n by omega,CY]
   rw[AF]
   simp
   refine Ex rfl (DN x z) (by simp) rfl ?_
   cases hL:BB x z with
   |true=>
    rw[hL] at hc hq
    have hc':ED x.i z.i<0:=by simpa using hc
    rw[if_pos (by simp[hij])] at hq
    simp[hc',e1]
    exact ih (i+1) (by omega) (by omega) hq
   |false=>
    rw[hL] at hc hq
    have hc':¬ ED x.i z.i<0:=by simpa using hc
    rw[if_neg (by simp)] at hq
    simp[hc']
    exact hq [(47,bv false)]
  ·rw[Sort.scanUp,if_neg (by simp;omega)] at hq
   refine Ad Ak AX.eq_1 ?_
   simp[show ¬ (i:Int)≤j by omega,hij]
   rw[AF]
   simp
   exact hq [(47,bv false)]
theorem Aa3 {n a j:Nat} {z:Sc} {d:Array Sc} {H:Hp} (hn:n≤900) (ha:a<n) (hj:j<n) (hd:d.size=n) (hz:d[a]! = z) (hH:∀ p,H (0::p)=(Bf d v).F 0 p):∀ (m i:Nat),j+1-i≤m→i≤n →
  (∀ (st:List (Nat × A)),Q (.exit 6) ⟨lk ([(0,Hs n v 0),(1,iv a),(4,CV),(12,iv (Sort.scanUp (fun x=>BB x z) d j i)),(13,iv j)]++st),H⟩) →
  LoopC (Ds Tryz.prog w0 I0 M0 n0 m0) AY Q ⟨lk [(0,Hs n v 0),(1,iv a),(4,CV),(12,iv i),(13,iv j)],H⟩:=by
 intro m
 induction m with
 |zero=>
  intro i hm hi hq
  rw[Sort.scanUp,if_neg (by simp;omega)] at hq
  refine Ad Ak AY.eq_1 ?_
  simp[show ¬ (i:Int)≤j by omega,show ¬ i≤j by omega]
  rw[AF]
  simp
  exact hq [(120,bv false)]
 |succ m ih=>
  intro i hm hi hq
  by_cases hij:i≤j
  ·have h0:=hH []
   simp only[KD] at h0
   have gi:=Br (d:=d) (i:=i) (by omega)
   have ga:=Br (d:=d) (i:=a) (by omega)
   rw[hz] at ga
   have e1:IntKind.i64.wrap ((i:Int)+1)=((i+1:Nat):Int):=Av
   rw[Sort.scanUp] at hq
   generalize d[i]! = x at gi hq
   have hc:=Wv x z
   refine Ad Ak AY.eq_1 ?_
   simp[hij,show(i:Int)≤j by omega,h0,gi,ga,show(i:Int)<n by omega,show i<n by omega,ha,show(a:Int)<n by omega,CY]
   rw[AF]
   simp
   refine Ex rfl (DN x z) (by simp) rfl ?_
   cases hL:BB x z with
   |true=>
    rw[hL] at hc hq
    have hc':ED x.i z.i<0:=by simpa using hc
    rw[if_pos (by simp[hij])] at hq
    simp[hc',e1]
    exact ih (i+1) (by omega) (by omega) hq
   |false=>
    rw[hL] at hc hq
    have hc':¬ ED x.i z.i<0:=by simpa using hc
    rw[if_neg (by simp)] at hq
    simp[hc']
    exact hq [(120,bv false)]
  ·rw[Sort.scanUp,if_neg (by simp;omega)] at hq
   refine Ad Ak AY.eq_1 ?_
   simp[show ¬ (i:Int)≤j by omega,hij]
   rw[AF]
   simp
   exact hq [(120,bv false)]
theorem AcV {n a i:Nat} {z:Sc} {d:Array Sc} {H:Hp} (hn:n≤900) (ha:a<n) (hi:i≤n) (hi1:1≤i) (hd:d.size=n) (hz:d[a]! = z) (hH:∀ p,H (0::p)=(Bf d v).F 0 p):∀ (j:Nat),j<n →
  (∀ (st:List (Nat × A)),Q (.exit 2) ⟨lk ([(0,Hs n v 0),(1,iv a),(4,CV),(12,iv i),(13,iv (Sort.scanDown (fun x=>!BB x z) d i j))]++st),H⟩) →
  LoopC (Ds Tryz.prog w0 I0 M0 n0 m0) AV Q ⟨lk [(0,Hs n v 0),(1,iv a),(4,CV),(12,iv i),(13,iv j)],H⟩:=by
 intro j
 induction j with
 |zero=>
  intro hj hq
  rw[Sort.scanDown] at hq
  refine Ad Ak AV.eq_1 ?_
  simp[show ¬ (i:Int)≤0 by omega,show ¬ i=0 by omega]
  rw[AF]
  simp
  exact hq [(66,bv false)]
 |succ j ih=>
  intro hj hq
  rw[Sort.scanDown] at hq
  by_cases hij:i≤j+1
  ·have h0:=hH []
   simp only[KD] at h0
   have gi:=Br (d:=d) (i:=j+1) (by omega)
   have ga:=Br (d:=d) (i:=a) (by omega)
   rw[hz] at ga
   have e1:IntKind.i64.wrap (((j+1:Nat):Int)-1)=(j:Int):=Av
   have e2:IntKind.i64.wrap (j:Int)=(j:Int):=Af (by omega) (by omega)
   generalize d[j+1]! = x at gi hq
   have hc:=Wv x z
   have hij':(i:Int)≤((j+1:Nat):Int):=by omega
   have hj':((j+1:Nat):Int)<n:=by omega
   generalize hjj:j+1=jj at gi hij hij' hj hj' e1 hq ⊢
   refine Ad Ak AV.eq_1 ?_
   simp[hij,hij',h0,gi,ga,hj,hj',ha,show(a:Int)<n by omega,CY]
   rw[AF]
   simp
   refine Ex rfl (DN x z) (by simp) rfl ?_
   cases hL:BB x z with
   |true=>
    rw[hL] at hc hq
    have hc':ED x.i z.i<0:=by simpa using hc
    rw[if_neg (by simp)] at hq
    simp[hc']
    exact hq [(66,bv false)]
   |false=>
    rw[hL] at hc hq
    have hc':¬ ED x.i z.i<0:=by simpa using hc
    rw[if_pos (by simp[hij])] at hq
    simp[hc',e1]
    exact ih (by omega) hq
  ·rw[if_neg (by simp;omega)] at hq
   refine Ad Ak AV.eq_1 ?_
   have hij':¬ (i:Int)≤((j+1:Nat):Int):=by omega
   generalize hjj:j+1=jj at hij hij' hq ⊢
   simp[hij,hij']
   rw[AF]
   simp
   exact hq [(66,bv false)]
theorem AdF {n a i:Nat} {z:Sc} {d:Array Sc} {H:Hp} (hn:n≤900) (ha:a<n) (hi:i≤n) (hi1:1≤i) (hd:d.size=n) (hz:d[a]! = z) (hH:∀ p,H (0::p)=(Bf d v).F 0 p):∀ (j:Nat),j<n →
  (∀ (st:List (Nat × A)),Q (.exit 8) ⟨lk ([(0,Hs n v 0),(1,iv a),(4,CV),(12,iv i),(13,iv (Sort.scanDown (fun x=>!BB x z) d i j))]++st),H⟩) →
  LoopC (Ds Tryz.prog w0 I0 M0 n0 m0) AW Q ⟨lk [(0,Hs n v 0),(1,iv a),(4,CV),(12,iv i),(13,iv j)],H⟩:=by
 intro j
 induction j with
 |zero=>
  intro hj hq
  rw[Sort.scanDown] at hq
  refine Ad Ak AW.eq_1 ?_
  simp[show ¬ (i:Int)≤0 by omega,show ¬ i=0 by omega]
  rw[AF]
  simp
  exact hq [(139,bv false)]
 |succ j ih=>
  intro hj hq
  rw[Sort.scanDown] at hq
  by_cases hij:i≤j+1
  ·have h0:=hH []
   simp only[KD] at h0
   have gi:=Br (d:=d) (i:=j+1) (by omega)
   have ga:=Br (d:=d) (i:=a) (by omega)
   rw[hz] at ga
   have e1:IntKind.i64.wrap (((j+1:Nat):Int)-1)=(j:Int):=Av
   have e2:IntKind.i64.wrap (j:Int)=(j:Int):=Af (by omega) (by omega)
   generalize d[j+1]! = x at gi hq
   have hc:=Wv x z
   have hij':(i:Int)≤((j+1:Nat):Int):=by omega
   have hj':((j+1:Nat):Int)<n:=by omega
   generalize hjj:j+1=jj at gi hij hij' hj hj' e1 hq ⊢
   refine Ad Ak AW.eq_1 ?_
   simp[hij,hij',h0,gi,ga,hj,hj',ha,show(a:Int)<n by omega,CY]
   rw[AF]
   simp
   refine Ex rfl (DN x z) (by simp) rfl ?_
   cases hL:BB x z with
   |true=>
    rw[hL] at hc hq
    have hc':ED x.i z.i<0:=by simpa using hc
    rw[if_neg (by simp)] at hq
    simp[hc']
    exact hq [(139,bv false)]
   |false=>
    rw[hL] at hc hq
    have hc':¬ ED x.i z.i<0:=by simpa using hc
    rw[if_pos (by simp[hij])] at hq
    simp[hc',e1]
    exact ih (by omega) hq
  ·rw[if_neg (by simp;omega)] at hq
   refine Ad Ak AW.eq_1 ?_
   have hij':¬ (i:Int)≤((j+1:Nat):Int):=by omega
   generalize hjj:j+1=jj at hij hij' hq ⊢
   simp[hij,hij']
   rw[AF]
   simp
   exact hq [(139,bv false)]
theorem AcZ {n a j:Nat} {z:Sc} {d:Array Sc} {H:Hp} (hn:n≤900) (ha:a<n) (hj:j<n) (hd:d.size=n) (hz:d[a]! = z) (hH:∀ p,H (0::p)=(Bf d v).F 0 p):∀ (m i:Nat),j+1-i≤m→i≤n →
  (∀ (st:List (Nat × A)),Q (.exit 2) ⟨lk ([(0,Hs n v 0),(1,iv a),(4,CV),(11,iv (Sort.scanUp (fun x=>!BB z x) d j i)),(12,iv j)]++st),H⟩) →
  LoopC (Ds Tryz.prog w0 I0 M0 n0 m0) AK Q ⟨lk [(0,Hs n v 0),(1,iv a),(4,CV),(11,iv i),(12,iv j)],H⟩:=by
 intro m
 induction m with
 |zero=>
  intro i hm hi hq
  rw[Sort.scanUp,if_neg (by simp;omega)] at hq
  refine Ad Ak AK.eq_1 ?_
  simp[show ¬ (i:Int)≤j by omega,show ¬ i≤j by omega]
  rw[AF]
  simp
  exact hq [(47,bv false)]
 |succ m ih=>
  intro i hm hi hq
  by_cases hij:i≤j
  ·have h0:=hH []
   simp only[KD] at h0
   have gi:=Br (d:=d) (i:=i) (by omega)
   have ga:=Br (d:=d) (i:=a) (by omega)
   rw[hz] at ga
   have e1:IntKind.i64.wrap ((i:Int)+1)=((i+1:Nat):Int):=Av
   rw[Sort.scanUp] at hq
   generalize d[i]! = x at gi hq
   have hc:=Wv z x
   refine Ad Ak AK.eq_1 ?_
   simp[hij,show(i:Int)≤j by omega,h0,gi,ga,show(i:Int)<n by omega,show i<n by omega,ha,show(a:Int)<n by omega,CY]
   rw[AF]
   simp
   refine Ex rfl (DN z x) (by simp) rfl ?_
   cases hL:BB z x with
   |true=>
    rw[hL] at hc hq
    have hc':ED z.i x.i<0:=by simpa using hc
    rw[if_neg (by simp)] at hq
    simp[hc']
    exact hq [(47,bv false)]
   |false=>
    rw[hL] at hc hq
    have hc':¬ ED z.i x.i<0:=by simpa using hc
    rw[if_pos (by simp[hij])] at hq
    simp[hc',e1]
    exact ih (i+1) (by omega) (by omega) hq
  ·rw[Sort.scanUp,if_neg (by simp;omega)] at hq
   refine Ad Ak AK.eq_1 ?_
   simp[show ¬ (i:Int)≤j by omega,hij]
   rw[AF]
   simp
   exact hq [(47,bv false)]
theorem Adh {n a i:Nat} {z:Sc} {d:Array Sc} {H:Hp} (hn:n≤900) (ha:a<n) (hi:i≤n) (hi1:1≤i) (hd:d.size=n) (hz:d[a]! = z) (hH:∀ p,H (0::p)=(Bf d v).F 0 p):∀ (j:Nat),j<n →
  (∀ (st:List (Nat × A)),Q (.exit 4) ⟨lk ([(0,Hs n v 0),(1,iv a),(4,CV),(11,iv i),(12,iv (Sort.scanDown (fun x=>BB z x) d i j))]++st),H⟩) →
  LoopC (Ds Tryz.prog w0 I0 M0 n0 m0) AL Q ⟨lk [(0,Hs n v 0),(1,iv a),(4,CV),(11,iv i),(12,iv j)],H⟩:=by
 intro j
 induction j with
 |zero=>
  intro hj hq
  rw[Sort.scanDown] at hq
  refine Ad Ak AL.eq_1 ?_
  simp[show ¬ (i:Int)≤0 by omega,show ¬ i=0 by omega]
  rw[AF]
  simp
  exact hq [(65,bv false)]
 |succ j ih=>
  intro hj hq
  rw[Sort.scanDown] at hq
  by_cases hij:i≤j+1
  ·have h0:=hH []
   simp only[KD] at h0
   have gi:=Br (d:=d) (i:=j+1) (by omega)
   have ga:=Br (d:=d) (i:=a) (by omega)
   rw[hz] at ga
   have e1:IntKind.i64.wrap (((j+1:Nat):Int)-1)=(j:Int):=Av
   have e2:IntKind.i64.wrap (j:Int)=(j:Int):=Af (by omega) (by omega)
   generalize d[j+1]! = x at gi hq
   have hc:=Wv z x
   have hij':(i:Int)≤((j+1:Nat):Int):=by omega
   have hj':((j+1:Nat):Int)<n:=by omega
   generalize hjj:j+1=jj at gi hij hij' hj hj' e1 hq ⊢
   refine Ad Ak AL.eq_1 ?_
   simp[hij,hij',h0,gi,ga,hj,hj',ha,show(a:Int)<n by omega,CY]
   rw[AF]
   simp
   refine Ex rfl (DN z x) (by simp) rfl ?_
   cases hL:BB z x with
   |true=>
    rw[hL] at hc hq
    have hc':ED z.i x.i<0:=by simpa using hc
    rw[if_pos (by simp[hij])] at hq
    simp[hc',e1]
    exact ih (by omega) hq
   |false=>
    rw[hL] at hc hq
    have hc':¬ ED z.i x.i<0:=by simpa using hc
    rw[if_neg (by simp)] at hq
    simp[hc']
    exact hq [(65,bv false)]
  ·rw[if_neg (by simp;omega)] at hq
   refine Ad Ak AL.eq_1 ?_
   have hij':¬ (i:Int)≤((j+1:Nat):Int):=by omega
   generalize hjj:j+1=jj at hij hij' hq ⊢
   simp[hij,hij']
   rw[AF]
   simp
   exact hq [(65,bv false)]
theorem LH (p:Sc→Bool) (d:Array Sc) (j:Nat):∀ (m i:Nat),j+1-i≤m→i≤Sort.scanUp p d j i∧(Sort.scanUp p d j i≤j+1∨Sort.scanUp p d j i=i)
 |0,i,h=>by rw[Sort.scanUp,if_neg (by simp;omega)];exact⟨Cc _,.inr rfl⟩
 |m+1,i,h=>by
  rw[Sort.scanUp]
  split
  ·rename_i hc
   simp at hc
   have:=LH p d j m (i+1) (by omega)
   refine⟨by omega,.inl ?_⟩
   rcases this.2 with h | h<;>omega
  ·exact⟨Cc _,.inr rfl⟩
theorem Ie (p:Sc→Bool) (d:Array Sc) (i:Nat) (hi:1≤i):∀ j:Nat,Sort.scanDown p d i j≤j∧(i-1≤Sort.scanDown p d i j∨Sort.scanDown p d i j=j)
 |0=>by rw[Sort.scanDown];exact⟨Cc _,.inr rfl⟩
 |j+1=>by
  rw[Sort.scanDown]
  split
  ·rename_i hc
   simp at hc
   have:=Ie p d i hi j
   refine⟨by omega,?_⟩
   rcases this.2 with h | h
   ·exact .inl h
   ·left;omega
  ·exact⟨Cc _,.inr rfl⟩
theorem Abz {n a:Nat} (hn:n≤900) (ha:a<n):∀ (m i j:Nat) (d:Array Sc) (H:Hp),j+1-i≤m→a+1≤i→i≤n→j<n→a≤j→i≤j+2→d.size=n→(∀ p,H (0::p)=(Bf d v).F 0 p) →
  (∀ (H':Hp) (x:A) (st:List (Nat × A)),(∀ p,H' (0::p)=(Bf (Sort.partLoop BB a i j d).2 v).F 0 p)→a≤(Sort.partLoop BB a i j d).1→(Sort.partLoop BB a i j d).1<n→(Sort.partLoop BB a i j d).2.size=n →
   Q (.exit 4) ⟨lk ([(0,Hs n v 0),(1,iv a),(4,CV),(12,x),(13,iv (Sort.partLoop BB a i j d).1)]++st),H'⟩) →
  LoopC (Ds Tryz.prog w0 I0 M0 n0 m0) BO Q ⟨lk [(0,Hs n v 0),(1,iv a),(4,CV),(12,iv i),(13,iv j)],H⟩:=by
 intro m
 induction m using Nat.strongRecOn with
 |_ m ih=>
  intro i j d H hm h1 hi hj haj hij hd hH hq
  rw[Sort.partLoop] at hq
  have hu:=LH (fun x=>BB x d[a]!) d j (j+1-i) i (Cc _)
  have lu:=fun (Q:Exit→Sta→Prop)=>Aa3 (n0:=n0) (w0:=w0) (I0:=I0) (M0:=M0) (m0:=m0) (Q:=Q) (v:=v) (a:=a) (j:=j) (H:=H) hn ha hj hd rfl hH (j+1-i) i (Cc _) hi
  generalize Sort.scanUp (fun x=>BB x d[a]!) d j i=i2 at hq hu lu
  have hi2:i2≤n:=by rcases hu.2 with h | h<;>omega
  have hdn:=Ie (fun x=>!BB x d[a]!) d i2 (by omega) j
  have ld:=fun (Q:Exit→Sta→Prop)=>AdF (n0:=n0) (w0:=w0) (I0:=I0) (M0:=M0) (m0:=m0) (Q:=Q) (v:=v) (a:=a) (i:=i2) (H:=H) hn ha hi2 (by omega) hd rfl hH j hj
  generalize Sort.scanDown (fun x=>!BB x d[a]!) d i2 j=j2 at hq hdn ld
  refine Ad Ak BO.eq_1 ?_
  simp
  refine lu _ fun st=>?_
  simp
  refine ld _ fun st2=>?_
  by_cases hc:j2<i2
  ·rw[if_pos hc] at hq
   simp[hc,show(j2:Int)<i2 by omega]
   exact hq H (iv i2) [(144,bv true)] hH (by rcases hdn.2 with h | h<;>omega) (by omega) hd
  ·rw[if_neg hc] at hq
   have hg:j2-1+1-(i2+1)<j+1-i:=by omega
   rw[dif_pos hg] at hq
   have h0:=hH []
   simp only[KD] at h0
   have e1:IntKind.i64.wrap ((i2:Int)+1)=((i2+1:Nat):Int):=Av
   have e2:IntKind.i64.wrap ((j2:Int)-1)=((j2-1:Nat):Int):=Av
   have g1:=Br (d:=d) (i:=i2) (by omega)
   have g0:=Br (d:=d) (i:=j2) (by omega)
   have g2:=HI (d:=d) (i:=i2) (j:=j2) (by omega) (by omega)
   have hs:=KQ (d:=d) (i:=i2) (j:=j2)
   generalize d[i2]! = x at g1 g2 hs
   generalize d[j2]! = y at g0 g2 hs
   simp[hc,show ¬ (j2:Int)<i2 by omega,h0,g0,g1,g2,e1,e2,show(i2:Int)<n by omega,show(j2:Int)<n by omega,show i2<n by omega,show j2<n by omega,CY]
   refine LoopC.le (AA [(0,Hs n v 0),(1,iv a),(4,CV),(12,iv (i2+1:Nat)),(13,iv (j2-1:Nat))] (by simp)) ?_
   exact ih (j2-1+1-(i2+1)) (by omega) (i2+1) (j2-1) (Sort.swp d i2 j2) _ (Cc _) (by omega) (by omega) (by omega) (by omega) (by omega) (by rw[EU];exact hd) (fun p=>by by_cases hp:p=[]<;>simp[hp,hs,Aa,hH]) hq
theorem Ab5 {n a:Nat} (hn:n≤900) (ha:a<n):∀ (m i j:Nat) (d:Array Sc) (H:Hp),j+1-i≤m→a+1≤i→i≤n→j<n→a≤j→i≤j+2→d.size=n→(∀ p,H (0::p)=(Bf d v).F 0 p) →
  (∀ (H':Hp) (x:A) (st:List (Nat × A)),(∀ p,H' (0::p)=(Bf (Sort.partEqLoop BB a i j d).2 v).F 0 p)→a<(Sort.partEqLoop BB a i j d).1→(Sort.partEqLoop BB a i j d).1≤n→(Sort.partEqLoop BB a i j d).2.size=n →
   Q (.exit 0) ⟨lk ([(0,Hs n v 0),(1,iv a),(4,CV),(11,iv (Sort.partEqLoop BB a i j d).1),(12,x)]++st),H'⟩) →
  LoopC (Ds Tryz.prog w0 I0 M0 n0 m0) Bt Q ⟨lk [(0,Hs n v 0),(1,iv a),(4,CV),(11,iv i),(12,iv j)],H⟩:=by
 intro m
 induction m using Nat.strongRecOn with
 |_ m ih=>
  intro i j d H hm h1 hi hj haj hij hd hH hq
  rw[Sort.partEqLoop] at hq
  have hu:=LH (fun x=>!BB d[a]! x) d j (j+1-i) i (Cc _)
  have lu:=fun (Q:Exit→Sta→Prop)=>AcZ (n0:=n0) (w0:=w0) (I0:=I0) (M0:=M0) (m0:=m0) (Q:=Q) (v:=v) (a:=a) (j:=j) (H:=H) hn ha hj hd rfl hH (j+1-i) i (Cc _) hi
  generalize Sort.scanUp (fun x=>!BB d[a]! x) d j i=i2 at hq hu lu
  have hi2:i2≤n:=by rcases hu.2 with h | h<;>omega
  have hdn:=Ie (fun x=>BB d[a]! x) d i2 (by omega) j
  have ld:=fun (Q:Exit→Sta→Prop)=>Adh (n0:=n0) (w0:=w0) (I0:=I0) (M0:=M0) (m0:=m0) (Q:=Q) (v:=v) (a:=a) (i:=i2) (H:=H) hn ha hi2 (by omega) hd rfl hH j hj
  generalize Sort.scanDown (fun x=>BB d[a]! x) d i2 j=j2 at hq hdn ld
  refine Ad Ak Bt.eq_1 ?_
  simp
  refine lu _ fun st=>?_
  simp
  refine ld _ fun st2=>?_
  by_cases hc:j2<i2
  ·rw[if_pos hc] at hq
   simp[hc,show(j2:Int)<i2 by omega]
   exact hq H (iv j2) [(70,bv true)] hH (by omega) hi2 hd
  ·rw[if_neg hc] at hq
   have hg:j2-1+1-(i2+1)<j+1-i:=by omega
   rw[dif_pos hg] at hq
   have h0:=hH []
   simp only[KD] at h0
   have e1:IntKind.i64.wrap ((i2:Int)+1)=((i2+1:Nat):Int):=Av
   have e2:IntKind.i64.wrap ((j2:Int)-1)=((j2-1:Nat):Int):=Av
   have g1:=Br (d:=d) (i:=i2) (by omega)
   have g0:=Br (d:=d) (i:=j2) (by omega)
   have g2:=HI (d:=d) (i:=i2) (j:=j2) (by omega) (by omega)
   have hs:=KQ (d:=d) (i:=i2) (j:=j2)
   generalize d[i2]! = x at g1 g2 hs
   generalize d[j2]! = y at g0 g2 hs
   simp[hc,show ¬ (j2:Int)<i2 by omega,h0,g0,g1,g2,e1,e2,show(i2:Int)<n by omega,show(j2:Int)<n by omega,show i2<n by omega,show j2<n by omega,CY]
   refine LoopC.le (AA [(0,Hs n v 0),(1,iv a),(4,CV),(11,iv (i2+1:Nat)),(12,iv (j2-1:Nat))] (by simp)) ?_
   exact ih (j2-1+1-(i2+1)) (by omega) (i2+1) (j2-1) (Sort.swp d i2 j2) _ (Cc _) (by omega) (by omega) (by omega) (by omega) (by omega) (by rw[EU];exact hd) (fun p=>by by_cases hp:p=[]<;>simp[hp,hs,Aa,hH]) hq
theorem VP (d:Array Sc) (v a b q:Nat) (hn:d.size≤900) (hab:a+2≤b) (hb:b≤d.size) (hq:q<d.size):Bg Tryz.prog 278 (fun r=>[Hs d.size v r,iv a,iv b,iv q,CV]) (Bf d v) (fun _=>.tup [iv (Sort.partition BB d a b q).1,bv (Sort.partition BB d a b q).2.1]) (Bf (Sort.partition BB d a b q).2.2 v):=by
 refine AH FZ (by simp) (Ah (Pq _ _) (Ah Ax (Ah Ax (Ah Ax (Ah D5 Am))))) (Bu (Ah Ax (Ah Ax Am))) fun w0 I0 M0 m0=>?_
 obtain⟨n,hnn⟩:∃ n,d.size=n:=⟨_,rfl⟩
 rw[hnn] at hn hb hq ⊢
 have e1:IntKind.i64.wrap ((a:Int)+1)=((a+1:Nat):Int):=Av
 have e2:IntKind.i64.wrap ((b:Int)-1)=((b-1:Nat):Int):=Av
 have g1:=Br (d:=d) (i:=a) (by omega)
 have g0:=Br (d:=d) (i:=q) (by omega)
 have g2:=HI (d:=d) (i:=a) (j:=q) (by omega) (by omega)
 have hs:=KQ (d:=d) (i:=a) (j:=q)
 have hsz:(Sort.swp d a q).size=n:=by rw[EU];exact hnn
 obtain⟨R,hR⟩:∃ R,R=Sort.partition BB d a b q:=⟨_,rfl⟩
 rw[← hR]
 unfold Sort.partition at hR
 generalize d[a]! = x at g1 g2 hs
 generalize d[q]! = y at g0 g2 hs
 generalize hd1:Sort.swp d a q=d1 at hs hsz hR
 have hu:=LH (fun x=>BB x d1[a]!) d1 (b-1) (b-1+1-(a+1)) (a+1) (Cc _)
 have lu:=fun (Q:Exit→Sta→Prop) (H:Hp) (hH:∀ p,H (0::p)=(Bf d1 v).F 0 p)=>Adx (n0:=178) (w0:=w0) (I0:=I0) (M0:=M0) (m0:=m0) (Q:=Q) (v:=v) (a:=a) (j:=b-1) (H:=H) hn (by omega) (by omega) hsz rfl hH (b-1+1-(a+1)) (a+1) (Cc _) (by omega)
 simp only at hR
 generalize Sort.scanUp (fun x=>BB x d1[a]!) d1 (b-1) (a+1)=i2 at hR hu lu
 have hi2:i2≤n:=by rcases hu.2 with h | h<;>omega
 have hdn:=Ie (fun x=>!BB x d1[a]!) d1 i2 (by omega) (b-1)
 have ld:=fun (Q:Exit→Sta→Prop) (H:Hp) (hH:∀ p,H (0::p)=(Bf d1 v).F 0 p)=>AcV (n0:=178) (w0:=w0) (I0:=I0) (M0:=M0) (m0:=m0) (Q:=Q) (v:=v) (a:=a) (i:=i2) (H:=H) hn (by omega) hi2 (by omega) hsz rfl hH (b-1) (by omega)
 generalize Sort.scanDown (fun x=>!BB x d1[a]!) d1 i2 (b-1)=j2 at hR hdn ld
 have hj2:a≤j2:=by rcases hdn.2 with h | h<;>omega
 have hj2n:j2<n:=by omega
 unfold C3
 simp[g0,g1,g2,e1,e2,show(a:Int)<n by omega,show(q:Int)<n by omega,show a<n by omega,hq,CY,Aa]
 refine LoopC.le (AA [(0,Hs n v 0),(1,iv a),(4,CV),(12,iv (a+1:Nat)),(13,iv (b-1:Nat))] (by simp)) ?_
 have hH1:∀ p,(ov 0 (AQ ((Bf d v).F 0) [] ⟨v,.arr 2 (((d.toList.map Kz).set a (Kz y)).set q (Kz x))⟩) (DH []):Hp) (0::p)=(Bf d1 v).F 0 p:=fun p=>by by_cases hp:p=[]<;>simp[hp,hs,Aa]
 refine lu _ _ hH1 fun st=>?_
 simp
 refine ld _ _ hH1 fun st2=>?_
 have m1:=Br (d:=d1) (i:=a) (by omega)
 have m2:=Br (d:=d1) (i:=j2) (by omega)
 by_cases hc:j2<i2
 ·rw[if_pos hc] at hR
  subst hR
  have m3:=HI (d:=d1) (i:=j2) (j:=a) (by omega) (by omega)
  have ms:=KQ (d:=d1) (i:=j2) (j:=a)
  rw[hs] at m1 m2 m3 ms
  simp only
  generalize d1[a]! = z at m1 m3 ms
  generalize d1[j2]! = u at m2 m3 ms
  generalize hL:(((d.toList.map Kz).set a (Kz y)).set q (Kz x))=L at *
  simp[hc,show(j2:Int)<i2 by omega,m1,m2,m3,Aa,show(a:Int)<n by omega,show(j2:Int)<n by omega,show a<n by omega,hj2n,CY]
  exact AZ rfl rfl (fun p=>by by_cases hp:p=[]<;>simp[hp,ms,Aa])
 ·rw[if_neg hc] at hR
  have e3:IntKind.i64.wrap ((i2:Int)+1)=((i2+1:Nat):Int):=Av
  have e4:IntKind.i64.wrap ((j2:Int)-1)=((j2-1:Nat):Int):=Av
  have m1:=Br (d:=d1) (i:=i2) (by omega)
  have m3:=HI (d:=d1) (i:=i2) (j:=j2) (by omega) (by omega)
  have ms:=KQ (d:=d1) (i:=i2) (j:=j2)
  have hsz2:(Sort.swp d1 i2 j2).size=n:=by rw[EU];exact hsz
  rw[hs] at m1 m2 m3 ms
  generalize d1[i2]! = z at m1 m3 ms
  generalize d1[j2]! = u at m2 m3 ms
  generalize hd2:Sort.swp d1 i2 j2=d2 at ms hsz2 hR
  have l5:=fun (Q:Exit→Sta→Prop) (H:Hp) (hH:∀ p,H (0::p)=(Bf d2 v).F 0 p)=>Abz (n0:=178) (w0:=w0) (I0:=I0) (M0:=M0) (m0:=m0) (Q:=Q) (v:=v) hn (show a<n by omega) (j2-1+1-(i2+1)) (i2+1) (j2-1) d2 H (Cc _) (by omega) (by omega) (by omega) (by omega) (by omega) hsz2 hH
  generalize Sort.partLoop BB a (i2+1) (j2-1) d2=T at hR l5
  generalize hL:(((d.toList.map Kz).set a (Kz y)).set q (Kz x))=L at *
  simp[hc,show ¬ (j2:Int)<i2 by omega,m1,m2,m3,e3,e4,Aa,show(i2:Int)<n by omega,show(j2:Int)<n by omega,show i2<n by omega,hj2n,CY]
  refine LoopC.le (AA [(0,Hs n v 0),(1,iv a),(4,CV),(12,iv (i2+1:Nat)),(13,iv (j2-1:Nat))] (by simp)) ?_
  refine l5 _ _ (fun p=>by by_cases hp:p=[]<;>simp[hp,ms,Aa]) fun H' xx st3 hT t1 t2 t3=>?_
  have h0:=hT []
  simp only[KD] at h0
  have k1:=Br (d:=T.2) (i:=a) (by omega)
  have k2:=Br (d:=T.2) (i:=T.1) (by omega)
  have k3:=HI (d:=T.2) (i:=T.1) (j:=a) (by omega) (by omega)
  have ks:=KQ (d:=T.2) (i:=T.1) (j:=a)
  subst hR
  simp only
  generalize T.2[a]! = z' at k1 k3 ks
  generalize T.2[T.1]! = u' at k2 k3 ks
  simp[h0,k1,k2,k3,show(a:Int)<n by omega,show(T.1:Int)<n by omega,show a<n by omega,t2,CY]
  exact AZ rfl rfl (fun p=>by by_cases hp:p=[]<;>simp[hp,ks,hT,Aa])
theorem aj (d:Array Sc) (v a b q:Nat) (hn:d.size≤900) (hab:a+2≤b) (hb:b≤d.size) (hq:q<d.size):Bg Tryz.prog 277 (fun r=>[Hs d.size v r,iv a,iv b,iv q,CV]) (Bf d v) (fun _=>iv (Sort.partitionEqual BB d a b q).1) (Bf (Sort.partitionEqual BB d a b q).2 v):=by
 refine AH EA (by simp) (Ah (Pq _ _) (Ah Ax (Ah Ax (Ah Ax (Ah D5 Am))))) Ax fun w0 I0 M0 m0=>?_
 obtain⟨n,hnn⟩:∃ n,d.size=n:=⟨_,rfl⟩
 rw[hnn] at hn hb hq ⊢
 have e1:IntKind.i64.wrap ((a:Int)+1)=((a+1:Nat):Int):=Av
 have e2:IntKind.i64.wrap ((b:Int)-1)=((b-1:Nat):Int):=Av
 have g1:=Br (d:=d) (i:=a) (by omega)
 have g0:=Br (d:=d) (i:=q) (by omega)
 have g2:=HI (d:=d) (i:=a) (j:=q) (by omega) (by omega)
 have hs:=KQ (d:=d) (i:=a) (j:=q)
 have hsz:(Sort.swp d a q).size=n:=by rw[EU];exact hnn
 unfold Sort.partitionEqual
 generalize d[a]! = x at g1 g2 hs
 generalize d[q]! = y at g0 g2 hs
 generalize Sort.swp d a q=d1 at hs hsz ⊢
 have l3:=fun (Q:Exit→Sta→Prop) (H:Hp) (hH:∀ p,H (0::p)=(Bf d1 v).F 0 p)=>Ab5 (n0:=90) (w0:=w0) (I0:=I0) (M0:=M0) (m0:=m0) (Q:=Q) (v:=v) hn (show a<n by omega) (b-1+1-(a+1)) (a+1) (b-1) d1 H (Cc _) (by omega) (by omega) (by omega) (by omega) (by omega) hsz hH
 generalize Sort.partEqLoop BB a (a+1) (b-1) d1=T at l3 ⊢
 unfold Cs
 simp[g0,g1,g2,e1,e2,show(a:Int)<n by omega,show(q:Int)<n by omega,show a<n by omega,hq,CY,Aa]
 refine LoopC.le (AA [(0,Hs n v 0),(1,iv a),(4,CV),(11,iv (a+1:Nat)),(12,iv (b-1:Nat))] (by simp)) ?_
 refine l3 _ _ (fun p=>by by_cases hp:p=[]<;>simp[hp,hs,Aa]) fun H' xx st hT t1 t2 t3=>?_
 simp
 exact AZ rfl rfl hT
abbrev Ac6:List UInt8:=[0,1,2,2,3,3,3,3,4,4,4,4,4,4,4,4,5,5,5,5,5,5,5,5,5,5,5,5,5,5,5,5,6,6,6,6,6,6,6,6,6,6,6,6,6,6,6,6,6,6,6,6,6,6,6,6,6,6,6,6,6,6,6,6,7,7,7,7,7,7,7,7,7,7,7,7,7,7,7,7,7,7,7,7,7,7,7,7,7,7,7,7,7,7,7,7,7,7,7,7,7,7,7,7,7,7,7,7,7,7,7,7,7,7,7,7,7,7,7,7,7,7,7,7,7,7,7,7,8,8,8,8,8,8,8,8,8,8,8,8,8,8,8,8,8,8,8,8,8,8,8,8,8,8,8,8,8,8,8,8,8,8,8,8,8,8,8,8,8,8,8,8,8,8,8,8,8,8,8,8,8,8,8,8,8,8,8,8,8,8,8,8,8,8,8,8,8,8,8,8,8,8,8,8,8,8,8,8,8,8,8,8,8,8,8,8,8,8,8,8,8,8,8,8,8,8,8,8,8,8,8,8,8,8,8,8,8,8,8,8,8,8,8,8,8,8,8,8,8,8,8,8,8,8,8,8]
set_option maxRecDepth 100000 in
theorem Uw (n:Nat) (h:n<256):Ac6[n]? = some (UInt8.ofNat (Sort.bitsLen n))∧Sort.bitsLen n≤8:=by
 have:∀ n:Fin 256,Ac6[n.val]? = some (UInt8.ofNat (Sort.bitsLen n.val))∧Sort.bitsLen n.val≤8:=by decide +kernel
 exact this ⟨n,h⟩
set_option maxRecDepth 100000 in
theorem fc (n:Nat) (hn:n<256):G.Spec Tryz.prog 280 [uv n] (iv (Sort.bitsLen n)):=by
 refine Al Q4 (by simp) fun w0 I0=>?_
 unfold KL
 simp[show ¬ (4294967296:Int)≤n by omega]
 rw[JR.eq_1]
 simp[show ¬ (65536:Int)≤n by omega]
 rw[JN.eq_1]
 obtain⟨ht,hb⟩:=Uw n hn
 have hx:(UInt8.ofNat (Sort.bitsLen n)).toNat=Sort.bitsLen n:=by rw[UInt8.toNat_ofNat'];exact Nat.mod_eq_of_lt (by omega)
 generalize UInt8.ofNat (Sort.bitsLen n)=y at ht hx
 have e1:IntKind.i64.wrap (Sort.bitsLen n:Int)=(Sort.bitsLen n:Int):=Af (by omega) (by omega)
 have e2:IntKind.u8.wrap (n:Int)=(n:Int):=by rw[IntKind.wrap_u8];omega
 simp[show ¬ (256:Int)≤n by omega,ht,e2]
 rw[hx,e1,e1]
 exact Ab rfl
theorem Rj (n:Nat) (hn:n<256):G.Spec Tryz.prog 265 [uv n] (iv (Sort.bitsLen n)):=by
 refine Al TG (by simp) fun w0 I0=>?_
 unfold Mx
 simp
 refine Ae (fc n hn) rfl ?_
 simp
 exact Ab rfl
theorem YG (n:Nat) (hn:n<256):G.Spec Tryz.prog 282 [iv n] (uv (1 <<< Sort.bitsLen n:Nat)):=by
 refine Al Lk (by simp) fun w0 I0=>?_
 obtain⟨_,hb⟩:=Uw n hn
 have e1:IntKind.u64.wrap (n:Int)=(n:Int):=AE (by omega) (by omega)
 have h2:(2:Nat) ^ Sort.bitsLen n≤2 ^ 8:=Nat.pow_le_pow_right (by omega) hb
 have h3:((2 ^ Sort.bitsLen n:Nat):Int)<18446744073709551616:=Int.ofNat_lt.2 (Nat.lt_of_le_of_lt h2 (by decide))
 have e2:IntKind.u64.wrap (2 ^ min (Sort.bitsLen n) IntKind.u64.bits:Int)=((1 <<< Sort.bitsLen n:Nat):Int):=by
  rw[show min (Sort.bitsLen n) IntKind.u64.bits=Sort.bitsLen n from Nat.min_eq_left (Nat.le_trans hb (by decide)),Nat.one_shiftLeft]
  rw[show((2:Int) ^ Sort.bitsLen n)=((2 ^ Sort.bitsLen n:Nat):Int) by simp]
  exact AE (Int.natCast_nonneg _) h3
 generalize hz:((1 <<< Sort.bitsLen n:Nat):Int)=z at e2 ⊢
 unfold Gu
 simp[e1]
 refine Ae (Rj n hn) rfl ?_
 simp[e2]
 exact Ab rfl
theorem Ad8 (s:UInt64) (k:UInt64) (hk:k.toNat<64):bits .xor .u64 (s.toNat:Int) (IntKind.u64.wrap ((s.toNat:Int)*2 ^ k.toNat))=((s ^^^ (s <<< k)).toNat:Int):=by
 have h:=s.toNat_lt
 have e:IntKind.u64.wrap ((s.toNat:Int)*2 ^ k.toNat)=((s <<< k).toNat:Int):=by
  rw[IntKind.wrap_u64,UInt64.toNat_shiftLeft,Nat.mod_eq_of_lt hk,Nat.shiftLeft_eq]
  rw[show((s.toNat:Int)*2 ^ k.toNat)=((s.toNat*2 ^ k.toNat:Nat):Int) by simp]
  omega
 rw[e,bits_xor_u64_nat _ _ h (s <<< k).toNat_lt,UInt64.toNat_xor]
theorem Ahl (s:UInt64) (k:UInt64) (hk:k.toNat<64):bits .xor .u64 (s.toNat:Int) ((s.toNat:Int) / 2 ^ k.toNat)=((s ^^^ (s >>> k)).toNat:Int):=by
 have h:=s.toNat_lt
 have e:(s.toNat:Int) / 2 ^ k.toNat=((s >>> k).toNat:Int):=by
  rw[UInt64.toNat_shiftRight,Nat.mod_eq_of_lt hk,Nat.shiftRight_eq_div_pow]
  simp
 rw[e,bits_xor_u64_nat _ _ h (s >>> k).toNat_lt,UInt64.toNat_xor]
def yX (s:UInt64):Fam:=⟨fun r p=>if p=[] then ⟨1,.cells [uv s.toNat]⟩ else ⟨0,.none⟩,fun {g δ r r'} hg hd p=>by
  by_cases h1:p=[]
  ·rw[if_pos h1]
   exact Fam.cells_ren (by simp[A.renL,A.ren])
  ·rw[if_neg h1];rfl,fun {D r} hD p=>by
  by_cases h1:p=[]
  ·rw[if_pos h1];simp[Ob.refs,A.refsL,A.refs]
  ·rw[if_neg h1];trivial⟩
@[simp] theorem AiN {s:UInt64} {r:Nat} {p:Nm}:(yX s).F r p=if p=[] then ⟨1,.cells [uv s.toNat]⟩ else ⟨0,.none⟩:=rfl
theorem bU (s:UInt64):Bg Tryz.prog 283 (fun r=>[ceP r]) (yX s) (fun _=>uv (Sort.xorNext s).toNat) (yX (Sort.xorNext s)):=by
 refine AH Mn (by simp) (Ah AG Am) Ax fun w0 I0 M0 m0=>?_
 unfold G6
 simp[Aa]
 have x1:bits .xor .u64 (s.toNat:Int) (IntKind.u64.wrap ((s.toNat:Int)*2 ^ min 13 IntKind.u64.bits))=((s ^^^ (s <<< 13)).toNat:Int):=Ad8 s 13 (by decide)
 rw[x1]
 have x2:=fun r:UInt64=>Ahl r 7 (by decide)
 have x2':∀ r:UInt64,bits .xor .u64 (r.toNat:Int) ((r.toNat:Int) / 2 ^ min 7 IntKind.u64.bits)=((r ^^^ (r >>> 7)).toNat:Int):=fun r=>x2 r
 rw[x2']
 have x3:∀ r:UInt64,bits .xor .u64 (r.toNat:Int) (IntKind.u64.wrap ((r.toNat:Int)*2 ^ min 17 IntKind.u64.bits))=((r ^^^ (r <<< 17)).toNat:Int):=fun r=>Ad8 r 17 (by decide)
 rw[x3]
 exact AZ rfl rfl (fun p=>by by_cases hp:p=[]<;>simp[hp,Aa,Sort.xorNext])
theorem NL (a l m:Nat) (st:UInt64 × Array Sc) (i:Nat):(Sort.breakStep a l m st i).2.size=st.2.size:=by
 unfold Sort.breakStep
 exact EU
theorem rY {n a l k:Nat} (hn:n≤900) (hal:a+l≤n) (h13:13≤l) (h16:l≤49) (hk:k=Sort.bitsLen l) {i:Nat} (hi:i<n) (hib:i≤a+l / 4*2+1) {r:UInt64} {d:Array Sc} {H:Hp} (hd:d.size=n) (hH:∀ p,H (0::p)=(Bf d v).F 0 p) (hG:∀ p,H (1::p)=(yX r).F 1 p)
  (hq:∀ H':Hp,(∀ p,H' (0::p)=(Bf (Sort.breakStep a l (1 <<< k) (r,d) i).2 v).F 0 p)→(∀ p,H' (1::p)=(yX (Sort.breakStep a l (1 <<< k) (r,d) i).1).F 1 p)→LoopC (Ds Tryz.prog w0 I0 M0 n0 m0) Ay Q ⟨lk [(0,Hs n v 0),(1,iv a),(8,iv l),(9,ceP 1),(10,uv (1 <<< k:Nat)),(11,iv (i+1:Nat))],H'⟩) :
  LoopC (Ds Tryz.prog w0 I0 M0 n0 m0) Ay Q ⟨lk [(0,Hs n v 0),(1,iv a),(8,iv l),(9,ceP 1),(10,uv (1 <<< k:Nat)),(11,iv i)],H⟩:=by
 have hN:=bU r
 obtain⟨m,hm⟩:∃ m,m=(1 <<< k:Nat):=⟨_,rfl⟩
 obtain⟨q4,hq4⟩:∃ q4,q4=l / 4:=⟨_,rfl⟩
 have e1:IntKind.i64.wrap ((l:Int).tdiv 4)=(q4:Int):=by rw[Int.tdiv_eq_ediv_of_nonneg (by omega),Af (by omega) (by omega)];omega
 have e1':IntKind.i64.wrap ((l:Int) / 4)=(q4:Int):=Av
 have e2:IntKind.i64.wrap ((q4:Int)*2)=(q4:Int)*2:=Af (by omega) (by omega)
 have e3:IntKind.i64.wrap ((a:Int)+(q4:Int)*2)=(a:Int)+(q4:Int)*2:=Af (by omega) (by omega)
 have e4:IntKind.i64.wrap ((a:Int)+(q4:Int)*2+1)=(a:Int)+(q4:Int)*2+1:=Af (by omega) (by omega)
 rw[← hm] at hq ⊢
 refine Ad Ak Ay.eq_1 ?_
 simp[e1,e1',e2,e3,e4,show(i:Int)≤(a:Int)+(q4:Int)*2+1 by omega]
 refine AB 1 hN hG (by simp) (by simp) ?_
 simp
 have hX:=(Sort.xorNext r).toNat_lt
 have hml:m≤2*l:=by
  rw[hm,hk,Nat.one_shiftLeft]
  exact Sort.two_pow_bitsLen_le (by omega)
 have hm1:1≤m:=by
  rw[hm,Nat.one_shiftLeft]
  exact Nat.one_le_two_pow
 obtain⟨o,ho⟩:∃ o,o=(Sort.xorNext r).toNat &&& (m-1):=⟨_,rfl⟩
 have hol:o≤m-1:=by rw[ho];exact Nat.and_le_right
 have eA:bits .and .u64 ((Sort.xorNext r).toNat:Int) (IntKind.u64.wrap ((m:Int)-1))=(o:Int):=by
  rw[show IntKind.u64.wrap ((m:Int)-1)=((m-1:Nat):Int) by rw[AE (by omega) (by omega)];omega,bits_and_u64_nat _ _ hX (by omega),← ho]
 have eB:IntKind.i64.wrap (o:Int)=(o:Int):=Af (by omega) (by omega)
 have e5:IntKind.i64.wrap ((i:Int)+1)=((i+1:Nat):Int):=Av
 have fin:∀ o2:Nat,o2<l→Sort.breakStep a l m (r,d) i=(Sort.xorNext r,Sort.swp d i (a+o2))→WPC (Ds Tryz.prog w0 I0 M0 n0 m0) Bx
   (Cf 1 (Gv (WPC (Ds Tryz.prog w0 I0 M0 n0 m0) (.keep [0,1,8,9,10,11] (.reg [co (some 36) (.move (.tmp 11)) none,co (some 37) (.binOp .add 3 (.tmp 36) (.const (.int .i64 1)) 3) none,co (some 11) (.assign (.tmp 37)) none] [0,1,8,9,10,11]))
    (Gv (LoopC (Ds Tryz.prog w0 I0 M0 n0 m0) Ay Q) Q)) (Gv (LoopC (Ds Tryz.prog w0 I0 M0 n0 m0) Ay Q) Q)))
   ⟨lk [(0,Hs n v 0),(1,iv a),(8,iv l),(9,ceP 1),(10,uv m),(11,iv i),(12,iv o2)],ov 1 ((yX (Sort.xorNext r)).F 1) H⟩:=fun o2 ho2 hst=>by
  have h0:=hH []
  simp only[KD] at h0
  have e6:IntKind.i64.wrap ((a:Int)+(o2:Int))=((a+o2:Nat):Int):=Av
  have g1:=Br (d:=d) (i:=i) (by omega)
  have g0:=Br (d:=d) (i:=a+o2) (by omega)
  have g2:=HI (d:=d) (i:=i) (j:=a+o2) (by omega) (by omega)
  have hs:=KQ (d:=d) (i:=i) (j:=a+o2)
  rw[hst] at hq
  generalize d[i]! = x at g1 g2 hs
  generalize d[a+o2]! = y at g0 g2 hs
  have hj:((a+o2:Nat):Int)<n:=by omega
  have hj':a+o2<n:=by omega
  generalize Sort.swp d i (a+o2)=d2 at hs hq
  generalize a+o2=jj at e6 g0 g2 hs hj hj'
  rw[Bx.eq_1]
  simp[e6,h0,g0,g1,g2,e5,show(i:Int)<n by omega,hi,hj,hj',CY]
  exact hq _ (fun p=>by by_cases hp:p=[]<;>simp[hp,hs,Aa,hH]) (fun p=>by simp[Aa])
 simp only[eA,eB]
 have hbs:Sort.breakStep a l m (r,d) i=(Sort.xorNext r,Sort.swp d i (a+(if o ≥ l then o-l else o))):=by
  unfold Sort.breakStep
  simp only[← ho]
 by_cases hc:l≤o
 ·rw[if_pos (show o ≥ l from hc)] at hbs
  refine⟨fun _=>?_,fun h=>by omega⟩
  have e7:IntKind.i64.wrap ((o:Int)-l)=((o-l:Nat):Int):=Av
  rw[e7]
  exact fin (o-l) (by omega) hbs
 ·rw[if_neg hc] at hbs
  refine⟨fun h=>by omega,fun _=>?_⟩
  exact fin o (by omega) hbs
theorem fS (d:Array Sc) (v a b:Nat) (hn:d.size≤900) (hab:a+13≤b) (hb:b≤d.size) (hl:b-a<50):Bg Tryz.prog 273 (fun r=>[Hs d.size v r,iv a,iv b,CV]) (Bf d v) (fun _=>.tup []) (Bf (Sort.breakPatterns d a b) v):=by
 refine AH ET (by simp) (Ah (Pq _ _) (Ah Ax (Ah Ax (Ah D5 Am)))) (Bu Am) fun w0 I0 M0 m0=>?_
 obtain⟨n,hnn⟩:∃ n,d.size=n:=⟨_,rfl⟩
 rw[hnn] at hn hb ⊢
 obtain⟨l,hll⟩:∃ l,l=b-a:=⟨_,rfl⟩
 obtain⟨q4,hq4⟩:∃ q4,q4=l / 4:=⟨_,rfl⟩
 have e0:IntKind.i64.wrap ((b:Int)-a)=(l:Int):=Av
 have e1:IntKind.i64.wrap ((l:Int).tdiv 4)=(q4:Int):=by rw[Int.tdiv_eq_ediv_of_nonneg (by omega),Af (by omega) (by omega)];omega
 have e1':IntKind.i64.wrap ((l:Int) / 4)=(q4:Int):=Av
 have e2:IntKind.i64.wrap ((q4:Int)*2)=(q4:Int)*2:=Af (by omega) (by omega)
 have e3:IntKind.i64.wrap ((a:Int)+(q4:Int)*2)=(a:Int)+(q4:Int)*2:=Af (by omega) (by omega)
 have e4:IntKind.i64.wrap ((a:Int)+(q4:Int)*2-1)=((a+q4*2-1:Nat):Int):=Av
 have e5:IntKind.i64.wrap ((a:Int)+(q4:Int)*2+1)=(a:Int)+(q4:Int)*2+1:=Af (by omega) (by omega)
 have eu:IntKind.u64.wrap (l:Int)=(l:Int):=AE (by omega) (by omega)
 have hNx:=YG l (by omega)
 have ho:(UInt64.ofNat l).toNat=l:=by rw[UInt64.toNat_ofNat'];exact Nat.mod_eq_of_lt (by omega)
 unfold Sort.breakPatterns
 simp only[← hll,ge_iff_le,if_pos (show 8≤l by omega),← hq4]
 have st:=@rY (n0:=67) w0 I0 M0 m0
 generalize hid:a+q4*2-1=id0 at e4 ⊢
 unfold CA
 generalize hmm:(1 <<< Sort.bitsLen l:Nat)=mm at hNx ⊢
 simp[e0,eu,show(8:Int)≤l by omega,Aa]
 refine Ae hNx rfl ?_
 simp[e1,e1',e2,e3,e4]
 rw[← hmm]
 refine st hn (by omega) (by omega) (by omega) rfl (i:=id0) (r:=UInt64.ofNat l) (d:=d) (by omega) (by omega) hnn (fun p=>by simp) (fun p=>?_) fun H1 f1 g1=>?_
 ·by_cases hp:p=[]
  ·subst hp;simp[DH,ho]
  ·simp[DH,hp,Ne.symm hp]
 have s1:=NL a l (1 <<< Sort.bitsLen l) (UInt64.ofNat l,d) id0
 simp only[hnn] at s1
 generalize Sort.breakStep a l (1 <<< Sort.bitsLen l) (UInt64.ofNat l,d) id0=S1 at f1 g1 s1 ⊢
 refine st hn (by omega) (by omega) (by omega) rfl (i:=id0+1) (r:=S1.1) (d:=S1.2) (by omega) (by omega) s1 f1 g1 fun H2 f2 g2=>?_
 have s2:=NL a l (1 <<< Sort.bitsLen l) (S1.1,S1.2) (id0+1)
 simp only[s1] at s2
 have eS:(S1.1,S1.2)=S1:=rfl
 rw[eS] at f2 g2 s2
 generalize Sort.breakStep a l (1 <<< Sort.bitsLen l) S1 (id0+1)=S2 at f2 g2 s2 ⊢
 refine st hn (by omega) (by omega) (by omega) rfl (i:=id0+1+1) (r:=S2.1) (d:=S2.2) (by omega) (by omega) s2 f2 g2 fun H3 f3 g3=>?_
 refine Ad Ak Ay.eq_1 ?_
 have big:¬ ((id0+1+1+1:Nat):Int)≤(a:Int)+(q4:Int)*2+1:=by omega
 generalize id0+1+1+1=id3 at big ⊢
 simp[e1,e1',e2,e3,e5,big]
 exact AO rfl rfl (fun p=>f3 p)
def uD (d:Array Sc) (a b lim q:Nat) (wb wp:Bool):Array Sc:=
 if (decide (a > 0)&&!BB d[a-1]! d[q]!)=true then
  if a<(Sort.partitionEqual BB d a b q).1∧(Sort.partitionEqual BB d a b q).1≤b then Sort.pdq BB (Sort.partitionEqual BB d a b q).2 (Sort.partitionEqual BB d a b q).1 b lim wb wp else (Sort.partitionEqual BB d a b q).2
 else
  if a≤(Sort.partition BB d a b q).1∧(Sort.partition BB d a b q).1<b then
   if (Sort.partition BB d a b q).1-a<b-(Sort.partition BB d a b q).1 then
    Sort.pdq BB (Sort.pdq BB (Sort.partition BB d a b q).2.2 a (Sort.partition BB d a b q).1 lim true true) ((Sort.partition BB d a b q).1+1) b lim (decide ((Sort.partition BB d a b q).1-a ≥ (b-a) / 8)) (Sort.partition BB d a b q).2.1
   else
    Sort.pdq BB (Sort.pdq BB (Sort.partition BB d a b q).2.2 ((Sort.partition BB d a b q).1+1) b lim true true) a (Sort.partition BB d a b q).1 lim (decide (b-(Sort.partition BB d a b q).1 ≥ (b-a) / 8)) (Sort.partition BB d a b q).2.1
  else (Sort.partition BB d a b q).2.2
def pq2 (d:Array Sc) (a b lim q:Nat) (hint:Sort.Hint) (wb wp:Bool):Array Sc:=
 if (wb&&wp&&decide (hint = .increasing))=true then
  if (Sort.partialInsertionSort BB d a b).2=true then (Sort.partialInsertionSort BB d a b).1 else uD (Sort.partialInsertionSort BB d a b).1 a b lim q wb wp
 else uD d a b lim q wb wp
def rX (d:Array Sc) (a b lim:Nat) (wb wp:Bool):Array Sc:=
 if (Sort.choosePivot BB d a b).2 = .decreasing then pq2 (Sort.reverseRange d a b) a b lim ((b-1)-((Sort.choosePivot BB d a b).1-a)) .increasing wb wp
 else pq2 d a b lim (Sort.choosePivot BB d a b).1 (Sort.choosePivot BB d a b).2 wb wp
theorem pe (d:Array Sc) (a b lim:Nat) (wb wp:Bool):Sort.pdq BB d a b lim wb wp=if b-a≤12 then Sort.insertionSort BB d a b else if lim=0 then Sort.heapSort BB d a b else
  if wb=true then rX d a b lim wb wp else rX (Sort.breakPatterns d a b) a b (lim-1) wb wp:=by
 rw[Sort.pdq]
 split
 ·rfl
 ·split
  ·rfl
  ·have main:∀ (d:Array Sc) (lim:Nat),(let c:=Sort.choosePivot BB d a b
    let d2:=if c.2 = .decreasing then Sort.reverseRange d a b else d
    let pivot:=if c.2 = .decreasing then (b-1)-(c.1-a) else c.1
    let hint:=if c.2 = .decreasing then Sort.Hint.increasing else c.2
    let pi:=if (wb&&wp&&hint = .increasing)=true then Sort.partialInsertionSort BB d2 a b else (d2,false)
    if pi.2=true then pi.1 else uD pi.1 a b lim pivot wb wp)=rX d a b lim wb wp:=fun d lim=>by
    simp only
    unfold rX pq2
    by_cases hd:(Sort.choosePivot BB d a b).2 = .decreasing
    ·simp only[hd,if_true]
     cases wb<;>cases wp<;>simp
    ·simp only[hd,if_false]
     by_cases hw:(wb&&wp&&decide ((Sort.choosePivot BB d a b).2 = .increasing))=true
     ·rw[if_pos hw,if_pos hw]
     ·rw[if_neg hw,if_neg hw]
      simp
   cases wb with
   |true=>
    rw[if_pos rfl,← main]
    simp only[Bool.not_true,Bool.false_eq_true,if_false]
    unfold uD
    rfl
   |false=>
    have e2:(if (false:Bool)=true then rX d a b lim false wp else rX (Sort.breakPatterns d a b) a b (lim-1) false wp)=rX (Sort.breakPatterns d a b) a b (lim-1) false wp:=if_neg (by simp)
    rw[e2,← main]
    simp only[Bool.not_false,if_true]
    unfold uD
    rfl
def YP (l lim:Nat) (wb:Bool):Prop:=l≤12∨(l-12)+(if wb=true then 0 else 1)≤lim
section
variable {v n:Nat}
theorem NN {l l' lim:Nat} (wb:Bool) (h:l'<l) (h2:l-12≤lim):YP l' lim wb:=by
 unfold YP
 by_cases h3:l'≤12
 ·exact .inl h3
 ·right
  split<;>omega
def yV (v n a b lim:Nat) (wb wp:Bool) (d:Array Sc):Prop:=∀ {n0:Nat} {w0:World} {I0:Nat→Prop} {M0:Nm→Nat→Prop} {m0:Mu} {Q:Exit→Sta→Prop} (H:Hp),(∀ p,H (0::p)=(Bf d v).F 0 p) →
  (∀ (H':Hp) (st:List (Nat × A)),(∀ p,H' (0::p)=(Bf (Sort.pdq BB d a b lim wb wp) v).F 0 p)→Q .ret ⟨lk st,H'⟩) →
  LoopC (Ds Tryz.prog w0 I0 M0 n0 m0) AI Q ⟨lk [(0,Hs n v 0),(1,iv a),(2,iv b),(3,iv lim),(4,CV),(10,bv wb),(11,bv wp)],H⟩
def xE (v n a b lim:Nat) (d:Array Sc):Prop:=Bg Tryz.prog 264 (fun r=>[Hs n v r,iv a,iv b,iv lim,CV]) (Bf d v) (fun _=>.tup []) (Bf (Sort.pdq BB d a b lim true true) v)
theorem bP {a b lim:Nat} {d:Array Sc} (h:yV v n a b lim true true d):xE v n a b lim d:=by
 refine AH GA (by simp) (Ah (Pq _ _) (Ah Ax (Ah Ax (Ah Ax (Ah D5 Am))))) (Bu Am) fun w0 I0 M0 m0=>?_
 unfold Di
 simp
 refine LoopC.le (AA [(0,Hs n v 0),(1,iv a),(2,iv b),(3,iv lim),(4,CV),(10,bv true),(11,bv true)] (by simp)) ?_
 refine h _ (fun p=>by simp) fun H' st h'=>?_
 simp
 exact AO rfl rfl (fun p=>h' p)
end
theorem dG (a:Nat):∀ (m i j J:Nat) (d:Array Sc),j+1-i≤m→1≤i→i≤J+1→j≤J→i≤(Sort.partEqLoop BB a i j d).1∧(Sort.partEqLoop BB a i j d).1≤J+1∧(Sort.partEqLoop BB a i j d).2.size=d.size:=by
 intro m
 induction m using Nat.strongRecOn with
 |_ m ih=>
  intro i j J d hm h1 hi hj
  rw[Sort.partEqLoop]
  have hu:=LH (fun x=>!BB d[a]! x) d j (j+1-i) i (Cc _)
  generalize Sort.scanUp (fun x=>!BB d[a]! x) d j i=i2 at hu ⊢
  have hdn:=Ie (fun x=>BB d[a]! x) d i2 (by omega) j
  generalize Sort.scanDown (fun x=>BB d[a]! x) d i2 j=j2 at hdn ⊢
  by_cases hc:i2 > j2
  ·simp only[hc,if_true]
   refine⟨hu.1,?_,trivial⟩
   rcases hu.2 with h | h<;>omega
  ·have hg:j2-1+1-(i2+1)<j+1-i:=by omega
   simp only[hc,if_false,dif_pos hg]
   have:=ih (j2-1+1-(i2+1)) (by omega) (i2+1) (j2-1) J (Sort.swp d i2 j2) (Cc _) (by omega) (by omega) (by omega)
   rw[EU] at this
   omega
theorem i9 (d:Array Sc) (a b q:Nat) (hab:a+2≤b):a<(Sort.partitionEqual BB d a b q).1∧(Sort.partitionEqual BB d a b q).1≤b∧(Sort.partitionEqual BB d a b q).2.size=d.size:=by
 unfold Sort.partitionEqual
 have:=dG a (b-1+1-(a+1)) (a+1) (b-1) (b-1) (Sort.swp d a q) (Cc _) (by omega) (by omega) (Cc _)
 rw[EU] at this
 omega
theorem Aba:Sort.SWO BB where
 irrefl x:=by simp[BB]
 trans x y z h1 h2:=by simp[BB] at *; omega
 ntrans x y z h1 h2:=by simp[BB] at *; omega
theorem sm (d:Array Sc) (a b q:Nat) (h1:a≤q) (h2:q<b) (hb:b≤d.size):a≤(Sort.partition BB d a b q).1∧(Sort.partition BB d a b q).1<b∧(Sort.partition BB d a b q).2.2.size=d.size:=by
 obtain⟨k1,k2,k3,_⟩:=Sort.partition_holds BB Aba d a b q h1 h2 hb
 exact⟨k1,k2,k3.1⟩
theorem Mp (d:Array Sc) (a b lim:Nat) (h:b-a≤12):(Sort.pdq BB d a b lim true true).size=d.size:=by
 rw[pe,if_pos h]
 exact O6 BB a b (b-(a+1)) (a+1) d (Cc _)
section
variable {n0:Nat} {w0:World} {I0:Nat→Prop} {M0:Nm→Nat→Prop} {m0:Mu} {Q:Exit→Sta→Prop} {v n:Nat}
theorem Ab6 {a b lim q l:Nat} {wb wp:Bool} {d:Array Sc} (hn:n≤900) (hd:d.size=n) (hab:a+13≤b) (hb:b≤n) (hl:l=b-a) (hl24:l≤24) (hq1:a≤q) (hq2:q<b) (hlim:l-12≤lim) (hlm:lim≤900)
  (ihL:∀ (a' b' lim':Nat) (wb' wp':Bool) (d':Array Sc),d'.size=n→a'≤b'→b'≤n→b'-a'<l→lim'≤900→YP (b'-a') lim' wb'→yV v n a' b' lim' wb' wp' d')
  {H:Hp} (hH:∀ p,H (0::p)=(Bf d v).F 0 p) (hq:∀ (H':Hp) (st:List (Nat × A)),(∀ p,H' (0::p)=(Bf (uD d a b lim q wb wp) v).F 0 p)→Q .ret ⟨lk st,H'⟩) :
  WPC (Ds Tryz.prog w0 I0 M0 n0 m0) Bo (Cf 1 (Gv (LoopC (Ds Tryz.prog w0 I0 M0 n0 m0) AI Q) Q)) ⟨lk [(0,Hs n v 0),(1,iv a),(2,iv b),(3,iv lim),(4,CV),(10,bv wb),(11,bv wp),(12,iv l),(13,iv q)],H⟩:=by
 have hP:=VP d v a b q (by omega) (by omega) (by omega) (by omega)
 have hE:=aj d v a b q (by omega) (by omega) (by omega) (by omega)
 obtain⟨p1,p2,p3⟩:=sm d a b q hq1 hq2 (by omega)
 obtain⟨c1,c2,c3⟩:=i9 d a b q (by omega)
 unfold uD at hq
 rw[if_pos (show a<(Sort.partitionEqual BB d a b q).1∧(Sort.partitionEqual BB d a b q).1≤b from⟨c1,c2⟩),if_pos (show a≤(Sort.partition BB d a b q).1∧(Sort.partition BB d a b q).1<b from⟨p1,p2⟩)] at hq
 generalize Sort.partitionEqual BB d a b q=E at hE c1 c2 c3 hq
 generalize Sort.partition BB d a b q=R at hP p1 p2 p3 hq
 obtain⟨mid,ap,d4⟩:=R
 simp only at hP p1 p2 p3 hq
 rw[hd] at hP hE p3 c3
 have f1:IntKind.i64.wrap ((mid:Int)-a)=((mid-a:Nat):Int):=Av
 have f2:IntKind.i64.wrap ((b:Int)-mid)=((b-mid:Nat):Int):=Av
 have f3:IntKind.i64.wrap ((l:Int).tdiv 8)=((l / 8:Nat):Int):=by rw[Int.tdiv_eq_ediv_of_nonneg (by omega),Af (by omega) (by omega)];omega
 have f4:IntKind.i64.wrap ((l:Int) / 8)=((l / 8:Nat):Int):=Av
 have f5:IntKind.i64.wrap ((mid:Int)+1)=((mid+1:Nat):Int):=Av
 rw[Bo.eq_1]
 by_cases ha0:0<a
 ·have h0:=hH []
  simp only[KD] at h0
  have g1:=Br (d:=d) (i:=a-1) (by omega)
  have g0:=Br (d:=d) (i:=q) (by omega)
  have hc:=Wv d[a-1]! d[q]!
  have f6:IntKind.i64.wrap ((a:Int)-1)=((a-1:Nat):Int):=Av
  generalize d[a-1]! = x at g1 hc hq
  generalize d[q]! = y at g0 hc hq
  simp[show(0:Int)<a by omega,ha0,h0,f6,g1,g0,show(q:Int)<n by omega,show q<n by omega,show a-1<n by omega,show((a-1:Nat):Int)<n by omega,CY]
  rw[AF]
  simp
  refine Ex rfl (DN x y) (by simp) rfl ?_
  cases hL:BB x y with
  |false=>
   rw[hL] at hc hq
   rw[if_pos (by simp;omega)] at hq
   have hc':¬ ED x.i y.i<0:=by simpa using hc
   simp[hc']
   refine AB 0 hE hH (by simp) (by simp) ?_
   simp
   exact ihL E.1 b lim wb wp E.2 c3 (by omega) hb (by omega) hlm (NN _ (by omega) hlim) _ (fun p=>by simp) hq
  |true=>
   rw[hL] at hc hq
   rw[if_neg (by simp)] at hq
   have hc':ED x.i y.i<0:=by simpa using hc
   simp[hc']
   refine AB 0 hP hH (by simp) (by simp) ?_
   simp[f1,f2,f3,f4,f5]
   refine⟨fun hs=>?_,fun hs=>?_⟩
   ·rw[if_pos hs] at hq
    have hS:xE v n a mid lim d4:=bP (ihL a mid lim true true d4 p3 (by omega) (by omega) (by omega) hlm (.inl (by omega)))
    have hsz:=Mp d4 a mid lim (by omega)
    have hdec:decide ((l:Int) / 8≤((mid-a:Nat):Int))=decide (mid-a ≥ (b-a) / 8):=by rw[decide_eq_decide];omega
    refine AB 0 hS (fun p=>by simp) (by simp) (by simp) ?_
    simp[f5]
    rw[hdec]
    refine LoopC.le (AA [(0,Hs n v 0),(1,iv (mid+1:Nat)),(2,iv b),(3,iv lim),(4,CV),(10,bv (decide (mid-a ≥ (b-a) / 8))),(11,bv ap)] (by simp)) ?_
    exact ihL (mid+1) b lim _ ap _ (by rw[hsz];exact p3) (by omega) hb (by omega) hlm (NN _ (by omega) hlim) _ (fun p=>by simp) hq
   ·have hs':¬ mid-a<b-mid:=by omega
    rw[if_neg hs'] at hq
    have hS:xE v n (mid+1) b lim d4:=bP (ihL (mid+1) b lim true true d4 p3 (by omega) (by omega) (by omega) hlm (.inl (by omega)))
    have hsz:=Mp d4 (mid+1) b lim (by omega)
    have hdec:decide ((l:Int) / 8≤((b-mid:Nat):Int))=decide (b-mid ≥ (b-a) / 8):=by rw[decide_eq_decide];omega
    refine AB 0 hS (fun p=>by simp) (by simp) (by simp) ?_
    simp
    rw[hdec]
    exact ihL a mid lim _ ap _ (by rw[hsz];exact p3) (by omega) (by omega) (by omega) hlm (NN _ (by omega) hlim) _ (fun p=>by simp) hq
 ·rw[if_neg (by simp;omega)] at hq
  have ha00:a=0:=by omega
  simp[show ¬ (0:Int)<a by omega,ha0]
  rw[AF]
  simp
  refine AB 0 hP hH (by simp) (by simp) ?_
  simp[f1,f2,f3,f4,f5]
  refine⟨fun hs=>?_,fun hs=>?_⟩
  ·rw[if_pos hs] at hq
   have hS:xE v n a mid lim d4:=bP (ihL a mid lim true true d4 p3 (by omega) (by omega) (by omega) hlm (.inl (by omega)))
   have hsz:=Mp d4 a mid lim (by omega)
   have hdec:decide ((l:Int) / 8≤((mid-a:Nat):Int))=decide (mid-a ≥ (b-a) / 8):=by rw[decide_eq_decide];omega
   refine AB 0 hS (fun p=>by simp) (by simp) (by simp) ?_
   simp[f5]
   rw[hdec]
   refine LoopC.le (AA [(0,Hs n v 0),(1,iv (mid+1:Nat)),(2,iv b),(3,iv lim),(4,CV),(10,bv (decide (mid-a ≥ (b-a) / 8))),(11,bv ap)] (by simp)) ?_
   exact ihL (mid+1) b lim _ ap _ (by rw[hsz];exact p3) (by omega) hb (by omega) hlm (NN _ (by omega) hlim) _ (fun p=>by simp) hq
  ·have hs':¬ mid-a<b-mid:=by omega
   rw[if_neg hs'] at hq
   have hS:xE v n (mid+1) b lim d4:=bP (ihL (mid+1) b lim true true d4 p3 (by omega) (by omega) (by omega) hlm (.inl (by omega)))
   have hsz:=Mp d4 (mid+1) b lim (by omega)
   have hdec:decide ((l:Int) / 8≤((b-mid:Nat):Int))=decide (b-mid ≥ (b-a) / 8):=by rw[decide_eq_decide];omega
   refine AB 0 hS (fun p=>by simp) (by simp) (by simp) ?_
   simp
   rw[hdec]
   exact ihL a mid lim _ ap _ (by rw[hsz];exact p3) (by omega) (by omega) (by omega) hlm (NN _ (by omega) hlim) _ (fun p=>by simp) hq
theorem vy {a b lim q l:Nat} {wb wp:Bool} {h:Sort.Hint} {d:Array Sc} (hn:n≤900) (hd:d.size=n) (hab:a+13≤b) (hb:b≤n) (hl:l=b-a) (hl24:l≤24) (hq1:a≤q) (hq2:q<b) (hlim:l-12≤lim) (hlm:lim≤900)
  (ihL:∀ (a' b' lim':Nat) (wb' wp':Bool) (d':Array Sc),d'.size=n→a'≤b'→b'≤n→b'-a'<l→lim'≤900→YP (b'-a') lim' wb'→yV v n a' b' lim' wb' wp' d')
  {H:Hp} (hH:∀ p,H (0::p)=(Bf d v).F 0 p) (hq:∀ (H':Hp) (st:List (Nat × A)),(∀ p,H' (0::p)=(Bf (pq2 d a b lim q h wb wp) v).F 0 p)→Q .ret ⟨lk st,H'⟩) :
  WPC (Ds Tryz.prog w0 I0 M0 n0 m0) B6 (Cf 1 (Gv (LoopC (Ds Tryz.prog w0 I0 M0 n0 m0) AI Q) Q)) ⟨lk [(0,Hs n v 0),(1,iv a),(2,iv b),(3,iv lim),(4,CV),(10,bv wb),(11,bv wp),(12,iv l),(13,iv q),(14,iv (M5 h))],H⟩:=by
 have hP:=Yc d v a b (by omega) (by omega) (by omega) (by omega)
 have hpe:=UL d a b (by omega)
 have h1:(Sort.partialInsertionSort BB d a b).1=d:=by rw[hpe]
 have hk:∀ {H:Hp},(∀ p,H (0::p)=(Bf d v).F 0 p)→(∀ (H':Hp) (st:List (Nat × A)),(∀ p,H' (0::p)=(Bf (uD d a b lim q wb wp) v).F 0 p)→Q .ret ⟨lk st,H'⟩)→WPC (Ds Tryz.prog w0 I0 M0 n0 m0) Bo (Cf 1 (Gv (LoopC (Ds Tryz.prog w0 I0 M0 n0 m0) AI Q) Q)) ⟨lk [(0,Hs n v 0),(1,iv a),(2,iv b),(3,iv lim),(4,CV),(10,bv wb),(11,bv wp),(12,iv l),(13,iv q)],H⟩:=fun hH hq=>Ab6 hn hd hab hb hl hl24 hq1 hq2 hlim hlm ihL hH hq
 unfold pq2 at hq
 rw[h1] at hP hq
 rw[hd] at hP
 rw[B6.eq_1]
 by_cases hw:(wb&&wp&&decide (h = .increasing))=true
 ·rw[if_pos hw] at hq
  simp at hw
  obtain⟨⟨rfl,rfl⟩,rfl⟩:=hw
  simp[M5]
  refine AB 0 hP hH (by simp) (by simp) ?_
  cases hp:(Sort.partialInsertionSort BB d a b).2 with
  |true=>
   rw[if_pos hp] at hq
   simp
   exact hq _ [(0,Hs n v 0),(1,iv a),(2,iv b),(3,iv lim),(4,CV),(10,bv true),(11,bv true),(12,iv l),(13,iv q),(80,bv true)] (fun p=>by simp)
  |false=>
   rw[if_neg (by rw[hp];simp)] at hq
   simp
   exact hk (fun p=>by simp) hq
 ·rw[if_neg hw] at hq
  cases wb with
  |false=>
   simp
   exact hk hH hq
  |true=>cases wp with
   |false=>
    simp
    exact hk hH hq
   |true=>
    cases h with
    |increasing=>simp at hw
    |unknown=>
     simp[M5]
     exact hk hH hq
    |decreasing=>
     simp[M5]
     exact hk hH hq
theorem uH {a b lim l:Nat} {wb wp:Bool} {d:Array Sc} (hn:n≤900) (hd:d.size=n) (hab:a+13≤b) (hb:b≤n) (hl:l=b-a) (hl24:l≤24) (hlim:l-12≤lim) (hlm:lim≤900)
  (ihL:∀ (a' b' lim':Nat) (wb' wp':Bool) (d':Array Sc),d'.size=n→a'≤b'→b'≤n→b'-a'<l→lim'≤900→YP (b'-a') lim' wb'→yV v n a' b' lim' wb' wp' d')
  {H:Hp} (hH:∀ p,H (0::p)=(Bf d v).F 0 p) (hq:∀ (H':Hp) (st:List (Nat × A)),(∀ p,H' (0::p)=(Bf (rX d a b lim wb wp) v).F 0 p)→Q .ret ⟨lk st,H'⟩) :
  WPC (Ds Tryz.prog w0 I0 M0 n0 m0) B7 (Cf 1 (Gv (LoopC (Ds Tryz.prog w0 I0 M0 n0 m0) AI Q) Q)) ⟨lk [(0,Hs n v 0),(1,iv a),(2,iv b),(3,iv lim),(4,CV),(10,bv wb),(11,bv wp),(12,iv l)],H⟩:=by
 have hC:=choose_spec d v a b (by omega) hab (by omega) (by omega)
 have hR:=YF d v a b (by omega) (by omega) (by omega) (by omega)
 obtain⟨c1,c2⟩:=Sort.choosePivot_holds BB d a b (by omega)
 have hrs:(Sort.reverseRange d a b).size=n:=by
  have:=(Sort.reverseRange_holds d a b (by omega) (by omega)).1
  rw[this];exact hd
 unfold rX at hq
 rw[hd] at hC hR
 rcases hqq:Sort.choosePivot BB d a b with ⟨q,h⟩
 rw[hqq] at hC c1 c2 hq
 simp only at hC c1 c2 hq
 rw[B7.eq_1]
 simp
 refine AB 0 hC hH (by simp) (by simp) ?_
 by_cases hdec:h = .decreasing
 ·subst hdec
  rw[if_pos rfl] at hq
  have e1:IntKind.i64.wrap ((b:Int)-1)=(b:Int)-1:=Af (by omega) (by omega)
  have e2:IntKind.i64.wrap ((q:Int)-a)=(q:Int)-a:=Af (by omega) (by omega)
  have e3:IntKind.i64.wrap ((b:Int)-1-((q:Int)-a))=((b-1-(q-a):Nat):Int):=Av
  simp[M5]
  refine AB 0 hR (fun p=>by simp) (by simp) (by simp) ?_
  simp[e1,e2,e3]
  exact vy (h:=.increasing) hn hrs hab hb hl hl24 (by omega) (by omega) hlim hlm ihL (fun p=>by simp) hq
 ·rw[if_neg hdec] at hq
  have h2:¬ M5 h=2:=by cases h<;>simp[M5] at hdec ⊢
  simp[h2]
  exact vy hn hd hab hb hl hl24 (by omega) (by omega) hlim hlm ihL (fun p=>by simp) hq
theorem xb (hn:n≤900):∀ (l:Nat),l≤24→∀ (a b lim:Nat) (wb wp:Bool) (d:Array Sc),d.size=n→a≤b→b≤n→b-a=l→lim≤900→YP l lim wb→yV v n a b lim wb wp d:=by
 intro l
 induction l using Nat.strongRecOn with
 |_ l ih=>
  intro hl24 a b lim wb wp d hd hab hb hl hlm hfar n0 w0 I0 M0 m0 Q H hH hq
  have e0:IntKind.i64.wrap ((b:Int)-a)=(l:Int):=Av
  refine Ad Ak AI.eq_1 ?_
  rw[pe] at hq
  by_cases h12:l≤12
  ·rw[if_pos (by omega)] at hq
   have hI:=Yr d v a b (by omega) (by omega) (by omega)
   rw[hd] at hI
   simp[e0,show(l:Int)≤12 by omega,h12]
   refine AB 0 hI hH (by simp) (by simp) ?_
   simp
   exact hq _ [] (fun p=>by simp)
  ·rw[if_neg (by omega)] at hq
   have hlim:(l-12)+(if wb=true then 0 else 1)≤lim:=by
    rcases hfar with h | h
    ·omega
    ·exact h
   have hlim0:¬ lim=0:=by split at hlim<;>omega
   rw[if_neg hlim0] at hq
   have ihL:∀ (a' b' lim':Nat) (wb' wp':Bool) (d':Array Sc),d'.size=n→a'≤b'→b'≤n→b'-a'<l→lim'≤900→YP (b'-a') lim' wb'→yV v n a' b' lim' wb' wp' d':=fun a' b' lim' wb' wp' d' k1 k2 k3 k4 k5 k6=>ih (b'-a') k4 (by omega) a' b' lim' wb' wp' d' k1 k2 k3 rfl k5 k6
   cases wb with
   |true=>
    rw[if_pos rfl] at hq
    simp at hlim
    simp[e0,show ¬ (l:Int)≤12 by omega,h12,hlim0]
    exact uH hn hd (by omega) hb hl.symm hl24 (by omega) hlm ihL hH hq
   |false=>
    rw[if_neg (by simp)] at hq
    simp at hlim
    have hB:=fS d v a b (by omega) (by omega) (by omega) (by omega)
    rw[hd] at hB
    have hbs:(Sort.breakPatterns d a b).size=n:=by
     have:=(Sort.breakPatterns_holds d a b hab (by omega)).1
     rw[this];exact hd
    have e1:IntKind.i64.wrap ((lim:Int)-1)=((lim-1:Nat):Int):=Av
    simp[e0,show ¬ (l:Int)≤12 by omega,h12,hlim0]
    refine AB 0 hB hH (by simp) (by simp) ?_
    simp[e1]
    exact uH hn hbs (by omega) hb hl.symm hl24 (by omega) (by omega) ihL (fun p=>by simp) hq
end
theorem Y6 {o:List Sc} (ho:EK o) {d:Array Sc} (hp:d.toList.Perm o) (hs:Sort.SortedIn BB 0 d.size d):d.toList=Ss o:=by
 have ha:EK d.toList:=by
  unfold EK at ho ⊢
  exact(hp.pairwise_iff (fun {x y} h=>by rw[aF];exact h)).2 ho
 have hr:J8 d.toList:=by
  unfold J8 EK at *
  rw[List.pairwise_iff_getElem] at ha ⊢
  intro i j hi hj hij
  have h1:=ha i j hi hj hij
  have h2:=hs i j (Nat.zero_le _) hij (by simpa using hj)
  have e1:d[i]! = d.toList[i]:=by rw[getElem!_pos d i (by simpa using hi)];simp
  have e2:d[j]! = d.toList[j]:=by rw[getElem!_pos d j (by simpa using hj)];simp
  rw[e1,e2] at h2
  simp[BB] at h2
  simp[Wu] at h1
  simp at h1 h2 ⊢
  omega
 obtain⟨k1,k2⟩:=R6 ho
 exact Xp hr k1 (hp.trans k2.symm)
theorem eZ {o:List Sc} (ho:EK o) (hl:o.length≤16) (v:Nat):Bg Tryz.prog 241 (fun r=>[rk o v r,CV]) (cH o v) (fun _=>.tup []) (cH (Ss o) v):=by
 obtain⟨d,hd⟩:∃ d:Array Sc,d=o.toArray:=⟨_,rfl⟩
 have hdl:d.toList=o:=by rw[hd]
 have hds:d.size=o.length:=by rw[hd];simp
 have hb:Sort.bitsLen o.length≤8:=(Uw o.length (by omega)).2
 have hfar:YP o.length (Sort.bitsLen o.length) true:=by
  have:∀ n:Fin 17,n.val≤12∨(n.val-12)+0≤Sort.bitsLen n.val:=by decide +kernel
  unfold YP
  simpa using this ⟨o.length,by omega⟩
 have hP:xE v o.length 0 o.length (Sort.bitsLen o.length) d:=bP (xb (by omega) o.length (by omega) 0 o.length _ true true d hds (by omega) (Cc _) (by omega) (by omega) hfar)
 have hS:=Sort.pdq_sorts BB Aba d 0 d.size (Sort.bitsLen o.length) true true (Nat.zero_le _) (Cc _) (.inl rfl)
 have hres:(Sort.pdq BB d 0 o.length (Sort.bitsLen o.length) true true).toList=Ss o:=by
  rw[hds] at hS
  obtain⟨⟨s1,_,s3⟩,s4⟩:=hS
  refine Y6 ho ?_ (by rw[s1,hds];exact s4)
  have e1:∀ x:Array Sc,x.size=o.length→x.extract 0 o.length=x:=fun x hx=>by rw[← hx];simp
  rw[e1 _ (by rw[s1,hds]),e1 _ hds,hdl] at s3
  exact s3
 unfold xE at hP
 rw[show(Bf d v)=cH o v by unfold Bf;rw[hdl],show Bf (Sort.pdq BB d 0 o.length (Sort.bitsLen o.length) true true) v=cH (Ss o) v by unfold Bf;rw[hres]] at hP
 refine AH FA (by simp) (Ah Iv (Ah D5 Am)) (Bu Am) fun w0 I0 M0 m0=>?_
 have e1:IntKind.u64.wrap (o.length:Int)=(o.length:Int):=AE (by omega) (by omega)
 have hL:=Rj o.length (by omega)
 unfold CP
 simp[e1]
 refine Ae hL rfl ?_
 simp
 refine AB 0 hP (fun p=>by simp) (by simp) (by simp) ?_
 simp
 exact AO rfl rfl (fun p=>by simp)
@[simp] theorem AcB {x:Sc}:(Zw x).take 2=cI x:=rfl
theorem gY {all:List Sc}:∀ (m:Nat) (l junk o:List Sc) (v:Nat),l.length=m→l.length≤300→o.length+l.length≤300→MA l l.length→(∀ y,y ∈ all→y ∈ l∨Ha o y=false)→(∀ y,y ∈ l→y ∈ all) →
  ∃ o',MC all o o'∧∀ {n0:Nat} {w0:World} {I0:Nat→Prop} {Q:Exit→Sta→Prop} (u:Nat) (H:Hp),(∀ p,H (0::p)=(K0 l junk v).F 0 p)→(∀ p,H (2::p)=(cH o u).F 2 p) →
   (∀ (H':Hp) (u':Nat) (st:List (Nat × A)),(∀ p,H' (2::p)=(cH o' u').F 2 p)→Q (.exit 4) ⟨lk ([(3,cF 0),(8,rk o' u' 2)]++st),H'⟩) →
   LoopC (cx Tryz.prog w0 I0 n0) G4 Q ⟨lk [(3,cF 0),(8,rk o u 2)],H⟩:=by
 intro m
 induction m with
 |zero=>
  intro l junk o v hm hl hol hh hall hsub
  have:l=[]:=List.eq_nil_of_length_eq_zero hm
  subst this
  have hdone:∀ y,y ∈ all→Ha o y=false:=fun y hy=>by
   rcases hall y hy with h | h
   ·simp at h
   ·exact h
  refine⟨o,.done hdone,fun {n0 w0 I0 Q} u H hH hG hq=>?_⟩
  have hL:=Ou [] junk v (by simp)
  have h0:=hH []
  refine Ad Ak G4.eq_1 ?_
  simp[h0]
  refine AB 0 hL hH (by simp) (by simp) ?_
  simp
  exact hq _ u [(51,bv false)] (fun p=>by simp[hG])
 |succ m ih=>
  intro l junk o v hm hl hol hh hall hsub
  obtain⟨q1,q2,q3⟩:=xF (l:=l) (by omega) hh
  have hmin:∀ y,y ∈ l→Bp y (gt l 0)=false:=fun y hy=>by
   obtain⟨k,hk,rfl⟩:=List.getElem_of_mem hy
   rw[← vl hk]
   exact qO hh k hk
  obtain⟨g1,g2⟩:=om q3 hmin hall hsub
  have hP:=fK l junk v (by omega) (by omega)
  have hL:=Ou l junk v (by omega)
  have hlen:=VM l
  have hrl:((JY l).take (l.length-1)).length=m:=by simp;omega
  have q1':(JY l).getD (l.length-1) ad=gt l 0:=q1
  rw[q1'] at hP
  have q2':MA ((JY l).take (l.length-1)) m:=fun k h1 h2=>q2 k h1 (by omega)
  clear q2
  generalize gt l 0=x at hP g1 g2 q3 hmin
  generalize (JY l).take (l.length-1)=rest at hP hrl q2' q3 g1 g2
  have q2:MA rest rest.length:=fun k h1 h2=>q2' k h1 (by omega)
  have hsub':∀ y,y ∈ rest→y ∈ all:=fun y hy=>hsub y (q3.subset (by simp[hy]))
  cases hf:Ha o x with
  |true=>
   obtain⟨b1,b2⟩:=g1 hf
   obtain⟨o',p1,p2⟩:=ih rest (x::junk) (o++[x]) v hrl (by omega) (by simp;omega) q2 b2 hsub'
   refine⟨o',.step b1 p1,fun {n0 w0 I0 Q} u H hH hG hq=>?_⟩
   have hC:=Xl x o u (by omega)
   rw[hf] at hC
   have h0:=hH []
   simp only[uA] at h0
   refine Ad Ak G4.eq_1 ?_
   simp[h0]
   refine AB 0 hL hH (by simp) (by simp) ?_
   simp[show 0<l.length by omega]
   refine AB 0 hP (fun p=>by simp) (by simp) (by simp) ?_
   simp[Aa,CY]
   have hG2:∀ p,(ov 0 ((K0 rest (x::junk) v).F 0) (AQ H [1] ⟨(H [1]).u+1,.cells (Zw x)⟩):Hp) (2::p)=(cH o u).F 2 p:=fun p=>by simp[Aa,hG]
   refine AB 2 hC hG2 (by simp) (by simp) ?_
   have ht:(o.map Kz).take o.length=o.map Kz:=Bb (by simp)
   simp[Aa,sM,ht,CY]
   refine⟨iU,by omega,?_⟩
   refine LoopC.le (AA [(3,cF 0),(8,rk (o++[x]) (u+1) 2)] (by simp)) ?_
   exact p2 (u+1) _ (fun p=>by simp[Aa]) (fun p=>by by_cases hp:p=[]<;>simp[hp,Aa]) hq
  |false=>
   obtain⟨o',p1,p2⟩:=ih rest (x::junk) o v hrl (by omega) (by omega) q2 (g2 hf) hsub'
   refine⟨o',p1,fun {n0 w0 I0 Q} u H hH hG hq=>?_⟩
   have hC:=Xl x o u (by omega)
   rw[hf] at hC
   have h0:=hH []
   simp only[uA] at h0
   refine Ad Ak G4.eq_1 ?_
   simp[h0]
   refine AB 0 hL hH (by simp) (by simp) ?_
   simp[show 0<l.length by omega]
   refine AB 0 hP (fun p=>by simp) (by simp) (by simp) ?_
   simp[Aa,CY]
   have hG2:∀ p,(ov 0 ((K0 rest (x::junk) v).F 0) (AQ H [1] ⟨(H [1]).u+1,.cells (Zw x)⟩):Hp) (2::p)=(cH o u).F 2 p:=fun p=>by simp[Aa,hG]
   refine AB 2 hC hG2 (by simp) (by simp) ?_
   simp
   refine LoopC.le (AA [(3,cF 0),(8,rk o u 2)] (by simp)) ?_
   exact p2 u _ (fun p=>by simp[Aa]) (fun p=>by simp) hq
end Go.Proofs.YtbjmaoedheiigaaGreat
namespace Go.PL
open List
def Gs (i:Nat):Nat→List Int→List Sc
 |_,[]=>[]
 |j,n::r=>if 0<n∧i<16∧j<16 then ⟨i,j,n⟩::Gs i (j+1) r else Gs i (j+1) r
def Hl:Nat→List (List Int)→List Sc
 |_,[]=>[]
 |i,r::rs=>Gs i 0 r++Hl (i+1) rs
theorem WT {i:Nat}:∀ {r:List Int} {j:Nat},(Gs i j r).length≤16-j
 |[],j=>by simp[Gs]
 |n::r,j=>by
  have:=WT (i:=i) (r:=r) (j:=j+1)
  unfold Gs
  split
  ·simp;omega
  ·omega
theorem XJ {i:Nat} (h:16≤i):∀ {r:List Int} {j:Nat},Gs i j r=[]
 |[],j=>rfl
 |n::r,j=>by
  unfold Gs
  rw[if_neg (by omega),XJ h]
theorem RR:∀ {rs:List (List Int)} {i:Nat},(Hl i rs).length≤(16-i)*16
 |[],i=>by simp[Hl]
 |r::rs,i=>by
  have h1:=RR (rs:=rs) (i:=i+1)
  have h2:=WT (i:=i) (r:=r) (j:=0)
  unfold Hl
  rw[List.length_append]
  by_cases h:16≤i
  ·rw[XJ h];simp;omega
  ·omega
theorem aB {i:Nat}:∀ {r:List Int} {j:Nat} {x:Sc},x ∈ Gs i j r→x.i=i∧i<16∧x.j<16∧j≤x.j∧x.j<j+r.length∧r[x.j-j]? = some x.n∧0<x.n
 |[],j,x,h=>by simp[Gs] at h
 |n::r,j,x,h=>by
  have ih:x ∈ Gs i (j+1) r→x.i=i∧i<16∧x.j<16∧j≤x.j∧x.j<j+(n::r).length∧(n::r)[x.j-j]? = some x.n∧0<x.n:=fun h=>by
   obtain⟨h1,h2,h3,h4,h5,h6,h7⟩:=aB h
   refine⟨h1,h2,h3,by omega,by simp;omega,?_,h7⟩
   rw[show x.j-j=(x.j-(j+1))+1 by omega]
   simpa using h6
  unfold Gs at h
  split at h
  ·rename_i hc
   rcases List.mem_cons.1 h with rfl | h
   ·exact⟨rfl,hc.2.1,hc.2.2,Cc _,by simp,by simp,hc.1⟩
   ·exact ih h
  ·exact ih h
end Go.PL
namespace Go.Proofs.YtbjmaoedheiigaaGreat
open Go Go.G Go.Proofs Go.PL
abbrev dx (l:List (List Int)):A:=.sl false (l.map Fo)
def HpI (H:Hp) (all:List Sc):Prop:=∃ (l junk:List Sc) (v:Nat),(∀ p,H (0::p)=(K0 l junk v).F 0 p)∧MA l l.length∧List.Perm l all∧∀ p,H (2::p)=⟨0,.none⟩
theorem ue {n0:Nat} {w0:World} {I0:Nat→Prop} {Q:Exit→Sta→Prop} {X:A} {N:Nat} {r:List Int} {i:Nat} (hr:r.length≤1000000):∀ (m j:Nat) (all:List Sc) (H:Hp),r.length=j+m→all.length+(Gs i j (r.drop j)).length≤256→HpI H all →
  (∀ (H':Hp) (st:List (Nat × A)),HpI H' (all++Gs i j (r.drop j))→Q (.exit 2) ⟨lk ([(3,cF 0),(4,iv i),(12,X),(13,iv N),(14,iv i)]++st),H'⟩) →
  LoopC (cx Tryz.prog w0 I0 n0) GW Q ⟨lk [(3,cF 0),(4,iv i),(12,X),(13,iv N),(14,iv i),(19,Fo r),(20,iv r.length),(21,iv j)],H⟩:=by
 intro m
 induction m with
 |zero=>
  intro j all H hm hl hI hq
  refine Ad Ak GW.eq_1 ?_
  have:¬ (j:Int)<r.length:=by omega
  simp[this]
  have hd:r.drop j=[]:=List.drop_eq_nil_of_le (by omega)
  rw[hd] at hq
  exact hq H [(19,Fo r),(20,iv r.length),(21,iv j),(22,bv false)] (by simpa[Gs] using hI)
 |succ m ih=>
  intro j all H hm hl hI hq
  have hj:j<r.length:=by omega
  have hd:r.drop j=r[j]::r.drop (j+1):=(List.getElem_cons_drop hj).symm
  have e1:IntKind.i64.wrap ((j:Int)+1)=((j+1:Nat):Int):=Av
  rw[hd] at hl hq
  unfold Gs at hl hq
  refine Ad Ak GW.eq_1 ?_
  simp[hj,show(j:Int)<r.length by omega]
  have next:∀ (all':List Sc) (H':Hp),all'.length+(Gs i (j+1) (r.drop (j+1))).length≤256→HpI H' all'→all'++Gs i (j+1) (r.drop (j+1))=all++(if 0<r[j]∧i<16∧j<16 then ⟨i,j,r[j]⟩::Gs i (j+1) (r.drop (j+1)) else Gs i (j+1) (r.drop (j+1)))→LoopC (cx Tryz.prog w0 I0 n0) GW Q ⟨lk [(3,cF 0),(4,iv i),(12,X),(13,iv N),(14,iv i),(19,Fo r),(20,iv r.length),(21,iv (j+1:Nat))],H'⟩:=fun all' H' hl' hI' he=>ih (j+1) all' H' (by omega) hl' hI' (by rw[he];exact hq)
  by_cases h1:0<r[j]
  ·by_cases h2:i<16
   ·by_cases h3:j<16
    ·rw[if_pos ⟨h1,h2,h3⟩] at hl
     obtain⟨l,junk,v,q1,q2,q3,q4⟩:=hI
     have hll:=q3.length_eq
     simp at hl
     have hP:=Z6 l junk v (by omega) ⟨i,j,r[j]⟩
     obtain⟨g1,g2⟩:=gL q2 ⟨i,j,r[j]⟩
     simp[h1,show(i:Int)<16 by omega,show(j:Int)<16 by omega]
     refine⟨?_,fun h=>by omega⟩
     refine AB 0 hP q1 (by simp[Oj,Zw]) (by simp) ?_
     simp[e1]
     refine next (all++[⟨i,j,r[j]⟩]) _ (by simp;omega) ⟨jL (l.length+1) (l++[⟨i,j,r[j]⟩]) l.length,[],v+1,fun p=>by simp,?_,?_,fun p=>by simp[q4]⟩ (by rw[if_pos ⟨h1,h2,h3⟩];simp)
     ·rw[Y1];simpa using g1
     ·exact g2.trans ((q3.cons _).trans (List.perm_append_singleton _ _).symm)
    ·have:¬ (j:Int)<16:=by omega
     simp[h1,show(i:Int)<16 by omega,this,e1]
     intro _
     refine next all H (by rw[if_neg (by omega)] at hl;exact hl) hI (by rw[if_neg (by omega)])
   ·have:¬ (i:Int)<16:=by omega
    simp[h1,this,e1]
    refine next all H (by rw[if_neg (by omega)] at hl;exact hl) hI (by rw[if_neg (by omega)])
  ·simp[h1,e1]
   refine next all H (by rw[if_neg (by omega)] at hl;exact hl) hI (by rw[if_neg (by omega)])
theorem tn {n0:Nat} {w0:World} {I0:Nat→Prop} {Q:Exit→Sta→Prop} {rs:List (List Int)} (hrs:rs.length≤1000000) (hr:∀ r,r ∈ rs→r.length≤1000000):∀ (m i:Nat) (all:List Sc) (H:Hp),rs.length=i+m→all.length+(Hl i (rs.drop i)).length≤256→HpI H all →
  (∀ (H':Hp) (st:List (Nat × A)),HpI H' (all++Hl i (rs.drop i))→Q (.exit 0) ⟨lk ([(3,cF 0)]++st),H'⟩) →
  LoopC (cx Tryz.prog w0 I0 n0) Jb Q ⟨lk [(3,cF 0),(12,dx rs),(13,iv rs.length),(14,iv i)],H⟩:=by
 intro m
 induction m with
 |zero=>
  intro i all H hm hl hI hq
  refine Ad Ak Jb.eq_1 ?_
  have:¬ (i:Int)<rs.length:=by omega
  simp[this]
  have hd:rs.drop i=[]:=List.drop_eq_nil_of_le (by omega)
  rw[hd] at hq
  exact hq H [(12,dx rs),(13,iv rs.length),(14,iv i),(15,bv false)] (by simpa[Hl] using hI)
 |succ m ih=>
  intro i all H hm hl hI hq
  have hj:i<rs.length:=by omega
  have hd:rs.drop i=rs[i]::rs.drop (i+1):=(List.getElem_cons_drop hj).symm
  have e1:IntKind.i64.wrap ((i:Int)+1)=((i+1:Nat):Int):=Av
  have hri:=hr rs[i] (BI hj)
  rw[hd] at hl hq
  unfold Hl at hl hq
  rw[List.length_append] at hl
  refine Ad Ak Jb.eq_1 ?_
  simp[hj,show(i:Int)<rs.length by omega]
  refine LoopC.le (AA [(3,cF 0),(4,iv i),(12,dx rs),(13,iv rs.length),(14,iv i),(19,Fo rs[i]),(20,iv rs[i].length),(21,iv (0:Nat))] (by simp)) ?_
  refine ue hri rs[i].length 0 all H (by omega) (by simp;omega) hI fun H' st hI'=>?_
  simp[e1]
  refine ih (i+1) _ H' (by omega) ?_ (by simpa using hI') fun H2 st2 hI2=>?_
  ·simp;omega
  ·refine hq H2 st2 (by simpa using hI2)
theorem aU:∀ all:List Sc,∃ l,MA l l.length∧List.Perm l all
 |[]=>⟨[],fun k _ h=>by simp at h,List.Perm.refl _⟩
 |x::all=>by
  obtain⟨l,h1,h2⟩:=aU all
  obtain⟨g1,g2⟩:=gL h1 x
  exact⟨_,by rw[Y1];simpa using g1,g2.trans (h2.cons x)⟩
theorem kB {all:List Sc} (h:all.length≤300):∃ o',MC all [] o':=by
 obtain⟨l,h1,h2⟩:=aU all
 have:=h2.length_eq
 obtain⟨o',h3,_⟩:=gY (all:=all) l.length l [] [] 0 rfl (by omega) (by simp;omega) h1 (fun y hy=>.inl (h2.symm.subset hy)) (fun y hy=>h2.subset hy)
 exact⟨o',h3⟩
theorem Iq {rs:List (List Int)} {o':List Sc} (h:MC (Hl 0 rs) [] o'):EK o'∧(∀ x,x ∈ o'→x ∈ Hl 0 rs):=ba h (by simp[EK]) (by simp)
theorem jP (rs:List (List Int)) (hrs:rs.length≤1000000) (hr:∀ r,r ∈ rs→r.length≤1000000) {o':List Sc} (ho:MC (Hl 0 rs) [] o') (hl16:o'.length≤16):G.Spec Tryz.prog 203 [dx rs] (.sl false ((Ss o').map Kz)):=by
 obtain⟨hap,_⟩:=Iq ho
 have hcl:=RR (rs:=rs) (i:=0)
 refine Al ZA (by simp) fun w0 I0=>?_
 unfold SU
 simp
 refine LoopC.le (Bv (d:=[0]) (u:=1) (cs:=[.sl true []]) 0 [0,0] 3 rfl rfl (by simp)) ?_
 simp
 refine LoopC.le (AA [(3,cF 0),(12,dx rs),(13,iv rs.length),(14,iv (0:Nat))] (by simp)) ?_
 refine tn hrs hr rs.length 0 [] _ (by omega) (by simpa using hcl) ⟨[],[],1,fun p=>?_,fun k _ h=>by simp at h,List.Perm.refl _,fun p=>by simp⟩ fun H' st hI=>?_
 ·by_cases h1:p=[]
  ·subst h1;simp
  ·by_cases h2:p=[0]
   ·subst h2;simp
   ·simp[h1,h2,Ne.symm h1,Ne.symm h2]
 ·obtain⟨l,junk,v,q1,q2,q3,q4⟩:=hI
  simp only[List.nil_append,List.drop_zero] at q3
  have hll:=q3.length_eq
  simp
  refine LoopC.le (FP 8 [2] 2 (by simp)) ?_
  obtain⟨o2,p1,p2⟩:=gY (all:=Hl 0 rs) l.length l junk [] v rfl (by omega) (by simp;omega) q2 (fun y hy=>.inl (q3.symm.subset hy)) (fun y hy=>q3.subset hy)
  have:=kQ p1 ho
  subst this
  refine LoopC.le (AA [(3,cF 0),(8,rk [] ((H' [2]).u+1) 2)] (by simp)) ?_
  refine p2 _ _ (fun p=>by simp[Aa,q1]) (fun p=>?_) fun H2 u2 st2 hG=>?_
  ·by_cases h1:p=[]<;>simp[h1,Aa,q4]
  ·have hS:=eZ hap hl16 u2
   simp
   refine AB 2 hS hG (by simp) (by simp) ?_
   simp
   have hsl:(Ss o2).length=o2.length:=(R6 hap).2.length_eq
   have:=UW (H:=ov 2 ((cH (Ss o2) u2).F 2) H2) (o:=[2]) (u:=u2) (sz:=2) (l:=Ss o2) (f:=Kz) (n:=o2.length) (by simp) (by omega) (by intro x;rfl)
   rw[Bb (by omega)] at this
   exact this
end Go.Proofs.YtbjmaoedheiigaaGreat
namespace Go.PL
open List
def Zx (x:Int):List Int→Option (List Int)
 |[]=>none
 |y::b=>if x=y then some b else Zx x b
def AJ:List Int→List Int→Nat
 |[],_=>0
 |x::a,b=>max (AJ a b) (match Zx x b with | some b'=>AJ a b'+1 | none=>0)
theorem gR {x:Int} {s:List Int}:∀ {b:List Int},x::s <+ b→∃ b',Zx x b=some b'∧s <+ b'
 |[],h=>by cases h
 |y::b,h=>by
  unfold Zx
  by_cases e:x=y
  ·subst e
   refine⟨b,by simp,?_⟩
   cases h with
   |cons _ h=>exact(List.sublist_cons_self x s).trans h
   |cons_cons _ h=>exact h
  ·rw[if_neg e]
   cases h with
   |cons _ h=>exact gR h
   |cons_cons _ h=>exact absurd rfl e
theorem N9 {x:Int}:∀ {b b':List Int},Zx x b=some b'→∃ b0,b=b0++x::b'∧x ∉ b0
 |[],b',h=>by cases h
 |y::b,b',h=>by
  unfold Zx at h
  by_cases e:x=y
  ·rw[if_pos e] at h
   cases h
   exact⟨[],by simp[e],by simp⟩
  ·rw[if_neg e] at h
   obtain⟨b0,h1,h2⟩:=N9 h
   exact⟨y::b0,by simp[h1],by simp[e,h2]⟩
theorem Zz {x:Int}:∀ {b:List Int},Zx x b=none→x ∉ b
 |[],_=>by simp
 |y::b,h=>by
  unfold Zx at h
  by_cases e:x=y
  ·rw[if_pos e] at h;cases h
  ·rw[if_neg e] at h
   simp[e,Zz h]
theorem YM {x:Int}:∀ {b0 b':List Int},x ∉ b0→Zx x (b0++x::b')=some b'
 |[],b',_=>by simp[Zx]
 |y::b0,b',h=>by
  simp at h
  simp[Zx,h.1,YM h.2]
theorem HP:∀ a b:List Int,∃ s,s <+ a∧s <+ b∧s.length=AJ a b
 |[],b=>⟨[],by simp,by simp,rfl⟩
 |x::a,b=>by
  obtain⟨s,h1,h2,h3⟩:=HP a b
  unfold AJ
  cases e:Zx x b with
  |none=>exact⟨s,h1.cons x,h2,by simp[h3]⟩
  |some b'=>
   obtain⟨t,g1,g2,g3⟩:=HP a b'
   simp only
   by_cases hle:AJ a b≤AJ a b'+1
   ·obtain⟨b0,rfl,_⟩:=N9 e
    exact⟨x::t,g1.cons_cons x,(g2.cons_cons x).trans (List.sublist_append_right _ _),by simp;omega⟩
   ·exact⟨s,h1.cons x,h2,by omega⟩
theorem HW:∀ {a b s:List Int},s <+ a→s <+ b→s.length≤AJ a b
 |[],b,s,h1,h2=>by
  have:=List.sublist_nil.1 h1
  subst this
  simp
 |x::a,b,s,h1,h2=>by
  unfold AJ
  cases h1 with
  |cons _ h=>have:=HW h h2;omega
  |@cons_cons s' _ _ h=>
   obtain⟨b',e,h3⟩:=gR h2
   have:=HW h h3
   rw[e]
   simp
   omega
theorem wD {a b:List Int} {n:Nat} (h1:∃ s,s <+ a∧s <+ b∧s.length=n) (h2:∀ s,s <+ a→s <+ b→s.length≤n):AJ a b=n:=by
 obtain⟨s,g1,g2,g3⟩:=h1
 obtain⟨t,k1,k2,k3⟩:=HP a b
 have:=HW g1 g2
 have:=h2 t k1 k2
 omega
theorem Kq (a b:List Int):AJ a.reverse b.reverse=AJ a b:=by
 obtain⟨s,h1,h2,h3⟩:=HP a b
 refine wD ⟨s.reverse,h1.reverse,h2.reverse,by simpa using h3⟩ fun t g1 g2=>?_
 have:=HW (a:=a) (b:=b) (s:=t.reverse) (by simpa using g1.reverse) (by simpa using g2.reverse)
 simpa using this
theorem Ov {a b a' b':List Int} (h1:a <+ a') (h2:b <+ b'):AJ a b≤AJ a' b':=by
 obtain⟨s,g1,g2,g3⟩:=HP a b
 have:=HW (g1.trans h1) (g2.trans h2)
 omega
theorem ik (a b a' b':List Int):AJ a b+AJ a' b'≤AJ (a++a') (b++b'):=by
 obtain⟨s,g1,g2,g3⟩:=HP a b
 obtain⟨t,k1,k2,k3⟩:=HP a' b'
 have:=HW (g1.append k1) (g2.append k2)
 simp at this
 omega
theorem kR (a a' b:List Int):∃ b1 b2,b=b1++b2∧AJ (a++a') b=AJ a b1+AJ a' b2:=by
 obtain⟨s,g1,g2,g3⟩:=HP (a++a') b
 obtain⟨s1,s2,rfl,k1,k2⟩:=List.sublist_append_iff.1 g1
 obtain⟨b1,b2,rfl,m1,m2⟩:=List.append_sublist_iff.1 g2
 refine⟨b1,b2,rfl,?_⟩
 have h1:=HW k1 m1
 have h2:=HW k2 m2
 have h3:=ik a b1 a' b2
 simp at g3
 omega
theorem Jk (a b:List Int):AJ a b≤a.length∧AJ a b≤b.length:=by
 obtain⟨s,g1,g2,g3⟩:=HP a b
 have:=g1.length_le
 have:=g2.length_le
 omega
theorem KY (x:Int) (a b:List Int):AJ (x::a) (x::b)=AJ a b+1:=by
 have h:AJ a (x::b)≤AJ a b+1:=by
  obtain⟨s,g1,g2,g3⟩:=HP a (x::b)
  cases g2 with
  |cons _ h=>have:=HW g1 h;omega
  |@cons_cons s' _ _ h=>
   have:=HW ((List.sublist_cons_self x s').trans g1) h
   simp at g3
   omega
 rw[AJ]
 simp[Zx]
 omega
theorem Ws {x y:Int} (h:x ≠ y) (a b:List Int):AJ (x::a) (y::b)=max (AJ a (y::b)) (AJ (x::a) b):=by
 have h1:AJ a b≤AJ a (y::b):=Ov (List.Sublist.refl _) (List.sublist_cons_self _ _)
 rw[AJ,AJ]
 simp only[Zx,if_neg h]
 omega
theorem Pp (x:Int) (a b:List Int):AJ (a++[x]) (b++[x])=AJ a b+1:=by
 rw[← Kq]
 simp[KY,Kq]
theorem O8 {x y:Int} (h:x ≠ y) (a b:List Int):AJ (a++[x]) (b++[y])=max (AJ a (b++[y])) (AJ (a++[x]) b):=by
 rw[← Kq,← Kq a (b++[y]),← Kq (a++[x]) b]
 simp[Ws h]
theorem ZL (x:Int) (a b:List Int):AJ (x::a) b≤AJ a b+1:=by
 rw[AJ]
 cases e:Zx x b with
 |none=>simp
 |some b'=>
  obtain⟨b0,rfl,_⟩:=N9 e
  have:AJ a b'≤AJ a (b0++x::b'):=Ov (List.Sublist.refl _) ((List.sublist_cons_self x b').trans (List.sublist_append_right _ _))
  simp only
  omega
theorem aX (x:Int) (a b:List Int):AJ (a++[x]) b≤AJ a b+1:=by
 rw[← Kq,← Kq a b]
 simpa using ZL x a.reverse b.reverse
@[simp] theorem Age (a:List Int):AJ a []=0:=by have:=(Jk a []).2;simpa using this
@[simp] theorem AbL (b:List Int):AJ [] b=0:=rfl
theorem Lq:∀ (a u v w:List Int),AJ a (u++(v++w))+AJ a v≤AJ a (u++v)+AJ a (v++w)
 |[],u,v,w=>by simp
 |x::a,u,v,w=>by
  have m1:∀ p q:List Int,AJ a q≤AJ a (p++q):=fun p q=>Ov (List.Sublist.refl _) (List.sublist_append_right _ _)
  have up:∀ q:List Int,AJ a q≤AJ (x::a) q:=fun q=>by rw[AJ];omega
  have tk:∀ q0 q':List Int,x ∉ q0→AJ a q'+1≤AJ (x::a) (q0++x::q'):=fun q0 q' h=>by rw[AJ,YM h];simp;omega
  have tk':∀ q0 q':List Int,AJ a q'+1≤AJ (x::a) (q0++x::q'):=fun q0 q'=>by
   have:=KY x a q'
   have h2:AJ (x::a) (x::q')≤AJ (x::a) (q0++x::q'):=Ov (List.Sublist.refl _) (List.sublist_append_right _ _)
   omega
  -- what the two of the left take
  have c1:AJ (x::a) (u++(v++w))=AJ a (u++(v++w))∨∃ q0 q',u++(v++w)=q0++x::q'∧x ∉ q0∧AJ (x::a) (u++(v++w))=AJ a q'+1:=by
   rw[AJ]
   cases e:Zx x (u++(v++w)) with
   |none=>left;simp
   |some q'=>
    obtain⟨q0,h1,h2⟩:=N9 e
    simp only
    by_cases hle:AJ a (u++(v++w))≤AJ a q'+1
    ·right;exact⟨q0,q',h1,h2,by omega⟩
    ·left;omega
  have c2:AJ (x::a) v=AJ a v∨∃ v0 v',v=v0++x::v'∧x ∉ v0∧AJ (x::a) v=AJ a v'+1:=by
   rw[AJ]
   cases e:Zx x v with
   |none=>left;simp
   |some q'=>
    obtain⟨q0,h1,h2⟩:=N9 e
    simp only
    by_cases hle:AJ a v≤AJ a q'+1
    ·right;exact⟨q0,q',h1,h2,by omega⟩
    ·left;omega
  rcases c1 with e1 | ⟨q0,q',h1,hn,e1⟩
  ·rcases c2 with e2 | ⟨v0,v',rfl,hv,e2⟩
   ·have:=Lq a u v w
    have:=up (u++v)
    have:=up (v++w)
    omega
   ·have h:=Lq a (u++(v0++[x])) v' w
    have g1:=up (u++(v0++x::v'))
    have g2:=tk v0 (v'++w) hv
    simp at h g1 g2 e1 e2 ⊢
    omega
  ·-- where the first x stands
   rcases List.append_eq_append_iff.1 h1 with ⟨t,ht1,ht2⟩ | ⟨t,ht1,ht2⟩
   ·-- q0=u++t,v++w=t++x::q'
    subst ht1
    have hnu:x ∉ u:=fun h=>hn (by simp[h])
    have hnt:x ∉ t:=fun h=>hn (by simp[h])
    rcases List.append_eq_append_iff.1 ht2 with ⟨t2,hs1,hs2⟩ | ⟨t2,hs1,hs2⟩
    ·-- t=v++t2: x stands in w
     subst hs1
     have hnv:x ∉ v:=fun h=>hnt (by simp[h])
     have e2:AJ (x::a) v=AJ a v:=by
      rcases c2 with e2 | ⟨v0,v',rfl,_,_⟩
      ·exact e2
      ·exact absurd (by simp) hnv
     have g1:=tk (v++t2) q' hnt
     have g2:=up (u++v)
     have g3:=m1 u v
     rw[ht2] at e1 ⊢
     omega
    ·-- v=t++t2,x::q'=t2++w
     subst hs1
     cases t2 with
     |nil=>
      simp at hs2
      subst hs2
      have e2:AJ (x::a) t=AJ a t:=by
       rcases c2 with e2 | ⟨v0,v',hv,_,_⟩
       ·simpa using e2
       ·exact absurd (by simp at hv;simp[hv]) hnt
      have g1:=tk t q' hnt
      have g2:=up (u++t)
      have g3:=m1 u t
      simp at e1 e2 g1 g2 g3 ⊢
      omega
     |cons y v'=>
      simp at hs2
      obtain⟨rfl,rfl⟩:=hs2
      have g1:=tk t (v'++w) hnt
      have e2:AJ (x::a) (t++x::v')≤max (AJ a (t++x::v')) (AJ a v'+1):=by rw[AJ,YM hnt];simp
      have g2:=up (u++(t++x::v'))
      have g3:=m1 u (t++x::v')
      have g4:=tk' (u++t) v'
      simp at e1 e2 g1 g2 g3 g4 ⊢
      omega
   ·-- u=q0++t,x::q'=t++(v++w)
    cases t with
    |nil=>
     simp at ht2 ht1
     subst ht1
     -- x heads v++w
     cases v with
     |nil=>
      simp at ht2
      have g1:=tk [] q' (by simp)
      have g0:=up u
      simp at g1 e1 ⊢
      rw[← ht2] at e1 ⊢
      rw[e1]
      omega
     |cons y v'=>
      simp at ht2
      obtain⟨rfl,rfl⟩:=ht2
      have g1:=tk [] (v'++w) (by simp)
      have e2:=KY x a v'
      have g4:=tk' u v'
      simp at e1 g1 g4 ⊢
      omega
    |cons y u'=>
     simp at ht2
     obtain⟨rfl,rfl⟩:=ht2
     subst ht1
     rcases c2 with e2 | ⟨v0,v',rfl,hv,e2⟩
     ·have h:=Lq a u' v w
      have g1:=tk q0 (u'++v) hn
      have g2:=up (v++w)
      simp at e1 e2 g1 g2 h ⊢
      omega
     ·have h:=Lq a (u'++(v0++[x])) v' w
      have g1:=tk q0 (u'++(v0++x::v')) hn
      have g2:=tk v0 (v'++w) hv
      simp at e1 e2 g1 g2 h ⊢
      omega
def sg (l:List Int) (p q:Nat):List Int:=(l.take q).drop p
def Hi (a b:List Int) (i h j k:Nat):Nat:=AJ (sg a i h) (sg b j k)
theorem KW (l:List Int) (p q:Nat) (h:q≤l.length):(sg l p q).length=q-p:=by simp[sg];omega
theorem Qn {l:List Int} {p k q:Nat} (h1:p≤k) (h2:k≤q):sg l p q=sg l p k++sg l k q:=by
 unfold sg
 have e:(l.take q).drop p=((l.take q).drop p).take (k-p)++((l.take q).drop p).drop (k-p):=(List.take_append_drop _ _).symm
 rw[e,List.drop_drop,List.take_drop,List.take_take]
 congr 3<;>first | omega | skip
theorem Yo (l:List Int) (q:Nat):sg l 0 q=l.take q:=by simp[sg]
theorem mS (l:List Int) (p:Nat):sg l p l.length=l.drop p:=by simp[sg]
theorem yn (l:List Int) (p:Nat):sg l p p=[]:=by simp[sg]
theorem TR {l:List Int} {n p q:Nat} (h:q≤n):sg (l.take n) p q=sg l p q:=by
 unfold sg;rw[List.take_take];congr 2;omega
theorem TM {l:List Int} {n p q:Nat}:sg (l.drop n) p q=sg l (n+p) (n+q):=by
 unfold sg;rw[List.take_drop,List.drop_drop]
theorem F6 {a b:List Int} {i h t j k q:Nat} (h1:i≤h) (h2:h≤t) (h3:j≤k) (h4:k≤q):Hi a b i h j k+Hi a b h t k q≤Hi a b i t j q:=by
 unfold Hi
 rw[Qn h1 h2,Qn h3 h4]
 exact ik _ _ _ _
theorem Jy (a b:List Int) {i h t j q:Nat} (h1:i≤h) (h2:h≤t) (h3:j≤q) (h4:q≤b.length):∃ k,j≤k∧k≤q∧Hi a b i h j k+Hi a b h t k q=Hi a b i t j q:=by
 unfold Hi
 rw[Qn h1 h2]
 obtain⟨b1,b2,e,hs⟩:=kR (sg a i h) (sg a h t) (sg b j q)
 have hl:=KW b j q h4
 rw[e] at hl
 simp at hl
 refine⟨j+b1.length,by omega,by omega,?_⟩
 have e2:=Qn (l:=b) (p:=j) (k:=j+b1.length) (q:=q) (by omega) (by omega)
 rw[e] at e2
 obtain⟨g1,g2⟩:=List.append_inj e2 (by rw[KW _ _ _ (by omega)];omega)
 rw[← g1,← g2,← hs]
theorem XI (a b:List Int) (i h:Nat) {p p' q q':Nat} (h1:p≤p') (h2:p'≤q) (h3:q≤q'):Hi a b i h p q'+Hi a b i h p' q≤Hi a b i h p q+Hi a b i h p' q':=by
 unfold Hi
 rw[Qn (l:=b) h1 (by omega:p'≤q'),Qn (l:=b) h2 h3,Qn (l:=b) h1 h2]
 exact Lq _ _ _ _
def bQ (p:Nat→Bool):Nat→Nat→Nat
 |0,j=>j
 |f+1,j=>if p j=true then j else bQ p f (j+1)
theorem Yp {p:Nat→Bool}:∀ {f j k:Nat},j≤k→k≤j+f→p k=true→p (bQ p f j)=true∧j≤bQ p f j∧bQ p f j≤k
 |0,j,k,h1,h2,h=>by
  have:k=j:=by omega
  subst this
  exact⟨h,by simp[bQ],by simp[bQ]⟩
 |f+1,j,k,h1,h2,h=>by
  unfold bQ
  by_cases e:p j=true
  ·simp[e,h1]
  ·rw[if_neg e]
   have hne:j ≠ k:=fun h'=>by rw[h'] at e;exact e h
   have:=Yp (f:=f) (j:=j+1) (k:=k) (by omega) (by omega) h
   exact⟨this.1,by omega,this.2.2⟩
def RE (a b:List Int) (i j:Nat):Bool:=decide (Hi a b 0 i 0 j+Hi a b i a.length j b.length=AJ a b)
def Cy (a b:List Int) (i:Nat):Nat:=bQ (RE a b i) b.length 0
theorem gC (a b:List Int):Hi a b 0 a.length 0 b.length=AJ a b:=by simp[Hi,sg]
theorem NX {a b:List Int} {i j:Nat} (hi:i≤a.length) (hj:j≤b.length):Hi a b 0 i 0 j+Hi a b i a.length j b.length≤AJ a b:=by
 rw[← gC]
 exact F6 (by omega) hi (by omega) hj
theorem IB {a b:List Int} {i:Nat} (hi:i≤a.length):RE a b i (Cy a b i)=true∧Cy a b i≤b.length∧∀ j,j≤b.length→RE a b i j=true→Cy a b i≤j:=by
 obtain⟨k,h1,h2,h3⟩:=Jy a b (i:=0) (h:=i) (t:=a.length) (j:=0) (q:=b.length) (by omega) hi (by omega) (by omega)
 rw[gC] at h3
 have:=Yp (p:=RE a b i) (f:=b.length) (j:=0) (k:=k) (by omega) (by omega) (by simpa[RE] using h3)
 refine⟨this.1,by unfold Cy;omega,fun j hj h=>?_⟩
 exact(Yp (p:=RE a b i) (f:=b.length) (j:=0) (k:=j) (by omega) (by omega) h).2.2
theorem RV {a b:List Int} {i k:Nat} (hi:i≤a.length) (hk:k≤b.length) (h1:RE a b i k=true) (h2:∀ j,j<k→RE a b i j=false):Cy a b i=k:=by
 obtain⟨g1,g2,g3⟩:=IB (a:=a) (b:=b) hi
 have:=g3 k hk h1
 by_cases e:Cy a b i<k
 ·have:=h2 _ e;rw[g1] at this;cases this
 ·omega
theorem Vy (a b:List Int):Cy a b 0=0:=RV (by omega) (by omega) (by simp[RE,Hi,sg]) (by omega)
theorem VT {a b:List Int} {i h:Nat} (hih:i≤h) (hh:h≤a.length):Cy a b i≤Cy a b h:=by
 obtain⟨g1,g2,g3⟩:=IB (a:=a) (b:=b) hh
 obtain⟨k,h1,h2,h3⟩:=Jy a b (i:=0) (h:=i) (t:=h) (j:=0) (q:=Cy a b h) (by omega) hih (by omega) g2
 have h4:=F6 (a:=a) (b:=b) (i:=i) (h:=h) (t:=a.length) (j:=k) (k:=Cy a b h) (q:=b.length) hih hh h2 g2
 have h5:=NX (a:=a) (b:=b) (i:=i) (j:=k) (by omega) (by omega)
 have hg:=g1
 unfold RE at hg
 simp only[decide_eq_true_eq] at hg
 have:=(IB (a:=a) (b:=b) (i:=i) (by omega)).2.2 k (by omega) (by unfold RE;simp only[decide_eq_true_eq];omega)
 omega
theorem Yv {a b:List Int} {i h:Nat} (hih:i≤h) (hh:h≤a.length):Cy (a.take h) (b.take (Cy a b h)) i=Cy a b i:=by
 obtain⟨g1,g2,g3⟩:=IB (a:=a) (b:=b) hh
 obtain⟨f1,f2,f3⟩:=IB (a:=a) (b:=b) (i:=i) (by omega)
 have hm:=VT (a:=a) (b:=b) hih hh
 generalize hJ:Cy a b h=J at *
 generalize hj:Cy a b i=j at *
 have la:(a.take h).length=h:=by simp;omega
 have lb:(b.take J).length=J:=by simp;omega
 have e0:AJ (a.take h) (b.take J)=Hi a b 0 h 0 J:=by simp[Hi,Yo]
 have e1:∀ k,k≤J→RE (a.take h) (b.take J) i k=decide (Hi a b 0 i 0 k+Hi a b i h k J=Hi a b 0 h 0 J):=fun k hk=>by
  unfold RE
  rw[e0,la,lb]
  unfold Hi
  rw[TR hih,TR hk,TR (Cc _),TR (Cc _)]
 unfold RE at g1 f1
 simp only[decide_eq_true_eq] at g1 f1
 refine RV (by omega) (by omega) ?_ fun k hk=>?_
 ·rw[e1 j hm,decide_eq_true_eq]
  -- the way through (i,j) comes to row h at k
  obtain⟨k,h1,h2,h3⟩:=Jy a b (i:=i) (h:=h) (t:=a.length) (j:=j) (q:=b.length) hih hh f2 (by omega)
  have h4:=F6 (a:=a) (b:=b) (i:=0) (h:=i) (t:=h) (j:=0) (k:=j) (q:=k) (by omega) hih (by omega) h1
  have h5:=NX (a:=a) (b:=b) (i:=h) (j:=k) hh h2
  have hJk:J≤k:=g3 k h2 (by unfold RE;simp only[decide_eq_true_eq];omega)
  obtain⟨k2,i1,i2,i3⟩:=Jy a b (i:=0) (h:=i) (t:=h) (j:=0) (q:=J) (by omega) hih (by omega) g2
  have i4:=F6 (a:=a) (b:=b) (i:=i) (h:=h) (t:=a.length) (j:=k2) (k:=J) (q:=b.length) hih hh i2 g2
  have i5:=NX (a:=a) (b:=b) (i:=i) (j:=k2) (by omega) (by omega)
  have hjk2:j≤k2:=f3 k2 (by omega) (by unfold RE;simp only[decide_eq_true_eq];omega)
  have m:=XI a b i h (p:=j) (p':=k2) (q:=J) (q':=k) hjk2 i2 hJk
  have t1:=F6 (a:=a) (b:=b) (i:=0) (h:=i) (t:=h) (j:=0) (k:=j) (q:=J) (by omega) hih (by omega) hm
  have t2:=F6 (a:=a) (b:=b) (i:=i) (h:=h) (t:=a.length) (j:=k2) (k:=k) (q:=b.length) hih hh (by omega) h2
  omega
 ·rw[e1 k (by omega),decide_eq_false_iff_not]
  intro e
  have h4:=F6 (a:=a) (b:=b) (i:=i) (h:=h) (t:=a.length) (j:=k) (k:=J) (q:=b.length) hih hh (by omega) g2
  have h5:=NX (a:=a) (b:=b) (i:=i) (j:=k) (by omega) (by omega)
  have:=f3 k (by omega) (by unfold RE;simp only[decide_eq_true_eq];omega)
  omega
theorem YO {a b:List Int} {i h:Nat} (hh:h+i≤a.length):Cy (a.drop h) (b.drop (Cy a b h)) i+Cy a b h=Cy a b (h+i):=by
 obtain⟨g1,g2,g3⟩:=IB (a:=a) (b:=b) (i:=h) (by omega)
 obtain⟨f1,f2,f3⟩:=IB (a:=a) (b:=b) (i:=h+i) hh
 have hm:=VT (a:=a) (b:=b) (i:=h) (h:=h+i) (by omega) hh
 generalize hJ:Cy a b h=J at *
 generalize hj:Cy a b (h+i)=j at *
 have la:h+(a.drop h).length=a.length:=by simp;omega
 have lb:J+(b.drop J).length=b.length:=by simp;omega
 have e0:AJ (a.drop h) (b.drop J)=Hi a b h a.length J b.length:=by simp[Hi,mS]
 have e1:∀ k,RE (a.drop h) (b.drop J) i k=decide (Hi a b h (h+i) J (J+k)+Hi a b (h+i) a.length (J+k) b.length=Hi a b h a.length J b.length):=fun k=>by
  unfold RE
  rw[e0]
  unfold Hi
  rw[TM,TM,TM,TM,la,lb,Nat.add_zero,Nat.add_zero]
 unfold RE at g1 f1
 simp only[decide_eq_true_eq] at g1 f1
 suffices hw:Cy (a.drop h) (b.drop J) i=j-J by omega
 refine RV (by omega) (by omega) ?_ fun k hk=>?_
 ·rw[e1,decide_eq_true_eq,show J+(j-J)=j by omega]
  -- the way through (h+i,j) comes from row h at k
  obtain⟨k,h1,h2,h3⟩:=Jy a b (i:=0) (h:=h) (t:=h+i) (j:=0) (q:=j) (by omega) (by omega) (by omega) f2
  have h4:=F6 (a:=a) (b:=b) (i:=h) (h:=h+i) (t:=a.length) (j:=k) (k:=j) (q:=b.length) (by omega) hh h2 f2
  have h5:=NX (a:=a) (b:=b) (i:=h) (j:=k) (by omega) (by omega)
  have hJk:J≤k:=g3 k (by omega) (by unfold RE;simp only[decide_eq_true_eq];omega)
  obtain⟨k2,i1,i2,i3⟩:=Jy a b (i:=h) (h:=h+i) (t:=a.length) (j:=J) (q:=b.length) (by omega) hh g2 (by omega)
  have i4:=F6 (a:=a) (b:=b) (i:=0) (h:=h) (t:=h+i) (j:=0) (k:=J) (q:=k2) (by omega) (by omega) (by omega) i1
  have i5:=NX (a:=a) (b:=b) (i:=h+i) (j:=k2) hh i2
  have hjk2:j≤k2:=f3 k2 (by omega) (by unfold RE;simp only[decide_eq_true_eq];omega)
  have m:=XI a b h (h+i) (p:=J) (p':=k) (q:=j) (q':=k2) hJk h2 hjk2
  have t1:=F6 (a:=a) (b:=b) (i:=h) (h:=h+i) (t:=a.length) (j:=J) (k:=j) (q:=b.length) (by omega) hh hm f2
  have t2:=F6 (a:=a) (b:=b) (i:=0) (h:=h) (t:=h+i) (j:=0) (k:=k) (q:=k2) (by omega) (by omega) (by omega) (by omega)
  omega
 ·rw[e1,decide_eq_false_iff_not]
  intro e
  have h4:=F6 (a:=a) (b:=b) (i:=0) (h:=h) (t:=h+i) (j:=0) (k:=J) (q:=J+k) (by omega) (by omega) (by omega) (by omega)
  have h5:=NX (a:=a) (b:=b) (i:=h+i) (j:=J+k) hh (by omega)
  have:=f3 (J+k) (by omega) (by unfold RE;simp only[decide_eq_true_eq];omega)
  omega
structure Sp where
 k:Nat
 n:Nat
 deriving DecidableEq
def Sp.ok (s:Sp):Prop:=s.k≤2∧1≤s.n∧s.n≤1048576
def Sp.may (s:Sp):Prop:=s.k≤2∧s.n≤1048576
def A6 (l:List Sp):List Nat:=l.flatMap fun s=>replicate s.n s.k
@[simp] theorem Gp:A6 []=[]:=rfl
@[simp] theorem AP (s:Sp) (l:List Sp):A6 (s::l)=replicate s.n s.k++A6 l:=rfl
@[simp] theorem RL (l m:List Sp):A6 (l++m)=A6 l++A6 m:=by simp[A6]
def fl (k n:Nat):List Sp:=if n=0 then [] else [⟨k,n⟩]
@[simp] theorem Agy (k:Nat):fl k 0=[]:=rfl
theorem Vm {k n:Nat} (h:0<n):fl k n=[⟨k,n⟩]:=by unfold fl;rw[if_neg (by omega)]
@[simp] theorem ZC (k n:Nat):A6 (fl k n)=replicate n k:=by
 unfold fl
 split
 ·rename_i h;simp[h]
 ·simp[A6]
theorem Uh {k n:Nat} (hk:k≤2) (hn:n≤1048576):∀ s,s ∈ fl k n→s.ok:=by
 intro s hs
 unfold fl at hs
 split at hs
 ·simp at hs
 ·simp at hs;subst hs;exact⟨hk,by simp;omega,hn⟩
def RD:List Nat→Nat→Nat→Nat→List Sp
 |[],k,d,i=>fl 0 k++(fl 1 d++fl 2 i)
 |x::us,k,d,i=>if x=0 then fl 1 d++(fl 2 i++RD us (k+1) 0 0) else fl 0 k++(if x=1 then RD us 0 (d+1) i else RD us 0 d (i+1))
def Kf (us:List Nat):List Sp:=RD us 0 0 0
theorem cu:∀ (n:Nat) (us:List Nat) (k d i:Nat),0<n→(d=0∧i=0∨k=0)→RD (replicate n 0++us) k d i=fl 1 d++(fl 2 i++RD us (k+n) 0 0)
 |n+1,us,k,d,i,_,h=>by
  rw[List.replicate_succ,List.cons_append,RD,if_pos rfl]
  cases n with
  |zero=>simp
  |succ n=>
   rw[cu (n+1) us (k+1) 0 0 (by omega) (.inl ⟨rfl,rfl⟩)]
   simp
   rw[show k+1+(n+1)=k+(n+1+1) by omega]
theorem XT:∀ (n:Nat) (us:List Nat) (k d i:Nat),0<n→RD (replicate n 1++us) k d i=fl 0 k++RD us 0 (d+n) i
 |n+1,us,k,d,i,_=>by
  rw[List.replicate_succ,List.cons_append,RD,if_neg (by decide),if_pos rfl]
  cases n with
  |zero=>simp
  |succ n=>
   rw[XT (n+1) us 0 (d+1) i (by omega)]
   simp
   rw[show d+1+(n+1)=d+(n+1+1) by omega]
theorem TP:∀ (n:Nat) (us:List Nat) (k d i:Nat),0<n→RD (replicate n 2++us) k d i=fl 0 k++RD us 0 d (i+n)
 |n+1,us,k,d,i,_=>by
  rw[List.replicate_succ,List.cons_append,RD,if_neg (by decide),if_neg (by decide)]
  cases n with
  |zero=>simp
  |succ n=>
   rw[TP (n+1) us 0 d (i+1) (by omega)]
   simp
   rw[show i+1+(n+1)=i+(n+1+1) by omega]
def OK (p q:Nat):List Nat:=if p<q then replicate (q-p-1) 2++[0] else [1]
def Hk (a b:List Int):List Nat:=(List.range a.length).flatMap (fun i=>OK (Cy a b i) (Cy a b (i+1)))++replicate (b.length-Cy a b a.length) 2
theorem Q7 {α:Type} (f:Nat→List α) (m n:Nat):(List.range (m+n)).flatMap f=(List.range m).flatMap f++(List.range n).flatMap (fun i=>f (m+i)):=by
 rw[List.range_add,List.flatMap_append,List.flatMap_map]
theorem FM {α:Type} {f g:Nat→List α} {n:Nat} (h:∀ i,i<n→f i=g i):(List.range n).flatMap f=(List.range n).flatMap g:=by
 induction n with
 |zero=>rfl
 |succ n ih=>
  rw[List.range_succ,List.flatMap_append,List.flatMap_append,ih fun i hi=>h i (by omega)]
  simp[h n (by omega)]
theorem oU (p q t:Nat):OK (p+t) (q+t)=OK p q:=by
 unfold OK
 by_cases h:p<q
 ·rw[if_pos h,if_pos (by omega),show q+t-(p+t)-1=q-p-1 by omega]
 ·rw[if_neg h,if_neg (by omega)]
theorem j5 (a b:List Int) {h:Nat} (hh:h≤a.length):Hk a b=Hk (a.take h) (b.take (Cy a b h))++Hk (a.drop h) (b.drop (Cy a b h)):=by
 obtain⟨g1,g2,g3⟩:=IB (a:=a) (b:=b) hh
 have la:(a.take h).length=h:=by simp;omega
 have lb:(b.take (Cy a b h)).length=Cy a b h:=by simp;omega
 have ld:(a.drop h).length=a.length-h:=by simp
 have le:(b.drop (Cy a b h)).length=b.length-Cy a b h:=by simp
 have e1:Hk (a.take h) (b.take (Cy a b h))=(List.range h).flatMap fun i=>OK (Cy a b i) (Cy a b (i+1)):=by
  unfold Hk
  rw[la,lb,Yv (Cc _) hh,Nat.sub_self,List.replicate_zero,List.append_nil]
  exact FM fun i hi=>by rw[Yv (by omega) hh,Yv (by omega) hh]
 have e2:Hk (a.drop h) (b.drop (Cy a b h))=(List.range (a.length-h)).flatMap (fun i=>OK (Cy a b (h+i)) (Cy a b (h+i+1)))++replicate (b.length-Cy a b a.length) 2:=by
  unfold Hk
  rw[ld,le]
  have hw:=YO (a:=a) (b:=b) (h:=h) (i:=a.length-h) (by omega)
  rw[show h+(a.length-h)=a.length by omega] at hw
  congr 1
  ·refine FM fun i hi=>?_
   have w1:=YO (a:=a) (b:=b) (h:=h) (i:=i) (by omega)
   have w2:=YO (a:=a) (b:=b) (h:=h) (i:=i+1) (by omega)
   rw[← oU _ _ (Cy a b h),w1,w2]
   rfl
  ·congr 1;omega
 rw[e1,e2,← List.append_assoc]
 unfold Hk
 congr 1
 have:=Q7 (fun i=>OK (Cy a b i) (Cy a b (i+1))) h (a.length-h)
 rw[show h+(a.length-h)=a.length by omega] at this
 exact this
theorem pj (b:List Int):Hk [] b=replicate b.length 2:=by
 unfold Hk
 simp[Vy]
theorem kM (a:List Int):Hk a []=replicate a.length 1:=by
 have h:∀ i,i≤a.length→Cy a [] i=0:=fun i hi=>by have:=(IB (a:=a) (b:=[]) hi).2.1;simpa using this
 unfold Hk
 rw[h _ (Cc _)]
 simp
 rw[FM (g:=fun _=>[1]) fun i hi=>by rw[h i (by omega),h (i+1) (by omega)];rfl]
 generalize a.length=n
 induction n with
 |zero=>rfl
 |succ n ih=>rw[List.range_succ,List.flatMap_append,ih,List.replicate_succ'];simp
def Fm (x:Int):List Int→Nat
 |[]=>0
 |y::b=>if x=y then 0 else Fm x b+1
theorem TS (x:Int):∀ b,Fm x b≤b.length
 |[]=>by simp[Fm]
 |y::b=>by
  have:=TS x b
  unfold Fm
  split<;>simp<;>omega
theorem X1 (x:Int):∀ {b},(h:Fm x b<b.length)→b[Fm x b]=x
 |[],h=>by simp[Fm] at h
 |y::b,h=>by
  unfold Fm at h
  by_cases e:x=y
  ·simp[Fm,e]
  ·rw[if_neg e] at h
   simp only[Fm,if_neg e,List.getElem_cons_succ]
   exact X1 x (by simpa using h)
theorem UI (x:Int):∀ {b:List Int} {j:Nat},j≤Fm x b→x ∉ b.take j
 |[],j,h=>by simp
 |y::b,0,h=>by simp
 |y::b,j+1,h=>by
  unfold Fm at h
  by_cases e:x=y
  ·rw[if_pos e] at h;omega
  ·rw[if_neg e] at h
   simp[e,UI x (b:=b) (j:=j) (by omega)]
theorem g9 (x:Int) (b:List Int):AJ [x] b=if x ∈ b then 1 else 0:=by
 unfold AJ
 cases e:Zx x b with
 |none=>simp[Zz e]
 |some b'=>
  obtain⟨b0,rfl,_⟩:=N9 e
  simp
theorem iR (x:Int) (b:List Int):Cy [x] b 1=if Fm x b<b.length then Fm x b+1 else 0:=by
 have on:∀ j,RE [x] b 1 j=decide ((if x ∈ b.take j then 1 else 0)=if x ∈ b then 1 else 0):=fun j=>by
  unfold RE Hi
  rw[g9]
  simp[Yo,yn,g9,sg]
 have hle:=TS x b
 by_cases h:Fm x b<b.length
 ·rw[if_pos h]
  have hx:x ∈ b:=by rw[← X1 x h];exact BI h
  refine RV (by simp) (by omega) ?_ fun j hj=>?_
  ·rw[on,if_pos hx,if_pos ?_]
   ·rfl
   ·rw[Hj h,X1 x h];simp
  ·rw[on,if_pos hx,if_neg (UI x (by omega))]
   rfl
 ·rw[if_neg h]
  refine RV (by simp) (by omega) ?_ fun j hj=>by omega
  rw[on,if_neg (by simp),if_neg ?_]
  ·rfl
  ·have:=UI x (b:=b) (j:=b.length) (by omega)
   rwa [Bb (Cc _)] at this
theorem pP (x:Int) (b:List Int):Hk [x] b=if Fm x b<b.length then replicate (Fm x b) 2++(0::replicate (b.length-Fm x b-1) 2) else 1::replicate b.length 2:=by
 unfold Hk
 have:(List.range [x].length)=[0]:=rfl
 rw[this,show [x].length=1 from rfl,iR]
 simp only[List.flatMap_cons,List.flatMap_nil,List.append_nil,Vy,Nat.zero_add]
 rw[iR]
 split
 ·unfold OK
  rw[if_pos (by omega),show Fm x b+1-0-1=Fm x b by omega,show b.length-(Fm x b+1)=b.length-Fm x b-1 by omega]
  simp
 ·simp[OK]
def Dq (a b:List Int) (i j:Nat):Nat:=i+j-2*AJ (a.take i) (b.take j)
theorem Jx (a b:List Int) (i j:Nat):AJ (a.take i) (b.take j)≤i∧AJ (a.take i) (b.take j)≤j:=by
 have h:=Jk (a.take i) (b.take j)
 simp at h
 omega
theorem Ug (a b:List Int) (i j:Nat):i≤j+Dq a b i j∧j≤i+Dq a b i j:=by
 have h:=Jx a b i j
 unfold Dq
 omega
theorem O7 {l:List Int} {i:Nat} (h:l.length≤i):l.take (i+1)=l.take i:=by
 rw[Bb (by omega),Bb h]
theorem UY {a b:List Int} {i j:Nat} (h:¬ ∃ (h1:i<a.length) (h2:j<b.length),a[i]=b[j]):Dq a b (i+1) (j+1)=Dq a b i (j+1)+1∨Dq a b (i+1) (j+1)=Dq a b (i+1) j+1:=by
 have g1:=Jx a b i (j+1)
 have g2:=Jx a b (i+1) j
 have g3:=Jx a b (i+1) (j+1)
 unfold Dq
 by_cases h1:i<a.length
 ·by_cases h2:j<b.length
  ·have hne:a[i] ≠ b[j]:=fun e=>h ⟨h1,h2,e⟩
   have e:=O8 hne (a.take i) (b.take j)
   rw[← Hj h1,← Hj h2] at e
   omega
  ·rw[O7 (l:=b) (by omega)] at *
   omega
 ·rw[O7 (l:=a) (by omega)] at *
  omega
theorem Qa {a b:List Int} {i j:Nat} (h1:i<a.length) (h2:j<b.length) (h:a[i]=b[j]):Dq a b (i+1) (j+1)=Dq a b i j:=by
 have g:=Jx a b i j
 unfold Dq
 rw[Hj h1,Hj h2,h,Pp]
 omega
theorem jW (a b:List Int) (i j:Nat):Dq a b (i+1) j≤Dq a b i j+1:=by
 have:AJ (a.take i) (b.take j)≤AJ (a.take (i+1)) (b.take j):=Ov (List.take_sublist_take_left (by omega)) (List.Sublist.refl _)
 unfold Dq
 omega
theorem kg (a b:List Int) (i j:Nat):Dq a b i (j+1)≤Dq a b i j+1:=by
 have:AJ (a.take i) (b.take j)≤AJ (a.take i) (b.take (j+1)):=Ov (List.Sublist.refl _) (List.take_sublist_take_left (by omega))
 unfold Dq
 omega
def CB (a b:List Int):Nat:=a.length+b.length-2*AJ a b
theorem rO (a b:List Int):Dq a b a.length b.length=CB a b:=by simp[Dq,CB]
theorem su {a b:List Int} {i j:Nat} (h1:a.length≤i) (h2:b.length≤j):CB a b≤Dq a b i j:=by
 unfold Dq CB
 rw[Bb h1,Bb h2]
 omega
structure Qe (a b:List Int) (c d p x:Nat):Prop where
 on:p≤x+c
 may:Dq a b x (x+c-p)≤d
 most:∀ i j,i+c=j+p→Dq a b i j≤d→i≤x
structure Yy (a b:List Int) (c d p x:Nat):Prop where
 on:p≤x+c
 may:Dq a b x (x+c-p)≤d
 most:∀ i j,i+c=j+p→Dq a b i j≤d→i≤x∨∃ i' j',i=i'+1∧j=j'+1∧(∃ (h1:i'<a.length) (h2:j'<b.length),a[i']=b[j'])∧Dq a b i' j'≤d
theorem qu (a b:List Int) (c:Nat):Yy a b c 0 c 0:=by
 refine⟨by omega,by simp[Dq],fun i j h hm=>?_⟩
 have:i=j:=by omega
 subst this
 cases i with
 |zero=>exact .inl (by omega)
 |succ i=>
  right
  refine⟨i,i,rfl,rfl,?_⟩
  by_cases hs:∃ (h1:i<a.length) (h2:i<b.length),a[i]=b[i]
  ·obtain⟨h1,h2,e⟩:=hs
   rw[Qa h1 h2 e] at hm
   exact⟨⟨h1,h2,e⟩,hm⟩
  ·have:=UY hs
   omega
theorem QQ {a b:List Int} {c d p x:Nat} (hc:d+1≤c) (hp1:c≤p+(d+1)) (hp2:p≤c+(d+1)) (hp0:1≤p) {y z:Nat} (hy:p+(d+1) ≠ c→Qe a b c d (p-1) y) (hz:p ≠ c+(d+1)→Qe a b c d (p+1) z)
  (hx:(p+(d+1) ≠ c∧x=y+1)∨(p ≠ c+(d+1)∧x=z)) (hxy:p+(d+1) ≠ c→y+1≤x) (hxz:p ≠ c+(d+1)→z≤x):Yy a b c (d+1) p x:=by
 have on:p≤x+c∧Dq a b x (x+c-p)≤d+1:=by
  rcases hx with ⟨h,rfl⟩ | ⟨h,rfl⟩
  ·have g:=hy h
   have g1:=g.on
   have g2:=g.may
   have:=jW a b y (y+c-(p-1))
   refine⟨by omega,?_⟩
   rw[show y+1+c-p=y+c-(p-1) by omega]
   omega
  ·have g:=hz h
   have g1:=g.on
   have g2:=g.may
   have:=kg a b x (x+c-(p+1))
   refine⟨by omega,?_⟩
   rw[show x+c-p=x+c-(p+1)+1 by omega]
   omega
 refine⟨on.1,on.2,fun i j h hm=>?_⟩
 cases i with
 |zero=>exact .inl (by omega)
 |succ i=>
  cases j with
  |zero=>exact .inl (by omega)
  |succ j=>
   by_cases hs:∃ (h1:i<a.length) (h2:j<b.length),a[i]=b[j]
   ·obtain⟨h1,h2,e⟩:=hs
    rw[Qa h1 h2 e] at hm
    exact .inr ⟨i,j,rfl,rfl,⟨h1,h2,e⟩,hm⟩
   ·left
    rcases UY hs with e | e
    ·have hd:=Ug a b i (j+1)
     have hne:p+(d+1) ≠ c:=fun h'=>by omega
     have:=(hy hne).most i (j+1) (by omega) (by omega)
     have:=hxy hne
     omega
    ·have hd:=Ug a b (i+1) j
     have hne:p ≠ c+(d+1):=fun h'=>by omega
     have:=(hz hne).most (i+1) j (by omega) (by omega)
     have:=hxz hne
     omega
theorem vV {a b:List Int} {c d p x:Nat} (h:Yy a b c d p x) {y:Nat} (hy:x+c=y+p) (h1:x<a.length) (h2:y<b.length) (e:a[x]=b[y]):Yy a b c d p (x+1):=by
 have hm:=h.may
 rw[show x+c-p=y by omega] at hm
 refine⟨by omega,?_,fun i j hij hc=>?_⟩
 ·rw[show x+1+c-p=y+1 by omega,Qa h1 h2 e]
  exact hm
 ·rcases h.most i j hij hc with k | k
  ·exact .inl (by omega)
  ·exact .inr k
theorem T7 {a b:List Int} {c d p x:Nat} (h:Yy a b c d p x) {y:Nat} (hy:x+c=y+p) (hs:¬ ∃ (h1:x<a.length) (h2:y<b.length),a[x]=b[y]):Qe a b c d p x:=by
 refine⟨h.on,h.may,fun i=>?_⟩
 induction i with
 |zero=>intro j _ _;omega
 |succ i ih=>
  intro j hij hc
  rcases h.most _ _ hij hc with k | ⟨i',j',e1,e2,k,km⟩
  ·exact k
  ·have e1:i=i':=by omega
   subst e1
   have:=ih j' (by omega) km
   by_cases e:i=x
   ·subst e
    have:j'=y:=by omega
    subst this
    exact absurd k hs
   ·omega
theorem pf {a b:List Int} {c d p x y:Nat} (h:Qe a b c d p x) (hy:x+c=y+p) (h1:a.length≤x) (h2:b.length≤y):CB a b≤d:=by
 have:=h.may
 rw[show x+c-p=y by omega] at this
 have:=su (a:=a) (b:=b) h1 h2
 omega
theorem jE {a b:List Int} {c d p x y:Nat} (h:Qe a b c d p x) (hy:x+c=y+p) (hp:a.length+c=b.length+p) (hd:CB a b≤d):a.length≤x∧b.length≤y:=by
 have:=h.most a.length b.length hp (by rw[rO];exact hd)
 omega
theorem XC (a b:List Int):a.length≤b.length+CB a b∧b.length≤a.length+CB a b∧(a.length+b.length+CB a b) % 2=0:=by
 have h:=Jk a b
 unfold CB
 omega
end Go.PL
