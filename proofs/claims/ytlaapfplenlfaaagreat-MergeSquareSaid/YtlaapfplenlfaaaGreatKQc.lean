/-
 Texts,merged,without what is not reached.
-/
import Derived.Test.YtlaapfplenlfaaaGreatKQb
set_option linter.unusedSimpArgs false
set_option linter.unusedVariables false
open Go.IntKind (i64 u64)
namespace Go.Proofs.YtlaapfplenlfaaaGreat
set_option maxRecDepth 20000
open Go Go.G Go.Proofs
@[simp]theorem AlU:DT Tryz.prog 3=some 1:=by kernel_rfl
@[simp]theorem Ak3:DT Tryz.prog 22=some 1:=by kernel_rfl
@[simp]theorem AkT:DT Tryz.prog 23=some 1:=by kernel_rfl
@[simp]theorem Aly:DT Tryz.prog 25=some 3:=by kernel_rfl
@[simp]theorem Alm:D6 Tryz.prog 3=some false:=by kernel_rfl
@[simp]theorem Ake:D6 Tryz.prog 22=some false:=by kernel_rfl
@[simp]theorem Ajs:D6 Tryz.prog 23=some false:=by kernel_rfl
@[simp]theorem AiF:D6 Tryz.prog 25=some true:=by kernel_rfl
@[simp]theorem Ags:BQ Tryz.prog 25=some (Value.agg #[Value.int i64 0,Value.slice none 0 0,Value.slice none 0 0]):=by kernel_rfl
@[simp]theorem AeN:Cc Tryz.prog 25=some 56:=by kernel_rfl
@[simp]theorem wJ:Aj Tryz.prog 25 0=some 0:=by kernel_rfl
@[simp]theorem sr:Aj Tryz.prog 25 1=some 1:=by kernel_rfl
@[simp]theorem tQ:Aj Tryz.prog 25 2=some 2:=by kernel_rfl
@[simp]theorem Aex(ps:List (Nat × A)):Cz Tryz.prog 25 ps=(Dm (fun i=>([(0,1),(1,1),(2,1)]:List (Nat × Nat))[i]?) [iv 0,A.sl true [],A.sl true []] ps).map A.agg:=by kernel_rfl
def CQ:CC:=sQ [mO 78 5,fO 79 25 2 2,lO 80 23 79,bN 81 80 23,bB .lss 82 3 78 81 3] [1,2,5,82] (cD 82 (.skip) (.exit 0)) [1,2,5] (.seq (.block 1 (sR [fO 85 25 2 2,lO 86 23 85,mO 87 5,iO 88 23 86 87,lO 89 25 88,aL 6 25 [1],sT 25 6 89] [1,2,5,6] (sQ [lO 90 25 6,mO 91 1,bQ .sub 92 3 91 1 3,cB 93 11 90 92 25 3,oO 94 (.unOp .not 4 (xT 93))] [1,2,5,6,94] (cD 94 (sR [aB 4 false] [4] (.ret)) (.skip)) [1,2,5,6] (sR [fO 95 25 2 0,lO 96 3 95,bQ .geq 97 3 96 2 3,mO 98 97,fG 99 25 2 0 98 true,lG 100 3 99 98 true,oG 101 (.binOp .leq 3 (xT 100) (nI 7) 3) 98 true,pF 102 98 101,aO 7 102] [1,2,5,6,7] (sR [mO 103 7,fO 104 25 6 0,lO 105 3 104,bQ .eql 106 3 105 10 3,bB .neq 107 4 103 106 4,mO 108 107,fG 109 25 2 0 108 false,lG 110 3 109 108 false,oG 111 (.binOp .eql 3 (xT 110) (nI 9) 3) 108 false,mG 112 111 108 false,fG 113 25 6 0 112 true,lG 114 3 113 112 true,oG 115 (.binOp .neq 3 (xT 114) (nI 1) 3) 112 true,oG 116 (.pick (xT 112) (xT 115) (nB false)) 108 false,pT 117 108 116,mO 118 117,mG 119 7 118 false,mG 120 119 118 false,fG 121 25 2 0 120 true,lG 122 3 121 120 true,oG 123 (.binOp .sub 3 (xT 122) (nI 2) 3) 120 true,fG 124 25 6 1 120 true,lG 125 22 124 120 true,oG 126 (.indexAddr 22 (xT 125) (nI 0)) 120 true,lG 127 61 126 120 true,oG 128 (cL 29 #[(xT 123),(xT 127)] #[3,61]) 120 true,oG 129 (.unOp .not 4 (xT 128)) 120 true,oG 130 (.pick (xT 120) (xT 129) (nB false)) 118 false,pT 131 118 130] [1,2,5,131] (cD 131 (sR [aB 4 false] [4] (.ret)) (.skip))))))) (.keep [1,2,5] (.reg [mO 83 5,bQ .add 84 3 83 1 3,aO 5 84] [1,2,5]))) 
def Kj:CC:=sR [bX 2 25 0 [0],aB 4 false] [1,2] (sQ [fO 8 25 2 0,lO 9 3 8,bQ .eql 10 3 9 0 3] [1,2,10] (cD 10 (sR [fO 11 25 2 1,lO 12 22 11,bN 13 12 22,bQ .eql 14 3 13 0 3,mO 15 14,fG 16 25 2 2 15 true,lG 17 23 16 15 true,oG 18 (bL 17 23) 15 true,oG 19 (.binOp .eql 3 (xT 18) (nI 0) 3) 15 true,pF 20 15 19,aO 4 20] [4] (.ret)) (.skip)) [1,2] (sQ [fO 21 25 2 0,lO 22 3 21,bQ .eql 23 3 22 10 3] [1,2,23] (cD 23 (sR [fO 24 25 2 1,lO 25 22 24,bN 26 25 22,bQ .eql 27 3 26 1 3,mO 28 27,fG 29 25 2 2 28 true,lG 30 23 29 28 true,oG 31 (bL 30 23) 28 true,oG 32 (.binOp .eql 3 (xT 31) (nI 0) 3) 28 true,pF 33 28 32,aO 4 33] [4] (.ret)) (.skip)) [1,2] (sQ [fO 34 25 2 0,lO 35 3 34,bQ .lss 36 3 35 0 3,mO 37 36,fG 38 25 2 0 37 false,lG 39 3 38 37 false,oG 40 (.binOp .gtr 3 (xT 39) (nI 10) 3) 37 false,pT 41 37 40,mO 42 41,mG 43 1 42 false,oG 44 (.binOp .eql 3 (xT 43) (nI 0) 3) 42 false,pT 45 42 44,mO 46 45,fG 47 25 2 1 46 false,lG 48 22 47 46 false,oG 49 (bL 48 22) 46 false,oG 50 (.binOp .geq 3 (xT 49) (nI 65536) 3) 46 false,pT 51 46 50,mO 52 51,fG 53 25 2 0 52 false,lG 54 3 53 52 false,oG 55 (.binOp .eql 3 (xT 54) (nI 1) 3) 52 false,mG 56 55 52 false,fG 57 25 2 2 56 true,lG 58 23 57 56 true,oG 59 (bL 58 23) 56 true,oG 60 (.binOp .geq 3 (xT 59) (nI 65536) 3) 56 true,oG 61 (.pick (xT 56) (xT 60) (nB false)) 52 false,pT 62 52 61,mO 63 62,fG 64 25 2 2 63 false,lG 65 23 64 63 false,oG 66 (bL 65 23) 63 false,oG 67 (.binOp .geq 3 (xT 66) (nI 1048576) 3) 63 false,pT 68 63 67] [1,2,68] (cD 68 (sR [aB 4 false] [4] (.ret)) (.skip)) [1,2] (sQ [fO 69 25 2 0,lO 70 3 69,bQ .gtr 71 3 70 1 3,mO 72 71,fG 73 25 2 1 72 true,lG 74 22 73 72 true,oG 75 (bL 74 22) 72 true,oG 76 (.binOp .gtr 3 (xT 75) (nI 0) 3) 72 true,pF 77 72 76] [1,2,77] (cD 77 (sR [aB 4 false] [4] (.ret)) (.skip)) [1,2] (sQ [aI 5 0] [1,2,5] (.block 0 (.loop CQ)) [] (sR [aB 4 true] [4] (.ret)))))))
theorem QF:BT Tryz.prog 11 132 [(.tmp 4)] Kj:=AA Tryz.func11
def DR:CC:=sQ [mO 20 7,fO 21 25 3 2,lO 22 23 21,bN 23 22 23,bB .lss 24 3 20 23 3,mO 25 24,mG 26 2 25 true,oG 27 (.binOp .geq 3 (xT 26) (nI 0) 3) 25 true,pF 28 25 27] [1,2,3,7,28] (cD 28 (.skip) (.exit 0)) [1,2,3,7] (.seq (.block 1 (.reg [fO 31 25 3 2,lO 32 23 31,mO 33 7,iO 34 23 32 33,lO 35 25 34,mO 36 1,bQ .sub 37 3 36 1 3,mO 38 2,cE 39 28 35 37 38 25 3 3,aO 2 39] [1,2,3,7])) (.reg [mO 29 7,bQ .add 30 3 29 1 3,aO 7 30] [1,2,3,7])) 
def IV:CC:=sR [bX 3 25 0 [0],aI 6 0] [1,2,3] (sR [mO 8 2,bQ .sub 9 3 8 1 3,fO 10 25 3 1,lO 11 22 10,bN 12 11 22,bB .sub 13 3 9 12 3,aO 2 13] [1,2,3] (sQ [mO 14 1,bQ .eql 15 3 14 0 3,mO 16 15,mG 17 2 16 false,oG 18 (.binOp .lss 3 (xT 17) (nI 0) 3) 16 false,pT 19 16 18] [1,2,3,19] (cD 19 (sR [oO 6 (.assign (.const (.int .i64 (-1))))] [6] (.ret)) (.skip)) [1,2,3] (sQ [aI 7 0] [1,2,3,7] (.block 0 (.loop DR)) [2] (sR [mO 40 2,aO 6 40] [6] (.ret)))))
theorem NZ:BT Tryz.prog 28 41 [(.tmp 6)] IV:=AA Tryz.func28
def ES:CC:=sQ [mO 28 5,fO 29 25 2 2,lO 30 23 29,bN 31 30 23,bB .lss 32 3 28 31 3] [2,3,5,32] (cD 32 (.skip) (.exit 0)) [2,3,5] (.seq (.block 1 (sR [fO 35 25 2 2,lO 36 23 35,mO 37 5,iO 38 23 36 37,lO 39 25 38,fO 40 25 3 2,lO 41 23 40,mO 42 5,iO 43 23 41 42,lO 44 25 43,cB 45 16 39 44 25 25,oO 46 (.unOp .not 4 (xT 45))] [2,3,5,46] (cD 46 (sR [aB 4 false] [4] (.ret)) (.skip)))) (.keep [2,3,5] (.reg [mO 33 5,bQ .add 34 3 33 1 3,aO 5 34] [2,3,5]))) 
def KJ:CC:=sR [bX 2 25 0 [0],bX 3 25 1 [1],aB 4 false] [2,3] (sQ [fO 6 25 2 0,lO 7 3 6,fO 8 25 3 0,lO 9 3 8,bB .neq 10 3 7 9 3,mO 11 10,fG 12 25 2 1 11 false,lG 13 22 12 11 false,fG 14 25 3 1 11 false,lG 15 22 14 11 false,oG 16 (cL 38 #[(xT 13),(xT 15)] #[22,22]) 11 false,oG 17 (.unOp .not 4 (xT 16)) 11 false,pT 18 11 17,mO 19 18,fG 20 25 2 2 19 false,lG 21 23 20 19 false,oG 22 (bL 21 23) 19 false,fG 23 25 3 2 19 false,lG 24 23 23 19 false,oG 25 (bL 24 23) 19 false,oG 26 (bO .neq 3 22 25 3) 19 false,pT 27 19 26] [2,3,27] (cD 27 (sR [aB 4 false] [4] (.ret)) (.skip)) [2,3] (sQ [aI 5 0] [2,3,5] (.block 0 (.loop ES)) [] (sR [aB 4 true] [4] (.ret))))
theorem Rn:BT Tryz.prog 16 47 [(.tmp 4)] KJ:=AA Tryz.func16
def JT:CC:=sR [bB .lss 20 3 19 18 3] [1,2,3,17,18,19,20] (.seq (cD 20 (.skip) (.exit 0)) (.keep [1,2,3,17,18,19] (.seq (.block 1 (sR [iO 21 23 17 19,lO 22 25 21,aL 5 25 [3],sT 25 5 22] [1,2,3,5,17,18,19] (.reg [fO 23 25 3 2,lS 24 23 23 1,lO 25 25 5,⟨some 26,(cL 35 #[(xT 25)] #[25]),none,[],3,[1],false⟩,⟨some 27,(.buildSlice 23 1 #[(0,(xT 26))]),none,[],4,[1],false⟩,aP 28 24 27 23 23 [4],fO 29 25 3 2,sT 23 29 28] [1,2,3,17,18,19]))) (.reg [bQ .add 30 3 19 1 3,mO 19 30] [1,2,3,17,18,19]))))
def JM:CC:=sQ [fO 34 25 3 1,lO 35 22 34,bN 36 35 22,bQ .gtr 37 3 36 0 3,mO 38 37,fG 39 25 3 1 38 true,lG 40 22 39 38 true,fG 41 25 3 1 38 true,lG 42 22 41 38 true,oG 43 (bL 42 22) 38 true,oG 44 (.binOp .sub 3 (xT 43) (nI 1) 3) 38 true,oG 45 (iA 22 40 44) 38 true,lG 46 61 45 38 true,oG 47 (.binOp .eql 61 (xT 46) (.const (.int .u64 0)) 61) 38 true,pF 48 38 47] [2,3,48] (cD 48 (.skip) (.exit 2)) [2,3] (.block 3 (.reg [fO 49 25 3 1,lO 50 22 49,fO 51 25 3 1,lO 52 22 51,bN 53 52 22,bQ .sub 54 3 53 1 3,oO 55 (.slice 22 (xT 50) none (some (xT 54)) none),fO 56 25 3 1,sT 22 56 55] [2,3]))
def JL:CC:=sQ [fO 57 25 3 2,lO 58 23 57,bN 59 58 23,bQ .gtr 60 3 59 0 3,mO 61 60,fG 62 25 3 2 61 true,lG 63 23 62 61 true,fG 64 25 3 2 61 true,lG 65 23 64 61 true,oG 66 (bL 65 23) 61 true,oG 67 (.binOp .sub 3 (xT 66) (nI 1) 3) 61 true,oG 68 (iA 23 63 67) 61 true,fG 69 25 68 0 61 true,lG 70 3 69 61 true,oG 71 (.binOp .eql 3 (xT 70) (nI 0) 3) 61 true,pF 72 61 71] [2,3,72] (cD 72 (.skip) (.exit 4)) [2,3] (.block 5 (.reg [fO 73 25 3 2,lO 74 23 73,fO 75 25 3 2,lO 76 23 75,bN 77 76 23,bQ .sub 78 3 77 1 3,oO 79 (.slice 23 (xT 74) none (some (xT 78)) none),fO 80 25 3 2,sT 23 80 79] [2,3])) 
def T9:CC:=sR [bX 1 25 0 [0],aL 2 25 [1]] [1,2] (sQ [fO 6 25 1 0,lO 7 3 6,bQ .eql 8 3 7 0 3] [1,2,8] (cD 8 (sR [oO 9 (.build 25 #[]),sT 25 2 9] [2] (.ret)) (.skip)) [1,2] (sR [fO 10 25 1 0,lS 11 3 10 1,fO 12 25 1 1,lS 13 22 12 3,⟨some 14,(cL 59 #[(xT 13)] #[22]),none,[],4,[1],true⟩,oO 15 (.build 25 #[(0,(xT 11)),(1,(xT 14))]),⟨some 3,(.alloc 25),none,[2],6,[1,3,4],false⟩,sT 25 3 15] [1,2,3] (sQ [fO 16 25 1 2,lO 17 23 16,bN 18 17 23,oO 19 (.move (nI 0))] [1,2,3,17,18,19] (.block 0 (.loop JT)) [1,2,3] (sQ [fO 31 25 1 0,lO 32 3 31,bQ .eql 33 3 32 1 3] [2,3,33] (cD 33 (.seq (.block 2 (.loop JM)) (.keep [2,3] (.block 4 (.loop JL)))) (.skip)) [2,3] (sR [lO 81 25 3,sT 25 2 81] [2] (.ret))))))
theorem gT:BT Tryz.prog 35 82 [(.cell 2 25)] T9:=AA Tryz.func35
end Go.Proofs.YtlaapfplenlfaaaGreat
namespace Go.Proofs.YtlaapfplenlfaaaGreat
open Go Go.G Go.Proofs Go.PL
structure Sg(l:List (List Int)):Prop where
 b:∀x,x∈l->x.length*8<=140737488355328
 w:Wds l
def arO(l:List (List Int))(r:Rf):A:=if r.kind=0 then .v (.pointer none)else arn l
@[simp]theorem Aj0(l:List (List Int))(r:Rf):(arO l r).one=true:=by unfold arO;split<;>rfl
@[simp]theorem AeB(l:List (List Int))(r:Rf):(arO l r).bare1=true:=by unfold arO;split<;>rfl
abbrev paL(l:List (List Int))(r:Rf):List A:=[arO l r,iv r.kind,iv r.s,iv r.at_,iv r.data,iv r.kids,iv r.count,uv r.n]
end Go.Proofs.YtlaapfplenlfaaaGreat
namespace Go.Proofs.YtlaapfplenlfaaaGreat
set_option maxRecDepth 20000
open Go Go.G Go.Proofs
@[simp]theorem Ai4:BQ Tryz.prog 3=some (Value.int i64 0):=by kernel_rfl
@[simp]theorem Afn:Cc Tryz.prog 3=some 8:=by kernel_rfl
@[simp]theorem AkA:DT Tryz.prog 26=some 1:=by kernel_rfl
@[simp]theorem Aks:DT Tryz.prog 27=some 1:=by kernel_rfl
@[simp]theorem Akt:DT Tryz.prog 28=some 1:=by kernel_rfl
@[simp]theorem Akz:DT Tryz.prog 30=some 11:=by kernel_rfl
@[simp]theorem AkE:DT Tryz.prog 85=some 4:=by kernel_rfl
@[simp]theorem Aku:DT Tryz.prog 88=some 12:=by kernel_rfl
@[simp]theorem AkH:DT Tryz.prog 91=some 14:=by kernel_rfl
@[simp]theorem Ajy:D6 Tryz.prog 26=some false:=by kernel_rfl
@[simp]theorem Akj:D6 Tryz.prog 27=some false:=by kernel_rfl
@[simp]theorem Ai2:D6 Tryz.prog 28=some false:=by kernel_rfl
@[simp]theorem AiG:D6 Tryz.prog 30=some true:=by kernel_rfl
@[simp]theorem Aji:D6 Tryz.prog 85=some true:=by kernel_rfl
@[simp]theorem AjY:D6 Tryz.prog 88=some true:=by kernel_rfl
@[simp]theorem AjG:D6 Tryz.prog 91=some true:=by kernel_rfl
@[simp]theorem AhN:BQ Tryz.prog 85=some (Value.agg #[Value.int i64 0,Value.int IntKind.u8 0,Value.int u64 0,Value.int u64 0]):=by kernel_rfl
@[simp]theorem AgD:BQ Tryz.prog 88=some (Value.agg #[Value.int i64 0,Value.int i64 0,Value.int i64 0,Value.slice none 0 0,Value.slice none 0 0,Value.int i64 0,Value.slice none 0 0,Value.slice none 0 0,Value.slice none 0 0,Value.slice none 0 0,Value.int i64 0,Value.slice none 0 0]):=by kernel_rfl
@[simp]theorem Afs:BQ Tryz.prog 91=some (Value.agg #[Value.int i64 0,Value.int i64 0,Value.slice none 0 0,Value.int i64 0,Value.int i64 0,Value.slice none 0 0,Value.slice none 0 0,Value.int i64 0,Value.slice none 0 0,Value.slice none 0 0,Value.slice none 0 0,Value.slice none 0 0,Value.int i64 0,Value.slice none 0 0]):=by kernel_rfl
@[simp]theorem AeO:Cc Tryz.prog 85=some 32:=by kernel_rfl
@[simp]theorem Aec:Cc Tryz.prog 88=some 208:=by kernel_rfl
@[simp]theorem Ad2:Cc Tryz.prog 91=some 240:=by kernel_rfl
@[simp]theorem rY:Aj Tryz.prog 30 0=some 0:=by kernel_rfl
@[simp]theorem tD:Aj Tryz.prog 30 1=some 1:=by kernel_rfl
@[simp]theorem vz:Aj Tryz.prog 30 2=some 4:=by kernel_rfl
@[simp]theorem r8:Aj Tryz.prog 30 3=some 7:=by kernel_rfl
@[simp]theorem td:Aj Tryz.prog 30 4=some 8:=by kernel_rfl
@[simp]theorem tZ:Aj Tryz.prog 30 5=some 9:=by kernel_rfl
@[simp]theorem tx:Aj Tryz.prog 30 6=some 10:=by kernel_rfl
@[simp]theorem rU:Aj Tryz.prog 85 0=some 0:=by kernel_rfl
@[simp]theorem wC:Aj Tryz.prog 85 1=some 1:=by kernel_rfl
@[simp]theorem r7:Aj Tryz.prog 85 2=some 2:=by kernel_rfl
@[simp]theorem tF:Aj Tryz.prog 85 3=some 3:=by kernel_rfl
@[simp]theorem tV:Aj Tryz.prog 88 0=some 0:=by kernel_rfl
@[simp]theorem vT:Aj Tryz.prog 88 1=some 1:=by kernel_rfl
@[simp]theorem uT:Aj Tryz.prog 91 0=some 0:=by kernel_rfl
@[simp]theorem wF:Aj Tryz.prog 91 1=some 1:=by kernel_rfl
@[simp]theorem vl:Aj Tryz.prog 91 2=some 2:=by kernel_rfl
@[simp]theorem ue:Aj Tryz.prog 91 3=some 3:=by kernel_rfl
def T4:CC:=sR [bX 2 25 0 [0],oO 4 (.assign (.const (.int .u64 0)))] [1,2] (sQ [mO 5 1,bQ .lss 6 3 5 0 3,mO 7 6,mG 8 1 7 false,fG 9 25 2 1 7 false,lG 10 22 9 7 false,oG 11 (bL 10 22) 7 false,oG 12 (bO .geq 3 8 11 3) 7 false,pT 13 7 12] [1,2,13] (cD 13 (sR [oO 4 (.assign (.const (.int .u64 0)))] [4] (.ret)) (.skip)) [1,2] (sR [fO 14 25 2 1,lO 15 22 14,mO 16 1,iO 17 22 15 16,lO 18 61 17,aO 4 18] [4] (.ret)))
theorem dm:BT Tryz.prog 90 19 [(.tmp 4)] T4:=AA Tryz.func90
def W3:CC:=sR [bX 2 25 0 [0],aL 4 25 [1]] [1,2,4] (sQ [mO 5 1,bQ .lss 6 3 5 0 3,mO 7 6,mG 8 1 7 false,fG 9 25 2 2 7 false,lG 10 23 9 7 false,oG 11 (bL 10 23) 7 false,oG 12 (bO .geq 3 8 11 3) 7 false,pT 13 7 12] [1,2,4,13] (cD 13 (sR [oO 14 (.build 25 #[]),sT 25 4 14] [4] (.ret)) (.skip)) [1,2,4] (sR [fO 15 25 2 2,lO 16 23 15,mO 17 1,iO 18 23 16 17,lO 19 25 18,sT 25 4 19] [4] (.ret)))
theorem iX:BT Tryz.prog 80 20 [(.cell 4 25)] W3:=AA Tryz.func80
def JF:CC:=sR [bQ .lss 6 3 5 8 3] [0,3,5,6] (.seq (cD 6 (.skip) (.exit 0)) (.keep [0,3,5] (.seq (.block 1 (sR [mO 7 5,aO 4 7] [0,3,4,5] (sR [mO 8 0,mO 9 4,bB .shr 10 5 8 9 3,oO 11 (.binOp .and 5 (xT 10) (.const (.int .u8 1)) 5),oO 12 (.binOp .eql 5 (xT 11) (.const (.int .u8 1)) 5)] [0,3,4,5,12] (cD 12 (.reg [mO 13 3,mO 14 4,oO 15 (.binOp .mul 3 (nI 8) (xT 14) 3),oO 16 (.binOp .shl 61 (.const (.int .u64 255)) (xT 15) 3),bB .or 17 61 13 16 61,aO 3 17] [0,3,5]) (.skip))))) (.keep [0,3,5] (.reg [bQ .add 18 3 5 1 3,mO 5 18] [0,3,5]))))) 
def T6:CC:=sR [oO 2 (.assign (.const (.int .u64 0)))] [0] (sR [oO 3 (.assign (.const (.int .u64 0)))] [0,3] (sQ [oO 5 (.move (nI 0))] [0,3,5] (.block 0 (.loop JF)) [3] (sR [mO 19 3,aO 2 19] [2] (.ret))))
theorem eV:BT Tryz.prog 163 20 [(.tmp 2)] T6:=AA Tryz.func163
def Ve:CC:=sR [oO 6 (.assign (.const (.int .u64 0)))] [0,1,2] (sR [mO 7 0,mO 8 2,cA 9 163 8 5,bB .andNot 10 61 7 9 61,mO 11 1,mO 12 2,cA 13 163 12 5,bB .and 14 61 11 13 61,bB .or 15 61 10 14 61,aO 6 15] [6] (.ret))
theorem j4:BT Tryz.prog 125 16 [(.tmp 6)] Ve:=AA Tryz.func125
end Go.Proofs.YtlaapfplenlfaaaGreat
namespace Go.Proofs.YtlaapfplenlfaaaGreat
open Go Go.G Go.Proofs Go.PL
theorem Fl(t:T)(i:Nat):G.Spec Tryz.prog 90 [tX t,iv i] (uv (t.words.getD i 0)):=by
 refine Ak dm iS fun w0 I0=>?_;unfold T4;have hn:¬(i:Int)<0:=oF
 by_cases h:i<t.words.length
 ·have h2:¬t.words.length<=i:=oF
  simp[h,hn,h2];exact Jp rfl (by simp[h])
 ·have h2:t.words.length<=i:=oF
  simp[h,hn,h2];exact Jp rfl (by simp[List.getElem?_eq_none (Nat.le_of_not_lt h)])
theorem Gj(t:T)(i:Nat):G.Spec Tryz.prog 80 [tX t,iv i] (tX (t.kids.getD i T0)):=by
 refine Ak iX iS fun w0 I0=>?_;unfold W3;have hn:¬(i:Int)<0:=oF
 by_cases h:i<t.kids.length
 ·have h2:¬t.kids.length<=i:=oF
  simp[h,hn,h2];exact Ae iS
 ·have h2:t.kids.length<=i:=oF
  simp[h,hn,h2];exact CF (by simp;exact⟨Ae rfl,Am,Am⟩)
variable {n0:Nat} {w0:World} {I0:Nat->Prop} {Q:Exit->Sta->Prop}
abbrev M3(x:T × Int × Int):A:=.tup [tX x.1,iv x.2.1,iv x.2.2]
abbrev s1:List (List Int):=[[4294967296,7]]
abbrev s2:List (List Int):=[[8589934592,7,0]]
abbrev s3:List (List Int):=[[4294967296,8]]
end Go.Proofs.YtlaapfplenlfaaaGreat
namespace Go.G
open Go.RowKit
theorem X4{P:Program}{K:Sta->Prop}{rest:List CO}{s:Nat->A}{H:Hp}{dd:Option Nat}{nm:Nm}{ix:Nat}{un:List Nat}{l:Bool}{lg:Lg}{g:FuncId}{fo:Operand}{fs caps L:List A}{as':Array Operand}{ts:Array TypeId}{x:A}(hv0:evs s fo=.fnc g fs caps)(hL:fs++(as'.toList.map (evs s)++caps)=L)(E:Eff)(R W:Fp)(hs:∀H2,Agree (R++W) H H2->Tk P H2 g L x E)(hw:Qj E W)(hc:Ck un lg ⟨R,W⟩)(h:AB P K rest (B9 l ix ⟨R,W⟩ lg) (Sta.put ⟨s,H⟩ dd x (E.app H))) :
  AB P K (⟨dd,.call { callee:=.value fo,args:=as',argTypes:=ts },none,nm,ix,un,l⟩::rest) lg ⟨s,H⟩:=by
 subst hL;exact⟨x,E,⟨R,W⟩,⟨g,fs,caps,hv0,.inr (.inr ⟨hs,hw⟩)⟩,hc,h⟩
theorem YS{P:Program}{K:Sta->Prop}{rest:List CO}{s:Nat->A}{H:Hp}{dd:Option Nat}{nm:Nm}{ix:Nat}{un:List Nat}{l:Bool}{lg:Lg}{g:FuncId}{fo:Operand}{fs caps L:List A}{as':Array Operand}{ts:Array TypeId}
  (hv0:evs s fo=.fnc g fs caps) (hL:fs++(as'.toList.map (evs s)++caps)=L) (rs:List Nat) (m:Nat) {args:List A} {Hc Hr H':Hp} {r x:A} (hS:SpecH P g rs.length args Hc r Hr) (hnd:rs.Nodup) (hm:m<=rs.length)
  (ha:A.renL (SA rs) (fun _=>0) L=args) (har:A.refsL (QL rs m) L) (hH:Ng rs m H=Hc) (hcl:UA rs m H)
  (hr:r.refs (Hm rs.length)) (ho:∀(i:Nat)(p:Nm),i<rs.length->(Hr (i::p)).ob.refs (Hm rs.length)) (hv:∀(i:Nat)(p:Nm),m<=i->i<rs.length->(Hr (i::p)).ob=.none\/1<=(Hr (i::p)).u)
  (hx:r.ren (QK rs) (Pk rs m H)=x) (hH':Nt rs (Pk rs m H) H Hr=H') (hck:Ck un lg ⟨[],rs.map fun r=>([r],true)⟩)
  (h:AB P K rest (B9 l ix ⟨[],rs.map fun r=>([r],true)⟩ lg) (Sta.put ⟨s,H⟩ dd x H')) :
  AB P K (⟨dd,.call { callee:=.value fo,args:=as',argTypes:=ts },none,nm,ix,un,l⟩::rest) lg ⟨s,H⟩:=by
 have hit_in:∀{j:Nat} {p:Nm},j∈rs->VN (rs.map fun r=>([r],true)) (j::p)=true:=fun {j p} hj=>by
  simp only[VN,List.any_map,List.any_eq_true];exact⟨j,hj,by simp[R6,List.isPrefixOf]⟩
 have hnil:(Eff.fn rs (It rs m H Hr)).app H=H':=by rw[VO];exact hH'
 subst hx;rw[<-hnil]at h;refine X4 hv0 hL (Eff.fn rs (It rs m H Hr)) [] (rs.map fun r=>([r],true)) (fun H2 hag=>?_) (fun o H2 ho'=>?_) hck h
 ·have ag:∀{j:Nat} {p:Nm},j∈rs->H2 (j::p)=H (j::p):=fun {j p} hj=>hag _ (by simpa using hit_in hj);have agi:∀{i:Nat} {p:Nm},i<rs.length->H2 (rs.getD i 0::p)=H (rs.getD i 0::p):=fun {i p} hi=>ag (by simp[List.getD,hi]);have hd:Pk rs m H2=Pk rs m H:=by
   funext o;cases o with
   |nil=>rfl
   |cons i p=>
    simp only[Pk];by_cases hi:i<rs.length
    ·rw[agi hi]
    ·rw[if_neg hi,if_neg hi]
  have hoH:It rs m H2 Hr=It rs m H Hr:=by
   funext o;cases o with
   |nil=>rfl
   |cons j p=>simp only[It,hd]
  subst ha;have:=Ta (P:=P) (f:=g) (rs:=rs) (m:=m) (args:=L) (Hc:=Hc) (Hr:=Hr) (r:=r) (H:=H2) hnd hm hS
   (fun i p hi=>by rw[<-hH,agi oF];simp only[Ng,if_pos hi]) (fun i p hi=>by rw[<-hH];simp only[Ng];rw[if_neg oF]) (by rw[<-hH];rfl) har
   (fun i p hi=>by rw[agi oF];exact hcl _ _ (by rw[LU hnd oF];exact hi)) hr ho hv
  rwa [hd,hoH]at this
 ·cases o with
  |nil=>rfl
  |cons j p=>
   have:¬j∈rs:=fun hj=>by rw[hit_in hj]at ho';cases ho'
   simp[Eff.app,this]
theorem lZ{P:Program}{H:Hp}{g:FuncId}{L:List A}(rs:List Nat)(m:Nat){args:List A}{Hc Hr H':Hp}{r:A}(hS:SpecH P g rs.length args Hc r Hr)(hnd:rs.Nodup)(hm:m<=rs.length)
  (ha:A.renL (SA rs) (fun _=>0) L=args) (har:A.refsL (QL rs m) L) (hH:Ng rs m H=Hc) (hcl:UA rs m H)
  (hr:r.refs (Hm rs.length)) (ho:∀(i:Nat)(p:Nm),i<rs.length->(Hr (i::p)).ob.refs (Hm rs.length)) (hv:∀(i:Nat)(p:Nm),m<=i->i<rs.length->(Hr (i::p)).ob=.none\/1<=(Hr (i::p)).u)
  (hH':Nt rs (Pk rs m H) H Hr=H'):∃E,W8 P H g L (r.ren (QK rs) (Pk rs m H)) E [] (rs.map fun r=>([r],true))/\E.app H=H':=by
 have hit_in:∀{j:Nat} {p:Nm},j∈rs->VN (rs.map fun r=>([r],true)) (j::p)=true:=fun {j p} hj=>by
  simp only[VN,List.any_map,List.any_eq_true];exact⟨j,hj,by simp[R6,List.isPrefixOf]⟩
 have hnil:(Eff.fn rs (It rs m H Hr)).app H=H':=by rw[VO];exact hH'
 refine⟨Eff.fn rs (It rs m H Hr),.inr (.inr ⟨fun H2 hag=>?_,fun o H2 ho'=>?_⟩),hnil⟩
 ·have ag:∀{j:Nat} {p:Nm},j∈rs->H2 (j::p)=H (j::p):=fun {j p} hj=>hag _ (by simpa using hit_in hj);have agi:∀{i:Nat} {p:Nm},i<rs.length->H2 (rs.getD i 0::p)=H (rs.getD i 0::p):=fun {i p} hi=>ag (by simp[List.getD,hi]);have hd:Pk rs m H2=Pk rs m H:=by
   funext o;cases o with
   |nil=>rfl
   |cons i p=>
    simp only[Pk];by_cases hi:i<rs.length
    ·rw[agi hi]
    ·rw[if_neg hi,if_neg hi]
  have hoH:It rs m H2 Hr=It rs m H Hr:=by
   funext o;cases o with
   |nil=>rfl
   |cons j p=>simp only[It,hd]
  subst ha;have:=Ta (P:=P) (f:=g) (rs:=rs) (m:=m) (args:=L) (Hc:=Hc) (Hr:=Hr) (r:=r) (H:=H2) hnd hm hS
   (fun i p hi=>by rw[<-hH,agi oF];simp only[Ng,if_pos hi]) (fun i p hi=>by rw[<-hH];simp only[Ng];rw[if_neg oF]) (by rw[<-hH];rfl) har
   (fun i p hi=>by rw[agi oF];exact hcl _ _ (by rw[LU hnd oF];exact hi)) hr ho hv
  rwa [hd,hoH]at this
 ·cases o with
  |nil=>rfl
  |cons j p=>
   have:¬j∈rs:=fun hj=>by rw[hit_in hj]at ho';cases ho'
   simp[Eff.app,this]
theorem Adb{P:Program}{K:Sta->Prop}{rest:List CO}{s:Nat->A}{H H':Hp}{dd:Option Nat}{nm:Nm}{ix:Nat}{un:List Nat}{l:Bool}{lg:Lg}{ro:Operand}{name:String}{t:TypeId}{a a':A}{g:FuncId}{d:Option TypeId}{L:List A}{as':Array Operand}{ts:Array TypeId}{x:A}{R W:Fp}
  (hr:evs s ro=.ifc t a) (hm:PT P t name=some (g,d)) (ha:YP P H d a=some a') (hL:a'::as'.toList.map (evs s)=L) (hc:∃E,W8 P H g L x E R W/\E.app H=H') (hck:Ck un lg ⟨refs a++R,W⟩)
  (h:AB P K rest (B9 l ix ⟨refs a++R,W⟩ lg) (Sta.put ⟨s,H⟩ dd x H')) :
  AB P K (⟨dd,.call { callee:=.invoke ro name,args:=as',argTypes:=ts },none,nm,ix,un,l⟩::rest) lg ⟨s,H⟩:=by
 obtain⟨E,h1,rfl⟩:=hc;subst hL;exact⟨x,E,⟨refs a++R,W⟩,⟨t,a,g,d,a',R,hr,hm,ha,h1,rfl⟩,hck,h⟩
end Go.G
namespace Go.Proofs.YtlaapfplenlfaaaGreat
open Go Go.G Go.Proofs Go.PL
def Ag2(h x:Int):Int:=u64.wrap (bits .xor .u64 h x*1099511628211)
def z9(h x:Int):Int:=bits .xor .u64 (Ag2 h x) (Ag2 h x / 2 ^ min 29 u64.bits)
mutual
def Aa9:T->Int
 |.mk k w l=>Aa8 (w.foldl z9 (z9 (z9 14695981039346656037 (u64.wrap k)) (u64.wrap w.length))) l
def Aa8:Int->List T->Int
 |h,[]=>h
 |h,t::l=>Aa8 (z9 h (Aa9 t)) l
end
mutual
theorem PU:∀(t:T)(d:Nat)(n:Int),-1<=Ew d n t/\(-1<=n->Ew d n t<=n)
 |.mk k w l,d,n=>by
  rw[Qh];split
  ·omega
  ·have:=NG l (d-1) (n-1-w.length) oF;omega
theorem NG:∀(l:List T)(d:Nat)(n:Int),-1<=n->-1<=Ea d n l/\Ea d n l<=n
 |[],d,n,h=>by simp;omega
 |t::l,d,n,h=>by
  rw[Ix];split
  ·omega
  ·have h1:=PU t d n;have h2:=NG l d (Ew d n t) h1.1;omega
end
theorem bg(l:List T)(d:Nat){n:Int}(h:n<0):Ea d n l=n:=by
 cases l with
 |nil=>simp
 |cons t l=>simp[h]
variable {n0:Nat} {w0:World} {I0:Nat->Prop} {Q:Exit->Sta->Prop}
theorem jQ{t:T}{d:Nat}(hd:1<=d)(hd1:d<=1000)(hl:t.kids.length*56<=140737488355328)(ih:∀c,c∈t.kids->∀(d:Nat)(n:Int),d<=1000->0<=n->n<=1000000->G.Spec Tryz.prog 28 [tX c,iv d,iv n] (iv (Ew d n c)))
  {H:Hp} (hH:H [0]=⟨1,.cells [iv t.kind,Fu t.words,B7 t.kids]⟩):∀(m i:Nat)(n:Int),i+m=t.kids.length->-1<=n->n<=1000000 ->
  (∀i' q,Q (.exit 0) ⟨lk [(1,iv d),(2,iv (Ea (d-1) n (t.kids.drop i))),(3,.pob [0] 1 0),(7,iv i'),(28,bv q)],H⟩) ->
  LoopC (cx Tryz.prog w0 I0 n0) DR Q ⟨lk [(1,iv d),(2,iv n),(3,.pob [0] 1 0),(7,iv i)],H⟩:=by
 intro m;induction m with
 |zero=>
  intro i n hi h1 h2 hq;have:i=t.kids.length:=oF
  subst this;refine Ad Ai DR.eq_1 ?_;simp[hH];simpa using hq _ false
 |succ m ihm=>
  intro i n hi h1 h2 hq;have hlt:i<t.kids.length:=oF
  refine Ad Ai DR.eq_1 ?_;have e:t.kids.drop i=t.kids[i]::t.kids.drop (i+1):=List.drop_eq_getElem_cons hlt;by_cases hn:n<0
  ·simp[hH,hlt,show ¬(0:Int)<=n by omega];have:=hq i false
   rwa [bg _ _ hn]at this
  ·have hn':0<=n:=oF
   simp[hH,hlt,hn'];have ed:i64.wrap ((d:Int)-1)=((d-1:Nat):Int):=Bv;rw[ed];refine Ag (ih _ (De hlt) (d-1) n oF hn' h2) rfl ?_;simp;have hr:=PU t.kids[i] (d-1) n;rw[Bq oF oF];refine ihm (i+1) _ oF hr.1 oF fun i' q=>?_;have:=hq i' q;rw[e,Ix,if_neg oF]at this;exact this
theorem Zv:∀(t:T),AE t->∀(d:Nat)(n:Int),d<=1000->0<=n->n<=1000000->G.Spec Tryz.prog 28 [tX t,iv d,iv n] (iv (Ew d n t)):=by
 refine T.ind fun k w l ih hw d n hd hn hn1=>?_;have hw':=wfT_iff.1 hw;have hwl:=hw'.wl;have hkl:=hw'.kl;simp at hwl hkl;have ihc:∀c,c∈(T.mk k w l).kids->∀(d:Nat)(n:Int),d<=1000->0<=n->n<=1000000->G.Spec Tryz.prog 28 [tX c,iv d,iv n] (iv (Ew d n c)):=fun c hc=>ih c hc (hw'.ks c hc);refine Ak NZ iS fun w0 I0=>?_;unfold IV;have e1:i64.wrap (i64.wrap (n-1)-(w.length:Int))=n-1-w.length:=by rw[Bq (n:=n-1) oF oF,Bq oF oF]
 rw[Qh];by_cases hc:d=0\/n-1-(w.length:Int)<0
 ·have hd:(decide (d=0)|| decide (n-1-(w.length:Int)<0))=true:=by simp;omega
  simp[e1,hd,hc];exact Ae rfl
 ·have hd:(decide (d=0)|| decide (n-1-(w.length:Int)<0))=false:=by simp;omega
  simp[e1,hd,hc];refine jQ (t:=.mk k w l) oF oF hkl ihc iS l.length 0 _ iS oF oF fun i' q=>?_;simp;exact Ae rfl
abbrev tL(t:T):List A:=[iv t.kind,Fu t.words,B7 t.kids]
theorem zn{a b:T}(hl:a.kids.length*56<=140737488355328)(hn:a.kids.length=b.kids.length)(ih:∀c,c∈a.kids->∀u,G.Spec Tryz.prog 16 [tX c,tX u] (bv (GM c u)))
  {H:Hp} (hA:H [0]=⟨1,.cells (tL a)⟩) (hB:H [1]=⟨1,.cells (tL b)⟩):∀(m i:Nat),i+m=a.kids.length->a.kids.take i=b.kids.take i->(a.kids=b.kids->∀i' q,Q (.exit 0) ⟨lk [(2,.pob [0] 1 0),(3,.pob [1] 1 0),(5,iv i'),(32,bv q)],H⟩)->(a.kids≠b.kids->Q .ret ⟨lk [(4,bv false)],H⟩) ->
  LoopC (cx Tryz.prog w0 I0 n0) ES Q ⟨lk [(2,.pob [0] 1 0),(3,.pob [1] 1 0),(5,iv i)],H⟩:=by
 intro m;induction m with
 |zero=>
  intro i hi ht h1 h2;have:i=a.kids.length:=oF
  subst this;refine Ad Ai ES.eq_1 ?_;simp[hA,hB];refine h1 ?_ _ _;rw[AO (CX _),AO oF]at ht;exact ht
 |succ m ihm=>
  intro i hi ht h1 h2;have hlt:i<a.kids.length:=oF
  have hlt':i<b.kids.length:=oF
  refine Ad Ai ES.eq_1 ?_;simp[hA,hB,hlt,hlt'];refine Ag (ih _ (De hlt) b.kids[i]) rfl ?_;simp;cases hs:GM a.kids[i] b.kids[i] with
  |false=>
   simp;refine h2 fun e=>?_;have:a.kids[i]=b.kids[i]:=by simp[e]
   rw[<-sameB_iff,hs]at this;cases this
  |true=>
   simp;rw[Bq oF oF];refine ihm (i+1) oF ?_ h1 h2;rw[F5 hlt,F5 hlt',ht,sameB_iff.1 hs]
set_option maxRecDepth 8000 in
theorem TD:∀(a:T),AE a->∀b:T,G.Spec Tryz.prog 16 [tX a,tX b] (bv (GM a b)):=by
 refine T.ind fun k w l ih hw b=>?_;have hw':=wfT_iff.1 hw;have hwl:=hw'.wl;have hkl:=hw'.kl;simp at hwl hkl;refine Ak Rn iS fun w0 I0=>?_;unfold KJ;have no:(k≠b.kind\/w≠b.words\/l≠b.kids)->GM (.mk k w l) b=false:=fun h=>by
  rw[Bool.eq_false_iff];intro e;have:=sameB_iff.1 e;subst this;simp at h
 by_cases h1:k=b.kind
 ·by_cases h2:w=b.words
  ·by_cases h3:l.length=b.kids.length
   ·simp[h1];refine MC rfl (fun _=>Qp w b.words hwl) (fun _=>rfl) rfl ?_;simp[h2,h3];refine zn (a:=.mk k w l) (b:=b) hkl h3 (fun c hc u=>ih c hc (hw'.ks c hc) u) (by simp[h1,h2]) iS l.length 0 iS rfl (fun e i' q=>?_) (fun e=>?_)
    ·simp;have:GM (.mk k w l) b=true:=sameB_iff.2 (T.ext' h1 h2 e);rw[<-h1,<-h2,this];exact Ae rfl
    ·simp;rw[<-h1,<-h2,no (.inr (.inr e))];exact Ae rfl
   ·simp[h1];refine MC rfl (fun _=>Qp w b.words hwl) (fun _=>rfl) rfl ?_;simp[h2,h3];refine⟨fun h=>absurd oF h3,fun _=>?_⟩;rw[<-h1,<-h2,no (.inr (.inr fun e=>h3 (by rw[e])))];exact Ae rfl
  ·simp[h1];refine MC rfl (fun _=>Qp w b.words hwl) (fun _=>rfl) rfl ?_;simp[h2];rw[<-h1,no (.inr (.inl h2))];exact Ae rfl
 ·simp[h1];refine BP rfl ?_;simp;rw[no (.inl h1)];exact Ae rfl
theorem CY:∀(t:T),AE t->AE (Af t):=by
 refine T.ind fun k w l ih hw=>?_;have hw':=wfT_iff.1 hw;rw[Cw];have h2:∀(l:List T),(∀t,t∈l->∃u,u∈l/\t=u)->True:=fun _ _=>trivial;have hm:∀t,t∈l.map Af->AE t:=fun t ht=>by
  obtain⟨u,hu,rfl⟩:=List.mem_map.1 ht;exact ih u hu (hw'.ks u hu)
 split
 ·exact wfT_iff.2 ⟨by simp[BD],iS,iS,iS,iS⟩
 ·split
  ·refine wfT_iff.2 ⟨by simp[BD],fun x hx=>?_,?_,?_,fun t ht=>?_⟩
   ·simp only[T.words_mk]at hx;rw[Vd]at hx;exact hw'.w x (QD hx)
   ·have:=LG w;have:=hw'.wl;simp at this ⊢;omega
   ·have:=LC (l.map Af);have:=hw'.kl;simp at this ⊢;simp at *;omega
   ·simp only[T.kids_mk]at ht;rw[Kl]at ht;exact hm t (QD ht)
  ·exact wfT_iff.2 ⟨hw'.k,hw'.w,hw'.wl,by simpa using hw'.kl,by simpa using hm⟩
theorem qb{c:T}(h:AE c)(hl:c.words.length=1):∃x,c.words=[x]/\Bs x:=by
 have:=(wfT_iff.1 h).w
 match hc:c.words,hl with
 |[x],_=>exact⟨x,rfl,this x (by simp[hc])⟩
theorem bw{d:Nat}{c:T}(h:C9 d c=true)(h10:c.kind=10):c.words.length=1:=by
 obtain⟨k,w,l⟩:=c;simp at h10;subst h10;rw[Fj]at h;simp at h;exact h.1
theorem wc{t:T}(hl:t.kids.length*56<=140737488355328)(hk0:0<=t.kind)(hk1:t.kind<=10){d:Nat}(hd:1<=d)(hd1:d<=1000)(hw:∀c,c∈t.kids->AE c)(ih:∀c,c∈t.kids->∀d:Nat,d<=1000->G.Spec Tryz.prog 11 [tX c,iv d] (bv (C9 d c))):∀(m i:Nat)(H:Hp),i+m=t.kids.length->H [0]=⟨1,.cells (tL t)⟩ ->
  (GX (d-1) t.kind (t.kids.drop i)=true->∀i' q H',Q (.exit 0) ⟨lk [(1,iv d),(2,.pob [0] 1 0),(5,iv i'),(82,bv q)],H'⟩)->(GX (d-1) t.kind (t.kids.drop i)=false->∀H',Q .ret ⟨lk [(4,bv false)],H'⟩) ->
  LoopC (cx Tryz.prog w0 I0 n0) CQ Q ⟨lk [(1,iv d),(2,.pob [0] 1 0),(5,iv i)],H⟩:=by
 intro m;induction m with
 |zero=>
  intro i H hi hA h1 h2;have:i=t.kids.length:=oF
  subst this;refine Ad Ai CQ.eq_1 ?_;simp[hA];exact h1 iS _ _ _
 |succ m ihm=>
  intro i H hi hA h1 h2;have hlt:i<t.kids.length:=oF
  have e:t.kids.drop i=t.kids[i]::t.kids.drop (i+1):=List.drop_eq_getElem_cons hlt;have ei:=AR i;have ed:i64.wrap ((d:Int)-1)=((d-1:Nat):Int):=Bv;rw[e,dy]at h1 h2;have hwc:=hw _ (De hlt);have ihc:=ih _ (De hlt) (d-1) oF;generalize hc:t.kids[i]=c at *;refine Ad Ai CQ.eq_1 ?_;simp[hA,hlt,hc,Aa,ed];refine Ag ihc rfl ?_;cases hr:C9 (d-1) c with
  |false=>
   simp;exact h2 (by simp[hr]) _
  |true=>
   rw[hr]at h1 h2;have good:HM t.kind c=true->∀H',H' [0]=⟨1,.cells (tL t)⟩->LoopC (cx Tryz.prog w0 I0 n0) CQ Q ⟨lk [(1,iv d),(2,.pob [0] 1 0),(5,iv ((i:Int)+1))],H'⟩:=fun hg H' hA'=>
    ihm (i+1) H' oF hA' (fun hh=>h1 (by simp[hg,hh])) (fun hh=>h2 (by simp[hh]))
   have bad:HM t.kind c=false->∀H',Q .ret ⟨lk [(4,bv false)],H'⟩:=fun hg=>h2 (by simp[hg]);rw[show((i+1:Nat):Int)=(i:Int)+1 from rfl]at ei;by_cases hD:2<=t.kind/\t.kind<=7
   ·obtain⟨d2,d7⟩:=hD;have d9:¬t.kind=9:=oF
    by_cases h10:c.kind=10
    ·obtain⟨x,hx,hx64⟩:=qb hwc (bw hr h10);have hk:HM t.kind c=Zf (t.kind-2) x:=by simp[HM,MJ,d2,d7,d9,h10,hx]
     have e2:i64.wrap (t.kind-2)=t.kind-2:=Ga;simp[Aa,hA,d2,d7,d9,h10,hx,e2];refine CD rfl (fun _=>jB hx64) (fun _=>rfl) rfl ?_;cases hf:Zf (t.kind-2) x with
     |false=>simp;exact bad (by rw[hk,hf]) _
     |true=>simp[ei];exact good (by rw[hk,hf]) _ (by simp[Aa,hA])
    ·have hk:HM t.kind c=false:=by simp[HM,MJ,d2,d7,d9,h10]
     simp[Aa,hA,d2,d7,d9,h10];refine BP rfl ?_;simp;exact bad hk _
   ·have hD':(decide (2<=t.kind)&&decide (t.kind<=7))=false:=by simp;omega
    by_cases h10:c.kind=10
    ·have hk:HM t.kind c=false:=by simp[HM,MJ,hD',h10]
     simp[Aa,hA,hD',h10];refine BP rfl ?_;simp;exact bad hk _
    ·by_cases h9:t.kind=9
     ·by_cases h1':c.kind=1
      ·have hk:HM t.kind c=true:=by simp[HM,MJ,hD',h9,h1']
       rw[h9]at hD';simp[Aa,hA,hD',h10,h9,h1'];refine BP rfl ?_;simp[ei];exact good hk _ (by simp[Aa,hA])
      ·have hk:HM t.kind c=false:=by simp[HM,MJ,hD',h9,h1',h10]
       rw[h9]at hD';simp[Aa,hA,hD',h10,h9,h1'];refine BP rfl ?_;simp;exact bad hk _
     ·have hk:HM t.kind c=true:=by simp[HM,MJ,hD',h9,h10]
      simp[Aa,hA,hD',h10,h9];refine BP rfl ?_;simp[ei];exact good hk _ (by simp[Aa,hA])
theorem cM:∀(t:T),AE t->∀d:Nat,d<=1000->G.Spec Tryz.prog 11 [tX t,iv d] (bv (C9 d t)):=by
 refine T.ind fun k w l ih hw d hd=>?_;have hw':=wfT_iff.1 hw;have hwl:=hw'.wl;have hkl:=hw'.kl;simp at hwl hkl;refine Ak QF iS fun w0 I0=>?_;unfold Kj;rw[Fj];by_cases h0:k=0
 ·simp[h0];exact BA (by cases w<;>cases l<;>simp<;>(rw[<-List.length_eq_zero_iff];omega))
 by_cases h10:k=10
 ·simp[h10];exact BA (by cases w<;>cases l<;>simp<;>(rw[<-List.length_eq_zero_iff];omega))
 rw[if_neg h0,if_neg h10];have bad:G6 k d w.length l.length=true->∀H,Jl H (bv false) (bv (if G6 k d w.length l.length=true then false else GX (d-1) k l)):=fun hb H=>BA (by simp[hb]);by_cases ha:k<0\/10<k\/d=0\/65536<=w.length
 ·have ha':(decide (k<0)|| decide (10<k)|| decide (d=0)|| decide (65536<=(w.length:Int)))=true:=by simp;omega
  simp[h0,h10,ha'];have:=bad (by simp[G6];omega) (Gz [([0],{ u:=1,ob:=Ob.cells [iv k,Fu w,B7 l] })]);simpa using this
 have ha':(decide (k<0)|| decide (10<k)|| decide (d=0)|| decide (65536<=(w.length:Int)))=false:=by simp;omega
 by_cases h1:k=1/\65536<=l.length
 ·have hl:(65536:Int)<=l.length:=oF
  simp[h0,h10,ha',h1.1,hl];have:=bad (by simp[G6];omega) (Gz [([0],{ u:=1,ob:=Ob.cells [iv k,Fu w,B7 l] })]);simpa[h1.1]using this
 by_cases h2:1048576<=l.length
 ·have hl:(1048576:Int)<=l.length:=oF
  have hk1:¬k=1:=oF
  simp[h0,h10,ha',hk1,hl];have:=bad (by simp[G6];omega) (Gz [([0],{ u:=1,ob:=Ob.cells [iv k,Fu w,B7 l] })]);simpa using this
 have hl2:¬(1048576:Int)<=l.length:=oF
 by_cases h3:1<k/\0<w.length
 ·have hk1:¬k=1:=oF
  have hw0:w≠[]:=fun e=>by simp[e]at h3
  simp[h0,h10,ha',hk1,hl2,h3.1,h3.2,hw0];have:=bad (by simp[G6];omega) (Gz [([0],{ u:=1,ob:=Ob.cells [iv k,Fu w,B7 l] })]);simpa using this
 have hb:G6 k d w.length l.length=false:=by
  rw[Bool.eq_false_iff];unfold G6;simp only[Bool.or_eq_true,Bool.and_eq_true,decide_eq_true_eq,ne_eq];omega
 have hw0:(1<k->w=[]):=fun h=>List.eq_nil_of_length_eq_zero oF;have fin:LoopC (cx Tryz.prog w0 I0 132) CQ (Co 0 (Hk (WPC (cx Tryz.prog w0 I0 132) (.keep [] (.seq (.reg [co (some 4) (.assign (.const (.bool true))) none] [4]) .ret)) (fH Tryz.prog [.tmp 4] (bv (GX (d-1) k l)))) (fH Tryz.prog [.tmp 4] (bv (GX (d-1) k l))))) ⟨lk [(1,iv d),(2,.pob [0] 1 0),(5,iv 0)],Gz [([0],⟨1,.cells [iv k,Fu w,B7 l]⟩)]⟩:=by
  refine wc (t:=.mk k w l) (by simpa using hkl) (by simp;omega) (by simp;omega) oF hd (fun c hc=>hw'.ks c hc) (fun c hc=>ih c hc (hw'.ks c hc)) l.length 0 _ iS iS (fun hr i' q H'=>?_) (fun hr H'=>?_)
  ·simp;exact BA (by simpa using hr.symm)
  ·simp;exact BA (by simpa using hr.symm)
 rw[if_neg (by simp[hb])];by_cases k1:k=1
 ·have hl3:¬(65536:Int)<=l.length:=oF
  have ha1:(decide (d=0)|| decide (65536<=(w.length:Int)))=false:=by simp;omega
  simp[ha1,k1,hl2,hl3];simpa[k1]using fin
 ·simp[h0,h10,ha',k1,hl2];refine⟨fun a b=>absurd ⟨a,oF⟩ h3,fun _=>?_⟩;exact fin
end Go.Proofs.YtlaapfplenlfaaaGreat
namespace Go.G
open Go.RowKit
structure Fam where
 F:Nat->Nm->VOb
 ren:∀{g:Nm->Nm} {δ:Nm->Nat} {r r':Nat},(∀p,g (r::p)=r'::p)->(∀p,δ (r::p)=0)->∀p,(F r p).ren g δ 0=F r' p
 refs:∀{D:Nm->Prop} {r:Nat},(∀p,D (r::p))->∀p,(F r p).ob.refs D
def Fam.no:Fam:=⟨fun _ _=>⟨0,.none⟩,fun _ _ _=>rfl,fun _ _=>trivial⟩
@[simp]theorem Fam.no_F{r:Nat}{p:Nm}:Fam.no.F r p=⟨0,.none⟩:=rfl
structure DV(a:Nat->A):Prop where
 ren:∀{g:Nm->Nm} {δ:Nm->Nat} {r r':Nat},(∀p,g (r::p)=r'::p)->(∀p,δ (r::p)=0)->(a r).ren g δ=a r'
 refs:∀{D:Nm->Prop} {r:Nat},(∀p,D (r::p))->(a r).refs D
structure FamL(a:Nat->List A):Prop where
 ren:∀{g:Nm->Nm} {δ:Nm->Nat} {r r':Nat},(∀p,g (r::p)=r'::p)->(∀p,δ (r::p)=0)->A.renL g δ (a r)=a r'
 refs:∀{D:Nm->Prop} {r:Nat},(∀p,D (r::p))->A.refsL D (a r)
@[simp]theorem Ah:FamL (fun _=>[]):=⟨fun _ _=>by simp[A.renL],fun _=>by simp[A.refsL]⟩
theorem Ab{a:Nat->A}{l:Nat->List A}(h:DV a)(k:FamL l):FamL (fun r=>a r::l r):=⟨fun h1 h2=>by simp[A.renL,h.ren h1 h2,k.ren h1 h2],fun h1=>by simp only[A.refsL];exact⟨h.refs h1,k.refs h1⟩⟩
theorem FamL.all{l:List A}(h:∀x,x∈l->DV (fun _=>x)):FamL (fun _=>l):=by
 induction l with
 |nil=>simp
 |cons x l ih=>exact Ab (h x iS) (ih fun y hy=>h y (by simp[hy]))
@[simp]theorem AfJ:DV (fun _=>.any):=⟨fun _ _=>by simp[A.ren],fun _=>by simp[A.refs]⟩
@[simp]theorem Az{x:Value}:DV (fun _=>.v x):=⟨fun _ _=>by simp[A.ren],fun _=>by simp[A.refs]⟩
@[simp]theorem Bc{f:Bool}{xs:List A}:DV (fun _=>.sl f xs):=⟨fun _ _=>by simp[A.ren],fun _=>by simp[A.refs]⟩
@[simp]theorem Agd{xs:List A}:DV (fun _=>.pim xs):=⟨fun _ _=>by simp[A.ren],fun _=>by simp[A.refs]⟩
@[simp]theorem Aq{u off:Nat}{q:Nm}:DV (fun r=>.pob (r::q) u off):=⟨fun h1 h2=>by simp[A.ren,h1,h2],fun h=>by simp[A.refs,h]⟩
@[simp]theorem Bo{u sz off len:Nat}{q:Nm}:DV (fun r=>.osl (r::q) u sz off len):=⟨fun h1 h2=>by simp[A.ren,h1,h2],fun h=>by simp[A.refs,h]⟩
@[simp]theorem tY{l:Nat->List A}(h:FamL l):DV (fun r=>.agg (l r)):=⟨fun h1 h2=>by simp[A.ren,h.ren h1 h2],fun h1=>by simp only[A.refs];exact h.refs h1⟩
@[simp]theorem Ay{l:Nat->List A}(h:FamL l):DV (fun r=>.tup (l r)):=⟨fun h1 h2=>by simp[A.ren,h.ren h1 h2],fun h1=>by simp only[A.refs];exact h.refs h1⟩
@[simp]theorem LB{f:FuncId}{l m:Nat->List A}(h:FamL l)(k:FamL m):DV (fun r=>.fnc f (l r) (m r)):=⟨fun h1 h2=>by simp[A.ren,h.ren h1 h2,k.ren h1 h2],fun h1=>by simp only[A.refs];exact⟨h.refs h1,k.refs h1⟩⟩
@[simp]theorem NX{t:TypeId}{a:Nat->A}(h:DV a):DV (fun r=>.ifc t (a r)):=⟨fun h1 h2=>by simp[A.ren,h.ren h1 h2],fun h1=>by simp only[A.refs];exact h.refs h1⟩
theorem lr{a:A}(h:a.bare1=true):DV (fun _=>a):=by cases a<;>simp[A.bare1]at h ⊢
theorem DJ{a:A}{cs:List A}(ha:a=.agg cs)(h:∀x,x∈cs->x.bare1=true):DV (fun _=>a):=by
 subst ha;exact tY (l:=fun _=>cs) (FamL.all fun x hx=>lr (h x hx))
theorem Fam.cells_ren{g:Nm->Nm}{δ:Nm->Nat}{u:Nat}{l l':List A}(h:A.renL g δ l=l'):VOb.ren g δ 0 ⟨u,.cells l⟩=⟨u,.cells l'⟩:=by simp[VOb.ren,Ob.ren,h]
theorem Fam.arr_ren{g:Nm->Nm}{δ:Nm->Nat}{u sz:Nat}{l l':List A}(h:A.renL g δ l=l'):VOb.ren g δ 0 ⟨u,.arr sz l⟩=⟨u,.arr sz l'⟩:=by simp[VOb.ren,Ob.ren,h]
structure SpecF(P:Program)(f:FuncId)(as':Nat->List A)(F:Fam)(x:Nat->A)(F':Fam):Prop where
 fa:FamL as'
 fx:DV x
 h:SpecH P f 1 (as' 0) (ov 0 (F.F 0) (Gz [])) (x 0) (ov 0 (F'.F 0) (Gz []))
section
variable {P:Program} {K:Sta->Prop} {rest:List CO} {s:Nat->A} {H:Hp} {dd:Option Nat} {nm:Nm} {ix:Nat} {un:List Nat} {l:Bool} {lg:Lg} {g:FuncId} {aa:Array Operand} {ts:Array TypeId}
theorem jl{r:Nat}{F:Fam}(hF:∀p,H (r::p)=F.F r p):Ng [r] 1 H=ov 0 (F.F 0) (Gz []):=by
 funext o;cases o with
 |nil=>rfl
 |cons i p=>
  by_cases hi:i<1
  ·have:i=0:=oF
   subst this;simp only[Ng,if_pos hi,Bg,if_true];show(H (r::p)).ren _ _ 0=_;rw[hF];exact F.ren (fun q=>by simp[SA]) (fun _=>rfl) p
  ·simp only[Ng,if_neg hi,Bg];rw[if_neg oF];rfl
theorem bS{r:Nat}{F':Fam}:Nt [r] (Pk [r] 1 H) H (ov 0 (F'.F 0) (Gz []))=ov r (F'.F r) H:=by
 have hd:∀p,Pk [r] 1 H (0::p)=0:=fun p=>rfl;funext o;cases o with
 |nil=>rfl
 |cons j p=>
  by_cases hj:j=r
  ·subst hj;simp only[Nt,Bg,if_true];rw[if_pos iS];have:[j].idxOf j=0:=iS
   rw[this,if_pos rfl,hd];exact F'.ren (fun q=>by simp[QK]) hd p
  ·have:¬[r].contains j=true:=by simpa using hj
   simp only[Nt,if_neg this,Bg,if_neg hj]
theorem P9{r:Nat}{F:Fam}(hF:∀p,H (r::p)=F.F r p):UA [r] 1 H:=by
 intro j p hj;have hjr:j=r:=by
  have:=(idx_mem (rs:=[r])).1 (by simpa using hj);simpa using this
 rw[hjr,hF];exact F.refs (fun q=>by simp[QL]) p
theorem Vk{F':Fam}(i:Nat)(p:Nm)(hi:i<1):((ov 0 (F'.F 0) (Gz [])) (i::p)).ob.refs (Hm 1):=by
 have:i=0:=oF
 subst this;simp only[Bg,if_true];exact F'.refs (fun q=>by simp[Hm]) p
theorem Ap{as':Nat->List A}{F F':Fam}{x:Nat->A}(r:Nat)(hS:SpecF P g as' F x F')(hF:∀p,H (r::p)=F.F r p)(ha:aa.toList.map (evs s)=as' r)(hck:Ck un lg ⟨[],[([r],true)]⟩)
  (h:AB P K rest (B9 l ix ⟨[],[([r],true)]⟩ lg) (Sta.put ⟨s,H⟩ dd (x r) (ov r (F'.F r) H))) :
  AB P K (⟨dd,.call { callee:=.value (.func g),args:=aa,argTypes:=ts },none,nm,ix,un,l⟩::rest) lg ⟨s,H⟩:=by
 have hd:∀p,Pk [r] 1 H (0::p)=0:=fun p=>rfl;refine fp [r] 1 hS.h iS iS ?_ ?_ (jl hF) (P9 hF) (hS.fx.refs (fun p=>by simp[Hm])) (fun i p hi=>Vk i p hi) (fun i p h1 h2=>by simp at h2;omega) (hS.fx.ren (fun q=>by simp[QK]) hd) bS hck h
 ·rw[ha];exact hS.fa.ren (fun q=>by simp[SA]) (fun _=>rfl)
 ·rw[ha];exact hS.fa.refs (fun q=>by simp[QL])
theorem U0{as':Nat->List A}{F F':Fam}{x:Nat->A}{fo:Operand}{fs caps:List A}(r:Nat)(hv0:evs s fo=.fnc g fs caps)(hS:SpecF P g as' F x F')(hF:∀p,H (r::p)=F.F r p)(ha:fs++(aa.toList.map (evs s)++caps)=as' r)(hck:Ck un lg ⟨[],[([r],true)]⟩)
  (h:AB P K rest (B9 l ix ⟨[],[([r],true)]⟩ lg) (Sta.put ⟨s,H⟩ dd (x r) (ov r (F'.F r) H))) :
  AB P K (⟨dd,.call { callee:=.value fo,args:=aa,argTypes:=ts },none,nm,ix,un,l⟩::rest) lg ⟨s,H⟩:=by
 have hd:∀p,Pk [r] 1 H (0::p)=0:=fun p=>rfl;refine YS hv0 ha [r] 1 hS.h iS iS (hS.fa.ren (fun q=>by simp[SA]) (fun _=>rfl)) (hS.fa.refs (fun q=>by simp[QL])) (jl hF) (P9 hF) (hS.fx.refs (fun p=>by simp[Hm])) (fun i p hi=>Vk i p hi) (fun i p h1 h2=>by simp at h2;omega) (hS.fx.ren (fun q=>by simp[QK]) hd) bS hck h
end
section
variable {P:Program} {K:Sta->Prop} {rest:List CO} {s:Nat->A} {H:Hp} {dd:Option Nat} {nm:Nm} {ix:Nat} {un:List Nat} {l:Bool} {lg:Lg} {g:FuncId} {aa:Array Operand} {ts:Array TypeId}
theorem Y3{as':Nat->List A}{F F':Fam}{x:Nat->A}(r:Nat)(hS:SpecF P g as' F x F')(hF:∀p,H (r::p)=F.F r p):∃E,W8 P H g (as' r) (x r) E [] [([r],true)]/\E.app H=ov r (F'.F r) H:=by
 have hd:∀p,Pk [r] 1 H (0::p)=0:=fun p=>rfl;have:=lZ (H:=H) (L:=as' r) [r] 1 hS.h iS iS (hS.fa.ren (fun q=>by simp[SA]) (fun _=>rfl)) (hS.fa.refs (fun q=>by simp[QL])) (jl hF) (P9 hF) (hS.fx.refs (fun p=>by simp[Hm])) (fun i p hi=>Vk i p hi) (fun i p h1 h2=>by simp at h2;omega) bS;have e:A.ren (QK [r]) (Pk [r] 1 H) (x 0)=x r:=hS.fx.ren (fun q=>by simp[QK]) hd;rw[e]at this;exact this
theorem IE{as':Nat->List A}{F F':Fam}{x:Nat->A}{ro:Operand}{name:String}{t:TypeId}{a a':A}{d:Option TypeId}(r:Nat)(hS:SpecF P g as' F x F')(hF:∀p,H (r::p)=F.F r p)(hr:evs s ro=.ifc t a)(hm:PT P t name=some (g,d))(ha:YP P H d a=some a')(hL:a'::aa.toList.map (evs s)=as' r)
  (hck:Ck un lg ⟨refs a++[],[([r],true)]⟩) (h:AB P K rest (B9 l ix ⟨refs a++[],[([r],true)]⟩ lg) (Sta.put ⟨s,H⟩ dd (x r) (ov r (F'.F r) H))) :
  AB P K (⟨dd,.call { callee:=.invoke ro name,args:=aa,argTypes:=ts },none,nm,ix,un,l⟩::rest) lg ⟨s,H⟩:=
 Adb hr hm ha hL (Y3 r hS hF) hck h
end
theorem Ag5{r:Nat}{F F':Nm->VOb}{H:Hp}:ov r F (ov r F' H)=ov r F H:=by
 funext o;cases o with
 |nil=>rfl
 |cons j p=>by_cases hj:j=r<;>simp[hj]
@[simp]theorem AiN{r:Nat}{F F':Nm->VOb}{H:Hp}:ov r F (ov r F' H)=ov r F H:=Ag5
theorem Ao{P:Program}{f:FuncId}{n:Nat}{rs:List ResultVar}{cc:CC}{as':Nat->List A}{F F':Fam}{x:Nat->A}(t:BT P f n rs cc)(ha:(as' 0).length<=n)(h0:FamL as')(h1:DV x)
  (h:∀w0 I0 M0 m0,WPC (DC P w0 I0 M0 n m0) cc (Pe (DC P w0 I0 M0 n m0) rs 1 (x 0) (ov 0 (F'.F 0) (Gz []))) ⟨QC (as' 0),ov 0 (F.F 0) (Gz [])⟩):SpecF P f as' F x F':=
 ⟨h0,h1,ir t ha h⟩
theorem An{c:Cx}{rs:List ResultVar}{x:A}{F':Nm->VOb}{r0:A}{st:Sta}(h:Et c.P st rs=some r0)(he:r0=x)(hh:∀p,st.H (0::p)=F' p):Pe c rs 1 x (ov 0 F' (Gz [])) .ret st:=
 WR h he fun i p hi=>by
  have:i=0:=oF
  subst this;rw[hh];simp
theorem AQ{c:Cx}{rs:List ResultVar}{x:A}{F':Nm->VOb}{r0:A}{st:Sta}(h:Et c.P st rs=some r0)(he:r0=x)(hh:∀p,st.H (0::p)=F' p):Pe c rs 1 x (ov 0 F' (Gz [])) .normal st:=
 TC h he fun i p hi=>by
  have:i=0:=oF
  subst this;rw[hh];simp
structure RS(a:Nat->Nat->A):Prop where
 ren:∀{g:Nm->Nm} {δ:Nm->Nat} {r r' q q':Nat},(∀p,g (r::p)=r'::p)->(∀p,δ (r::p)=0)->(∀p,g (q::p)=q'::p)->(∀p,δ (q::p)=0)->(a r q).ren g δ=a r' q'
 refs:∀{D:Nm->Prop} {r q:Nat},(∀p,D (r::p))->(∀p,D (q::p))->(a r q).refs D
structure Tv(a:Nat->Nat->List A):Prop where
 ren:∀{g:Nm->Nm} {δ:Nm->Nat} {r r' q q':Nat},(∀p,g (r::p)=r'::p)->(∀p,δ (r::p)=0)->(∀p,g (q::p)=q'::p)->(∀p,δ (q::p)=0)->A.renL g δ (a r q)=a r' q'
 refs:∀{D:Nm->Prop} {r q:Nat},(∀p,D (r::p))->(∀p,D (q::p))->A.refsL D (a r q)
@[simp]theorem C5:Tv (fun _ _=>[]):=⟨fun _ _ _ _=>by simp[A.renL],fun _ _=>by simp[A.refsL]⟩
theorem Av{a:Nat->Nat->A}{l:Nat->Nat->List A}(h:RS a)(k:Tv l):Tv (fun r q=>a r q::l r q):=⟨fun h1 h2 h3 h4=>by simp[A.renL,h.ren h1 h2 h3 h4,k.ren h1 h2 h3 h4],fun h1 h2=>by simp only[A.refsL];exact⟨h.refs h1 h2,k.refs h1 h2⟩⟩
theorem AL{a:Nat->A}(h:DV a):RS (fun r _=>a r):=⟨fun h1 h2 _ _=>h.ren h1 h2,fun h1 _=>h.refs h1⟩
theorem GR{a:Nat->A}(h:DV a):RS (fun _ q=>a q):=⟨fun _ _ h1 h2=>h.ren h1 h2,fun _ h1=>h.refs h1⟩
theorem qv{l:Nat->Nat->List A}(h:Tv l):RS (fun r q=>.tup (l r q)):=⟨fun h1 h2 h3 h4=>by simp[A.ren,h.ren h1 h2 h3 h4],fun h1 h2=>by simp only[A.refs];exact h.refs h1 h2⟩
section
variable {P:Program} {K:Sta->Prop} {rest:List CO} {s:Nat->A} {H:Hp} {dd:Option Nat} {nm:Nm} {ix:Nat} {un:List Nat} {l:Bool} {lg:Lg} {g:FuncId} {aa:Array Operand} {ts:Array TypeId}
end
theorem JZ{c:Cx}{rs:List ResultVar}{x:A}{F' N:Nm->VOb}{r0:A}{st:Sta}(h:Et c.P st rs=some r0)(he:r0=x)(hh:∀p,st.H (0::p)=F' p)(hn:∀p,st.H (1::p)=N p):Pe c rs 2 x (ov 0 F' (ov 1 N (Gz []))) .ret st:=
 WR h he fun i p hi=>by
  by_cases h0:i=0
  ·subst h0;rw[hh];simp
  ·have:i=1:=oF
   subst this;rw[hn];simp
def uR(u sz:Nat)(xs:List A)(h:∀x,x∈xs->DV (fun _=>x)):Fam:=⟨fun _ p=>if p=[]then ⟨u,.arr sz xs⟩else ⟨0,.none⟩,fun {g δ r r'} hg hd p=>by
  by_cases hp:p=[]
  ·rw[if_pos hp];exact Fam.arr_ren ((FamL.all h).ren hg hd)
  ·rw[if_neg hp];rfl,fun {D r} hD p=>by
  by_cases hp:p=[]
  ·rw[if_pos hp];exact(FamL.all h).refs hD
  ·rw[if_neg hp];trivial⟩
@[simp]theorem Alh{u sz:Nat}{xs:List A}{h:∀x,x∈xs->DV (fun _=>x)}{r:Nat}{p:Nm}:(uR u sz xs h).F r p=if p=[]then ⟨u,.arr sz xs⟩else ⟨0,.none⟩:=rfl
structure Rd where
 B:Nat->Nat->Nm->VOb
 C:Nat->Nat->Nm->VOb
 ren:∀{g:Nm->Nm} {δ:Nm->Nat} {r r' q q':Nat},(∀p,g (r::p)=r'::p)->(∀p,δ (r::p)=0)->(∀p,g (q::p)=q'::p)->(∀p,δ (q::p)=0)->∀p,(B r q p).ren g δ 0=B r' q' p/\(C r q p).ren g δ 0=C r' q' p
 refs:∀{D:Nm->Prop} {r q:Nat},(∀p,D (r::p))->(∀p,D (q::p))->∀p,(B r q p).ob.refs D/\(C r q p).ob.refs D
def Fam.two(F G:Fam):Rd:=⟨fun r _=>F.F r,fun _ q=>G.F q,fun h1 h2 h3 h4 p=>⟨F.ren h1 h2 p,G.ren h3 h4 p⟩,fun h1 h2 p=>⟨F.refs h1 p,G.refs h2 p⟩⟩
@[simp]theorem AhQ{F G:Fam}{r q:Nat}:(F.two G).B r q=F.F r:=rfl
@[simp]theorem Aaz{F G:Fam}{r q:Nat}:(F.two G).C r q=G.F q:=rfl
structure Hv(P:Program)(f:FuncId)(as':Nat->Nat->List A)(F:Rd)(x:Nat->Nat->A)(F':Rd):Prop where
 fa:Tv as'
 fx:RS x
 h:SpecH P f 2 (as' 0 1) (ov 0 (F.B 0 1) (ov 1 (F.C 0 1) (Gz []))) (x 0 1) (ov 0 (F'.B 0 1) (ov 1 (F'.C 0 1) (Gz [])))
section
variable {P:Program} {K:Sta->Prop} {rest:List CO} {s:Nat->A} {H:Hp} {dd:Option Nat} {nm:Nm} {ix:Nat} {un:List Nat} {l:Bool} {lg:Lg} {g:FuncId} {aa:Array Operand} {ts:Array TypeId}
theorem Fa{as':Nat->Nat->List A}{F F':Rd}{x:Nat->Nat->A}(r q:Nat)(hrq:r≠q)(hS:Hv P g as' F x F')(hF:∀p,H (r::p)=F.B r q p)(hG:∀p,H (q::p)=F.C r q p)(ha:aa.toList.map (evs s)=as' r q)(hck:Ck un lg ⟨[],[([r],true),([q],true)]⟩)
  (h:AB P K rest (B9 l ix ⟨[],[([r],true),([q],true)]⟩ lg) (Sta.put ⟨s,H⟩ dd (x r q) (ov r (F'.B r q) (ov q (F'.C r q) H)))) :
  AB P K (⟨dd,.call { callee:=.value (.func g),args:=aa,argTypes:=ts },none,nm,ix,un,l⟩::rest) lg ⟨s,H⟩:=by
 have hd:∀p,Pk [r,q] 2 H (0::p)=0:=fun p=>rfl;have hd1:∀p,Pk [r,q] 2 H (1::p)=0:=fun p=>rfl;have i0:[r,q].idxOf r=0:=iS
 have i1:[r,q].idxOf q=1:=by simp[List.idxOf_cons,beq_eq_false_iff_ne.2 hrq]
 have d0:∀p,SA [r,q] (r::p)=0::p:=fun p=>by simp[SA]
 have d1:∀p,SA [r,q] (q::p)=1::p:=fun p=>by simp[SA,i1]
 have jin:∀{j:Nat},[r,q].idxOf j<2->j=r\/j=q:=fun {j} hj=>by
  have:=(idx_mem (rs:=[r,q])).1 (by simpa using hj);simpa using this
 refine fp [r,q] 2 hS.h (by simp[hrq]) iS ?_ ?_ ?_ ?_ (hS.fx.refs (fun p=>by simp[Hm]) (fun p=>by simp[Hm])) ?_ (fun i p h1 h2=>by simp at h2;omega) (hS.fx.ren (fun p=>by simp[QK]) hd (fun p=>by simp[QK]) hd1) ?_ hck h
 ·rw[ha];exact hS.fa.ren d0 (fun _=>rfl) d1 (fun _=>rfl)
 ·rw[ha];exact hS.fa.refs (fun p=>by simp[QL]) (fun p=>by simp[QL,i1])
 ·funext o;cases o with
  |nil=>rfl
  |cons i p=>
   by_cases hi:i<2
   ·simp only[Ng,if_pos hi];have h01:i=0\/i=1:=oF
    rcases h01 with rfl|rfl
    ·show(H (r::p)).ren _ _ 0=_;rw[hF];simp only[Bg,if_true];exact(F.ren d0 (fun _=>rfl) d1 (fun _=>rfl) p).1
    ·show(H (q::p)).ren _ _ 0=_;rw[hG];simp only[Bg,if_true];rw[if_neg oF];exact(F.ren d0 (fun _=>rfl) d1 (fun _=>rfl) p).2
   ·simp only[Ng,if_neg hi,Bg];rw[if_neg oF,if_neg oF];rfl
 ·intro j p hj;rcases jin hj with rfl|rfl
  ·rw[hF];exact(F.refs (fun p=>by simp[QL]) (fun p=>by simp[QL,i1]) p).1
  ·rw[hG];exact(F.refs (fun p=>by simp[QL]) (fun p=>by simp[QL,i1]) p).2
 ·intro i p hi;have hi:i<2:=hi;by_cases h0:i=0
  ·subst h0;simp only[Bg,if_true];exact(F'.refs (fun q=>by simp[Hm]) (fun q=>by simp[Hm]) p).1
  ·have:i=1:=oF
   subst this;simp only[Bg,if_true];rw[if_neg oF];exact(F'.refs (fun q=>by simp[Hm]) (fun q=>by simp[Hm]) p).2
 ·have u0:∀p,QK [r,q] (0::p)=r::p:=fun p=>by simp[QK]
  have u1:∀p,QK [r,q] (1::p)=q::p:=fun p=>by simp[QK]
  funext o;cases o with
  |nil=>rfl
  |cons j p=>
   by_cases hj:j=r
   ·subst hj;simp only[Nt,Bg,if_true];rw[if_pos iS,i0,if_pos rfl,hd];exact(F'.ren u0 hd u1 hd1 p).1
   ·by_cases hj2:j=q
    ·subst hj2;simp only[Nt,Bg,if_true,if_neg hj];rw[if_pos iS,i1,if_neg oF,if_pos rfl,hd1];exact(F'.ren u0 hd u1 hd1 p).2
    ·have:¬[r,q].contains j=true:=by simp[hj,hj2]
     simp only[Nt,if_neg this,Bg,if_neg hj,if_neg hj2]
theorem wV{as':Nat->Nat->List A}{F F':Rd}{x:Nat->Nat->A}{fo:Operand}{fs caps:List A}(r q:Nat)(hv0:evs s fo=.fnc g fs caps)(hrq:r≠q)(hS:Hv P g as' F x F')(hF:∀p,H (r::p)=F.B r q p)(hG:∀p,H (q::p)=F.C r q p)(ha:fs++(aa.toList.map (evs s)++caps)=as' r q)(hck:Ck un lg ⟨[],[([r],true),([q],true)]⟩)
  (h:AB P K rest (B9 l ix ⟨[],[([r],true),([q],true)]⟩ lg) (Sta.put ⟨s,H⟩ dd (x r q) (ov r (F'.B r q) (ov q (F'.C r q) H)))) :
  AB P K (⟨dd,.call { callee:=.value fo,args:=aa,argTypes:=ts },none,nm,ix,un,l⟩::rest) lg ⟨s,H⟩:=by
 have hd:∀p,Pk [r,q] 2 H (0::p)=0:=fun p=>rfl;have hd1:∀p,Pk [r,q] 2 H (1::p)=0:=fun p=>rfl;have i0:[r,q].idxOf r=0:=iS
 have i1:[r,q].idxOf q=1:=by simp[List.idxOf_cons,beq_eq_false_iff_ne.2 hrq]
 have d0:∀p,SA [r,q] (r::p)=0::p:=fun p=>by simp[SA]
 have d1:∀p,SA [r,q] (q::p)=1::p:=fun p=>by simp[SA,i1]
 have jin:∀{j:Nat},[r,q].idxOf j<2->j=r\/j=q:=fun {j} hj=>by
  have:=(idx_mem (rs:=[r,q])).1 (by simpa using hj);simpa using this
 refine YS hv0 ha [r,q] 2 hS.h (by simp[hrq]) iS ?_ ?_ ?_ ?_ (hS.fx.refs (fun p=>by simp[Hm]) (fun p=>by simp[Hm])) ?_ (fun i p h1 h2=>by simp at h2;omega) (hS.fx.ren (fun p=>by simp[QK]) hd (fun p=>by simp[QK]) hd1) ?_ hck h
 ·exact hS.fa.ren d0 (fun _=>rfl) d1 (fun _=>rfl)
 ·exact hS.fa.refs (fun p=>by simp[QL]) (fun p=>by simp[QL,i1])
 ·funext o;cases o with
  |nil=>rfl
  |cons i p=>
   by_cases hi:i<2
   ·simp only[Ng,if_pos hi];have h01:i=0\/i=1:=oF
    rcases h01 with rfl|rfl
    ·show(H (r::p)).ren _ _ 0=_;rw[hF];simp only[Bg,if_true];exact(F.ren d0 (fun _=>rfl) d1 (fun _=>rfl) p).1
    ·show(H (q::p)).ren _ _ 0=_;rw[hG];simp only[Bg,if_true];rw[if_neg oF];exact(F.ren d0 (fun _=>rfl) d1 (fun _=>rfl) p).2
   ·simp only[Ng,if_neg hi,Bg];rw[if_neg oF,if_neg oF];rfl
 ·intro j p hj;rcases jin hj with rfl|rfl
  ·rw[hF];exact(F.refs (fun p=>by simp[QL]) (fun p=>by simp[QL,i1]) p).1
  ·rw[hG];exact(F.refs (fun p=>by simp[QL]) (fun p=>by simp[QL,i1]) p).2
 ·intro i p hi;have hi:i<2:=hi;by_cases h0:i=0
  ·subst h0;simp only[Bg,if_true];exact(F'.refs (fun q=>by simp[Hm]) (fun q=>by simp[Hm]) p).1
  ·have:i=1:=oF
   subst this;simp only[Bg,if_true];rw[if_neg oF];exact(F'.refs (fun q=>by simp[Hm]) (fun q=>by simp[Hm]) p).2
 ·have u0:∀p,QK [r,q] (0::p)=r::p:=fun p=>by simp[QK]
  have u1:∀p,QK [r,q] (1::p)=q::p:=fun p=>by simp[QK]
  funext o;cases o with
  |nil=>rfl
  |cons j p=>
   by_cases hj:j=r
   ·subst hj;simp only[Nt,Bg,if_true];rw[if_pos iS,i0,if_pos rfl,hd];exact(F'.ren u0 hd u1 hd1 p).1
   ·by_cases hj2:j=q
    ·subst hj2;simp only[Nt,Bg,if_true,if_neg hj];rw[if_pos iS,i1,if_neg oF,if_pos rfl,hd1];exact(F'.ren u0 hd u1 hd1 p).2
    ·have:¬[r,q].contains j=true:=by simp[hj,hj2]
     simp only[Nt,if_neg this,Bg,if_neg hj,if_neg hj2]
end
theorem BZ{P:Program}{f:FuncId}{n:Nat}{rs:List ResultVar}{cc:CC}{as':Nat->Nat->List A}{F F':Rd}{x:Nat->Nat->A}(t:BT P f n rs cc)(ha:(as' 0 1).length<=n)(h0:Tv as')(h1:RS x)
  (h:∀w0 I0 M0 m0,WPC (DC P w0 I0 M0 n m0) cc (Pe (DC P w0 I0 M0 n m0) rs 2 (x 0 1) (ov 0 (F'.B 0 1) (ov 1 (F'.C 0 1) (Gz [])))) ⟨QC (as' 0 1),ov 0 (F.B 0 1) (ov 1 (F.C 0 1) (Gz []))⟩):Hv P f as' F x F':=
 ⟨h0,h1,ir t ha h⟩
theorem FD{P:Program}{K:Sta->Prop}{rest:List CO}{s:Nat->A}{H:Hp}{dd:Option Nat}{nm:Nm}{ix:Nat}{un:List Nat}{l:Bool}{lg:Lg}{g:FuncId}{aa:Array Operand}{ts:Array TypeId}{ars:Nat->List A}{F:Fam}{x:Nat->A}(r:Nat)(hS:SpecF P g ars F x F)(hF:∀p,H (r::p)=F.F r p)(ha:aa.toList.map (evs s)=ars r)(hck:Ck un lg ⟨[([r],true)],[]⟩)
  (h:AB P K rest (B9 l ix ⟨[([r],true)],[]⟩ lg) (Sta.put ⟨s,H⟩ dd (x r) H)) :
  AB P K (⟨dd,.call { callee:=.value (.func g),args:=aa,argTypes:=ts },none,nm,ix,un,l⟩::rest) lg ⟨s,H⟩:=by
 refine cV .nil [([r],true)] [] (fun H2 hag=>?_) (fun o H2 ho=>rfl) hck h;rw[ha];have hF2:∀p,H2 (r::p)=F.F r p:=fun p=>by rw[hag (r::p) (by simp[VN,R6,List.isPrefixOf]),hF]
 obtain⟨E,hc,hE⟩:=Y3 r hS hF2;have hc3:Tk P H2 g (ars r) (x r) E:=by
  rcases hc with ⟨_,_,_,_,h5⟩|⟨_,_,_,h4⟩|⟨h1,_⟩
  ·cases h5
  ·cases h4
  ·exact h1 H2 (fun o _=>rfl)
 have e2:ov r (F.F r) H2=H2:=by
  funext o;cases o with
  |nil=>rfl
  |cons j p=>
   by_cases hj:j=r
   ·subst hj;simp[hF2]
   ·simp[hj]
 rw[e2]at hE;refine⟨hc3.1,fun c w I μ vs a b d e=>?_⟩;have:=hc3.2 c w I μ vs a b d e;rw[hE]at this;exact this
end Go.G
namespace Go.PL
def Wd(stop:Nat->Bool)(pl:List Nat):Nat->Nat->Nat
 |0,a=>a
 |f+1,a=>if pl.getD a 0=0 then a else if stop (pl.getD a 0)=true then a else Wd stop pl f ((a+1) % pl.length)
theorem W0(a d m:Nat):((a+1) % m+d) % m=(a+(d+1)) % m:=by
 rw[Nat.mod_add_mod];congr 1;omega
theorem pZ{stop:Nat->Bool}{pl:List Nat}:∀(f a d:Nat),a<pl.length->d<f->pl.getD ((a+d) % pl.length) 0=0 ->
  Wd stop pl f a<pl.length/\(pl.getD (Wd stop pl f a) 0=0\/stop (pl.getD (Wd stop pl f a) 0)=true) /\
   ∃k,Wd stop pl f a=(a+k) % pl.length/\∀e,e<k->pl.getD ((a+e) % pl.length) 0≠0/\stop (pl.getD ((a+e) % pl.length) 0)=false:=by
 intro f;induction f with
 |zero=>intro a d _ h;omega
 |succ f ih=>
  intro a d ha hd hz;unfold Wd;have hself:∃k,a=(a+k) % pl.length/\∀e,e<k->pl.getD ((a+e) % pl.length) 0≠0/\stop (pl.getD ((a+e) % pl.length) 0)=false:=⟨0,by rw[Nat.add_zero,Nat.mod_eq_of_lt ha],fun e he=>oF⟩;split
  ·rename_i h0;exact⟨ha,.inl h0,hself⟩
  ·rename_i h0;split
   ·rename_i h1;exact⟨ha,.inr h1,hself⟩
   ·rename_i h1;cases d with
    |zero=>rw[Nat.add_zero,Nat.mod_eq_of_lt ha]at hz;exact absurd hz h0
    |succ d=>
     obtain⟨p1,p2,k,p3,p4⟩:=ih ((a+1) % pl.length) d (Nat.mod_lt _ oF) oF (by rw[W0];exact hz);refine⟨p1,p2,k+1,by rw[p3,W0],fun e he=>?_⟩;cases e with
     |zero=>rw[Nat.add_zero,Nat.mod_eq_of_lt ha];exact⟨h0,by simpa using h1⟩
     |succ e=>
      have:=p4 e oF
      rwa [W0]at this
structure Pl(hs:List Nat)(pl:List Nat):Prop where
 cnt:pl.countP (fun v=>v != 0)=hs.length
 vals:∀v,v∈pl->v<=hs.length
 reach:∀(c:Nat)(hc:c<hs.length),∃d,pl[(hs[c]+d) % pl.length]? = some (c+1)/\∀e,e<d->pl.getD ((hs[c]+e) % pl.length) 0≠0
theorem Pl.free{hs pl:List Nat}(h:Pl hs pl)(hl:hs.length<pl.length)(a:Nat):∃d,d<pl.length/\pl.getD ((a+d) % pl.length) 0=0:=by
 have hm:∃v,v∈pl/\v=0:=by
  apply Classical.byContradiction;intro hn;have:pl.countP (fun v=>v != 0)=pl.length:=List.countP_eq_length.2 fun v hv=>by
   simp only[bne_iff_ne,ne_eq];exact fun e=>hn ⟨v,hv,e⟩
  have:=h.cnt;omega
 obtain⟨v,hv,rfl⟩:=hm;obtain⟨i,hi,e⟩:=List.mem_iff_getElem.1 hv;refine⟨(i+(pl.length-a % pl.length)) % pl.length,Nat.mod_lt _ oF,?_⟩;have:(a+(i+(pl.length-a % pl.length)) % pl.length) % pl.length=i:=by
  rw[Nat.add_mod_mod];have h1:=Nat.mod_lt a (show 0<pl.length from oF);have h2:=Nat.div_add_mod a pl.length;have h3:a+(i+(pl.length-a % pl.length))=i+pl.length*(a / pl.length+1):=by
   rw[Nat.mul_add,Nat.mul_one];omega
  rw[h3,Nat.add_mul_mod_self_left,Nat.mod_eq_of_lt hi]
 rw[this];simp[hi,e]
theorem iM{pl:List Nat}{a v:Nat}(ha:a<pl.length)(h0:pl.getD a 0=0)(hv:v≠0):(pl.set a v).countP (fun v=>v != 0)=pl.countP (fun v=>v != 0)+1:=by
 induction pl generalizing a with
 |nil=>simp at ha
 |cons x l ih=>
  cases a with
  |zero=>
   simp at h0;subst h0;simp[hv]
  |succ a=>
   simp only[List.set_cons_succ,List.countP_cons];rw[ih (by simpa using ha) (by simpa using h0)];omega
theorem Pl.ins{hs pl:List Nat}(h:Pl hs pl){x a k:Nat}(ha:a<pl.length)(h0:pl.getD a 0=0)(he:a=(x+k) % pl.length)(hk:∀e,e<k->pl.getD ((x+e) % pl.length) 0≠0):Pl (hs++[x]) (pl.set a (hs.length+1)):=by
 have hmod:∀y,y % pl.length<pl.length:=fun y=>Nat.mod_lt _ oF;have nz:∀y,pl.getD (y % pl.length) 0≠0->(pl.set a (hs.length+1)).getD (y % pl.length) 0≠0:=fun y hy=>by
  have hne:a≠y % pl.length:=fun e=>hy (by rw[<-e];exact h0);simpa[List.getD_eq_getElem?_getD,List.getElem?_set_ne hne]using hy
 refine⟨?_,fun v hv=>?_,fun c hc=>?_⟩
 ·rw[iM ha h0 oF,h.cnt];simp
 ·rw[List.length_append,List.length_singleton];rcases List.mem_or_eq_of_mem_set hv with hv|rfl
  ·have:=h.vals v hv;omega
  ·omega
 ·simp only[List.length_set];by_cases hcl:c<hs.length
  ·obtain⟨d,h1,h2⟩:=h.reach c hcl;rw[List.getElem_append_left hcl];refine⟨d,?_,fun e he=>nz _ (h2 e he)⟩;have hne:a≠(hs[c]+d) % pl.length:=fun e=>by
    rw[<-e]at h1;rw[List.getD_eq_getElem?_getD,h1]at h0;simp at h0
   rw[List.getElem?_set_ne hne,h1]
  ·have:c=hs.length:=by simp at hc;omega
   subst this;rw[List.getElem_append_right (CX _)];simp only[Nat.sub_self,List.getElem_cons_zero];refine⟨k,?_,fun e he=>nz _ (hk e he)⟩;rw[<-he,List.getElem?_set_self ha]
def insP(pl:List Nat)(x v:Nat):List Nat:=pl.set (Wd (fun _=>false) pl pl.length (x % pl.length)) v
def m9:List Nat->Nat->List Nat->List Nat
 |pl,_,[]=>pl
 |pl,i,x::hs=>m9 (insP pl x (i+1)) (i+1) hs
@[simp]theorem Aaq{pl:List Nat}{x v:Nat}:(insP pl x v).length=pl.length:=by simp[insP]
theorem Pl.nil(m:Nat):Pl [] (List.replicate m 0):=by
 refine⟨?_,fun v hv=>?_,fun c hc=>?_⟩
 ·simp[List.countP_replicate]
 ·simp at hv;omega
 ·simp at hc
theorem vg{stop:Nat->Bool}{pl:List Nat}{x:Nat}{hs:List Nat}(h:Pl hs pl)(hl:hs.length<pl.length) :
  Wd stop pl pl.length (x % pl.length)<pl.length/\(pl.getD (Wd stop pl pl.length (x % pl.length)) 0=0\/stop (pl.getD (Wd stop pl pl.length (x % pl.length)) 0)=true) /\
   ∃k,Wd stop pl pl.length (x % pl.length)=(x+k) % pl.length/\∀e,e<k->pl.getD ((x+e) % pl.length) 0≠0/\stop (pl.getD ((x+e) % pl.length) 0)=false:=by
 obtain⟨d,h1,h2⟩:=h.free hl (x % pl.length);have:=pZ (stop:=stop) pl.length (x % pl.length) d (Nat.mod_lt _ oF) h1 h2;simpa using this
theorem Pl.insP{hs pl:List Nat}(h:Pl hs pl)(hl:hs.length<pl.length)(x:Nat):Pl (hs++[x]) (insP pl x (hs.length+1)):=by
 obtain⟨h1,h2,k,h3,h4⟩:=vg (stop:=fun _=>false) (x:=x) h hl;refine h.ins h1 (h2.resolve_right iS) h3 fun e he=>(h4 e he).1
theorem Pl.grow:∀{hs2 hs pl:List Nat},Pl hs pl->hs.length+hs2.length<=pl.length->Pl (hs++hs2) (m9 pl hs.length hs2)
 |[],hs,pl,h,_=>by simpa[m9]using h
 |x::hs2,hs,pl,h,hl=>by
  simp only[List.length_cons]at hl;have h1:=h.insP oF x;have:=Pl.grow (hs2:=hs2) h1 (by simp;omega);rw[List.append_assoc]at this;simpa[m9]using this
noncomputable def FN(ks:List T)(n:T):Nat:=ks.findIdx (fun k=>GM k n)
noncomputable def GY(ks:List T)(n:T):List T:=if FN ks n<ks.length then ks else ks++[n]
theorem yT{ks:List T}{n:T}{i:Nat}(h:i<ks.length)(e:ks[i]=n)(hd:ks.Nodup):FN ks n=i:=by
 have h1:FN ks n<=i:=by
  apply Classical.byContradiction;intro hn;have:=List.not_of_lt_findIdx (p:=fun k=>GM k n) (xs:=ks) (i:=i) (by unfold FN at hn;omega);simp[sameB_iff.2 e]at this
 have h2:FN ks n<ks.length:=oF
 have h3:ks[FN ks n]=n:=sameB_iff.1 (List.findIdx_getElem (p:=fun k=>GM k n) (w:=h2));apply Classical.byContradiction;intro hn;have h4:FN ks n<i:=oF
 have:=List.pairwise_iff_getElem.1 hd _ _ h2 h h4;exact this (by rw[h3,e])
theorem qq{ks:List T}{n:T}(h:n∉ks):FN ks n=ks.length:=by
 unfold FN;rw[List.findIdx_eq_length];intro x hx;rw[Bool.eq_false_iff];intro e;rw[sameB_iff]at e;subst e;exact h hx
theorem ow(ks:List T)(n:T):FN ks n<=ks.length:=List.findIdx_le_length
theorem yA{ks:List T}{n:T}:FN ks n<ks.length↔n∈ks:=by
 constructor
 ·intro h;have h3:ks[FN ks n]=n:=sameB_iff.1 (List.findIdx_getElem (p:=fun k=>GM k n) (w:=h));rw[<-h3];exact De _
 ·intro h;have:=ow ks n;apply Classical.byContradiction;intro hn;have e:FN ks n=ks.length:=oF
  have:=(List.findIdx_eq_length (p:=fun k=>GM k n) (xs:=ks)).1 e n h;rw[Bool.eq_false_iff]at this;exact this (sameB_iff.2 rfl)
theorem kM{ks:List T}{n:T}(h:ks.Nodup):(GY ks n).Nodup:=by
 unfold GY;split
 ·exact h
 ·rename_i hn;rw[yA]at hn;rw[List.nodup_append];exact⟨h,iS,fun a ha b hb=>by simp at hb;subst hb;exact fun e=>hn (e ▸ ha)⟩
noncomputable def C6:List T->List T->List T × List Nat
 |ks,[]=>(ks,[])
 |ks,t::l=>((C6 (GY ks (Af t)) l).1,FN ks (Af t)::(C6 (GY ks (Af t)) l).2)
end Go.PL
namespace Go.Proofs.YtlaapfplenlfaaaGreat
open Go Go.G Go.Proofs Go.PL
structure Cl where
 l:List (List Int)
 r:Rf
 t:T
noncomputable def Cl.h(c:Cl):Int:=Aa9 (Af c.t)
noncomputable def Cl.hn(c:Cl):Nat:=c.h.toNat
abbrev clL(h:Int)(l:List (List Int))(r:Rf):List A:=uv h::paL l r
noncomputable def Cl.a(c:Cl):A:=.agg (clL c.h c.l c.r)
abbrev nv(n:Nat):A:=iv (n:Int)
structure Tb where
 u:Nat
 uc:Nat
 up:Nat
 cl:List Cl
 pl:List Nat
structure Tb.Ok(S:Tb):Prop where
 p8:8<=S.pl.length
 half:2*S.cl.length<=S.pl.length
 most:S.pl.length<=8+4*S.cl.length
 pl:Pl (S.cl.map Cl.hn) S.pl
 means:∀c,c∈S.cl->Sg c.l/\oJ c.l c.r c.t
 nd:(S.cl.map fun c=>Af c.t).Nodup
noncomputable def Tb.ks(S:Tb):List T:=S.cl.map fun c=>Af c.t
@[simp]theorem Tb.ks_length(S:Tb):S.ks.length=S.cl.length:=by simp[Tb.ks]
theorem Tb.Ok.lt{S:Tb}(h:S.Ok):S.cl.length<S.pl.length:=by have:=h.p8;have:=h.half;omega
structure Tb.Ok1(S:Tb):Prop where
 p8:8<=S.pl.length
 half:2*S.cl.length<=S.pl.length+2
 most:S.pl.length<=8+4*S.cl.length
 pl:Pl (S.cl.map Cl.hn) S.pl
 means:∀c,c∈S.cl->Sg c.l/\oJ c.l c.r c.t
 nd:(S.cl.map fun c=>Af c.t).Nodup
theorem Tb.Ok1.ok{S:Tb}(h:S.Ok1)(hf:¬S.pl.length<2*S.cl.length):S.Ok:=⟨h.p8,oF,h.most,h.pl,h.means,h.nd⟩
variable {n0:Nat} {w0:World} {I0:Nat->Prop} {Q:Exit->Sta->Prop}
end Go.Proofs.YtlaapfplenlfaaaGreat
namespace Go.G
open Go.RowKit
theorem Sim.move{c:Cx}{w:World}{I:Nat->Prop}{μ:Mu}{H:Hp}(hs:Sim c w I μ H){d d':Nm}(hne:d≠d')(h0:(H d').u=0)(h1:1<=(H d).u)(hM:∀b,¬c.M0 d b)(htg:∀e,Fh d' e=true) :
  Ext I μ w I (AK μ d' (μ d)) w/\Sim c w I (AK μ d' (μ d)) (AK (AK H d' (H d)) d ⟨(H d).u,.none⟩):=by
 have hu0:(μ d').u=0:=by rw[hs.ver,h0]
 have hu1:1<=(μ d).u:=by rw[hs.ver];exact h1
 have hm:MuLe μ (AK μ d' (μ d)):=fun o=>by
  by_cases e:o=d'
  ·subst e;rw[Dv];exact⟨oF,fun e=>oF⟩
  ·rw[AI e];exact⟨CX _,fun _=>rfl⟩
 have hx:Ext I μ w I (AK μ d' (μ d)) w:=⟨fun b h=>h,fun b h=>rfl,hm⟩;have hd:(AK (AK H d' (H d)) d ⟨(H d).u,.none⟩:Hp) d=⟨(H d).u,.none⟩:=Dv;have hd':(AK (AK H d' (H d)) d ⟨(H d).u,.none⟩:Hp) d'=H d:=by rw[AI (Ne.symm hne),Dv]
 have hoth:∀o,o≠d->o≠d'->(AK (AK H d' (H d)) d ⟨(H d).u,.none⟩:Hp) o=H o:=fun o e1 e2=>by rw[AI e1,AI e2]
 -- who has a block has it in the old state,under an old name
 have old:∀o,Es (AK μ d' (μ d) o) ((AK (AK H d' (H d)) d ⟨(H d).u,.none⟩:Hp) o).ob=true->∃p,Es (μ p) (H p).ob=true/\(AK μ d' (μ d) o)=μ p/\(o=d'/\p=d\/o≠d'/\o≠d/\p=o):=fun o h=>by
  by_cases e1:o=d
  ·subst e1;rw[hd]at h;cases h
  ·by_cases e2:o=d'
   ·subst e2;rw[hd',Dv]at h;exact⟨d,h,Dv,.inl ⟨rfl,rfl⟩⟩
   ·rw[hoth o e1 e2,AI e2]at h;exact⟨o,h,AI e2,.inr ⟨e2,e1,rfl⟩⟩
 refine⟨hx,hs.kept,hs.lt,hs.old,hs.new,fun o=>?_,fun o=>?_,fun o o' k k' hoo=>?_,fun o k=>?_,hs.mle.trans hm,fun o k=>?_,hs.tab⟩
 ·by_cases e1:o=d
  ·subst e1;rw[hd,AI hne];exact hs.ver o
  ·by_cases e2:o=d'
   ·subst e2;rw[hd',Dv];exact hs.ver d
   ·rw[hoth o e1 e2,AI e2];exact hs.ver o
 ·by_cases e1:o=d
  ·subst e1;rw[hd];trivial
  ·by_cases e2:o=d'
   ·subst e2;rw[hd',Dv];exact OSim.keep hx (fun _=>rfl) (hs.ob d)
   ·rw[hoth o e1 e2,AI e2];exact OSim.keep hx (fun _=>rfl) (hs.ob o)
 ·obtain⟨p,k1,k2,k3⟩:=old o k;obtain⟨p',g1,g2,g3⟩:=old o' k';rw[k2,g2];refine hs.apart p p' k1 g1 fun e=>hoo ?_;rcases k3 with ⟨a1,a2⟩|⟨a1,a2,a3⟩<;>rcases g3 with ⟨b1,b2⟩|⟨b1,b2,b3⟩
  ·rw[a1,b1]
  ·exact absurd (by rw[<-b3,<-e,a2]) b2
  ·exact absurd (by rw[<-a3,e,b2]) a2
  ·rw[<-a3,<-b3,e]
 ·obtain⟨p,k1,k2,k3⟩:=old o k;rw[k2];obtain⟨q1,q2,q3⟩:=hs.own p k1;refine⟨q1,?_,q3⟩;rcases k3 with ⟨a1,a2⟩|⟨a1,a2,a3⟩
  ·subst a2;rcases q2 with h|h
   ·exact(hM _ h).elim
   ·exact .inr h
  ·subst a3;exact q2
 ·obtain⟨p,k1,k2,k3⟩:=old o k;rw[k2];rcases k3 with ⟨a1,a2⟩|⟨a1,a2,a3⟩
  ·rw[a1];exact htg _
  ·rw[<-a3];exact hs.tag p k1
theorem Qm{c:Cx}{s:Nat->A}{H:Hp}(R:Nat->Prop)[DecidablePred R](hM:∀r p b,R r->¬c.M0 (r::p) b)(t:Nat)(a:A)(hf:∀H1:Hp,(∀r p,R r->H1 (r::p)=H (r::p))->Jl H1 (s t) a) :
  ∃H2:Hp,Le c ⟨s,H⟩ ⟨upd s t a,H2⟩/\∀r p,¬R r->H2 (r::p)=H (r::p):=by
 refine⟨fun o=>match o with|r::p=>if R r then ⟨(H (r::p)).u,.none⟩else H (r::p)|[]=>H [],Zb (H1:=fun o=>match o with|r::p=>if R r then H (r::p)else ⟨(H (r::p)).u,.none⟩|[]=>⟨(H []).u,.none⟩) (fun o b h=>?_) t a (fun o=>?_) (fun o=>?_) (fun o=>?_) (hf _ fun r p h=>if_pos h),fun r p h=>if_neg h⟩
 ·cases o with
  |nil=>exact absurd rfl h
  |cons r p=>
   by_cases hr:R r
   ·exact hM r p b hr
   ·exact absurd (by simp[hr]) h
 ·cases o with
  |nil=>exact .inr rfl
  |cons r p=>
   by_cases hr:R r
   ·exact .inl (by simp[hr])
   ·exact .inr (by simp[hr])
 ·cases o with
  |nil=>exact .inl rfl
  |cons r p=>
   by_cases hr:R r
   ·exact .inr (by simp[hr])
   ·exact .inl (by simp[hr])
 ·cases o with
  |nil=>exact .inl rfl
  |cons r p=>
   by_cases hr:R r
   ·exact .inr (by simp[hr])
   ·exact .inl (by simp[hr])
theorem G7{c:Cx}{s:Nat->A}{H:Hp}(R:Nat->Prop)[DecidablePred R](hM:∀r p b,R r->¬c.M0 (r::p) b){r0:Nat}{p0:Nm}(hr0:¬R r0){u:Nat}{cs cs':List A}(hd:H (r0::p0)=⟨u,.cells cs⟩)(h1:A.ones cs'=true)
  (hf:∀H1:Hp,(∀r p,R r->H1 (r::p)=H (r::p))->HF H1 cs cs') :
  ∃H2:Hp,Le c ⟨s,H⟩ ⟨s,AK H2 (r0::p0) ⟨u,.cells cs'⟩⟩/\∀r p,¬R r->H2 (r::p)=H (r::p):=by
 refine⟨fun o=>match o with|r::p=>if R r then ⟨(H (r::p)).u,.none⟩else H (r::p)|[]=>H [],fun a w I μ hs=>?_,fun r p h=>if_neg h⟩;have part1:Part H (fun o=>match o with|r::p=>if R r then H (r::p)else ⟨(H (r::p)).u,.none⟩|[]=>⟨(H []).u,.none⟩):=fun o=>by
  cases o with
  |nil=>exact .inr rfl
  |cons r p=>
   by_cases hr:R r
   ·exact .inl (by simp[hr])
   ·exact .inr (by simp[hr])
 have part2:Part H (fun o=>match o with|r::p=>if R r then ⟨(H (r::p)).u,.none⟩else H (r::p)|[]=>H []):=fun o=>by
  cases o with
  |nil=>exact .inl rfl
  |cons r p=>
   by_cases hr:R r
   ·exact .inr (by simp[hr])
   ·exact .inl (by simp[hr])
 have h3:=hs.sim.freezeAll part1 part2 (fun o=>by
  cases o with
  |nil=>exact .inl rfl
  |cons r p=>
   by_cases hr:R r
   ·exact .inr (by simp[hr])
   ·exact .inl (by simp[hr])) (fun o b h=>by
  cases o with
  |nil=>exact absurd rfl h
  |cons r p=>
   by_cases hr:R r
   ·exact hM r p b hr
   ·exact absurd (by simp[hr]) h)
 have hd2:(fun o=>match o with|r::p=>if R r then (⟨(H (r::p)).u,.none⟩:VOb)else H (r::p)|[]=>H []:Hp) (r0::p0)=⟨u,.cells cs⟩:=by
  show(if R r0 then _ else _)=_;rw[if_neg hr0,hd]
 have hob:=hs.sim.ob (r0::p0);have hob:OSim w I μ (μ (r0::p0)) (.cells cs):=by
  have e:(⟨s,H⟩:Sta).H (r0::p0)=⟨u,.cells cs⟩:=hd;rw[e]at hob;exact hob
 obtain⟨vs,k1,k2,k3⟩:=hob;obtain⟨hl,hg⟩:=Lz (hf (fun o=>match o with|r::p=>if R r then H (r::p)else ⟨(H (r::p)).u,.none⟩|[]=>⟨(H []).u,.none⟩) fun r p h=>if_pos h);have hB:Es (μ (r0::p0)) ((fun o=>match o with|r::p=>if R r then (⟨(H (r::p)).u,.none⟩:VOb)else H (r::p)|[]=>H []:Hp) (r0::p0)).ob=true:=by rw[hd2];rfl
 obtain⟨hx2,hs2⟩:=h3.upd (EX w none) (r0::p0) (μ (r0::p0)) (.cells cs') (.inl rfl) (.inr rfl) (fun _=>.inr ⟨hB,rfl⟩) (fun _=>h3.tag _ hB) (fun hx2=>by
  refine⟨vs,k1,by rw[k2,hl],fun k y hk=>?_⟩;rw[D5];obtain⟨x,hx,hfx⟩:=hg k y hk;simp only[A.ones,List.all_eq_true]at h1;exact⟨h1 y (List.mem_of_getElem? hk),(hfx c w I μ _ (hs.sim.part part1) (k3 k x hx).2).ofI⟩)
 have hu:(μ (r0::p0)).u=u:=by exact(h3.ver (r0::p0)).trans (congrArg VOb.u hd2)
 rw[hu]at hs2;exact⟨_,_,hs2,hs.size,hs.defers,fun t=>hx2.rel ((hs.rel t).mono0 (fun b h=>.inl h) (fun _ _=>rfl))⟩
theorem Hh{P:Program}{f:FuncId}{n:Nat}{rs:List ResultVar}{cc:CC}{as':Nat->List A}{F F':Fam}{x:Nat->A}(t:BT P f n rs cc)(ha:(as' 0).length<=n)(h0:FamL as')(h1:DV x)
  (h:∀w0 I0 M0 m0,(∀r p b,1<=r->¬M0 (r::p) b)->WPC (DC P w0 I0 M0 n m0) cc (Pe (DC P w0 I0 M0 n m0) rs 1 (x 0) (ov 0 (F'.F 0) (Gz []))) ⟨QC (as' 0),ov 0 (F.F 0) (Gz [])⟩):SpecF P f as' F x F':=
 ⟨h0,h1,OI t ha fun w0 I0 M0 m0 hM=>h w0 I0 M0 m0 fun r p b hr=>hM (r::p) b (by
  simp only[Bg];rw[if_neg oF];rfl)⟩
end Go.G
namespace Go.Proofs.YtlaapfplenlfaaaGreat
open Go Go.G Go.Proofs Go.PL
abbrev z0:List A:=[iv 0,.sl true [],.sl true []]
end Go.Proofs.YtlaapfplenlfaaaGreat
namespace Go.PL
def Fc{α:Type}(p:α->Bool)(l:List α):List α:=(l.reverse.dropWhile p).reverse
theorem Vx{α:Type}{p:α->Bool}(l:List α)(x:α):Fc p (l++[x])=if p x=true then Fc p l else l++[x]:=by
 unfold Fc;rw[List.reverse_append,List.reverse_singleton,List.singleton_append,List.dropWhile_cons];split<;>simp
theorem nT{α:Type}{P:List α->Prop}(h0:P [])(h1:∀l x,P l->P (l++[x]))(l:List α):P l:=by
 have:∀m:List α,P m.reverse:=by
  intro m;induction m with
  |nil=>exact h0
  |cons x m ih=>rw[List.reverse_cons];exact h1 _ _ ih
 have:=this l.reverse
 rwa [List.reverse_reverse]at this
theorem F7{α:Type}{p:α->Bool}{z:α}(l:List α):(∀x,x∈l->p x=true->x=z)->∀i,(Fc p l).getD i z=l.getD i z:=by
 refine nT (P:=fun l=>(∀x,x∈l->p x=true->x=z)->∀i,(Fc p l).getD i z=l.getD i z) (fun _ i=>rfl) (fun l x ih h i=>?_) l;rw[Vx];split
 ·rename_i hx;rw[ih (fun y hy=>h y (by simp[hy])) i];have:=h x iS hx;subst this;simp only[List.getD_eq_getElem?_getD,List.getElem?_append];split
  ·rfl
  ·rw[List.getElem?_eq_none oF];by_cases e:i-l.length=0
   ·simp[e]
   ·rw[List.getElem?_eq_none (by simp;omega)]
 ·rfl
theorem kg{α:Type}{p:α->Bool}{z:α}(l:List α):Fc p l≠[]->p ((Fc p l).getD ((Fc p l).length-1) z)=false:=by
 refine nT (P:=fun l=>Fc p l≠[]->p ((Fc p l).getD ((Fc p l).length-1) z)=false) (fun h=>absurd rfl h) (fun l x ih h=>?_) l;rw[Vx]at h ⊢;split
 ·rename_i hx;rw[if_pos hx]at h;exact ih h
 ·rename_i hx;simp at hx ⊢;exact hx
theorem dH{α:Type}{p:α->Bool}{z:α}(hz:p z=true){a b:List α}(ha:∀x,x∈a->p x=true->x=z)(hb:∀x,x∈b->p x=true->x=z):Fc p a=Fc p b↔∀i,a.getD i z=b.getD i z:=by
 constructor
 ·intro h i;rw[<-F7 a ha,h,F7 b hb]
 ·intro h;have h':∀i,(Fc p a).getD i z=(Fc p b).getD i z:=fun i=>by rw[F7 a ha,F7 b hb,h]
  have one:∀c d:List α,(∀i,(Fc p c).getD i z=(Fc p d).getD i z)->(Fc p c).length<=(Fc p d).length:=fun c d hcd=>by
   by_cases e:Fc p c=[]
   ·simp[e]
   ·have hl:=kg (z:=z) c e;have hpos:0<(Fc p c).length:=List.length_pos_iff.2 e;rw[hcd]at hl;refine Nat.le_of_not_lt fun hlt=>?_;rw[List.getD_eq_getElem?_getD,List.getElem?_eq_none oF]at hl;simp[hz]at hl
  have hlen:(Fc p a).length=(Fc p b).length:=Nat.le_antisymm (one a b h') (one b a fun i=>(h' i).symm);apply List.ext_getElem hlen;intro i h1 h2;have:=h' i;simpa[List.getD_eq_getElem?_getD,h1,h2]using this
theorem UL(l:List Int):EO l=Fc (fun x=>x == 0) l:=rfl
theorem Uy(l:List T):DG l=Fc (fun x=>x.kind == 0) l:=rfl
theorem uL{a b:List Int}:EO a=EO b↔∀i,a.getD i 0=b.getD i 0:=by
 rw[UL,UL];exact dH rfl (fun x _ h=>by simpa using h) (fun x _ h=>by simpa using h)
theorem Ir{t:T}(h:t.kind=0):Af t=T0:=by cases t;simp at h;rw[Cw,if_pos h]
theorem Rm:Af T0=T0:=Ir rfl
theorem Fv(l:List T)(i:Nat):(l.map Af).getD i T0=Af (l.getD i T0):=by
 simp only[List.getD_eq_getElem?_getD,List.getElem?_map];cases l[i]? with
 |none=>simp[Rm]
 |some x=>rfl
theorem tG{a b:List T}:DG (a.map Af)=DG (b.map Af)↔∀i,Af (a.getD i T0)=Af (b.getD i T0):=by
 have hz:∀c:List T,∀x,x∈c.map Af->(x.kind == 0)=true->x=T0:=fun c x hx h0=>by
  obtain⟨y,_,rfl⟩:=List.mem_map.1 hx;simp at h0;exact Ir h0
 rw[Uy,Uy,dH (z:=T0) rfl (hz a) (hz b)];constructor
 ·intro h i;rw[<-Fv,<-Fv];exact h i
 ·intro h i;rw[Fv,Fv];exact h i
theorem struct_eq{w w':List Int}{a b:List T}:Af (.mk 1 w a)=Af (.mk 1 w' b)↔(∀i,w.getD i 0=w'.getD i 0)/\∀i,Af (a.getD i T0)=Af (b.getD i T0):=by
 rw[Cw,Cw];simp only[if_neg (show ¬(1:Int)=0 by decide),if_true,T.mk.injEq,true_and];rw[uL,tG]
theorem LI{k:Int}{w w':List Int}{a b:List T}(h0:k≠0)(h1:k≠1):Af (.mk k w a)=Af (.mk k w' b)↔w=w'/\a.map Af=b.map Af:=by
 rw[Cw,Cw];simp[h0,h1]
theorem B8:∀t,Af (Af t)=Af t:=by
 refine T.ind fun k w ks ih=>?_;have hm:(ks.map Af).map Af=ks.map Af:=by
  rw[List.map_map];exact List.map_congr_left fun x hx=>ih x hx
 rw[Cw];split
 ·exact Rm
 ·rename_i h0;split
  ·rename_i h1;subst h1;rw[struct_eq (w':=w) (b:=ks)|>.2 ⟨fun i=>?_,fun i=>?_⟩,Cw]
   ·simp
   ·rw[UL];exact F7 w (fun x _ h=>by simpa using h) i
   ·have hz:∀x,x∈ks.map Af->(x.kind == 0)=true->x=T0:=fun x hx h0=>by
     obtain⟨y,_,rfl⟩:=List.mem_map.1 hx;simp at h0;exact Ir h0
    rw[Uy,F7 _ hz i,<-Fv,hm,Fv]
  ·rename_i h1;rw[Cw,if_neg h0,if_neg h1,hm]
end Go.PL
namespace Go.Proofs.YtlaapfplenlfaaaGreat
open Go Go.G Go.Proofs Go.PL
theorem Yz{a b:List T}(hl:a.length=b.length):a.map Af=b.map Af↔∀i,Af (a.getD i T0)=Af (b.getD i T0):=by
 constructor
 ·intro h i;rw[<-Fv,h,Fv]
 ·intro h;apply List.ext_getElem (by simpa using hl);intro i h1 h2;have:=h i;simp at h1 h2;simpa[List.getD_eq_getElem?_getD,h1,h2]using this
variable {n0:Nat} {w0:World} {I0:Nat->Prop} {Q:Exit->Sta->Prop}
def bm:Nat->Nat->Nat->Nat->Nat
 |0,_,_,_=>0
 |k+1,a,b,m=>(if m % 2=1 then b % 256 else a % 256)+256*bm k (a / 256) (b / 256) (m / 2)
def Er:Nat->Nat->Nat
 |0,_=>0
 |k+1,m=>(if m % 2=1 then 255 else 0)+256*Er k (m / 2)
theorem Vu:∀k m,Er k m<256 ^ k
 |0,m=>by simp[Er]
 |k+1,m=>by
  have:=Vu k (m / 2);simp only[Er,Nat.pow_succ];split<;>omega
theorem Zm:∀k a b m,a<256 ^ k->b<256 ^ k->(a &&& (256 ^ k-1-Er k m))||| (b &&& Er k m)=bm k a b m
 |0,a,b,m,ha,hb=>by
  simp at ha hb;subst ha hb;simp[bm,Er]
 |k+1,a,b,m,ha,hb=>by
  have hw:=Vu k (m / 2);rw[Nat.pow_succ]at ha hb;have ih:=Zm k (a / 256) (b / 256) (m / 2) oF oF;have p0:0<256 ^ k:=Nat.pow_pos dO;generalize hx:(a &&& (256 ^ (k+1)-1-Er (k+1) m))||| (b &&& Er (k+1) m)=x;have d1:Er (k+1) m / 256=Er k (m / 2):=by simp only[Er];split<;>omega
  have d2:(256 ^ (k+1)-1-Er (k+1) m) / 256=256 ^ k-1-Er k (m / 2):=by simp only[Er,Nat.pow_succ];split<;>omega
  have m1:Er (k+1) m % 256=if m % 2=1 then 255 else 0:=by simp only[Er];split<;>omega
  have m2:(256 ^ (k+1)-1-Er (k+1) m) % 256=if m % 2=1 then 0 else 255:=by simp only[Er,Nat.pow_succ];split<;>omega
  have e1:x / 256=bm k (a / 256) (b / 256) (m / 2):=by
   have q1:=@Nat.or_div_two_pow (a &&& (256 ^ (k+1)-1-Er (k+1) m)) (b &&& Er (k+1) m) 8;have q2:=@Nat.and_div_two_pow a (256 ^ (k+1)-1-Er (k+1) m) 8;have q3:=@Nat.and_div_two_pow b (Er (k+1) m) 8;have c:(2:Nat) ^ 8=256:=rfl;rw[q2,q3,c,d1,d2,hx]at q1;rw[q1,ih]
  have e2:x % 256=if m % 2=1 then b % 256 else a % 256:=by
   have h:x % 2 ^ 8=(a % 2 ^ 8 &&& (256 ^ (k+1)-1-Er (k+1) m) % 2 ^ 8)||| (b % 2 ^ 8 &&& Er (k+1) m % 2 ^ 8):=by
    rw[<-hx,Nat.or_mod_two_pow,Nat.and_mod_two_pow,Nat.and_mod_two_pow]
   have c:(2:Nat) ^ 8=256:=rfl;rw[c,m1,m2]at h;rw[h];have h255:(255:Nat)=2 ^ 8-1:=rfl;split
   ·rw[h255,Nat.and_two_pow_sub_one_eq_mod];simp
   ·rw[h255,Nat.and_two_pow_sub_one_eq_mod];simp
  simp only[bm];omega
theorem fY:∀(k:Nat)(a b mask:Int),0<=a->0<=b->0<=mask->gS ((List.range k).map fun i=>if AH mask i=true then (DZ k b).getD i 0 else (DZ k a).getD i 0)=(bm k a.toNat b.toNat mask.toNat:Nat)
 |0,a,b,mask,_,_,_=>by simp[gS,bm]
 |k+1,a,b,mask,ha,hb,hm=>by
  have ih:=fY k (a / 256) (b / 256) (mask / 2) oF oF oF;have e1:(a / 256).toNat=a.toNat / 256:=oF
  have e2:(b / 256).toNat=b.toNat / 256:=oF
  have e3:(mask / 2).toNat=mask.toNat / 2:=oF
  rw[e1,e2,e3]at ih;rw[List.range_succ_eq_map,List.map_cons,List.map_map,gS];have h:(List.range k).map ((fun i=>if AH mask i=true then (DZ (k+1) b).getD i 0 else (DZ (k+1) a).getD i 0) ∘ Nat.succ)=(List.range k).map fun i=>if AH (mask / 2) i=true then (DZ k (b / 256)).getD i 0 else (DZ k (a / 256)).getD i 0:=by
   refine List.map_congr_left fun i _=>?_;have hn:AH mask (i+1)=AH (mask / 2) i:=by
    unfold AH;have:mask / 2 ^ (i+1)=mask / 2 / 2 ^ i:=by
     rw[Int.ediv_ediv_of_nonneg dO,Int.pow_succ,Int.mul_comm]
    rw[this]
   simp[DZ,hn]
  rw[h,ih];have h0:(AH mask 0=true)=(mask.toNat % 2=1):=by
   simp[AH];omega
  simp only[h0,bm,DZ,List.getD_cons_zero];split<;>omega
theorem wH{a b mask:Int}(ha:Bs a)(hb:Bs b)(h0:0<=mask):A5 a b mask=(bm 8 a.toNat b.toNat mask.toNat:Nat):=by
 rw[<-fY 8 a b mask ha.1 hb.1 h0];unfold A5 RC Bb;rw[List.drop_eq_nil_of_le iS,List.append_nil]
def wS(mask:Int):Nat->Int
 |0=>0
 |i+1=>if bits .and .u8 (mask / 2 ^ min i 8) 1=1 then bits .or .u64 (wS mask i) (u64.wrap (255*2 ^ min (8*i) 64))else wS mask i
theorem Adk:∀m:Nat,m<256->wS m 8=(Er 8 m:Nat):=by decide +kernel
theorem p9{mask:Int}(hq:∀q,Q (.exit 0) ⟨lk [(0,u8 mask),(3,uv (wS mask 8)),(5,iv 8),(6,bv q)],Gz []⟩) :
  ∀(j i:Nat),i+j=8->LoopC (cx Tryz.prog w0 I0 n0) JF Q ⟨lk [(0,u8 mask),(3,uv (wS mask i)),(5,iv i)],Gz []⟩:=by
 intro j;induction j with
 |zero=>
  intro i hi;have:i=8:=oF
  subst this;refine Ad Ai JF.eq_1 ?_;simp;exact hq _
 |succ j ih=>
  intro i hi;refine Ad Ai JF.eq_1 ?_;have hlt:i<8:=oF
  have hlt2:(i:Int)<8:=oF
  have e8:i64.wrap (8*(i:Int))=((8*i:Nat):Int):=(Bq oF oF).trans oF;have ei:=AR i;have b8:IntKind.u8.bits=8:=rfl;have b64:u64.bits=64:=rfl;have hs:=ih (i+1) oF;rw[wS]at hs;have e9:(8*(i:Int)).toNat=8*i:=oF
  simp[hlt,hlt2,e8,ei,b8,b64,e9];refine⟨fun hc=>⟨oF,?_⟩,fun hc=>?_⟩
  ·rw[if_pos hc]at hs;exact hs
  ·rw[if_neg hc]at hs;exact hs
theorem VM{mask:Int}(h0:0<=mask)(h1:mask<256):G.Spec Tryz.prog 163 [u8 mask] (uv (Er 8 mask.toNat:Nat)):=by
 refine Ak eV iS fun w0 I0=>?_;unfold T6;simp;obtain⟨m,rfl⟩:=Int.eq_ofNat_of_zero_le h0;refine p9 (fun q=>?_) 8 0 rfl;simp;rw[Adk m oF];exact Ae rfl
theorem SN{x:Nat}(h:x<2 ^ 64):(BitVec.ofInt 64 (x:Int)).toNat=x:=by
 rw[BitVec.toNat_ofInt];omega
theorem Abw{x y:Nat}(hx:x<2 ^ 64)(hy:y<2 ^ 64):bits .and .u64 x y=(x &&& y:Nat):=by
 have h:=Nat.lt_of_le_of_lt (Nat.and_le_left (n:=x) (m:=y)) hx;show u64.wrap ((BitVec.ofInt 64 x &&& BitVec.ofInt 64 y).toNat:Nat)=_;rw[BitVec.toNat_and,SN hx,SN hy];exact HB oF oF
theorem Afk{x y:Nat}(hx:x<2 ^ 64)(hy:y<2 ^ 64):bits .or .u64 x y=(x||| y:Nat):=by
 have h:=Nat.or_lt_two_pow hx hy;show u64.wrap ((BitVec.ofInt 64 x||| BitVec.ofInt 64 y).toNat:Nat)=_;rw[BitVec.toNat_or,SN hx,SN hy];exact HB oF oF
theorem zX{x y:Nat}(hx:x<2 ^ 64)(hy:y<2 ^ 64):bits .andNot .u64 x y=(x &&& (256 ^ 8-1-y):Nat):=by
 have h:=Nat.lt_of_le_of_lt (Nat.and_le_left (n:=x) (m:=256 ^ 8-1-y)) hx;show u64.wrap ((BitVec.ofInt 64 x &&& ~~~ BitVec.ofInt 64 y).toNat:Nat)=_;rw[BitVec.toNat_and,BitVec.toNat_not,SN hx,SN hy];have e:(2:Nat) ^ 64-1-y=256 ^ 8-1-y:=rfl;rw[e];exact HB oF oF
theorem C8{a b mask:Int}(ha:Bs a)(hb:Bs b)(h0:0<=mask)(h1:mask<256):G.Spec Tryz.prog 125 [uv a,uv b,u8 mask] (uv (A5 a b mask)):=by
 refine Ak j4 iS fun w0 I0=>?_;unfold Ve;simp;refine Ag (VM h0 h1) iS ?_;simp;refine Ag (VM h0 h1) iS ?_;simp;refine K5 ?_;rw[wH ha hb h0];obtain⟨x,rfl⟩:=Int.eq_ofNat_of_zero_le ha.1;obtain⟨y,rfl⟩:=Int.eq_ofNat_of_zero_le hb.1;have hx:x<2 ^ 64:=by have:=ha.2;omega
 have hy:y<2 ^ 64:=by have:=hb.2;omega
 have hw:Er 8 mask.toNat<2 ^ 64:=Vu 8 _;rw[zX hx hw,Abw hy hw,Afk (Nat.lt_of_le_of_lt Nat.and_le_left hx) (Nat.lt_of_le_of_lt Nat.and_le_left hy)];have:=Zm 8 x y mask.toNat hx hy;simp only[Int.toNat_natCast];rw[<-this]
theorem vK{t:T}(hl:t.kids.length*56<=140737488355328)(ih:∀c,c∈t.kids->G.Spec Tryz.prog 35 [tX c] (tX (Af c))){v v0:VOb}{k w:A}:∀(m i:Nat)(u:Nat)(H:Hp),i+m=t.kids.length->H [0]=v0->H [1]=v->H [2]=⟨1,.cells [k,w,.osl [4] u 3 0 i]⟩->H [4]=⟨u,.arr 3 ((t.kids.take i).map (tA ∘ Af))⟩ ->
  (∀i' q (u':Nat) (H':Hp),H' [0]=v0->H' [1]=v->H' [2]=⟨1,.cells [k,w,.osl [4] u' 3 0 t.kids.length]⟩->H' [4]=⟨u',.arr 3 (t.kids.map (tA ∘ Af))⟩->Q (.exit 0) ⟨lk [(1,.pob [0] 1 0),(2,.pob [1] 1 0),(3,.pob [2] 1 0),(17,B7 t.kids),(18,iv t.kids.length),(19,iv i'),(20,bv q)],H'⟩) ->
  LoopC (cx Tryz.prog w0 I0 n0) JT Q ⟨lk [(1,.pob [0] 1 0),(2,.pob [1] 1 0),(3,.pob [2] 1 0),(17,B7 t.kids),(18,iv t.kids.length),(19,iv i)],H⟩:=by
 intro m;induction m with
 |zero=>
  intro i u H hi hA hR hO hB hq;have:i=t.kids.length:=oF
  subst this;refine Ad Ai JT.eq_1 ?_;simp;exact hq _ _ u H hA hR hO (by rw[hB];simp)
 |succ m ihm=>
  intro i u H hi hA hR hO hB hq;have hlt:i<t.kids.length:=oF
  have ei:=AR i;refine Ad Ai JT.eq_1 ?_;simp[hlt,Aa,hO];refine Ag (ih _ (De hlt)) rfl ?_;simp[Aa,hO,hB];have hrow:=tT (f:=tA ∘ Af) hlt (x:=tX (Af t.kids[i])) iS;rw[hrow,ei];refine⟨⟨oF,oF⟩,?_⟩;exact ihm (i+1) (u+1) _ oF (by simp[Aa,hA]) (by simp[Aa,hR]) (by simp[Aa]) (by simp[Aa]) hq
theorem tP{w:List Int}(hl:w.length*8<=140737488355328){v v4:VOb}{K:A}:∀(n:Nat)(H:Hp),n<=w.length->EO (w.take n)=EO w->H [1]=v->H [2]=⟨1,.cells [iv 1,Fu (w.take n),K]⟩->H [4]=v4 ->
  (∀q (H':Hp),H' [1]=v->H' [2]=⟨1,.cells [iv 1,Fu (EO w),K]⟩->H' [4]=v4->Q (.exit 2) ⟨lk [(2,.pob [1] 1 0),(3,.pob [2] 1 0),(48,bv q)],H'⟩) ->
  LoopC (cx Tryz.prog w0 I0 n0) JM Q ⟨lk [(2,.pob [1] 1 0),(3,.pob [2] 1 0)],H⟩:=by
 intro n;induction n with
 |zero=>
  intro H hn ht hR hO hB hq;refine Ad Ai JM.eq_1 ?_;simp[hO];refine hq _ H hR ?_ hB;rw[<-ht];simpa using hO
 |succ n ihn=>
  intro H hn ht hR hO hB hq;have hlt:n<w.length:=oF
  have en:i64.wrap (n:Int)=n:=Ga;have emin:min (n+1) w.length=n+1:=oF
  refine Ad Ai JM.eq_1 ?_;by_cases h0:w[n]=0
  ·have hnn:(n:Int)<n+1:=oF
   have hnn':(n:Int)<=n+1:=oF
   have hs:List.take n (List.take (n+1) (List.map uv w))=(w.take n).map uv:=by rw[List.take_take,Nat.min_eq_left oF,List.map_take]
   simp[hO,emin,en,hlt,h0,hnn,hnn',hs];exact ihn _ oF (by rw[<-jr hlt h0];exact ht) (by simp[Aa,hR]) (by simp[Aa]) (by simp[Aa,hB]) hq
  ·have hnn:(n:Int)<n+1:=oF
   simp[hO,emin,en,hlt,h0,hnn];refine hq _ H hR ?_ hB;rw[hO,<-ht,jR hlt h0]
theorem vV{l:List T}(hl:l.length*56<=140737488355328){v:VOb}{W:A}{u:Nat}:∀(n:Nat)(H:Hp),n<=l.length->DG (l.take n)=DG l->H [1]=v->H [2]=⟨1,.cells [iv 1,W,.osl [4] u 3 0 n]⟩->H [4]=⟨u,.arr 3 (l.map (tA ∘ Af))⟩ ->
  (∀q (H':Hp),H' [1]=v->H' [2]=⟨1,.cells [iv 1,W,.osl [4] u 3 0 (DG l).length]⟩->H' [4]=⟨u,.arr 3 (l.map (tA ∘ Af))⟩->Q (.exit 4) ⟨lk [(2,.pob [1] 1 0),(3,.pob [2] 1 0),(72,bv q)],H'⟩) ->
  LoopC (cx Tryz.prog w0 I0 n0) JL Q ⟨lk [(2,.pob [1] 1 0),(3,.pob [2] 1 0)],H⟩:=by
 intro n;induction n with
 |zero=>
  intro H hn ht hR hO hB hq;refine Ad Ai JL.eq_1 ?_;simp[hO];refine hq _ H hR ?_ hB;rw[<-ht];simpa using hO
 |succ n ihn=>
  intro H hn ht hR hO hB hq;have hlt:n<l.length:=oF
  have en:i64.wrap (n:Int)=n:=Ga;have hnn:(n:Int)<n+1:=oF
  have hnn':(n:Int)<=n+1:=oF
  refine Ad Ai JL.eq_1 ?_;by_cases h0:l[n].kind=0
  ·simp[hO,hB,en,hlt,h0,hnn,hnn'];exact ihn _ oF (by rw[<-kD hlt h0];exact ht) (by simp[Aa,hR]) (by simp[Aa]) (by simp[Aa,hB]) hq
  ·simp[hO,hB,en,hlt,h0,hnn];refine hq _ H hR ?_ hB;rw[hO,<-ht,ki hlt h0];simp;omega
theorem DM:∀(t:T),AE t->G.Spec Tryz.prog 35 [tX t] (tX (Af t)):=by
 refine T.ind fun k w l ih hw=>?_;have hw':=wfT_iff.1 hw;have hwl:=hw'.wl;have hkl:=hw'.kl;simp at hwl hkl;refine Ak gT iS fun w0 I0=>?_;unfold T9;rw[Cw];by_cases h0:k=0
 ·simp[h0];exact Abt
 ·simp[h0];refine Ag (jK false w hwl).spec rfl ?_;simp;refine LoopC.le (BO (d:=[2]) 2 [4] 3 rfl rfl iS) ?_;simp;refine vK (t:=.mk k w l) (k:=iv k) (w:=Fu w) (by simpa using hkl) (fun c hc=>ih c hc (hw'.ks c hc)) l.length 0 1 _ iS rfl rfl iS iS fun i' q u' H' hA hR hO hB=>?_;by_cases h1:k=1
  ·subst h1;simp at hA hR hO hB;simp[hA,hR,hO,hB];refine LoopC.le (Ar [(2,.pob [1] 1 0),(3,.pob [2] 1 0)] iS) ?_;refine tP hwl w.length _ (CX _) (by rw[AO (CX _)]) hR (by rw[hO,AO (CX _)]) hB fun q H2 hR2 hO2 hB2=>?_;simp;refine vV hkl l.length _ (CX _) (by rw[AO (CX _)]) hR2 hO2 hB2 fun q H3 hR3 hO3 hB3=>?_;simp[hO3,hR3,Aa];refine CF ?_;simp;rw[Ym];refine⟨Ae rfl,Ae rfl,?_⟩;have:=cJ (H:=AK H3 [1] ⟨1,.cells [iv 1,Fu (EO w),A.osl [4] u' 3 0 (DG l).length]⟩) (o:=[4]) (u:=u') (sz:=3) (l:=l) (f:=tA ∘ Af) (by simp[Aa,hB3]) (LC l) iS;rw[<-List.map_take];show Jl _ _ (A.sl false (((l.take (DG l).length).map Af).map tA));rw[List.map_map];exact this
  ·simp at hA hR hO hB;simp[hA,hR,hO,hB,h1,Aa];refine CF ?_;simp;refine⟨Ae rfl,Ae rfl,?_⟩;have:=CI (H:=AK H' [1] ⟨1,.cells [iv k,Fu w,A.osl [4] u' 3 0 l.length]⟩) (o:=[4]) (u:=u') (sz:=3) (l:=l) (f:=tA ∘ Af) (by simp[Aa,hB]) rfl iS;show Jl _ _ (A.sl false ((l.map Af).map tA));rw[List.map_map];exact this
end Go.Proofs.YtlaapfplenlfaaaGreat
namespace Go.PL
def fQ(ws:List WE):Prop:=∀w,w∈ws->0<=w.mask/\w.mask<256
end Go.PL
namespace Go.Proofs.YtlaapfplenlfaaaGreat
open Go Go.G Go.Proofs Go.PL
def lJ(tw:List Int):Nat->Nat->List WE->Option (List Int)
 |0,_,_=>some []
 |m+1,i,[]=>(lJ tw m (i+1) []).map (tw.getD i 0 :: ·)
 |m+1,i,x::xs=>if x.at_=(i:Int)then (if A5 0 (tw.getD i 0) x.mask=x.old then (lJ tw m (i+1) xs).map (A5 (tw.getD i 0) x.new x.mask :: ·)else none)else (lJ tw m (i+1) (x::xs)).map (tw.getD i 0 :: ·)
def oM(tk:List T):Nat->Nat->List (Int × (T->Option T))->Option (List T)
 |0,_,_=>some []
 |m+1,i,[]=>(oM tk m (i+1) []).map (tk.getD i T0 :: ·)
 |m+1,i,x::xs=>if x.1=(i:Int)then (match x.2 (tk.getD i T0) with|none=>none|some u=>(oM tk m (i+1) xs).map (u :: ·))else (oM tk m (i+1) (x::xs)).map (tk.getD i T0 :: ·)
noncomputable def Wz(tk:List T):Nat->List (Int × Int × List T × (T->Option T))->Option (List T × Nat)
 |a,[]=>some ([],a)
 |a,(k,n,l,f)::os=>
  if k=0 then (if a+n.toNat<=tk.length then (Wz tk (a+n.toNat) os).map (fun r=>((tk.drop a).take n.toNat++r.1,r.2))else none)
  else if k=1 then (if a+l.length<=tk.length/\(((tk.drop a).take l.length).zip l).all (fun p=>J2 p.1 p.2)=true then Wz tk (a+l.length) os else none)
  else if k=2 then (Wz tk a os).map (fun r=>(l++r.1,r.2))
  else match tk[a]? with
   |none=>none
   |some x=>match f x with
    |none=>none
    |some u=>(Wz tk (a+1) os).map (fun r=>(u::r.1,r.2))
theorem gA{tw:List Int}{m i:Nat}{rem:List WE}(h:∀x xs,rem=x::xs->x.at_≠(i:Int)):lJ tw (m+1) i rem=(lJ tw m (i+1) rem).map (tw.getD i 0 :: ·):=by
 cases rem with
 |nil=>rw[lJ]
 |cons x xs=>rw[lJ,if_neg (h x xs rfl)]
theorem zV{tw:List Int}{m i:Nat}{x:WE}{xs:List WE}(h:x.at_=(i:Int))(hb:A5 0 (tw.getD i 0) x.mask=x.old):lJ tw (m+1) i (x::xs)=(lJ tw m (i+1) xs).map (A5 (tw.getD i 0) x.new x.mask :: ·):=by rw[lJ,if_pos h,if_pos hb]
theorem dx{tk:List T}{m i:Nat}{rem:List (Int × (T->Option T))}(h:∀x xs,rem=x::xs->x.1≠(i:Int)):oM tk (m+1) i rem=(oM tk m (i+1) rem).map (tk.getD i T0 :: ·):=by
 cases rem with
 |nil=>rw[oM]
 |cons x xs=>rw[oM,if_neg (h x xs rfl)]
theorem y4{tk:List T}{m i:Nat}{x:Int × (T->Option T)}{xs:List (Int × (T->Option T))}{u:T}(h:x.1=(i:Int))(hb:x.2 (tk.getD i T0)=some u):oM tk (m+1) i (x::xs)=(oM tk m (i+1) xs).map (u :: ·):=by rw[oM,if_pos h,hb]
def YN(ws:List WE)(n:Nat):Nat:=match ws.getLast? with|none=>n|some x=>max n (x.at_+1).toNat
def Y4{β:Type}(ks:List (Int × β))(n:Nat):Nat:=match ks.getLast? with|none=>n|some x=>max n (x.1+1).toNat
noncomputable def Wx(k:Int)(o n:T)(ws:List WE)(ks:List (Int × (T->Option T)))(list:Int)(os:List (Int × Int × List T × (T->Option T)))(t:T):Option T:=
 if k=0 then some (Af t)
 else if k=1 then (if J2 o t=true then some (Af n)else none)
 else if k=2 then (if t.kind=1 then (match lJ t.words (YN ws t.words.length) 0 ws,oM t.kids (Y4 ks t.kids.length) 0 ks with
  |some w,some l=>some (Af (.mk 1 w l))
  |_,_=>none)else none)
 else if k=3 then (if t.kind=list then (match Wz t.kids 0 os with
  |some (l,a)=>if a=t.kids.length then some (Af (.mk t.kind [] l))else none
  |none=>none)else none)
 else none
mutual
noncomputable def xn:E->T->Option T
 |.mk k o n ws ks l os,t=>Wx k o n ws (Rs ks) l (ay os) t
noncomputable def Rs:List KE->List (Int × (T->Option T))
 |[]=>[]
 |.mk a e::r=>(a,xn e)::Rs r
noncomputable def ay:List OP->List (Int × Int × List T × (T->Option T))
 |[]=>[]
 |.mk k n t e::r=>(k,n,t,xn e)::ay r
end
theorem VE(k:Int)(o n:T)(ws:List WE)(ks:List KE)(l:Int)(os:List OP)(t:T):xn (.mk k o n ws ks l os) t=Wx k o n ws (Rs ks) l (ay os) t:=by rw[xn]
theorem dw:∀ks:List KE,Rs ks=ks.map fun x=>(x.at_,xn x.e)
 |[]=>by rw[Rs];rfl
 |.mk a e::r=>by rw[Rs,dw r];rfl
variable {n0:Nat} {w0:World} {I0:Nat->Prop} {Q:Exit->Sta->Prop}
theorem mS:AE T0:=wfT_iff.2 ⟨by simp[BD],iS,iS,iS,iS⟩
theorem BL(a b mask:Int):Bs (A5 a b mask):=by
 have h:=Yo (RC (Bb a) (Bb b) mask 8) VJ;rw[KY (by rw[Cn];exact CX _),Cn]at h;have e:(256:Int) ^ 8=18446744073709551616:=dO
 rw[e]at h;exact⟨h.1,h.2⟩
section
variable {n0:Nat} {w0:World} {I0:Nat->Prop}
noncomputable def Ak1(e:E)(t:T)(n m:Nat):Option T:=match lJ t.words n 0 e.words,oM t.kids m 0 (Rs e.kids) with
 |some w,some l=>some (.mk 1 w l)
 |_,_=>none
end
noncomputable def AbF(e:E)(t:T):Option T:=if t.kind=1 then Ak1 e t (YN e.words t.words.length) (Y4 (Rs e.kids) t.kids.length)else none
def Akp(x:OP):Prop:=(x.kind=0/\1<=x.n/\x.n<=1048576/\x.l=[])\/(x.kind=1/\x.n=0)\/(x.kind=2/\x.n=0)\/(x.kind=3/\x.n=0/\x.l=[])
structure LsH(e:E)(t:T)(k:Int)(acc:List T)(H:Hp):Prop where
 g0:H [0]=⟨1,.cells (eL e)⟩
 g1:H [1]=⟨1,.cells (tL t)⟩
 g2:H [2]=⟨1,.cells z0⟩
 g3:H [3]=⟨1,.cells [iv k,.sl true [],.osl [5] (acc.length+1) 3 0 acc.length]⟩
 g5:H [5]=⟨acc.length+1,.arr 3 (acc.map tA)⟩
theorem LsH.put{e:E}{t:T}{k:Int}{acc:List T}{H:Hp}(h:LsH e t k acc H){d:Nm}(x:VOb)(hd:d≠[0]/\d≠[1]/\d≠[2]/\d≠[3]/\d≠[5]):LsH e t k acc (AK H d x):=
 ⟨by rw[AI (Ne.symm hd.1)];exact h.g0,by rw[AI (Ne.symm hd.2.1)];exact h.g1,by rw[AI (Ne.symm hd.2.2.1)];exact h.g2,by rw[AI (Ne.symm hd.2.2.2.1)];exact h.g3,by rw[AI (Ne.symm hd.2.2.2.2)];exact h.g5⟩
end Go.Proofs.YtlaapfplenlfaaaGreat
namespace Go.G
open Go.RowKit
abbrev S(l:List UInt8):A:=.v (.string ⟨l.toArray⟩)
@[simp]theorem AhJ(l:List UInt8):(ByteArray.mk l.toArray).size=l.length:=by simp[ByteArray.size]
@[simp]theorem AiC(l:List UInt8)(i:Nat):(ByteArray.mk l.toArray)[i]? = l[i]?:=by
 by_cases h:i<l.length
 ·have h':i<(ByteArray.mk l.toArray).size:=by simpa using h
  rw[getElem?_pos (ByteArray.mk l.toArray) i h',List.getElem?_eq_getElem h];rfl
 ·have h':¬i<(ByteArray.mk l.toArray).size:=by simpa using h
  rw[getElem?_neg (ByteArray.mk l.toArray) i h',List.getElem?_eq_none oF]
end Go.G
namespace Go.Proofs.YtlaapfplenlfaaaGreat
set_option maxRecDepth 20000
open Go Go.G Go.Proofs
def Tw:CC:=sR [aB 2 false] [0] (sR [mO 3 0,bQ .geq 4 3 3 2 3,mO 5 4,mG 6 0 5 true,oG 7 (.binOp .leq 3 (xT 6) (nI 9) 3) 5 true,pF 8 5 7,aO 2 8] [2] (.ret))
theorem dK:BT Tryz.prog 74 9 [(.tmp 2)] Tw:=AA Tryz.func74
def Cd:CC:=sR [bB .lss 14 3 13 12 3] [0,1,12,13,14] (.seq (cD 14 (.skip) (.exit 0)) (.keep [0,1,12,13] (.seq (.block 1 (sR [mO 15 13,aO 5 15] [0,1,5,12,13] (sR [mO 16 0,mO 17 5,iO 18 22 16 17,lO 19 61 18,mO 20 1,mO 21 5,iO 22 22 20 21,lO 23 61 22,bB .neq 24 61 19 23 61] [0,1,12,13,24] (cD 24 (sR [aB 4 false] [4] (.ret)) (.skip))))) (.keep [0,1,12,13] (.reg [bQ .add 25 3 13 1 3,mO 13 25] [0,1,12,13]))))) 
def Fe:CC:=sR [aB 4 false] [0,1] (sQ [mO 6 0,bN 7 6 22,mO 8 1,bN 9 8 22,bB .neq 10 3 7 9 3] [0,1,10] (cD 10 (sR [aB 4 false] [4] (.ret)) (.skip)) [0,1] (sQ [mO 11 0,bN 12 11 22,oO 13 (.move (nI 0))] [0,1,12,13] (.block 0 (.loop Cd)) [] (sR [aB 4 true] [4] (.ret))))
theorem Jq:BT Tryz.prog 89 26 [(.tmp 4)] Fe:=AA Tryz.func89
def IA:CC:=sR [bB .lss 50 3 49 48 3] [2,3,48,49,50] (.seq (cD 50 (.skip) (.exit 0)) (.keep [2,3,48,49] (.seq (.block 1 (sR [mO 51 49,aO 5 51] [2,3,5,48,49] (sR [lO 52 25 2,mO 53 5,⟨some 54,(cL 90 #[(xT 52),(xT 53)] #[25,3]),none,[],2,[],true⟩,⟨some 55,(lD 25 3),none,[],3,[2],false⟩,mO 56 5,cB 57 90 55 56 25 3,bB .neq 58 61 54 57 61] [2,3,48,49,58] (cD 58 (sR [aB 4 false] [4] (.ret)) (.skip))))) (.keep [2,3,48,49] (.reg [bQ .add 59 3 49 1 3,mO 49 59] [2,3,48,49])))))
def II:CC:=sR [bB .lss 68 3 67 66 3] [2,3,66,67,68] (.seq (cD 68 (.skip) (.exit 2)) (.keep [2,3,66,67] (.seq (.block 3 (sR [mO 69 67,aO 6 69] [2,3,6,66,67] (sR [lO 70 25 2,mO 71 6,⟨some 72,(cL 80 #[(xT 70),(xT 71)] #[25,3]),none,[],2,[],true⟩,⟨some 73,(lD 25 3),none,[],3,[2],false⟩,mO 74 6,cB 75 80 73 74 25 3,cB 76 57 72 75 25 25,oO 77 (.unOp .not 4 (xT 76))] [2,3,66,67,77] (cD 77 (sR [aB 4 false] [4] (.ret)) (.skip))))) (.keep [2,3,66,67] (.reg [bQ .add 78 3 67 1 3,mO 67 78] [2,3,66,67])))))
def Lj:CC:=sQ [fO 42 25 2 1,lO 43 22 42,bN 44 43 22,fO 45 25 3 1,lO 46 22 45,bN 47 46 22,oO 48 (bC .max #[(xT 44),(xT 47)] #[3,3]),oO 49 (.move (nI 0))] [2,3,48,49] (.block 0 (.loop IA)) [2,3] (sQ [fO 60 25 2 2,lO 61 23 60,bN 62 61 23,fO 63 25 3 2,lO 64 23 63,bN 65 64 23,oO 66 (bC .max #[(xT 62),(xT 65)] #[3,3]),oO 67 (.move (nI 0))] [2,3,66,67] (.block 2 (.loop II)) [] (sR [aB 4 true] [4] (.ret))) 
def MN:CC:=sR [bX 2 25 0 [0],bX 3 25 1 [1],aB 4 false] [2,3] (sQ [fO 7 25 2 0,lO 8 3 7,fO 9 25 3 0,lO 10 3 9,bB .neq 11 3 8 10 3,mO 12 11,fG 13 25 2 0 12 false,lG 14 3 13 12 false,oG 15 (.binOp .eql 3 (xT 14) (nI 0) 3) 12 false,pT 16 12 15] [2,3,16] (cD 16 (sR [fO 17 25 2 0,lO 18 3 17,fO 19 25 3 0,lO 20 3 19,bB .eql 21 3 18 20 3,aO 4 21] [4] (.ret)) (.skip)) [2,3] (sQ [fO 22 25 2 0,lO 23 3 22,bQ .neq 24 3 23 1 3,mO 25 24,fG 26 25 2 2 25 true,lG 27 23 26 25 true,oG 28 (bL 27 23) 25 true,fG 29 25 3 2 25 true,lG 30 23 29 25 true,oG 31 (bL 30 23) 25 true,oG 32 (bO .neq 3 28 31 3) 25 true,mG 33 32 25 true,fG 34 25 2 1 33 false,lG 35 22 34 33 false,fG 36 25 3 1 33 false,lG 37 22 36 33 false,oG 38 (cL 89 #[(xT 35),(xT 37)] #[22,22]) 33 false,oG 39 (.unOp .not 4 (xT 38)) 33 false,oG 40 (.pick (xT 33) (nB true) (xT 39)) 25 true,pF 41 25 40] [2,3,41] (cD 41 (sR [aB 4 false] [4] (.ret)) (.skip)) [2,3] (.stop Lj)))
theorem Sl:BT Tryz.prog 57 79 [(.tmp 4)] MN:=AA Tryz.func57
@[simp]theorem Ajg:DT Tryz.prog 157=some 1:=by kernel_rfl
@[simp]theorem AiD:DT Tryz.prog 224=some 2:=by kernel_rfl
@[simp]theorem Aiy:DT Tryz.prog 235=some 2:=by kernel_rfl
@[simp]theorem AiM:DT Tryz.prog 244=some 1:=by kernel_rfl
@[simp]theorem Aj4:DT Tryz.prog 247=some 3:=by kernel_rfl
@[simp]theorem Af1:D6 Tryz.prog 157=some false:=by kernel_rfl
@[simp]theorem AhR:D6 Tryz.prog 224=some true:=by kernel_rfl
@[simp]theorem AhS:D6 Tryz.prog 235=some true:=by kernel_rfl
@[simp]theorem AhA:D6 Tryz.prog 244=some false:=by kernel_rfl
@[simp]theorem Ahu:D6 Tryz.prog 247=some true:=by kernel_rfl
@[simp]theorem AeQ:BQ Tryz.prog 157=some (Value.slice none 0 0):=by kernel_rfl
@[simp]theorem AdQ:BQ Tryz.prog 224=some (Value.agg #[Value.int i64 0,Value.int i64 0]):=by kernel_rfl
@[simp]theorem AdC:BQ Tryz.prog 235=some (Value.agg #[Value.int i64 0,Value.int i64 0]):=by kernel_rfl
@[simp]theorem AeI:BQ Tryz.prog 247=some (Value.agg #[Value.int i64 0,Value.int i64 0,Value.int i64 0]):=by kernel_rfl
@[simp]theorem AcC:Cc Tryz.prog 157=some 24:=by kernel_rfl
@[simp]theorem Abl:Cc Tryz.prog 224=some 16:=by kernel_rfl
@[simp]theorem Abq:Cc Tryz.prog 235=some 16:=by kernel_rfl
@[simp]theorem Acf:Cc Tryz.prog 247=some 24:=by kernel_rfl
@[simp]theorem qR:Aj Tryz.prog 224 0=some 0:=by kernel_rfl
@[simp]theorem rq:Aj Tryz.prog 224 1=some 1:=by kernel_rfl
@[simp]theorem rj:Aj Tryz.prog 235 0=some 0:=by kernel_rfl
@[simp]theorem re:Aj Tryz.prog 235 1=some 1:=by kernel_rfl
@[simp]theorem qS:Aj Tryz.prog 247 0=some 0:=by kernel_rfl
@[simp]theorem rC:Aj Tryz.prog 247 1=some 2:=by kernel_rfl
@[simp]theorem Abx(ps:List (Nat × A)):Cz Tryz.prog 224 ps=(Dm (fun i=>([(0,1),(1,1)]:List (Nat × Nat))[i]?) [iv 0,iv 0] ps).map A.agg:=by kernel_rfl
@[simp]theorem Acj(ps:List (Nat × A)):Cz Tryz.prog 235 ps=(Dm (fun i=>([(0,1),(1,1)]:List (Nat × Nat))[i]?) [iv 0,iv 0] ps).map A.agg:=by kernel_rfl
@[simp]theorem Abg(ps:List (Nat × A)):Cz Tryz.prog 247 ps=(Dm (fun i=>([(0,2),(2,1)]:List (Nat × Nat))[i]?) [iv 0,iv 0,iv 0] ps).map A.agg:=by kernel_rfl
def M7:CC:=sR [aB 2 false] [0] (sR [mO 3 0,mO 4 0,bB .neq 5 3 3 4 3,aO 2 5] [2] (.ret))
theorem Uk:BT Tryz.prog 207 6 [(.tmp 2)] M7:=AA Tryz.func207
def Kw:CC:=sR [aI 4 0] [0,1] (sR [mO 7 0,cA 8 207 7 3,aO 5 8] [0,1,5] (sR [mO 9 1,cA 10 207 9 3,aO 6 10] [0,1,5,6] (sQ [mO 11 5] [0,1,6,11] (cD 11 (sQ [mO 12 6] [12] (cD 12 (sR [aI 4 0] [4] (.ret)) (.skip)) [] (sR [oO 4 (.assign (.const (.int .i64 (-1))))] [4] (.ret))) (.skip)) [0,1,6] (sQ [mO 13 6] [0,1,13] (cD 13 (sR [aI 4 1] [4] (.ret)) (.skip)) [0,1] (sQ [mO 14 0,mO 15 1,bB .lss 16 3 14 15 3] [0,1,16] (cD 16 (sR [oO 4 (.assign (.const (.int .i64 (-1))))] [4] (.ret)) (.skip)) [0,1] (sQ [mO 17 0,mO 18 1,bB .gtr 19 3 17 18 3] [19] (cD 19 (sR [aI 4 1] [4] (.ret)) (.skip)) [] (sR [aI 4 0] [4] (.ret))))))))
theorem Rl:BT Tryz.prog 200 20 [(.tmp 4)] Kw:=AA Tryz.func200
def GH:CC:=sR [bB .lss 9 3 8 7 3] [3,6,7,8,9] (.seq (cD 9 (.skip) (.exit 0)) (.keep [3,6,7,8] (.seq (.block 1 (sR [iO 10 157 6 8,lO 11 3 10,aO 5 11] [3,5,6,7,8] (sR [mO 12 5,mO 13 3,bB .neq 14 3 12 13 3] [3,5,6,7,8,14] (cD 14 (sR [mO 15 5,aO 2 15] [2] (.ret)) (.skip))))) (.keep [3,6,7,8] (.reg [bQ .add 16 3 8 1 3,mO 8 16] [3,6,7,8]))))) 
def QN:CC:=sR [aI 2 0] [0] (sR [aI 3 0] [0,3] (sQ [mO 6 0,bN 7 6 157,oO 8 (.move (nI 0))] [3,6,7,8] (.block 0 (.loop GH)) [3] (sR [mO 17 3,aO 2 17] [2] (.ret))))
theorem ZW:BT Tryz.prog 245 18 [(.tmp 2)] QN:=AA Tryz.func245
def Ju:CC:=sR [bX 2 247 0 [0],bX 3 247 1 [1],aB 4 false] [2,3] (sR [fO 5 247 3 1,lO 6 3 5,fO 7 247 2 1,lO 8 3 7,⟨some 9,(cL 200 #[(xT 6),(xT 8)] #[3,3]),none,[],4,[],true⟩,fO 10 247 2 0,fO 11 235 10 0,⟨some 12,(lD 3 11),none,[],7,[4],false⟩,fO 13 247 3 0,fO 14 235 13 0,⟨some 15,(lD 3 14),none,[],10,[4],false⟩,⟨some 16,(cL 200 #[(xT 12),(xT 15)] #[3,3]),none,[],11,[],true⟩,fO 17 247 2 0,fO 18 235 17 1,⟨some 19,(lD 3 18),none,[],14,[4,11],false⟩,fO 20 247 3 0,fO 21 235 20 1,⟨some 22,(lD 3 21),none,[],17,[4,11],false⟩,cB 23 200 19 22 3 3,oO 24 (.buildSlice 157 3 #[(0,(xT 9)),(1,(xT 16)),(2,(xT 23))]),cA 25 245 24 157,bQ .lss 26 3 25 0 3,aO 4 26] [4] (.ret))
theorem Po:BT Tryz.prog 244 27 [(.tmp 4)] Ju:=AA Tryz.func244
def Nd:CC:=.reg [mO 4 0,mO 5 0,nC 6 5,lS 7 244 6 3,mO 8 1,oO 9 (.typeAssert (xT 8) 20 247 false),⟨some 10,(.buildSlice 244 1 #[(0,(xT 9))]),none,[],6,[3],false⟩,aP 11 7 10 244 244 [1],nC 12 4,sT 244 12 11] []
theorem Uw:BT Tryz.prog 242 13 [] Nd:=AA Tryz.func242
def N5:CC:=sR [oO 2 (.assign (.const .nilIface))] [0] (sR [mO 5 0,nC 6 5,lO 7 244 6,aO 3 7] [0,3] (sR [mO 8 3,mO 9 3,bN 10 9 244,bQ .sub 11 3 10 1 3,iO 12 244 8 11,lO 13 247 12,aL 4 247 [1],sT 247 4 13] [0,3,4] (sR [mO 14 0,mO 15 3,mO 16 3,bN 17 16 244,bQ .sub 18 3 17 1 3,oO 19 (.slice 244 (xT 15) none (some (xT 18)) none),nC 20 14,sT 244 20 19] [4] (sR [lO 21 247 4,oO 22 (.makeInterface 247 (xT 21)),aO 2 22] [2] (.ret)))))
theorem Vt:BT Tryz.prog 241 23 [(.tmp 2)] N5:=AA Tryz.func241
def NU:CC:=sR [aI 2 0] [0] (sR [mO 3 0,bN 4 3 244,aO 2 4] [2] (.ret))
theorem VI:BT Tryz.prog 194 5 [(.tmp 2)] NU:=AA Tryz.func194
def MX:CC:=sR [aB 6 false] [0,1,2] (sR [mO 7 0,mO 8 1,iO 9 244 7 8,lO 10 247 9,mO 11 0,mO 12 2,iO 13 244 11 12,lO 14 247 13,cB 15 244 10 14 247 247,aO 6 15] [6] (.ret))
theorem Ur:BT Tryz.prog 240 16 [(.tmp 6)] MX:=AA Tryz.func240
def MS:CC:=.reg [mO 6 0,mO 7 1,mO 8 0,mO 9 2,mO 10 0,mO 11 2,iO 12 244 10 11,lO 13 247 12,mO 14 0,mO 15 1,iO 16 244 14 15,lO 17 247 16,iO 18 244 6 7,sT 247 18 13,iO 19 244 8 9,sT 247 19 17] []
theorem Ui:BT Tryz.prog 243 20 [] MS:=AA Tryz.func243
def Gc:CC:=.block 1 (sR [mO 5 1,bQ .sub 6 3 5 1 3,bQ .quo 7 3 6 2 3,aO 4 7] [0,1,4] (sQ [mO 8 4,mO 9 1,bB .eql 10 3 8 9 3,mO 11 10,mG 12 0 11 false,mG 13 1 11 false,mG 14 4 11 false,oG 15 (.call { callee:=(.invoke (xT 12) "Less"),args:=#[(xT 13),(xT 14)],argTypes:=#[3,3] }) 11 false,oG 16 (.unOp .not 4 (xT 15)) 11 false,pT 17 11 16] [0,1,4,17] (cD 17 (.exit 0) (.skip)) [0,1,4] (sR [mO 18 0,mO 19 4,mO 20 1,oO 21 (.call { callee:=(.invoke (xT 18) "Swap"),args:=#[(xT 19),(xT 20)],argTypes:=#[3,3] })] [0,4] (.reg [mO 22 4,aO 1 22] [0,1])))) 
def Jw:CC:=.block 0 (.loop Gc)
theorem Pj:BT Tryz.prog 202 23 [] Jw:=AA Tryz.func202
def DB:CC:=sQ [mO 35 0,mO 36 9,mO 37 7,oO 38 (.call { callee:=(.invoke (xT 35) "Less"),args:=#[(xT 36),(xT 37)],argTypes:=#[3,3] }),oO 39 (.unOp .not 4 (xT 38))] [0,1,2,7,9,39] (cD 39 (.exit 0) (.skip)) [0,1,2,7,9] (sR [mO 40 0,mO 41 7,mO 42 9,oO 43 (.call { callee:=(.invoke (xT 40) "Swap"),args:=#[(xT 41),(xT 42)],argTypes:=#[3,3] })] [0,1,2,9] (.reg [mO 44 9,aO 7 44] [0,1,2,7]))
def DA:CC:=.block 1 (sR [mO 12 7,oO 13 (.binOp .mul 3 (nI 2) (xT 12) 3),bQ .add 14 3 13 1 3,aO 8 14] [0,1,2,7,8] (sQ [mO 15 8,mO 16 2,bB .geq 17 3 15 16 3,mO 18 17,mG 19 8 18 false,oG 20 (.binOp .lss 3 (xT 19) (nI 0) 3) 18 false,pT 21 18 20] [0,1,2,7,8,21] (cD 21 (.exit 0) (.skip)) [0,1,2,7,8] (sR [mO 22 8,aO 9 22] [0,1,2,7,8,9] (sQ [mO 23 8,bQ .add 24 3 23 1 3,aO 10 24] [0,1,2,7,8,9,10] (sR [mO 25 10,mO 26 2,bB .lss 27 3 25 26 3,mO 28 27,mG 29 0 28 true,mG 30 10 28 true,mG 31 8 28 true,oG 32 (.call { callee:=(.invoke (xT 29) "Less"),args:=#[(xT 30),(xT 31)],argTypes:=#[3,3] }) 28 true,pF 33 28 32] [0,1,2,7,9,10,33] (cD 33 (.reg [mO 34 10,aO 9 34] [0,1,2,7,9]) (.skip))) [0,1,2,7,9] DB)))) 
def Ia:CC:=sR [aB 6 false] [0,1,2] (sR [mO 11 1,aO 7 11] [0,1,2,7] (.seq (.block 0 (.loop DA)) (.keep [1,7] (sR [mO 45 7,mO 46 1,bB .gtr 47 3 45 46 3,aO 6 47] [6] (.ret)))))
theorem Nf:BT Tryz.prog 203 48 [(.tmp 6)] Ia:=AA Tryz.func203
def HY:CC:=sR [mO 4 0,mO 5 1,oO 6 (.call { callee:=(.invoke (xT 4) "Push"),args:=#[(xT 5)],argTypes:=#[20] })] [0] (.reg [mO 7 0,mO 8 0,oO 9 (.call { callee:=(.invoke (xT 8) "Len"),args:=#[],argTypes:=#[] }),bQ .sub 10 3 9 1 3,cB 11 202 7 10 257 3] [])
theorem Nl:BT Tryz.prog 193 12 [] HY:=AA Tryz.func193
def Je:CC:=sR [oO 2 (.assign (.const .nilIface))] [0] (sR [mO 4 0,oO 5 (.call { callee:=(.invoke (xT 4) "Len"),args:=#[],argTypes:=#[] }),bQ .sub 6 3 5 1 3,aO 3 6] [0,3] (sR [mO 7 0,mO 8 3,oO 9 (.call { callee:=(.invoke (xT 7) "Swap"),args:=#[(nI 0),(xT 8)],argTypes:=#[3,3] })] [0,3] (sR [mO 10 0,mO 11 3,oO 12 (cL 203 #[(xT 10),(nI 0),(xT 11)] #[257,3,3])] [0] (sR [mO 13 0,oO 14 (.call { callee:=(.invoke (xT 13) "Pop"),args:=#[],argTypes:=#[] }),aO 2 14] [2] (.ret)))))
theorem Nu:BT Tryz.prog 195 15 [(.tmp 2)] Je:=AA Tryz.func195
def JC:CC:=sR [bX 2 235 0 [0],bX 3 235 1 [1],aB 4 false] [2,3] (sR [fO 5 235 2 0,lO 6 3 5,fO 7 235 3 0,lO 8 3 7,bB .lss 9 3 6 8 3,mO 10 9,fG 11 235 2 1 10 true,lG 12 3 11 10 true,fG 13 235 3 1 10 true,lG 14 3 13 10 true,oG 15 (bO .lss 3 12 14 3) 10 true,pF 16 10 15,mO 17 16,fG 18 235 2 0 17 false,lG 19 3 18 17 false,fG 20 235 3 0 17 false,lG 21 3 20 17 false,oG 22 (bO .gtr 3 19 21 3) 17 false,mG 23 22 17 false,fG 24 235 2 1 23 true,lG 25 3 24 23 true,fG 26 235 3 1 23 true,lG 27 3 26 23 true,oG 28 (bO .gtr 3 25 27 3) 23 true,oG 29 (.pick (xT 23) (xT 28) (nB false)) 17 false,pT 30 17 29,oO 31 (.unOp .not 4 (xT 30)),aO 4 31] [4] (.ret))
theorem Pp:BT Tryz.prog 197 32 [(.tmp 4)] JC:=AA Tryz.func197
def Bl:CC:=sR [bB .lss 9 3 8 7 3] [0,1,7,8,9] (.seq (cD 9 (.skip) (.exit 0)) (.keep [0,1,7,8] (.seq (.block 1 (sR [mO 10 8,aO 5 10] [0,1,5,7,8] (sR [mO 11 1,mO 12 0,mO 13 5,iO 14 233 12 13,lO 15 235 14,oO 16 (.call { callee:=(.value (xT 11)),args:=#[(xT 15)],argTypes:=#[235] })] [0,1,5,7,8,16] (cD 16 (sR [mO 17 5,aO 4 17] [4] (.ret)) (.skip))))) (.keep [0,1,7,8] (.reg [bQ .add 18 3 8 1 3,mO 8 18] [0,1,7,8]))))) 
def Dn:CC:=sR [aI 4 0] [0,1] (sQ [mO 6 0,bN 7 6 233,oO 8 (.move (nI 0))] [0,1,7,8] (.block 0 (.loop Bl)) [] (sR [oO 4 (.assign (.const (.int .i64 (-1))))] [4] (.ret)))
theorem FW:BT Tryz.prog 204 19 [(.tmp 4)] Dn:=AA Tryz.func204
def CU:CC:=sR [aB 4 false] [0,1] (sR [mO 5 0,mO 6 1,cB 7 204 5 6 233 251,bQ .geq 8 3 7 0 3,aO 4 8] [4] (.ret))
theorem Fb:BT Tryz.prog 196 9 [(.tmp 4)] CU:=AA Tryz.func196
def P4:CC:=sR [bX 2 235 0 [0],bX 3 235 1 [1],aI 4 0] [2,3] (sR [fO 5 235 2 0,lO 6 3 5,fO 7 235 3 0,lO 8 3 7,cB 9 200 6 8 3 3,aO 4 9] [4] (.ret))
theorem XN:BT Tryz.prog 199 10 [(.tmp 4)] P4:=AA Tryz.func199
def HQ:CC:=sR [bB .lss 22 3 21 20 3] [3,4,12,13,14,19,20,21,22] (.seq (cD 22 (.skip) (.exit 2)) (.keep [3,4,12,13,14,19,20,21] (.seq (.block 3 (sR [mO 23 21,iO 24 157 19 21,lO 25 3 24,aO 6 23,aO 7 25] [3,4,6,7,12,13,14,19,20,21] (sR [mO 26 7,bQ .gtr 27 3 26 0 3,mO 28 27,mG 29 4 28 true,oG 30 (.binOp .lss 3 (xT 29) (nI 16) 3) 28 true,pF 31 28 30,mO 32 31,mG 33 6 32 true,oG 34 (.binOp .lss 3 (xT 33) (nI 16) 3) 32 true,pF 35 32 34] [3,4,6,7,12,13,14,19,20,21,35] (cD 35 (.reg [mO 36 3,oO 37 (.makeInterface 242 (xT 36)),mO 38 4,mO 39 6,oO 40 (.build 235 #[(0,(xT 38)),(1,(xT 39))]),mO 41 7,oO 42 (.build 247 #[(0,(xT 40)),(1,(xT 41))]),oO 43 (.makeInterface 247 (xT 42)),cB 44 193 37 43 257 20] [3,4,12,13,14,19,20,21]) (.skip))))) (.keep [3,4,12,13,14,19,20,21] (.reg [bQ .add 45 3 21 1 3,mO 21 45] [3,4,12,13,14,19,20,21])))))
def JP:CC:=sR [bB .lss 15 3 14 13 3] [3,12,13,14,15] (.seq (cD 15 (.skip) (.exit 0)) (.keep [3,12,13,14] (.seq (.block 1 (sR [mO 16 14,iO 17 219 12 14,lO 18 157 17,aO 4 16,aO 5 18] [3,4,5,12,13,14] (sR [mO 19 5,bN 20 19 157,oO 21 (.move (nI 0))] [3,4,12,13,14,19,20,21] (.block 2 (.loop HQ))))) (.keep [3,12,13,14] (.reg [bQ .add 46 3 14 1 3,mO 14 46] [3,12,13,14])))))
def Hw:CC:=sQ [mO 47 3,nC 48 47,lO 49 244 48,cA 50 194 49 242,bQ .gtr 51 3 50 0 3] [3,8,51] (cD 51 (.skip) (.exit 4)) [3,8] (.block 5 (sR [mO 52 3,oO 53 (.makeInterface 242 (xT 52)),cA 54 195 53 257,oO 55 (.typeAssert (xT 54) 20 247 false),aL 9 247 [1],sT 247 9 55] [3,8,9] (sR [mO 56 8,fO 57 247 9 0,lO 58 235 57,oO 59 (.makeFunc (.func 197) #[(xT 58)] #[]),cB 60 196 56 59 233 251,oO 61 (.unOp .not 4 (xT 60))] [3,8,9,61] (cD 61 (.reg [mO 62 8,fO 63 247 9 0,lO 64 235 63,oO 65 (.buildSlice 233 1 #[(0,(xT 64))]),aP 66 62 65 233 233 [2],aO 8 66] [3,8]) (.skip))))) 
def Ue:CC:=sR [aN 2] [0] (sR [oO 10 (.buildSlice 244 0 #[]),bX 11 244 10 [0],aO 3 11] [0,3] (sQ [mO 12 0,bN 13 12 219,oO 14 (.move (nI 0))] [3,12,13,14] (.block 0 (.loop JP)) [3] (sR [aN 8] [3,8] (.seq (.block 4 (.loop Hw)) (.keep [8] (sR [mO 67 8,oO 68 (cL 198 #[(xT 67),(.func 199)] #[233,254])] [8] (sR [mO 69 8,aO 2 69] [2] (.ret))))))))
theorem gZ:BT Tryz.prog 185 70 [(.tmp 2)] Ue:=AA Tryz.func185
def IL:CC:=sR [bB .lss 31 3 30 29 3] [2,3,5,29,30,31] (.seq (cD 31 (.skip) (.exit 0)) (.keep [2,3,5,29,30] (.seq (.block 1 (sR [mO 32 30,aO 6 32] [2,3,5,6,29,30] (sR [fO 33 25 2 1,lO 34 22 33,mO 35 6,iO 36 22 34 35,lO 37 61 36,fO 38 25 3 1,lO 39 22 38,mO 40 6,iO 41 22 39 40,lO 42 61 41,bB .eql 43 61 37 42 61] [2,3,5,29,30,43] (cD 43 (.reg [mO 44 5,bQ .add 45 3 44 1 3,aO 5 45] [2,3,5,29,30]) (.skip))))) (.keep [2,3,5,29,30] (.reg [bQ .add 46 3 30 1 3,mO 30 46] [2,3,5,29,30])))))
def IB:CC:=sR [bB .lss 55 3 54 53 3] [2,3,5,53,54,55] (.seq (cD 55 (.skip) (.exit 2)) (.keep [2,3,5,53,54] (.seq (.block 3 (sR [mO 56 54,aO 7 56] [2,3,5,7,53,54] (sR [fO 57 25 2 2,lO 58 23 57,mO 59 7,iO 60 23 58 59,lO 61 25 60,fO 62 25 3 2,lO 63 23 62,mO 64 7,iO 65 23 63 64,lO 66 25 65,cB 67 57 61 66 25 25] [2,3,5,53,54,67] (cD 67 (.reg [mO 68 5,bQ .add 69 3 68 1 3,aO 5 69] [2,3,5,53,54]) (.skip))))) (.keep [2,3,5,53,54] (.reg [bQ .add 70 3 54 1 3,mO 54 70] [2,3,5,53,54]))))) 
def Sf:CC:=sR [bX 2 25 0 [0],bX 3 25 1 [1],aI 4 0] [2,3] (sQ [fO 8 25 2 0,lO 9 3 8,fO 10 25 3 0,lO 11 3 10,bB .neq 12 3 9 11 3,mO 13 12,fG 14 25 2 0 13 false,lG 15 3 14 13 false,oG 16 (.binOp .eql 3 (xT 15) (nI 0) 3) 13 false,pT 17 13 16,mO 18 17,fG 19 25 2 0 18 false,lG 20 3 19 18 false,oG 21 (.binOp .eql 3 (xT 20) (nI 10) 3) 18 false,pT 22 18 21] [2,3,22] (cD 22 (sR [aI 4 0] [4] (.ret)) (.skip)) [2,3] (sR [aI 5 1] [2,3,5] (sQ [fO 23 25 2 1,lO 24 22 23,bN 25 24 22,fO 26 25 3 1,lO 27 22 26,bN 28 27 22,oO 29 (bC .min #[(xT 25),(xT 28)] #[3,3]),oO 30 (.move (nI 0))] [2,3,5,29,30] (.block 0 (.loop IL)) [2,3,5] (sQ [fO 47 25 2 2,lO 48 23 47,bN 49 48 23,fO 50 25 3 2,lO 51 23 50,bN 52 51 23,oO 53 (bC .min #[(xT 49),(xT 52)] #[3,3]),oO 54 (.move (nI 0))] [2,3,5,53,54] (.block 2 (.loop IB)) [5] (sR [mO 71 5,aO 4 71] [4] (.ret))))))
theorem bz:BT Tryz.prog 184 72 [(.tmp 4)] Sf:=AA Tryz.func184
end Go.Proofs.YtlaapfplenlfaaaGreat
namespace Go.PL
structure Sc where
 i:Nat
 j:Nat
 n:Int
 deriving DecidableEq
def iy:Sc:=⟨0,0,0⟩
def BE(a b:Sc):Bool:=decide (b.n<a.n)|| (decide (a.n=b.n)&&(decide (a.i<b.i)|| (decide (a.i=b.i)&&decide (a.j<b.j))))
def XK(l:List Sc)(i j:Nat):List Sc:=(l.set i (l.getD j iy)).set j (l.getD i iy)
@[simp]theorem a7{l:List Sc}{i j:Nat}:(XK l i j).length=l.length:=by simp[XK]
def qm:Nat->List Sc->Nat->List Sc
 |0,l,_=>l
 |f+1,l,j=>if (j-1) / 2=j\/BE (l.getD j iy) (l.getD ((j-1) / 2) iy)=false then l else qm f (XK l ((j-1) / 2) j) ((j-1) / 2)
def LS(l:List Sc)(i n:Nat):Nat:=if 2*i+2<n/\BE (l.getD (2*i+2) iy) (l.getD (2*i+1) iy)=true then 2*i+2 else 2*i+1
def Ib:Nat->List Sc->Nat->Nat->List Sc × Nat
 |0,l,i,_=>(l,i)
 |f+1,l,i,n=>if n<=2*i+1 then (l,i)else if BE (l.getD (LS l i n) iy) (l.getD i iy)=true then Ib f (XK l i (LS l i n)) (LS l i n) n else (l,i)
theorem aV:∀(f:Nat)(l:List Sc)(j:Nat),(qm f l j).length=l.length
 |0,l,j=>rfl
 |f+1,l,j=>by
  unfold qm;split
  ·rfl
  ·rw[aV f];simp
theorem Zg:∀(f:Nat)(l:List Sc)(i n:Nat),(Ib f l i n).1.length=l.length
 |0,l,i,n=>rfl
 |f+1,l,i,n=>by
  unfold Ib;split
  ·rfl
  ·split
   ·rw[Zg f];simp
   ·rfl
end Go.PL
namespace Go.PL
open List
theorem YU{a b:Sc}:BE a b=true↔b.n<a.n\/(a.n=b.n/\(a.i<b.i\/(a.i=b.i/\a.j<b.j))):=by
 unfold BE;simp
theorem O9{a b:Sc}:BE a b=false↔a.n<b.n\/(a.n=b.n/\(b.i<a.i\/(a.i=b.i/\b.j<=a.j))):=by
 rw[Bool.eq_false_iff,ne_eq,YU];omega
theorem Tf(a:Sc):BE a a=false:=by rw[O9];omega
theorem Mn{a b:Sc}(h:BE a b=true):BE b a=false:=by
 rw[YU]at h;rw[O9];omega
theorem Ra{a b c:Sc}(h1:BE b a=false)(h2:BE c b=false):BE c a=false:=by
 rw[O9]at h1 h2 ⊢; omega
theorem p6{a b:Sc}(h1:BE a b=false)(h2:BE b a=false):a=b:=by
 rw[O9]at h1 h2;obtain⟨i,j,n⟩:=a;obtain⟨i',j',n'⟩:=b;simp at h1 h2 ⊢;omega
abbrev gt(l:List Sc)(k:Nat):Sc:=l.getD k iy
theorem Gf{l:List Sc}{i j:Nat}(hi:i<l.length)(hj:j<l.length)(k:Nat):gt (XK l i j) k=if k=j then gt l i else if k=i then gt l j else gt l k:=by
 unfold gt XK;simp only[List.getD_eq_getElem?_getD,List.getElem?_set,List.length_set];by_cases h1:k=j
 ·subst h1;simp[hj]
 ·rw[if_neg (fun e=>h1 e.symm)];by_cases h2:k=i
  ·subst h2;simp[h1,hi]
  ·rw[if_neg (fun e=>h2 e.symm)];simp[h1,h2]
theorem Vj{l:List Sc}{i j:Nat}(hi:i<l.length)(hj:j<l.length):XK l i j ~ l:=by
 unfold XK;rw[List.getD_eq_getElem?_getD,List.getD_eq_getElem?_getD,List.getElem?_eq_getElem hi,List.getElem?_eq_getElem hj];exact List.set_set_perm hi hj
def M9(l:List Sc)(n:Nat):Prop:=∀k,0<k->k<n->BE (gt l k) (gt l ((k-1) / 2))=false
theorem vX{l:List Sc}{n:Nat}(h:M9 l n):∀k,k<n->BE (gt l k) (gt l 0)=false:=by
 intro k;induction k using Nat.strongRecOn with
 |_ k ih=>
  intro hk;by_cases h0:k=0
  ·subst h0;exact Tf _
  ·exact Ra (ih ((k-1) / 2) oF oF) (h k oF hk)
def Aib(l:List Sc)(n j:Nat):Prop:=(∀k,0<k->k<n->k≠j->BE (gt l k) (gt l ((k-1) / 2))=false)/\(∀k,0<k->k<n->(k-1) / 2=j->0<j->BE (gt l k) (gt l ((j-1) / 2))=false)
theorem AaT:∀(f:Nat)(l:List Sc)(j:Nat),j<f->j<l.length->Aib l l.length j->M9 (qm f l j) l.length/\qm f l j ~ l
 |0,l,j,hf,_,_=>oF
 |f+1,l,j,hf,hj,⟨h1,h2⟩=>by
  unfold qm;split
  ·rename_i hc;refine⟨fun k hk hk2=>?_,Perm.refl _⟩;by_cases e:k=j
   ·subst e;rcases hc with hc|hc
    ·omega
    ·exact hc
   ·exact h1 k hk hk2 e
  ·rename_i hc;have hij:¬(j-1) / 2=j:=fun e=>hc (.inl e);have hA:BE (gt l j) (gt l ((j-1) / 2))=true:=by
    cases hq:BE (gt l j) (gt l ((j-1) / 2)) with
    |true=>rfl
    |false=>exact(hc (.inr hq)).elim
   obtain⟨i,hi⟩:∃i,i=(j-1) / 2:=⟨_,rfl⟩;rw[<-hi]at hij hA h2 ⊢;have hil:i<l.length:=oF
   have hlt:i<j:=oF
   have ih:=AaT f (XK l i j) i oF (by simp;omega) ⟨fun k hk hk2 hne=>?_,fun k hk hk2 hp h0=>?_⟩
   ·simp only[a7]at ih;exact⟨ih.1,ih.2.trans (Vj hil hj)⟩
   ·simp only[a7]at hk2;rw[Gf hil hj,Gf hil hj];by_cases e1:k=j
    ·subst e1;rw[if_pos rfl,<-hi,if_neg oF,if_pos rfl];exact Mn hA
    ·rw[if_neg e1,if_neg hne];by_cases e2:(k-1) / 2=j
     ·rw[if_pos e2];exact h2 k hk hk2 e2 oF
     ·rw[if_neg e2];by_cases e3:(k-1) / 2=i
      ·rw[if_pos e3];have:=h1 k hk hk2 e1;rw[e3]at this;exact Ra (Mn hA) this
      ·rw[if_neg e3];exact h1 k hk hk2 e1
   ·simp only[a7]at hk2;rw[Gf hil hj,Gf hil hj];have hpi:=h1 i h0 hil oF;rw[if_neg (by omega:¬(i-1) / 2=j),if_neg (by omega:¬(i-1) / 2=i)];by_cases e1:k=j
    ·rw[if_pos e1];exact hpi
    ·rw[if_neg e1,if_neg (by omega:¬k=i)];have:=h1 k hk hk2 e1;rw[hp]at this;exact Ra hpi this
theorem nQ{l:List Sc}(h:M9 l l.length)(x:Sc):M9 (qm (l.length+1) (l++[x]) l.length) (l.length+1)/\qm (l.length+1) (l++[x]) l.length ~ x::l:=by
 have hg:∀k,k<l.length->gt (l++[x]) k=gt l k:=fun k hk=>by
  unfold gt;rw[List.getD_eq_getElem?_getD,List.getD_eq_getElem?_getD,List.getElem?_append_left hk]
 have:=AaT (l.length+1) (l++[x]) l.length oF iS ⟨fun k hk hk2 hne=>?_,fun k hk hk2 hp h0=>?_⟩
 ·simp only[List.length_append,List.length_singleton]at this;exact⟨this.1,this.2.trans (List.perm_append_singleton x l)⟩
 ·simp at hk2;rw[hg k oF,hg _ oF];exact h k hk oF
 ·simp at hk2;omega
def yE(l:List Sc)(n i:Nat):Prop:=(∀k,0<k->k<n->(k-1) / 2≠i->BE (gt l k) (gt l ((k-1) / 2))=false)/\(∀k,0<k->k<n->(k-1) / 2=i->0<i->BE (gt l k) (gt l ((i-1) / 2))=false)
theorem o3{l:List Sc}{i n:Nat}(h:2*i+1<n):LS l i n<n/\(LS l i n-1) / 2=i/\i<LS l i n/\∀k,0<k->k<n->(k-1) / 2=i->BE (gt l k) (gt l (LS l i n))=false:=by
 unfold LS;split
 ·rename_i hc;refine⟨hc.1,oF,oF,fun k hk hk2 hp=>?_⟩;have:k=2*i+1\/k=2*i+2:=oF
  rcases this with rfl|rfl
  ·exact Mn hc.2
  ·exact Tf _
 ·rename_i hc;refine⟨h,oF,oF,fun k hk hk2 hp=>?_⟩;have:k=2*i+1\/k=2*i+2:=oF
  rcases this with rfl|rfl
  ·exact Tf _
  ·cases hq:BE (gt l (2*i+2)) (gt l (2*i+1)) with
   |false=>rfl
   |true=>exact(hc ⟨hk2,hq⟩).elim
theorem nu:∀(f:Nat)(l:List Sc)(i n:Nat),n<=l.length->i<l.length->n<i+f->yE l n i->M9 (Ib f l i n).1 n/\(Ib f l i n).1 ~ l/\∀k,n<=k->gt (Ib f l i n).1 k=if k=i then gt (Ib f l i n).1 i else gt l k
 |0,l,i,n,hn,hil,hf,⟨h1,h2⟩=>by
  refine⟨fun k hk hk2=>h1 k hk hk2 oF,Perm.refl _,fun k hk=>?_⟩;show gt l k=if k=i then gt l i else gt l k
  split
  ·rename_i e;rw[e]
  ·rfl
 |f+1,l,i,n,hn,hil,hf,⟨h1,h2⟩=>by
  have same:∀k:Nat,gt l k=if k=i then gt l i else gt l k:=fun k=>by
   split
   ·rename_i e;rw[e]
   ·rfl
  unfold Ib;split
  ·refine⟨fun k hk hk2=>h1 k hk hk2 oF,Perm.refl _,fun k _=>same k⟩
  ·rename_i hlt;obtain⟨c1,c2,c3,c4⟩:=o3 (l:=l) (i:=i) (n:=n) oF;split
   ·rename_i hA;generalize LS l i n=c at *;have hcl:c<l.length:=oF
    have ih:=nu f (XK l i c) c n (by simp;omega) (by simp;omega) oF ⟨fun k hk hk2 hne=>?_,fun k hk hk2 hp h0=>?_⟩
    ·refine⟨ih.1,ih.2.1.trans (Vj hil hcl),fun k hk=>?_⟩;rw[ih.2.2 k hk,if_neg (by omega:¬k=c),Gf hil hcl,if_neg (by omega:¬k=c)];by_cases e:k=i
     ·subst e;omega
     ·rw[if_neg e,if_neg e]
    ·rw[Gf hil hcl,Gf hil hcl];by_cases e1:k=c
     ·subst e1;rw[if_pos rfl,c2,if_neg oF,if_pos rfl];exact Mn hA
     ·rw[if_neg e1];by_cases e2:k=i
      ·subst e2;rw[if_pos rfl,if_neg hne,if_neg (by omega:¬(k-1) / 2=k)];exact h2 c oF c1 c2 hk
      ·rw[if_neg e2,if_neg hne];by_cases e3:(k-1) / 2=i
       ·rw[if_pos e3];exact c4 k hk hk2 e3
       ·rw[if_neg e3];exact h1 k hk hk2 e3
    ·rw[Gf hil hcl,Gf hil hcl,c2,if_neg (by omega:¬i=c),if_pos rfl,if_neg (by omega:¬k=c),if_neg (by omega:¬k=i)];have:=h1 k hk hk2 oF
     rwa [hp]at this
   ·rename_i hA;have hA':BE (gt l (LS l i n)) (gt l i)=false:=by
     cases hq:BE (gt l (LS l i n)) (gt l i) with
     |false=>rfl
     |true=>exact(hA hq).elim
    refine⟨fun k hk hk2=>?_,Perm.refl _,fun k _=>same k⟩;by_cases e:(k-1) / 2=i
    ·rw[e];exact Ra hA' (c4 k hk hk2 e)
    ·exact h1 k hk hk2 e
def Ka(l:List Sc):List Sc:=(Ib (l.length-1+1) (XK l 0 (l.length-1)) 0 (l.length-1)).1
theorem Vn(l:List Sc):(Ka l).length=l.length:=by unfold Ka;rw[Zg];simp
theorem AaL{l:List Sc}{i:Nat}(h:i<l.length):gt l i=l[i]:=by unfold gt;rw[List.getD_eq_getElem?_getD,List.getElem?_eq_getElem h];rfl
theorem mY{l:List Sc}{n k:Nat}(h:k<n):gt (l.take n) k=gt l k:=by
 unfold gt;rw[List.getD_eq_getElem?_getD,List.getD_eq_getElem?_getD,List.getElem?_take,if_pos h]
theorem AbJ{l:List Sc}(h0:0<l.length)(h:M9 l l.length):gt (Ka l) (l.length-1)=gt l 0/\M9 ((Ka l).take (l.length-1)) (l.length-1)/\(gt l 0::(Ka l).take (l.length-1)) ~ l:=by
 have hlen:=Vn l;obtain⟨n,hn⟩:∃n,n=l.length-1:=⟨_,rfl⟩;unfold Ka at hlen ⊢;rw[<-hn]at hlen ⊢;have hnl:n<l.length:=oF
 have hd:=nu (n+1) (XK l 0 n) 0 n (by simp;omega) (by simp;omega) oF ⟨fun k hk hk2 hne=>?_,fun k _ _ _ h0=>oF⟩
 ·generalize hl2:(Ib (n+1) (XK l 0 n) 0 n).1=l2 at hd hlen;have hg:gt l2 n=gt l 0:=by
   by_cases e:n=0
   ·subst e;have:l2=XK l 0 0:=by rw[<-hl2,Ib,if_pos oF]
    rw[this,Gf h0 h0,if_pos rfl]
   ·rw[hd.2.2 n (CX _),if_neg e,Gf h0 hnl,if_pos rfl]
  refine⟨hg,fun k hk hk2=>?_,?_⟩
  ·rw[mY hk2,mY oF];exact hd.1 k hk hk2
  ·have hsplit:l2=l2.take n++[gt l2 n]:=by
    rw[AaL oF,List.take_append_getElem,AO oF]
   refine Perm.trans ?_ (hd.2.1.trans (Vj h0 hnl))
   conv=>rhs;rw[hsplit]
   rw[hg];exact(List.perm_append_singleton _ _).symm
 ·rw[Gf h0 hnl,Gf h0 hnl,if_neg (by omega:¬k=n),if_neg (by omega:¬k=0),if_neg (by omega:¬(k-1) / 2=n),if_neg hne];exact h k hk oF
def XC(p q:Sc):Bool:=(decide (p.i<q.i)&&decide (p.j<q.j))|| (decide (q.i<p.i)&&decide (q.j<p.j))
theorem cy{p q:Sc}:XC p q=XC q p:=by unfold XC;rw[Bool.or_comm]
theorem yp(p:Sc):XC p p=false:=by simp[XC]
def Ho(o:List Sc)(x:Sc):Bool:=o.all fun p=>XC p x
theorem Zl{o:List Sc}{x y:Sc}:Ho (o++[x]) y=(Ho o y&&XC x y):=by simp[Ho]
def zU(all o:List Sc)(x:Sc):Prop:=x∈all/\Ho o x=true/\∀y,y∈all->Ho o y=true->BE y x=false
inductive MY(all:List Sc):List Sc->List Sc->Prop
 |done {o}:(∀y,y∈all->Ho o y=false)->MY all o o
 |step {o x o'}:zU all o x->MY all (o++[x]) o'->MY all o o'
theorem vP{all o:List Sc}{x y:Sc}(h:zU all o x)(k:zU all o y):x=y:=p6 (k.2.2 x h.1 h.2.1) (h.2.2 y k.1 k.2.1)
theorem pX{all o a b:List Sc}(h:MY all o a):MY all o b->a=b:=by
 induction h with
 |done h=>
  intro k;cases k with
  |done=>rfl
  |step hb _=>
   have:=hb.2.1;rw[h _ hb.1]at this;cases this
 |step hb _ ih=>
  intro k;cases k with
  |done k=>
   have:=hb.2.1;rw[k _ hb.1]at this;cases this
  |step hb' k=>
   have:=vP hb hb';subst this;exact ih k
def FC(o:List Sc):Prop:=o.Pairwise fun p q=>XC p q=true
theorem i9{o:List Sc}{x:Sc}(h:FC o)(hx:Ho o x=true):FC (o++[x]):=by
 unfold FC at h ⊢;rw[List.pairwise_append];refine⟨h,iS,fun p hp q hq=>?_⟩;simp at hq;subst hq;simp[Ho]at hx;exact hx p hp
theorem iu{all o o':List Sc}(h:MY all o o'):FC o->(∀x,x∈o->x∈all)->FC o'/\∀x,x∈o'->x∈all:=by
 induction h with
 |done=>exact fun h k=>⟨h,k⟩
 |step hb _ ih=>
  intro h k;refine ih (i9 h hb.2.1) fun x hx=>?_;rcases List.mem_append.1 hx with hx|hx
  ·exact k x hx
  ·simp at hx;subst hx;exact hb.1
theorem w6{all o:List Sc}{x:Sc}{l rest:List Sc}(hl:x::rest ~ l)(hmin:∀y,y∈l->BE y x=false)(hall:∀y,y∈all->y∈l\/Ho o y=false)(hsub:∀y,y∈l->y∈all) :
  (Ho o x=true->zU all o x/\(∀y,y∈all->y∈rest\/Ho (o++[x]) y=false))/\(Ho o x=false->∀y,y∈all->y∈rest\/Ho o y=false):=by
 refine⟨fun hx=>⟨⟨hsub x (hl.subset iS),hx,fun y hy hf=>?_⟩,fun y hy=>?_⟩,fun hx y hy=>?_⟩
 ·rcases hall y hy with h|h
  ·exact hmin y h
  ·rw[h]at hf;cases hf
 ·rcases hall y hy with h|h
  ·rcases List.mem_cons.1 (hl.symm.subset h)with rfl|h
   ·right;rw[Zl,yp];simp
   ·exact .inl h
  ·right;rw[Zl,h];rfl
 ·rcases hall y hy with h|h
  ·rcases List.mem_cons.1 (hl.symm.subset h)with rfl|h
   ·exact .inr hx
   ·exact .inl h
  ·exact .inr h
def Xo(x:Sc):List Sc->List Sc
 |[]=>[x]
 |y::l=>if y.i<x.i then y::Xo x l else x::y::l
def Km(l:List Sc):Prop:=l.Pairwise fun p q=>p.i<q.i
theorem SX(x:Sc):∀l,Xo x l ~ x::l
 |[]=>Perm.refl _
 |y::l=>by
  unfold Xo;split
  ·exact((SX x l).cons y).trans (Perm.swap x y l)
  ·exact Perm.refl _
theorem Vv{x:Sc}:∀{l:List Sc},Km l->(∀y,y∈l->y.i≠x.i)->Km (Xo x l)
 |[],_,_=>by simp[Xo,Km]
 |y::l,h,hne=>by
  unfold Xo;unfold Km at h ⊢;rw[List.pairwise_cons]at h;split
  ·rename_i hlt;rw[List.pairwise_cons];refine⟨fun z hz=>?_,Vv h.2 fun z hz=>hne z (by simp[hz])⟩;rcases List.mem_cons.1 ((SX x l).subset hz)with rfl|hz
   ·exact hlt
   ·exact h.1 z hz
  ·rename_i hlt;have:=hne y iS;rw[List.pairwise_cons,List.pairwise_cons];refine⟨fun z hz=>?_,h⟩;rcases List.mem_cons.1 hz with rfl|hz
   ·omega
   ·have:=h.1 z hz;omega
theorem Zh:∀{l m:List Sc},Km l->Km m->l ~ m->l=m
 |[],m,_,_,h=>(List.nil_perm.1 h).symm
 |x::l,[],_,_,h=>by have:=h.length_eq;simp at this
 |x::l,y::m,hl,hm,h=>by
  unfold Km at hl hm;rw[List.pairwise_cons]at hl hm;have e:x=y:=by
   rcases List.mem_cons.1 (h.subset (by simp:x∈x::l))with e|e
   ·exact e
   ·rcases List.mem_cons.1 (h.symm.subset (by simp:y∈y::m))with e2|e2
    ·exact e2.symm
    ·have h1:=hm.1 x e;have h2:=hl.1 y e2;omega
  subst e;rw[Zh hl.2 hm.2 ((List.perm_cons x).1 h)]
def Sx(o:List Sc):List Sc:=o.foldl (fun l x=>Xo x l) []
theorem QJ{o:List Sc}(h:FC o):Km (Sx o)/\Sx o ~ o:=by
 have main:∀(o l p:List Sc),Km l->l ~ p->(p++o).Pairwise (fun a b=>XC a b=true)->Km (o.foldl (fun l x=>Xo x l) l)/\o.foldl (fun l x=>Xo x l) l ~ p++o:=by
  intro o;induction o with
  |nil=>intro l p h1 h2 _;simpa using ⟨h1,h2⟩
  |cons x o ih=>
   intro l p h1 h2 h3;have hx:∀y,y∈p->XC y x=true:=fun y hy=>by
    rw[List.pairwise_append]at h3;exact h3.2.2 y hy x iS
   have:=ih (Xo x l) (p++[x]) (Vv h1 fun y hy e=>by
    have:=hx y (h2.subset hy);simp[XC]at this;omega) ((SX x l).trans ((h2.cons x).trans (List.perm_append_singleton x p).symm)) (by simpa using h3)
   simpa using this
 have:=main o [] [] (by simp[Km]) (Perm.refl _) (by show FC ([]++o);exact h);simpa[Sx]using this
theorem YH:∀(l:List Sc)(a b:Nat),Km l->(∀x,x∈l->a<=x.i/\x.i<b)->l.length<=b-a
 |[],a,b,_,_=>iS
 |x::l,a,b,h,hb=>by
  unfold Km at h;rw[List.pairwise_cons]at h;have h1:=hb x iS;have:=YH l (x.i+1) b h.2 fun y hy=>⟨h.1 y hy,(hb y (by simp[hy])).2⟩;simp;omega
end Go.PL
namespace Go.Proofs.YtlaapfplenlfaaaGreat
open Go Go.G Go.Proofs Go.PL
def ct(x:Sc):List A:=[iv x.i,iv x.j,iv x.n]
def OZ(x:Sc):A:=.agg (ct x)
@[simp]theorem Aek{x:Sc}:(OZ x).cells=ct x:=rfl
@[simp]theorem AiX{x:Sc}:(ct x).length=3:=rfl
@[simp]theorem Afw{a:A}:jh Tryz.prog 242 a=some (.ifc 242 a):=by
 unfold jh;rw[show Tryz.prog.underlying 242=some (.pointer 244) by kernel_rfl]
@[simp]theorem Alf{a:A}:jh Tryz.prog 247 a=some (.ifc 247 a):=by
 unfold jh;rw[show Tryz.prog.underlying 247=some (.struct (Tryz.prog.fieldsOf 247)) by kernel_rfl]
@[simp]theorem AeY{a:A}:O8 Tryz.prog 247 false (.ifc 247 a)=some a:=by
 simp only[O8,if_true];rw[show Tryz.prog.underlying 247=some (.struct (Tryz.prog.fieldsOf 247)) by kernel_rfl];rfl
def Ly(l junk:List Sc)(v:Nat):Fam:=⟨fun r p=>if p=[]then ⟨1,.cells [.osl (r::[0]) v 3 0 l.length]⟩else if p=[0]then ⟨v,.arr 3 ((l++junk).map OZ)⟩else ⟨0,.none⟩,fun {g δ r r'} hg hd p=>by
  by_cases h1:p=[]
  ·rw[if_pos h1,if_pos h1];refine Fam.cells_ren ?_;simp[A.renL,A.ren,hg,hd]
  ·rw[if_neg h1,if_neg h1];by_cases h2:p=[0]
   ·rw[if_pos h2];refine Fam.arr_ren ?_;have e:∀x:Sc,(OZ x).ren g δ=OZ x:=fun x=>by simp[OZ,ct,A.ren,A.renL]
    simp only[Cu,List.map_map];refine List.map_congr_left fun x _=>?_;exact e x
   ·rw[if_neg h2];rfl,fun {D r} hD p=>by
  by_cases h1:p=[]
  ·rw[if_pos h1];simp[Ob.refs,A.refsL,A.refs,hD]
  ·rw[if_neg h1];by_cases h2:p=[0]
   ·rw[if_pos h2];simp only[Ob.refs,refsL_iff];intro y hy;obtain⟨x,_,rfl⟩:=List.mem_map.1 hy;simp[A.refs,A.refsL,OZ,ct]
   ·rw[if_neg h2];trivial⟩
@[simp]theorem AaV{l junk:List Sc}{v r:Nat}{p:Nm}:(Ly l junk v).F r p=if p=[]then ⟨1,.cells [.osl (r::[0]) v 3 0 l.length]⟩else if p=[0]then ⟨v,.arr 3 ((l++junk).map OZ)⟩else ⟨0,.none⟩:=rfl
abbrev iB(r:Nat):A:=.pob [r] 1 0
abbrev jt(r:Nat):A:=.ifc 242 (iB r)
abbrev scI(x:Sc):A:=.ifc 247 (OZ x)
theorem yn{x:Sc}:∀y,y∈ct x->y.bare1=true:=fun y hy=>by simp[ct]at hy;rcases hy with rfl|rfl|rfl<;>rfl
@[simp]theorem AjZ{x:Sc}:A.ones (ct x)=true:=rfl
@[simp]theorem AjA{x:Sc}:(ct x).take 3=ct x:=rfl
theorem vf{x:Sc}:A.agg (ct x)=OZ x:=rfl
theorem z8{l:List Sc}:EN 3 (l.map OZ)=true:=by rw[Jj];simp
theorem Ro(x:Sc):DV (fun _=>scI x):=NX (DJ (cs:=ct x) rfl fun y hy=>by simp[ct]at hy;rcases hy with rfl|rfl|rfl<;>rfl)
theorem OW(l junk:List Sc)(v:Nat)(hl:l.length<=1000):SpecF Tryz.prog 194 (fun r=>[.osl (r::[0]) v 3 0 l.length]) (Ly l junk v) (fun _=>iv l.length) (Ly l junk v):=by
 refine Ao VI iS (Ab Bo Ah) Az fun w0 I0 M0 m0=>?_;unfold NU;simp;exact An rfl rfl (fun p=>iS)
theorem iQ(l junk:List Sc)(v:Nat)(hl:l.length<=1000)(x:Sc):SpecF Tryz.prog 242 (fun r=>[iB r,scI x]) (Ly l junk v) (fun _=>.tup []) (Ly (l++[x]) [] (v+1)):=by
 refine Ao Uw iS (Ab Aq (Ab (Ro x) Ah)) (Ay Ah) fun w0 I0 M0 m0=>?_;unfold Nd;simp[z8,Aa];refine⟨yn,oF,?_⟩;exact AQ rfl rfl (fun p=>by by_cases h1:p=[]<;>by_cases h2:p=[0]<;>simp[h1,h2,Aa])
theorem ql(l junk:List Sc)(v:Nat)(hl:l.length<=1000)(x:Sc):SpecF Tryz.prog 241 (fun r=>[iB r]) (Ly (l++[x]) junk v) (fun _=>scI x) (Ly l (x::junk) v):=by
 refine Ao Vt iS (Ab Aq Ah) (Ro x) fun w0 I0 M0 m0=>?_;have e1:i64.wrap (l.length:Int)=(l.length:Int):=Ga;have he:(l.map OZ++OZ x::junk.map OZ)[l.length]? = some (OZ x):=by
  rw[List.getElem?_append_right iS];simp
 unfold N5;simp[e1,he,Aa,show(l.length:Int)<l.length+1 by omega,show(l.length:Int)<=l.length+1 by omega];exact AQ rfl rfl (fun p=>by by_cases h1:p=[]<;>by_cases h2:p=[0]<;>simp[h1,h2,Aa])
theorem Wh(n:Int):G.Spec Tryz.prog 207 [iv n] (bv false):=by
 refine Ak Uk iS fun w0 I0=>?_;unfold M7;simp;exact Ae rfl
def Fw(a b:Int):Int:=if a<b then -1 else if b<a then 1 else 0
theorem RZ(a b:Int):G.Spec Tryz.prog 200 [iv a,iv b] (iv (Fw a b)):=by
 refine Ak Rl iS fun w0 I0=>?_;unfold Kw Fw;simp;refine Ag (Wh a) rfl ?_;simp;refine Ag (Wh b) rfl ?_;by_cases h:a<b
 ·simp[h];exact Ae rfl
 ·by_cases h2:b<a
  ·simp[h,h2];exact Ae rfl
  ·simp[h,h2];exact Ae rfl
theorem za(a b c:Int):G.Spec Tryz.prog 245 [.sl true [iv a,iv b,iv c]] (iv (if a≠0 then a else if b≠0 then b else c)):=by
 refine Ak ZW iS fun w0 I0=>?_;have w1:i64.wrap 1=1:=rfl;have w2:i64.wrap 2=2:=rfl;have w3:i64.wrap 3=3:=rfl;unfold QN;simp;refine Ad Ai GH.eq_1 ?_;by_cases h1:a=0
 ·simp[h1,w1];refine Ad Ai GH.eq_1 ?_;by_cases h2:b=0
  ·simp[h2,w2];refine Ad Ai GH.eq_1 ?_;by_cases h3:c=0
   ·simp[h3,w3];refine Ad Ai GH.eq_1 ?_;simp;exact Ae rfl
   ·simp[h3];exact Ae rfl
  ·simp[h2];exact Ae rfl
 ·simp[h1];exact Ae rfl
theorem pQ(a b:Sc):decide ((if Fw b.n a.n≠0 then Fw b.n a.n else if Fw a.i b.i≠0 then Fw a.i b.i else Fw a.j b.j)<0)=BE a b:=by
 have h3:∀x y:Int,(x<y/\Fw x y=-1)\/(x=y/\Fw x y=0)\/(y<x/\Fw x y=1):=fun x y=>by
  unfold Fw;rcases Int.lt_trichotomy x y with h|h|h
  ·exact .inl ⟨h,if_pos h⟩
  ·exact .inr (.inl ⟨h,by rw[if_neg oF,if_neg oF]⟩)
  ·exact .inr (.inr ⟨h,by rw[if_neg oF,if_pos h]⟩)
 unfold BE;rcases h3 b.n a.n with ⟨h,e⟩|⟨h,e⟩|⟨h,e⟩
 ·rw[e];simp[h]
 ·rw[e];rcases h3 a.i b.i with ⟨h2,e2⟩|⟨h2,e2⟩|⟨h2,e2⟩
  ·rw[e2];have:a.i<b.i:=oF
   simp[h,this]
  ·rw[e2];have h2':a.i=b.i:=oF
   rcases h3 a.j b.j with ⟨h4,e4⟩|⟨h4,e4⟩|⟨h4,e4⟩
   ·rw[e4];have:a.j<b.j:=oF
    simp[h,h2',this]
   ·rw[e4];have:¬a.j<b.j:=oF
    simp[h,h2',this]
   ·rw[e4];have:¬a.j<b.j:=oF
    simp[h,h2',this]
  ·rw[e2];have h5:¬a.i<b.i:=oF
   have h6:¬a.i=b.i:=oF
   simp[h,h5,h6]
 ·rw[e];have h5:¬b.n<a.n:=oF
  have h6:¬a.n=b.n:=oF
  simp[h5,h6]
theorem jU(a b:Sc):G.Spec Tryz.prog 244 [OZ a,OZ b] (bv (BE a b)):=by
 refine Ak Po iS fun w0 I0=>?_;have hO:=za (Fw b.n a.n) (Fw a.i b.i) (Fw a.j b.j);unfold Ju;simp[OZ,ct];refine Ag (RZ b.n a.n) rfl ?_;simp;refine Ag (RZ a.i b.i) rfl ?_;simp;refine Ag (RZ a.j b.j) rfl ?_;simp;refine Ag hO rfl ?_;simp;refine BA ?_;rw[<-pQ];simp
theorem QH(l junk:List Sc)(v:Nat)(hl:l.length<=1000)(i j:Nat)(hi:i<l.length)(hj:j<l.length):SpecF Tryz.prog 240 (fun r=>[.osl (r::[0]) v 3 0 l.length,iv i,iv j]) (Ly l junk v) (fun _=>bv (BE l[i] l[j])) (Ly l junk v):=by
 refine Ao Ur iS (Ab Bo (Ab Az (Ab Az Ah))) Az fun w0 I0 M0 m0=>?_;have hA:=jU l[i] l[j];have gi:(l.map OZ++junk.map OZ)[i]? = some (OZ l[i]):=by rw[List.getElem?_append_left (by simpa using hi)];simp[hi]
 have gj:(l.map OZ++junk.map OZ)[j]? = some (OZ l[j]):=by rw[List.getElem?_append_left (by simpa using hj)];simp[hj]
 unfold MX;simp[gi,gj,hi,hj,show(i:Int)<l.length by omega,show(j:Int)<l.length by omega,vf];refine Ag hA rfl ?_;simp;exact An rfl rfl (fun p=>iS)
theorem Qt(l junk:List Sc)(v:Nat)(hl:l.length<=1000)(i j:Nat)(hi:i<l.length)(hj:j<l.length):SpecF Tryz.prog 243 (fun r=>[.osl (r::[0]) v 3 0 l.length,iv i,iv j]) (Ly l junk v) (fun _=>.tup []) (Ly ((l.set i l[j]).set j l[i]) junk v):=by
 refine Ao Ui iS (Ab Bo (Ab Az (Ab Az Ah))) (Ay Ah) fun w0 I0 M0 m0=>?_;have gi:(l.map OZ++junk.map OZ)[i]? = some (OZ l[i]):=by rw[List.getElem?_append_left (by simpa using hi)];simp[hi]
 have gj:(l.map OZ++junk.map OZ)[j]? = some (OZ l[j]):=by rw[List.getElem?_append_left (by simpa using hj)];simp[hj]
 unfold MS;simp[gi,gj,hi,hj,show(i:Int)<l.length by omega,show(j:Int)<l.length by omega,vf];have gk:((l.map OZ).set i (OZ l[j])++junk.map OZ)[j]? = some (OZ l[j]):=by
  rw[List.getElem?_append_left (by simpa using hj)];by_cases e:i=j
  ·subst e;simp[hi]
  ·rw[List.getElem?_set_ne e];simp[hj]
 rw[gk];simp[hj];exact AQ rfl rfl (fun p=>by by_cases h1:p=[]<;>by_cases h2:p=[0]<;>simp[h1,h2,Aa,List.map_set])
theorem Tn:PT Tryz.prog 242 "Less" = some (240,some 244):=by kernel_rfl
theorem St:PT Tryz.prog 242 "Swap" = some (243,some 244):=by kernel_rfl
theorem ij:PT Tryz.prog 242 "Len" = some (194,some 244):=by kernel_rfl
theorem qG:PT Tryz.prog 242 "Push" = some (242,none):=by kernel_rfl
theorem tu:PT Tryz.prog 242 "Pop" = some (241,none):=by kernel_rfl
theorem HD{l:List Sc}{i:Nat}(h:i<l.length):l.getD i iy=l[i]:=by rw[List.getD_eq_getElem?_getD,List.getElem?_eq_getElem h];rfl
theorem j9{l:List Sc}{i j:Nat}(hi:i<l.length)(hj:j<l.length):XK l i j=(l.set i l[j]).set j l[i]:=by unfold XK;rw[HD hi,HD hj]
theorem Jb{H:Hp}{l junk:List Sc}{v:Nat}(hH:∀p,H (0::p)=(Ly l junk v).F 0 p):YP Tryz.prog H (some 244) (iB 0)=some (.osl [0,0] v 3 0 l.length):=by
 have:=hH [];unfold YP;simp[this]
theorem AgR{n0:Nat}{w0:World}{I0:Nat->Prop}{M0:Nm->Nat->Prop}{m0:Mu}{Q:Exit->Sta->Prop}{junk:List Sc}{v:Nat}:∀(f:Nat)(l:List Sc)(j:Nat)(H:Hp),l.length<=1000->j<l.length->j<f->(∀p,H (0::p)=(Ly l junk v).F 0 p) ->
  (∀(H':Hp)(st:List (Nat × A)),(∀p,H' (0::p)=(Ly (qm f l j) junk v).F 0 p)->Q (.exit 0) ⟨lk st,H'⟩) ->
  LoopC (DC Tryz.prog w0 I0 M0 n0 m0) Gc Q ⟨lk [(0,jt 0),(1,iv j)],H⟩:=by
 intro f;induction f with
 |zero=>intro l j H _ _ hf;omega
 |succ f ih=>
  intro l j H hl hj hf hH hq;obtain⟨i,hi⟩:∃i,i=(j-1) / 2:=⟨_,rfl⟩;have hil:i<l.length:=oF
  have e1:i64.wrap ((j:Int)-1)=(j:Int)-1:=Ga;have e2:i64.wrap (((j:Int)-1).tdiv 2)=(i:Int):=by
   by_cases h0:j=0
   ·subst h0;have:i=0:=oF
    subst this;rfl
   ·rw[Int.tdiv_eq_ediv_of_nonneg oF,Bq oF oF];omega
  have hL:=QH l junk v hl j i hj hil;have hS:=Qt l junk v hl i j hil hj;rw[qm,<-hi,HD hj,HD hil,j9 hil hj]at hq;refine Ad Ai Gc.eq_1 ?_;by_cases hij:i=j
  ·rw[if_pos (.inl hij)]at hq;simp[e1,e2,hij];rw[AW];simp;exact hq H [(0,jt 0),(1,iv j),(4,iv j),(17,bv true)] hH
  ·have hij':¬(i:Int)=j:=oF
   simp[e1,e2,hij,hij'];rw[AW];simp;refine IE 0 hL hH rfl Tn (Jb hH) rfl iS ?_;cases hA:BE l[j] l[i] with
   |false=>
    rw[hA,if_pos (.inr rfl)]at hq;simp;exact hq _ [(0,jt 0),(1,iv j),(4,iv i),(17,bv true)] (fun p=>iS)
   |true=>
    rw[hA,if_neg (by simp[hij])]at hq;simp;have hH2:∀p,(ov 0 ((Ly l junk v).F 0) H) (0::p)=(Ly l junk v).F 0 p:=fun p=>iS
    refine IE 0 hS hH2 rfl St (Jb hH2) rfl iS ?_;simp;refine ih _ i _ (by simp;omega) (by simp;omega) oF (fun p=>iS) hq
theorem y8(l junk:List Sc)(v:Nat)(hl:l.length<=1000)(j:Nat)(hj:j<l.length):SpecF Tryz.prog 202 (fun r=>[jt r,iv j]) (Ly l junk v) (fun _=>.tup []) (Ly (qm (j+1) l j) junk v):=by
 refine Ao Pj iS (Ab (NX Aq) (Ab Az Ah)) (Ay Ah) fun w0 I0 M0 m0=>?_;unfold Jw;simp;refine LoopC.le (Ar [(0,jt 0),(1,iv j)] iS) ?_;refine AgR (junk:=junk) (v:=v) (j+1) l j _ hl hj oF (fun p=>iS) fun H' st hH=>?_;simp;exact AQ rfl rfl hH
theorem xW{l:List Sc}{i n:Nat}(h:2*i+1<n):LS l i n<n/\i<LS l i n:=by
 unfold LS;split
 ·rename_i h2;omega
 ·omega
theorem zu{n0:Nat}{w0:World}{I0:Nat->Prop}{M0:Nm->Nat->Prop}{m0:Mu}{Q':Exit->Sta->Prop}{junk l:List Sc}{v i k:Nat}{i0 n:Int}{H:Hp}(hl:l.length<=1000)(hi:i<l.length)(hk:k<l.length)(hH:∀p,H (0::p)=(Ly l junk v).F 0 p)
  (h0:BE l[k] l[i]=false->∀(H':Hp),(∀p,H' (0::p)=(Ly l junk v).F 0 p)->Q' (.exit 0) ⟨lk [(0,jt 0),(1,iv i0),(2,iv n),(7,iv i),(9,iv k),(39,bv true)],H'⟩)
  (h1:BE l[k] l[i]=true->∀(H':Hp),(∀p,H' (0::p)=(Ly (XK l i k) junk v).F 0 p)->Q' .normal ⟨lk [(0,jt 0),(1,iv i0),(2,iv n),(7,iv k)],H'⟩) :
  WPC (DC Tryz.prog w0 I0 M0 n0 m0) DB Q' ⟨lk [(0,jt 0),(1,iv i0),(2,iv n),(7,iv i),(9,iv k)],H⟩:=by
 have hL:=QH l junk v hl k i hk hi;have hS:=Qt l junk v hl i k hi hk;rw[<-j9 hi hk]at hS;rw[DB.eq_1];simp;refine IE 0 hL hH rfl Tn (Jb hH) rfl iS ?_;cases hA:BE l[k] l[i] with
 |false=>
  simp;exact h0 hA _ (fun p=>iS)
 |true=>
  simp;have hH2:∀p,(ov 0 ((Ly l junk v).F 0) H) (0::p)=(Ly l junk v).F 0 p:=fun p=>iS
  refine IE 0 hS hH2 rfl St (Jb hH2) rfl iS ?_;simp;exact h1 hA _ (fun p=>iS)
theorem zO{n0:Nat}{w0:World}{I0:Nat->Prop}{M0:Nm->Nat->Prop}{m0:Mu}{Q:Exit->Sta->Prop}{junk:List Sc}{v n:Nat}{i0:Int}:∀(f:Nat)(l:List Sc)(i:Nat)(H:Hp),l.length<=1000->n<=l.length->(i<n\/(n=0/\i=0))->n<i+f->i<l.length->(∀p,H (0::p)=(Ly l junk v).F 0 p) ->
  (∀(H':Hp)(st:List (Nat × A)),(∀p,H' (0::p)=(Ly (Ib f l i n).1 junk v).F 0 p)->(lk st) 1=iv i0->(lk st) 7=iv (Ib f l i n).2->Q (.exit 0) ⟨lk st,H'⟩) ->
  LoopC (DC Tryz.prog w0 I0 M0 n0 m0) DA Q ⟨lk [(0,jt 0),(1,iv i0),(2,iv n),(7,iv i)],H⟩:=by
 intro f;induction f with
 |zero=>intro l i H hl hn hi hf hil hH hq;omega
 |succ f ih=>
  intro l i H hl hn hi hf hil hH hq;have e1:i64.wrap (2*(i:Int))=2*(i:Int):=Ga;have e2:i64.wrap (2*(i:Int)+1)=((2*i+1:Nat):Int):=Bv;rw[Ib]at hq;refine Ad Ai DA.eq_1 ?_;by_cases h1:n<=2*i+1
  ·rw[if_pos h1]at hq;simp[e1,e2,show(n:Int)<=2*i+1 by omega];exact hq H [(0,jt 0),(1,iv i0),(2,iv n),(7,iv i),(8,iv (2*i+1:Nat)),(21,bv true)] hH rfl rfl
  ·rw[if_neg h1]at hq;have e3:i64.wrap (2*(i:Int)+1+1)=((2*i+2:Nat):Int):=Bv;have hkl:=xW (l:=l) (i:=i) (n:=n) oF;have fin:∀(H':Hp),(∀p,H' (0::p)=(Ly l junk v).F 0 p)->WPC (DC Tryz.prog w0 I0 M0 n0 m0) DB (Co 1 (Hk (LoopC (DC Tryz.prog w0 I0 M0 n0 m0) DA Q) Q)) ⟨lk [(0,jt 0),(1,iv i0),(2,iv n),(7,iv i),(9,iv (LS l i n))],H'⟩:=fun H' hH'=>by
    refine zu hl hil (k:=LS l i n) oF hH' (fun hA H2 h2=>?_) (fun hA H2 h2=>?_)
    ·rw[<-HD oF,<-HD hil]at hA;rw[if_neg (by rw[hA];simp)]at hq;exact hq H2 _ h2 rfl rfl
    ·rw[<-HD oF,<-HD hil]at hA;rw[if_pos hA]at hq;simp;exact ih _ _ H2 (by simp;omega) (by simp;omega) (.inl hkl.1) oF (by simp;omega) h2 hq
   clear hq ih;simp[e1,e2,show ¬(n:Int)<=2*i+1 by omega,show ¬2*(i:Int)+1<0 by omega,e3];by_cases h2:2*i+2<n
   ·have hL:=QH l junk v hl (2*i+2) (2*i+1) oF oF;simp[show 2*(i:Int)+2<n by omega];rw[AW];simp;refine IE 0 hL hH rfl Tn (Jb hH) rfl iS ?_;have hk:LS l i n=if BE l[2*i+2] l[2*i+1]=true then 2*i+2 else 2*i+1:=by
     unfold LS;rw[HD oF,HD oF];simp[h2]
    rw[hk]at fin;cases hA:BE l[2*i+2] l[2*i+1] with
    |false=>
     rw[hA]at fin;simp;exact fin _ (fun p=>iS)
    |true=>
     rw[hA]at fin;simp;exact fin _ (fun p=>iS)
   ·have hk:LS l i n=2*i+1:=by
     unfold LS;rw[if_neg (fun e=>h2 e.1)]
    rw[hk]at fin;simp[show ¬2*(i:Int)+2<n by omega];rw[AW];simp;exact fin _ hH
theorem pC(l junk:List Sc)(v:Nat)(hl:l.length<=1000)(n:Nat)(hn:n<=l.length)(h0:0<l.length):SpecF Tryz.prog 203 (fun r=>[jt r,iv 0,iv n]) (Ly l junk v) (fun _=>bv (decide (0<(Ib (n+1) l 0 n).2))) (Ly (Ib (n+1) l 0 n).1 junk v):=by
 refine Ao Nf iS (Ab (NX Aq) (Ab Az (Ab Az Ah))) Az fun w0 I0 M0 m0=>?_;unfold Ia;simp;refine LoopC.le (Ar [(0,jt 0),(1,iv 0),(2,iv n),(7,iv (0:Nat))] iS) ?_;refine zO (junk:=junk) (v:=v) (n+1) l 0 _ hl hn oF oF h0 (fun p=>iS) fun H' st hH h1 h7=>?_;simp[h1,h7];exact An rfl rfl hH
theorem cQ(l junk:List Sc)(v:Nat)(hl:l.length<=900)(x:Sc):SpecF Tryz.prog 193 (fun r=>[jt r,scI x]) (Ly l junk v) (fun _=>.tup []) (Ly (qm (l.length+1) (l++[x]) l.length) [] (v+1)):=by
 refine Ao Nl iS (Ab (NX Aq) (Ab (Ro x) Ah)) (Ay Ah) fun w0 I0 M0 m0=>?_;have hP:=iQ l junk v oF x;have hL:=OW (l++[x]) [] (v+1) (by simp;omega);have hU:=y8 (l++[x]) [] (v+1) (by simp;omega) l.length iS;have e1:i64.wrap (l.length:Int)=(l.length:Int):=Ga;unfold HY;simp;refine IE 0 hP (fun p=>iS) rfl qG rfl rfl iS ?_;simp;have hH2:∀p,(ov 0 ((Ly (l++[x]) [] (v+1)).F 0) (Gz []):Hp) (0::p)=(Ly (l++[x]) [] (v+1)).F 0 p:=fun p=>iS
 refine IE 0 hL hH2 rfl ij (Jb hH2) rfl iS ?_;simp[e1];refine Ap 0 hU (fun p=>iS) iS iS ?_;simp;exact AQ rfl rfl (fun p=>iS)
theorem jY(l junk:List Sc)(v:Nat)(hl:l.length<=900)(h0:0<l.length):SpecF Tryz.prog 195 (fun r=>[jt r]) (Ly l junk v) (fun _=>scI ((Ka l).getD (l.length-1) iy)) (Ly ((Ka l).take (l.length-1)) ((Ka l).getD (l.length-1) iy::junk) v):=by
 refine Ao Nu iS (Ab (NX Aq) Ah) (Ro _) fun w0 I0 M0 m0=>?_;obtain⟨n,hn⟩:∃n,n=l.length-1:=⟨_,rfl⟩;have hlen:=Vn l;rw[<-hn];have hL:=OW l junk v oF;have hS:=Qt l junk v oF 0 n h0 oF;rw[<-j9 h0 oF]at hS;have hD:=pC (XK l 0 n) junk v (by simp;omega) n (by simp;omega) (by simp;omega);have hpd:(Ib (n+1) (XK l 0 n) 0 n).1=Ka l:=by unfold Ka;rw[<-hn]
 rw[hpd]at hD;have hsplit:Ka l=(Ka l).take n++[(Ka l).getD n iy]:=by
  rw[HD oF,List.take_append_getElem,AO oF]
 have hP:=ql ((Ka l).take n) junk v (by simp;omega) ((Ka l).getD n iy);rw[<-hsplit]at hP;have e1:i64.wrap ((l.length:Int)-1)=(n:Int):=Bv;have hH1:∀p,(ov 0 ((Ly l junk v).F 0) (Gz []):Hp) (0::p)=(Ly l junk v).F 0 p:=fun p=>iS
 have hH3:∀l2:List Sc,∀p,(ov 0 ((Ly l2 junk v).F 0) (Gz []):Hp) (0::p)=(Ly l2 junk v).F 0 p:=fun l2 p=>iS
 generalize (Ka l).getD n iy=z at hP ⊢;generalize (Ka l).take n=l3 at hP ⊢;generalize Ka l=l2 at hD hP;generalize (Ib (n+1) (XK l 0 n) 0 n).2=dd at hD;generalize XK l 0 n=l1 at hS hD;unfold Je;simp;refine IE 0 hL hH1 rfl ij (Jb hH1) rfl iS ?_;simp[e1];refine IE 0 hS hH1 rfl St (Jb hH1) rfl iS ?_;simp;refine Ap 0 hD (fun p=>iS) iS iS ?_;simp;refine IE 0 hP (fun p=>iS) rfl tu rfl rfl iS ?_;simp;exact An rfl rfl (fun p=>iS)
def iz(x:Sc):List A:=[iv x.i,iv x.j]
def K3(x:Sc):A:=.agg (iz x)
@[simp]theorem Ae1{x:Sc}:(K3 x).cells=iz x:=rfl
@[simp]theorem Akn{x:Sc}:(iz x).length=2:=rfl
@[simp]theorem Ajo{x:Sc}:A.ones (iz x)=true:=rfl
@[simp]theorem Ai8{x:Sc}:(iz x).take 2=iz x:=rfl
theorem DE{x:Sc}:A.agg (iz x)=K3 x:=rfl
theorem nZ{x:Sc}:∀y,y∈iz x->y.bare1=true:=fun y hy=>by simp[iz]at hy;rcases hy with rfl|rfl<;>rfl
theorem xP{l:List Sc}:EN 2 (l.map K3)=true:=by rw[Jj];simp
theorem yH(x:Sc):DV (fun _=>K3 x):=DJ (cs:=iz x) rfl nZ
def iE(l:List Sc)(v:Nat):Fam:=⟨fun r p=>if p=[]then ⟨v,.arr 2 (l.map K3)⟩else ⟨0,.none⟩,fun {g δ r r'} hg hd p=>by
  by_cases h1:p=[]
  ·rw[if_pos h1];refine Fam.arr_ren ?_;have e:∀x:Sc,(K3 x).ren g δ=K3 x:=fun x=>by simp[K3,iz,A.ren,A.renL]
   simp only[Cu,List.map_map];refine List.map_congr_left fun x _=>?_;exact e x
  ·rw[if_neg h1];rfl,fun {D r} hD p=>by
  by_cases h1:p=[]
  ·rw[if_pos h1];simp only[Ob.refs,refsL_iff];intro y hy;obtain⟨x,_,rfl⟩:=List.mem_map.1 hy;simp[A.refs,A.refsL,K3,iz]
  ·rw[if_neg h1];trivial⟩
@[simp]theorem Kv{l:List Sc}{v r:Nat}{p:Nm}:(iE l v).F r p=if p=[]then ⟨v,.arr 2 (l.map K3)⟩else ⟨0,.none⟩:=rfl
abbrev xv(l:List Sc)(v r:Nat):A:=.osl [r] v 2 0 l.length
theorem bU(p q:Sc):G.Spec Tryz.prog 197 [K3 p,K3 q] (bv (!XC p q)):=by
 refine Ak Pp iS fun w0 I0=>?_;unfold JC XC;by_cases h1:p.i<q.i<;>by_cases h2:p.j<q.j<;>by_cases h3:q.i<p.i<;>by_cases h4:q.j<p.j<;>simp[K3,iz,h1,h2,h3,h4,Aa]<;>exact BA rfl
abbrev crF(x:Sc):A:=.fnc 197 [K3 x] []
theorem eF(x:Sc):DV (fun _=>crF x):=LB (Ab (yH x) Ah) Ah
def PS(x:Sc):List Sc->Nat->Int
 |[],_=>-1
 |q::l,i=>if XC x q=true then PS x l (i+1)else i
theorem Wv(x:Sc):∀(l:List Sc)(i:Nat),decide (0<=PS x l i)=!(l.all fun q=>XC x q)
 |[],i=>rfl
 |q::l,i=>by
  unfold PS;cases h:XC x q with
  |true=>simp[h,Wv x l (i+1)]
  |false=>simp[h]
theorem AbR{n0:Nat}{w0:World}{I0:Nat->Prop}{M0:Nm->Nat->Prop}{m0:Mu}{Q:Exit->Sta->Prop}{x:Sc}{l:List Sc}{v:Nat}{H:Hp}(hl:l.length<=1000)(hH:∀p,H (0::p)=(iE l v).F 0 p)
  (hq:∀y:Int,y=PS x l 0->y≠-1->Q .ret ⟨lk [(4,iv y)],H⟩) (hq2:PS x l 0=-1->Q (.exit 0) ⟨lk [(0,xv l v 0),(1,crF x),(7,iv l.length),(8,iv l.length),(9,bv false)],H⟩):∀(m i:Nat),i+m=l.length->PS x (l.drop i) i=PS x l 0 ->
  LoopC (DC Tryz.prog w0 I0 M0 n0 m0) Bl Q ⟨lk [(0,xv l v 0),(1,crF x),(7,iv l.length),(8,iv i)],H⟩:=by
 intro m;induction m with
 |zero=>
  intro i hi he;have:i=l.length:=oF
  subst this;rw[List.drop_length]at he;refine Ad Ai Bl.eq_1 ?_;simp;exact hq2 (he.symm.trans rfl)
 |succ m ih=>
  intro i hi he;have hlt:i<l.length:=oF
  have h0:=hH [];have hg:(l.map K3)[i]? = some (K3 l[i]):=by simp[hlt]
  have e1:=AR i;rw[List.drop_eq_getElem_cons hlt,PS]at he;refine Ad Ai Bl.eq_1 ?_;simp[h0,hg,hlt,DE,show(i:Int)<l.length by omega];refine GJ (fs:=[K3 x]) (caps:=[]) rfl (bU x l[i]) rfl ?_;cases hp:XC x l[i] with
  |true=>
   rw[hp,if_pos rfl]at he;simp[e1];exact ih (i+1) oF he
  |false=>
   rw[hp,if_neg iS]at he;simp;exact hq _ he oF
theorem o0(x:Sc)(l:List Sc)(v:Nat)(hl:l.length<=1000):SpecF Tryz.prog 204 (fun r=>[xv l v r,crF x]) (iE l v) (fun _=>iv (PS x l 0)) (iE l v):=by
 refine Ao FW iS (Ab Bo (Ab (eF x) Ah)) Az fun w0 I0 M0 m0=>?_;unfold Dn;simp;refine AbR (v:=v) (x:=x) hl (fun p=>iS) (fun y hy hn=>?_) (fun h=>?_) l.length 0 oF rfl
 ·simp;exact An (by rw[hy];rfl) rfl (fun p=>iS)
 ·simp;exact An (by rw[h];rfl) rfl (fun p=>iS)
theorem Zo(x:Sc)(l:List Sc)(v:Nat)(hl:l.length<=1000):SpecF Tryz.prog 196 (fun r=>[xv l v r,crF x]) (iE l v) (fun _=>bv (!Ho l x)) (iE l v):=by
 have hI:=o0 x l v hl;have e:decide (0<=PS x l 0)=!Ho l x:=by
  rw[Wv];unfold Ho;congr 2;funext q;exact cy
 refine Ao Fb iS (Ab Bo (Ab (eF x) Ah)) Az fun w0 I0 M0 m0=>?_;unfold CU;simp;refine Ap 0 hI (fun p=>iS) iS iS ?_;simp;rw[<-e];exact An rfl rfl (fun p=>iS)
end Go.Proofs.YtlaapfplenlfaaaGreat
namespace Go.Proofs.YtlaapfplenlfaaaGreat
set_option maxRecDepth 20000
open Go Go.G Go.Proofs
@[simp]theorem Aj1:DT Tryz.prog 276=some 1:=by kernel_rfl
@[simp]theorem Af3:D6 Tryz.prog 276=some false:=by kernel_rfl
@[simp]theorem AeT:BQ Tryz.prog 276=some (Value.int u64 0):=by kernel_rfl
def J7:CC:=sQ [mO 13 0,oO 14 (.binOp .geq 61 (xT 13) (.const (.int .u64 256)) 61)] [0,2,14] (cD 14 (sR [mO 15 0,oO 16 (.binOp .shr 61 (xT 15) (.const (.int .u64 8)) 169),aO 0 16] [0,2] (.reg [mO 17 2,bQ .add 18 3 17 8 3,aO 2 18] [0,2])) (.skip)) [0,2] (sR [mO 19 2,mO 20 0,oO 21 (.convert 61 5 (xT 20)),oO 22 (.index 9 (.const (.string { data:=#[0,1,2,2,3,3,3,3,4,4,4,4,4,4,4,4,5,5,5,5,5,5,5,5,5,5,5,5,5,5,5,5,6,6,6,6,6,6,6,6,6,6,6,6,6,6,6,6,6,6,6,6,6,6,6,6,6,6,6,6,6,6,6,6,7,7,7,7,7,7,7,7,7,7,7,7,7,7,7,7,7,7,7,7,7,7,7,7,7,7,7,7,7,7,7,7,7,7,7,7,7,7,7,7,7,7,7,7,7,7,7,7,7,7,7,7,7,7,7,7,7,7,7,7,7,7,7,7,8,8,8,8,8,8,8,8,8,8,8,8,8,8,8,8,8,8,8,8,8,8,8,8,8,8,8,8,8,8,8,8,8,8,8,8,8,8,8,8,8,8,8,8,8,8,8,8,8,8,8,8,8,8,8,8,8,8,8,8,8,8,8,8,8,8,8,8,8,8,8,8,8,8,8,8,8,8,8,8,8,8,8,8,8,8,8,8,8,8,8,8,8,8,8,8,8,8,8,8,8,8,8,8,8,8,8,8,8,8,8,8,8,8,8,8,8,8,8,8,8,8,8,8,8,8,8,8] })) (xT 21)),oO 23 (.convert 5 3 (xT 22)),bB .add 24 3 19 23 3,aO 2 24] [2] (.ret))
def Kh:CC:=sQ [mO 7 0,oO 8 (.binOp .geq 61 (xT 7) (.const (.int .u64 65536)) 61)] [0,2,8] (cD 8 (sR [mO 9 0,oO 10 (.binOp .shr 61 (xT 9) (.const (.int .u64 16)) 169),aO 0 10] [0,2] (.reg [mO 11 2,bQ .add 12 3 11 16 3,aO 2 12] [0,2])) (.skip)) [0,2] J7 
def K6:CC:=sR [aI 2 0] [0,2] (sQ [mO 3 0,oO 4 (.binOp .geq 61 (xT 3) (.const (.int .u64 4294967296)) 61)] [0,2,4] (cD 4 (sR [mO 5 0,oO 6 (.binOp .shr 61 (xT 5) (.const (.int .u64 32)) 169),aO 0 6] [0] (.reg [aI 2 32] [0,2])) (.skip)) [0,2] Kh)
theorem Ru:BT Tryz.prog 217 25 [(.tmp 2)] K6:=AA Tryz.func217
def Na:CC:=sR [aI 2 0] [0] (.seq (.cond (nB false) (sR [mO 3 0,oO 4 (.convert 169 274 (xT 3)),cA 5 216 4 274,aO 2 5] [2] (.ret)) (.skip)) (.keep [0] (sR [mO 6 0,cA 7 217 6 61,aO 2 7] [2] (.ret))))
theorem Uj:BT Tryz.prog 206 8 [(.tmp 2)] Na:=AA Tryz.func206
def Bi:CC:=sQ [mO 18 9,mO 19 1,bB .gtr 20 3 18 19 3,mO 21 20,mG 22 3 21 true,mG 23 0 21 true,mG 24 9 21 true,oG 25 (iA 233 23 24) 21 true,lG 26 235 25 21 true,mG 27 0 21 true,mG 28 9 21 true,oG 29 (.binOp .sub 3 (xT 28) (nI 1) 3) 21 true,oG 30 (iA 233 27 29) 21 true,lG 31 235 30 21 true,oG 32 (.call { callee:=(.value (xT 22)),args:=#[(xT 26),(xT 31)],argTypes:=#[235,235] }) 21 true,oG 33 (.binOp .lss 3 (xT 32) (nI 0) 3) 21 true,pF 34 21 33] [0,1,2,3,8,9,34] (cD 34 (.skip) (.exit 2)) [0,1,2,3,8,9] (.seq (.block 3 (.reg [mO 37 0,mO 38 9,mO 39 0,mO 40 9,bQ .sub 41 3 40 1 3,mO 42 0,mO 43 9,bQ .sub 44 3 43 1 3,iO 45 233 42 44,lO 46 235 45,mO 47 0,mO 48 9,iO 49 233 47 48,lO 50 235 49,iO 51 233 37 38,sT 235 51 46,iO 52 233 39 41,sT 235 52 50] [0,1,2,3,8,9])) (.reg [mO 35 9,bQ .sub 36 3 35 1 3,aO 9 36] [0,1,2,3,8,9]))
def Bj:CC:=sQ [mO 12 8,mO 13 2,bB .lss 14 3 12 13 3] [0,1,2,3,8,14] (cD 14 (.skip) (.exit 0)) [0,1,2,3,8] (.seq (.block 1 (sR [mO 17 8,aO 9 17] [0,1,2,3,8,9] (.block 2 (.loop Bi)))) (.keep [0,1,2,3,8] (.reg [mO 15 8,bQ .add 16 3 15 1 3,aO 8 16] [0,1,2,3,8]))) 
def Da:CC:=sR [mO 10 1,bQ .add 11 3 10 1 3,aO 8 11] [0,1,2,3,8] (.block 0 (.loop Bj))
theorem FJ:BT Tryz.prog 208 53 [] Da:=AA Tryz.func208
def Hg:CC:=sR [oO 2 (.assign (.const (.int .u64 0)))] [0] (sR [mO 3 0,oO 4 (.convert 3 169 (xT 3)),cA 5 206 4 169,oO 6 (.binOp .shl 169 (.const (.int .u64 1)) (xT 5) 3),aO 2 6] [2] (.ret))
theorem LJ:BT Tryz.prog 219 7 [(.tmp 2)] Hg:=AA Tryz.func219
def Hq:CC:=sR [oO 2 (.assign (.const (.int .u64 0)))] [0] (sR [mO 3 0,nC 4 3,lO 5 276 4,mO 6 0,nC 7 6,lO 8 276 7,oO 9 (.binOp .shl 276 (xT 8) (.const (.int .u64 13)) 169),bB .xor 10 276 5 9 276,nC 11 3,sT 276 11 10] [0] (sR [mO 12 0,nC 13 12,lO 14 276 13,mO 15 0,nC 16 15,lO 17 276 16,oO 18 (.binOp .shr 276 (xT 17) (.const (.int .u64 7)) 169),bB .xor 19 276 14 18 276,nC 20 12,sT 276 20 19] [0] (sR [mO 21 0,nC 22 21,lO 23 276 22,mO 24 0,nC 25 24,lO 26 276 25,oO 27 (.binOp .shl 276 (xT 26) (.const (.int .u64 17)) 169),bB .xor 28 276 23 27 276,nC 29 21,sT 276 29 28] [0] (sR [mO 30 0,nC 31 30,lO 32 276 31,aO 2 32] [2] (.ret)))))
theorem My:BT Tryz.prog 220 33 [(.tmp 2)] Hq:=AA Tryz.func220
def BR:CC:=.reg [mO 49 0,mO 50 11,mO 51 0,mO 52 1,mO 53 12,bB .add 54 3 52 53 3,mO 55 0,mO 56 1,mO 57 12,bB .add 58 3 56 57 3,iO 59 233 55 58,lO 60 235 59,mO 61 0,mO 62 11,iO 63 233 61 62,lO 64 235 63,iO 65 233 49 50,sT 235 65 60,iO 66 233 51 54,sT 235 66 64] [0,1,8,9,10,11]
def Ax:CC:=sQ [mO 28 11,mO 29 1,mO 30 8,bQ .quo 31 3 30 4 3,bQ .mul 32 3 31 2 3,bB .add 33 3 29 32 3,bQ .add 34 3 33 1 3,bB .leq 35 3 28 34 3] [0,1,8,9,10,11,35] (cD 35 (.skip) (.exit 0)) [0,1,8,9,10,11] (.seq (.block 1 (sR [cA 38 220 9 276,mO 39 10,oO 40 (.binOp .sub 169 (xT 39) (.const (.int .u64 1)) 169),bB .and 41 169 38 40 169,oO 42 (.convert 169 3 (xT 41)),aO 12 42] [0,1,8,9,10,11,12] (sQ [mO 43 12,mO 44 8,bB .geq 45 3 43 44 3] [0,1,8,9,10,11,12,45] (cD 45 (.reg [mO 46 12,mO 47 8,bB .sub 48 3 46 47 3,aO 12 48] [0,1,8,9,10,11,12]) (.skip)) [0,1,8,9,10,11,12] BR))) (.keep [0,1,8,9,10,11] (.reg [mO 36 11,bQ .add 37 3 36 1 3,aO 11 37] [0,1,8,9,10,11]))) 
def Dc:CC:=sR [mO 13 2,mO 14 1,bB .sub 15 3 13 14 3,aO 8 15] [0,1,8] (sR [mO 16 8,bQ .geq 17 3 16 8 3] [0,1,8,17] (cD 17 (sR [mO 18 8,oO 19 (.convert 3 276 (xT 18)),aL 9 276 [1],sT 276 9 19] [0,1,8,9] (sR [mO 20 8,cA 21 219 20 3,aO 10 21] [0,1,8,9,10] (sR [mO 22 1,mO 23 8,bQ .quo 24 3 23 4 3,bQ .mul 25 3 24 2 3,bB .add 26 3 22 25 3,bQ .sub 27 3 26 1 3,aO 11 27] [0,1,8,9,10,11] (.block 0 (.loop Ax))))) (.skip)))
theorem FM:BT Tryz.prog 210 67 [] Dc:=AA Tryz.func210
def D7:CC:=sR [aI 10 0,aI 11 0] [0,1,2,3,4] (sQ [mO 12 4,mO 13 0,mO 14 2,iO 15 233 13 14,lO 16 235 15,mO 17 0,mO 18 1,iO 19 233 17 18,lO 20 235 19,oO 21 (.call { callee:=(.value (xT 12)),args:=#[(xT 16),(xT 20)],argTypes:=#[235,235] }),bQ .lss 22 3 21 0 3] [1,2,3,22] (cD 22 (sR [mO 23 3,nC 24 23,lO 25 3 24,bQ .add 26 3 25 1 3,nC 27 23,sT 3 27 26] [1,2] (sR [mO 28 2,mO 29 1,aO 10 28,aO 11 29] [10,11] (.ret))) (.skip)) [1,2] (sR [mO 30 1,mO 31 2,aO 10 30,aO 11 31] [10,11] (.ret)))
theorem Hy:BT Tryz.prog 223 32 [(.tmp 10),(.tmp 11)] D7:=AA Tryz.func223
def D9:CC:=sR [aI 12 0] [0,1,2,3,4,5] (sR [mO 14 0,mO 15 1,mO 16 2,mO 17 4,mO 18 5,oO 19 (cL 223 #[(xT 14),(xT 15),(xT 16),(xT 17),(xT 18)] #[233,3,3,280,254]),mO 13 19,xO 20 13 0,xO 21 13 1,aO 1 20,aO 2 21] [0,1,2,3,4,5] (sR [mO 23 0,mO 24 2,mO 25 3,mO 26 4,mO 27 5,oO 28 (cL 223 #[(xT 23),(xT 24),(xT 25),(xT 26),(xT 27)] #[233,3,3,280,254]),mO 22 28,xO 29 22 0,xO 30 22 1,aO 2 29,aO 3 30] [0,1,2,4,5] (sR [mO 32 0,mO 33 1,mO 34 2,mO 35 4,mO 36 5,oO 37 (cL 223 #[(xT 32),(xT 33),(xT 34),(xT 35),(xT 36)] #[233,3,3,280,254]),mO 31 37,xO 38 31 0,xO 39 31 1,aO 1 38,aO 2 39] [2] (sR [mO 40 2,aO 12 40] [12] (.ret)))))
theorem Ht:BT Tryz.prog 222 41 [(.tmp 12)] D9:=AA Tryz.func222
def Dk:CC:=sR [lO 55 3 11] [13,55] (.block 0 (sR [bQ .eql 58 3 55 0 3,aO 57 58] [13,55,57] (cD 57 (sR [mO 59 13,aO 8 59,aI 9 1] [8,9] (.ret)) (sR [bQ .eql 61 3 55 12 3,aO 60 61] [13,60] (cD 60 (sR [mO 62 13,aO 8 62,aI 9 2] [8,9] (.ret)) (sR [mO 56 13,aO 8 56,aI 9 0] [8,9] (.ret))))))) 
def Ds:CC:=sR [aI 8 0,aI 9 0] [0,1,2,3] (sR [mO 15 2,mO 16 1,bB .sub 17 3 15 16 3,aO 10 17] [0,1,3,10] (sR [aL 11 3 [1]] [0,1,3,10,11] (sR [mO 18 1,mO 19 10,bQ .quo 20 3 19 4 3,bQ .mul 21 3 20 1 3,bB .add 22 3 18 21 3,aO 12 22] [0,1,3,10,11,12] (sR [mO 23 1,mO 24 10,bQ .quo 25 3 24 4 3,bQ .mul 26 3 25 2 3,bB .add 27 3 23 26 3,aO 13 27] [0,1,3,10,11,12,13] (sR [mO 28 1,mO 29 10,bQ .quo 30 3 29 4 3,bQ .mul 31 3 30 3 3,bB .add 32 3 28 31 3,aO 14 32] [0,3,10,11,12,13,14] (sQ [mO 33 10,bQ .geq 34 3 33 8 3] [0,3,10,11,12,13,14,34] (cD 34 (sQ [mO 35 10,bQ .geq 36 3 35 50 3] [0,3,11,12,13,14,36] (cD 36 (sR [mO 37 0,mO 38 12,mO 39 3,oO 40 (cL 221 #[(xT 37),(xT 38),(xT 11),(xT 39)] #[233,3,280,254]),aO 12 40] [0,3,11,12,13,14] (sR [mO 41 0,mO 42 13,mO 43 3,oO 44 (cL 221 #[(xT 41),(xT 42),(xT 11),(xT 43)] #[233,3,280,254]),aO 13 44] [0,3,11,12,13,14] (.reg [mO 45 0,mO 46 14,mO 47 3,oO 48 (cL 221 #[(xT 45),(xT 46),(xT 11),(xT 47)] #[233,3,280,254]),aO 14 48] [0,3,11,12,13,14]))) (.skip)) [0,3,11,12,13,14] (.reg [mO 49 0,mO 50 12,mO 51 13,mO 52 14,mO 53 3,oO 54 (cL 222 #[(xT 49),(xT 50),(xT 51),(xT 52),(xT 11),(xT 53)] #[233,3,3,3,280,254]),aO 13 54] [11,13])) (.skip)) [11,13] Dk))))))
theorem Gh:BT Tryz.prog 211 63 [(.tmp 8),(.tmp 9)] Ds:=AA Tryz.func211
def AU:CC:=sQ [mO 13 8,mO 14 9,bB .lss 15 3 13 14 3] [0,8,9,15] (cD 15 (.skip) (.exit 0)) [0,8,9] (.block 1 (sR [mO 16 0,mO 17 8,mO 18 0,mO 19 9,mO 20 0,mO 21 9,iO 22 233 20 21,lO 23 235 22,mO 24 0,mO 25 8,iO 26 233 24 25,lO 27 235 26,iO 28 233 16 17,sT 235 28 23,iO 29 233 18 19,sT 235 29 27] [0,8,9] (sR [mO 30 8,bQ .add 31 3 30 1 3,aO 8 31] [0,8,9] (.reg [mO 32 9,bQ .sub 33 3 32 1 3,aO 9 33] [0,8,9])))) 
def Dj:CC:=sR [mO 10 1,aO 8 10] [0,2,8] (sR [mO 11 2,bQ .sub 12 3 11 1 3,aO 9 12] [0,8,9] (.block 0 (.loop AU)))
theorem FV:BT Tryz.prog 212 34 [] Dj:=AA Tryz.func212
def AD:CC:=sQ [mO 19 9,mO 20 2,bB .lss 21 3 19 20 3,mO 22 21,mG 23 3 22 true,mG 24 0 22 true,mG 25 9 22 true,oG 26 (iA 233 24 25) 22 true,lG 27 235 26 22 true,mG 28 0 22 true,mG 29 9 22 true,oG 30 (.binOp .sub 3 (xT 29) (nI 1) 3) 22 true,oG 31 (iA 233 28 30) 22 true,lG 32 235 31 22 true,oG 33 (.call { callee:=(.value (xT 23)),args:=#[(xT 27),(xT 32)],argTypes:=#[235,235] }) 22 true,oG 34 (.binOp .lss 3 (xT 33) (nI 0) 3) 22 true,oG 35 (.unOp .not 4 (xT 34)) 22 true,pF 36 22 35] [0,1,2,3,9,10,36] (cD 36 (.skip) (.exit 2)) [0,1,2,3,9,10] (.block 3 (.reg [mO 37 9,bQ .add 38 3 37 1 3,aO 9 38] [0,1,2,3,9,10]))
def Ef:CC:=sQ [mO 68 11,bQ .geq 69 3 68 1 3] [0,1,2,3,9,10,11,69] (cD 69 (.skip) (.exit 4)) [0,1,2,3,9,10,11] (.seq (.block 5 (sQ [mO 72 3,mO 73 0,mO 74 11,iO 75 233 73 74,lO 76 235 75,mO 77 0,mO 78 11,bQ .sub 79 3 78 1 3,iO 80 233 77 79,lO 81 235 80,oO 82 (.call { callee:=(.value (xT 72)),args:=#[(xT 76),(xT 81)],argTypes:=#[235,235] }),bQ .lss 83 3 82 0 3,oO 84 (.unOp .not 4 (xT 83))] [0,1,2,3,9,10,11,84] (cD 84 (.exit 4) (.skip)) [0,1,2,3,9,10,11] (.reg [mO 85 0,mO 86 11,mO 87 0,mO 88 11,bQ .sub 89 3 88 1 3,mO 90 0,mO 91 11,bQ .sub 92 3 91 1 3,iO 93 233 90 92,lO 94 235 93,mO 95 0,mO 96 11,iO 97 233 95 96,lO 98 235 97,iO 99 233 85 86,sT 235 99 94,iO 100 233 87 89,sT 235 100 98] [0,1,2,3,9,10,11]))) (.keep [0,1,2,3,9,10,11] (.reg [mO 70 11,bQ .sub 71 3 70 1 3,aO 11 71] [0,1,2,3,9,10,11])))
def Ej:CC:=sQ [mO 107 12,mO 108 2,bB .lss 109 3 107 108 3] [0,1,2,3,9,10,12,109] (cD 109 (.skip) (.exit 6)) [0,1,2,3,9,10,12] (.seq (.block 7 (sQ [mO 112 3,mO 113 0,mO 114 12,iO 115 233 113 114,lO 116 235 115,mO 117 0,mO 118 12,bQ .sub 119 3 118 1 3,iO 120 233 117 119,lO 121 235 120,oO 122 (.call { callee:=(.value (xT 112)),args:=#[(xT 116),(xT 121)],argTypes:=#[235,235] }),bQ .lss 123 3 122 0 3,oO 124 (.unOp .not 4 (xT 123))] [0,1,2,3,9,10,12,124] (cD 124 (.exit 6) (.skip)) [0,1,2,3,9,10,12] (.reg [mO 125 0,mO 126 12,mO 127 0,mO 128 12,bQ .sub 129 3 128 1 3,mO 130 0,mO 131 12,bQ .sub 132 3 131 1 3,iO 133 233 130 132,lO 134 235 133,mO 135 0,mO 136 12,iO 137 233 135 136,lO 138 235 137,iO 139 233 125 126,sT 235 139 134,iO 140 233 127 129,sT 235 140 138] [0,1,2,3,9,10,12]))) (.keep [0,1,2,3,9,10,12] (.reg [mO 110 12,bQ .add 111 3 110 1 3,aO 12 111] [0,1,2,3,9,10,12])))
def Ei:CC:=sR [mO 101 2,mO 102 9,bB .sub 103 3 101 102 3,bQ .geq 104 3 103 2 3] [0,1,2,3,9,10,104] (cD 104 (sR [mO 105 9,bQ .add 106 3 105 1 3,aO 12 106] [0,1,2,3,9,10,12] (.block 6 (.loop Ej))) (.skip))
def Ce:CC:=sQ [mO 15 10,bQ .lss 16 3 15 5 3] [0,1,2,3,9,10,16] (cD 16 (.skip) (.exit 0)) [0,1,2,3,9,10] (.seq (.block 1 (.seq (.block 2 (.loop AD)) (.keep [0,1,2,3,9,10] (sQ [mO 39 9,mO 40 2,bB .eql 41 3 39 40 3] [0,1,2,3,9,10,41] (cD 41 (sR [aB 8 true] [8] (.ret)) (.skip)) [0,1,2,3,9,10] (sQ [mO 42 2,mO 43 1,bB .sub 44 3 42 43 3,bQ .lss 45 3 44 50 3] [0,1,2,3,9,10,45] (cD 45 (sR [aB 8 false] [8] (.ret)) (.skip)) [0,1,2,3,9,10] (sR [mO 46 0,mO 47 9,mO 48 0,mO 49 9,bQ .sub 50 3 49 1 3,mO 51 0,mO 52 9,bQ .sub 53 3 52 1 3,iO 54 233 51 53,lO 55 235 54,mO 56 0,mO 57 9,iO 58 233 56 57,lO 59 235 58,iO 60 233 46 47,sT 235 60 55,iO 61 233 48 50,sT 235 61 59] [0,1,2,3,9,10] (sQ [mO 62 9,mO 63 1,bB .sub 64 3 62 63 3,bQ .geq 65 3 64 2 3] [0,1,2,3,9,10,65] (cD 65 (sR [mO 66 9,bQ .sub 67 3 66 1 3,aO 11 67] [0,1,2,3,9,10,11] (.block 4 (.loop Ef))) (.skip)) [0,1,2,3,9,10] Ei))))))) (.keep [0,1,2,3,9,10] (.reg [mO 17 10,bQ .add 18 3 17 1 3,aO 10 18] [0,1,2,3,9,10]))) 
def Cj:CC:=sR [aB 8 false] [0,1,2,3] (sR [mO 13 1,bQ .add 14 3 13 1 3,aO 9 14] [0,1,2,3,9] (sQ [aI 10 0] [0,1,2,3,9,10] (.block 0 (.loop Ce)) [] (sR [aB 8 false] [8] (.ret))))
theorem En:BT Tryz.prog 213 141 [(.tmp 8)] Cj:=AA Tryz.func213
def AN:CC:=sQ [mO 31 11,mO 32 12,bB .leq 33 3 31 32 3,mO 34 33,mG 35 4 34 true,mG 36 0 34 true,mG 37 1 34 true,oG 38 (iA 233 36 37) 34 true,lG 39 235 38 34 true,mG 40 0 34 true,mG 41 11 34 true,oG 42 (iA 233 40 41) 34 true,lG 43 235 42 34 true,oG 44 (.call { callee:=(.value (xT 35)),args:=#[(xT 39),(xT 43)],argTypes:=#[235,235] }) 34 true,oG 45 (.binOp .lss 3 (xT 44) (nI 0) 3) 34 true,oG 46 (.unOp .not 4 (xT 45)) 34 true,pF 47 34 46] [0,1,4,11,12,47] (cD 47 (.skip) (.exit 2)) [0,1,4,11,12] (.block 3 (.reg [mO 48 11,bQ .add 49 3 48 1 3,aO 11 49] [0,1,4,11,12]))
def AM:CC:=sQ [mO 50 11,mO 51 12,bB .leq 52 3 50 51 3,mO 53 52,mG 54 4 53 true,mG 55 0 53 true,mG 56 1 53 true,oG 57 (iA 233 55 56) 53 true,lG 58 235 57 53 true,mG 59 0 53 true,mG 60 12 53 true,oG 61 (iA 233 59 60) 53 true,lG 62 235 61 53 true,oG 63 (.call { callee:=(.value (xT 54)),args:=#[(xT 58),(xT 62)],argTypes:=#[235,235] }) 53 true,oG 64 (.binOp .lss 3 (xT 63) (nI 0) 3) 53 true,pF 65 53 64] [0,1,4,11,12,65] (cD 65 (.skip) (.exit 4)) [0,1,4,11,12] (.block 5 (.reg [mO 66 12,bQ .sub 67 3 66 1 3,aO 12 67] [0,1,4,11,12]))
def BK:CC:=.block 1 (.seq (.block 2 (.loop AN)) (.keep [0,1,4,11,12] (.seq (.block 4 (.loop AM)) (.keep [0,1,4,11,12] (sQ [mO 68 11,mO 69 12,bB .gtr 70 3 68 69 3] [0,1,4,11,12,70] (cD 70 (.exit 0) (.skip)) [0,1,4,11,12] (sR [mO 71 0,mO 72 11,mO 73 0,mO 74 12,mO 75 0,mO 76 12,iO 77 233 75 76,lO 78 235 77,mO 79 0,mO 80 11,iO 81 233 79 80,lO 82 235 81,iO 83 233 71 72,sT 235 83 78,iO 84 233 73 74,sT 235 84 82] [0,1,4,11,12] (sR [mO 85 11,bQ .add 86 3 85 1 3,aO 11 86] [0,1,4,11,12] (.reg [mO 87 12,bQ .sub 88 3 87 1 3,aO 12 88] [0,1,4,11,12])))))))) 
def CZ:CC:=sR [aI 10 0] [0,1,2,3,4] (sR [mO 13 0,mO 14 1,mO 15 0,mO 16 3,mO 17 0,mO 18 3,iO 19 233 17 18,lO 20 235 19,mO 21 0,mO 22 1,iO 23 233 21 22,lO 24 235 23,iO 25 233 13 14,sT 235 25 20,iO 26 233 15 16,sT 235 26 24] [0,1,2,4] (sR [mO 27 1,bQ .add 28 3 27 1 3,mO 29 2,bQ .sub 30 3 29 1 3,aO 11 28,aO 12 30] [0,1,4,11,12] (.seq (.block 0 (.loop BK)) (.keep [11] (sR [mO 89 11,aO 10 89] [10] (.ret))))))
theorem Fy:BT Tryz.prog 214 90 [(.tmp 10)] CZ:=AA Tryz.func214
def A8:CC:=sQ [mO 32 12,mO 33 13,bB .leq 34 3 32 33 3,mO 35 34,mG 36 4 35 true,mG 37 0 35 true,mG 38 12 35 true,oG 39 (iA 233 37 38) 35 true,lG 40 235 39 35 true,mG 41 0 35 true,mG 42 1 35 true,oG 43 (iA 233 41 42) 35 true,lG 44 235 43 35 true,oG 45 (.call { callee:=(.value (xT 36)),args:=#[(xT 40),(xT 44)],argTypes:=#[235,235] }) 35 true,oG 46 (.binOp .lss 3 (xT 45) (nI 0) 3) 35 true,pF 47 35 46] [0,1,4,12,13,47] (cD 47 (.skip) (.exit 0)) [0,1,4,12,13] (.block 1 (.reg [mO 48 12,bQ .add 49 3 48 1 3,aO 12 49] [0,1,4,12,13]))
def A7:CC:=sQ [mO 50 12,mO 51 13,bB .leq 52 3 50 51 3,mO 53 52,mG 54 4 53 true,mG 55 0 53 true,mG 56 13 53 true,oG 57 (iA 233 55 56) 53 true,lG 58 235 57 53 true,mG 59 0 53 true,mG 60 1 53 true,oG 61 (iA 233 59 60) 53 true,lG 62 235 61 53 true,oG 63 (.call { callee:=(.value (xT 54)),args:=#[(xT 58),(xT 62)],argTypes:=#[235,235] }) 53 true,oG 64 (.binOp .lss 3 (xT 63) (nI 0) 3) 53 true,oG 65 (.unOp .not 4 (xT 64)) 53 true,pF 66 53 65] [0,1,4,12,13,66] (cD 66 (.skip) (.exit 2)) [0,1,4,12,13] (.block 3 (.reg [mO 67 13,bQ .sub 68 3 67 1 3,aO 13 68] [0,1,4,12,13]))
def A9:CC:=sQ [mO 105 12,mO 106 13,bB .leq 107 3 105 106 3,mO 108 107,mG 109 4 108 true,mG 110 0 108 true,mG 111 12 108 true,oG 112 (iA 233 110 111) 108 true,lG 113 235 112 108 true,mG 114 0 108 true,mG 115 1 108 true,oG 116 (iA 233 114 115) 108 true,lG 117 235 116 108 true,oG 118 (.call { callee:=(.value (xT 109)),args:=#[(xT 113),(xT 117)],argTypes:=#[235,235] }) 108 true,oG 119 (.binOp .lss 3 (xT 118) (nI 0) 3) 108 true,pF 120 108 119] [0,1,4,12,13,120] (cD 120 (.skip) (.exit 6)) [0,1,4,12,13] (.block 7 (.reg [mO 121 12,bQ .add 122 3 121 1 3,aO 12 122] [0,1,4,12,13]))
def Ba:CC:=sQ [mO 123 12,mO 124 13,bB .leq 125 3 123 124 3,mO 126 125,mG 127 4 126 true,mG 128 0 126 true,mG 129 13 126 true,oG 130 (iA 233 128 129) 126 true,lG 131 235 130 126 true,mG 132 0 126 true,mG 133 1 126 true,oG 134 (iA 233 132 133) 126 true,lG 135 235 134 126 true,oG 136 (.call { callee:=(.value (xT 127)),args:=#[(xT 131),(xT 135)],argTypes:=#[235,235] }) 126 true,oG 137 (.binOp .lss 3 (xT 136) (nI 0) 3) 126 true,oG 138 (.unOp .not 4 (xT 137)) 126 true,pF 139 126 138] [0,1,4,12,13,139] (cD 139 (.skip) (.exit 8)) [0,1,4,12,13] (.block 9 (.reg [mO 140 13,bQ .sub 141 3 140 1 3,aO 13 141] [0,1,4,12,13]))
def Cb:CC:=.block 5 (.seq (.block 6 (.loop A9)) (.keep [0,1,4,12,13] (.seq (.block 8 (.loop Ba)) (.keep [0,1,4,12,13] (sQ [mO 142 12,mO 143 13,bB .gtr 144 3 142 143 3] [0,1,4,12,13,144] (cD 144 (.exit 4) (.skip)) [0,1,4,12,13] (sR [mO 145 0,mO 146 12,mO 147 0,mO 148 13,mO 149 0,mO 150 13,iO 151 233 149 150,lO 152 235 151,mO 153 0,mO 154 12,iO 155 233 153 154,lO 156 235 155,iO 157 233 145 146,sT 235 157 152,iO 158 233 147 148,sT 235 158 156] [0,1,4,12,13] (sR [mO 159 12,bQ .add 160 3 159 1 3,aO 12 160] [0,1,4,12,13] (.reg [mO 161 13,bQ .sub 162 3 161 1 3,aO 13 162] [0,1,4,12,13])))))))) 
def DH:CC:=sR [aI 10 0,aB 11 false] [0,1,2,3,4] (sR [mO 14 0,mO 15 1,mO 16 0,mO 17 3,mO 18 0,mO 19 3,iO 20 233 18 19,lO 21 235 20,mO 22 0,mO 23 1,iO 24 233 22 23,lO 25 235 24,iO 26 233 14 15,sT 235 26 21,iO 27 233 16 17,sT 235 27 25] [0,1,2,4] (sR [mO 28 1,bQ .add 29 3 28 1 3,mO 30 2,bQ .sub 31 3 30 1 3,aO 12 29,aO 13 31] [0,1,4,12,13] (.seq (.block 0 (.loop A8)) (.keep [0,1,4,12,13] (.seq (.block 2 (.loop A7)) (.keep [0,1,4,12,13] (sQ [mO 69 12,mO 70 13,bB .gtr 71 3 69 70 3] [0,1,4,12,13,71] (cD 71 (sR [mO 72 0,mO 73 13,mO 74 0,mO 75 1,mO 76 0,mO 77 1,iO 78 233 76 77,lO 79 235 78,mO 80 0,mO 81 13,iO 82 233 80 81,lO 83 235 82,iO 84 233 72 73,sT 235 84 79,iO 85 233 74 75,sT 235 85 83] [13] (sR [mO 86 13,aO 10 86,aB 11 true] [10,11] (.ret))) (.skip)) [0,1,4,12,13] (sR [mO 87 0,mO 88 12,mO 89 0,mO 90 13,mO 91 0,mO 92 13,iO 93 233 91 92,lO 94 235 93,mO 95 0,mO 96 12,iO 97 233 95 96,lO 98 235 97,iO 99 233 87 88,sT 235 99 94,iO 100 233 89 90,sT 235 100 98] [0,1,4,12,13] (sR [mO 101 12,bQ .add 102 3 101 1 3,aO 12 102] [0,1,4,12,13] (sR [mO 103 13,bQ .sub 104 3 103 1 3,aO 13 104] [0,1,4,12,13] (.seq (.block 4 (.loop Cb)) (.keep [0,1,13] (sR [mO 163 0,mO 164 13,mO 165 0,mO 166 1,mO 167 0,mO 168 1,iO 169 233 167 168,lO 170 235 169,mO 171 0,mO 172 13,iO 173 233 171 172,lO 174 235 173,iO 175 233 163 164,sT 235 175 170,iO 176 233 165 166,sT 235 176 174] [13] (sR [mO 177 13,aO 10 177,aB 11 false] [10,11] (.ret)))))))))))))))
theorem GF:BT Tryz.prog 215 178 [(.tmp 10),(.tmp 11)] DH:=AA Tryz.func215
def BC:CC:=sQ [mO 81 1,bQ .gtr 82 3 81 0 3,mO 83 82,mG 84 4 83 true,mG 85 0 83 true,mG 86 1 83 true,oG 87 (.binOp .sub 3 (xT 86) (nI 1) 3) 83 true,oG 88 (iA 233 85 87) 83 true,lG 89 235 88 83 true,mG 90 0 83 true,mG 91 13 83 true,oG 92 (iA 233 90 91) 83 true,lG 93 235 92 83 true,oG 94 (.call { callee:=(.value (xT 84)),args:=#[(xT 89),(xT 93)],argTypes:=#[235,235] }) 83 true,oG 95 (.binOp .lss 3 (xT 94) (nI 0) 3) 83 true,oG 96 (.unOp .not 4 (xT 95)) 83 true,pF 97 83 96] [0,1,2,3,4,10,11,12,13,97] (cD 97 (sR [mO 98 0,mO 99 1,mO 100 2,mO 101 13,mO 102 4,oO 103 (cL 214 #[(xT 98),(xT 99),(xT 100),(xT 101),(xT 102)] #[233,3,3,3,254]),aO 15 103] [0,2,3,4,10,11,15] (sR [mO 104 15,aO 1 104] [0,1,2,3,4,10,11] (.exit 1))) (.skip)) [0,1,2,3,4,12,13] (sR [mO 106 0,mO 107 1,mO 108 2,mO 109 13,mO 110 4,oO 111 (cL 215 #[(xT 106),(xT 107),(xT 108),(xT 109),(xT 110)] #[233,3,3,3,254]),mO 105 111,xO 112 105 0,xO 113 105 1,aO 16 112,aO 17 113] [0,1,2,3,4,12,16,17] (sR [mO 114 17,aO 11 114] [0,1,2,3,4,11,12,16] (sR [mO 115 16,mO 116 1,bB .sub 117 3 115 116 3,mO 118 2,mO 119 16,bB .sub 120 3 118 119 3,aO 18 117,aO 19 120] [0,1,2,3,4,11,12,16,18,19] (sR [mO 121 12,bQ .quo 122 3 121 8 3,aO 20 122] [0,1,2,3,4,11,16,18,19,20] (sR [mO 123 18,mO 124 19,bB .lss 125 3 123 124 3] [0,1,2,3,4,11,16,18,19,20,125] (cD 125 (sR [mO 126 18,mO 127 20,bB .geq 128 3 126 127 3,aO 10 128] [0,1,2,3,4,10,11,16] (sR [mO 129 0,mO 130 1,mO 131 16,mO 132 3,mO 133 4,oO 134 (cL 205 #[(xT 129),(xT 130),(xT 131),(xT 132),(xT 133)] #[233,3,3,3,254])] [0,2,3,4,10,11,16] (.reg [mO 135 16,bQ .add 136 3 135 1 3,aO 1 136] [0,1,2,3,4,10,11]))) (sR [mO 137 19,mO 138 20,bB .geq 139 3 137 138 3,aO 10 139] [0,1,2,3,4,10,11,16] (sR [mO 140 0,mO 141 16,bQ .add 142 3 141 1 3,mO 143 2,mO 144 3,mO 145 4,oO 146 (cL 205 #[(xT 140),(xT 142),(xT 143),(xT 144),(xT 145)] #[233,3,3,3,254])] [0,1,3,4,10,11,16] (.reg [mO 147 16,aO 2 147] [0,1,2,3,4,10,11])))))))))
def Cr:CC:=sQ [mO 68 10,mO 69 68,mG 70 11 69 true,pF 71 69 70,mO 72 71,mG 73 14 72 true,oG 74 (.binOp .eql 267 (xT 73) (nI 1) 267) 72 true,pF 75 72 74] [0,1,2,3,4,10,11,12,13,75] (cD 75 (sR [mO 76 0,mO 77 1,mO 78 2,mO 79 4,oO 80 (cL 213 #[(xT 76),(xT 77),(xT 78),(xT 79)] #[233,3,3,254])] [0,1,2,3,4,10,11,12,13,80] (cD 80 (.ret) (.skip))) (.skip)) [0,1,2,3,4,10,11,12,13] BC
def Cs:CC:=sR [mO 48 0,mO 49 1,mO 50 2,mO 51 4,oO 52 (cL 211 #[(xT 48),(xT 49),(xT 50),(xT 51)] #[233,3,3,254]),mO 47 52,xO 53 47 0,xO 54 47 1,aO 13 53,aO 14 54] [0,1,2,3,4,10,11,12,13,14] (sQ [mO 55 14,bQ .eql 56 267 55 2 267] [0,1,2,3,4,10,11,12,13,14,56] (cD 56 (sR [mO 57 0,mO 58 1,mO 59 2,mO 60 4,oO 61 (cL 212 #[(xT 57),(xT 58),(xT 59),(xT 60)] #[233,3,3,254])] [0,1,2,3,4,10,11,12,13] (sR [mO 62 2,bQ .sub 63 3 62 1 3,mO 64 13,mO 65 1,bB .sub 66 3 64 65 3,bB .sub 67 3 63 66 3,aO 13 67] [0,1,2,3,4,10,11,12,13] (.reg [aI 14 1] [0,1,2,3,4,10,11,12,13,14]))) (.skip)) [0,1,2,3,4,10,11,12,13,14] Cr)
def AG:CC:=.block 1 (sR [mO 21 2,mO 22 1,bB .sub 23 3 21 22 3,aO 12 23] [0,1,2,3,4,10,11,12] (sQ [mO 24 12,bQ .leq 25 3 24 12 3] [0,1,2,3,4,10,11,12,25] (cD 25 (sR [mO 26 0,mO 27 1,mO 28 2,mO 29 4,oO 30 (cL 208 #[(xT 26),(xT 27),(xT 28),(xT 29)] #[233,3,3,254])] [] (.ret)) (.skip)) [0,1,2,3,4,10,11,12] (sQ [mO 31 3,bQ .eql 32 3 31 0 3] [0,1,2,3,4,10,11,12,32] (cD 32 (sR [mO 33 0,mO 34 1,mO 35 2,mO 36 4,oO 37 (cL 209 #[(xT 33),(xT 34),(xT 35),(xT 36)] #[233,3,3,254])] [] (.ret)) (.skip)) [0,1,2,3,4,10,11,12] (sQ [mO 38 10,oO 39 (.unOp .not 4 (xT 38))] [0,1,2,3,4,10,11,12,39] (cD 39 (sR [mO 40 0,mO 41 1,mO 42 2,mO 43 4,oO 44 (cL 210 #[(xT 40),(xT 41),(xT 42),(xT 43)] #[233,3,3,254])] [0,1,2,3,4,10,11,12] (.reg [mO 45 3,bQ .sub 46 3 45 1 3,aO 3 46] [0,1,2,3,4,10,11,12])) (.skip)) [0,1,2,3,4,10,11,12] Cs)))) 
def DY:CC:=sR [aB 10 true] [0,1,2,3,4,10] (sR [aB 11 true] [0,1,2,3,4,10,11] (.block 0 (.loop AG)))
theorem Hl:BT Tryz.prog 205 148 [] DY:=AA Tryz.func205
def Dt:CC:=sR [mO 5 0,bN 6 5 233,aO 4 6] [0,1,4] (.reg [mO 7 0,mO 8 4,mO 9 4,oO 10 (.convert 3 169 (xT 9)),cA 11 206 10 169,mO 12 1,oO 13 (cL 205 #[(xT 7),(nI 0),(xT 8),(xT 11),(xT 12)] #[233,3,3,3,254])] [])
theorem Gg:BT Tryz.prog 198 14 [] Dt:=AA Tryz.func198
end Go.Proofs.YtlaapfplenlfaaaGreat
namespace Go.Proofs.YtlaapfplenlfaaaGreat
open Go Go.G Go.Proofs Go.PL
theorem Fq{P:Program}{K:Sta->Prop}{rest:List CO}{s:Nat->A}{H:Hp}{dd:Option Nat}{nm:Nm}{ix:Nat}{un:List Nat}{l:Bool}{lg:Lg}{o:Operand}{g:FuncId}{aa:Array Operand}{ts:Array TypeId}{L:List A}{x:A}(ho:evs s o=.fnc g [] [])(hs:G.Spec P g L x)(hL:aa.toList.map (evs s)=L)(hb:L.all A.bare=true)(h:AB P K rest (B9 l ix ⟨[],[]⟩ lg) (Sta.put ⟨s,H⟩ dd x H)) :
  AB P K (⟨dd,.call { callee:=.value o,args:=aa,argTypes:=ts },none,nm,ix,un,l⟩::rest) lg ⟨s,H⟩:=by
 subst hL;exact GJ ho (by simpa using hs) (by simpa using hb) h
instance:Inhabited Sc:=⟨iy⟩
def BU(a b:Sc):Bool:=decide (a.i<b.i)
theorem XT(a b:Sc):decide (Fw a.i b.i<0)=BU a b:=by
 unfold Fw BU;by_cases h:a.i<b.i
 ·rw[if_pos oF];simp[h]
 ·rw[if_neg oF];by_cases h2:b.i<a.i
  ·rw[if_pos oF];simp[h]
  ·rw[if_neg oF];simp[h]
abbrev Dy:A:=.fnc 199 [] []
theorem EI:DV (fun _=>Dy):=LB Ah Ah
theorem Em(a b:Sc):G.Spec Tryz.prog 199 [K3 a,K3 b] (iv (Fw a.i b.i)):=by
 refine Ak XN iS fun w0 I0=>?_;unfold P4;simp[K3,iz];refine Ag (RZ a.i b.i) rfl ?_;simp;exact Ae rfl
abbrev Bm(d:Array Sc)(v:Nat):Fam:=iE d.toList v
theorem BG{d:Array Sc}{i:Nat}(h:i<d.size):(d.toList.map K3)[i]? = some (K3 d[i]!):=by
 rw[List.getElem?_map,Array.getElem?_toList,getElem!_pos d i h,Array.getElem?_eq_getElem h];rfl
theorem La{d:Array Sc}{i j:Nat}:(Sort.swp d i j).toList.map K3=((d.toList.map K3).set i (K3 d[j]!)).set j (K3 d[i]!):=by
 unfold Sort.swp;simp[List.map_set]
theorem F3{d:Array Sc}{i j:Nat}:(Sort.swp d i j).size=d.size:=by simp[Sort.swp]
theorem IC{d:Array Sc}{i j:Nat}(hi:i<d.size)(hj:j<d.size):((d.toList.map K3).set i (K3 d[j]!))[j]? = some (K3 d[j]!):=by
 by_cases e:i=j
 ·subst e;rw[List.getElem?_set_self (by simpa using hi)]
 ·rw[List.getElem?_set_ne e,BG hj]
variable {n0:Nat} {w0:World} {I0:Nat->Prop} {M0:Nm->Nat->Prop} {m0:Mu} {Q:Exit->Sta->Prop} {v:Nat}
abbrev H7(n v r:Nat):A:=.osl [r] v 2 0 n
theorem AbT{a n:Nat}{b i:Int}(hn:n<=1000)(ha:a<=1000):∀(j:Nat)(d:Array Sc)(H:Hp),d.size=n->j<n->(∀p,H (0::p)=(Bm d v).F 0 p) ->
  (∀(H':Hp)(st:List (Nat × A)),(∀p,H' (0::p)=(Bm (Sort.insInner BU a j d) v).F 0 p)->Q (.exit 2) ⟨lk ([(0,H7 n v 0),(1,iv a),(2,iv b),(3,Dy),(8,iv i)]++st),H'⟩) ->
  LoopC (DC Tryz.prog w0 I0 M0 n0 m0) Bi Q ⟨lk [(0,H7 n v 0),(1,iv a),(2,iv b),(3,Dy),(8,iv i),(9,iv j)],H⟩:=by
 intro j;induction j with
 |zero=>
  intro d H hd hj hH hq;refine Ad Ai Bi.eq_1 ?_;simp[show ¬(a:Int)<0 by omega];rw[AW];simp;exact hq H [(9,iv 0),(34,bv false)] hH
 |succ j ih=>
  intro d H hd hj hH hq;have h0:=hH [];have g1:=BG (d:=d) (i:=j+1) oF;have g0:=BG (d:=d) (i:=j) oF;rw[Sort.insInner]at hq;have e1:i64.wrap ((j:Int)+1-1)=(j:Int):=Bv;simp only[Int.add_sub_cancel]at e1;refine Ad Ai Bi.eq_1 ?_;by_cases h1:a<j+1
  ·have hc:=XT d[j+1]! d[j]!;simp only[Kv]at h0;generalize hx:d[j+1]! = x at *;generalize hy:d[j]! = y at *;simp[show(a:Int)<j+1 by omega,h0,e1,g1,g0,hj,show j<n from oF,show(j:Int)+1<n by omega,show(j:Int)<n by omega,show(0:Int)<=(j:Int)+1 by omega,DE];rw[AW];simp;refine Fq rfl (Em x y) iS rfl ?_;cases hL:BU x y with
   |false=>
    rw[hL]at hc hq;rw[if_neg iS]at hq;have hc':¬Fw x.i y.i<0:=by simpa using hc
    simp[hc'];exact hq H [(9,iv (j+1:Nat)),(34,bv false)] (fun p=>by simp[hH])
   |true=>
    rw[hL]at hc hq;rw[if_pos (by simp;omega)]at hq;have hc':Fw x.i y.i<0:=by simpa using hc
    have g2:=IC (d:=d) (i:=j+1) (j:=j) oF oF;have hs:=La (d:=d) (i:=j+1) (j:=j);rw[hx,hy]at hs;rw[hy]at g2;simp[hc',h0,e1,g1,g0,g2,hj,show j<n from oF,show(j:Int)+1<n by omega,show(j:Int)<n by omega,show(0:Int)<=(j:Int)+1 by omega,DE];exact ih (Sort.swp d (j+1) j) _ (by rw[F3];exact hd) oF (fun p=>by by_cases hp:p=[]<;>simp[hp,hs,Aa,hH]) hq
  ·rw[if_neg (by simp;omega)]at hq;simp[show ¬(a:Int)<j+1 by omega];rw[AW];simp;exact hq H [(9,iv (j+1:Nat)),(34,bv false)] hH
theorem Li(lt:Sc->Sc->Bool)(a:Nat):∀(j:Nat)(d:Array Sc),(Sort.insInner lt a j d).size=d.size
 |0,d=>rfl
 |j+1,d=>by
  unfold Sort.insInner;split
  ·rw[Li lt a j,F3]
  ·rfl
theorem AcH{a b n:Nat}(hn:n<=1000)(ha:a<=1000)(hb:b<=n):∀(m i:Nat)(d:Array Sc)(H:Hp),(i+m=b\/(b<=i/\m=0/\i<=1001))->d.size=n->(∀p,H (0::p)=(Bm d v).F 0 p) ->
  (∀(H':Hp)(st:List (Nat × A)),(∀p,H' (0::p)=(Bm (Sort.insOuter BU a b i d) v).F 0 p)->Q (.exit 0) ⟨lk st,H'⟩) ->
  LoopC (DC Tryz.prog w0 I0 M0 n0 m0) Bj Q ⟨lk [(0,H7 n v 0),(1,iv a),(2,iv b),(3,Dy),(8,iv i)],H⟩:=by
 intro m;induction m with
 |zero=>
  intro i d H hi hd hH hq;rw[Sort.insOuter,if_neg oF]at hq;refine Ad Ai Bj.eq_1 ?_;simp[show ¬(i:Int)<b by omega,show ¬i<b from oF];exact hq H [(0,H7 n v 0),(1,iv a),(2,iv b),(3,Dy),(8,iv i),(14,bv false)] hH
 |succ m ih=>
  intro i d H hi hd hH hq;have hib:i<b:=oF
  have e1:=AR i;rw[Sort.insOuter,if_pos hib]at hq;refine Ad Ai Bj.eq_1 ?_;simp[show(i:Int)<b by omega,hib];refine AbT (n:=n) (v:=v) hn ha i d H hd oF hH fun H' st h'=>?_;simp[e1];exact ih (i+1) _ H' oF (by rw[Li];exact hd) h' hq
theorem PF(lt:Sc->Sc->Bool)(a b:Nat):∀(m i:Nat)(d:Array Sc),b-i<=m->(Sort.insOuter lt a b i d).size=d.size
 |0,i,d,h=>by rw[Sort.insOuter,if_neg oF]
 |m+1,i,d,h=>by
  rw[Sort.insOuter];split
  ·rw[PF lt a b m _ _ oF,Li]
  ·rfl
theorem Pw(n v:Nat):DV (fun r=>H7 n v r):=Bo
theorem ba(d:Array Sc)(v a b:Nat)(hn:d.size<=900)(ha:a<=900)(hb:b<=d.size):SpecF Tryz.prog 208 (fun r=>[H7 d.size v r,iv a,iv b,Dy]) (Bm d v) (fun _=>.tup []) (Bm (Sort.insertionSort BU d a b) v):=by
 refine Ao FJ iS (Ab (Pw _ _) (Ab Az (Ab Az (Ab EI Ah)))) (Ay Ah) fun w0 I0 M0 m0=>?_;have e1:=AR a;unfold Da;simp[e1];refine LoopC.le (Ar [(0,H7 d.size v 0),(1,iv a),(2,iv b),(3,Dy),(8,iv (a+1:Nat))] iS) ?_;refine AcH (n:=d.size) (v:=v) oF oF hb (b-(a+1)) (a+1) d _ oF rfl (fun p=>iS) fun H' st h'=>?_;simp;exact AQ rfl rfl (fun p=>h' p)
theorem AcJ{n:Nat}(hn:n<=1000):∀(m i j:Nat)(d:Array Sc)(H:Hp),j-i<=m->i<=n->j<n->d.size=n->(∀p,H (0::p)=(Bm d v).F 0 p) ->
  (∀(H':Hp)(st:List (Nat × A)),(∀p,H' (0::p)=(Bm (Sort.reverseLoop i j d) v).F 0 p)->Q (.exit 0) ⟨lk st,H'⟩) ->
  LoopC (DC Tryz.prog w0 I0 M0 n0 m0) AU Q ⟨lk [(0,H7 n v 0),(8,iv i),(9,iv j)],H⟩:=by
 intro m;induction m with
 |zero=>
  intro i j d H hm hi hj hd hH hq;rw[Sort.reverseLoop,if_neg oF]at hq;refine Ad Ai AU.eq_1 ?_;simp[show ¬(i:Int)<j by omega,show ¬i<j from oF];exact hq H [(0,H7 n v 0),(8,iv i),(9,iv j),(15,bv false)] hH
 |succ m ih=>
  intro i j d H hm hi hj hd hH hq;by_cases hij:i<j
  ·rw[Sort.reverseLoop,if_pos hij]at hq;have h0:=hH [];simp only[Kv]at h0;have e1:=AR i;have e2:i64.wrap ((j:Int)-1)=((j-1:Nat):Int):=Bv;have g1:=BG (d:=d) (i:=i) oF;have g0:=BG (d:=d) (i:=j) oF;have g2:=IC (d:=d) (i:=i) (j:=j) oF oF;have hs:=La (d:=d) (i:=i) (j:=j);generalize d[i]! = x at g1 g2 hs;generalize d[j]! = y at g0 g2 hs;refine Ad Ai AU.eq_1 ?_;simp[hij,show(i:Int)<j by omega,h0,g0,g1,g2,e1,e2,show(i:Int)<n by omega,show(j:Int)<n by omega,show i<n from oF,hj,DE];refine LoopC.le (Ar [(0,H7 n v 0),(8,iv (i+1:Nat)),(9,iv (j-1:Nat))] iS) ?_;exact ih (i+1) (j-1) (Sort.swp d i j) _ oF oF oF (by rw[F3];exact hd) (fun p=>by by_cases hp:p=[]<;>simp[hp,hs,Aa,hH]) hq
  ·rw[Sort.reverseLoop,if_neg hij]at hq;refine Ad Ai AU.eq_1 ?_;simp[show ¬(i:Int)<j by omega,hij];exact hq H [(0,H7 n v 0),(8,iv i),(9,iv j),(15,bv false)] hH
theorem ab(d:Array Sc)(v a b:Nat)(hn:d.size<=900)(ha:a<=d.size)(hb:1<=b)(hb2:b<=d.size):SpecF Tryz.prog 212 (fun r=>[H7 d.size v r,iv a,iv b,Dy]) (Bm d v) (fun _=>.tup []) (Bm (Sort.reverseRange d a b) v):=by
 refine Ao FV iS (Ab (Pw _ _) (Ab Az (Ab Az (Ab EI Ah)))) (Ay Ah) fun w0 I0 M0 m0=>?_;have e1:i64.wrap ((b:Int)-1)=((b-1:Nat):Int):=Bv;unfold Dj;simp[e1];refine AcJ (n:=d.size) (v:=v) oF (b-1-a) a (b-1) d _ (CX _) ha oF rfl (fun p=>iS) fun H' st h'=>?_;simp;exact AQ rfl rfl (fun p=>h' p)
def ceF(s:Nat):Fam:=⟨fun r p=>if p=[]then ⟨1,.cells [iv s]⟩else ⟨0,.none⟩,fun {g δ r r'} hg hd p=>by
  by_cases h1:p=[]
  ·rw[if_pos h1];exact Fam.cells_ren (by simp[A.renL,A.ren])
  ·rw[if_neg h1];rfl,fun {D r} hD p=>by
  by_cases h1:p=[]
  ·rw[if_pos h1];simp[Ob.refs,A.refsL,A.refs]
  ·rw[if_neg h1];trivial⟩
@[simp]theorem Al4{s r:Nat}{p:Nm}:(ceF s).F r p=if p=[]then ⟨1,.cells [iv s]⟩else ⟨0,.none⟩:=rfl
abbrev ceP(q:Nat):A:=.pob [q] 1 0
theorem N8(d:Array Sc)(v a b s:Nat)(hn:d.size<=900)(ha:a<d.size)(hb:b<d.size)(hs:s<=900):Hv Tryz.prog 223 (fun r q=>[H7 d.size v r,iv a,iv b,ceP q,Dy]) ((Bm d v).two (ceF s)) (fun _ _=>.tup [iv (Sort.order2 BU d a b s).1,iv (Sort.order2 BU d a b s).2.1]) ((Bm d v).two (ceF (Sort.order2 BU d a b s).2.2)):=by
 refine BZ Hy iS (Av (AL (Pw _ _)) (Av (AL Az) (Av (AL Az) (Av (GR Aq) (Av (AL EI) C5))))) (qv (Av (AL Az) (Av (AL Az) C5))) fun w0 I0 M0 m0=>?_;have ga:=BG (d:=d) (i:=a) oF;have gb:=BG (d:=d) (i:=b) oF;have hc:=XT d[b]! d[a]!;have e1:=AR s;unfold Sort.order2;generalize d[a]! = x at *;generalize d[b]! = y at *;generalize d.size=n at hn ha hb ⊢;unfold D7;simp[ga,gb,ha,hb,show(a:Int)<n by omega,show(b:Int)<n by omega,DE];refine Fq rfl (Em y x) iS rfl ?_;cases hL:BU y x with
 |true=>
  rw[hL]at hc;have hc':Fw y.i x.i<0:=by simpa using hc
  simp[hc',e1,Aa];exact JZ rfl rfl (fun p=>iS) (fun p=>by by_cases hp:p=[]<;>simp[hp,Aa])
 |false=>
  rw[hL]at hc;have hc':¬Fw y.i x.i<0:=by simpa using hc
  simp[hc'];exact JZ rfl rfl (fun p=>iS) (fun p=>iS)
theorem QE(lt:Sc->Sc->Bool)(d:Array Sc)(a b s n:Nat)(ha:a<n)(hb:b<n)(hs:s<=100):(Sort.order2 lt d a b s).1<n/\(Sort.order2 lt d a b s).2.1<n/\(Sort.order2 lt d a b s).2.2<=s+1:=by
 unfold Sort.order2;split
 ·exact⟨hb,ha,iS⟩
 ·exact⟨ha,hb,iS⟩
theorem gW(d:Array Sc)(v a b c s:Nat)(hn:d.size<=900)(ha:a<d.size)(hb:b<d.size)(hcc:c<d.size)(hs:s<=90):Hv Tryz.prog 222 (fun r q=>[H7 d.size v r,iv a,iv b,iv c,ceP q,Dy]) ((Bm d v).two (ceF s)) (fun _ _=>iv (Sort.median BU d a b c s).1) ((Bm d v).two (ceF (Sort.median BU d a b c s).2)):=by
 refine BZ Ht iS (Av (AL (Pw _ _)) (Av (AL Az) (Av (AL Az) (Av (AL Az) (Av (GR Aq) (Av (AL EI) C5)))))) (AL Az) fun w0 I0 M0 m0=>?_;obtain⟨q1,q2,q3⟩:=QE BU d a b s d.size ha hb oF;have h1:=N8 d v a b s hn ha hb oF;unfold Sort.median;simp only;generalize Sort.order2 BU d a b s=R at h1 q1 q2 q3 ⊢;obtain⟨p1,p2,p3⟩:=QE BU d R.2.1 c R.2.2 d.size q2 hcc oF;have h2:=N8 d v R.2.1 c R.2.2 hn q2 hcc oF;generalize Sort.order2 BU d R.2.1 c R.2.2=S2 at h2 p1 p2 p3 ⊢;obtain⟨z1,z2,z3⟩:=QE BU d R.1 S2.1 S2.2.2 d.size q1 p1 oF;have h3:=N8 d v R.1 S2.1 S2.2.2 hn q1 p1 oF;generalize Sort.order2 BU d R.1 S2.1 S2.2.2=T3 at h3 z1 z2 z3 ⊢;unfold D9;simp;refine Fa 0 1 oF h1 (fun p=>iS) (fun p=>iS) iS iS ?_;simp;refine Fa 0 1 oF h2 (fun p=>iS) (fun p=>iS) iS iS ?_;simp;refine Fa 0 1 oF h3 (fun p=>iS) (fun p=>iS) iS iS ?_;simp;exact JZ rfl rfl (fun p=>iS) (fun p=>iS)
def N6:Sort.Hint->Int
 |.unknown=>0
 |.increasing=>1
 |.decreasing=>2
theorem choose_spec(d:Array Sc)(v a b:Nat)(hn:d.size<=900)(hab:a+13<=b)(hb:b<=d.size)(hl:b-a<50):SpecF Tryz.prog 211 (fun r=>[H7 d.size v r,iv a,iv b,Dy]) (Bm d v) (fun _=>.tup [iv (Sort.choosePivot BU d a b).1,iv (N6 (Sort.choosePivot BU d a b).2)]) (Bm d v):=by
 refine Ao Gh iS (Ab (Pw _ _) (Ab Az (Ab Az (Ab EI Ah)))) (Ay (Ab Az (Ab Az Ah))) fun w0 I0 M0 m0=>?_;obtain⟨l,hll⟩:∃l,l=b-a:=⟨_,rfl⟩;have e1:i64.wrap ((b:Int)-a)=(l:Int):=Bv;obtain⟨q,hq⟩:∃q,q=l / 4:=⟨_,rfl⟩;have e2:i64.wrap ((l:Int).tdiv 4)=(q:Int):=by rw[Int.tdiv_eq_ediv_of_nonneg oF,Bq oF oF];omega
 have e3:i64.wrap ((q:Int)*1)=(q:Int):=Bv;have e4:i64.wrap ((q:Int)*2)=((q*2:Nat):Int):=Bv;have e5:i64.wrap ((q:Int)*3)=((q*3:Nat):Int):=Bv;have e6:i64.wrap ((a:Int)+q)=((a+q:Nat):Int):=Bv;have e7:i64.wrap ((a:Int)+(q:Int)*2)=((a+q*2:Nat):Int):=Bv;have e8:i64.wrap ((a:Int)+(q:Int)*3)=((a+q*3:Nat):Int):=Bv;have e9:i64.wrap ((l:Int) / 4)=(q:Int):=Bv;have e10:i64.wrap (q:Int)=(q:Int):=Ga;have hm:=gW d v (a+q) (a+q*2) (a+q*3) 0 hn oF oF oF oF;unfold Sort.choosePivot;simp only[<-hll,<-hq,Nat.mul_one,ge_iff_le,if_pos (show 8<=l from oF),if_neg (show ¬50<=l from oF)];generalize Sort.median BU d (a+q) (a+q*2) (a+q*3) 0=R at hm ⊢;unfold Ds;simp[e1,e2,e3,e4,e5,e6,e7,e8,e9,e10,show(8:Int)<=l by omega,show ¬(50:Int)<=l by omega,Aa];refine Fa 0 1 oF hm (fun p=>iS) (fun p=>?_) iS iS ?_
 ·by_cases hp:p=[]
  ·subst hp;simp[Gz]
  ·simp[Gz,hp,Ne.symm hp]
 rw[Aaz];simp;rw[Dk.eq_1];by_cases h0:R.2=0
 ·simp[h0,N6];exact An rfl rfl (fun p=>iS)
 ·by_cases h12:R.2=12
  ·simp[h12,N6];exact An rfl rfl (fun p=>iS)
  ·have h0':¬(R.2:Int)=0:=oF
   have h12':¬(R.2:Int)=12:=oF
   simp[h0,h12,h0',h12',N6];exact An rfl rfl (fun p=>iS)
theorem lX(lt:Sc->Sc->Bool)(d:Array Sc)(b:Nat):∀(m i:Nat),b-i<=m->i<=b->i<=Sort.scanSorted lt d b i/\Sort.scanSorted lt d b i<=b
 |0,i,h,hi=>by rw[Sort.scanSorted,if_neg (by simp;omega)];omega
 |m+1,i,h,hi=>by
  rw[Sort.scanSorted];split
  ·rename_i hc;simp at hc;have:=lX lt d b m (i+1) oF oF;omega
  ·omega
theorem xI{n a b:Nat}{k:Int}{d:Array Sc}{H:Hp}(hn:n<=900)(hb:b<=n)(hd:d.size=n)(hH:∀p,H (0::p)=(Bm d v).F 0 p):∀(m i:Nat),b-i<=m->1<=i->i<=b ->
  (∀(st:List (Nat × A)),Q (.exit 2) ⟨lk ([(0,H7 n v 0),(1,iv a),(2,iv b),(3,Dy),(9,iv (Sort.scanSorted BU d b i)),(10,iv k)]++st),H⟩) ->
  LoopC (DC Tryz.prog w0 I0 M0 n0 m0) AD Q ⟨lk [(0,H7 n v 0),(1,iv a),(2,iv b),(3,Dy),(9,iv i),(10,iv k)],H⟩:=by
 intro m;induction m with
 |zero=>
  intro i hm h1 hi hq;rw[Sort.scanSorted,if_neg (by simp;omega)]at hq;refine Ad Ai AD.eq_1 ?_;simp[show ¬(i:Int)<b by omega,show ¬i<b from oF];rw[AW];simp;exact hq [(36,bv false)]
 |succ m ih=>
  intro i hm h1 hi hq;by_cases hib:i<b
  ·have h0:=hH [];simp only[Kv]at h0;have g1:=BG (d:=d) (i:=i) oF;have g0:=BG (d:=d) (i:=i-1) oF;have e1:=AR i;have e2:i64.wrap ((i:Int)-1)=((i-1:Nat):Int):=Bv;have hc:=XT d[i]! d[i-1]!;rw[Sort.scanSorted]at hq;generalize d[i]! = x at g1 hc hq;generalize d[i-1]! = y at g0 hc hq;refine Ad Ai AD.eq_1 ?_;simp[hib,show(i:Int)<b by omega,h0,g1,g0,e2,show(i:Int)<n by omega,show i<n by omega,show i-1<n from oF,show((i-1:Nat):Int)<n by omega,DE];rw[AW];simp;refine Fq rfl (Em x y) iS rfl ?_;cases hL:BU x y with
   |true=>
    rw[hL]at hc hq;rw[if_neg iS]at hq;have hc':Fw x.i y.i<0:=by simpa using hc
    simp[hc'];exact hq [(36,bv false)]
   |false=>
    rw[hL]at hc hq;rw[if_pos (by simp[hib])]at hq;have hc':¬Fw x.i y.i<0:=by simpa using hc
    simp[hc',e1];exact ih (i+1) oF oF oF hq
  ·rw[Sort.scanSorted,if_neg (by simp;omega)]at hq;refine Ad Ai AD.eq_1 ?_;simp[show ¬(i:Int)<b by omega,hib];rw[AW];simp;exact hq [(36,bv false)]
theorem V9(d:Array Sc)(a b:Nat)(hl:b-a<50):Sort.partialInsertionSort BU d a b=(d,decide (Sort.scanSorted BU d b (a+1)=b)):=by
 unfold Sort.partialInsertionSort;rw[Sort.partialIns];simp only;split
 ·rename_i h;simp[h]
 ·rename_i h;simp[h,hl]
theorem a9(d:Array Sc)(v a b:Nat)(hn:d.size<=900)(hab:a<b)(hb:b<=d.size)(hl:b-a<50):SpecF Tryz.prog 213 (fun r=>[H7 d.size v r,iv a,iv b,Dy]) (Bm d v) (fun _=>bv (Sort.partialInsertionSort BU d a b).2) (Bm (Sort.partialInsertionSort BU d a b).1 v):=by
 rw[V9 d a b hl];refine Ao En iS (Ab (Pw _ _) (Ab Az (Ab Az (Ab EI Ah)))) Az fun w0 I0 M0 m0=>?_;have e1:=AR a;have e2:i64.wrap ((b:Int)-a)=((b-a:Nat):Int):=Bv;have hsc:=lX BU d b (b-(a+1)) (a+1) oF oF;have l1:=fun (Q:Exit->Sta->Prop) (H:Hp) (k:Int) (hH:∀p,H (0::p)=(Bm d v).F 0 p)=>xI (n0:=141) (w0:=w0) (I0:=I0) (M0:=M0) (m0:=m0) (Q:=Q) (v:=v) (k:=k) (a:=a) hn hb rfl hH (b-(a+1)) (a+1) (CX _) oF oF;generalize Sort.scanSorted BU d b (a+1)=z at hsc l1 ⊢;unfold Cj;simp[e1];refine Ad Ai Ce.eq_1 ?_;simp;refine LoopC.le (Ar [(0,H7 d.size v 0),(1,iv a),(2,iv b),(3,Dy),(9,iv (a+1:Nat)),(10,iv 0)] iS) ?_;refine l1 _ _ 0 (fun p=>iS) fun st=>?_;by_cases hz:z=b
 ·simp[hz];exact An rfl rfl (fun p=>iS)
 ·have hz':¬(z:Int)=b:=oF
  simp[hz,hz',e2,show((b-a:Nat):Int)<50 by omega];exact An rfl rfl (fun p=>iS)
end Go.Proofs.YtlaapfplenlfaaaGreat
