/-
  Texts, merged, without what is not reached.
-/
import Derived.Test.YthfiijdbnkaabaaGreatKCa
/-
  The functions' text as data, and the facts on the types that they use: written by a program of ours (gen2.py) off the translation.
-/
namespace Go.Proofs.YthfiijdbnkaabaaGreat
set_option linter.unusedVariables false
set_option linter.unusedSimpArgs false
set_option maxRecDepth 20000
open Go Go.G Go.Proofs
@[simp] theorem und_45 : Tryz.prog.underlying 45 = some (.int .i64) := by kernel_rfl
@[simp] theorem szT_54 : szT Tryz.prog 54 = some 1 := by kernel_rfl
@[simp] theorem szT_58 : szT Tryz.prog 58 = some 4 := by kernel_rfl
@[simp] theorem szT_93 : szT Tryz.prog 93 = some 8 := by kernel_rfl
@[simp] theorem szT_111 : szT Tryz.prog 111 = some 7 := by kernel_rfl
@[simp] theorem aggT_54 : aggT Tryz.prog 54 = some false := by kernel_rfl
@[simp] theorem aggT_58 : aggT Tryz.prog 58 = some true := by kernel_rfl
@[simp] theorem aggT_93 : aggT Tryz.prog 93 = some true := by kernel_rfl
@[simp] theorem aggT_111 : aggT Tryz.prog 111 = some true := by kernel_rfl
@[simp] theorem zeroT_58 : zeroT Tryz.prog 58 = some (Value.agg #[Value.int IntKind.i64 0, Value.int IntKind.i64 0, Value.int IntKind.i64 0, Value.int IntKind.i64 0]) := by kernel_rfl
@[simp] theorem zeroT_93 : zeroT Tryz.prog 93 = some (Value.agg #[Value.pointer none, Value.int IntKind.i64 0, Value.int IntKind.i64 0, Value.int IntKind.i64 0, Value.int IntKind.i64 0, Value.int IntKind.i64 0, Value.int IntKind.i64 0, Value.int IntKind.u64 0]) := by kernel_rfl
@[simp] theorem zeroT_111 : zeroT Tryz.prog 111 = some (Value.agg #[Value.int IntKind.i64 0, Value.int IntKind.i64 0, Value.int IntKind.i64 0, Value.int IntKind.i64 0, Value.int IntKind.i64 0, Value.int IntKind.i64 0, Value.int IntKind.u64 0]) := by kernel_rfl
@[simp] theorem fieldOffT_58_0 : fieldOffT Tryz.prog 58 0 = some 0 := by kernel_rfl
@[simp] theorem fieldOffT_58_1 : fieldOffT Tryz.prog 58 1 = some 1 := by kernel_rfl
@[simp] theorem fieldOffT_58_2 : fieldOffT Tryz.prog 58 2 = some 2 := by kernel_rfl
@[simp] theorem fieldOffT_58_3 : fieldOffT Tryz.prog 58 3 = some 3 := by kernel_rfl
@[simp] theorem fieldOffT_93_0 : fieldOffT Tryz.prog 93 0 = some 0 := by kernel_rfl
@[simp] theorem fieldOffT_93_1 : fieldOffT Tryz.prog 93 1 = some 1 := by kernel_rfl
@[simp] theorem fieldOffT_93_2 : fieldOffT Tryz.prog 93 2 = some 2 := by kernel_rfl
@[simp] theorem fieldOffT_93_3 : fieldOffT Tryz.prog 93 3 = some 3 := by kernel_rfl
@[simp] theorem fieldOffT_93_4 : fieldOffT Tryz.prog 93 4 = some 4 := by kernel_rfl
@[simp] theorem fieldOffT_93_5 : fieldOffT Tryz.prog 93 5 = some 5 := by kernel_rfl
@[simp] theorem fieldOffT_93_6 : fieldOffT Tryz.prog 93 6 = some 6 := by kernel_rfl
@[simp] theorem fieldOffT_93_7 : fieldOffT Tryz.prog 93 7 = some 7 := by kernel_rfl
@[simp] theorem fieldOffT_111_0 : fieldOffT Tryz.prog 111 0 = some 0 := by kernel_rfl
@[simp] theorem fieldOffT_111_1 : fieldOffT Tryz.prog 111 1 = some 1 := by kernel_rfl
@[simp] theorem fieldOffT_111_2 : fieldOffT Tryz.prog 111 2 = some 2 := by kernel_rfl
@[simp] theorem fieldOffT_111_3 : fieldOffT Tryz.prog 111 3 = some 3 := by kernel_rfl
@[simp] theorem fieldOffT_111_4 : fieldOffT Tryz.prog 111 4 = some 4 := by kernel_rfl
@[simp] theorem fieldOffT_111_5 : fieldOffT Tryz.prog 111 5 = some 5 := by kernel_rfl
@[simp] theorem fieldOffT_111_6 : fieldOffT Tryz.prog 111 6 = some 6 := by kernel_rfl
@[simp] theorem buildA_58 (ps : List (Nat × A)) : buildA Tryz.prog 58 ps = (fillA (fun i => ([(0, 1), (1, 1), (2, 1), (3, 1)] : List (Nat × Nat))[i]?) [A.v (Value.int IntKind.i64 0), A.v (Value.int IntKind.i64 0), A.v (Value.int IntKind.i64 0), A.v (Value.int IntKind.i64 0)] ps).map A.agg := by kernel_rfl
@[simp] theorem buildA_93 (ps : List (Nat × A)) : buildA Tryz.prog 93 ps = (fillA (fun i => ([(0, 1), (1, 1), (2, 1), (3, 1), (4, 1), (5, 1), (6, 1), (7, 1)] : List (Nat × Nat))[i]?) [A.v (Value.pointer none), A.v (Value.int IntKind.i64 0), A.v (Value.int IntKind.i64 0), A.v (Value.int IntKind.i64 0), A.v (Value.int IntKind.i64 0), A.v (Value.int IntKind.i64 0), A.v (Value.int IntKind.i64 0), A.v (Value.int IntKind.u64 0)] ps).map A.agg := by kernel_rfl
@[simp] theorem buildA_111 (ps : List (Nat × A)) : buildA Tryz.prog 111 ps = (fillA (fun i => ([(0, 1), (1, 1), (2, 1), (3, 1), (4, 1), (5, 1), (6, 1)] : List (Nat × Nat))[i]?) [A.v (Value.int IntKind.i64 0), A.v (Value.int IntKind.i64 0), A.v (Value.int IntKind.i64 0), A.v (Value.int IntKind.i64 0), A.v (Value.int IntKind.i64 0), A.v (Value.int IntKind.i64 0), A.v (Value.int IntKind.u64 0)] ps).map A.agg := by kernel_rfl
/-- (cento/reader.Ref).Kind -/
def c_reader_Ref_Kind : CC :=
  .seq (.reg [cn (some 1) (.box 93 (.tmp 0)) none [0],
      co (some 2) (.assign (.const (.int .i64 0))) none] [1])
  (.seq (.reg [co (some 3) (.fieldAddr 93 (.tmp 1) 1) none,
      co (some 4) (.load 3 (.tmp 3)) none,
      co (some 2) (.assign (.tmp 4)) none] [2])
  (.ret))
theorem t_reader_Ref_Kind : Txt Tryz.prog 101 5 [(.tmp 2)] c_reader_Ref_Kind := txt_of (code := Tryz.f101.body.getD .ret) mixed (by kernel_rfl) Tryz.func101 (by kernel_rfl) Tryz.ntmps101 (by kernel_rfl) (ls := [([1], [(0, [0])]), ([], []), ([2], []), ([], [])]) (by kernel_rfl)
/-- (cento/reader.Ref).Words -/
def c_reader_Ref_Words : CC :=
  .seq (.reg [cn (some 1) (.box 93 (.tmp 0)) none [0],
      co (some 2) (.assign (.const (.int .i64 0))) none] [1])
  (.seq (.seq (.reg [co (some 3) (.fieldAddr 93 (.tmp 1) 1) none,
        co (some 4) (.load 3 (.tmp 3)) none] [1, 4])
    (.block 0
      (.seq (.reg [co (some 6) (.binOp .eql 3 (.tmp 4) (.const (.int .i64 1)) 3) none,
          co (some 5) (.assign (.tmp 6)) none] [1, 4, 5])
      (.cond (.tmp 5)
        (.seq (.reg [co (some 7) (.fieldAddr 93 (.tmp 1) 4) none,
            co (some 8) (.load 3 (.tmp 7)) none,
            co (some 2) (.assign (.tmp 8)) none] [2])
        (.ret))
        (.seq (.reg [co (some 10) (.binOp .eql 3 (.tmp 4) (.const (.int .i64 10)) 3) none,
            co (some 9) (.assign (.tmp 10)) none] [9])
        (.cond (.tmp 9)
          (.seq (.reg [co (some 2) (.assign (.const (.int .i64 1))) none] [2])
          (.ret))
          (.skip)))))))
  (.keep [] (.seq (.reg [co (some 2) (.assign (.const (.int .i64 0))) none] [2])
  (.ret))))
theorem t_reader_Ref_Words : Txt Tryz.prog 137 11 [(.tmp 2)] c_reader_Ref_Words := txt_of (code := Tryz.f137.body.getD .ret) mixed (by kernel_rfl) Tryz.func137 (by kernel_rfl) Tryz.ntmps137 (by kernel_rfl) (ls := [([1], [(0, [0])]), ([], []), ([1, 4], []), ([], []), ([1, 4, 5], []), ([], []), ([2], []), ([], []), ([9], []), ([], []), ([2], []), ([], []), ([999999], []), ([2], []), ([], [])]) (by kernel_rfl)
/-- (cento/reader.Ref).Kids -/
def c_reader_Ref_Kids : CC :=
  .seq (.reg [cn (some 1) (.box 93 (.tmp 0)) none [0],
      co (some 2) (.assign (.const (.int .i64 0))) none] [1])
  (.seq (.seq (.reg [co (some 3) (.fieldAddr 93 (.tmp 1) 1) none,
        co (some 4) (.load 3 (.tmp 3)) none,
        co (some 5) (.binOp .eql 3 (.tmp 4) (.const (.int .i64 1)) 3) none] [1, 5])
    (.cond (.tmp 5)
      (.seq (.reg [co (some 6) (.fieldAddr 93 (.tmp 1) 5) none,
          co (some 7) (.load 3 (.tmp 6)) none,
          co (some 2) (.assign (.tmp 7)) none] [2])
      (.ret))
      (.skip)))
  (.keep [1] (.seq (.reg [co (some 8) (.fieldAddr 93 (.tmp 1) 6) none,
      co (some 9) (.load 3 (.tmp 8)) none,
      co (some 2) (.assign (.tmp 9)) none] [2])
  (.ret))))
theorem t_reader_Ref_Kids : Txt Tryz.prog 102 10 [(.tmp 2)] c_reader_Ref_Kids := txt_of (code := Tryz.f102.body.getD .ret) mixed (by kernel_rfl) Tryz.func102 (by kernel_rfl) Tryz.ntmps102 (by kernel_rfl) (ls := [([1], [(0, [0])]), ([], []), ([1, 5], []), ([], []), ([2], []), ([], []), ([999999, 1], []), ([2], []), ([], [])]) (by kernel_rfl)
/-- (cento/reader.Ref).atom -/
def c_reader_Ref_atom : CC :=
  .seq (.reg [cn (some 2) (.box 93 (.tmp 0)) none [0],
      co (some 4) (.assign (.const (.int .u64 0))) none] [1, 2])
  (.seq (.reg [co (some 11) (.fieldAddr 93 (.tmp 2) 1) none,
      co (some 12) (.load 3 (.tmp 11)) none,
      co (some 13) (.binOp .sub 3 (.tmp 12) (.const (.int .i64 2)) 3) none,
      co (some 5) (.assign (.tmp 13)) none] [1, 2, 5])
  (.seq (.reg [co (some 15) (.move (.tmp 5)) none,
      co (some 16) (.call { callee := (.value (.func 165)), args := #[(.tmp 15)], argTypes := #[3] }) none,
      co (some 14) (.move (.tmp 16)) none,
      co (some 17) (.extract (.tmp 14) 0) none,
      co (some 18) (.extract (.tmp 14) 1) none,
      co (some 6) (.assign (.tmp 17)) none,
      co (some 7) (.assign (.tmp 18)) none] [1, 2, 5, 6])
  (.seq (.seq (.reg [co (some 19) (.move (.tmp 6)) none,
        co (some 20) (.binOp .eql 3 (.tmp 19) (.const (.int .i64 0)) 3) none] [1, 2, 5, 6, 20])
    (.cond (.tmp 20)
      (.seq (.reg [co (some 4) (.assign (.const (.int .u64 0))) none] [4])
      (.ret))
      (.skip)))
  (.keep [1, 2, 5, 6] (.seq (.reg [co (some 21) (.move (.tmp 6)) none,
      co (some 22) (.binOp .quo 3 (.const (.int .i64 64)) (.tmp 21) 3) none,
      co (some 8) (.assign (.tmp 22)) none] [1, 2, 5, 8])
  (.seq (.reg [co (some 24) (.fieldAddr 93 (.tmp 2) 0) none,
      co (some 25) (.load 54 (.tmp 24)) none,
      co (some 26) (.fieldAddr 93 (.tmp 2) 2) none,
      co (some 27) (.load 3 (.tmp 26)) none,
      co (some 28) (.fieldAddr 93 (.tmp 2) 3) none,
      co (some 29) (.load 3 (.tmp 28)) none,
      co (some 30) (.move (.tmp 1)) none,
      co (some 31) (.move (.tmp 8)) none,
      co (some 32) (.binOp .quo 3 (.tmp 30) (.tmp 31) 3) none,
      co (some 33) (.binOp .add 3 (.tmp 29) (.tmp 32) 3) none,
      co (some 34) (.call { callee := (.value (.func 155)), args := #[(.tmp 25), (.tmp 27), (.tmp 33)], argTypes := #[54, 3, 3] }) none,
      co (some 23) (.move (.tmp 34)) none,
      co (some 35) (.extract (.tmp 23) 0) none,
      co (some 36) (.extract (.tmp 23) 1) none,
      co (some 9) (.assign (.tmp 35)) none,
      co (some 10) (.assign (.tmp 36)) none] [1, 5, 8, 9])
  (.seq (.reg [co (some 37) (.move (.tmp 9)) none,
      co (some 38) (.buildSlice 22 1 #[(0, (.tmp 37))]) none,
      co (some 39) (.move (.tmp 5)) none,
      co (some 40) (.move (.tmp 1)) none,
      co (some 41) (.move (.tmp 8)) none,
      co (some 42) (.binOp .rem 3 (.tmp 40) (.tmp 41) 3) none,
      co (some 43) (.call { callee := (.value (.func 166)), args := #[(.tmp 38), (.tmp 39), (.tmp 42)], argTypes := #[22, 3, 3] }) none,
      co (some 4) (.assign (.tmp 43)) none] [4])
  (.ret))))))))
theorem t_reader_Ref_atom : Txt Tryz.prog 158 44 [(.tmp 4)] c_reader_Ref_atom := txt_of (code := Tryz.f158.body.getD .ret) mixed (by kernel_rfl) Tryz.func158 (by kernel_rfl) Tryz.ntmps158 (by kernel_rfl) (ls := [([1, 2], [(0, [0])]), ([], []), ([1, 2, 5], []), ([], []), ([1, 2, 5, 6], []), ([], []), ([1, 2, 5, 6, 20], []), ([], []), ([4], []), ([], []), ([999999, 1, 2, 5, 6], []), ([1, 2, 5, 8], []), ([], []), ([1, 5, 8, 9], []), ([], []), ([4], []), ([], [])]) (by kernel_rfl)
/-- cento/reader.At -/
def c_reader_At : CC :=
  .seq (.reg [cn (some 6) (.alloc 93) none [0],
      co (some 7) (.assign (.const (.int .i64 0))) none] [0, 1, 2, 6])
  (.seq (.reg [co (some 12) (.move (.tmp 0)) none,
      co (some 13) (.move (.tmp 1)) none,
      co (some 14) (.move (.tmp 2)) none,
      co (some 15) (.call { callee := (.value (.func 135)), args := #[(.tmp 12), (.tmp 13), (.tmp 14)], argTypes := #[54, 3, 3] }) none,
      co (some 11) (.move (.tmp 15)) none,
      co (some 16) (.extract (.tmp 11) 0) none,
      co (some 17) (.extract (.tmp 11) 1) none,
      cn (some 8) (.alloc 153) none [1],
      co none (.store 153 (.tmp 8) (.tmp 16)) none,
      co (some 9) (.assign (.tmp 17)) none] [0, 6, 8, 9])
  (.seq (.seq (.reg [co (some 18) (.move (.tmp 9)) none,
        co (some 19) (.binOp .neq 45 (.tmp 18) (.const (.int .i64 0)) 45) none,
        co (some 20) (.move (.tmp 19)) none,
        co (some 21) (.fieldAddr 153 (.tmp 8) 0) (some (20, false)),
        co (some 22) (.fieldAddr 121 (.tmp 21) 0) (some (20, false)),
        co (some 23) (.load 3 (.tmp 22)) (some (20, false)),
        co (some 24) (.binOp .eql 3 (.tmp 23) (.const (.int .i64 0)) 3) (some (20, false)),
        co (some 25) (.pick (.tmp 20) (.const (.bool true)) (.tmp 24)) none] [0, 6, 8, 9, 25])
    (.cond (.tmp 25)
      (.seq (.reg [co (some 26) (.build 93 #[]) none,
          co (some 27) (.move (.tmp 9)) none,
          co none (.store 93 (.tmp 6) (.tmp 26)) none,
          co (some 7) (.assign (.tmp 27)) none] [6, 7])
      (.ret))
      (.skip)))
  (.keep [0, 6, 8] (.seq (.reg [co (some 28) (.move (.tmp 0)) none,
      co (some 29) (.fieldAddr 153 (.tmp 8) 1) none,
      co (some 30) (.load 3 (.tmp 29)) none,
      co (some 31) (.fieldAddr 153 (.tmp 8) 2) none,
      co (some 32) (.load 3 (.tmp 31)) none,
      co (some 33) (.build 93 #[(0, (.tmp 28)), (2, (.tmp 30)), (3, (.tmp 32))]) none,
      cn (some 10) (.alloc 93) none [2],
      co none (.store 93 (.tmp 10) (.tmp 33)) none] [6, 8, 10])
  (.seq (.block 0
      (.seq (.reg [co (some 42) (.fieldAddr 153 (.tmp 8) 0) none,
          co (some 43) (.fieldAddr 121 (.tmp 42) 0) none,
          co (some 44) (.load 3 (.tmp 43)) none,
          co (some 45) (.binOp .eql 3 (.tmp 44) (.const (.int .i64 1)) 3) none,
          co (some 41) (.assign (.tmp 45)) none] [6, 8, 10, 41])
      (.cond (.tmp 41)
        (.reg [co (some 46) (.fieldAddr 153 (.tmp 8) 0) none,
          co (some 47) (.fieldAddr 121 (.tmp 46) 2) none,
          ⟨some 48, (.load 3 (.tmp 47)), none, [], 2, [], true⟩,
          co (some 49) (.fieldAddr 153 (.tmp 8) 0) none,
          co (some 50) (.fieldAddr 121 (.tmp 49) 3) none,
          ⟨some 51, (.load 3 (.tmp 50)), none, [], 5, [], true⟩,
          co (some 52) (.fieldAddr 93 (.tmp 10) 1) none,
          ⟨none, (.store 3 (.tmp 52) (.const (.int .i64 1))), none, [], 7, [2, 5], false⟩,
          co (some 53) (.fieldAddr 93 (.tmp 10) 4) none,
          ⟨none, (.store 3 (.tmp 53) (.tmp 48)), none, [], 9, [5], false⟩,
          co (some 54) (.fieldAddr 93 (.tmp 10) 5) none,
          co none (.store 3 (.tmp 54) (.tmp 51)) none] [6, 10])
        (.seq (.reg [co (some 56) (.fieldAddr 153 (.tmp 8) 0) none,
            co (some 57) (.fieldAddr 121 (.tmp 56) 4) none,
            co (some 58) (.load 3 (.tmp 57)) none,
            co (some 59) (.binOp .lss 3 (.tmp 58) (.const (.int .i64 6)) 3) none,
            co (some 55) (.assign (.tmp 59)) none] [6, 8, 10, 55])
        (.cond (.tmp 55)
          (.reg [co (some 60) (.fieldAddr 153 (.tmp 8) 0) none,
            co (some 61) (.fieldAddr 121 (.tmp 60) 4) none,
            co (some 62) (.load 3 (.tmp 61)) none,
            co (some 63) (.binOp .add 3 (.const (.int .i64 2)) (.tmp 62) 3) none,
            co (some 64) (.fieldAddr 153 (.tmp 8) 0) none,
            co (some 65) (.fieldAddr 121 (.tmp 64) 5) none,
            ⟨some 66, (.load 3 (.tmp 65)), none, [], 6, [], true⟩,
            co (some 67) (.fieldAddr 93 (.tmp 10) 1) none,
            ⟨none, (.store 3 (.tmp 67) (.tmp 63)), none, [], 8, [6], false⟩,
            co (some 68) (.fieldAddr 93 (.tmp 10) 6) none,
            co none (.store 3 (.tmp 68) (.tmp 66)) none] [6, 10])
          (.seq (.reg [co (some 70) (.fieldAddr 153 (.tmp 8) 0) none,
              co (some 71) (.fieldAddr 121 (.tmp 70) 4) none,
              co (some 72) (.load 3 (.tmp 71)) none,
              co (some 73) (.binOp .eql 3 (.tmp 72) (.const (.int .i64 6)) 3) none,
              co (some 69) (.assign (.tmp 73)) none] [6, 8, 10, 69])
          (.cond (.tmp 69)
            (.reg [co (some 74) (.fieldAddr 153 (.tmp 8) 0) none,
              co (some 75) (.fieldAddr 121 (.tmp 74) 5) none,
              ⟨some 76, (.load 3 (.tmp 75)), none, [], 2, [], true⟩,
              co (some 77) (.fieldAddr 93 (.tmp 10) 1) none,
              ⟨none, (.store 3 (.tmp 77) (.const (.int .i64 8))), none, [], 4, [2], false⟩,
              co (some 78) (.fieldAddr 93 (.tmp 10) 6) none,
              co none (.store 3 (.tmp 78) (.tmp 76)) none] [6, 10])
            (.seq (.reg [co (some 34) (.load 93 (.tmp 10)) none,
                co (some 35) (.fieldAddr 153 (.tmp 8) 0) none,
                co (some 36) (.fieldAddr 121 (.tmp 35) 5) none,
                co (some 37) (.load 3 (.tmp 36)) none,
                co (some 38) (.call { callee := (.value (.func 136)), args := #[(.tmp 34), (.tmp 37)], argTypes := #[93, 3] }) none,
                co (some 39) (.extract (.tmp 38) 0) none,
                co (some 40) (.extract (.tmp 38) 1) none,
                co none (.store 93 (.tmp 6) (.tmp 39)) none,
                co (some 7) (.assign (.tmp 40)) none] [6, 7])
            (.ret)))))))))
  (.keep [6, 10] (.seq (.reg [co (some 79) (.load 93 (.tmp 10)) none,
      co none (.store 93 (.tmp 6) (.tmp 79)) none,
      co (some 7) (.assign (.const (.int .i64 0))) none] [6, 7])
  (.ret))))))))
theorem t_reader_At : Txt Tryz.prog 100 80 [(.cell 6 93), (.tmp 7)] c_reader_At := txt_of (code := Tryz.f100.body.getD .ret) mixed (by kernel_rfl) Tryz.func100 (by kernel_rfl) Tryz.ntmps100 (by kernel_rfl) (ls := [([0, 1, 2, 6], [(0, [0])]), ([], []), ([0, 6, 8, 9], [(7, [1])]), ([], []), ([0, 6, 8, 9, 25], []), ([], []), ([6, 7], []), ([], []), ([999999, 0, 6, 8], []), ([6, 8, 10], [(6, [2])]), ([], []), ([6, 8, 10, 41], []), ([], []), ([6, 10], []), ([6, 8, 10, 55], []), ([], []), ([6, 10], []), ([6, 8, 10, 69], []), ([], []), ([6, 10], []), ([6, 7], []), ([], []), ([999999, 6, 10], []), ([6, 7], []), ([], [])]) (by kernel_rfl)
/-- cento/reader.Root -/
def c_reader_Root : CC :=
  .seq (.reg [cn (some 2) (.alloc 93) none [0],
      co (some 3) (.assign (.const (.int .i64 0))) none] [0, 2])
  (.seq (.reg [co (some 4) (.move (.tmp 0)) none,
      co (some 5) (.call { callee := (.value (.func 100)), args := #[(.tmp 4), (.const (.int .i64 0)), (.const (.int .i64 0))], argTypes := #[54, 3, 3] }) none,
      co (some 6) (.extract (.tmp 5) 0) none,
      co (some 7) (.extract (.tmp 5) 1) none,
      co none (.store 93 (.tmp 2) (.tmp 6)) none,
      co (some 3) (.assign (.tmp 7)) none] [2, 3])
  (.ret))
theorem t_reader_Root : Txt Tryz.prog 64 8 [(.cell 2 93), (.tmp 3)] c_reader_Root := txt_of (code := Tryz.f64.body.getD .ret) mixed (by kernel_rfl) Tryz.func64 (by kernel_rfl) Tryz.ntmps64 (by kernel_rfl) (ls := [([0, 2], [(0, [0])]), ([], []), ([2, 3], []), ([], [])]) (by kernel_rfl)
/-- (cento/reader.Ref).composite -/
def c_reader_Ref_composite : CC :=
  .seq (.reg [cn (some 2) (.box 93 (.tmp 0)) none [0],
      cn (some 4) (.alloc 93) none [1],
      co (some 5) (.assign (.const (.int .i64 0))) none] [1, 2, 4])
  (.seq (.reg [co (some 10) (.fieldAddr 93 (.tmp 2) 0) none,
      co (some 11) (.load 54 (.tmp 10)) none,
      co (some 12) (.fieldAddr 93 (.tmp 2) 2) none,
      co (some 13) (.load 3 (.tmp 12)) none,
      co (some 14) (.fieldAddr 93 (.tmp 2) 3) none,
      co (some 15) (.load 3 (.tmp 14)) none,
      co (some 16) (.call { callee := (.value (.func 155)), args := #[(.tmp 11), (.tmp 13), (.tmp 15)], argTypes := #[54, 3, 3] }) none,
      co (some 9) (.move (.tmp 16)) none,
      co (some 17) (.extract (.tmp 9) 0) none,
      co (some 18) (.extract (.tmp 9) 1) none,
      co (some 6) (.assign (.tmp 17)) none,
      co (some 7) (.assign (.tmp 18)) none] [1, 2, 4, 6])
  (.seq (.reg [co (some 19) (.move (.tmp 6)) none,
      co (some 20) (.call { callee := (.value (.func 154)), args := #[(.tmp 19)], argTypes := #[60] }) none,
      cn (some 8) (.alloc 121) none [2],
      co none (.store 121 (.tmp 8) (.tmp 20)) none] [1, 2, 4, 6, 8])
  (.seq (.seq (.reg [co (some 21) (.move (.tmp 6)) none,
        co (some 22) (.binOp .neq 60 (.tmp 21) (.const (.int .u64 0)) 60) none,
        co (some 23) (.move (.tmp 22)) none,
        co (some 24) (.fieldAddr 121 (.tmp 8) 0) (some (23, true)),
        co (some 25) (.load 3 (.tmp 24)) (some (23, true)),
        co (some 26) (.binOp .neq 3 (.tmp 25) (.const (.int .i64 1)) 3) (some (23, true)),
        co (some 27) (.pick (.tmp 23) (.tmp 26) (.const (.bool false))) none,
        co (some 28) (.move (.tmp 27)) none,
        co (some 29) (.fieldAddr 121 (.tmp 8) 1) (some (28, false)),
        co (some 30) (.load 3 (.tmp 29)) (some (28, false)),
        co (some 31) (.binOp .lss 3 (.tmp 30) (.const (.int .i64 0)) 3) (some (28, false)),
        co (some 32) (.pick (.tmp 28) (.const (.bool true)) (.tmp 31)) none,
        co (some 33) (.move (.tmp 32)) none,
        co (some 34) (.fieldAddr 121 (.tmp 8) 1) (some (33, false)),
        co (some 35) (.load 3 (.tmp 34)) (some (33, false)),
        co (some 36) (.fieldAddr 121 (.tmp 8) 2) (some (33, false)),
        co (some 37) (.load 3 (.tmp 36)) (some (33, false)),
        co (some 38) (.fieldAddr 121 (.tmp 8) 3) (some (33, false)),
        co (some 39) (.load 3 (.tmp 38)) (some (33, false)),
        co (some 40) (.binOp .add 3 (.tmp 37) (.tmp 39) 3) (some (33, false)),
        co (some 41) (.binOp .mul 3 (.tmp 35) (.tmp 40) 3) (some (33, false)),
        co (some 42) (.move (.tmp 1)) (some (33, false)),
        co (some 43) (.binOp .gtr 3 (.tmp 41) (.tmp 42) 3) (some (33, false)),
        co (some 44) (.pick (.tmp 33) (.const (.bool true)) (.tmp 43)) none] [2, 4, 8, 44])
    (.cond (.tmp 44)
      (.seq (.reg [co (some 45) (.build 93 #[]) none,
          co none (.store 93 (.tmp 4) (.tmp 45)) none,
          co (some 5) (.assign (.const (.int .i64 8))) none] [4, 5])
      (.ret))
      (.skip)))
  (.keep [2, 4, 8] (.seq (.reg [co (some 46) (.fieldAddr 93 (.tmp 2) 3) none,
      co (some 47) (.load 3 (.tmp 46)) none,
      co (some 48) (.binOp .add 3 (.tmp 47) (.const (.int .i64 1)) 3) none,
      co (some 49) (.fieldAddr 93 (.tmp 2) 1) none,
      co none (.store 3 (.tmp 49) (.const (.int .i64 9))) none,
      co (some 50) (.fieldAddr 93 (.tmp 2) 3) none,
      co none (.store 3 (.tmp 50) (.tmp 48)) none] [2, 4, 8])
  (.seq (.reg [co (some 51) (.fieldAddr 121 (.tmp 8) 1) none,
      co (some 52) (.load 3 (.tmp 51)) none,
      co (some 53) (.fieldAddr 121 (.tmp 8) 2) none,
      ⟨some 54, (.load 3 (.tmp 53)), none, [], 3, [], true⟩,
      co (some 55) (.fieldAddr 121 (.tmp 8) 3) none,
      ⟨some 56, (.load 3 (.tmp 55)), none, [], 5, [], true⟩,
      co (some 57) (.fieldAddr 93 (.tmp 2) 6) none,
      ⟨none, (.store 3 (.tmp 57) (.tmp 52)), none, [], 7, [3, 5], false⟩,
      co (some 58) (.fieldAddr 93 (.tmp 2) 4) none,
      ⟨none, (.store 3 (.tmp 58) (.tmp 54)), none, [], 9, [5], false⟩,
      co (some 59) (.fieldAddr 93 (.tmp 2) 5) none,
      co none (.store 3 (.tmp 59) (.tmp 56)) none] [2, 4])
  (.seq (.reg [co (some 60) (.load 93 (.tmp 2)) none,
      co none (.store 93 (.tmp 4) (.tmp 60)) none,
      co (some 5) (.assign (.const (.int .i64 0))) none] [4, 5])
  (.ret))))))))
theorem t_reader_Ref_composite : Txt Tryz.prog 136 61 [(.cell 4 93), (.tmp 5)] c_reader_Ref_composite := txt_of (code := Tryz.f136.body.getD .ret) mixed (by kernel_rfl) Tryz.func136 (by kernel_rfl) Tryz.ntmps136 (by kernel_rfl) (ls := [([1, 2, 4], [(0, [0]), (1, [1])]), ([], []), ([1, 2, 4, 6], []), ([], []), ([1, 2, 4, 6, 8], [(2, [2])]), ([], []), ([2, 4, 8, 44], []), ([], []), ([4, 5], []), ([], []), ([999999, 2, 4, 8], []), ([2, 4, 8], []), ([], []), ([2, 4], []), ([], []), ([4, 5], []), ([], [])]) (by kernel_rfl)
/-- (cento/reader.Ref).Kid -/
def c_reader_Ref_Kid : CC :=
  .seq (.reg [cn (some 2) (.box 93 (.tmp 0)) none [0],
      cn (some 4) (.alloc 93) none [1],
      co (some 5) (.assign (.const (.int .i64 0))) none] [1, 2, 4])
  (.seq (.seq (.reg [co (some 6) (.move (.tmp 1)) none,
        co (some 7) (.binOp .lss 3 (.tmp 6) (.const (.int .i64 0)) 3) none,
        co (some 8) (.move (.tmp 7)) none,
        co (some 9) (.move (.tmp 1)) (some (8, false)),
        co (some 10) (.load 93 (.tmp 2)) (some (8, false)),
        co (some 11) (.call { callee := (.value (.func 102)), args := #[(.tmp 10)], argTypes := #[93] }) (some (8, false)),
        co (some 12) (.binOp .geq 3 (.tmp 9) (.tmp 11) 3) (some (8, false)),
        co (some 13) (.pick (.tmp 8) (.const (.bool true)) (.tmp 12)) none] [1, 2, 4, 13])
    (.cond (.tmp 13)
      (.seq (.reg [co (some 14) (.build 93 #[]) none,
          co none (.store 93 (.tmp 4) (.tmp 14)) none,
          co (some 5) (.assign (.const (.int .i64 0))) none] [4, 5])
      (.ret))
      (.skip)))
  (.keep [1, 2, 4] (.seq (.seq (.reg [co (some 15) (.fieldAddr 93 (.tmp 2) 1) none,
        co (some 16) (.load 3 (.tmp 15)) none] [1, 2, 4, 16])
    (.block 0
      (.seq (.reg [co (some 18) (.binOp .eql 3 (.tmp 16) (.const (.int .i64 1)) 3) none,
          co (some 17) (.assign (.tmp 18)) none] [1, 2, 4, 16, 17])
      (.cond (.tmp 17)
        (.seq (.reg [co (some 19) (.fieldAddr 93 (.tmp 2) 0) none,
            co (some 20) (.load 54 (.tmp 19)) none,
            co (some 21) (.fieldAddr 93 (.tmp 2) 2) none,
            co (some 22) (.load 3 (.tmp 21)) none,
            co (some 23) (.fieldAddr 93 (.tmp 2) 3) none,
            co (some 24) (.load 3 (.tmp 23)) none,
            co (some 25) (.fieldAddr 93 (.tmp 2) 4) none,
            co (some 26) (.load 3 (.tmp 25)) none,
            co (some 27) (.binOp .add 3 (.tmp 24) (.tmp 26) 3) none,
            co (some 28) (.move (.tmp 1)) none,
            co (some 29) (.binOp .add 3 (.tmp 27) (.tmp 28) 3) none,
            co (some 30) (.call { callee := (.value (.func 100)), args := #[(.tmp 20), (.tmp 22), (.tmp 29)], argTypes := #[54, 3, 3] }) none,
            co (some 31) (.extract (.tmp 30) 0) none,
            co (some 32) (.extract (.tmp 30) 1) none,
            co none (.store 93 (.tmp 4) (.tmp 31)) none,
            co (some 5) (.assign (.tmp 32)) none] [4, 5])
        (.ret))
        (.seq (.reg [co (some 34) (.binOp .eql 3 (.tmp 16) (.const (.int .i64 8)) 3) none,
            co (some 33) (.assign (.tmp 34)) none] [1, 2, 4, 16, 33])
        (.cond (.tmp 33)
          (.seq (.reg [co (some 35) (.fieldAddr 93 (.tmp 2) 0) none,
              co (some 36) (.load 54 (.tmp 35)) none,
              co (some 37) (.fieldAddr 93 (.tmp 2) 2) none,
              co (some 38) (.load 3 (.tmp 37)) none,
              co (some 39) (.fieldAddr 93 (.tmp 2) 3) none,
              co (some 40) (.load 3 (.tmp 39)) none,
              co (some 41) (.move (.tmp 1)) none,
              co (some 42) (.binOp .add 3 (.tmp 40) (.tmp 41) 3) none,
              co (some 43) (.call { callee := (.value (.func 100)), args := #[(.tmp 36), (.tmp 38), (.tmp 42)], argTypes := #[54, 3, 3] }) none,
              co (some 44) (.extract (.tmp 43) 0) none,
              co (some 45) (.extract (.tmp 43) 1) none,
              co none (.store 93 (.tmp 4) (.tmp 44)) none,
              co (some 5) (.assign (.tmp 45)) none] [4, 5])
          (.ret))
          (.seq (.reg [co (some 47) (.binOp .eql 3 (.tmp 16) (.const (.int .i64 9)) 3) none,
              co (some 46) (.assign (.tmp 47)) none] [1, 2, 4, 46])
          (.cond (.tmp 46)
            (.seq (.reg [co (some 48) (.fieldAddr 93 (.tmp 2) 0) none,
                co (some 49) (.load 54 (.tmp 48)) none,
                co (some 50) (.fieldAddr 93 (.tmp 2) 2) none,
                co (some 51) (.load 3 (.tmp 50)) none,
                co (some 52) (.fieldAddr 93 (.tmp 2) 3) none,
                co (some 53) (.load 3 (.tmp 52)) none,
                co (some 54) (.move (.tmp 1)) none,
                co (some 55) (.fieldAddr 93 (.tmp 2) 4) none,
                co (some 56) (.load 3 (.tmp 55)) none,
                co (some 57) (.fieldAddr 93 (.tmp 2) 5) none,
                co (some 58) (.load 3 (.tmp 57)) none,
                co (some 59) (.binOp .add 3 (.tmp 56) (.tmp 58) 3) none,
                co (some 60) (.binOp .mul 3 (.tmp 54) (.tmp 59) 3) none,
                co (some 61) (.binOp .add 3 (.tmp 53) (.tmp 60) 3) none,
                co (some 62) (.fieldAddr 93 (.tmp 2) 4) none,
                co (some 63) (.load 3 (.tmp 62)) none,
                co (some 64) (.fieldAddr 93 (.tmp 2) 5) none,
                co (some 65) (.load 3 (.tmp 64)) none,
                co (some 66) (.build 93 #[(0, (.tmp 49)), (1, (.const (.int .i64 1))), (2, (.tmp 51)), (3, (.tmp 61)), (4, (.tmp 63)), (5, (.tmp 65))]) none,
                co none (.store 93 (.tmp 4) (.tmp 66)) none,
                co (some 5) (.assign (.const (.int .i64 0))) none] [4, 5])
            (.ret))
            (.skip)))))))))
  (.keep [1, 2, 4] (.seq (.reg [co (some 67) (.fieldAddr 93 (.tmp 2) 0) none,
      ⟨some 68, (.load 54 (.tmp 67)), none, [], 1, [], true⟩,
      co (some 69) (.load 93 (.tmp 2)) none,
      co (some 70) (.move (.tmp 1)) none,
      ⟨some 71, (.call { callee := (.value (.func 158)), args := #[(.tmp 69), (.tmp 70)], argTypes := #[93, 3] }), none, [], 4, [1], false⟩,
      co (some 72) (.build 93 #[(0, (.tmp 68)), (1, (.const (.int .i64 10))), (7, (.tmp 71))]) none,
      co none (.store 93 (.tmp 4) (.tmp 72)) none,
      co (some 5) (.assign (.const (.int .i64 0))) none] [4, 5])
  (.ret))))))
theorem t_reader_Ref_Kid : Txt Tryz.prog 139 73 [(.cell 4 93), (.tmp 5)] c_reader_Ref_Kid := txt_of (code := Tryz.f139.body.getD .ret) mixed (by kernel_rfl) Tryz.func139 (by kernel_rfl) Tryz.ntmps139 (by kernel_rfl) (ls := [([1, 2, 4], [(0, [0]), (1, [1])]), ([], []), ([1, 2, 4, 13], []), ([], []), ([4, 5], []), ([], []), ([999999, 1, 2, 4], []), ([1, 2, 4, 16], []), ([], []), ([1, 2, 4, 16, 17], []), ([], []), ([4, 5], []), ([], []), ([1, 2, 4, 16, 33], []), ([], []), ([4, 5], []), ([], []), ([1, 2, 4, 46], []), ([], []), ([4, 5], []), ([], []), ([999999, 1, 2, 4], []), ([4, 5], []), ([], [])]) (by kernel_rfl)
end Go.Proofs.YthfiijdbnkaabaaGreat

/-
  Chapter 9: values are read where they lie, by the program.
-/
namespace Go.Proofs.YthfiijdbnkaabaaGreat
set_option linter.unusedVariables false
set_option linter.unusedSimpArgs false
open Go Go.G Go.Proofs Go.PL
/-- Segments that memory can hold. -/
structure Sg (l : List (List Int)) : Prop where
  b : ∀ x, x ∈ l → x.length * 8 ≤ 140737488355328
  w : Wds l
def arO (l : List (List Int)) (r : Rf) : A := if r.kind = 0 then .v (.pointer none) else arn l
@[simp] theorem arO_cells (l : List (List Int)) (r : Rf) : (arO l r).cells = [arO l r] := by unfold arO; split <;> rfl
@[simp] theorem arO_one (l : List (List Int)) (r : Rf) : (arO l r).one = true := by unfold arO; split <;> rfl
@[simp] theorem arO_bare (l : List (List Int)) (r : Rf) : (arO l r).bare = true := by unfold arO; split <;> rfl
@[simp] theorem arO_bare1 (l : List (List Int)) (r : Rf) : (arO l r).bare1 = true := by unfold arO; split <;> rfl
@[simp] theorem arO_bare2 (l : List (List Int)) (r : Rf) : (arO l r).bare2 = true := by unfold arO; split <;> rfl
abbrev paL (l : List (List Int)) (r : Rf) : List A := [arO l r, iv r.kind, iv r.s, iv r.at_, iv r.data, iv r.kids, iv r.count, uv r.n]
abbrev paX (l : List (List Int)) (r : Rf) : A := .agg (paL l r)
def nwR (r : Rf) : Int := if r.kind = 1 then r.data else if r.kind = 10 then 1 else 0
/-! ### small numbers -/
theorem u64_shr (x : Int) (k : Int) (h0 : 0 ≤ k) (h1 : k < 64) : x / 2 ^ (min k.toNat IntKind.u64.bits) = x / 2 ^ k.toNat := by
  have : min k.toNat IntKind.u64.bits = k.toNat := by
    have : IntKind.u64.bits = 64 := rfl
    omega
  rw [this]
set_option maxRecDepth 8000 in
theorem wGet_spec {g : List Int} (hg : ∀ x, x ∈ g → 0 ≤ x ∧ x < 18446744073709551616) (hl : g.length * 8 ≤ 140737488355328) (c i : Int) : G.Spec Tryz.prog 166 [uws g, iv c, iv i] (uv (getZ g c i)) := by
  refine spec_of t_word_Get (by simp) fun w0 I0 => ?_
  unfold c_word_Get
  simp
  refine sc_call (width_spec c) rfl ?_
  have hw := widthZ_cases c
  by_cases h0 : widthZ c < 1 ∨ i < 0 ∨ 1099511627776 < i
  · have e : getZ g c i = 0 := by unfold getZ; rw [if_pos h0]
    rw [e]
    rcases hw with h | h | h | h | h | h | h
    · simp [h]; exact frz_bare rfl
    · simp [h]; exact frz_bare rfl
    all_goals
      by_cases hi : i < 0
      · simp [h, hi]; exact frz_bare rfl
      · have hb : 1099511627776 < i := by omega
        simp [h, hi, hb]; exact frz_bare rfl
  · have hw1 : widthZ c = 1 ∨ widthZ c = 8 ∨ widthZ c = 16 ∨ widthZ c = 32 ∨ widthZ c = 64 := by omega
    have hi0 : 0 ≤ i := by omega
    have hi1 : i ≤ 1099511627776 := by omega
    have e : getZ g c i = ((g[(i * widthZ c / 64).toNat]?).getD 0) / 2 ^ (i * widthZ c % 64).toNat % 2 ^ (widthZ c).toNat := by unfold getZ; rw [if_neg h0]
    rw [e]
    clear e hw
    generalize widthZ c = w at hw1 h0
    have hn : ¬ w < 0 := by omega
    have hn0 : ¬ w = 0 := by omega
    have hp : 0 ≤ w := by omega
    have hneg : ¬ i < 0 := by omega
    have hbig : ¬ 1099511627776 < i := by omega
    have hb : 0 ≤ i * w ∧ i * w ≤ 70368744177664 := by rcases hw1 with rfl | rfl | rfl | rfl | rfl <;> omega
    have e1 : IntKind.i64.wrap (i * w) = i * w := i64_same (by omega) (by omega)
    have e2 : IntKind.i64.wrap ((i * w).tdiv 64) = i * w / 64 := by rw [Int.tdiv_eq_ediv_of_nonneg hb.1, i64_same (by omega) (by omega)]
    have e3 : (i * w).tmod 64 = i * w % 64 := Int.tmod_eq_emod_of_nonneg hb.1
    have hm : 0 ≤ i * w % 64 := by omega
    have hm1 : i * w % 64 < 64 := by omega
    have hd0 : 0 ≤ i * w / 64 := by omega
    by_cases hr : (g.length : Int) ≤ i * w / 64
    · have en : g[(i * w / 64).toNat]? = none := List.getElem?_eq_none (by omega)
      simp [hn, hn0, hp, hneg, hbig, e1, e2, hr, en]
      exact frz_bare rfl
    · have hlt : (i * w / 64).toNat < g.length := by omega
      have hlt' : i * w / 64 < g.length := by omega
      have hx := hg _ (List.getElem_mem hlt)
      simp [hn, hn0, hp, hneg, hbig, e1, e2, e3, hr, hd0, hlt, hlt', hm, u64_shr _ _ hm hm1]
      have hx0 : 0 ≤ g[(i * w / 64).toNat] / 2 ^ (i * w % 64).toNat := Int.ediv_nonneg hx.1 (Int.le_of_lt (Int.pow_pos (by decide)))
      have hx1 : g[(i * w / 64).toNat] / 2 ^ (i * w % 64).toNat < 18446744073709551616 := Int.lt_of_le_of_lt (Int.ediv_le_self _ hx.1) hx.2
      generalize g[(i * w / 64).toNat] / 2 ^ (i * w % 64).toNat = y at hx0 hx1
      refine ⟨fun h => ?_, fun h => ?_⟩
      · refine frz_int ?_
        rw [h]
        exact (Int.emod_eq_of_lt hx0 (by simpa using hx1)).symm
      · refine frz_int ?_
        have em : ∀ k : Nat, k < 64 → IntKind.u64.wrap (IntKind.u64.wrap (2 ^ min k IntKind.u64.bits) - 1) = 2 ^ k - 1 := fun k hk => by
          have h64 : min k IntKind.u64.bits = k := by
            have : IntKind.u64.bits = 64 := rfl
            omega
          have hp : (2 : Int) ^ k ≤ 9223372036854775808 := by
            have h2 := Int.ofNat_le.2 (Nat.pow_le_pow_right (n := 2) (by decide) (by omega : k ≤ 63))
            rw [Int.natCast_pow] at h2
            exact h2
          have hp0 : (0 : Int) < 2 ^ k := Int.pow_pos (by decide)
          rw [h64, u64_same (n := 2 ^ k) (by omega) (by omega), u64_same (by omega) (by omega)]
        rw [em w.toNat (by omega)]
        exact u64_mask w.toNat (by omega) hx0 hx1
theorem wWidth_spec (c : Int) : G.Spec Tryz.prog 165 [iv c] (.tup [iv (if widthZ c < 0 then 0 else widthZ c), bv (decide (0 ≤ widthZ c))]) := by
  refine spec_of t_word_Width (by simp) fun w0 I0 => ?_
  unfold c_word_Width
  simp
  refine sc_call (width_spec c) rfl ?_
  simp
  exact frz_bare rfl
theorem tup_bare {cs : List A} {x : Value} (h : cs.all A.bare2 = true) : (A.tup [.agg cs, .v x]).bare = true := by
  simp only [A.bare, List.all_cons, List.all_nil, Bool.and_true]
  rw [h]; rfl
/-! ### a value -/
theorem refKind_spec (l : List (List Int)) (r : Rf) : G.Spec Tryz.prog 101 [paX l r] (iv r.kind) := by
  refine spec_of t_reader_Ref_Kind (by simp) fun w0 I0 => ?_
  unfold c_reader_Ref_Kind
  simp
  exact frz_bare rfl
theorem refWords_spec' (l : List (List Int)) (r : Rf) : G.Spec Tryz.prog 137 [paX l r] (iv (nwR r)) := by
  refine spec_of t_reader_Ref_Words (by simp) fun w0 I0 => ?_
  unfold c_reader_Ref_Words
  by_cases h1 : r.kind = 1
  · simp [h1]; exact frz_is rfl (by simp [nwR, h1])
  · by_cases h10 : r.kind = 10
    · simp [h10]; exact frz_is rfl (by simp [nwR, h10])
    · simp [h1, h10]; exact frz_is rfl (by simp [nwR, h1, h10])
theorem refKids_spec' (l : List (List Int)) (r : Rf) : G.Spec Tryz.prog 102 [paX l r] (iv (nk r)) := by
  refine spec_of t_reader_Ref_Kids (by simp) fun w0 I0 => ?_
  unfold c_reader_Ref_Kids
  by_cases h1 : r.kind = 1
  · simp [h1]; exact frz_is rfl (by simp [nk, h1])
  · simp [h1]; exact frz_is rfl (by simp [nk, h1])
theorem hasW_bound {l : List (List Int)} (hs : Sg l) {s a n : Int} (h : hasW l s a n = true) : 0 ≤ a ∧ 0 ≤ n ∧ a + n ≤ 17592186044416 := by
  obtain ⟨h1, h2, h3, h4, h5, _, h6⟩ := hasW_in h
  have := hs.b _ (List.getElem_mem h5)
  omega
theorem comp_spec {l : List (List Int)} (hs : Sg l) (s a n : Int) (ha : 0 ≤ a) (ha1 : a ≤ 17592186044416) : G.Spec Tryz.prog 136 [.agg [arn l, iv 0, iv s, iv a, iv 0, iv 0, iv 0, uv 0], iv n] (.tup [paX l (compP l s a n).1, iv (compP l s a n).2]) := by
  have h0 : 0 ≤ (word l s a).getD 0 ∧ (word l s a).getD 0 < 18446744073709551616 := by
    cases e : word l s a with
    | none => simp
    | some x => exact word_in hs.w e
  refine spec_of t_reader_Ref_composite (by simp) fun w0 I0 => ?_
  unfold c_reader_Ref_composite
  simp
  refine sc_call (get_spec l hs.b s a) rfl ?_
  simp
  unfold compP
  generalize (word l s a).getD 0 = w at h0
  refine sc_call (Decode_spec h0.1 h0.2) rfl ?_
  have hsh := dec_shp h0.1 h0.2
  have ho := dec_off h0.1 h0.2
  have hdp : 0 ≤ (dec w).data ∧ (dec w).data < 65536 ∧ 0 ≤ (dec w).ptrs ∧ (dec w).ptrs < 65536 := by
    unfold dec
    repeat' split
    all_goals simp
    all_goals omega
  generalize dec w = p at hsh ho hdp
  have hb : -70368744177664 ≤ p.off * (p.data + p.ptrs) ∧ p.off * (p.data + p.ptrs) ≤ 70368744177664 := by
    have b1 : p.off * (p.data + p.ptrs) ≤ 536870912 * (p.data + p.ptrs) := Int.mul_le_mul_of_nonneg_right (by omega) (by omega)
    have b2 : -536870912 * (p.data + p.ptrs) ≤ p.off * (p.data + p.ptrs) := Int.mul_le_mul_of_nonneg_right (by omega) (by omega)
    omega
  have e1 : IntKind.i64.wrap (p.data + p.ptrs) = p.data + p.ptrs := i64_same (by omega) (by omega)
  have e2 : IntKind.i64.wrap (p.off * (p.data + p.ptrs)) = p.off * (p.data + p.ptrs) := i64_same (by omega) (by omega)
  have e3 : IntKind.i64.wrap (a + 1) = a + 1 := i64_same (by omega) (by omega)
  by_cases hc : (w ≠ 0 ∧ p.kind ≠ 1) ∨ p.off < 0 ∨ n < p.off * (p.data + p.ptrs)
  · have hd : (((!decide (w = 0) && !decide (p.kind = 1)) || decide (p.off < 0)) || decide (n < p.off * (p.data + p.ptrs))) = true := by simp; omega
    rw [if_pos hc]
    simp [e1, e2, hd]
    exact frz_is (tup_bare (by simp)) (by simp [Rf.zero, arO])
  · have hd : (((!decide (w = 0) && !decide (p.kind = 1)) || decide (p.off < 0)) || decide (n < p.off * (p.data + p.ptrs))) = false := by simp; omega
    rw [if_neg hc]
    simp [e1, e2, e3, hd]
    exact frz_is (tup_bare (by simp)) (by simp [arO])
theorem at_spec {l : List (List Int)} (hs : Sg l) (s a : Int) : G.Spec Tryz.prog 100 [arn l, iv s, iv a] (.tup [paX l (atP l s a).1, iv (atP l s a).2]) := by
  have hf := follow_folw hs.w s a
  refine spec_of t_reader_At (by simp) fun w0 I0 => ?_
  unfold c_reader_At
  simp
  refine sc_call (follow_spec l hs.b hs.w s a) rfl ?_
  unfold atP
  generalize followP l s a = x at hf
  obtain ⟨x, e⟩ := x
  unfold Folw at hf
  simp only at hf ⊢
  by_cases hc : e ≠ 0 ∨ x.p.kind = 0
  · have hd : (!decide (e = 0) || decide (x.p.kind = 0)) = true := by simp; omega
    simp [hd, hc]
    exact frz_is (tup_bare (by simp)) (by simp [Rf.zero, arO])
  · have hd : (!decide (e = 0) || decide (x.p.kind = 0)) = false := by simp; omega
    have he : e = 0 := by omega
    obtain h0 | ⟨hk, hsh, hw⟩ := hf he
    · omega
    have hbd := hasW_bound hs hw
    rw [if_neg hc]
    simp [hd]
    unfold refP
    by_cases k1 : x.p.kind = 1
    · simp [k1]
      exact frz_is (tup_bare (by simp)) (by simp [arO])
    · have k2 : x.p.kind = 2 := by omega
      obtain ⟨c0, c1, _, _⟩ := hsh.k2 k2
      by_cases c6 : x.p.code < 6
      · have e2 : IntKind.i64.wrap (2 + x.p.code) = 2 + x.p.code := i64_same (by omega) (by omega)
        have c7 : x.p.code < 7 := by omega
        have nz : ¬ (2 + x.p.code = 0) := by omega
        simp [k1, c6, c7, e2]
        exact ⟨frz_is (tup_bare (by simp)) (by simp [arO, nz]), fun h => absurd h (by omega)⟩
      · by_cases c6' : x.p.code = 6
        · simp [k1, c6']
          exact frz_is (tup_bare (by simp)) (by simp [arO])
        · have c7 : ¬ x.p.code < 7 := by omega
          simp [k1, c6, c6', c7]
          intro _
          refine sc_call (comp_spec hs x.s x.at_ x.p.count hbd.1 (by omega)) rfl ?_
          simp
          exact frz_bare (tup_bare (by simp))
theorem root_spec {l : List (List Int)} (hs : Sg l) : G.Spec Tryz.prog 64 [arn l] (.tup [paX l (atP l 0 0).1, iv (atP l 0 0).2]) := by
  refine spec_of t_reader_Root (by simp) fun w0 I0 => ?_
  unfold c_reader_Root
  simp
  refine sc_call (at_spec hs 0 0) rfl ?_
  simp
  exact frz_bare (tup_bare (by simp))
end Go.Proofs.YthfiijdbnkaabaaGreat

/-
  Chapters 9, 14, 15: kids; what counts of values; whether they mean the same.
-/
namespace Go.Proofs.YthfiijdbnkaabaaGreat
set_option linter.unusedVariables false
set_option linter.unusedSimpArgs false
open Go Go.G Go.Proofs Go.PL
theorem word_drop {l : List (List Int)} {s a : Int} (ha : 0 ≤ a) (k : Nat) : ((((seg l s).getD []).drop a.toNat)[k]?).getD 0 = (word l s (a + k)).getD 0 := by
  unfold word
  rw [if_pos (by omega)]
  cases seg l s with
  | none => simp
  | some g =>
    simp only [Option.getD_some, Option.bind_some, List.getElem?_drop]
    have : a.toNat + k = (a + k).toNat := by omega
    rw [this]
theorem atom_spec {l : List (List Int)} (hs : Sg l) {c s a n : Int} (c0 : 0 ≤ c) (c6 : c < 6) (n0 : 0 ≤ n) (n1 : n < 536870912) (h : hasW l s a ((n * bitsOf c + 63) / 64) = true) {i : Int} (i0 : 0 ≤ i) (i1 : i < n) :
    G.Spec Tryz.prog 158 [paX l ⟨2 + c, s, a, 0, 0, n, 0⟩, iv i] (uv (atomZ l ⟨2 + c, s, a, 0, 0, n, 0⟩ i)) := by
  have hb := hasW_bound hs h
  have e2 : IntKind.i64.wrap c = c := i64_same (by omega) (by omega)
  have nz : ¬ (2 + c = 0) := by omega
  have key : ∀ w per : Int, widthZ c = w → w * per = 64 → (w = 1 ∨ w = 8 ∨ w = 16 ∨ w = 32 ∨ w = 64) → getZ [(word l s (a + i / per)).getD 0] c (i % per) = atomZ l ⟨2 + c, s, a, 0, 0, n, 0⟩ i := fun w per hw hp hw' => by
    unfold atomZ getZ
    simp only [show 2 + c - 2 = c by omega, hw]
    have hk : (i % per * w / 64).toNat = 0 ∧ i % per * w % 64 = i * w % 64 ∧ i * w / 64 = i / per ∧ ¬ (i % per < 0) ∧ ¬ 1099511627776 < i % per := by
      rcases hw' with rfl | rfl | rfl | rfl | rfl
      · have : per = 64 := by omega
        subst this; omega
      · have : per = 8 := by omega
        subst this; omega
      · have : per = 4 := by omega
        subst this; omega
      · have : per = 2 := by omega
        subst this; omega
      · have : per = 1 := by omega
        subst this; omega
    obtain ⟨k1, k2, k3, k4, k5⟩ := hk
    rw [if_neg (by omega), if_neg (by omega), k1, k2, k3]
    have hd0 : 0 ≤ i / per := by rw [← k3]; rcases hw' with rfl | rfl | rfl | rfl | rfl <;> omega
    have := word_drop (l := l) (s := s) (a := a) hb.1 (i / per).toNat
    rw [show ((i / per).toNat : Int) = i / per by omega] at this
    rw [this]
    simp
  have e2' : IntKind.i64.wrap (2 + c - 2) = c := by rw [i64_same (by omega) (by omega)]; omega
  have hw64 : ∀ x : Int, 0 ≤ (word l s x).getD 0 ∧ (word l s x).getD 0 < 18446744073709551616 := fun x => by
    cases e : word l s x with
    | none => simp
    | some y => exact word_in hs.w e
  refine spec_of t_reader_Ref_atom (by simp) fun w0 I0 => ?_
  unfold c_reader_Ref_atom
  simp [e2']
  refine sc_call (wWidth_spec c) rfl ?_
  by_cases hc0 : c = 0
  · subst hc0
    simp [widthZ]
    exact frz_is rfl (by simp [atomZ, getZ, widthZ])
  have hx : ∃ w per : Int, widthZ c = w ∧ w * per = 64 ∧ (w = 1 ∨ w = 8 ∨ w = 16 ∨ w = 32 ∨ w = 64) ∧ (per = 64 ∨ per = 8 ∨ per = 4 ∨ per = 2 ∨ per = 1) ∧ IntKind.i64.wrap ((64 : Int).tdiv w) = per := by
    have hc : c = 1 ∨ c = 2 ∨ c = 3 ∨ c = 4 ∨ c = 5 := by omega
    rcases hc with rfl | rfl | rfl | rfl | rfl
    · exact ⟨1, 64, rfl, rfl, by omega, by omega, by decide⟩
    · exact ⟨8, 8, rfl, rfl, by omega, by omega, by decide⟩
    · exact ⟨16, 4, rfl, rfl, by omega, by omega, by decide⟩
    · exact ⟨32, 2, rfl, rfl, by omega, by omega, by decide⟩
    · exact ⟨64, 1, rfl, rfl, by omega, by omega, by decide⟩
  obtain ⟨w, per, hw, hp, hw', hper, ep⟩ := hx
  have hk := key w per hw hp hw'
  have wn : ¬ w < 0 := by omega
  have wz : ¬ w = 0 := by omega
  have pz : ¬ per = 0 := by omega
  have hq : 0 ≤ i / per ∧ i / per ≤ i := by rcases hper with rfl | rfl | rfl | rfl | rfl <;> omega
  have hm : 0 ≤ i % per := Int.emod_nonneg _ pz
  have e3 : IntKind.i64.wrap (i.tdiv per) = i / per := by rw [Int.tdiv_eq_ediv_of_nonneg i0, i64_same (by omega) (by omega)]
  have e4 : IntKind.i64.wrap (a + i / per) = a + i / per := i64_same (by omega) (by omega)
  have e5 : i.tmod per = i % per := Int.tmod_eq_emod_of_nonneg i0
  simp [hw, wn, wz, ep, pz, e3, e4, arO, nz]
  refine sc_call (get_spec l hs.b s (a + i / per)) rfl ?_
  simp [pz, e5]
  have hx := hw64 (a + i / per)
  refine sc_call ((wGet_spec (g := [(word l s (a + i / per)).getD 0]) (fun x hx' => by simp at hx'; rw [hx']; exact hx) (by simp) c (i % per)).soft (by simp [A.softL, A.soft])) rfl ?_
  simp
  rw [hk]
  exact frz_bare rfl
theorem kid_spec {l : List (List Int)} (hs : Sg l) {r : Rf} (hr : RfOk l r) (i : Int) : G.Spec Tryz.prog 139 [paX l r, iv i] (.tup [paX l (kidP l r i).1, iv (kidP l r i).2]) := by
  refine spec_of t_reader_Ref_Kid (by simp) fun w0 I0 => ?_
  unfold c_reader_Ref_Kid
  simp
  refine sc_call_gf rfl (fun _ => refKids_spec' l r) (fun e => by simp [e]) (by simp) ?_
  by_cases hi : i < 0 ∨ nk r ≤ i
  · have hd : (decide (i < 0) || decide (nk r ≤ i)) = true := by simpa using hi
    simp [hd]
    exact frz_is (tup_bare (by simp)) (by simp [kidP, hi, Rf.zero, arO])
  · have hd : (decide (i < 0) || decide (nk r ≤ i)) = false := by simpa using hi
    have hi0 : 0 ≤ i := by omega
    have hi1 : i < nk r := by omega
    have hk := nk_nonneg hr
    rw [kidP, if_neg hi]
    cases hr with
    | zero => simp [nk, Rf.zero] at hi1; omega
    | str s a d k a1 a2 a3 a4 h =>
      have hb := hasW_bound hs h
      have e1 : IntKind.i64.wrap (IntKind.i64.wrap (a + d) + i) = a + d + i := by
        rw [i64_same (n := a + d) (by omega) (by omega), i64_same (by omega) (by omega)]
      simp [hd, arO, e1]
      refine sc_call (at_spec hs s (a + d + i)) rfl ?_
      simp
      exact frz_bare (tup_bare (by simp))
    | dat c s a n a1 a2 a3 a4 h =>
      have n0 : ¬ (2 + c = 0) := by omega
      have n1 : ¬ (2 + c = 1) := by omega
      have n8 : ¬ (2 + c = 8) := by omega
      have n9 : ¬ (2 + c = 9) := by omega
      have hn : i < n := by simpa [nk, n1] using hi1
      have := atom_spec hs a1 a2 a3 a4 h hi0 hn
      simp [hd, n1, n8, n9]
      refine sc_call this (by simp) ?_
      simp
      exact frz_is (tup_bare (by simp)) (by simp [arO, n0])
    | ptrs s a n a1 a2 h =>
      have hb := hasW_bound hs h
      have e1 : IntKind.i64.wrap (a + i) = a + i := i64_same (by omega) (by omega)
      simp [hd, arO, e1]
      refine sc_call (at_spec hs s (a + i)) rfl ?_
      simp
      exact frz_bare (tup_bare (by simp))
    | comp s a d k n a1 a2 a3 a4 a5 a6 h =>
      have hb := hasW_bound hs h
      have hn : i < n := by simpa [nk] using hi1
      have m1 : 0 ≤ i * (d + k) := Int.mul_nonneg hi0 (by omega)
      have m2 : i * (d + k) ≤ n * (d + k) := mul_le_of (by omega) (by omega)
      have e1 : IntKind.i64.wrap (d + k) = d + k := i64_same (by omega) (by omega)
      have e2 : IntKind.i64.wrap (i * (d + k)) = i * (d + k) := i64_same (by omega) (by omega)
      have e3 : IntKind.i64.wrap (a + i * (d + k)) = a + i * (d + k) := i64_same (by omega) (by omega)
      simp [hd, arO, e1, e2, e3]
      exact frz_is (tup_bare (by simp)) (by simp [arO])
    | atom n a1 a2 => simp [nk] at hi1; omega
/-! ### what counts -/
end Go.Proofs.YthfiijdbnkaabaaGreat

/-
  The functions' text as data, and the facts on the types that they use: written by a program of ours (gen2.py) off the translation.
-/
namespace Go.Proofs.YthfiijdbnkaabaaGreat
set_option linter.unusedVariables false
set_option linter.unusedSimpArgs false
set_option maxRecDepth 20000
open Go Go.G Go.Proofs
@[simp] theorem und_26 : Tryz.prog.underlying 26 = some (.slice 63) := by kernel_rfl
@[simp] theorem und_27 : Tryz.prog.underlying 27 = some (.slice 66) := by kernel_rfl
@[simp] theorem und_28 : Tryz.prog.underlying 28 = some (.slice 69) := by kernel_rfl
@[simp] theorem szT_26 : szT Tryz.prog 26 = some 1 := by kernel_rfl
@[simp] theorem szT_27 : szT Tryz.prog 27 = some 1 := by kernel_rfl
@[simp] theorem szT_28 : szT Tryz.prog 28 = some 1 := by kernel_rfl
@[simp] theorem szT_30 : szT Tryz.prog 30 = some 11 := by kernel_rfl
@[simp] theorem szT_63 : szT Tryz.prog 63 = some 4 := by kernel_rfl
@[simp] theorem szT_66 : szT Tryz.prog 66 = some 12 := by kernel_rfl
@[simp] theorem szT_69 : szT Tryz.prog 69 = some 14 := by kernel_rfl
@[simp] theorem aggT_26 : aggT Tryz.prog 26 = some false := by kernel_rfl
@[simp] theorem aggT_27 : aggT Tryz.prog 27 = some false := by kernel_rfl
@[simp] theorem aggT_28 : aggT Tryz.prog 28 = some false := by kernel_rfl
@[simp] theorem aggT_30 : aggT Tryz.prog 30 = some true := by kernel_rfl
@[simp] theorem aggT_63 : aggT Tryz.prog 63 = some true := by kernel_rfl
@[simp] theorem aggT_66 : aggT Tryz.prog 66 = some true := by kernel_rfl
@[simp] theorem aggT_69 : aggT Tryz.prog 69 = some true := by kernel_rfl
@[simp] theorem zeroT_63 : zeroT Tryz.prog 63 = some (Value.agg #[Value.int IntKind.i64 0, Value.int IntKind.u8 0, Value.int IntKind.u64 0, Value.int IntKind.u64 0]) := by kernel_rfl
@[simp] theorem zeroT_66 : zeroT Tryz.prog 66 = some (Value.agg #[Value.int IntKind.i64 0, Value.int IntKind.i64 0, Value.int IntKind.i64 0, Value.slice none 0 0, Value.slice none 0 0, Value.int IntKind.i64 0, Value.slice none 0 0, Value.slice none 0 0, Value.slice none 0 0, Value.slice none 0 0, Value.int IntKind.i64 0, Value.slice none 0 0]) := by kernel_rfl
@[simp] theorem zeroT_69 : zeroT Tryz.prog 69 = some (Value.agg #[Value.int IntKind.i64 0, Value.int IntKind.i64 0, Value.slice none 0 0, Value.int IntKind.i64 0, Value.int IntKind.i64 0, Value.slice none 0 0, Value.slice none 0 0, Value.int IntKind.i64 0, Value.slice none 0 0, Value.slice none 0 0, Value.slice none 0 0, Value.slice none 0 0, Value.int IntKind.i64 0, Value.slice none 0 0]) := by kernel_rfl
@[simp] theorem bytesT_63 : bytesT Tryz.prog 63 = some 32 := by kernel_rfl
@[simp] theorem bytesT_66 : bytesT Tryz.prog 66 = some 208 := by kernel_rfl
@[simp] theorem bytesT_69 : bytesT Tryz.prog 69 = some 240 := by kernel_rfl
@[simp] theorem fieldOffT_30_0 : fieldOffT Tryz.prog 30 0 = some 0 := by kernel_rfl
@[simp] theorem fieldOffT_30_1 : fieldOffT Tryz.prog 30 1 = some 1 := by kernel_rfl
@[simp] theorem fieldOffT_30_2 : fieldOffT Tryz.prog 30 2 = some 4 := by kernel_rfl
@[simp] theorem fieldOffT_30_3 : fieldOffT Tryz.prog 30 3 = some 7 := by kernel_rfl
@[simp] theorem fieldOffT_30_4 : fieldOffT Tryz.prog 30 4 = some 8 := by kernel_rfl
@[simp] theorem fieldOffT_30_5 : fieldOffT Tryz.prog 30 5 = some 9 := by kernel_rfl
@[simp] theorem fieldOffT_30_6 : fieldOffT Tryz.prog 30 6 = some 10 := by kernel_rfl
@[simp] theorem fieldOffT_63_0 : fieldOffT Tryz.prog 63 0 = some 0 := by kernel_rfl
@[simp] theorem fieldOffT_63_1 : fieldOffT Tryz.prog 63 1 = some 1 := by kernel_rfl
@[simp] theorem fieldOffT_63_2 : fieldOffT Tryz.prog 63 2 = some 2 := by kernel_rfl
@[simp] theorem fieldOffT_63_3 : fieldOffT Tryz.prog 63 3 = some 3 := by kernel_rfl
@[simp] theorem fieldOffT_66_0 : fieldOffT Tryz.prog 66 0 = some 0 := by kernel_rfl
@[simp] theorem fieldOffT_66_1 : fieldOffT Tryz.prog 66 1 = some 1 := by kernel_rfl
@[simp] theorem fieldOffT_69_0 : fieldOffT Tryz.prog 69 0 = some 0 := by kernel_rfl
@[simp] theorem fieldOffT_69_1 : fieldOffT Tryz.prog 69 1 = some 1 := by kernel_rfl
@[simp] theorem fieldOffT_69_2 : fieldOffT Tryz.prog 69 2 = some 2 := by kernel_rfl
@[simp] theorem fieldOffT_69_3 : fieldOffT Tryz.prog 69 3 = some 3 := by kernel_rfl
@[simp] theorem buildA_30 (ps : List (Nat × A)) : buildA Tryz.prog 30 ps = (fillA (fun i => ([(0, 1), (1, 3), (4, 3), (7, 1), (8, 1), (9, 1), (10, 1)] : List (Nat × Nat))[i]?) [A.v (Value.int IntKind.i64 0), A.v (Value.int IntKind.i64 0), A.sl true [], A.sl true [], A.v (Value.int IntKind.i64 0), A.sl true [], A.sl true [], A.sl true [], A.sl true [], A.v (Value.int IntKind.i64 0), A.sl true []] ps).map A.agg := by kernel_rfl
/-- cento/centoref20.none -/
def c_centoref20_none : CC :=
  .seq (.reg [cn (some 1) (.box 25 (.tmp 0)) none [0],
      co (some 2) (.assign (.const (.bool false))) none] [1])
  (.seq (.reg [co (some 3) (.fieldAddr 25 (.tmp 1) 0) none,
      co (some 4) (.load 3 (.tmp 3)) none,
      co (some 5) (.binOp .eql 3 (.tmp 4) (.const (.int .i64 0)) 3) none,
      co (some 6) (.move (.tmp 5)) none,
      co (some 7) (.fieldAddr 25 (.tmp 1) 1) (some (6, true)),
      co (some 8) (.load 22 (.tmp 7)) (some (6, true)),
      co (some 9) (.call { callee := (.builtin .len), args := #[(.tmp 8)], argTypes := #[22] }) (some (6, true)),
      co (some 10) (.fieldAddr 25 (.tmp 1) 2) (some (6, true)),
      co (some 11) (.load 23 (.tmp 10)) (some (6, true)),
      co (some 12) (.call { callee := (.builtin .len), args := #[(.tmp 11)], argTypes := #[23] }) (some (6, true)),
      co (some 13) (.binOp .add 3 (.tmp 9) (.tmp 12) 3) (some (6, true)),
      co (some 14) (.binOp .eql 3 (.tmp 13) (.const (.int .i64 0)) 3) (some (6, true)),
      co (some 15) (.pick (.tmp 6) (.tmp 14) (.const (.bool false))) none,
      co (some 2) (.assign (.tmp 15)) none] [2])
  (.ret))
theorem t_centoref20_none : Txt Tryz.prog 49 16 [(.tmp 2)] c_centoref20_none := txt_of (code := Tryz.f49.body.getD .ret) mixed (by kernel_rfl) Tryz.func49 (by kernel_rfl) Tryz.ntmps49 (by kernel_rfl) (ls := [([1], [(0, [0])]), ([], []), ([2], []), ([], [])]) (by kernel_rfl)
/-- cento/centoref20.within -/
def c_centoref20_within : CC :=
  .seq (.reg [co (some 4) (.assign (.const (.bool false))) none] [0, 1])
  (.seq (.reg [co (some 5) (.move (.tmp 0)) none,
      co (some 6) (.move (.tmp 1)) none,
      co (some 7) (.call { callee := (.value (.func 78)), args := #[(.tmp 5), (.const (.int .u64 0)), (.tmp 6)], argTypes := #[60, 60, 5] }) none,
      co (some 8) (.binOp .eql 60 (.tmp 7) (.const (.int .u64 0)) 60) none,
      co (some 4) (.assign (.tmp 8)) none] [4])
  (.ret))
theorem t_centoref20_within : Txt Tryz.prog 50 9 [(.tmp 4)] c_centoref20_within := txt_of (code := Tryz.f50.body.getD .ret) mixed (by kernel_rfl) Tryz.func50 (by kernel_rfl) Tryz.ntmps50 (by kernel_rfl) (ls := [([0, 1], []), ([], []), ([4], []), ([], [])]) (by kernel_rfl)
/-- cento/centoref20.same -/
def c_centoref20_same : CC :=
  .seq (.reg [cn (some 1) (.box 30 (.tmp 0)) none [0],
      co (some 2) (.assign (.const (.bool false))) none] [1])
  (.seq (.reg [co (some 3) (.fieldAddr 30 (.tmp 1) 0) none,
      co (some 4) (.load 3 (.tmp 3)) none,
      co (some 5) (.binOp .eql 3 (.tmp 4) (.const (.int .i64 0)) 3) none,
      co (some 6) (.move (.tmp 5)) none,
      co (some 7) (.fieldAddr 30 (.tmp 1) 1) (some (6, true)),
      co (some 8) (.load 25 (.tmp 7)) (some (6, true)),
      co (some 9) (.call { callee := (.value (.func 49)), args := #[(.tmp 8)], argTypes := #[25] }) (some (6, true)),
      co (some 10) (.pick (.tmp 6) (.tmp 9) (.const (.bool false))) none,
      co (some 11) (.move (.tmp 10)) none,
      co (some 12) (.fieldAddr 30 (.tmp 1) 2) (some (11, true)),
      co (some 13) (.load 25 (.tmp 12)) (some (11, true)),
      co (some 14) (.call { callee := (.value (.func 49)), args := #[(.tmp 13)], argTypes := #[25] }) (some (11, true)),
      co (some 15) (.pick (.tmp 11) (.tmp 14) (.const (.bool false))) none,
      co (some 16) (.move (.tmp 15)) none,
      co (some 17) (.fieldAddr 30 (.tmp 1) 3) (some (16, true)),
      co (some 18) (.load 26 (.tmp 17)) (some (16, true)),
      co (some 19) (.call { callee := (.builtin .len), args := #[(.tmp 18)], argTypes := #[26] }) (some (16, true)),
      co (some 20) (.fieldAddr 30 (.tmp 1) 4) (some (16, true)),
      co (some 21) (.load 27 (.tmp 20)) (some (16, true)),
      co (some 22) (.call { callee := (.builtin .len), args := #[(.tmp 21)], argTypes := #[27] }) (some (16, true)),
      co (some 23) (.binOp .add 3 (.tmp 19) (.tmp 22) 3) (some (16, true)),
      co (some 24) (.fieldAddr 30 (.tmp 1) 6) (some (16, true)),
      co (some 25) (.load 28 (.tmp 24)) (some (16, true)),
      co (some 26) (.call { callee := (.builtin .len), args := #[(.tmp 25)], argTypes := #[28] }) (some (16, true)),
      co (some 27) (.binOp .add 3 (.tmp 23) (.tmp 26) 3) (some (16, true)),
      co (some 28) (.binOp .eql 3 (.tmp 27) (.const (.int .i64 0)) 3) (some (16, true)),
      co (some 29) (.pick (.tmp 16) (.tmp 28) (.const (.bool false))) none,
      co (some 30) (.move (.tmp 29)) none,
      co (some 31) (.fieldAddr 30 (.tmp 1) 5) (some (30, true)),
      co (some 32) (.load 3 (.tmp 31)) (some (30, true)),
      co (some 33) (.binOp .eql 3 (.tmp 32) (.const (.int .i64 0)) 3) (some (30, true)),
      co (some 34) (.pick (.tmp 30) (.tmp 33) (.const (.bool false))) none,
      co (some 2) (.assign (.tmp 34)) none] [2])
  (.ret))
theorem t_centoref20_same : Txt Tryz.prog 79 35 [(.tmp 2)] c_centoref20_same := txt_of (code := Tryz.f79.body.getD .ret) mixed (by kernel_rfl) Tryz.func79 (by kernel_rfl) Tryz.ntmps79 (by kernel_rfl) (ls := [([1], [(0, [0])]), ([], []), ([2], []), ([], [])]) (by kernel_rfl)
def l1_centoref20_op : CC :=
  .seq (.seq (.reg [co (some 46) (.move (.tmp 7)) none,
        co (some 47) (.fieldAddr 69 (.tmp 4) 2) none,
        co (some 48) (.load 23 (.tmp 47)) none,
        co (some 49) (.call { callee := (.builtin .len), args := #[(.tmp 48)], argTypes := #[23] }) none,
        co (some 50) (.binOp .lss 3 (.tmp 46) (.tmp 49) 3) none] [0, 4, 7, 50])
    (.cond (.tmp 50)
      (.skip)
      (.exit 0)))
  (.keep [0, 4, 7] (.seq (.block 1
      (.seq (.reg [co (some 53) (.move (.tmp 0)) none,
          co (some 54) (.fieldAddr 69 (.tmp 4) 2) none,
          co (some 55) (.load 23 (.tmp 54)) none,
          co (some 56) (.move (.tmp 7)) none,
          co (some 57) (.move (.tmp 7)) none,
          co (some 58) (.binOp .add 3 (.tmp 57) (.const (.int .i64 1)) 3) none,
          co (some 59) (.slice 23 (.tmp 55) (some (.tmp 56)) (some (.tmp 58)) none) none,
          co (some 60) (.build 25 #[(0, (.tmp 53)), (2, (.tmp 59))]) none,
          co (some 61) (.call { callee := (.value (.func 17)), args := #[(.tmp 60), (.const (.int .i64 64))], argTypes := #[25, 3] }) none,
          co (some 62) (.unOp .not 4 (.tmp 61)) none] [0, 4, 7, 62])
      (.cond (.tmp 62)
        (.seq (.reg [co (some 6) (.assign (.const (.bool false))) none] [6])
        (.ret))
        (.skip))))
  (.keep [0, 4, 7] (.reg [co (some 51) (.move (.tmp 7)) none,
    co (some 52) (.binOp .add 3 (.tmp 51) (.const (.int .i64 1)) 3) none,
    co (some 7) (.assign (.tmp 52)) none] [0, 4, 7]))))
/-- cento/centoref20.op -/
def c_centoref20_op : CC :=
  .seq (.reg [cn (some 4) (.box 69 (.tmp 1)) none [0],
      co (some 6) (.assign (.const (.bool false))) none] [0, 2, 4])
  (.seq (.seq (.reg [co (some 8) (.fieldAddr 69 (.tmp 4) 0) none,
        co (some 9) (.load 3 (.tmp 8)) none,
        co (some 10) (.binOp .eql 3 (.tmp 9) (.const (.int .i64 0)) 3) none] [0, 2, 4, 10])
    (.cond (.tmp 10)
      (.seq (.reg [co (some 11) (.fieldAddr 69 (.tmp 4) 1) none,
          co (some 12) (.load 3 (.tmp 11)) none,
          co (some 13) (.binOp .geq 3 (.tmp 12) (.const (.int .i64 1)) 3) none,
          co (some 14) (.move (.tmp 13)) none,
          co (some 15) (.fieldAddr 69 (.tmp 4) 1) (some (14, true)),
          co (some 16) (.load 3 (.tmp 15)) (some (14, true)),
          co (some 17) (.binOp .leq 3 (.tmp 16) (.const (.int .i64 1048576)) 3) (some (14, true)),
          co (some 18) (.pick (.tmp 14) (.tmp 17) (.const (.bool false))) none,
          co (some 19) (.move (.tmp 18)) none,
          co (some 20) (.fieldAddr 69 (.tmp 4) 2) (some (19, true)),
          co (some 21) (.load 23 (.tmp 20)) (some (19, true)),
          co (some 22) (.call { callee := (.builtin .len), args := #[(.tmp 21)], argTypes := #[23] }) (some (19, true)),
          co (some 23) (.binOp .eql 3 (.tmp 22) (.const (.int .i64 0)) 3) (some (19, true)),
          co (some 24) (.pick (.tmp 19) (.tmp 23) (.const (.bool false))) none,
          co (some 25) (.move (.tmp 24)) none,
          co (some 26) (.fieldAddr 69 (.tmp 4) 3) (some (25, true)),
          co (some 27) (.load 30 (.tmp 26)) (some (25, true)),
          co (some 28) (.call { callee := (.value (.func 79)), args := #[(.tmp 27)], argTypes := #[30] }) (some (25, true)),
          co (some 29) (.pick (.tmp 25) (.tmp 28) (.const (.bool false))) none,
          co (some 6) (.assign (.tmp 29)) none] [6])
      (.ret))
      (.skip)))
  (.keep [0, 2, 4] (.seq (.seq (.reg [co (some 30) (.fieldAddr 69 (.tmp 4) 1) none,
        co (some 31) (.load 3 (.tmp 30)) none,
        co (some 32) (.binOp .neq 3 (.tmp 31) (.const (.int .i64 0)) 3) none,
        co (some 33) (.move (.tmp 32)) none,
        co (some 34) (.fieldAddr 69 (.tmp 4) 0) (some (33, false)),
        co (some 35) (.load 3 (.tmp 34)) (some (33, false)),
        co (some 36) (.binOp .lss 3 (.tmp 35) (.const (.int .i64 0)) 3) (some (33, false)),
        co (some 37) (.pick (.tmp 33) (.const (.bool true)) (.tmp 36)) none,
        co (some 38) (.move (.tmp 37)) none,
        co (some 39) (.fieldAddr 69 (.tmp 4) 0) (some (38, false)),
        co (some 40) (.load 3 (.tmp 39)) (some (38, false)),
        co (some 41) (.binOp .gtr 3 (.tmp 40) (.const (.int .i64 3)) 3) (some (38, false)),
        co (some 42) (.pick (.tmp 38) (.const (.bool true)) (.tmp 41)) none] [0, 2, 4, 42])
    (.cond (.tmp 42)
      (.seq (.reg [co (some 6) (.assign (.const (.bool false))) none] [6])
      (.ret))
      (.skip)))
  (.keep [0, 2, 4] (.seq (.seq (.reg [co (some 43) (.fieldAddr 69 (.tmp 4) 0) none,
        co (some 44) (.load 3 (.tmp 43)) none,
        co (some 45) (.binOp .lss 3 (.tmp 44) (.const (.int .i64 3)) 3) none] [0, 2, 4, 45])
    (.cond (.tmp 45)
      (.seq (.seq (.reg [co (some 7) (.assign (.const (.int .i64 0))) none] [0, 4, 7])
        (.block 0
          (.loop l1_centoref20_op)))
      (.keep [4] (.seq (.reg [co (some 63) (.fieldAddr 69 (.tmp 4) 2) none,
          co (some 64) (.load 23 (.tmp 63)) none,
          co (some 65) (.call { callee := (.builtin .len), args := #[(.tmp 64)], argTypes := #[23] }) none,
          co (some 66) (.binOp .gtr 3 (.tmp 65) (.const (.int .i64 0)) 3) none,
          co (some 67) (.move (.tmp 66)) none,
          co (some 68) (.fieldAddr 69 (.tmp 4) 3) (some (67, true)),
          co (some 69) (.load 30 (.tmp 68)) (some (67, true)),
          co (some 70) (.call { callee := (.value (.func 79)), args := #[(.tmp 69)], argTypes := #[30] }) (some (67, true)),
          co (some 71) (.pick (.tmp 67) (.tmp 70) (.const (.bool false))) none,
          co (some 6) (.assign (.tmp 71)) none] [6])
      (.ret))))
      (.skip)))
  (.keep [0, 2, 4] (.seq (.seq (.reg [co (some 72) (.fieldAddr 69 (.tmp 4) 2) none,
        co (some 73) (.load 23 (.tmp 72)) none,
        co (some 74) (.call { callee := (.builtin .len), args := #[(.tmp 73)], argTypes := #[23] }) none,
        co (some 75) (.binOp .gtr 3 (.tmp 74) (.const (.int .i64 0)) 3) none,
        co (some 76) (.move (.tmp 75)) none,
        co (some 77) (.fieldAddr 69 (.tmp 4) 3) (some (76, false)),
        co (some 78) (.fieldAddr 30 (.tmp 77) 0) (some (76, false)),
        co (some 79) (.load 3 (.tmp 78)) (some (76, false)),
        co (some 80) (.binOp .eql 3 (.tmp 79) (.const (.int .i64 0)) 3) (some (76, false)),
        co (some 81) (.pick (.tmp 76) (.const (.bool true)) (.tmp 80)) none,
        co (some 82) (.move (.tmp 81)) none,
        co (some 83) (.move (.tmp 0)) (some (82, false)),
        co (some 84) (.binOp .leq 3 (.tmp 83) (.const (.int .i64 7)) 3) (some (82, false)),
        co (some 85) (.pick (.tmp 82) (.const (.bool true)) (.tmp 84)) none,
        co (some 86) (.move (.tmp 85)) none,
        co (some 87) (.fieldAddr 69 (.tmp 4) 3) (some (86, false)),
        co (some 88) (.load 30 (.tmp 87)) (some (86, false)),
        co (some 89) (.move (.tmp 2)) (some (86, false)),
        co (some 90) (.call { callee := (.value (.func 23)), args := #[(.tmp 88), (.tmp 89)], argTypes := #[30, 3] }) (some (86, false)),
        co (some 91) (.unOp .not 4 (.tmp 90)) (some (86, false)),
        co (some 92) (.pick (.tmp 86) (.const (.bool true)) (.tmp 91)) none] [0, 4, 92])
    (.cond (.tmp 92)
      (.seq (.reg [co (some 6) (.assign (.const (.bool false))) none] [6])
      (.ret))
      (.skip)))
  (.keep [0, 4] (.seq (.reg [co (some 93) (.move (.tmp 0)) none,
      co (some 94) (.binOp .eql 3 (.tmp 93) (.const (.int .i64 8)) 3) none,
      co (some 95) (.move (.tmp 94)) none,
      co (some 96) (.fieldAddr 69 (.tmp 4) 3) (some (95, false)),
      co (some 97) (.fieldAddr 30 (.tmp 96) 0) (some (95, false)),
      co (some 98) (.load 3 (.tmp 97)) (some (95, false)),
      co (some 99) (.binOp .eql 3 (.tmp 98) (.const (.int .i64 2)) 3) (some (95, false)),
      co (some 100) (.pick (.tmp 95) (.const (.bool true)) (.tmp 99)) none,
      co (some 101) (.move (.tmp 100)) none,
      co (some 102) (.fieldAddr 69 (.tmp 4) 3) (some (101, false)),
      co (some 103) (.fieldAddr 30 (.tmp 102) 0) (some (101, false)),
      co (some 104) (.load 3 (.tmp 103)) (some (101, false)),
      co (some 105) (.binOp .eql 3 (.tmp 104) (.const (.int .i64 1)) 3) (some (101, false)),
      co (some 106) (.move (.tmp 105)) (some (101, false)),
      co (some 107) (.fieldAddr 69 (.tmp 4) 3) (some (106, true)),
      co (some 108) (.fieldAddr 30 (.tmp 107) 1) (some (106, true)),
      co (some 109) (.fieldAddr 25 (.tmp 108) 0) (some (106, true)),
      co (some 110) (.load 3 (.tmp 109)) (some (106, true)),
      co (some 111) (.binOp .eql 3 (.tmp 110) (.const (.int .i64 1)) 3) (some (106, true)),
      co (some 112) (.pick (.tmp 106) (.tmp 111) (.const (.bool false))) (some (101, false)),
      co (some 113) (.move (.tmp 112)) (some (101, false)),
      co (some 114) (.fieldAddr 69 (.tmp 4) 3) (some (113, true)),
      co (some 115) (.fieldAddr 30 (.tmp 114) 2) (some (113, true)),
      co (some 116) (.fieldAddr 25 (.tmp 115) 0) (some (113, true)),
      co (some 117) (.load 3 (.tmp 116)) (some (113, true)),
      co (some 118) (.binOp .eql 3 (.tmp 117) (.const (.int .i64 1)) 3) (some (113, true)),
      co (some 119) (.pick (.tmp 113) (.tmp 118) (.const (.bool false))) (some (101, false)),
      co (some 120) (.pick (.tmp 101) (.const (.bool true)) (.tmp 119)) none,
      co (some 6) (.assign (.tmp 120)) none] [6])
  (.ret))))))))))
theorem t_centoref20_op : Txt Tryz.prog 51 121 [(.tmp 6)] c_centoref20_op := txt_of (code := Tryz.f51.body.getD .ret) mixed (by kernel_rfl) Tryz.func51 (by kernel_rfl) Tryz.ntmps51 (by kernel_rfl) (ls := [([0, 2, 4], [(0, [0])]), ([], []), ([0, 2, 4, 10], []), ([], []), ([6], []), ([], []), ([999999, 0, 2, 4], []), ([0, 2, 4, 42], []), ([], []), ([6], []), ([], []), ([999999, 0, 2, 4], []), ([0, 2, 4, 45], []), ([], []), ([0, 4, 7], []), ([], []), ([0, 4, 7, 50], []), ([], []), ([999999, 0, 4, 7], []), ([0, 4, 7, 62], []), ([], []), ([6], []), ([], []), ([999999, 0, 4, 7], []), ([0, 4, 7], []), ([999999, 4], []), ([6], []), ([], []), ([999999, 0, 2, 4], []), ([0, 4, 92], []), ([], []), ([6], []), ([], []), ([999999, 0, 4], []), ([6], []), ([], [])]) (by kernel_rfl)
def l1_centoref20_Right : CC :=
  .seq (.seq (.reg [co (some 93) (.move (.tmp 6)) none,
        co (some 94) (.fieldAddr 30 (.tmp 2) 3) none,
        co (some 95) (.load 26 (.tmp 94)) none,
        co (some 96) (.call { callee := (.builtin .len), args := #[(.tmp 95)], argTypes := #[26] }) none,
        co (some 97) (.binOp .lss 3 (.tmp 93) (.tmp 96) 3) none] [1, 2, 5, 6, 97])
    (.cond (.tmp 97)
      (.skip)
      (.exit 0)))
  (.keep [1, 2, 5, 6] (.seq (.block 1
      (.seq (.reg [co (some 100) (.fieldAddr 30 (.tmp 2) 3) none,
          co (some 101) (.load 26 (.tmp 100)) none,
          co (some 102) (.move (.tmp 6)) none,
          co (some 103) (.indexAddr 26 (.tmp 101) (.tmp 102)) none,
          co (some 104) (.load 63 (.tmp 103)) none,
          cn (some 7) (.alloc 63) none [1],
          co none (.store 63 (.tmp 7) (.tmp 104)) none] [1, 2, 5, 6, 7])
      (.seq (.seq (.reg [co (some 105) (.fieldAddr 63 (.tmp 7) 0) none,
            co (some 106) (.load 3 (.tmp 105)) none,
            co (some 107) (.move (.tmp 5)) none,
            co (some 108) (.binOp .leq 3 (.tmp 106) (.tmp 107) 3) none,
            co (some 109) (.move (.tmp 108)) none,
            co (some 110) (.fieldAddr 63 (.tmp 7) 0) (some (109, false)),
            co (some 111) (.load 3 (.tmp 110)) (some (109, false)),
            co (some 112) (.binOp .gtr 3 (.tmp 111) (.const (.int .i64 65534)) 3) (some (109, false)),
            co (some 113) (.pick (.tmp 109) (.const (.bool true)) (.tmp 112)) none,
            co (some 114) (.move (.tmp 113)) none,
            co (some 115) (.fieldAddr 63 (.tmp 7) 1) (some (114, false)),
            co (some 116) (.load 5 (.tmp 115)) (some (114, false)),
            co (some 117) (.binOp .eql 5 (.tmp 116) (.const (.int .u8 0)) 5) (some (114, false)),
            co (some 118) (.pick (.tmp 114) (.const (.bool true)) (.tmp 117)) none,
            co (some 119) (.move (.tmp 118)) none,
            co (some 120) (.fieldAddr 63 (.tmp 7) 2) (some (119, false)),
            co (some 121) (.load 60 (.tmp 120)) (some (119, false)),
            co (some 122) (.fieldAddr 63 (.tmp 7) 1) (some (119, false)),
            co (some 123) (.load 5 (.tmp 122)) (some (119, false)),
            co (some 124) (.call { callee := (.value (.func 50)), args := #[(.tmp 121), (.tmp 123)], argTypes := #[60, 5] }) (some (119, false)),
            co (some 125) (.unOp .not 4 (.tmp 124)) (some (119, false)),
            co (some 126) (.pick (.tmp 119) (.const (.bool true)) (.tmp 125)) none,
            co (some 127) (.move (.tmp 126)) none,
            co (some 128) (.fieldAddr 63 (.tmp 7) 3) (some (127, false)),
            co (some 129) (.load 60 (.tmp 128)) (some (127, false)),
            co (some 130) (.fieldAddr 63 (.tmp 7) 1) (some (127, false)),
            co (some 131) (.load 5 (.tmp 130)) (some (127, false)),
            co (some 132) (.call { callee := (.value (.func 50)), args := #[(.tmp 129), (.tmp 131)], argTypes := #[60, 5] }) (some (127, false)),
            co (some 133) (.unOp .not 4 (.tmp 132)) (some (127, false)),
            co (some 134) (.pick (.tmp 127) (.const (.bool true)) (.tmp 133)) none] [1, 2, 6, 7, 134])
        (.cond (.tmp 134)
          (.seq (.reg [co (some 4) (.assign (.const (.bool false))) none] [4])
          (.ret))
          (.skip)))
      (.keep [1, 2, 6, 7] (.reg [co (some 135) (.fieldAddr 63 (.tmp 7) 0) none,
        co (some 136) (.load 3 (.tmp 135)) none,
        co (some 5) (.assign (.tmp 136)) none] [1, 2, 5, 6])))))
  (.keep [1, 2, 5, 6] (.reg [co (some 98) (.move (.tmp 6)) none,
    co (some 99) (.binOp .add 3 (.tmp 98) (.const (.int .i64 1)) 3) none,
    co (some 6) (.assign (.tmp 99)) none] [1, 2, 5, 6]))))
def l2_centoref20_Right : CC :=
  .seq (.seq (.reg [co (some 137) (.move (.tmp 8)) none,
        co (some 138) (.fieldAddr 30 (.tmp 2) 4) none,
        co (some 139) (.load 27 (.tmp 138)) none,
        co (some 140) (.call { callee := (.builtin .len), args := #[(.tmp 139)], argTypes := #[27] }) none,
        co (some 141) (.binOp .lss 3 (.tmp 137) (.tmp 140) 3) none] [1, 2, 5, 8, 141])
    (.cond (.tmp 141)
      (.skip)
      (.exit 2)))
  (.keep [1, 2, 5, 8] (.seq (.block 3
      (.seq (.reg [co (some 144) (.fieldAddr 30 (.tmp 2) 4) none,
          co (some 145) (.load 27 (.tmp 144)) none,
          co (some 146) (.move (.tmp 8)) none,
          co (some 147) (.indexAddr 27 (.tmp 145) (.tmp 146)) none,
          co (some 148) (.load 66 (.tmp 147)) none,
          cn (some 9) (.alloc 66) none [2],
          co none (.store 66 (.tmp 9) (.tmp 148)) none] [1, 2, 5, 8, 9])
      (.seq (.seq (.reg [co (some 149) (.fieldAddr 66 (.tmp 9) 0) none,
            co (some 150) (.load 3 (.tmp 149)) none,
            co (some 151) (.move (.tmp 5)) none,
            co (some 152) (.binOp .leq 3 (.tmp 150) (.tmp 151) 3) none,
            co (some 153) (.move (.tmp 152)) none,
            co (some 154) (.fieldAddr 66 (.tmp 9) 0) (some (153, false)),
            co (some 155) (.load 3 (.tmp 154)) (some (153, false)),
            co (some 156) (.binOp .gtr 3 (.tmp 155) (.const (.int .i64 65534)) 3) (some (153, false)),
            co (some 157) (.pick (.tmp 153) (.const (.bool true)) (.tmp 156)) none,
            co (some 158) (.move (.tmp 157)) none,
            co (some 159) (.fieldAddr 66 (.tmp 9) 1) (some (158, false)),
            co (some 160) (.fieldAddr 30 (.tmp 159) 0) (some (158, false)),
            co (some 161) (.load 3 (.tmp 160)) (some (158, false)),
            co (some 162) (.binOp .eql 3 (.tmp 161) (.const (.int .i64 0)) 3) (some (158, false)),
            co (some 163) (.pick (.tmp 158) (.const (.bool true)) (.tmp 162)) none,
            co (some 164) (.move (.tmp 163)) none,
            co (some 165) (.fieldAddr 66 (.tmp 9) 1) (some (164, false)),
            co (some 166) (.load 30 (.tmp 165)) (some (164, false)),
            co (some 167) (.move (.tmp 1)) (some (164, false)),
            co (some 168) (.binOp .sub 3 (.tmp 167) (.const (.int .i64 1)) 3) (some (164, false)),
            co (some 169) (.call { callee := (.value (.func 23)), args := #[(.tmp 166), (.tmp 168)], argTypes := #[30, 3] }) (some (164, false)),
            co (some 170) (.unOp .not 4 (.tmp 169)) (some (164, false)),
            co (some 171) (.pick (.tmp 164) (.const (.bool true)) (.tmp 170)) none] [1, 2, 8, 9, 171])
        (.cond (.tmp 171)
          (.seq (.reg [co (some 4) (.assign (.const (.bool false))) none] [4])
          (.ret))
          (.skip)))
      (.keep [1, 2, 8, 9] (.reg [co (some 172) (.fieldAddr 66 (.tmp 9) 0) none,
        co (some 173) (.load 3 (.tmp 172)) none,
        co (some 5) (.assign (.tmp 173)) none] [1, 2, 5, 8])))))
  (.keep [1, 2, 5, 8] (.reg [co (some 142) (.move (.tmp 8)) none,
    co (some 143) (.binOp .add 3 (.tmp 142) (.const (.int .i64 1)) 3) none,
    co (some 8) (.assign (.tmp 143)) none] [1, 2, 5, 8]))))
def l3_centoref20_Right : CC :=
  .seq (.seq (.reg [co (some 187) (.move (.tmp 10)) none,
        co (some 188) (.fieldAddr 30 (.tmp 2) 6) none,
        co (some 189) (.load 28 (.tmp 188)) none,
        co (some 190) (.call { callee := (.builtin .len), args := #[(.tmp 189)], argTypes := #[28] }) none,
        co (some 191) (.binOp .lss 3 (.tmp 187) (.tmp 190) 3) none] [1, 2, 10, 191])
    (.cond (.tmp 191)
      (.skip)
      (.exit 4)))
  (.keep [1, 2, 10] (.seq (.block 5
      (.seq (.reg [co (some 194) (.fieldAddr 30 (.tmp 2) 5) none,
          co (some 195) (.load 3 (.tmp 194)) none,
          co (some 196) (.fieldAddr 30 (.tmp 2) 6) none,
          co (some 197) (.load 28 (.tmp 196)) none,
          co (some 198) (.move (.tmp 10)) none,
          co (some 199) (.indexAddr 28 (.tmp 197) (.tmp 198)) none,
          co (some 200) (.load 69 (.tmp 199)) none,
          co (some 201) (.move (.tmp 1)) none,
          co (some 202) (.binOp .sub 3 (.tmp 201) (.const (.int .i64 1)) 3) none,
          co (some 203) (.call { callee := (.value (.func 51)), args := #[(.tmp 195), (.tmp 200), (.tmp 202)], argTypes := #[3, 69, 3] }) none,
          co (some 204) (.unOp .not 4 (.tmp 203)) none] [1, 2, 10, 204])
      (.cond (.tmp 204)
        (.seq (.reg [co (some 4) (.assign (.const (.bool false))) none] [4])
        (.ret))
        (.skip))))
  (.keep [1, 2, 10] (.reg [co (some 192) (.move (.tmp 10)) none,
    co (some 193) (.binOp .add 3 (.tmp 192) (.const (.int .i64 1)) 3) none,
    co (some 10) (.assign (.tmp 193)) none] [1, 2, 10]))))
/-- cento/centoref20.Right -/
def c_centoref20_Right : CC :=
  .seq (.reg [cn (some 2) (.box 30 (.tmp 0)) none [0],
      co (some 4) (.assign (.const (.bool false))) none] [1, 2])
  (.seq (.seq (.reg [co (some 13) (.move (.tmp 1)) none,
        co (some 14) (.binOp .eql 3 (.tmp 13) (.const (.int .i64 0)) 3) none,
        co (some 15) (.move (.tmp 14)) none,
        co (some 16) (.fieldAddr 30 (.tmp 2) 0) (some (15, false)),
        co (some 17) (.load 3 (.tmp 16)) (some (15, false)),
        co (some 18) (.binOp .lss 3 (.tmp 17) (.const (.int .i64 0)) 3) (some (15, false)),
        co (some 19) (.pick (.tmp 15) (.const (.bool true)) (.tmp 18)) none,
        co (some 20) (.move (.tmp 19)) none,
        co (some 21) (.fieldAddr 30 (.tmp 2) 0) (some (20, false)),
        co (some 22) (.load 3 (.tmp 21)) (some (20, false)),
        co (some 23) (.binOp .gtr 3 (.tmp 22) (.const (.int .i64 3)) 3) (some (20, false)),
        co (some 24) (.pick (.tmp 20) (.const (.bool true)) (.tmp 23)) none] [1, 2, 24])
    (.cond (.tmp 24)
      (.seq (.reg [co (some 4) (.assign (.const (.bool false))) none] [4])
      (.ret))
      (.skip)))
  (.keep [1, 2] (.seq (.seq (.reg [co (some 25) (.fieldAddr 30 (.tmp 2) 0) none,
        co (some 26) (.load 3 (.tmp 25)) none,
        co (some 27) (.binOp .neq 3 (.tmp 26) (.const (.int .i64 1)) 3) none,
        co (some 28) (.move (.tmp 27)) none,
        co (some 29) (.fieldAddr 30 (.tmp 2) 1) (some (28, true)),
        co (some 30) (.load 25 (.tmp 29)) (some (28, true)),
        co (some 31) (.call { callee := (.value (.func 49)), args := #[(.tmp 30)], argTypes := #[25] }) (some (28, true)),
        co (some 32) (.move (.tmp 31)) (some (28, true)),
        co (some 33) (.fieldAddr 30 (.tmp 2) 2) (some (32, true)),
        co (some 34) (.load 25 (.tmp 33)) (some (32, true)),
        co (some 35) (.call { callee := (.value (.func 49)), args := #[(.tmp 34)], argTypes := #[25] }) (some (32, true)),
        co (some 36) (.pick (.tmp 32) (.tmp 35) (.const (.bool false))) (some (28, true)),
        co (some 37) (.unOp .not 4 (.tmp 36)) (some (28, true)),
        co (some 38) (.pick (.tmp 28) (.tmp 37) (.const (.bool false))) none,
        co (some 39) (.move (.tmp 38)) none,
        co (some 40) (.fieldAddr 30 (.tmp 2) 0) (some (39, false)),
        co (some 41) (.load 3 (.tmp 40)) (some (39, false)),
        co (some 42) (.binOp .neq 3 (.tmp 41) (.const (.int .i64 2)) 3) (some (39, false)),
        co (some 43) (.move (.tmp 42)) (some (39, false)),
        co (some 44) (.fieldAddr 30 (.tmp 2) 3) (some (43, true)),
        co (some 45) (.load 26 (.tmp 44)) (some (43, true)),
        co (some 46) (.call { callee := (.builtin .len), args := #[(.tmp 45)], argTypes := #[26] }) (some (43, true)),
        co (some 47) (.fieldAddr 30 (.tmp 2) 4) (some (43, true)),
        co (some 48) (.load 27 (.tmp 47)) (some (43, true)),
        co (some 49) (.call { callee := (.builtin .len), args := #[(.tmp 48)], argTypes := #[27] }) (some (43, true)),
        co (some 50) (.binOp .add 3 (.tmp 46) (.tmp 49) 3) (some (43, true)),
        co (some 51) (.binOp .gtr 3 (.tmp 50) (.const (.int .i64 0)) 3) (some (43, true)),
        co (some 52) (.pick (.tmp 43) (.tmp 51) (.const (.bool false))) (some (39, false)),
        co (some 53) (.pick (.tmp 39) (.const (.bool true)) (.tmp 52)) none,
        co (some 54) (.move (.tmp 53)) none,
        co (some 55) (.fieldAddr 30 (.tmp 2) 0) (some (54, false)),
        co (some 56) (.load 3 (.tmp 55)) (some (54, false)),
        co (some 57) (.binOp .neq 3 (.tmp 56) (.const (.int .i64 3)) 3) (some (54, false)),
        co (some 58) (.move (.tmp 57)) (some (54, false)),
        co (some 59) (.fieldAddr 30 (.tmp 2) 5) (some (58, true)),
        co (some 60) (.load 3 (.tmp 59)) (some (58, true)),
        co (some 61) (.binOp .neq 3 (.tmp 60) (.const (.int .i64 0)) 3) (some (58, true)),
        co (some 62) (.move (.tmp 61)) (some (58, true)),
        co (some 63) (.fieldAddr 30 (.tmp 2) 6) (some (62, false)),
        co (some 64) (.load 28 (.tmp 63)) (some (62, false)),
        co (some 65) (.call { callee := (.builtin .len), args := #[(.tmp 64)], argTypes := #[28] }) (some (62, false)),
        co (some 66) (.binOp .gtr 3 (.tmp 65) (.const (.int .i64 0)) 3) (some (62, false)),
        co (some 67) (.pick (.tmp 62) (.const (.bool true)) (.tmp 66)) (some (58, true)),
        co (some 68) (.pick (.tmp 58) (.tmp 67) (.const (.bool false))) (some (54, false)),
        co (some 69) (.pick (.tmp 54) (.const (.bool true)) (.tmp 68)) none] [1, 2, 69])
    (.cond (.tmp 69)
      (.seq (.reg [co (some 4) (.assign (.const (.bool false))) none] [4])
      (.ret))
      (.skip)))
  (.keep [1, 2] (.seq (.seq (.reg [co (some 70) (.fieldAddr 30 (.tmp 2) 0) none,
        co (some 71) (.load 3 (.tmp 70)) none,
        co (some 72) (.binOp .eql 3 (.tmp 71) (.const (.int .i64 1)) 3) none] [1, 2, 72])
    (.cond (.tmp 72)
      (.seq (.reg [co (some 73) (.fieldAddr 30 (.tmp 2) 1) none,
          co (some 74) (.load 25 (.tmp 73)) none,
          co (some 75) (.call { callee := (.value (.func 17)), args := #[(.tmp 74), (.const (.int .i64 64))], argTypes := #[25, 3] }) none,
          co (some 76) (.move (.tmp 75)) none,
          co (some 77) (.fieldAddr 30 (.tmp 2) 2) (some (76, true)),
          co (some 78) (.load 25 (.tmp 77)) (some (76, true)),
          co (some 79) (.call { callee := (.value (.func 17)), args := #[(.tmp 78), (.const (.int .i64 64))], argTypes := #[25, 3] }) (some (76, true)),
          co (some 80) (.pick (.tmp 76) (.tmp 79) (.const (.bool false))) none,
          co (some 81) (.move (.tmp 80)) none,
          co (some 82) (.fieldAddr 30 (.tmp 2) 1) (some (81, true)),
          co (some 83) (.fieldAddr 25 (.tmp 82) 0) (some (81, true)),
          co (some 84) (.load 3 (.tmp 83)) (some (81, true)),
          co (some 85) (.binOp .neq 3 (.tmp 84) (.const (.int .i64 10)) 3) (some (81, true)),
          co (some 86) (.pick (.tmp 81) (.tmp 85) (.const (.bool false))) none,
          co (some 87) (.move (.tmp 86)) none,
          co (some 88) (.fieldAddr 30 (.tmp 2) 2) (some (87, true)),
          co (some 89) (.fieldAddr 25 (.tmp 88) 0) (some (87, true)),
          co (some 90) (.load 3 (.tmp 89)) (some (87, true)),
          co (some 91) (.binOp .neq 3 (.tmp 90) (.const (.int .i64 10)) 3) (some (87, true)),
          co (some 92) (.pick (.tmp 87) (.tmp 91) (.const (.bool false))) none,
          co (some 4) (.assign (.tmp 92)) none] [4])
      (.ret))
      (.skip)))
  (.keep [1, 2] (.seq (.reg [co (some 5) (.assign (.const (.int .i64 (-1)))) none] [1, 2, 5])
  (.seq (.seq (.reg [co (some 6) (.assign (.const (.int .i64 0))) none] [1, 2, 5, 6])
    (.block 0
      (.loop l1_centoref20_Right)))
  (.keep [1, 2] (.seq (.reg [co (some 5) (.assign (.const (.int .i64 (-1)))) none] [1, 2, 5])
  (.seq (.seq (.reg [co (some 8) (.assign (.const (.int .i64 0))) none] [1, 2, 5, 8])
    (.block 2
      (.loop l2_centoref20_Right)))
  (.keep [1, 2] (.seq (.seq (.reg [co (some 174) (.fieldAddr 30 (.tmp 2) 0) none,
        co (some 175) (.load 3 (.tmp 174)) none,
        co (some 176) (.binOp .eql 3 (.tmp 175) (.const (.int .i64 3)) 3) none,
        co (some 177) (.move (.tmp 176)) none,
        co (some 178) (.fieldAddr 30 (.tmp 2) 5) (some (177, true)),
        co (some 179) (.load 3 (.tmp 178)) (some (177, true)),
        co (some 180) (.binOp .lss 3 (.tmp 179) (.const (.int .i64 2)) 3) (some (177, true)),
        co (some 181) (.move (.tmp 180)) (some (177, true)),
        co (some 182) (.fieldAddr 30 (.tmp 2) 5) (some (181, false)),
        co (some 183) (.load 3 (.tmp 182)) (some (181, false)),
        co (some 184) (.binOp .gtr 3 (.tmp 183) (.const (.int .i64 9)) 3) (some (181, false)),
        co (some 185) (.pick (.tmp 181) (.const (.bool true)) (.tmp 184)) (some (177, true)),
        co (some 186) (.pick (.tmp 177) (.tmp 185) (.const (.bool false))) none] [1, 2, 186])
    (.cond (.tmp 186)
      (.seq (.reg [co (some 4) (.assign (.const (.bool false))) none] [4])
      (.ret))
      (.skip)))
  (.keep [1, 2] (.seq (.seq (.reg [co (some 10) (.assign (.const (.int .i64 0))) none] [1, 2, 10])
    (.block 4
      (.loop l3_centoref20_Right)))
  (.keep [2] (.seq (.reg [co (some 206) (.load 30 (.tmp 2)) none,
      co (some 207) (.call { callee := (.value (.func 52)), args := #[(.tmp 206)], argTypes := #[30] }) none,
      co (some 205) (.move (.tmp 207)) none,
      co (some 208) (.extract (.tmp 205) 0) none,
      co (some 209) (.extract (.tmp 205) 1) none,
      co (some 11) (.assign (.tmp 208)) none,
      co (some 12) (.assign (.tmp 209)) none] [11, 12])
  (.seq (.reg [co (some 210) (.move (.tmp 11)) none,
      co (some 211) (.binOp .lss 3 (.tmp 210) (.const (.int .i64 1048576)) 3) none,
      co (some 212) (.move (.tmp 211)) none,
      co (some 213) (.move (.tmp 12)) (some (212, true)),
      co (some 214) (.binOp .lss 3 (.tmp 213) (.const (.int .i64 1048576)) 3) (some (212, true)),
      co (some 215) (.pick (.tmp 212) (.tmp 214) (.const (.bool false))) none,
      co (some 4) (.assign (.tmp 215)) none] [4])
  (.ret)))))))))))))))))))
theorem t_centoref20_Right : Txt Tryz.prog 23 216 [(.tmp 4)] c_centoref20_Right := txt_of (code := Tryz.f23.body.getD .ret) mixed (by kernel_rfl) Tryz.func23 (by kernel_rfl) Tryz.ntmps23 (by kernel_rfl) (ls := [([1, 2], [(0, [0])]), ([], []), ([1, 2, 24], []), ([], []), ([4], []), ([], []), ([999999, 1, 2], []), ([1, 2, 69], []), ([], []), ([4], []), ([], []), ([999999, 1, 2], []), ([1, 2, 72], []), ([], []), ([4], []), ([], []), ([999999, 1, 2], []), ([1, 2, 5], []), ([], []), ([1, 2, 5, 6], []), ([], []), ([1, 2, 5, 6, 97], []), ([], []), ([999999, 1, 2, 5, 6], []), ([1, 2, 5, 6, 7], [(5, [1])]), ([], []), ([1, 2, 6, 7, 134], []), ([], []), ([4], []), ([], []), ([999999, 1, 2, 6, 7], []), ([1, 2, 5, 6], []), ([999999, 1, 2, 5, 6], []), ([1, 2, 5, 6], []), ([999999, 1, 2], []), ([1, 2, 5], []), ([], []), ([1, 2, 5, 8], []), ([], []), ([1, 2, 5, 8, 141], []), ([], []), ([999999, 1, 2, 5, 8], []), ([1, 2, 5, 8, 9], [(5, [2])]), ([], []), ([1, 2, 8, 9, 171], []), ([], []), ([4], []), ([], []), ([999999, 1, 2, 8, 9], []), ([1, 2, 5, 8], []), ([999999, 1, 2, 5, 8], []), ([1, 2, 5, 8], []), ([999999, 1, 2], []), ([1, 2, 186], []), ([], []), ([4], []), ([], []), ([999999, 1, 2], []), ([1, 2, 10], []), ([], []), ([1, 2, 10, 191], []), ([], []), ([999999, 1, 2, 10], []), ([1, 2, 10, 204], []), ([], []), ([4], []), ([], []), ([999999, 1, 2, 10], []), ([1, 2, 10], []), ([999999, 2], []), ([11, 12], []), ([], []), ([4], []), ([], [])]) (by kernel_rfl)
def k1_centoref20_Lengths : CC :=
  .seq (.seq (.reg [co (some 42) (.move (.tmp 4)) none,
        co (some 43) (.binOp .gtr 3 (.tmp 42) (.const (.int .i64 1048576)) 3) none] [1, 4, 5, 6, 43])
    (.cond (.tmp 43)
      (.reg [co (some 4) (.assign (.const (.int .i64 1048576))) none] [1, 4, 5, 6])
      (.skip)))
  (.keep [1, 4, 5, 6] (.seq (.reg [co (some 44) (.move (.tmp 5)) none,
      co (some 45) (.binOp .gtr 3 (.tmp 44) (.const (.int .i64 1048576)) 3) none] [1, 4, 5, 6, 45])
  (.cond (.tmp 45)
    (.reg [co (some 5) (.assign (.const (.int .i64 1048576))) none] [1, 4, 5, 6])
    (.skip))))
def k2_centoref20_Lengths : CC :=
  .seq (.seq (.reg [co (some 36) (.fieldAddr 69 (.tmp 7) 0) none,
        co (some 37) (.load 3 (.tmp 36)) none,
        co (some 38) (.binOp .neq 3 (.tmp 37) (.const (.int .i64 1)) 3) none] [1, 4, 5, 6, 8, 38])
    (.cond (.tmp 38)
      (.reg [co (some 39) (.move (.tmp 5)) none,
        co (some 40) (.move (.tmp 8)) none,
        co (some 41) (.binOp .add 3 (.tmp 39) (.tmp 40) 3) none,
        co (some 5) (.assign (.tmp 41)) none] [1, 4, 5, 6])
      (.skip)))
  (.keep [1, 4, 5, 6] k1_centoref20_Lengths)
def k3_centoref20_Lengths : CC :=
  .seq (.seq (.reg [co (some 30) (.fieldAddr 69 (.tmp 7) 0) none,
        co (some 31) (.load 3 (.tmp 30)) none,
        co (some 32) (.binOp .neq 3 (.tmp 31) (.const (.int .i64 2)) 3) none] [1, 4, 5, 6, 7, 8, 32])
    (.cond (.tmp 32)
      (.reg [co (some 33) (.move (.tmp 4)) none,
        co (some 34) (.move (.tmp 8)) none,
        co (some 35) (.binOp .add 3 (.tmp 33) (.tmp 34) 3) none,
        co (some 4) (.assign (.tmp 35)) none] [1, 4, 5, 6, 7, 8])
      (.skip)))
  (.keep [1, 4, 5, 6, 7, 8] k2_centoref20_Lengths)
def l1_centoref20_Lengths : CC :=
  .seq (.seq (.reg [co (some 9) (.move (.tmp 6)) none,
        co (some 10) (.fieldAddr 30 (.tmp 1) 6) none,
        co (some 11) (.load 28 (.tmp 10)) none,
        co (some 12) (.call { callee := (.builtin .len), args := #[(.tmp 11)], argTypes := #[28] }) none,
        co (some 13) (.binOp .lss 3 (.tmp 9) (.tmp 12) 3) none] [1, 4, 5, 6, 13])
    (.cond (.tmp 13)
      (.skip)
      (.exit 0)))
  (.keep [1, 4, 5, 6] (.seq (.block 1
      (.seq (.reg [co (some 16) (.fieldAddr 30 (.tmp 1) 6) none,
          co (some 17) (.load 28 (.tmp 16)) none,
          co (some 18) (.move (.tmp 6)) none,
          co (some 19) (.indexAddr 28 (.tmp 17) (.tmp 18)) none,
          co (some 20) (.load 69 (.tmp 19)) none,
          cn (some 7) (.alloc 69) none [1],
          co none (.store 69 (.tmp 7) (.tmp 20)) none] [1, 4, 5, 6, 7])
      (.seq (.reg [co (some 21) (.fieldAddr 69 (.tmp 7) 1) none,
          co (some 22) (.load 3 (.tmp 21)) none,
          co (some 23) (.fieldAddr 69 (.tmp 7) 2) none,
          co (some 24) (.load 23 (.tmp 23)) none,
          co (some 25) (.call { callee := (.builtin .len), args := #[(.tmp 24)], argTypes := #[23] }) none,
          co (some 26) (.binOp .add 3 (.tmp 22) (.tmp 25) 3) none,
          co (some 8) (.assign (.tmp 26)) none] [1, 4, 5, 6, 7, 8])
      (.seq (.seq (.reg [co (some 27) (.fieldAddr 69 (.tmp 7) 0) none,
            co (some 28) (.load 3 (.tmp 27)) none,
            co (some 29) (.binOp .eql 3 (.tmp 28) (.const (.int .i64 3)) 3) none] [1, 4, 5, 6, 7, 8, 29])
        (.cond (.tmp 29)
          (.reg [co (some 8) (.assign (.const (.int .i64 1))) none] [1, 4, 5, 6, 7, 8])
          (.skip)))
      (.keep [1, 4, 5, 6, 7, 8] k3_centoref20_Lengths)))))
  (.keep [1, 4, 5, 6] (.reg [co (some 14) (.move (.tmp 6)) none,
    co (some 15) (.binOp .add 3 (.tmp 14) (.const (.int .i64 1)) 3) none,
    co (some 6) (.assign (.tmp 15)) none] [1, 4, 5, 6]))))
/-- cento/centoref20.Lengths -/
def c_centoref20_Lengths : CC :=
  .seq (.reg [cn (some 1) (.box 30 (.tmp 0)) none [0],
      co (some 2) (.assign (.const (.int .i64 0))) none,
      co (some 3) (.assign (.const (.int .i64 0))) none] [1])
  (.seq (.reg [co (some 4) (.assign (.const (.int .i64 0))) none,
      co (some 5) (.assign (.const (.int .i64 0))) none] [1, 4, 5])
  (.seq (.seq (.reg [co (some 6) (.assign (.const (.int .i64 0))) none] [1, 4, 5, 6])
    (.block 0
      (.loop l1_centoref20_Lengths)))
  (.keep [4, 5] (.seq (.reg [co (some 46) (.move (.tmp 4)) none,
      co (some 47) (.move (.tmp 5)) none,
      co (some 2) (.assign (.tmp 46)) none,
      co (some 3) (.assign (.tmp 47)) none] [2, 3])
  (.ret)))))
theorem t_centoref20_Lengths : Txt Tryz.prog 52 48 [(.tmp 2), (.tmp 3)] c_centoref20_Lengths := txt_of (code := Tryz.f52.body.getD .ret) mixed (by kernel_rfl) Tryz.func52 (by kernel_rfl) Tryz.ntmps52 (by kernel_rfl) (ls := [([1], [(0, [0])]), ([], []), ([1, 4, 5], []), ([], []), ([1, 4, 5, 6], []), ([], []), ([1, 4, 5, 6, 13], []), ([], []), ([999999, 1, 4, 5, 6], []), ([1, 4, 5, 6, 7], [(5, [1])]), ([], []), ([1, 4, 5, 6, 7, 8], []), ([], []), ([1, 4, 5, 6, 7, 8, 29], []), ([], []), ([1, 4, 5, 6, 7, 8], []), ([999999, 1, 4, 5, 6, 7, 8], []), ([1, 4, 5, 6, 7, 8, 32], []), ([], []), ([1, 4, 5, 6, 7, 8], []), ([999999, 1, 4, 5, 6, 7, 8], []), ([1, 4, 5, 6, 8, 38], []), ([], []), ([1, 4, 5, 6], []), ([999999, 1, 4, 5, 6], []), ([1, 4, 5, 6, 43], []), ([], []), ([1, 4, 5, 6], []), ([999999, 1, 4, 5, 6], []), ([1, 4, 5, 6, 45], []), ([], []), ([1, 4, 5, 6], []), ([999999, 1, 4, 5, 6], []), ([1, 4, 5, 6], []), ([999999, 4, 5], []), ([2, 3], []), ([], [])]) (by kernel_rfl)
def l1_centoref20_left : CC :=
  .seq (.seq (.reg [co (some 36) (.move (.tmp 7)) none,
        co (some 37) (.fieldAddr 30 (.tmp 3) 4) none,
        co (some 38) (.load 27 (.tmp 37)) none,
        co (some 39) (.call { callee := (.builtin .len), args := #[(.tmp 38)], argTypes := #[27] }) none,
        co (some 40) (.binOp .lss 3 (.tmp 36) (.tmp 39) 3) none,
        co (some 41) (.move (.tmp 40)) none,
        co (some 42) (.move (.tmp 2)) (some (41, true)),
        co (some 43) (.binOp .geq 3 (.tmp 42) (.const (.int .i64 0)) 3) (some (41, true)),
        co (some 44) (.pick (.tmp 41) (.tmp 43) (.const (.bool false))) none] [1, 2, 3, 7, 44])
    (.cond (.tmp 44)
      (.skip)
      (.exit 0)))
  (.keep [1, 2, 3, 7] (.seq (.block 1
      (.reg [co (some 47) (.fieldAddr 30 (.tmp 3) 4) none,
        co (some 48) (.load 27 (.tmp 47)) none,
        co (some 49) (.move (.tmp 7)) none,
        co (some 50) (.indexAddr 27 (.tmp 48) (.tmp 49)) none,
        co (some 51) (.fieldAddr 66 (.tmp 50) 1) none,
        co (some 52) (.load 30 (.tmp 51)) none,
        co (some 53) (.move (.tmp 1)) none,
        co (some 54) (.binOp .sub 3 (.tmp 53) (.const (.int .i64 1)) 3) none,
        co (some 55) (.move (.tmp 2)) none,
        co (some 56) (.call { callee := (.value (.func 48)), args := #[(.tmp 52), (.tmp 54), (.tmp 55)], argTypes := #[30, 3, 3] }) none,
        co (some 2) (.assign (.tmp 56)) none] [1, 2, 3, 7]))
  (.reg [co (some 45) (.move (.tmp 7)) none,
    co (some 46) (.binOp .add 3 (.tmp 45) (.const (.int .i64 1)) 3) none,
    co (some 7) (.assign (.tmp 46)) none] [1, 2, 3, 7])))
def l2_centoref20_left : CC :=
  .seq (.seq (.reg [co (some 68) (.move (.tmp 9)) none,
        co (some 69) (.fieldAddr 30 (.tmp 3) 6) none,
        co (some 70) (.load 28 (.tmp 69)) none,
        co (some 71) (.move (.tmp 8)) none,
        co (some 72) (.indexAddr 28 (.tmp 70) (.tmp 71)) none,
        co (some 73) (.fieldAddr 69 (.tmp 72) 2) none,
        co (some 74) (.load 23 (.tmp 73)) none,
        co (some 75) (.call { callee := (.builtin .len), args := #[(.tmp 74)], argTypes := #[23] }) none,
        co (some 76) (.binOp .lss 3 (.tmp 68) (.tmp 75) 3) none,
        co (some 77) (.move (.tmp 76)) none,
        co (some 78) (.move (.tmp 2)) (some (77, true)),
        co (some 79) (.binOp .geq 3 (.tmp 78) (.const (.int .i64 0)) 3) (some (77, true)),
        co (some 80) (.pick (.tmp 77) (.tmp 79) (.const (.bool false))) none] [1, 2, 3, 8, 9, 80])
    (.cond (.tmp 80)
      (.skip)
      (.exit 4)))
  (.keep [1, 2, 3, 8, 9] (.seq (.block 5
      (.reg [co (some 83) (.fieldAddr 30 (.tmp 3) 6) none,
        co (some 84) (.load 28 (.tmp 83)) none,
        co (some 85) (.move (.tmp 8)) none,
        co (some 86) (.indexAddr 28 (.tmp 84) (.tmp 85)) none,
        co (some 87) (.fieldAddr 69 (.tmp 86) 2) none,
        co (some 88) (.load 23 (.tmp 87)) none,
        co (some 89) (.move (.tmp 9)) none,
        co (some 90) (.indexAddr 23 (.tmp 88) (.tmp 89)) none,
        co (some 91) (.load 25 (.tmp 90)) none,
        co (some 92) (.move (.tmp 2)) none,
        co (some 93) (.call { callee := (.value (.func 45)), args := #[(.tmp 91), (.const (.int .i64 80)), (.tmp 92)], argTypes := #[25, 3, 3] }) none,
        co (some 2) (.assign (.tmp 93)) none] [1, 2, 3, 8, 9]))
  (.reg [co (some 81) (.move (.tmp 9)) none,
    co (some 82) (.binOp .add 3 (.tmp 81) (.const (.int .i64 1)) 3) none,
    co (some 9) (.assign (.tmp 82)) none] [1, 2, 3, 8, 9])))
def l3_centoref20_left : CC :=
  .seq (.seq (.reg [co (some 57) (.move (.tmp 8)) none,
        co (some 58) (.fieldAddr 30 (.tmp 3) 6) none,
        co (some 59) (.load 28 (.tmp 58)) none,
        co (some 60) (.call { callee := (.builtin .len), args := #[(.tmp 59)], argTypes := #[28] }) none,
        co (some 61) (.binOp .lss 3 (.tmp 57) (.tmp 60) 3) none,
        co (some 62) (.move (.tmp 61)) none,
        co (some 63) (.move (.tmp 2)) (some (62, true)),
        co (some 64) (.binOp .geq 3 (.tmp 63) (.const (.int .i64 0)) 3) (some (62, true)),
        co (some 65) (.pick (.tmp 62) (.tmp 64) (.const (.bool false))) none] [1, 2, 3, 8, 65])
    (.cond (.tmp 65)
      (.skip)
      (.exit 2)))
  (.keep [1, 2, 3, 8] (.seq (.block 3
      (.seq (.seq (.reg [co (some 9) (.assign (.const (.int .i64 0))) none] [1, 2, 3, 8, 9])
        (.block 4
          (.loop l2_centoref20_left)))
      (.keep [1, 2, 3, 8] (.seq (.reg [co (some 94) (.move (.tmp 2)) none,
          co (some 95) (.binOp .geq 3 (.tmp 94) (.const (.int .i64 0)) 3) none] [1, 2, 3, 8, 95])
      (.cond (.tmp 95)
        (.reg [co (some 96) (.fieldAddr 30 (.tmp 3) 6) none,
          co (some 97) (.load 28 (.tmp 96)) none,
          co (some 98) (.move (.tmp 8)) none,
          co (some 99) (.indexAddr 28 (.tmp 97) (.tmp 98)) none,
          co (some 100) (.fieldAddr 69 (.tmp 99) 3) none,
          co (some 101) (.load 30 (.tmp 100)) none,
          co (some 102) (.move (.tmp 1)) none,
          co (some 103) (.binOp .sub 3 (.tmp 102) (.const (.int .i64 1)) 3) none,
          co (some 104) (.move (.tmp 2)) none,
          co (some 105) (.call { callee := (.value (.func 48)), args := #[(.tmp 101), (.tmp 103), (.tmp 104)], argTypes := #[30, 3, 3] }) none,
          co (some 2) (.assign (.tmp 105)) none] [1, 2, 3, 8])
        (.skip))))))
  (.keep [1, 2, 3, 8] (.reg [co (some 66) (.move (.tmp 8)) none,
    co (some 67) (.binOp .add 3 (.tmp 66) (.const (.int .i64 1)) 3) none,
    co (some 8) (.assign (.tmp 67)) none] [1, 2, 3, 8]))))
def k1_centoref20_left : CC :=
  .seq (.seq (.reg [co (some 7) (.assign (.const (.int .i64 0))) none] [1, 2, 3, 7])
    (.block 0
      (.loop l1_centoref20_left)))
  (.keep [1, 2, 3] (.seq (.seq (.reg [co (some 8) (.assign (.const (.int .i64 0))) none] [1, 2, 3, 8])
    (.block 2
      (.loop l3_centoref20_left)))
  (.keep [2] (.seq (.reg [co (some 106) (.move (.tmp 2)) none,
      co (some 6) (.assign (.tmp 106)) none] [6])
  (.ret)))))
/-- cento/centoref20.left -/
def c_centoref20_left : CC :=
  .seq (.reg [cn (some 3) (.box 30 (.tmp 0)) none [0],
      co (some 6) (.assign (.const (.int .i64 0))) none] [1, 2, 3])
  (.seq (.reg [co (some 10) (.move (.tmp 2)) none,
      co (some 11) (.binOp .sub 3 (.tmp 10) (.const (.int .i64 1)) 3) none,
      co (some 12) (.fieldAddr 30 (.tmp 3) 3) none,
      co (some 13) (.load 26 (.tmp 12)) none,
      co (some 14) (.call { callee := (.builtin .len), args := #[(.tmp 13)], argTypes := #[26] }) none,
      co (some 15) (.binOp .sub 3 (.tmp 11) (.tmp 14) 3) none,
      co (some 16) (.fieldAddr 30 (.tmp 3) 6) none,
      co (some 17) (.load 28 (.tmp 16)) none,
      co (some 18) (.call { callee := (.builtin .len), args := #[(.tmp 17)], argTypes := #[28] }) none,
      co (some 19) (.binOp .sub 3 (.tmp 15) (.tmp 18) 3) none,
      co (some 2) (.assign (.tmp 19)) none] [1, 2, 3])
  (.seq (.seq (.reg [co (some 20) (.move (.tmp 1)) none,
        co (some 21) (.binOp .eql 3 (.tmp 20) (.const (.int .i64 0)) 3) none,
        co (some 22) (.move (.tmp 21)) none,
        co (some 23) (.move (.tmp 2)) (some (22, false)),
        co (some 24) (.binOp .lss 3 (.tmp 23) (.const (.int .i64 0)) 3) (some (22, false)),
        co (some 25) (.pick (.tmp 22) (.const (.bool true)) (.tmp 24)) none] [1, 2, 3, 25])
    (.cond (.tmp 25)
      (.seq (.reg [co (some 6) (.assign (.const (.int .i64 (-1)))) none] [6])
      (.ret))
      (.skip)))
  (.keep [1, 2, 3] (.seq (.reg [co (some 26) (.fieldAddr 30 (.tmp 3) 1) none,
      co (some 27) (.load 25 (.tmp 26)) none,
      co (some 28) (.move (.tmp 2)) none,
      co (some 29) (.call { callee := (.value (.func 45)), args := #[(.tmp 27), (.const (.int .i64 80)), (.tmp 28)], argTypes := #[25, 3, 3] }) none,
      co (some 2) (.assign (.tmp 29)) none] [1, 2, 3])
  (.seq (.seq (.reg [co (some 30) (.move (.tmp 2)) none,
        co (some 31) (.binOp .geq 3 (.tmp 30) (.const (.int .i64 0)) 3) none] [1, 2, 3, 31])
    (.cond (.tmp 31)
      (.reg [co (some 32) (.fieldAddr 30 (.tmp 3) 2) none,
        co (some 33) (.load 25 (.tmp 32)) none,
        co (some 34) (.move (.tmp 2)) none,
        co (some 35) (.call { callee := (.value (.func 45)), args := #[(.tmp 33), (.const (.int .i64 80)), (.tmp 34)], argTypes := #[25, 3, 3] }) none,
        co (some 2) (.assign (.tmp 35)) none] [1, 2, 3])
      (.skip)))
  (.keep [1, 2, 3] k1_centoref20_left))))))
theorem t_centoref20_left : Txt Tryz.prog 48 107 [(.tmp 6)] c_centoref20_left := txt_of (code := Tryz.f48.body.getD .ret) mixed (by kernel_rfl) Tryz.func48 (by kernel_rfl) Tryz.ntmps48 (by kernel_rfl) (ls := [([1, 2, 3], [(0, [0])]), ([], []), ([1, 2, 3], []), ([], []), ([1, 2, 3, 25], []), ([], []), ([6], []), ([], []), ([999999, 1, 2, 3], []), ([1, 2, 3], []), ([], []), ([1, 2, 3, 31], []), ([], []), ([1, 2, 3], []), ([999999, 1, 2, 3], []), ([1, 2, 3, 7], []), ([], []), ([1, 2, 3, 7, 44], []), ([], []), ([999999, 1, 2, 3, 7], []), ([1, 2, 3, 7], []), ([], []), ([1, 2, 3, 7], []), ([999999, 1, 2, 3], []), ([1, 2, 3, 8], []), ([], []), ([1, 2, 3, 8, 65], []), ([], []), ([999999, 1, 2, 3, 8], []), ([1, 2, 3, 8, 9], []), ([], []), ([1, 2, 3, 8, 9, 80], []), ([], []), ([999999, 1, 2, 3, 8, 9], []), ([1, 2, 3, 8, 9], []), ([], []), ([1, 2, 3, 8, 9], []), ([999999, 1, 2, 3, 8], []), ([1, 2, 3, 8, 95], []), ([], []), ([1, 2, 3, 8], []), ([999999, 1, 2, 3, 8], []), ([1, 2, 3, 8], []), ([999999, 2], []), ([6], []), ([], [])]) (by kernel_rfl)
/-- cento/centoref20.Few -/
def c_centoref20_Few : CC :=
  .seq (.reg [cn (some 1) (.box 30 (.tmp 0)) none [0],
      co (some 2) (.assign (.const (.bool false))) none] [1])
  (.seq (.reg [co (some 3) (.load 30 (.tmp 1)) none,
      co (some 4) (.call { callee := (.value (.func 48)), args := #[(.tmp 3), (.const (.int .i64 80)), (.const (.int .i64 3000))], argTypes := #[30, 3, 3] }) none,
      co (some 5) (.binOp .geq 3 (.tmp 4) (.const (.int .i64 0)) 3) none,
      co (some 2) (.assign (.tmp 5)) none] [2])
  (.ret))
theorem t_centoref20_Few : Txt Tryz.prog 22 6 [(.tmp 2)] c_centoref20_Few := txt_of (code := Tryz.f22.body.getD .ret) mixed (by kernel_rfl) Tryz.func22 (by kernel_rfl) Tryz.ntmps22 (by kernel_rfl) (ls := [([1], [(0, [0])]), ([], []), ([2], []), ([], [])]) (by kernel_rfl)
def l1_centoref20_Light : CC :=
  .seq (.seq (.reg [co (some 18) (.move (.tmp 5)) none,
        co (some 19) (.fieldAddr 30 (.tmp 1) 4) none,
        co (some 20) (.load 27 (.tmp 19)) none,
        co (some 21) (.call { callee := (.builtin .len), args := #[(.tmp 20)], argTypes := #[27] }) none,
        co (some 22) (.binOp .lss 3 (.tmp 18) (.tmp 21) 3) none] [1, 5, 22])
    (.cond (.tmp 22)
      (.skip)
      (.exit 0)))
  (.keep [1, 5] (.seq (.block 1
      (.seq (.reg [co (some 25) (.fieldAddr 30 (.tmp 1) 4) none,
          co (some 26) (.load 27 (.tmp 25)) none,
          co (some 27) (.move (.tmp 5)) none,
          co (some 28) (.indexAddr 27 (.tmp 26) (.tmp 27)) none,
          co (some 29) (.fieldAddr 66 (.tmp 28) 1) none,
          co (some 30) (.load 30 (.tmp 29)) none,
          co (some 31) (.call { callee := (.value (.func 24)), args := #[(.tmp 30)], argTypes := #[30] }) none,
          co (some 32) (.unOp .not 4 (.tmp 31)) none] [1, 5, 32])
      (.cond (.tmp 32)
        (.seq (.reg [co (some 2) (.assign (.const (.bool false))) none] [2])
        (.ret))
        (.skip))))
  (.keep [1, 5] (.reg [co (some 23) (.move (.tmp 5)) none,
    co (some 24) (.binOp .add 3 (.tmp 23) (.const (.int .i64 1)) 3) none,
    co (some 5) (.assign (.tmp 24)) none] [1, 5]))))
def l2_centoref20_Light : CC :=
  .seq (.seq (.reg [co (some 33) (.move (.tmp 6)) none,
        co (some 34) (.fieldAddr 30 (.tmp 1) 6) none,
        co (some 35) (.load 28 (.tmp 34)) none,
        co (some 36) (.call { callee := (.builtin .len), args := #[(.tmp 35)], argTypes := #[28] }) none,
        co (some 37) (.binOp .lss 3 (.tmp 33) (.tmp 36) 3) none] [1, 6, 37])
    (.cond (.tmp 37)
      (.skip)
      (.exit 2)))
  (.keep [1, 6] (.seq (.block 3
      (.seq (.reg [co (some 40) (.fieldAddr 30 (.tmp 1) 6) none,
          co (some 41) (.load 28 (.tmp 40)) none,
          co (some 42) (.move (.tmp 6)) none,
          co (some 43) (.indexAddr 28 (.tmp 41) (.tmp 42)) none,
          co (some 44) (.fieldAddr 69 (.tmp 43) 3) none,
          co (some 45) (.load 30 (.tmp 44)) none,
          co (some 46) (.call { callee := (.value (.func 24)), args := #[(.tmp 45)], argTypes := #[30] }) none,
          co (some 47) (.unOp .not 4 (.tmp 46)) none] [1, 6, 47])
      (.cond (.tmp 47)
        (.seq (.reg [co (some 2) (.assign (.const (.bool false))) none] [2])
        (.ret))
        (.skip))))
  (.keep [1, 6] (.reg [co (some 38) (.move (.tmp 6)) none,
    co (some 39) (.binOp .add 3 (.tmp 38) (.const (.int .i64 1)) 3) none,
    co (some 6) (.assign (.tmp 39)) none] [1, 6]))))
/-- cento/centoref20.Light -/
def c_centoref20_Light : CC :=
  .seq (.reg [cn (some 1) (.box 30 (.tmp 0)) none [0],
      co (some 2) (.assign (.const (.bool false))) none] [1])
  (.seq (.reg [co (some 8) (.load 30 (.tmp 1)) none,
      co (some 9) (.call { callee := (.value (.func 52)), args := #[(.tmp 8)], argTypes := #[30] }) none,
      co (some 7) (.move (.tmp 9)) none,
      co (some 10) (.extract (.tmp 7) 0) none,
      co (some 11) (.extract (.tmp 7) 1) none,
      co (some 3) (.assign (.tmp 10)) none,
      co (some 4) (.assign (.tmp 11)) none] [1, 3, 4])
  (.seq (.seq (.reg [co (some 12) (.move (.tmp 3)) none,
        co (some 13) (.binOp .gtr 3 (.tmp 12) (.const (.int .i64 2000)) 3) none,
        co (some 14) (.move (.tmp 13)) none,
        co (some 15) (.move (.tmp 4)) (some (14, false)),
        co (some 16) (.binOp .gtr 3 (.tmp 15) (.const (.int .i64 2000)) 3) (some (14, false)),
        co (some 17) (.pick (.tmp 14) (.const (.bool true)) (.tmp 16)) none] [1, 17])
    (.cond (.tmp 17)
      (.seq (.reg [co (some 2) (.assign (.const (.bool false))) none] [2])
      (.ret))
      (.skip)))
  (.keep [1] (.seq (.seq (.reg [co (some 5) (.assign (.const (.int .i64 0))) none] [1, 5])
    (.block 0
      (.loop l1_centoref20_Light)))
  (.keep [1] (.seq (.seq (.reg [co (some 6) (.assign (.const (.int .i64 0))) none] [1, 6])
    (.block 2
      (.loop l2_centoref20_Light)))
  (.keep [] (.seq (.reg [co (some 2) (.assign (.const (.bool true))) none] [2])
  (.ret)))))))))
theorem t_centoref20_Light : Txt Tryz.prog 24 48 [(.tmp 2)] c_centoref20_Light := txt_of (code := Tryz.f24.body.getD .ret) mixed (by kernel_rfl) Tryz.func24 (by kernel_rfl) Tryz.ntmps24 (by kernel_rfl) (ls := [([1], [(0, [0])]), ([], []), ([1, 3, 4], []), ([], []), ([1, 17], []), ([], []), ([2], []), ([], []), ([999999, 1], []), ([1, 5], []), ([], []), ([1, 5, 22], []), ([], []), ([999999, 1, 5], []), ([1, 5, 32], []), ([], []), ([2], []), ([], []), ([999999, 1, 5], []), ([1, 5], []), ([999999, 1], []), ([1, 6], []), ([], []), ([1, 6, 37], []), ([], []), ([999999, 1, 6], []), ([1, 6, 47], []), ([], []), ([2], []), ([], []), ([999999, 1, 6], []), ([1, 6], []), ([999999], []), ([2], []), ([], [])]) (by kernel_rfl)
/-- cento/centoref20.Good -/
def c_centoref20_Good : CC :=
  .seq (.reg [cn (some 1) (.box 30 (.tmp 0)) none [0],
      co (some 2) (.assign (.const (.bool false))) none] [1])
  (.seq (.reg [co (some 3) (.load 30 (.tmp 1)) none,
      co (some 4) (.call { callee := (.value (.func 22)), args := #[(.tmp 3)], argTypes := #[30] }) none,
      co (some 5) (.move (.tmp 4)) none,
      co (some 6) (.load 30 (.tmp 1)) (some (5, true)),
      co (some 7) (.call { callee := (.value (.func 23)), args := #[(.tmp 6), (.const (.int .i64 64))], argTypes := #[30, 3] }) (some (5, true)),
      co (some 8) (.pick (.tmp 5) (.tmp 7) (.const (.bool false))) none,
      co (some 9) (.move (.tmp 8)) none,
      co (some 10) (.load 30 (.tmp 1)) (some (9, true)),
      co (some 11) (.call { callee := (.value (.func 24)), args := #[(.tmp 10)], argTypes := #[30] }) (some (9, true)),
      co (some 12) (.pick (.tmp 9) (.tmp 11) (.const (.bool false))) none,
      co (some 2) (.assign (.tmp 12)) none] [2])
  (.ret))
theorem t_centoref20_Good : Txt Tryz.prog 8 13 [(.tmp 2)] c_centoref20_Good := txt_of (code := Tryz.f8.body.getD .ret) mixed (by kernel_rfl) Tryz.func8 (by kernel_rfl) Tryz.ntmps8 (by kernel_rfl) (ls := [([1], [(0, [0])]), ([], []), ([2], []), ([], [])]) (by kernel_rfl)
def l1_cost_pointers : CC :=
  .seq (.seq (.reg [co (some 6) (.move (.tmp 3)) none,
        co (some 7) (.binOp .gtr 3 (.tmp 6) (.const (.int .i64 0)) 3) none] [0, 3, 7])
    (.cond (.tmp 7)
      (.skip)
      (.exit 0)))
  (.keep [0, 3] (.seq (.block 1
      (.seq (.reg [co (some 10) (.move (.tmp 0)) none,
          co (some 11) (.move (.tmp 3)) none,
          co (some 12) (.binOp .sub 3 (.tmp 11) (.const (.int .i64 1)) 3) none,
          co (some 13) (.indexAddr 23 (.tmp 10) (.tmp 12)) none,
          co (some 14) (.fieldAddr 25 (.tmp 13) 0) none,
          co (some 15) (.load 3 (.tmp 14)) none,
          co (some 16) (.binOp .neq 3 (.tmp 15) (.const (.int .i64 0)) 3) none] [0, 3, 16])
      (.cond (.tmp 16)
        (.seq (.reg [co (some 17) (.move (.tmp 3)) none,
            co (some 2) (.assign (.tmp 17)) none] [2])
        (.ret))
        (.skip))))
  (.keep [0, 3] (.reg [co (some 8) (.move (.tmp 3)) none,
    co (some 9) (.binOp .sub 3 (.tmp 8) (.const (.int .i64 1)) 3) none,
    co (some 3) (.assign (.tmp 9)) none] [0, 3]))))
/-- cento/cost.pointers -/
def c_cost_pointers : CC :=
  .seq (.reg [co (some 2) (.assign (.const (.int .i64 0))) none] [0])
  (.seq (.seq (.reg [co (some 4) (.move (.tmp 0)) none,
        co (some 5) (.call { callee := (.builtin .len), args := #[(.tmp 4)], argTypes := #[23] }) none,
        co (some 3) (.assign (.tmp 5)) none] [0, 3])
    (.block 0
      (.loop l1_cost_pointers)))
  (.keep [] (.seq (.reg [co (some 2) (.assign (.const (.int .i64 0))) none] [2])
  (.ret))))
theorem t_cost_pointers : Txt Tryz.prog 107 18 [(.tmp 2)] c_cost_pointers := txt_of (code := Tryz.f107.body.getD .ret) mixed (by kernel_rfl) Tryz.func107 (by kernel_rfl) Tryz.ntmps107 (by kernel_rfl) (ls := [([0], []), ([], []), ([0, 3], []), ([], []), ([0, 3, 7], []), ([], []), ([999999, 0, 3], []), ([0, 3, 16], []), ([], []), ([2], []), ([], []), ([999999, 0, 3], []), ([0, 3], []), ([999999], []), ([2], []), ([], [])]) (by kernel_rfl)
def l1_cost_kids : CC :=
  .seq (.reg [co (some 9) (.binOp .lss 3 (.tmp 8) (.tmp 7) 3) none] [0, 3, 6, 7, 8, 9])
  (.seq (.cond (.tmp 9)
      (.skip)
      (.exit 0))
  (.keep [0, 3, 6, 7, 8] (.seq (.block 1
      (.seq (.reg [co (some 10) (.move (.tmp 8)) none,
          co (some 11) (.indexAddr 23 (.tmp 6) (.tmp 8)) none,
          co (some 12) (.load 25 (.tmp 11)) none,
          cn (some 5) (.alloc 25) none [0],
          co (some 4) (.assign (.tmp 10)) none,
          co none (.store 25 (.tmp 5) (.tmp 12)) none] [0, 3, 4, 5, 6, 7, 8])
      (.seq (.reg [co (some 13) (.move (.tmp 3)) none,
          co (some 14) (.load 25 (.tmp 5)) none,
          co (some 15) (.call { callee := (.value (.func 60)), args := #[(.tmp 14)], argTypes := #[25] }) none,
          co (some 16) (.binOp .add 3 (.tmp 13) (.tmp 15) 3) none,
          co (some 3) (.assign (.tmp 16)) none] [0, 3, 4, 5, 6, 7, 8])
      (.seq (.reg [co (some 17) (.fieldAddr 25 (.tmp 5) 0) none,
          co (some 18) (.load 3 (.tmp 17)) none,
          co (some 19) (.binOp .neq 3 (.tmp 18) (.const (.int .i64 0)) 3) none] [0, 3, 4, 6, 7, 8, 19])
      (.cond (.tmp 19)
        (.reg [co (some 20) (.move (.tmp 3)) none,
          co (some 21) (.move (.tmp 4)) none,
          co (some 22) (.binOp .add 3 (.tmp 21) (.const (.int .i64 1)) 3) none,
          co (some 23) (.move (.tmp 0)) none,
          co (some 24) (.move (.tmp 4)) none,
          co (some 25) (.slice 23 (.tmp 23) none (some (.tmp 24)) none) none,
          co (some 26) (.call { callee := (.value (.func 107)), args := #[(.tmp 25)], argTypes := #[23] }) none,
          co (some 27) (.binOp .sub 3 (.tmp 22) (.tmp 26) 3) none,
          co (some 28) (.binOp .add 3 (.tmp 20) (.tmp 27) 3) none,
          co (some 3) (.assign (.tmp 28)) none] [0, 3, 6, 7, 8])
        (.skip))))))
  (.keep [0, 3, 6, 7, 8] (.reg [co (some 29) (.binOp .add 3 (.tmp 8) (.const (.int .i64 1)) 3) none,
    co (some 8) (.move (.tmp 29)) none] [0, 3, 6, 7, 8])))))
/-- cento/cost.kids -/
def c_cost_kids : CC :=
  .seq (.reg [co (some 2) (.assign (.const (.int .i64 0))) none] [0])
  (.seq (.reg [co (some 3) (.assign (.const (.int .i64 0))) none] [0, 3])
  (.seq (.seq (.reg [co (some 6) (.move (.tmp 0)) none,
        co (some 7) (.call { callee := (.builtin .len), args := #[(.tmp 6)], argTypes := #[23] }) none,
        co (some 8) (.move (.const (.int .i64 0))) none] [0, 3, 6, 7, 8])
    (.block 0
      (.loop l1_cost_kids)))
  (.keep [3] (.seq (.reg [co (some 30) (.move (.tmp 3)) none,
      co (some 2) (.assign (.tmp 30)) none] [2])
  (.ret)))))
theorem t_cost_kids : Txt Tryz.prog 67 31 [(.tmp 2)] c_cost_kids := txt_of (code := Tryz.f67.body.getD .ret) mixed (by kernel_rfl) Tryz.func67 (by kernel_rfl) Tryz.ntmps67 (by kernel_rfl) (ls := [([0], []), ([], []), ([0, 3], []), ([], []), ([0, 3, 6, 7, 8], []), ([], []), ([0, 3, 6, 7, 8, 9], []), ([], []), ([999999, 0, 3, 6, 7, 8], []), ([0, 3, 4, 5, 6, 7, 8], [(3, [0])]), ([], []), ([0, 3, 4, 5, 6, 7, 8], []), ([], []), ([0, 3, 4, 6, 7, 8, 19], []), ([], []), ([0, 3, 6, 7, 8], []), ([999999, 0, 3, 6, 7, 8], []), ([0, 3, 6, 7, 8], []), ([999999, 3], []), ([2], []), ([], [])]) (by kernel_rfl)
/-- cento/cost.node -/
def c_cost_node : CC :=
  .seq (.reg [cn (some 1) (.box 30 (.tmp 0)) none [0],
      co (some 2) (.assign (.const (.int .i64 0))) none] [1])
  (.seq (.seq (.reg [co (some 3) (.fieldAddr 30 (.tmp 1) 0) none,
        co (some 4) (.load 3 (.tmp 3)) none] [1, 4])
    (.block 0
      (.seq (.reg [co (some 6) (.binOp .eql 3 (.tmp 4) (.const (.int .i64 1)) 3) none,
          co (some 5) (.assign (.tmp 6)) none] [1, 4, 5])
      (.cond (.tmp 5)
        (.seq (.reg [co (some 7) (.fieldAddr 30 (.tmp 1) 1) none,
            co (some 8) (.load 25 (.tmp 7)) none,
            co (some 9) (.fieldAddr 30 (.tmp 1) 2) none,
            co (some 10) (.load 25 (.tmp 9)) none,
            co (some 11) (.buildSlice 23 2 #[(0, (.tmp 8)), (1, (.tmp 10))]) none,
            co (some 12) (.call { callee := (.value (.func 67)), args := #[(.tmp 11)], argTypes := #[23] }) none,
            co (some 13) (.binOp .add 3 (.const (.int .i64 1)) (.tmp 12) 3) none,
            co (some 2) (.assign (.tmp 13)) none] [2])
        (.ret))
        (.seq (.reg [co (some 15) (.binOp .eql 3 (.tmp 4) (.const (.int .i64 2)) 3) none,
            co (some 14) (.assign (.tmp 15)) none] [1, 4, 14])
        (.cond (.tmp 14)
          (.seq (.reg [co (some 16) (.load 30 (.tmp 1)) none,
              co (some 17) (.call { callee := (.value (.func 68)), args := #[(.tmp 16)], argTypes := #[30] }) none,
              co (some 18) (.binOp .add 3 (.const (.int .i64 1)) (.tmp 17) 3) none,
              co (some 2) (.assign (.tmp 18)) none] [2])
          (.ret))
          (.seq (.reg [co (some 20) (.binOp .eql 3 (.tmp 4) (.const (.int .i64 3)) 3) none,
              co (some 19) (.assign (.tmp 20)) none] [1, 19])
          (.cond (.tmp 19)
            (.seq (.reg [co (some 21) (.load 30 (.tmp 1)) none,
                co (some 22) (.call { callee := (.value (.func 69)), args := #[(.tmp 21)], argTypes := #[30] }) none,
                co (some 23) (.binOp .add 3 (.const (.int .i64 1)) (.tmp 22) 3) none,
                co (some 2) (.assign (.tmp 23)) none] [2])
            (.ret))
            (.skip)))))))))
  (.keep [] (.seq (.reg [co (some 2) (.assign (.const (.int .i64 0))) none] [2])
  (.ret))))
theorem t_cost_node : Txt Tryz.prog 34 24 [(.tmp 2)] c_cost_node := txt_of (code := Tryz.f34.body.getD .ret) mixed (by kernel_rfl) Tryz.func34 (by kernel_rfl) Tryz.ntmps34 (by kernel_rfl) (ls := [([1], [(0, [0])]), ([], []), ([1, 4], []), ([], []), ([1, 4, 5], []), ([], []), ([2], []), ([], []), ([1, 4, 14], []), ([], []), ([2], []), ([], []), ([1, 19], []), ([], []), ([2], []), ([], []), ([999999], []), ([2], []), ([], [])]) (by kernel_rfl)
def l1_cost_structure : CC :=
  .seq (.reg [co (some 21) (.binOp .lss 3 (.tmp 20) (.tmp 19) 3) none] [1, 3, 4, 5, 18, 19, 20, 21])
  (.seq (.cond (.tmp 21)
      (.skip)
      (.exit 0))
  (.keep [1, 3, 4, 5, 18, 19, 20] (.seq (.block 1
      (.seq (.reg [co (some 22) (.indexAddr 26 (.tmp 18) (.tmp 20)) none,
          co (some 23) (.load 63 (.tmp 22)) none,
          cn (some 7) (.alloc 63) none [1],
          co none (.store 63 (.tmp 7) (.tmp 23)) none] [1, 3, 4, 5, 7, 18, 19, 20])
      (.block 2
        (.seq (.reg [co (some 25) (.fieldAddr 63 (.tmp 7) 3) none,
            co (some 26) (.load 60 (.tmp 25)) none,
            co (some 27) (.binOp .neq 60 (.tmp 26) (.const (.int .u64 0)) 60) none,
            co (some 24) (.assign (.tmp 27)) none] [1, 3, 4, 5, 7, 18, 19, 20, 24])
        (.cond (.tmp 24)
          (.reg [co (some 5) (.assign (.const (.int .i64 3))) none] [1, 3, 4, 5, 18, 19, 20])
          (.seq (.reg [co (some 29) (.fieldAddr 63 (.tmp 7) 2) none,
              co (some 30) (.load 60 (.tmp 29)) none,
              co (some 31) (.binOp .neq 60 (.tmp 30) (.const (.int .u64 0)) 60) none,
              co (some 28) (.assign (.tmp 31)) none] [1, 3, 4, 5, 18, 19, 20, 28])
          (.cond (.tmp 28)
            (.reg [co (some 32) (.move (.tmp 5)) none,
              co (some 33) (.call { callee := (.builtin .max), args := #[(.tmp 32), (.const (.int .i64 2))], argTypes := #[3, 3] }) none,
              co (some 5) (.assign (.tmp 33)) none] [1, 3, 4, 5, 18, 19, 20])
            (.skip))))))))
  (.keep [1, 3, 4, 5, 18, 19, 20] (.reg [co (some 34) (.binOp .add 3 (.tmp 20) (.const (.int .i64 1)) 3) none,
    co (some 20) (.move (.tmp 34)) none] [1, 3, 4, 5, 18, 19, 20])))))
def l2_cost_structure : CC :=
  .seq (.reg [co (some 70) (.binOp .lss 3 (.tmp 69) (.tmp 68) 3) none] [3, 67, 68, 69, 70])
  (.seq (.cond (.tmp 70)
      (.skip)
      (.exit 3))
  (.keep [3, 67, 68, 69] (.seq (.block 4
      (.seq (.reg [co (some 71) (.indexAddr 27 (.tmp 67) (.tmp 69)) none,
          co (some 72) (.load 66 (.tmp 71)) none,
          cn (some 11) (.alloc 66) none [2],
          co none (.store 66 (.tmp 11) (.tmp 72)) none] [3, 11, 67, 68, 69])
      (.reg [co (some 73) (.move (.tmp 3)) none,
        co (some 74) (.fieldAddr 66 (.tmp 11) 1) none,
        co (some 75) (.load 30 (.tmp 74)) none,
        co (some 76) (.call { callee := (.value (.func 34)), args := #[(.tmp 75)], argTypes := #[30] }) none,
        co (some 77) (.binOp .add 3 (.tmp 73) (.tmp 76) 3) none,
        co (some 3) (.assign (.tmp 77)) none] [3, 67, 68, 69])))
  (.reg [co (some 78) (.binOp .add 3 (.tmp 69) (.const (.int .i64 1)) 3) none,
    co (some 69) (.move (.tmp 78)) none] [3, 67, 68, 69]))))
def k1_cost_structure : CC :=
  .seq (.reg [co (some 66) (.fieldAddr 30 (.tmp 1) 4) none,
      co (some 67) (.load 27 (.tmp 66)) none,
      co (some 68) (.call { callee := (.builtin .len), args := #[(.tmp 67)], argTypes := #[27] }) none,
      co (some 69) (.move (.const (.int .i64 0))) none] [3, 67, 68, 69])
  (.block 3
    (.loop l2_cost_structure))
def k2_cost_structure : CC :=
  .seq (.reg [co (some 54) (.move (.tmp 3)) none,
      co (some 55) (.move (.tmp 8)) none,
      co (some 56) (.move (.tmp 9)) none,
      co (some 57) (.binOp .mul 3 (.tmp 55) (.tmp 56) 3) none,
      co (some 58) (.binOp .add 3 (.const (.int .i64 2)) (.tmp 57) 3) none,
      co (some 59) (.binOp .add 3 (.tmp 54) (.tmp 58) 3) none,
      co (some 3) (.assign (.tmp 59)) none] [1, 3])
  (.seq (.seq (.reg [co (some 60) (.fieldAddr 30 (.tmp 1) 3) none,
        co (some 61) (.load 26 (.tmp 60)) none,
        co (some 62) (.call { callee := (.builtin .len), args := #[(.tmp 61)], argTypes := #[26] }) none,
        co (some 63) (.binOp .eql 3 (.tmp 62) (.const (.int .i64 0)) 3) none] [1, 3, 63])
    (.cond (.tmp 63)
      (.reg [co (some 64) (.move (.tmp 3)) none,
        co (some 65) (.binOp .add 3 (.tmp 64) (.const (.int .i64 1)) 3) none,
        co (some 3) (.assign (.tmp 65)) none] [1, 3])
      (.skip)))
  (.keep [1, 3] k1_cost_structure))
def k3_cost_structure : CC :=
  .seq (.seq (.reg [co (some 41) (.fieldAddr 30 (.tmp 1) 4) none,
        co (some 42) (.load 27 (.tmp 41)) none,
        co (some 43) (.call { callee := (.builtin .len), args := #[(.tmp 42)], argTypes := #[27] }) none,
        co (some 8) (.assign (.tmp 43)) none] [1, 3, 8])
    (.seq (.reg [co (some 44) (.move (.tmp 8)) none,
        co (some 45) (.binOp .gtr 3 (.tmp 44) (.const (.int .i64 0)) 3) none] [1, 3, 8, 45])
    (.cond (.tmp 45)
      (.seq (.reg [co (some 9) (.assign (.const (.int .i64 2))) none] [1, 3, 8, 9])
      (.seq (.seq (.reg [co (some 46) (.fieldAddr 30 (.tmp 1) 4) none,
            co (some 47) (.load 27 (.tmp 46)) none,
            co (some 48) (.move (.tmp 8)) none,
            co (some 49) (.binOp .sub 3 (.tmp 48) (.const (.int .i64 1)) 3) none,
            co (some 50) (.indexAddr 27 (.tmp 47) (.tmp 49)) none,
            co (some 51) (.fieldAddr 66 (.tmp 50) 0) none,
            co (some 52) (.load 3 (.tmp 51)) none,
            co (some 53) (.binOp .eql 3 (.tmp 52) (.const (.int .i64 0)) 3) none] [1, 3, 8, 9, 53])
        (.cond (.tmp 53)
          (.reg [co (some 9) (.assign (.const (.int .i64 1))) none] [1, 3, 8, 9])
          (.skip)))
      (.keep [1, 3, 8, 9] k2_cost_structure)))
      (.skip))))
  (.keep [3] (.seq (.reg [co (some 79) (.move (.tmp 3)) none,
      co (some 2) (.assign (.tmp 79)) none] [2])
  (.ret)))
/-- cento/cost.structure -/
def c_cost_structure : CC :=
  .seq (.reg [cn (some 1) (.box 30 (.tmp 0)) none [0],
      co (some 2) (.assign (.const (.int .i64 0))) none] [1])
  (.seq (.reg [co (some 3) (.assign (.const (.int .i64 0))) none] [1, 3])
  (.seq (.seq (.reg [co (some 12) (.fieldAddr 30 (.tmp 1) 3) none,
        co (some 13) (.load 26 (.tmp 12)) none,
        co (some 14) (.call { callee := (.builtin .len), args := #[(.tmp 13)], argTypes := #[26] }) none,
        co (some 4) (.assign (.tmp 14)) none] [1, 3, 4])
    (.seq (.reg [co (some 15) (.move (.tmp 4)) none,
        co (some 16) (.binOp .gtr 3 (.tmp 15) (.const (.int .i64 0)) 3) none] [1, 3, 4, 16])
    (.cond (.tmp 16)
      (.seq (.reg [co (some 5) (.assign (.const (.int .i64 1))) none] [1, 3, 4, 5])
      (.seq (.seq (.reg [co (some 17) (.fieldAddr 30 (.tmp 1) 3) none,
            co (some 18) (.load 26 (.tmp 17)) none,
            co (some 19) (.call { callee := (.builtin .len), args := #[(.tmp 18)], argTypes := #[26] }) none,
            co (some 20) (.move (.const (.int .i64 0))) none] [1, 3, 4, 5, 18, 19, 20])
        (.block 0
          (.loop l1_cost_structure)))
      (.keep [1, 3, 4, 5] (.reg [co (some 35) (.move (.tmp 3)) none,
        co (some 36) (.move (.tmp 4)) none,
        co (some 37) (.move (.tmp 5)) none,
        co (some 38) (.binOp .mul 3 (.tmp 36) (.tmp 37) 3) none,
        co (some 39) (.binOp .add 3 (.const (.int .i64 2)) (.tmp 38) 3) none,
        co (some 40) (.binOp .add 3 (.tmp 35) (.tmp 39) 3) none,
        co (some 3) (.assign (.tmp 40)) none] [1, 3]))))
      (.skip))))
  (.keep [1, 3] k3_cost_structure)))
theorem t_cost_structure : Txt Tryz.prog 68 80 [(.tmp 2)] c_cost_structure := txt_of (code := Tryz.f68.body.getD .ret) mixed (by kernel_rfl) Tryz.func68 (by kernel_rfl) Tryz.ntmps68 (by kernel_rfl) (ls := [([1], [(0, [0])]), ([], []), ([1, 3], []), ([], []), ([1, 3, 4], []), ([], []), ([1, 3, 4, 16], []), ([], []), ([1, 3, 4, 5], []), ([], []), ([1, 3, 4, 5, 18, 19, 20], []), ([], []), ([1, 3, 4, 5, 18, 19, 20, 21], []), ([], []), ([999999, 1, 3, 4, 5, 18, 19, 20], []), ([1, 3, 4, 5, 7, 18, 19, 20], [(2, [1])]), ([], []), ([1, 3, 4, 5, 7, 18, 19, 20, 24], []), ([], []), ([1, 3, 4, 5, 18, 19, 20], []), ([1, 3, 4, 5, 18, 19, 20, 28], []), ([], []), ([1, 3, 4, 5, 18, 19, 20], []), ([999999, 1, 3, 4, 5, 18, 19, 20], []), ([1, 3, 4, 5, 18, 19, 20], []), ([999999, 1, 3, 4, 5], []), ([1, 3], []), ([999999, 1, 3], []), ([1, 3, 8], []), ([], []), ([1, 3, 8, 45], []), ([], []), ([1, 3, 8, 9], []), ([], []), ([1, 3, 8, 9, 53], []), ([], []), ([1, 3, 8, 9], []), ([999999, 1, 3, 8, 9], []), ([1, 3], []), ([], []), ([1, 3, 63], []), ([], []), ([1, 3], []), ([999999, 1, 3], []), ([3, 67, 68, 69], []), ([], []), ([3, 67, 68, 69, 70], []), ([], []), ([999999, 3, 67, 68, 69], []), ([3, 11, 67, 68, 69], [(2, [2])]), ([], []), ([3, 67, 68, 69], []), ([], []), ([3, 67, 68, 69], []), ([999999, 3], []), ([2], []), ([], [])]) (by kernel_rfl)
def k1_cost_list : CC :=
  .cond (.tmp 20)
    (.seq (.reg [co (some 3) (.assign (.const (.int .i64 2))) none] [1, 3, 4, 6, 12, 13, 14])
    (.reg [co (some 23) (.move (.tmp 4)) none,
      co (some 24) (.fieldAddr 30 (.tmp 1) 5) none,
      co (some 25) (.load 3 (.tmp 24)) none,
      co (some 26) (.fieldAddr 69 (.tmp 6) 2) none,
      co (some 27) (.load 23 (.tmp 26)) none,
      co (some 28) (.build 25 #[(0, (.tmp 25)), (2, (.tmp 27))]) none,
      co (some 29) (.call { callee := (.value (.func 60)), args := #[(.tmp 28)], argTypes := #[25] }) none,
      co (some 30) (.binOp .add 3 (.tmp 23) (.tmp 29) 3) none,
      co (some 4) (.assign (.tmp 30)) none] [1, 3, 4, 12, 13, 14]))
    (.seq (.reg [co (some 32) (.binOp .eql 3 (.tmp 19) (.const (.int .i64 3)) 3) none,
        co (some 31) (.assign (.tmp 32)) none] [1, 3, 4, 6, 12, 13, 14, 31])
    (.cond (.tmp 31)
      (.seq (.reg [co (some 3) (.assign (.const (.int .i64 2))) none] [1, 3, 4, 6, 12, 13, 14])
      (.reg [co (some 33) (.move (.tmp 4)) none,
        co (some 34) (.fieldAddr 69 (.tmp 6) 3) none,
        co (some 35) (.load 30 (.tmp 34)) none,
        co (some 36) (.call { callee := (.value (.func 34)), args := #[(.tmp 35)], argTypes := #[30] }) none,
        co (some 37) (.binOp .add 3 (.tmp 33) (.tmp 36) 3) none,
        co (some 4) (.assign (.tmp 37)) none] [1, 3, 4, 12, 13, 14]))
      (.skip)))
def l1_cost_list : CC :=
  .seq (.reg [co (some 15) (.binOp .lss 3 (.tmp 14) (.tmp 13) 3) none] [1, 3, 4, 12, 13, 14, 15])
  (.seq (.cond (.tmp 15)
      (.skip)
      (.exit 0))
  (.keep [1, 3, 4, 12, 13, 14] (.seq (.block 1
      (.seq (.reg [co (some 16) (.indexAddr 28 (.tmp 12) (.tmp 14)) none,
          co (some 17) (.load 69 (.tmp 16)) none,
          cn (some 6) (.alloc 69) none [1],
          co none (.store 69 (.tmp 6) (.tmp 17)) none] [1, 3, 4, 6, 12, 13, 14])
      (.seq (.reg [co (some 18) (.fieldAddr 69 (.tmp 6) 0) none,
          co (some 19) (.load 3 (.tmp 18)) none] [1, 3, 4, 6, 12, 13, 14, 19])
      (.block 2
        (.seq (.seq (.reg [co (some 21) (.binOp .eql 3 (.tmp 19) (.const (.int .i64 1)) 3) none,
              co (some 20) (.assign (.tmp 21)) none] [1, 3, 4, 6, 12, 13, 14, 19, 20])
          (.cond (.tmp 20)
            (.skip)
            (.reg [co (some 22) (.binOp .eql 3 (.tmp 19) (.const (.int .i64 2)) 3) none,
              co (some 20) (.assign (.tmp 22)) none] [1, 3, 4, 6, 12, 13, 14, 19, 20])))
        (.keep [1, 3, 4, 6, 12, 13, 14, 19, 20] k1_cost_list))))))
  (.keep [1, 3, 4, 12, 13, 14] (.reg [co (some 38) (.binOp .add 3 (.tmp 14) (.const (.int .i64 1)) 3) none,
    co (some 14) (.move (.tmp 38)) none] [1, 3, 4, 12, 13, 14])))))
/-- cento/cost.list -/
def c_cost_list : CC :=
  .seq (.reg [cn (some 1) (.box 30 (.tmp 0)) none [0],
      co (some 2) (.assign (.const (.int .i64 0))) none] [1])
  (.seq (.seq (.reg [co (some 7) (.fieldAddr 30 (.tmp 1) 6) none,
        co (some 8) (.load 28 (.tmp 7)) none,
        co (some 9) (.call { callee := (.builtin .len), args := #[(.tmp 8)], argTypes := #[28] }) none,
        co (some 10) (.binOp .eql 3 (.tmp 9) (.const (.int .i64 0)) 3) none] [1, 10])
    (.cond (.tmp 10)
      (.seq (.reg [co (some 2) (.assign (.const (.int .i64 0))) none] [2])
      (.ret))
      (.skip)))
  (.keep [1] (.seq (.reg [co (some 3) (.assign (.const (.int .i64 1))) none,
      co (some 4) (.assign (.const (.int .i64 0))) none] [1, 3, 4])
  (.seq (.seq (.reg [co (some 11) (.fieldAddr 30 (.tmp 1) 6) none,
        co (some 12) (.load 28 (.tmp 11)) none,
        co (some 13) (.call { callee := (.builtin .len), args := #[(.tmp 12)], argTypes := #[28] }) none,
        co (some 14) (.move (.const (.int .i64 0))) none] [1, 3, 4, 12, 13, 14])
    (.block 0
      (.loop l1_cost_list)))
  (.keep [1, 3, 4] (.seq (.reg [co (some 39) (.fieldAddr 30 (.tmp 1) 6) none,
      co (some 40) (.load 28 (.tmp 39)) none,
      co (some 41) (.call { callee := (.builtin .len), args := #[(.tmp 40)], argTypes := #[28] }) none,
      co (some 42) (.move (.tmp 3)) none,
      co (some 43) (.binOp .mul 3 (.tmp 41) (.tmp 42) 3) none,
      co (some 44) (.binOp .add 3 (.const (.int .i64 2)) (.tmp 43) 3) none,
      co (some 45) (.move (.tmp 4)) none,
      co (some 46) (.binOp .add 3 (.tmp 44) (.tmp 45) 3) none,
      co (some 2) (.assign (.tmp 46)) none] [2])
  (.ret)))))))
theorem t_cost_list : Txt Tryz.prog 69 47 [(.tmp 2)] c_cost_list := txt_of (code := Tryz.f69.body.getD .ret) mixed (by kernel_rfl) Tryz.func69 (by kernel_rfl) Tryz.ntmps69 (by kernel_rfl) (ls := [([1], [(0, [0])]), ([], []), ([1, 10], []), ([], []), ([2], []), ([], []), ([999999, 1], []), ([1, 3, 4], []), ([], []), ([1, 3, 4, 12, 13, 14], []), ([], []), ([1, 3, 4, 12, 13, 14, 15], []), ([], []), ([999999, 1, 3, 4, 12, 13, 14], []), ([1, 3, 4, 6, 12, 13, 14], [(2, [1])]), ([], []), ([1, 3, 4, 6, 12, 13, 14, 19], []), ([], []), ([1, 3, 4, 6, 12, 13, 14, 19, 20], []), ([], []), ([1, 3, 4, 6, 12, 13, 14, 19, 20], []), ([999999, 1, 3, 4, 6, 12, 13, 14, 19, 20], []), ([1, 3, 4, 6, 12, 13, 14], []), ([], []), ([1, 3, 4, 12, 13, 14], []), ([1, 3, 4, 6, 12, 13, 14, 31], []), ([], []), ([1, 3, 4, 6, 12, 13, 14], []), ([], []), ([1, 3, 4, 12, 13, 14], []), ([999999, 1, 3, 4, 12, 13, 14], []), ([1, 3, 4, 12, 13, 14], []), ([999999, 1, 3, 4], []), ([2], []), ([], [])]) (by kernel_rfl)
/-- cento/cost.Words -/
def c_cost_Words : CC :=
  .seq (.reg [cn (some 1) (.box 30 (.tmp 0)) none [0],
      co (some 2) (.assign (.const (.int .i64 0))) none] [1])
  (.seq (.reg [co (some 3) (.load 30 (.tmp 1)) none,
      co (some 4) (.call { callee := (.value (.func 34)), args := #[(.tmp 3)], argTypes := #[30] }) none,
      co (some 5) (.binOp .add 3 (.const (.int .i64 1)) (.tmp 4) 3) none,
      co (some 2) (.assign (.tmp 5)) none] [2])
  (.ret))
theorem t_cost_Words : Txt Tryz.prog 11 6 [(.tmp 2)] c_cost_Words := txt_of (code := Tryz.f11.body.getD .ret) mixed (by kernel_rfl) Tryz.func11 (by kernel_rfl) Tryz.ntmps11 (by kernel_rfl) (ls := [([1], [(0, [0])]), ([], []), ([2], []), ([], [])]) (by kernel_rfl)
/-- cento/centolaw39.awake -/
def c_centolaw39_awake : CC :=
  .seq (.reg [co (some 0) (.assign (.const (.bool false))) none] [])
  (.seq (.reg [co (some 1) (.build 30 #[]) none,
      co (some 2) (.call { callee := (.value (.func 11)), args := #[(.tmp 1)], argTypes := #[30] }) none,
      co (some 3) (.binOp .eql 3 (.tmp 2) (.const (.int .i64 1)) 3) none,
      co (some 4) (.move (.tmp 3)) none,
      co (some 5) (.build 30 #[(0, (.const (.int .i64 1)))]) (some (4, true)),
      co (some 6) (.call { callee := (.value (.func 11)), args := #[(.tmp 5)], argTypes := #[30] }) (some (4, true)),
      co (some 7) (.binOp .eql 3 (.tmp 6) (.const (.int .i64 2)) 3) (some (4, true)),
      co (some 8) (.pick (.tmp 4) (.tmp 7) (.const (.bool false))) none,
      co (some 0) (.assign (.tmp 8)) none] [0])
  (.ret))
theorem t_centolaw39_awake : Txt Tryz.prog 9 9 [(.tmp 0)] c_centolaw39_awake := txt_of (code := Tryz.f9.body.getD .ret) mixed (by kernel_rfl) Tryz.func9 (by kernel_rfl) Tryz.ntmps9 (by kernel_rfl) (ls := [([], []), ([], []), ([0], []), ([], [])]) (by kernel_rfl)
end Go.Proofs.YthfiijdbnkaabaaGreat

/-
  The functions' text as data, and the facts on the types that they use: written by a program of ours (gen2.py) off the translation.
-/
namespace Go.Proofs.YthfiijdbnkaabaaGreat
set_option linter.unusedVariables false
set_option linter.unusedSimpArgs false
set_option maxRecDepth 20000
open Go Go.G Go.Proofs
/-- cento/tree.Word -/
def c_tree_Word : CC :=
  .seq (.reg [cn (some 2) (.box 25 (.tmp 0)) none [0],
      co (some 4) (.assign (.const (.int .u64 0))) none] [1, 2])
  (.seq (.seq (.reg [co (some 5) (.move (.tmp 1)) none,
        co (some 6) (.binOp .lss 3 (.tmp 5) (.const (.int .i64 0)) 3) none,
        co (some 7) (.move (.tmp 6)) none,
        co (some 8) (.move (.tmp 1)) (some (7, false)),
        co (some 9) (.fieldAddr 25 (.tmp 2) 1) (some (7, false)),
        co (some 10) (.load 22 (.tmp 9)) (some (7, false)),
        co (some 11) (.call { callee := (.builtin .len), args := #[(.tmp 10)], argTypes := #[22] }) (some (7, false)),
        co (some 12) (.binOp .geq 3 (.tmp 8) (.tmp 11) 3) (some (7, false)),
        co (some 13) (.pick (.tmp 7) (.const (.bool true)) (.tmp 12)) none] [1, 2, 13])
    (.cond (.tmp 13)
      (.seq (.reg [co (some 4) (.assign (.const (.int .u64 0))) none] [4])
      (.ret))
      (.skip)))
  (.keep [1, 2] (.seq (.reg [co (some 14) (.fieldAddr 25 (.tmp 2) 1) none,
      co (some 15) (.load 22 (.tmp 14)) none,
      co (some 16) (.move (.tmp 1)) none,
      co (some 17) (.indexAddr 22 (.tmp 15) (.tmp 16)) none,
      co (some 18) (.load 60 (.tmp 17)) none,
      co (some 4) (.assign (.tmp 18)) none] [4])
  (.ret))))
theorem t_tree_Word : Txt Tryz.prog 70 19 [(.tmp 4)] c_tree_Word := txt_of (code := Tryz.f70.body.getD .ret) mixed (by kernel_rfl) Tryz.func70 (by kernel_rfl) Tryz.ntmps70 (by kernel_rfl) (ls := [([1, 2], [(0, [0])]), ([], []), ([1, 2, 13], []), ([], []), ([4], []), ([], []), ([999999, 1, 2], []), ([4], []), ([], [])]) (by kernel_rfl)
def l1_word_Wide : CC :=
  .seq (.reg [co (some 6) (.binOp .lss 3 (.tmp 5) (.const (.int .i64 8)) 3) none] [0, 3, 5, 6])
  (.seq (.cond (.tmp 6)
      (.skip)
      (.exit 0))
  (.keep [0, 3, 5] (.seq (.block 1
      (.seq (.reg [co (some 7) (.move (.tmp 5)) none,
          co (some 4) (.assign (.tmp 7)) none] [0, 3, 4, 5])
      (.seq (.reg [co (some 8) (.move (.tmp 0)) none,
          co (some 9) (.move (.tmp 4)) none,
          co (some 10) (.binOp .shr 5 (.tmp 8) (.tmp 9) 3) none,
          co (some 11) (.binOp .and 5 (.tmp 10) (.const (.int .u8 1)) 5) none,
          co (some 12) (.binOp .eql 5 (.tmp 11) (.const (.int .u8 1)) 5) none] [0, 3, 4, 5, 12])
      (.cond (.tmp 12)
        (.reg [co (some 13) (.move (.tmp 3)) none,
          co (some 14) (.move (.tmp 4)) none,
          co (some 15) (.binOp .mul 3 (.const (.int .i64 8)) (.tmp 14) 3) none,
          co (some 16) (.binOp .shl 60 (.const (.int .u64 255)) (.tmp 15) 3) none,
          co (some 17) (.binOp .or 60 (.tmp 13) (.tmp 16) 60) none,
          co (some 3) (.assign (.tmp 17)) none] [0, 3, 5])
        (.skip)))))
  (.keep [0, 3, 5] (.reg [co (some 18) (.binOp .add 3 (.tmp 5) (.const (.int .i64 1)) 3) none,
    co (some 5) (.move (.tmp 18)) none] [0, 3, 5])))))
/-- cento/word.Wide -/
def c_word_Wide : CC :=
  .seq (.reg [co (some 2) (.assign (.const (.int .u64 0))) none] [0])
  (.seq (.reg [co (some 3) (.assign (.const (.int .u64 0))) none] [0, 3])
  (.seq (.seq (.reg [co (some 5) (.move (.const (.int .i64 0))) none] [0, 3, 5])
    (.block 0
      (.loop l1_word_Wide)))
  (.keep [3] (.seq (.reg [co (some 19) (.move (.tmp 3)) none,
      co (some 2) (.assign (.tmp 19)) none] [2])
  (.ret)))))
theorem t_word_Wide : Txt Tryz.prog 146 20 [(.tmp 2)] c_word_Wide := txt_of (code := Tryz.f146.body.getD .ret) mixed (by kernel_rfl) Tryz.func146 (by kernel_rfl) Tryz.ntmps146 (by kernel_rfl) (ls := [([0], []), ([], []), ([0, 3], []), ([], []), ([0, 3, 5], []), ([], []), ([0, 3, 5, 6], []), ([], []), ([999999, 0, 3, 5], []), ([0, 3, 4, 5], []), ([], []), ([0, 3, 4, 5, 12], []), ([], []), ([0, 3, 5], []), ([999999, 0, 3, 5], []), ([0, 3, 5], []), ([999999, 3], []), ([2], []), ([], [])]) (by kernel_rfl)
/-- cento/word.Mix -/
def c_word_Mix : CC :=
  .seq (.reg [co (some 6) (.assign (.const (.int .u64 0))) none] [0, 1, 2])
  (.seq (.reg [co (some 7) (.move (.tmp 0)) none,
      co (some 8) (.move (.tmp 2)) none,
      co (some 9) (.call { callee := (.value (.func 146)), args := #[(.tmp 8)], argTypes := #[5] }) none,
      co (some 10) (.binOp .andNot 60 (.tmp 7) (.tmp 9) 60) none,
      co (some 11) (.move (.tmp 1)) none,
      co (some 12) (.move (.tmp 2)) none,
      co (some 13) (.call { callee := (.value (.func 146)), args := #[(.tmp 12)], argTypes := #[5] }) none,
      co (some 14) (.binOp .and 60 (.tmp 11) (.tmp 13) 60) none,
      co (some 15) (.binOp .or 60 (.tmp 10) (.tmp 14) 60) none,
      co (some 6) (.assign (.tmp 15)) none] [6])
  (.ret))
theorem t_word_Mix : Txt Tryz.prog 126 16 [(.tmp 6)] c_word_Mix := txt_of (code := Tryz.f126.body.getD .ret) mixed (by kernel_rfl) Tryz.func126 (by kernel_rfl) Tryz.ntmps126 (by kernel_rfl) (ls := [([0, 1, 2], []), ([], []), ([6], []), ([], [])]) (by kernel_rfl)
end Go.Proofs.YthfiijdbnkaabaaGreat

/-
  Chapter 29: words and kids of trees; what a value means is made.
-/
namespace Go.Proofs.YthfiijdbnkaabaaGreat
set_option linter.unusedVariables false
set_option linter.unusedSimpArgs false
open Go Go.G Go.Proofs Go.PL
theorem treeWord_spec (t : T) (i : Nat) : G.Spec Tryz.prog 70 [tX t, iv i] (uv (t.words.getD i 0)) := by
  refine spec_of t_tree_Word (by simp) fun w0 I0 => ?_
  unfold c_tree_Word
  have hn : ¬ (i : Int) < 0 := by omega
  by_cases h : i < t.words.length
  · have h2 : ¬ t.words.length ≤ i := by omega
    simp [h, hn, h2]
    exact frz_is rfl (by simp [h])
  · have h2 : t.words.length ≤ i := by omega
    simp [h, hn, h2]
    exact frz_is rfl (by simp [List.getElem?_eq_none (Nat.le_of_not_lt h)])
/-! ### what a value means, as a tree -/
section
variable {n0 : Nat} {w0 : World} {I0 : Nat → Prop} {Q : Exit → Sta → Prop}
end
end Go.Proofs.YthfiijdbnkaabaaGreat

/-
  The document's trees.
-/
namespace Go.Proofs.YthfiijdbnkaabaaGreat
set_option linter.unusedVariables false
set_option linter.unusedSimpArgs false
open Go Go.G Go.Proofs Go.PL
mutual
theorem shallow_range : ∀ (t : T) (d : Nat) (n : Int), -1 ≤ shallow d n t ∧ (-1 ≤ n → shallow d n t ≤ n)
  | .mk k w l, d, n => by
    rw [shallow_mk]
    split
    · omega
    · have := shallowL_range l (d - 1) (n - 1 - w.length) (by omega)
      omega
theorem shallowL_range : ∀ (l : List T) (d : Nat) (n : Int), -1 ≤ n → -1 ≤ shallowL d n l ∧ shallowL d n l ≤ n
  | [], d, n, h => by simp; omega
  | t :: l, d, n, h => by
    rw [shallowL_cons]
    split
    · omega
    · have h1 := shallow_range t d n
      have h2 := shallowL_range l d (shallow d n t) h1.1
      omega
end
theorem shallowL_neg (l : List T) (d : Nat) {n : Int} (h : n < 0) : shallowL d n l = n := by
  cases l with
  | nil => simp
  | cons t l => simp [h]
section
variable {n0 : Nat} {w0 : World} {I0 : Nat → Prop} {Q : Exit → Sta → Prop}
theorem shallow_l1 {t : T} {d : Nat} (hd : 1 ≤ d) (hd1 : d ≤ 1000) (hl : t.kids.length * 56 ≤ 140737488355328) (ih : ∀ c, c ∈ t.kids → ∀ (d : Nat) (n : Int), d ≤ 1000 → 0 ≤ n → n ≤ 1000000 → G.Spec Tryz.prog 45 [tX c, iv d, iv n] (iv (shallow d n c)))
    {H : Hp} (hH : H [0] = ⟨1, .cells [iv t.kind, uws t.words, tKs t.kids]⟩) : ∀ (m i : Nat) (n : Int), i + m = t.kids.length → -1 ≤ n → n ≤ 1000000 →
    (∀ i' q, Q (.exit 0) ⟨lk [(1, iv d), (2, iv (shallowL (d - 1) n (t.kids.drop i))), (3, .pob [0] 1 0), (7, iv i'), (28, bv q)], H⟩) →
    LoopC (cx Tryz.prog w0 I0 n0) l1_centoref07_Shallow Q ⟨lk [(1, iv d), (2, iv n), (3, .pob [0] 1 0), (7, iv i)], H⟩ := by
  intro m
  induction m with
  | zero =>
    intro i n hi h1 h2 hq
    have : i = t.kids.length := by omega
    subst this
    refine loopC_once mixed l1_centoref07_Shallow.eq_1 ?_
    simp [hH]
    simpa using hq _ false
  | succ m ihm =>
    intro i n hi h1 h2 hq
    have hlt : i < t.kids.length := by omega
    refine loopC_once mixed l1_centoref07_Shallow.eq_1 ?_
    have e : t.kids.drop i = t.kids[i] :: t.kids.drop (i + 1) := List.drop_eq_getElem_cons hlt
    by_cases hn : n < 0
    · simp [hH, hlt, show ¬ (0 : Int) ≤ n by omega]
      have := hq i false
      rwa [shallowL_neg _ _ hn] at this
    · have hn' : 0 ≤ n := by omega
      simp [hH, hlt, hn']
      have ed : IntKind.i64.wrap ((d : Int) - 1) = ((d - 1 : Nat) : Int) := by rw [i64_same (by omega) (by omega)]; omega
      rw [ed]
      refine sc_call (ih _ (List.getElem_mem hlt) (d - 1) n (by omega) hn' h2) rfl ?_
      simp
      have hr := shallow_range t.kids[i] (d - 1) n
      rw [i64_same (by omega) (by omega)]
      refine ihm (i + 1) _ (by omega) hr.1 (by omega) fun i' q => ?_
      have := hq i' q
      rw [e, shallowL_cons, if_neg (by omega)] at this
      exact this
end
theorem shallow_spec : ∀ (t : T), wfT t → ∀ (d : Nat) (n : Int), d ≤ 1000 → 0 ≤ n → n ≤ 1000000 → G.Spec Tryz.prog 45 [tX t, iv d, iv n] (iv (shallow d n t)) := by
  refine T.ind fun k w l ih hw d n hd hn hn1 => ?_
  have hw' := wfT_iff.1 hw
  have hwl := hw'.wl
  have hkl := hw'.kl
  simp at hwl hkl
  have ihc : ∀ c, c ∈ (T.mk k w l).kids → ∀ (d : Nat) (n : Int), d ≤ 1000 → 0 ≤ n → n ≤ 1000000 → G.Spec Tryz.prog 45 [tX c, iv d, iv n] (iv (shallow d n c)) := fun c hc => ih c hc (hw'.ks c hc)
  refine spec_of t_centoref07_Shallow (by simp) fun w0 I0 => ?_
  unfold c_centoref07_Shallow
  have e1 : IntKind.i64.wrap (IntKind.i64.wrap (n - 1) - (w.length : Int)) = n - 1 - w.length := by rw [i64_same (n := n - 1) (by omega) (by omega), i64_same (by omega) (by omega)]
  rw [shallow_mk]
  by_cases hc : d = 0 ∨ n - 1 - (w.length : Int) < 0
  · have hd : (decide (d = 0) || decide (n - 1 - (w.length : Int) < 0)) = true := by simp; omega
    simp [e1, hd, hc]
    exact frz_bare rfl
  · have hd : (decide (d = 0) || decide (n - 1 - (w.length : Int) < 0)) = false := by simp; omega
    simp [e1, hd, hc]
    refine shallow_l1 (t := .mk k w l) (by omega) (by omega) hkl ihc (by simp) l.length 0 _ (by simp) (by omega) (by omega) fun i' q => ?_
    simp
    exact frz_bare rfl
end Go.Proofs.YthfiijdbnkaabaaGreat

/-
  The document's trees: what they have at the most, whether they are the same, the Norm.
-/
namespace Go.Proofs.YthfiijdbnkaabaaGreat
set_option linter.unusedVariables false
set_option linter.unusedSimpArgs false
open Go Go.G Go.Proofs Go.PL
abbrev tL (t : T) : List A := [iv t.kind, uws t.words, tKs t.kids]
section
variable {n0 : Nat} {w0 : World} {I0 : Nat → Prop} {Q : Exit → Sta → Prop}
end
/-! ### the same -/
section
variable {n0 : Nat} {w0 : World} {I0 : Nat → Prop} {Q : Exit → Sta → Prop}
end
/-! ### the Norm -/
section
variable {n0 : Nat} {w0 : World} {I0 : Nat → Prop} {Q : Exit → Sta → Prop}
end
end Go.Proofs.YthfiijdbnkaabaaGreat

/-
  Chapter 10's reference: what a value means.
-/
namespace Go.Proofs.YthfiijdbnkaabaaGreat
set_option linter.unusedVariables false
set_option linter.unusedSimpArgs false
open Go Go.G Go.Proofs Go.PL
/-! ### plain -/
abbrev LB (l : List (List Int)) (B : Int) (rec : Rf → Int → T × Int × Int) : Prop := ∀ r, RfOk l r → ∀ left : Int, 0 ≤ left → left ≤ B → 0 ≤ (rec r left).2.1 ∧ (rec r left).2.1 ≤ B
theorem loopM_lb {B : Int} {f : Nat → Int → T × Int × Int} (hf : ∀ i left, 0 ≤ left → left ≤ B → 0 ≤ (f i left).2.1 ∧ (f i left).2.1 ≤ B) : ∀ (m i : Nat) (acc : List T) (left : Int), 0 ≤ left → left ≤ B → 0 ≤ (loopM f m i acc left).2.1 ∧ (loopM f m i acc left).2.1 ≤ B
  | 0, i, acc, left, h0, h1 => ⟨h0, h1⟩
  | m + 1, i, acc, left, h0, h1 => by
    rw [loopM]
    have := hf i left h0 h1
    split
    · exact this
    · exact loopM_lb hf m _ _ _ this.1 this.2
theorem stepM_lb {l : List (List Int)} (hw : Wds l) {B : Int} {rec : Rf → Int → T × Int × Int} (h : LB l B rec) {r : Rf} (hr : RfOk l r) (i : Nat) (left : Int) (h0 : 0 ≤ left) (h1 : left ≤ B) : 0 ≤ (stepM l rec r i left).2.1 ∧ (stepM l rec r i left).2.1 ≤ B := by
  unfold stepM
  split
  · exact ⟨h0, h1⟩
  · exact h _ (kid_ok hw hr i) _ h0 h1
theorem kidsM_lb {l : List (List Int)} (hw : Wds l) {B : Int} {rec : Rf → Int → T × Int × Int} (h : LB l B rec) : LB l B (kidsM l rec) := fun r hr left h0 h1 =>
  loopM_lb (stepM_lb hw h hr) _ _ _ _ h0 h1
theorem leafM_lb {l : List (List Int)} {B : Int} : LB l B (leafM l) := fun r hr left h0 h1 => ⟨h0, h1⟩
theorem costM_pos {l : List (List Int)} {r : Rf} (hr : RfOk l r) : 1 ≤ costM r ∧ costM r ≤ 100000000000000 := by
  cases hr with
  | zero => simp [costM, nk, Rf.zero]
  | str s a d k a1 a2 a3 a4 h => simp [costM]; omega
  | dat c s a n a1 a2 a3 a4 h => simp [costM, nk]; rw [if_neg (by omega), if_neg (by omega), if_neg (by omega)]; omega
  | ptrs s a n a1 a2 h => simp [costM, nk]; omega
  | comp s a d k n a1 a2 a3 a4 a5 a6 h =>
    simp [costM]
    have m1 : 0 ≤ n * (1 + d + k) := Int.mul_nonneg (by omega) (by omega)
    have m2 : n * (1 + d + k) ≤ 536870912 * (1 + d + k) := mul_le_of (by omega) (by omega)
    omega
  | atom n a1 a2 => simp [costM, nk]
theorem restM_lb {l : List (List Int)} (hw : Wds l) {B : Int} {r : Rf} (hr : RfOk l r) {rec1 rec2 : Rf → Int → T × Int × Int} (h1 : LB l B rec1) (h2 : LB l B rec2) {left : Int} (h3 : ¬ left < costM r) (h4 : left ≤ B) : 0 ≤ (restM l r rec1 rec2 left).2.1 ∧ (restM l r rec1 rec2 left).2.1 ≤ B := by
  have := costM_pos hr
  unfold restM
  refine loopM_lb (stepM_lb hw ?_ hr) _ _ _ _ (by omega) (by omega)
  split
  · exact kidsM_lb hw h2
  · split
    · exact h1
    · exact leafM_lb
theorem meaning_lb {l : List (List Int)} (hw : Wds l) {B : Int} : ∀ d : Nat, LB l B (meaning l d)
  | 0, r, hr, left, h0, h1 => by
    rw [meaning]; split <;> exact ⟨h0, h1⟩
  | 1, r, hr, left, h0, h1 => by
    rw [meaning]
    split
    · exact ⟨h0, h1⟩
    · split
      · exact ⟨h0, h1⟩
      · split
        · exact ⟨h0, h1⟩
        · rename_i hc
          exact restM_lb hw hr (meaning_lb hw 0) (fun r hr left h0 h1 => ⟨h0, h1⟩) hc h1
  | d + 2, r, hr, left, h0, h1 => by
    rw [meaning]
    split
    · exact ⟨h0, h1⟩
    · split
      · exact ⟨h0, h1⟩
      · rename_i hc
        exact restM_lb hw hr (meaning_lb hw (d + 1)) (meaning_lb hw d) hc h1
/-! ### the walks -/
theorem kids_in {l : List (List Int)} {r : Rf} (hr : RfOk l r) : 0 ≤ r.kids ∧ r.kids < 65536 := by
  cases hr <;> simp [Rf.zero] <;> omega
section
variable {n0 : Nat} {w0 : World} {I0 : Nat → Prop} {Q : Exit → Sta → Prop}
end
end Go.Proofs.YthfiijdbnkaabaaGreat

/-
  Chapter 10's reference: what a value means, whole.
-/
namespace Go.Proofs.YthfiijdbnkaabaaGreat
set_option linter.unusedVariables false
set_option linter.unusedSimpArgs false
open Go Go.G Go.Proofs Go.PL
def recM (l : List (List Int)) (r : Rf) (rec1 rec2 : Rf → Int → T × Int × Int) : Rf → Int → T × Int × Int := if r.kind = 9 then kidsM l rec2 else if r.kind = 1 ∨ r.kind = 8 then rec1 else leafM l
section
variable {n0 : Nat} {w0 : World} {I0 : Nat → Prop} {Q : Exit → Sta → Prop}
end
end Go.Proofs.YthfiijdbnkaabaaGreat

/-
  Chapter 10's reference: what a message means; chapter 15's law.
-/
namespace Go.Proofs.YthfiijdbnkaabaaGreat
set_option linter.unusedVariables false
set_option linter.unusedSimpArgs false
open Go Go.G Go.Proofs Go.PL
def clampZ (x m : Int) : Int := if x < 0 then 0 else if m < x then m else x
abbrev liX (a b c d : Int) : A := .agg [iv a, iv b, iv c, iv d]
/-- What a message means; an error. -/
def unfP (l : List (List Int)) (a b : Int) : T × Int × Int :=
  if (atP l 0 0).2 ≠ 0 then (T0, 0, (atP l 0 0).2)
  else if (meaning l (clampZ a 64).toNat (atP l 0 0).1 (clampZ b 65536)).2.2 ≠ 0 then (T0, 0, (meaning l (clampZ a 64).toNat (atP l 0 0).1 (clampZ b 65536)).2.2)
  else ((meaning l (clampZ a 64).toNat (atP l 0 0).1 (clampZ b 65536)).1, clampZ b 65536 - (meaning l (clampZ a 64).toNat (atP l 0 0).1 (clampZ b 65536)).2.1, 0)
theorem clamp_in (x m : Int) (h : 0 ≤ m) : 0 ≤ clampZ x m ∧ clampZ x m ≤ m := by
  unfold clampZ; split
  · omega
  · split <;> omega
/-! ### the law -/
end Go.Proofs.YthfiijdbnkaabaaGreat

/-
  Chapters 12 and 14, plain: trees as words.
-/
namespace Go.PL
set_option linter.unusedVariables false
set_option linter.unusedSimpArgs false
/-- A pointer's word: from a place to another one; its kind, its upper half. -/
def ptrZ (at_ to kind upper : Int) : Int := 4 * (if to - at_ - 1 < 0 then to - at_ - 1 + 1073741824 else to - at_ - 1) + kind + upper * 4294967296
/-- Numbers side by side, of so many bits each. -/
def putL (w : Nat) : List Int → Nat → List Int → List Int
  | [], _, out => out
  | n :: ns, i, out => putL w ns (i + 1) (if w = 0 then out else out.set (i * w / 64) (out.getD (i * w / 64) 0 + n * 2 ^ (i * w % 64)))
def putZ (c : Int) (ns : List Int) : List Int := putL (widthZ c).toNat ns 0 (List.replicate (roomZ c ns.length).toNat 0)
def hd (t : T) : Int := t.words.headD 0
/-- Words laid over others. -/
def setW : Nat → List Int → List Int → List Int
  | _, [], l => l
  | b, x :: ws, l => setW (b + 1) ws (l.set b x)
/-- The structs of a list, without their kids. -/
def rowsC (w k : Nat) : List T → List Int
  | [] => []
  | t :: ts => t.words ++ List.replicate (w + k - t.words.length) 0 ++ rowsC w k ts
mutual
/-- A tree that is its Norm, to which a word points. -/
def layT : T → Nat → List Int → List Int
  | .mk k w ks, at_, l =>
    if k = 0 then l
    else if k = 1 then layL ks (l.length + w.length) (l.set at_ (ptrZ at_ (if w.length + ks.length = 0 then at_ else l.length) 0 ((w.length : Int) + 65536 * ks.length)) ++ w ++ List.replicate ks.length 0)
    else if k = 8 then layL ks l.length (l.set at_ (ptrZ at_ l.length 1 (6 + 8 * ks.length)) ++ List.replicate ks.length 0)
    else if k = 9 then layC (frameW ks) (frameK ks) ks (l.length + 1) (l.set at_ (ptrZ at_ l.length 1 (7 + 8 * (ks.length * (frameW ks + frameK ks) : Nat))) ++ [4 * (ks.length : Int) + 4294967296 * ((frameW ks : Int) + 65536 * frameK ks)] ++ rowsC (frameW ks) (frameK ks) ks)
    else l.set at_ (ptrZ at_ l.length 1 (k - 2 + 8 * ks.length)) ++ putZ (k - 2) (ks.map hd)
def layL : List T → Nat → List Int → List Int
  | [], _, l => l
  | t :: ts, at_, l => layL ts (at_ + 1) (layT t at_ l)
def layC (w k : Nat) : List T → Nat → List Int → List Int
  | [], _, l => l
  | .mk _ _ ks :: ts, at_, l => layC w k ts (at_ + (w + k)) (layL ks (at_ + w) l)
end
theorem layT_mk (k : Int) (w : List Int) (ks : List T) (at_ : Nat) (l : List Int) : layT (.mk k w ks) at_ l = if k = 0 then l
    else if k = 1 then layL ks (l.length + w.length) (l.set at_ (ptrZ at_ (if w.length + ks.length = 0 then at_ else l.length) 0 ((w.length : Int) + 65536 * ks.length)) ++ w ++ List.replicate ks.length 0)
    else if k = 8 then layL ks l.length (l.set at_ (ptrZ at_ l.length 1 (6 + 8 * ks.length)) ++ List.replicate ks.length 0)
    else if k = 9 then layC (frameW ks) (frameK ks) ks (l.length + 1) (l.set at_ (ptrZ at_ l.length 1 (7 + 8 * (ks.length * (frameW ks + frameK ks) : Nat))) ++ [4 * (ks.length : Int) + 4294967296 * ((frameW ks : Int) + 65536 * frameK ks)] ++ rowsC (frameW ks) (frameK ks) ks)
    else l.set at_ (ptrZ at_ l.length 1 (k - 2 + 8 * ks.length)) ++ putZ (k - 2) (ks.map hd) := by rw [layT]
@[simp] theorem layL_nil (at_ : Nat) (l : List Int) : layL [] at_ l = l := by rw [layL]
@[simp] theorem layL_cons (t : T) (ts : List T) (at_ : Nat) (l : List Int) : layL (t :: ts) at_ l = layL ts (at_ + 1) (layT t at_ l) := by rw [layL]
@[simp] theorem layC_nil (w k at_ : Nat) (l : List Int) : layC w k [] at_ l = l := by rw [layC]
@[simp] theorem layC_cons (w k : Nat) (t : T) (ts : List T) (at_ : Nat) (l : List Int) : layC w k (t :: ts) at_ l = layC w k ts (at_ + (w + k)) (layL t.kids (at_ + w) l) := by cases t; rw [layC]; rfl
theorem putL_length : ∀ (w : Nat) (ns : List Int) (i : Nat) (out : List Int), (putL w ns i out).length = out.length
  | w, [], i, out => rfl
  | w, n :: ns, i, out => by
    rw [putL, putL_length]
    split <;> simp
@[simp] theorem putZ_length (c : Int) (ns : List Int) : (putZ c ns).length = (roomZ c ns.length).toNat := by simp [putZ, putL_length]
@[simp] theorem setW_length : ∀ (b : Nat) (ws l : List Int), (setW b ws l).length = l.length
  | _, [], _ => rfl
  | b, x :: ws, l => by rw [setW, setW_length, List.length_set]
/-! ### numbers side by side -/
/-- So far nothing stands behind. -/
structure PutI (w i : Nat) (out : List Int) : Prop where
  rng : ∀ (j : Nat) (h : j < out.length), 0 ≤ out[j] ∧ out[j] < 18446744073709551616
  here : ∀ (h : i * w / 64 < out.length), out[i * w / 64] < 2 ^ (i * w % 64)
  zero : ∀ (j : Nat) (h : j < out.length), i * w / 64 < j → out[j] = 0
theorem PutI.start (w m : Nat) : PutI w 0 (List.replicate m 0) := ⟨fun j h => by simp, fun h => by simp, fun j h _ => by simp⟩
theorem putI_step {w i : Nat} {out : List Int} (h : PutI w i out) (hw : w = 1 ∨ w = 8 ∨ w = 16 ∨ w = 32 ∨ w = 64) {n : Int} (h0 : 0 ≤ n) (h1 : n < 2 ^ w) (hl : i * w / 64 < out.length) : PutI w (i + 1) (out.set (i * w / 64) (out.getD (i * w / 64) 0 + n * 2 ^ (i * w % 64))) ∧
    0 ≤ out.getD (i * w / 64) 0 ∧ out.getD (i * w / 64) 0 < 2 ^ (i * w % 64) ∧ n * 2 ^ (i * w % 64) < 18446744073709551616 ∧ out.getD (i * w / 64) 0 + n * 2 ^ (i * w % 64) < 18446744073709551616 := by
  have hg : out.getD (i * w / 64) 0 = out[i * w / 64] := by simp [hl]
  rw [hg]
  obtain ⟨r0, r1⟩ := h.rng _ hl
  have hh := h.here hl
  have hs : i * w % 64 + w ≤ 64 := by
    rcases hw with rfl | rfl | rfl | rfl | rfl <;> omega
  have hp : (0 : Int) < 2 ^ (i * w % 64) := Int.pow_pos (by decide)
  have hsum : out[i * w / 64] + n * 2 ^ (i * w % 64) < 2 ^ (i * w % 64 + w) := by
    have e1 : n * 2 ^ (i * w % 64) ≤ (2 ^ w - 1) * 2 ^ (i * w % 64) := Int.mul_le_mul_of_nonneg_right (by omega) (by omega)
    have e2 : (2 ^ w - 1) * 2 ^ (i * w % 64) = (2 : Int) ^ (i * w % 64 + w) - 2 ^ (i * w % 64) := by
      rw [Int.sub_mul, Int.one_mul, Int.pow_add, Int.mul_comm]
    omega
  have hle : (2 : Int) ^ (i * w % 64 + w) ≤ 2 ^ 64 := by
    have e : ∀ k : Nat, (2 : Int) ^ k = ((2 ^ k : Nat) : Int) := fun k => by simp
    rw [e, e]
    exact Int.ofNat_le.2 (Nat.pow_le_pow_right (by decide) hs)
  have hnn : 0 ≤ n * 2 ^ (i * w % 64) := Int.mul_nonneg h0 (by omega)
  have h64 : (2 : Int) ^ 64 = 18446744073709551616 := by decide
  refine ⟨⟨fun j hj => ?_, fun hj => ?_, fun j hj hlt => ?_⟩, r0, hh, by omega, by omega⟩
  · rw [List.getElem_set]
    split
    · omega
    · exact h.rng j (by simpa using hj)
  · rw [List.getElem_set]
    split
    · rename_i e
      have e3 : (i + 1) * w % 64 = i * w % 64 + w := by
        rw [Nat.add_mul, Nat.one_mul] at e ⊢
        rcases hw with rfl | rfl | rfl | rfl | rfl <;> omega
      rw [e3]
      exact hsum
    · rename_i e
      have e4 : i * w / 64 < (i + 1) * w / 64 := by
        have : i * w / 64 ≤ (i + 1) * w / 64 := Nat.div_le_div_right (by rw [Nat.add_mul]; omega)
        omega
      rw [h.zero _ (by simpa using hj) e4]
      exact Int.pow_pos (by decide)
  · have e5 : i * w / 64 ≤ (i + 1) * w / 64 := Nat.div_le_div_right (by rw [Nat.add_mul]; omega)
    rw [List.getElem_set]
    split
    · omega
    · exact h.zero j (by simpa using hj) (by omega)
theorem put_at {w n i : Nat} (hw : w = 1 ∨ w = 8 ∨ w = 16 ∨ w = 32 ∨ w = 64) (h : i < n) : i * w / 64 < (n * w + 63) / 64 := by
  have : (i + 1) * w ≤ n * w := Nat.mul_le_mul_right _ h
  rw [Nat.add_mul] at this
  rcases hw with rfl | rfl | rfl | rfl | rfl <;> omega
/-! ### what is laid leaves other words -/
/-- Words ahead stay, and what is laid does not look at them. -/
def LS (f : Nat → List Int → List Int) (n : Nat) : Prop := ∀ (at_ p : Nat) (x : Int) (l : List Int), p < l.length → (p < at_ ∨ at_ + n ≤ p) → f at_ (l.set p x) = (f at_ l).set p x
def LM (f : Nat → List Int → List Int) : Prop := ∀ (at_ : Nat) (l : List Int), l.length ≤ (f at_ l).length
theorem set_app {l m : List Int} {p : Nat} {x : Int} (h : p < l.length) : l.set p x ++ m = (l ++ m).set p x := by rw [List.set_append_left _ _ h]
theorem layL_ls : ∀ {ts : List T}, (∀ t, t ∈ ts → LS (layT t) 1 ∧ LM (layT t)) → LS (layL ts) ts.length ∧ LM (layL ts)
  | [], _ => ⟨fun at_ p x l _ _ => by simp, fun at_ l => by simp⟩
  | t :: ts, h => by
    obtain ⟨h1, h2⟩ := h t (by simp)
    obtain ⟨h3, h4⟩ := layL_ls (ts := ts) fun u hu => h u (by simp [hu])
    refine ⟨fun at_ p x l hp hr => ?_, fun at_ l => ?_⟩
    · simp only [List.length_cons] at hr
      have := h2 at_ l
      rw [layL_cons, layL_cons, h1 at_ p x l hp (by omega), h3 (at_ + 1) p x _ (by omega) (by omega)]
    · rw [layL_cons]
      exact Nat.le_trans (h2 at_ l) (h4 _ _)
theorem layC_ls {w k : Nat} : ∀ {ts : List T}, (∀ t, t ∈ ts → LS (layL t.kids) t.kids.length ∧ LM (layL t.kids)) → (∀ (at_ p : Nat) (x : Int) (l : List Int), p < l.length → p < at_ → layC w k ts at_ (l.set p x) = (layC w k ts at_ l).set p x) ∧ LM (layC w k ts)
  | [], _ => ⟨fun at_ p x l _ _ => by simp, fun at_ l => by simp⟩
  | t :: ts, h => by
    obtain ⟨h1, h2⟩ := h t (by simp)
    obtain ⟨h3, h4⟩ := layC_ls (w := w) (k := k) (ts := ts) fun u hu => h u (by simp [hu])
    refine ⟨fun at_ p x l hp hr => ?_, fun at_ l => ?_⟩
    · have := h2 (at_ + w) l
      rw [layC_cons, layC_cons, h1 (at_ + w) p x l hp (by omega), h3 _ p x _ (by omega) (by omega)]
    · rw [layC_cons]
      exact Nat.le_trans (h2 _ l) (h4 _ _)
theorem lay_ls : ∀ t : T, (LS (layT t) 1 ∧ LM (layT t)) ∧ (LS (layL t.kids) t.kids.length ∧ LM (layL t.kids)) := by
  refine T.ind fun k w ks ih => ?_
  have hK := layL_ls fun t ht => (ih t ht).1
  have hC := fun (w k : Nat) => layC_ls (w := w) (k := k) fun t ht => (ih t ht).2
  refine ⟨⟨fun at_ p x l hp hr => ?_, fun at_ l => ?_⟩, hK⟩
  · have hne : at_ ≠ p := by omega
    rw [layT_mk, layT_mk]
    simp only [List.length_set]
    split
    · rfl
    · split
      · rw [List.set_comm _ _ (Ne.symm hne), set_app (by simpa using hp), set_app (by simp; omega), hK.1 _ _ _ _ (by simp; omega) (by omega)]
      · split
        · rw [List.set_comm _ _ (Ne.symm hne), set_app (by simpa using hp), hK.1 _ _ _ _ (by simp; omega) (by omega)]
        · split
          · rw [List.set_comm _ _ (Ne.symm hne), set_app (by simpa using hp), set_app (by simp; omega), (hC _ _).1 _ _ _ _ (by simp; omega) (by omega)]
          · rw [List.set_comm _ _ (Ne.symm hne), set_app (by simpa using hp)]
  · rw [layT_mk]
    split
    · exact Nat.le_refl _
    · split
      · exact Nat.le_trans (by simp) (hK.2 _ _)
      · split
        · exact Nat.le_trans (by simp) (hK.2 _ _)
        · split
          · exact Nat.le_trans (by simp) ((hC _ _).2 _ _)
          · simp
theorem layL_set (ts : List T) : LS (layL ts) ts.length := (layL_ls fun t _ => (lay_ls t).1).1
theorem layL_setW {ts : List T} : ∀ (ws : List Int) (b at_ : Nat) (l : List Int), b + ws.length ≤ l.length → at_ + ts.length ≤ b → layL ts at_ (setW b ws l) = setW b ws (layL ts at_ l)
  | [], b, at_, l, _, _ => rfl
  | x :: ws, b, at_, l, h, h2 => by
    simp only [List.length_cons] at h
    rw [setW, setW, layL_setW ws (b + 1) at_ _ (by simp; omega) (by omega), layL_set ts at_ b x l (by omega) (by omega)]
/-- As the program lays the structs of a list: each with its kids. -/
def cpC (w long : Nat) : List T → Nat → List Int → List Int
  | [], _, l => l
  | t :: ts, b, l => cpC w long ts (b + long) (layL t.kids (b + w) (setW b t.words l))
def fillC (long : Nat) : List T → Nat → List Int → List Int
  | [], _, l => l
  | t :: ts, b, l => fillC long ts (b + long) (setW b t.words l)
theorem fillC_lay {long : Nat} {ks : List T} : ∀ (ts : List T) (b at_ : Nat) (l : List Int), (∀ t, t ∈ ts → t.words.length ≤ long) → b + ts.length * long ≤ l.length → at_ + ks.length ≤ b → fillC long ts b (layL ks at_ l) = layL ks at_ (fillC long ts b l)
  | [], b, at_, l, _, _, _ => rfl
  | t :: ts, b, at_, l, hw, h, h2 => by
    have h3 := hw t (by simp)
    simp only [List.length_cons, Nat.add_mul, Nat.one_mul] at h
    rw [fillC, fillC, ← layL_setW _ _ _ _ (by omega) h2, fillC_lay ts _ _ _ (fun u hu => hw u (by simp [hu])) (by simp; omega) (by omega)]
inductive LayOk : T → Prop
  | null (w : List Int) : LayOk (.mk 0 w [])
  | str (w : List Int) (ks : List T) : w.length < 65536 → ks.length < 65536 → (∀ t, t ∈ ks → LayOk t) → LayOk (.mk 1 w ks)
  | ptrs (w : List Int) (ks : List T) : ks.length < 536870912 → (∀ t, t ∈ ks → LayOk t) → LayOk (.mk 8 w ks)
  | comp (w : List Int) (ks : List T) : ks.length < 536870912 → (∀ t, t ∈ ks → t.words.length < 65536 ∧ t.kids.length < 65536) → (∀ t, t ∈ ks → ∀ u, u ∈ t.kids → LayOk u) → LayOk (.mk 9 w ks)
  | data (k : Int) (w : List Int) (ks : List T) : 2 ≤ k → k ≤ 7 → ks.length < 536870912 → (∀ c, c ∈ ks → ∃ x, c.words = [x] ∧ 0 ≤ x ∧ x < 18446744073709551616 ∧ fitsZ (k - 2) x = true) → LayOk (.mk k w ks)
def LN (f : Nat → List Int → List Int) (n : Int) : Prop := ∀ (at_ : Nat) (l : List Int), ((f at_ l).length : Int) = l.length + n
theorem layL_ln : ∀ {ts : List T}, (∀ t, t ∈ ts → LN (layT t) (sizeT t)) → LN (layL ts) (sizeL ts)
  | [], _ => fun at_ l => by simp
  | t :: ts, h => fun at_ l => by
    rw [layL_cons, layL_ln (ts := ts) (fun u hu => h u (by simp [hu])), h t (by simp), sizeL_cons]
    omega
theorem layC_ln {w k : Nat} : ∀ {ts : List T}, (∀ t, t ∈ ts → LN (layL t.kids) (sizeL t.kids)) → LN (layC w k ts) (sizeLL ts)
  | [], _ => fun at_ l => by simp
  | t :: ts, h => fun at_ l => by
    rw [layC_cons, layC_ln (ts := ts) (fun u hu => h u (by simp [hu])), h t (by simp), sizeLL_cons]
    omega
theorem frameW_le : ∀ {ts : List T} {t : T}, t ∈ ts → t.words.length ≤ frameW ts
  | u :: ts, t, h => by
    rcases List.mem_cons.1 h with rfl | h
    · simp only [frameW]; omega
    · have := frameW_le h
      simp only [frameW]; omega
theorem frameK_le : ∀ {ts : List T} {t : T}, t ∈ ts → t.kids.length ≤ frameK ts
  | u :: ts, t, h => by
    rcases List.mem_cons.1 h with rfl | h
    · simp only [frameK]; omega
    · have := frameK_le h
      simp only [frameK]; omega
theorem rowsC_length {w k : Nat} : ∀ (ts : List T), (∀ t, t ∈ ts → t.words.length ≤ w + k) → (rowsC w k ts).length = ts.length * (w + k)
  | [], _ => by simp [rowsC]
  | t :: ts, h => by
    have h1 := h t (by simp)
    rw [rowsC, List.length_append, List.length_append, List.length_replicate, rowsC_length ts fun u hu => h u (by simp [hu])]
    simp only [List.length_cons, Nat.add_mul, Nat.one_mul]
    omega
theorem roomZ_nonneg (c n : Int) : 0 ≤ roomZ c n := by
  unfold roomZ bitsZ
  repeat' split
  all_goals omega
theorem lay_len : ∀ t : T, (LayOk t → LN (layT t) (sizeT t)) ∧ ((∀ u, u ∈ t.kids → LayOk u) → LN (layL t.kids) (sizeL t.kids)) := by
  refine T.ind fun k w ks ih => ?_
  have hK : (∀ u, u ∈ ks → LayOk u) → LN (layL ks) (sizeL ks) := fun h => layL_ln fun t ht => (ih t ht).1 (h t ht)
  refine ⟨fun h at_ l => ?_, hK⟩
  rw [layT_mk, sizeT_mk]
  cases h with
  | null => simp
  | str w ks b1 b2 h =>
    rw [if_neg (by decide), if_pos rfl, if_pos rfl, hK h]
    simp
    omega
  | ptrs w ks b1 h =>
    rw [if_neg (by decide), if_neg (by decide), if_pos rfl, if_neg (by decide), if_pos rfl, hK h]
    simp
    omega
  | comp w ks b1 b2 h =>
    have hr := rowsC_length (w := frameW ks) (k := frameK ks) ks fun t ht => by have := frameW_le ht; omega
    rw [if_neg (by decide), if_neg (by decide), if_neg (by decide), if_pos rfl, if_neg (by decide), if_neg (by decide), if_neg (by decide), if_pos rfl, layC_ln fun t ht => (ih t ht).2 (h t ht)]
    simp only [List.length_append, List.length_set, List.length_singleton, hr]
    have e : ((ks.length * (frameW ks + frameK ks) : Nat) : Int) = (ks.length : Int) * ((frameW ks : Int) + frameK ks) := by rw [Int.natCast_mul, Int.natCast_add]
    rw [← e]
    omega
  | data k w ks h1 h2 b1 b2 =>
    rw [if_neg (by omega), if_neg (by omega), if_neg (by omega), if_neg (by omega), if_neg (by omega), if_neg (by omega), if_pos ⟨h1, h2⟩]
    simp only [List.length_append, List.length_set, putZ_length, List.length_map]
    have := roomZ_nonneg (k - 2) ks.length
    omega
theorem layL_len {ts : List T} (h : ∀ t, t ∈ ts → LayOk t) : LN (layL ts) (sizeL ts) := layL_ln fun t ht => (lay_len t).1 (h t ht)
theorem size_nonneg : ∀ t : T, (LayOk t → 0 ≤ sizeT t) ∧ ((∀ u, u ∈ t.kids → LayOk u) → 0 ≤ sizeL t.kids) := fun t => by
  refine ⟨fun h => ?_, fun h => ?_⟩
  · have h1 := (lay_len t).1 h 0 []
    simp at h1
    omega
  · have h1 := (lay_len t).2 h 0 []
    simp at h1
    omega
theorem cpC_eq {w k : Nat} : ∀ (ts : List T) (b : Nat) (l : List Int), (∀ t, t ∈ ts → t.words.length ≤ w ∧ t.kids.length ≤ k) → b + ts.length * (w + k) ≤ l.length → cpC w (w + k) ts b l = layC w k ts b (fillC (w + k) ts b l)
  | [], b, l, _, _ => by simp [cpC, fillC]
  | t :: ts, b, l, hw, h => by
    obtain ⟨h3, h4⟩ := hw t (by simp)
    simp only [List.length_cons, Nat.add_mul, Nat.one_mul] at h
    have hm := ((layL_ls fun t _ => (lay_ls t).1).2 : LM (layL t.kids)) (b + w) (setW b t.words l)
    rw [setW_length] at hm
    rw [cpC, layC_cons, fillC, cpC_eq ts _ _ (fun u hu => hw u (by simp [hu])) (by omega), fillC_lay ts _ _ _ (fun u hu => by have := (hw u (by simp [hu])).1; omega) (by simp; omega) (by omega)]
theorem setW_app : ∀ (ws : List Int) (a z : List Int), ws.length ≤ z.length → setW a.length ws (a ++ z) = a ++ ws ++ z.drop ws.length
  | [], a, z, _ => by simp [setW]
  | x :: ws, a, [], h => by simp at h
  | x :: ws, a, y :: z, h => by
    simp only [List.length_cons] at h
    have : (a ++ y :: z).set a.length x = (a ++ [x]) ++ z := by simp
    rw [setW, this, show a.length + 1 = (a ++ [x]).length from by simp, setW_app ws (a ++ [x]) z (by omega)]
    simp
theorem fillC_app {w k : Nat} : ∀ (ts : List T) (a : List Int), (∀ t, t ∈ ts → t.words.length ≤ w + k) → fillC (w + k) ts a.length (a ++ List.replicate (ts.length * (w + k)) 0) = a ++ rowsC w k ts
  | [], a, _ => by simp [fillC, rowsC]
  | t :: ts, a, h => by
    have h1 := h t (by simp)
    have e : List.replicate ((t :: ts).length * (w + k)) (0 : Int) = List.replicate (w + k) 0 ++ List.replicate (ts.length * (w + k)) 0 := by
      rw [List.replicate_append_replicate]
      congr 1
      simp only [List.length_cons, Nat.add_mul, Nat.one_mul]
      omega
    rw [fillC, e, setW_app _ _ _ (by simp; omega), rowsC]
    have e2 : a ++ t.words ++ List.drop t.words.length (List.replicate (w + k) (0 : Int) ++ List.replicate (ts.length * (w + k)) 0) = (a ++ t.words ++ List.replicate (w + k - t.words.length) 0) ++ List.replicate (ts.length * (w + k)) 0 := by
      rw [List.drop_append_of_le_length (by simp; omega), List.drop_replicate]
      simp
    have e3 : a.length + (w + k) = (a ++ t.words ++ List.replicate (w + k - t.words.length) (0 : Int)).length := by simp; omega
    rw [e2, e3, fillC_app ts _ fun u hu => h u (by simp [hu])]
    simp
end Go.PL

/-
  Chapters 10 and 14, plain: what means something within limits is a right tree; it can be laid.
-/
namespace Go.Proofs.YthfiijdbnkaabaaGreat
set_option linter.unusedVariables false
set_option linter.unusedSimpArgs false
open Go Go.G Go.Proofs Go.PL
theorem kid_comp {l : List (List Int)} {r : Rf} (h : r.kind = 9) {i : Int} (h0 : 0 ≤ i) (h1 : i < nk r) : (kidP l r i).1.kind = 1 := by
  rw [kidP, if_neg (by omega), if_neg (by omega), if_neg (by omega), if_pos h]
/-! ### a right tree -/
end Go.Proofs.YthfiijdbnkaabaaGreat

/-
  Chapter 15: the law EqualGoes.
-/
namespace Go.Proofs.YthfiijdbnkaabaaGreat
set_option linter.unusedVariables false
set_option linter.unusedSimpArgs false
open Go Go.G Go.Proofs Go.PL
abbrev s1 : List (List Int) := [[4294967296, 7]]
abbrev s2 : List (List Int) := [[8589934592, 7, 0]]
abbrev s3 : List (List Int) := [[4294967296, 8]]
end Go.Proofs.YthfiijdbnkaabaaGreat

/-
  Chapter 15: the hash.
-/
namespace Go.Proofs.YthfiijdbnkaabaaGreat
set_option linter.unusedVariables false
set_option linter.unusedSimpArgs false
open Go Go.G Go.Proofs Go.PL
def mixG (h x : Int) : Int := IntKind.u64.wrap (bits .xor .u64 h x * 1099511628211)
def mixH (h x : Int) : Int := bits .xor .u64 (mixG h x) (mixG h x / 2 ^ min 29 IntKind.u64.bits)
mutual
def hashN : T → Int
  | .mk k w l => hashL (w.foldl mixH (mixH (mixH 14695981039346656037 (IntKind.u64.wrap k)) (IntKind.u64.wrap w.length))) l
def hashL : Int → List T → Int
  | h, [] => h
  | h, t :: l => hashL (mixH h (hashN t)) l
end
end Go.Proofs.YthfiijdbnkaabaaGreat

/-
  The document's trees: how many words they take; which ones are right.
-/
namespace Go.Proofs.YthfiijdbnkaabaaGreat
set_option linter.unusedVariables false
set_option linter.unusedSimpArgs false
open Go Go.G Go.Proofs Go.PL
theorem wf_norm : ∀ (t : T), wfT t → wfT (norm t) := by
  refine T.ind fun k w l ih hw => ?_
  have hw' := wfT_iff.1 hw
  rw [norm_mk]
  have h2 : ∀ (l : List T), (∀ t, t ∈ l → ∃ u, u ∈ l ∧ t = u) → True := fun _ _ => trivial
  have hm : ∀ t, t ∈ l.map norm → wfT t := fun t ht => by
    obtain ⟨u, hu, rfl⟩ := List.mem_map.1 ht
    exact ih u hu (hw'.ks u hu)
  split
  · exact wfT_iff.2 ⟨by simp [i64R], by simp, by simp, by simp, by simp⟩
  · split
    · refine wfT_iff.2 ⟨by simp [i64R], fun x hx => ?_, ?_, ?_, fun t ht => ?_⟩
      · simp only [T.words_mk] at hx
        rw [trimW_take] at hx
        exact hw'.w x (List.mem_of_mem_take hx)
      · have := trimW_le w
        have := hw'.wl
        simp at this ⊢
        omega
      · have := trimK_le (l.map norm)
        have := hw'.kl
        simp at this ⊢
        simp at *
        omega
      · simp only [T.kids_mk] at ht
        rw [trimK_take] at ht
        exact hm t (List.mem_of_mem_take ht)
    · exact wfT_iff.2 ⟨hw'.k, hw'.w, hw'.wl, by simpa using hw'.kl, by simpa using hm⟩
section
variable {n0 : Nat} {w0 : World} {I0 : Nat → Prop} {Q : Exit → Sta → Prop}
end
/-! ### right -/
theorem fits_word {c : T} (h : wfT c) (hl : c.words.length = 1) : ∃ x, c.words = [x] ∧ u64R x := by
  have := (wfT_iff.1 h).w
  match hc : c.words, hl with
  | [x], _ => exact ⟨x, rfl, this x (by simp [hc])⟩
theorem right_kind10 {d : Nat} {c : T} (h : rightT d c = true) (h10 : c.kind = 10) : c.words.length = 1 := by
  obtain ⟨k, w, l⟩ := c
  simp at h10
  subst h10
  rw [rightT_mk] at h
  simp at h
  exact h.1
section
variable {n0 : Nat} {w0 : World} {I0 : Nat → Prop} {Q : Exit → Sta → Prop}
theorem right_l1 {t : T} (hl : t.kids.length * 56 ≤ 140737488355328) (hk0 : 0 ≤ t.kind) (hk1 : t.kind ≤ 10) {d : Nat} (hd : 1 ≤ d) (hd1 : d ≤ 1000) (hw : ∀ c, c ∈ t.kids → wfT c) (ih : ∀ c, c ∈ t.kids → ∀ d : Nat, d ≤ 1000 → G.Spec Tryz.prog 17 [tX c, iv d] (bv (rightT d c))) : ∀ (m i : Nat) (H : Hp), i + m = t.kids.length → H [0] = ⟨1, .cells (tL t)⟩ →
    (rightL (d - 1) t.kind (t.kids.drop i) = true → ∀ i' q H', Q (.exit 0) ⟨lk [(1, iv d), (2, .pob [0] 1 0), (5, iv i'), (82, bv q)], H'⟩) → (rightL (d - 1) t.kind (t.kids.drop i) = false → ∀ H', Q .ret ⟨lk [(4, bv false)], H'⟩) →
    LoopC (cx Tryz.prog w0 I0 n0) l1_centoref07_Right Q ⟨lk [(1, iv d), (2, .pob [0] 1 0), (5, iv i)], H⟩ := by
  intro m
  induction m with
  | zero =>
    intro i H hi hA h1 h2
    have : i = t.kids.length := by omega
    subst this
    refine loopC_once mixed l1_centoref07_Right.eq_1 ?_
    simp [hA]
    exact h1 (by simp) _ _ _
  | succ m ihm =>
    intro i H hi hA h1 h2
    have hlt : i < t.kids.length := by omega
    have e : t.kids.drop i = t.kids[i] :: t.kids.drop (i + 1) := List.drop_eq_getElem_cons hlt
    have ei : IntKind.i64.wrap ((i : Int) + 1) = ((i + 1 : Nat) : Int) := i64_same (by omega) (by omega)
    have ed : IntKind.i64.wrap ((d : Int) - 1) = ((d - 1 : Nat) : Int) := by rw [i64_same (by omega) (by omega)]; omega
    rw [e, rightL_cons] at h1 h2
    have hwc := hw _ (List.getElem_mem hlt)
    have ihc := ih _ (List.getElem_mem hlt) (d - 1) (by omega)
    generalize hc : t.kids[i] = c at *
    refine loopC_once mixed l1_centoref07_Right.eq_1 ?_
    simp [hA, hlt, hc, updF_app, ed]
    refine sc_call ihc rfl ?_
    cases hr : rightT (d - 1) c with
    | false =>
      simp
      exact h2 (by simp [hr]) _
    | true =>
      rw [hr] at h1 h2
      have good : kidOk t.kind c = true → ∀ H', H' [0] = ⟨1, .cells (tL t)⟩ → LoopC (cx Tryz.prog w0 I0 n0) l1_centoref07_Right Q ⟨lk [(1, iv d), (2, .pob [0] 1 0), (5, iv ((i : Int) + 1))], H'⟩ := fun hg H' hA' =>
        ihm (i + 1) H' (by omega) hA' (fun hh => h1 (by simp [hg, hh])) (fun hh => h2 (by simp [hh]))
      have bad : kidOk t.kind c = false → ∀ H', Q .ret ⟨lk [(4, bv false)], H'⟩ := fun hg => h2 (by simp [hg])
      rw [show ((i + 1 : Nat) : Int) = (i : Int) + 1 from rfl] at ei
      by_cases hD : 2 ≤ t.kind ∧ t.kind ≤ 7
      · obtain ⟨d2, d7⟩ := hD
        have d9 : ¬ t.kind = 9 := by omega
        by_cases h10 : c.kind = 10
        · obtain ⟨x, hx, hx64⟩ := fits_word hwc (right_kind10 hr h10)
          have hk : kidOk t.kind c = fitsZ (t.kind - 2) x := by simp [kidOk, isData, d2, d7, d9, h10, hx]
          have e2 : IntKind.i64.wrap (t.kind - 2) = t.kind - 2 := i64_same (by omega) (by omega)
          simp [updF_app, hA, d2, d7, d9, h10, hx, e2]
          refine sc_call_gt rfl (fun _ => rFits_spec hx64) (fun _ => rfl) rfl ?_
          cases hf : fitsZ (t.kind - 2) x with
          | false => simp; exact bad (by rw [hk, hf]) _
          | true => simp [ei]; exact good (by rw [hk, hf]) _ (by simp [updF_app, hA])
        · have hk : kidOk t.kind c = false := by simp [kidOk, isData, d2, d7, d9, h10]
          simp [updF_app, hA, d2, d7, d9, h10]
          refine sc_call_off rfl ?_
          simp
          exact bad hk _
      · have hD' : (decide (2 ≤ t.kind) && decide (t.kind ≤ 7)) = false := by simp; omega
        by_cases h10 : c.kind = 10
        · have hk : kidOk t.kind c = false := by simp [kidOk, isData, hD', h10]
          simp [updF_app, hA, hD', h10]
          refine sc_call_off rfl ?_
          simp
          exact bad hk _
        · by_cases h9 : t.kind = 9
          · by_cases h1' : c.kind = 1
            · have hk : kidOk t.kind c = true := by simp [kidOk, isData, hD', h9, h1']
              rw [h9] at hD'
              simp [updF_app, hA, hD', h10, h9, h1']
              refine sc_call_off rfl ?_
              simp [ei]
              exact good hk _ (by simp [updF_app, hA])
            · have hk : kidOk t.kind c = false := by simp [kidOk, isData, hD', h9, h1', h10]
              rw [h9] at hD'
              simp [updF_app, hA, hD', h10, h9, h1']
              refine sc_call_off rfl ?_
              simp
              exact bad hk _
          · have hk : kidOk t.kind c = true := by simp [kidOk, isData, hD', h9, h10]
            simp [updF_app, hA, hD', h10, h9]
            refine sc_call_off rfl ?_
            simp [ei]
            exact good hk _ (by simp [updF_app, hA])
end
theorem rRight_spec : ∀ (t : T), wfT t → ∀ d : Nat, d ≤ 1000 → G.Spec Tryz.prog 17 [tX t, iv d] (bv (rightT d t)) := by
  refine T.ind fun k w l ih hw d hd => ?_
  have hw' := wfT_iff.1 hw
  have hwl := hw'.wl
  have hkl := hw'.kl
  simp at hwl hkl
  refine spec_of t_centoref07_Right (by simp) fun w0 I0 => ?_
  unfold c_centoref07_Right
  rw [rightT_mk]
  by_cases h0 : k = 0
  · simp [h0]
    exact frz_bool (by cases w <;> cases l <;> simp <;> (rw [← List.length_eq_zero_iff]; omega))
  by_cases h10 : k = 10
  · simp [h10]
    exact frz_bool (by cases w <;> cases l <;> simp <;> (rw [← List.length_eq_zero_iff]; omega))
  rw [if_neg h0, if_neg h10]
  have bad : tooBig k d w.length l.length = true → ∀ H, Frz H (bv false) (bv (if tooBig k d w.length l.length = true then false else rightL (d - 1) k l)) := fun hb H => frz_bool (by simp [hb])
  by_cases ha : k < 0 ∨ 10 < k ∨ d = 0 ∨ 65536 ≤ w.length
  · have ha' : (decide (k < 0) || decide (10 < k) || decide (d = 0) || decide (65536 ≤ (w.length : Int))) = true := by simp; omega
    simp [h0, h10, ha']
    have := bad (by simp [tooBig]; omega) (lkH [([0], { u := 1, ob := Ob.cells [iv k, uws w, tKs l] })])
    simpa using this
  have ha' : (decide (k < 0) || decide (10 < k) || decide (d = 0) || decide (65536 ≤ (w.length : Int))) = false := by simp; omega
  by_cases h1 : k = 1 ∧ 65536 ≤ l.length
  · have hl : (65536 : Int) ≤ l.length := by omega
    simp [h0, h10, ha', h1.1, hl]
    have := bad (by simp [tooBig]; omega) (lkH [([0], { u := 1, ob := Ob.cells [iv k, uws w, tKs l] })])
    simpa [h1.1] using this
  by_cases h2 : 1048576 ≤ l.length
  · have hl : (1048576 : Int) ≤ l.length := by omega
    have hk1 : ¬ k = 1 := by omega
    simp [h0, h10, ha', hk1, hl]
    have := bad (by simp [tooBig]; omega) (lkH [([0], { u := 1, ob := Ob.cells [iv k, uws w, tKs l] })])
    simpa using this
  have hl2 : ¬ (1048576 : Int) ≤ l.length := by omega
  by_cases h3 : 1 < k ∧ 0 < w.length
  · have hk1 : ¬ k = 1 := by omega
    have hw0 : w ≠ [] := fun e => by simp [e] at h3
    simp [h0, h10, ha', hk1, hl2, h3.1, h3.2, hw0]
    have := bad (by simp [tooBig]; omega) (lkH [([0], { u := 1, ob := Ob.cells [iv k, uws w, tKs l] })])
    simpa using this
  have hb : tooBig k d w.length l.length = false := by
    rw [Bool.eq_false_iff]
    unfold tooBig
    simp only [Bool.or_eq_true, Bool.and_eq_true, decide_eq_true_eq, ne_eq]
    omega
  have hw0 : (1 < k → w = []) := fun h => List.eq_nil_of_length_eq_zero (by omega)
  have fin : LoopC (cx Tryz.prog w0 I0 132) l1_centoref07_Right (InBlock 0 (ThenC (WPC (cx Tryz.prog w0 I0 132) (.keep [] (.seq (.reg [co (some 4) (.assign (.const (.bool true))) none] [4]) .ret)) (RetC Tryz.prog [.tmp 4] (bv (rightL (d - 1) k l)))) (RetC Tryz.prog [.tmp 4] (bv (rightL (d - 1) k l))))) ⟨lk [(1, iv d), (2, .pob [0] 1 0), (5, iv 0)], lkH [([0], ⟨1, .cells [iv k, uws w, tKs l]⟩)]⟩ := by
    refine right_l1 (t := .mk k w l) (by simpa using hkl) (by simp; omega) (by simp; omega) (by omega) hd (fun c hc => hw'.ks c hc) (fun c hc => ih c hc (hw'.ks c hc)) l.length 0 _ (by simp) (by simp) (fun hr i' q H' => ?_) (fun hr H' => ?_)
    · simp
      exact frz_bool (by simpa using hr.symm)
    · simp
      exact frz_bool (by simpa using hr.symm)
  rw [if_neg (by simp [hb])]
  by_cases k1 : k = 1
  · have hl3 : ¬ (65536 : Int) ≤ l.length := by omega
    have ha1 : (decide (d = 0) || decide (65536 ≤ (w.length : Int))) = false := by simp; omega
    simp [ha1, k1, hl2, hl3]
    simpa [k1] using fin
  · simp [h0, h10, ha', k1, hl2]
    refine ⟨fun a b => absurd ⟨a, by omega⟩ h3, fun _ => ?_⟩
    exact fin
end Go.Proofs.YthfiijdbnkaabaaGreat

/-
  Chapter 16, plain: places that are hashed by hand.
-/
namespace Go.PL
set_option linter.unusedVariables false
set_option linter.unusedSimpArgs false
/-- Places of so many classes, by their numbers. -/
structure Pl (hs : List Nat) (pl : List Nat) : Prop where
  cnt : pl.countP (fun v => v != 0) = hs.length
  vals : ∀ v, v ∈ pl → v ≤ hs.length
  reach : ∀ (c : Nat) (hc : c < hs.length), ∃ d, pl[(hs[c] + d) % pl.length]? = some (c + 1) ∧ ∀ e, e < d → pl.getD ((hs[c] + e) % pl.length) 0 ≠ 0
theorem Pl.nil (m : Nat) : Pl [] (List.replicate m 0) := by
  refine ⟨?_, fun v hv => ?_, fun c hc => ?_⟩
  · simp [List.countP_replicate]
  · simp at hv; omega
  · simp at hc
end Go.PL

/-
  Chapter 16: tables of classes.
-/
namespace Go.Proofs.YthfiijdbnkaabaaGreat
set_option linter.unusedVariables false
set_option linter.unusedSimpArgs false
open Go Go.G Go.Proofs Go.PL
/-- A class: its number of what it means; where its value lies, and what it means. -/
structure Cl where
  l : List (List Int)
  r : Rf
  t : T
noncomputable def Cl.h (c : Cl) : Int := hashN (norm c.t)
noncomputable def Cl.hn (c : Cl) : Nat := c.h.toNat
abbrev clL (h : Int) (l : List (List Int)) (r : Rf) : List A := uv h :: paL l r
noncomputable def Cl.a (c : Cl) : A := .agg (clL c.h c.l c.r)
abbrev nv (n : Nat) : A := iv (n : Int)
/-- A table: versions, classes, places. -/
structure Tb where
  u : Nat
  uc : Nat
  up : Nat
  cl : List Cl
  pl : List Nat
structure Tb.Ok (S : Tb) : Prop where
  p8 : 8 ≤ S.pl.length
  half : 2 * S.cl.length ≤ S.pl.length
  most : S.pl.length ≤ 8 + 4 * S.cl.length
  pl : Pl (S.cl.map Cl.hn) S.pl
  means : ∀ c, c ∈ S.cl → Sg c.l ∧ Means c.l c.r c.t
  nd : (S.cl.map fun c => norm c.t).Nodup
noncomputable def Tb.ks (S : Tb) : List T := S.cl.map fun c => norm c.t
@[simp] theorem Tb.ks_length (S : Tb) : S.ks.length = S.cl.length := by simp [Tb.ks]
theorem Tb.Ok.lt {S : Tb} (h : S.Ok) : S.cl.length < S.pl.length := by have := h.p8; have := h.half; omega
/-- But for its room. -/
structure Tb.Ok1 (S : Tb) : Prop where
  p8 : 8 ≤ S.pl.length
  half : 2 * S.cl.length ≤ S.pl.length + 2
  most : S.pl.length ≤ 8 + 4 * S.cl.length
  pl : Pl (S.cl.map Cl.hn) S.pl
  means : ∀ c, c ∈ S.cl → Sg c.l ∧ Means c.l c.r c.t
  nd : (S.cl.map fun c => norm c.t).Nodup
theorem Tb.Ok1.ok {S : Tb} (h : S.Ok1) (hf : ¬ S.pl.length < 2 * S.cl.length) : S.Ok := ⟨h.p8, by omega, h.most, h.pl, h.means, h.nd⟩
section
variable {n0 : Nat} {w0 : World} {I0 : Nat → Prop} {Q : Exit → Sta → Prop}
end
end Go.Proofs.YthfiijdbnkaabaaGreat

/-
  Chapter 16: a table grows; the class of a value.
-/
namespace Go.Proofs.YthfiijdbnkaabaaGreat
set_option linter.unusedVariables false
set_option linter.unusedSimpArgs false
open Go Go.G Go.Proofs Go.PL
section
variable {n0 : Nat} {w0 : World} {I0 : Nat → Prop} {M0 : Nm → Nat → Prop} {m0 : Mu} {Q : Exit → Sta → Prop}
end
theorem famL_ref (l : List (List Int)) (r : Rf) : FamA (fun _ => paX l r) := famA_bare rfl fun x hx => by
  simp at hx
  rcases hx with rfl | rfl | rfl | rfl | rfl | rfl | rfl | rfl <;> simp
end Go.Proofs.YthfiijdbnkaabaaGreat

/-
  Chapter 14: a copier; what is given, and pointed to.
-/
namespace Go.Proofs.YthfiijdbnkaabaaGreat
set_option linter.unusedVariables false
set_option linter.unusedSimpArgs false
open Go Go.G Go.Proofs Go.PL
/-- A copier: its row's version, its words. -/
structure Cp where
  v : Nat
  W : List Int
theorem renL_uv {g : Nm → Nm} {δ : Nm → Nat} (l : List Int) : A.renL g δ (l.map uv) = l.map uv := by
  rw [renL_map, List.map_map]
  rfl
/-- The pointer that is laid. -/
def ptQ (p : Pt) (at_ to : Int) : Pt := { p with off := if p.kind = 1 ∧ p.data + p.ptrs = 0 then -1 else to - at_ - 1 }
abbrev ptL (p : Pt) : List A := [iv p.kind, iv p.off, iv p.data, iv p.ptrs, iv p.code, iv p.count, iv p.seg, bv p.dbl]
/-- As the document says it. -/
theorem enc_str {at_ to w k : Int} (h0 : 0 ≤ at_) (h1 : at_ ≤ 200000) (h2 : 0 ≤ to) (h3 : to ≤ 200000) (w0 : 0 ≤ w) (w1 : w < 65536) (k0 : 0 ≤ k) (k1 : k < 65536) : encW (ptQ ⟨1, 0, w, k, 0, 0, 0, false⟩ at_ to) = ptrZ at_ (if w + k = 0 then at_ else to) 0 (w + 65536 * k) := by
  by_cases hz : w + k = 0
  · have e : ptQ ⟨1, 0, w, k, 0, 0, 0, false⟩ at_ to = ⟨1, -1, w, k, 0, 0, 0, false⟩ := by simp [ptQ, hz]
    rw [e, if_pos hz]
    unfold encW ptrZ
    simp only
    rw [if_pos trivial, if_pos (by omega), if_pos (by omega)]
    omega
  · have e : ptQ ⟨1, 0, w, k, 0, 0, 0, false⟩ at_ to = ⟨1, to - at_ - 1, w, k, 0, 0, 0, false⟩ := by simp [ptQ, hz]
    rw [e, if_neg hz]
    unfold encW ptrZ
    simp only
    rw [if_pos trivial, if_pos (by omega)]
    split <;> omega
theorem enc_list {at_ to c n : Int} (h0 : 0 ≤ at_) (h1 : at_ ≤ 200000) (h2 : 0 ≤ to) (h3 : to ≤ 200000) (c0 : 0 ≤ c) (c1 : c ≤ 7) (n0 : 0 ≤ n) (n1 : n < 536870912) : encW (ptQ ⟨2, 0, 0, 0, c, n, 0, false⟩ at_ to) = ptrZ at_ to 1 (c + 8 * n) := by
  have e : ptQ ⟨2, 0, 0, 0, c, n, 0, false⟩ at_ to = ⟨2, to - at_ - 1, 0, 0, c, n, 0, false⟩ := by simp [ptQ]
  rw [e]
  unfold encW ptrZ
  simp only
  rw [if_neg (by decide), if_pos trivial, if_pos (by omega)]
  split <;> omega
end Go.Proofs.YthfiijdbnkaabaaGreat

/-
  Chapter 14: kids and structs are laid.
-/
namespace Go.Proofs.YthfiijdbnkaabaaGreat
set_option linter.unusedVariables false
set_option linter.unusedSimpArgs false
open Go Go.G Go.Proofs Go.PL
theorem sizeL_nonneg {ts : List T} (h : ∀ u, u ∈ ts → LayOk u) : 0 ≤ sizeL ts := by
  have := layL_len h 0 []
  simp at this
  omega
/-! ### structs -/
section
variable {n0 : Nat} {w0 : World} {I0 : Nat → Prop} {M0 : Nm → Nat → Prop} {m0 : Mu} {Q : Exit → Sta → Prop}
end
end Go.Proofs.YthfiijdbnkaabaaGreat

/-
  Chapter 14: lists are laid; values.
-/
namespace Go.Proofs.YthfiijdbnkaabaaGreat
set_option linter.unusedVariables false
set_option linter.unusedSimpArgs false
open Go Go.G Go.Proofs Go.PL
theorem frame_bound {ts : List T} {w k : Nat} (h : ∀ t, t ∈ ts → t.words.length ≤ w ∧ t.kids.length ≤ k) : frameW ts ≤ w ∧ frameK ts ≤ k := by
  induction ts with
  | nil => simp [frameW, frameK]
  | cons t ts ih =>
    have h1 := h t (by simp)
    have h2 := ih fun u hu => h u (by simp [hu])
    simp only [frameW, frameK]
    omega
section
variable {n0 : Nat} {w0 : World} {I0 : Nat → Prop} {Q : Exit → Sta → Prop}
end
theorem sizeLL_nonneg {ts : List T} (h : ∀ t, t ∈ ts → ∀ u, u ∈ t.kids → LayOk u) : 0 ≤ sizeLL ts := by
  induction ts with
  | nil => simp
  | cons t ts ih =>
    rw [sizeLL_cons]
    have := sizeL_nonneg (h t (by simp))
    have := ih fun u hu => h u (by simp [hu])
    omega
end Go.Proofs.YthfiijdbnkaabaaGreat

/-
  Chapters 1 and 14: numbers side by side.
-/
namespace Go.Proofs.YthfiijdbnkaabaaGreat
set_option linter.unusedVariables false
set_option linter.unusedSimpArgs false
open Go Go.G Go.Proofs Go.PL
theorem width_cases {c : Int} (h0 : 0 ≤ c) (h6 : c < 6) : ∃ w : Nat, widthZ c = w ∧ bitsZ c = w ∧ (w = 0 ∨ w = 1 ∨ w = 8 ∨ w = 16 ∨ w = 32 ∨ w = 64) := by
  have : c = 0 ∨ c = 1 ∨ c = 2 ∨ c = 3 ∨ c = 4 ∨ c = 5 := by omega
  rcases this with rfl | rfl | rfl | rfl | rfl | rfl
  · exact ⟨0, rfl, rfl, by simp⟩
  · exact ⟨1, rfl, rfl, by simp⟩
  · exact ⟨8, rfl, rfl, by simp⟩
  · exact ⟨16, rfl, rfl, by simp⟩
  · exact ⟨32, rfl, rfl, by simp⟩
  · exact ⟨64, rfl, rfl, by simp⟩
theorem fits_lt {c n : Int} {w : Nat} (hw : widthZ c = w) (h0 : 0 ≤ n) (h : fitsZ c n = true) : n < 2 ^ w := by
  simp only [fitsZ, Bool.and_eq_true, decide_eq_true_eq, hw] at h
  have hp : (0 : Int) < 2 ^ w := Int.pow_pos (by decide)
  have h2 := h.2
  simp only [Int.toNat_natCast] at h2
  have h3 := Int.emod_add_mul_ediv n (2 ^ w)
  rw [h2, Int.mul_zero, Int.add_zero] at h3
  rw [← h3]
  exact Int.emod_lt_of_pos _ hp
theorem prod_mod {i w : Nat} (hw : w ≤ 64) (hi : i ≤ 1000000000) : IntKind.i64.wrap ((i : Int) * w) = (i : Int) * w ∧ ((i : Int) * w).tmod 64 = ((i * w % 64 : Nat) : Int) ∧ ((i : Int) * w).tdiv 64 = ((i * w / 64 : Nat) : Int) := by
  have him : i * w ≤ 1000000000 * 64 := Nat.mul_le_mul hi hw
  have e : (i : Int) * w = ((i * w : Nat) : Int) := by rw [Int.natCast_mul]
  rw [e]
  refine ⟨i64_same (by omega) (by omega), ?_, ?_⟩
  · rw [Int.tmod_eq_emod_of_nonneg (by omega)]; omega
  · rw [Int.tdiv_eq_ediv_of_nonneg (by omega)]; omega
section
variable {n0 : Nat} {w0 : World} {I0 : Nat → Prop} {Q : Exit → Sta → Prop}
end
/-! ### the copier's data -/
section
variable {n0 : Nat} {w0 : World} {I0 : Nat → Prop} {M0 : Nm → Nat → Prop} {m0 : Mu} {Q : Exit → Sta → Prop}
end
/-! ### values -/
/-! ### a value's words -/
end Go.Proofs.YthfiijdbnkaabaaGreat

/-
  Plain: which trees mean the same, place by place.
-/
namespace Go.PL
set_option linter.unusedVariables false
set_option linter.unusedSimpArgs false
def trimG {α : Type} (p : α → Bool) (l : List α) : List α := (l.reverse.dropWhile p).reverse
theorem trimG_snoc {α : Type} {p : α → Bool} (l : List α) (x : α) : trimG p (l ++ [x]) = if p x = true then trimG p l else l ++ [x] := by
  unfold trimG
  rw [List.reverse_append, List.reverse_singleton, List.singleton_append, List.dropWhile_cons]
  split <;> simp
theorem snocRec {α : Type} {P : List α → Prop} (h0 : P []) (h1 : ∀ l x, P l → P (l ++ [x])) (l : List α) : P l := by
  have : ∀ m : List α, P m.reverse := by
    intro m
    induction m with
    | nil => exact h0
    | cons x m ih => rw [List.reverse_cons]; exact h1 _ _ ih
  have := this l.reverse
  rwa [List.reverse_reverse] at this
theorem trimG_getD {α : Type} {p : α → Bool} {z : α} (l : List α) : (∀ x, x ∈ l → p x = true → x = z) → ∀ i, (trimG p l).getD i z = l.getD i z := by
  refine snocRec (P := fun l => (∀ x, x ∈ l → p x = true → x = z) → ∀ i, (trimG p l).getD i z = l.getD i z) (fun _ i => rfl) (fun l x ih h i => ?_) l
  rw [trimG_snoc]
  split
  · rename_i hx
    rw [ih (fun y hy => h y (by simp [hy])) i]
    have := h x (by simp) hx
    subst this
    simp only [List.getD_eq_getElem?_getD, List.getElem?_append]
    split
    · rfl
    · rw [List.getElem?_eq_none (by omega)]
      by_cases e : i - l.length = 0
      · simp [e]
      · rw [List.getElem?_eq_none (by simp; omega)]
  · rfl
theorem trimG_last {α : Type} {p : α → Bool} {z : α} (l : List α) : trimG p l ≠ [] → p ((trimG p l).getD ((trimG p l).length - 1) z) = false := by
  refine snocRec (P := fun l => trimG p l ≠ [] → p ((trimG p l).getD ((trimG p l).length - 1) z) = false) (fun h => absurd rfl h) (fun l x ih h => ?_) l
  rw [trimG_snoc] at h ⊢
  split
  · rename_i hx
    rw [if_pos hx] at h
    exact ih h
  · rename_i hx
    simp at hx ⊢
    exact hx
theorem trimG_eq {α : Type} {p : α → Bool} {z : α} (hz : p z = true) {a b : List α} (ha : ∀ x, x ∈ a → p x = true → x = z) (hb : ∀ x, x ∈ b → p x = true → x = z) : trimG p a = trimG p b ↔ ∀ i, a.getD i z = b.getD i z := by
  constructor
  · intro h i
    rw [← trimG_getD a ha, h, trimG_getD b hb]
  · intro h
    have h' : ∀ i, (trimG p a).getD i z = (trimG p b).getD i z := fun i => by rw [trimG_getD a ha, trimG_getD b hb, h]
    have one : ∀ c d : List α, (∀ i, (trimG p c).getD i z = (trimG p d).getD i z) → (trimG p c).length ≤ (trimG p d).length := fun c d hcd => by
      by_cases e : trimG p c = []
      · simp [e]
      · have hl := trimG_last (z := z) c e
        have hpos : 0 < (trimG p c).length := List.length_pos_iff.2 e
        rw [hcd] at hl
        refine Nat.le_of_not_lt fun hlt => ?_
        rw [List.getD_eq_getElem?_getD, List.getElem?_eq_none (by omega)] at hl
        simp [hz] at hl
    have hlen : (trimG p a).length = (trimG p b).length := Nat.le_antisymm (one a b h') (one b a fun i => (h' i).symm)
    apply List.ext_getElem hlen
    intro i h1 h2
    have := h' i
    simpa [List.getD_eq_getElem?_getD, h1, h2] using this
theorem trimW_G (l : List Int) : trimW l = trimG (fun x => x == 0) l := rfl
theorem trimK_G (l : List T) : trimK l = trimG (fun x => x.kind == 0) l := rfl
theorem trimW_eq {a b : List Int} : trimW a = trimW b ↔ ∀ i, a.getD i 0 = b.getD i 0 := by
  rw [trimW_G, trimW_G]
  exact trimG_eq rfl (fun x _ h => by simpa using h) (fun x _ h => by simpa using h)
theorem norm_kind0 {t : T} (h : t.kind = 0) : norm t = T0 := by cases t; simp at h; rw [norm_mk, if_pos h]
theorem norm_T0 : norm T0 = T0 := norm_kind0 rfl
theorem getD_norm (l : List T) (i : Nat) : (l.map norm).getD i T0 = norm (l.getD i T0) := by
  simp only [List.getD_eq_getElem?_getD, List.getElem?_map]
  cases l[i]? with
  | none => simp [norm_T0]
  | some x => rfl
theorem trimK_eq {a b : List T} : trimK (a.map norm) = trimK (b.map norm) ↔ ∀ i, norm (a.getD i T0) = norm (b.getD i T0) := by
  have hz : ∀ c : List T, ∀ x, x ∈ c.map norm → (x.kind == 0) = true → x = T0 := fun c x hx h0 => by
    obtain ⟨y, _, rfl⟩ := List.mem_map.1 hx
    simp at h0
    exact norm_kind0 h0
  rw [trimK_G, trimK_G, trimG_eq (z := T0) rfl (hz a) (hz b)]
  constructor
  · intro h i; rw [← getD_norm, ← getD_norm]; exact h i
  · intro h i; rw [getD_norm, getD_norm]; exact h i
theorem struct_eq {w w' : List Int} {a b : List T} : norm (.mk 1 w a) = norm (.mk 1 w' b) ↔ (∀ i, w.getD i 0 = w'.getD i 0) ∧ ∀ i, norm (a.getD i T0) = norm (b.getD i T0) := by
  rw [norm_mk, norm_mk]
  simp only [if_neg (show ¬ (1 : Int) = 0 by decide), if_true, T.mk.injEq, true_and]
  rw [trimW_eq, trimK_eq]
theorem norm_norm : ∀ t, norm (norm t) = norm t := by
  refine T.ind fun k w ks ih => ?_
  have hm : (ks.map norm).map norm = ks.map norm := by
    rw [List.map_map]
    exact List.map_congr_left fun x hx => ih x hx
  rw [norm_mk]
  split
  · exact norm_T0
  · rename_i h0
    split
    · rename_i h1
      subst h1
      rw [struct_eq (w' := w) (b := ks) |>.2 ⟨fun i => ?_, fun i => ?_⟩, norm_mk]
      · simp
      · rw [trimW_G]
        exact trimG_getD w (fun x _ h => by simpa using h) i
      · have hz : ∀ x, x ∈ ks.map norm → (x.kind == 0) = true → x = T0 := fun x hx h0 => by
          obtain ⟨y, _, rfl⟩ := List.mem_map.1 hx
          simp at h0
          exact norm_kind0 h0
        rw [trimK_G, trimG_getD _ hz i, ← getD_norm, hm, getD_norm]
    · rename_i h1
      rw [norm_mk, if_neg h0, if_neg h1, hm]
end Go.PL

/-
  Numbers side by side in words, plain: what was put is got.
-/
namespace Go.PL
set_option linter.unusedVariables false
set_option linter.unusedSimpArgs false
/-! ### what is laid stays -/
theorem layL_lm (ts : List T) : LM (layL ts) := (layL_ls fun t _ => (lay_ls t).1).2
theorem layC_lm (w k : Nat) (ts : List T) : LM (layC w k ts) := (layC_ls (w := w) (k := k) fun t _ => (lay_ls t).2).2
end Go.PL

/-
  Chapter 12, plain: what is laid means what was laid.
-/
namespace Go.Proofs.YthfiijdbnkaabaaGreat
set_option linter.unusedVariables false
set_option linter.unusedSimpArgs false
open Go Go.G Go.Proofs Go.PL
theorem kidP_data {l : List (List Int)} {kd s a n i : Int} (h1 : kd ≠ 1) (h8 : kd ≠ 8) (h9 : kd ≠ 9) (h0 : 0 ≤ i) (hn : i < n) : kidP l ⟨kd, s, a, 0, 0, n, 0⟩ i = (⟨10, 0, 0, 0, 0, 0, atomZ l ⟨kd, s, a, 0, 0, n, 0⟩ i⟩, 0) := by
  unfold kidP nk
  simp only [if_neg h1, if_neg h8, if_neg h9]
  rw [if_neg (by omega)]
end Go.Proofs.YthfiijdbnkaabaaGreat

/-
  Chapter 27, plain: the edit that a tree would be of.
-/
namespace Go.PL
set_option linter.unusedVariables false
set_option linter.unusedSimpArgs false
def wdT (t : T) (i : Nat) : Int := t.words.getD i 0
def kdT (t : T) (i : Nat) : T := t.kids.getD i T0
/-! ### right edits: told by their trees, as these stand -/
@[simp] theorem rowT'_kids (l : List T) : (rowT' l).kids = l := by cases l <;> simp
theorem noneT_T0 {t : T} (h : noneT t = true) : t = T0 := by
  obtain ⟨k, w, l⟩ := t
  simp only [noneT, Bool.and_eq_true, decide_eq_true_eq, List.isEmpty_iff, T.kind_mk, T.words_mk, T.kids_mk] at h
  obtain ⟨⟨h0, rfl⟩, rfl⟩ := h
  obtain rfl := of_decide_eq_true h0
  rfl
theorem sameE_eq {e : E} (h : sameE e = true) : e = E0 := by
  obtain ⟨k, o, n, ws, ks, l, os⟩ := e
  simp only [sameE, Bool.and_eq_true, decide_eq_true_eq, List.isEmpty_iff, E.kind_mk, E.old_mk, E.new_mk, E.words_mk, E.kids_mk, E.list_mk, E.ops_mk] at h
  obtain ⟨⟨⟨⟨h0, h1⟩, h2⟩, ⟨rfl, rfl⟩, rfl⟩, h3⟩ := h
  obtain rfl := of_decide_eq_true h0
  obtain rfl := of_decide_eq_true h3
  rw [noneT_T0 h1, noneT_T0 h2]
theorem headOk_iff {d : Nat} {k : Int} {o n : T} {nw nk : Nat} {l : Int} {no : Nat} : headOk d k o n nw nk l no = true ↔ d ≠ 0 ∧ 0 ≤ k ∧ k ≤ 3 ∧ (k ≠ 1 → noneT o = true ∧ noneT n = true) ∧ (k ≠ 2 → nw = 0 ∧ nk = 0) ∧ (k ≠ 3 → l = 0 ∧ no = 0) := by
  unfold headOk
  simp only [Bool.and_eq_true, Bool.not_eq_true', Bool.or_eq_false_iff, Bool.and_eq_false_iff, decide_eq_false_iff_not, Bool.not_eq_false', decide_eq_true_eq]
  constructor
  · rintro ⟨⟨⟨h1, h2⟩, h3⟩, ⟨h4, h5⟩, h6⟩
    refine ⟨h1, by omega, by omega, fun hk => ?_, fun hk => ?_, fun hk => ?_⟩
    · rcases h4 with h4 | h4
      · exact absurd h4 hk
      · exact h4
    · rcases h5 with h5 | h5
      · exact absurd h5 hk
      · omega
    · rcases h6 with h6 | h6
      · exact absurd h6 hk
      · exact ⟨h6.1, by omega⟩
  · rintro ⟨h1, h2, h3, h4, h5, h6⟩
    refine ⟨⟨⟨h1, by omega⟩, by omega⟩, ⟨?_, ?_⟩, ?_⟩
    · by_cases hk : k = 1
      · exact .inl hk
      · exact .inr (h4 hk)
    · by_cases hk : k = 2
      · exact .inl hk
      · exact .inr (by have := h5 hk; omega)
    · by_cases hk : k = 3
      · exact .inl hk
      · exact .inr ⟨(h6 hk).1, by have := h6 hk; omega⟩
structure RightE (d : Nat) (k : Int) (o n : T) (ws : List WE) (ks : List KE) (l : Int) (os : List OP) : Prop where
  d0 : d ≠ 0
  k0 : 0 ≤ k
  k3 : k ≤ 3
  one : k ≠ 1 → o = T0 ∧ n = T0
  two : k ≠ 2 → ws = [] ∧ ks = []
  three : k ≠ 3 → l = 0 ∧ os = []
  rep : k = 1 → rightT 64 o = true ∧ rightT 64 n = true ∧ o.kind ≠ 10 ∧ n.kind ≠ 10
  wok : wordsOk (-1) ws = true
  kok : rightKs (d - 1) (-1) ks = true
  lst : k = 3 → 2 ≤ l ∧ l ≤ 9
  ook : rightOs (d - 1) l os = true
  len : (lengths 0 0 os).1 < 1048576 ∧ (lengths 0 0 os).2 < 1048576
theorem rightE_iff {d : Nat} {k : Int} {o n : T} {ws : List WE} {ks : List KE} {l : Int} {os : List OP} : rightE d (.mk k o n ws ks l os) = true ↔ RightE d k o n ws ks l os := by
  rw [rightE_mk]
  constructor
  · intro h
    by_cases hh : headOk d k o n ws.length ks.length l os.length = true
    · rw [if_neg (by rw [hh]; simp)] at h
      obtain ⟨h1, h2, h3, h4, h5, h6⟩ := headOk_iff.1 hh
      have g1 : k ≠ 1 → o = T0 ∧ n = T0 := fun hk => ⟨noneT_T0 (h4 hk).1, noneT_T0 (h4 hk).2⟩
      have g2 : k ≠ 2 → ws = [] ∧ ks = [] := fun hk => ⟨List.length_eq_zero_iff.1 (h5 hk).1, List.length_eq_zero_iff.1 (h5 hk).2⟩
      have g3 : k ≠ 3 → l = 0 ∧ os = [] := fun hk => ⟨(h6 hk).1, List.length_eq_zero_iff.1 (h6 hk).2⟩
      by_cases hk : k = 1
      · rw [if_pos hk] at h
        simp at h
        obtain ⟨rfl, rfl⟩ := g2 (by omega)
        obtain ⟨rfl, rfl⟩ := g3 (by omega)
        exact ⟨h1, h2, h3, g1, g2, g3, fun _ => ⟨h.1.1.1, h.1.1.2, h.1.2, h.2⟩, by simp [wordsOk], by simp, fun e => by omega, by simp, by simp [lengths]⟩
      · rw [if_neg hk] at h
        split at h
        · cases h
        · rename_i hw
          split at h
          · cases h
          · rename_i hks
            split at h
            · cases h
            · rename_i hl
              split at h
              · cases h
              · rename_i ho
                simp at h hw hks ho
                exact ⟨h1, h2, h3, g1, g2, g3, fun e => absurd e hk, hw, hks, fun e => by omega, ho, h⟩
    · rw [if_pos (by simpa using hh)] at h
      cases h
  · intro h
    have hh : headOk d k o n ws.length ks.length l os.length = true := headOk_iff.2 ⟨h.d0, h.k0, h.k3, fun hk => by rw [(h.one hk).1, (h.one hk).2]; exact ⟨rfl, rfl⟩, fun hk => by rw [(h.two hk).1, (h.two hk).2]; exact ⟨rfl, rfl⟩, fun hk => by rw [(h.three hk).1, (h.three hk).2]; exact ⟨rfl, rfl⟩⟩
    rw [if_neg (by rw [hh]; simp)]
    by_cases hk : k = 1
    · rw [if_pos hk]
      obtain ⟨a, b, c, e⟩ := h.rep hk
      simp [a, b, c, e]
    · rw [if_neg hk, if_neg (by rw [h.wok]; simp), if_neg (by rw [h.kok]; simp), if_neg (by have := h.lst; omega), if_neg (by rw [h.ook]; simp)]
      simp [h.len]
theorem wordsOk_in : ∀ {l : List WE} {last : Int}, -1 ≤ last → wordsOk last l = true → ∀ w, w ∈ l → 0 ≤ w.at_ ∧ w.at_ ≤ 65534 ∧ w.mask ≠ 0
  | [], _, _, _, w, hw => nomatch hw
  | x :: l, last, hl, h, w, hw => by
    rw [wordsOk, Bool.and_eq_true] at h
    have h1 := h.1
    simp [wordOk] at h1
    rcases List.mem_cons.1 hw with rfl | hw
    · exact ⟨by omega, by omega, h1.1.1.2⟩
    · exact wordsOk_in (by omega) h.2 w hw
theorem rightKs_allE : ∀ {l : List KE} {d : Nat} {last : Int}, -1 ≤ last → rightKs d last l = true → ∀ x, x ∈ l → 0 ≤ x.at_ ∧ x.at_ ≤ 65534 ∧ x.e.kind ≠ 0 ∧ rightE d x.e = true
  | [], _, _, _, _, x, hx => nomatch hx
  | y :: l, d, last, hl, h, x, hx => by
    rw [rightKs_cons] at h
    simp at h
    rcases List.mem_cons.1 hx with rfl | hx
    · exact ⟨by omega, by omega, h.1.1.2, h.1.2⟩
    · exact rightKs_allE (by omega) h.2 x hx
structure RightO (d : Nat) (list : Int) (x : OP) : Prop where
  k0 : 0 ≤ x.kind
  k3 : x.kind ≤ 3
  keep : x.kind = 0 → 1 ≤ x.n ∧ x.n ≤ 1048576 ∧ x.l = []
  nn : x.kind ≠ 0 → x.n = 0
  same : x.kind ≠ 3 → x.e = E0
  some : x.kind = 1 ∨ x.kind = 2 → x.l ≠ [] ∧ ∀ t, t ∈ x.l → rightT 64 (.mk list [] [t]) = true
  down : x.kind = 3 → x.l = [] ∧ x.e.kind ≠ 0 ∧ 8 ≤ list ∧ rightE d x.e = true ∧ opFit list x = true
theorem rightO_of {d : Nat} {list : Int} {x : OP} (h : rightO d list x = true) : RightO d list x := by
  rw [rightO_eq, Bool.and_eq_true] at h
  obtain ⟨h1, h2⟩ := h
  unfold opFlat at h1
  by_cases k0 : x.kind = 0
  · rw [if_pos k0] at h1
    simp at h1
    exact ⟨by omega, by omega, fun _ => ⟨h1.1.1.1, h1.1.1.2, h1.1.2⟩, fun e => absurd k0 e, fun _ => sameE_eq h1.2, fun e => by omega, fun e => by omega⟩
  · rw [if_neg k0] at h1
    split at h1
    · cases h1
    · rename_i hn
      by_cases k3 : x.kind < 3
      · rw [if_pos k3] at h1
        simp at h1
        exact ⟨by omega, by omega, fun e => absurd e k0, fun _ => by omega, fun _ => sameE_eq h1.2, fun _ => ⟨by simpa using h1.1.2, h1.1.1⟩, fun e => by omega⟩
      · have k3' : x.kind = 3 := by omega
        rw [if_pos k3'] at h2
        simp [opDeep] at h2
        exact ⟨by omega, by omega, fun e => absurd e k0, fun _ => by omega, fun e => absurd k3' e, fun e => by omega, fun _ => ⟨h2.1.1.1.1, h2.1.1.1.2, by omega, h2.1.2, h2.2⟩⟩
theorem u64m_of {n : Int} (h : 0 ≤ n) (h1 : n < 18446744073709551616) : u64m n = n := Int.emod_eq_of_lt h h1
end Go.PL

/-
  Chapter 27, plain: an edit told by the Norm of its tree.
-/
namespace Go.PL
set_option linter.unusedVariables false
set_option linter.unusedSimpArgs false
/-! ### what is right stays so -/
/-! ### no value has very many kids -/
inductive SmT : T → Prop
  | mk (k : Int) (w : List Int) (l : List T) : l.length ≤ 1048576 → (∀ t, t ∈ l → SmT t) → SmT (.mk k w l)
theorem SmT.len {t : T} (h : SmT t) : t.kids.length ≤ 1048576 := by cases h; assumption
theorem SmT.kid {t : T} (h : SmT t) : ∀ c, c ∈ t.kids → SmT c := by cases h; assumption
theorem sm_T0 : SmT T0 := .mk _ _ _ (Nat.zero_le _) (fun t h => by cases h)
theorem SmT.kd {t : T} (h : SmT t) (i : Nat) : SmT (kdT t i) := by
  unfold kdT
  rw [List.getD_eq_getElem?_getD]
  cases e : t.kids[i]? with
  | none => exact sm_T0
  | some x => exact h.kid x (List.mem_of_getElem? e)
end Go.PL
