/-
  Texts, merged, without what is not reached.
-/
import Derived.Test.YtehcobkphobjiaaKa
/-
  The functions' text as data, and the facts on the types that they use: written by a program of ours (gen2.py) off the translation.
-/
namespace Go.Proofs.Ytehcobkphobjiaa
set_option linter.unusedVariables false
set_option linter.unusedSimpArgs false
set_option maxRecDepth 20000
open Go Go.G Go.Proofs
@[simp] theorem und_64 : Try.prog.underlying 64 = some (.int .i64) := by kernel_rfl
@[simp] theorem szT_24 : szT Try.prog 24 = some 1 := by kernel_rfl
@[simp] theorem szT_60 : szT Try.prog 60 = some 4 := by kernel_rfl
@[simp] theorem szT_68 : szT Try.prog 68 = some 8 := by kernel_rfl
@[simp] theorem szT_128 : szT Try.prog 128 = some 7 := by kernel_rfl
@[simp] theorem aggT_24 : aggT Try.prog 24 = some false := by kernel_rfl
@[simp] theorem aggT_60 : aggT Try.prog 60 = some true := by kernel_rfl
@[simp] theorem aggT_68 : aggT Try.prog 68 = some true := by kernel_rfl
@[simp] theorem aggT_128 : aggT Try.prog 128 = some true := by kernel_rfl
@[simp] theorem zeroT_60 : zeroT Try.prog 60 = some (Value.agg #[Value.int IntKind.i64 0, Value.int IntKind.i64 0, Value.int IntKind.i64 0, Value.int IntKind.i64 0]) := by kernel_rfl
@[simp] theorem zeroT_68 : zeroT Try.prog 68 = some (Value.agg #[Value.pointer none, Value.int IntKind.i64 0, Value.int IntKind.i64 0, Value.int IntKind.i64 0, Value.int IntKind.i64 0, Value.int IntKind.i64 0, Value.int IntKind.i64 0, Value.int IntKind.u64 0]) := by kernel_rfl
@[simp] theorem zeroT_128 : zeroT Try.prog 128 = some (Value.agg #[Value.int IntKind.i64 0, Value.int IntKind.i64 0, Value.int IntKind.i64 0, Value.int IntKind.i64 0, Value.int IntKind.i64 0, Value.int IntKind.i64 0, Value.int IntKind.u64 0]) := by kernel_rfl
@[simp] theorem fieldOffT_60_0 : fieldOffT Try.prog 60 0 = some 0 := by kernel_rfl
@[simp] theorem fieldOffT_60_1 : fieldOffT Try.prog 60 1 = some 1 := by kernel_rfl
@[simp] theorem fieldOffT_60_2 : fieldOffT Try.prog 60 2 = some 2 := by kernel_rfl
@[simp] theorem fieldOffT_60_3 : fieldOffT Try.prog 60 3 = some 3 := by kernel_rfl
@[simp] theorem fieldOffT_68_0 : fieldOffT Try.prog 68 0 = some 0 := by kernel_rfl
@[simp] theorem fieldOffT_68_1 : fieldOffT Try.prog 68 1 = some 1 := by kernel_rfl
@[simp] theorem fieldOffT_68_2 : fieldOffT Try.prog 68 2 = some 2 := by kernel_rfl
@[simp] theorem fieldOffT_68_3 : fieldOffT Try.prog 68 3 = some 3 := by kernel_rfl
@[simp] theorem fieldOffT_68_4 : fieldOffT Try.prog 68 4 = some 4 := by kernel_rfl
@[simp] theorem fieldOffT_68_5 : fieldOffT Try.prog 68 5 = some 5 := by kernel_rfl
@[simp] theorem fieldOffT_68_6 : fieldOffT Try.prog 68 6 = some 6 := by kernel_rfl
@[simp] theorem fieldOffT_68_7 : fieldOffT Try.prog 68 7 = some 7 := by kernel_rfl
@[simp] theorem fieldOffT_128_0 : fieldOffT Try.prog 128 0 = some 0 := by kernel_rfl
@[simp] theorem fieldOffT_128_1 : fieldOffT Try.prog 128 1 = some 1 := by kernel_rfl
@[simp] theorem fieldOffT_128_2 : fieldOffT Try.prog 128 2 = some 2 := by kernel_rfl
@[simp] theorem fieldOffT_128_3 : fieldOffT Try.prog 128 3 = some 3 := by kernel_rfl
@[simp] theorem fieldOffT_128_4 : fieldOffT Try.prog 128 4 = some 4 := by kernel_rfl
@[simp] theorem fieldOffT_128_5 : fieldOffT Try.prog 128 5 = some 5 := by kernel_rfl
@[simp] theorem fieldOffT_128_6 : fieldOffT Try.prog 128 6 = some 6 := by kernel_rfl
@[simp] theorem buildA_60 (ps : List (Nat × A)) : buildA Try.prog 60 ps = (fillA (fun i => ([(0, 1), (1, 1), (2, 1), (3, 1)] : List (Nat × Nat))[i]?) [A.v (Value.int IntKind.i64 0), A.v (Value.int IntKind.i64 0), A.v (Value.int IntKind.i64 0), A.v (Value.int IntKind.i64 0)] ps).map A.agg := by kernel_rfl
@[simp] theorem buildA_68 (ps : List (Nat × A)) : buildA Try.prog 68 ps = (fillA (fun i => ([(0, 1), (1, 1), (2, 1), (3, 1), (4, 1), (5, 1), (6, 1), (7, 1)] : List (Nat × Nat))[i]?) [A.v (Value.pointer none), A.v (Value.int IntKind.i64 0), A.v (Value.int IntKind.i64 0), A.v (Value.int IntKind.i64 0), A.v (Value.int IntKind.i64 0), A.v (Value.int IntKind.i64 0), A.v (Value.int IntKind.i64 0), A.v (Value.int IntKind.u64 0)] ps).map A.agg := by kernel_rfl
@[simp] theorem buildA_128 (ps : List (Nat × A)) : buildA Try.prog 128 ps = (fillA (fun i => ([(0, 1), (1, 1), (2, 1), (3, 1), (4, 1), (5, 1), (6, 1)] : List (Nat × Nat))[i]?) [A.v (Value.int IntKind.i64 0), A.v (Value.int IntKind.i64 0), A.v (Value.int IntKind.i64 0), A.v (Value.int IntKind.i64 0), A.v (Value.int IntKind.i64 0), A.v (Value.int IntKind.i64 0), A.v (Value.int IntKind.u64 0)] ps).map A.agg := by kernel_rfl
/-- (cento/reader.Ref).Kind -/
def c_reader_Ref_Kind : CC :=
  .seq (.reg [cn (some 1) (.box 68 (.tmp 0)) none [0],
      co (some 2) (.assign (.const (.int .i64 0))) none] [1])
  (.seq (.reg [co (some 3) (.fieldAddr 68 (.tmp 1) 1) none,
      co (some 4) (.load 3 (.tmp 3)) none,
      co (some 2) (.assign (.tmp 4)) none] [2])
  (.ret))
theorem t_reader_Ref_Kind : Txt Try.prog 80 5 [(.tmp 2)] c_reader_Ref_Kind := txt_of (code := Try.f80.body.getD .ret) mixed (by kernel_rfl) Try.func80 (by kernel_rfl) Try.ntmps80 (by kernel_rfl) (ls := [([1], [(0, [0])]), ([], []), ([2], []), ([], [])]) (by kernel_rfl)
/-- (cento/reader.Ref).Words -/
def c_reader_Ref_Words : CC :=
  .seq (.reg [cn (some 1) (.box 68 (.tmp 0)) none [0],
      co (some 2) (.assign (.const (.int .i64 0))) none] [1])
  (.seq (.seq (.reg [co (some 3) (.fieldAddr 68 (.tmp 1) 1) none,
        co (some 4) (.load 3 (.tmp 3)) none] [1, 4])
    (.block 0
      (.seq (.reg [co (some 6) (.binOp .eql 3 (.tmp 4) (.const (.int .i64 1)) 3) none,
          co (some 5) (.assign (.tmp 6)) none] [1, 4, 5])
      (.cond (.tmp 5)
        (.seq (.reg [co (some 7) (.fieldAddr 68 (.tmp 1) 4) none,
            co (some 8) (.load 3 (.tmp 7)) none,
            co (some 2) (.assign (.tmp 8)) none] [2])
        (.ret))
        (.seq (.reg [co (some 10) (.binOp .eql 3 (.tmp 4) (.const (.int .i64 10)) 3) none,
            co (some 9) (.assign (.tmp 10)) none] [9])
        (.cond (.tmp 9)
          (.seq (.reg [co (some 2) (.assign (.const (.int .i64 1))) none] [2])
          (.ret))
          (.skip)))))))
  (.keep [] (.seq (.reg [co (some 2) (.assign (.const (.int .i64 0))) none] [2])
  (.ret))))
theorem t_reader_Ref_Words : Txt Try.prog 85 11 [(.tmp 2)] c_reader_Ref_Words := txt_of (code := Try.f85.body.getD .ret) mixed (by kernel_rfl) Try.func85 (by kernel_rfl) Try.ntmps85 (by kernel_rfl) (ls := [([1], [(0, [0])]), ([], []), ([1, 4], []), ([], []), ([1, 4, 5], []), ([], []), ([2], []), ([], []), ([9], []), ([], []), ([2], []), ([], []), ([999999], []), ([2], []), ([], [])]) (by kernel_rfl)
/-- (cento/reader.Ref).Kids -/
def c_reader_Ref_Kids : CC :=
  .seq (.reg [cn (some 1) (.box 68 (.tmp 0)) none [0],
      co (some 2) (.assign (.const (.int .i64 0))) none] [1])
  (.seq (.seq (.reg [co (some 3) (.fieldAddr 68 (.tmp 1) 1) none,
        co (some 4) (.load 3 (.tmp 3)) none,
        co (some 5) (.binOp .eql 3 (.tmp 4) (.const (.int .i64 1)) 3) none] [1, 5])
    (.cond (.tmp 5)
      (.seq (.reg [co (some 6) (.fieldAddr 68 (.tmp 1) 5) none,
          co (some 7) (.load 3 (.tmp 6)) none,
          co (some 2) (.assign (.tmp 7)) none] [2])
      (.ret))
      (.skip)))
  (.keep [1] (.seq (.reg [co (some 8) (.fieldAddr 68 (.tmp 1) 6) none,
      co (some 9) (.load 3 (.tmp 8)) none,
      co (some 2) (.assign (.tmp 9)) none] [2])
  (.ret))))
theorem t_reader_Ref_Kids : Txt Try.prog 75 10 [(.tmp 2)] c_reader_Ref_Kids := txt_of (code := Try.f75.body.getD .ret) mixed (by kernel_rfl) Try.func75 (by kernel_rfl) Try.ntmps75 (by kernel_rfl) (ls := [([1], [(0, [0])]), ([], []), ([1, 5], []), ([], []), ([2], []), ([], []), ([999999, 1], []), ([2], []), ([], [])]) (by kernel_rfl)
/-- (cento/reader.Ref).Word -/
def c_reader_Ref_Word : CC :=
  .seq (.reg [cn (some 2) (.box 68 (.tmp 0)) none [0],
      co (some 4) (.assign (.const (.int .u64 0))) none] [1, 2])
  (.seq (.seq (.reg [co (some 7) (.move (.tmp 1)) none,
        co (some 8) (.binOp .lss 3 (.tmp 7) (.const (.int .i64 0)) 3) none,
        co (some 9) (.move (.tmp 8)) none,
        co (some 10) (.move (.tmp 1)) (some (9, false)),
        co (some 11) (.load 68 (.tmp 2)) (some (9, false)),
        co (some 12) (.call { callee := (.value (.func 85)), args := #[(.tmp 11)], argTypes := #[68] }) (some (9, false)),
        co (some 13) (.binOp .geq 3 (.tmp 10) (.tmp 12) 3) (some (9, false)),
        co (some 14) (.pick (.tmp 9) (.const (.bool true)) (.tmp 13)) none] [1, 2, 14])
    (.cond (.tmp 14)
      (.seq (.reg [co (some 4) (.assign (.const (.int .u64 0))) none] [4])
      (.ret))
      (.skip)))
  (.keep [1, 2] (.seq (.seq (.reg [co (some 15) (.fieldAddr 68 (.tmp 2) 1) none,
        co (some 16) (.load 3 (.tmp 15)) none,
        co (some 17) (.binOp .eql 3 (.tmp 16) (.const (.int .i64 10)) 3) none] [1, 2, 17])
    (.cond (.tmp 17)
      (.seq (.reg [co (some 18) (.fieldAddr 68 (.tmp 2) 7) none,
          co (some 19) (.load 26 (.tmp 18)) none,
          co (some 4) (.assign (.tmp 19)) none] [4])
      (.ret))
      (.skip)))
  (.keep [1, 2] (.seq (.reg [co (some 21) (.fieldAddr 68 (.tmp 2) 0) none,
      co (some 22) (.load 24 (.tmp 21)) none,
      co (some 23) (.fieldAddr 68 (.tmp 2) 2) none,
      co (some 24) (.load 3 (.tmp 23)) none,
      co (some 25) (.fieldAddr 68 (.tmp 2) 3) none,
      co (some 26) (.load 3 (.tmp 25)) none,
      co (some 27) (.move (.tmp 1)) none,
      co (some 28) (.binOp .add 3 (.tmp 26) (.tmp 27) 3) none,
      co (some 29) (.call { callee := (.value (.func 26)), args := #[(.tmp 22), (.tmp 24), (.tmp 28)], argTypes := #[24, 3, 3] }) none,
      co (some 20) (.move (.tmp 29)) none,
      co (some 30) (.extract (.tmp 20) 0) none,
      co (some 31) (.extract (.tmp 20) 1) none,
      co (some 5) (.assign (.tmp 30)) none,
      co (some 6) (.assign (.tmp 31)) none] [5])
  (.seq (.reg [co (some 32) (.move (.tmp 5)) none,
      co (some 4) (.assign (.tmp 32)) none] [4])
  (.ret)))))))
theorem t_reader_Ref_Word : Txt Try.prog 86 33 [(.tmp 4)] c_reader_Ref_Word := txt_of (code := Try.f86.body.getD .ret) mixed (by kernel_rfl) Try.func86 (by kernel_rfl) Try.ntmps86 (by kernel_rfl) (ls := [([1, 2], [(0, [0])]), ([], []), ([1, 2, 14], []), ([], []), ([4], []), ([], []), ([999999, 1, 2], []), ([1, 2, 17], []), ([], []), ([4], []), ([], []), ([999999, 1, 2], []), ([5], []), ([], []), ([4], []), ([], [])]) (by kernel_rfl)
/-- (cento/reader.Ref).atom -/
def c_reader_Ref_atom : CC :=
  .seq (.reg [cn (some 2) (.box 68 (.tmp 0)) none [0],
      co (some 4) (.assign (.const (.int .u64 0))) none] [1, 2])
  (.seq (.reg [co (some 11) (.fieldAddr 68 (.tmp 2) 1) none,
      co (some 12) (.load 3 (.tmp 11)) none,
      co (some 13) (.binOp .sub 3 (.tmp 12) (.const (.int .i64 2)) 3) none,
      co (some 5) (.assign (.tmp 13)) none] [1, 2, 5])
  (.seq (.reg [co (some 15) (.move (.tmp 5)) none,
      co (some 16) (.call { callee := (.value (.func 135)), args := #[(.tmp 15)], argTypes := #[3] }) none,
      co (some 14) (.move (.tmp 16)) none,
      co (some 17) (.extract (.tmp 14) 0) none,
      co (some 18) (.extract (.tmp 14) 1) none,
      co (some 6) (.assign (.tmp 17)) none,
      co (some 7) (.assign (.tmp 18)) none] [1, 2, 5, 6])
  (.seq (.seq (.reg [co (some 19) (.move (.tmp 6)) none,
        co (some 20) (.binOp .eql 3 (.tmp 19) (.const (.int .i64 0)) 3) none] [1, 2, 5, 6, 20])
    (.cond (.tmp 20)
      (.seq (.reg [co (some 4) (.assign (.const (.int .u64 0))) none] [4])
      (.ret))
      (.skip)))
  (.keep [1, 2, 5, 6] (.seq (.reg [co (some 21) (.move (.tmp 6)) none,
      co (some 22) (.binOp .quo 3 (.const (.int .i64 64)) (.tmp 21) 3) none,
      co (some 8) (.assign (.tmp 22)) none] [1, 2, 5, 8])
  (.seq (.reg [co (some 24) (.fieldAddr 68 (.tmp 2) 0) none,
      co (some 25) (.load 24 (.tmp 24)) none,
      co (some 26) (.fieldAddr 68 (.tmp 2) 2) none,
      co (some 27) (.load 3 (.tmp 26)) none,
      co (some 28) (.fieldAddr 68 (.tmp 2) 3) none,
      co (some 29) (.load 3 (.tmp 28)) none,
      co (some 30) (.move (.tmp 1)) none,
      co (some 31) (.move (.tmp 8)) none,
      co (some 32) (.binOp .quo 3 (.tmp 30) (.tmp 31) 3) none,
      co (some 33) (.binOp .add 3 (.tmp 29) (.tmp 32) 3) none,
      co (some 34) (.call { callee := (.value (.func 26)), args := #[(.tmp 25), (.tmp 27), (.tmp 33)], argTypes := #[24, 3, 3] }) none,
      co (some 23) (.move (.tmp 34)) none,
      co (some 35) (.extract (.tmp 23) 0) none,
      co (some 36) (.extract (.tmp 23) 1) none,
      co (some 9) (.assign (.tmp 35)) none,
      co (some 10) (.assign (.tmp 36)) none] [1, 5, 8, 9])
  (.seq (.reg [co (some 37) (.move (.tmp 9)) none,
      co (some 38) (.buildSlice 23 1 #[(0, (.tmp 37))]) none,
      co (some 39) (.move (.tmp 5)) none,
      co (some 40) (.move (.tmp 1)) none,
      co (some 41) (.move (.tmp 8)) none,
      co (some 42) (.binOp .rem 3 (.tmp 40) (.tmp 41) 3) none,
      co (some 43) (.call { callee := (.value (.func 136)), args := #[(.tmp 38), (.tmp 39), (.tmp 42)], argTypes := #[23, 3, 3] }) none,
      co (some 4) (.assign (.tmp 43)) none] [4])
  (.ret))))))))
theorem t_reader_Ref_atom : Txt Try.prog 84 44 [(.tmp 4)] c_reader_Ref_atom := txt_of (code := Try.f84.body.getD .ret) mixed (by kernel_rfl) Try.func84 (by kernel_rfl) Try.ntmps84 (by kernel_rfl) (ls := [([1, 2], [(0, [0])]), ([], []), ([1, 2, 5], []), ([], []), ([1, 2, 5, 6], []), ([], []), ([1, 2, 5, 6, 20], []), ([], []), ([4], []), ([], []), ([999999, 1, 2, 5, 6], []), ([1, 2, 5, 8], []), ([], []), ([1, 5, 8, 9], []), ([], []), ([4], []), ([], [])]) (by kernel_rfl)
/-- cento/reader.At -/
def c_reader_At : CC :=
  .seq (.reg [cn (some 6) (.alloc 68) none [0],
      co (some 7) (.assign (.const (.int .i64 0))) none] [0, 1, 2, 6])
  (.seq (.reg [co (some 12) (.move (.tmp 0)) none,
      co (some 13) (.move (.tmp 1)) none,
      co (some 14) (.move (.tmp 2)) none,
      co (some 15) (.call { callee := (.value (.func 124)), args := #[(.tmp 12), (.tmp 13), (.tmp 14)], argTypes := #[24, 3, 3] }) none,
      co (some 11) (.move (.tmp 15)) none,
      co (some 16) (.extract (.tmp 11) 0) none,
      co (some 17) (.extract (.tmp 11) 1) none,
      cn (some 8) (.alloc 185) none [1],
      co none (.store 185 (.tmp 8) (.tmp 16)) none,
      co (some 9) (.assign (.tmp 17)) none] [0, 6, 8, 9])
  (.seq (.seq (.reg [co (some 18) (.move (.tmp 9)) none,
        co (some 19) (.binOp .neq 64 (.tmp 18) (.const (.int .i64 0)) 64) none,
        co (some 20) (.move (.tmp 19)) none,
        co (some 21) (.fieldAddr 185 (.tmp 8) 0) (some (20, false)),
        co (some 22) (.fieldAddr 183 (.tmp 21) 0) (some (20, false)),
        co (some 23) (.load 3 (.tmp 22)) (some (20, false)),
        co (some 24) (.binOp .eql 3 (.tmp 23) (.const (.int .i64 0)) 3) (some (20, false)),
        co (some 25) (.pick (.tmp 20) (.const (.bool true)) (.tmp 24)) none] [0, 6, 8, 9, 25])
    (.cond (.tmp 25)
      (.seq (.reg [co (some 26) (.build 68 #[]) none,
          co (some 27) (.move (.tmp 9)) none,
          co none (.store 68 (.tmp 6) (.tmp 26)) none,
          co (some 7) (.assign (.tmp 27)) none] [6, 7])
      (.ret))
      (.skip)))
  (.keep [0, 6, 8] (.seq (.reg [co (some 28) (.move (.tmp 0)) none,
      co (some 29) (.fieldAddr 185 (.tmp 8) 1) none,
      co (some 30) (.load 3 (.tmp 29)) none,
      co (some 31) (.fieldAddr 185 (.tmp 8) 2) none,
      co (some 32) (.load 3 (.tmp 31)) none,
      co (some 33) (.build 68 #[(0, (.tmp 28)), (2, (.tmp 30)), (3, (.tmp 32))]) none,
      cn (some 10) (.alloc 68) none [2],
      co none (.store 68 (.tmp 10) (.tmp 33)) none] [6, 8, 10])
  (.seq (.block 0
      (.seq (.reg [co (some 42) (.fieldAddr 185 (.tmp 8) 0) none,
          co (some 43) (.fieldAddr 183 (.tmp 42) 0) none,
          co (some 44) (.load 3 (.tmp 43)) none,
          co (some 45) (.binOp .eql 3 (.tmp 44) (.const (.int .i64 1)) 3) none,
          co (some 41) (.assign (.tmp 45)) none] [6, 8, 10, 41])
      (.cond (.tmp 41)
        (.reg [co (some 46) (.fieldAddr 185 (.tmp 8) 0) none,
          co (some 47) (.fieldAddr 183 (.tmp 46) 2) none,
          ⟨some 48, (.load 3 (.tmp 47)), none, [], 2, [], true⟩,
          co (some 49) (.fieldAddr 185 (.tmp 8) 0) none,
          co (some 50) (.fieldAddr 183 (.tmp 49) 3) none,
          ⟨some 51, (.load 3 (.tmp 50)), none, [], 5, [], true⟩,
          co (some 52) (.fieldAddr 68 (.tmp 10) 1) none,
          ⟨none, (.store 3 (.tmp 52) (.const (.int .i64 1))), none, [], 7, [2, 5], false⟩,
          co (some 53) (.fieldAddr 68 (.tmp 10) 4) none,
          ⟨none, (.store 3 (.tmp 53) (.tmp 48)), none, [], 9, [5], false⟩,
          co (some 54) (.fieldAddr 68 (.tmp 10) 5) none,
          co none (.store 3 (.tmp 54) (.tmp 51)) none] [6, 10])
        (.seq (.reg [co (some 56) (.fieldAddr 185 (.tmp 8) 0) none,
            co (some 57) (.fieldAddr 183 (.tmp 56) 4) none,
            co (some 58) (.load 3 (.tmp 57)) none,
            co (some 59) (.binOp .lss 3 (.tmp 58) (.const (.int .i64 6)) 3) none,
            co (some 55) (.assign (.tmp 59)) none] [6, 8, 10, 55])
        (.cond (.tmp 55)
          (.reg [co (some 60) (.fieldAddr 185 (.tmp 8) 0) none,
            co (some 61) (.fieldAddr 183 (.tmp 60) 4) none,
            co (some 62) (.load 3 (.tmp 61)) none,
            co (some 63) (.binOp .add 3 (.const (.int .i64 2)) (.tmp 62) 3) none,
            co (some 64) (.fieldAddr 185 (.tmp 8) 0) none,
            co (some 65) (.fieldAddr 183 (.tmp 64) 5) none,
            ⟨some 66, (.load 3 (.tmp 65)), none, [], 6, [], true⟩,
            co (some 67) (.fieldAddr 68 (.tmp 10) 1) none,
            ⟨none, (.store 3 (.tmp 67) (.tmp 63)), none, [], 8, [6], false⟩,
            co (some 68) (.fieldAddr 68 (.tmp 10) 6) none,
            co none (.store 3 (.tmp 68) (.tmp 66)) none] [6, 10])
          (.seq (.reg [co (some 70) (.fieldAddr 185 (.tmp 8) 0) none,
              co (some 71) (.fieldAddr 183 (.tmp 70) 4) none,
              co (some 72) (.load 3 (.tmp 71)) none,
              co (some 73) (.binOp .eql 3 (.tmp 72) (.const (.int .i64 6)) 3) none,
              co (some 69) (.assign (.tmp 73)) none] [6, 8, 10, 69])
          (.cond (.tmp 69)
            (.reg [co (some 74) (.fieldAddr 185 (.tmp 8) 0) none,
              co (some 75) (.fieldAddr 183 (.tmp 74) 5) none,
              ⟨some 76, (.load 3 (.tmp 75)), none, [], 2, [], true⟩,
              co (some 77) (.fieldAddr 68 (.tmp 10) 1) none,
              ⟨none, (.store 3 (.tmp 77) (.const (.int .i64 8))), none, [], 4, [2], false⟩,
              co (some 78) (.fieldAddr 68 (.tmp 10) 6) none,
              co none (.store 3 (.tmp 78) (.tmp 76)) none] [6, 10])
            (.seq (.reg [co (some 34) (.load 68 (.tmp 10)) none,
                co (some 35) (.fieldAddr 185 (.tmp 8) 0) none,
                co (some 36) (.fieldAddr 183 (.tmp 35) 5) none,
                co (some 37) (.load 3 (.tmp 36)) none,
                co (some 38) (.call { callee := (.value (.func 125)), args := #[(.tmp 34), (.tmp 37)], argTypes := #[68, 3] }) none,
                co (some 39) (.extract (.tmp 38) 0) none,
                co (some 40) (.extract (.tmp 38) 1) none,
                co none (.store 68 (.tmp 6) (.tmp 39)) none,
                co (some 7) (.assign (.tmp 40)) none] [6, 7])
            (.ret)))))))))
  (.keep [6, 10] (.seq (.reg [co (some 79) (.load 68 (.tmp 10)) none,
      co none (.store 68 (.tmp 6) (.tmp 79)) none,
      co (some 7) (.assign (.const (.int .i64 0))) none] [6, 7])
  (.ret))))))))
theorem t_reader_At : Txt Try.prog 78 80 [(.cell 6 68), (.tmp 7)] c_reader_At := txt_of (code := Try.f78.body.getD .ret) mixed (by kernel_rfl) Try.func78 (by kernel_rfl) Try.ntmps78 (by kernel_rfl) (ls := [([0, 1, 2, 6], [(0, [0])]), ([], []), ([0, 6, 8, 9], [(7, [1])]), ([], []), ([0, 6, 8, 9, 25], []), ([], []), ([6, 7], []), ([], []), ([999999, 0, 6, 8], []), ([6, 8, 10], [(6, [2])]), ([], []), ([6, 8, 10, 41], []), ([], []), ([6, 10], []), ([6, 8, 10, 55], []), ([], []), ([6, 10], []), ([6, 8, 10, 69], []), ([], []), ([6, 10], []), ([6, 7], []), ([], []), ([999999, 6, 10], []), ([6, 7], []), ([], [])]) (by kernel_rfl)
/-- cento/reader.Root -/
def c_reader_Root : CC :=
  .seq (.reg [cn (some 2) (.alloc 68) none [0],
      co (some 3) (.assign (.const (.int .i64 0))) none] [0, 2])
  (.seq (.reg [co (some 4) (.move (.tmp 0)) none,
      co (some 5) (.call { callee := (.value (.func 78)), args := #[(.tmp 4), (.const (.int .i64 0)), (.const (.int .i64 0))], argTypes := #[24, 3, 3] }) none,
      co (some 6) (.extract (.tmp 5) 0) none,
      co (some 7) (.extract (.tmp 5) 1) none,
      co none (.store 68 (.tmp 2) (.tmp 6)) none,
      co (some 3) (.assign (.tmp 7)) none] [2, 3])
  (.ret))
theorem t_reader_Root : Txt Try.prog 40 8 [(.cell 2 68), (.tmp 3)] c_reader_Root := txt_of (code := Try.f40.body.getD .ret) mixed (by kernel_rfl) Try.func40 (by kernel_rfl) Try.ntmps40 (by kernel_rfl) (ls := [([0, 2], [(0, [0])]), ([], []), ([2, 3], []), ([], [])]) (by kernel_rfl)
/-- (cento/reader.Ref).composite -/
def c_reader_Ref_composite : CC :=
  .seq (.reg [cn (some 2) (.box 68 (.tmp 0)) none [0],
      cn (some 4) (.alloc 68) none [1],
      co (some 5) (.assign (.const (.int .i64 0))) none] [1, 2, 4])
  (.seq (.reg [co (some 10) (.fieldAddr 68 (.tmp 2) 0) none,
      co (some 11) (.load 24 (.tmp 10)) none,
      co (some 12) (.fieldAddr 68 (.tmp 2) 2) none,
      co (some 13) (.load 3 (.tmp 12)) none,
      co (some 14) (.fieldAddr 68 (.tmp 2) 3) none,
      co (some 15) (.load 3 (.tmp 14)) none,
      co (some 16) (.call { callee := (.value (.func 26)), args := #[(.tmp 11), (.tmp 13), (.tmp 15)], argTypes := #[24, 3, 3] }) none,
      co (some 9) (.move (.tmp 16)) none,
      co (some 17) (.extract (.tmp 9) 0) none,
      co (some 18) (.extract (.tmp 9) 1) none,
      co (some 6) (.assign (.tmp 17)) none,
      co (some 7) (.assign (.tmp 18)) none] [1, 2, 4, 6])
  (.seq (.reg [co (some 19) (.move (.tmp 6)) none,
      co (some 20) (.call { callee := (.value (.func 172)), args := #[(.tmp 19)], argTypes := #[26] }) none,
      cn (some 8) (.alloc 183) none [2],
      co none (.store 183 (.tmp 8) (.tmp 20)) none] [1, 2, 4, 6, 8])
  (.seq (.seq (.reg [co (some 21) (.move (.tmp 6)) none,
        co (some 22) (.binOp .neq 26 (.tmp 21) (.const (.int .u64 0)) 26) none,
        co (some 23) (.move (.tmp 22)) none,
        co (some 24) (.fieldAddr 183 (.tmp 8) 0) (some (23, true)),
        co (some 25) (.load 3 (.tmp 24)) (some (23, true)),
        co (some 26) (.binOp .neq 3 (.tmp 25) (.const (.int .i64 1)) 3) (some (23, true)),
        co (some 27) (.pick (.tmp 23) (.tmp 26) (.const (.bool false))) none,
        co (some 28) (.move (.tmp 27)) none,
        co (some 29) (.fieldAddr 183 (.tmp 8) 1) (some (28, false)),
        co (some 30) (.load 3 (.tmp 29)) (some (28, false)),
        co (some 31) (.binOp .lss 3 (.tmp 30) (.const (.int .i64 0)) 3) (some (28, false)),
        co (some 32) (.pick (.tmp 28) (.const (.bool true)) (.tmp 31)) none,
        co (some 33) (.move (.tmp 32)) none,
        co (some 34) (.fieldAddr 183 (.tmp 8) 1) (some (33, false)),
        co (some 35) (.load 3 (.tmp 34)) (some (33, false)),
        co (some 36) (.fieldAddr 183 (.tmp 8) 2) (some (33, false)),
        co (some 37) (.load 3 (.tmp 36)) (some (33, false)),
        co (some 38) (.fieldAddr 183 (.tmp 8) 3) (some (33, false)),
        co (some 39) (.load 3 (.tmp 38)) (some (33, false)),
        co (some 40) (.binOp .add 3 (.tmp 37) (.tmp 39) 3) (some (33, false)),
        co (some 41) (.binOp .mul 3 (.tmp 35) (.tmp 40) 3) (some (33, false)),
        co (some 42) (.move (.tmp 1)) (some (33, false)),
        co (some 43) (.binOp .gtr 3 (.tmp 41) (.tmp 42) 3) (some (33, false)),
        co (some 44) (.pick (.tmp 33) (.const (.bool true)) (.tmp 43)) none] [2, 4, 8, 44])
    (.cond (.tmp 44)
      (.seq (.reg [co (some 45) (.build 68 #[]) none,
          co none (.store 68 (.tmp 4) (.tmp 45)) none,
          co (some 5) (.assign (.const (.int .i64 8))) none] [4, 5])
      (.ret))
      (.skip)))
  (.keep [2, 4, 8] (.seq (.reg [co (some 46) (.fieldAddr 68 (.tmp 2) 3) none,
      co (some 47) (.load 3 (.tmp 46)) none,
      co (some 48) (.binOp .add 3 (.tmp 47) (.const (.int .i64 1)) 3) none,
      co (some 49) (.fieldAddr 68 (.tmp 2) 1) none,
      co none (.store 3 (.tmp 49) (.const (.int .i64 9))) none,
      co (some 50) (.fieldAddr 68 (.tmp 2) 3) none,
      co none (.store 3 (.tmp 50) (.tmp 48)) none] [2, 4, 8])
  (.seq (.reg [co (some 51) (.fieldAddr 183 (.tmp 8) 1) none,
      co (some 52) (.load 3 (.tmp 51)) none,
      co (some 53) (.fieldAddr 183 (.tmp 8) 2) none,
      ⟨some 54, (.load 3 (.tmp 53)), none, [], 3, [], true⟩,
      co (some 55) (.fieldAddr 183 (.tmp 8) 3) none,
      ⟨some 56, (.load 3 (.tmp 55)), none, [], 5, [], true⟩,
      co (some 57) (.fieldAddr 68 (.tmp 2) 6) none,
      ⟨none, (.store 3 (.tmp 57) (.tmp 52)), none, [], 7, [3, 5], false⟩,
      co (some 58) (.fieldAddr 68 (.tmp 2) 4) none,
      ⟨none, (.store 3 (.tmp 58) (.tmp 54)), none, [], 9, [5], false⟩,
      co (some 59) (.fieldAddr 68 (.tmp 2) 5) none,
      co none (.store 3 (.tmp 59) (.tmp 56)) none] [2, 4])
  (.seq (.reg [co (some 60) (.load 68 (.tmp 2)) none,
      co none (.store 68 (.tmp 4) (.tmp 60)) none,
      co (some 5) (.assign (.const (.int .i64 0))) none] [4, 5])
  (.ret))))))))
theorem t_reader_Ref_composite : Txt Try.prog 125 61 [(.cell 4 68), (.tmp 5)] c_reader_Ref_composite := txt_of (code := Try.f125.body.getD .ret) mixed (by kernel_rfl) Try.func125 (by kernel_rfl) Try.ntmps125 (by kernel_rfl) (ls := [([1, 2, 4], [(0, [0]), (1, [1])]), ([], []), ([1, 2, 4, 6], []), ([], []), ([1, 2, 4, 6, 8], [(2, [2])]), ([], []), ([2, 4, 8, 44], []), ([], []), ([4, 5], []), ([], []), ([999999, 2, 4, 8], []), ([2, 4, 8], []), ([], []), ([2, 4], []), ([], []), ([4, 5], []), ([], [])]) (by kernel_rfl)
/-- (cento/reader.Ref).Kid -/
def c_reader_Ref_Kid : CC :=
  .seq (.reg [cn (some 2) (.box 68 (.tmp 0)) none [0],
      cn (some 4) (.alloc 68) none [1],
      co (some 5) (.assign (.const (.int .i64 0))) none] [1, 2, 4])
  (.seq (.seq (.reg [co (some 6) (.move (.tmp 1)) none,
        co (some 7) (.binOp .lss 3 (.tmp 6) (.const (.int .i64 0)) 3) none,
        co (some 8) (.move (.tmp 7)) none,
        co (some 9) (.move (.tmp 1)) (some (8, false)),
        co (some 10) (.load 68 (.tmp 2)) (some (8, false)),
        co (some 11) (.call { callee := (.value (.func 75)), args := #[(.tmp 10)], argTypes := #[68] }) (some (8, false)),
        co (some 12) (.binOp .geq 3 (.tmp 9) (.tmp 11) 3) (some (8, false)),
        co (some 13) (.pick (.tmp 8) (.const (.bool true)) (.tmp 12)) none] [1, 2, 4, 13])
    (.cond (.tmp 13)
      (.seq (.reg [co (some 14) (.build 68 #[]) none,
          co none (.store 68 (.tmp 4) (.tmp 14)) none,
          co (some 5) (.assign (.const (.int .i64 0))) none] [4, 5])
      (.ret))
      (.skip)))
  (.keep [1, 2, 4] (.seq (.seq (.reg [co (some 15) (.fieldAddr 68 (.tmp 2) 1) none,
        co (some 16) (.load 3 (.tmp 15)) none] [1, 2, 4, 16])
    (.block 0
      (.seq (.reg [co (some 18) (.binOp .eql 3 (.tmp 16) (.const (.int .i64 1)) 3) none,
          co (some 17) (.assign (.tmp 18)) none] [1, 2, 4, 16, 17])
      (.cond (.tmp 17)
        (.seq (.reg [co (some 19) (.fieldAddr 68 (.tmp 2) 0) none,
            co (some 20) (.load 24 (.tmp 19)) none,
            co (some 21) (.fieldAddr 68 (.tmp 2) 2) none,
            co (some 22) (.load 3 (.tmp 21)) none,
            co (some 23) (.fieldAddr 68 (.tmp 2) 3) none,
            co (some 24) (.load 3 (.tmp 23)) none,
            co (some 25) (.fieldAddr 68 (.tmp 2) 4) none,
            co (some 26) (.load 3 (.tmp 25)) none,
            co (some 27) (.binOp .add 3 (.tmp 24) (.tmp 26) 3) none,
            co (some 28) (.move (.tmp 1)) none,
            co (some 29) (.binOp .add 3 (.tmp 27) (.tmp 28) 3) none,
            co (some 30) (.call { callee := (.value (.func 78)), args := #[(.tmp 20), (.tmp 22), (.tmp 29)], argTypes := #[24, 3, 3] }) none,
            co (some 31) (.extract (.tmp 30) 0) none,
            co (some 32) (.extract (.tmp 30) 1) none,
            co none (.store 68 (.tmp 4) (.tmp 31)) none,
            co (some 5) (.assign (.tmp 32)) none] [4, 5])
        (.ret))
        (.seq (.reg [co (some 34) (.binOp .eql 3 (.tmp 16) (.const (.int .i64 8)) 3) none,
            co (some 33) (.assign (.tmp 34)) none] [1, 2, 4, 16, 33])
        (.cond (.tmp 33)
          (.seq (.reg [co (some 35) (.fieldAddr 68 (.tmp 2) 0) none,
              co (some 36) (.load 24 (.tmp 35)) none,
              co (some 37) (.fieldAddr 68 (.tmp 2) 2) none,
              co (some 38) (.load 3 (.tmp 37)) none,
              co (some 39) (.fieldAddr 68 (.tmp 2) 3) none,
              co (some 40) (.load 3 (.tmp 39)) none,
              co (some 41) (.move (.tmp 1)) none,
              co (some 42) (.binOp .add 3 (.tmp 40) (.tmp 41) 3) none,
              co (some 43) (.call { callee := (.value (.func 78)), args := #[(.tmp 36), (.tmp 38), (.tmp 42)], argTypes := #[24, 3, 3] }) none,
              co (some 44) (.extract (.tmp 43) 0) none,
              co (some 45) (.extract (.tmp 43) 1) none,
              co none (.store 68 (.tmp 4) (.tmp 44)) none,
              co (some 5) (.assign (.tmp 45)) none] [4, 5])
          (.ret))
          (.seq (.reg [co (some 47) (.binOp .eql 3 (.tmp 16) (.const (.int .i64 9)) 3) none,
              co (some 46) (.assign (.tmp 47)) none] [1, 2, 4, 46])
          (.cond (.tmp 46)
            (.seq (.reg [co (some 48) (.fieldAddr 68 (.tmp 2) 0) none,
                co (some 49) (.load 24 (.tmp 48)) none,
                co (some 50) (.fieldAddr 68 (.tmp 2) 2) none,
                co (some 51) (.load 3 (.tmp 50)) none,
                co (some 52) (.fieldAddr 68 (.tmp 2) 3) none,
                co (some 53) (.load 3 (.tmp 52)) none,
                co (some 54) (.move (.tmp 1)) none,
                co (some 55) (.fieldAddr 68 (.tmp 2) 4) none,
                co (some 56) (.load 3 (.tmp 55)) none,
                co (some 57) (.fieldAddr 68 (.tmp 2) 5) none,
                co (some 58) (.load 3 (.tmp 57)) none,
                co (some 59) (.binOp .add 3 (.tmp 56) (.tmp 58) 3) none,
                co (some 60) (.binOp .mul 3 (.tmp 54) (.tmp 59) 3) none,
                co (some 61) (.binOp .add 3 (.tmp 53) (.tmp 60) 3) none,
                co (some 62) (.fieldAddr 68 (.tmp 2) 4) none,
                co (some 63) (.load 3 (.tmp 62)) none,
                co (some 64) (.fieldAddr 68 (.tmp 2) 5) none,
                co (some 65) (.load 3 (.tmp 64)) none,
                co (some 66) (.build 68 #[(0, (.tmp 49)), (1, (.const (.int .i64 1))), (2, (.tmp 51)), (3, (.tmp 61)), (4, (.tmp 63)), (5, (.tmp 65))]) none,
                co none (.store 68 (.tmp 4) (.tmp 66)) none,
                co (some 5) (.assign (.const (.int .i64 0))) none] [4, 5])
            (.ret))
            (.skip)))))))))
  (.keep [1, 2, 4] (.seq (.reg [co (some 67) (.fieldAddr 68 (.tmp 2) 0) none,
      ⟨some 68, (.load 24 (.tmp 67)), none, [], 1, [], true⟩,
      co (some 69) (.load 68 (.tmp 2)) none,
      co (some 70) (.move (.tmp 1)) none,
      ⟨some 71, (.call { callee := (.value (.func 84)), args := #[(.tmp 69), (.tmp 70)], argTypes := #[68, 3] }), none, [], 4, [1], false⟩,
      co (some 72) (.build 68 #[(0, (.tmp 68)), (1, (.const (.int .i64 10))), (7, (.tmp 71))]) none,
      co none (.store 68 (.tmp 4) (.tmp 72)) none,
      co (some 5) (.assign (.const (.int .i64 0))) none] [4, 5])
  (.ret))))))
theorem t_reader_Ref_Kid : Txt Try.prog 44 73 [(.cell 4 68), (.tmp 5)] c_reader_Ref_Kid := txt_of (code := Try.f44.body.getD .ret) mixed (by kernel_rfl) Try.func44 (by kernel_rfl) Try.ntmps44 (by kernel_rfl) (ls := [([1, 2, 4], [(0, [0]), (1, [1])]), ([], []), ([1, 2, 4, 13], []), ([], []), ([4, 5], []), ([], []), ([999999, 1, 2, 4], []), ([1, 2, 4, 16], []), ([], []), ([1, 2, 4, 16, 17], []), ([], []), ([4, 5], []), ([], []), ([1, 2, 4, 16, 33], []), ([], []), ([4, 5], []), ([], []), ([1, 2, 4, 46], []), ([], []), ([4, 5], []), ([], []), ([999999, 1, 2, 4], []), ([4, 5], []), ([], [])]) (by kernel_rfl)
def l1_copy_Long : CC :=
  .seq (.seq (.reg [co (some 6) (.move (.tmp 3)) none,
        co (some 7) (.binOp .gtr 3 (.tmp 6) (.const (.int .i64 0)) 3) none,
        co (some 8) (.move (.tmp 7)) none,
        co (some 9) (.load 68 (.tmp 1)) (some (8, true)),
        co (some 10) (.move (.tmp 3)) (some (8, true)),
        co (some 11) (.binOp .sub 3 (.tmp 10) (.const (.int .i64 1)) 3) (some (8, true)),
        co (some 12) (.call { callee := (.value (.func 86)), args := #[(.tmp 9), (.tmp 11)], argTypes := #[68, 3] }) (some (8, true)),
        co (some 13) (.binOp .eql 26 (.tmp 12) (.const (.int .u64 0)) 26) (some (8, true)),
        co (some 14) (.pick (.tmp 8) (.tmp 13) (.const (.bool false))) none] [1, 3, 14])
    (.cond (.tmp 14)
      (.skip)
      (.exit 0)))
  (.keep [1, 3] (.block 1
    (.reg [co (some 15) (.move (.tmp 3)) none,
      co (some 16) (.binOp .sub 3 (.tmp 15) (.const (.int .i64 1)) 3) none,
      co (some 3) (.assign (.tmp 16)) none] [1, 3])))
/-- cento/copy.Long -/
def c_copy_Long : CC :=
  .seq (.reg [cn (some 1) (.box 68 (.tmp 0)) none [0],
      co (some 2) (.assign (.const (.int .i64 0))) none] [1])
  (.seq (.reg [co (some 4) (.load 68 (.tmp 1)) none,
      co (some 5) (.call { callee := (.value (.func 85)), args := #[(.tmp 4)], argTypes := #[68] }) none,
      co (some 3) (.assign (.tmp 5)) none] [1, 3])
  (.seq (.block 0
      (.loop l1_copy_Long))
  (.keep [3] (.seq (.reg [co (some 17) (.move (.tmp 3)) none,
      co (some 2) (.assign (.tmp 17)) none] [2])
  (.ret)))))
theorem t_copy_Long : Txt Try.prog 46 18 [(.tmp 2)] c_copy_Long := txt_of (code := Try.f46.body.getD .ret) mixed (by kernel_rfl) Try.func46 (by kernel_rfl) Try.ntmps46 (by kernel_rfl) (ls := [([1], [(0, [0])]), ([], []), ([1, 3], []), ([], []), ([1, 3, 14], []), ([], []), ([999999, 1, 3], []), ([1, 3], []), ([999999, 3], []), ([2], []), ([], [])]) (by kernel_rfl)
def l1_copy_Wide : CC :=
  .seq (.seq (.reg [co (some 9) (.move (.tmp 4)) none,
        co (some 10) (.binOp .gtr 3 (.tmp 9) (.const (.int .i64 0)) 3) none] [1, 4, 10])
    (.cond (.tmp 10)
      (.skip)
      (.exit 0)))
  (.keep [1, 4] (.block 1
    (.seq (.reg [co (some 12) (.load 68 (.tmp 1)) none,
        co (some 13) (.move (.tmp 4)) none,
        co (some 14) (.binOp .sub 3 (.tmp 13) (.const (.int .i64 1)) 3) none,
        co (some 15) (.call { callee := (.value (.func 44)), args := #[(.tmp 12), (.tmp 14)], argTypes := #[68, 3] }) none,
        co (some 11) (.move (.tmp 15)) none,
        co (some 16) (.extract (.tmp 11) 0) none,
        co (some 17) (.extract (.tmp 11) 1) none,
        cn (some 5) (.alloc 68) none [1],
        co none (.store 68 (.tmp 5) (.tmp 16)) none,
        co (some 6) (.assign (.tmp 17)) none] [1, 4, 5, 6])
    (.seq (.seq (.reg [co (some 18) (.move (.tmp 6)) none,
          co (some 19) (.binOp .neq 64 (.tmp 18) (.const (.int .i64 0)) 64) none,
          co (some 20) (.move (.tmp 19)) none,
          co (some 21) (.load 68 (.tmp 5)) (some (20, false)),
          co (some 22) (.call { callee := (.value (.func 80)), args := #[(.tmp 21)], argTypes := #[68] }) (some (20, false)),
          co (some 23) (.binOp .neq 3 (.tmp 22) (.const (.int .i64 0)) 3) (some (20, false)),
          co (some 24) (.pick (.tmp 20) (.const (.bool true)) (.tmp 23)) none] [1, 4, 6, 24])
      (.cond (.tmp 24)
        (.seq (.reg [co (some 25) (.move (.tmp 4)) none,
            co (some 26) (.move (.tmp 6)) none,
            co (some 2) (.assign (.tmp 25)) none,
            co (some 3) (.assign (.tmp 26)) none] [2, 3])
        (.ret))
        (.skip)))
    (.keep [1, 4] (.reg [co (some 27) (.move (.tmp 4)) none,
      co (some 28) (.binOp .sub 3 (.tmp 27) (.const (.int .i64 1)) 3) none,
      co (some 4) (.assign (.tmp 28)) none] [1, 4]))))))
/-- cento/copy.Wide -/
def c_copy_Wide : CC :=
  .seq (.reg [cn (some 1) (.box 68 (.tmp 0)) none [0],
      co (some 2) (.assign (.const (.int .i64 0))) none,
      co (some 3) (.assign (.const (.int .i64 0))) none] [1])
  (.seq (.reg [co (some 7) (.load 68 (.tmp 1)) none,
      co (some 8) (.call { callee := (.value (.func 75)), args := #[(.tmp 7)], argTypes := #[68] }) none,
      co (some 4) (.assign (.tmp 8)) none] [1, 4])
  (.seq (.block 0
      (.loop l1_copy_Wide))
  (.keep [] (.seq (.reg [co (some 2) (.assign (.const (.int .i64 0))) none,
      co (some 3) (.assign (.const (.int .i64 0))) none] [2, 3])
  (.ret)))))
theorem t_copy_Wide : Txt Try.prog 45 29 [(.tmp 2), (.tmp 3)] c_copy_Wide := txt_of (code := Try.f45.body.getD .ret) mixed (by kernel_rfl) Try.func45 (by kernel_rfl) Try.ntmps45 (by kernel_rfl) (ls := [([1], [(0, [0])]), ([], []), ([1, 4], []), ([], []), ([1, 4, 10], []), ([], []), ([999999, 1, 4], []), ([1, 4, 5, 6], [(7, [1])]), ([], []), ([1, 4, 6, 24], []), ([], []), ([2, 3], []), ([], []), ([999999, 1, 4], []), ([1, 4], []), ([999999], []), ([2, 3], []), ([], [])]) (by kernel_rfl)
/-- cento/equal.kids -/
def c_equal_kids : CC :=
  .seq (.reg [cn (some 1) (.box 68 (.tmp 0)) none [0],
      co (some 2) (.assign (.const (.int .i64 0))) none,
      co (some 3) (.assign (.const (.int .i64 0))) none] [1])
  (.seq (.seq (.reg [co (some 4) (.load 68 (.tmp 1)) none,
        co (some 5) (.call { callee := (.value (.func 80)), args := #[(.tmp 4)], argTypes := #[68] }) none,
        co (some 6) (.binOp .eql 3 (.tmp 5) (.const (.int .i64 1)) 3) none] [1, 6])
    (.cond (.tmp 6)
      (.seq (.reg [co (some 7) (.load 68 (.tmp 1)) none,
          co (some 8) (.call { callee := (.value (.func 45)), args := #[(.tmp 7)], argTypes := #[68] }) none,
          co (some 9) (.extract (.tmp 8) 0) none,
          co (some 10) (.extract (.tmp 8) 1) none,
          co (some 2) (.assign (.tmp 9)) none,
          co (some 3) (.assign (.tmp 10)) none] [2, 3])
      (.ret))
      (.skip)))
  (.keep [1] (.seq (.reg [co (some 11) (.load 68 (.tmp 1)) none,
      co (some 12) (.call { callee := (.value (.func 75)), args := #[(.tmp 11)], argTypes := #[68] }) none,
      co (some 2) (.assign (.tmp 12)) none,
      co (some 3) (.assign (.const (.int .i64 0))) none] [2, 3])
  (.ret))))
theorem t_equal_kids : Txt Try.prog 168 13 [(.tmp 2), (.tmp 3)] c_equal_kids := txt_of (code := Try.f168.body.getD .ret) mixed (by kernel_rfl) Try.func168 (by kernel_rfl) Try.ntmps168 (by kernel_rfl) (ls := [([1], [(0, [0])]), ([], []), ([1, 6], []), ([], []), ([2, 3], []), ([], []), ([999999, 1], []), ([2, 3], []), ([], [])]) (by kernel_rfl)
/-- cento/equal.words -/
def c_equal_words : CC :=
  .seq (.reg [cn (some 1) (.box 68 (.tmp 0)) none [0],
      co (some 2) (.assign (.const (.int .i64 0))) none] [1])
  (.seq (.seq (.reg [co (some 3) (.load 68 (.tmp 1)) none,
        co (some 4) (.call { callee := (.value (.func 80)), args := #[(.tmp 3)], argTypes := #[68] }) none,
        co (some 5) (.binOp .eql 3 (.tmp 4) (.const (.int .i64 1)) 3) none] [1, 5])
    (.cond (.tmp 5)
      (.seq (.reg [co (some 6) (.load 68 (.tmp 1)) none,
          co (some 7) (.call { callee := (.value (.func 46)), args := #[(.tmp 6)], argTypes := #[68] }) none,
          co (some 2) (.assign (.tmp 7)) none] [2])
      (.ret))
      (.skip)))
  (.keep [1] (.seq (.reg [co (some 8) (.load 68 (.tmp 1)) none,
      co (some 9) (.call { callee := (.value (.func 85)), args := #[(.tmp 8)], argTypes := #[68] }) none,
      co (some 2) (.assign (.tmp 9)) none] [2])
  (.ret))))
theorem t_equal_words : Txt Try.prog 169 10 [(.tmp 2)] c_equal_words := txt_of (code := Try.f169.body.getD .ret) mixed (by kernel_rfl) Try.func169 (by kernel_rfl) Try.ntmps169 (by kernel_rfl) (ls := [([1], [(0, [0])]), ([], []), ([1, 5], []), ([], []), ([2], []), ([], []), ([999999, 1], []), ([2], []), ([], [])]) (by kernel_rfl)
def l1_equal_alike : CC :=
  .seq (.reg [co (some 48) (.binOp .lss 3 (.tmp 47) (.tmp 46) 3) none] [2, 3, 7, 10, 46, 47, 48])
  (.seq (.cond (.tmp 48)
      (.skip)
      (.exit 0))
  (.keep [2, 3, 7, 10, 46, 47] (.seq (.block 1
      (.seq (.reg [co (some 49) (.move (.tmp 47)) none,
          co (some 11) (.assign (.tmp 49)) none] [2, 3, 7, 10, 11, 46, 47])
      (.seq (.reg [co (some 50) (.move (.tmp 10)) none,
          co (some 51) (.load 68 (.tmp 2)) none,
          co (some 52) (.move (.tmp 11)) none,
          ⟨some 53, (.call { callee := (.value (.tmp 50)), args := #[(.tmp 51), (.tmp 52)], argTypes := #[68, 3] }), none, [], 3, [], true⟩,
          co (some 54) (.move (.tmp 10)) none,
          ⟨some 55, (.load 68 (.tmp 3)), none, [], 5, [3], false⟩,
          co (some 56) (.move (.tmp 11)) none,
          co (some 57) (.call { callee := (.value (.tmp 54)), args := #[(.tmp 55), (.tmp 56)], argTypes := #[68, 3] }) none,
          co (some 58) (.binOp .neq 26 (.tmp 53) (.tmp 57) 26) none] [2, 3, 7, 10, 46, 47, 58])
      (.cond (.tmp 58)
        (.seq (.reg [co (some 4) (.assign (.const (.int .i64 0))) none,
            co (some 5) (.assign (.const (.bool false))) none,
            co (some 6) (.assign (.const (.int .i64 0))) none] [4, 5, 6])
        (.ret))
        (.skip)))))
  (.keep [2, 3, 7, 10, 46, 47] (.reg [co (some 59) (.binOp .add 3 (.tmp 47) (.const (.int .i64 1)) 3) none,
    co (some 47) (.move (.tmp 59)) none] [2, 3, 7, 10, 46, 47])))))
/-- cento/equal.alike -/
def c_equal_alike : CC :=
  .seq (.reg [cn (some 2) (.box 68 (.tmp 0)) none [0],
      cn (some 3) (.box 68 (.tmp 1)) none [1],
      co (some 4) (.assign (.const (.int .i64 0))) none,
      co (some 5) (.assign (.const (.bool false))) none,
      co (some 6) (.assign (.const (.int .i64 0))) none] [2, 3])
  (.seq (.seq (.reg [co (some 12) (.load 68 (.tmp 2)) none,
        ⟨some 13, (.call { callee := (.value (.func 80)), args := #[(.tmp 12)], argTypes := #[68] }), none, [], 1, [], true⟩,
        ⟨some 14, (.load 68 (.tmp 3)), none, [], 2, [1], false⟩,
        co (some 15) (.call { callee := (.value (.func 80)), args := #[(.tmp 14)], argTypes := #[68] }) none,
        co (some 16) (.binOp .neq 3 (.tmp 13) (.tmp 15) 3) none,
        co (some 17) (.move (.tmp 16)) none,
        co (some 18) (.load 68 (.tmp 2)) (some (17, false)),
        ⟨some 19, (.call { callee := (.value (.func 169)), args := #[(.tmp 18)], argTypes := #[68] }), (some (17, false)), [], 7, [], true⟩,
        ⟨some 20, (.load 68 (.tmp 3)), (some (17, false)), [], 8, [7], false⟩,
        co (some 21) (.call { callee := (.value (.func 169)), args := #[(.tmp 20)], argTypes := #[68] }) (some (17, false)),
        co (some 22) (.binOp .neq 3 (.tmp 19) (.tmp 21) 3) (some (17, false)),
        co (some 23) (.pick (.tmp 17) (.const (.bool true)) (.tmp 22)) none] [2, 3, 23])
    (.cond (.tmp 23)
      (.seq (.reg [co (some 4) (.assign (.const (.int .i64 0))) none,
          co (some 5) (.assign (.const (.bool false))) none,
          co (some 6) (.assign (.const (.int .i64 0))) none] [4, 5, 6])
      (.ret))
      (.skip)))
  (.keep [2, 3] (.seq (.reg [co (some 25) (.load 68 (.tmp 2)) none,
      co (some 26) (.call { callee := (.value (.func 168)), args := #[(.tmp 25)], argTypes := #[68] }) none,
      co (some 24) (.move (.tmp 26)) none,
      co (some 27) (.extract (.tmp 24) 0) none,
      co (some 28) (.extract (.tmp 24) 1) none,
      co (some 7) (.assign (.tmp 27)) none,
      co (some 8) (.assign (.tmp 28)) none] [2, 3, 7, 8])
  (.seq (.seq (.reg [co (some 29) (.move (.tmp 8)) none,
        co (some 30) (.binOp .neq 64 (.tmp 29) (.const (.int .i64 0)) 64) none] [2, 3, 7, 8, 30])
    (.cond (.tmp 30)
      (.seq (.reg [co (some 31) (.move (.tmp 8)) none,
          co (some 4) (.assign (.const (.int .i64 0))) none,
          co (some 5) (.assign (.const (.bool false))) none,
          co (some 6) (.assign (.tmp 31)) none] [4, 5, 6])
      (.ret))
      (.skip)))
  (.keep [2, 3, 7] (.seq (.reg [co (some 33) (.load 68 (.tmp 3)) none,
      co (some 34) (.call { callee := (.value (.func 168)), args := #[(.tmp 33)], argTypes := #[68] }) none,
      co (some 32) (.move (.tmp 34)) none,
      co (some 35) (.extract (.tmp 32) 0) none,
      co (some 36) (.extract (.tmp 32) 1) none,
      co (some 9) (.assign (.tmp 35)) none,
      co (some 8) (.assign (.tmp 36)) none] [2, 3, 7, 8, 9])
  (.seq (.seq (.reg [co (some 37) (.move (.tmp 8)) none,
        co (some 38) (.binOp .neq 64 (.tmp 37) (.const (.int .i64 0)) 64) none,
        co (some 39) (.move (.tmp 38)) none,
        co (some 40) (.move (.tmp 7)) (some (39, false)),
        co (some 41) (.move (.tmp 9)) (some (39, false)),
        co (some 42) (.binOp .neq 3 (.tmp 40) (.tmp 41) 3) (some (39, false)),
        co (some 43) (.pick (.tmp 39) (.const (.bool true)) (.tmp 42)) none] [2, 3, 7, 8, 43])
    (.cond (.tmp 43)
      (.seq (.reg [co (some 44) (.move (.tmp 8)) none,
          co (some 4) (.assign (.const (.int .i64 0))) none,
          co (some 5) (.assign (.const (.bool false))) none,
          co (some 6) (.assign (.tmp 44)) none] [4, 5, 6])
      (.ret))
      (.skip)))
  (.keep [2, 3, 7] (.seq (.reg [co (some 10) (.assign (.func 86)) none] [2, 3, 7, 10])
  (.seq (.seq (.reg [co (some 45) (.load 68 (.tmp 2)) none,
        co (some 46) (.call { callee := (.value (.func 169)), args := #[(.tmp 45)], argTypes := #[68] }) none,
        co (some 47) (.move (.const (.int .i64 0))) none] [2, 3, 7, 10, 46, 47])
    (.block 0
      (.loop l1_equal_alike)))
  (.keep [7] (.seq (.reg [co (some 60) (.move (.tmp 7)) none,
      co (some 4) (.assign (.tmp 60)) none,
      co (some 5) (.assign (.const (.bool true))) none,
      co (some 6) (.assign (.const (.int .i64 0))) none] [4, 5, 6])
  (.ret)))))))))))))
theorem t_equal_alike : Txt Try.prog 200 61 [(.tmp 4), (.tmp 5), (.tmp 6)] c_equal_alike := txt_of (code := Try.f200.body.getD .ret) mixed (by kernel_rfl) Try.func200 (by kernel_rfl) Try.ntmps200 (by kernel_rfl) (ls := [([2, 3], [(0, [0]), (1, [1])]), ([], []), ([2, 3, 23], []), ([], []), ([4, 5, 6], []), ([], []), ([999999, 2, 3], []), ([2, 3, 7, 8], []), ([], []), ([2, 3, 7, 8, 30], []), ([], []), ([4, 5, 6], []), ([], []), ([999999, 2, 3, 7], []), ([2, 3, 7, 8, 9], []), ([], []), ([2, 3, 7, 8, 43], []), ([], []), ([4, 5, 6], []), ([], []), ([999999, 2, 3, 7], []), ([2, 3, 7, 10], []), ([], []), ([2, 3, 7, 10, 46, 47], []), ([], []), ([2, 3, 7, 10, 46, 47, 48], []), ([], []), ([999999, 2, 3, 7, 10, 46, 47], []), ([2, 3, 7, 10, 11, 46, 47], []), ([], []), ([2, 3, 7, 10, 46, 47, 58], []), ([], []), ([4, 5, 6], []), ([], []), ([999999, 2, 3, 7, 10, 46, 47], []), ([2, 3, 7, 10, 46, 47], []), ([999999, 7], []), ([4, 5, 6], []), ([], [])]) (by kernel_rfl)
def l1_equal_Values : CC :=
  .seq (.reg [co (some 31) (.binOp .lss 3 (.tmp 30) (.tmp 29) 3) none] [2, 3, 29, 30, 31])
  (.seq (.cond (.tmp 31)
      (.skip)
      (.exit 0))
  (.keep [2, 3, 29, 30] (.seq (.block 1
      (.seq (.reg [co (some 32) (.move (.tmp 30)) none,
          co (some 9) (.assign (.tmp 32)) none] [2, 3, 9, 29, 30])
      (.seq (.reg [co (some 34) (.load 68 (.tmp 2)) none,
          co (some 35) (.move (.tmp 9)) none,
          co (some 36) (.call { callee := (.value (.func 44)), args := #[(.tmp 34), (.tmp 35)], argTypes := #[68, 3] }) none,
          co (some 33) (.move (.tmp 36)) none,
          co (some 37) (.extract (.tmp 33) 0) none,
          co (some 38) (.extract (.tmp 33) 1) none,
          cn (some 10) (.alloc 68) none [2],
          co none (.store 68 (.tmp 10) (.tmp 37)) none,
          co (some 11) (.assign (.tmp 38)) none] [2, 3, 9, 10, 11, 29, 30])
      (.seq (.seq (.reg [co (some 39) (.move (.tmp 11)) none,
            co (some 40) (.binOp .neq 64 (.tmp 39) (.const (.int .i64 0)) 64) none] [2, 3, 9, 10, 11, 29, 30, 40])
        (.cond (.tmp 40)
          (.seq (.reg [co (some 41) (.move (.tmp 11)) none,
              co (some 4) (.assign (.const (.bool false))) none,
              co (some 5) (.assign (.tmp 41)) none] [4, 5])
          (.ret))
          (.skip)))
      (.keep [2, 3, 9, 10, 29, 30] (.seq (.reg [co (some 43) (.load 68 (.tmp 3)) none,
          co (some 44) (.move (.tmp 9)) none,
          co (some 45) (.call { callee := (.value (.func 44)), args := #[(.tmp 43), (.tmp 44)], argTypes := #[68, 3] }) none,
          co (some 42) (.move (.tmp 45)) none,
          co (some 46) (.extract (.tmp 42) 0) none,
          co (some 47) (.extract (.tmp 42) 1) none,
          cn (some 12) (.alloc 68) none [3],
          co none (.store 68 (.tmp 12) (.tmp 46)) none,
          co (some 11) (.assign (.tmp 47)) none] [2, 3, 10, 11, 12, 29, 30])
      (.seq (.seq (.reg [co (some 48) (.move (.tmp 11)) none,
            co (some 49) (.binOp .neq 64 (.tmp 48) (.const (.int .i64 0)) 64) none] [2, 3, 10, 11, 12, 29, 30, 49])
        (.cond (.tmp 49)
          (.seq (.reg [co (some 50) (.move (.tmp 11)) none,
              co (some 4) (.assign (.const (.bool false))) none,
              co (some 5) (.assign (.tmp 50)) none] [4, 5])
          (.ret))
          (.skip)))
      (.keep [2, 3, 10, 12, 29, 30] (.seq (.reg [co (some 52) (.load 68 (.tmp 10)) none,
          co (some 53) (.load 68 (.tmp 12)) none,
          co (some 54) (.call { callee := (.value (.func 171)), args := #[(.tmp 52), (.tmp 53)], argTypes := #[68, 68] }) none,
          co (some 51) (.move (.tmp 54)) none,
          co (some 55) (.extract (.tmp 51) 0) none,
          co (some 56) (.extract (.tmp 51) 1) none,
          co (some 13) (.assign (.tmp 55)) none,
          co (some 14) (.assign (.tmp 56)) none] [2, 3, 13, 14, 29, 30])
      (.seq (.reg [co (some 57) (.move (.tmp 14)) none,
          co (some 58) (.binOp .neq 64 (.tmp 57) (.const (.int .i64 0)) 64) none,
          co (some 59) (.move (.tmp 58)) none,
          co (some 60) (.move (.tmp 13)) (some (59, false)),
          co (some 61) (.unOp .not 4 (.tmp 60)) (some (59, false)),
          co (some 62) (.pick (.tmp 59) (.const (.bool true)) (.tmp 61)) none] [2, 3, 14, 29, 30, 62])
      (.cond (.tmp 62)
        (.seq (.reg [co (some 63) (.move (.tmp 14)) none,
            co (some 4) (.assign (.const (.bool false))) none,
            co (some 5) (.assign (.tmp 63)) none] [4, 5])
        (.ret))
        (.skip))))))))))))
  (.keep [2, 3, 29, 30] (.reg [co (some 64) (.binOp .add 3 (.tmp 30) (.const (.int .i64 1)) 3) none,
    co (some 30) (.move (.tmp 64)) none] [2, 3, 29, 30])))))
/-- cento/equal.Values -/
def c_equal_Values : CC :=
  .seq (.reg [cn (some 2) (.box 68 (.tmp 0)) none [0],
      cn (some 3) (.box 68 (.tmp 1)) none [1],
      co (some 4) (.assign (.const (.bool false))) none,
      co (some 5) (.assign (.const (.int .i64 0))) none] [2, 3])
  (.seq (.reg [co (some 16) (.load 68 (.tmp 2)) none,
      co (some 17) (.load 68 (.tmp 3)) none,
      co (some 18) (.call { callee := (.value (.func 200)), args := #[(.tmp 16), (.tmp 17)], argTypes := #[68, 68] }) none,
      co (some 15) (.move (.tmp 18)) none,
      co (some 19) (.extract (.tmp 15) 0) none,
      co (some 20) (.extract (.tmp 15) 1) none,
      co (some 21) (.extract (.tmp 15) 2) none,
      co (some 6) (.assign (.tmp 19)) none,
      co (some 7) (.assign (.tmp 20)) none,
      co (some 8) (.assign (.tmp 21)) none] [2, 3, 6, 7, 8])
  (.seq (.seq (.reg [co (some 22) (.move (.tmp 8)) none,
        co (some 23) (.binOp .neq 64 (.tmp 22) (.const (.int .i64 0)) 64) none,
        co (some 24) (.move (.tmp 23)) none,
        co (some 25) (.move (.tmp 7)) (some (24, false)),
        co (some 26) (.unOp .not 4 (.tmp 25)) (some (24, false)),
        co (some 27) (.pick (.tmp 24) (.const (.bool true)) (.tmp 26)) none] [2, 3, 6, 8, 27])
    (.cond (.tmp 27)
      (.seq (.reg [co (some 28) (.move (.tmp 8)) none,
          co (some 4) (.assign (.const (.bool false))) none,
          co (some 5) (.assign (.tmp 28)) none] [4, 5])
      (.ret))
      (.skip)))
  (.keep [2, 3, 6] (.seq (.seq (.reg [co (some 29) (.move (.tmp 6)) none,
        co (some 30) (.move (.const (.int .i64 0))) none] [2, 3, 29, 30])
    (.block 0
      (.loop l1_equal_Values)))
  (.keep [] (.seq (.reg [co (some 4) (.assign (.const (.bool true))) none,
      co (some 5) (.assign (.const (.int .i64 0))) none] [4, 5])
  (.ret)))))))
theorem t_equal_Values : Txt Try.prog 171 65 [(.tmp 4), (.tmp 5)] c_equal_Values := txt_of (code := Try.f171.body.getD .ret) mixed (by kernel_rfl) Try.func171 (by kernel_rfl) Try.ntmps171 (by kernel_rfl) (ls := [([2, 3], [(0, [0]), (1, [1])]), ([], []), ([2, 3, 6, 7, 8], []), ([], []), ([2, 3, 6, 8, 27], []), ([], []), ([4, 5], []), ([], []), ([999999, 2, 3, 6], []), ([2, 3, 29, 30], []), ([], []), ([2, 3, 29, 30, 31], []), ([], []), ([999999, 2, 3, 29, 30], []), ([2, 3, 9, 29, 30], []), ([], []), ([2, 3, 9, 10, 11, 29, 30], [(6, [2])]), ([], []), ([2, 3, 9, 10, 11, 29, 30, 40], []), ([], []), ([4, 5], []), ([], []), ([999999, 2, 3, 9, 10, 29, 30], []), ([2, 3, 10, 11, 12, 29, 30], [(6, [3])]), ([], []), ([2, 3, 10, 11, 12, 29, 30, 49], []), ([], []), ([4, 5], []), ([], []), ([999999, 2, 3, 10, 12, 29, 30], []), ([2, 3, 13, 14, 29, 30], []), ([], []), ([2, 3, 14, 29, 30, 62], []), ([], []), ([4, 5], []), ([], []), ([999999, 2, 3, 29, 30], []), ([2, 3, 29, 30], []), ([999999], []), ([4, 5], []), ([], [])]) (by kernel_rfl)
/-- cento/centoref09.At -/
def c_centoref09_At : CC :=
  .seq (.reg [cn (some 6) (.alloc 128) none [0],
      co (some 7) (.assign (.const (.int .i64 0))) none] [0, 1, 2, 6])
  (.seq (.reg [co (some 13) (.move (.tmp 0)) none,
      co (some 14) (.move (.tmp 1)) none,
      co (some 15) (.move (.tmp 2)) none,
      co (some 16) (.call { callee := (.value (.func 115)), args := #[(.tmp 13), (.tmp 14), (.tmp 15)], argTypes := #[22, 3, 3] }) none,
      co (some 12) (.move (.tmp 16)) none,
      co (some 17) (.extract (.tmp 12) 0) none,
      co (some 18) (.extract (.tmp 12) 1) none,
      cn (some 8) (.alloc 172) none [1],
      co none (.store 172 (.tmp 8) (.tmp 17)) none,
      co (some 9) (.assign (.tmp 18)) none] [0, 6, 8, 9])
  (.seq (.seq (.reg [co (some 19) (.move (.tmp 9)) none,
        co (some 20) (.binOp .neq 3 (.tmp 19) (.const (.int .i64 0)) 3) none,
        co (some 21) (.move (.tmp 20)) none,
        co (some 22) (.fieldAddr 172 (.tmp 8) 0) (some (21, false)),
        co (some 23) (.fieldAddr 170 (.tmp 22) 0) (some (21, false)),
        co (some 24) (.load 3 (.tmp 23)) (some (21, false)),
        co (some 25) (.binOp .eql 3 (.tmp 24) (.const (.int .i64 0)) 3) (some (21, false)),
        co (some 26) (.pick (.tmp 21) (.const (.bool true)) (.tmp 25)) none] [0, 6, 8, 9, 26])
    (.cond (.tmp 26)
      (.seq (.reg [co (some 27) (.build 128 #[]) none,
          co (some 28) (.move (.tmp 9)) none,
          co none (.store 128 (.tmp 6) (.tmp 27)) none,
          co (some 7) (.assign (.tmp 28)) none] [6, 7])
      (.ret))
      (.skip)))
  (.keep [0, 6, 8] (.seq (.seq (.reg [co (some 29) (.fieldAddr 172 (.tmp 8) 0) none,
        co (some 30) (.fieldAddr 170 (.tmp 29) 0) none,
        co (some 31) (.load 3 (.tmp 30)) none,
        co (some 32) (.binOp .eql 3 (.tmp 31) (.const (.int .i64 1)) 3) none] [0, 6, 8, 32])
    (.cond (.tmp 32)
      (.seq (.reg [co (some 33) (.fieldAddr 172 (.tmp 8) 1) none,
          co (some 34) (.load 3 (.tmp 33)) none,
          co (some 35) (.fieldAddr 172 (.tmp 8) 2) none,
          co (some 36) (.load 3 (.tmp 35)) none,
          co (some 37) (.fieldAddr 172 (.tmp 8) 0) none,
          co (some 38) (.fieldAddr 170 (.tmp 37) 2) none,
          co (some 39) (.load 3 (.tmp 38)) none,
          co (some 40) (.fieldAddr 172 (.tmp 8) 0) none,
          co (some 41) (.fieldAddr 170 (.tmp 40) 3) none,
          co (some 42) (.load 3 (.tmp 41)) none,
          co (some 43) (.build 128 #[(0, (.const (.int .i64 1))), (1, (.tmp 34)), (2, (.tmp 36)), (3, (.tmp 39)), (4, (.tmp 42))]) none,
          co none (.store 128 (.tmp 6) (.tmp 43)) none,
          co (some 7) (.assign (.const (.int .i64 0))) none] [6, 7])
      (.ret))
      (.skip)))
  (.keep [0, 6, 8] (.seq (.seq (.reg [co (some 44) (.fieldAddr 172 (.tmp 8) 0) none,
        co (some 45) (.fieldAddr 170 (.tmp 44) 4) none,
        co (some 46) (.load 3 (.tmp 45)) none,
        co (some 47) (.binOp .lss 3 (.tmp 46) (.const (.int .i64 7)) 3) none] [0, 6, 8, 47])
    (.cond (.tmp 47)
      (.seq (.reg [co (some 48) (.fieldAddr 172 (.tmp 8) 0) none,
          co (some 49) (.fieldAddr 170 (.tmp 48) 4) none,
          co (some 50) (.load 3 (.tmp 49)) none,
          co (some 51) (.binOp .add 3 (.const (.int .i64 2)) (.tmp 50) 3) none,
          co (some 52) (.fieldAddr 172 (.tmp 8) 1) none,
          co (some 53) (.load 3 (.tmp 52)) none,
          co (some 54) (.fieldAddr 172 (.tmp 8) 2) none,
          co (some 55) (.load 3 (.tmp 54)) none,
          co (some 56) (.fieldAddr 172 (.tmp 8) 0) none,
          co (some 57) (.fieldAddr 170 (.tmp 56) 5) none,
          co (some 58) (.load 3 (.tmp 57)) none,
          co (some 59) (.build 128 #[(0, (.tmp 51)), (1, (.tmp 53)), (2, (.tmp 55)), (5, (.tmp 58))]) none,
          co none (.store 128 (.tmp 6) (.tmp 59)) none,
          co (some 7) (.assign (.const (.int .i64 0))) none] [6, 7])
      (.ret))
      (.skip)))
  (.keep [0, 6, 8] (.seq (.reg [co (some 60) (.move (.tmp 0)) none,
      co (some 61) (.fieldAddr 172 (.tmp 8) 1) none,
      co (some 62) (.load 3 (.tmp 61)) none,
      co (some 63) (.indexAddr 22 (.tmp 60) (.tmp 62)) none,
      co (some 64) (.load 23 (.tmp 63)) none,
      co (some 65) (.fieldAddr 172 (.tmp 8) 2) none,
      co (some 66) (.load 3 (.tmp 65)) none,
      co (some 67) (.indexAddr 23 (.tmp 64) (.tmp 66)) none,
      co (some 68) (.load 26 (.tmp 67)) none,
      co (some 10) (.assign (.tmp 68)) none] [6, 8, 10])
  (.seq (.reg [co (some 69) (.move (.tmp 10)) none,
      co (some 70) (.call { callee := (.value (.func 116)), args := #[(.tmp 69)], argTypes := #[26] }) none,
      cn (some 11) (.alloc 170) none [2],
      co none (.store 170 (.tmp 11) (.tmp 70)) none] [6, 8, 10, 11])
  (.seq (.seq (.reg [co (some 71) (.move (.tmp 10)) none,
        co (some 72) (.binOp .neq 26 (.tmp 71) (.const (.int .u64 0)) 26) none,
        co (some 73) (.move (.tmp 72)) none,
        co (some 74) (.fieldAddr 170 (.tmp 11) 0) (some (73, true)),
        co (some 75) (.load 3 (.tmp 74)) (some (73, true)),
        co (some 76) (.binOp .neq 3 (.tmp 75) (.const (.int .i64 1)) 3) (some (73, true)),
        co (some 77) (.pick (.tmp 73) (.tmp 76) (.const (.bool false))) none,
        co (some 78) (.move (.tmp 77)) none,
        co (some 79) (.fieldAddr 170 (.tmp 11) 1) (some (78, false)),
        co (some 80) (.load 3 (.tmp 79)) (some (78, false)),
        co (some 81) (.binOp .lss 3 (.tmp 80) (.const (.int .i64 0)) 3) (some (78, false)),
        co (some 82) (.pick (.tmp 78) (.const (.bool true)) (.tmp 81)) none,
        co (some 83) (.move (.tmp 82)) none,
        co (some 84) (.fieldAddr 170 (.tmp 11) 1) (some (83, false)),
        co (some 85) (.load 3 (.tmp 84)) (some (83, false)),
        co (some 86) (.fieldAddr 170 (.tmp 11) 2) (some (83, false)),
        co (some 87) (.load 3 (.tmp 86)) (some (83, false)),
        co (some 88) (.fieldAddr 170 (.tmp 11) 3) (some (83, false)),
        co (some 89) (.load 3 (.tmp 88)) (some (83, false)),
        co (some 90) (.binOp .add 3 (.tmp 87) (.tmp 89) 3) (some (83, false)),
        co (some 91) (.binOp .mul 3 (.tmp 85) (.tmp 90) 3) (some (83, false)),
        co (some 92) (.fieldAddr 172 (.tmp 8) 0) (some (83, false)),
        co (some 93) (.fieldAddr 170 (.tmp 92) 5) (some (83, false)),
        co (some 94) (.load 3 (.tmp 93)) (some (83, false)),
        co (some 95) (.binOp .gtr 3 (.tmp 91) (.tmp 94) 3) (some (83, false)),
        co (some 96) (.pick (.tmp 83) (.const (.bool true)) (.tmp 95)) none] [6, 8, 11, 96])
    (.cond (.tmp 96)
      (.seq (.reg [co (some 97) (.build 128 #[]) none,
          co none (.store 128 (.tmp 6) (.tmp 97)) none,
          co (some 7) (.assign (.const (.int .i64 8))) none] [6, 7])
      (.ret))
      (.skip)))
  (.keep [6, 8, 11] (.seq (.reg [co (some 98) (.fieldAddr 172 (.tmp 8) 1) none,
      co (some 99) (.load 3 (.tmp 98)) none,
      co (some 100) (.fieldAddr 172 (.tmp 8) 2) none,
      co (some 101) (.load 3 (.tmp 100)) none,
      co (some 102) (.binOp .add 3 (.tmp 101) (.const (.int .i64 1)) 3) none,
      co (some 103) (.fieldAddr 170 (.tmp 11) 2) none,
      co (some 104) (.load 3 (.tmp 103)) none,
      co (some 105) (.fieldAddr 170 (.tmp 11) 3) none,
      co (some 106) (.load 3 (.tmp 105)) none,
      co (some 107) (.fieldAddr 170 (.tmp 11) 1) none,
      co (some 108) (.load 3 (.tmp 107)) none,
      co (some 109) (.build 128 #[(0, (.const (.int .i64 9))), (1, (.tmp 99)), (2, (.tmp 102)), (3, (.tmp 104)), (4, (.tmp 106)), (5, (.tmp 108))]) none,
      co none (.store 128 (.tmp 6) (.tmp 109)) none,
      co (some 7) (.assign (.const (.int .i64 0))) none] [6, 7])
  (.ret)))))))))))))
theorem t_centoref09_At : Txt Try.prog 73 110 [(.cell 6 128), (.tmp 7)] c_centoref09_At := txt_of (code := Try.f73.body.getD .ret) mixed (by kernel_rfl) Try.func73 (by kernel_rfl) Try.ntmps73 (by kernel_rfl) (ls := [([0, 1, 2, 6], [(0, [0])]), ([], []), ([0, 6, 8, 9], [(7, [1])]), ([], []), ([0, 6, 8, 9, 26], []), ([], []), ([6, 7], []), ([], []), ([999999, 0, 6, 8], []), ([0, 6, 8, 32], []), ([], []), ([6, 7], []), ([], []), ([999999, 0, 6, 8], []), ([0, 6, 8, 47], []), ([], []), ([6, 7], []), ([], []), ([999999, 0, 6, 8], []), ([6, 8, 10], []), ([], []), ([6, 8, 10, 11], [(2, [2])]), ([], []), ([6, 8, 11, 96], []), ([], []), ([6, 7], []), ([], []), ([999999, 6, 8, 11], []), ([6, 7], []), ([], [])]) (by kernel_rfl)
/-- (cento/centoref09.Ref).Kids -/
def c_centoref09_Ref_Kids : CC :=
  .seq (.reg [cn (some 1) (.box 128 (.tmp 0)) none [0],
      co (some 2) (.assign (.const (.int .i64 0))) none] [1])
  (.seq (.seq (.reg [co (some 3) (.fieldAddr 128 (.tmp 1) 0) none,
        co (some 4) (.load 3 (.tmp 3)) none,
        co (some 5) (.binOp .eql 3 (.tmp 4) (.const (.int .i64 1)) 3) none] [1, 5])
    (.cond (.tmp 5)
      (.seq (.reg [co (some 6) (.fieldAddr 128 (.tmp 1) 4) none,
          co (some 7) (.load 3 (.tmp 6)) none,
          co (some 2) (.assign (.tmp 7)) none] [2])
      (.ret))
      (.skip)))
  (.keep [1] (.seq (.reg [co (some 8) (.fieldAddr 128 (.tmp 1) 5) none,
      co (some 9) (.load 3 (.tmp 8)) none,
      co (some 2) (.assign (.tmp 9)) none] [2])
  (.ret))))
theorem t_centoref09_Ref_Kids : Txt Try.prog 118 10 [(.tmp 2)] c_centoref09_Ref_Kids := txt_of (code := Try.f118.body.getD .ret) mixed (by kernel_rfl) Try.func118 (by kernel_rfl) Try.ntmps118 (by kernel_rfl) (ls := [([1], [(0, [0])]), ([], []), ([1, 5], []), ([], []), ([2], []), ([], []), ([999999, 1], []), ([2], []), ([], [])]) (by kernel_rfl)
/-- (cento/centoref09.Ref).Words -/
def c_centoref09_Ref_Words : CC :=
  .seq (.reg [cn (some 2) (.box 128 (.tmp 0)) none [0],
      co (some 4) (.assign (.const (.slice none 0 0))) none] [1, 2])
  (.seq (.seq (.reg [co (some 6) (.fieldAddr 128 (.tmp 2) 0) none,
        co (some 7) (.load 3 (.tmp 6)) none,
        co (some 8) (.binOp .eql 3 (.tmp 7) (.const (.int .i64 10)) 3) none] [1, 2, 8])
    (.cond (.tmp 8)
      (.seq (.reg [co (some 9) (.fieldAddr 128 (.tmp 2) 6) none,
          co (some 10) (.load 26 (.tmp 9)) none,
          co (some 11) (.buildSlice 23 1 #[(0, (.tmp 10))]) none,
          co (some 4) (.assign (.tmp 11)) none] [4])
      (.ret))
      (.skip)))
  (.keep [1, 2] (.seq (.seq (.reg [co (some 12) (.fieldAddr 128 (.tmp 2) 0) none,
        co (some 13) (.load 3 (.tmp 12)) none,
        co (some 14) (.binOp .neq 3 (.tmp 13) (.const (.int .i64 1)) 3) none] [1, 2, 14])
    (.cond (.tmp 14)
      (.seq (.reg [co (some 4) (.assign (.const (.slice none 0 0))) none] [4])
      (.ret))
      (.skip)))
  (.keep [1, 2] (.seq (.reg [co (some 5) (.assign (.const (.slice none 0 0))) none] [1, 2, 5])
  (.seq (.reg [co (some 15) (.move (.tmp 5)) none,
      co (some 16) (.move (.tmp 1)) none,
      co (some 17) (.fieldAddr 128 (.tmp 2) 1) none,
      co (some 18) (.load 3 (.tmp 17)) none,
      co (some 19) (.indexAddr 22 (.tmp 16) (.tmp 18)) none,
      co (some 20) (.load 23 (.tmp 19)) none,
      co (some 21) (.fieldAddr 128 (.tmp 2) 2) none,
      co (some 22) (.load 3 (.tmp 21)) none,
      co (some 23) (.fieldAddr 128 (.tmp 2) 2) none,
      co (some 24) (.load 3 (.tmp 23)) none,
      co (some 25) (.fieldAddr 128 (.tmp 2) 3) none,
      co (some 26) (.load 3 (.tmp 25)) none,
      co (some 27) (.binOp .add 3 (.tmp 24) (.tmp 26) 3) none,
      co (some 28) (.slice 23 (.tmp 20) (some (.tmp 22)) (some (.tmp 27)) none) none,
      cn (some 29) (.call { callee := (.builtin .append), args := #[(.tmp 15), (.tmp 28)], argTypes := #[23, 23] }) none [1],
      co (some 4) (.assign (.tmp 29)) none] [4])
  (.ret)))))))
theorem t_centoref09_Ref_Words : Txt Try.prog 117 30 [(.tmp 4)] c_centoref09_Ref_Words := txt_of (code := Try.f117.body.getD .ret) mixed (by kernel_rfl) Try.func117 (by kernel_rfl) Try.ntmps117 (by kernel_rfl) (ls := [([1, 2], [(0, [0])]), ([], []), ([1, 2, 8], []), ([], []), ([4], []), ([], []), ([999999, 1, 2], []), ([1, 2, 14], []), ([], []), ([4], []), ([], []), ([999999, 1, 2], []), ([1, 2, 5], []), ([], []), ([4], [(14, [1])]), ([], [])]) (by kernel_rfl)
/-- (cento/centoref09.Ref).Kid -/
def c_centoref09_Ref_Kid : CC :=
  .seq (.reg [cn (some 3) (.box 128 (.tmp 0)) none [0],
      cn (some 6) (.alloc 128) none [1],
      co (some 7) (.assign (.const (.int .i64 0))) none] [1, 2, 3, 6])
  (.seq (.seq (.reg [co (some 8) (.move (.tmp 2)) none,
        co (some 9) (.binOp .lss 3 (.tmp 8) (.const (.int .i64 0)) 3) none,
        co (some 10) (.move (.tmp 9)) none,
        co (some 11) (.move (.tmp 2)) (some (10, false)),
        co (some 12) (.load 128 (.tmp 3)) (some (10, false)),
        co (some 13) (.call { callee := (.value (.func 118)), args := #[(.tmp 12)], argTypes := #[128] }) (some (10, false)),
        co (some 14) (.binOp .geq 3 (.tmp 11) (.tmp 13) 3) (some (10, false)),
        co (some 15) (.pick (.tmp 10) (.const (.bool true)) (.tmp 14)) none] [1, 2, 3, 6, 15])
    (.cond (.tmp 15)
      (.seq (.reg [co (some 16) (.build 128 #[]) none,
          co none (.store 128 (.tmp 6) (.tmp 16)) none,
          co (some 7) (.assign (.const (.int .i64 0))) none] [6, 7])
      (.ret))
      (.skip)))
  (.keep [1, 2, 3, 6] (.seq (.seq (.reg [co (some 17) (.fieldAddr 128 (.tmp 3) 0) none,
        co (some 18) (.load 3 (.tmp 17)) none,
        co (some 19) (.binOp .eql 3 (.tmp 18) (.const (.int .i64 1)) 3) none] [1, 2, 3, 6, 19])
    (.cond (.tmp 19)
      (.seq (.reg [co (some 20) (.move (.tmp 1)) none,
          co (some 21) (.fieldAddr 128 (.tmp 3) 1) none,
          co (some 22) (.load 3 (.tmp 21)) none,
          co (some 23) (.fieldAddr 128 (.tmp 3) 2) none,
          co (some 24) (.load 3 (.tmp 23)) none,
          co (some 25) (.fieldAddr 128 (.tmp 3) 3) none,
          co (some 26) (.load 3 (.tmp 25)) none,
          co (some 27) (.binOp .add 3 (.tmp 24) (.tmp 26) 3) none,
          co (some 28) (.move (.tmp 2)) none,
          co (some 29) (.binOp .add 3 (.tmp 27) (.tmp 28) 3) none,
          co (some 30) (.call { callee := (.value (.func 73)), args := #[(.tmp 20), (.tmp 22), (.tmp 29)], argTypes := #[22, 3, 3] }) none,
          co (some 31) (.extract (.tmp 30) 0) none,
          co (some 32) (.extract (.tmp 30) 1) none,
          co none (.store 128 (.tmp 6) (.tmp 31)) none,
          co (some 7) (.assign (.tmp 32)) none] [6, 7])
      (.ret))
      (.skip)))
  (.keep [1, 2, 3, 6] (.seq (.seq (.reg [co (some 33) (.fieldAddr 128 (.tmp 3) 0) none,
        co (some 34) (.load 3 (.tmp 33)) none,
        co (some 35) (.binOp .eql 3 (.tmp 34) (.const (.int .i64 8)) 3) none] [1, 2, 3, 6, 35])
    (.cond (.tmp 35)
      (.seq (.reg [co (some 36) (.move (.tmp 1)) none,
          co (some 37) (.fieldAddr 128 (.tmp 3) 1) none,
          co (some 38) (.load 3 (.tmp 37)) none,
          co (some 39) (.fieldAddr 128 (.tmp 3) 2) none,
          co (some 40) (.load 3 (.tmp 39)) none,
          co (some 41) (.move (.tmp 2)) none,
          co (some 42) (.binOp .add 3 (.tmp 40) (.tmp 41) 3) none,
          co (some 43) (.call { callee := (.value (.func 73)), args := #[(.tmp 36), (.tmp 38), (.tmp 42)], argTypes := #[22, 3, 3] }) none,
          co (some 44) (.extract (.tmp 43) 0) none,
          co (some 45) (.extract (.tmp 43) 1) none,
          co none (.store 128 (.tmp 6) (.tmp 44)) none,
          co (some 7) (.assign (.tmp 45)) none] [6, 7])
      (.ret))
      (.skip)))
  (.keep [1, 2, 3, 6] (.seq (.seq (.reg [co (some 46) (.fieldAddr 128 (.tmp 3) 0) none,
        co (some 47) (.load 3 (.tmp 46)) none,
        co (some 48) (.binOp .eql 3 (.tmp 47) (.const (.int .i64 9)) 3) none] [1, 2, 3, 6, 48])
    (.cond (.tmp 48)
      (.seq (.reg [co (some 49) (.fieldAddr 128 (.tmp 3) 1) none,
          co (some 50) (.load 3 (.tmp 49)) none,
          co (some 51) (.fieldAddr 128 (.tmp 3) 2) none,
          co (some 52) (.load 3 (.tmp 51)) none,
          co (some 53) (.move (.tmp 2)) none,
          co (some 54) (.fieldAddr 128 (.tmp 3) 3) none,
          co (some 55) (.load 3 (.tmp 54)) none,
          co (some 56) (.fieldAddr 128 (.tmp 3) 4) none,
          co (some 57) (.load 3 (.tmp 56)) none,
          co (some 58) (.binOp .add 3 (.tmp 55) (.tmp 57) 3) none,
          co (some 59) (.binOp .mul 3 (.tmp 53) (.tmp 58) 3) none,
          co (some 60) (.binOp .add 3 (.tmp 52) (.tmp 59) 3) none,
          co (some 61) (.fieldAddr 128 (.tmp 3) 3) none,
          co (some 62) (.load 3 (.tmp 61)) none,
          co (some 63) (.fieldAddr 128 (.tmp 3) 4) none,
          co (some 64) (.load 3 (.tmp 63)) none,
          co (some 65) (.build 128 #[(0, (.const (.int .i64 1))), (1, (.tmp 50)), (2, (.tmp 60)), (3, (.tmp 62)), (4, (.tmp 64))]) none,
          co none (.store 128 (.tmp 6) (.tmp 65)) none,
          co (some 7) (.assign (.const (.int .i64 0))) none] [6, 7])
      (.ret))
      (.skip)))
  (.keep [1, 2, 3, 6] (.seq (.reg [co (some 66) (.move (.tmp 1)) none,
      co (some 67) (.fieldAddr 128 (.tmp 3) 1) none,
      co (some 68) (.load 3 (.tmp 67)) none,
      co (some 69) (.indexAddr 22 (.tmp 66) (.tmp 68)) none,
      co (some 70) (.load 23 (.tmp 69)) none,
      co (some 71) (.fieldAddr 128 (.tmp 3) 2) none,
      co (some 72) (.load 3 (.tmp 71)) none,
      co (some 73) (.slice 23 (.tmp 70) (some (.tmp 72)) none none) none,
      co (some 74) (.fieldAddr 128 (.tmp 3) 0) none,
      co (some 75) (.load 3 (.tmp 74)) none,
      co (some 76) (.binOp .sub 3 (.tmp 75) (.const (.int .i64 2)) 3) none,
      co (some 77) (.move (.tmp 2)) none,
      co (some 78) (.call { callee := (.value (.func 166)), args := #[(.tmp 73), (.tmp 76), (.tmp 77)], argTypes := #[23, 3, 3] }) none,
      co (some 79) (.build 128 #[(0, (.const (.int .i64 10))), (6, (.tmp 78))]) none,
      co none (.store 128 (.tmp 6) (.tmp 79)) none,
      co (some 7) (.assign (.const (.int .i64 0))) none] [6, 7])
  (.ret))))))))))
theorem t_centoref09_Ref_Kid : Txt Try.prog 119 80 [(.cell 6 128), (.tmp 7)] c_centoref09_Ref_Kid := txt_of (code := Try.f119.body.getD .ret) mixed (by kernel_rfl) Try.func119 (by kernel_rfl) Try.ntmps119 (by kernel_rfl) (ls := [([1, 2, 3, 6], [(0, [0]), (1, [1])]), ([], []), ([1, 2, 3, 6, 15], []), ([], []), ([6, 7], []), ([], []), ([999999, 1, 2, 3, 6], []), ([1, 2, 3, 6, 19], []), ([], []), ([6, 7], []), ([], []), ([999999, 1, 2, 3, 6], []), ([1, 2, 3, 6, 35], []), ([], []), ([6, 7], []), ([], []), ([999999, 1, 2, 3, 6], []), ([1, 2, 3, 6, 48], []), ([], []), ([6, 7], []), ([], []), ([999999, 1, 2, 3, 6], []), ([6, 7], []), ([], [])]) (by kernel_rfl)
/-- cento/centoref10.within -/
def c_centoref10_within : CC :=
  .seq (.reg [co (some 4) (.assign (.const (.int .i64 0))) none] [0, 1])
  (.seq (.seq (.reg [co (some 5) (.move (.tmp 0)) none,
        co (some 6) (.binOp .lss 3 (.tmp 5) (.const (.int .i64 0)) 3) none] [0, 1, 6])
    (.cond (.tmp 6)
      (.seq (.reg [co (some 4) (.assign (.const (.int .i64 0))) none] [4])
      (.ret))
      (.skip)))
  (.keep [0, 1] (.seq (.seq (.reg [co (some 7) (.move (.tmp 0)) none,
        co (some 8) (.move (.tmp 1)) none,
        co (some 9) (.binOp .gtr 3 (.tmp 7) (.tmp 8) 3) none] [0, 1, 9])
    (.cond (.tmp 9)
      (.seq (.reg [co (some 10) (.move (.tmp 1)) none,
          co (some 4) (.assign (.tmp 10)) none] [4])
      (.ret))
      (.skip)))
  (.keep [0] (.seq (.reg [co (some 11) (.move (.tmp 0)) none,
      co (some 4) (.assign (.tmp 11)) none] [4])
  (.ret))))))
theorem t_centoref10_within : Txt Try.prog 114 12 [(.tmp 4)] c_centoref10_within := txt_of (code := Try.f114.body.getD .ret) mixed (by kernel_rfl) Try.func114 (by kernel_rfl) Try.ntmps114 (by kernel_rfl) (ls := [([0, 1], []), ([], []), ([0, 1, 6], []), ([], []), ([4], []), ([], []), ([999999, 0, 1], []), ([0, 1, 9], []), ([], []), ([4], []), ([], []), ([999999, 0], []), ([4], []), ([], [])]) (by kernel_rfl)
/-- cento/centoref10.Limits -/
def c_centoref10_Limits : CC :=
  .seq (.reg [cn (some 1) (.box 60 (.tmp 0)) none [0],
      cn (some 2) (.alloc 60) none [1]] [1, 2])
  (.seq (.reg [co (some 3) (.fieldAddr 60 (.tmp 1) 0) none,
      co (some 4) (.load 3 (.tmp 3)) none,
      ⟨some 5, (.call { callee := (.value (.func 114)), args := #[(.tmp 4), (.const (.int .i64 64))], argTypes := #[3, 3] }), none, [], 2, [], true⟩,
      co (some 6) (.fieldAddr 60 (.tmp 1) 1) none,
      ⟨some 7, (.load 3 (.tmp 6)), none, [], 4, [2], false⟩,
      ⟨some 8, (.call { callee := (.value (.func 114)), args := #[(.tmp 7), (.const (.int .i64 65536))], argTypes := #[3, 3] }), none, [], 5, [], true⟩,
      co (some 9) (.fieldAddr 60 (.tmp 1) 2) none,
      ⟨some 10, (.load 3 (.tmp 9)), none, [], 7, [2, 5], false⟩,
      ⟨some 11, (.call { callee := (.value (.func 114)), args := #[(.tmp 10), (.const (.int .i64 4096))], argTypes := #[3, 3] }), none, [], 8, [], true⟩,
      co (some 12) (.fieldAddr 60 (.tmp 1) 3) none,
      ⟨some 13, (.load 3 (.tmp 12)), none, [], 10, [2, 5, 8], false⟩,
      co (some 14) (.call { callee := (.value (.func 114)), args := #[(.tmp 13), (.const (.int .i64 131072))], argTypes := #[3, 3] }) none,
      co (some 15) (.build 60 #[(0, (.tmp 5)), (1, (.tmp 8)), (2, (.tmp 11)), (3, (.tmp 14))]) none,
      co none (.store 60 (.tmp 2) (.tmp 15)) none] [2])
  (.ret))
theorem t_centoref10_Limits : Txt Try.prog 72 16 [(.cell 2 60)] c_centoref10_Limits := txt_of (code := Try.f72.body.getD .ret) mixed (by kernel_rfl) Try.func72 (by kernel_rfl) Try.ntmps72 (by kernel_rfl) (ls := [([1, 2], [(0, [0]), (1, [1])]), ([], []), ([2], []), ([], [])]) (by kernel_rfl)
def l1_centoref10_kids : CC :=
  .seq (.seq (.reg [co (some 22) (.move (.tmp 12)) none,
        co (some 23) (.fieldAddr 128 (.tmp 5) 4) none,
        co (some 24) (.load 3 (.tmp 23)) none,
        co (some 25) (.binOp .lss 3 (.tmp 22) (.tmp 24) 3) none] [0, 2, 3, 5, 8, 11, 12, 25])
    (.cond (.tmp 25)
      (.skip)
      (.exit 0)))
  (.keep [0, 2, 3, 5, 8, 11, 12] (.seq (.block 1
      (.seq (.reg [co (some 29) (.load 128 (.tmp 5)) none,
          co (some 30) (.move (.tmp 0)) none,
          co (some 31) (.move (.tmp 12)) none,
          co (some 32) (.call { callee := (.value (.func 119)), args := #[(.tmp 29), (.tmp 30), (.tmp 31)], argTypes := #[128, 22, 3] }) none,
          co (some 28) (.move (.tmp 32)) none,
          co (some 33) (.extract (.tmp 28) 0) none,
          co (some 34) (.extract (.tmp 28) 1) none,
          cn (some 13) (.alloc 128) none [3],
          co none (.store 128 (.tmp 13) (.tmp 33)) none,
          co (some 14) (.assign (.tmp 34)) none] [0, 2, 3, 5, 8, 11, 12, 13, 14])
      (.seq (.seq (.reg [co (some 35) (.move (.tmp 14)) none,
            co (some 36) (.binOp .neq 3 (.tmp 35) (.const (.int .i64 0)) 3) none] [0, 2, 3, 5, 8, 11, 12, 13, 14, 36])
        (.cond (.tmp 36)
          (.seq (.reg [co (some 37) (.load 53 (.tmp 11)) none,
              co (some 38) (.move (.tmp 3)) none,
              co (some 39) (.move (.tmp 14)) none,
              co none (.store 53 (.tmp 8) (.tmp 37)) none,
              co (some 9) (.assign (.tmp 38)) none,
              co (some 10) (.assign (.tmp 39)) none] [8, 9, 10])
          (.ret))
          (.skip)))
      (.keep [0, 2, 3, 5, 8, 11, 12, 13] (.seq (.reg [co (some 41) (.move (.tmp 0)) none,
          co (some 42) (.load 128 (.tmp 13)) none,
          co (some 43) (.move (.tmp 2)) none,
          co (some 44) (.move (.tmp 3)) none,
          co (some 45) (.call { callee := (.value (.func 74)), args := #[(.tmp 41), (.tmp 42), (.tmp 43), (.tmp 44)], argTypes := #[22, 128, 3, 3] }) none,
          co (some 40) (.move (.tmp 45)) none,
          co (some 46) (.extract (.tmp 40) 0) none,
          co (some 47) (.extract (.tmp 40) 1) none,
          co (some 48) (.extract (.tmp 40) 2) none,
          cn (some 15) (.alloc 53) none [4],
          co none (.store 53 (.tmp 15) (.tmp 46)) none,
          co (some 16) (.assign (.tmp 47)) none,
          co (some 17) (.assign (.tmp 48)) none] [0, 2, 5, 8, 11, 12, 15, 16, 17])
      (.seq (.seq (.reg [co (some 49) (.move (.tmp 17)) none,
            co (some 50) (.binOp .neq 3 (.tmp 49) (.const (.int .i64 0)) 3) none] [0, 2, 5, 8, 11, 12, 15, 16, 17, 50])
        (.cond (.tmp 50)
          (.seq (.reg [co (some 51) (.load 53 (.tmp 11)) none,
              co (some 52) (.move (.tmp 16)) none,
              co (some 53) (.move (.tmp 17)) none,
              co none (.store 53 (.tmp 8) (.tmp 51)) none,
              co (some 9) (.assign (.tmp 52)) none,
              co (some 10) (.assign (.tmp 53)) none] [8, 9, 10])
          (.ret))
          (.skip)))
      (.keep [0, 2, 5, 8, 11, 12, 15, 16] (.seq (.reg [co (some 54) (.move (.tmp 16)) none,
          co (some 3) (.assign (.tmp 54)) none] [0, 2, 3, 5, 8, 11, 12, 15])
      (.reg [co (some 55) (.fieldAddr 53 (.tmp 11) 2) none,
        co (some 56) (.load 51 (.tmp 55)) none,
        co (some 57) (.load 53 (.tmp 15)) none,
        co (some 58) (.buildSlice 51 1 #[(0, (.tmp 57))]) none,
        cn (some 59) (.call { callee := (.builtin .append), args := #[(.tmp 56), (.tmp 58)], argTypes := #[51, 51] }) none [5],
        co (some 60) (.fieldAddr 53 (.tmp 11) 2) none,
        co none (.store 51 (.tmp 60) (.tmp 59)) none] [0, 2, 3, 5, 8, 11, 12])))))))))
  (.keep [0, 2, 3, 5, 8, 11, 12] (.reg [co (some 26) (.move (.tmp 12)) none,
    co (some 27) (.binOp .add 3 (.tmp 26) (.const (.int .i64 1)) 3) none,
    co (some 12) (.assign (.tmp 27)) none] [0, 2, 3, 5, 8, 11, 12]))))
/-- cento/centoref10.kids -/
def c_centoref10_kids : CC :=
  .seq (.reg [cn (some 5) (.box 128 (.tmp 1)) none [0],
      cn (some 8) (.alloc 53) none [1],
      co (some 9) (.assign (.const (.int .i64 0))) none,
      co (some 10) (.assign (.const (.int .i64 0))) none] [0, 2, 3, 5, 8])
  (.seq (.reg [co (some 18) (.load 128 (.tmp 5)) none,
      co (some 19) (.move (.tmp 0)) none,
      co (some 20) (.call { callee := (.value (.func 117)), args := #[(.tmp 18), (.tmp 19)], argTypes := #[128, 22] }) none,
      co (some 21) (.build 53 #[(0, (.const (.int .i64 1))), (1, (.tmp 20))]) none,
      cn (some 11) (.alloc 53) none [2],
      co none (.store 53 (.tmp 11) (.tmp 21)) none] [0, 2, 3, 5, 8, 11])
  (.seq (.seq (.reg [co (some 12) (.assign (.const (.int .i64 0))) none] [0, 2, 3, 5, 8, 11, 12])
    (.block 0
      (.loop l1_centoref10_kids)))
  (.keep [3, 8, 11] (.seq (.reg [co (some 61) (.load 53 (.tmp 11)) none,
      co (some 62) (.move (.tmp 3)) none,
      co none (.store 53 (.tmp 8) (.tmp 61)) none,
      co (some 9) (.assign (.tmp 62)) none,
      co (some 10) (.assign (.const (.int .i64 0))) none] [8, 9, 10])
  (.ret)))))
theorem t_centoref10_kids : Txt Try.prog 120 63 [(.cell 8 53), (.tmp 9), (.tmp 10)] c_centoref10_kids := txt_of (code := Try.f120.body.getD .ret) mixed (by kernel_rfl) Try.func120 (by kernel_rfl) Try.ntmps120 (by kernel_rfl) (ls := [([0, 2, 3, 5, 8], [(0, [0]), (1, [1])]), ([], []), ([0, 2, 3, 5, 8, 11], [(4, [2])]), ([], []), ([0, 2, 3, 5, 8, 11, 12], []), ([], []), ([0, 2, 3, 5, 8, 11, 12, 25], []), ([], []), ([999999, 0, 2, 3, 5, 8, 11, 12], []), ([0, 2, 3, 5, 8, 11, 12, 13, 14], [(7, [3])]), ([], []), ([0, 2, 3, 5, 8, 11, 12, 13, 14, 36], []), ([], []), ([8, 9, 10], []), ([], []), ([999999, 0, 2, 3, 5, 8, 11, 12, 13], []), ([0, 2, 5, 8, 11, 12, 15, 16, 17], [(9, [4])]), ([], []), ([0, 2, 5, 8, 11, 12, 15, 16, 17, 50], []), ([], []), ([8, 9, 10], []), ([], []), ([999999, 0, 2, 5, 8, 11, 12, 15, 16], []), ([0, 2, 3, 5, 8, 11, 12, 15], []), ([], []), ([0, 2, 3, 5, 8, 11, 12], [(4, [5])]), ([999999, 0, 2, 3, 5, 8, 11, 12], []), ([0, 2, 3, 5, 8, 11, 12], []), ([999999, 3, 8, 11], []), ([8, 9, 10], []), ([], [])]) (by kernel_rfl)
def k1_centoref10_Meaning : CC :=
  .seq (.seq (.reg [co (some 136) (.move (.tmp 15)) none,
        co (some 137) (.binOp .neq 3 (.tmp 136) (.const (.int .i64 0)) 3) none] [0, 2, 3, 5, 8, 11, 13, 15, 16, 137])
    (.cond (.tmp 137)
      (.seq (.reg [co (some 138) (.load 53 (.tmp 11)) none,
          co (some 139) (.move (.tmp 3)) none,
          co (some 140) (.move (.tmp 15)) none,
          co none (.store 53 (.tmp 8) (.tmp 138)) none,
          co (some 9) (.assign (.tmp 139)) none,
          co (some 10) (.assign (.tmp 140)) none] [8, 9, 10])
      (.ret))
      (.skip)))
  (.keep [0, 2, 3, 5, 8, 11, 13, 16] (.reg [co (some 141) (.fieldAddr 53 (.tmp 11) 2) none,
    co (some 142) (.load 51 (.tmp 141)) none,
    co (some 143) (.load 53 (.tmp 16)) none,
    co (some 144) (.buildSlice 51 1 #[(0, (.tmp 143))]) none,
    cn (some 145) (.call { callee := (.builtin .append), args := #[(.tmp 142), (.tmp 144)], argTypes := #[51, 51] }) none [5],
    co (some 146) (.fieldAddr 53 (.tmp 11) 2) none,
    co none (.store 51 (.tmp 146) (.tmp 145)) none] [0, 2, 3, 5, 8, 11, 13]))
def l1_centoref10_Meaning : CC :=
  .seq (.seq (.reg [co (some 79) (.move (.tmp 13)) none,
        co (some 80) (.load 128 (.tmp 5)) none,
        co (some 81) (.call { callee := (.value (.func 118)), args := #[(.tmp 80)], argTypes := #[128] }) none,
        co (some 82) (.binOp .lss 3 (.tmp 79) (.tmp 81) 3) none] [0, 2, 3, 5, 8, 11, 13, 82])
    (.cond (.tmp 82)
      (.skip)
      (.exit 0)))
  (.keep [0, 2, 3, 5, 8, 11, 13] (.seq (.block 1
      (.seq (.reg [co (some 86) (.load 128 (.tmp 5)) none,
          co (some 87) (.move (.tmp 0)) none,
          co (some 88) (.move (.tmp 13)) none,
          co (some 89) (.call { callee := (.value (.func 119)), args := #[(.tmp 86), (.tmp 87), (.tmp 88)], argTypes := #[128, 22, 3] }) none,
          co (some 85) (.move (.tmp 89)) none,
          co (some 90) (.extract (.tmp 85) 0) none,
          co (some 91) (.extract (.tmp 85) 1) none,
          cn (some 14) (.alloc 128) none [3],
          co none (.store 128 (.tmp 14) (.tmp 90)) none,
          co (some 15) (.assign (.tmp 91)) none] [0, 2, 3, 5, 8, 11, 13, 14, 15])
      (.seq (.seq (.reg [co (some 92) (.move (.tmp 15)) none,
            co (some 93) (.binOp .neq 3 (.tmp 92) (.const (.int .i64 0)) 3) none] [0, 2, 3, 5, 8, 11, 13, 14, 15, 93])
        (.cond (.tmp 93)
          (.seq (.reg [co (some 94) (.load 53 (.tmp 11)) none,
              co (some 95) (.move (.tmp 3)) none,
              co (some 96) (.move (.tmp 15)) none,
              co none (.store 53 (.tmp 8) (.tmp 94)) none,
              co (some 9) (.assign (.tmp 95)) none,
              co (some 10) (.assign (.tmp 96)) none] [8, 9, 10])
          (.ret))
          (.skip)))
      (.keep [0, 2, 3, 5, 8, 11, 13, 14, 15] (.seq (.reg [co (some 97) (.fieldAddr 128 (.tmp 14) 0) none,
          ⟨some 98, (.load 3 (.tmp 97)), none, [], 1, [], true⟩,
          ⟨some 99, (.load 128 (.tmp 14)), none, [], 2, [], true⟩,
          co (some 100) (.move (.tmp 0)) none,
          ⟨some 101, (.call { callee := (.value (.func 117)), args := #[(.tmp 99), (.tmp 100)], argTypes := #[128, 22] }), none, [], 4, [1], true⟩,
          co (some 102) (.build 53 #[(0, (.tmp 98)), (1, (.tmp 101))]) none,
          ⟨some 16, (.alloc 53), none, [4], 6, [1, 2, 4], false⟩,
          co none (.store 53 (.tmp 16) (.tmp 102)) none] [0, 2, 3, 5, 8, 11, 13, 14, 15, 16])
      (.seq (.block 2
          (.seq (.reg [co (some 104) (.fieldAddr 128 (.tmp 5) 0) none,
              co (some 105) (.load 3 (.tmp 104)) none,
              co (some 106) (.binOp .eql 3 (.tmp 105) (.const (.int .i64 9)) 3) none,
              co (some 103) (.assign (.tmp 106)) none] [0, 2, 3, 5, 8, 11, 13, 14, 15, 16, 103])
          (.cond (.tmp 103)
            (.reg [co (some 108) (.move (.tmp 0)) none,
              co (some 109) (.load 128 (.tmp 14)) none,
              co (some 110) (.move (.tmp 2)) none,
              co (some 111) (.binOp .sub 3 (.tmp 110) (.const (.int .i64 2)) 3) none,
              co (some 112) (.move (.tmp 3)) none,
              co (some 113) (.call { callee := (.value (.func 120)), args := #[(.tmp 108), (.tmp 109), (.tmp 111), (.tmp 112)], argTypes := #[22, 128, 3, 3] }) none,
              co (some 107) (.move (.tmp 113)) none,
              co (some 114) (.extract (.tmp 107) 0) none,
              co (some 115) (.extract (.tmp 107) 1) none,
              co (some 116) (.extract (.tmp 107) 2) none,
              co none (.store 53 (.tmp 16) (.tmp 114)) none,
              co (some 3) (.assign (.tmp 115)) none,
              co (some 15) (.assign (.tmp 116)) none] [0, 2, 3, 5, 8, 11, 13, 15, 16])
            (.seq (.reg [co (some 118) (.fieldAddr 128 (.tmp 5) 0) none,
                co (some 119) (.load 3 (.tmp 118)) none,
                co (some 120) (.binOp .eql 3 (.tmp 119) (.const (.int .i64 1)) 3) none,
                co (some 121) (.move (.tmp 120)) none,
                co (some 122) (.fieldAddr 128 (.tmp 5) 0) (some (121, false)),
                co (some 123) (.load 3 (.tmp 122)) (some (121, false)),
                co (some 124) (.binOp .eql 3 (.tmp 123) (.const (.int .i64 8)) 3) (some (121, false)),
                co (some 125) (.pick (.tmp 121) (.const (.bool true)) (.tmp 124)) none,
                co (some 117) (.assign (.tmp 125)) none] [0, 2, 3, 5, 8, 11, 13, 14, 15, 16, 117])
            (.cond (.tmp 117)
              (.reg [co (some 127) (.move (.tmp 0)) none,
                co (some 128) (.load 128 (.tmp 14)) none,
                co (some 129) (.move (.tmp 2)) none,
                co (some 130) (.binOp .sub 3 (.tmp 129) (.const (.int .i64 1)) 3) none,
                co (some 131) (.move (.tmp 3)) none,
                co (some 132) (.call { callee := (.value (.func 74)), args := #[(.tmp 127), (.tmp 128), (.tmp 130), (.tmp 131)], argTypes := #[22, 128, 3, 3] }) none,
                co (some 126) (.move (.tmp 132)) none,
                co (some 133) (.extract (.tmp 126) 0) none,
                co (some 134) (.extract (.tmp 126) 1) none,
                co (some 135) (.extract (.tmp 126) 2) none,
                co none (.store 53 (.tmp 16) (.tmp 133)) none,
                co (some 3) (.assign (.tmp 134)) none,
                co (some 15) (.assign (.tmp 135)) none] [0, 2, 3, 5, 8, 11, 13, 15, 16])
              (.skip))))))
      (.keep [0, 2, 3, 5, 8, 11, 13, 15, 16] k1_centoref10_Meaning)))))))
  (.keep [0, 2, 3, 5, 8, 11, 13] (.reg [co (some 83) (.move (.tmp 13)) none,
    co (some 84) (.binOp .add 3 (.tmp 83) (.const (.int .i64 1)) 3) none,
    co (some 13) (.assign (.tmp 84)) none] [0, 2, 3, 5, 8, 11, 13]))))
def k2_centoref10_Meaning : CC :=
  .seq (.seq (.reg [co (some 71) (.move (.tmp 12)) none,
        co (some 72) (.move (.tmp 3)) none,
        co (some 73) (.binOp .gtr 3 (.tmp 71) (.tmp 72) 3) none] [0, 2, 3, 5, 8, 11, 12, 73])
    (.cond (.tmp 73)
      (.seq (.reg [co (some 74) (.load 53 (.tmp 11)) none,
          co (some 75) (.move (.tmp 3)) none,
          co none (.store 53 (.tmp 8) (.tmp 74)) none,
          co (some 9) (.assign (.tmp 75)) none,
          co (some 10) (.assign (.const (.int .i64 3))) none] [8, 9, 10])
      (.ret))
      (.skip)))
  (.keep [0, 2, 3, 5, 8, 11, 12] (.seq (.reg [co (some 76) (.move (.tmp 3)) none,
      co (some 77) (.move (.tmp 12)) none,
      co (some 78) (.binOp .sub 3 (.tmp 76) (.tmp 77) 3) none,
      co (some 3) (.assign (.tmp 78)) none] [0, 2, 3, 5, 8, 11])
  (.seq (.seq (.reg [co (some 13) (.assign (.const (.int .i64 0))) none] [0, 2, 3, 5, 8, 11, 13])
    (.block 0
      (.loop l1_centoref10_Meaning)))
  (.keep [3, 8, 11] (.seq (.reg [co (some 147) (.load 53 (.tmp 11)) none,
      co (some 148) (.move (.tmp 3)) none,
      co none (.store 53 (.tmp 8) (.tmp 147)) none,
      co (some 9) (.assign (.tmp 148)) none,
      co (some 10) (.assign (.const (.int .i64 0))) none] [8, 9, 10])
  (.ret))))))
def k3_centoref10_Meaning : CC :=
  .seq (.seq (.reg [co (some 58) (.fieldAddr 128 (.tmp 5) 0) none,
        co (some 59) (.load 3 (.tmp 58)) none,
        co (some 60) (.binOp .eql 3 (.tmp 59) (.const (.int .i64 9)) 3) none] [0, 2, 3, 5, 8, 11, 12, 60])
    (.cond (.tmp 60)
      (.reg [co (some 61) (.fieldAddr 128 (.tmp 5) 5) none,
        co (some 62) (.load 3 (.tmp 61)) none,
        co (some 63) (.fieldAddr 128 (.tmp 5) 3) none,
        co (some 64) (.load 3 (.tmp 63)) none,
        co (some 65) (.binOp .add 3 (.const (.int .i64 1)) (.tmp 64) 3) none,
        co (some 66) (.fieldAddr 128 (.tmp 5) 4) none,
        co (some 67) (.load 3 (.tmp 66)) none,
        co (some 68) (.binOp .add 3 (.tmp 65) (.tmp 67) 3) none,
        co (some 69) (.binOp .mul 3 (.tmp 62) (.tmp 68) 3) none,
        co (some 70) (.binOp .add 3 (.const (.int .i64 1)) (.tmp 69) 3) none,
        co (some 12) (.assign (.tmp 70)) none] [0, 2, 3, 5, 8, 11, 12])
      (.skip)))
  (.keep [0, 2, 3, 5, 8, 11, 12] k2_centoref10_Meaning)
/-- cento/centoref10.Meaning -/
def c_centoref10_Meaning : CC :=
  .seq (.reg [cn (some 5) (.box 128 (.tmp 1)) none [0],
      cn (some 8) (.alloc 53) none [1],
      co (some 9) (.assign (.const (.int .i64 0))) none,
      co (some 10) (.assign (.const (.int .i64 0))) none] [0, 2, 3, 5, 8])
  (.seq (.reg [co (some 17) (.fieldAddr 128 (.tmp 5) 0) none,
      ⟨some 18, (.load 3 (.tmp 17)), none, [], 1, [], true⟩,
      ⟨some 19, (.load 128 (.tmp 5)), none, [], 2, [], true⟩,
      co (some 20) (.move (.tmp 0)) none,
      ⟨some 21, (.call { callee := (.value (.func 117)), args := #[(.tmp 19), (.tmp 20)], argTypes := #[128, 22] }), none, [], 4, [1], true⟩,
      co (some 22) (.build 53 #[(0, (.tmp 18)), (1, (.tmp 21))]) none,
      ⟨some 11, (.alloc 53), none, [2], 6, [1, 2, 4], false⟩,
      co none (.store 53 (.tmp 11) (.tmp 22)) none] [0, 2, 3, 5, 8, 11])
  (.seq (.seq (.reg [co (some 23) (.fieldAddr 128 (.tmp 5) 0) none,
        co (some 24) (.load 3 (.tmp 23)) none,
        co (some 25) (.binOp .eql 3 (.tmp 24) (.const (.int .i64 0)) 3) none] [0, 2, 3, 5, 8, 11, 25])
    (.cond (.tmp 25)
      (.seq (.reg [co (some 26) (.load 53 (.tmp 11)) none,
          co (some 27) (.move (.tmp 3)) none,
          co none (.store 53 (.tmp 8) (.tmp 26)) none,
          co (some 9) (.assign (.tmp 27)) none,
          co (some 10) (.assign (.const (.int .i64 0))) none] [8, 9, 10])
      (.ret))
      (.skip)))
  (.keep [0, 2, 3, 5, 8, 11] (.seq (.seq (.reg [co (some 28) (.move (.tmp 2)) none,
        co (some 29) (.binOp .lss 3 (.tmp 28) (.const (.int .i64 1)) 3) none,
        co (some 30) (.move (.tmp 29)) none,
        co (some 31) (.fieldAddr 128 (.tmp 5) 0) (some (30, false)),
        co (some 32) (.load 3 (.tmp 31)) (some (30, false)),
        co (some 33) (.binOp .eql 3 (.tmp 32) (.const (.int .i64 9)) 3) (some (30, false)),
        co (some 34) (.move (.tmp 33)) (some (30, false)),
        co (some 35) (.fieldAddr 128 (.tmp 5) 5) (some (34, true)),
        co (some 36) (.load 3 (.tmp 35)) (some (34, true)),
        co (some 37) (.binOp .gtr 3 (.tmp 36) (.const (.int .i64 0)) 3) (some (34, true)),
        co (some 38) (.pick (.tmp 34) (.tmp 37) (.const (.bool false))) (some (30, false)),
        co (some 39) (.move (.tmp 38)) (some (30, false)),
        co (some 40) (.move (.tmp 2)) (some (39, true)),
        co (some 41) (.binOp .lss 3 (.tmp 40) (.const (.int .i64 2)) 3) (some (39, true)),
        co (some 42) (.pick (.tmp 39) (.tmp 41) (.const (.bool false))) (some (30, false)),
        co (some 43) (.pick (.tmp 30) (.const (.bool true)) (.tmp 42)) none] [0, 2, 3, 5, 8, 11, 43])
    (.cond (.tmp 43)
      (.seq (.reg [co (some 44) (.load 53 (.tmp 11)) none,
          co (some 45) (.move (.tmp 3)) none,
          co none (.store 53 (.tmp 8) (.tmp 44)) none,
          co (some 9) (.assign (.tmp 45)) none,
          co (some 10) (.assign (.const (.int .i64 3))) none] [8, 9, 10])
      (.ret))
      (.skip)))
  (.keep [0, 2, 3, 5, 8, 11] (.seq (.reg [co (some 46) (.load 128 (.tmp 5)) none,
      co (some 47) (.call { callee := (.value (.func 118)), args := #[(.tmp 46)], argTypes := #[128] }) none,
      co (some 48) (.binOp .add 3 (.const (.int .i64 1)) (.tmp 47) 3) none,
      co (some 12) (.assign (.tmp 48)) none] [0, 2, 3, 5, 8, 11, 12])
  (.seq (.seq (.reg [co (some 49) (.fieldAddr 128 (.tmp 5) 0) none,
        co (some 50) (.load 3 (.tmp 49)) none,
        co (some 51) (.binOp .eql 3 (.tmp 50) (.const (.int .i64 1)) 3) none] [0, 2, 3, 5, 8, 11, 12, 51])
    (.cond (.tmp 51)
      (.reg [co (some 52) (.fieldAddr 128 (.tmp 5) 3) none,
        co (some 53) (.load 3 (.tmp 52)) none,
        co (some 54) (.binOp .add 3 (.const (.int .i64 1)) (.tmp 53) 3) none,
        co (some 55) (.fieldAddr 128 (.tmp 5) 4) none,
        co (some 56) (.load 3 (.tmp 55)) none,
        co (some 57) (.binOp .add 3 (.tmp 54) (.tmp 56) 3) none,
        co (some 12) (.assign (.tmp 57)) none] [0, 2, 3, 5, 8, 11, 12])
      (.skip)))
  (.keep [0, 2, 3, 5, 8, 11, 12] k3_centoref10_Meaning))))))))
theorem t_centoref10_Meaning : Txt Try.prog 74 149 [(.cell 8 53), (.tmp 9), (.tmp 10)] c_centoref10_Meaning := txt_of (code := Try.f74.body.getD .ret) mixed (by kernel_rfl) Try.func74 (by kernel_rfl) Try.ntmps74 (by kernel_rfl) (ls := [([0, 2, 3, 5, 8], [(0, [0]), (1, [1])]), ([], []), ([0, 2, 3, 5, 8, 11], [(6, [2])]), ([], []), ([0, 2, 3, 5, 8, 11, 25], []), ([], []), ([8, 9, 10], []), ([], []), ([999999, 0, 2, 3, 5, 8, 11], []), ([0, 2, 3, 5, 8, 11, 43], []), ([], []), ([8, 9, 10], []), ([], []), ([999999, 0, 2, 3, 5, 8, 11], []), ([0, 2, 3, 5, 8, 11, 12], []), ([], []), ([0, 2, 3, 5, 8, 11, 12, 51], []), ([], []), ([0, 2, 3, 5, 8, 11, 12], []), ([999999, 0, 2, 3, 5, 8, 11, 12], []), ([0, 2, 3, 5, 8, 11, 12, 60], []), ([], []), ([0, 2, 3, 5, 8, 11, 12], []), ([999999, 0, 2, 3, 5, 8, 11, 12], []), ([0, 2, 3, 5, 8, 11, 12, 73], []), ([], []), ([8, 9, 10], []), ([], []), ([999999, 0, 2, 3, 5, 8, 11, 12], []), ([0, 2, 3, 5, 8, 11], []), ([], []), ([0, 2, 3, 5, 8, 11, 13], []), ([], []), ([0, 2, 3, 5, 8, 11, 13, 82], []), ([], []), ([999999, 0, 2, 3, 5, 8, 11, 13], []), ([0, 2, 3, 5, 8, 11, 13, 14, 15], [(7, [3])]), ([], []), ([0, 2, 3, 5, 8, 11, 13, 14, 15, 93], []), ([], []), ([8, 9, 10], []), ([], []), ([999999, 0, 2, 3, 5, 8, 11, 13, 14, 15], []), ([0, 2, 3, 5, 8, 11, 13, 14, 15, 16], [(6, [4])]), ([], []), ([0, 2, 3, 5, 8, 11, 13, 14, 15, 16, 103], []), ([], []), ([0, 2, 3, 5, 8, 11, 13, 15, 16], []), ([0, 2, 3, 5, 8, 11, 13, 14, 15, 16, 117], []), ([], []), ([0, 2, 3, 5, 8, 11, 13, 15, 16], []), ([999999, 0, 2, 3, 5, 8, 11, 13, 15, 16], []), ([0, 2, 3, 5, 8, 11, 13, 15, 16, 137], []), ([], []), ([8, 9, 10], []), ([], []), ([999999, 0, 2, 3, 5, 8, 11, 13, 16], []), ([0, 2, 3, 5, 8, 11, 13], [(4, [5])]), ([999999, 0, 2, 3, 5, 8, 11, 13], []), ([0, 2, 3, 5, 8, 11, 13], []), ([999999, 3, 8, 11], []), ([8, 9, 10], []), ([], [])]) (by kernel_rfl)
/-- cento/centoref10.Unfold -/
def c_centoref10_Unfold : CC :=
  .seq (.reg [cn (some 3) (.box 60 (.tmp 1)) none [0],
      cn (some 4) (.alloc 53) none [1],
      co (some 5) (.assign (.const (.int .i64 0))) none,
      co (some 6) (.assign (.const (.int .i64 0))) none] [0, 3, 4])
  (.seq (.reg [co (some 12) (.load 60 (.tmp 3)) none,
      co (some 13) (.call { callee := (.value (.func 72)), args := #[(.tmp 12)], argTypes := #[60] }) none,
      co none (.store 60 (.tmp 3) (.tmp 13)) none] [0, 3, 4])
  (.seq (.reg [co (some 15) (.move (.tmp 0)) none,
      co (some 16) (.call { callee := (.value (.func 73)), args := #[(.tmp 15), (.const (.int .i64 0)), (.const (.int .i64 0))], argTypes := #[22, 3, 3] }) none,
      co (some 14) (.move (.tmp 16)) none,
      co (some 17) (.extract (.tmp 14) 0) none,
      co (some 18) (.extract (.tmp 14) 1) none,
      cn (some 7) (.alloc 128) none [2],
      co none (.store 128 (.tmp 7) (.tmp 17)) none,
      co (some 8) (.assign (.tmp 18)) none] [0, 3, 4, 7, 8])
  (.seq (.seq (.reg [co (some 19) (.move (.tmp 8)) none,
        co (some 20) (.binOp .neq 3 (.tmp 19) (.const (.int .i64 0)) 3) none] [0, 3, 4, 7, 8, 20])
    (.cond (.tmp 20)
      (.seq (.reg [co (some 21) (.build 53 #[]) none,
          co (some 22) (.move (.tmp 8)) none,
          co none (.store 53 (.tmp 4) (.tmp 21)) none,
          co (some 5) (.assign (.const (.int .i64 0))) none,
          co (some 6) (.assign (.tmp 22)) none] [4, 5, 6])
      (.ret))
      (.skip)))
  (.keep [0, 3, 4, 7] (.seq (.reg [co (some 24) (.move (.tmp 0)) none,
      co (some 25) (.load 128 (.tmp 7)) none,
      co (some 26) (.fieldAddr 60 (.tmp 3) 0) none,
      co (some 27) (.load 3 (.tmp 26)) none,
      co (some 28) (.fieldAddr 60 (.tmp 3) 1) none,
      co (some 29) (.load 3 (.tmp 28)) none,
      co (some 30) (.call { callee := (.value (.func 74)), args := #[(.tmp 24), (.tmp 25), (.tmp 27), (.tmp 29)], argTypes := #[22, 128, 3, 3] }) none,
      co (some 23) (.move (.tmp 30)) none,
      co (some 31) (.extract (.tmp 23) 0) none,
      co (some 32) (.extract (.tmp 23) 1) none,
      co (some 33) (.extract (.tmp 23) 2) none,
      cn (some 9) (.alloc 53) none [3],
      co none (.store 53 (.tmp 9) (.tmp 31)) none,
      co (some 10) (.assign (.tmp 32)) none,
      co (some 11) (.assign (.tmp 33)) none] [3, 4, 9, 10, 11])
  (.seq (.seq (.reg [co (some 34) (.move (.tmp 11)) none,
        co (some 35) (.binOp .neq 3 (.tmp 34) (.const (.int .i64 0)) 3) none] [3, 4, 9, 10, 11, 35])
    (.cond (.tmp 35)
      (.seq (.reg [co (some 36) (.build 53 #[]) none,
          co (some 37) (.move (.tmp 11)) none,
          co none (.store 53 (.tmp 4) (.tmp 36)) none,
          co (some 5) (.assign (.const (.int .i64 0))) none,
          co (some 6) (.assign (.tmp 37)) none] [4, 5, 6])
      (.ret))
      (.skip)))
  (.keep [3, 4, 9, 10] (.seq (.reg [co (some 38) (.load 53 (.tmp 9)) none,
      co (some 39) (.fieldAddr 60 (.tmp 3) 1) none,
      ⟨some 40, (.load 3 (.tmp 39)), none, [], 2, [], true⟩,
      co (some 41) (.move (.tmp 10)) none,
      co (some 42) (.binOp .sub 3 (.tmp 40) (.tmp 41) 3) none,
      ⟨none, (.store 53 (.tmp 4) (.tmp 38)), none, [], 5, [2], false⟩,
      co (some 5) (.assign (.tmp 42)) none,
      co (some 6) (.assign (.const (.int .i64 0))) none] [4, 5, 6])
  (.ret)))))))))
theorem t_centoref10_Unfold : Txt Try.prog 31 43 [(.cell 4 53), (.tmp 5), (.tmp 6)] c_centoref10_Unfold := txt_of (code := Try.f31.body.getD .ret) mixed (by kernel_rfl) Try.func31 (by kernel_rfl) Try.ntmps31 (by kernel_rfl) (ls := [([0, 3, 4], [(0, [0]), (1, [1])]), ([], []), ([0, 3, 4], []), ([], []), ([0, 3, 4, 7, 8], [(5, [2])]), ([], []), ([0, 3, 4, 7, 8, 20], []), ([], []), ([4, 5, 6], []), ([], []), ([999999, 0, 3, 4, 7], []), ([3, 4, 9, 10, 11], [(11, [3])]), ([], []), ([3, 4, 9, 10, 11, 35], []), ([], []), ([4, 5, 6], []), ([], []), ([999999, 3, 4, 9, 10], []), ([4, 5, 6], []), ([], [])]) (by kernel_rfl)
end Go.Proofs.Ytehcobkphobjiaa

/-
  The functions' text as data, and the facts on the types that they use: written by a program of ours (gen2.py) off the translation.
-/
namespace Go.Proofs.Ytehcobkphobjiaa
set_option linter.unusedVariables false
set_option linter.unusedSimpArgs false
set_option maxRecDepth 20000
open Go Go.G Go.Proofs
@[simp] theorem fieldOffT_229_0 : fieldOffT Try.prog 229 0 = some 0 := by kernel_rfl
@[simp] theorem buildA_229 (ps : List (Nat × A)) : buildA Try.prog 229 ps = (fillA (fun i => ([(0, 1)] : List (Nat × Nat))[i]?) [A.v (Value.int IntKind.u64 0)] ps).map A.agg := by kernel_rfl
/-- (*cento/equal.mixer).add -/
def c_equal_mixer_add : CC :=
  .seq (.reg [co (some 4) (.move (.tmp 0)) none,
      co (some 5) (.move (.tmp 0)) none,
      co (some 6) (.nilCheck (.tmp 5)) none,
      co (some 7) (.fieldAddr 229 (.tmp 6) 0) none,
      co (some 8) (.load 26 (.tmp 7)) none,
      co (some 9) (.move (.tmp 1)) none,
      co (some 10) (.binOp .xor 26 (.tmp 8) (.tmp 9) 26) none,
      co (some 11) (.binOp .mul 26 (.tmp 10) (.const (.int .u64 1099511628211)) 26) none,
      co (some 12) (.nilCheck (.tmp 4)) none,
      co (some 13) (.fieldAddr 229 (.tmp 12) 0) none,
      co none (.store 26 (.tmp 13) (.tmp 11)) none] [0])
  (.reg [co (some 14) (.move (.tmp 0)) none,
    co (some 15) (.nilCheck (.tmp 14)) none,
    co (some 16) (.fieldAddr 229 (.tmp 15) 0) none,
    co (some 17) (.load 26 (.tmp 16)) none,
    co (some 18) (.move (.tmp 0)) none,
    co (some 19) (.nilCheck (.tmp 18)) none,
    co (some 20) (.fieldAddr 229 (.tmp 19) 0) none,
    co (some 21) (.load 26 (.tmp 20)) none,
    co (some 22) (.binOp .shr 26 (.tmp 21) (.const (.int .u64 29)) 74) none,
    co (some 23) (.binOp .xor 26 (.tmp 17) (.tmp 22) 26) none,
    co (some 24) (.nilCheck (.tmp 14)) none,
    co (some 25) (.fieldAddr 229 (.tmp 24) 0) none,
    co none (.store 26 (.tmp 25) (.tmp 23)) none] [])
theorem t_equal_mixer_add : Txt Try.prog 167 26 [] c_equal_mixer_add := txt_of (code := Try.f167.body.getD .ret) mixed (by kernel_rfl) Try.func167 (by kernel_rfl) Try.ntmps167 (by kernel_rfl) (ls := [([0], []), ([], []), ([], [])]) (by kernel_rfl)
def l1_equal_Hash : CC :=
  .seq (.reg [co (some 38) (.binOp .lss 3 (.tmp 37) (.tmp 36) 3) none] [1, 4, 5, 6, 36, 37, 38])
  (.seq (.cond (.tmp 38)
      (.skip)
      (.exit 0))
  (.keep [1, 4, 5, 6, 36, 37] (.seq (.block 1
      (.seq (.reg [co (some 39) (.move (.tmp 37)) none,
          co (some 8) (.assign (.tmp 39)) none] [1, 4, 5, 6, 8, 36, 37])
      (.reg [co (some 40) (.move (.tmp 5)) none,
        co (some 41) (.load 68 (.tmp 1)) none,
        co (some 42) (.move (.tmp 8)) none,
        co (some 43) (.call { callee := (.value (.func 86)), args := #[(.tmp 41), (.tmp 42)], argTypes := #[68, 3] }) none,
        co (some 44) (.call { callee := (.value (.tmp 40)), args := #[(.tmp 43)], argTypes := #[26] }) none] [1, 4, 5, 6, 36, 37])))
  (.reg [co (some 45) (.binOp .add 3 (.tmp 37) (.const (.int .i64 1)) 3) none,
    co (some 37) (.move (.tmp 45)) none] [1, 4, 5, 6, 36, 37]))))
def l2_equal_Hash : CC :=
  .seq (.reg [co (some 48) (.binOp .lss 3 (.tmp 47) (.tmp 46) 3) none] [1, 4, 5, 46, 47, 48])
  (.seq (.cond (.tmp 48)
      (.skip)
      (.exit 2))
  (.keep [1, 4, 5, 46, 47] (.seq (.block 3
      (.seq (.reg [co (some 49) (.move (.tmp 47)) none,
          co (some 9) (.assign (.tmp 49)) none] [1, 4, 5, 9, 46, 47])
      (.seq (.reg [co (some 51) (.load 68 (.tmp 1)) none,
          co (some 52) (.move (.tmp 9)) none,
          co (some 53) (.call { callee := (.value (.func 44)), args := #[(.tmp 51), (.tmp 52)], argTypes := #[68, 3] }) none,
          co (some 50) (.move (.tmp 53)) none,
          co (some 54) (.extract (.tmp 50) 0) none,
          co (some 55) (.extract (.tmp 50) 1) none,
          cn (some 10) (.alloc 68) none [2],
          co none (.store 68 (.tmp 10) (.tmp 54)) none,
          co (some 11) (.assign (.tmp 55)) none] [1, 4, 5, 10, 11, 46, 47])
      (.seq (.seq (.reg [co (some 56) (.move (.tmp 11)) none,
            co (some 57) (.binOp .neq 64 (.tmp 56) (.const (.int .i64 0)) 64) none] [1, 4, 5, 10, 11, 46, 47, 57])
        (.cond (.tmp 57)
          (.seq (.reg [co (some 58) (.move (.tmp 11)) none,
              co (some 2) (.assign (.const (.int .u64 0))) none,
              co (some 3) (.assign (.tmp 58)) none] [2, 3])
          (.ret))
          (.skip)))
      (.keep [1, 4, 5, 10, 46, 47] (.seq (.reg [co (some 60) (.load 68 (.tmp 10)) none,
          co (some 61) (.call { callee := (.value (.func 121)), args := #[(.tmp 60)], argTypes := #[68] }) none,
          co (some 59) (.move (.tmp 61)) none,
          co (some 62) (.extract (.tmp 59) 0) none,
          co (some 63) (.extract (.tmp 59) 1) none,
          co (some 12) (.assign (.tmp 62)) none,
          co (some 11) (.assign (.tmp 63)) none] [1, 4, 5, 11, 12, 46, 47])
      (.seq (.seq (.reg [co (some 64) (.move (.tmp 11)) none,
            co (some 65) (.binOp .neq 64 (.tmp 64) (.const (.int .i64 0)) 64) none] [1, 4, 5, 11, 12, 46, 47, 65])
        (.cond (.tmp 65)
          (.seq (.reg [co (some 66) (.move (.tmp 11)) none,
              co (some 2) (.assign (.const (.int .u64 0))) none,
              co (some 3) (.assign (.tmp 66)) none] [2, 3])
          (.ret))
          (.skip)))
      (.keep [1, 4, 5, 12, 46, 47] (.reg [co (some 67) (.move (.tmp 5)) none,
        co (some 68) (.move (.tmp 12)) none,
        co (some 69) (.call { callee := (.value (.tmp 67)), args := #[(.tmp 68)], argTypes := #[26] }) none] [1, 4, 5, 46, 47])))))))))
  (.keep [1, 4, 5, 46, 47] (.reg [co (some 70) (.binOp .add 3 (.tmp 47) (.const (.int .i64 1)) 3) none,
    co (some 47) (.move (.tmp 70)) none] [1, 4, 5, 46, 47])))))
/-- cento/equal.Hash -/
def c_equal_Hash : CC :=
  .seq (.reg [cn (some 1) (.box 68 (.tmp 0)) none [0],
      co (some 2) (.assign (.const (.int .u64 0))) none,
      co (some 3) (.assign (.const (.int .i64 0))) none] [1])
  (.seq (.reg [co (some 13) (.build 229 #[(0, (.const (.int .u64 14695981039346656037)))]) none,
      cn (some 14) (.box 229 (.tmp 13)) none [1],
      co (some 4) (.assign (.tmp 14)) none] [1, 4])
  (.seq (.reg [co (some 15) (.move (.tmp 4)) none,
      co (some 16) (.makeFunc (.func 167) #[(.tmp 15)] #[]) none,
      co (some 5) (.assign (.tmp 16)) none] [1, 4, 5])
  (.seq (.reg [co (some 17) (.move (.tmp 5)) none,
      co (some 18) (.load 68 (.tmp 1)) none,
      co (some 19) (.call { callee := (.value (.func 80)), args := #[(.tmp 18)], argTypes := #[68] }) none,
      co (some 20) (.convert 3 26 (.tmp 19)) none,
      co (some 21) (.call { callee := (.value (.tmp 17)), args := #[(.tmp 20)], argTypes := #[26] }) none] [1, 4, 5])
  (.seq (.reg [co (some 23) (.load 68 (.tmp 1)) none,
      co (some 24) (.call { callee := (.value (.func 168)), args := #[(.tmp 23)], argTypes := #[68] }) none,
      co (some 22) (.move (.tmp 24)) none,
      co (some 25) (.extract (.tmp 22) 0) none,
      co (some 26) (.extract (.tmp 22) 1) none,
      co (some 6) (.assign (.tmp 25)) none,
      co (some 7) (.assign (.tmp 26)) none] [1, 4, 5, 6, 7])
  (.seq (.seq (.reg [co (some 27) (.move (.tmp 7)) none,
        co (some 28) (.binOp .neq 64 (.tmp 27) (.const (.int .i64 0)) 64) none] [1, 4, 5, 6, 7, 28])
    (.cond (.tmp 28)
      (.seq (.reg [co (some 29) (.move (.tmp 7)) none,
          co (some 2) (.assign (.const (.int .u64 0))) none,
          co (some 3) (.assign (.tmp 29)) none] [2, 3])
      (.ret))
      (.skip)))
  (.keep [1, 4, 5, 6] (.seq (.reg [co (some 30) (.move (.tmp 5)) none,
      co (some 31) (.load 68 (.tmp 1)) none,
      co (some 32) (.call { callee := (.value (.func 169)), args := #[(.tmp 31)], argTypes := #[68] }) none,
      co (some 33) (.convert 3 26 (.tmp 32)) none,
      co (some 34) (.call { callee := (.value (.tmp 30)), args := #[(.tmp 33)], argTypes := #[26] }) none] [1, 4, 5, 6])
  (.seq (.seq (.reg [co (some 35) (.load 68 (.tmp 1)) none,
        co (some 36) (.call { callee := (.value (.func 169)), args := #[(.tmp 35)], argTypes := #[68] }) none,
        co (some 37) (.move (.const (.int .i64 0))) none] [1, 4, 5, 6, 36, 37])
    (.block 0
      (.loop l1_equal_Hash)))
  (.keep [1, 4, 5, 6] (.seq (.seq (.reg [co (some 46) (.move (.tmp 6)) none,
        co (some 47) (.move (.const (.int .i64 0))) none] [1, 4, 5, 46, 47])
    (.block 2
      (.loop l2_equal_Hash)))
  (.keep [4] (.seq (.reg [co (some 71) (.move (.tmp 4)) none,
      co (some 72) (.nilCheck (.tmp 71)) none,
      co (some 73) (.fieldAddr 229 (.tmp 72) 0) none,
      co (some 74) (.load 26 (.tmp 73)) none,
      co (some 2) (.assign (.tmp 74)) none,
      co (some 3) (.assign (.const (.int .i64 0))) none] [2, 3])
  (.ret)))))))))))))
theorem t_equal_Hash : Txt Try.prog 121 75 [(.tmp 2), (.tmp 3)] c_equal_Hash := txt_of (code := Try.f121.body.getD .ret) mixed (by kernel_rfl) Try.func121 (by kernel_rfl) Try.ntmps121 (by kernel_rfl) (ls := [([1], [(0, [0])]), ([], []), ([1, 4], [(1, [1])]), ([], []), ([1, 4, 5], []), ([], []), ([1, 4, 5], []), ([], []), ([1, 4, 5, 6, 7], []), ([], []), ([1, 4, 5, 6, 7, 28], []), ([], []), ([2, 3], []), ([], []), ([999999, 1, 4, 5, 6], []), ([1, 4, 5, 6], []), ([], []), ([1, 4, 5, 6, 36, 37], []), ([], []), ([1, 4, 5, 6, 36, 37, 38], []), ([], []), ([999999, 1, 4, 5, 6, 36, 37], []), ([1, 4, 5, 6, 8, 36, 37], []), ([], []), ([1, 4, 5, 6, 36, 37], []), ([], []), ([1, 4, 5, 6, 36, 37], []), ([999999, 1, 4, 5, 6], []), ([1, 4, 5, 46, 47], []), ([], []), ([1, 4, 5, 46, 47, 48], []), ([], []), ([999999, 1, 4, 5, 46, 47], []), ([1, 4, 5, 9, 46, 47], []), ([], []), ([1, 4, 5, 10, 11, 46, 47], [(6, [2])]), ([], []), ([1, 4, 5, 10, 11, 46, 47, 57], []), ([], []), ([2, 3], []), ([], []), ([999999, 1, 4, 5, 10, 46, 47], []), ([1, 4, 5, 11, 12, 46, 47], []), ([], []), ([1, 4, 5, 11, 12, 46, 47, 65], []), ([], []), ([2, 3], []), ([], []), ([999999, 1, 4, 5, 12, 46, 47], []), ([1, 4, 5, 46, 47], []), ([999999, 1, 4, 5, 46, 47], []), ([1, 4, 5, 46, 47], []), ([999999, 4], []), ([2, 3], []), ([], [])]) (by kernel_rfl)
end Go.Proofs.Ytehcobkphobjiaa

/-
  The functions' text as data, and the facts on the types that they use: written by a program of ours (gen2.py) off the translation.
-/
namespace Go.Proofs.Ytehcobkphobjiaa
set_option linter.unusedVariables false
set_option linter.unusedSimpArgs false
set_option maxRecDepth 20000
open Go Go.G Go.Proofs
@[simp] theorem und_61 : Try.prog.underlying 61 = some (.pointer 134) := by kernel_rfl
@[simp] theorem und_63 : Try.prog.underlying 63 = some (.slice 3) := by kernel_rfl
@[simp] theorem und_132 : Try.prog.underlying 132 = some (.slice 182) := by kernel_rfl
@[simp] theorem szT_63 : szT Try.prog 63 = some 1 := by kernel_rfl
@[simp] theorem szT_132 : szT Try.prog 132 = some 1 := by kernel_rfl
@[simp] theorem szT_182 : szT Try.prog 182 = some 9 := by kernel_rfl
@[simp] theorem aggT_63 : aggT Try.prog 63 = some false := by kernel_rfl
@[simp] theorem aggT_132 : aggT Try.prog 132 = some false := by kernel_rfl
@[simp] theorem aggT_182 : aggT Try.prog 182 = some true := by kernel_rfl
@[simp] theorem zeroT_3 : zeroT Try.prog 3 = some (Value.int IntKind.i64 0) := by kernel_rfl
@[simp] theorem zeroT_182 : zeroT Try.prog 182 = some (Value.agg #[Value.int IntKind.u64 0, Value.pointer none, Value.int IntKind.i64 0, Value.int IntKind.i64 0, Value.int IntKind.i64 0, Value.int IntKind.i64 0, Value.int IntKind.i64 0, Value.int IntKind.i64 0, Value.int IntKind.u64 0]) := by kernel_rfl
@[simp] theorem bytesT_3 : bytesT Try.prog 3 = some 8 := by kernel_rfl
@[simp] theorem bytesT_182 : bytesT Try.prog 182 = some 72 := by kernel_rfl
@[simp] theorem fieldOffT_134_0 : fieldOffT Try.prog 134 0 = some 0 := by kernel_rfl
@[simp] theorem fieldOffT_134_1 : fieldOffT Try.prog 134 1 = some 1 := by kernel_rfl
@[simp] theorem fieldOffT_182_0 : fieldOffT Try.prog 182 0 = some 0 := by kernel_rfl
@[simp] theorem fieldOffT_182_1 : fieldOffT Try.prog 182 1 = some 1 := by kernel_rfl
@[simp] theorem buildA_134 (ps : List (Nat × A)) : buildA Try.prog 134 ps = (fillA (fun i => ([(0, 1), (1, 1)] : List (Nat × Nat))[i]?) [A.sl true [], A.sl true []] ps).map A.agg := by kernel_rfl
@[simp] theorem buildA_182 (ps : List (Nat × A)) : buildA Try.prog 182 ps = (fillA (fun i => ([(0, 1), (1, 8)] : List (Nat × Nat))[i]?) [A.v (Value.int IntKind.u64 0), A.v (Value.pointer none), A.v (Value.int IntKind.i64 0), A.v (Value.int IntKind.i64 0), A.v (Value.int IntKind.i64 0), A.v (Value.int IntKind.i64 0), A.v (Value.int IntKind.i64 0), A.v (Value.int IntKind.i64 0), A.v (Value.int IntKind.u64 0)] ps).map A.agg := by kernel_rfl
/-- cento/intern.New -/
def c_intern_New : CC :=
  .seq (.reg [co (some 0) (.assign (.const (.pointer none))) none] [])
  (.seq (.reg [cn (some 1) (.makeSlice 63 (.const (.int .i64 8)) (.const (.int .i64 8))) none [0, 1],
      co (some 2) (.build 134 #[(1, (.tmp 1))]) none,
      cn (some 3) (.box 134 (.tmp 2)) none [0],
      co (some 0) (.assign (.tmp 3)) none] [0])
  (.ret))
theorem t_intern_New : Txt Try.prog 32 4 [(.tmp 0)] c_intern_New := txt_of (code := Try.f32.body.getD .ret) mixed (by kernel_rfl) Try.func32 (by kernel_rfl) Try.ntmps32 (by kernel_rfl) (ls := [([], []), ([], []), ([0], [(0, [0, 1]), (2, [0])]), ([], [])]) (by kernel_rfl)
/-- (*cento/intern.Table).Len -/
def c_intern_Table_Len : CC :=
  .seq (.reg [co (some 2) (.assign (.const (.int .i64 0))) none] [0])
  (.seq (.seq (.reg [co (some 3) (.move (.tmp 0)) none,
        co (some 4) (.binOp .eql 61 (.tmp 3) (.const (.pointer none)) 61) none] [0, 4])
    (.cond (.tmp 4)
      (.seq (.reg [co (some 2) (.assign (.const (.int .i64 0))) none] [2])
      (.ret))
      (.skip)))
  (.keep [0] (.seq (.reg [co (some 5) (.move (.tmp 0)) none,
      co (some 6) (.nilCheck (.tmp 5)) none,
      co (some 7) (.fieldAddr 134 (.tmp 6) 0) none,
      co (some 8) (.load 132 (.tmp 7)) none,
      co (some 9) (.call { callee := (.builtin .len), args := #[(.tmp 8)], argTypes := #[132] }) none,
      co (some 2) (.assign (.tmp 9)) none] [2])
  (.ret))))
theorem t_intern_Table_Len : Txt Try.prog 37 10 [(.tmp 2)] c_intern_Table_Len := txt_of (code := Try.f37.body.getD .ret) mixed (by kernel_rfl) Try.func37 (by kernel_rfl) Try.ntmps37 (by kernel_rfl) (ls := [([0], []), ([], []), ([0, 4], []), ([], []), ([2], []), ([], []), ([999999, 0], []), ([2], []), ([], [])]) (by kernel_rfl)
/-- (*cento/intern.Table).next -/
def c_intern_Table_next : CC :=
  .seq (.reg [co (some 4) (.assign (.const (.int .i64 0))) none] [0, 1])
  (.seq (.reg [co (some 5) (.move (.tmp 1)) none,
      co (some 6) (.binOp .add 3 (.tmp 5) (.const (.int .i64 1)) 3) none,
      co (some 7) (.move (.tmp 0)) none,
      co (some 8) (.nilCheck (.tmp 7)) none,
      co (some 9) (.fieldAddr 134 (.tmp 8) 1) none,
      co (some 10) (.load 63 (.tmp 9)) none,
      co (some 11) (.call { callee := (.builtin .len), args := #[(.tmp 10)], argTypes := #[63] }) none,
      co (some 12) (.binOp .rem 3 (.tmp 6) (.tmp 11) 3) none,
      co (some 4) (.assign (.tmp 12)) none] [4])
  (.ret))
theorem t_intern_Table_next : Txt Try.prog 170 13 [(.tmp 4)] c_intern_Table_next := txt_of (code := Try.f170.body.getD .ret) mixed (by kernel_rfl) Try.func170 (by kernel_rfl) Try.ntmps170 (by kernel_rfl) (ls := [([0, 1], []), ([], []), ([4], []), ([], [])]) (by kernel_rfl)
def l1_intern_Table_find : CC :=
  .seq (.seq (.reg [co (some 24) (.move (.tmp 0)) none,
        co (some 25) (.nilCheck (.tmp 24)) none,
        co (some 26) (.fieldAddr 134 (.tmp 25) 1) none,
        co (some 27) (.load 63 (.tmp 26)) none,
        co (some 28) (.move (.tmp 9)) none,
        co (some 29) (.indexAddr 63 (.tmp 27) (.tmp 28)) none,
        co (some 30) (.load 3 (.tmp 29)) none,
        co (some 31) (.binOp .gtr 3 (.tmp 30) (.const (.int .i64 0)) 3) none] [0, 1, 5, 8, 9, 31])
    (.cond (.tmp 31)
      (.skip)
      (.exit 0)))
  (.keep [0, 1, 5, 8, 9] (.block 1
    (.seq (.reg [co (some 32) (.move (.tmp 0)) none,
        co (some 33) (.nilCheck (.tmp 32)) none,
        co (some 34) (.fieldAddr 134 (.tmp 33) 0) none,
        ⟨some 35, (.load 132 (.tmp 34)), none, [], 3, [], true⟩,
        co (some 36) (.move (.tmp 0)) none,
        co (some 37) (.nilCheck (.tmp 36)) none,
        co (some 38) (.fieldAddr 134 (.tmp 37) 1) none,
        ⟨some 39, (.load 63 (.tmp 38)), none, [], 7, [], true⟩,
        co (some 40) (.move (.tmp 9)) none,
        co (some 41) (.indexAddr 63 (.tmp 39) (.tmp 40)) none,
        ⟨some 42, (.load 3 (.tmp 41)), none, [], 10, [], true⟩,
        co (some 43) (.binOp .sub 3 (.tmp 42) (.const (.int .i64 1)) 3) none,
        co (some 44) (.indexAddr 132 (.tmp 35) (.tmp 43)) none,
        ⟨some 45, (.load 182 (.tmp 44)), none, [], 13, [], true⟩,
        ⟨some 10, (.alloc 182), none, [1], 14, [3, 7, 10, 13], false⟩,
        co none (.store 182 (.tmp 10) (.tmp 45)) none] [0, 1, 5, 8, 9, 10])
    (.seq (.seq (.reg [co (some 46) (.fieldAddr 182 (.tmp 10) 0) none,
          co (some 47) (.load 26 (.tmp 46)) none,
          co (some 48) (.move (.tmp 1)) none,
          co (some 49) (.binOp .eql 26 (.tmp 47) (.tmp 48) 26) none] [0, 1, 5, 8, 9, 10, 49])
      (.cond (.tmp 49)
        (.seq (.reg [co (some 51) (.fieldAddr 182 (.tmp 10) 1) none,
            co (some 52) (.load 68 (.tmp 51)) none,
            co (some 53) (.load 68 (.tmp 5)) none,
            co (some 54) (.call { callee := (.value (.func 171)), args := #[(.tmp 52), (.tmp 53)], argTypes := #[68, 68] }) none,
            co (some 50) (.move (.tmp 54)) none,
            co (some 55) (.extract (.tmp 50) 0) none,
            co (some 56) (.extract (.tmp 50) 1) none,
            co (some 11) (.assign (.tmp 55)) none,
            co (some 12) (.assign (.tmp 56)) none] [0, 1, 5, 8, 9, 11, 12])
        (.seq (.reg [co (some 57) (.move (.tmp 12)) none,
            co (some 58) (.binOp .neq 64 (.tmp 57) (.const (.int .i64 0)) 64) none,
            co (some 59) (.move (.tmp 58)) none,
            co (some 60) (.move (.tmp 11)) (some (59, false)),
            co (some 61) (.pick (.tmp 59) (.const (.bool true)) (.tmp 60)) none] [0, 1, 5, 8, 9, 12, 61])
        (.cond (.tmp 61)
          (.seq (.reg [co (some 62) (.move (.tmp 9)) none,
              co (some 63) (.move (.tmp 12)) none,
              co (some 6) (.assign (.tmp 62)) none,
              co (some 7) (.assign (.tmp 63)) none] [6, 7])
          (.ret))
          (.skip))))
        (.skip)))
    (.keep [0, 1, 5, 8, 9] (.reg [co (some 64) (.move (.tmp 8)) none,
      co (some 65) (.move (.tmp 9)) none,
      co (some 66) (.call { callee := (.value (.tmp 64)), args := #[(.tmp 65)], argTypes := #[3] }) none,
      co (some 9) (.assign (.tmp 66)) none] [0, 1, 5, 8, 9]))))))
/-- (*cento/intern.Table).find -/
def c_intern_Table_find : CC :=
  .seq (.reg [cn (some 5) (.box 68 (.tmp 2)) none [0],
      co (some 6) (.assign (.const (.int .i64 0))) none,
      co (some 7) (.assign (.const (.int .i64 0))) none] [0, 1, 5])
  (.seq (.reg [co (some 13) (.move (.tmp 0)) none,
      co (some 14) (.makeFunc (.func 170) #[(.tmp 13)] #[]) none,
      co (some 8) (.assign (.tmp 14)) none] [0, 1, 5, 8])
  (.seq (.reg [co (some 15) (.move (.tmp 1)) none,
      co (some 16) (.move (.tmp 0)) none,
      co (some 17) (.nilCheck (.tmp 16)) none,
      co (some 18) (.fieldAddr 134 (.tmp 17) 1) none,
      co (some 19) (.load 63 (.tmp 18)) none,
      co (some 20) (.call { callee := (.builtin .len), args := #[(.tmp 19)], argTypes := #[63] }) none,
      co (some 21) (.convert 3 26 (.tmp 20)) none,
      co (some 22) (.binOp .rem 26 (.tmp 15) (.tmp 21) 26) none,
      co (some 23) (.convert 26 3 (.tmp 22)) none,
      co (some 9) (.assign (.tmp 23)) none] [0, 1, 5, 8, 9])
  (.seq (.block 0
      (.loop l1_intern_Table_find))
  (.keep [9] (.seq (.reg [co (some 67) (.move (.tmp 9)) none,
      co (some 6) (.assign (.tmp 67)) none,
      co (some 7) (.assign (.const (.int .i64 0))) none] [6, 7])
  (.ret))))))
theorem t_intern_Table_find : Txt Try.prog 122 68 [(.tmp 6), (.tmp 7)] c_intern_Table_find := txt_of (code := Try.f122.body.getD .ret) mixed (by kernel_rfl) Try.func122 (by kernel_rfl) Try.ntmps122 (by kernel_rfl) (ls := [([0, 1, 5], [(0, [0])]), ([], []), ([0, 1, 5, 8], []), ([], []), ([0, 1, 5, 8, 9], []), ([], []), ([0, 1, 5, 8, 9, 31], []), ([], []), ([999999, 0, 1, 5, 8, 9], []), ([0, 1, 5, 8, 9, 10], [(14, [1])]), ([], []), ([0, 1, 5, 8, 9, 10, 49], []), ([], []), ([0, 1, 5, 8, 9, 11, 12], []), ([], []), ([0, 1, 5, 8, 9, 12, 61], []), ([], []), ([6, 7], []), ([], []), ([999999, 0, 1, 5, 8, 9], []), ([0, 1, 5, 8, 9], []), ([999999, 9], []), ([6, 7], []), ([], [])]) (by kernel_rfl)
def l1_intern_Table_grow : CC :=
  .seq (.seq (.reg [co (some 35) (.move (.tmp 0)) none,
        co (some 36) (.nilCheck (.tmp 35)) none,
        co (some 37) (.fieldAddr 134 (.tmp 36) 1) none,
        co (some 38) (.load 63 (.tmp 37)) none,
        co (some 39) (.move (.tmp 4)) none,
        co (some 40) (.indexAddr 63 (.tmp 38) (.tmp 39)) none,
        co (some 41) (.load 3 (.tmp 40)) none,
        co (some 42) (.binOp .gtr 3 (.tmp 41) (.const (.int .i64 0)) 3) none] [0, 2, 4, 18, 19, 20, 42])
    (.cond (.tmp 42)
      (.skip)
      (.exit 2)))
  (.keep [0, 2, 4, 18, 19, 20] (.block 3
    (.reg [co (some 43) (.move (.tmp 0)) none,
      co (some 44) (.move (.tmp 4)) none,
      co (some 45) (.call { callee := (.value (.func 170)), args := #[(.tmp 43), (.tmp 44)], argTypes := #[61, 3] }) none,
      co (some 4) (.assign (.tmp 45)) none] [0, 2, 4, 18, 19, 20])))
def l2_intern_Table_grow : CC :=
  .seq (.reg [co (some 21) (.binOp .lss 3 (.tmp 20) (.tmp 19) 3) none] [0, 18, 19, 20, 21])
  (.seq (.cond (.tmp 21)
      (.skip)
      (.exit 0))
  (.keep [0, 18, 19, 20] (.seq (.block 1
      (.seq (.reg [co (some 22) (.move (.tmp 20)) none,
          co (some 23) (.indexAddr 132 (.tmp 18) (.tmp 20)) none,
          co (some 24) (.load 182 (.tmp 23)) none,
          cn (some 3) (.alloc 182) none [2],
          co (some 2) (.assign (.tmp 22)) none,
          co none (.store 182 (.tmp 3) (.tmp 24)) none] [0, 2, 3, 18, 19, 20])
      (.seq (.reg [co (some 25) (.fieldAddr 182 (.tmp 3) 0) none,
          co (some 26) (.load 26 (.tmp 25)) none,
          co (some 27) (.move (.tmp 0)) none,
          co (some 28) (.nilCheck (.tmp 27)) none,
          co (some 29) (.fieldAddr 134 (.tmp 28) 1) none,
          co (some 30) (.load 63 (.tmp 29)) none,
          co (some 31) (.call { callee := (.builtin .len), args := #[(.tmp 30)], argTypes := #[63] }) none,
          co (some 32) (.convert 3 26 (.tmp 31)) none,
          co (some 33) (.binOp .rem 26 (.tmp 26) (.tmp 32) 26) none,
          co (some 34) (.convert 26 3 (.tmp 33)) none,
          co (some 4) (.assign (.tmp 34)) none] [0, 2, 4, 18, 19, 20])
      (.seq (.block 2
          (.loop l1_intern_Table_grow))
      (.keep [0, 2, 4, 18, 19, 20] (.reg [co (some 46) (.move (.tmp 0)) none,
        co (some 47) (.nilCheck (.tmp 46)) none,
        co (some 48) (.fieldAddr 134 (.tmp 47) 1) none,
        co (some 49) (.load 63 (.tmp 48)) none,
        co (some 50) (.move (.tmp 4)) none,
        co (some 51) (.move (.tmp 2)) none,
        co (some 52) (.binOp .add 3 (.tmp 51) (.const (.int .i64 1)) 3) none,
        co (some 53) (.indexAddr 63 (.tmp 49) (.tmp 50)) none,
        co none (.store 3 (.tmp 53) (.tmp 52)) none] [0, 18, 19, 20]))))))
  (.keep [0, 18, 19, 20] (.reg [co (some 54) (.binOp .add 3 (.tmp 20) (.const (.int .i64 1)) 3) none,
    co (some 20) (.move (.tmp 54)) none] [0, 18, 19, 20])))))
/-- (*cento/intern.Table).grow -/
def c_intern_Table_grow : CC :=
  .seq (.reg [co (some 5) (.move (.tmp 0)) none,
      co (some 6) (.move (.tmp 0)) none,
      co (some 7) (.nilCheck (.tmp 6)) none,
      co (some 8) (.fieldAddr 134 (.tmp 7) 1) none,
      co (some 9) (.load 63 (.tmp 8)) none,
      co (some 10) (.call { callee := (.builtin .len), args := #[(.tmp 9)], argTypes := #[63] }) none,
      co (some 11) (.binOp .mul 3 (.const (.int .i64 2)) (.tmp 10) 3) none,
      cn (some 12) (.makeSlice 63 (.tmp 11) (.tmp 11)) none [0, 1],
      co (some 13) (.nilCheck (.tmp 5)) none,
      co (some 14) (.fieldAddr 134 (.tmp 13) 1) none,
      co none (.store 63 (.tmp 14) (.tmp 12)) none] [0])
  (.seq (.reg [co (some 15) (.move (.tmp 0)) none,
      co (some 16) (.nilCheck (.tmp 15)) none,
      co (some 17) (.fieldAddr 134 (.tmp 16) 0) none,
      co (some 18) (.load 132 (.tmp 17)) none,
      co (some 19) (.call { callee := (.builtin .len), args := #[(.tmp 18)], argTypes := #[132] }) none,
      co (some 20) (.move (.const (.int .i64 0))) none] [0, 18, 19, 20])
  (.block 0
    (.loop l2_intern_Table_grow)))
theorem t_intern_Table_grow : Txt Try.prog 123 55 [] c_intern_Table_grow := txt_of (code := Try.f123.body.getD .ret) mixed (by kernel_rfl) Try.func123 (by kernel_rfl) Try.ntmps123 (by kernel_rfl) (ls := [([0], [(7, [0, 1])]), ([], []), ([0, 18, 19, 20], []), ([], []), ([0, 18, 19, 20, 21], []), ([], []), ([999999, 0, 18, 19, 20], []), ([0, 2, 3, 18, 19, 20], [(3, [2])]), ([], []), ([0, 2, 4, 18, 19, 20], []), ([], []), ([0, 2, 4, 18, 19, 20, 42], []), ([], []), ([999999, 0, 2, 4, 18, 19, 20], []), ([0, 2, 4, 18, 19, 20], []), ([999999, 0, 2, 4, 18, 19, 20], []), ([0, 18, 19, 20], []), ([999999, 0, 18, 19, 20], []), ([0, 18, 19, 20], [])]) (by kernel_rfl)
def k1_intern_Table_Class : CC :=
  .seq (.reg [co (some 84) (.move (.tmp 0)) none,
      co (some 85) (.nilCheck (.tmp 84)) none,
      co (some 86) (.fieldAddr 134 (.tmp 85) 0) none,
      co (some 87) (.load 132 (.tmp 86)) none,
      co (some 88) (.call { callee := (.builtin .len), args := #[(.tmp 87)], argTypes := #[132] }) none,
      co (some 89) (.binOp .sub 3 (.tmp 88) (.const (.int .i64 1)) 3) none,
      co (some 4) (.assign (.tmp 89)) none,
      co (some 5) (.assign (.const (.int .i64 0))) none] [4, 5])
  (.ret)
/-- (*cento/intern.Table).Class -/
def c_intern_Table_Class : CC :=
  .seq (.reg [cn (some 3) (.box 68 (.tmp 1)) none [1],
      co (some 4) (.assign (.const (.int .i64 0))) none,
      co (some 5) (.assign (.const (.int .i64 0))) none] [0, 3])
  (.seq (.seq (.reg [co (some 9) (.move (.tmp 0)) none,
        co (some 10) (.binOp .eql 61 (.tmp 9) (.const (.pointer none)) 61) none] [0, 3, 10])
    (.cond (.tmp 10)
      (.seq (.reg [co (some 4) (.assign (.const (.int .i64 0))) none,
          co (some 5) (.assign (.const (.int .i64 1))) none] [4, 5])
      (.ret))
      (.skip)))
  (.keep [0, 3] (.seq (.reg [co (some 12) (.load 68 (.tmp 3)) none,
      co (some 13) (.call { callee := (.value (.func 121)), args := #[(.tmp 12)], argTypes := #[68] }) none,
      co (some 11) (.move (.tmp 13)) none,
      co (some 14) (.extract (.tmp 11) 0) none,
      co (some 15) (.extract (.tmp 11) 1) none,
      co (some 6) (.assign (.tmp 14)) none,
      co (some 7) (.assign (.tmp 15)) none] [0, 3, 6, 7])
  (.seq (.seq (.reg [co (some 16) (.move (.tmp 7)) none,
        co (some 17) (.binOp .neq 64 (.tmp 16) (.const (.int .i64 0)) 64) none] [0, 3, 6, 7, 17])
    (.cond (.tmp 17)
      (.seq (.reg [co (some 18) (.move (.tmp 7)) none,
          co (some 4) (.assign (.const (.int .i64 0))) none,
          co (some 5) (.assign (.tmp 18)) none] [4, 5])
      (.ret))
      (.skip)))
  (.keep [0, 3, 6] (.seq (.reg [co (some 20) (.move (.tmp 0)) none,
      co (some 21) (.move (.tmp 6)) none,
      co (some 22) (.load 68 (.tmp 3)) none,
      co (some 23) (.call { callee := (.value (.func 122)), args := #[(.tmp 20), (.tmp 21), (.tmp 22)], argTypes := #[61, 26, 68] }) none,
      co (some 19) (.move (.tmp 23)) none,
      co (some 24) (.extract (.tmp 19) 0) none,
      co (some 25) (.extract (.tmp 19) 1) none,
      co (some 8) (.assign (.tmp 24)) none,
      co (some 7) (.assign (.tmp 25)) none] [0, 3, 6, 7, 8])
  (.seq (.block 0
      (.seq (.reg [co (some 27) (.move (.tmp 7)) none,
          co (some 28) (.binOp .neq 64 (.tmp 27) (.const (.int .i64 0)) 64) none,
          co (some 26) (.assign (.tmp 28)) none] [0, 3, 6, 7, 8, 26])
      (.cond (.tmp 26)
        (.seq (.reg [co (some 29) (.move (.tmp 7)) none,
            co (some 4) (.assign (.const (.int .i64 0))) none,
            co (some 5) (.assign (.tmp 29)) none] [4, 5])
        (.ret))
        (.seq (.reg [co (some 31) (.move (.tmp 0)) none,
            co (some 32) (.nilCheck (.tmp 31)) none,
            co (some 33) (.fieldAddr 134 (.tmp 32) 1) none,
            co (some 34) (.load 63 (.tmp 33)) none,
            co (some 35) (.move (.tmp 8)) none,
            co (some 36) (.indexAddr 63 (.tmp 34) (.tmp 35)) none,
            co (some 37) (.load 3 (.tmp 36)) none,
            co (some 38) (.binOp .gtr 3 (.tmp 37) (.const (.int .i64 0)) 3) none,
            co (some 30) (.assign (.tmp 38)) none] [0, 3, 6, 8, 30])
        (.cond (.tmp 30)
          (.seq (.reg [co (some 39) (.move (.tmp 0)) none,
              co (some 40) (.nilCheck (.tmp 39)) none,
              co (some 41) (.fieldAddr 134 (.tmp 40) 1) none,
              co (some 42) (.load 63 (.tmp 41)) none,
              co (some 43) (.move (.tmp 8)) none,
              co (some 44) (.indexAddr 63 (.tmp 42) (.tmp 43)) none,
              co (some 45) (.load 3 (.tmp 44)) none,
              co (some 46) (.binOp .sub 3 (.tmp 45) (.const (.int .i64 1)) 3) none,
              co (some 4) (.assign (.tmp 46)) none,
              co (some 5) (.assign (.const (.int .i64 0))) none] [4, 5])
          (.ret))
          (.skip))))))
  (.keep [0, 3, 6, 8] (.seq (.reg [co (some 47) (.move (.tmp 0)) none,
      co (some 48) (.move (.tmp 0)) none,
      co (some 49) (.nilCheck (.tmp 48)) none,
      co (some 50) (.fieldAddr 134 (.tmp 49) 0) none,
      ⟨some 51, (.load 132 (.tmp 50)), none, [], 4, [], true⟩,
      co (some 52) (.move (.tmp 6)) none,
      co (some 53) (.load 68 (.tmp 3)) none,
      co (some 54) (.build 182 #[(0, (.tmp 52)), (1, (.tmp 53))]) none,
      ⟨some 55, (.buildSlice 132 1 #[(0, (.tmp 54))]), none, [], 8, [4], false⟩,
      cn (some 56) (.call { callee := (.builtin .append), args := #[(.tmp 51), (.tmp 55)], argTypes := #[132, 132] }) none [2],
      co (some 57) (.nilCheck (.tmp 47)) none,
      co (some 58) (.fieldAddr 134 (.tmp 57) 0) none,
      co none (.store 132 (.tmp 58) (.tmp 56)) none] [0, 8])
  (.seq (.reg [co (some 59) (.move (.tmp 0)) none,
      co (some 60) (.nilCheck (.tmp 59)) none,
      co (some 61) (.fieldAddr 134 (.tmp 60) 1) none,
      co (some 62) (.load 63 (.tmp 61)) none,
      co (some 63) (.move (.tmp 8)) none,
      co (some 64) (.move (.tmp 0)) none,
      co (some 65) (.nilCheck (.tmp 64)) none,
      co (some 66) (.fieldAddr 134 (.tmp 65) 0) none,
      co (some 67) (.load 132 (.tmp 66)) none,
      co (some 68) (.call { callee := (.builtin .len), args := #[(.tmp 67)], argTypes := #[132] }) none,
      co (some 69) (.indexAddr 63 (.tmp 62) (.tmp 63)) none,
      co none (.store 3 (.tmp 69) (.tmp 68)) none] [0])
  (.seq (.seq (.reg [co (some 70) (.move (.tmp 0)) none,
        co (some 71) (.nilCheck (.tmp 70)) none,
        co (some 72) (.fieldAddr 134 (.tmp 71) 0) none,
        co (some 73) (.load 132 (.tmp 72)) none,
        co (some 74) (.call { callee := (.builtin .len), args := #[(.tmp 73)], argTypes := #[132] }) none,
        co (some 75) (.binOp .mul 3 (.const (.int .i64 2)) (.tmp 74) 3) none,
        co (some 76) (.move (.tmp 0)) none,
        co (some 77) (.nilCheck (.tmp 76)) none,
        co (some 78) (.fieldAddr 134 (.tmp 77) 1) none,
        co (some 79) (.load 63 (.tmp 78)) none,
        co (some 80) (.call { callee := (.builtin .len), args := #[(.tmp 79)], argTypes := #[63] }) none,
        co (some 81) (.binOp .gtr 3 (.tmp 75) (.tmp 80) 3) none] [0, 81])
    (.cond (.tmp 81)
      (.reg [co (some 82) (.move (.tmp 0)) none,
        co (some 83) (.call { callee := (.value (.func 123)), args := #[(.tmp 82)], argTypes := #[61] }) none] [0])
      (.skip)))
  (.keep [0] k1_intern_Table_Class))))))))))))
theorem t_intern_Table_Class : Txt Try.prog 76 90 [(.tmp 4), (.tmp 5)] c_intern_Table_Class := txt_of (code := Try.f76.body.getD .ret) mixed (by kernel_rfl) Try.func76 (by kernel_rfl) Try.ntmps76 (by kernel_rfl) (ls := [([0, 3], [(0, [1])]), ([], []), ([0, 3, 10], []), ([], []), ([4, 5], []), ([], []), ([999999, 0, 3], []), ([0, 3, 6, 7], []), ([], []), ([0, 3, 6, 7, 17], []), ([], []), ([4, 5], []), ([], []), ([999999, 0, 3, 6], []), ([0, 3, 6, 7, 8], []), ([], []), ([0, 3, 6, 7, 8, 26], []), ([], []), ([4, 5], []), ([], []), ([0, 3, 6, 8, 30], []), ([], []), ([4, 5], []), ([], []), ([999999, 0, 3, 6, 8], []), ([0, 8], [(9, [2])]), ([], []), ([0], []), ([], []), ([0, 81], []), ([], []), ([0], []), ([999999, 0], []), ([4, 5], []), ([], [])]) (by kernel_rfl)
def l1_intern_Table_Kids : CC :=
  .seq (.reg [co (some 14) (.binOp .lss 3 (.tmp 13) (.tmp 12) 3) none] [0, 3, 6, 12, 13, 14])
  (.seq (.cond (.tmp 14)
      (.skip)
      (.exit 0))
  (.keep [0, 3, 6, 12, 13] (.seq (.block 1
      (.seq (.reg [co (some 15) (.move (.tmp 13)) none,
          co (some 7) (.assign (.tmp 15)) none] [0, 3, 6, 7, 12, 13])
      (.seq (.reg [co (some 17) (.load 68 (.tmp 3)) none,
          co (some 18) (.move (.tmp 7)) none,
          co (some 19) (.call { callee := (.value (.func 44)), args := #[(.tmp 17), (.tmp 18)], argTypes := #[68, 3] }) none,
          co (some 16) (.move (.tmp 19)) none,
          co (some 20) (.extract (.tmp 16) 0) none,
          co (some 21) (.extract (.tmp 16) 1) none,
          cn (some 8) (.alloc 68) none [3],
          co none (.store 68 (.tmp 8) (.tmp 20)) none,
          co (some 9) (.assign (.tmp 21)) none] [0, 3, 6, 8, 9, 12, 13])
      (.seq (.seq (.reg [co (some 22) (.move (.tmp 9)) none,
            co (some 23) (.binOp .neq 64 (.tmp 22) (.const (.int .i64 0)) 64) none] [0, 3, 6, 8, 9, 12, 13, 23])
        (.cond (.tmp 23)
          (.seq (.reg [co (some 24) (.move (.tmp 9)) none,
              co (some 4) (.assign (.const (.slice none 0 0))) none,
              co (some 5) (.assign (.tmp 24)) none] [4, 5])
          (.ret))
          (.skip)))
      (.keep [0, 3, 6, 8, 12, 13] (.seq (.reg [co (some 26) (.move (.tmp 0)) none,
          co (some 27) (.load 68 (.tmp 8)) none,
          co (some 28) (.call { callee := (.value (.func 76)), args := #[(.tmp 26), (.tmp 27)], argTypes := #[61, 68] }) none,
          co (some 25) (.move (.tmp 28)) none,
          co (some 29) (.extract (.tmp 25) 0) none,
          co (some 30) (.extract (.tmp 25) 1) none,
          co (some 10) (.assign (.tmp 29)) none,
          co (some 9) (.assign (.tmp 30)) none] [0, 3, 6, 9, 10, 12, 13])
      (.seq (.seq (.reg [co (some 31) (.move (.tmp 9)) none,
            co (some 32) (.binOp .neq 64 (.tmp 31) (.const (.int .i64 0)) 64) none] [0, 3, 6, 9, 10, 12, 13, 32])
        (.cond (.tmp 32)
          (.seq (.reg [co (some 33) (.move (.tmp 9)) none,
              co (some 4) (.assign (.const (.slice none 0 0))) none,
              co (some 5) (.assign (.tmp 33)) none] [4, 5])
          (.ret))
          (.skip)))
      (.keep [0, 3, 6, 10, 12, 13] (.reg [co (some 34) (.move (.tmp 6)) none,
        co (some 35) (.move (.tmp 10)) none,
        co (some 36) (.buildSlice 63 1 #[(0, (.tmp 35))]) none,
        cn (some 37) (.call { callee := (.builtin .append), args := #[(.tmp 34), (.tmp 36)], argTypes := #[63, 63] }) none [4],
        co (some 6) (.assign (.tmp 37)) none] [0, 3, 6, 12, 13])))))))))
  (.keep [0, 3, 6, 12, 13] (.reg [co (some 38) (.binOp .add 3 (.tmp 13) (.const (.int .i64 1)) 3) none,
    co (some 13) (.move (.tmp 38)) none] [0, 3, 6, 12, 13])))))
/-- (*cento/intern.Table).Kids -/
def c_intern_Table_Kids : CC :=
  .seq (.reg [cn (some 3) (.box 68 (.tmp 1)) none [2],
      co (some 4) (.assign (.const (.slice none 0 0))) none,
      co (some 5) (.assign (.const (.int .i64 0))) none] [0, 3])
  (.seq (.reg [co (some 6) (.assign (.const (.slice none 0 0))) none] [0, 3, 6])
  (.seq (.seq (.reg [co (some 11) (.load 68 (.tmp 3)) none,
        co (some 12) (.call { callee := (.value (.func 75)), args := #[(.tmp 11)], argTypes := #[68] }) none,
        co (some 13) (.move (.const (.int .i64 0))) none] [0, 3, 6, 12, 13])
    (.block 0
      (.loop l1_intern_Table_Kids)))
  (.keep [6] (.seq (.reg [co (some 39) (.move (.tmp 6)) none,
      co (some 4) (.assign (.tmp 39)) none,
      co (some 5) (.assign (.const (.int .i64 0))) none] [4, 5])
  (.ret)))))
theorem t_intern_Table_Kids : Txt Try.prog 33 40 [(.tmp 4), (.tmp 5)] c_intern_Table_Kids := txt_of (code := Try.f33.body.getD .ret) mixed (by kernel_rfl) Try.func33 (by kernel_rfl) Try.ntmps33 (by kernel_rfl) (ls := [([0, 3], [(0, [2])]), ([], []), ([0, 3, 6], []), ([], []), ([0, 3, 6, 12, 13], []), ([], []), ([0, 3, 6, 12, 13, 14], []), ([], []), ([999999, 0, 3, 6, 12, 13], []), ([0, 3, 6, 7, 12, 13], []), ([], []), ([0, 3, 6, 8, 9, 12, 13], [(6, [3])]), ([], []), ([0, 3, 6, 8, 9, 12, 13, 23], []), ([], []), ([4, 5], []), ([], []), ([999999, 0, 3, 6, 8, 12, 13], []), ([0, 3, 6, 9, 10, 12, 13], []), ([], []), ([0, 3, 6, 9, 10, 12, 13, 32], []), ([], []), ([4, 5], []), ([], []), ([999999, 0, 3, 6, 10, 12, 13], []), ([0, 3, 6, 12, 13], [(3, [4])]), ([999999, 0, 3, 6, 12, 13], []), ([0, 3, 6, 12, 13], []), ([999999, 6], []), ([4, 5], []), ([], [])]) (by kernel_rfl)
def l1_centoref16_Class : CC :=
  .seq (.seq (.reg [co (some 10) (.move (.tmp 7)) none,
        co (some 11) (.move (.tmp 0)) none,
        co (some 12) (.call { callee := (.builtin .len), args := #[(.tmp 11)], argTypes := #[51] }) none,
        co (some 13) (.binOp .lss 3 (.tmp 10) (.tmp 12) 3) none] [0, 6, 7, 13])
    (.cond (.tmp 13)
      (.skip)
      (.exit 0)))
  (.keep [0, 6, 7] (.seq (.block 1
      (.seq (.reg [co (some 16) (.move (.tmp 0)) none,
          co (some 17) (.move (.tmp 7)) none,
          co (some 18) (.indexAddr 51 (.tmp 16) (.tmp 17)) none,
          co (some 19) (.load 53 (.tmp 18)) none,
          co (some 20) (.load 53 (.tmp 6)) none,
          co (some 21) (.call { callee := (.value (.func 53)), args := #[(.tmp 19), (.tmp 20)], argTypes := #[53, 53] }) none] [0, 6, 7, 21])
      (.cond (.tmp 21)
        (.seq (.reg [co (some 22) (.move (.tmp 0)) none,
            co (some 23) (.move (.tmp 7)) none,
            co (some 4) (.assign (.tmp 22)) none,
            co (some 5) (.assign (.tmp 23)) none] [4, 5])
        (.ret))
        (.skip))))
  (.keep [0, 6, 7] (.reg [co (some 14) (.move (.tmp 7)) none,
    co (some 15) (.binOp .add 3 (.tmp 14) (.const (.int .i64 1)) 3) none,
    co (some 7) (.assign (.tmp 15)) none] [0, 6, 7]))))
/-- cento/centoref16.Class -/
def c_centoref16_Class : CC :=
  .seq (.reg [cn (some 3) (.box 53 (.tmp 1)) none [1],
      co (some 4) (.assign (.const (.slice none 0 0))) none,
      co (some 5) (.assign (.const (.int .i64 0))) none] [0, 3])
  (.seq (.reg [co (some 8) (.load 53 (.tmp 3)) none,
      co (some 9) (.call { callee := (.value (.func 47)), args := #[(.tmp 8)], argTypes := #[53] }) none,
      cn (some 6) (.alloc 53) none [2],
      co none (.store 53 (.tmp 6) (.tmp 9)) none] [0, 6])
  (.seq (.seq (.reg [co (some 7) (.assign (.const (.int .i64 0))) none] [0, 6, 7])
    (.block 0
      (.loop l1_centoref16_Class)))
  (.keep [0, 6] (.seq (.reg [co (some 24) (.move (.tmp 0)) none,
      co (some 25) (.load 53 (.tmp 6)) none,
      co (some 26) (.buildSlice 51 1 #[(0, (.tmp 25))]) none,
      cn (some 27) (.call { callee := (.builtin .append), args := #[(.tmp 24), (.tmp 26)], argTypes := #[51, 51] }) none [3],
      co (some 28) (.move (.tmp 0)) none,
      co (some 29) (.call { callee := (.builtin .len), args := #[(.tmp 28)], argTypes := #[51] }) none,
      co (some 4) (.assign (.tmp 27)) none,
      co (some 5) (.assign (.tmp 29)) none] [4, 5])
  (.ret)))))
theorem t_centoref16_Class : Txt Try.prog 77 30 [(.tmp 4), (.tmp 5)] c_centoref16_Class := txt_of (code := Try.f77.body.getD .ret) mixed (by kernel_rfl) Try.func77 (by kernel_rfl) Try.ntmps77 (by kernel_rfl) (ls := [([0, 3], [(0, [1])]), ([], []), ([0, 6], [(2, [2])]), ([], []), ([0, 6, 7], []), ([], []), ([0, 6, 7, 13], []), ([], []), ([999999, 0, 6, 7], []), ([0, 6, 7, 21], []), ([], []), ([4, 5], []), ([], []), ([999999, 0, 6, 7], []), ([0, 6, 7], []), ([999999, 0, 6], []), ([4, 5], [(3, [3])]), ([], [])]) (by kernel_rfl)
def l1_centoref16_Classes : CC :=
  .seq (.seq (.reg [co (some 10) (.move (.tmp 7)) none,
        co (some 11) (.move (.tmp 1)) none,
        co (some 12) (.call { callee := (.builtin .len), args := #[(.tmp 11)], argTypes := #[51] }) none,
        co (some 13) (.binOp .lss 3 (.tmp 10) (.tmp 12) 3) none] [0, 1, 6, 7, 13])
    (.cond (.tmp 13)
      (.skip)
      (.exit 0)))
  (.keep [0, 1, 6, 7] (.seq (.block 1
      (.seq (.reg [co (some 17) (.move (.tmp 0)) none,
          co (some 18) (.move (.tmp 1)) none,
          co (some 19) (.move (.tmp 7)) none,
          co (some 20) (.indexAddr 51 (.tmp 18) (.tmp 19)) none,
          co (some 21) (.load 53 (.tmp 20)) none,
          co (some 22) (.call { callee := (.value (.func 77)), args := #[(.tmp 17), (.tmp 21)], argTypes := #[51, 53] }) none,
          co (some 16) (.move (.tmp 22)) none,
          co (some 23) (.extract (.tmp 16) 0) none,
          co (some 24) (.extract (.tmp 16) 1) none,
          co (some 8) (.assign (.tmp 23)) none,
          co (some 9) (.assign (.tmp 24)) none] [1, 6, 7, 8, 9])
      (.seq (.reg [co (some 25) (.move (.tmp 8)) none,
          co (some 0) (.assign (.tmp 25)) none] [0, 1, 6, 7, 9])
      (.reg [co (some 26) (.move (.tmp 6)) none,
        co (some 27) (.move (.tmp 9)) none,
        co (some 28) (.buildSlice 63 1 #[(0, (.tmp 27))]) none,
        cn (some 29) (.call { callee := (.builtin .append), args := #[(.tmp 26), (.tmp 28)], argTypes := #[63, 63] }) none [2],
        co (some 6) (.assign (.tmp 29)) none] [0, 1, 6, 7]))))
  (.reg [co (some 14) (.move (.tmp 7)) none,
    co (some 15) (.binOp .add 3 (.tmp 14) (.const (.int .i64 1)) 3) none,
    co (some 7) (.assign (.tmp 15)) none] [0, 1, 6, 7])))
/-- cento/centoref16.Classes -/
def c_centoref16_Classes : CC :=
  .seq (.reg [co (some 4) (.assign (.const (.slice none 0 0))) none,
      co (some 5) (.assign (.const (.slice none 0 0))) none] [0, 1])
  (.seq (.reg [co (some 6) (.assign (.const (.slice none 0 0))) none] [0, 1, 6])
  (.seq (.seq (.reg [co (some 7) (.assign (.const (.int .i64 0))) none] [0, 1, 6, 7])
    (.block 0
      (.loop l1_centoref16_Classes)))
  (.keep [0, 6] (.seq (.reg [co (some 30) (.move (.tmp 0)) none,
      co (some 31) (.move (.tmp 6)) none,
      co (some 4) (.assign (.tmp 30)) none,
      co (some 5) (.assign (.tmp 31)) none] [4, 5])
  (.ret)))))
theorem t_centoref16_Classes : Txt Try.prog 35 32 [(.tmp 4), (.tmp 5)] c_centoref16_Classes := txt_of (code := Try.f35.body.getD .ret) mixed (by kernel_rfl) Try.func35 (by kernel_rfl) Try.ntmps35 (by kernel_rfl) (ls := [([0, 1], []), ([], []), ([0, 1, 6], []), ([], []), ([0, 1, 6, 7], []), ([], []), ([0, 1, 6, 7, 13], []), ([], []), ([999999, 0, 1, 6, 7], []), ([1, 6, 7, 8, 9], []), ([], []), ([0, 1, 6, 7, 9], []), ([], []), ([0, 1, 6, 7], [(3, [2])]), ([], []), ([0, 1, 6, 7], []), ([999999, 0, 6], []), ([4, 5], []), ([], [])]) (by kernel_rfl)
def l1_centoref16_SameInts : CC :=
  .seq (.seq (.reg [co (some 11) (.move (.tmp 5)) none,
        co (some 12) (.move (.tmp 0)) none,
        co (some 13) (.call { callee := (.builtin .len), args := #[(.tmp 12)], argTypes := #[63] }) none,
        co (some 14) (.binOp .lss 3 (.tmp 11) (.tmp 13) 3) none] [0, 1, 5, 14])
    (.cond (.tmp 14)
      (.skip)
      (.exit 0)))
  (.keep [0, 1, 5] (.seq (.block 1
      (.seq (.reg [co (some 17) (.move (.tmp 0)) none,
          co (some 18) (.move (.tmp 5)) none,
          co (some 19) (.indexAddr 63 (.tmp 17) (.tmp 18)) none,
          co (some 20) (.load 3 (.tmp 19)) none,
          co (some 21) (.move (.tmp 1)) none,
          co (some 22) (.move (.tmp 5)) none,
          co (some 23) (.indexAddr 63 (.tmp 21) (.tmp 22)) none,
          co (some 24) (.load 3 (.tmp 23)) none,
          co (some 25) (.binOp .neq 3 (.tmp 20) (.tmp 24) 3) none] [0, 1, 5, 25])
      (.cond (.tmp 25)
        (.seq (.reg [co (some 4) (.assign (.const (.bool false))) none] [4])
        (.ret))
        (.skip))))
  (.keep [0, 1, 5] (.reg [co (some 15) (.move (.tmp 5)) none,
    co (some 16) (.binOp .add 3 (.tmp 15) (.const (.int .i64 1)) 3) none,
    co (some 5) (.assign (.tmp 16)) none] [0, 1, 5]))))
/-- cento/centoref16.SameInts -/
def c_centoref16_SameInts : CC :=
  .seq (.reg [co (some 4) (.assign (.const (.bool false))) none] [0, 1])
  (.seq (.seq (.reg [co (some 6) (.move (.tmp 0)) none,
        co (some 7) (.call { callee := (.builtin .len), args := #[(.tmp 6)], argTypes := #[63] }) none,
        co (some 8) (.move (.tmp 1)) none,
        co (some 9) (.call { callee := (.builtin .len), args := #[(.tmp 8)], argTypes := #[63] }) none,
        co (some 10) (.binOp .neq 3 (.tmp 7) (.tmp 9) 3) none] [0, 1, 10])
    (.cond (.tmp 10)
      (.seq (.reg [co (some 4) (.assign (.const (.bool false))) none] [4])
      (.ret))
      (.skip)))
  (.keep [0, 1] (.seq (.seq (.reg [co (some 5) (.assign (.const (.int .i64 0))) none] [0, 1, 5])
    (.block 0
      (.loop l1_centoref16_SameInts)))
  (.keep [] (.seq (.reg [co (some 4) (.assign (.const (.bool true))) none] [4])
  (.ret))))))
theorem t_centoref16_SameInts : Txt Try.prog 36 26 [(.tmp 4)] c_centoref16_SameInts := txt_of (code := Try.f36.body.getD .ret) mixed (by kernel_rfl) Try.func36 (by kernel_rfl) Try.ntmps36 (by kernel_rfl) (ls := [([0, 1], []), ([], []), ([0, 1, 10], []), ([], []), ([4], []), ([], []), ([999999, 0, 1], []), ([0, 1, 5], []), ([], []), ([0, 1, 5, 14], []), ([], []), ([999999, 0, 1, 5], []), ([0, 1, 5, 25], []), ([], []), ([4], []), ([], []), ([999999, 0, 1, 5], []), ([0, 1, 5], []), ([999999], []), ([4], []), ([], [])]) (by kernel_rfl)
/-- cento/centolaw16.root -/
def c_centolaw16_root : CC :=
  .seq (.reg [cn (some 2) (.alloc 68) none [0]] [0, 2])
  (.seq (.reg [co (some 6) (.move (.tmp 0)) none,
      co (some 7) (.call { callee := (.value (.func 13)), args := #[(.tmp 6)], argTypes := #[22] }) none,
      co (some 8) (.call { callee := (.value (.func 40)), args := #[(.tmp 7)], argTypes := #[24] }) none,
      co (some 5) (.move (.tmp 8)) none,
      co (some 9) (.extract (.tmp 5) 0) none,
      co (some 10) (.extract (.tmp 5) 1) none,
      cn (some 3) (.alloc 68) none [1],
      co none (.store 68 (.tmp 3) (.tmp 9)) none,
      co (some 4) (.assign (.tmp 10)) none] [2, 3])
  (.seq (.reg [co (some 11) (.load 68 (.tmp 3)) none,
      co none (.store 68 (.tmp 2) (.tmp 11)) none] [2])
  (.ret)))
theorem t_centolaw16_root : Txt Try.prog 34 12 [(.cell 2 68)] c_centolaw16_root := txt_of (code := Try.f34.body.getD .ret) mixed (by kernel_rfl) Try.func34 (by kernel_rfl) Try.ntmps34 (by kernel_rfl) (ls := [([0, 2], [(0, [0])]), ([], []), ([2, 3], [(6, [1])]), ([], []), ([2], []), ([], [])]) (by kernel_rfl)
/-- cento/centolaw16.awake -/
def c_centolaw16_awake : CC :=
  .seq (.reg [co (some 0) (.assign (.const (.bool false))) none] [])
  (.seq (.reg [co (some 4) (.call { callee := (.value (.func 32)), args := #[], argTypes := #[] }) none,
      co (some 1) (.assign (.tmp 4)) none] [1])
  (.seq (.reg [co (some 6) (.move (.tmp 1)) none,
      co (some 7) (.buildSlice 23 2 #[(0, (.const (.int .u64 111669149697))), (1, (.const (.int .u64 329477)))]) none,
      co (some 8) (.buildSlice 22 1 #[(0, (.tmp 7))]) none,
      co (some 9) (.call { callee := (.value (.func 34)), args := #[(.tmp 8)], argTypes := #[22] }) none,
      co (some 10) (.call { callee := (.value (.func 33)), args := #[(.tmp 6), (.tmp 9)], argTypes := #[61, 68] }) none,
      co (some 5) (.move (.tmp 10)) none,
      co (some 11) (.extract (.tmp 5) 0) none,
      co (some 12) (.extract (.tmp 5) 1) none,
      co (some 2) (.assign (.tmp 11)) none,
      co (some 3) (.assign (.tmp 12)) none] [1, 2, 3])
  (.seq (.reg [co (some 13) (.move (.tmp 3)) none,
      co (some 14) (.binOp .eql 64 (.tmp 13) (.const (.int .i64 0)) 64) none,
      co (some 15) (.move (.tmp 14)) none,
      co (some 16) (.move (.tmp 2)) (some (15, true)),
      co (some 17) (.buildSlice 63 3 #[(0, (.const (.int .i64 0))), (1, (.const (.int .i64 1))), (2, (.const (.int .i64 0)))]) (some (15, true)),
      co (some 18) (.call { callee := (.value (.func 36)), args := #[(.tmp 16), (.tmp 17)], argTypes := #[63, 63] }) (some (15, true)),
      co (some 19) (.pick (.tmp 15) (.tmp 18) (.const (.bool false))) none,
      co (some 20) (.move (.tmp 19)) none,
      co (some 21) (.move (.tmp 1)) (some (20, true)),
      co (some 22) (.call { callee := (.value (.func 37)), args := #[(.tmp 21)], argTypes := #[61] }) (some (20, true)),
      co (some 23) (.binOp .eql 3 (.tmp 22) (.const (.int .i64 2)) 3) (some (20, true)),
      co (some 24) (.pick (.tmp 20) (.tmp 23) (.const (.bool false))) none,
      co (some 0) (.assign (.tmp 24)) none] [0])
  (.ret))))
theorem t_centolaw16_awake : Txt Try.prog 29 25 [(.tmp 0)] c_centolaw16_awake := txt_of (code := Try.f29.body.getD .ret) mixed (by kernel_rfl) Try.func29 (by kernel_rfl) Try.ntmps29 (by kernel_rfl) (ls := [([], []), ([], []), ([1], []), ([], []), ([1, 2, 3], []), ([], []), ([0], []), ([], [])]) (by kernel_rfl)
end Go.Proofs.Ytehcobkphobjiaa

/-
  The functions' text as data, and the facts on the types that they use: written by a program of ours (gen2.py) off the translation.
-/
namespace Go.Proofs.Ytehcobkphobjiaa
set_option linter.unusedVariables false
set_option linter.unusedSimpArgs false
set_option maxRecDepth 20000
open Go Go.G Go.Proofs
@[simp] theorem fieldOffT_140_0 : fieldOffT Try.prog 140 0 = some 0 := by kernel_rfl
@[simp] theorem fieldOffT_140_1 : fieldOffT Try.prog 140 1 = some 1 := by kernel_rfl
@[simp] theorem buildA_140 (ps : List (Nat × A)) : buildA Try.prog 140 ps = (fillA (fun i => ([(0, 1), (1, 1)] : List (Nat × Nat))[i]?) [A.sl true [], A.v (Value.int IntKind.i64 0)] ps).map A.agg := by kernel_rfl
@[simp] theorem fieldT_53_1 : fieldT Try.prog 53 1 = some (23, 1) := by kernel_rfl
@[simp] theorem fieldT_53_2 : fieldT Try.prog 53 2 = some (51, 2) := by kernel_rfl
def l1_centoref01_Put : CC :=
  .seq (.seq (.reg [co (some 34) (.move (.tmp 10)) none,
        co (some 35) (.move (.tmp 8)) none,
        co (some 36) (.move (.tmp 6)) none,
        co (some 37) (.binOp .mul 3 (.tmp 35) (.tmp 36) 3) none,
        co (some 38) (.binOp .rem 3 (.tmp 37) (.const (.int .i64 64)) 3) none,
        co (some 39) (.binOp .lss 3 (.tmp 34) (.tmp 38) 3) none] [0, 1, 6, 7, 8, 9, 10, 39])
    (.cond (.tmp 39)
      (.skip)
      (.exit 2)))
  (.keep [0, 1, 6, 7, 8, 9, 10] (.seq (.block 3
      (.reg [co (some 42) (.move (.tmp 9)) none,
        co (some 43) (.binOp .mul 26 (.tmp 42) (.const (.int .u64 2)) 26) none,
        co (some 9) (.assign (.tmp 43)) none] [0, 1, 6, 7, 8, 9, 10]))
  (.reg [co (some 40) (.move (.tmp 10)) none,
    co (some 41) (.binOp .add 3 (.tmp 40) (.const (.int .i64 1)) 3) none,
    co (some 10) (.assign (.tmp 41)) none] [0, 1, 6, 7, 8, 9, 10])))
def l2_centoref01_Put : CC :=
  .seq (.seq (.reg [co (some 20) (.move (.tmp 8)) none,
        co (some 21) (.move (.tmp 1)) none,
        co (some 22) (.call { callee := (.builtin .len), args := #[(.tmp 21)], argTypes := #[23] }) none,
        co (some 23) (.binOp .lss 3 (.tmp 20) (.tmp 22) 3) none] [0, 1, 6, 7, 8, 23])
    (.cond (.tmp 23)
      (.skip)
      (.exit 0)))
  (.keep [0, 1, 6, 7, 8] (.seq (.block 1
      (.seq (.reg [co (some 26) (.move (.tmp 1)) none,
          co (some 27) (.move (.tmp 8)) none,
          co (some 28) (.indexAddr 23 (.tmp 26) (.tmp 27)) none,
          co (some 29) (.load 26 (.tmp 28)) none,
          co (some 9) (.assign (.tmp 29)) none] [0, 1, 6, 7, 8, 9])
      (.seq (.seq (.reg [co (some 30) (.move (.tmp 0)) none,
            co (some 31) (.move (.tmp 9)) none,
            co (some 32) (.call { callee := (.value (.func 107)), args := #[(.tmp 30), (.tmp 31)], argTypes := #[3, 26] }) none,
            co (some 33) (.unOp .not 4 (.tmp 32)) none] [0, 1, 6, 7, 8, 9, 33])
        (.cond (.tmp 33)
          (.seq (.reg [co (some 4) (.assign (.const (.slice none 0 0))) none,
              co (some 5) (.assign (.const (.bool false))) none] [4, 5])
          (.ret))
          (.skip)))
      (.keep [0, 1, 6, 7, 8, 9] (.seq (.seq (.reg [co (some 10) (.assign (.const (.int .i64 0))) none] [0, 1, 6, 7, 8, 9, 10])
        (.block 2
          (.loop l1_centoref01_Put)))
      (.keep [0, 1, 6, 7, 8, 9] (.seq (.reg [co (some 44) (.move (.tmp 6)) none,
          co (some 45) (.binOp .gtr 3 (.tmp 44) (.const (.int .i64 0)) 3) none] [0, 1, 6, 7, 8, 9, 45])
      (.cond (.tmp 45)
        (.reg [co (some 46) (.move (.tmp 7)) none,
          co (some 47) (.move (.tmp 8)) none,
          co (some 48) (.move (.tmp 6)) none,
          co (some 49) (.binOp .mul 3 (.tmp 47) (.tmp 48) 3) none,
          co (some 50) (.binOp .quo 3 (.tmp 49) (.const (.int .i64 64)) 3) none,
          co (some 51) (.move (.tmp 7)) none,
          co (some 52) (.move (.tmp 8)) none,
          co (some 53) (.move (.tmp 6)) none,
          co (some 54) (.binOp .mul 3 (.tmp 52) (.tmp 53) 3) none,
          co (some 55) (.binOp .quo 3 (.tmp 54) (.const (.int .i64 64)) 3) none,
          co (some 56) (.indexAddr 23 (.tmp 51) (.tmp 55)) none,
          co (some 57) (.load 26 (.tmp 56)) none,
          co (some 58) (.move (.tmp 9)) none,
          co (some 59) (.binOp .add 26 (.tmp 57) (.tmp 58) 26) none,
          co (some 60) (.indexAddr 23 (.tmp 46) (.tmp 50)) none,
          co none (.store 26 (.tmp 60) (.tmp 59)) none] [0, 1, 6, 7, 8])
        (.skip)))))))))
  (.keep [0, 1, 6, 7, 8] (.reg [co (some 24) (.move (.tmp 8)) none,
    co (some 25) (.binOp .add 3 (.tmp 24) (.const (.int .i64 1)) 3) none,
    co (some 8) (.assign (.tmp 25)) none] [0, 1, 6, 7, 8]))))
/-- cento/centoref01.Put -/
def c_centoref01_Put : CC :=
  .seq (.reg [co (some 4) (.assign (.const (.slice none 0 0))) none,
      co (some 5) (.assign (.const (.bool false))) none] [0, 1])
  (.seq (.reg [co (some 11) (.move (.tmp 0)) none,
      co (some 12) (.call { callee := (.value (.func 160)), args := #[(.tmp 11)], argTypes := #[3] }) none,
      co (some 6) (.assign (.tmp 12)) none] [0, 1, 6])
  (.seq (.seq (.reg [co (some 13) (.move (.tmp 6)) none,
        co (some 14) (.binOp .lss 3 (.tmp 13) (.const (.int .i64 0)) 3) none] [0, 1, 6, 14])
    (.cond (.tmp 14)
      (.seq (.reg [co (some 4) (.assign (.const (.slice none 0 0))) none,
          co (some 5) (.assign (.const (.bool false))) none] [4, 5])
      (.ret))
      (.skip)))
  (.keep [0, 1, 6] (.seq (.reg [co (some 15) (.move (.tmp 0)) none,
      co (some 16) (.move (.tmp 1)) none,
      co (some 17) (.call { callee := (.builtin .len), args := #[(.tmp 16)], argTypes := #[23] }) none,
      co (some 18) (.call { callee := (.value (.func 131)), args := #[(.tmp 15), (.tmp 17)], argTypes := #[3, 3] }) none,
      cn (some 19) (.makeSlice 23 (.tmp 18) (.tmp 18)) none [0],
      co (some 7) (.assign (.tmp 19)) none] [0, 1, 6, 7])
  (.seq (.seq (.reg [co (some 8) (.assign (.const (.int .i64 0))) none] [0, 1, 6, 7, 8])
    (.block 0
      (.loop l2_centoref01_Put)))
  (.keep [7] (.seq (.reg [co (some 61) (.move (.tmp 7)) none,
      co (some 4) (.assign (.tmp 61)) none,
      co (some 5) (.assign (.const (.bool true))) none] [4, 5])
  (.ret))))))))
theorem t_centoref01_Put : Txt Try.prog 113 62 [(.tmp 4), (.tmp 5)] c_centoref01_Put := txt_of (code := Try.f113.body.getD .ret) mixed (by kernel_rfl) Try.func113 (by kernel_rfl) Try.ntmps113 (by kernel_rfl) (ls := [([0, 1], []), ([], []), ([0, 1, 6], []), ([], []), ([0, 1, 6, 14], []), ([], []), ([4, 5], []), ([], []), ([999999, 0, 1, 6], []), ([0, 1, 6, 7], [(4, [0])]), ([], []), ([0, 1, 6, 7, 8], []), ([], []), ([0, 1, 6, 7, 8, 23], []), ([], []), ([999999, 0, 1, 6, 7, 8], []), ([0, 1, 6, 7, 8, 9], []), ([], []), ([0, 1, 6, 7, 8, 9, 33], []), ([], []), ([4, 5], []), ([], []), ([999999, 0, 1, 6, 7, 8, 9], []), ([0, 1, 6, 7, 8, 9, 10], []), ([], []), ([0, 1, 6, 7, 8, 9, 10, 39], []), ([], []), ([999999, 0, 1, 6, 7, 8, 9, 10], []), ([0, 1, 6, 7, 8, 9, 10], []), ([], []), ([0, 1, 6, 7, 8, 9, 10], []), ([999999, 0, 1, 6, 7, 8, 9], []), ([0, 1, 6, 7, 8, 9, 45], []), ([], []), ([0, 1, 6, 7, 8], []), ([999999, 0, 1, 6, 7, 8], []), ([0, 1, 6, 7, 8], []), ([999999, 7], []), ([4, 5], []), ([], [])]) (by kernel_rfl)
end Go.Proofs.Ytehcobkphobjiaa

/-
  The functions' text as data, and the facts on the types that they use: written by a program of ours (gen2.py) off the translation.
-/
namespace Go.Proofs.Ytehcobkphobjiaa
set_option linter.unusedVariables false
set_option linter.unusedSimpArgs false
set_option maxRecDepth 20000
open Go Go.G Go.Proofs
@[simp] theorem und_36 : Try.prog.underlying 36 = some (.slice 41) := by kernel_rfl
@[simp] theorem szT_41 : szT Try.prog 41 = some 5 := by kernel_rfl
@[simp] theorem aggT_41 : aggT Try.prog 41 = some true := by kernel_rfl
@[simp] theorem zeroT_41 : zeroT Try.prog 41 = some (Value.agg #[Value.int IntKind.i64 0, Value.int IntKind.i64 0, Value.int IntKind.i64 0, Value.int IntKind.i64 0, Value.int IntKind.u64 0]) := by kernel_rfl
@[simp] theorem bytesT_41 : bytesT Try.prog 41 = some 40 := by kernel_rfl
@[simp] theorem fieldOffT_41_0 : fieldOffT Try.prog 41 0 = some 0 := by kernel_rfl
@[simp] theorem fieldOffT_41_1 : fieldOffT Try.prog 41 1 = some 1 := by kernel_rfl
@[simp] theorem fieldOffT_41_2 : fieldOffT Try.prog 41 2 = some 2 := by kernel_rfl
@[simp] theorem fieldOffT_41_3 : fieldOffT Try.prog 41 3 = some 3 := by kernel_rfl
@[simp] theorem fieldOffT_41_4 : fieldOffT Try.prog 41 4 = some 4 := by kernel_rfl
@[simp] theorem fieldOffT_44_0 : fieldOffT Try.prog 44 0 = some 0 := by kernel_rfl
@[simp] theorem fieldOffT_44_1 : fieldOffT Try.prog 44 1 = some 1 := by kernel_rfl
@[simp] theorem fieldOffT_44_2 : fieldOffT Try.prog 44 2 = some 2 := by kernel_rfl
@[simp] theorem fieldOffT_44_3 : fieldOffT Try.prog 44 3 = some 3 := by kernel_rfl
@[simp] theorem fieldOffT_113_1 : fieldOffT Try.prog 113 1 = some 1 := by kernel_rfl
@[simp] theorem fieldOffT_113_2 : fieldOffT Try.prog 113 2 = some 2 := by kernel_rfl
@[simp] theorem fieldOffT_113_3 : fieldOffT Try.prog 113 3 = some 3 := by kernel_rfl
@[simp] theorem buildA_44 (ps : List (Nat × A)) : buildA Try.prog 44 ps = (fillA (fun i => ([(0, 1), (1, 1), (2, 1), (3, 1)] : List (Nat × Nat))[i]?) [A.sl true [], A.v (Value.int IntKind.i64 0), A.v (Value.int IntKind.i64 0), A.v (Value.int IntKind.i64 0)] ps).map A.agg := by kernel_rfl
def k1_centoref05_New : CC :=
  .seq (.seq (.reg [co (some 9) (.move (.tmp 1)) none,
        co (some 10) (.binOp .gtr 3 (.tmp 9) (.const (.int .i64 131072)) 3) none] [0, 1, 10])
    (.cond (.tmp 10)
      (.reg [co (some 1) (.assign (.const (.int .i64 131072))) none] [0, 1])
      (.skip)))
  (.keep [0, 1] (.seq (.reg [co (some 11) (.move (.tmp 0)) none,
      co (some 12) (.move (.tmp 1)) none,
      co (some 13) (.build 44 #[(1, (.tmp 11)), (2, (.tmp 12))]) none,
      cn (some 14) (.box 44 (.tmp 13)) none [0],
      co (some 4) (.assign (.tmp 14)) none] [4])
  (.ret)))
def k2_centoref05_New : CC :=
  .seq (.seq (.reg [co (some 7) (.move (.tmp 1)) none,
        co (some 8) (.binOp .lss 3 (.tmp 7) (.const (.int .i64 0)) 3) none] [0, 1, 8])
    (.cond (.tmp 8)
      (.reg [co (some 1) (.assign (.const (.int .i64 0))) none] [0, 1])
      (.skip)))
  (.keep [0, 1] k1_centoref05_New)
/-- cento/centoref05.New -/
def c_centoref05_New : CC :=
  .seq (.reg [co (some 4) (.assign (.const (.pointer none))) none] [0, 1])
  (.seq (.seq (.reg [co (some 5) (.move (.tmp 0)) none,
        co (some 6) (.binOp .lss 3 (.tmp 5) (.const (.int .i64 1)) 3) none] [0, 1, 6])
    (.cond (.tmp 6)
      (.reg [co (some 0) (.assign (.const (.int .i64 1))) none] [0, 1])
      (.skip)))
  (.keep [0, 1] k2_centoref05_New))
theorem t_centoref05_New : Txt Try.prog 21 15 [(.tmp 4)] c_centoref05_New := txt_of (code := Try.f21.body.getD .ret) mixed (by kernel_rfl) Try.func21 (by kernel_rfl) Try.ntmps21 (by kernel_rfl) (ls := [([0, 1], []), ([], []), ([0, 1, 6], []), ([], []), ([0, 1], []), ([999999, 0, 1], []), ([0, 1, 8], []), ([], []), ([0, 1], []), ([999999, 0, 1], []), ([0, 1, 10], []), ([], []), ([0, 1], []), ([999999, 0, 1], []), ([4], [(3, [0])]), ([], [])]) (by kernel_rfl)
/-- (*cento/centoref05.Arena).Long -/
def c_centoref05_Arena_Long : CC :=
  .seq (.reg [co (some 4) (.assign (.const (.int .i64 0))) none] [0, 1])
  (.seq (.seq (.reg [co (some 5) (.move (.tmp 1)) none,
        co (some 6) (.binOp .lss 3 (.tmp 5) (.const (.int .i64 0)) 3) none,
        co (some 7) (.move (.tmp 6)) none,
        co (some 8) (.move (.tmp 1)) (some (7, false)),
        co (some 9) (.move (.tmp 0)) (some (7, false)),
        co (some 10) (.nilCheck (.tmp 9)) (some (7, false)),
        co (some 11) (.fieldAddr 44 (.tmp 10) 0) (some (7, false)),
        co (some 12) (.load 22 (.tmp 11)) (some (7, false)),
        co (some 13) (.call { callee := (.builtin .len), args := #[(.tmp 12)], argTypes := #[22] }) (some (7, false)),
        co (some 14) (.binOp .geq 3 (.tmp 8) (.tmp 13) 3) (some (7, false)),
        co (some 15) (.pick (.tmp 7) (.const (.bool true)) (.tmp 14)) none] [0, 1, 15])
    (.cond (.tmp 15)
      (.seq (.reg [co (some 4) (.assign (.const (.int .i64 (-1)))) none] [4])
      (.ret))
      (.skip)))
  (.keep [0, 1] (.seq (.reg [co (some 16) (.move (.tmp 0)) none,
      co (some 17) (.nilCheck (.tmp 16)) none,
      co (some 18) (.fieldAddr 44 (.tmp 17) 0) none,
      co (some 19) (.load 22 (.tmp 18)) none,
      co (some 20) (.move (.tmp 1)) none,
      co (some 21) (.indexAddr 22 (.tmp 19) (.tmp 20)) none,
      co (some 22) (.load 23 (.tmp 21)) none,
      co (some 23) (.call { callee := (.builtin .len), args := #[(.tmp 22)], argTypes := #[23] }) none,
      co (some 4) (.assign (.tmp 23)) none] [4])
  (.ret))))
theorem t_centoref05_Arena_Long : Txt Try.prog 67 24 [(.tmp 4)] c_centoref05_Arena_Long := txt_of (code := Try.f67.body.getD .ret) mixed (by kernel_rfl) Try.func67 (by kernel_rfl) Try.ntmps67 (by kernel_rfl) (ls := [([0, 1], []), ([], []), ([0, 1, 15], []), ([], []), ([4], []), ([], []), ([999999, 0, 1], []), ([4], []), ([], [])]) (by kernel_rfl)
def l1_centoref05_Arena_add : CC :=
  .seq (.seq (.reg [co (some 17) (.move (.tmp 8)) none,
        co (some 18) (.move (.tmp 2)) none,
        co (some 19) (.binOp .lss 3 (.tmp 17) (.tmp 18) 3) none] [0, 1, 2, 7, 8, 19])
    (.cond (.tmp 19)
      (.skip)
      (.exit 0)))
  (.keep [0, 1, 2, 7, 8] (.seq (.block 1
      (.reg [co (some 22) (.move (.tmp 0)) none,
        co (some 23) (.nilCheck (.tmp 22)) none,
        co (some 24) (.fieldAddr 44 (.tmp 23) 0) none,
        ⟨some 25, (.load 22 (.tmp 24)), none, [], 3, [], true⟩,
        co (some 26) (.move (.tmp 1)) none,
        co (some 27) (.move (.tmp 0)) none,
        co (some 28) (.nilCheck (.tmp 27)) none,
        co (some 29) (.fieldAddr 44 (.tmp 28) 0) none,
        ⟨some 30, (.load 22 (.tmp 29)), none, [], 8, [], true⟩,
        co (some 31) (.move (.tmp 1)) none,
        co (some 32) (.indexAddr 22 (.tmp 30) (.tmp 31)) none,
        ⟨some 33, (.load 23 (.tmp 32)), none, [], 11, [], true⟩,
        ⟨some 34, (.buildSlice 23 1 #[(0, (.const (.int .u64 0)))]), none, [], 12, [3, 8, 11], false⟩,
        ⟨some 35, (.call { callee := (.builtin .append), args := #[(.tmp 33), (.tmp 34)], argTypes := #[23, 23] }), none, [1], 13, [3], false⟩,
        co (some 36) (.indexAddr 22 (.tmp 25) (.tmp 26)) none,
        co none (.store 23 (.tmp 36) (.tmp 35)) none] [0, 1, 2, 7, 8]))
  (.reg [co (some 20) (.move (.tmp 8)) none,
    co (some 21) (.binOp .add 3 (.tmp 20) (.const (.int .i64 1)) 3) none,
    co (some 8) (.assign (.tmp 21)) none] [0, 1, 2, 7, 8])))
/-- (*cento/centoref05.Arena).add -/
def c_centoref05_Arena_add : CC :=
  .seq (.reg [co (some 6) (.assign (.const (.int .i64 0))) none] [0, 1, 2])
  (.seq (.reg [co (some 9) (.move (.tmp 0)) none,
      co (some 10) (.nilCheck (.tmp 9)) none,
      co (some 11) (.fieldAddr 44 (.tmp 10) 0) none,
      co (some 12) (.load 22 (.tmp 11)) none,
      co (some 13) (.move (.tmp 1)) none,
      co (some 14) (.indexAddr 22 (.tmp 12) (.tmp 13)) none,
      co (some 15) (.load 23 (.tmp 14)) none,
      co (some 16) (.call { callee := (.builtin .len), args := #[(.tmp 15)], argTypes := #[23] }) none,
      co (some 7) (.assign (.tmp 16)) none] [0, 1, 2, 7])
  (.seq (.seq (.reg [co (some 8) (.assign (.const (.int .i64 0))) none] [0, 1, 2, 7, 8])
    (.block 0
      (.loop l1_centoref05_Arena_add)))
  (.keep [0, 2, 7] (.seq (.reg [co (some 37) (.move (.tmp 0)) none,
      co (some 38) (.move (.tmp 0)) none,
      co (some 39) (.nilCheck (.tmp 38)) none,
      co (some 40) (.fieldAddr 44 (.tmp 39) 3) none,
      co (some 41) (.load 3 (.tmp 40)) none,
      co (some 42) (.move (.tmp 2)) none,
      co (some 43) (.binOp .add 3 (.tmp 41) (.tmp 42) 3) none,
      co (some 44) (.nilCheck (.tmp 37)) none,
      co (some 45) (.fieldAddr 44 (.tmp 44) 3) none,
      co none (.store 3 (.tmp 45) (.tmp 43)) none] [7])
  (.seq (.reg [co (some 46) (.move (.tmp 7)) none,
      co (some 6) (.assign (.tmp 46)) none] [6])
  (.ret))))))
theorem t_centoref05_Arena_add : Txt Try.prog 106 47 [(.tmp 6)] c_centoref05_Arena_add := txt_of (code := Try.f106.body.getD .ret) mixed (by kernel_rfl) Try.func106 (by kernel_rfl) Try.ntmps106 (by kernel_rfl) (ls := [([0, 1, 2], []), ([], []), ([0, 1, 2, 7], []), ([], []), ([0, 1, 2, 7, 8], []), ([], []), ([0, 1, 2, 7, 8, 19], []), ([], []), ([999999, 0, 1, 2, 7, 8], []), ([0, 1, 2, 7, 8], [(13, [1])]), ([], []), ([0, 1, 2, 7, 8], []), ([999999, 0, 2, 7], []), ([7], []), ([], []), ([6], []), ([], [])]) (by kernel_rfl)
/-- (*cento/centoref05.Arena).In -/
def c_centoref05_Arena_In : CC :=
  .seq (.reg [co (some 6) (.assign (.const (.int .i64 0))) none] [0, 1, 2])
  (.seq (.seq (.reg [co (some 7) (.move (.tmp 0)) none,
        co (some 8) (.move (.tmp 1)) none,
        co (some 9) (.call { callee := (.value (.func 67)), args := #[(.tmp 7), (.tmp 8)], argTypes := #[38, 3] }) none,
        co (some 10) (.binOp .lss 3 (.tmp 9) (.const (.int .i64 0)) 3) none,
        co (some 11) (.move (.tmp 10)) none,
        co (some 12) (.move (.tmp 2)) (some (11, false)),
        co (some 13) (.binOp .lss 3 (.tmp 12) (.const (.int .i64 0)) 3) (some (11, false)),
        co (some 14) (.pick (.tmp 11) (.const (.bool true)) (.tmp 13)) none,
        co (some 15) (.move (.tmp 14)) none,
        co (some 16) (.move (.tmp 2)) (some (15, false)),
        co (some 17) (.move (.tmp 0)) (some (15, false)),
        co (some 18) (.nilCheck (.tmp 17)) (some (15, false)),
        co (some 19) (.fieldAddr 44 (.tmp 18) 2) (some (15, false)),
        co (some 20) (.load 3 (.tmp 19)) (some (15, false)),
        co (some 21) (.move (.tmp 0)) (some (15, false)),
        co (some 22) (.nilCheck (.tmp 21)) (some (15, false)),
        co (some 23) (.fieldAddr 44 (.tmp 22) 3) (some (15, false)),
        co (some 24) (.load 3 (.tmp 23)) (some (15, false)),
        co (some 25) (.binOp .sub 3 (.tmp 20) (.tmp 24) 3) (some (15, false)),
        co (some 26) (.binOp .gtr 3 (.tmp 16) (.tmp 25) 3) (some (15, false)),
        co (some 27) (.pick (.tmp 15) (.const (.bool true)) (.tmp 26)) none,
        co (some 28) (.move (.tmp 27)) none,
        co (some 29) (.move (.tmp 2)) (some (28, false)),
        co (some 30) (.move (.tmp 0)) (some (28, false)),
        co (some 31) (.nilCheck (.tmp 30)) (some (28, false)),
        co (some 32) (.fieldAddr 44 (.tmp 31) 1) (some (28, false)),
        ⟨some 33, (.load 3 (.tmp 32)), (some (28, false)), [], 26, [], true⟩,
        co (some 34) (.move (.tmp 0)) (some (28, false)),
        co (some 35) (.move (.tmp 1)) (some (28, false)),
        ⟨some 36, (.call { callee := (.value (.func 67)), args := #[(.tmp 34), (.tmp 35)], argTypes := #[38, 3] }), (some (28, false)), [], 29, [26], false⟩,
        co (some 37) (.binOp .sub 3 (.tmp 33) (.tmp 36) 3) (some (28, false)),
        co (some 38) (.binOp .gtr 3 (.tmp 29) (.tmp 37) 3) (some (28, false)),
        co (some 39) (.pick (.tmp 28) (.const (.bool true)) (.tmp 38)) none] [0, 1, 2, 39])
    (.cond (.tmp 39)
      (.seq (.reg [co (some 6) (.assign (.const (.int .i64 (-1)))) none] [6])
      (.ret))
      (.skip)))
  (.keep [0, 1, 2] (.seq (.reg [co (some 40) (.move (.tmp 0)) none,
      co (some 41) (.move (.tmp 1)) none,
      co (some 42) (.move (.tmp 2)) none,
      co (some 43) (.call { callee := (.value (.func 106)), args := #[(.tmp 40), (.tmp 41), (.tmp 42)], argTypes := #[38, 3, 3] }) none,
      co (some 6) (.assign (.tmp 43)) none] [6])
  (.ret))))
theorem t_centoref05_Arena_In : Txt Try.prog 64 44 [(.tmp 6)] c_centoref05_Arena_In := txt_of (code := Try.f64.body.getD .ret) mixed (by kernel_rfl) Try.func64 (by kernel_rfl) Try.ntmps64 (by kernel_rfl) (ls := [([0, 1, 2], []), ([], []), ([0, 1, 2, 39], []), ([], []), ([6], []), ([], []), ([999999, 0, 1, 2], []), ([6], []), ([], [])]) (by kernel_rfl)
def k1_centoref05_Arena_Give : CC :=
  .seq (.reg [co (some 57) (.move (.tmp 6)) none,
      co (some 58) (.binOp .sub 3 (.tmp 57) (.const (.int .i64 1)) 3) none,
      co (some 59) (.move (.tmp 0)) none,
      co (some 60) (.move (.tmp 6)) none,
      co (some 61) (.binOp .sub 3 (.tmp 60) (.const (.int .i64 1)) 3) none,
      co (some 62) (.move (.tmp 1)) none,
      co (some 63) (.call { callee := (.value (.func 106)), args := #[(.tmp 59), (.tmp 61), (.tmp 62)], argTypes := #[38, 3, 3] }) none,
      co (some 4) (.assign (.tmp 58)) none,
      co (some 5) (.assign (.tmp 63)) none] [4, 5])
  (.ret)
/-- (*cento/centoref05.Arena).Give -/
def c_centoref05_Arena_Give : CC :=
  .seq (.reg [co (some 4) (.assign (.const (.int .i64 0))) none,
      co (some 5) (.assign (.const (.int .i64 0))) none] [0, 1])
  (.seq (.seq (.reg [co (some 7) (.move (.tmp 1)) none,
        co (some 8) (.binOp .lss 3 (.tmp 7) (.const (.int .i64 0)) 3) none,
        co (some 9) (.move (.tmp 8)) none,
        co (some 10) (.move (.tmp 1)) (some (9, false)),
        co (some 11) (.move (.tmp 0)) (some (9, false)),
        co (some 12) (.nilCheck (.tmp 11)) (some (9, false)),
        co (some 13) (.fieldAddr 44 (.tmp 12) 2) (some (9, false)),
        co (some 14) (.load 3 (.tmp 13)) (some (9, false)),
        co (some 15) (.move (.tmp 0)) (some (9, false)),
        co (some 16) (.nilCheck (.tmp 15)) (some (9, false)),
        co (some 17) (.fieldAddr 44 (.tmp 16) 3) (some (9, false)),
        co (some 18) (.load 3 (.tmp 17)) (some (9, false)),
        co (some 19) (.binOp .sub 3 (.tmp 14) (.tmp 18) 3) (some (9, false)),
        co (some 20) (.binOp .gtr 3 (.tmp 10) (.tmp 19) 3) (some (9, false)),
        co (some 21) (.pick (.tmp 9) (.const (.bool true)) (.tmp 20)) none] [0, 1, 21])
    (.cond (.tmp 21)
      (.seq (.reg [co (some 4) (.assign (.const (.int .i64 (-1)))) none,
          co (some 5) (.assign (.const (.int .i64 (-1)))) none] [4, 5])
      (.ret))
      (.skip)))
  (.keep [0, 1] (.seq (.reg [co (some 22) (.move (.tmp 0)) none,
      co (some 23) (.nilCheck (.tmp 22)) none,
      co (some 24) (.fieldAddr 44 (.tmp 23) 0) none,
      co (some 25) (.load 22 (.tmp 24)) none,
      co (some 26) (.call { callee := (.builtin .len), args := #[(.tmp 25)], argTypes := #[22] }) none,
      co (some 6) (.assign (.tmp 26)) none] [0, 1, 6])
  (.seq (.seq (.reg [co (some 27) (.move (.tmp 6)) none,
        co (some 28) (.binOp .eql 3 (.tmp 27) (.const (.int .i64 0)) 3) none,
        co (some 29) (.move (.tmp 28)) none,
        co (some 30) (.move (.tmp 1)) (some (29, false)),
        co (some 31) (.move (.tmp 0)) (some (29, false)),
        co (some 32) (.nilCheck (.tmp 31)) (some (29, false)),
        co (some 33) (.fieldAddr 44 (.tmp 32) 1) (some (29, false)),
        ⟨some 34, (.load 3 (.tmp 33)), (some (29, false)), [], 7, [], true⟩,
        co (some 35) (.move (.tmp 0)) (some (29, false)),
        co (some 36) (.move (.tmp 6)) (some (29, false)),
        co (some 37) (.binOp .sub 3 (.tmp 36) (.const (.int .i64 1)) 3) (some (29, false)),
        ⟨some 38, (.call { callee := (.value (.func 67)), args := #[(.tmp 35), (.tmp 37)], argTypes := #[38, 3] }), (some (29, false)), [], 11, [7], false⟩,
        co (some 39) (.binOp .sub 3 (.tmp 34) (.tmp 38) 3) (some (29, false)),
        co (some 40) (.binOp .gtr 3 (.tmp 30) (.tmp 39) 3) (some (29, false)),
        co (some 41) (.move (.tmp 40)) (some (29, false)),
        co (some 42) (.move (.tmp 6)) (some (41, true)),
        co (some 43) (.binOp .lss 3 (.tmp 42) (.const (.int .i64 16)) 3) (some (41, true)),
        co (some 44) (.pick (.tmp 41) (.tmp 43) (.const (.bool false))) (some (29, false)),
        co (some 45) (.pick (.tmp 29) (.const (.bool true)) (.tmp 44)) none] [0, 1, 6, 45])
    (.cond (.tmp 45)
      (.seq (.reg [co (some 46) (.move (.tmp 0)) none,
          co (some 47) (.move (.tmp 0)) none,
          co (some 48) (.nilCheck (.tmp 47)) none,
          co (some 49) (.fieldAddr 44 (.tmp 48) 0) none,
          co (some 50) (.load 22 (.tmp 49)) none,
          co (some 51) (.buildSlice 22 1 #[(0, (.const (.slice none 0 0)))]) none,
          cn (some 52) (.call { callee := (.builtin .append), args := #[(.tmp 50), (.tmp 51)], argTypes := #[22, 22] }) none [1],
          co (some 53) (.nilCheck (.tmp 46)) none,
          co (some 54) (.fieldAddr 44 (.tmp 53) 0) none,
          co none (.store 22 (.tmp 54) (.tmp 52)) none] [0, 1, 6])
      (.reg [co (some 55) (.move (.tmp 6)) none,
        co (some 56) (.binOp .add 3 (.tmp 55) (.const (.int .i64 1)) 3) none,
        co (some 6) (.assign (.tmp 56)) none] [0, 1, 6]))
      (.skip)))
  (.keep [0, 1, 6] (.stop k1_centoref05_Arena_Give))))))
theorem t_centoref05_Arena_Give : Txt Try.prog 63 64 [(.tmp 4), (.tmp 5)] c_centoref05_Arena_Give := txt_of (code := Try.f63.body.getD .ret) mixed (by kernel_rfl) Try.func63 (by kernel_rfl) Try.ntmps63 (by kernel_rfl) (ls := [([0, 1], []), ([], []), ([0, 1, 21], []), ([], []), ([4, 5], []), ([], []), ([999999, 0, 1], []), ([0, 1, 6], []), ([], []), ([0, 1, 6, 45], []), ([], []), ([0, 1, 6], [(6, [1])]), ([], []), ([0, 1, 6], []), ([999997, 0, 1, 6], []), ([4, 5], []), ([], [])]) (by kernel_rfl)
end Go.Proofs.Ytehcobkphobjiaa

/-
  Chapter 5's functions: arenas out of which words are given.
-/
namespace Go.Proofs.Ytehcobkphobjiaa
set_option linter.unusedVariables false
set_option linter.unusedSimpArgs false
open Go Go.G Go.Proofs
/-- An arena: its segments, each with its row's version; the versions of its cells and of the row of segments; its numbers. -/
structure Ar where
  l : List (Nat × List Int)
  u : Nat
  ur : Nat
  size : Int
  most : Int
  used : Int
def rowS (r : Nat) (l : List (Nat × List Int)) : List A := l.mapIdx fun i e => .osl [r, 0, i] e.1 1 0 e.2.length
/-- Its objects. -/
def arF (r : Nat) (S : Ar) : Nm → VOb
  | [] => ⟨S.u, .cells [.osl [r, 0] S.ur 1 0 S.l.length, iv S.size, iv S.most, iv S.used]⟩
  | [0] => ⟨S.ur, .arr 1 (rowS r S.l)⟩
  | [0, i] => match S.l[i]? with
    | some e => ⟨e.1, .arr 1 (e.2.map uv)⟩
    | none => ⟨0, .none⟩
  | _ => ⟨0, .none⟩
@[simp] theorem arF_nil {r : Nat} {S : Ar} : arF r S [] = ⟨S.u, .cells [.osl [r, 0] S.ur 1 0 S.l.length, iv S.size, iv S.most, iv S.used]⟩ := rfl
@[simp] theorem arF_row {r : Nat} {S : Ar} : arF r S [0] = ⟨S.ur, .arr 1 (rowS r S.l)⟩ := rfl
@[simp] theorem arF_seg {r i : Nat} {S : Ar} : arF r S [0, i] = match S.l[i]? with
    | some e => ⟨e.1, .arr 1 (e.2.map uv)⟩
    | none => ⟨0, .none⟩ := rfl
@[simp] theorem rowS_length {r : Nat} {l : List (Nat × List Int)} : (rowS r l).length = l.length := by simp [rowS]
@[simp] theorem rowS_get? {r i : Nat} {l : List (Nat × List Int)} : (rowS r l)[i]? = (l[i]?).map fun e => .osl [r, 0, i] e.1 1 0 e.2.length := by simp [rowS]
@[simp] theorem rowS_get {r i : Nat} {l : List (Nat × List Int)} (h : i < (rowS r l).length) : (rowS r l)[i] = .osl [r, 0, i] (l[i]'(by simpa using h)).1 1 0 (l[i]'(by simpa using h)).2.length := by simp [rowS]
theorem rowS_modify {r k : Nat} {l : List (Nat × List Int)} {f : Nat × List Int → Nat × List Int} (h : k < l.length) : rowS r (l.modify k f) = (rowS r l).set k (.osl [r, 0, k] (f l[k]).1 1 0 (f l[k]).2.length) := by
  apply List.ext_getElem
  · simp
  · intro i h1 h2
    simp only [rowS_get, List.getElem_set, List.getElem_modify]
    by_cases e : k = i
    · subst e; simp
    · simp [e]
/-- But for cells and row, segment by segment. -/
theorem arF_but {r : Nat} {S S' : Ar} {p : Nm} (h1 : p ≠ []) (h2 : p ≠ [0]) (h : ∀ j, p = [0, j] → S.l[j]? = S'.l[j]?) : arF r S p = arF r S' p := by
  match p, h1, h2, h with
  | [], h1, _, _ => exact absurd rfl h1
  | [0], _, h2, _ => exact absurd rfl h2
  | [0, j], _, _, h => simp [h j rfl]
  | (a + 1) :: q, _, _, _ => rfl
  | 0 :: a :: b :: q, _, _, _ => rfl
theorem flat_ones : ∀ {l : List A}, (∀ x, x ∈ l → x.cells = [x]) → l.flatMap A.cells = l
  | [], _ => rfl
  | x :: l, h => by rw [List.flatMap_cons, h x (by simp), flat_ones fun y hy => h y (by simp [hy])]; rfl
theorem frzL_intro {H : Hp} : ∀ {l l' : List A}, l.length = l'.length → (∀ (k : Nat) (a a' : A), l[k]? = some a → l'[k]? = some a' → Frz H a a') → FrzL H l l'
  | [], [], _, _ => trivial
  | a :: l, a' :: l', h, k => ⟨k 0 a a' rfl rfl, frzL_intro (by simpa using h) fun i x x' hx hx' => k (i + 1) x x' (by simpa using hx) (by simpa using hx')⟩
/-- As it is read. -/
def Ar.w (S : Ar) : List (List Int) := S.l.map Prod.snd
abbrev Ar.a (S : Ar) : A := arX S.w S.size S.most S.used
theorem frz_ar {r : Nat} {S : Ar} {H : Hp} : Frz (ov r (arF r S) H) (.pob [r] S.u 0) S.a := by
  refine frz_pob (cs := [.osl [r, 0] S.ur 1 0 S.l.length, iv S.size, iv S.most, iv S.used]) (by simp) ?_ (by simp)
  simp
  refine ⟨?_, frz_bare rfl, frz_bare rfl, frz_bare rfl⟩
  have := frz_osl' (H := ov r (arF r S) H) (o := [r, 0]) (u := S.ur) (off := 0) (len := S.l.length) (sz := 1) (xs := rowS r S.l) (ys := S.w.map ws) (by simp) (by simp) (by simp [Ar.w]) (by simp) (by simp [A.ones]) ?_
  · exact this
  · have e1 : List.flatMap A.cells (List.take S.l.length (List.drop 0 (rowS r S.l))) = rowS r S.l := by
      rw [List.drop_zero, List.take_of_length_le (by simp)]
      exact flat_ones fun x hx => by
        obtain ⟨i, hi, rfl⟩ := List.mem_mapIdx.1 hx
        rfl
    have e2 : List.flatMap A.cells (List.map ws S.w) = List.map ws S.w := flat_ones fun x hx => by
      obtain ⟨i, hi, rfl⟩ := List.mem_map.1 hx
      rfl
    rw [e1, e2]
    refine frzL_intro (by simp [Ar.w]) fun k a a' ha ha' => ?_
    simp at ha ha'
    obtain ⟨p, q, hk, rfl⟩ := ha
    obtain ⟨g, hg, rfl⟩ := ha'
    simp [Ar.w, hk] at hg
    subst hg
    have := frz_osl (H := ov r (arF r S) H) (o := [r, 0, k]) (u := p) (off := 0) (len := q.length) (sz := 1) (xs := q.map uv) (by simp [hk]) (by simp) (by simp [List.take_of_length_le])
    simpa [List.take_of_length_le] using this
end Go.Proofs.Ytehcobkphobjiaa

/-
  Chapter 5: calls that turn an arena.
-/
namespace Go.Proofs.Ytehcobkphobjiaa
set_option linter.unusedVariables false
set_option linter.unusedSimpArgs false
open Go Go.G Go.Proofs
theorem rowS_ren {g : Nm → Nm} {δ : Nm → Nat} {r r' : Nat} (hg : ∀ p, g (r :: p) = r' :: p) (hd : ∀ p, δ (r :: p) = 0) (l : List (Nat × List Int)) : A.renL g δ (rowS r l) = rowS r' l := by
  rw [renL_map]
  apply List.ext_getElem
  · simp
  · intro i h1 h2
    simp [A.ren, hg, hd]
theorem arF_ren {g : Nm → Nm} {δ : Nm → Nat} {r r' : Nat} (hg : ∀ p, g (r :: p) = r' :: p) (hd : ∀ p, δ (r :: p) = 0) (S : Ar) (p : Nm) : (arF r S p).ren g δ 0 = arF r' S p := by
  match p with
  | [] => simp [VOb.ren, Ob.ren, A.renL, A.ren, hg, hd]
  | [0] => simp [VOb.ren, Ob.ren, rowS_ren hg hd]
  | [0, i] =>
    simp only [arF_seg]
    cases S.l[i]? with
    | none => rfl
    | some e =>
      simp only [VOb.ren, Ob.ren, renL_map, List.map_map, Nat.add_zero]
      rfl
  | (a + 1) :: q => rfl
  | 0 :: a :: b :: q => rfl
theorem arF_refs {D : Nm → Prop} {r : Nat} (hD : ∀ p, D (r :: p)) (S : Ar) (p : Nm) : (arF r S p).ob.refs D := by
  match p with
  | [] => simp [Ob.refs, A.refsL, A.refs, hD]
  | [0] =>
    refine refsL_iff.2 fun x hx => ?_
    obtain ⟨i, hi, rfl⟩ := List.mem_mapIdx.1 hx
    simp [A.refs, hD]
  | [0, i] =>
    simp only [arF_seg]
    cases S.l[i]? with
    | none => trivial
    | some e =>
      refine refsL_iff.2 fun x hx => ?_
      obtain ⟨y, _, rfl⟩ := List.mem_map.1 hx
      trivial
  | (a + 1) :: q => trivial
  | 0 :: a :: b :: q => trivial
/-- A root's family is another one. -/
def stR (r : Nat) (F : Nm → VOb) (H : Hp) : Hp := ov r F H
@[simp] theorem stR_ov {r r' : Nat} {F F' : Nm → VOb} {H : Hp} : stR r F (ov r' F' H) = if r' = r then ov r F H else ov r' F' (stR r F H) := by
  unfold stR
  funext o
  cases o with
  | nil => split <;> rfl
  | cons j p =>
    by_cases h : r' = r
    · subst h
      rw [if_pos rfl]
      by_cases hj : j = r' <;> simp [hj]
    · rw [if_neg h]
      by_cases hj : j = r
      · subst hj; simp [Ne.symm h]
      · simp [hj]
@[simp] theorem stR_lkH {r : Nat} {F : Nm → VOb} {l : List (Nm × VOb)} : stR r F (lkH l) = ov r F (lkH l) := rfl
theorem sc_ar {P : Program} {K : Sta → Prop} {rest : List CO} {s : Nat → A} {H : Hp} {dd : Option Nat} {nm : Nm} {ix : Nat} {un : List Nat} {l : Bool} {lg : Lg} {g : FuncId} {aa : Array Operand} {ts : Array TypeId}
    {r : Nat} {S S' : Ar} {as0 : List A} {x : A} (hS : SpecH P g 1 (.pob [0] S.u 0 :: as0) (ov 0 (arF 0 S) (lkH [])) x (ov 0 (arF 0 S') (lkH []))) (hF : ∀ p, H (r :: p) = arF r S p)
    (ha : aa.toList.map (evs s) = .pob [r] S.u 0 :: as0) (h0 : ∀ g δ, A.renL g δ as0 = as0) (h1 : ∀ D, A.refsL D as0) (hx : ∀ g δ, x.ren g δ = x) (hx1 : ∀ D, x.refs D) (hck : Ck un lg ⟨[], [([r], true)]⟩)
    (h : SeqC P K rest (addL l ix ⟨[], [([r], true)]⟩ lg) (Sta.put ⟨s, H⟩ dd x (stR r (arF r S') H))) :
    SeqC P K (⟨dd, .call { callee := .value (.func g), args := aa, argTypes := ts }, none, nm, ix, un, l⟩ :: rest) lg ⟨s, H⟩ := by
  have hd : ∀ p, dlt [r] 1 H (0 :: p) = 0 := fun p => rfl
  refine sc_callH [r] 1 hS (by simp) (by simp) ?_ ?_ ?_ ?_ (hx1 _) ?_ (fun i p h1 h2 => by simp at h2; omega) (hx _ _) ?_ hck h
  · rw [ha]
    simp [A.renL, A.ren, dnN, h0]
  · rw [ha]
    exact ⟨by simp [A.refs, inS], h1 _⟩
  · funext o
    cases o with
    | nil => rfl
    | cons i p =>
      by_cases hi : i < 1
      · have : i = 0 := by omega
        subst this
        simp only [inHp, if_pos hi, ov_cons, if_true]
        show (H (r :: p)).ren _ _ 0 = _
        rw [hF]
        exact arF_ren (fun q => by simp [dnN]) (fun _ => rfl) S p
      · simp only [inHp, if_neg hi, ov_cons]
        rw [if_neg (by omega)]
        rfl
  · intro j p hj
    have hjr : j = r := by
      have := (idx_mem (rs := [r])).1 (by simpa using hj)
      simpa using this
    rw [hjr, hF]
    exact arF_refs (fun q => by simp [inS]) S p
  · intro i p hi
    have : i = 0 := by simp at hi; omega
    subst this
    simp only [ov_cons, if_true]
    exact arF_refs (fun q => by simp [outS]) S' p
  · funext o
    cases o with
    | nil => rfl
    | cons j p =>
      by_cases hj : j = r
      · subst hj
        simp only [outG, stR, ov_cons, if_true]
        rw [if_pos (by simp)]
        have : [j].idxOf j = 0 := by simp
        rw [this, if_pos rfl, hd]
        exact arF_ren (fun q => by simp [upN]) hd S' p
      · have : ¬ [r].contains j = true := by simpa using hj
        simp only [outG, if_neg this, stR, ov_cons, if_neg hj]
/-- It is as arenas are. -/
structure Ar.Ok (S : Ar) : Prop where
  used0 : 0 ≤ S.used
  used1 : S.used ≤ S.most
  most1 : S.most ≤ 131072
  size0 : 1 ≤ S.size
  size1 : S.size < 9223372036854775808
  len : S.l.length ≤ 16
  seg : ∀ e, e ∈ S.l → (e.2.length : Int) ≤ S.used
theorem Ar.Ok.szAt {S : Ar} (h : S.Ok) (s : Int) : 0 ≤ (Go.Proofs.Ytehcobkphobjiaa.szAt S.w s : Int) ∧ (Go.Proofs.Ytehcobkphobjiaa.szAt S.w s : Int) ≤ S.used := by
  refine ⟨by omega, ?_⟩
  unfold Go.Proofs.Ytehcobkphobjiaa.szAt
  cases e : Go.Proofs.Ytehcobkphobjiaa.seg S.w s with
  | none => exact h.used0
  | some g =>
    obtain ⟨_, _, h2, rfl⟩ := seg_some e
    simp only [Option.map_some, Option.getD_some]
    simp only [Ar.w, List.getElem_map]
    exact h.seg _ (List.getElem_mem _)
theorem szAt_get {S : Ar} {k : Nat} (h : k < S.l.length) : (Go.Proofs.Ytehcobkphobjiaa.szAt S.w k : Int) = S.l[k].2.length := by
  simp [Go.Proofs.Ytehcobkphobjiaa.szAt, Go.Proofs.Ytehcobkphobjiaa.seg, Ar.w, h]
/-- Is so much given out of a segment? -/
def okIn (S : Ar) (s n : Int) : Bool := decide (0 ≤ s ∧ s < S.l.length ∧ 0 ≤ n ∧ n ≤ S.most - S.used ∧ n ≤ S.size - szAt S.w s)
end Go.Proofs.Ytehcobkphobjiaa

/-
  Chapter 5: words are given.
-/
namespace Go.Proofs.Ytehcobkphobjiaa
set_option linter.unusedVariables false
set_option linter.unusedSimpArgs false
open Go Go.G Go.Proofs
/-- A new segment is wanted; it is there; so much is given. -/
def newSeg (S : Ar) (n : Int) : Bool := decide (S.l.length = 0) || (!decide (n ≤ S.size - szAt S.w ((S.l.length : Int) - 1)) && decide (S.l.length < 16))
def moreS (S : Ar) : Ar := { S with l := S.l ++ [(1, [])], ur := S.ur + 1 }
def okGive (S : Ar) (n : Int) : Bool := decide (0 ≤ n ∧ n ≤ S.most - S.used)
def atS (S : Ar) (n : Int) : Ar := if newSeg S n = true then moreS S else S
theorem rowS_append {r : Nat} {l : List (Nat × List Int)} {e : Nat × List Int} : rowS r (l ++ [e]) = rowS r l ++ [.osl [r, 0, l.length] e.1 1 0 e.2.length] := by simp [rowS, List.mapIdx_append]
theorem le_more {c : Cx} {s : Nat → A} {S : Ar} : ∃ G : Hp, Le c ⟨s, ov 0 (updF (updF (arF 0 S) [0] ⟨S.ur + 1, .arr 1 (List.take S.l.length (rowS 0 S.l) ++ [A.sl true []])⟩) [] ⟨S.u, .cells [A.osl [0, 0] (S.ur + 1) 1 0 (S.l.length + 1), iv S.size, iv S.most, iv S.used]⟩) (lkH [])⟩ ⟨s, G⟩ ∧
    ∀ o, G o = ov 0 (arF 0 (moreS S)) (lkH []) o := by
  refine ⟨_, le_blankR (d := [0, 0]) (u := S.ur + 1) (xs := List.take S.l.length (rowS 0 S.l) ++ [A.sl true []]) S.l.length [0, 0, S.l.length] 1 (by simp [updF_app]) (by simp) (by simp), fun o => ?_⟩
  rw [updF_ov, if_pos rfl, updF_ov, if_pos rfl]
  cases o with
  | nil => rfl
  | cons j p =>
    by_cases hj : j = 0
    · subst hj
      simp only [ov_cons, if_true]
      refine updF_is ?_ (fun h1 => updF_is ?_ (fun h2 => updF_is ?_ (fun h3 => ?_)))
      · simp [moreS, rowS_append, List.take_of_length_le, updF_app]
      · simp [moreS, updF_app]
      · simp [moreS]
      · rw [updF_ne h1]
        refine arF_but h3 h1 fun i hi => ?_
        have : i ≠ S.l.length := fun e => h2 (by rw [hi, e])
        simp only [moreS, List.getElem?_append]
        split
        · rfl
        · rw [List.getElem?_eq_none (by omega), List.getElem?_eq_none (by simp; omega)]
    · simp [hj]
end Go.Proofs.Ytehcobkphobjiaa

/-
  Chapter 5: new arenas; words are put.
-/
namespace Go.Proofs.Ytehcobkphobjiaa
set_option linter.unusedVariables false
set_option linter.unusedSimpArgs false
open Go Go.G Go.Proofs
def newAr (z m : Int) : Ar := ⟨[], 1, 1, max z 1, min (max m 0) 131072, 0⟩
theorem sc_new {P : Program} {K : Sta → Prop} {rest : List CO} {s : Nat → A} {H : Hp} {dd : Option Nat} {nm : Nm} {ix : Nat} {un : List Nat} {l : Bool} {lg : Lg} {g : FuncId} {aa : Array Operand} {ts : Array TypeId}
    (r : Nat) {S' : Ar} {as0 : List A} (hu : S'.u = 1) (hS : SpecH P g 1 as0 (lkH []) (.pob [0] 1 0) (ov 0 (arF 0 S') (lkH []))) (hF : ∀ p, (H (r :: p)).u = 0)
    (ha : aa.toList.map (evs s) = as0) (h0 : ∀ g δ, A.renL g δ as0 = as0) (h1 : ∀ D, A.refsL D as0) (hv : ∀ p, (arF 0 S' p).ob = .none ∨ 1 ≤ (arF 0 S' p).u) (hck : Ck un lg ⟨[], [([r], true)]⟩)
    (h : SeqC P K rest (addL l ix ⟨[], [([r], true)]⟩ lg) (Sta.put ⟨s, H⟩ dd (.pob [r] 1 0) (stR r (arF r S') H))) :
    SeqC P K (⟨dd, .call { callee := .value (.func g), args := aa, argTypes := ts }, none, nm, ix, un, l⟩ :: rest) lg ⟨s, H⟩ := by
  have hd : ∀ p, dlt [r] 0 H (0 :: p) = 0 := fun p => by
    simp only [dlt]
    rw [if_neg (by omega), if_pos (by simp)]
    exact hF p
  refine sc_callH [r] 0 hS (by simp) (by simp) ?_ ?_ ?_ ?_ (by simp [A.refs, outS]) ?_ ?_ ?_ ?_ hck h
  · rw [ha]; exact h0 _ _
  · rw [ha]; exact h1 _
  · funext o
    cases o with
    | nil => rfl
    | cons i p => simp [inHp]
  · intro j p hj
    omega
  · intro i p hi
    have : i = 0 := by simp at hi; omega
    subst this
    simp only [ov_cons, if_true]
    exact arF_refs (fun q => by simp [outS]) S' p
  · intro i p _ hi
    have : i = 0 := by simp at hi; omega
    subst this
    simp only [ov_cons, if_true]
    exact hv p
  · simp [A.ren, upN, hd]
  · funext o
    cases o with
    | nil => rfl
    | cons j p =>
      by_cases hj : j = r
      · subst hj
        simp only [outG, stR, ov_cons, if_true]
        rw [if_pos (by simp)]
        have : [j].idxOf j = 0 := by simp
        rw [this, if_pos rfl, hd]
        exact arF_ren (fun q => by simp [upN]) hd S' p
      · have : ¬ [r].contains j = true := by simpa using hj
        simp only [outG, if_neg this, stR, ov_cons, if_neg hj]
end Go.Proofs.Ytehcobkphobjiaa

/-
  Chapter 5: the laws.
-/
namespace Go.Proofs.Ytehcobkphobjiaa
set_option linter.unusedVariables false
set_option linter.unusedSimpArgs false
open Go Go.G Go.Proofs
theorem newAr_ok {z m : Int} (h : z < 9223372036854775808) : (newAr z m).Ok := by
  refine ⟨by simp [newAr], ?_, ?_, ?_, ?_, by simp [newAr], by simp [newAr]⟩
  all_goals
    simp only [newAr]
    omega
theorem newAr_fam {z m : Int} (p : Nm) : (arF 0 (newAr z m) p).ob = .none ∨ 1 ≤ (arF 0 (newAr z m) p).u := by
  match p with
  | [] => exact .inr (Nat.le_refl _)
  | [0] => exact .inr (Nat.le_refl _)
  | [0, i] => exact .inl rfl
  | (a + 1) :: q => exact .inl rfl
  | 0 :: a :: b :: q => exact .inl rfl
theorem atS_ok {S : Ar} (h : S.Ok) (n : Int) : (atS S n).Ok := by
  unfold atS
  split
  · rename_i hn
    refine ⟨h.used0, h.used1, h.most1, h.size0, h.size1, ?_, fun e he => ?_⟩
    · simp only [moreS, List.length_append, List.length_singleton]
      simp [newSeg] at hn
      have := h.len
      rcases hn with e | e
      · simp [e]
      · omega
    · simp only [moreS, List.mem_append, List.mem_singleton] at he
      rcases he with he | rfl
      · exact h.seg e he
      · exact h.used0
  · exact h
end Go.Proofs.Ytehcobkphobjiaa

/-
  Plain: trees, and what the document says of them.
-/
namespace Go.PL
set_option linter.unusedVariables false
set_option linter.unusedSimpArgs false
inductive T where
  | mk (kind : Int) (words : List Int) (kids : List T)
  deriving Inhabited
namespace T
def kind : T → Int | mk k _ _ => k
def words : T → List Int | mk _ w _ => w
def kids : T → List T | mk _ _ l => l
@[simp] theorem kind_mk {k : Int} {w : List Int} {l : List T} : (mk k w l).kind = k := rfl
@[simp] theorem words_mk {k : Int} {w : List Int} {l : List T} : (mk k w l).words = w := rfl
@[simp] theorem kids_mk {k : Int} {w : List Int} {l : List T} : (mk k w l).kids = l := rfl
end T
theorem snocInd {α : Type} {P : List α → Prop} (h0 : P []) (h1 : ∀ l x, P l → P (l ++ [x])) (l : List α) : P l := by
  have : ∀ m : List α, P m.reverse := by
    intro m
    induction m with
    | nil => exact h0
    | cons x m ih => rw [List.reverse_cons]; exact h1 _ _ ih
  have h := this l.reverse
  rwa [List.reverse_reverse] at h
abbrev T0 : T := .mk 0 [] []
theorem T.eta (t : T) : t = .mk t.kind t.words t.kids := by cases t; rfl
mutual
theorem T.ind {P : T → Prop} (h : ∀ k w l, (∀ t, t ∈ l → P t) → P (.mk k w l)) : ∀ t, P t
  | .mk k w l => h k w l (T.indL h l)
theorem T.indL {P : T → Prop} (h : ∀ k w l, (∀ t, t ∈ l → P t) → P (.mk k w l)) : ∀ (l : List T), ∀ t, t ∈ l → P t
  | [], t, ht => nomatch ht
  | x :: l, t, ht => by
    rcases List.mem_cons.1 ht with e | ht
    · rw [e]; exact T.ind h x
    · exact T.indL h l t ht
end
/-! ### the Norm -/
/-- Without what is nothing at the end. -/
def trimW (l : List Int) : List Int := (l.reverse.dropWhile (fun x => x == 0)).reverse
def trimK (l : List T) : List T := (l.reverse.dropWhile (fun x => x.kind == 0)).reverse
mutual
def norm : T → T
  | .mk k w l => if k = 0 then T0 else if k = 1 then .mk 1 (trimW w) (trimK (normL l)) else .mk k w (normL l)
def normL : List T → List T
  | [] => []
  | t :: l => norm t :: normL l
end
@[simp] theorem normL_map : ∀ l, normL l = l.map norm
  | [] => by simp [normL]
  | t :: l => by simp [normL, normL_map l]
theorem norm_mk (k : Int) (w : List Int) (l : List T) : norm (.mk k w l) = if k = 0 then T0 else if k = 1 then .mk 1 (trimW w) (trimK (l.map norm)) else .mk k w (l.map norm) := by simp [norm]
@[simp] theorem norm_kind (t : T) : (norm t).kind = t.kind := by
  cases t; rw [norm_mk]; split
  · rename_i h; rw [h]; rfl
  · split
    · rename_i h; rw [h]; rfl
    · rfl
@[simp] theorem trimW_nil : trimW [] = [] := rfl
@[simp] theorem trimK_nil : trimK [] = [] := rfl
theorem trimW_snoc (l : List Int) (x : Int) : trimW (l ++ [x]) = if x = 0 then trimW l else l ++ [x] := by
  unfold trimW; simp [List.dropWhile_cons]; split <;> simp
theorem trimK_snoc (l : List T) (x : T) : trimK (l ++ [x]) = if x.kind = 0 then trimK l else l ++ [x] := by
  unfold trimK
  by_cases h : x.kind = 0 <;> simp [List.dropWhile_cons, h]
theorem trimW_le (l : List Int) : (trimW l).length ≤ l.length := by
  unfold trimW; simp; have := (List.dropWhile_sublist (fun x : Int => x == 0) (l := l.reverse)).length_le; simpa using this
theorem trimK_le (l : List T) : (trimK l).length ≤ l.length := by
  unfold trimK; simp; have := (List.dropWhile_sublist (fun x : T => x.kind == 0) (l := l.reverse)).length_le; simpa using this
theorem trimW_take (l : List Int) : trimW l = l.take (trimW l).length := by
  induction l using snocInd with
  | h0 => rfl
  | h1 l x ih =>
    rw [trimW_snoc]
    split
    · rw [List.take_append_of_le_length (trimW_le l)]; exact ih
    · rw [List.take_of_length_le (Nat.le_refl _)]
theorem trimK_take (l : List T) : trimK l = l.take (trimK l).length := by
  induction l using snocInd with
  | h0 => rfl
  | h1 l x ih =>
    rw [trimK_snoc]
    split
    · rw [List.take_append_of_le_length (trimK_le l)]; exact ih
    · rw [List.take_of_length_le (Nat.le_refl _)]
/-! ### how many words a tree takes -/
def bitsZ (c : Int) : Int := if c = 1 then 1 else if c = 2 then 8 else if c = 3 then 16 else if c = 4 then 32 else if c = 5 then 64 else 0
def roomZ (c n : Int) : Int := if n < 0 ∨ n > 1099511627776 then 0 else (n * bitsZ c + 63) / 64
def frameW : List T → Nat
  | [] => 0
  | t :: l => max t.words.length (frameW l)
def frameK : List T → Nat
  | [] => 0
  | t :: l => max t.kids.length (frameK l)
/- As the program counts it. -/
/-! ### which trees may be -/
def widthZ (c : Int) : Int := if c = 0 then 0 else if c = 1 then 1 else if c = 2 then 8 else if c = 3 then 16 else if c = 4 then 32 else if c = 5 then 64 else -1
def fitsZ (c n : Int) : Bool := decide (0 ≤ widthZ c) && decide (n / 2 ^ (widthZ c).toNat = 0)
def isData (k : Int) : Bool := decide (2 ≤ k) && decide (k ≤ 7)
/-- May it be a kid of a list? -/
def kidOk (k : Int) (c : T) : Bool := !(isData k != decide (c.kind = 10) || decide (k = 9) && !decide (c.kind = 1) || isData k && !fitsZ (k - 2) (c.words.headD 0))
def tooBig (k : Int) (d nw nl : Nat) : Bool := decide (k < 0) || decide (k > 10) || decide (d = 0) || decide (nw ≥ 65536) || decide (k = 1) && decide (nl ≥ 65536) || decide (nl ≥ 1048576) || decide (k > 1) && decide (nw > 0)
mutual
def rightT : Nat → T → Bool
  | d, .mk k w l => if k = 0 then w.isEmpty && l.isEmpty else if k = 10 then decide (w.length = 1) && l.isEmpty
    else if tooBig k d w.length l.length = true then false else rightL (d - 1) k l
def rightL : Nat → Int → List T → Bool
  | _, _, [] => true
  | d, k, t :: l => rightT d t && kidOk k t && rightL d k l
end
theorem rightT_mk (d : Nat) (k : Int) (w : List Int) (l : List T) : rightT d (.mk k w l) = if k = 0 then w.isEmpty && l.isEmpty else if k = 10 then decide (w.length = 1) && l.isEmpty
    else if tooBig k d w.length l.length = true then false else rightL (d - 1) k l := by rw [rightT]
@[simp] theorem rightL_nil (d : Nat) (k : Int) : rightL d k [] = true := by rw [rightL]
@[simp] theorem rightL_cons (d : Nat) (k : Int) (t : T) (l : List T) : rightL d k (t :: l) = (rightT d t && kidOk k t && rightL d k l) := by rw [rightL]
theorem rightL_all {d : Nat} {k : Int} : ∀ {l : List T}, rightL d k l = true ↔ ∀ t, t ∈ l → rightT d t = true ∧ kidOk k t = true
  | [] => by simp
  | t :: l => by simp [rightL_all (l := l), and_assoc]
/- No deeper, and no more parts: what is left. -/
mutual
def shallow : Nat → Int → T → Int
  | d, n, .mk _ w l => if d = 0 ∨ n - 1 - w.length < 0 then -1 else shallowL (d - 1) (n - 1 - w.length) l
def shallowL : Nat → Int → List T → Int
  | _, n, [] => n
  | d, n, t :: l => if n < 0 then n else shallowL d (shallow d n t) l
end
theorem shallow_mk (d : Nat) (n : Int) (k : Int) (w : List Int) (l : List T) : shallow d n (.mk k w l) = if d = 0 ∨ n - 1 - w.length < 0 then -1 else shallowL (d - 1) (n - 1 - w.length) l := by rw [shallow]
@[simp] theorem shallowL_nil (d : Nat) (n : Int) : shallowL d n [] = n := by rw [shallowL]
@[simp] theorem shallowL_cons (d : Nat) (n : Int) (t : T) (l : List T) : shallowL d n (t :: l) = if n < 0 then n else shallowL d (shallow d n t) l := by rw [shallowL]
/-! ### the program's size is the document's, of a right tree's Norm -/
theorem rightT_struct {d : Nat} {k : Int} {w : List Int} {l : List T} (h : rightT d (.mk k w l) = true) : ∀ t, t ∈ l → rightT (d - 1) t = true ∧ kidOk k t = true := by
  rw [rightT_mk] at h
  split at h
  · simp at h; intro t ht; rw [h.2] at ht; cases ht
  · split at h
    · simp at h; intro t ht; rw [h.2] at ht; cases ht
    · split at h
      · cases h
      · exact rightL_all.1 h
end Go.PL

/-
  Plain: edits, which ones are right, their trees, and how many words they take.
-/
namespace Go.PL
set_option linter.unusedVariables false
set_option linter.unusedSimpArgs false
structure WE where
  at_ : Int
  mask : Int
  old : Int
  new : Int
mutual
inductive E where
  | mk (kind : Int) (old new : T) (words : List WE) (kids : List KE) (list : Int) (ops : List OP)
inductive KE where
  | mk (at_ : Int) (e : E)
inductive OP where
  | mk (kind n : Int) (l : List T) (e : E)
end
namespace E
def kind : E → Int | mk k _ _ _ _ _ _ => k
def old : E → T | mk _ o _ _ _ _ _ => o
def new : E → T | mk _ _ n _ _ _ _ => n
def words : E → List WE | mk _ _ _ w _ _ _ => w
def kids : E → List KE | mk _ _ _ _ k _ _ => k
def list : E → Int | mk _ _ _ _ _ l _ => l
def ops : E → List OP | mk _ _ _ _ _ _ o => o
variable {k l : Int} {o n : T} {w : List WE} {ks : List KE} {os : List OP}
@[simp] theorem kind_mk : (mk k o n w ks l os).kind = k := rfl
@[simp] theorem old_mk : (mk k o n w ks l os).old = o := rfl
@[simp] theorem new_mk : (mk k o n w ks l os).new = n := rfl
@[simp] theorem words_mk : (mk k o n w ks l os).words = w := rfl
@[simp] theorem kids_mk : (mk k o n w ks l os).kids = ks := rfl
@[simp] theorem list_mk : (mk k o n w ks l os).list = l := rfl
@[simp] theorem ops_mk : (mk k o n w ks l os).ops = os := rfl
end E
namespace KE
def at_ : KE → Int | mk a _ => a
def e : KE → E | mk _ e => e
@[simp] theorem at_mk {a : Int} {e : E} : (mk a e).at_ = a := rfl
@[simp] theorem e_mk {a : Int} {e : E} : (mk a e).e = e := rfl
end KE
namespace OP
def kind : OP → Int | mk k _ _ _ => k
def n : OP → Int | mk _ n _ _ => n
def l : OP → List T | mk _ _ l _ => l
def e : OP → E | mk _ _ _ e => e
variable {k m : Int} {t : List T} {x : E}
@[simp] theorem kind_mk : (mk k m t x).kind = k := rfl
@[simp] theorem n_mk : (mk k m t x).n = m := rfl
@[simp] theorem l_mk : (mk k m t x).l = t := rfl
@[simp] theorem e_mk : (mk k m t x).e = x := rfl
end OP
mutual
theorem E.ind {P : E → Prop} (h : ∀ k o n w ks l os, (∀ x, x ∈ ks → P x.e) → (∀ x, x ∈ os → P x.e) → P (.mk k o n w ks l os)) : ∀ e, P e
  | .mk k o n w ks l os => h k o n w ks l os (E.indK h ks) (E.indO h os)
theorem E.indK {P : E → Prop} (h : ∀ k o n w ks l os, (∀ x, x ∈ ks → P x.e) → (∀ x, x ∈ os → P x.e) → P (.mk k o n w ks l os)) : ∀ (ks : List KE), ∀ x, x ∈ ks → P x.e
  | [], _, hx => nomatch hx
  | .mk a e :: ks, x, hx => by
    rcases List.mem_cons.1 hx with q | hx
    · rw [q]; exact E.ind h e
    · exact E.indK h ks x hx
theorem E.indO {P : E → Prop} (h : ∀ k o n w ks l os, (∀ x, x ∈ ks → P x.e) → (∀ x, x ∈ os → P x.e) → P (.mk k o n w ks l os)) : ∀ (os : List OP), ∀ x, x ∈ os → P x.e
  | [], _, hx => nomatch hx
  | .mk a n l e :: os, x, hx => by
    rcases List.mem_cons.1 hx with q | hx
    · rw [q]; exact E.ind h e
    · exact E.indO h os x hx
end
/-! ### which edits are right -/
/- How many parts are left behind an edit; below 0: it has more, or is deeper. -/
/-! ### the tree of an edit -/
/-! ### how many words an edit takes -/
end Go.PL

/-
  Plain: what counts at the end of words and kids; what trees that mean the same have.
-/
namespace Go.PL
set_option linter.unusedVariables false
set_option linter.unusedSimpArgs false
theorem trimW_zero {w : List Int} {n : Nat} (h : n < w.length) (h0 : w[n] = 0) : trimW (w.take (n + 1)) = trimW (w.take n) := by
  rw [List.take_succ_eq_append_getElem h, trimW_snoc, if_pos h0]
theorem trimW_stop {w : List Int} {n : Nat} (h : n < w.length) (h0 : w[n] ≠ 0) : trimW (w.take (n + 1)) = w.take (n + 1) := by
  rw [List.take_succ_eq_append_getElem h, trimW_snoc, if_neg h0]
theorem trimK_zero {w : List T} {n : Nat} (h : n < w.length) (h0 : w[n].kind = 0) : trimK (w.take (n + 1)) = trimK (w.take n) := by
  rw [List.take_succ_eq_append_getElem h, trimK_snoc, if_pos h0]
theorem trimK_stop {w : List T} {n : Nat} (h : n < w.length) (h0 : w[n].kind ≠ 0) : trimK (w.take (n + 1)) = w.take (n + 1) := by
  rw [List.take_succ_eq_append_getElem h, trimK_snoc, if_neg h0]
theorem trimK_map_len (l : List T) : (trimK (l.map norm)).length = (trimK l).length := by
  induction l using snocInd with
  | h0 => rfl
  | h1 l x ih =>
    rw [List.map_append, List.map_cons, List.map_nil, trimK_snoc, trimK_snoc, norm_kind]
    split
    · exact ih
    · simp
theorem trimK_map (l : List T) : trimK (l.map norm) = (l.map norm).take (trimK l).length := by
  rw [← trimK_map_len]; exact trimK_take _
/-- How many words, and kids, count. -/
def nW (t : T) : Nat := if t.kind = 1 then (trimW t.words).length else t.words.length
def nK (t : T) : Nat := if t.kind = 1 then (trimK t.kids).length else t.kids.length
theorem nW_le (t : T) : nW t ≤ t.words.length := by unfold nW; split; exact trimW_le _; exact Nat.le_refl _
theorem nK_le (t : T) : nK t ≤ t.kids.length := by unfold nK; split; exact trimK_le _; exact Nat.le_refl _
/-- Nothing has nothing. -/
def Bare (t : T) : Prop := t.kind = 0 → t.words = [] ∧ t.kids = []
theorem norm_words {t : T} (h : Bare t) : (norm t).words = t.words.take (nW t) := by
  obtain ⟨k, w, l⟩ := t
  rw [norm_mk]
  by_cases h0 : k = 0
  · obtain ⟨a, b⟩ := h h0; simp at a b; subst a b; rw [if_pos h0]; simp
  · rw [if_neg h0]
    by_cases h1 : k = 1
    · subst h1; simp [nW, ← trimW_take]
    · simp [h1, nW]
theorem norm_kids {t : T} (h : Bare t) : (norm t).kids = (t.kids.take (nK t)).map norm := by
  obtain ⟨k, w, l⟩ := t
  rw [norm_mk]
  by_cases h0 : k = 0
  · obtain ⟨a, b⟩ := h h0; simp at a b; subst a b; rw [if_pos h0]; simp
  · rw [if_neg h0]
    by_cases h1 : k = 1
    · subst h1; simp [nK, trimK_map, List.map_take]
    · simp [h1, nK]
theorem T.ext' {t u : T} (h1 : t.kind = u.kind) (h2 : t.words = u.words) (h3 : t.kids = u.kids) : t = u := by
  cases t; cases u; simp at h1 h2 h3; rw [h1, h2, h3]
/-- Trees mean the same. -/
theorem norm_eq {t u : T} (ht : Bare t) (hu : Bare u) : norm t = norm u ↔ t.kind = u.kind ∧ nW t = nW u ∧ nK t = nK u ∧ (∀ i : Nat, i < nW t → t.words[i]? = u.words[i]?) ∧ (∀ i : Nat, i < nK t → (t.kids[i]?).map norm = (u.kids[i]?).map norm) := by
  constructor
  · intro h
    have hk : t.kind = u.kind := by rw [← norm_kind t, h, norm_kind]
    have hw : t.words.take (nW t) = u.words.take (nW u) := by rw [← norm_words ht, h, norm_words hu]
    have hl : (t.kids.take (nK t)).map norm = (u.kids.take (nK u)).map norm := by rw [← norm_kids ht, h, norm_kids hu]
    have e1 : nW t = nW u := by have := congrArg List.length hw; simp at this; have := nW_le t; have := nW_le u; omega
    have e2 : nK t = nK u := by have := congrArg List.length hl; simp at this; have := nK_le t; have := nK_le u; omega
    refine ⟨hk, e1, e2, fun i hi => ?_, fun i hi => ?_⟩
    · have := congrArg (fun l => l[i]?) hw
      simp only [List.getElem?_take] at this
      rwa [if_pos hi, if_pos (by omega)] at this
    · have := congrArg (fun l => l[i]?) hl
      simp only [List.getElem?_map, List.getElem?_take] at this
      rwa [if_pos hi, if_pos (by omega)] at this
  · rintro ⟨hk, e1, e2, hw, hl⟩
    refine T.ext' (by rw [norm_kind, norm_kind, hk]) ?_ ?_
    · rw [norm_words ht, norm_words hu, ← e1]
      apply List.ext_getElem?
      intro i
      rw [List.getElem?_take, List.getElem?_take]
      split
      · exact hw i (by assumption)
      · rfl
    · rw [norm_kids ht, norm_kids hu, ← e2]
      apply List.ext_getElem?
      intro i
      rw [List.getElem?_map, List.getElem?_map, List.getElem?_take, List.getElem?_take]
      split
      · exact hl i (by assumption)
      · rfl
/-- They are the same. -/
noncomputable def sameB (t u : T) : Bool := by classical exact decide (t = u)
theorem sameB_iff {t u : T} : sameB t u = true ↔ t = u := by simp [sameB]
noncomputable def eqT (t u : T) : Bool := sameB (norm t) (norm u)
theorem eqT_iff {t u : T} : eqT t u = true ↔ norm t = norm u := sameB_iff
end Go.PL

/-
  Trees and edits as the program's values.
-/
namespace Go.Proofs.Ytehcobkphobjiaa
set_option linter.unusedVariables false
set_option linter.unusedSimpArgs false
open Go Go.G Go.Proofs Go.PL
/-- A call that is not made. -/
theorem sc_call_off {P : Program} {K : Sta → Prop} {rest : List CO} {s : Nat → A} {H : Hp} {dd : Option Nat} {k : Nat} {f : Bool} {nm : Nm} {ix : Nat} {un : List Nat} {l : Bool} {lg : Lg} {g : FuncId} {aa : Array Operand} {ts : Array TypeId}
    (hq : wantA (s k) f = some false) (h : SeqC P K rest (addL l ix ⟨[], []⟩ lg) (Sta.put ⟨s, H⟩ dd (.v undef) H)) :
    SeqC P K (⟨dd, .call { callee := .value (.func g), args := aa, argTypes := ts }, some (k, f), nm, ix, un, l⟩ :: rest) lg ⟨s, H⟩ :=
  sc_call_g (q := false) (x := .any) hq (fun e => by cases e) h
abbrev uws (l : List Int) : A := .sl false (l.map uv)
mutual
def tC : T → List A
  | .mk k w l => [iv k, uws w, .sl false (tCs l)]
def tCs : List T → List A
  | [] => []
  | t :: l => .agg (tC t) :: tCs l
end
def tA (t : T) : A := .agg (tC t)
abbrev tKs (l : List T) : A := .sl false (l.map tA)
abbrev tX (t : T) : A := .agg [iv t.kind, uws t.words, tKs t.kids]
theorem tCs_map : ∀ l, tCs l = l.map tA
  | [] => by rw [tCs]; rfl
  | t :: l => by rw [tCs, tCs_map l]; rfl
theorem tC_eq (t : T) : tC t = [iv t.kind, uws t.words, tKs t.kids] := by cases t; rw [tC, tCs_map]; rfl
@[simp] theorem tA_eq (t : T) : tA t = tX t := by rw [tA, tC_eq]
@[simp] theorem lens_iv (l : List Int) : lens 1 (l.map iv) = true := by simp [lens]
@[simp] theorem lens_tA (l : List T) : lens 3 (l.map tA) = true := by simp [lens]
theorem lens_all {n : Nat} {l : List A} : lens n l = true ↔ ∀ x, x ∈ l → x.cells.length = n := by simp [lens]
@[simp] theorem lens_take {n k : Nat} {l : List A} (h : lens n l = true) : lens n (l.take k) = true := by
  rw [lens_all] at h ⊢
  exact fun x hx => h x (List.mem_of_mem_take hx)
@[simp] theorem lens_drop {n k : Nat} {l : List A} (h : lens n l = true) : lens n (l.drop k) = true := by
  rw [lens_all] at h ⊢
  exact fun x hx => h x (List.mem_of_mem_drop hx)
/-- A row of the call's own, read. -/
theorem frz_row {α : Type} {H : Hp} {o : Nm} {u n sz : Nat} {l : List α} {f : α → A} (h : vr (H o) u = some (sz, l.map f)) (hn : n = l.length) (hf : ∀ x, ((f x).cells.length == sz && (f x).cells.all fun y => A.bare1 y && y.one) = true) : Frz H (.osl o u sz 0 n) (.sl false (l.map f)) := by
  subst hn
  have := frz_osl (H := H) (o := o) (u := u) (off := 0) (len := l.length) (sz := sz) (xs := l.map f) (by simpa using h) (by simp) (by
    simp only [List.drop_zero]
    rw [List.take_of_length_le (by simp), List.all_map, List.all_eq_true]
    exact fun x _ => hf x)
  simp [List.take_of_length_le] at this
  exact this
theorem frz_rowT {α : Type} {H : Hp} {o : Nm} {u n sz : Nat} {l : List α} {f : α → A} (h : vr (H o) u = some (sz, l.map f)) (hn : n ≤ l.length) (hf : ∀ x, ((f x).cells.length == sz && (f x).cells.all fun y => A.bare1 y && y.one) = true) : Frz H (.osl o u sz 0 n) (.sl false ((l.take n).map f)) := by
  have := frz_osl (H := H) (o := o) (u := u) (off := 0) (len := n) (sz := sz) (xs := l.map f) (by simpa using h) (by simpa using hn) (by
    simp only [List.drop_zero]
    rw [← List.map_take, List.all_map, List.all_eq_true]
    exact fun x _ => hf x)
  simpa using this
theorem row_succ {α : Type} {f : α → A} {l : List α} {i : Nat} (h : i < l.length) {x : A} (hx : f l[i] = x) : List.take i (List.take i (l.map f)) ++ [x] = (l.take (i + 1)).map f := by
  rw [List.take_take, Nat.min_self, List.take_succ_eq_append_getElem h, List.map_append, List.map_take, ← hx]; rfl
theorem frz_T0 {H : Hp} : Frz H (.agg [iv 0, .sl true [], .sl true []]) (tX T0) := frz_agg (by simp; exact ⟨frz_bare rfl, frz_sl, frz_sl⟩)
/-! ### sums, whatever is turned round -/
/-! ### sizes that memory has -/
def i64R (n : Int) : Prop := -9223372036854775808 ≤ n ∧ n < 9223372036854775808
def u64R (n : Int) : Prop := 0 ≤ n ∧ n < 18446744073709551616
mutual
def wfT : T → Prop
  | .mk k w l => i64R k ∧ (∀ x, x ∈ w → u64R x) ∧ w.length * 8 ≤ 140737488355328 ∧ l.length * 56 ≤ 140737488355328 ∧ wfTs l
def wfTs : List T → Prop
  | [] => True
  | t :: l => wfT t ∧ wfTs l
end
theorem wfTs_all : ∀ {l : List T}, wfTs l ↔ ∀ t, t ∈ l → wfT t
  | [] => by simp [wfTs]
  | t :: l => by simp [wfTs, wfTs_all (l := l)]
structure WfT (t : T) : Prop where
  k : i64R t.kind
  w : ∀ x, x ∈ t.words → u64R x
  wl : t.words.length * 8 ≤ 140737488355328
  kl : t.kids.length * 56 ≤ 140737488355328
  ks : ∀ x, x ∈ t.kids → wfT x
theorem wfT_iff {t : T} : wfT t ↔ WfT t := by
  cases t; rw [wfT, wfTs_all]
  exact ⟨fun ⟨a, b, c, d, e⟩ => ⟨a, b, c, d, e⟩, fun ⟨a, b, c, d, e⟩ => ⟨a, b, c, d, e⟩⟩
def WE.wf (w : WE) : Prop := i64R w.at_ ∧ (0 ≤ w.mask ∧ w.mask < 256) ∧ u64R w.old ∧ u64R w.new
end Go.Proofs.Ytehcobkphobjiaa

/-
  Chapter 5's definition: arenas that grow word by word.
-/
namespace Go.Proofs.Ytehcobkphobjiaa
set_option linter.unusedVariables false
set_option linter.unusedSimpArgs false
open Go Go.G Go.Proofs
/-- How long a segment is; -1: there is none. -/
def lenZ (l : List (List Int)) (s : Int) : Int := if 0 ≤ s ∧ s < l.length then (szAt l s : Int) else -1
theorem rLong_spec (l : List (List Int)) (z m u s : Int) : G.Spec Try.prog 67 [arX l z m u, iv s] (iv (lenZ l s)) := by
  refine spec_of t_centoref05_Arena_Long (by simp) fun w0 I0 => ?_
  unfold c_centoref05_Arena_Long
  by_cases h : 0 ≤ s ∧ s < l.length
  · obtain ⟨h2, e1⟩ := seg_in h.1 h.2
    have h3 : ¬ s < 0 := by omega
    have h4 : ¬ (l.length : Int) ≤ s := by omega
    simp [h.1, h.2, h2, h3, h4, lenZ]
    rw [szAt, e1]
    exact frz_int rfl
  · have h3 : s < 0 ∨ (l.length : Int) ≤ s := by omega
    by_cases h5 : s < 0
    · simp [h5, lenZ, h]
      exact frz_bare rfl
    · have h6 : (l.length : Int) ≤ s := by omega
      simp [h5, h6, lenZ, h]
      exact frz_bare rfl
/-- So many noughts behind a segment, one by one. -/
def segS (S : Ar) (k i : Nat) : Ar := { S with l := S.l.modify k fun e => (e.1 + i, e.2 ++ List.replicate i 0) }
def addS (S : Ar) (k n : Nat) : Ar := { segS S k n with used := S.used + n }
@[simp] theorem segS_u {S : Ar} {k i : Nat} : (segS S k i).u = S.u := rfl
@[simp] theorem segS_ur {S : Ar} {k i : Nat} : (segS S k i).ur = S.ur := rfl
@[simp] theorem segS_size {S : Ar} {k i : Nat} : (segS S k i).size = S.size := rfl
@[simp] theorem segS_most {S : Ar} {k i : Nat} : (segS S k i).most = S.most := rfl
@[simp] theorem segS_used {S : Ar} {k i : Nat} : (segS S k i).used = S.used := rfl
@[simp] theorem segS_len {S : Ar} {k i : Nat} : (segS S k i).l.length = S.l.length := by simp [segS]
@[simp] theorem segS_len' {S : Ar} {k i : Nat} {f : Nat × List Int → Nat × List Int} : (S.l.modify k f).length = S.l.length := by simp
theorem segS_get {S : Ar} {k i : Nat} {e : Nat × List Int} (h : S.l[k]? = some e) : (segS S k i).l[k]? = some (e.1 + i, e.2 ++ List.replicate i 0) := by simp [segS, List.getElem?_modify, h]
theorem segS_zero {S : Ar} {k : Nat} : segS S k 0 = S := by
  cases S
  simp only [segS, Ar.mk.injEq, and_true, true_and]
  apply List.ext_getElem
  · simp
  · intro j h1 h2
    simp only [List.getElem_modify]
    by_cases e : k = j <;> simp [e]
theorem segS_one_more {S : Ar} {k j : Nat} : segS (segS S k 1) k j = segS S k (j + 1) := by
  simp only [segS, Ar.mk.injEq, and_true, true_and]
  apply List.ext_getElem
  · simp
  · intro i h1 h2
    simp only [List.getElem_modify]
    by_cases e : k = i
    · simp [e, List.replicate_succ]; omega
    · simp [e]
/-- Alike but for the cells. -/
theorem arF_but' {r : Nat} {S S' : Ar} {p : Nm} (h1 : p ≠ []) (hl : S.l = S'.l) (hu : S.ur = S'.ur) : arF r S p = arF r S' p := by
  by_cases h2 : p = [0]
  · subst h2; simp [hl, hu]
  · exact arF_but h1 h2 fun j _ => by rw [hl]
/-- A word behind a segment. -/
theorem seg_one {S : Ar} {k : Nat} {e : Nat × List Int} (hk : S.l[k]? = some e) :
    updF (updF (arF 0 S) [0, k] ⟨e.1 + 1, .arr 1 (List.take e.2.length (e.2.map uv) ++ [uv 0])⟩) [0] ⟨S.ur, .arr 1 ((rowS 0 S.l).set k (.osl [0, 0, k] (e.1 + 1) 1 0 (e.2.length + 1)))⟩ = arF 0 (segS S k 1) := by
  have hlt : k < S.l.length := (List.getElem?_eq_some_iff.1 hk).1
  have he : S.l[k] = e := (List.getElem?_eq_some_iff.1 hk).2
  funext p
  refine updF_is ?_ (fun h1 => updF_is ?_ (fun h2 => ?_))
  · simp [segS, rowS_modify hlt, he]
  · simp [segS, List.getElem?_modify, hk, List.take_of_length_le]
  · by_cases h0 : p = []
    · subst h0
      simp [segS]
    · refine arF_but h0 h1 fun j hj => ?_
      have : j ≠ k := fun e => h2 (by rw [hj, e])
      simp [segS, List.getElem?_modify, Ne.symm this]
section
theorem dAdd_l1 {n : Nat} {w0 : World} {I0 M0 : Nat → Prop} {m0 : Mu} {k m : Nat} {a : Int} {Q : Exit → Sta → Prop} (hm : m ≤ 200000) :
    ∀ (j i : Nat) (S : Ar) (e : Nat × List Int), S.l[k]? = some e → i + j = m → (e.2.length + j) * 8 ≤ 140737488355328 →
      Q (.exit 0) ⟨lk [(0, .pob [0] S.u 0), (1, iv k), (2, iv m), (7, iv a), (8, iv m), (19, bv false)], ov 0 (arF 0 (segS S k j)) (lkH [])⟩ →
    LoopC (cxh Try.prog w0 I0 M0 n m0) l1_centoref05_Arena_add Q ⟨lk [(0, .pob [0] S.u 0), (1, iv k), (2, iv m), (7, iv a), (8, iv i)], ov 0 (arF 0 S) (lkH [])⟩ := by
  intro j
  induction j with
  | zero =>
    intro i S e hk hi hn q
    have : i = m := by omega
    subst this
    refine loopC_once mixed l1_centoref05_Arena_add.eq_1 ?_
    rw [segS_zero] at q
    simp
    exact q
  | succ j ih =>
    intro i S e hk hi hn q
    refine loopC_once mixed l1_centoref05_Arena_add.eq_1 ?_
    have hlt : k < S.l.length := (List.getElem?_eq_some_iff.1 hk).1
    have hge : S.l[k] = e := (List.getElem?_eq_some_iff.1 hk).2
    have hlt2 : (i : Int) < m := by omega
    have hn1 : (e.2.length + 1) * 8 ≤ 140737488355328 := by omega
    have hn2 : (e.2.length : Int) * 8 ≤ 140737488355328 := by omega
    simp [hk, hlt, hge, hlt2, hn1, updF_app]
    rw [i64_same (n := (i : Int) + 1) (by omega) (by omega), show A.v (Value.int IntKind.u64 0) = uv 0 from rfl, seg_one hk]
    refine ih (i + 1) (segS S k 1) (e.1 + 1, e.2 ++ List.replicate 1 0) (segS_get hk) (by omega) (by simp; omega) ?_
    rw [segS_one_more]
    exact q
end
theorem dAdd_spec (S : Ar) (k n : Nat) (e : Nat × List Int) (hk : S.l[k]? = some e) (hn : (e.2.length + n) * 8 ≤ 140737488355328) (hm : n ≤ 200000) (h0 : 0 ≤ S.used) (h1 : S.used + n < 9223372036854775808) :
    SpecH Try.prog 106 1 [.pob [0] S.u 0, iv k, iv n] (ov 0 (arF 0 S) (lkH [])) (iv e.2.length) (ov 0 (arF 0 (addS S k n)) (lkH [])) := by
  refine specH_of t_centoref05_Arena_add (by simp) fun w0 I0 M0 m0 => ?_
  unfold c_centoref05_Arena_add
  have hlt : k < S.l.length := (List.getElem?_eq_some_iff.1 hk).1
  have he : S.l[k] = e := (List.getElem?_eq_some_iff.1 hk).2
  simp [hk, hlt, he]
  refine dAdd_l1 (k := k) (m := n) hm n 0 S e hk (by omega) hn ?_
  simp [updF_app]
  refine reth_ret rfl rfl (fun i p hi => ?_)
  have hi0 : i = 0 := by omega
  subst hi0
  simp only [ov_cons, if_true]
  refine updF_is ?_ (fun h1 => ?_)
  · have e1 : S.used = (segS S k n).used := rfl
    simp [addS, i64_same (n := S.used + n) (by omega) h1]
  · exact arF_but' h1 rfl rfl
def rinS (S : Ar) (s n : Int) : Ar := if okIn S s n = true then addS S s.toNat n.toNat else S
theorem lenZ_le {S : Ar} (h : S.Ok) (s : Int) : -1 ≤ lenZ S.w s ∧ lenZ S.w s ≤ S.used := by
  have := h.szAt s
  have := h.used0
  unfold lenZ
  split <;> omega
theorem rIn_spec (S : Ar) (h : S.Ok) (s n : Int) : SpecH Try.prog 64 1 [.pob [0] S.u 0, iv s, iv n] (ov 0 (arF 0 S) (lkH [])) (iv (if okIn S s n = true then szAt S.w s else -1)) (ov 0 (arF 0 (rinS S s n)) (lkH [])) := by
  refine specH_of t_centoref05_Arena_In (by simp) fun w0 I0 M0 m0 => ?_
  unfold c_centoref05_Arena_In
  simp
  have o1 := h.used0
  have o2 := h.used1
  have o3 := h.most1
  have oz0 := h.size0
  have oz1 := h.size1
  have oz := lenZ_le h s
  refine sc_callb [S.a, iv s] ((rLong_spec S.w S.size S.most S.used s).toB rfl) (by simp; exact ⟨frz_ar, frz_bare rfl⟩) (by simp) ?_
  simp
  have off : (decide (lenZ S.w s < 0) || decide (n < 0)) = true ∨ S.most - S.used < n → okIn S s n = false := fun hd => by
    simp only [okIn, decide_eq_false_iff_not]
    simp [lenZ, Ar.w] at hd ⊢
    split at hd <;> omega
  by_cases hd : (decide (lenZ S.w s < 0) || decide (n < 0)) = true
  · have hk := off (.inl hd)
    have hc : 0 ≤ lenZ S.w s → n < 0 := fun h0 => by simp at hd; omega
    simp [hd]
    refine ⟨hc, ?_⟩
    refine sc_call_off rfl ?_
    simp
    exact reth_ret rfl (by simp [hk]) (fun i p hi => by simp [rinS, hk])
  · have hd := Bool.eq_false_iff.2 hd
    by_cases h2 : S.most - S.used < n
    · have hk := off (.inr h2)
      simp [hd, h2, i64_same (n := S.most - S.used) (by omega) (by omega)]
      refine sc_call_off rfl ?_
      simp
      exact reth_ret rfl (by simp [hk]) (fun i p hi => by simp [rinS, hk])
    · simp [hd, h2, i64_same (n := S.most - S.used) (by omega) (by omega)]
      refine sc_callb_gf [S.a, iv s] rfl (fun _ => (rLong_spec S.w S.size S.most S.used s).toB rfl) (fun _ => by simp; exact ⟨frz_ar, frz_bare rfl⟩) (by simp) ?_
      have hd' : 0 ≤ lenZ S.w s ∧ 0 ≤ n := by simp at hd; exact hd
      have hin : 0 ≤ s ∧ s < S.w.length := by
        refine Decidable.byContradiction fun e => ?_
        have := hd'.1
        simp [lenZ, e] at this
      have hz : lenZ S.w s = szAt S.w s := by simp [lenZ, hin]
      simp [i64_same (n := S.size - lenZ S.w s) (by omega) (by omega)]
      refine ⟨fun hc => ?_, fun hc => ?_⟩
      · have hk : okIn S s n = false := by simp only [okIn, decide_eq_false_iff_not]; omega
        exact reth_ret rfl (by simp [hk]) (fun i p hi => by simp [rinS, hk])
      · have hlt0 : s < S.l.length := by simpa [Ar.w] using hin.2
        have hk : okIn S s n = true := by simp only [okIn, decide_eq_true_eq]; exact ⟨hin.1, hlt0, hd'.2, by omega, by omega⟩
        obtain ⟨k, rfl⟩ := Int.eq_ofNat_of_zero_le hin.1
        obtain ⟨m, rfl⟩ := Int.eq_ofNat_of_zero_le hd'.2
        have hlt : k < S.l.length := by omega
        have hz2 : (Go.Proofs.Ytehcobkphobjiaa.szAt S.w k : Int) = S.l[k].2.length := szAt_get hlt
        refine sc_ar (r := 0) (dAdd_spec S k m S.l[k] (List.getElem?_eq_getElem hlt) (by omega) (by omega) o1 (by omega)) (fun p => rfl) rfl (fun _ _ => rfl) (fun _ => ⟨trivial, trivial, trivial⟩) (fun _ _ => rfl) (fun _ => trivial) (by simp) ?_
        simp
        refine reth_ret rfl ?_ (fun i p hi => ?_)
        · simp [hk, hz2]
        · simp [rinS, hk]
def rgiveS (S : Ar) (n : Int) : Ar := if okGive S n = true then addS (atS S n) ((atS S n).l.length - 1) n.toNat else S
theorem rGive_k1 {n : Nat} {w0 : World} {I0 M0 : Nat → Prop} {m0 : Mu} {S : Ar} {k m : Nat} (hk : k < S.l.length) (h0 : 0 ≤ S.used) (h1 : S.used + m ≤ 131072) (h2 : (S.l[k].2.length : Int) ≤ S.used) (hl : S.l.length ≤ 16) {r : A} {Hr : Hp} {z : Int} (hz : z = (k : Int) + 1)
    {G : Hp} (hG : ∀ o, G o = ov 0 (arF 0 S) (lkH []) o) (hr : r = .tup [iv k, iv S.l[k].2.length]) (hH : Hr = ov 0 (arF 0 (addS S k m)) (lkH [])) :
    WPC (cxh Try.prog w0 I0 M0 n m0) k1_centoref05_Arena_Give (RetH (cxh Try.prog w0 I0 M0 n m0) [.tmp 4, .tmp 5] 1 r Hr) ⟨lk [(0, .pob [0] S.u 0), (1, iv m), (6, iv z)], G⟩ := by
  have hG := funext hG
  subst hr hH hG
  unfold k1_centoref05_Arena_Give
  have e1 : IntKind.i64.wrap (z - 1) = (k : Int) := (i64_same (n := z - 1) (by omega) (by omega)).trans (by omega)
  simp [e1]
  refine sc_ar (r := 0) (dAdd_spec S k m S.l[k] (List.getElem?_eq_getElem hk) (by omega) (by omega) h0 (by omega)) (fun p => rfl) rfl (fun _ _ => rfl) (fun _ => ⟨trivial, trivial, trivial⟩) (fun _ _ => rfl) (fun _ => trivial) (by simp) ?_
  simp [e1]
  exact reth_ret rfl rfl (fun i p hi => rfl)
set_option pp.deepTerms true in
set_option pp.maxSteps 1000000 in
theorem rGive_spec (S : Ar) (h : S.Ok) (n : Int) : SpecH Try.prog 63 1 [.pob [0] S.u 0, iv n] (ov 0 (arF 0 S) (lkH []))
    (.tup [iv (if okGive S n = true then ((atS S n).l.length : Int) - 1 else -1), iv (if okGive S n = true then (szAt (atS S n).w (((atS S n).l.length : Int) - 1) : Int) else -1)]) (ov 0 (arF 0 (rgiveS S n)) (lkH [])) := by
  refine specH_of t_centoref05_Arena_Give (by simp) fun w0 I0 M0 m0 => ?_
  unfold c_centoref05_Arena_Give
  have o1 := h.used0
  have o2 := h.used1
  have o3 := h.most1
  have o4 := h.len
  have oz0 := h.size0
  have oz1 := h.size1
  have oz := h.szAt ((S.l.length : Int) - 1)
  by_cases hn : n < 0
  · have hk : okGive S n = false := by simp only [okGive, decide_eq_false_iff_not]; omega
    simp [hn]
    exact reth_ret rfl (by simp [hk]) (fun i p hi => by simp [rgiveS, hk])
  by_cases hu : S.most - S.used < n
  · have hk : okGive S n = false := by simp only [okGive, decide_eq_false_iff_not]; omega
    simp [hn, hu, i64_same (n := S.most - S.used) (by omega) (by omega)]
    exact reth_ret rfl (by simp [hk]) (fun i p hi => by simp [rgiveS, hk])
  have hk : okGive S n = true := by simp only [okGive, decide_eq_true_eq]; omega
  obtain ⟨m, rfl⟩ := Int.eq_ofNat_of_zero_le (show 0 ≤ n by omega)
  have hmm : ((m : Int)).toNat = m := by omega
  have new : newSeg S m = true → ∀ G : Hp, (∀ o, G o = ov 0 (arF 0 (moreS S)) (lkH []) o) → WPC (cxh Try.prog w0 I0 M0 64 m0) k1_centoref05_Arena_Give (RetH (cxh Try.prog w0 I0 M0 64 m0) [.tmp 4, .tmp 5] 1 (A.tup
          [iv (if okGive S m = true then ((atS S m).l.length : Int) - 1 else -1), iv (if okGive S m = true then (szAt (atS S m).w (((atS S m).l.length : Int) - 1) : Int) else -1)]) (ov 0 (arF 0 (rgiveS S m)) (lkH []))) ⟨lk [(0, .pob [0] S.u 0), (1, iv m), (6, iv ((S.l.length : Int) + 1))], G⟩ := fun hs G hG => by
    have hat : atS S m = moreS S := by simp [atS, hs]
    have hl : (moreS S).l.length = S.l.length + 1 := by simp [moreS]
    have hlt : S.l.length < (moreS S).l.length := by omega
    have hg : (moreS S).l[S.l.length].2 = [] := by simp [moreS]
    have hx : (moreS S).l.length ≤ 16 := by
      have := (atS_ok h m).len
      rwa [hat] at this
    refine rGive_k1 (S := moreS S) (k := S.l.length) (m := m) hlt (by simpa [moreS] using o1) (by simp only [moreS]; omega) (by rw [hg]; simpa [moreS] using o1) hx rfl hG ?_ ?_
    · have hz := szAt_get hlt
      rw [hat, hk, hl]
      simp only [if_true]
      rw [show ((S.l.length + 1 : Nat) : Int) - 1 = (S.l.length : Int) from by omega, hz]
    · rw [rgiveS, hk, if_pos rfl, hat, hl, hmm]
      rfl
  have old : newSeg S m = false → WPC (cxh Try.prog w0 I0 M0 64 m0) k1_centoref05_Arena_Give (RetH (cxh Try.prog w0 I0 M0 64 m0) [.tmp 4, .tmp 5] 1 (A.tup
          [iv (if okGive S m = true then ((atS S m).l.length : Int) - 1 else -1), iv (if okGive S m = true then (szAt (atS S m).w (((atS S m).l.length : Int) - 1) : Int) else -1)]) (ov 0 (arF 0 (rgiveS S m)) (lkH []))) ⟨lk [(0, .pob [0] S.u 0), (1, iv m), (6, iv (S.l.length : Int))], ov 0 (arF 0 S) (lkH [])⟩ := fun hs => by
    have hat : atS S m = S := by simp [atS, hs]
    have h0 : S.l.length ≠ 0 := fun e => by simp [newSeg, e] at hs
    have ec : (S.l.length : Int) - 1 = ((S.l.length - 1 : Nat) : Int) := by omega
    have hlt : S.l.length - 1 < S.l.length := by omega
    rw [hat, hk, ec]
    refine rGive_k1 (S := S) (k := S.l.length - 1) (m := m) hlt o1 (by omega) (h.seg _ (List.getElem_mem _)) o4 (by omega) (fun o => rfl) ?_ ?_
    · simp only [if_true]
      rw [szAt_get hlt]
    · rw [rgiveS, hk, if_pos rfl, hat, hmm]
  have e7 : IntKind.i64.wrap S.l.length = S.l.length := i64_same (by omega) (by omega)
  have e8 : IntKind.i64.wrap ((S.l.length : Int) + 1) = (S.l.length : Int) + 1 := i64_same (by omega) (by omega)
  have e9 : IntKind.i64.wrap ((S.l.length : Int) - 1) = (S.l.length : Int) - 1 := i64_same (by omega) (by omega)
  have e10 : IntKind.i64.wrap (S.most - S.used) = S.most - S.used := i64_same (by omega) (by omega)
  have hm0 : decide ((m : Int) < 0) = false := by simp
  have hu' : ¬ S.most - S.used < (m : Int) := hu
  by_cases h0 : S.l.length = 0
  · have hs : newSeg S m = true := by simp [newSeg, h0]
    simp [hm0, hu', e10, h0]
    refine sc_call_off rfl ?_
    simp [updF_app]
    refine ⟨by omega, ?_⟩
    have e12 : A.v (Value.int IntKind.i64 (IntKind.i64.wrap 1)) = iv ((S.l.length : Int) + 1) := by
      rw [h0]
      rfl
    rw [e12]
    obtain ⟨G, g1, g2⟩ := le_more (c := cxh Try.prog w0 I0 M0 64 m0) (s := lk [(0, .pob [0] S.u 0), (1, iv m), (6, iv ((S.l.length : Int) + 1))]) (S := S)
    exact stop_le g1 (stop_go (new hs G g2))
  · have hz : lenZ S.w ((S.l.length : Int) - 1) = szAt S.w ((S.l.length : Int) - 1) := by simp [lenZ, Ar.w]; omega
    simp [hm0, hu', e10, h0, e9]
    refine sc_callb_gf [S.a, iv ((S.l.length : Int) - 1)] rfl (fun _ => (rLong_spec S.w S.size S.most S.used _).toB rfl) (fun _ => by simp; exact ⟨frz_ar, frz_bare rfl⟩) (by simp) ?_
    rw [hz]
    have e11 : IntKind.i64.wrap (S.size - szAt S.w ((S.l.length : Int) - 1)) = S.size - szAt S.w ((S.l.length : Int) - 1) := i64_same (by omega) (by omega)
    by_cases hr : (m : Int) ≤ S.size - szAt S.w ((S.l.length : Int) - 1)
    · have hs : newSeg S m = false := by simp [newSeg, h0, hr]
      have hr' : ¬ S.size - szAt S.w ((S.l.length : Int) - 1) < (m : Int) := by omega
      simp [e11, hr']
      exact stop_go (old hs)
    · have hr' : S.size - szAt S.w ((S.l.length : Int) - 1) < (m : Int) := by omega
      by_cases h16 : S.l.length < 16
      · have hs : newSeg S m = true := by simp [newSeg, h0, hr, h16]
        have h16' : (S.l.length : Int) < 16 := by omega
        simp [e11, hr', h16', updF_app, e8]
        refine ⟨by omega, ?_⟩
        obtain ⟨G, g1, g2⟩ := le_more (c := cxh Try.prog w0 I0 M0 64 m0) (s := lk [(0, .pob [0] S.u 0), (1, iv m), (6, iv ((S.l.length : Int) + 1))]) (S := S)
        exact stop_le g1 (stop_go (new hs G g2))
      · have hs : newSeg S m = false := by simp [newSeg, h0, hr, h16]
        have h16' : ¬ (S.l.length : Int) < 16 := by omega
        simp [e11, hr', h16']
        exact stop_go (old hs)
theorem rNew_spec (z m : Int) : SpecH Try.prog 21 1 [iv z, iv m] (lkH []) (.pob [0] 1 0) (ov 0 (arF 0 (newAr z m)) (lkH [])) := by
  refine specH_of t_centoref05_New (by simp) fun w0 I0 M0 m0 => ?_
  unfold c_centoref05_New
  have key : ∀ a b : Int, a = max z 1 → b = min (max m 0) 131072 → RetH (cxh Try.prog w0 I0 M0 15 m0) [.tmp 4] 1 (.pob [0] 1 0) (ov 0 (arF 0 (newAr z m)) (lkH [])) .ret ⟨lk [(4, .pob [0] 1 0)], lkH [([0], ⟨1, .cells [.sl true [], iv a, iv b, iv 0]⟩)]⟩ := by
    rintro a b rfl rfl
    refine reth_le (le_blankC (d := [0]) 0 [0, 0] 1 rfl rfl (by simp)) ?_
    simp
    refine reth_ret rfl rfl (fun i p hi => ?_)
    have hi0 : i = 0 := by omega
    subst hi0
    simp only [lkH_cons, lkH_nil, ov_cons, if_true]
    match p with
    | [] => rfl
    | [0] => rfl
    | [0, i] => rfl
    | (a + 1) :: q => rfl
    | 0 :: a :: b :: q => rfl
  by_cases h1 : z < 1
  · simp [h1]
    rw [k2_centoref05_New.eq_1]
    by_cases h2 : m < 0
    · simp [h2]
      rw [k1_centoref05_New.eq_1]
      simp
      exact key 1 0 (by omega) (by omega)
    · simp [h2]
      rw [k1_centoref05_New.eq_1]
      by_cases h3 : 131072 < m
      · simp [h3]
        exact key 1 131072 (by omega) (by omega)
      · simp [h3]
        exact key 1 m (by omega) (by omega)
  · simp [h1]
    rw [k2_centoref05_New.eq_1]
    by_cases h2 : m < 0
    · simp [h2]
      rw [k1_centoref05_New.eq_1]
      simp
      exact key z 0 (by omega) (by omega)
    · simp [h2]
      rw [k1_centoref05_New.eq_1]
      by_cases h3 : 131072 < m
      · simp [h3]
        exact key z 131072 (by omega) (by omega)
      · simp [h3]
        exact key z m (by omega) (by omega)
end Go.Proofs.Ytehcobkphobjiaa

/-
  Chapter 6: the document's answer.
-/
namespace Go.Proofs.Ytehcobkphobjiaa
set_option linter.unusedVariables false
set_option linter.unusedSimpArgs false
open Go Go.G Go.Proofs
theorem refWords_k1 {n : Nat} {w0 : World} {I0 : Nat → Prop} {p : Pt} {m r : Int} (m0 : 0 < m) (m1 : m ≤ 64) (n0 : 0 ≤ p.count) (n1 : p.count < 536870912) (hr : r = if 0 < p.count % m then p.count / m + 1 else p.count / m) :
    WPC (cx Try.prog w0 I0 n) k1_centoref04_Words (RetC Try.prog [.tmp 2] (iv r)) ⟨lk [(1, .pob [0] 1 0), (3, iv m)], lkH [([0], ⟨1, .cells [iv p.kind, iv p.off, iv p.data, iv p.ptrs, iv p.code, iv p.count, iv p.seg, bv p.dbl]⟩)]⟩ := by
  have hm : ¬ m = 0 := by omega
  have d1 : 0 ≤ p.count / m := Int.ediv_nonneg n0 (by omega)
  have d2 : p.count / m ≤ p.count := Int.ediv_le_self _ n0
  unfold k1_centoref04_Words
  simp [hm, Int.tmod_eq_emod_of_nonneg n0, Int.tdiv_eq_ediv_of_nonneg n0]
  simp (disch := omega) only [i64_same]
  refine ⟨fun h => ?_, fun h => ?_⟩
  · rw [hr, if_pos h]
    exact frz_bare rfl
  · rw [hr, if_neg (by omega)]
    exact frz_bare rfl
theorem refWords_spec (p : Pt) (hs : Sums p) : G.Spec Try.prog 198 [p.a] (iv ((wordsP p).getD (-1))) := by
  obtain ⟨s1, s2, s3, s4⟩ := hs
  refine spec_of t_centoref04_Words (by simp) fun w0 I0 => ?_
  unfold c_centoref04_Words
  simp
  have go : p.kind = 2 → 0 ≤ p.code → p.code ≤ 6 → 0 ≤ p.count → p.count < 536870912 → (wordsP p).getD (-1) = (p.count * bitsOf p.code + 63) / 64 := fun h2 b1 b2 b3 b4 => by
    rw [wordsP, if_neg (by omega), if_neg (by omega), if_pos ⟨h2, b1, b2, b3, by omega⟩]
    rfl
  refine ⟨fun h => ?_, fun h => ⟨fun h2 => ⟨fun h7 => ?_, fun h7 => ⟨fun hx => ?_, fun b1 b2 b3 b4 => ⟨fun c0 => ?_, fun c0 => ⟨fun c1 => ?_, fun c1 => ⟨fun c2 => ?_, fun c2 => ⟨fun c3 => ?_, fun c3 => ⟨fun c4 => ?_, fun c4 => ?_⟩⟩⟩⟩⟩⟩⟩, fun h2 => ?_⟩⟩
  · rw [i64_same s1 s2]
    exact frz_int (by simp [wordsP, h])
  · rw [i64_same s3 s4]
    exact frz_int (by simp [wordsP, h2, h7])
  · refine frz_int ?_
    rw [wordsP, if_neg h, if_neg (by omega), if_neg (by omega)]
    rfl
  · refine frz_int ?_
    rw [go h2 b1 b2 b3 b4, c0]
    simp [bitsOf]
  · refine refWords_k1 (m := 64) (by omega) (by omega) b3 b4 ?_
    rw [go h2 b1 b2 b3 b4, c1, show bitsOf 1 = 1 from rfl]
    split <;> omega
  · refine refWords_k1 (m := 8) (by omega) (by omega) b3 b4 ?_
    rw [go h2 b1 b2 b3 b4, c2, show bitsOf 2 = 8 from rfl]
    split <;> omega
  · refine refWords_k1 (m := 4) (by omega) (by omega) b3 b4 ?_
    rw [go h2 b1 b2 b3 b4, c3, show bitsOf 3 = 16 from rfl]
    split <;> omega
  · refine refWords_k1 (m := 2) (by omega) (by omega) b3 b4 ?_
    rw [go h2 b1 b2 b3 b4, c4, show bitsOf 4 = 32 from rfl]
    split <;> omega
  · refine refWords_k1 (m := 1) (by omega) (by omega) b3 b4 ?_
    have h56 : p.code = 5 ∨ p.code = 6 := by omega
    rw [go h2 b1 b2 b3 b4]
    have hb : bitsOf p.code = 64 := by rcases h56 with h | h <;> rw [h] <;> rfl
    rw [hb]; split <;> omega
  · refine frz_int ?_
    rw [wordsP, if_neg h, if_neg (by omega), if_neg (by omega)]
    rfl
theorem refHas_spec (l : List (List Int)) (s a : Int) : G.Spec Try.prog 162 [sgs l, iv s, iv a] (bv (word l s a).isSome) := by
  refine spec_of t_centoref06_has (by simp) fun w0 I0 => ?_
  unfold c_centoref06_has
  simp
  by_cases h : 0 ≤ s ∧ s < l.length ∧ 0 ≤ a
  · obtain ⟨h0, h1, h2⟩ := h
    obtain ⟨h3, e1⟩ := seg_in h0 h1
    simp [h0, h1, h2, h3]
    refine frz_bool ?_
    rw [Bool.eq_iff_iff]
    simp [word, h2, e1]
  · have hd : (decide (0 ≤ s) && decide (s < l.length) && decide (0 ≤ a)) = false := by
      rw [Bool.eq_false_iff]
      intro h'
      simp at h'
      exact h ⟨h'.1.1, h'.1.2, h'.2⟩
    simp [hd]
    refine ⟨fun h0 h1 h2 => absurd ⟨h0, h1, h2⟩ h, ?_⟩
    refine frz_bool ?_
    cases e : word l s a with
    | none => rfl
    | some x =>
      obtain ⟨k1, k2, k3, _⟩ := word_some e
      exact absurd ⟨k1, k2, k3⟩ h
set_option maxRecDepth 8000 in
theorem whole_spec (l : List (List Int)) (hb : ∀ x, x ∈ l → x.length * 8 ≤ 140737488355328) (x : Lc) (hs : Sums x.p) (h0 : ∀ n, wordsP x.p = some n → 0 ≤ n) : G.Spec Try.prog 164 [sgs l, x.a] (.tup [(insideP l x).1.a, iv (insideP l x).2]) := by
  refine spec_of t_centoref06_whole (by simp) fun w0 I0 => ?_
  unfold c_centoref06_whole
  simp
  refine sc_call (refWords_spec x.p hs) rfl ?_
  by_cases h : x.s < 0 ∨ l.length ≤ x.s ∨ x.at_ < 0
  · have hd : (decide (x.s < 0) || decide ((l.length : Int) ≤ x.s) || decide (x.at_ < 0)) = true := by
      simp
      omega
    have hh : hasW l x.s x.at_ ((wordsP x.p).getD 0) = false := by
      simp only [hasW, decide_eq_false_iff_not]
      omega
    simp [hd]
    refine frz_is rfl ?_
    simp [insideP, hh, Lc.zero, Pt.zero]
  · have k1 : 0 ≤ x.s := by omega
    have k2 : x.s < l.length := by omega
    have k3 : 0 ≤ x.at_ := by omega
    have k4 : ¬ (x.s < 0) := by omega
    have k5 : ¬ ((l.length : Int) ≤ x.s) := by omega
    have k6 : ¬ (x.at_ < 0) := by omega
    obtain ⟨k7, e1⟩ := seg_in k1 k2
    have hg := hb _ (List.getElem_mem k7)
    have hsz : szAt l x.s = l[x.s.toNat].length := by simp [szAt, e1]
    simp [k1, k2, k3, k4, k5, k6, k7]
    have hg2 : x.at_ ≤ l[x.s.toNat].length → IntKind.i64.wrap (l[x.s.toNat].length - x.at_) = l[x.s.toNat].length - x.at_ := fun h => i64_same (by omega) (by omega)
    have hw : hasW l x.s x.at_ ((wordsP x.p).getD 0) = true ↔ x.at_ ≤ l[x.s.toNat].length ∧ (wordsP x.p).getD (-1) ≤ l[x.s.toNat].length - x.at_ := by
      simp only [hasW, decide_eq_true_eq, hsz]
      cases e : wordsP x.p with
      | none => simp only [Option.getD_none]; omega
      | some n =>
        have := h0 n e
        simp only [Option.getD_some]; omega
    refine ⟨fun q => ?_, fun q1 q2 => ?_⟩
    · refine frz_is rfl ?_
      have hn : ¬ hasW l x.s x.at_ ((wordsP x.p).getD 0) = true := by
        rw [hw]
        rintro ⟨q1, q2⟩
        rw [hg2 q1] at q
        omega
      simp [insideP, hn, Lc.zero, Pt.zero]
    · refine frz_is rfl ?_
      rw [hg2 q1] at q2
      have hn := hw.2 ⟨q1, q2⟩
      simp [insideP, hn]
/-- A struct's or a list's pointer? -/
def shapeE (p : Pt) : Int := if p.kind = 4 then 9 else if p.kind ≠ 1 ∧ p.kind ≠ 2 then 8 else 0
theorem shape_spec (p : Pt) : G.Spec Try.prog 163 [p.a] (iv (shapeE p)) := by
  refine spec_of t_centoref06_shape (by simp) fun w0 I0 => ?_
  unfold c_centoref06_shape
  simp
  refine ⟨fun h => ?_, fun h => ⟨fun h1 h2 => ?_, fun h1 => ?_⟩⟩
  · exact frz_int (by simp [shapeE, h])
  · exact frz_int (by simp [shapeE, h, h1, h2])
  · refine frz_int ?_
    rw [shapeE, if_neg h, if_neg (by omega)]
theorem dec_words {w : Int} (h0 : 0 ≤ w) (h1 : w < 18446744073709551616) : ∀ n, wordsP (dec w) = some n → 0 ≤ n := by
  unfold dec
  repeat' split
  all_goals intro n
  all_goals simp only [wordsP, bitsOf]
  all_goals repeat' split
  all_goals intro h
  all_goals first | cases h | skip
  all_goals first | omega | skip
abbrev zs : List A := [iv 0, iv 0, iv 0, iv 0, iv 0, iv 0, iv 0, bv false, iv 0, iv 0]
theorem shapeE_is {p : Pt} : (shapeE p = 9 ∧ p.kind = 4) ∨ (shapeE p = 8 ∧ p.kind ≠ 4 ∧ p.kind ≠ 1 ∧ p.kind ≠ 2) ∨ (shapeE p = 0 ∧ (p.kind = 1 ∨ p.kind = 2)) := by
  unfold shapeE
  repeat' split
  all_goals omega
set_option maxRecDepth 8000 in
theorem refFollow_k2 {n : Nat} {w0 : World} {I0 : Nat → Prop} {l : List (List Int)} (hb : ∀ x, x ∈ l → x.length * 8 ≤ 140737488355328) {p : Pt} {s a : Int} (hs : Sums p) (h0 : ∀ n, wordsP p = some n → 0 ≤ n) (h1 : -1000000000000000000 ≤ a) (h2 : a ≤ 1000000000000000000) (h3 : -1000000000000000000 ≤ p.off) (h4 : p.off ≤ 1000000000000000000) :
    WPC (cx Try.prog w0 I0 n) k2_centoref06_Follow (RetC Try.prog [.cell 6 172, .tmp 7] (.tup [(nearP l p s a).1.a, iv (nearP l p s a).2])) ⟨lk [(0, sgs l), (1, iv s), (2, iv a), (6, .pob [0] 1 0), (8, .pob [1] 1 0)], lkH [([0], ⟨1, .cells zs⟩), ([1], ⟨1, .cells [iv p.kind, iv p.off, iv p.data, iv p.ptrs, iv p.code, iv p.count, iv p.seg, bv p.dbl]⟩)]⟩ := by
  unfold k2_centoref06_Follow
  simp
  refine sc_call (shape_spec p) rfl ?_
  simp
  rcases shapeE_is (p := p) with ⟨e, k⟩ | ⟨e, k⟩ | ⟨e, k⟩
  · simp [e]
    refine frz_is rfl ?_
    simp [nearP, k, Lc.zero, Pt.zero]
  · simp [e]
    refine frz_is rfl ?_
    simp [nearP, k, Lc.zero, Pt.zero]
  · simp [e]
    rw [i64_same (n := a + 1) (by omega) (by omega), i64_same (by omega) (by omega)]
    refine sc_call (whole_spec l hb ⟨p, s, a + 1 + p.off⟩ hs h0) rfl ?_
    simp
    refine frz_is rfl ?_
    simp [nearP, k]
set_option maxRecDepth 8000 in
theorem refFollow_k1 {n : Nat} {w0 : World} {I0 : Nat → Prop} {l : List (List Int)} (hb : ∀ x, x ∈ l → x.length * 8 ≤ 140737488355328) {p q : Pt} (hs : Sums q) (h0 : ∀ n, wordsP q = some n → 0 ≤ n) {e : Int} {x : Lc × Int} (hx : x = if e = 0 then insideP l ⟨q, p.seg, p.off⟩ else (Lc.zero, e)) {X : Sta → Prop} {v : VOb} :
    WPC (cx Try.prog w0 I0 n) k1_centoref06_Follow (ThenC X (RetC Try.prog [.cell 6 172, .tmp 7] (.tup [x.1.a, iv x.2]))) ⟨lk [(0, sgs l), (6, .pob [0] 1 0), (9, .pob [2] 1 0), (10, .pob [3] 1 0), (11, iv e)], lkH [([0], ⟨1, .cells zs⟩), ([1], v), ([2], ⟨1, .cells [iv p.kind, iv p.off, iv p.data, iv p.ptrs, iv p.code, iv p.count, iv p.seg, bv p.dbl]⟩), ([3], ⟨1, .cells [iv q.kind, iv q.off, iv q.data, iv q.ptrs, iv q.code, iv q.count, iv q.seg, bv q.dbl]⟩)]⟩ := by
  unfold k1_centoref06_Follow
  simp
  refine ⟨fun he => ?_, fun he => ?_⟩
  rotate_left
  · refine frz_is rfl ?_
    simp [hx, he, Lc.zero, Pt.zero]
  · refine sc_call (whole_spec l hb ⟨q, p.seg, p.off⟩ hs h0) rfl ?_
    simp
    refine frz_is rfl ?_
    simp [hx, he]
set_option maxRecDepth 8000 in
theorem refFollow_spec (l : List (List Int)) (hb : ∀ x, x ∈ l → x.length * 8 ≤ 140737488355328) (hw : Wds l) (s a : Int) :
    G.Spec Try.prog 115 [sgs l, iv s, iv a] (.tup [(followP l s a).1.a, iv (followP l s a).2]) := by
  refine spec_of t_centoref06_Follow (by simp) fun w0 I0 => ?_
  unfold c_centoref06_Follow
  simp
  refine sc_call (refHas_spec l s a) rfl ?_
  cases e1 : word l s a with
  | none =>
    simp
    refine frz_is rfl ?_
    simp [followP, e1, Lc.zero, Pt.zero]
  | some w =>
    obtain ⟨k1, k2, k3, k4, k5, rfl⟩ := word_some e1
    obtain ⟨v0, v1⟩ := word_in hw e1
    have hla := hb _ (List.getElem_mem k4)
    simp [k1, k2, k3, k4, k5]
    refine ⟨by omega, ?_⟩
    refine sc_call (refDecode_spec v0 v1) rfl ?_
    have hs := dec_sums v0 v1
    have hn := dec_words v0 v1
    obtain ⟨o1, o2, o3, o4⟩ := dec_off v0 v1
    generalize hv : dec l[s.toNat][a.toNat] = p at *
    have e : followP l s a = if p.kind = 0 then (Lc.zero, 0) else if p.kind ≠ 3 then nearP l p s a else if p.dbl = true then doubleP l p.seg p.off else match word l p.seg p.off with | none => (Lc.zero, 7) | some v => nearP l (dec v) p.seg p.off := by
      simp only [followP, e1, hv]
      rfl
    by_cases h0 : p.kind = 0
    · simp [h0]
      refine frz_is rfl ?_
      simp [e, h0, Lc.zero, Pt.zero]
    by_cases h3 : p.kind = 3
    · cases hd : p.dbl with
      | true =>
        simp [h3, hd]
        rw [if_neg h0, if_neg (by simp [h3]), if_pos hd] at e
        refine sc_call (refHas_spec l p.seg p.off) rfl ?_
        cases e2 : word l p.seg p.off with
        | none =>
          simp
          refine sc_call_gf rfl (fun _ => refHas_spec l p.seg (p.off + 1)) (fun e => by simp at e) rfl ?_
          simp
          refine frz_is rfl ?_
          simp [e, doubleP, e2, Lc.zero, Pt.zero]
        | some v =>
          simp
          rw [i64_same (by omega) (by omega)]
          refine sc_call_gf rfl (fun _ => refHas_spec l p.seg (p.off + 1)) (fun e => by simp [e]) rfl ?_
          cases e3 : word l p.seg (p.off + 1) with
          | none =>
            simp
            refine frz_is rfl ?_
            simp [e, doubleP, e2, e3, Lc.zero, Pt.zero]
          | some w =>
            obtain ⟨k1, k2, k3, k4, k5, rfl⟩ := word_some e2
            obtain ⟨_, _, k6, _, k7, rfl⟩ := word_some e3
            obtain ⟨v0, v1⟩ := word_in hw e2
            obtain ⟨w0', w1⟩ := word_in hw e3
            have dd : doubleP l p.seg p.off = if (dec l[p.seg.toNat][p.off.toNat]).kind ≠ 3 ∨ (dec l[p.seg.toNat][p.off.toNat]).dbl = true then (Lc.zero, 8) else if shapeE (dec l[p.seg.toNat][(p.off + 1).toNat]) = 0 ∧ (dec l[p.seg.toNat][(p.off + 1).toNat]).off = 0 then insideP l ⟨dec l[p.seg.toNat][(p.off + 1).toNat], (dec l[p.seg.toNat][p.off.toNat]).seg, (dec l[p.seg.toNat][p.off.toNat]).off⟩ else (Lc.zero, if shapeE (dec l[p.seg.toNat][(p.off + 1).toNat]) = 0 then 8 else shapeE (dec l[p.seg.toNat][(p.off + 1).toNat])) := by
              simp only [doubleP, e2, e3]
              generalize dec l[p.seg.toNat][p.off.toNat] = x
              generalize dec l[p.seg.toNat][(p.off + 1).toNat] = y
              split
              · rfl
              · rcases shapeE_is (p := y) with ⟨e, k⟩ | ⟨e, k⟩ | ⟨e, k⟩
                · simp [e, k]
                · simp [e, k]
                · rw [if_neg (by omega)]
                  simp [e]
                  by_cases ho : y.off = 0
                  · rw [if_neg (by omega), if_pos ho]
                  · rw [if_pos (by omega), if_neg ho]
            rw [e, dd]
            simp [k1, k2, k3, k4, k5, k6, k7]
            have hs := dec_sums w0' w1
            have hn := dec_words w0' w1
            refine ⟨by omega, ?_⟩
            refine sc_call (refDecode_spec v0 v1) rfl ?_
            simp [k1, k2, k3, k4, k5, k6, k7]
            rw [i64_same (by omega) (by omega)]
            simp [k6, k7]
            refine ⟨by omega, ?_⟩
            refine sc_call (refDecode_spec w0' w1) rfl ?_
            generalize dec l[p.seg.toNat][p.off.toNat] = x
            generalize dec l[p.seg.toNat][(p.off + 1).toNat] = y at *
            simp
            refine ⟨fun h => ?_, fun a1 a2 => ?_⟩
            · refine frz_is rfl ?_
              rw [if_pos h]
              rfl
            · rw [if_neg (by simp [a1, a2])]
              refine sc_call (shape_spec y) rfl ?_
              simp
              refine ⟨fun h1 h2 => ?_, fun h => ?_⟩
              · exact refFollow_k1 hb hs hn (by simp [h1, h2])
              · refine refFollow_k1 hb hs hn ?_
                by_cases h1 : shapeE y = 0
                · simp [h1, h h1]
                · simp [h1]
      | false =>
        simp [h3, hd]
        rw [if_neg h0, if_neg (by simp [h3]), if_neg (by simp [hd])] at e
        refine sc_call (refHas_spec l p.seg p.off) rfl ?_
        cases e2 : word l p.seg p.off with
        | none =>
          simp
          refine frz_is rfl ?_
          simp [e, e2, Lc.zero, Pt.zero]
        | some w =>
          obtain ⟨k1, k2, k3, k4, k5, rfl⟩ := word_some e2
          obtain ⟨v0, v1⟩ := word_in hw e2
          have hla := hb _ (List.getElem_mem k4)
          simp [k1, k2, k3, k4, k5]
          refine ⟨by omega, ?_⟩
          refine sc_call (refDecode_spec v0 v1) rfl ?_
          have hs := dec_sums v0 v1
          have hn := dec_words v0 v1
          obtain ⟨q1, q2, q3, q4⟩ := dec_off v0 v1
          rw [e2] at e
          simp only at e
          rw [e]
          simp
          exact refFollow_k2 hb hs hn (by omega) (by omega) (by omega) (by omega)
    · simp [h0, h3]
      rw [e, if_neg h0, if_pos h3]
      exact refFollow_k2 hb hs hn (by omega) (by omega) (by omega) (by omega)
end Go.Proofs.Ytehcobkphobjiaa
