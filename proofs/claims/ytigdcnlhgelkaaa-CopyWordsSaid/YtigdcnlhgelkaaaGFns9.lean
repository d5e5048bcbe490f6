/-
  The functions' text as data, and the facts on the types that they use: written by a program of ours (gen2.py) off the translation.
-/
import Derived.Test.YtigdcnlhgelkaaaProg
import Derived.Test.YtigdcnlhgelkaaaGSimp
import Derived.Test.YtigdcnlhgelkaaaGFnsA
import Derived.Test.YtigdcnlhgelkaaaGFns1
import Derived.Test.YtigdcnlhgelkaaaGFnsB
import Derived.Test.YtigdcnlhgelkaaaGFns7
import Derived.KernelRfl
namespace Go.Proofs.Ytigdcnlhgelkaaa
set_option linter.unusedVariables false
set_option linter.unusedSimpArgs false
set_option maxRecDepth 20000
open Go Go.G Go.Proofs

@[simp] theorem und_49 : Try.prog.underlying 49 = some (.int .i64) := by kernel_rfl
@[simp] theorem szT_40 : szT Try.prog 40 = some 4 := by kernel_rfl
@[simp] theorem szT_44 : szT Try.prog 44 = some 1 := by kernel_rfl
@[simp] theorem szT_47 : szT Try.prog 47 = some 8 := by kernel_rfl
@[simp] theorem szT_104 : szT Try.prog 104 = some 7 := by kernel_rfl
@[simp] theorem aggT_40 : aggT Try.prog 40 = some true := by kernel_rfl
@[simp] theorem aggT_44 : aggT Try.prog 44 = some false := by kernel_rfl
@[simp] theorem aggT_47 : aggT Try.prog 47 = some true := by kernel_rfl
@[simp] theorem aggT_104 : aggT Try.prog 104 = some true := by kernel_rfl
@[simp] theorem zeroT_40 : zeroT Try.prog 40 = some (Value.agg #[Value.int IntKind.i64 0, Value.int IntKind.i64 0, Value.int IntKind.i64 0, Value.int IntKind.i64 0]) := by kernel_rfl
@[simp] theorem zeroT_47 : zeroT Try.prog 47 = some (Value.agg #[Value.pointer none, Value.int IntKind.i64 0, Value.int IntKind.i64 0, Value.int IntKind.i64 0, Value.int IntKind.i64 0, Value.int IntKind.i64 0, Value.int IntKind.i64 0, Value.int IntKind.u64 0]) := by kernel_rfl
@[simp] theorem zeroT_104 : zeroT Try.prog 104 = some (Value.agg #[Value.int IntKind.i64 0, Value.int IntKind.i64 0, Value.int IntKind.i64 0, Value.int IntKind.i64 0, Value.int IntKind.i64 0, Value.int IntKind.i64 0, Value.int IntKind.u64 0]) := by kernel_rfl
@[simp] theorem fieldOffT_40_0 : fieldOffT Try.prog 40 0 = some 0 := by kernel_rfl
@[simp] theorem fieldOffT_40_1 : fieldOffT Try.prog 40 1 = some 1 := by kernel_rfl
@[simp] theorem fieldOffT_40_2 : fieldOffT Try.prog 40 2 = some 2 := by kernel_rfl
@[simp] theorem fieldOffT_40_3 : fieldOffT Try.prog 40 3 = some 3 := by kernel_rfl
@[simp] theorem fieldOffT_47_0 : fieldOffT Try.prog 47 0 = some 0 := by kernel_rfl
@[simp] theorem fieldOffT_47_1 : fieldOffT Try.prog 47 1 = some 1 := by kernel_rfl
@[simp] theorem fieldOffT_47_2 : fieldOffT Try.prog 47 2 = some 2 := by kernel_rfl
@[simp] theorem fieldOffT_47_3 : fieldOffT Try.prog 47 3 = some 3 := by kernel_rfl
@[simp] theorem fieldOffT_47_4 : fieldOffT Try.prog 47 4 = some 4 := by kernel_rfl
@[simp] theorem fieldOffT_47_5 : fieldOffT Try.prog 47 5 = some 5 := by kernel_rfl
@[simp] theorem fieldOffT_47_6 : fieldOffT Try.prog 47 6 = some 6 := by kernel_rfl
@[simp] theorem fieldOffT_47_7 : fieldOffT Try.prog 47 7 = some 7 := by kernel_rfl
@[simp] theorem fieldOffT_104_0 : fieldOffT Try.prog 104 0 = some 0 := by kernel_rfl
@[simp] theorem fieldOffT_104_1 : fieldOffT Try.prog 104 1 = some 1 := by kernel_rfl
@[simp] theorem fieldOffT_104_2 : fieldOffT Try.prog 104 2 = some 2 := by kernel_rfl
@[simp] theorem fieldOffT_104_3 : fieldOffT Try.prog 104 3 = some 3 := by kernel_rfl
@[simp] theorem fieldOffT_104_4 : fieldOffT Try.prog 104 4 = some 4 := by kernel_rfl
@[simp] theorem fieldOffT_104_5 : fieldOffT Try.prog 104 5 = some 5 := by kernel_rfl
@[simp] theorem fieldOffT_104_6 : fieldOffT Try.prog 104 6 = some 6 := by kernel_rfl
@[simp] theorem buildA_40 (ps : List (Nat × A)) : buildA Try.prog 40 ps = (fillA (fun i => ([(0, 1), (1, 1), (2, 1), (3, 1)] : List (Nat × Nat))[i]?) [A.v (Value.int IntKind.i64 0), A.v (Value.int IntKind.i64 0), A.v (Value.int IntKind.i64 0), A.v (Value.int IntKind.i64 0)] ps).map A.agg := by kernel_rfl
@[simp] theorem buildA_47 (ps : List (Nat × A)) : buildA Try.prog 47 ps = (fillA (fun i => ([(0, 1), (1, 1), (2, 1), (3, 1), (4, 1), (5, 1), (6, 1), (7, 1)] : List (Nat × Nat))[i]?) [A.v (Value.pointer none), A.v (Value.int IntKind.i64 0), A.v (Value.int IntKind.i64 0), A.v (Value.int IntKind.i64 0), A.v (Value.int IntKind.i64 0), A.v (Value.int IntKind.i64 0), A.v (Value.int IntKind.i64 0), A.v (Value.int IntKind.u64 0)] ps).map A.agg := by kernel_rfl
@[simp] theorem buildA_104 (ps : List (Nat × A)) : buildA Try.prog 104 ps = (fillA (fun i => ([(0, 1), (1, 1), (2, 1), (3, 1), (4, 1), (5, 1), (6, 1)] : List (Nat × Nat))[i]?) [A.v (Value.int IntKind.i64 0), A.v (Value.int IntKind.i64 0), A.v (Value.int IntKind.i64 0), A.v (Value.int IntKind.i64 0), A.v (Value.int IntKind.i64 0), A.v (Value.int IntKind.i64 0), A.v (Value.int IntKind.u64 0)] ps).map A.agg := by kernel_rfl


/-- (cento/reader.Ref).Kind -/
def c_reader_Ref_Kind : CC :=
  .seq (.reg [cn (some 1) (.box 47 (.tmp 0)) none [0],
      co (some 2) (.assign (.const (.int .i64 0))) none] [1])
  (.seq (.reg [co (some 3) (.fieldAddr 47 (.tmp 1) 1) none,
      co (some 4) (.load 3 (.tmp 3)) none,
      co (some 2) (.assign (.tmp 4)) none] [2])
  (.ret))
theorem t_reader_Ref_Kind : Txt Try.prog 60 5 [(.tmp 2)] c_reader_Ref_Kind := txt_of (code := Try.f60.body.getD .ret) mixed (by kernel_rfl) Try.func60 (by kernel_rfl) Try.ntmps60 (by kernel_rfl) (ls := [([1], [(0, [0])]), ([], []), ([2], []), ([], [])]) (by kernel_rfl)


/-- (cento/reader.Ref).Words -/
def c_reader_Ref_Words : CC :=
  .seq (.reg [cn (some 1) (.box 47 (.tmp 0)) none [0],
      co (some 2) (.assign (.const (.int .i64 0))) none] [1])
  (.seq (.seq (.reg [co (some 3) (.fieldAddr 47 (.tmp 1) 1) none,
        co (some 4) (.load 3 (.tmp 3)) none] [1, 4])
    (.block 0
      (.seq (.reg [co (some 6) (.binOp .eql 3 (.tmp 4) (.const (.int .i64 1)) 3) none,
          co (some 5) (.assign (.tmp 6)) none] [1, 4, 5])
      (.cond (.tmp 5)
        (.seq (.reg [co (some 7) (.fieldAddr 47 (.tmp 1) 4) none,
            co (some 8) (.load 3 (.tmp 7)) none,
            co (some 2) (.assign (.tmp 8)) none] [2])
        (.ret))
        (.seq (.reg [co (some 10) (.binOp .eql 3 (.tmp 4) (.const (.int .i64 10)) 3) none,
            co (some 9) (.assign (.tmp 10)) none] [9])
        (.cond (.tmp 9)
          (.seq (.reg [co (some 2) (.assign (.const (.int .i64 1))) none] [2])
          (.ret))
          (.skip)))))))
  (.keep [] (.seq (.reg [co (some 2) (.assign (.const (.int .i64 0))) none] [2])
  (.ret))))
theorem t_reader_Ref_Words : Txt Try.prog 78 11 [(.tmp 2)] c_reader_Ref_Words := txt_of (code := Try.f78.body.getD .ret) mixed (by kernel_rfl) Try.func78 (by kernel_rfl) Try.ntmps78 (by kernel_rfl) (ls := [([1], [(0, [0])]), ([], []), ([1, 4], []), ([], []), ([1, 4, 5], []), ([], []), ([2], []), ([], []), ([9], []), ([], []), ([2], []), ([], []), ([999999], []), ([2], []), ([], [])]) (by kernel_rfl)


/-- (cento/reader.Ref).Kids -/
def c_reader_Ref_Kids : CC :=
  .seq (.reg [cn (some 1) (.box 47 (.tmp 0)) none [0],
      co (some 2) (.assign (.const (.int .i64 0))) none] [1])
  (.seq (.seq (.reg [co (some 3) (.fieldAddr 47 (.tmp 1) 1) none,
        co (some 4) (.load 3 (.tmp 3)) none,
        co (some 5) (.binOp .eql 3 (.tmp 4) (.const (.int .i64 1)) 3) none] [1, 5])
    (.cond (.tmp 5)
      (.seq (.reg [co (some 6) (.fieldAddr 47 (.tmp 1) 5) none,
          co (some 7) (.load 3 (.tmp 6)) none,
          co (some 2) (.assign (.tmp 7)) none] [2])
      (.ret))
      (.skip)))
  (.keep [1] (.seq (.reg [co (some 8) (.fieldAddr 47 (.tmp 1) 6) none,
      co (some 9) (.load 3 (.tmp 8)) none,
      co (some 2) (.assign (.tmp 9)) none] [2])
  (.ret))))
theorem t_reader_Ref_Kids : Txt Try.prog 71 10 [(.tmp 2)] c_reader_Ref_Kids := txt_of (code := Try.f71.body.getD .ret) mixed (by kernel_rfl) Try.func71 (by kernel_rfl) Try.ntmps71 (by kernel_rfl) (ls := [([1], [(0, [0])]), ([], []), ([1, 5], []), ([], []), ([2], []), ([], []), ([999999, 1], []), ([2], []), ([], [])]) (by kernel_rfl)


/-- (cento/reader.Ref).Word -/
def c_reader_Ref_Word : CC :=
  .seq (.reg [cn (some 2) (.box 47 (.tmp 0)) none [0],
      co (some 4) (.assign (.const (.int .u64 0))) none] [1, 2])
  (.seq (.seq (.reg [co (some 7) (.move (.tmp 1)) none,
        co (some 8) (.binOp .lss 3 (.tmp 7) (.const (.int .i64 0)) 3) none,
        co (some 9) (.move (.tmp 8)) none,
        co (some 10) (.move (.tmp 1)) (some (9, false)),
        co (some 11) (.load 47 (.tmp 2)) (some (9, false)),
        co (some 12) (.call { callee := (.value (.func 78)), args := #[(.tmp 11)], argTypes := #[47] }) (some (9, false)),
        co (some 13) (.binOp .geq 3 (.tmp 10) (.tmp 12) 3) (some (9, false)),
        co (some 14) (.pick (.tmp 9) (.const (.bool true)) (.tmp 13)) none] [1, 2, 14])
    (.cond (.tmp 14)
      (.seq (.reg [co (some 4) (.assign (.const (.int .u64 0))) none] [4])
      (.ret))
      (.skip)))
  (.keep [1, 2] (.seq (.seq (.reg [co (some 15) (.fieldAddr 47 (.tmp 2) 1) none,
        co (some 16) (.load 3 (.tmp 15)) none,
        co (some 17) (.binOp .eql 3 (.tmp 16) (.const (.int .i64 10)) 3) none] [1, 2, 17])
    (.cond (.tmp 17)
      (.seq (.reg [co (some 18) (.fieldAddr 47 (.tmp 2) 7) none,
          co (some 19) (.load 45 (.tmp 18)) none,
          co (some 4) (.assign (.tmp 19)) none] [4])
      (.ret))
      (.skip)))
  (.keep [1, 2] (.seq (.reg [co (some 21) (.fieldAddr 47 (.tmp 2) 0) none,
      co (some 22) (.load 44 (.tmp 21)) none,
      co (some 23) (.fieldAddr 47 (.tmp 2) 2) none,
      co (some 24) (.load 3 (.tmp 23)) none,
      co (some 25) (.fieldAddr 47 (.tmp 2) 3) none,
      co (some 26) (.load 3 (.tmp 25)) none,
      co (some 27) (.move (.tmp 1)) none,
      co (some 28) (.binOp .add 3 (.tmp 26) (.tmp 27) 3) none,
      co (some 29) (.call { callee := (.value (.func 95)), args := #[(.tmp 22), (.tmp 24), (.tmp 28)], argTypes := #[44, 3, 3] }) none,
      co (some 20) (.move (.tmp 29)) none,
      co (some 30) (.extract (.tmp 20) 0) none,
      co (some 31) (.extract (.tmp 20) 1) none,
      co (some 5) (.assign (.tmp 30)) none,
      co (some 6) (.assign (.tmp 31)) none] [5])
  (.seq (.reg [co (some 32) (.move (.tmp 5)) none,
      co (some 4) (.assign (.tmp 32)) none] [4])
  (.ret)))))))
theorem t_reader_Ref_Word : Txt Try.prog 63 33 [(.tmp 4)] c_reader_Ref_Word := txt_of (code := Try.f63.body.getD .ret) mixed (by kernel_rfl) Try.func63 (by kernel_rfl) Try.ntmps63 (by kernel_rfl) (ls := [([1, 2], [(0, [0])]), ([], []), ([1, 2, 14], []), ([], []), ([4], []), ([], []), ([999999, 1, 2], []), ([1, 2, 17], []), ([], []), ([4], []), ([], []), ([999999, 1, 2], []), ([5], []), ([], []), ([4], []), ([], [])]) (by kernel_rfl)


/-- (cento/reader.Ref).atom -/
def c_reader_Ref_atom : CC :=
  .seq (.reg [cn (some 2) (.box 47 (.tmp 0)) none [0],
      co (some 4) (.assign (.const (.int .u64 0))) none] [1, 2])
  (.seq (.reg [co (some 11) (.fieldAddr 47 (.tmp 2) 1) none,
      co (some 12) (.load 3 (.tmp 11)) none,
      co (some 13) (.binOp .sub 3 (.tmp 12) (.const (.int .i64 2)) 3) none,
      co (some 5) (.assign (.tmp 13)) none] [1, 2, 5])
  (.seq (.reg [co (some 15) (.move (.tmp 5)) none,
      co (some 16) (.call { callee := (.value (.func 113)), args := #[(.tmp 15)], argTypes := #[3] }) none,
      co (some 14) (.move (.tmp 16)) none,
      co (some 17) (.extract (.tmp 14) 0) none,
      co (some 18) (.extract (.tmp 14) 1) none,
      co (some 6) (.assign (.tmp 17)) none,
      co (some 7) (.assign (.tmp 18)) none] [1, 2, 5, 6])
  (.seq (.seq (.reg [co (some 19) (.move (.tmp 6)) none,
        co (some 20) (.binOp .eql 3 (.tmp 19) (.const (.int .i64 0)) 3) none] [1, 2, 5, 6, 20])
    (.cond (.tmp 20)
      (.seq (.reg [co (some 4) (.assign (.const (.int .u64 0))) none] [4])
      (.ret))
      (.skip)))
  (.keep [1, 2, 5, 6] (.seq (.reg [co (some 21) (.move (.tmp 6)) none,
      co (some 22) (.binOp .quo 3 (.const (.int .i64 64)) (.tmp 21) 3) none,
      co (some 8) (.assign (.tmp 22)) none] [1, 2, 5, 8])
  (.seq (.reg [co (some 24) (.fieldAddr 47 (.tmp 2) 0) none,
      co (some 25) (.load 44 (.tmp 24)) none,
      co (some 26) (.fieldAddr 47 (.tmp 2) 2) none,
      co (some 27) (.load 3 (.tmp 26)) none,
      co (some 28) (.fieldAddr 47 (.tmp 2) 3) none,
      co (some 29) (.load 3 (.tmp 28)) none,
      co (some 30) (.move (.tmp 1)) none,
      co (some 31) (.move (.tmp 8)) none,
      co (some 32) (.binOp .quo 3 (.tmp 30) (.tmp 31) 3) none,
      co (some 33) (.binOp .add 3 (.tmp 29) (.tmp 32) 3) none,
      co (some 34) (.call { callee := (.value (.func 95)), args := #[(.tmp 25), (.tmp 27), (.tmp 33)], argTypes := #[44, 3, 3] }) none,
      co (some 23) (.move (.tmp 34)) none,
      co (some 35) (.extract (.tmp 23) 0) none,
      co (some 36) (.extract (.tmp 23) 1) none,
      co (some 9) (.assign (.tmp 35)) none,
      co (some 10) (.assign (.tmp 36)) none] [1, 5, 8, 9])
  (.seq (.reg [co (some 37) (.move (.tmp 9)) none,
      co (some 38) (.buildSlice 22 1 #[(0, (.tmp 37))]) none,
      co (some 39) (.move (.tmp 5)) none,
      co (some 40) (.move (.tmp 1)) none,
      co (some 41) (.move (.tmp 8)) none,
      co (some 42) (.binOp .rem 3 (.tmp 40) (.tmp 41) 3) none,
      co (some 43) (.call { callee := (.value (.func 114)), args := #[(.tmp 38), (.tmp 39), (.tmp 42)], argTypes := #[22, 3, 3] }) none,
      co (some 4) (.assign (.tmp 43)) none] [4])
  (.ret))))))))
theorem t_reader_Ref_atom : Txt Try.prog 77 44 [(.tmp 4)] c_reader_Ref_atom := txt_of (code := Try.f77.body.getD .ret) mixed (by kernel_rfl) Try.func77 (by kernel_rfl) Try.ntmps77 (by kernel_rfl) (ls := [([1, 2], [(0, [0])]), ([], []), ([1, 2, 5], []), ([], []), ([1, 2, 5, 6], []), ([], []), ([1, 2, 5, 6, 20], []), ([], []), ([4], []), ([], []), ([999999, 1, 2, 5, 6], []), ([1, 2, 5, 8], []), ([], []), ([1, 5, 8, 9], []), ([], []), ([4], []), ([], [])]) (by kernel_rfl)


/-- cento/reader.At -/
def c_reader_At : CC :=
  .seq (.reg [cn (some 6) (.alloc 47) none [0],
      co (some 7) (.assign (.const (.int .i64 0))) none] [0, 1, 2, 6])
  (.seq (.reg [co (some 12) (.move (.tmp 0)) none,
      co (some 13) (.move (.tmp 1)) none,
      co (some 14) (.move (.tmp 2)) none,
      co (some 15) (.call { callee := (.value (.func 103)), args := #[(.tmp 12), (.tmp 13), (.tmp 14)], argTypes := #[44, 3, 3] }) none,
      co (some 11) (.move (.tmp 15)) none,
      co (some 16) (.extract (.tmp 11) 0) none,
      co (some 17) (.extract (.tmp 11) 1) none,
      cn (some 8) (.alloc 165) none [1],
      co none (.store 165 (.tmp 8) (.tmp 16)) none,
      co (some 9) (.assign (.tmp 17)) none] [0, 6, 8, 9])
  (.seq (.seq (.reg [co (some 18) (.move (.tmp 9)) none,
        co (some 19) (.binOp .neq 49 (.tmp 18) (.const (.int .i64 0)) 49) none,
        co (some 20) (.move (.tmp 19)) none,
        co (some 21) (.fieldAddr 165 (.tmp 8) 0) (some (20, false)),
        co (some 22) (.fieldAddr 163 (.tmp 21) 0) (some (20, false)),
        co (some 23) (.load 3 (.tmp 22)) (some (20, false)),
        co (some 24) (.binOp .eql 3 (.tmp 23) (.const (.int .i64 0)) 3) (some (20, false)),
        co (some 25) (.pick (.tmp 20) (.const (.bool true)) (.tmp 24)) none] [0, 6, 8, 9, 25])
    (.cond (.tmp 25)
      (.seq (.reg [co (some 26) (.build 47 #[]) none,
          co (some 27) (.move (.tmp 9)) none,
          co none (.store 47 (.tmp 6) (.tmp 26)) none,
          co (some 7) (.assign (.tmp 27)) none] [6, 7])
      (.ret))
      (.skip)))
  (.keep [0, 6, 8] (.seq (.reg [co (some 28) (.move (.tmp 0)) none,
      co (some 29) (.fieldAddr 165 (.tmp 8) 1) none,
      co (some 30) (.load 3 (.tmp 29)) none,
      co (some 31) (.fieldAddr 165 (.tmp 8) 2) none,
      co (some 32) (.load 3 (.tmp 31)) none,
      co (some 33) (.build 47 #[(0, (.tmp 28)), (2, (.tmp 30)), (3, (.tmp 32))]) none,
      cn (some 10) (.alloc 47) none [2],
      co none (.store 47 (.tmp 10) (.tmp 33)) none] [6, 8, 10])
  (.seq (.block 0
      (.seq (.reg [co (some 42) (.fieldAddr 165 (.tmp 8) 0) none,
          co (some 43) (.fieldAddr 163 (.tmp 42) 0) none,
          co (some 44) (.load 3 (.tmp 43)) none,
          co (some 45) (.binOp .eql 3 (.tmp 44) (.const (.int .i64 1)) 3) none,
          co (some 41) (.assign (.tmp 45)) none] [6, 8, 10, 41])
      (.cond (.tmp 41)
        (.reg [co (some 46) (.fieldAddr 165 (.tmp 8) 0) none,
          co (some 47) (.fieldAddr 163 (.tmp 46) 2) none,
          ⟨some 48, (.load 3 (.tmp 47)), none, [], 2, [], true⟩,
          co (some 49) (.fieldAddr 165 (.tmp 8) 0) none,
          co (some 50) (.fieldAddr 163 (.tmp 49) 3) none,
          ⟨some 51, (.load 3 (.tmp 50)), none, [], 5, [], true⟩,
          co (some 52) (.fieldAddr 47 (.tmp 10) 1) none,
          ⟨none, (.store 3 (.tmp 52) (.const (.int .i64 1))), none, [], 7, [2, 5], false⟩,
          co (some 53) (.fieldAddr 47 (.tmp 10) 4) none,
          ⟨none, (.store 3 (.tmp 53) (.tmp 48)), none, [], 9, [5], false⟩,
          co (some 54) (.fieldAddr 47 (.tmp 10) 5) none,
          co none (.store 3 (.tmp 54) (.tmp 51)) none] [6, 10])
        (.seq (.reg [co (some 56) (.fieldAddr 165 (.tmp 8) 0) none,
            co (some 57) (.fieldAddr 163 (.tmp 56) 4) none,
            co (some 58) (.load 3 (.tmp 57)) none,
            co (some 59) (.binOp .lss 3 (.tmp 58) (.const (.int .i64 6)) 3) none,
            co (some 55) (.assign (.tmp 59)) none] [6, 8, 10, 55])
        (.cond (.tmp 55)
          (.reg [co (some 60) (.fieldAddr 165 (.tmp 8) 0) none,
            co (some 61) (.fieldAddr 163 (.tmp 60) 4) none,
            co (some 62) (.load 3 (.tmp 61)) none,
            co (some 63) (.binOp .add 3 (.const (.int .i64 2)) (.tmp 62) 3) none,
            co (some 64) (.fieldAddr 165 (.tmp 8) 0) none,
            co (some 65) (.fieldAddr 163 (.tmp 64) 5) none,
            ⟨some 66, (.load 3 (.tmp 65)), none, [], 6, [], true⟩,
            co (some 67) (.fieldAddr 47 (.tmp 10) 1) none,
            ⟨none, (.store 3 (.tmp 67) (.tmp 63)), none, [], 8, [6], false⟩,
            co (some 68) (.fieldAddr 47 (.tmp 10) 6) none,
            co none (.store 3 (.tmp 68) (.tmp 66)) none] [6, 10])
          (.seq (.reg [co (some 70) (.fieldAddr 165 (.tmp 8) 0) none,
              co (some 71) (.fieldAddr 163 (.tmp 70) 4) none,
              co (some 72) (.load 3 (.tmp 71)) none,
              co (some 73) (.binOp .eql 3 (.tmp 72) (.const (.int .i64 6)) 3) none,
              co (some 69) (.assign (.tmp 73)) none] [6, 8, 10, 69])
          (.cond (.tmp 69)
            (.reg [co (some 74) (.fieldAddr 165 (.tmp 8) 0) none,
              co (some 75) (.fieldAddr 163 (.tmp 74) 5) none,
              ⟨some 76, (.load 3 (.tmp 75)), none, [], 2, [], true⟩,
              co (some 77) (.fieldAddr 47 (.tmp 10) 1) none,
              ⟨none, (.store 3 (.tmp 77) (.const (.int .i64 8))), none, [], 4, [2], false⟩,
              co (some 78) (.fieldAddr 47 (.tmp 10) 6) none,
              co none (.store 3 (.tmp 78) (.tmp 76)) none] [6, 10])
            (.seq (.reg [co (some 34) (.load 47 (.tmp 10)) none,
                co (some 35) (.fieldAddr 165 (.tmp 8) 0) none,
                co (some 36) (.fieldAddr 163 (.tmp 35) 5) none,
                co (some 37) (.load 3 (.tmp 36)) none,
                co (some 38) (.call { callee := (.value (.func 104)), args := #[(.tmp 34), (.tmp 37)], argTypes := #[47, 3] }) none,
                co (some 39) (.extract (.tmp 38) 0) none,
                co (some 40) (.extract (.tmp 38) 1) none,
                co none (.store 47 (.tmp 6) (.tmp 39)) none,
                co (some 7) (.assign (.tmp 40)) none] [6, 7])
            (.ret)))))))))
  (.keep [6, 10] (.seq (.reg [co (some 79) (.load 47 (.tmp 10)) none,
      co none (.store 47 (.tmp 6) (.tmp 79)) none,
      co (some 7) (.assign (.const (.int .i64 0))) none] [6, 7])
  (.ret))))))))
theorem t_reader_At : Txt Try.prog 72 80 [(.cell 6 47), (.tmp 7)] c_reader_At := txt_of (code := Try.f72.body.getD .ret) mixed (by kernel_rfl) Try.func72 (by kernel_rfl) Try.ntmps72 (by kernel_rfl) (ls := [([0, 1, 2, 6], [(0, [0])]), ([], []), ([0, 6, 8, 9], [(7, [1])]), ([], []), ([0, 6, 8, 9, 25], []), ([], []), ([6, 7], []), ([], []), ([999999, 0, 6, 8], []), ([6, 8, 10], [(6, [2])]), ([], []), ([6, 8, 10, 41], []), ([], []), ([6, 10], []), ([6, 8, 10, 55], []), ([], []), ([6, 10], []), ([6, 8, 10, 69], []), ([], []), ([6, 10], []), ([6, 7], []), ([], []), ([999999, 6, 10], []), ([6, 7], []), ([], [])]) (by kernel_rfl)


/-- cento/reader.Root -/
def c_reader_Root : CC :=
  .seq (.reg [cn (some 2) (.alloc 47) none [0],
      co (some 3) (.assign (.const (.int .i64 0))) none] [0, 2])
  (.seq (.reg [co (some 4) (.move (.tmp 0)) none,
      co (some 5) (.call { callee := (.value (.func 72)), args := #[(.tmp 4), (.const (.int .i64 0)), (.const (.int .i64 0))], argTypes := #[44, 3, 3] }) none,
      co (some 6) (.extract (.tmp 5) 0) none,
      co (some 7) (.extract (.tmp 5) 1) none,
      co none (.store 47 (.tmp 2) (.tmp 6)) none,
      co (some 3) (.assign (.tmp 7)) none] [2, 3])
  (.ret))
theorem t_reader_Root : Txt Try.prog 38 8 [(.cell 2 47), (.tmp 3)] c_reader_Root := txt_of (code := Try.f38.body.getD .ret) mixed (by kernel_rfl) Try.func38 (by kernel_rfl) Try.ntmps38 (by kernel_rfl) (ls := [([0, 2], [(0, [0])]), ([], []), ([2, 3], []), ([], [])]) (by kernel_rfl)


/-- (cento/reader.Ref).composite -/
def c_reader_Ref_composite : CC :=
  .seq (.reg [cn (some 2) (.box 47 (.tmp 0)) none [0],
      cn (some 4) (.alloc 47) none [1],
      co (some 5) (.assign (.const (.int .i64 0))) none] [1, 2, 4])
  (.seq (.reg [co (some 10) (.fieldAddr 47 (.tmp 2) 0) none,
      co (some 11) (.load 44 (.tmp 10)) none,
      co (some 12) (.fieldAddr 47 (.tmp 2) 2) none,
      co (some 13) (.load 3 (.tmp 12)) none,
      co (some 14) (.fieldAddr 47 (.tmp 2) 3) none,
      co (some 15) (.load 3 (.tmp 14)) none,
      co (some 16) (.call { callee := (.value (.func 95)), args := #[(.tmp 11), (.tmp 13), (.tmp 15)], argTypes := #[44, 3, 3] }) none,
      co (some 9) (.move (.tmp 16)) none,
      co (some 17) (.extract (.tmp 9) 0) none,
      co (some 18) (.extract (.tmp 9) 1) none,
      co (some 6) (.assign (.tmp 17)) none,
      co (some 7) (.assign (.tmp 18)) none] [1, 2, 4, 6])
  (.seq (.reg [co (some 19) (.move (.tmp 6)) none,
      co (some 20) (.call { callee := (.value (.func 129)), args := #[(.tmp 19)], argTypes := #[45] }) none,
      cn (some 8) (.alloc 163) none [2],
      co none (.store 163 (.tmp 8) (.tmp 20)) none] [1, 2, 4, 6, 8])
  (.seq (.seq (.reg [co (some 21) (.move (.tmp 6)) none,
        co (some 22) (.binOp .neq 45 (.tmp 21) (.const (.int .u64 0)) 45) none,
        co (some 23) (.move (.tmp 22)) none,
        co (some 24) (.fieldAddr 163 (.tmp 8) 0) (some (23, true)),
        co (some 25) (.load 3 (.tmp 24)) (some (23, true)),
        co (some 26) (.binOp .neq 3 (.tmp 25) (.const (.int .i64 1)) 3) (some (23, true)),
        co (some 27) (.pick (.tmp 23) (.tmp 26) (.const (.bool false))) none,
        co (some 28) (.move (.tmp 27)) none,
        co (some 29) (.fieldAddr 163 (.tmp 8) 1) (some (28, false)),
        co (some 30) (.load 3 (.tmp 29)) (some (28, false)),
        co (some 31) (.binOp .lss 3 (.tmp 30) (.const (.int .i64 0)) 3) (some (28, false)),
        co (some 32) (.pick (.tmp 28) (.const (.bool true)) (.tmp 31)) none,
        co (some 33) (.move (.tmp 32)) none,
        co (some 34) (.fieldAddr 163 (.tmp 8) 1) (some (33, false)),
        co (some 35) (.load 3 (.tmp 34)) (some (33, false)),
        co (some 36) (.fieldAddr 163 (.tmp 8) 2) (some (33, false)),
        co (some 37) (.load 3 (.tmp 36)) (some (33, false)),
        co (some 38) (.fieldAddr 163 (.tmp 8) 3) (some (33, false)),
        co (some 39) (.load 3 (.tmp 38)) (some (33, false)),
        co (some 40) (.binOp .add 3 (.tmp 37) (.tmp 39) 3) (some (33, false)),
        co (some 41) (.binOp .mul 3 (.tmp 35) (.tmp 40) 3) (some (33, false)),
        co (some 42) (.move (.tmp 1)) (some (33, false)),
        co (some 43) (.binOp .gtr 3 (.tmp 41) (.tmp 42) 3) (some (33, false)),
        co (some 44) (.pick (.tmp 33) (.const (.bool true)) (.tmp 43)) none] [2, 4, 8, 44])
    (.cond (.tmp 44)
      (.seq (.reg [co (some 45) (.build 47 #[]) none,
          co none (.store 47 (.tmp 4) (.tmp 45)) none,
          co (some 5) (.assign (.const (.int .i64 8))) none] [4, 5])
      (.ret))
      (.skip)))
  (.keep [2, 4, 8] (.seq (.reg [co (some 46) (.fieldAddr 47 (.tmp 2) 3) none,
      co (some 47) (.load 3 (.tmp 46)) none,
      co (some 48) (.binOp .add 3 (.tmp 47) (.const (.int .i64 1)) 3) none,
      co (some 49) (.fieldAddr 47 (.tmp 2) 1) none,
      co none (.store 3 (.tmp 49) (.const (.int .i64 9))) none,
      co (some 50) (.fieldAddr 47 (.tmp 2) 3) none,
      co none (.store 3 (.tmp 50) (.tmp 48)) none] [2, 4, 8])
  (.seq (.reg [co (some 51) (.fieldAddr 163 (.tmp 8) 1) none,
      co (some 52) (.load 3 (.tmp 51)) none,
      co (some 53) (.fieldAddr 163 (.tmp 8) 2) none,
      ⟨some 54, (.load 3 (.tmp 53)), none, [], 3, [], true⟩,
      co (some 55) (.fieldAddr 163 (.tmp 8) 3) none,
      ⟨some 56, (.load 3 (.tmp 55)), none, [], 5, [], true⟩,
      co (some 57) (.fieldAddr 47 (.tmp 2) 6) none,
      ⟨none, (.store 3 (.tmp 57) (.tmp 52)), none, [], 7, [3, 5], false⟩,
      co (some 58) (.fieldAddr 47 (.tmp 2) 4) none,
      ⟨none, (.store 3 (.tmp 58) (.tmp 54)), none, [], 9, [5], false⟩,
      co (some 59) (.fieldAddr 47 (.tmp 2) 5) none,
      co none (.store 3 (.tmp 59) (.tmp 56)) none] [2, 4])
  (.seq (.reg [co (some 60) (.load 47 (.tmp 2)) none,
      co none (.store 47 (.tmp 4) (.tmp 60)) none,
      co (some 5) (.assign (.const (.int .i64 0))) none] [4, 5])
  (.ret))))))))
theorem t_reader_Ref_composite : Txt Try.prog 104 61 [(.cell 4 47), (.tmp 5)] c_reader_Ref_composite := txt_of (code := Try.f104.body.getD .ret) mixed (by kernel_rfl) Try.func104 (by kernel_rfl) Try.ntmps104 (by kernel_rfl) (ls := [([1, 2, 4], [(0, [0]), (1, [1])]), ([], []), ([1, 2, 4, 6], []), ([], []), ([1, 2, 4, 6, 8], [(2, [2])]), ([], []), ([2, 4, 8, 44], []), ([], []), ([4, 5], []), ([], []), ([999999, 2, 4, 8], []), ([2, 4, 8], []), ([], []), ([2, 4], []), ([], []), ([4, 5], []), ([], [])]) (by kernel_rfl)


/-- (cento/reader.Ref).Kid -/
def c_reader_Ref_Kid : CC :=
  .seq (.reg [cn (some 2) (.box 47 (.tmp 0)) none [0],
      cn (some 4) (.alloc 47) none [1],
      co (some 5) (.assign (.const (.int .i64 0))) none] [1, 2, 4])
  (.seq (.seq (.reg [co (some 6) (.move (.tmp 1)) none,
        co (some 7) (.binOp .lss 3 (.tmp 6) (.const (.int .i64 0)) 3) none,
        co (some 8) (.move (.tmp 7)) none,
        co (some 9) (.move (.tmp 1)) (some (8, false)),
        co (some 10) (.load 47 (.tmp 2)) (some (8, false)),
        co (some 11) (.call { callee := (.value (.func 71)), args := #[(.tmp 10)], argTypes := #[47] }) (some (8, false)),
        co (some 12) (.binOp .geq 3 (.tmp 9) (.tmp 11) 3) (some (8, false)),
        co (some 13) (.pick (.tmp 8) (.const (.bool true)) (.tmp 12)) none] [1, 2, 4, 13])
    (.cond (.tmp 13)
      (.seq (.reg [co (some 14) (.build 47 #[]) none,
          co none (.store 47 (.tmp 4) (.tmp 14)) none,
          co (some 5) (.assign (.const (.int .i64 0))) none] [4, 5])
      (.ret))
      (.skip)))
  (.keep [1, 2, 4] (.seq (.seq (.reg [co (some 15) (.fieldAddr 47 (.tmp 2) 1) none,
        co (some 16) (.load 3 (.tmp 15)) none] [1, 2, 4, 16])
    (.block 0
      (.seq (.reg [co (some 18) (.binOp .eql 3 (.tmp 16) (.const (.int .i64 1)) 3) none,
          co (some 17) (.assign (.tmp 18)) none] [1, 2, 4, 16, 17])
      (.cond (.tmp 17)
        (.seq (.reg [co (some 19) (.fieldAddr 47 (.tmp 2) 0) none,
            co (some 20) (.load 44 (.tmp 19)) none,
            co (some 21) (.fieldAddr 47 (.tmp 2) 2) none,
            co (some 22) (.load 3 (.tmp 21)) none,
            co (some 23) (.fieldAddr 47 (.tmp 2) 3) none,
            co (some 24) (.load 3 (.tmp 23)) none,
            co (some 25) (.fieldAddr 47 (.tmp 2) 4) none,
            co (some 26) (.load 3 (.tmp 25)) none,
            co (some 27) (.binOp .add 3 (.tmp 24) (.tmp 26) 3) none,
            co (some 28) (.move (.tmp 1)) none,
            co (some 29) (.binOp .add 3 (.tmp 27) (.tmp 28) 3) none,
            co (some 30) (.call { callee := (.value (.func 72)), args := #[(.tmp 20), (.tmp 22), (.tmp 29)], argTypes := #[44, 3, 3] }) none,
            co (some 31) (.extract (.tmp 30) 0) none,
            co (some 32) (.extract (.tmp 30) 1) none,
            co none (.store 47 (.tmp 4) (.tmp 31)) none,
            co (some 5) (.assign (.tmp 32)) none] [4, 5])
        (.ret))
        (.seq (.reg [co (some 34) (.binOp .eql 3 (.tmp 16) (.const (.int .i64 8)) 3) none,
            co (some 33) (.assign (.tmp 34)) none] [1, 2, 4, 16, 33])
        (.cond (.tmp 33)
          (.seq (.reg [co (some 35) (.fieldAddr 47 (.tmp 2) 0) none,
              co (some 36) (.load 44 (.tmp 35)) none,
              co (some 37) (.fieldAddr 47 (.tmp 2) 2) none,
              co (some 38) (.load 3 (.tmp 37)) none,
              co (some 39) (.fieldAddr 47 (.tmp 2) 3) none,
              co (some 40) (.load 3 (.tmp 39)) none,
              co (some 41) (.move (.tmp 1)) none,
              co (some 42) (.binOp .add 3 (.tmp 40) (.tmp 41) 3) none,
              co (some 43) (.call { callee := (.value (.func 72)), args := #[(.tmp 36), (.tmp 38), (.tmp 42)], argTypes := #[44, 3, 3] }) none,
              co (some 44) (.extract (.tmp 43) 0) none,
              co (some 45) (.extract (.tmp 43) 1) none,
              co none (.store 47 (.tmp 4) (.tmp 44)) none,
              co (some 5) (.assign (.tmp 45)) none] [4, 5])
          (.ret))
          (.seq (.reg [co (some 47) (.binOp .eql 3 (.tmp 16) (.const (.int .i64 9)) 3) none,
              co (some 46) (.assign (.tmp 47)) none] [1, 2, 4, 46])
          (.cond (.tmp 46)
            (.seq (.reg [co (some 48) (.fieldAddr 47 (.tmp 2) 0) none,
                co (some 49) (.load 44 (.tmp 48)) none,
                co (some 50) (.fieldAddr 47 (.tmp 2) 2) none,
                co (some 51) (.load 3 (.tmp 50)) none,
                co (some 52) (.fieldAddr 47 (.tmp 2) 3) none,
                co (some 53) (.load 3 (.tmp 52)) none,
                co (some 54) (.move (.tmp 1)) none,
                co (some 55) (.fieldAddr 47 (.tmp 2) 4) none,
                co (some 56) (.load 3 (.tmp 55)) none,
                co (some 57) (.fieldAddr 47 (.tmp 2) 5) none,
                co (some 58) (.load 3 (.tmp 57)) none,
                co (some 59) (.binOp .add 3 (.tmp 56) (.tmp 58) 3) none,
                co (some 60) (.binOp .mul 3 (.tmp 54) (.tmp 59) 3) none,
                co (some 61) (.binOp .add 3 (.tmp 53) (.tmp 60) 3) none,
                co (some 62) (.fieldAddr 47 (.tmp 2) 4) none,
                co (some 63) (.load 3 (.tmp 62)) none,
                co (some 64) (.fieldAddr 47 (.tmp 2) 5) none,
                co (some 65) (.load 3 (.tmp 64)) none,
                co (some 66) (.build 47 #[(0, (.tmp 49)), (1, (.const (.int .i64 1))), (2, (.tmp 51)), (3, (.tmp 61)), (4, (.tmp 63)), (5, (.tmp 65))]) none,
                co none (.store 47 (.tmp 4) (.tmp 66)) none,
                co (some 5) (.assign (.const (.int .i64 0))) none] [4, 5])
            (.ret))
            (.skip)))))))))
  (.keep [1, 2, 4] (.seq (.reg [co (some 67) (.fieldAddr 47 (.tmp 2) 0) none,
      ⟨some 68, (.load 44 (.tmp 67)), none, [], 1, [], true⟩,
      co (some 69) (.load 47 (.tmp 2)) none,
      co (some 70) (.move (.tmp 1)) none,
      ⟨some 71, (.call { callee := (.value (.func 77)), args := #[(.tmp 69), (.tmp 70)], argTypes := #[47, 3] }), none, [], 4, [1], false⟩,
      co (some 72) (.build 47 #[(0, (.tmp 68)), (1, (.const (.int .i64 10))), (7, (.tmp 71))]) none,
      co none (.store 47 (.tmp 4) (.tmp 72)) none,
      co (some 5) (.assign (.const (.int .i64 0))) none] [4, 5])
  (.ret))))))
theorem t_reader_Ref_Kid : Txt Try.prog 43 73 [(.cell 4 47), (.tmp 5)] c_reader_Ref_Kid := txt_of (code := Try.f43.body.getD .ret) mixed (by kernel_rfl) Try.func43 (by kernel_rfl) Try.ntmps43 (by kernel_rfl) (ls := [([1, 2, 4], [(0, [0]), (1, [1])]), ([], []), ([1, 2, 4, 13], []), ([], []), ([4, 5], []), ([], []), ([999999, 1, 2, 4], []), ([1, 2, 4, 16], []), ([], []), ([1, 2, 4, 16, 17], []), ([], []), ([4, 5], []), ([], []), ([1, 2, 4, 16, 33], []), ([], []), ([4, 5], []), ([], []), ([1, 2, 4, 46], []), ([], []), ([4, 5], []), ([], []), ([999999, 1, 2, 4], []), ([4, 5], []), ([], [])]) (by kernel_rfl)

def l1_copy_Long : CC :=
  .seq (.seq (.reg [co (some 6) (.move (.tmp 3)) none,
        co (some 7) (.binOp .gtr 3 (.tmp 6) (.const (.int .i64 0)) 3) none,
        co (some 8) (.move (.tmp 7)) none,
        co (some 9) (.load 47 (.tmp 1)) (some (8, true)),
        co (some 10) (.move (.tmp 3)) (some (8, true)),
        co (some 11) (.binOp .sub 3 (.tmp 10) (.const (.int .i64 1)) 3) (some (8, true)),
        co (some 12) (.call { callee := (.value (.func 63)), args := #[(.tmp 9), (.tmp 11)], argTypes := #[47, 3] }) (some (8, true)),
        co (some 13) (.binOp .eql 45 (.tmp 12) (.const (.int .u64 0)) 45) (some (8, true)),
        co (some 14) (.pick (.tmp 8) (.tmp 13) (.const (.bool false))) none] [1, 3, 14])
    (.cond (.tmp 14)
      (.skip)
      (.exit 0)))
  (.keep [1, 3] (.block 1
    (.reg [co (some 15) (.move (.tmp 3)) none,
      co (some 16) (.binOp .sub 3 (.tmp 15) (.const (.int .i64 1)) 3) none,
      co (some 3) (.assign (.tmp 16)) none] [1, 3])))

/-- cento/copy.Long -/
def c_copy_Long : CC :=
  .seq (.reg [cn (some 1) (.box 47 (.tmp 0)) none [0],
      co (some 2) (.assign (.const (.int .i64 0))) none] [1])
  (.seq (.reg [co (some 4) (.load 47 (.tmp 1)) none,
      co (some 5) (.call { callee := (.value (.func 78)), args := #[(.tmp 4)], argTypes := #[47] }) none,
      co (some 3) (.assign (.tmp 5)) none] [1, 3])
  (.seq (.block 0
      (.loop l1_copy_Long))
  (.keep [3] (.seq (.reg [co (some 17) (.move (.tmp 3)) none,
      co (some 2) (.assign (.tmp 17)) none] [2])
  (.ret)))))
theorem t_copy_Long : Txt Try.prog 45 18 [(.tmp 2)] c_copy_Long := txt_of (code := Try.f45.body.getD .ret) mixed (by kernel_rfl) Try.func45 (by kernel_rfl) Try.ntmps45 (by kernel_rfl) (ls := [([1], [(0, [0])]), ([], []), ([1, 3], []), ([], []), ([1, 3, 14], []), ([], []), ([999999, 1, 3], []), ([1, 3], []), ([999999, 3], []), ([2], []), ([], [])]) (by kernel_rfl)

def l1_copy_Wide : CC :=
  .seq (.seq (.reg [co (some 9) (.move (.tmp 4)) none,
        co (some 10) (.binOp .gtr 3 (.tmp 9) (.const (.int .i64 0)) 3) none] [1, 4, 10])
    (.cond (.tmp 10)
      (.skip)
      (.exit 0)))
  (.keep [1, 4] (.block 1
    (.seq (.reg [co (some 12) (.load 47 (.tmp 1)) none,
        co (some 13) (.move (.tmp 4)) none,
        co (some 14) (.binOp .sub 3 (.tmp 13) (.const (.int .i64 1)) 3) none,
        co (some 15) (.call { callee := (.value (.func 43)), args := #[(.tmp 12), (.tmp 14)], argTypes := #[47, 3] }) none,
        co (some 11) (.move (.tmp 15)) none,
        co (some 16) (.extract (.tmp 11) 0) none,
        co (some 17) (.extract (.tmp 11) 1) none,
        cn (some 5) (.alloc 47) none [1],
        co none (.store 47 (.tmp 5) (.tmp 16)) none,
        co (some 6) (.assign (.tmp 17)) none] [1, 4, 5, 6])
    (.seq (.seq (.reg [co (some 18) (.move (.tmp 6)) none,
          co (some 19) (.binOp .neq 49 (.tmp 18) (.const (.int .i64 0)) 49) none,
          co (some 20) (.move (.tmp 19)) none,
          co (some 21) (.load 47 (.tmp 5)) (some (20, false)),
          co (some 22) (.call { callee := (.value (.func 60)), args := #[(.tmp 21)], argTypes := #[47] }) (some (20, false)),
          co (some 23) (.binOp .neq 3 (.tmp 22) (.const (.int .i64 0)) 3) (some (20, false)),
          co (some 24) (.pick (.tmp 20) (.const (.bool true)) (.tmp 23)) none] [1, 4, 6, 24])
      (.cond (.tmp 24)
        (.seq (.reg [co (some 25) (.move (.tmp 4)) none,
            co (some 26) (.move (.tmp 6)) none,
            co (some 2) (.assign (.tmp 25)) none,
            co (some 3) (.assign (.tmp 26)) none] [2, 3])
        (.ret))
        (.skip)))
    (.keep [1, 4] (.reg [co (some 27) (.move (.tmp 4)) none,
      co (some 28) (.binOp .sub 3 (.tmp 27) (.const (.int .i64 1)) 3) none,
      co (some 4) (.assign (.tmp 28)) none] [1, 4]))))))

/-- cento/copy.Wide -/
def c_copy_Wide : CC :=
  .seq (.reg [cn (some 1) (.box 47 (.tmp 0)) none [0],
      co (some 2) (.assign (.const (.int .i64 0))) none,
      co (some 3) (.assign (.const (.int .i64 0))) none] [1])
  (.seq (.reg [co (some 7) (.load 47 (.tmp 1)) none,
      co (some 8) (.call { callee := (.value (.func 71)), args := #[(.tmp 7)], argTypes := #[47] }) none,
      co (some 4) (.assign (.tmp 8)) none] [1, 4])
  (.seq (.block 0
      (.loop l1_copy_Wide))
  (.keep [] (.seq (.reg [co (some 2) (.assign (.const (.int .i64 0))) none,
      co (some 3) (.assign (.const (.int .i64 0))) none] [2, 3])
  (.ret)))))
theorem t_copy_Wide : Txt Try.prog 44 29 [(.tmp 2), (.tmp 3)] c_copy_Wide := txt_of (code := Try.f44.body.getD .ret) mixed (by kernel_rfl) Try.func44 (by kernel_rfl) Try.ntmps44 (by kernel_rfl) (ls := [([1], [(0, [0])]), ([], []), ([1, 4], []), ([], []), ([1, 4, 10], []), ([], []), ([999999, 1, 4], []), ([1, 4, 5, 6], [(7, [1])]), ([], []), ([1, 4, 6, 24], []), ([], []), ([2, 3], []), ([], []), ([999999, 1, 4], []), ([1, 4], []), ([999999], []), ([2, 3], []), ([], [])]) (by kernel_rfl)


/-- cento/equal.kids -/
def c_equal_kids : CC :=
  .seq (.reg [cn (some 1) (.box 47 (.tmp 0)) none [0],
      co (some 2) (.assign (.const (.int .i64 0))) none,
      co (some 3) (.assign (.const (.int .i64 0))) none] [1])
  (.seq (.seq (.reg [co (some 4) (.load 47 (.tmp 1)) none,
        co (some 5) (.call { callee := (.value (.func 60)), args := #[(.tmp 4)], argTypes := #[47] }) none,
        co (some 6) (.binOp .eql 3 (.tmp 5) (.const (.int .i64 1)) 3) none] [1, 6])
    (.cond (.tmp 6)
      (.seq (.reg [co (some 7) (.load 47 (.tmp 1)) none,
          co (some 8) (.call { callee := (.value (.func 44)), args := #[(.tmp 7)], argTypes := #[47] }) none,
          co (some 9) (.extract (.tmp 8) 0) none,
          co (some 10) (.extract (.tmp 8) 1) none,
          co (some 2) (.assign (.tmp 9)) none,
          co (some 3) (.assign (.tmp 10)) none] [2, 3])
      (.ret))
      (.skip)))
  (.keep [1] (.seq (.reg [co (some 11) (.load 47 (.tmp 1)) none,
      co (some 12) (.call { callee := (.value (.func 71)), args := #[(.tmp 11)], argTypes := #[47] }) none,
      co (some 2) (.assign (.tmp 12)) none,
      co (some 3) (.assign (.const (.int .i64 0))) none] [2, 3])
  (.ret))))
theorem t_equal_kids : Txt Try.prog 61 13 [(.tmp 2), (.tmp 3)] c_equal_kids := txt_of (code := Try.f61.body.getD .ret) mixed (by kernel_rfl) Try.func61 (by kernel_rfl) Try.ntmps61 (by kernel_rfl) (ls := [([1], [(0, [0])]), ([], []), ([1, 6], []), ([], []), ([2, 3], []), ([], []), ([999999, 1], []), ([2, 3], []), ([], [])]) (by kernel_rfl)


/-- cento/equal.words -/
def c_equal_words : CC :=
  .seq (.reg [cn (some 1) (.box 47 (.tmp 0)) none [0],
      co (some 2) (.assign (.const (.int .i64 0))) none] [1])
  (.seq (.seq (.reg [co (some 3) (.load 47 (.tmp 1)) none,
        co (some 4) (.call { callee := (.value (.func 60)), args := #[(.tmp 3)], argTypes := #[47] }) none,
        co (some 5) (.binOp .eql 3 (.tmp 4) (.const (.int .i64 1)) 3) none] [1, 5])
    (.cond (.tmp 5)
      (.seq (.reg [co (some 6) (.load 47 (.tmp 1)) none,
          co (some 7) (.call { callee := (.value (.func 45)), args := #[(.tmp 6)], argTypes := #[47] }) none,
          co (some 2) (.assign (.tmp 7)) none] [2])
      (.ret))
      (.skip)))
  (.keep [1] (.seq (.reg [co (some 8) (.load 47 (.tmp 1)) none,
      co (some 9) (.call { callee := (.value (.func 78)), args := #[(.tmp 8)], argTypes := #[47] }) none,
      co (some 2) (.assign (.tmp 9)) none] [2])
  (.ret))))
theorem t_equal_words : Txt Try.prog 62 10 [(.tmp 2)] c_equal_words := txt_of (code := Try.f62.body.getD .ret) mixed (by kernel_rfl) Try.func62 (by kernel_rfl) Try.ntmps62 (by kernel_rfl) (ls := [([1], [(0, [0])]), ([], []), ([1, 5], []), ([], []), ([2], []), ([], []), ([999999, 1], []), ([2], []), ([], [])]) (by kernel_rfl)

def l1_equal_alike : CC :=
  .seq (.reg [co (some 48) (.binOp .lss 3 (.tmp 47) (.tmp 46) 3) none] [2, 3, 7, 10, 46, 47, 48])
  (.seq (.cond (.tmp 48)
      (.skip)
      (.exit 0))
  (.keep [2, 3, 7, 10, 46, 47] (.seq (.block 1
      (.seq (.reg [co (some 49) (.move (.tmp 47)) none,
          co (some 11) (.assign (.tmp 49)) none] [2, 3, 7, 10, 11, 46, 47])
      (.seq (.reg [co (some 50) (.move (.tmp 10)) none,
          co (some 51) (.load 47 (.tmp 2)) none,
          co (some 52) (.move (.tmp 11)) none,
          ⟨some 53, (.call { callee := (.value (.tmp 50)), args := #[(.tmp 51), (.tmp 52)], argTypes := #[47, 3] }), none, [], 3, [], true⟩,
          co (some 54) (.move (.tmp 10)) none,
          ⟨some 55, (.load 47 (.tmp 3)), none, [], 5, [3], false⟩,
          co (some 56) (.move (.tmp 11)) none,
          co (some 57) (.call { callee := (.value (.tmp 54)), args := #[(.tmp 55), (.tmp 56)], argTypes := #[47, 3] }) none,
          co (some 58) (.binOp .neq 45 (.tmp 53) (.tmp 57) 45) none] [2, 3, 7, 10, 46, 47, 58])
      (.cond (.tmp 58)
        (.seq (.reg [co (some 4) (.assign (.const (.int .i64 0))) none,
            co (some 5) (.assign (.const (.bool false))) none,
            co (some 6) (.assign (.const (.int .i64 0))) none] [4, 5, 6])
        (.ret))
        (.skip)))))
  (.keep [2, 3, 7, 10, 46, 47] (.reg [co (some 59) (.binOp .add 3 (.tmp 47) (.const (.int .i64 1)) 3) none,
    co (some 47) (.move (.tmp 59)) none] [2, 3, 7, 10, 46, 47])))))

/-- cento/equal.alike -/
def c_equal_alike : CC :=
  .seq (.reg [cn (some 2) (.box 47 (.tmp 0)) none [0],
      cn (some 3) (.box 47 (.tmp 1)) none [1],
      co (some 4) (.assign (.const (.int .i64 0))) none,
      co (some 5) (.assign (.const (.bool false))) none,
      co (some 6) (.assign (.const (.int .i64 0))) none] [2, 3])
  (.seq (.seq (.reg [co (some 12) (.load 47 (.tmp 2)) none,
        ⟨some 13, (.call { callee := (.value (.func 60)), args := #[(.tmp 12)], argTypes := #[47] }), none, [], 1, [], true⟩,
        ⟨some 14, (.load 47 (.tmp 3)), none, [], 2, [1], false⟩,
        co (some 15) (.call { callee := (.value (.func 60)), args := #[(.tmp 14)], argTypes := #[47] }) none,
        co (some 16) (.binOp .neq 3 (.tmp 13) (.tmp 15) 3) none,
        co (some 17) (.move (.tmp 16)) none,
        co (some 18) (.load 47 (.tmp 2)) (some (17, false)),
        ⟨some 19, (.call { callee := (.value (.func 62)), args := #[(.tmp 18)], argTypes := #[47] }), (some (17, false)), [], 7, [], true⟩,
        ⟨some 20, (.load 47 (.tmp 3)), (some (17, false)), [], 8, [7], false⟩,
        co (some 21) (.call { callee := (.value (.func 62)), args := #[(.tmp 20)], argTypes := #[47] }) (some (17, false)),
        co (some 22) (.binOp .neq 3 (.tmp 19) (.tmp 21) 3) (some (17, false)),
        co (some 23) (.pick (.tmp 17) (.const (.bool true)) (.tmp 22)) none] [2, 3, 23])
    (.cond (.tmp 23)
      (.seq (.reg [co (some 4) (.assign (.const (.int .i64 0))) none,
          co (some 5) (.assign (.const (.bool false))) none,
          co (some 6) (.assign (.const (.int .i64 0))) none] [4, 5, 6])
      (.ret))
      (.skip)))
  (.keep [2, 3] (.seq (.reg [co (some 25) (.load 47 (.tmp 2)) none,
      co (some 26) (.call { callee := (.value (.func 61)), args := #[(.tmp 25)], argTypes := #[47] }) none,
      co (some 24) (.move (.tmp 26)) none,
      co (some 27) (.extract (.tmp 24) 0) none,
      co (some 28) (.extract (.tmp 24) 1) none,
      co (some 7) (.assign (.tmp 27)) none,
      co (some 8) (.assign (.tmp 28)) none] [2, 3, 7, 8])
  (.seq (.seq (.reg [co (some 29) (.move (.tmp 8)) none,
        co (some 30) (.binOp .neq 49 (.tmp 29) (.const (.int .i64 0)) 49) none] [2, 3, 7, 8, 30])
    (.cond (.tmp 30)
      (.seq (.reg [co (some 31) (.move (.tmp 8)) none,
          co (some 4) (.assign (.const (.int .i64 0))) none,
          co (some 5) (.assign (.const (.bool false))) none,
          co (some 6) (.assign (.tmp 31)) none] [4, 5, 6])
      (.ret))
      (.skip)))
  (.keep [2, 3, 7] (.seq (.reg [co (some 33) (.load 47 (.tmp 3)) none,
      co (some 34) (.call { callee := (.value (.func 61)), args := #[(.tmp 33)], argTypes := #[47] }) none,
      co (some 32) (.move (.tmp 34)) none,
      co (some 35) (.extract (.tmp 32) 0) none,
      co (some 36) (.extract (.tmp 32) 1) none,
      co (some 9) (.assign (.tmp 35)) none,
      co (some 8) (.assign (.tmp 36)) none] [2, 3, 7, 8, 9])
  (.seq (.seq (.reg [co (some 37) (.move (.tmp 8)) none,
        co (some 38) (.binOp .neq 49 (.tmp 37) (.const (.int .i64 0)) 49) none,
        co (some 39) (.move (.tmp 38)) none,
        co (some 40) (.move (.tmp 7)) (some (39, false)),
        co (some 41) (.move (.tmp 9)) (some (39, false)),
        co (some 42) (.binOp .neq 3 (.tmp 40) (.tmp 41) 3) (some (39, false)),
        co (some 43) (.pick (.tmp 39) (.const (.bool true)) (.tmp 42)) none] [2, 3, 7, 8, 43])
    (.cond (.tmp 43)
      (.seq (.reg [co (some 44) (.move (.tmp 8)) none,
          co (some 4) (.assign (.const (.int .i64 0))) none,
          co (some 5) (.assign (.const (.bool false))) none,
          co (some 6) (.assign (.tmp 44)) none] [4, 5, 6])
      (.ret))
      (.skip)))
  (.keep [2, 3, 7] (.seq (.reg [co (some 10) (.assign (.func 63)) none] [2, 3, 7, 10])
  (.seq (.seq (.reg [co (some 45) (.load 47 (.tmp 2)) none,
        co (some 46) (.call { callee := (.value (.func 62)), args := #[(.tmp 45)], argTypes := #[47] }) none,
        co (some 47) (.move (.const (.int .i64 0))) none] [2, 3, 7, 10, 46, 47])
    (.block 0
      (.loop l1_equal_alike)))
  (.keep [7] (.seq (.reg [co (some 60) (.move (.tmp 7)) none,
      co (some 4) (.assign (.tmp 60)) none,
      co (some 5) (.assign (.const (.bool true))) none,
      co (some 6) (.assign (.const (.int .i64 0))) none] [4, 5, 6])
  (.ret)))))))))))))
theorem t_equal_alike : Txt Try.prog 58 61 [(.tmp 4), (.tmp 5), (.tmp 6)] c_equal_alike := txt_of (code := Try.f58.body.getD .ret) mixed (by kernel_rfl) Try.func58 (by kernel_rfl) Try.ntmps58 (by kernel_rfl) (ls := [([2, 3], [(0, [0]), (1, [1])]), ([], []), ([2, 3, 23], []), ([], []), ([4, 5, 6], []), ([], []), ([999999, 2, 3], []), ([2, 3, 7, 8], []), ([], []), ([2, 3, 7, 8, 30], []), ([], []), ([4, 5, 6], []), ([], []), ([999999, 2, 3, 7], []), ([2, 3, 7, 8, 9], []), ([], []), ([2, 3, 7, 8, 43], []), ([], []), ([4, 5, 6], []), ([], []), ([999999, 2, 3, 7], []), ([2, 3, 7, 10], []), ([], []), ([2, 3, 7, 10, 46, 47], []), ([], []), ([2, 3, 7, 10, 46, 47, 48], []), ([], []), ([999999, 2, 3, 7, 10, 46, 47], []), ([2, 3, 7, 10, 11, 46, 47], []), ([], []), ([2, 3, 7, 10, 46, 47, 58], []), ([], []), ([4, 5, 6], []), ([], []), ([999999, 2, 3, 7, 10, 46, 47], []), ([2, 3, 7, 10, 46, 47], []), ([999999, 7], []), ([4, 5, 6], []), ([], [])]) (by kernel_rfl)

def l1_equal_Values : CC :=
  .seq (.reg [co (some 31) (.binOp .lss 3 (.tmp 30) (.tmp 29) 3) none] [2, 3, 29, 30, 31])
  (.seq (.cond (.tmp 31)
      (.skip)
      (.exit 0))
  (.keep [2, 3, 29, 30] (.seq (.block 1
      (.seq (.reg [co (some 32) (.move (.tmp 30)) none,
          co (some 9) (.assign (.tmp 32)) none] [2, 3, 9, 29, 30])
      (.seq (.reg [co (some 34) (.load 47 (.tmp 2)) none,
          co (some 35) (.move (.tmp 9)) none,
          co (some 36) (.call { callee := (.value (.func 43)), args := #[(.tmp 34), (.tmp 35)], argTypes := #[47, 3] }) none,
          co (some 33) (.move (.tmp 36)) none,
          co (some 37) (.extract (.tmp 33) 0) none,
          co (some 38) (.extract (.tmp 33) 1) none,
          cn (some 10) (.alloc 47) none [2],
          co none (.store 47 (.tmp 10) (.tmp 37)) none,
          co (some 11) (.assign (.tmp 38)) none] [2, 3, 9, 10, 11, 29, 30])
      (.seq (.seq (.reg [co (some 39) (.move (.tmp 11)) none,
            co (some 40) (.binOp .neq 49 (.tmp 39) (.const (.int .i64 0)) 49) none] [2, 3, 9, 10, 11, 29, 30, 40])
        (.cond (.tmp 40)
          (.seq (.reg [co (some 41) (.move (.tmp 11)) none,
              co (some 4) (.assign (.const (.bool false))) none,
              co (some 5) (.assign (.tmp 41)) none] [4, 5])
          (.ret))
          (.skip)))
      (.keep [2, 3, 9, 10, 29, 30] (.seq (.reg [co (some 43) (.load 47 (.tmp 3)) none,
          co (some 44) (.move (.tmp 9)) none,
          co (some 45) (.call { callee := (.value (.func 43)), args := #[(.tmp 43), (.tmp 44)], argTypes := #[47, 3] }) none,
          co (some 42) (.move (.tmp 45)) none,
          co (some 46) (.extract (.tmp 42) 0) none,
          co (some 47) (.extract (.tmp 42) 1) none,
          cn (some 12) (.alloc 47) none [3],
          co none (.store 47 (.tmp 12) (.tmp 46)) none,
          co (some 11) (.assign (.tmp 47)) none] [2, 3, 10, 11, 12, 29, 30])
      (.seq (.seq (.reg [co (some 48) (.move (.tmp 11)) none,
            co (some 49) (.binOp .neq 49 (.tmp 48) (.const (.int .i64 0)) 49) none] [2, 3, 10, 11, 12, 29, 30, 49])
        (.cond (.tmp 49)
          (.seq (.reg [co (some 50) (.move (.tmp 11)) none,
              co (some 4) (.assign (.const (.bool false))) none,
              co (some 5) (.assign (.tmp 50)) none] [4, 5])
          (.ret))
          (.skip)))
      (.keep [2, 3, 10, 12, 29, 30] (.seq (.reg [co (some 52) (.load 47 (.tmp 10)) none,
          co (some 53) (.load 47 (.tmp 12)) none,
          co (some 54) (.call { callee := (.value (.func 23)), args := #[(.tmp 52), (.tmp 53)], argTypes := #[47, 47] }) none,
          co (some 51) (.move (.tmp 54)) none,
          co (some 55) (.extract (.tmp 51) 0) none,
          co (some 56) (.extract (.tmp 51) 1) none,
          co (some 13) (.assign (.tmp 55)) none,
          co (some 14) (.assign (.tmp 56)) none] [2, 3, 13, 14, 29, 30])
      (.seq (.reg [co (some 57) (.move (.tmp 14)) none,
          co (some 58) (.binOp .neq 49 (.tmp 57) (.const (.int .i64 0)) 49) none,
          co (some 59) (.move (.tmp 58)) none,
          co (some 60) (.move (.tmp 13)) (some (59, false)),
          co (some 61) (.unOp .not 4 (.tmp 60)) (some (59, false)),
          co (some 62) (.pick (.tmp 59) (.const (.bool true)) (.tmp 61)) none] [2, 3, 14, 29, 30, 62])
      (.cond (.tmp 62)
        (.seq (.reg [co (some 63) (.move (.tmp 14)) none,
            co (some 4) (.assign (.const (.bool false))) none,
            co (some 5) (.assign (.tmp 63)) none] [4, 5])
        (.ret))
        (.skip))))))))))))
  (.keep [2, 3, 29, 30] (.reg [co (some 64) (.binOp .add 3 (.tmp 30) (.const (.int .i64 1)) 3) none,
    co (some 30) (.move (.tmp 64)) none] [2, 3, 29, 30])))))

/-- cento/equal.Values -/
def c_equal_Values : CC :=
  .seq (.reg [cn (some 2) (.box 47 (.tmp 0)) none [0],
      cn (some 3) (.box 47 (.tmp 1)) none [1],
      co (some 4) (.assign (.const (.bool false))) none,
      co (some 5) (.assign (.const (.int .i64 0))) none] [2, 3])
  (.seq (.reg [co (some 16) (.load 47 (.tmp 2)) none,
      co (some 17) (.load 47 (.tmp 3)) none,
      co (some 18) (.call { callee := (.value (.func 58)), args := #[(.tmp 16), (.tmp 17)], argTypes := #[47, 47] }) none,
      co (some 15) (.move (.tmp 18)) none,
      co (some 19) (.extract (.tmp 15) 0) none,
      co (some 20) (.extract (.tmp 15) 1) none,
      co (some 21) (.extract (.tmp 15) 2) none,
      co (some 6) (.assign (.tmp 19)) none,
      co (some 7) (.assign (.tmp 20)) none,
      co (some 8) (.assign (.tmp 21)) none] [2, 3, 6, 7, 8])
  (.seq (.seq (.reg [co (some 22) (.move (.tmp 8)) none,
        co (some 23) (.binOp .neq 49 (.tmp 22) (.const (.int .i64 0)) 49) none,
        co (some 24) (.move (.tmp 23)) none,
        co (some 25) (.move (.tmp 7)) (some (24, false)),
        co (some 26) (.unOp .not 4 (.tmp 25)) (some (24, false)),
        co (some 27) (.pick (.tmp 24) (.const (.bool true)) (.tmp 26)) none] [2, 3, 6, 8, 27])
    (.cond (.tmp 27)
      (.seq (.reg [co (some 28) (.move (.tmp 8)) none,
          co (some 4) (.assign (.const (.bool false))) none,
          co (some 5) (.assign (.tmp 28)) none] [4, 5])
      (.ret))
      (.skip)))
  (.keep [2, 3, 6] (.seq (.seq (.reg [co (some 29) (.move (.tmp 6)) none,
        co (some 30) (.move (.const (.int .i64 0))) none] [2, 3, 29, 30])
    (.block 0
      (.loop l1_equal_Values)))
  (.keep [] (.seq (.reg [co (some 4) (.assign (.const (.bool true))) none,
      co (some 5) (.assign (.const (.int .i64 0))) none] [4, 5])
  (.ret)))))))
theorem t_equal_Values : Txt Try.prog 23 65 [(.tmp 4), (.tmp 5)] c_equal_Values := txt_of (code := Try.f23.body.getD .ret) mixed (by kernel_rfl) Try.func23 (by kernel_rfl) Try.ntmps23 (by kernel_rfl) (ls := [([2, 3], [(0, [0]), (1, [1])]), ([], []), ([2, 3, 6, 7, 8], []), ([], []), ([2, 3, 6, 8, 27], []), ([], []), ([4, 5], []), ([], []), ([999999, 2, 3, 6], []), ([2, 3, 29, 30], []), ([], []), ([2, 3, 29, 30, 31], []), ([], []), ([999999, 2, 3, 29, 30], []), ([2, 3, 9, 29, 30], []), ([], []), ([2, 3, 9, 10, 11, 29, 30], [(6, [2])]), ([], []), ([2, 3, 9, 10, 11, 29, 30, 40], []), ([], []), ([4, 5], []), ([], []), ([999999, 2, 3, 9, 10, 29, 30], []), ([2, 3, 10, 11, 12, 29, 30], [(6, [3])]), ([], []), ([2, 3, 10, 11, 12, 29, 30, 49], []), ([], []), ([4, 5], []), ([], []), ([999999, 2, 3, 10, 12, 29, 30], []), ([2, 3, 13, 14, 29, 30], []), ([], []), ([2, 3, 14, 29, 30, 62], []), ([], []), ([4, 5], []), ([], []), ([999999, 2, 3, 29, 30], []), ([2, 3, 29, 30], []), ([999999], []), ([4, 5], []), ([], [])]) (by kernel_rfl)


/-- cento/centoref09.At -/
def c_centoref09_At : CC :=
  .seq (.reg [cn (some 6) (.alloc 104) none [0],
      co (some 7) (.assign (.const (.int .i64 0))) none] [0, 1, 2, 6])
  (.seq (.reg [co (some 13) (.move (.tmp 0)) none,
      co (some 14) (.move (.tmp 1)) none,
      co (some 15) (.move (.tmp 2)) none,
      co (some 16) (.call { callee := (.value (.func 89)), args := #[(.tmp 13), (.tmp 14), (.tmp 15)], argTypes := #[38, 3, 3] }) none,
      co (some 12) (.move (.tmp 16)) none,
      co (some 17) (.extract (.tmp 12) 0) none,
      co (some 18) (.extract (.tmp 12) 1) none,
      cn (some 8) (.alloc 150) none [1],
      co none (.store 150 (.tmp 8) (.tmp 17)) none,
      co (some 9) (.assign (.tmp 18)) none] [0, 6, 8, 9])
  (.seq (.seq (.reg [co (some 19) (.move (.tmp 9)) none,
        co (some 20) (.binOp .neq 3 (.tmp 19) (.const (.int .i64 0)) 3) none,
        co (some 21) (.move (.tmp 20)) none,
        co (some 22) (.fieldAddr 150 (.tmp 8) 0) (some (21, false)),
        co (some 23) (.fieldAddr 148 (.tmp 22) 0) (some (21, false)),
        co (some 24) (.load 3 (.tmp 23)) (some (21, false)),
        co (some 25) (.binOp .eql 3 (.tmp 24) (.const (.int .i64 0)) 3) (some (21, false)),
        co (some 26) (.pick (.tmp 21) (.const (.bool true)) (.tmp 25)) none] [0, 6, 8, 9, 26])
    (.cond (.tmp 26)
      (.seq (.reg [co (some 27) (.build 104 #[]) none,
          co (some 28) (.move (.tmp 9)) none,
          co none (.store 104 (.tmp 6) (.tmp 27)) none,
          co (some 7) (.assign (.tmp 28)) none] [6, 7])
      (.ret))
      (.skip)))
  (.keep [0, 6, 8] (.seq (.seq (.reg [co (some 29) (.fieldAddr 150 (.tmp 8) 0) none,
        co (some 30) (.fieldAddr 148 (.tmp 29) 0) none,
        co (some 31) (.load 3 (.tmp 30)) none,
        co (some 32) (.binOp .eql 3 (.tmp 31) (.const (.int .i64 1)) 3) none] [0, 6, 8, 32])
    (.cond (.tmp 32)
      (.seq (.reg [co (some 33) (.fieldAddr 150 (.tmp 8) 1) none,
          co (some 34) (.load 3 (.tmp 33)) none,
          co (some 35) (.fieldAddr 150 (.tmp 8) 2) none,
          co (some 36) (.load 3 (.tmp 35)) none,
          co (some 37) (.fieldAddr 150 (.tmp 8) 0) none,
          co (some 38) (.fieldAddr 148 (.tmp 37) 2) none,
          co (some 39) (.load 3 (.tmp 38)) none,
          co (some 40) (.fieldAddr 150 (.tmp 8) 0) none,
          co (some 41) (.fieldAddr 148 (.tmp 40) 3) none,
          co (some 42) (.load 3 (.tmp 41)) none,
          co (some 43) (.build 104 #[(0, (.const (.int .i64 1))), (1, (.tmp 34)), (2, (.tmp 36)), (3, (.tmp 39)), (4, (.tmp 42))]) none,
          co none (.store 104 (.tmp 6) (.tmp 43)) none,
          co (some 7) (.assign (.const (.int .i64 0))) none] [6, 7])
      (.ret))
      (.skip)))
  (.keep [0, 6, 8] (.seq (.seq (.reg [co (some 44) (.fieldAddr 150 (.tmp 8) 0) none,
        co (some 45) (.fieldAddr 148 (.tmp 44) 4) none,
        co (some 46) (.load 3 (.tmp 45)) none,
        co (some 47) (.binOp .lss 3 (.tmp 46) (.const (.int .i64 7)) 3) none] [0, 6, 8, 47])
    (.cond (.tmp 47)
      (.seq (.reg [co (some 48) (.fieldAddr 150 (.tmp 8) 0) none,
          co (some 49) (.fieldAddr 148 (.tmp 48) 4) none,
          co (some 50) (.load 3 (.tmp 49)) none,
          co (some 51) (.binOp .add 3 (.const (.int .i64 2)) (.tmp 50) 3) none,
          co (some 52) (.fieldAddr 150 (.tmp 8) 1) none,
          co (some 53) (.load 3 (.tmp 52)) none,
          co (some 54) (.fieldAddr 150 (.tmp 8) 2) none,
          co (some 55) (.load 3 (.tmp 54)) none,
          co (some 56) (.fieldAddr 150 (.tmp 8) 0) none,
          co (some 57) (.fieldAddr 148 (.tmp 56) 5) none,
          co (some 58) (.load 3 (.tmp 57)) none,
          co (some 59) (.build 104 #[(0, (.tmp 51)), (1, (.tmp 53)), (2, (.tmp 55)), (5, (.tmp 58))]) none,
          co none (.store 104 (.tmp 6) (.tmp 59)) none,
          co (some 7) (.assign (.const (.int .i64 0))) none] [6, 7])
      (.ret))
      (.skip)))
  (.keep [0, 6, 8] (.seq (.reg [co (some 60) (.move (.tmp 0)) none,
      co (some 61) (.fieldAddr 150 (.tmp 8) 1) none,
      co (some 62) (.load 3 (.tmp 61)) none,
      co (some 63) (.indexAddr 38 (.tmp 60) (.tmp 62)) none,
      co (some 64) (.load 22 (.tmp 63)) none,
      co (some 65) (.fieldAddr 150 (.tmp 8) 2) none,
      co (some 66) (.load 3 (.tmp 65)) none,
      co (some 67) (.indexAddr 22 (.tmp 64) (.tmp 66)) none,
      co (some 68) (.load 45 (.tmp 67)) none,
      co (some 10) (.assign (.tmp 68)) none] [6, 8, 10])
  (.seq (.reg [co (some 69) (.move (.tmp 10)) none,
      co (some 70) (.call { callee := (.value (.func 90)), args := #[(.tmp 69)], argTypes := #[45] }) none,
      cn (some 11) (.alloc 148) none [2],
      co none (.store 148 (.tmp 11) (.tmp 70)) none] [6, 8, 10, 11])
  (.seq (.seq (.reg [co (some 71) (.move (.tmp 10)) none,
        co (some 72) (.binOp .neq 45 (.tmp 71) (.const (.int .u64 0)) 45) none,
        co (some 73) (.move (.tmp 72)) none,
        co (some 74) (.fieldAddr 148 (.tmp 11) 0) (some (73, true)),
        co (some 75) (.load 3 (.tmp 74)) (some (73, true)),
        co (some 76) (.binOp .neq 3 (.tmp 75) (.const (.int .i64 1)) 3) (some (73, true)),
        co (some 77) (.pick (.tmp 73) (.tmp 76) (.const (.bool false))) none,
        co (some 78) (.move (.tmp 77)) none,
        co (some 79) (.fieldAddr 148 (.tmp 11) 1) (some (78, false)),
        co (some 80) (.load 3 (.tmp 79)) (some (78, false)),
        co (some 81) (.binOp .lss 3 (.tmp 80) (.const (.int .i64 0)) 3) (some (78, false)),
        co (some 82) (.pick (.tmp 78) (.const (.bool true)) (.tmp 81)) none,
        co (some 83) (.move (.tmp 82)) none,
        co (some 84) (.fieldAddr 148 (.tmp 11) 1) (some (83, false)),
        co (some 85) (.load 3 (.tmp 84)) (some (83, false)),
        co (some 86) (.fieldAddr 148 (.tmp 11) 2) (some (83, false)),
        co (some 87) (.load 3 (.tmp 86)) (some (83, false)),
        co (some 88) (.fieldAddr 148 (.tmp 11) 3) (some (83, false)),
        co (some 89) (.load 3 (.tmp 88)) (some (83, false)),
        co (some 90) (.binOp .add 3 (.tmp 87) (.tmp 89) 3) (some (83, false)),
        co (some 91) (.binOp .mul 3 (.tmp 85) (.tmp 90) 3) (some (83, false)),
        co (some 92) (.fieldAddr 150 (.tmp 8) 0) (some (83, false)),
        co (some 93) (.fieldAddr 148 (.tmp 92) 5) (some (83, false)),
        co (some 94) (.load 3 (.tmp 93)) (some (83, false)),
        co (some 95) (.binOp .gtr 3 (.tmp 91) (.tmp 94) 3) (some (83, false)),
        co (some 96) (.pick (.tmp 83) (.const (.bool true)) (.tmp 95)) none] [6, 8, 11, 96])
    (.cond (.tmp 96)
      (.seq (.reg [co (some 97) (.build 104 #[]) none,
          co none (.store 104 (.tmp 6) (.tmp 97)) none,
          co (some 7) (.assign (.const (.int .i64 8))) none] [6, 7])
      (.ret))
      (.skip)))
  (.keep [6, 8, 11] (.seq (.reg [co (some 98) (.fieldAddr 150 (.tmp 8) 1) none,
      co (some 99) (.load 3 (.tmp 98)) none,
      co (some 100) (.fieldAddr 150 (.tmp 8) 2) none,
      co (some 101) (.load 3 (.tmp 100)) none,
      co (some 102) (.binOp .add 3 (.tmp 101) (.const (.int .i64 1)) 3) none,
      co (some 103) (.fieldAddr 148 (.tmp 11) 2) none,
      co (some 104) (.load 3 (.tmp 103)) none,
      co (some 105) (.fieldAddr 148 (.tmp 11) 3) none,
      co (some 106) (.load 3 (.tmp 105)) none,
      co (some 107) (.fieldAddr 148 (.tmp 11) 1) none,
      co (some 108) (.load 3 (.tmp 107)) none,
      co (some 109) (.build 104 #[(0, (.const (.int .i64 9))), (1, (.tmp 99)), (2, (.tmp 102)), (3, (.tmp 104)), (4, (.tmp 106)), (5, (.tmp 108))]) none,
      co none (.store 104 (.tmp 6) (.tmp 109)) none,
      co (some 7) (.assign (.const (.int .i64 0))) none] [6, 7])
  (.ret)))))))))))))
theorem t_centoref09_At : Txt Try.prog 56 110 [(.cell 6 104), (.tmp 7)] c_centoref09_At := txt_of (code := Try.f56.body.getD .ret) mixed (by kernel_rfl) Try.func56 (by kernel_rfl) Try.ntmps56 (by kernel_rfl) (ls := [([0, 1, 2, 6], [(0, [0])]), ([], []), ([0, 6, 8, 9], [(7, [1])]), ([], []), ([0, 6, 8, 9, 26], []), ([], []), ([6, 7], []), ([], []), ([999999, 0, 6, 8], []), ([0, 6, 8, 32], []), ([], []), ([6, 7], []), ([], []), ([999999, 0, 6, 8], []), ([0, 6, 8, 47], []), ([], []), ([6, 7], []), ([], []), ([999999, 0, 6, 8], []), ([6, 8, 10], []), ([], []), ([6, 8, 10, 11], [(2, [2])]), ([], []), ([6, 8, 11, 96], []), ([], []), ([6, 7], []), ([], []), ([999999, 6, 8, 11], []), ([6, 7], []), ([], [])]) (by kernel_rfl)


/-- (cento/centoref09.Ref).Kids -/
def c_centoref09_Ref_Kids : CC :=
  .seq (.reg [cn (some 1) (.box 104 (.tmp 0)) none [0],
      co (some 2) (.assign (.const (.int .i64 0))) none] [1])
  (.seq (.seq (.reg [co (some 3) (.fieldAddr 104 (.tmp 1) 0) none,
        co (some 4) (.load 3 (.tmp 3)) none,
        co (some 5) (.binOp .eql 3 (.tmp 4) (.const (.int .i64 1)) 3) none] [1, 5])
    (.cond (.tmp 5)
      (.seq (.reg [co (some 6) (.fieldAddr 104 (.tmp 1) 4) none,
          co (some 7) (.load 3 (.tmp 6)) none,
          co (some 2) (.assign (.tmp 7)) none] [2])
      (.ret))
      (.skip)))
  (.keep [1] (.seq (.reg [co (some 8) (.fieldAddr 104 (.tmp 1) 5) none,
      co (some 9) (.load 3 (.tmp 8)) none,
      co (some 2) (.assign (.tmp 9)) none] [2])
  (.ret))))
theorem t_centoref09_Ref_Kids : Txt Try.prog 92 10 [(.tmp 2)] c_centoref09_Ref_Kids := txt_of (code := Try.f92.body.getD .ret) mixed (by kernel_rfl) Try.func92 (by kernel_rfl) Try.ntmps92 (by kernel_rfl) (ls := [([1], [(0, [0])]), ([], []), ([1, 5], []), ([], []), ([2], []), ([], []), ([999999, 1], []), ([2], []), ([], [])]) (by kernel_rfl)


/-- (cento/centoref09.Ref).Words -/
def c_centoref09_Ref_Words : CC :=
  .seq (.reg [cn (some 2) (.box 104 (.tmp 0)) none [0],
      co (some 4) (.assign (.const (.slice none 0 0))) none] [1, 2])
  (.seq (.seq (.reg [co (some 6) (.fieldAddr 104 (.tmp 2) 0) none,
        co (some 7) (.load 3 (.tmp 6)) none,
        co (some 8) (.binOp .eql 3 (.tmp 7) (.const (.int .i64 10)) 3) none] [1, 2, 8])
    (.cond (.tmp 8)
      (.seq (.reg [co (some 9) (.fieldAddr 104 (.tmp 2) 6) none,
          co (some 10) (.load 45 (.tmp 9)) none,
          co (some 11) (.buildSlice 22 1 #[(0, (.tmp 10))]) none,
          co (some 4) (.assign (.tmp 11)) none] [4])
      (.ret))
      (.skip)))
  (.keep [1, 2] (.seq (.seq (.reg [co (some 12) (.fieldAddr 104 (.tmp 2) 0) none,
        co (some 13) (.load 3 (.tmp 12)) none,
        co (some 14) (.binOp .neq 3 (.tmp 13) (.const (.int .i64 1)) 3) none] [1, 2, 14])
    (.cond (.tmp 14)
      (.seq (.reg [co (some 4) (.assign (.const (.slice none 0 0))) none] [4])
      (.ret))
      (.skip)))
  (.keep [1, 2] (.seq (.reg [co (some 5) (.assign (.const (.slice none 0 0))) none] [1, 2, 5])
  (.seq (.reg [co (some 15) (.move (.tmp 5)) none,
      co (some 16) (.move (.tmp 1)) none,
      co (some 17) (.fieldAddr 104 (.tmp 2) 1) none,
      co (some 18) (.load 3 (.tmp 17)) none,
      co (some 19) (.indexAddr 38 (.tmp 16) (.tmp 18)) none,
      co (some 20) (.load 22 (.tmp 19)) none,
      co (some 21) (.fieldAddr 104 (.tmp 2) 2) none,
      co (some 22) (.load 3 (.tmp 21)) none,
      co (some 23) (.fieldAddr 104 (.tmp 2) 2) none,
      co (some 24) (.load 3 (.tmp 23)) none,
      co (some 25) (.fieldAddr 104 (.tmp 2) 3) none,
      co (some 26) (.load 3 (.tmp 25)) none,
      co (some 27) (.binOp .add 3 (.tmp 24) (.tmp 26) 3) none,
      co (some 28) (.slice 22 (.tmp 20) (some (.tmp 22)) (some (.tmp 27)) none) none,
      cn (some 29) (.call { callee := (.builtin .append), args := #[(.tmp 15), (.tmp 28)], argTypes := #[22, 22] }) none [1],
      co (some 4) (.assign (.tmp 29)) none] [4])
  (.ret)))))))
theorem t_centoref09_Ref_Words : Txt Try.prog 91 30 [(.tmp 4)] c_centoref09_Ref_Words := txt_of (code := Try.f91.body.getD .ret) mixed (by kernel_rfl) Try.func91 (by kernel_rfl) Try.ntmps91 (by kernel_rfl) (ls := [([1, 2], [(0, [0])]), ([], []), ([1, 2, 8], []), ([], []), ([4], []), ([], []), ([999999, 1, 2], []), ([1, 2, 14], []), ([], []), ([4], []), ([], []), ([999999, 1, 2], []), ([1, 2, 5], []), ([], []), ([4], [(14, [1])]), ([], [])]) (by kernel_rfl)


/-- (cento/centoref09.Ref).Kid -/
def c_centoref09_Ref_Kid : CC :=
  .seq (.reg [cn (some 3) (.box 104 (.tmp 0)) none [0],
      cn (some 6) (.alloc 104) none [1],
      co (some 7) (.assign (.const (.int .i64 0))) none] [1, 2, 3, 6])
  (.seq (.seq (.reg [co (some 8) (.move (.tmp 2)) none,
        co (some 9) (.binOp .lss 3 (.tmp 8) (.const (.int .i64 0)) 3) none,
        co (some 10) (.move (.tmp 9)) none,
        co (some 11) (.move (.tmp 2)) (some (10, false)),
        co (some 12) (.load 104 (.tmp 3)) (some (10, false)),
        co (some 13) (.call { callee := (.value (.func 92)), args := #[(.tmp 12)], argTypes := #[104] }) (some (10, false)),
        co (some 14) (.binOp .geq 3 (.tmp 11) (.tmp 13) 3) (some (10, false)),
        co (some 15) (.pick (.tmp 10) (.const (.bool true)) (.tmp 14)) none] [1, 2, 3, 6, 15])
    (.cond (.tmp 15)
      (.seq (.reg [co (some 16) (.build 104 #[]) none,
          co none (.store 104 (.tmp 6) (.tmp 16)) none,
          co (some 7) (.assign (.const (.int .i64 0))) none] [6, 7])
      (.ret))
      (.skip)))
  (.keep [1, 2, 3, 6] (.seq (.seq (.reg [co (some 17) (.fieldAddr 104 (.tmp 3) 0) none,
        co (some 18) (.load 3 (.tmp 17)) none,
        co (some 19) (.binOp .eql 3 (.tmp 18) (.const (.int .i64 1)) 3) none] [1, 2, 3, 6, 19])
    (.cond (.tmp 19)
      (.seq (.reg [co (some 20) (.move (.tmp 1)) none,
          co (some 21) (.fieldAddr 104 (.tmp 3) 1) none,
          co (some 22) (.load 3 (.tmp 21)) none,
          co (some 23) (.fieldAddr 104 (.tmp 3) 2) none,
          co (some 24) (.load 3 (.tmp 23)) none,
          co (some 25) (.fieldAddr 104 (.tmp 3) 3) none,
          co (some 26) (.load 3 (.tmp 25)) none,
          co (some 27) (.binOp .add 3 (.tmp 24) (.tmp 26) 3) none,
          co (some 28) (.move (.tmp 2)) none,
          co (some 29) (.binOp .add 3 (.tmp 27) (.tmp 28) 3) none,
          co (some 30) (.call { callee := (.value (.func 56)), args := #[(.tmp 20), (.tmp 22), (.tmp 29)], argTypes := #[38, 3, 3] }) none,
          co (some 31) (.extract (.tmp 30) 0) none,
          co (some 32) (.extract (.tmp 30) 1) none,
          co none (.store 104 (.tmp 6) (.tmp 31)) none,
          co (some 7) (.assign (.tmp 32)) none] [6, 7])
      (.ret))
      (.skip)))
  (.keep [1, 2, 3, 6] (.seq (.seq (.reg [co (some 33) (.fieldAddr 104 (.tmp 3) 0) none,
        co (some 34) (.load 3 (.tmp 33)) none,
        co (some 35) (.binOp .eql 3 (.tmp 34) (.const (.int .i64 8)) 3) none] [1, 2, 3, 6, 35])
    (.cond (.tmp 35)
      (.seq (.reg [co (some 36) (.move (.tmp 1)) none,
          co (some 37) (.fieldAddr 104 (.tmp 3) 1) none,
          co (some 38) (.load 3 (.tmp 37)) none,
          co (some 39) (.fieldAddr 104 (.tmp 3) 2) none,
          co (some 40) (.load 3 (.tmp 39)) none,
          co (some 41) (.move (.tmp 2)) none,
          co (some 42) (.binOp .add 3 (.tmp 40) (.tmp 41) 3) none,
          co (some 43) (.call { callee := (.value (.func 56)), args := #[(.tmp 36), (.tmp 38), (.tmp 42)], argTypes := #[38, 3, 3] }) none,
          co (some 44) (.extract (.tmp 43) 0) none,
          co (some 45) (.extract (.tmp 43) 1) none,
          co none (.store 104 (.tmp 6) (.tmp 44)) none,
          co (some 7) (.assign (.tmp 45)) none] [6, 7])
      (.ret))
      (.skip)))
  (.keep [1, 2, 3, 6] (.seq (.seq (.reg [co (some 46) (.fieldAddr 104 (.tmp 3) 0) none,
        co (some 47) (.load 3 (.tmp 46)) none,
        co (some 48) (.binOp .eql 3 (.tmp 47) (.const (.int .i64 9)) 3) none] [1, 2, 3, 6, 48])
    (.cond (.tmp 48)
      (.seq (.reg [co (some 49) (.fieldAddr 104 (.tmp 3) 1) none,
          co (some 50) (.load 3 (.tmp 49)) none,
          co (some 51) (.fieldAddr 104 (.tmp 3) 2) none,
          co (some 52) (.load 3 (.tmp 51)) none,
          co (some 53) (.move (.tmp 2)) none,
          co (some 54) (.fieldAddr 104 (.tmp 3) 3) none,
          co (some 55) (.load 3 (.tmp 54)) none,
          co (some 56) (.fieldAddr 104 (.tmp 3) 4) none,
          co (some 57) (.load 3 (.tmp 56)) none,
          co (some 58) (.binOp .add 3 (.tmp 55) (.tmp 57) 3) none,
          co (some 59) (.binOp .mul 3 (.tmp 53) (.tmp 58) 3) none,
          co (some 60) (.binOp .add 3 (.tmp 52) (.tmp 59) 3) none,
          co (some 61) (.fieldAddr 104 (.tmp 3) 3) none,
          co (some 62) (.load 3 (.tmp 61)) none,
          co (some 63) (.fieldAddr 104 (.tmp 3) 4) none,
          co (some 64) (.load 3 (.tmp 63)) none,
          co (some 65) (.build 104 #[(0, (.const (.int .i64 1))), (1, (.tmp 50)), (2, (.tmp 60)), (3, (.tmp 62)), (4, (.tmp 64))]) none,
          co none (.store 104 (.tmp 6) (.tmp 65)) none,
          co (some 7) (.assign (.const (.int .i64 0))) none] [6, 7])
      (.ret))
      (.skip)))
  (.keep [1, 2, 3, 6] (.seq (.reg [co (some 66) (.move (.tmp 1)) none,
      co (some 67) (.fieldAddr 104 (.tmp 3) 1) none,
      co (some 68) (.load 3 (.tmp 67)) none,
      co (some 69) (.indexAddr 38 (.tmp 66) (.tmp 68)) none,
      co (some 70) (.load 22 (.tmp 69)) none,
      co (some 71) (.fieldAddr 104 (.tmp 3) 2) none,
      co (some 72) (.load 3 (.tmp 71)) none,
      co (some 73) (.slice 22 (.tmp 70) (some (.tmp 72)) none none) none,
      co (some 74) (.fieldAddr 104 (.tmp 3) 0) none,
      co (some 75) (.load 3 (.tmp 74)) none,
      co (some 76) (.binOp .sub 3 (.tmp 75) (.const (.int .i64 2)) 3) none,
      co (some 77) (.move (.tmp 2)) none,
      co (some 78) (.call { callee := (.value (.func 123)), args := #[(.tmp 73), (.tmp 76), (.tmp 77)], argTypes := #[22, 3, 3] }) none,
      co (some 79) (.build 104 #[(0, (.const (.int .i64 10))), (6, (.tmp 78))]) none,
      co none (.store 104 (.tmp 6) (.tmp 79)) none,
      co (some 7) (.assign (.const (.int .i64 0))) none] [6, 7])
  (.ret))))))))))
theorem t_centoref09_Ref_Kid : Txt Try.prog 93 80 [(.cell 6 104), (.tmp 7)] c_centoref09_Ref_Kid := txt_of (code := Try.f93.body.getD .ret) mixed (by kernel_rfl) Try.func93 (by kernel_rfl) Try.ntmps93 (by kernel_rfl) (ls := [([1, 2, 3, 6], [(0, [0]), (1, [1])]), ([], []), ([1, 2, 3, 6, 15], []), ([], []), ([6, 7], []), ([], []), ([999999, 1, 2, 3, 6], []), ([1, 2, 3, 6, 19], []), ([], []), ([6, 7], []), ([], []), ([999999, 1, 2, 3, 6], []), ([1, 2, 3, 6, 35], []), ([], []), ([6, 7], []), ([], []), ([999999, 1, 2, 3, 6], []), ([1, 2, 3, 6, 48], []), ([], []), ([6, 7], []), ([], []), ([999999, 1, 2, 3, 6], []), ([6, 7], []), ([], [])]) (by kernel_rfl)


/-- cento/centoref10.within -/
def c_centoref10_within : CC :=
  .seq (.reg [co (some 4) (.assign (.const (.int .i64 0))) none] [0, 1])
  (.seq (.seq (.reg [co (some 5) (.move (.tmp 0)) none,
        co (some 6) (.binOp .lss 3 (.tmp 5) (.const (.int .i64 0)) 3) none] [0, 1, 6])
    (.cond (.tmp 6)
      (.seq (.reg [co (some 4) (.assign (.const (.int .i64 0))) none] [4])
      (.ret))
      (.skip)))
  (.keep [0, 1] (.seq (.seq (.reg [co (some 7) (.move (.tmp 0)) none,
        co (some 8) (.move (.tmp 1)) none,
        co (some 9) (.binOp .gtr 3 (.tmp 7) (.tmp 8) 3) none] [0, 1, 9])
    (.cond (.tmp 9)
      (.seq (.reg [co (some 10) (.move (.tmp 1)) none,
          co (some 4) (.assign (.tmp 10)) none] [4])
      (.ret))
      (.skip)))
  (.keep [0] (.seq (.reg [co (some 11) (.move (.tmp 0)) none,
      co (some 4) (.assign (.tmp 11)) none] [4])
  (.ret))))))
theorem t_centoref10_within : Txt Try.prog 88 12 [(.tmp 4)] c_centoref10_within := txt_of (code := Try.f88.body.getD .ret) mixed (by kernel_rfl) Try.func88 (by kernel_rfl) Try.ntmps88 (by kernel_rfl) (ls := [([0, 1], []), ([], []), ([0, 1, 6], []), ([], []), ([4], []), ([], []), ([999999, 0, 1], []), ([0, 1, 9], []), ([], []), ([4], []), ([], []), ([999999, 0], []), ([4], []), ([], [])]) (by kernel_rfl)


/-- cento/centoref10.Limits -/
def c_centoref10_Limits : CC :=
  .seq (.reg [cn (some 1) (.box 40 (.tmp 0)) none [0],
      cn (some 2) (.alloc 40) none [1]] [1, 2])
  (.seq (.reg [co (some 3) (.fieldAddr 40 (.tmp 1) 0) none,
      co (some 4) (.load 3 (.tmp 3)) none,
      ⟨some 5, (.call { callee := (.value (.func 88)), args := #[(.tmp 4), (.const (.int .i64 64))], argTypes := #[3, 3] }), none, [], 2, [], true⟩,
      co (some 6) (.fieldAddr 40 (.tmp 1) 1) none,
      ⟨some 7, (.load 3 (.tmp 6)), none, [], 4, [2], false⟩,
      ⟨some 8, (.call { callee := (.value (.func 88)), args := #[(.tmp 7), (.const (.int .i64 65536))], argTypes := #[3, 3] }), none, [], 5, [], true⟩,
      co (some 9) (.fieldAddr 40 (.tmp 1) 2) none,
      ⟨some 10, (.load 3 (.tmp 9)), none, [], 7, [2, 5], false⟩,
      ⟨some 11, (.call { callee := (.value (.func 88)), args := #[(.tmp 10), (.const (.int .i64 4096))], argTypes := #[3, 3] }), none, [], 8, [], true⟩,
      co (some 12) (.fieldAddr 40 (.tmp 1) 3) none,
      ⟨some 13, (.load 3 (.tmp 12)), none, [], 10, [2, 5, 8], false⟩,
      co (some 14) (.call { callee := (.value (.func 88)), args := #[(.tmp 13), (.const (.int .i64 131072))], argTypes := #[3, 3] }) none,
      co (some 15) (.build 40 #[(0, (.tmp 5)), (1, (.tmp 8)), (2, (.tmp 11)), (3, (.tmp 14))]) none,
      co none (.store 40 (.tmp 2) (.tmp 15)) none] [2])
  (.ret))
theorem t_centoref10_Limits : Txt Try.prog 55 16 [(.cell 2 40)] c_centoref10_Limits := txt_of (code := Try.f55.body.getD .ret) mixed (by kernel_rfl) Try.func55 (by kernel_rfl) Try.ntmps55 (by kernel_rfl) (ls := [([1, 2], [(0, [0]), (1, [1])]), ([], []), ([2], []), ([], [])]) (by kernel_rfl)

def l1_centoref10_kids : CC :=
  .seq (.seq (.reg [co (some 22) (.move (.tmp 12)) none,
        co (some 23) (.fieldAddr 104 (.tmp 5) 4) none,
        co (some 24) (.load 3 (.tmp 23)) none,
        co (some 25) (.binOp .lss 3 (.tmp 22) (.tmp 24) 3) none] [0, 2, 3, 5, 8, 11, 12, 25])
    (.cond (.tmp 25)
      (.skip)
      (.exit 0)))
  (.keep [0, 2, 3, 5, 8, 11, 12] (.seq (.block 1
      (.seq (.reg [co (some 29) (.load 104 (.tmp 5)) none,
          co (some 30) (.move (.tmp 0)) none,
          co (some 31) (.move (.tmp 12)) none,
          co (some 32) (.call { callee := (.value (.func 93)), args := #[(.tmp 29), (.tmp 30), (.tmp 31)], argTypes := #[104, 38, 3] }) none,
          co (some 28) (.move (.tmp 32)) none,
          co (some 33) (.extract (.tmp 28) 0) none,
          co (some 34) (.extract (.tmp 28) 1) none,
          cn (some 13) (.alloc 104) none [3],
          co none (.store 104 (.tmp 13) (.tmp 33)) none,
          co (some 14) (.assign (.tmp 34)) none] [0, 2, 3, 5, 8, 11, 12, 13, 14])
      (.seq (.seq (.reg [co (some 35) (.move (.tmp 14)) none,
            co (some 36) (.binOp .neq 3 (.tmp 35) (.const (.int .i64 0)) 3) none] [0, 2, 3, 5, 8, 11, 12, 13, 14, 36])
        (.cond (.tmp 36)
          (.seq (.reg [co (some 37) (.load 25 (.tmp 11)) none,
              co (some 38) (.move (.tmp 3)) none,
              co (some 39) (.move (.tmp 14)) none,
              co none (.store 25 (.tmp 8) (.tmp 37)) none,
              co (some 9) (.assign (.tmp 38)) none,
              co (some 10) (.assign (.tmp 39)) none] [8, 9, 10])
          (.ret))
          (.skip)))
      (.keep [0, 2, 3, 5, 8, 11, 12, 13] (.seq (.reg [co (some 41) (.move (.tmp 0)) none,
          co (some 42) (.load 104 (.tmp 13)) none,
          co (some 43) (.move (.tmp 2)) none,
          co (some 44) (.move (.tmp 3)) none,
          co (some 45) (.call { callee := (.value (.func 57)), args := #[(.tmp 41), (.tmp 42), (.tmp 43), (.tmp 44)], argTypes := #[38, 104, 3, 3] }) none,
          co (some 40) (.move (.tmp 45)) none,
          co (some 46) (.extract (.tmp 40) 0) none,
          co (some 47) (.extract (.tmp 40) 1) none,
          co (some 48) (.extract (.tmp 40) 2) none,
          cn (some 15) (.alloc 25) none [4],
          co none (.store 25 (.tmp 15) (.tmp 46)) none,
          co (some 16) (.assign (.tmp 47)) none,
          co (some 17) (.assign (.tmp 48)) none] [0, 2, 5, 8, 11, 12, 15, 16, 17])
      (.seq (.seq (.reg [co (some 49) (.move (.tmp 17)) none,
            co (some 50) (.binOp .neq 3 (.tmp 49) (.const (.int .i64 0)) 3) none] [0, 2, 5, 8, 11, 12, 15, 16, 17, 50])
        (.cond (.tmp 50)
          (.seq (.reg [co (some 51) (.load 25 (.tmp 11)) none,
              co (some 52) (.move (.tmp 16)) none,
              co (some 53) (.move (.tmp 17)) none,
              co none (.store 25 (.tmp 8) (.tmp 51)) none,
              co (some 9) (.assign (.tmp 52)) none,
              co (some 10) (.assign (.tmp 53)) none] [8, 9, 10])
          (.ret))
          (.skip)))
      (.keep [0, 2, 5, 8, 11, 12, 15, 16] (.seq (.reg [co (some 54) (.move (.tmp 16)) none,
          co (some 3) (.assign (.tmp 54)) none] [0, 2, 3, 5, 8, 11, 12, 15])
      (.reg [co (some 55) (.fieldAddr 25 (.tmp 11) 2) none,
        co (some 56) (.load 23 (.tmp 55)) none,
        co (some 57) (.load 25 (.tmp 15)) none,
        co (some 58) (.buildSlice 23 1 #[(0, (.tmp 57))]) none,
        cn (some 59) (.call { callee := (.builtin .append), args := #[(.tmp 56), (.tmp 58)], argTypes := #[23, 23] }) none [5],
        co (some 60) (.fieldAddr 25 (.tmp 11) 2) none,
        co none (.store 23 (.tmp 60) (.tmp 59)) none] [0, 2, 3, 5, 8, 11, 12])))))))))
  (.keep [0, 2, 3, 5, 8, 11, 12] (.reg [co (some 26) (.move (.tmp 12)) none,
    co (some 27) (.binOp .add 3 (.tmp 26) (.const (.int .i64 1)) 3) none,
    co (some 12) (.assign (.tmp 27)) none] [0, 2, 3, 5, 8, 11, 12]))))

/-- cento/centoref10.kids -/
def c_centoref10_kids : CC :=
  .seq (.reg [cn (some 5) (.box 104 (.tmp 1)) none [0],
      cn (some 8) (.alloc 25) none [1],
      co (some 9) (.assign (.const (.int .i64 0))) none,
      co (some 10) (.assign (.const (.int .i64 0))) none] [0, 2, 3, 5, 8])
  (.seq (.reg [co (some 18) (.load 104 (.tmp 5)) none,
      co (some 19) (.move (.tmp 0)) none,
      co (some 20) (.call { callee := (.value (.func 91)), args := #[(.tmp 18), (.tmp 19)], argTypes := #[104, 38] }) none,
      co (some 21) (.build 25 #[(0, (.const (.int .i64 1))), (1, (.tmp 20))]) none,
      cn (some 11) (.alloc 25) none [2],
      co none (.store 25 (.tmp 11) (.tmp 21)) none] [0, 2, 3, 5, 8, 11])
  (.seq (.seq (.reg [co (some 12) (.assign (.const (.int .i64 0))) none] [0, 2, 3, 5, 8, 11, 12])
    (.block 0
      (.loop l1_centoref10_kids)))
  (.keep [3, 8, 11] (.seq (.reg [co (some 61) (.load 25 (.tmp 11)) none,
      co (some 62) (.move (.tmp 3)) none,
      co none (.store 25 (.tmp 8) (.tmp 61)) none,
      co (some 9) (.assign (.tmp 62)) none,
      co (some 10) (.assign (.const (.int .i64 0))) none] [8, 9, 10])
  (.ret)))))
theorem t_centoref10_kids : Txt Try.prog 94 63 [(.cell 8 25), (.tmp 9), (.tmp 10)] c_centoref10_kids := txt_of (code := Try.f94.body.getD .ret) mixed (by kernel_rfl) Try.func94 (by kernel_rfl) Try.ntmps94 (by kernel_rfl) (ls := [([0, 2, 3, 5, 8], [(0, [0]), (1, [1])]), ([], []), ([0, 2, 3, 5, 8, 11], [(4, [2])]), ([], []), ([0, 2, 3, 5, 8, 11, 12], []), ([], []), ([0, 2, 3, 5, 8, 11, 12, 25], []), ([], []), ([999999, 0, 2, 3, 5, 8, 11, 12], []), ([0, 2, 3, 5, 8, 11, 12, 13, 14], [(7, [3])]), ([], []), ([0, 2, 3, 5, 8, 11, 12, 13, 14, 36], []), ([], []), ([8, 9, 10], []), ([], []), ([999999, 0, 2, 3, 5, 8, 11, 12, 13], []), ([0, 2, 5, 8, 11, 12, 15, 16, 17], [(9, [4])]), ([], []), ([0, 2, 5, 8, 11, 12, 15, 16, 17, 50], []), ([], []), ([8, 9, 10], []), ([], []), ([999999, 0, 2, 5, 8, 11, 12, 15, 16], []), ([0, 2, 3, 5, 8, 11, 12, 15], []), ([], []), ([0, 2, 3, 5, 8, 11, 12], [(4, [5])]), ([999999, 0, 2, 3, 5, 8, 11, 12], []), ([0, 2, 3, 5, 8, 11, 12], []), ([999999, 3, 8, 11], []), ([8, 9, 10], []), ([], [])]) (by kernel_rfl)

def k1_centoref10_Meaning : CC :=
  .seq (.seq (.reg [co (some 136) (.move (.tmp 15)) none,
        co (some 137) (.binOp .neq 3 (.tmp 136) (.const (.int .i64 0)) 3) none] [0, 2, 3, 5, 8, 11, 13, 15, 16, 137])
    (.cond (.tmp 137)
      (.seq (.reg [co (some 138) (.load 25 (.tmp 11)) none,
          co (some 139) (.move (.tmp 3)) none,
          co (some 140) (.move (.tmp 15)) none,
          co none (.store 25 (.tmp 8) (.tmp 138)) none,
          co (some 9) (.assign (.tmp 139)) none,
          co (some 10) (.assign (.tmp 140)) none] [8, 9, 10])
      (.ret))
      (.skip)))
  (.keep [0, 2, 3, 5, 8, 11, 13, 16] (.reg [co (some 141) (.fieldAddr 25 (.tmp 11) 2) none,
    co (some 142) (.load 23 (.tmp 141)) none,
    co (some 143) (.load 25 (.tmp 16)) none,
    co (some 144) (.buildSlice 23 1 #[(0, (.tmp 143))]) none,
    cn (some 145) (.call { callee := (.builtin .append), args := #[(.tmp 142), (.tmp 144)], argTypes := #[23, 23] }) none [5],
    co (some 146) (.fieldAddr 25 (.tmp 11) 2) none,
    co none (.store 23 (.tmp 146) (.tmp 145)) none] [0, 2, 3, 5, 8, 11, 13]))
def l1_centoref10_Meaning : CC :=
  .seq (.seq (.reg [co (some 79) (.move (.tmp 13)) none,
        co (some 80) (.load 104 (.tmp 5)) none,
        co (some 81) (.call { callee := (.value (.func 92)), args := #[(.tmp 80)], argTypes := #[104] }) none,
        co (some 82) (.binOp .lss 3 (.tmp 79) (.tmp 81) 3) none] [0, 2, 3, 5, 8, 11, 13, 82])
    (.cond (.tmp 82)
      (.skip)
      (.exit 0)))
  (.keep [0, 2, 3, 5, 8, 11, 13] (.seq (.block 1
      (.seq (.reg [co (some 86) (.load 104 (.tmp 5)) none,
          co (some 87) (.move (.tmp 0)) none,
          co (some 88) (.move (.tmp 13)) none,
          co (some 89) (.call { callee := (.value (.func 93)), args := #[(.tmp 86), (.tmp 87), (.tmp 88)], argTypes := #[104, 38, 3] }) none,
          co (some 85) (.move (.tmp 89)) none,
          co (some 90) (.extract (.tmp 85) 0) none,
          co (some 91) (.extract (.tmp 85) 1) none,
          cn (some 14) (.alloc 104) none [3],
          co none (.store 104 (.tmp 14) (.tmp 90)) none,
          co (some 15) (.assign (.tmp 91)) none] [0, 2, 3, 5, 8, 11, 13, 14, 15])
      (.seq (.seq (.reg [co (some 92) (.move (.tmp 15)) none,
            co (some 93) (.binOp .neq 3 (.tmp 92) (.const (.int .i64 0)) 3) none] [0, 2, 3, 5, 8, 11, 13, 14, 15, 93])
        (.cond (.tmp 93)
          (.seq (.reg [co (some 94) (.load 25 (.tmp 11)) none,
              co (some 95) (.move (.tmp 3)) none,
              co (some 96) (.move (.tmp 15)) none,
              co none (.store 25 (.tmp 8) (.tmp 94)) none,
              co (some 9) (.assign (.tmp 95)) none,
              co (some 10) (.assign (.tmp 96)) none] [8, 9, 10])
          (.ret))
          (.skip)))
      (.keep [0, 2, 3, 5, 8, 11, 13, 14, 15] (.seq (.reg [co (some 97) (.fieldAddr 104 (.tmp 14) 0) none,
          ⟨some 98, (.load 3 (.tmp 97)), none, [], 1, [], true⟩,
          ⟨some 99, (.load 104 (.tmp 14)), none, [], 2, [], true⟩,
          co (some 100) (.move (.tmp 0)) none,
          ⟨some 101, (.call { callee := (.value (.func 91)), args := #[(.tmp 99), (.tmp 100)], argTypes := #[104, 38] }), none, [], 4, [1], true⟩,
          co (some 102) (.build 25 #[(0, (.tmp 98)), (1, (.tmp 101))]) none,
          ⟨some 16, (.alloc 25), none, [4], 6, [1, 2, 4], false⟩,
          co none (.store 25 (.tmp 16) (.tmp 102)) none] [0, 2, 3, 5, 8, 11, 13, 14, 15, 16])
      (.seq (.block 2
          (.seq (.reg [co (some 104) (.fieldAddr 104 (.tmp 5) 0) none,
              co (some 105) (.load 3 (.tmp 104)) none,
              co (some 106) (.binOp .eql 3 (.tmp 105) (.const (.int .i64 9)) 3) none,
              co (some 103) (.assign (.tmp 106)) none] [0, 2, 3, 5, 8, 11, 13, 14, 15, 16, 103])
          (.cond (.tmp 103)
            (.reg [co (some 108) (.move (.tmp 0)) none,
              co (some 109) (.load 104 (.tmp 14)) none,
              co (some 110) (.move (.tmp 2)) none,
              co (some 111) (.binOp .sub 3 (.tmp 110) (.const (.int .i64 2)) 3) none,
              co (some 112) (.move (.tmp 3)) none,
              co (some 113) (.call { callee := (.value (.func 94)), args := #[(.tmp 108), (.tmp 109), (.tmp 111), (.tmp 112)], argTypes := #[38, 104, 3, 3] }) none,
              co (some 107) (.move (.tmp 113)) none,
              co (some 114) (.extract (.tmp 107) 0) none,
              co (some 115) (.extract (.tmp 107) 1) none,
              co (some 116) (.extract (.tmp 107) 2) none,
              co none (.store 25 (.tmp 16) (.tmp 114)) none,
              co (some 3) (.assign (.tmp 115)) none,
              co (some 15) (.assign (.tmp 116)) none] [0, 2, 3, 5, 8, 11, 13, 15, 16])
            (.seq (.reg [co (some 118) (.fieldAddr 104 (.tmp 5) 0) none,
                co (some 119) (.load 3 (.tmp 118)) none,
                co (some 120) (.binOp .eql 3 (.tmp 119) (.const (.int .i64 1)) 3) none,
                co (some 121) (.move (.tmp 120)) none,
                co (some 122) (.fieldAddr 104 (.tmp 5) 0) (some (121, false)),
                co (some 123) (.load 3 (.tmp 122)) (some (121, false)),
                co (some 124) (.binOp .eql 3 (.tmp 123) (.const (.int .i64 8)) 3) (some (121, false)),
                co (some 125) (.pick (.tmp 121) (.const (.bool true)) (.tmp 124)) none,
                co (some 117) (.assign (.tmp 125)) none] [0, 2, 3, 5, 8, 11, 13, 14, 15, 16, 117])
            (.cond (.tmp 117)
              (.reg [co (some 127) (.move (.tmp 0)) none,
                co (some 128) (.load 104 (.tmp 14)) none,
                co (some 129) (.move (.tmp 2)) none,
                co (some 130) (.binOp .sub 3 (.tmp 129) (.const (.int .i64 1)) 3) none,
                co (some 131) (.move (.tmp 3)) none,
                co (some 132) (.call { callee := (.value (.func 57)), args := #[(.tmp 127), (.tmp 128), (.tmp 130), (.tmp 131)], argTypes := #[38, 104, 3, 3] }) none,
                co (some 126) (.move (.tmp 132)) none,
                co (some 133) (.extract (.tmp 126) 0) none,
                co (some 134) (.extract (.tmp 126) 1) none,
                co (some 135) (.extract (.tmp 126) 2) none,
                co none (.store 25 (.tmp 16) (.tmp 133)) none,
                co (some 3) (.assign (.tmp 134)) none,
                co (some 15) (.assign (.tmp 135)) none] [0, 2, 3, 5, 8, 11, 13, 15, 16])
              (.skip))))))
      (.keep [0, 2, 3, 5, 8, 11, 13, 15, 16] k1_centoref10_Meaning)))))))
  (.keep [0, 2, 3, 5, 8, 11, 13] (.reg [co (some 83) (.move (.tmp 13)) none,
    co (some 84) (.binOp .add 3 (.tmp 83) (.const (.int .i64 1)) 3) none,
    co (some 13) (.assign (.tmp 84)) none] [0, 2, 3, 5, 8, 11, 13]))))
def k2_centoref10_Meaning : CC :=
  .seq (.seq (.reg [co (some 71) (.move (.tmp 12)) none,
        co (some 72) (.move (.tmp 3)) none,
        co (some 73) (.binOp .gtr 3 (.tmp 71) (.tmp 72) 3) none] [0, 2, 3, 5, 8, 11, 12, 73])
    (.cond (.tmp 73)
      (.seq (.reg [co (some 74) (.load 25 (.tmp 11)) none,
          co (some 75) (.move (.tmp 3)) none,
          co none (.store 25 (.tmp 8) (.tmp 74)) none,
          co (some 9) (.assign (.tmp 75)) none,
          co (some 10) (.assign (.const (.int .i64 3))) none] [8, 9, 10])
      (.ret))
      (.skip)))
  (.keep [0, 2, 3, 5, 8, 11, 12] (.seq (.reg [co (some 76) (.move (.tmp 3)) none,
      co (some 77) (.move (.tmp 12)) none,
      co (some 78) (.binOp .sub 3 (.tmp 76) (.tmp 77) 3) none,
      co (some 3) (.assign (.tmp 78)) none] [0, 2, 3, 5, 8, 11])
  (.seq (.seq (.reg [co (some 13) (.assign (.const (.int .i64 0))) none] [0, 2, 3, 5, 8, 11, 13])
    (.block 0
      (.loop l1_centoref10_Meaning)))
  (.keep [3, 8, 11] (.seq (.reg [co (some 147) (.load 25 (.tmp 11)) none,
      co (some 148) (.move (.tmp 3)) none,
      co none (.store 25 (.tmp 8) (.tmp 147)) none,
      co (some 9) (.assign (.tmp 148)) none,
      co (some 10) (.assign (.const (.int .i64 0))) none] [8, 9, 10])
  (.ret))))))
def k3_centoref10_Meaning : CC :=
  .seq (.seq (.reg [co (some 58) (.fieldAddr 104 (.tmp 5) 0) none,
        co (some 59) (.load 3 (.tmp 58)) none,
        co (some 60) (.binOp .eql 3 (.tmp 59) (.const (.int .i64 9)) 3) none] [0, 2, 3, 5, 8, 11, 12, 60])
    (.cond (.tmp 60)
      (.reg [co (some 61) (.fieldAddr 104 (.tmp 5) 5) none,
        co (some 62) (.load 3 (.tmp 61)) none,
        co (some 63) (.fieldAddr 104 (.tmp 5) 3) none,
        co (some 64) (.load 3 (.tmp 63)) none,
        co (some 65) (.binOp .add 3 (.const (.int .i64 1)) (.tmp 64) 3) none,
        co (some 66) (.fieldAddr 104 (.tmp 5) 4) none,
        co (some 67) (.load 3 (.tmp 66)) none,
        co (some 68) (.binOp .add 3 (.tmp 65) (.tmp 67) 3) none,
        co (some 69) (.binOp .mul 3 (.tmp 62) (.tmp 68) 3) none,
        co (some 70) (.binOp .add 3 (.const (.int .i64 1)) (.tmp 69) 3) none,
        co (some 12) (.assign (.tmp 70)) none] [0, 2, 3, 5, 8, 11, 12])
      (.skip)))
  (.keep [0, 2, 3, 5, 8, 11, 12] k2_centoref10_Meaning)

/-- cento/centoref10.Meaning -/
def c_centoref10_Meaning : CC :=
  .seq (.reg [cn (some 5) (.box 104 (.tmp 1)) none [0],
      cn (some 8) (.alloc 25) none [1],
      co (some 9) (.assign (.const (.int .i64 0))) none,
      co (some 10) (.assign (.const (.int .i64 0))) none] [0, 2, 3, 5, 8])
  (.seq (.reg [co (some 17) (.fieldAddr 104 (.tmp 5) 0) none,
      ⟨some 18, (.load 3 (.tmp 17)), none, [], 1, [], true⟩,
      ⟨some 19, (.load 104 (.tmp 5)), none, [], 2, [], true⟩,
      co (some 20) (.move (.tmp 0)) none,
      ⟨some 21, (.call { callee := (.value (.func 91)), args := #[(.tmp 19), (.tmp 20)], argTypes := #[104, 38] }), none, [], 4, [1], true⟩,
      co (some 22) (.build 25 #[(0, (.tmp 18)), (1, (.tmp 21))]) none,
      ⟨some 11, (.alloc 25), none, [2], 6, [1, 2, 4], false⟩,
      co none (.store 25 (.tmp 11) (.tmp 22)) none] [0, 2, 3, 5, 8, 11])
  (.seq (.seq (.reg [co (some 23) (.fieldAddr 104 (.tmp 5) 0) none,
        co (some 24) (.load 3 (.tmp 23)) none,
        co (some 25) (.binOp .eql 3 (.tmp 24) (.const (.int .i64 0)) 3) none] [0, 2, 3, 5, 8, 11, 25])
    (.cond (.tmp 25)
      (.seq (.reg [co (some 26) (.load 25 (.tmp 11)) none,
          co (some 27) (.move (.tmp 3)) none,
          co none (.store 25 (.tmp 8) (.tmp 26)) none,
          co (some 9) (.assign (.tmp 27)) none,
          co (some 10) (.assign (.const (.int .i64 0))) none] [8, 9, 10])
      (.ret))
      (.skip)))
  (.keep [0, 2, 3, 5, 8, 11] (.seq (.seq (.reg [co (some 28) (.move (.tmp 2)) none,
        co (some 29) (.binOp .lss 3 (.tmp 28) (.const (.int .i64 1)) 3) none,
        co (some 30) (.move (.tmp 29)) none,
        co (some 31) (.fieldAddr 104 (.tmp 5) 0) (some (30, false)),
        co (some 32) (.load 3 (.tmp 31)) (some (30, false)),
        co (some 33) (.binOp .eql 3 (.tmp 32) (.const (.int .i64 9)) 3) (some (30, false)),
        co (some 34) (.move (.tmp 33)) (some (30, false)),
        co (some 35) (.fieldAddr 104 (.tmp 5) 5) (some (34, true)),
        co (some 36) (.load 3 (.tmp 35)) (some (34, true)),
        co (some 37) (.binOp .gtr 3 (.tmp 36) (.const (.int .i64 0)) 3) (some (34, true)),
        co (some 38) (.pick (.tmp 34) (.tmp 37) (.const (.bool false))) (some (30, false)),
        co (some 39) (.move (.tmp 38)) (some (30, false)),
        co (some 40) (.move (.tmp 2)) (some (39, true)),
        co (some 41) (.binOp .lss 3 (.tmp 40) (.const (.int .i64 2)) 3) (some (39, true)),
        co (some 42) (.pick (.tmp 39) (.tmp 41) (.const (.bool false))) (some (30, false)),
        co (some 43) (.pick (.tmp 30) (.const (.bool true)) (.tmp 42)) none] [0, 2, 3, 5, 8, 11, 43])
    (.cond (.tmp 43)
      (.seq (.reg [co (some 44) (.load 25 (.tmp 11)) none,
          co (some 45) (.move (.tmp 3)) none,
          co none (.store 25 (.tmp 8) (.tmp 44)) none,
          co (some 9) (.assign (.tmp 45)) none,
          co (some 10) (.assign (.const (.int .i64 3))) none] [8, 9, 10])
      (.ret))
      (.skip)))
  (.keep [0, 2, 3, 5, 8, 11] (.seq (.reg [co (some 46) (.load 104 (.tmp 5)) none,
      co (some 47) (.call { callee := (.value (.func 92)), args := #[(.tmp 46)], argTypes := #[104] }) none,
      co (some 48) (.binOp .add 3 (.const (.int .i64 1)) (.tmp 47) 3) none,
      co (some 12) (.assign (.tmp 48)) none] [0, 2, 3, 5, 8, 11, 12])
  (.seq (.seq (.reg [co (some 49) (.fieldAddr 104 (.tmp 5) 0) none,
        co (some 50) (.load 3 (.tmp 49)) none,
        co (some 51) (.binOp .eql 3 (.tmp 50) (.const (.int .i64 1)) 3) none] [0, 2, 3, 5, 8, 11, 12, 51])
    (.cond (.tmp 51)
      (.reg [co (some 52) (.fieldAddr 104 (.tmp 5) 3) none,
        co (some 53) (.load 3 (.tmp 52)) none,
        co (some 54) (.binOp .add 3 (.const (.int .i64 1)) (.tmp 53) 3) none,
        co (some 55) (.fieldAddr 104 (.tmp 5) 4) none,
        co (some 56) (.load 3 (.tmp 55)) none,
        co (some 57) (.binOp .add 3 (.tmp 54) (.tmp 56) 3) none,
        co (some 12) (.assign (.tmp 57)) none] [0, 2, 3, 5, 8, 11, 12])
      (.skip)))
  (.keep [0, 2, 3, 5, 8, 11, 12] k3_centoref10_Meaning))))))))
theorem t_centoref10_Meaning : Txt Try.prog 57 149 [(.cell 8 25), (.tmp 9), (.tmp 10)] c_centoref10_Meaning := txt_of (code := Try.f57.body.getD .ret) mixed (by kernel_rfl) Try.func57 (by kernel_rfl) Try.ntmps57 (by kernel_rfl) (ls := [([0, 2, 3, 5, 8], [(0, [0]), (1, [1])]), ([], []), ([0, 2, 3, 5, 8, 11], [(6, [2])]), ([], []), ([0, 2, 3, 5, 8, 11, 25], []), ([], []), ([8, 9, 10], []), ([], []), ([999999, 0, 2, 3, 5, 8, 11], []), ([0, 2, 3, 5, 8, 11, 43], []), ([], []), ([8, 9, 10], []), ([], []), ([999999, 0, 2, 3, 5, 8, 11], []), ([0, 2, 3, 5, 8, 11, 12], []), ([], []), ([0, 2, 3, 5, 8, 11, 12, 51], []), ([], []), ([0, 2, 3, 5, 8, 11, 12], []), ([999999, 0, 2, 3, 5, 8, 11, 12], []), ([0, 2, 3, 5, 8, 11, 12, 60], []), ([], []), ([0, 2, 3, 5, 8, 11, 12], []), ([999999, 0, 2, 3, 5, 8, 11, 12], []), ([0, 2, 3, 5, 8, 11, 12, 73], []), ([], []), ([8, 9, 10], []), ([], []), ([999999, 0, 2, 3, 5, 8, 11, 12], []), ([0, 2, 3, 5, 8, 11], []), ([], []), ([0, 2, 3, 5, 8, 11, 13], []), ([], []), ([0, 2, 3, 5, 8, 11, 13, 82], []), ([], []), ([999999, 0, 2, 3, 5, 8, 11, 13], []), ([0, 2, 3, 5, 8, 11, 13, 14, 15], [(7, [3])]), ([], []), ([0, 2, 3, 5, 8, 11, 13, 14, 15, 93], []), ([], []), ([8, 9, 10], []), ([], []), ([999999, 0, 2, 3, 5, 8, 11, 13, 14, 15], []), ([0, 2, 3, 5, 8, 11, 13, 14, 15, 16], [(6, [4])]), ([], []), ([0, 2, 3, 5, 8, 11, 13, 14, 15, 16, 103], []), ([], []), ([0, 2, 3, 5, 8, 11, 13, 15, 16], []), ([0, 2, 3, 5, 8, 11, 13, 14, 15, 16, 117], []), ([], []), ([0, 2, 3, 5, 8, 11, 13, 15, 16], []), ([999999, 0, 2, 3, 5, 8, 11, 13, 15, 16], []), ([0, 2, 3, 5, 8, 11, 13, 15, 16, 137], []), ([], []), ([8, 9, 10], []), ([], []), ([999999, 0, 2, 3, 5, 8, 11, 13, 16], []), ([0, 2, 3, 5, 8, 11, 13], [(4, [5])]), ([999999, 0, 2, 3, 5, 8, 11, 13], []), ([0, 2, 3, 5, 8, 11, 13], []), ([999999, 3, 8, 11], []), ([8, 9, 10], []), ([], [])]) (by kernel_rfl)


/-- cento/centoref10.Unfold -/
def c_centoref10_Unfold : CC :=
  .seq (.reg [cn (some 3) (.box 40 (.tmp 1)) none [0],
      cn (some 4) (.alloc 25) none [1],
      co (some 5) (.assign (.const (.int .i64 0))) none,
      co (some 6) (.assign (.const (.int .i64 0))) none] [0, 3, 4])
  (.seq (.reg [co (some 12) (.load 40 (.tmp 3)) none,
      co (some 13) (.call { callee := (.value (.func 55)), args := #[(.tmp 12)], argTypes := #[40] }) none,
      co none (.store 40 (.tmp 3) (.tmp 13)) none] [0, 3, 4])
  (.seq (.reg [co (some 15) (.move (.tmp 0)) none,
      co (some 16) (.call { callee := (.value (.func 56)), args := #[(.tmp 15), (.const (.int .i64 0)), (.const (.int .i64 0))], argTypes := #[38, 3, 3] }) none,
      co (some 14) (.move (.tmp 16)) none,
      co (some 17) (.extract (.tmp 14) 0) none,
      co (some 18) (.extract (.tmp 14) 1) none,
      cn (some 7) (.alloc 104) none [2],
      co none (.store 104 (.tmp 7) (.tmp 17)) none,
      co (some 8) (.assign (.tmp 18)) none] [0, 3, 4, 7, 8])
  (.seq (.seq (.reg [co (some 19) (.move (.tmp 8)) none,
        co (some 20) (.binOp .neq 3 (.tmp 19) (.const (.int .i64 0)) 3) none] [0, 3, 4, 7, 8, 20])
    (.cond (.tmp 20)
      (.seq (.reg [co (some 21) (.build 25 #[]) none,
          co (some 22) (.move (.tmp 8)) none,
          co none (.store 25 (.tmp 4) (.tmp 21)) none,
          co (some 5) (.assign (.const (.int .i64 0))) none,
          co (some 6) (.assign (.tmp 22)) none] [4, 5, 6])
      (.ret))
      (.skip)))
  (.keep [0, 3, 4, 7] (.seq (.reg [co (some 24) (.move (.tmp 0)) none,
      co (some 25) (.load 104 (.tmp 7)) none,
      co (some 26) (.fieldAddr 40 (.tmp 3) 0) none,
      co (some 27) (.load 3 (.tmp 26)) none,
      co (some 28) (.fieldAddr 40 (.tmp 3) 1) none,
      co (some 29) (.load 3 (.tmp 28)) none,
      co (some 30) (.call { callee := (.value (.func 57)), args := #[(.tmp 24), (.tmp 25), (.tmp 27), (.tmp 29)], argTypes := #[38, 104, 3, 3] }) none,
      co (some 23) (.move (.tmp 30)) none,
      co (some 31) (.extract (.tmp 23) 0) none,
      co (some 32) (.extract (.tmp 23) 1) none,
      co (some 33) (.extract (.tmp 23) 2) none,
      cn (some 9) (.alloc 25) none [3],
      co none (.store 25 (.tmp 9) (.tmp 31)) none,
      co (some 10) (.assign (.tmp 32)) none,
      co (some 11) (.assign (.tmp 33)) none] [3, 4, 9, 10, 11])
  (.seq (.seq (.reg [co (some 34) (.move (.tmp 11)) none,
        co (some 35) (.binOp .neq 3 (.tmp 34) (.const (.int .i64 0)) 3) none] [3, 4, 9, 10, 11, 35])
    (.cond (.tmp 35)
      (.seq (.reg [co (some 36) (.build 25 #[]) none,
          co (some 37) (.move (.tmp 11)) none,
          co none (.store 25 (.tmp 4) (.tmp 36)) none,
          co (some 5) (.assign (.const (.int .i64 0))) none,
          co (some 6) (.assign (.tmp 37)) none] [4, 5, 6])
      (.ret))
      (.skip)))
  (.keep [3, 4, 9, 10] (.seq (.reg [co (some 38) (.load 25 (.tmp 9)) none,
      co (some 39) (.fieldAddr 40 (.tmp 3) 1) none,
      ⟨some 40, (.load 3 (.tmp 39)), none, [], 2, [], true⟩,
      co (some 41) (.move (.tmp 10)) none,
      co (some 42) (.binOp .sub 3 (.tmp 40) (.tmp 41) 3) none,
      ⟨none, (.store 25 (.tmp 4) (.tmp 38)), none, [], 5, [2], false⟩,
      co (some 5) (.assign (.tmp 42)) none,
      co (some 6) (.assign (.const (.int .i64 0))) none] [4, 5, 6])
  (.ret)))))))))
theorem t_centoref10_Unfold : Txt Try.prog 20 43 [(.cell 4 25), (.tmp 5), (.tmp 6)] c_centoref10_Unfold := txt_of (code := Try.f20.body.getD .ret) mixed (by kernel_rfl) Try.func20 (by kernel_rfl) Try.ntmps20 (by kernel_rfl) (ls := [([0, 3, 4], [(0, [0]), (1, [1])]), ([], []), ([0, 3, 4], []), ([], []), ([0, 3, 4, 7, 8], [(5, [2])]), ([], []), ([0, 3, 4, 7, 8, 20], []), ([], []), ([4, 5, 6], []), ([], []), ([999999, 0, 3, 4, 7], []), ([3, 4, 9, 10, 11], [(11, [3])]), ([], []), ([3, 4, 9, 10, 11, 35], []), ([], []), ([4, 5, 6], []), ([], []), ([999999, 3, 4, 9, 10], []), ([4, 5, 6], []), ([], [])]) (by kernel_rfl)


/-- cento/centolaw10.Light -/
def c_centolaw10_Light : CC :=
  .seq (.reg [cn (some 1) (.box 40 (.tmp 0)) none [0],
      cn (some 2) (.alloc 40) none [1]] [1, 2])
  (.seq (.seq (.reg [co (some 3) (.fieldAddr 40 (.tmp 1) 1) none,
        co (some 4) (.load 3 (.tmp 3)) none,
        co (some 5) (.binOp .gtr 3 (.tmp 4) (.const (.int .i64 3000)) 3) none] [1, 2, 5])
    (.cond (.tmp 5)
      (.reg [co (some 6) (.fieldAddr 40 (.tmp 1) 1) none,
        co none (.store 3 (.tmp 6) (.const (.int .i64 3000))) none] [1, 2])
      (.skip)))
  (.keep [1, 2] (.seq (.reg [co (some 7) (.load 40 (.tmp 1)) none,
      co none (.store 40 (.tmp 2) (.tmp 7)) none] [2])
  (.ret))))
theorem t_centolaw10_Light : Txt Try.prog 19 8 [(.cell 2 40)] c_centolaw10_Light := txt_of (code := Try.f19.body.getD .ret) mixed (by kernel_rfl) Try.func19 (by kernel_rfl) Try.ntmps19 (by kernel_rfl) (ls := [([1, 2], [(0, [0]), (1, [1])]), ([], []), ([1, 2, 5], []), ([], []), ([1, 2], []), ([999999, 1, 2], []), ([2], []), ([], [])]) (by kernel_rfl)


/-- cento/centolaw15.root -/
def c_centolaw15_root : CC :=
  .seq (.reg [cn (some 2) (.alloc 47) none [0]] [0, 2])
  (.seq (.reg [co (some 6) (.move (.tmp 0)) none,
      co (some 7) (.call { callee := (.value (.func 39)), args := #[(.tmp 6)], argTypes := #[38] }) none,
      co (some 8) (.call { callee := (.value (.func 38)), args := #[(.tmp 7)], argTypes := #[44] }) none,
      co (some 5) (.move (.tmp 8)) none,
      co (some 9) (.extract (.tmp 5) 0) none,
      co (some 10) (.extract (.tmp 5) 1) none,
      cn (some 3) (.alloc 47) none [1],
      co none (.store 47 (.tmp 3) (.tmp 9)) none,
      co (some 4) (.assign (.tmp 10)) none] [2, 3])
  (.seq (.reg [co (some 11) (.load 47 (.tmp 3)) none,
      co none (.store 47 (.tmp 2) (.tmp 11)) none] [2])
  (.ret)))
theorem t_centolaw15_root : Txt Try.prog 22 12 [(.cell 2 47)] c_centolaw15_root := txt_of (code := Try.f22.body.getD .ret) mixed (by kernel_rfl) Try.func22 (by kernel_rfl) Try.ntmps22 (by kernel_rfl) (ls := [([0, 2], [(0, [0])]), ([], []), ([2, 3], [(6, [1])]), ([], []), ([2], []), ([], [])]) (by kernel_rfl)


/-- cento/centolaw15.awake -/
def c_centolaw15_awake : CC :=
  .seq (.reg [co (some 0) (.assign (.const (.bool false))) none] [])
  (.seq (.reg [co (some 6) (.buildSlice 22 2 #[(0, (.const (.int .u64 4294967296))), (1, (.const (.int .u64 7)))]) none,
      co (some 7) (.buildSlice 38 1 #[(0, (.tmp 6))]) none,
      co (some 8) (.call { callee := (.value (.func 22)), args := #[(.tmp 7)], argTypes := #[38] }) none,
      co (some 9) (.buildSlice 22 3 #[(0, (.const (.int .u64 8589934592))), (1, (.const (.int .u64 7))), (2, (.const (.int .u64 0)))]) none,
      co (some 10) (.buildSlice 38 1 #[(0, (.tmp 9))]) none,
      co (some 11) (.call { callee := (.value (.func 22)), args := #[(.tmp 10)], argTypes := #[38] }) none,
      co (some 12) (.call { callee := (.value (.func 23)), args := #[(.tmp 8), (.tmp 11)], argTypes := #[47, 47] }) none,
      co (some 5) (.move (.tmp 12)) none,
      co (some 13) (.extract (.tmp 5) 0) none,
      co (some 14) (.extract (.tmp 5) 1) none,
      co (some 1) (.assign (.tmp 13)) none,
      co (some 2) (.assign (.tmp 14)) none] [1, 2])
  (.seq (.reg [co (some 16) (.buildSlice 22 2 #[(0, (.const (.int .u64 4294967296))), (1, (.const (.int .u64 7)))]) none,
      co (some 17) (.buildSlice 38 1 #[(0, (.tmp 16))]) none,
      co (some 18) (.call { callee := (.value (.func 22)), args := #[(.tmp 17)], argTypes := #[38] }) none,
      co (some 19) (.buildSlice 22 2 #[(0, (.const (.int .u64 4294967296))), (1, (.const (.int .u64 8)))]) none,
      co (some 20) (.buildSlice 38 1 #[(0, (.tmp 19))]) none,
      co (some 21) (.call { callee := (.value (.func 22)), args := #[(.tmp 20)], argTypes := #[38] }) none,
      co (some 22) (.call { callee := (.value (.func 23)), args := #[(.tmp 18), (.tmp 21)], argTypes := #[47, 47] }) none,
      co (some 15) (.move (.tmp 22)) none,
      co (some 23) (.extract (.tmp 15) 0) none,
      co (some 24) (.extract (.tmp 15) 1) none,
      co (some 3) (.assign (.tmp 23)) none,
      co (some 4) (.assign (.tmp 24)) none] [1, 2, 3, 4])
  (.seq (.reg [co (some 25) (.move (.tmp 1)) none,
      co (some 26) (.move (.tmp 25)) none,
      co (some 27) (.move (.tmp 2)) (some (26, true)),
      co (some 28) (.binOp .eql 49 (.tmp 27) (.const (.int .i64 0)) 49) (some (26, true)),
      co (some 29) (.pick (.tmp 26) (.tmp 28) (.const (.bool false))) none,
      co (some 30) (.move (.tmp 29)) none,
      co (some 31) (.move (.tmp 3)) (some (30, true)),
      co (some 32) (.unOp .not 4 (.tmp 31)) (some (30, true)),
      co (some 33) (.pick (.tmp 30) (.tmp 32) (.const (.bool false))) none,
      co (some 34) (.move (.tmp 33)) none,
      co (some 35) (.move (.tmp 4)) (some (34, true)),
      co (some 36) (.binOp .eql 49 (.tmp 35) (.const (.int .i64 0)) 49) (some (34, true)),
      co (some 37) (.pick (.tmp 34) (.tmp 36) (.const (.bool false))) none,
      co (some 0) (.assign (.tmp 37)) none] [0])
  (.ret))))
theorem t_centolaw15_awake : Txt Try.prog 21 38 [(.tmp 0)] c_centolaw15_awake := txt_of (code := Try.f21.body.getD .ret) mixed (by kernel_rfl) Try.func21 (by kernel_rfl) Try.ntmps21 (by kernel_rfl) (ls := [([], []), ([], []), ([1, 2], []), ([], []), ([1, 2, 3, 4], []), ([], []), ([0], []), ([], [])]) (by kernel_rfl)


/-- cento/centolaw15.EqualGoes -/
def c_centolaw15_EqualGoes : CC :=
  .seq (.reg [cn (some 7) (.box 40 (.tmp 3)) none [0],
      co (some 8) (.assign (.const (.bool false))) none] [0, 1, 2, 7])
  (.seq (.reg [co (some 31) (.load 40 (.tmp 7)) none,
      co (some 32) (.call { callee := (.value (.func 19)), args := #[(.tmp 31)], argTypes := #[40] }) none,
      co none (.store 40 (.tmp 7) (.tmp 32)) none] [0, 1, 2, 7])
  (.seq (.reg [co (some 34) (.move (.tmp 0)) none,
      co (some 35) (.load 40 (.tmp 7)) none,
      co (some 36) (.call { callee := (.value (.func 20)), args := #[(.tmp 34), (.tmp 35)], argTypes := #[38, 40] }) none,
      co (some 33) (.move (.tmp 36)) none,
      co (some 37) (.extract (.tmp 33) 0) none,
      co (some 38) (.extract (.tmp 33) 1) none,
      co (some 39) (.extract (.tmp 33) 2) none,
      cn (some 9) (.alloc 25) none [1],
      co none (.store 25 (.tmp 9) (.tmp 37)) none,
      co (some 10) (.assign (.tmp 38)) none,
      co (some 11) (.assign (.tmp 39)) none] [0, 1, 2, 7, 11])
  (.seq (.reg [co (some 41) (.move (.tmp 1)) none,
      co (some 42) (.load 40 (.tmp 7)) none,
      co (some 43) (.call { callee := (.value (.func 20)), args := #[(.tmp 41), (.tmp 42)], argTypes := #[38, 40] }) none,
      co (some 40) (.move (.tmp 43)) none,
      co (some 44) (.extract (.tmp 40) 0) none,
      co (some 45) (.extract (.tmp 40) 1) none,
      co (some 46) (.extract (.tmp 40) 2) none,
      cn (some 12) (.alloc 25) none [2],
      co none (.store 25 (.tmp 12) (.tmp 44)) none,
      co (some 13) (.assign (.tmp 45)) none,
      co (some 14) (.assign (.tmp 46)) none] [0, 1, 2, 7, 11, 14])
  (.seq (.reg [co (some 48) (.move (.tmp 2)) none,
      co (some 49) (.load 40 (.tmp 7)) none,
      co (some 50) (.call { callee := (.value (.func 20)), args := #[(.tmp 48), (.tmp 49)], argTypes := #[38, 40] }) none,
      co (some 47) (.move (.tmp 50)) none,
      co (some 51) (.extract (.tmp 47) 0) none,
      co (some 52) (.extract (.tmp 47) 1) none,
      co (some 53) (.extract (.tmp 47) 2) none,
      cn (some 15) (.alloc 25) none [3],
      co none (.store 25 (.tmp 15) (.tmp 51)) none,
      co (some 16) (.assign (.tmp 52)) none,
      co (some 17) (.assign (.tmp 53)) none] [0, 1, 2, 11, 14, 17])
  (.seq (.seq (.reg [co (some 54) (.move (.tmp 11)) none,
        co (some 55) (.binOp .neq 3 (.tmp 54) (.const (.int .i64 0)) 3) none,
        co (some 56) (.move (.tmp 55)) none,
        co (some 57) (.move (.tmp 14)) (some (56, false)),
        co (some 58) (.binOp .neq 3 (.tmp 57) (.const (.int .i64 0)) 3) (some (56, false)),
        co (some 59) (.pick (.tmp 56) (.const (.bool true)) (.tmp 58)) none,
        co (some 60) (.move (.tmp 59)) none,
        co (some 61) (.move (.tmp 17)) (some (60, false)),
        co (some 62) (.binOp .neq 3 (.tmp 61) (.const (.int .i64 0)) 3) (some (60, false)),
        co (some 63) (.pick (.tmp 60) (.const (.bool true)) (.tmp 62)) none] [0, 1, 2, 63])
    (.cond (.tmp 63)
      (.seq (.reg [co (some 64) (.call { callee := (.value (.func 21)), args := #[], argTypes := #[] }) none,
          co (some 8) (.assign (.tmp 64)) none] [8])
      (.ret))
      (.skip)))
  (.keep [0, 1, 2] (.seq (.reg [co (some 65) (.move (.tmp 0)) none,
      co (some 66) (.call { callee := (.value (.func 22)), args := #[(.tmp 65)], argTypes := #[38] }) none,
      co (some 67) (.move (.tmp 1)) none,
      co (some 68) (.call { callee := (.value (.func 22)), args := #[(.tmp 67)], argTypes := #[38] }) none,
      co (some 69) (.move (.tmp 2)) none,
      co (some 70) (.call { callee := (.value (.func 22)), args := #[(.tmp 69)], argTypes := #[38] }) none,
      cn (some 18) (.alloc 47) none [4],
      cn (some 19) (.alloc 47) none [5],
      cn (some 20) (.alloc 47) none [6],
      co none (.store 47 (.tmp 18) (.tmp 66)) none,
      co none (.store 47 (.tmp 19) (.tmp 68)) none,
      co none (.store 47 (.tmp 20) (.tmp 70)) none] [18, 19, 20])
  (.seq (.reg [co (some 72) (.load 47 (.tmp 18)) none,
      co (some 73) (.load 47 (.tmp 18)) none,
      co (some 74) (.call { callee := (.value (.func 23)), args := #[(.tmp 72), (.tmp 73)], argTypes := #[47, 47] }) none,
      co (some 71) (.move (.tmp 74)) none,
      co (some 75) (.extract (.tmp 71) 0) none,
      co (some 76) (.extract (.tmp 71) 1) none,
      co (some 21) (.assign (.tmp 75)) none,
      co (some 22) (.assign (.tmp 76)) none] [18, 19, 20, 21])
  (.seq (.reg [co (some 78) (.load 47 (.tmp 18)) none,
      co (some 79) (.load 47 (.tmp 19)) none,
      co (some 80) (.call { callee := (.value (.func 23)), args := #[(.tmp 78), (.tmp 79)], argTypes := #[47, 47] }) none,
      co (some 77) (.move (.tmp 80)) none,
      co (some 81) (.extract (.tmp 77) 0) none,
      co (some 82) (.extract (.tmp 77) 1) none,
      co (some 23) (.assign (.tmp 81)) none,
      co (some 24) (.assign (.tmp 82)) none] [18, 19, 20, 21, 23])
  (.seq (.reg [co (some 84) (.load 47 (.tmp 19)) none,
      co (some 85) (.load 47 (.tmp 18)) none,
      co (some 86) (.call { callee := (.value (.func 23)), args := #[(.tmp 84), (.tmp 85)], argTypes := #[47, 47] }) none,
      co (some 83) (.move (.tmp 86)) none,
      co (some 87) (.extract (.tmp 83) 0) none,
      co (some 88) (.extract (.tmp 83) 1) none,
      co (some 25) (.assign (.tmp 87)) none,
      co (some 26) (.assign (.tmp 88)) none] [18, 19, 20, 21, 23, 25])
  (.seq (.reg [co (some 90) (.load 47 (.tmp 19)) none,
      co (some 91) (.load 47 (.tmp 20)) none,
      co (some 92) (.call { callee := (.value (.func 23)), args := #[(.tmp 90), (.tmp 91)], argTypes := #[47, 47] }) none,
      co (some 89) (.move (.tmp 92)) none,
      co (some 93) (.extract (.tmp 89) 0) none,
      co (some 94) (.extract (.tmp 89) 1) none,
      co (some 27) (.assign (.tmp 93)) none,
      co (some 28) (.assign (.tmp 94)) none] [18, 20, 21, 23, 25, 27])
  (.seq (.reg [co (some 96) (.load 47 (.tmp 18)) none,
      co (some 97) (.load 47 (.tmp 20)) none,
      co (some 98) (.call { callee := (.value (.func 23)), args := #[(.tmp 96), (.tmp 97)], argTypes := #[47, 47] }) none,
      co (some 95) (.move (.tmp 98)) none,
      co (some 99) (.extract (.tmp 95) 0) none,
      co (some 100) (.extract (.tmp 95) 1) none,
      co (some 29) (.assign (.tmp 99)) none,
      co (some 30) (.assign (.tmp 100)) none] [21, 23, 25, 27, 29])
  (.seq (.reg [co (some 101) (.move (.tmp 21)) none,
      co (some 102) (.move (.tmp 101)) none,
      co (some 103) (.move (.tmp 23)) (some (102, true)),
      co (some 104) (.move (.tmp 25)) (some (102, true)),
      co (some 105) (.binOp .eql 4 (.tmp 103) (.tmp 104) 4) (some (102, true)),
      co (some 106) (.pick (.tmp 102) (.tmp 105) (.const (.bool false))) none,
      co (some 107) (.move (.tmp 106)) none,
      co (some 108) (.move (.tmp 23)) (some (107, true)),
      co (some 109) (.unOp .not 4 (.tmp 108)) (some (107, true)),
      co (some 110) (.move (.tmp 109)) (some (107, true)),
      co (some 111) (.move (.tmp 27)) (some (110, false)),
      co (some 112) (.unOp .not 4 (.tmp 111)) (some (110, false)),
      co (some 113) (.pick (.tmp 110) (.const (.bool true)) (.tmp 112)) (some (107, true)),
      co (some 114) (.move (.tmp 113)) (some (107, true)),
      co (some 115) (.move (.tmp 29)) (some (114, false)),
      co (some 116) (.pick (.tmp 114) (.const (.bool true)) (.tmp 115)) (some (107, true)),
      co (some 117) (.pick (.tmp 107) (.tmp 116) (.const (.bool false))) none,
      co (some 118) (.move (.tmp 117)) none,
      co (some 119) (.move (.tmp 23)) (some (118, true)),
      co (some 120) (.unOp .not 4 (.tmp 119)) (some (118, true)),
      co (some 121) (.move (.tmp 120)) (some (118, true)),
      co (some 122) (.move (.tmp 27)) (some (121, false)),
      co (some 123) (.move (.tmp 29)) (some (121, false)),
      co (some 124) (.binOp .eql 4 (.tmp 122) (.tmp 123) 4) (some (121, false)),
      co (some 125) (.pick (.tmp 121) (.const (.bool true)) (.tmp 124)) (some (118, true)),
      co (some 126) (.pick (.tmp 118) (.tmp 125) (.const (.bool false))) none,
      co (some 127) (.move (.tmp 126)) none,
      co (some 128) (.call { callee := (.value (.func 21)), args := #[], argTypes := #[] }) (some (127, true)),
      co (some 129) (.pick (.tmp 127) (.tmp 128) (.const (.bool false))) none,
      co (some 8) (.assign (.tmp 129)) none] [8])
  (.ret))))))))))))))
theorem t_centolaw15_EqualGoes : Txt Try.prog 4 130 [(.tmp 8)] c_centolaw15_EqualGoes := txt_of (code := Try.f4.body.getD .ret) mixed (by kernel_rfl) Try.func4 (by kernel_rfl) Try.ntmps4 (by kernel_rfl) (ls := [([0, 1, 2, 7], [(0, [0])]), ([], []), ([0, 1, 2, 7], []), ([], []), ([0, 1, 2, 7, 11], [(7, [1])]), ([], []), ([0, 1, 2, 7, 11, 14], [(7, [2])]), ([], []), ([0, 1, 2, 11, 14, 17], [(7, [3])]), ([], []), ([0, 1, 2, 63], []), ([], []), ([8], []), ([], []), ([999999, 0, 1, 2], []), ([18, 19, 20], [(6, [4]), (7, [5]), (8, [6])]), ([], []), ([18, 19, 20, 21], []), ([], []), ([18, 19, 20, 21, 23], []), ([], []), ([18, 19, 20, 21, 23, 25], []), ([], []), ([18, 20, 21, 23, 25, 27], []), ([], []), ([21, 23, 25, 27, 29], []), ([], []), ([8], []), ([], [])]) (by kernel_rfl)
end Go.Proofs.Ytigdcnlhgelkaaa
