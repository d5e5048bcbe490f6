/-
  The functions' text as data, and the facts on the types that they use: written by a program of ours (gen2.py) off the translation.
-/
import Derived.Test.YtigdcnlhgelkaaaProg
import Derived.Test.YtigdcnlhgelkaaaGSimp
import Derived.Test.YtigdcnlhgelkaaaGFnsA
import Derived.Test.YtigdcnlhgelkaaaGFns1
import Derived.Test.YtigdcnlhgelkaaaGFnsB
import Derived.Test.YtigdcnlhgelkaaaGFns7
import Derived.Test.YtigdcnlhgelkaaaGFns9
import Derived.Test.YtigdcnlhgelkaaaGFnsH
import Derived.KernelRfl
namespace Go.Proofs.Ytigdcnlhgelkaaa
set_option linter.unusedVariables false
set_option linter.unusedSimpArgs false
set_option maxRecDepth 20000
open Go Go.G Go.Proofs

@[simp] theorem und_58 : Try.prog.underlying 58 = some (.pointer 117) := by kernel_rfl
@[simp] theorem und_69 : Try.prog.underlying 69 = some (.slice 3) := by kernel_rfl
@[simp] theorem und_115 : Try.prog.underlying 115 = some (.slice 120) := by kernel_rfl
@[simp] theorem szT_69 : szT Try.prog 69 = some 1 := by kernel_rfl
@[simp] theorem szT_115 : szT Try.prog 115 = some 1 := by kernel_rfl
@[simp] theorem szT_120 : szT Try.prog 120 = some 9 := by kernel_rfl
@[simp] theorem aggT_69 : aggT Try.prog 69 = some false := by kernel_rfl
@[simp] theorem aggT_115 : aggT Try.prog 115 = some false := by kernel_rfl
@[simp] theorem aggT_120 : aggT Try.prog 120 = some true := by kernel_rfl
@[simp] theorem zeroT_3 : zeroT Try.prog 3 = some (Value.int IntKind.i64 0) := by kernel_rfl
@[simp] theorem zeroT_120 : zeroT Try.prog 120 = some (Value.agg #[Value.int IntKind.u64 0, Value.pointer none, Value.int IntKind.i64 0, Value.int IntKind.i64 0, Value.int IntKind.i64 0, Value.int IntKind.i64 0, Value.int IntKind.i64 0, Value.int IntKind.i64 0, Value.int IntKind.u64 0]) := by kernel_rfl
@[simp] theorem bytesT_3 : bytesT Try.prog 3 = some 8 := by kernel_rfl
@[simp] theorem bytesT_120 : bytesT Try.prog 120 = some 72 := by kernel_rfl
@[simp] theorem fieldOffT_117_0 : fieldOffT Try.prog 117 0 = some 0 := by kernel_rfl
@[simp] theorem fieldOffT_117_1 : fieldOffT Try.prog 117 1 = some 1 := by kernel_rfl
@[simp] theorem fieldOffT_120_0 : fieldOffT Try.prog 120 0 = some 0 := by kernel_rfl
@[simp] theorem fieldOffT_120_1 : fieldOffT Try.prog 120 1 = some 1 := by kernel_rfl
@[simp] theorem buildA_117 (ps : List (Nat × A)) : buildA Try.prog 117 ps = (fillA (fun i => ([(0, 1), (1, 1)] : List (Nat × Nat))[i]?) [A.sl true [], A.sl true []] ps).map A.agg := by kernel_rfl
@[simp] theorem buildA_120 (ps : List (Nat × A)) : buildA Try.prog 120 ps = (fillA (fun i => ([(0, 1), (1, 8)] : List (Nat × Nat))[i]?) [A.v (Value.int IntKind.u64 0), A.v (Value.pointer none), A.v (Value.int IntKind.i64 0), A.v (Value.int IntKind.i64 0), A.v (Value.int IntKind.i64 0), A.v (Value.int IntKind.i64 0), A.v (Value.int IntKind.i64 0), A.v (Value.int IntKind.i64 0), A.v (Value.int IntKind.u64 0)] ps).map A.agg := by kernel_rfl


/-- cento/intern.New -/
def c_intern_New : CC :=
  .seq (.reg [co (some 0) (.assign (.const (.pointer none))) none] [])
  (.seq (.reg [cn (some 1) (.makeSlice 69 (.const (.int .i64 8)) (.const (.int .i64 8))) none [0, 1],
      co (some 2) (.build 117 #[(1, (.tmp 1))]) none,
      cn (some 3) (.box 117 (.tmp 2)) none [0],
      co (some 0) (.assign (.tmp 3)) none] [0])
  (.ret))
theorem t_intern_New : Txt Try.prog 26 4 [(.tmp 0)] c_intern_New := txt_of (code := Try.f26.body.getD .ret) mixed (by kernel_rfl) Try.func26 (by kernel_rfl) Try.ntmps26 (by kernel_rfl) (ls := [([], []), ([], []), ([0], [(0, [0, 1]), (2, [0])]), ([], [])]) (by kernel_rfl)


/-- (*cento/intern.Table).Len -/
def c_intern_Table_Len : CC :=
  .seq (.reg [co (some 2) (.assign (.const (.int .i64 0))) none] [0])
  (.seq (.seq (.reg [co (some 3) (.move (.tmp 0)) none,
        co (some 4) (.binOp .eql 58 (.tmp 3) (.const (.pointer none)) 58) none] [0, 4])
    (.cond (.tmp 4)
      (.seq (.reg [co (some 2) (.assign (.const (.int .i64 0))) none] [2])
      (.ret))
      (.skip)))
  (.keep [0] (.seq (.reg [co (some 5) (.move (.tmp 0)) none,
      co (some 6) (.nilCheck (.tmp 5)) none,
      co (some 7) (.fieldAddr 117 (.tmp 6) 0) none,
      co (some 8) (.load 115 (.tmp 7)) none,
      co (some 9) (.call { callee := (.builtin .len), args := #[(.tmp 8)], argTypes := #[115] }) none,
      co (some 2) (.assign (.tmp 9)) none] [2])
  (.ret))))
theorem t_intern_Table_Len : Txt Try.prog 30 10 [(.tmp 2)] c_intern_Table_Len := txt_of (code := Try.f30.body.getD .ret) mixed (by kernel_rfl) Try.func30 (by kernel_rfl) Try.ntmps30 (by kernel_rfl) (ls := [([0], []), ([], []), ([0, 4], []), ([], []), ([2], []), ([], []), ([999999, 0], []), ([2], []), ([], [])]) (by kernel_rfl)


/-- (*cento/intern.Table).next -/
def c_intern_Table_next : CC :=
  .seq (.reg [co (some 4) (.assign (.const (.int .i64 0))) none] [0, 1])
  (.seq (.reg [co (some 5) (.move (.tmp 1)) none,
      co (some 6) (.binOp .add 3 (.tmp 5) (.const (.int .i64 1)) 3) none,
      co (some 7) (.move (.tmp 0)) none,
      co (some 8) (.nilCheck (.tmp 7)) none,
      co (some 9) (.fieldAddr 117 (.tmp 8) 1) none,
      co (some 10) (.load 69 (.tmp 9)) none,
      co (some 11) (.call { callee := (.builtin .len), args := #[(.tmp 10)], argTypes := #[69] }) none,
      co (some 12) (.binOp .rem 3 (.tmp 6) (.tmp 11) 3) none,
      co (some 4) (.assign (.tmp 12)) none] [4])
  (.ret))
theorem t_intern_Table_next : Txt Try.prog 96 13 [(.tmp 4)] c_intern_Table_next := txt_of (code := Try.f96.body.getD .ret) mixed (by kernel_rfl) Try.func96 (by kernel_rfl) Try.ntmps96 (by kernel_rfl) (ls := [([0, 1], []), ([], []), ([4], []), ([], [])]) (by kernel_rfl)

def l1_intern_Table_find : CC :=
  .seq (.seq (.reg [co (some 24) (.move (.tmp 0)) none,
        co (some 25) (.nilCheck (.tmp 24)) none,
        co (some 26) (.fieldAddr 117 (.tmp 25) 1) none,
        co (some 27) (.load 69 (.tmp 26)) none,
        co (some 28) (.move (.tmp 9)) none,
        co (some 29) (.indexAddr 69 (.tmp 27) (.tmp 28)) none,
        co (some 30) (.load 3 (.tmp 29)) none,
        co (some 31) (.binOp .gtr 3 (.tmp 30) (.const (.int .i64 0)) 3) none] [0, 1, 5, 8, 9, 31])
    (.cond (.tmp 31)
      (.skip)
      (.exit 0)))
  (.keep [0, 1, 5, 8, 9] (.block 1
    (.seq (.reg [co (some 32) (.move (.tmp 0)) none,
        co (some 33) (.nilCheck (.tmp 32)) none,
        co (some 34) (.fieldAddr 117 (.tmp 33) 0) none,
        ⟨some 35, (.load 115 (.tmp 34)), none, [], 3, [], true⟩,
        co (some 36) (.move (.tmp 0)) none,
        co (some 37) (.nilCheck (.tmp 36)) none,
        co (some 38) (.fieldAddr 117 (.tmp 37) 1) none,
        ⟨some 39, (.load 69 (.tmp 38)), none, [], 7, [], true⟩,
        co (some 40) (.move (.tmp 9)) none,
        co (some 41) (.indexAddr 69 (.tmp 39) (.tmp 40)) none,
        ⟨some 42, (.load 3 (.tmp 41)), none, [], 10, [], true⟩,
        co (some 43) (.binOp .sub 3 (.tmp 42) (.const (.int .i64 1)) 3) none,
        co (some 44) (.indexAddr 115 (.tmp 35) (.tmp 43)) none,
        ⟨some 45, (.load 120 (.tmp 44)), none, [], 13, [], true⟩,
        ⟨some 10, (.alloc 120), none, [1], 14, [3, 7, 10, 13], false⟩,
        co none (.store 120 (.tmp 10) (.tmp 45)) none] [0, 1, 5, 8, 9, 10])
    (.seq (.seq (.reg [co (some 46) (.fieldAddr 120 (.tmp 10) 0) none,
          co (some 47) (.load 45 (.tmp 46)) none,
          co (some 48) (.move (.tmp 1)) none,
          co (some 49) (.binOp .eql 45 (.tmp 47) (.tmp 48) 45) none] [0, 1, 5, 8, 9, 10, 49])
      (.cond (.tmp 49)
        (.seq (.reg [co (some 51) (.fieldAddr 120 (.tmp 10) 1) none,
            co (some 52) (.load 47 (.tmp 51)) none,
            co (some 53) (.load 47 (.tmp 5)) none,
            co (some 54) (.call { callee := (.value (.func 23)), args := #[(.tmp 52), (.tmp 53)], argTypes := #[47, 47] }) none,
            co (some 50) (.move (.tmp 54)) none,
            co (some 55) (.extract (.tmp 50) 0) none,
            co (some 56) (.extract (.tmp 50) 1) none,
            co (some 11) (.assign (.tmp 55)) none,
            co (some 12) (.assign (.tmp 56)) none] [0, 1, 5, 8, 9, 11, 12])
        (.seq (.reg [co (some 57) (.move (.tmp 12)) none,
            co (some 58) (.binOp .neq 49 (.tmp 57) (.const (.int .i64 0)) 49) none,
            co (some 59) (.move (.tmp 58)) none,
            co (some 60) (.move (.tmp 11)) (some (59, false)),
            co (some 61) (.pick (.tmp 59) (.const (.bool true)) (.tmp 60)) none] [0, 1, 5, 8, 9, 12, 61])
        (.cond (.tmp 61)
          (.seq (.reg [co (some 62) (.move (.tmp 9)) none,
              co (some 63) (.move (.tmp 12)) none,
              co (some 6) (.assign (.tmp 62)) none,
              co (some 7) (.assign (.tmp 63)) none] [6, 7])
          (.ret))
          (.skip))))
        (.skip)))
    (.keep [0, 1, 5, 8, 9] (.reg [co (some 64) (.move (.tmp 8)) none,
      co (some 65) (.move (.tmp 9)) none,
      co (some 66) (.call { callee := (.value (.tmp 64)), args := #[(.tmp 65)], argTypes := #[3] }) none,
      co (some 9) (.assign (.tmp 66)) none] [0, 1, 5, 8, 9]))))))

/-- (*cento/intern.Table).find -/
def c_intern_Table_find : CC :=
  .seq (.reg [cn (some 5) (.box 47 (.tmp 2)) none [0],
      co (some 6) (.assign (.const (.int .i64 0))) none,
      co (some 7) (.assign (.const (.int .i64 0))) none] [0, 1, 5])
  (.seq (.reg [co (some 13) (.move (.tmp 0)) none,
      co (some 14) (.makeFunc (.func 96) #[(.tmp 13)] #[]) none,
      co (some 8) (.assign (.tmp 14)) none] [0, 1, 5, 8])
  (.seq (.reg [co (some 15) (.move (.tmp 1)) none,
      co (some 16) (.move (.tmp 0)) none,
      co (some 17) (.nilCheck (.tmp 16)) none,
      co (some 18) (.fieldAddr 117 (.tmp 17) 1) none,
      co (some 19) (.load 69 (.tmp 18)) none,
      co (some 20) (.call { callee := (.builtin .len), args := #[(.tmp 19)], argTypes := #[69] }) none,
      co (some 21) (.convert 3 45 (.tmp 20)) none,
      co (some 22) (.binOp .rem 45 (.tmp 15) (.tmp 21) 45) none,
      co (some 23) (.convert 45 3 (.tmp 22)) none,
      co (some 9) (.assign (.tmp 23)) none] [0, 1, 5, 8, 9])
  (.seq (.block 0
      (.loop l1_intern_Table_find))
  (.keep [9] (.seq (.reg [co (some 67) (.move (.tmp 9)) none,
      co (some 6) (.assign (.tmp 67)) none,
      co (some 7) (.assign (.const (.int .i64 0))) none] [6, 7])
  (.ret))))))
theorem t_intern_Table_find : Txt Try.prog 65 68 [(.tmp 6), (.tmp 7)] c_intern_Table_find := txt_of (code := Try.f65.body.getD .ret) mixed (by kernel_rfl) Try.func65 (by kernel_rfl) Try.ntmps65 (by kernel_rfl) (ls := [([0, 1, 5], [(0, [0])]), ([], []), ([0, 1, 5, 8], []), ([], []), ([0, 1, 5, 8, 9], []), ([], []), ([0, 1, 5, 8, 9, 31], []), ([], []), ([999999, 0, 1, 5, 8, 9], []), ([0, 1, 5, 8, 9, 10], [(14, [1])]), ([], []), ([0, 1, 5, 8, 9, 10, 49], []), ([], []), ([0, 1, 5, 8, 9, 11, 12], []), ([], []), ([0, 1, 5, 8, 9, 12, 61], []), ([], []), ([6, 7], []), ([], []), ([999999, 0, 1, 5, 8, 9], []), ([0, 1, 5, 8, 9], []), ([999999, 9], []), ([6, 7], []), ([], [])]) (by kernel_rfl)

def l1_intern_Table_grow : CC :=
  .seq (.seq (.reg [co (some 35) (.move (.tmp 0)) none,
        co (some 36) (.nilCheck (.tmp 35)) none,
        co (some 37) (.fieldAddr 117 (.tmp 36) 1) none,
        co (some 38) (.load 69 (.tmp 37)) none,
        co (some 39) (.move (.tmp 4)) none,
        co (some 40) (.indexAddr 69 (.tmp 38) (.tmp 39)) none,
        co (some 41) (.load 3 (.tmp 40)) none,
        co (some 42) (.binOp .gtr 3 (.tmp 41) (.const (.int .i64 0)) 3) none] [0, 2, 4, 18, 19, 20, 42])
    (.cond (.tmp 42)
      (.skip)
      (.exit 2)))
  (.keep [0, 2, 4, 18, 19, 20] (.block 3
    (.reg [co (some 43) (.move (.tmp 0)) none,
      co (some 44) (.move (.tmp 4)) none,
      co (some 45) (.call { callee := (.value (.func 96)), args := #[(.tmp 43), (.tmp 44)], argTypes := #[58, 3] }) none,
      co (some 4) (.assign (.tmp 45)) none] [0, 2, 4, 18, 19, 20])))
def l2_intern_Table_grow : CC :=
  .seq (.reg [co (some 21) (.binOp .lss 3 (.tmp 20) (.tmp 19) 3) none] [0, 18, 19, 20, 21])
  (.seq (.cond (.tmp 21)
      (.skip)
      (.exit 0))
  (.keep [0, 18, 19, 20] (.seq (.block 1
      (.seq (.reg [co (some 22) (.move (.tmp 20)) none,
          co (some 23) (.indexAddr 115 (.tmp 18) (.tmp 20)) none,
          co (some 24) (.load 120 (.tmp 23)) none,
          cn (some 3) (.alloc 120) none [2],
          co (some 2) (.assign (.tmp 22)) none,
          co none (.store 120 (.tmp 3) (.tmp 24)) none] [0, 2, 3, 18, 19, 20])
      (.seq (.reg [co (some 25) (.fieldAddr 120 (.tmp 3) 0) none,
          co (some 26) (.load 45 (.tmp 25)) none,
          co (some 27) (.move (.tmp 0)) none,
          co (some 28) (.nilCheck (.tmp 27)) none,
          co (some 29) (.fieldAddr 117 (.tmp 28) 1) none,
          co (some 30) (.load 69 (.tmp 29)) none,
          co (some 31) (.call { callee := (.builtin .len), args := #[(.tmp 30)], argTypes := #[69] }) none,
          co (some 32) (.convert 3 45 (.tmp 31)) none,
          co (some 33) (.binOp .rem 45 (.tmp 26) (.tmp 32) 45) none,
          co (some 34) (.convert 45 3 (.tmp 33)) none,
          co (some 4) (.assign (.tmp 34)) none] [0, 2, 4, 18, 19, 20])
      (.seq (.block 2
          (.loop l1_intern_Table_grow))
      (.keep [0, 2, 4, 18, 19, 20] (.reg [co (some 46) (.move (.tmp 0)) none,
        co (some 47) (.nilCheck (.tmp 46)) none,
        co (some 48) (.fieldAddr 117 (.tmp 47) 1) none,
        co (some 49) (.load 69 (.tmp 48)) none,
        co (some 50) (.move (.tmp 4)) none,
        co (some 51) (.move (.tmp 2)) none,
        co (some 52) (.binOp .add 3 (.tmp 51) (.const (.int .i64 1)) 3) none,
        co (some 53) (.indexAddr 69 (.tmp 49) (.tmp 50)) none,
        co none (.store 3 (.tmp 53) (.tmp 52)) none] [0, 18, 19, 20]))))))
  (.keep [0, 18, 19, 20] (.reg [co (some 54) (.binOp .add 3 (.tmp 20) (.const (.int .i64 1)) 3) none,
    co (some 20) (.move (.tmp 54)) none] [0, 18, 19, 20])))))

/-- (*cento/intern.Table).grow -/
def c_intern_Table_grow : CC :=
  .seq (.reg [co (some 5) (.move (.tmp 0)) none,
      co (some 6) (.move (.tmp 0)) none,
      co (some 7) (.nilCheck (.tmp 6)) none,
      co (some 8) (.fieldAddr 117 (.tmp 7) 1) none,
      co (some 9) (.load 69 (.tmp 8)) none,
      co (some 10) (.call { callee := (.builtin .len), args := #[(.tmp 9)], argTypes := #[69] }) none,
      co (some 11) (.binOp .mul 3 (.const (.int .i64 2)) (.tmp 10) 3) none,
      cn (some 12) (.makeSlice 69 (.tmp 11) (.tmp 11)) none [0, 1],
      co (some 13) (.nilCheck (.tmp 5)) none,
      co (some 14) (.fieldAddr 117 (.tmp 13) 1) none,
      co none (.store 69 (.tmp 14) (.tmp 12)) none] [0])
  (.seq (.reg [co (some 15) (.move (.tmp 0)) none,
      co (some 16) (.nilCheck (.tmp 15)) none,
      co (some 17) (.fieldAddr 117 (.tmp 16) 0) none,
      co (some 18) (.load 115 (.tmp 17)) none,
      co (some 19) (.call { callee := (.builtin .len), args := #[(.tmp 18)], argTypes := #[115] }) none,
      co (some 20) (.move (.const (.int .i64 0))) none] [0, 18, 19, 20])
  (.block 0
    (.loop l2_intern_Table_grow)))
theorem t_intern_Table_grow : Txt Try.prog 66 55 [] c_intern_Table_grow := txt_of (code := Try.f66.body.getD .ret) mixed (by kernel_rfl) Try.func66 (by kernel_rfl) Try.ntmps66 (by kernel_rfl) (ls := [([0], [(7, [0, 1])]), ([], []), ([0, 18, 19, 20], []), ([], []), ([0, 18, 19, 20, 21], []), ([], []), ([999999, 0, 18, 19, 20], []), ([0, 2, 3, 18, 19, 20], [(3, [2])]), ([], []), ([0, 2, 4, 18, 19, 20], []), ([], []), ([0, 2, 4, 18, 19, 20, 42], []), ([], []), ([999999, 0, 2, 4, 18, 19, 20], []), ([0, 2, 4, 18, 19, 20], []), ([999999, 0, 2, 4, 18, 19, 20], []), ([0, 18, 19, 20], []), ([999999, 0, 18, 19, 20], []), ([0, 18, 19, 20], [])]) (by kernel_rfl)

def k1_intern_Table_Class : CC :=
  .seq (.reg [co (some 84) (.move (.tmp 0)) none,
      co (some 85) (.nilCheck (.tmp 84)) none,
      co (some 86) (.fieldAddr 117 (.tmp 85) 0) none,
      co (some 87) (.load 115 (.tmp 86)) none,
      co (some 88) (.call { callee := (.builtin .len), args := #[(.tmp 87)], argTypes := #[115] }) none,
      co (some 89) (.binOp .sub 3 (.tmp 88) (.const (.int .i64 1)) 3) none,
      co (some 4) (.assign (.tmp 89)) none,
      co (some 5) (.assign (.const (.int .i64 0))) none] [4, 5])
  (.ret)

/-- (*cento/intern.Table).Class -/
def c_intern_Table_Class : CC :=
  .seq (.reg [cn (some 3) (.box 47 (.tmp 1)) none [1],
      co (some 4) (.assign (.const (.int .i64 0))) none,
      co (some 5) (.assign (.const (.int .i64 0))) none] [0, 3])
  (.seq (.seq (.reg [co (some 9) (.move (.tmp 0)) none,
        co (some 10) (.binOp .eql 58 (.tmp 9) (.const (.pointer none)) 58) none] [0, 3, 10])
    (.cond (.tmp 10)
      (.seq (.reg [co (some 4) (.assign (.const (.int .i64 0))) none,
          co (some 5) (.assign (.const (.int .i64 1))) none] [4, 5])
      (.ret))
      (.skip)))
  (.keep [0, 3] (.seq (.reg [co (some 12) (.load 47 (.tmp 3)) none,
      co (some 13) (.call { callee := (.value (.func 24)), args := #[(.tmp 12)], argTypes := #[47] }) none,
      co (some 11) (.move (.tmp 13)) none,
      co (some 14) (.extract (.tmp 11) 0) none,
      co (some 15) (.extract (.tmp 11) 1) none,
      co (some 6) (.assign (.tmp 14)) none,
      co (some 7) (.assign (.tmp 15)) none] [0, 3, 6, 7])
  (.seq (.seq (.reg [co (some 16) (.move (.tmp 7)) none,
        co (some 17) (.binOp .neq 49 (.tmp 16) (.const (.int .i64 0)) 49) none] [0, 3, 6, 7, 17])
    (.cond (.tmp 17)
      (.seq (.reg [co (some 18) (.move (.tmp 7)) none,
          co (some 4) (.assign (.const (.int .i64 0))) none,
          co (some 5) (.assign (.tmp 18)) none] [4, 5])
      (.ret))
      (.skip)))
  (.keep [0, 3, 6] (.seq (.reg [co (some 20) (.move (.tmp 0)) none,
      co (some 21) (.move (.tmp 6)) none,
      co (some 22) (.load 47 (.tmp 3)) none,
      co (some 23) (.call { callee := (.value (.func 65)), args := #[(.tmp 20), (.tmp 21), (.tmp 22)], argTypes := #[58, 45, 47] }) none,
      co (some 19) (.move (.tmp 23)) none,
      co (some 24) (.extract (.tmp 19) 0) none,
      co (some 25) (.extract (.tmp 19) 1) none,
      co (some 8) (.assign (.tmp 24)) none,
      co (some 7) (.assign (.tmp 25)) none] [0, 3, 6, 7, 8])
  (.seq (.block 0
      (.seq (.reg [co (some 27) (.move (.tmp 7)) none,
          co (some 28) (.binOp .neq 49 (.tmp 27) (.const (.int .i64 0)) 49) none,
          co (some 26) (.assign (.tmp 28)) none] [0, 3, 6, 7, 8, 26])
      (.cond (.tmp 26)
        (.seq (.reg [co (some 29) (.move (.tmp 7)) none,
            co (some 4) (.assign (.const (.int .i64 0))) none,
            co (some 5) (.assign (.tmp 29)) none] [4, 5])
        (.ret))
        (.seq (.reg [co (some 31) (.move (.tmp 0)) none,
            co (some 32) (.nilCheck (.tmp 31)) none,
            co (some 33) (.fieldAddr 117 (.tmp 32) 1) none,
            co (some 34) (.load 69 (.tmp 33)) none,
            co (some 35) (.move (.tmp 8)) none,
            co (some 36) (.indexAddr 69 (.tmp 34) (.tmp 35)) none,
            co (some 37) (.load 3 (.tmp 36)) none,
            co (some 38) (.binOp .gtr 3 (.tmp 37) (.const (.int .i64 0)) 3) none,
            co (some 30) (.assign (.tmp 38)) none] [0, 3, 6, 8, 30])
        (.cond (.tmp 30)
          (.seq (.reg [co (some 39) (.move (.tmp 0)) none,
              co (some 40) (.nilCheck (.tmp 39)) none,
              co (some 41) (.fieldAddr 117 (.tmp 40) 1) none,
              co (some 42) (.load 69 (.tmp 41)) none,
              co (some 43) (.move (.tmp 8)) none,
              co (some 44) (.indexAddr 69 (.tmp 42) (.tmp 43)) none,
              co (some 45) (.load 3 (.tmp 44)) none,
              co (some 46) (.binOp .sub 3 (.tmp 45) (.const (.int .i64 1)) 3) none,
              co (some 4) (.assign (.tmp 46)) none,
              co (some 5) (.assign (.const (.int .i64 0))) none] [4, 5])
          (.ret))
          (.skip))))))
  (.keep [0, 3, 6, 8] (.seq (.reg [co (some 47) (.move (.tmp 0)) none,
      co (some 48) (.move (.tmp 0)) none,
      co (some 49) (.nilCheck (.tmp 48)) none,
      co (some 50) (.fieldAddr 117 (.tmp 49) 0) none,
      ⟨some 51, (.load 115 (.tmp 50)), none, [], 4, [], true⟩,
      co (some 52) (.move (.tmp 6)) none,
      co (some 53) (.load 47 (.tmp 3)) none,
      co (some 54) (.build 120 #[(0, (.tmp 52)), (1, (.tmp 53))]) none,
      ⟨some 55, (.buildSlice 115 1 #[(0, (.tmp 54))]), none, [], 8, [4], false⟩,
      cn (some 56) (.call { callee := (.builtin .append), args := #[(.tmp 51), (.tmp 55)], argTypes := #[115, 115] }) none [2],
      co (some 57) (.nilCheck (.tmp 47)) none,
      co (some 58) (.fieldAddr 117 (.tmp 57) 0) none,
      co none (.store 115 (.tmp 58) (.tmp 56)) none] [0, 8])
  (.seq (.reg [co (some 59) (.move (.tmp 0)) none,
      co (some 60) (.nilCheck (.tmp 59)) none,
      co (some 61) (.fieldAddr 117 (.tmp 60) 1) none,
      co (some 62) (.load 69 (.tmp 61)) none,
      co (some 63) (.move (.tmp 8)) none,
      co (some 64) (.move (.tmp 0)) none,
      co (some 65) (.nilCheck (.tmp 64)) none,
      co (some 66) (.fieldAddr 117 (.tmp 65) 0) none,
      co (some 67) (.load 115 (.tmp 66)) none,
      co (some 68) (.call { callee := (.builtin .len), args := #[(.tmp 67)], argTypes := #[115] }) none,
      co (some 69) (.indexAddr 69 (.tmp 62) (.tmp 63)) none,
      co none (.store 3 (.tmp 69) (.tmp 68)) none] [0])
  (.seq (.seq (.reg [co (some 70) (.move (.tmp 0)) none,
        co (some 71) (.nilCheck (.tmp 70)) none,
        co (some 72) (.fieldAddr 117 (.tmp 71) 0) none,
        co (some 73) (.load 115 (.tmp 72)) none,
        co (some 74) (.call { callee := (.builtin .len), args := #[(.tmp 73)], argTypes := #[115] }) none,
        co (some 75) (.binOp .mul 3 (.const (.int .i64 2)) (.tmp 74) 3) none,
        co (some 76) (.move (.tmp 0)) none,
        co (some 77) (.nilCheck (.tmp 76)) none,
        co (some 78) (.fieldAddr 117 (.tmp 77) 1) none,
        co (some 79) (.load 69 (.tmp 78)) none,
        co (some 80) (.call { callee := (.builtin .len), args := #[(.tmp 79)], argTypes := #[69] }) none,
        co (some 81) (.binOp .gtr 3 (.tmp 75) (.tmp 80) 3) none] [0, 81])
    (.cond (.tmp 81)
      (.reg [co (some 82) (.move (.tmp 0)) none,
        co (some 83) (.call { callee := (.value (.func 66)), args := #[(.tmp 82)], argTypes := #[58] }) none] [0])
      (.skip)))
  (.keep [0] k1_intern_Table_Class))))))))))))
theorem t_intern_Table_Class : Txt Try.prog 27 90 [(.tmp 4), (.tmp 5)] c_intern_Table_Class := txt_of (code := Try.f27.body.getD .ret) mixed (by kernel_rfl) Try.func27 (by kernel_rfl) Try.ntmps27 (by kernel_rfl) (ls := [([0, 3], [(0, [1])]), ([], []), ([0, 3, 10], []), ([], []), ([4, 5], []), ([], []), ([999999, 0, 3], []), ([0, 3, 6, 7], []), ([], []), ([0, 3, 6, 7, 17], []), ([], []), ([4, 5], []), ([], []), ([999999, 0, 3, 6], []), ([0, 3, 6, 7, 8], []), ([], []), ([0, 3, 6, 7, 8, 26], []), ([], []), ([4, 5], []), ([], []), ([0, 3, 6, 8, 30], []), ([], []), ([4, 5], []), ([], []), ([999999, 0, 3, 6, 8], []), ([0, 8], [(9, [2])]), ([], []), ([0], []), ([], []), ([0, 81], []), ([], []), ([0], []), ([999999, 0], []), ([4, 5], []), ([], [])]) (by kernel_rfl)
end Go.Proofs.Ytigdcnlhgelkaaa
