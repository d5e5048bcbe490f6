/-
  The functions' text as data, and the facts on the types that they use: written by a program of ours (gen2.py) off the translation.
-/
import Derived.Test.YtigdcnlhgelkaaaProg
import Derived.Test.YtigdcnlhgelkaaaGSimp
import Derived.Test.YtigdcnlhgelkaaaGFnsA
import Derived.Test.YtigdcnlhgelkaaaGFns1
import Derived.Test.YtigdcnlhgelkaaaGFnsB
import Derived.Test.YtigdcnlhgelkaaaGFns7
import Derived.Test.YtigdcnlhgelkaaaGFns9
import Derived.Test.YtigdcnlhgelkaaaGFnsH
import Derived.KernelRfl
namespace Go.Proofs.Ytigdcnlhgelkaaa
set_option linter.unusedVariables false
set_option linter.unusedSimpArgs false
set_option maxRecDepth 20000
open Go Go.G Go.Proofs

@[simp] theorem und_57 : Try.prog.underlying 57 = some (.slice 38) := by kernel_rfl
@[simp] theorem und_58 : Try.prog.underlying 58 = some (.pointer 117) := by kernel_rfl
@[simp] theorem und_69 : Try.prog.underlying 69 = some (.slice 3) := by kernel_rfl
@[simp] theorem und_115 : Try.prog.underlying 115 = some (.slice 120) := by kernel_rfl
@[simp] theorem szT_69 : szT Try.prog 69 = some 1 := by kernel_rfl
@[simp] theorem szT_115 : szT Try.prog 115 = some 1 := by kernel_rfl
@[simp] theorem szT_120 : szT Try.prog 120 = some 9 := by kernel_rfl
@[simp] theorem aggT_69 : aggT Try.prog 69 = some false := by kernel_rfl
@[simp] theorem aggT_115 : aggT Try.prog 115 = some false := by kernel_rfl
@[simp] theorem aggT_120 : aggT Try.prog 120 = some true := by kernel_rfl
@[simp] theorem zeroT_3 : zeroT Try.prog 3 = some (Value.int IntKind.i64 0) := by kernel_rfl
@[simp] theorem zeroT_38 : zeroT Try.prog 38 = some (Value.slice none 0 0) := by kernel_rfl
@[simp] theorem zeroT_120 : zeroT Try.prog 120 = some (Value.agg #[Value.int IntKind.u64 0, Value.pointer none, Value.int IntKind.i64 0, Value.int IntKind.i64 0, Value.int IntKind.i64 0, Value.int IntKind.i64 0, Value.int IntKind.i64 0, Value.int IntKind.i64 0, Value.int IntKind.u64 0]) := by kernel_rfl
@[simp] theorem bytesT_3 : bytesT Try.prog 3 = some 8 := by kernel_rfl
@[simp] theorem bytesT_38 : bytesT Try.prog 38 = some 24 := by kernel_rfl
@[simp] theorem bytesT_120 : bytesT Try.prog 120 = some 72 := by kernel_rfl
@[simp] theorem fieldOffT_117_0 : fieldOffT Try.prog 117 0 = some 0 := by kernel_rfl
@[simp] theorem fieldOffT_117_1 : fieldOffT Try.prog 117 1 = some 1 := by kernel_rfl
@[simp] theorem fieldOffT_120_0 : fieldOffT Try.prog 120 0 = some 0 := by kernel_rfl
@[simp] theorem fieldOffT_120_1 : fieldOffT Try.prog 120 1 = some 1 := by kernel_rfl
@[simp] theorem buildA_117 (ps : List (Nat × A)) : buildA Try.prog 117 ps = (fillA (fun i => ([(0, 1), (1, 1)] : List (Nat × Nat))[i]?) [A.sl true [], A.sl true []] ps).map A.agg := by kernel_rfl
@[simp] theorem buildA_120 (ps : List (Nat × A)) : buildA Try.prog 120 ps = (fillA (fun i => ([(0, 1), (1, 8)] : List (Nat × Nat))[i]?) [A.v (Value.int IntKind.u64 0), A.v (Value.pointer none), A.v (Value.int IntKind.i64 0), A.v (Value.int IntKind.i64 0), A.v (Value.int IntKind.i64 0), A.v (Value.int IntKind.i64 0), A.v (Value.int IntKind.i64 0), A.v (Value.int IntKind.i64 0), A.v (Value.int IntKind.u64 0)] ps).map A.agg := by kernel_rfl


/-- cento/intern.New -/
def c_intern_New : CC :=
  .seq (.reg [co (some 0) (.assign (.const (.pointer none))) none] [])
  (.seq (.reg [cn (some 1) (.makeSlice 69 (.const (.int .i64 8)) (.const (.int .i64 8))) none [0, 1],
      co (some 2) (.build 117 #[(1, (.tmp 1))]) none,
      cn (some 3) (.box 117 (.tmp 2)) none [0],
      co (some 0) (.assign (.tmp 3)) none] [0])
  (.ret))
theorem t_intern_New : Txt Try.prog 26 4 [(.tmp 0)] c_intern_New := txt_of (code := Try.f26.body.getD .ret) mixed (by kernel_rfl) Try.func26 (by kernel_rfl) Try.ntmps26 (by kernel_rfl) (ls := [([], []), ([], []), ([0], [(0, [0, 1]), (2, [0])]), ([], [])]) (by kernel_rfl)


/-- (*cento/intern.Table).Len -/
def c_intern_Table_Len : CC :=
  .seq (.reg [co (some 2) (.assign (.const (.int .i64 0))) none] [0])
  (.seq (.seq (.reg [co (some 3) (.move (.tmp 0)) none,
        co (some 4) (.binOp .eql 58 (.tmp 3) (.const (.pointer none)) 58) none] [0, 4])
    (.cond (.tmp 4)
      (.seq (.reg [co (some 2) (.assign (.const (.int .i64 0))) none] [2])
      (.ret))
      (.skip)))
  (.keep [0] (.seq (.reg [co (some 5) (.move (.tmp 0)) none,
      co (some 6) (.nilCheck (.tmp 5)) none,
      co (some 7) (.fieldAddr 117 (.tmp 6) 0) none,
      co (some 8) (.load 115 (.tmp 7)) none,
      co (some 9) (.call { callee := (.builtin .len), args := #[(.tmp 8)], argTypes := #[115] }) none,
      co (some 2) (.assign (.tmp 9)) none] [2])
  (.ret))))
theorem t_intern_Table_Len : Txt Try.prog 30 10 [(.tmp 2)] c_intern_Table_Len := txt_of (code := Try.f30.body.getD .ret) mixed (by kernel_rfl) Try.func30 (by kernel_rfl) Try.ntmps30 (by kernel_rfl) (ls := [([0], []), ([], []), ([0, 4], []), ([], []), ([2], []), ([], []), ([999999, 0], []), ([2], []), ([], [])]) (by kernel_rfl)


/-- (*cento/intern.Table).next -/
def c_intern_Table_next : CC :=
  .seq (.reg [co (some 4) (.assign (.const (.int .i64 0))) none] [0, 1])
  (.seq (.reg [co (some 5) (.move (.tmp 1)) none,
      co (some 6) (.binOp .add 3 (.tmp 5) (.const (.int .i64 1)) 3) none,
      co (some 7) (.move (.tmp 0)) none,
      co (some 8) (.nilCheck (.tmp 7)) none,
      co (some 9) (.fieldAddr 117 (.tmp 8) 1) none,
      co (some 10) (.load 69 (.tmp 9)) none,
      co (some 11) (.call { callee := (.builtin .len), args := #[(.tmp 10)], argTypes := #[69] }) none,
      co (some 12) (.binOp .rem 3 (.tmp 6) (.tmp 11) 3) none,
      co (some 4) (.assign (.tmp 12)) none] [4])
  (.ret))
theorem t_intern_Table_next : Txt Try.prog 96 13 [(.tmp 4)] c_intern_Table_next := txt_of (code := Try.f96.body.getD .ret) mixed (by kernel_rfl) Try.func96 (by kernel_rfl) Try.ntmps96 (by kernel_rfl) (ls := [([0, 1], []), ([], []), ([4], []), ([], [])]) (by kernel_rfl)

def l1_intern_Table_find : CC :=
  .seq (.seq (.reg [co (some 24) (.move (.tmp 0)) none,
        co (some 25) (.nilCheck (.tmp 24)) none,
        co (some 26) (.fieldAddr 117 (.tmp 25) 1) none,
        co (some 27) (.load 69 (.tmp 26)) none,
        co (some 28) (.move (.tmp 9)) none,
        co (some 29) (.indexAddr 69 (.tmp 27) (.tmp 28)) none,
        co (some 30) (.load 3 (.tmp 29)) none,
        co (some 31) (.binOp .gtr 3 (.tmp 30) (.const (.int .i64 0)) 3) none] [0, 1, 5, 8, 9, 31])
    (.cond (.tmp 31)
      (.skip)
      (.exit 0)))
  (.keep [0, 1, 5, 8, 9] (.block 1
    (.seq (.reg [co (some 32) (.move (.tmp 0)) none,
        co (some 33) (.nilCheck (.tmp 32)) none,
        co (some 34) (.fieldAddr 117 (.tmp 33) 0) none,
        ⟨some 35, (.load 115 (.tmp 34)), none, [], 3, [], true⟩,
        co (some 36) (.move (.tmp 0)) none,
        co (some 37) (.nilCheck (.tmp 36)) none,
        co (some 38) (.fieldAddr 117 (.tmp 37) 1) none,
        ⟨some 39, (.load 69 (.tmp 38)), none, [], 7, [], true⟩,
        co (some 40) (.move (.tmp 9)) none,
        co (some 41) (.indexAddr 69 (.tmp 39) (.tmp 40)) none,
        ⟨some 42, (.load 3 (.tmp 41)), none, [], 10, [], true⟩,
        co (some 43) (.binOp .sub 3 (.tmp 42) (.const (.int .i64 1)) 3) none,
        co (some 44) (.indexAddr 115 (.tmp 35) (.tmp 43)) none,
        ⟨some 45, (.load 120 (.tmp 44)), none, [], 13, [], true⟩,
        ⟨some 10, (.alloc 120), none, [1], 14, [3, 7, 10, 13], false⟩,
        co none (.store 120 (.tmp 10) (.tmp 45)) none] [0, 1, 5, 8, 9, 10])
    (.seq (.seq (.reg [co (some 46) (.fieldAddr 120 (.tmp 10) 0) none,
          co (some 47) (.load 45 (.tmp 46)) none,
          co (some 48) (.move (.tmp 1)) none,
          co (some 49) (.binOp .eql 45 (.tmp 47) (.tmp 48) 45) none] [0, 1, 5, 8, 9, 10, 49])
      (.cond (.tmp 49)
        (.seq (.reg [co (some 51) (.fieldAddr 120 (.tmp 10) 1) none,
            co (some 52) (.load 47 (.tmp 51)) none,
            co (some 53) (.load 47 (.tmp 5)) none,
            co (some 54) (.call { callee := (.value (.func 23)), args := #[(.tmp 52), (.tmp 53)], argTypes := #[47, 47] }) none,
            co (some 50) (.move (.tmp 54)) none,
            co (some 55) (.extract (.tmp 50) 0) none,
            co (some 56) (.extract (.tmp 50) 1) none,
            co (some 11) (.assign (.tmp 55)) none,
            co (some 12) (.assign (.tmp 56)) none] [0, 1, 5, 8, 9, 11, 12])
        (.seq (.reg [co (some 57) (.move (.tmp 12)) none,
            co (some 58) (.binOp .neq 49 (.tmp 57) (.const (.int .i64 0)) 49) none,
            co (some 59) (.move (.tmp 58)) none,
            co (some 60) (.move (.tmp 11)) (some (59, false)),
            co (some 61) (.pick (.tmp 59) (.const (.bool true)) (.tmp 60)) none] [0, 1, 5, 8, 9, 12, 61])
        (.cond (.tmp 61)
          (.seq (.reg [co (some 62) (.move (.tmp 9)) none,
              co (some 63) (.move (.tmp 12)) none,
              co (some 6) (.assign (.tmp 62)) none,
              co (some 7) (.assign (.tmp 63)) none] [6, 7])
          (.ret))
          (.skip))))
        (.skip)))
    (.keep [0, 1, 5, 8, 9] (.reg [co (some 64) (.move (.tmp 8)) none,
      co (some 65) (.move (.tmp 9)) none,
      co (some 66) (.call { callee := (.value (.tmp 64)), args := #[(.tmp 65)], argTypes := #[3] }) none,
      co (some 9) (.assign (.tmp 66)) none] [0, 1, 5, 8, 9]))))))

/-- (*cento/intern.Table).find -/
def c_intern_Table_find : CC :=
  .seq (.reg [cn (some 5) (.box 47 (.tmp 2)) none [0],
      co (some 6) (.assign (.const (.int .i64 0))) none,
      co (some 7) (.assign (.const (.int .i64 0))) none] [0, 1, 5])
  (.seq (.reg [co (some 13) (.move (.tmp 0)) none,
      co (some 14) (.makeFunc (.func 96) #[(.tmp 13)] #[]) none,
      co (some 8) (.assign (.tmp 14)) none] [0, 1, 5, 8])
  (.seq (.reg [co (some 15) (.move (.tmp 1)) none,
      co (some 16) (.move (.tmp 0)) none,
      co (some 17) (.nilCheck (.tmp 16)) none,
      co (some 18) (.fieldAddr 117 (.tmp 17) 1) none,
      co (some 19) (.load 69 (.tmp 18)) none,
      co (some 20) (.call { callee := (.builtin .len), args := #[(.tmp 19)], argTypes := #[69] }) none,
      co (some 21) (.convert 3 45 (.tmp 20)) none,
      co (some 22) (.binOp .rem 45 (.tmp 15) (.tmp 21) 45) none,
      co (some 23) (.convert 45 3 (.tmp 22)) none,
      co (some 9) (.assign (.tmp 23)) none] [0, 1, 5, 8, 9])
  (.seq (.block 0
      (.loop l1_intern_Table_find))
  (.keep [9] (.seq (.reg [co (some 67) (.move (.tmp 9)) none,
      co (some 6) (.assign (.tmp 67)) none,
      co (some 7) (.assign (.const (.int .i64 0))) none] [6, 7])
  (.ret))))))
theorem t_intern_Table_find : Txt Try.prog 65 68 [(.tmp 6), (.tmp 7)] c_intern_Table_find := txt_of (code := Try.f65.body.getD .ret) mixed (by kernel_rfl) Try.func65 (by kernel_rfl) Try.ntmps65 (by kernel_rfl) (ls := [([0, 1, 5], [(0, [0])]), ([], []), ([0, 1, 5, 8], []), ([], []), ([0, 1, 5, 8, 9], []), ([], []), ([0, 1, 5, 8, 9, 31], []), ([], []), ([999999, 0, 1, 5, 8, 9], []), ([0, 1, 5, 8, 9, 10], [(14, [1])]), ([], []), ([0, 1, 5, 8, 9, 10, 49], []), ([], []), ([0, 1, 5, 8, 9, 11, 12], []), ([], []), ([0, 1, 5, 8, 9, 12, 61], []), ([], []), ([6, 7], []), ([], []), ([999999, 0, 1, 5, 8, 9], []), ([0, 1, 5, 8, 9], []), ([999999, 9], []), ([6, 7], []), ([], [])]) (by kernel_rfl)

def l1_intern_Table_grow : CC :=
  .seq (.seq (.reg [co (some 35) (.move (.tmp 0)) none,
        co (some 36) (.nilCheck (.tmp 35)) none,
        co (some 37) (.fieldAddr 117 (.tmp 36) 1) none,
        co (some 38) (.load 69 (.tmp 37)) none,
        co (some 39) (.move (.tmp 4)) none,
        co (some 40) (.indexAddr 69 (.tmp 38) (.tmp 39)) none,
        co (some 41) (.load 3 (.tmp 40)) none,
        co (some 42) (.binOp .gtr 3 (.tmp 41) (.const (.int .i64 0)) 3) none] [0, 2, 4, 18, 19, 20, 42])
    (.cond (.tmp 42)
      (.skip)
      (.exit 2)))
  (.keep [0, 2, 4, 18, 19, 20] (.block 3
    (.reg [co (some 43) (.move (.tmp 0)) none,
      co (some 44) (.move (.tmp 4)) none,
      co (some 45) (.call { callee := (.value (.func 96)), args := #[(.tmp 43), (.tmp 44)], argTypes := #[58, 3] }) none,
      co (some 4) (.assign (.tmp 45)) none] [0, 2, 4, 18, 19, 20])))
def l2_intern_Table_grow : CC :=
  .seq (.reg [co (some 21) (.binOp .lss 3 (.tmp 20) (.tmp 19) 3) none] [0, 18, 19, 20, 21])
  (.seq (.cond (.tmp 21)
      (.skip)
      (.exit 0))
  (.keep [0, 18, 19, 20] (.seq (.block 1
      (.seq (.reg [co (some 22) (.move (.tmp 20)) none,
          co (some 23) (.indexAddr 115 (.tmp 18) (.tmp 20)) none,
          co (some 24) (.load 120 (.tmp 23)) none,
          cn (some 3) (.alloc 120) none [2],
          co (some 2) (.assign (.tmp 22)) none,
          co none (.store 120 (.tmp 3) (.tmp 24)) none] [0, 2, 3, 18, 19, 20])
      (.seq (.reg [co (some 25) (.fieldAddr 120 (.tmp 3) 0) none,
          co (some 26) (.load 45 (.tmp 25)) none,
          co (some 27) (.move (.tmp 0)) none,
          co (some 28) (.nilCheck (.tmp 27)) none,
          co (some 29) (.fieldAddr 117 (.tmp 28) 1) none,
          co (some 30) (.load 69 (.tmp 29)) none,
          co (some 31) (.call { callee := (.builtin .len), args := #[(.tmp 30)], argTypes := #[69] }) none,
          co (some 32) (.convert 3 45 (.tmp 31)) none,
          co (some 33) (.binOp .rem 45 (.tmp 26) (.tmp 32) 45) none,
          co (some 34) (.convert 45 3 (.tmp 33)) none,
          co (some 4) (.assign (.tmp 34)) none] [0, 2, 4, 18, 19, 20])
      (.seq (.block 2
          (.loop l1_intern_Table_grow))
      (.keep [0, 2, 4, 18, 19, 20] (.reg [co (some 46) (.move (.tmp 0)) none,
        co (some 47) (.nilCheck (.tmp 46)) none,
        co (some 48) (.fieldAddr 117 (.tmp 47) 1) none,
        co (some 49) (.load 69 (.tmp 48)) none,
        co (some 50) (.move (.tmp 4)) none,
        co (some 51) (.move (.tmp 2)) none,
        co (some 52) (.binOp .add 3 (.tmp 51) (.const (.int .i64 1)) 3) none,
        co (some 53) (.indexAddr 69 (.tmp 49) (.tmp 50)) none,
        co none (.store 3 (.tmp 53) (.tmp 52)) none] [0, 18, 19, 20]))))))
  (.keep [0, 18, 19, 20] (.reg [co (some 54) (.binOp .add 3 (.tmp 20) (.const (.int .i64 1)) 3) none,
    co (some 20) (.move (.tmp 54)) none] [0, 18, 19, 20])))))

/-- (*cento/intern.Table).grow -/
def c_intern_Table_grow : CC :=
  .seq (.reg [co (some 5) (.move (.tmp 0)) none,
      co (some 6) (.move (.tmp 0)) none,
      co (some 7) (.nilCheck (.tmp 6)) none,
      co (some 8) (.fieldAddr 117 (.tmp 7) 1) none,
      co (some 9) (.load 69 (.tmp 8)) none,
      co (some 10) (.call { callee := (.builtin .len), args := #[(.tmp 9)], argTypes := #[69] }) none,
      co (some 11) (.binOp .mul 3 (.const (.int .i64 2)) (.tmp 10) 3) none,
      cn (some 12) (.makeSlice 69 (.tmp 11) (.tmp 11)) none [0, 1],
      co (some 13) (.nilCheck (.tmp 5)) none,
      co (some 14) (.fieldAddr 117 (.tmp 13) 1) none,
      co none (.store 69 (.tmp 14) (.tmp 12)) none] [0])
  (.seq (.reg [co (some 15) (.move (.tmp 0)) none,
      co (some 16) (.nilCheck (.tmp 15)) none,
      co (some 17) (.fieldAddr 117 (.tmp 16) 0) none,
      co (some 18) (.load 115 (.tmp 17)) none,
      co (some 19) (.call { callee := (.builtin .len), args := #[(.tmp 18)], argTypes := #[115] }) none,
      co (some 20) (.move (.const (.int .i64 0))) none] [0, 18, 19, 20])
  (.block 0
    (.loop l2_intern_Table_grow)))
theorem t_intern_Table_grow : Txt Try.prog 66 55 [] c_intern_Table_grow := txt_of (code := Try.f66.body.getD .ret) mixed (by kernel_rfl) Try.func66 (by kernel_rfl) Try.ntmps66 (by kernel_rfl) (ls := [([0], [(7, [0, 1])]), ([], []), ([0, 18, 19, 20], []), ([], []), ([0, 18, 19, 20, 21], []), ([], []), ([999999, 0, 18, 19, 20], []), ([0, 2, 3, 18, 19, 20], [(3, [2])]), ([], []), ([0, 2, 4, 18, 19, 20], []), ([], []), ([0, 2, 4, 18, 19, 20, 42], []), ([], []), ([999999, 0, 2, 4, 18, 19, 20], []), ([0, 2, 4, 18, 19, 20], []), ([999999, 0, 2, 4, 18, 19, 20], []), ([0, 18, 19, 20], []), ([999999, 0, 18, 19, 20], []), ([0, 18, 19, 20], [])]) (by kernel_rfl)

def k1_intern_Table_Class : CC :=
  .seq (.reg [co (some 84) (.move (.tmp 0)) none,
      co (some 85) (.nilCheck (.tmp 84)) none,
      co (some 86) (.fieldAddr 117 (.tmp 85) 0) none,
      co (some 87) (.load 115 (.tmp 86)) none,
      co (some 88) (.call { callee := (.builtin .len), args := #[(.tmp 87)], argTypes := #[115] }) none,
      co (some 89) (.binOp .sub 3 (.tmp 88) (.const (.int .i64 1)) 3) none,
      co (some 4) (.assign (.tmp 89)) none,
      co (some 5) (.assign (.const (.int .i64 0))) none] [4, 5])
  (.ret)

/-- (*cento/intern.Table).Class -/
def c_intern_Table_Class : CC :=
  .seq (.reg [cn (some 3) (.box 47 (.tmp 1)) none [1],
      co (some 4) (.assign (.const (.int .i64 0))) none,
      co (some 5) (.assign (.const (.int .i64 0))) none] [0, 3])
  (.seq (.seq (.reg [co (some 9) (.move (.tmp 0)) none,
        co (some 10) (.binOp .eql 58 (.tmp 9) (.const (.pointer none)) 58) none] [0, 3, 10])
    (.cond (.tmp 10)
      (.seq (.reg [co (some 4) (.assign (.const (.int .i64 0))) none,
          co (some 5) (.assign (.const (.int .i64 1))) none] [4, 5])
      (.ret))
      (.skip)))
  (.keep [0, 3] (.seq (.reg [co (some 12) (.load 47 (.tmp 3)) none,
      co (some 13) (.call { callee := (.value (.func 24)), args := #[(.tmp 12)], argTypes := #[47] }) none,
      co (some 11) (.move (.tmp 13)) none,
      co (some 14) (.extract (.tmp 11) 0) none,
      co (some 15) (.extract (.tmp 11) 1) none,
      co (some 6) (.assign (.tmp 14)) none,
      co (some 7) (.assign (.tmp 15)) none] [0, 3, 6, 7])
  (.seq (.seq (.reg [co (some 16) (.move (.tmp 7)) none,
        co (some 17) (.binOp .neq 49 (.tmp 16) (.const (.int .i64 0)) 49) none] [0, 3, 6, 7, 17])
    (.cond (.tmp 17)
      (.seq (.reg [co (some 18) (.move (.tmp 7)) none,
          co (some 4) (.assign (.const (.int .i64 0))) none,
          co (some 5) (.assign (.tmp 18)) none] [4, 5])
      (.ret))
      (.skip)))
  (.keep [0, 3, 6] (.seq (.reg [co (some 20) (.move (.tmp 0)) none,
      co (some 21) (.move (.tmp 6)) none,
      co (some 22) (.load 47 (.tmp 3)) none,
      co (some 23) (.call { callee := (.value (.func 65)), args := #[(.tmp 20), (.tmp 21), (.tmp 22)], argTypes := #[58, 45, 47] }) none,
      co (some 19) (.move (.tmp 23)) none,
      co (some 24) (.extract (.tmp 19) 0) none,
      co (some 25) (.extract (.tmp 19) 1) none,
      co (some 8) (.assign (.tmp 24)) none,
      co (some 7) (.assign (.tmp 25)) none] [0, 3, 6, 7, 8])
  (.seq (.block 0
      (.seq (.reg [co (some 27) (.move (.tmp 7)) none,
          co (some 28) (.binOp .neq 49 (.tmp 27) (.const (.int .i64 0)) 49) none,
          co (some 26) (.assign (.tmp 28)) none] [0, 3, 6, 7, 8, 26])
      (.cond (.tmp 26)
        (.seq (.reg [co (some 29) (.move (.tmp 7)) none,
            co (some 4) (.assign (.const (.int .i64 0))) none,
            co (some 5) (.assign (.tmp 29)) none] [4, 5])
        (.ret))
        (.seq (.reg [co (some 31) (.move (.tmp 0)) none,
            co (some 32) (.nilCheck (.tmp 31)) none,
            co (some 33) (.fieldAddr 117 (.tmp 32) 1) none,
            co (some 34) (.load 69 (.tmp 33)) none,
            co (some 35) (.move (.tmp 8)) none,
            co (some 36) (.indexAddr 69 (.tmp 34) (.tmp 35)) none,
            co (some 37) (.load 3 (.tmp 36)) none,
            co (some 38) (.binOp .gtr 3 (.tmp 37) (.const (.int .i64 0)) 3) none,
            co (some 30) (.assign (.tmp 38)) none] [0, 3, 6, 8, 30])
        (.cond (.tmp 30)
          (.seq (.reg [co (some 39) (.move (.tmp 0)) none,
              co (some 40) (.nilCheck (.tmp 39)) none,
              co (some 41) (.fieldAddr 117 (.tmp 40) 1) none,
              co (some 42) (.load 69 (.tmp 41)) none,
              co (some 43) (.move (.tmp 8)) none,
              co (some 44) (.indexAddr 69 (.tmp 42) (.tmp 43)) none,
              co (some 45) (.load 3 (.tmp 44)) none,
              co (some 46) (.binOp .sub 3 (.tmp 45) (.const (.int .i64 1)) 3) none,
              co (some 4) (.assign (.tmp 46)) none,
              co (some 5) (.assign (.const (.int .i64 0))) none] [4, 5])
          (.ret))
          (.skip))))))
  (.keep [0, 3, 6, 8] (.seq (.reg [co (some 47) (.move (.tmp 0)) none,
      co (some 48) (.move (.tmp 0)) none,
      co (some 49) (.nilCheck (.tmp 48)) none,
      co (some 50) (.fieldAddr 117 (.tmp 49) 0) none,
      co (some 51) (.load 115 (.tmp 50)) none,
      co (some 52) (.move (.tmp 6)) none,
      co (some 53) (.load 47 (.tmp 3)) none,
      co (some 54) (.build 120 #[(0, (.tmp 52)), (1, (.tmp 53))]) none,
      co (some 55) (.buildSlice 115 1 #[(0, (.tmp 54))]) none,
      cn (some 56) (.call { callee := (.builtin .append), args := #[(.tmp 51), (.tmp 55)], argTypes := #[115, 115] }) none [2],
      co (some 57) (.nilCheck (.tmp 47)) none,
      co (some 58) (.fieldAddr 117 (.tmp 57) 0) none,
      co none (.store 115 (.tmp 58) (.tmp 56)) none] [0, 8])
  (.seq (.reg [co (some 59) (.move (.tmp 0)) none,
      co (some 60) (.nilCheck (.tmp 59)) none,
      co (some 61) (.fieldAddr 117 (.tmp 60) 1) none,
      co (some 62) (.load 69 (.tmp 61)) none,
      co (some 63) (.move (.tmp 8)) none,
      co (some 64) (.move (.tmp 0)) none,
      co (some 65) (.nilCheck (.tmp 64)) none,
      co (some 66) (.fieldAddr 117 (.tmp 65) 0) none,
      co (some 67) (.load 115 (.tmp 66)) none,
      co (some 68) (.call { callee := (.builtin .len), args := #[(.tmp 67)], argTypes := #[115] }) none,
      co (some 69) (.indexAddr 69 (.tmp 62) (.tmp 63)) none,
      co none (.store 3 (.tmp 69) (.tmp 68)) none] [0])
  (.seq (.seq (.reg [co (some 70) (.move (.tmp 0)) none,
        co (some 71) (.nilCheck (.tmp 70)) none,
        co (some 72) (.fieldAddr 117 (.tmp 71) 0) none,
        co (some 73) (.load 115 (.tmp 72)) none,
        co (some 74) (.call { callee := (.builtin .len), args := #[(.tmp 73)], argTypes := #[115] }) none,
        co (some 75) (.binOp .mul 3 (.const (.int .i64 2)) (.tmp 74) 3) none,
        co (some 76) (.move (.tmp 0)) none,
        co (some 77) (.nilCheck (.tmp 76)) none,
        co (some 78) (.fieldAddr 117 (.tmp 77) 1) none,
        co (some 79) (.load 69 (.tmp 78)) none,
        co (some 80) (.call { callee := (.builtin .len), args := #[(.tmp 79)], argTypes := #[69] }) none,
        co (some 81) (.binOp .gtr 3 (.tmp 75) (.tmp 80) 3) none] [0, 81])
    (.cond (.tmp 81)
      (.reg [co (some 82) (.move (.tmp 0)) none,
        co (some 83) (.call { callee := (.value (.func 66)), args := #[(.tmp 82)], argTypes := #[58] }) none] [0])
      (.skip)))
  (.keep [0] k1_intern_Table_Class))))))))))))
theorem t_intern_Table_Class : Txt Try.prog 27 90 [(.tmp 4), (.tmp 5)] c_intern_Table_Class := txt_of (code := Try.f27.body.getD .ret) mixed (by kernel_rfl) Try.func27 (by kernel_rfl) Try.ntmps27 (by kernel_rfl) (ls := [([0, 3], [(0, [1])]), ([], []), ([0, 3, 10], []), ([], []), ([4, 5], []), ([], []), ([999999, 0, 3], []), ([0, 3, 6, 7], []), ([], []), ([0, 3, 6, 7, 17], []), ([], []), ([4, 5], []), ([], []), ([999999, 0, 3, 6], []), ([0, 3, 6, 7, 8], []), ([], []), ([0, 3, 6, 7, 8, 26], []), ([], []), ([4, 5], []), ([], []), ([0, 3, 6, 8, 30], []), ([], []), ([4, 5], []), ([], []), ([999999, 0, 3, 6, 8], []), ([0, 8], [(9, [2])]), ([], []), ([0], []), ([], []), ([0, 81], []), ([], []), ([0], []), ([999999, 0], []), ([4, 5], []), ([], [])]) (by kernel_rfl)

def l1_intern_Table_Kids : CC :=
  .seq (.reg [co (some 14) (.binOp .lss 3 (.tmp 13) (.tmp 12) 3) none] [0, 3, 6, 12, 13, 14])
  (.seq (.cond (.tmp 14)
      (.skip)
      (.exit 0))
  (.keep [0, 3, 6, 12, 13] (.seq (.block 1
      (.seq (.reg [co (some 15) (.move (.tmp 13)) none,
          co (some 7) (.assign (.tmp 15)) none] [0, 3, 6, 7, 12, 13])
      (.seq (.reg [co (some 17) (.load 47 (.tmp 3)) none,
          co (some 18) (.move (.tmp 7)) none,
          co (some 19) (.call { callee := (.value (.func 43)), args := #[(.tmp 17), (.tmp 18)], argTypes := #[47, 3] }) none,
          co (some 16) (.move (.tmp 19)) none,
          co (some 20) (.extract (.tmp 16) 0) none,
          co (some 21) (.extract (.tmp 16) 1) none,
          cn (some 8) (.alloc 47) none [3],
          co none (.store 47 (.tmp 8) (.tmp 20)) none,
          co (some 9) (.assign (.tmp 21)) none] [0, 3, 6, 8, 9, 12, 13])
      (.seq (.seq (.reg [co (some 22) (.move (.tmp 9)) none,
            co (some 23) (.binOp .neq 49 (.tmp 22) (.const (.int .i64 0)) 49) none] [0, 3, 6, 8, 9, 12, 13, 23])
        (.cond (.tmp 23)
          (.seq (.reg [co (some 24) (.move (.tmp 9)) none,
              co (some 4) (.assign (.const (.slice none 0 0))) none,
              co (some 5) (.assign (.tmp 24)) none] [4, 5])
          (.ret))
          (.skip)))
      (.keep [0, 3, 6, 8, 12, 13] (.seq (.reg [co (some 26) (.move (.tmp 0)) none,
          co (some 27) (.load 47 (.tmp 8)) none,
          co (some 28) (.call { callee := (.value (.func 27)), args := #[(.tmp 26), (.tmp 27)], argTypes := #[58, 47] }) none,
          co (some 25) (.move (.tmp 28)) none,
          co (some 29) (.extract (.tmp 25) 0) none,
          co (some 30) (.extract (.tmp 25) 1) none,
          co (some 10) (.assign (.tmp 29)) none,
          co (some 9) (.assign (.tmp 30)) none] [0, 3, 6, 9, 10, 12, 13])
      (.seq (.seq (.reg [co (some 31) (.move (.tmp 9)) none,
            co (some 32) (.binOp .neq 49 (.tmp 31) (.const (.int .i64 0)) 49) none] [0, 3, 6, 9, 10, 12, 13, 32])
        (.cond (.tmp 32)
          (.seq (.reg [co (some 33) (.move (.tmp 9)) none,
              co (some 4) (.assign (.const (.slice none 0 0))) none,
              co (some 5) (.assign (.tmp 33)) none] [4, 5])
          (.ret))
          (.skip)))
      (.keep [0, 3, 6, 10, 12, 13] (.reg [co (some 34) (.move (.tmp 6)) none,
        co (some 35) (.move (.tmp 10)) none,
        co (some 36) (.buildSlice 69 1 #[(0, (.tmp 35))]) none,
        cn (some 37) (.call { callee := (.builtin .append), args := #[(.tmp 34), (.tmp 36)], argTypes := #[69, 69] }) none [4],
        co (some 6) (.assign (.tmp 37)) none] [0, 3, 6, 12, 13])))))))))
  (.keep [0, 3, 6, 12, 13] (.reg [co (some 38) (.binOp .add 3 (.tmp 13) (.const (.int .i64 1)) 3) none,
    co (some 13) (.move (.tmp 38)) none] [0, 3, 6, 12, 13])))))

/-- (*cento/intern.Table).Kids -/
def c_intern_Table_Kids : CC :=
  .seq (.reg [cn (some 3) (.box 47 (.tmp 1)) none [2],
      co (some 4) (.assign (.const (.slice none 0 0))) none,
      co (some 5) (.assign (.const (.int .i64 0))) none] [0, 3])
  (.seq (.reg [co (some 6) (.assign (.const (.slice none 0 0))) none] [0, 3, 6])
  (.seq (.seq (.reg [co (some 11) (.load 47 (.tmp 3)) none,
        co (some 12) (.call { callee := (.value (.func 71)), args := #[(.tmp 11)], argTypes := #[47] }) none,
        co (some 13) (.move (.const (.int .i64 0))) none] [0, 3, 6, 12, 13])
    (.block 0
      (.loop l1_intern_Table_Kids)))
  (.keep [6] (.seq (.reg [co (some 39) (.move (.tmp 6)) none,
      co (some 4) (.assign (.tmp 39)) none,
      co (some 5) (.assign (.const (.int .i64 0))) none] [4, 5])
  (.ret)))))
theorem t_intern_Table_Kids : Txt Try.prog 34 40 [(.tmp 4), (.tmp 5)] c_intern_Table_Kids := txt_of (code := Try.f34.body.getD .ret) mixed (by kernel_rfl) Try.func34 (by kernel_rfl) Try.ntmps34 (by kernel_rfl) (ls := [([0, 3], [(0, [2])]), ([], []), ([0, 3, 6], []), ([], []), ([0, 3, 6, 12, 13], []), ([], []), ([0, 3, 6, 12, 13, 14], []), ([], []), ([999999, 0, 3, 6, 12, 13], []), ([0, 3, 6, 7, 12, 13], []), ([], []), ([0, 3, 6, 8, 9, 12, 13], [(6, [3])]), ([], []), ([0, 3, 6, 8, 9, 12, 13, 23], []), ([], []), ([4, 5], []), ([], []), ([999999, 0, 3, 6, 8, 12, 13], []), ([0, 3, 6, 9, 10, 12, 13], []), ([], []), ([0, 3, 6, 9, 10, 12, 13, 32], []), ([], []), ([4, 5], []), ([], []), ([999999, 0, 3, 6, 10, 12, 13], []), ([0, 3, 6, 12, 13], [(3, [4])]), ([999999, 0, 3, 6, 12, 13], []), ([0, 3, 6, 12, 13], []), ([999999, 6], []), ([4, 5], []), ([], [])]) (by kernel_rfl)

def l1_centoref16_Class : CC :=
  .seq (.seq (.reg [co (some 10) (.move (.tmp 7)) none,
        co (some 11) (.move (.tmp 0)) none,
        co (some 12) (.call { callee := (.builtin .len), args := #[(.tmp 11)], argTypes := #[23] }) none,
        co (some 13) (.binOp .lss 3 (.tmp 10) (.tmp 12) 3) none] [0, 6, 7, 13])
    (.cond (.tmp 13)
      (.skip)
      (.exit 0)))
  (.keep [0, 6, 7] (.seq (.block 1
      (.seq (.reg [co (some 16) (.move (.tmp 0)) none,
          co (some 17) (.move (.tmp 7)) none,
          co (some 18) (.indexAddr 23 (.tmp 16) (.tmp 17)) none,
          co (some 19) (.load 25 (.tmp 18)) none,
          co (some 20) (.load 25 (.tmp 6)) none,
          co (some 21) (.call { callee := (.value (.func 64)), args := #[(.tmp 19), (.tmp 20)], argTypes := #[25, 25] }) none] [0, 6, 7, 21])
      (.cond (.tmp 21)
        (.seq (.reg [co (some 22) (.move (.tmp 0)) none,
            co (some 23) (.move (.tmp 7)) none,
            co (some 4) (.assign (.tmp 22)) none,
            co (some 5) (.assign (.tmp 23)) none] [4, 5])
        (.ret))
        (.skip))))
  (.keep [0, 6, 7] (.reg [co (some 14) (.move (.tmp 7)) none,
    co (some 15) (.binOp .add 3 (.tmp 14) (.const (.int .i64 1)) 3) none,
    co (some 7) (.assign (.tmp 15)) none] [0, 6, 7]))))

/-- cento/centoref16.Class -/
def c_centoref16_Class : CC :=
  .seq (.reg [cn (some 3) (.box 25 (.tmp 1)) none [1],
      co (some 4) (.assign (.const (.slice none 0 0))) none,
      co (some 5) (.assign (.const (.int .i64 0))) none] [0, 3])
  (.seq (.reg [co (some 8) (.load 25 (.tmp 3)) none,
      co (some 9) (.call { callee := (.value (.func 18)), args := #[(.tmp 8)], argTypes := #[25] }) none,
      cn (some 6) (.alloc 25) none [2],
      co none (.store 25 (.tmp 6) (.tmp 9)) none] [0, 6])
  (.seq (.seq (.reg [co (some 7) (.assign (.const (.int .i64 0))) none] [0, 6, 7])
    (.block 0
      (.loop l1_centoref16_Class)))
  (.keep [0, 6] (.seq (.reg [co (some 24) (.move (.tmp 0)) none,
      co (some 25) (.load 25 (.tmp 6)) none,
      co (some 26) (.buildSlice 23 1 #[(0, (.tmp 25))]) none,
      cn (some 27) (.call { callee := (.builtin .append), args := #[(.tmp 24), (.tmp 26)], argTypes := #[23, 23] }) none [3],
      co (some 28) (.move (.tmp 0)) none,
      co (some 29) (.call { callee := (.builtin .len), args := #[(.tmp 28)], argTypes := #[23] }) none,
      co (some 4) (.assign (.tmp 27)) none,
      co (some 5) (.assign (.tmp 29)) none] [4, 5])
  (.ret)))))
theorem t_centoref16_Class : Txt Try.prog 29 30 [(.tmp 4), (.tmp 5)] c_centoref16_Class := txt_of (code := Try.f29.body.getD .ret) mixed (by kernel_rfl) Try.func29 (by kernel_rfl) Try.ntmps29 (by kernel_rfl) (ls := [([0, 3], [(0, [1])]), ([], []), ([0, 6], [(2, [2])]), ([], []), ([0, 6, 7], []), ([], []), ([0, 6, 7, 13], []), ([], []), ([999999, 0, 6, 7], []), ([0, 6, 7, 21], []), ([], []), ([4, 5], []), ([], []), ([999999, 0, 6, 7], []), ([0, 6, 7], []), ([999999, 0, 6], []), ([4, 5], [(3, [3])]), ([], [])]) (by kernel_rfl)

def l1_centoref16_Classes : CC :=
  .seq (.seq (.reg [co (some 10) (.move (.tmp 7)) none,
        co (some 11) (.move (.tmp 1)) none,
        co (some 12) (.call { callee := (.builtin .len), args := #[(.tmp 11)], argTypes := #[23] }) none,
        co (some 13) (.binOp .lss 3 (.tmp 10) (.tmp 12) 3) none] [0, 1, 6, 7, 13])
    (.cond (.tmp 13)
      (.skip)
      (.exit 0)))
  (.keep [0, 1, 6, 7] (.seq (.block 1
      (.seq (.reg [co (some 17) (.move (.tmp 0)) none,
          co (some 18) (.move (.tmp 1)) none,
          co (some 19) (.move (.tmp 7)) none,
          co (some 20) (.indexAddr 23 (.tmp 18) (.tmp 19)) none,
          co (some 21) (.load 25 (.tmp 20)) none,
          co (some 22) (.call { callee := (.value (.func 29)), args := #[(.tmp 17), (.tmp 21)], argTypes := #[23, 25] }) none,
          co (some 16) (.move (.tmp 22)) none,
          co (some 23) (.extract (.tmp 16) 0) none,
          co (some 24) (.extract (.tmp 16) 1) none,
          co (some 8) (.assign (.tmp 23)) none,
          co (some 9) (.assign (.tmp 24)) none] [1, 6, 7, 8, 9])
      (.seq (.reg [co (some 25) (.move (.tmp 8)) none,
          co (some 0) (.assign (.tmp 25)) none] [0, 1, 6, 7, 9])
      (.reg [co (some 26) (.move (.tmp 6)) none,
        co (some 27) (.move (.tmp 9)) none,
        co (some 28) (.buildSlice 69 1 #[(0, (.tmp 27))]) none,
        cn (some 29) (.call { callee := (.builtin .append), args := #[(.tmp 26), (.tmp 28)], argTypes := #[69, 69] }) none [2],
        co (some 6) (.assign (.tmp 29)) none] [0, 1, 6, 7]))))
  (.reg [co (some 14) (.move (.tmp 7)) none,
    co (some 15) (.binOp .add 3 (.tmp 14) (.const (.int .i64 1)) 3) none,
    co (some 7) (.assign (.tmp 15)) none] [0, 1, 6, 7])))

/-- cento/centoref16.Classes -/
def c_centoref16_Classes : CC :=
  .seq (.reg [co (some 4) (.assign (.const (.slice none 0 0))) none,
      co (some 5) (.assign (.const (.slice none 0 0))) none] [0, 1])
  (.seq (.reg [co (some 6) (.assign (.const (.slice none 0 0))) none] [0, 1, 6])
  (.seq (.seq (.reg [co (some 7) (.assign (.const (.int .i64 0))) none] [0, 1, 6, 7])
    (.block 0
      (.loop l1_centoref16_Classes)))
  (.keep [0, 6] (.seq (.reg [co (some 30) (.move (.tmp 0)) none,
      co (some 31) (.move (.tmp 6)) none,
      co (some 4) (.assign (.tmp 30)) none,
      co (some 5) (.assign (.tmp 31)) none] [4, 5])
  (.ret)))))
theorem t_centoref16_Classes : Txt Try.prog 35 32 [(.tmp 4), (.tmp 5)] c_centoref16_Classes := txt_of (code := Try.f35.body.getD .ret) mixed (by kernel_rfl) Try.func35 (by kernel_rfl) Try.ntmps35 (by kernel_rfl) (ls := [([0, 1], []), ([], []), ([0, 1, 6], []), ([], []), ([0, 1, 6, 7], []), ([], []), ([0, 1, 6, 7, 13], []), ([], []), ([999999, 0, 1, 6, 7], []), ([1, 6, 7, 8, 9], []), ([], []), ([0, 1, 6, 7, 9], []), ([], []), ([0, 1, 6, 7], [(3, [2])]), ([], []), ([0, 1, 6, 7], []), ([999999, 0, 6], []), ([4, 5], []), ([], [])]) (by kernel_rfl)

def l1_centoref16_SameInts : CC :=
  .seq (.seq (.reg [co (some 11) (.move (.tmp 5)) none,
        co (some 12) (.move (.tmp 0)) none,
        co (some 13) (.call { callee := (.builtin .len), args := #[(.tmp 12)], argTypes := #[69] }) none,
        co (some 14) (.binOp .lss 3 (.tmp 11) (.tmp 13) 3) none] [0, 1, 5, 14])
    (.cond (.tmp 14)
      (.skip)
      (.exit 0)))
  (.keep [0, 1, 5] (.seq (.block 1
      (.seq (.reg [co (some 17) (.move (.tmp 0)) none,
          co (some 18) (.move (.tmp 5)) none,
          co (some 19) (.indexAddr 69 (.tmp 17) (.tmp 18)) none,
          co (some 20) (.load 3 (.tmp 19)) none,
          co (some 21) (.move (.tmp 1)) none,
          co (some 22) (.move (.tmp 5)) none,
          co (some 23) (.indexAddr 69 (.tmp 21) (.tmp 22)) none,
          co (some 24) (.load 3 (.tmp 23)) none,
          co (some 25) (.binOp .neq 3 (.tmp 20) (.tmp 24) 3) none] [0, 1, 5, 25])
      (.cond (.tmp 25)
        (.seq (.reg [co (some 4) (.assign (.const (.bool false))) none] [4])
        (.ret))
        (.skip))))
  (.keep [0, 1, 5] (.reg [co (some 15) (.move (.tmp 5)) none,
    co (some 16) (.binOp .add 3 (.tmp 15) (.const (.int .i64 1)) 3) none,
    co (some 5) (.assign (.tmp 16)) none] [0, 1, 5]))))

/-- cento/centoref16.SameInts -/
def c_centoref16_SameInts : CC :=
  .seq (.reg [co (some 4) (.assign (.const (.bool false))) none] [0, 1])
  (.seq (.seq (.reg [co (some 6) (.move (.tmp 0)) none,
        co (some 7) (.call { callee := (.builtin .len), args := #[(.tmp 6)], argTypes := #[69] }) none,
        co (some 8) (.move (.tmp 1)) none,
        co (some 9) (.call { callee := (.builtin .len), args := #[(.tmp 8)], argTypes := #[69] }) none,
        co (some 10) (.binOp .neq 3 (.tmp 7) (.tmp 9) 3) none] [0, 1, 10])
    (.cond (.tmp 10)
      (.seq (.reg [co (some 4) (.assign (.const (.bool false))) none] [4])
      (.ret))
      (.skip)))
  (.keep [0, 1] (.seq (.seq (.reg [co (some 5) (.assign (.const (.int .i64 0))) none] [0, 1, 5])
    (.block 0
      (.loop l1_centoref16_SameInts)))
  (.keep [] (.seq (.reg [co (some 4) (.assign (.const (.bool true))) none] [4])
  (.ret))))))
theorem t_centoref16_SameInts : Txt Try.prog 36 26 [(.tmp 4)] c_centoref16_SameInts := txt_of (code := Try.f36.body.getD .ret) mixed (by kernel_rfl) Try.func36 (by kernel_rfl) Try.ntmps36 (by kernel_rfl) (ls := [([0, 1], []), ([], []), ([0, 1, 10], []), ([], []), ([4], []), ([], []), ([999999, 0, 1], []), ([0, 1, 5], []), ([], []), ([0, 1, 5, 14], []), ([], []), ([999999, 0, 1, 5], []), ([0, 1, 5, 25], []), ([], []), ([4], []), ([], []), ([999999, 0, 1, 5], []), ([0, 1, 5], []), ([999999], []), ([4], []), ([], [])]) (by kernel_rfl)


/-- cento/centolaw16.root -/
def c_centolaw16_root : CC :=
  .seq (.reg [cn (some 2) (.alloc 47) none [0]] [0, 2])
  (.seq (.reg [co (some 6) (.move (.tmp 0)) none,
      co (some 7) (.call { callee := (.value (.func 39)), args := #[(.tmp 6)], argTypes := #[38] }) none,
      co (some 8) (.call { callee := (.value (.func 38)), args := #[(.tmp 7)], argTypes := #[44] }) none,
      co (some 5) (.move (.tmp 8)) none,
      co (some 9) (.extract (.tmp 5) 0) none,
      co (some 10) (.extract (.tmp 5) 1) none,
      cn (some 3) (.alloc 47) none [1],
      co none (.store 47 (.tmp 3) (.tmp 9)) none,
      co (some 4) (.assign (.tmp 10)) none] [2, 3])
  (.seq (.reg [co (some 11) (.load 47 (.tmp 3)) none,
      co none (.store 47 (.tmp 2) (.tmp 11)) none] [2])
  (.ret)))
theorem t_centolaw16_root : Txt Try.prog 28 12 [(.cell 2 47)] c_centolaw16_root := txt_of (code := Try.f28.body.getD .ret) mixed (by kernel_rfl) Try.func28 (by kernel_rfl) Try.ntmps28 (by kernel_rfl) (ls := [([0, 2], [(0, [0])]), ([], []), ([2, 3], [(6, [1])]), ([], []), ([2], []), ([], [])]) (by kernel_rfl)


/-- cento/centolaw16.awake -/
def c_centolaw16_awake : CC :=
  .seq (.reg [co (some 0) (.assign (.const (.bool false))) none] [])
  (.seq (.reg [co (some 4) (.call { callee := (.value (.func 26)), args := #[], argTypes := #[] }) none,
      co (some 1) (.assign (.tmp 4)) none] [1])
  (.seq (.reg [co (some 6) (.move (.tmp 1)) none,
      co (some 7) (.buildSlice 22 2 #[(0, (.const (.int .u64 111669149697))), (1, (.const (.int .u64 329477)))]) none,
      co (some 8) (.buildSlice 38 1 #[(0, (.tmp 7))]) none,
      co (some 9) (.call { callee := (.value (.func 28)), args := #[(.tmp 8)], argTypes := #[38] }) none,
      co (some 10) (.call { callee := (.value (.func 34)), args := #[(.tmp 6), (.tmp 9)], argTypes := #[58, 47] }) none,
      co (some 5) (.move (.tmp 10)) none,
      co (some 11) (.extract (.tmp 5) 0) none,
      co (some 12) (.extract (.tmp 5) 1) none,
      co (some 2) (.assign (.tmp 11)) none,
      co (some 3) (.assign (.tmp 12)) none] [1, 2, 3])
  (.seq (.reg [co (some 13) (.move (.tmp 3)) none,
      co (some 14) (.binOp .eql 49 (.tmp 13) (.const (.int .i64 0)) 49) none,
      co (some 15) (.move (.tmp 14)) none,
      co (some 16) (.move (.tmp 2)) (some (15, true)),
      co (some 17) (.buildSlice 69 3 #[(0, (.const (.int .i64 0))), (1, (.const (.int .i64 1))), (2, (.const (.int .i64 0)))]) (some (15, true)),
      co (some 18) (.call { callee := (.value (.func 36)), args := #[(.tmp 16), (.tmp 17)], argTypes := #[69, 69] }) (some (15, true)),
      co (some 19) (.pick (.tmp 15) (.tmp 18) (.const (.bool false))) none,
      co (some 20) (.move (.tmp 19)) none,
      co (some 21) (.move (.tmp 1)) (some (20, true)),
      co (some 22) (.call { callee := (.value (.func 30)), args := #[(.tmp 21)], argTypes := #[58] }) (some (20, true)),
      co (some 23) (.binOp .eql 3 (.tmp 22) (.const (.int .i64 2)) 3) (some (20, true)),
      co (some 24) (.pick (.tmp 20) (.tmp 23) (.const (.bool false))) none,
      co (some 0) (.assign (.tmp 24)) none] [0])
  (.ret))))
theorem t_centolaw16_awake : Txt Try.prog 31 25 [(.tmp 0)] c_centolaw16_awake := txt_of (code := Try.f31.body.getD .ret) mixed (by kernel_rfl) Try.func31 (by kernel_rfl) Try.ntmps31 (by kernel_rfl) (ls := [([], []), ([], []), ([1], []), ([], []), ([1, 2, 3], []), ([], []), ([0], []), ([], [])]) (by kernel_rfl)

def l1_centolaw16_InternClasses : CC :=
  .seq (.seq (.reg [co (some 18) (.move (.tmp 7)) none,
        co (some 19) (.move (.tmp 0)) none,
        co (some 20) (.call { callee := (.builtin .len), args := #[(.tmp 19)], argTypes := #[57] }) none,
        co (some 21) (.binOp .lss 3 (.tmp 18) (.tmp 20) 3) none,
        co (some 22) (.move (.tmp 21)) none,
        co (some 23) (.move (.tmp 7)) (some (22, true)),
        co (some 24) (.binOp .lss 3 (.tmp 23) (.const (.int .i64 30)) 3) (some (22, true)),
        co (some 25) (.pick (.tmp 22) (.tmp 24) (.const (.bool false))) none] [0, 3, 5, 6, 7, 25])
    (.cond (.tmp 25)
      (.skip)
      (.exit 0)))
  (.keep [0, 3, 5, 6, 7] (.seq (.block 1
      (.seq (.reg [co (some 29) (.move (.tmp 0)) none,
          co (some 30) (.move (.tmp 7)) none,
          co (some 31) (.indexAddr 57 (.tmp 29) (.tmp 30)) none,
          ⟨some 32, (.load 38 (.tmp 31)), none, [], 3, [], true⟩,
          ⟨some 33, (.load 40 (.tmp 3)), none, [], 4, [], true⟩,
          ⟨some 34, (.call { callee := (.value (.func 20)), args := #[(.tmp 32), (.tmp 33)], argTypes := #[38, 40] }), none, [], 5, [], true⟩,
          co (some 28) (.move (.tmp 34)) none,
          co (some 35) (.extract (.tmp 28) 0) none,
          co (some 36) (.extract (.tmp 28) 1) none,
          co (some 37) (.extract (.tmp 28) 2) none,
          ⟨some 8, (.alloc 25), none, [1], 10, [3, 4, 5], false⟩,
          co none (.store 25 (.tmp 8) (.tmp 35)) none,
          co (some 9) (.assign (.tmp 36)) none,
          co (some 10) (.assign (.tmp 37)) none] [0, 3, 5, 6, 7, 8, 10])
      (.seq (.seq (.reg [co (some 38) (.move (.tmp 10)) none,
            co (some 39) (.binOp .neq 3 (.tmp 38) (.const (.int .i64 0)) 3) none] [0, 3, 5, 6, 7, 8, 39])
        (.cond (.tmp 39)
          (.exit 1)
          (.skip)))
      (.keep [0, 3, 5, 6, 7, 8] (.seq (.reg [co (some 41) (.move (.tmp 5)) none,
          co (some 42) (.move (.tmp 0)) none,
          co (some 43) (.move (.tmp 7)) none,
          co (some 44) (.indexAddr 57 (.tmp 42) (.tmp 43)) none,
          co (some 45) (.load 38 (.tmp 44)) none,
          co (some 46) (.call { callee := (.value (.func 28)), args := #[(.tmp 45)], argTypes := #[38] }) none,
          co (some 47) (.call { callee := (.value (.func 27)), args := #[(.tmp 41), (.tmp 46)], argTypes := #[58, 47] }) none,
          co (some 40) (.move (.tmp 47)) none,
          co (some 48) (.extract (.tmp 40) 0) none,
          co (some 49) (.extract (.tmp 40) 1) none,
          co (some 11) (.assign (.tmp 48)) none,
          co (some 12) (.assign (.tmp 49)) none] [0, 3, 5, 6, 7, 8, 11, 12])
      (.seq (.reg [co (some 51) (.move (.tmp 6)) none,
          co (some 52) (.load 25 (.tmp 8)) none,
          co (some 53) (.call { callee := (.value (.func 29)), args := #[(.tmp 51), (.tmp 52)], argTypes := #[23, 25] }) none,
          co (some 50) (.move (.tmp 53)) none,
          co (some 54) (.extract (.tmp 50) 0) none,
          co (some 55) (.extract (.tmp 50) 1) none,
          co (some 13) (.assign (.tmp 54)) none,
          co (some 14) (.assign (.tmp 55)) none] [0, 3, 5, 7, 11, 12, 13, 14])
      (.seq (.reg [co (some 56) (.move (.tmp 13)) none,
          co (some 6) (.assign (.tmp 56)) none] [0, 3, 5, 6, 7, 11, 12, 14])
      (.seq (.reg [co (some 57) (.move (.tmp 12)) none,
          co (some 58) (.binOp .neq 49 (.tmp 57) (.const (.int .i64 0)) 49) none,
          co (some 59) (.move (.tmp 58)) none,
          co (some 60) (.move (.tmp 11)) (some (59, false)),
          co (some 61) (.move (.tmp 14)) (some (59, false)),
          co (some 62) (.binOp .neq 3 (.tmp 60) (.tmp 61) 3) (some (59, false)),
          co (some 63) (.pick (.tmp 59) (.const (.bool true)) (.tmp 62)) none,
          co (some 64) (.move (.tmp 63)) none,
          co (some 65) (.move (.tmp 5)) (some (64, false)),
          co (some 66) (.call { callee := (.value (.func 30)), args := #[(.tmp 65)], argTypes := #[58] }) (some (64, false)),
          co (some 67) (.move (.tmp 6)) (some (64, false)),
          co (some 68) (.call { callee := (.builtin .len), args := #[(.tmp 67)], argTypes := #[23] }) (some (64, false)),
          co (some 69) (.binOp .neq 3 (.tmp 66) (.tmp 68) 3) (some (64, false)),
          co (some 70) (.pick (.tmp 64) (.const (.bool true)) (.tmp 69)) none] [0, 3, 5, 6, 7, 70])
      (.cond (.tmp 70)
        (.seq (.reg [co (some 4) (.assign (.const (.bool false))) none] [4])
        (.ret))
        (.skip))))))))))
  (.keep [0, 3, 5, 6, 7] (.reg [co (some 26) (.move (.tmp 7)) none,
    co (some 27) (.binOp .add 3 (.tmp 26) (.const (.int .i64 1)) 3) none,
    co (some 7) (.assign (.tmp 27)) none] [0, 3, 5, 6, 7]))))

/-- cento/centolaw16.InternClasses -/
def c_centolaw16_InternClasses : CC :=
  .seq (.reg [cn (some 3) (.box 40 (.tmp 1)) none [0],
      co (some 4) (.assign (.const (.bool false))) none] [0, 3])
  (.seq (.reg [co (some 15) (.load 40 (.tmp 3)) none,
      co (some 16) (.call { callee := (.value (.func 19)), args := #[(.tmp 15)], argTypes := #[40] }) none,
      co none (.store 40 (.tmp 3) (.tmp 16)) none] [0, 3])
  (.seq (.reg [co (some 17) (.call { callee := (.value (.func 26)), args := #[], argTypes := #[] }) none,
      co (some 5) (.assign (.tmp 17)) none] [0, 3, 5])
  (.seq (.reg [co (some 6) (.assign (.const (.slice none 0 0))) none] [0, 3, 5, 6])
  (.seq (.seq (.reg [co (some 7) (.assign (.const (.int .i64 0))) none] [0, 3, 5, 6, 7])
    (.block 0
      (.loop l1_centolaw16_InternClasses)))
  (.keep [] (.seq (.reg [co (some 71) (.call { callee := (.value (.func 31)), args := #[], argTypes := #[] }) none,
      co (some 4) (.assign (.tmp 71)) none] [4])
  (.ret)))))))
theorem t_centolaw16_InternClasses : Txt Try.prog 6 72 [(.tmp 4)] c_centolaw16_InternClasses := txt_of (code := Try.f6.body.getD .ret) mixed (by kernel_rfl) Try.func6 (by kernel_rfl) Try.ntmps6 (by kernel_rfl) (ls := [([0, 3], [(0, [0])]), ([], []), ([0, 3], []), ([], []), ([0, 3, 5], []), ([], []), ([0, 3, 5, 6], []), ([], []), ([0, 3, 5, 6, 7], []), ([], []), ([0, 3, 5, 6, 7, 25], []), ([], []), ([999999, 0, 3, 5, 6, 7], []), ([0, 3, 5, 6, 7, 8, 10], [(10, [1])]), ([], []), ([0, 3, 5, 6, 7, 8, 39], []), ([], []), ([999999, 0, 3, 5, 6, 7, 8], []), ([0, 3, 5, 6, 7, 8, 11, 12], []), ([], []), ([0, 3, 5, 7, 11, 12, 13, 14], []), ([], []), ([0, 3, 5, 6, 7, 11, 12, 14], []), ([], []), ([0, 3, 5, 6, 7, 70], []), ([], []), ([4], []), ([], []), ([999999, 0, 3, 5, 6, 7], []), ([0, 3, 5, 6, 7], []), ([999999], []), ([4], []), ([], [])]) (by kernel_rfl)


/-- cento/centolaw16.InternKids -/
def c_centolaw16_InternKids : CC :=
  .seq (.reg [cn (some 4) (.box 25 (.tmp 0)) none [0],
      cn (some 5) (.box 25 (.tmp 1)) none [1],
      co (some 8) (.assign (.const (.bool false))) none] [2, 3, 4, 5])
  (.seq (.seq (.reg [co (some 27) (.load 25 (.tmp 4)) none,
        co (some 28) (.call { callee := (.value (.func 32)), args := #[(.tmp 27)], argTypes := #[25] }) none,
        co (some 29) (.unOp .not 4 (.tmp 28)) none,
        co (some 30) (.move (.tmp 29)) none,
        co (some 31) (.load 25 (.tmp 5)) (some (30, false)),
        co (some 32) (.call { callee := (.value (.func 32)), args := #[(.tmp 31)], argTypes := #[25] }) (some (30, false)),
        co (some 33) (.unOp .not 4 (.tmp 32)) (some (30, false)),
        co (some 34) (.pick (.tmp 30) (.const (.bool true)) (.tmp 33)) none] [2, 3, 4, 5, 34])
    (.cond (.tmp 34)
      (.seq (.reg [co (some 35) (.call { callee := (.value (.func 31)), args := #[], argTypes := #[] }) none,
          co (some 8) (.assign (.tmp 35)) none] [8])
      (.ret))
      (.skip)))
  (.keep [2, 3, 4, 5] (.seq (.reg [co (some 37) (.load 25 (.tmp 4)) none,
      co (some 38) (.move (.tmp 2)) none,
      co (some 39) (.call { callee := (.value (.func 33)), args := #[(.tmp 37), (.tmp 38), (.const (.int .i64 131072))], argTypes := #[25, 3, 3] }) none,
      co (some 36) (.move (.tmp 39)) none,
      co (some 40) (.extract (.tmp 36) 0) none,
      co (some 41) (.extract (.tmp 36) 1) none,
      co (some 9) (.assign (.tmp 40)) none,
      co (some 10) (.assign (.tmp 41)) none] [3, 5, 9, 10])
  (.seq (.reg [co (some 43) (.load 25 (.tmp 5)) none,
      co (some 44) (.move (.tmp 3)) none,
      co (some 45) (.call { callee := (.value (.func 33)), args := #[(.tmp 43), (.tmp 44), (.const (.int .i64 131072))], argTypes := #[25, 3, 3] }) none,
      co (some 42) (.move (.tmp 45)) none,
      co (some 46) (.extract (.tmp 42) 0) none,
      co (some 47) (.extract (.tmp 42) 1) none,
      co (some 11) (.assign (.tmp 46)) none,
      co (some 12) (.assign (.tmp 47)) none] [9, 10, 11, 12])
  (.seq (.seq (.reg [co (some 48) (.move (.tmp 10)) none,
        co (some 49) (.unOp .not 4 (.tmp 48)) none,
        co (some 50) (.move (.tmp 49)) none,
        co (some 51) (.move (.tmp 12)) (some (50, false)),
        co (some 52) (.unOp .not 4 (.tmp 51)) (some (50, false)),
        co (some 53) (.pick (.tmp 50) (.const (.bool true)) (.tmp 52)) none] [9, 11, 53])
    (.cond (.tmp 53)
      (.seq (.reg [co (some 54) (.call { callee := (.value (.func 31)), args := #[], argTypes := #[] }) none,
          co (some 8) (.assign (.tmp 54)) none] [8])
      (.ret))
      (.skip)))
  (.keep [9, 11] (.seq (.reg [co (some 56) (.move (.tmp 9)) none,
      co (some 57) (.build 40 #[(0, (.const (.int .i64 64))), (1, (.const (.int .i64 65536)))]) none,
      co (some 58) (.call { callee := (.value (.func 20)), args := #[(.tmp 56), (.tmp 57)], argTypes := #[38, 40] }) none,
      co (some 55) (.move (.tmp 58)) none,
      co (some 59) (.extract (.tmp 55) 0) none,
      co (some 60) (.extract (.tmp 55) 1) none,
      co (some 61) (.extract (.tmp 55) 2) none,
      cn (some 13) (.alloc 25) none [2],
      co none (.store 25 (.tmp 13) (.tmp 59)) none,
      co (some 14) (.assign (.tmp 60)) none,
      co (some 15) (.assign (.tmp 61)) none] [9, 11, 13, 15])
  (.seq (.reg [co (some 63) (.move (.tmp 11)) none,
      co (some 64) (.build 40 #[(0, (.const (.int .i64 64))), (1, (.const (.int .i64 65536)))]) none,
      co (some 65) (.call { callee := (.value (.func 20)), args := #[(.tmp 63), (.tmp 64)], argTypes := #[38, 40] }) none,
      co (some 62) (.move (.tmp 65)) none,
      co (some 66) (.extract (.tmp 62) 0) none,
      co (some 67) (.extract (.tmp 62) 1) none,
      co (some 68) (.extract (.tmp 62) 2) none,
      cn (some 16) (.alloc 25) none [3],
      co none (.store 25 (.tmp 16) (.tmp 66)) none,
      co (some 17) (.assign (.tmp 67)) none,
      co (some 18) (.assign (.tmp 68)) none] [9, 11, 13, 15, 16, 18])
  (.seq (.seq (.reg [co (some 69) (.move (.tmp 15)) none,
        co (some 70) (.binOp .neq 3 (.tmp 69) (.const (.int .i64 0)) 3) none,
        co (some 71) (.move (.tmp 70)) none,
        co (some 72) (.move (.tmp 18)) (some (71, false)),
        co (some 73) (.binOp .neq 3 (.tmp 72) (.const (.int .i64 0)) 3) (some (71, false)),
        co (some 74) (.pick (.tmp 71) (.const (.bool true)) (.tmp 73)) none] [9, 11, 13, 16, 74])
    (.cond (.tmp 74)
      (.seq (.reg [co (some 75) (.call { callee := (.value (.func 31)), args := #[], argTypes := #[] }) none,
          co (some 8) (.assign (.tmp 75)) none] [8])
      (.ret))
      (.skip)))
  (.keep [9, 11, 13, 16] (.seq (.reg [co (some 76) (.call { callee := (.value (.func 26)), args := #[], argTypes := #[] }) none,
      co (some 19) (.assign (.tmp 76)) none] [9, 11, 13, 16, 19])
  (.seq (.reg [co (some 78) (.move (.tmp 19)) none,
      co (some 79) (.move (.tmp 9)) none,
      co (some 80) (.call { callee := (.value (.func 28)), args := #[(.tmp 79)], argTypes := #[38] }) none,
      co (some 81) (.call { callee := (.value (.func 34)), args := #[(.tmp 78), (.tmp 80)], argTypes := #[58, 47] }) none,
      co (some 77) (.move (.tmp 81)) none,
      co (some 82) (.extract (.tmp 77) 0) none,
      co (some 83) (.extract (.tmp 77) 1) none,
      co (some 20) (.assign (.tmp 82)) none,
      co (some 21) (.assign (.tmp 83)) none] [11, 13, 16, 19, 20, 21])
  (.seq (.reg [co (some 85) (.move (.tmp 19)) none,
      co (some 86) (.move (.tmp 11)) none,
      co (some 87) (.call { callee := (.value (.func 28)), args := #[(.tmp 86)], argTypes := #[38] }) none,
      co (some 88) (.call { callee := (.value (.func 34)), args := #[(.tmp 85), (.tmp 87)], argTypes := #[58, 47] }) none,
      co (some 84) (.move (.tmp 88)) none,
      co (some 89) (.extract (.tmp 84) 0) none,
      co (some 90) (.extract (.tmp 84) 1) none,
      co (some 22) (.assign (.tmp 89)) none,
      co (some 23) (.assign (.tmp 90)) none] [13, 16, 19, 20, 21, 22, 23])
  (.seq (.reg [co (some 24) (.assign (.const (.slice none 0 0))) none] [13, 16, 19, 20, 21, 22, 23, 24])
  (.seq (.reg [co (some 92) (.move (.tmp 24)) none,
      co (some 93) (.fieldAddr 25 (.tmp 13) 2) none,
      co (some 94) (.load 23 (.tmp 93)) none,
      co (some 95) (.call { callee := (.value (.func 35)), args := #[(.tmp 92), (.tmp 94)], argTypes := #[23, 23] }) none,
      co (some 91) (.move (.tmp 95)) none,
      co (some 96) (.extract (.tmp 91) 0) none,
      co (some 97) (.extract (.tmp 91) 1) none,
      co (some 24) (.assign (.tmp 96)) none,
      co (some 25) (.assign (.tmp 97)) none] [16, 19, 20, 21, 22, 23, 24, 25])
  (.seq (.reg [co (some 99) (.move (.tmp 24)) none,
      co (some 100) (.fieldAddr 25 (.tmp 16) 2) none,
      co (some 101) (.load 23 (.tmp 100)) none,
      co (some 102) (.call { callee := (.value (.func 35)), args := #[(.tmp 99), (.tmp 101)], argTypes := #[23, 23] }) none,
      co (some 98) (.move (.tmp 102)) none,
      co (some 103) (.extract (.tmp 98) 0) none,
      co (some 104) (.extract (.tmp 98) 1) none,
      co (some 24) (.assign (.tmp 103)) none,
      co (some 26) (.assign (.tmp 104)) none] [19, 20, 21, 22, 23, 24, 25, 26])
  (.seq (.reg [co (some 105) (.move (.tmp 21)) none,
      co (some 106) (.binOp .eql 49 (.tmp 105) (.const (.int .i64 0)) 49) none,
      co (some 107) (.move (.tmp 106)) none,
      co (some 108) (.move (.tmp 23)) (some (107, true)),
      co (some 109) (.binOp .eql 49 (.tmp 108) (.const (.int .i64 0)) 49) (some (107, true)),
      co (some 110) (.pick (.tmp 107) (.tmp 109) (.const (.bool false))) none,
      co (some 111) (.move (.tmp 110)) none,
      co (some 112) (.move (.tmp 20)) (some (111, true)),
      co (some 113) (.move (.tmp 25)) (some (111, true)),
      co (some 114) (.call { callee := (.value (.func 36)), args := #[(.tmp 112), (.tmp 113)], argTypes := #[69, 69] }) (some (111, true)),
      co (some 115) (.pick (.tmp 111) (.tmp 114) (.const (.bool false))) none,
      co (some 116) (.move (.tmp 115)) none,
      co (some 117) (.move (.tmp 22)) (some (116, true)),
      co (some 118) (.move (.tmp 26)) (some (116, true)),
      co (some 119) (.call { callee := (.value (.func 36)), args := #[(.tmp 117), (.tmp 118)], argTypes := #[69, 69] }) (some (116, true)),
      co (some 120) (.pick (.tmp 116) (.tmp 119) (.const (.bool false))) none,
      co (some 121) (.move (.tmp 120)) none,
      co (some 122) (.move (.tmp 19)) (some (121, true)),
      co (some 123) (.call { callee := (.value (.func 30)), args := #[(.tmp 122)], argTypes := #[58] }) (some (121, true)),
      co (some 124) (.move (.tmp 24)) (some (121, true)),
      co (some 125) (.call { callee := (.builtin .len), args := #[(.tmp 124)], argTypes := #[23] }) (some (121, true)),
      co (some 126) (.binOp .eql 3 (.tmp 123) (.tmp 125) 3) (some (121, true)),
      co (some 127) (.pick (.tmp 121) (.tmp 126) (.const (.bool false))) none,
      co (some 128) (.move (.tmp 127)) none,
      co (some 129) (.call { callee := (.value (.func 31)), args := #[], argTypes := #[] }) (some (128, true)),
      co (some 130) (.pick (.tmp 128) (.tmp 129) (.const (.bool false))) none,
      co (some 8) (.assign (.tmp 130)) none] [8])
  (.ret))))))))))))))))))
theorem t_centolaw16_InternKids : Txt Try.prog 7 131 [(.tmp 8)] c_centolaw16_InternKids := txt_of (code := Try.f7.body.getD .ret) mixed (by kernel_rfl) Try.func7 (by kernel_rfl) Try.ntmps7 (by kernel_rfl) (ls := [([2, 3, 4, 5], [(0, [0]), (1, [1])]), ([], []), ([2, 3, 4, 5, 34], []), ([], []), ([8], []), ([], []), ([999999, 2, 3, 4, 5], []), ([3, 5, 9, 10], []), ([], []), ([9, 10, 11, 12], []), ([], []), ([9, 11, 53], []), ([], []), ([8], []), ([], []), ([999999, 9, 11], []), ([9, 11, 13, 15], [(7, [2])]), ([], []), ([9, 11, 13, 15, 16, 18], [(7, [3])]), ([], []), ([9, 11, 13, 16, 74], []), ([], []), ([8], []), ([], []), ([999999, 9, 11, 13, 16], []), ([9, 11, 13, 16, 19], []), ([], []), ([11, 13, 16, 19, 20, 21], []), ([], []), ([13, 16, 19, 20, 21, 22, 23], []), ([], []), ([13, 16, 19, 20, 21, 22, 23, 24], []), ([], []), ([16, 19, 20, 21, 22, 23, 24, 25], []), ([], []), ([19, 20, 21, 22, 23, 24, 25, 26], []), ([], []), ([8], []), ([], [])]) (by kernel_rfl)

def l1_centolaw16_InternMany : CC :=
  .seq (.seq (.reg [co (some 23) (.move (.tmp 6)) none,
        co (some 24) (.move (.tmp 0)) none,
        co (some 25) (.binOp .lss 3 (.tmp 23) (.tmp 24) 3) none] [0, 1, 5, 6, 25])
    (.cond (.tmp 25)
      (.skip)
      (.exit 0)))
  (.keep [0, 1, 5, 6] (.seq (.block 1
      (.reg [co (some 28) (.move (.tmp 5)) none,
        co (some 29) (.move (.tmp 1)) none,
        co (some 30) (.move (.tmp 6)) none,
        co (some 31) (.convert 3 45 (.tmp 30)) none,
        co (some 32) (.move (.tmp 1)) none,
        co (some 33) (.binOp .mul 45 (.tmp 31) (.tmp 32) 45) none,
        co (some 34) (.binOp .add 45 (.tmp 29) (.tmp 33) 45) none,
        co (some 35) (.binOp .or 45 (.tmp 34) (.const (.int .u64 1)) 45) none,
        co (some 36) (.buildSlice 22 1 #[(0, (.tmp 35))]) none,
        cn (some 37) (.call { callee := (.builtin .append), args := #[(.tmp 28), (.tmp 36)], argTypes := #[22, 22] }) none [0],
        co (some 5) (.assign (.tmp 37)) none] [0, 1, 5, 6]))
  (.reg [co (some 26) (.move (.tmp 6)) none,
    co (some 27) (.binOp .add 3 (.tmp 26) (.const (.int .i64 1)) 3) none,
    co (some 6) (.assign (.tmp 27)) none] [0, 1, 5, 6])))
def l2_centolaw16_InternMany : CC :=
  .seq (.seq (.reg [co (some 38) (.move (.tmp 9)) none,
        co (some 39) (.move (.tmp 0)) none,
        co (some 40) (.binOp .lss 3 (.tmp 38) (.tmp 39) 3) none] [0, 5, 7, 8, 9, 40])
    (.cond (.tmp 40)
      (.skip)
      (.exit 2)))
  (.keep [0, 5, 7, 8, 9] (.seq (.block 3
      (.reg [co (some 43) (.move (.tmp 8)) none,
        co (some 44) (.move (.tmp 5)) none,
        co (some 45) (.move (.tmp 9)) none,
        co (some 46) (.binOp .add 3 (.tmp 45) (.const (.int .i64 1)) 3) none,
        co (some 47) (.indexAddr 22 (.tmp 44) (.tmp 46)) none,
        co (some 48) (.load 45 (.tmp 47)) none,
        co (some 49) (.buildSlice 22 1 #[(0, (.tmp 48))]) none,
        co (some 50) (.build 25 #[(0, (.const (.int .i64 10))), (1, (.tmp 49))]) none,
        co (some 51) (.buildSlice 23 1 #[(0, (.tmp 50))]) none,
        cn (some 52) (.call { callee := (.builtin .append), args := #[(.tmp 43), (.tmp 51)], argTypes := #[23, 23] }) none [1],
        co (some 8) (.assign (.tmp 52)) none] [0, 5, 7, 8, 9]))
  (.reg [co (some 41) (.move (.tmp 9)) none,
    co (some 42) (.binOp .add 3 (.tmp 41) (.const (.int .i64 1)) 3) none,
    co (some 9) (.assign (.tmp 42)) none] [0, 5, 7, 8, 9])))
def k1_centolaw16_InternMany : CC :=
  .seq (.reg [co (some 54) (.move (.tmp 7)) none,
      co (some 55) (.move (.tmp 8)) none,
      co (some 56) (.call { callee := (.value (.func 35)), args := #[(.tmp 54), (.tmp 55)], argTypes := #[23, 23] }) none,
      co (some 53) (.move (.tmp 56)) none,
      co (some 57) (.extract (.tmp 53) 0) none,
      co (some 58) (.extract (.tmp 53) 1) none,
      co (some 7) (.assign (.tmp 57)) none,
      co (some 10) (.assign (.tmp 58)) none] [5, 7, 10])
  (.seq (.reg [co (some 59) (.call { callee := (.value (.func 26)), args := #[], argTypes := #[] }) none,
      co (some 11) (.assign (.tmp 59)) none] [5, 7, 10, 11])
  (.seq (.reg [co (some 61) (.move (.tmp 11)) none,
      co (some 62) (.move (.tmp 5)) none,
      co (some 63) (.buildSlice 38 1 #[(0, (.tmp 62))]) none,
      co (some 64) (.call { callee := (.value (.func 28)), args := #[(.tmp 63)], argTypes := #[38] }) none,
      co (some 65) (.call { callee := (.value (.func 34)), args := #[(.tmp 61), (.tmp 64)], argTypes := #[58, 47] }) none,
      co (some 60) (.move (.tmp 65)) none,
      co (some 66) (.extract (.tmp 60) 0) none,
      co (some 67) (.extract (.tmp 60) 1) none,
      co (some 12) (.assign (.tmp 66)) none,
      co (some 13) (.assign (.tmp 67)) none] [5, 7, 10, 11, 12, 13])
  (.seq (.reg [co (some 69) (.move (.tmp 11)) none,
      co (some 70) (.move (.tmp 5)) none,
      co (some 71) (.buildSlice 38 1 #[(0, (.tmp 70))]) none,
      co (some 72) (.call { callee := (.value (.func 28)), args := #[(.tmp 71)], argTypes := #[38] }) none,
      co (some 73) (.call { callee := (.value (.func 34)), args := #[(.tmp 69), (.tmp 72)], argTypes := #[58, 47] }) none,
      co (some 68) (.move (.tmp 73)) none,
      co (some 74) (.extract (.tmp 68) 0) none,
      co (some 75) (.extract (.tmp 68) 1) none,
      co (some 14) (.assign (.tmp 74)) none,
      co (some 15) (.assign (.tmp 75)) none] [7, 10, 11, 12, 13, 14, 15])
  (.seq (.reg [co (some 76) (.move (.tmp 13)) none,
      co (some 77) (.binOp .eql 49 (.tmp 76) (.const (.int .i64 0)) 49) none,
      co (some 78) (.move (.tmp 77)) none,
      co (some 79) (.move (.tmp 15)) (some (78, true)),
      co (some 80) (.binOp .eql 49 (.tmp 79) (.const (.int .i64 0)) 49) (some (78, true)),
      co (some 81) (.pick (.tmp 78) (.tmp 80) (.const (.bool false))) none,
      co (some 82) (.move (.tmp 81)) none,
      co (some 83) (.move (.tmp 12)) (some (82, true)),
      co (some 84) (.move (.tmp 10)) (some (82, true)),
      co (some 85) (.call { callee := (.value (.func 36)), args := #[(.tmp 83), (.tmp 84)], argTypes := #[69, 69] }) (some (82, true)),
      co (some 86) (.pick (.tmp 82) (.tmp 85) (.const (.bool false))) none,
      co (some 87) (.move (.tmp 86)) none,
      co (some 88) (.move (.tmp 14)) (some (87, true)),
      co (some 89) (.move (.tmp 10)) (some (87, true)),
      co (some 90) (.call { callee := (.value (.func 36)), args := #[(.tmp 88), (.tmp 89)], argTypes := #[69, 69] }) (some (87, true)),
      co (some 91) (.pick (.tmp 87) (.tmp 90) (.const (.bool false))) none,
      co (some 92) (.move (.tmp 91)) none,
      co (some 93) (.move (.tmp 11)) (some (92, true)),
      co (some 94) (.call { callee := (.value (.func 30)), args := #[(.tmp 93)], argTypes := #[58] }) (some (92, true)),
      co (some 95) (.move (.tmp 7)) (some (92, true)),
      co (some 96) (.call { callee := (.builtin .len), args := #[(.tmp 95)], argTypes := #[23] }) (some (92, true)),
      co (some 97) (.binOp .eql 3 (.tmp 94) (.tmp 96) 3) (some (92, true)),
      co (some 98) (.pick (.tmp 92) (.tmp 97) (.const (.bool false))) none,
      co (some 99) (.move (.tmp 98)) none,
      co (some 100) (.call { callee := (.value (.func 31)), args := #[], argTypes := #[] }) (some (99, true)),
      co (some 101) (.pick (.tmp 99) (.tmp 100) (.const (.bool false))) none,
      co (some 4) (.assign (.tmp 101)) none] [4])
  (.ret)))))

/-- cento/centolaw16.InternMany -/
def c_centolaw16_InternMany : CC :=
  .seq (.reg [co (some 4) (.assign (.const (.bool false))) none] [0, 1])
  (.seq (.reg [co (some 16) (.move (.tmp 0)) none,
      co (some 17) (.binOp .and 3 (.tmp 16) (.const (.int .i64 127)) 3) none,
      co (some 0) (.assign (.tmp 17)) none] [0, 1])
  (.seq (.reg [co (some 18) (.move (.tmp 0)) none,
      co (some 19) (.convert 3 45 (.tmp 18)) none,
      co (some 20) (.binOp .shl 45 (.tmp 19) (.const (.int .u64 35)) 76) none,
      co (some 21) (.binOp .or 45 (.const (.int .u64 21474836481)) (.tmp 20) 45) none,
      co (some 22) (.buildSlice 22 1 #[(0, (.tmp 21))]) none,
      co (some 5) (.assign (.tmp 22)) none] [0, 1, 5])
  (.seq (.seq (.reg [co (some 6) (.assign (.const (.int .i64 0))) none] [0, 1, 5, 6])
    (.block 0
      (.loop l1_centolaw16_InternMany)))
  (.keep [0, 5] (.seq (.reg [co (some 7) (.assign (.const (.slice none 0 0))) none] [0, 5, 7])
  (.seq (.reg [co (some 8) (.assign (.const (.slice none 0 0))) none] [0, 5, 7, 8])
  (.seq (.seq (.reg [co (some 9) (.assign (.const (.int .i64 0))) none] [0, 5, 7, 8, 9])
    (.block 2
      (.loop l2_centolaw16_InternMany)))
  (.keep [5, 7, 8] (.stop k1_centolaw16_InternMany)))))))))
theorem t_centolaw16_InternMany : Txt Try.prog 8 102 [(.tmp 4)] c_centolaw16_InternMany := txt_of (code := Try.f8.body.getD .ret) mixed (by kernel_rfl) Try.func8 (by kernel_rfl) Try.ntmps8 (by kernel_rfl) (ls := [([0, 1], []), ([], []), ([0, 1], []), ([], []), ([0, 1, 5], []), ([], []), ([0, 1, 5, 6], []), ([], []), ([0, 1, 5, 6, 25], []), ([], []), ([999999, 0, 1, 5, 6], []), ([0, 1, 5, 6], [(9, [0])]), ([], []), ([0, 1, 5, 6], []), ([999999, 0, 5], []), ([0, 5, 7], []), ([], []), ([0, 5, 7, 8], []), ([], []), ([0, 5, 7, 8, 9], []), ([], []), ([0, 5, 7, 8, 9, 40], []), ([], []), ([999999, 0, 5, 7, 8, 9], []), ([0, 5, 7, 8, 9], [(9, [1])]), ([], []), ([0, 5, 7, 8, 9], []), ([999997, 5, 7, 8], []), ([5, 7, 10], []), ([], []), ([5, 7, 10, 11], []), ([], []), ([5, 7, 10, 11, 12, 13], []), ([], []), ([7, 10, 11, 12, 13, 14, 15], []), ([], []), ([4], []), ([], [])]) (by kernel_rfl)


/-- cento/centolaw16.InternNone -/
def c_centolaw16_InternNone : CC :=
  .seq (.reg [co (some 2) (.assign (.const (.bool false))) none] [0])
  (.seq (.reg [co (some 3) (.assign (.const (.pointer none))) none] [0, 3])
  (.seq (.reg [co (some 11) (.move (.tmp 3)) none,
      co (some 12) (.move (.tmp 0)) none,
      co (some 13) (.buildSlice 22 2 #[(0, (.const (.int .u64 4294967296))), (1, (.tmp 12))]) none,
      co (some 14) (.buildSlice 38 1 #[(0, (.tmp 13))]) none,
      co (some 15) (.call { callee := (.value (.func 28)), args := #[(.tmp 14)], argTypes := #[38] }) none,
      co (some 16) (.call { callee := (.value (.func 27)), args := #[(.tmp 11), (.tmp 15)], argTypes := #[58, 47] }) none,
      co (some 10) (.move (.tmp 16)) none,
      co (some 17) (.extract (.tmp 10) 0) none,
      co (some 18) (.extract (.tmp 10) 1) none,
      co (some 4) (.assign (.tmp 17)) none,
      co (some 5) (.assign (.tmp 18)) none] [0, 3, 5])
  (.seq (.reg [co (some 20) (.move (.tmp 3)) none,
      co (some 21) (.move (.tmp 0)) none,
      co (some 22) (.buildSlice 22 2 #[(0, (.const (.int .u64 55834574849))), (1, (.tmp 21))]) none,
      co (some 23) (.buildSlice 38 1 #[(0, (.tmp 22))]) none,
      co (some 24) (.call { callee := (.value (.func 28)), args := #[(.tmp 23)], argTypes := #[38] }) none,
      co (some 25) (.call { callee := (.value (.func 34)), args := #[(.tmp 20), (.tmp 24)], argTypes := #[58, 47] }) none,
      co (some 19) (.move (.tmp 25)) none,
      co (some 26) (.extract (.tmp 19) 0) none,
      co (some 27) (.extract (.tmp 19) 1) none,
      co (some 6) (.assign (.tmp 26)) none,
      co (some 7) (.assign (.tmp 27)) none] [3, 5, 6, 7])
  (.seq (.reg [co (some 29) (.move (.tmp 3)) none,
      co (some 30) (.buildSlice 22 1 #[(0, (.const (.int .u64 21474836481)))]) none,
      co (some 31) (.buildSlice 38 1 #[(0, (.tmp 30))]) none,
      co (some 32) (.call { callee := (.value (.func 28)), args := #[(.tmp 31)], argTypes := #[38] }) none,
      co (some 33) (.call { callee := (.value (.func 34)), args := #[(.tmp 29), (.tmp 32)], argTypes := #[58, 47] }) none,
      co (some 28) (.move (.tmp 33)) none,
      co (some 34) (.extract (.tmp 28) 0) none,
      co (some 35) (.extract (.tmp 28) 1) none,
      co (some 8) (.assign (.tmp 34)) none,
      co (some 9) (.assign (.tmp 35)) none] [3, 5, 6, 7, 8, 9])
  (.seq (.reg [co (some 36) (.move (.tmp 5)) none,
      co (some 37) (.binOp .eql 49 (.tmp 36) (.const (.int .i64 1)) 49) none,
      co (some 38) (.move (.tmp 37)) none,
      co (some 39) (.move (.tmp 7)) (some (38, true)),
      co (some 40) (.binOp .eql 49 (.tmp 39) (.const (.int .i64 1)) 49) (some (38, true)),
      co (some 41) (.pick (.tmp 38) (.tmp 40) (.const (.bool false))) none,
      co (some 42) (.move (.tmp 41)) none,
      co (some 43) (.move (.tmp 9)) (some (42, true)),
      co (some 44) (.binOp .eql 49 (.tmp 43) (.const (.int .i64 0)) 49) (some (42, true)),
      co (some 45) (.pick (.tmp 42) (.tmp 44) (.const (.bool false))) none,
      co (some 46) (.move (.tmp 45)) none,
      co (some 47) (.move (.tmp 6)) (some (46, true)),
      co (some 48) (.call { callee := (.builtin .len), args := #[(.tmp 47)], argTypes := #[69] }) (some (46, true)),
      co (some 49) (.move (.tmp 8)) (some (46, true)),
      co (some 50) (.call { callee := (.builtin .len), args := #[(.tmp 49)], argTypes := #[69] }) (some (46, true)),
      co (some 51) (.binOp .add 3 (.tmp 48) (.tmp 50) 3) (some (46, true)),
      co (some 52) (.move (.tmp 3)) (some (46, true)),
      co (some 53) (.call { callee := (.value (.func 30)), args := #[(.tmp 52)], argTypes := #[58] }) (some (46, true)),
      co (some 54) (.binOp .add 3 (.tmp 51) (.tmp 53) 3) (some (46, true)),
      co (some 55) (.binOp .eql 3 (.tmp 54) (.const (.int .i64 0)) 3) (some (46, true)),
      co (some 56) (.pick (.tmp 46) (.tmp 55) (.const (.bool false))) none,
      co (some 57) (.move (.tmp 56)) none,
      co (some 58) (.call { callee := (.value (.func 31)), args := #[], argTypes := #[] }) (some (57, true)),
      co (some 59) (.pick (.tmp 57) (.tmp 58) (.const (.bool false))) none,
      co (some 2) (.assign (.tmp 59)) none] [2])
  (.ret))))))
theorem t_centolaw16_InternNone : Txt Try.prog 9 60 [(.tmp 2)] c_centolaw16_InternNone := txt_of (code := Try.f9.body.getD .ret) mixed (by kernel_rfl) Try.func9 (by kernel_rfl) Try.ntmps9 (by kernel_rfl) (ls := [([0], []), ([], []), ([0, 3], []), ([], []), ([0, 3, 5], []), ([], []), ([3, 5, 6, 7], []), ([], []), ([3, 5, 6, 7, 8, 9], []), ([], []), ([2], []), ([], [])]) (by kernel_rfl)
end Go.Proofs.Ytigdcnlhgelkaaa
