/-
  Texts, merged, without what is not reached.
-/
import Derived.Test.YtmeldaflhkiopaaGStr
import Derived.Test.YtmeldaflhkiopaaProg
import Derived.Test.YtmeldaflhkiopaaGSimp
import Derived.KernelRfl
import Derived.Laws.BitsLemmas
import Derived.Laws.Bits64
import Derived.Test.YtmeldaflhkiopaaGCall2
import Derived.Test.YtmeldaflhkiopaaGLo
import Derived.Sort.AssemblyPlain
import Derived.Laws.Bits64b
import Derived.Test.YtmeldaflhkiopaaGLe
import Derived.Test.YtmeldaflhkiopaaGCall3
import Derived.Test.YtmeldaflhkiopaaGFam
import Derived.Test.YtmeldaflhkiopaaGMove
import Derived.Test.YtmeldaflhkiopaaGOpen
/-
  The functions' text as data, and the facts on the types that they use: written by a program of ours (gen2.py) off the translation.
-/
namespace Go.Proofs.Ytmeldaflhkiopaa
set_option linter.unusedVariables false
set_option linter.unusedSimpArgs false
set_option maxRecDepth 20000
open Go Go.G Go.Proofs
theorem mixed : Try.prog.follows .mixedOrders = true := by kernel_rfl
end Go.Proofs.Ytmeldaflhkiopaa

/-
  The functions' text as data, and the facts on the types that they use: written by a program of ours (gen2.py) off the translation.
-/
namespace Go.Proofs.Ytmeldaflhkiopaa
set_option linter.unusedVariables false
set_option linter.unusedSimpArgs false
set_option maxRecDepth 20000
open Go Go.G Go.Proofs
@[simp] theorem und_3 : Try.prog.underlying 3 = some (.int .i64) := by kernel_rfl
@[simp] theorem und_33 : Try.prog.underlying 33 = some (.slice 68) := by kernel_rfl
@[simp] theorem und_68 : Try.prog.underlying 68 = some (.int .u64) := by kernel_rfl
@[simp] theorem szT_68 : szT Try.prog 68 = some 1 := by kernel_rfl
@[simp] theorem aggT_68 : aggT Try.prog 68 = some false := by kernel_rfl
@[simp] theorem zeroT_68 : zeroT Try.prog 68 = some (Value.int IntKind.u64 0) := by kernel_rfl
@[simp] theorem bytesT_68 : bytesT Try.prog 68 = some 8 := by kernel_rfl
def l1_centoref01_Same : CC :=
  .seq (.seq (.reg [co (some 11) (.move (.tmp 5)) none,
        co (some 12) (.move (.tmp 0)) none,
        co (some 13) (.call { callee := (.builtin .len), args := #[(.tmp 12)], argTypes := #[33] }) none,
        co (some 14) (.binOp .lss 3 (.tmp 11) (.tmp 13) 3) none] [0, 1, 5, 14])
    (.cond (.tmp 14)
      (.skip)
      (.exit 0)))
  (.keep [0, 1, 5] (.seq (.block 1
      (.seq (.reg [co (some 17) (.move (.tmp 0)) none,
          co (some 18) (.move (.tmp 5)) none,
          co (some 19) (.indexAddr 33 (.tmp 17) (.tmp 18)) none,
          co (some 20) (.load 68 (.tmp 19)) none,
          co (some 21) (.move (.tmp 1)) none,
          co (some 22) (.move (.tmp 5)) none,
          co (some 23) (.indexAddr 33 (.tmp 21) (.tmp 22)) none,
          co (some 24) (.load 68 (.tmp 23)) none,
          co (some 25) (.binOp .neq 68 (.tmp 20) (.tmp 24) 68) none] [0, 1, 5, 25])
      (.cond (.tmp 25)
        (.seq (.reg [co (some 4) (.assign (.const (.bool false))) none] [4])
        (.ret))
        (.skip))))
  (.keep [0, 1, 5] (.reg [co (some 15) (.move (.tmp 5)) none,
    co (some 16) (.binOp .add 3 (.tmp 15) (.const (.int .i64 1)) 3) none,
    co (some 5) (.assign (.tmp 16)) none] [0, 1, 5]))))
/-- cento/centoref01.Same -/
def c_centoref01_Same : CC :=
  .seq (.reg [co (some 4) (.assign (.const (.bool false))) none] [0, 1])
  (.seq (.seq (.reg [co (some 6) (.move (.tmp 0)) none,
        co (some 7) (.call { callee := (.builtin .len), args := #[(.tmp 6)], argTypes := #[33] }) none,
        co (some 8) (.move (.tmp 1)) none,
        co (some 9) (.call { callee := (.builtin .len), args := #[(.tmp 8)], argTypes := #[33] }) none,
        co (some 10) (.binOp .neq 3 (.tmp 7) (.tmp 9) 3) none] [0, 1, 10])
    (.cond (.tmp 10)
      (.seq (.reg [co (some 4) (.assign (.const (.bool false))) none] [4])
      (.ret))
      (.skip)))
  (.keep [0, 1] (.seq (.seq (.reg [co (some 5) (.assign (.const (.int .i64 0))) none] [0, 1, 5])
    (.block 0
      (.loop l1_centoref01_Same)))
  (.keep [] (.seq (.reg [co (some 4) (.assign (.const (.bool true))) none] [4])
  (.ret))))))
theorem t_centoref01_Same : Txt Try.prog 66 26 [(.tmp 4)] c_centoref01_Same := txt_of (code := Try.f66.body.getD .ret) mixed (by kernel_rfl) Try.func66 (by kernel_rfl) Try.ntmps66 (by kernel_rfl) (ls := [([0, 1], []), ([], []), ([0, 1, 10], []), ([], []), ([4], []), ([], []), ([999999, 0, 1], []), ([0, 1, 5], []), ([], []), ([0, 1, 5, 14], []), ([], []), ([999999, 0, 1, 5], []), ([0, 1, 5, 25], []), ([], []), ([4], []), ([], []), ([999999, 0, 1, 5], []), ([0, 1, 5], []), ([999999], []), ([4], []), ([], [])]) (by kernel_rfl)
def l1_centoref07_Trim : CC :=
  .seq (.seq (.reg [co (some 7) (.move (.tmp 3)) none,
        co (some 8) (.binOp .gtr 3 (.tmp 7) (.const (.int .i64 0)) 3) none,
        co (some 9) (.move (.tmp 8)) none,
        co (some 10) (.move (.tmp 0)) (some (9, true)),
        co (some 11) (.move (.tmp 3)) (some (9, true)),
        co (some 12) (.binOp .sub 3 (.tmp 11) (.const (.int .i64 1)) 3) (some (9, true)),
        co (some 13) (.indexAddr 33 (.tmp 10) (.tmp 12)) (some (9, true)),
        co (some 14) (.load 68 (.tmp 13)) (some (9, true)),
        co (some 15) (.binOp .eql 68 (.tmp 14) (.const (.int .u64 0)) 68) (some (9, true)),
        co (some 16) (.pick (.tmp 9) (.tmp 15) (.const (.bool false))) none] [0, 3, 16])
    (.cond (.tmp 16)
      (.skip)
      (.exit 0)))
  (.keep [0, 3] (.block 1
    (.reg [co (some 17) (.move (.tmp 3)) none,
      co (some 18) (.binOp .sub 3 (.tmp 17) (.const (.int .i64 1)) 3) none,
      co (some 3) (.assign (.tmp 18)) none] [0, 3])))
/-- cento/centoref07.Trim -/
def c_centoref07_Trim : CC :=
  .seq (.reg [co (some 2) (.assign (.const (.slice none 0 0))) none] [0])
  (.seq (.reg [co (some 5) (.move (.tmp 0)) none,
      co (some 6) (.call { callee := (.builtin .len), args := #[(.tmp 5)], argTypes := #[33] }) none,
      co (some 3) (.assign (.tmp 6)) none] [0, 3])
  (.seq (.block 0
      (.loop l1_centoref07_Trim))
  (.keep [0, 3] (.seq (.reg [co (some 4) (.assign (.const (.slice none 0 0))) none] [0, 3, 4])
  (.seq (.reg [co (some 19) (.move (.tmp 4)) none,
      co (some 20) (.move (.tmp 0)) none,
      co (some 21) (.move (.tmp 3)) none,
      co (some 22) (.slice 33 (.tmp 20) none (some (.tmp 21)) none) none,
      cn (some 23) (.call { callee := (.builtin .append), args := #[(.tmp 19), (.tmp 22)], argTypes := #[33, 33] }) none [0],
      co (some 2) (.assign (.tmp 23)) none] [2])
  (.ret))))))
theorem t_centoref07_Trim : Txt Try.prog 67 24 [(.tmp 2)] c_centoref07_Trim := txt_of (code := Try.f67.body.getD .ret) mixed (by kernel_rfl) Try.func67 (by kernel_rfl) Try.ntmps67 (by kernel_rfl) (ls := [([0], []), ([], []), ([0, 3], []), ([], []), ([0, 3, 16], []), ([], []), ([999999, 0, 3], []), ([0, 3], []), ([999999, 0, 3], []), ([0, 3, 4], []), ([], []), ([2], [(4, [0])]), ([], [])]) (by kernel_rfl)
end Go.Proofs.Ytmeldaflhkiopaa

/-
  The functions' text as data, and the facts on the types that they use: written by a program of ours (gen2.py) off the translation.
-/
namespace Go.Proofs.Ytmeldaflhkiopaa
set_option linter.unusedVariables false
set_option linter.unusedSimpArgs false
set_option maxRecDepth 20000
open Go Go.G Go.Proofs
@[simp] theorem und_4 : Try.prog.underlying 4 = some .bool := by kernel_rfl
@[simp] theorem und_34 : Try.prog.underlying 34 = some (.slice 36) := by kernel_rfl
@[simp] theorem szT_3 : szT Try.prog 3 = some 1 := by kernel_rfl
@[simp] theorem szT_33 : szT Try.prog 33 = some 1 := by kernel_rfl
@[simp] theorem szT_34 : szT Try.prog 34 = some 1 := by kernel_rfl
@[simp] theorem szT_36 : szT Try.prog 36 = some 3 := by kernel_rfl
@[simp] theorem aggT_3 : aggT Try.prog 3 = some false := by kernel_rfl
@[simp] theorem aggT_33 : aggT Try.prog 33 = some false := by kernel_rfl
@[simp] theorem aggT_34 : aggT Try.prog 34 = some false := by kernel_rfl
@[simp] theorem aggT_36 : aggT Try.prog 36 = some true := by kernel_rfl
@[simp] theorem zeroT_36 : zeroT Try.prog 36 = some (Value.agg #[Value.int IntKind.i64 0, Value.slice none 0 0, Value.slice none 0 0]) := by kernel_rfl
@[simp] theorem bytesT_36 : bytesT Try.prog 36 = some 56 := by kernel_rfl
@[simp] theorem fieldOffT_36_0 : fieldOffT Try.prog 36 0 = some 0 := by kernel_rfl
@[simp] theorem fieldOffT_36_1 : fieldOffT Try.prog 36 1 = some 1 := by kernel_rfl
@[simp] theorem fieldOffT_36_2 : fieldOffT Try.prog 36 2 = some 2 := by kernel_rfl
@[simp] theorem buildA_36 (ps : List (Nat × A)) : buildA Try.prog 36 ps = (fillA (fun i => ([(0, 1), (1, 1), (2, 1)] : List (Nat × Nat))[i]?) [A.v (Value.int IntKind.i64 0), A.sl true [], A.sl true []] ps).map A.agg := by kernel_rfl
def l1_centoref07_Norm : CC :=
  .seq (.seq (.reg [co (some 12) (.move (.tmp 5)) none,
        co (some 13) (.fieldAddr 36 (.tmp 1) 2) none,
        co (some 14) (.load 34 (.tmp 13)) none,
        co (some 15) (.call { callee := (.builtin .len), args := #[(.tmp 14)], argTypes := #[34] }) none,
        co (some 16) (.binOp .lss 3 (.tmp 12) (.tmp 15) 3) none] [1, 2, 3, 4, 5, 16])
    (.cond (.tmp 16)
      (.skip)
      (.exit 0)))
  (.keep [1, 2, 3, 4, 5] (.seq (.block 1
      (.seq (.reg [co (some 19) (.fieldAddr 36 (.tmp 1) 2) none,
          co (some 20) (.load 34 (.tmp 19)) none,
          co (some 21) (.move (.tmp 5)) none,
          co (some 22) (.indexAddr 34 (.tmp 20) (.tmp 21)) none,
          co (some 23) (.load 36 (.tmp 22)) none,
          co (some 24) (.call { callee := (.value (.func 49)), args := #[(.tmp 23)], argTypes := #[36] }) none,
          cn (some 6) (.alloc 36) none [2],
          co none (.store 36 (.tmp 6) (.tmp 24)) none] [1, 2, 3, 4, 5, 6])
      (.seq (.reg [co (some 25) (.move (.tmp 3)) none,
          co (some 26) (.load 36 (.tmp 6)) none,
          co (some 27) (.buildSlice 34 1 #[(0, (.tmp 26))]) none,
          cn (some 28) (.call { callee := (.builtin .append), args := #[(.tmp 25), (.tmp 27)], argTypes := #[34, 34] }) none [3],
          co (some 3) (.assign (.tmp 28)) none] [1, 2, 3, 4, 5, 6])
      (.seq (.reg [co (some 29) (.fieldAddr 36 (.tmp 6) 0) none,
          co (some 30) (.load 3 (.tmp 29)) none,
          co (some 31) (.binOp .neq 3 (.tmp 30) (.const (.int .i64 0)) 3) none] [1, 2, 3, 4, 5, 31])
      (.cond (.tmp 31)
        (.reg [co (some 32) (.move (.tmp 5)) none,
          co (some 33) (.binOp .add 3 (.tmp 32) (.const (.int .i64 1)) 3) none,
          co (some 4) (.assign (.tmp 33)) none] [1, 2, 3, 4, 5])
        (.skip))))))
  (.keep [1, 2, 3, 4, 5] (.reg [co (some 17) (.move (.tmp 5)) none,
    co (some 18) (.binOp .add 3 (.tmp 17) (.const (.int .i64 1)) 3) none,
    co (some 5) (.assign (.tmp 18)) none] [1, 2, 3, 4, 5]))))
/-- cento/centoref07.Norm -/
def c_centoref07_Norm : CC :=
  .seq (.reg [cn (some 1) (.box 36 (.tmp 0)) none [0],
      cn (some 2) (.alloc 36) none [1]] [1, 2])
  (.seq (.seq (.reg [co (some 8) (.fieldAddr 36 (.tmp 1) 0) none,
        co (some 9) (.load 3 (.tmp 8)) none,
        co (some 10) (.binOp .eql 3 (.tmp 9) (.const (.int .i64 0)) 3) none] [1, 2, 10])
    (.cond (.tmp 10)
      (.seq (.reg [co (some 11) (.build 36 #[]) none,
          co none (.store 36 (.tmp 2) (.tmp 11)) none] [2])
      (.ret))
      (.skip)))
  (.keep [1, 2] (.seq (.reg [co (some 3) (.assign (.const (.slice none 0 0))) none] [1, 2, 3])
  (.seq (.reg [co (some 4) (.assign (.const (.int .i64 0))) none] [1, 2, 3, 4])
  (.seq (.seq (.reg [co (some 5) (.assign (.const (.int .i64 0))) none] [1, 2, 3, 4, 5])
    (.block 0
      (.loop l1_centoref07_Norm)))
  (.keep [1, 2, 3, 4] (.seq (.seq (.reg [co (some 34) (.fieldAddr 36 (.tmp 1) 0) none,
        co (some 35) (.load 3 (.tmp 34)) none,
        co (some 36) (.binOp .eql 3 (.tmp 35) (.const (.int .i64 1)) 3) none] [1, 2, 3, 4, 36])
    (.cond (.tmp 36)
      (.seq (.reg [co (some 37) (.fieldAddr 36 (.tmp 1) 1) none,
          co (some 38) (.load 33 (.tmp 37)) none,
          co (some 39) (.call { callee := (.value (.func 67)), args := #[(.tmp 38)], argTypes := #[33] }) none,
          co (some 40) (.move (.tmp 3)) none,
          co (some 41) (.move (.tmp 4)) none,
          co (some 42) (.slice 34 (.tmp 40) none (some (.tmp 41)) none) none,
          co (some 43) (.build 36 #[(0, (.const (.int .i64 1))), (1, (.tmp 39)), (2, (.tmp 42))]) none,
          co none (.store 36 (.tmp 2) (.tmp 43)) none] [2])
      (.ret))
      (.skip)))
  (.keep [1, 2, 3] (.seq (.reg [co (some 7) (.assign (.const (.slice none 0 0))) none] [1, 2, 3, 7])
  (.seq (.reg [co (some 44) (.move (.tmp 7)) none,
      co (some 45) (.fieldAddr 36 (.tmp 1) 1) none,
      co (some 46) (.load 33 (.tmp 45)) none,
      cn (some 47) (.call { callee := (.builtin .append), args := #[(.tmp 44), (.tmp 46)], argTypes := #[33, 33] }) none [4],
      co (some 7) (.assign (.tmp 47)) none] [1, 2, 3, 7])
  (.seq (.reg [co (some 48) (.fieldAddr 36 (.tmp 1) 0) none,
      co (some 49) (.load 3 (.tmp 48)) none,
      co (some 50) (.move (.tmp 7)) none,
      co (some 51) (.move (.tmp 3)) none,
      co (some 52) (.build 36 #[(0, (.tmp 49)), (1, (.tmp 50)), (2, (.tmp 51))]) none,
      co none (.store 36 (.tmp 2) (.tmp 52)) none] [2])
  (.ret))))))))))))
theorem t_centoref07_Norm : Txt Try.prog 49 53 [(.cell 2 36)] c_centoref07_Norm := txt_of (code := Try.f49.body.getD .ret) mixed (by kernel_rfl) Try.func49 (by kernel_rfl) Try.ntmps49 (by kernel_rfl) (ls := [([1, 2], [(0, [0]), (1, [1])]), ([], []), ([1, 2, 10], []), ([], []), ([2], []), ([], []), ([999999, 1, 2], []), ([1, 2, 3], []), ([], []), ([1, 2, 3, 4], []), ([], []), ([1, 2, 3, 4, 5], []), ([], []), ([1, 2, 3, 4, 5, 16], []), ([], []), ([999999, 1, 2, 3, 4, 5], []), ([1, 2, 3, 4, 5, 6], [(6, [2])]), ([], []), ([1, 2, 3, 4, 5, 6], [(3, [3])]), ([], []), ([1, 2, 3, 4, 5, 31], []), ([], []), ([1, 2, 3, 4, 5], []), ([999999, 1, 2, 3, 4, 5], []), ([1, 2, 3, 4, 5], []), ([999999, 1, 2, 3, 4], []), ([1, 2, 3, 4, 36], []), ([], []), ([2], []), ([], []), ([999999, 1, 2, 3], []), ([1, 2, 3, 7], []), ([], []), ([1, 2, 3, 7], [(3, [4])]), ([], []), ([2], []), ([], [])]) (by kernel_rfl)
def l1_centoref07_Shallow : CC :=
  .seq (.seq (.reg [co (some 20) (.move (.tmp 7)) none,
        co (some 21) (.fieldAddr 36 (.tmp 3) 2) none,
        co (some 22) (.load 34 (.tmp 21)) none,
        co (some 23) (.call { callee := (.builtin .len), args := #[(.tmp 22)], argTypes := #[34] }) none,
        co (some 24) (.binOp .lss 3 (.tmp 20) (.tmp 23) 3) none,
        co (some 25) (.move (.tmp 24)) none,
        co (some 26) (.move (.tmp 2)) (some (25, true)),
        co (some 27) (.binOp .geq 3 (.tmp 26) (.const (.int .i64 0)) 3) (some (25, true)),
        co (some 28) (.pick (.tmp 25) (.tmp 27) (.const (.bool false))) none] [1, 2, 3, 7, 28])
    (.cond (.tmp 28)
      (.skip)
      (.exit 0)))
  (.keep [1, 2, 3, 7] (.seq (.block 1
      (.reg [co (some 31) (.fieldAddr 36 (.tmp 3) 2) none,
        co (some 32) (.load 34 (.tmp 31)) none,
        co (some 33) (.move (.tmp 7)) none,
        co (some 34) (.indexAddr 34 (.tmp 32) (.tmp 33)) none,
        co (some 35) (.load 36 (.tmp 34)) none,
        co (some 36) (.move (.tmp 1)) none,
        co (some 37) (.binOp .sub 3 (.tmp 36) (.const (.int .i64 1)) 3) none,
        co (some 38) (.move (.tmp 2)) none,
        co (some 39) (.call { callee := (.value (.func 28)), args := #[(.tmp 35), (.tmp 37), (.tmp 38)], argTypes := #[36, 3, 3] }) none,
        co (some 2) (.assign (.tmp 39)) none] [1, 2, 3, 7]))
  (.reg [co (some 29) (.move (.tmp 7)) none,
    co (some 30) (.binOp .add 3 (.tmp 29) (.const (.int .i64 1)) 3) none,
    co (some 7) (.assign (.tmp 30)) none] [1, 2, 3, 7])))
/-- cento/centoref07.Shallow -/
def c_centoref07_Shallow : CC :=
  .seq (.reg [cn (some 3) (.box 36 (.tmp 0)) none [0],
      co (some 6) (.assign (.const (.int .i64 0))) none] [1, 2, 3])
  (.seq (.reg [co (some 8) (.move (.tmp 2)) none,
      co (some 9) (.binOp .sub 3 (.tmp 8) (.const (.int .i64 1)) 3) none,
      co (some 10) (.fieldAddr 36 (.tmp 3) 1) none,
      co (some 11) (.load 33 (.tmp 10)) none,
      co (some 12) (.call { callee := (.builtin .len), args := #[(.tmp 11)], argTypes := #[33] }) none,
      co (some 13) (.binOp .sub 3 (.tmp 9) (.tmp 12) 3) none,
      co (some 2) (.assign (.tmp 13)) none] [1, 2, 3])
  (.seq (.seq (.reg [co (some 14) (.move (.tmp 1)) none,
        co (some 15) (.binOp .eql 3 (.tmp 14) (.const (.int .i64 0)) 3) none,
        co (some 16) (.move (.tmp 15)) none,
        co (some 17) (.move (.tmp 2)) (some (16, false)),
        co (some 18) (.binOp .lss 3 (.tmp 17) (.const (.int .i64 0)) 3) (some (16, false)),
        co (some 19) (.pick (.tmp 16) (.const (.bool true)) (.tmp 18)) none] [1, 2, 3, 19])
    (.cond (.tmp 19)
      (.seq (.reg [co (some 6) (.assign (.const (.int .i64 (-1)))) none] [6])
      (.ret))
      (.skip)))
  (.keep [1, 2, 3] (.seq (.seq (.reg [co (some 7) (.assign (.const (.int .i64 0))) none] [1, 2, 3, 7])
    (.block 0
      (.loop l1_centoref07_Shallow)))
  (.keep [2] (.seq (.reg [co (some 40) (.move (.tmp 2)) none,
      co (some 6) (.assign (.tmp 40)) none] [6])
  (.ret)))))))
theorem t_centoref07_Shallow : Txt Try.prog 28 41 [(.tmp 6)] c_centoref07_Shallow := txt_of (code := Try.f28.body.getD .ret) mixed (by kernel_rfl) Try.func28 (by kernel_rfl) Try.ntmps28 (by kernel_rfl) (ls := [([1, 2, 3], [(0, [0])]), ([], []), ([1, 2, 3], []), ([], []), ([1, 2, 3, 19], []), ([], []), ([6], []), ([], []), ([999999, 1, 2, 3], []), ([1, 2, 3, 7], []), ([], []), ([1, 2, 3, 7, 28], []), ([], []), ([999999, 1, 2, 3, 7], []), ([1, 2, 3, 7], []), ([], []), ([1, 2, 3, 7], []), ([999999, 2], []), ([6], []), ([], [])]) (by kernel_rfl)
/-- cento/centoref07.Few -/
def c_centoref07_Few : CC :=
  .seq (.reg [cn (some 1) (.box 36 (.tmp 0)) none [0],
      co (some 2) (.assign (.const (.bool false))) none] [1])
  (.seq (.reg [co (some 3) (.load 36 (.tmp 1)) none,
      co (some 4) (.call { callee := (.value (.func 28)), args := #[(.tmp 3), (.const (.int .i64 80)), (.const (.int .i64 3000))], argTypes := #[36, 3, 3] }) none,
      co (some 5) (.binOp .geq 3 (.tmp 4) (.const (.int .i64 0)) 3) none,
      co (some 2) (.assign (.tmp 5)) none] [2])
  (.ret))
theorem t_centoref07_Few : Txt Try.prog 11 6 [(.tmp 2)] c_centoref07_Few := txt_of (code := Try.f11.body.getD .ret) mixed (by kernel_rfl) Try.func11 (by kernel_rfl) Try.ntmps11 (by kernel_rfl) (ls := [([1], [(0, [0])]), ([], []), ([2], []), ([], [])]) (by kernel_rfl)
def l1_centoref07_Same : CC :=
  .seq (.seq (.reg [co (some 28) (.move (.tmp 5)) none,
        co (some 29) (.fieldAddr 36 (.tmp 2) 2) none,
        co (some 30) (.load 34 (.tmp 29)) none,
        co (some 31) (.call { callee := (.builtin .len), args := #[(.tmp 30)], argTypes := #[34] }) none,
        co (some 32) (.binOp .lss 3 (.tmp 28) (.tmp 31) 3) none] [2, 3, 5, 32])
    (.cond (.tmp 32)
      (.skip)
      (.exit 0)))
  (.keep [2, 3, 5] (.seq (.block 1
      (.seq (.reg [co (some 35) (.fieldAddr 36 (.tmp 2) 2) none,
          co (some 36) (.load 34 (.tmp 35)) none,
          co (some 37) (.move (.tmp 5)) none,
          co (some 38) (.indexAddr 34 (.tmp 36) (.tmp 37)) none,
          co (some 39) (.load 36 (.tmp 38)) none,
          co (some 40) (.fieldAddr 36 (.tmp 3) 2) none,
          co (some 41) (.load 34 (.tmp 40)) none,
          co (some 42) (.move (.tmp 5)) none,
          co (some 43) (.indexAddr 34 (.tmp 41) (.tmp 42)) none,
          co (some 44) (.load 36 (.tmp 43)) none,
          co (some 45) (.call { callee := (.value (.func 48)), args := #[(.tmp 39), (.tmp 44)], argTypes := #[36, 36] }) none,
          co (some 46) (.unOp .not 4 (.tmp 45)) none] [2, 3, 5, 46])
      (.cond (.tmp 46)
        (.seq (.reg [co (some 4) (.assign (.const (.bool false))) none] [4])
        (.ret))
        (.skip))))
  (.keep [2, 3, 5] (.reg [co (some 33) (.move (.tmp 5)) none,
    co (some 34) (.binOp .add 3 (.tmp 33) (.const (.int .i64 1)) 3) none,
    co (some 5) (.assign (.tmp 34)) none] [2, 3, 5]))))
/-- cento/centoref07.Same -/
def c_centoref07_Same : CC :=
  .seq (.reg [cn (some 2) (.box 36 (.tmp 0)) none [0],
      cn (some 3) (.box 36 (.tmp 1)) none [1],
      co (some 4) (.assign (.const (.bool false))) none] [2, 3])
  (.seq (.seq (.reg [co (some 6) (.fieldAddr 36 (.tmp 2) 0) none,
        co (some 7) (.load 3 (.tmp 6)) none,
        co (some 8) (.fieldAddr 36 (.tmp 3) 0) none,
        co (some 9) (.load 3 (.tmp 8)) none,
        co (some 10) (.binOp .neq 3 (.tmp 7) (.tmp 9) 3) none,
        co (some 11) (.move (.tmp 10)) none,
        co (some 12) (.fieldAddr 36 (.tmp 2) 1) (some (11, false)),
        co (some 13) (.load 33 (.tmp 12)) (some (11, false)),
        co (some 14) (.fieldAddr 36 (.tmp 3) 1) (some (11, false)),
        co (some 15) (.load 33 (.tmp 14)) (some (11, false)),
        co (some 16) (.call { callee := (.value (.func 66)), args := #[(.tmp 13), (.tmp 15)], argTypes := #[33, 33] }) (some (11, false)),
        co (some 17) (.unOp .not 4 (.tmp 16)) (some (11, false)),
        co (some 18) (.pick (.tmp 11) (.const (.bool true)) (.tmp 17)) none,
        co (some 19) (.move (.tmp 18)) none,
        co (some 20) (.fieldAddr 36 (.tmp 2) 2) (some (19, false)),
        co (some 21) (.load 34 (.tmp 20)) (some (19, false)),
        co (some 22) (.call { callee := (.builtin .len), args := #[(.tmp 21)], argTypes := #[34] }) (some (19, false)),
        co (some 23) (.fieldAddr 36 (.tmp 3) 2) (some (19, false)),
        co (some 24) (.load 34 (.tmp 23)) (some (19, false)),
        co (some 25) (.call { callee := (.builtin .len), args := #[(.tmp 24)], argTypes := #[34] }) (some (19, false)),
        co (some 26) (.binOp .neq 3 (.tmp 22) (.tmp 25) 3) (some (19, false)),
        co (some 27) (.pick (.tmp 19) (.const (.bool true)) (.tmp 26)) none] [2, 3, 27])
    (.cond (.tmp 27)
      (.seq (.reg [co (some 4) (.assign (.const (.bool false))) none] [4])
      (.ret))
      (.skip)))
  (.keep [2, 3] (.seq (.seq (.reg [co (some 5) (.assign (.const (.int .i64 0))) none] [2, 3, 5])
    (.block 0
      (.loop l1_centoref07_Same)))
  (.keep [] (.seq (.reg [co (some 4) (.assign (.const (.bool true))) none] [4])
  (.ret))))))
theorem t_centoref07_Same : Txt Try.prog 48 47 [(.tmp 4)] c_centoref07_Same := txt_of (code := Try.f48.body.getD .ret) mixed (by kernel_rfl) Try.func48 (by kernel_rfl) Try.ntmps48 (by kernel_rfl) (ls := [([2, 3], [(0, [0]), (1, [1])]), ([], []), ([2, 3, 27], []), ([], []), ([4], []), ([], []), ([999999, 2, 3], []), ([2, 3, 5], []), ([], []), ([2, 3, 5, 32], []), ([], []), ([999999, 2, 3, 5], []), ([2, 3, 5, 46], []), ([], []), ([4], []), ([], []), ([999999, 2, 3, 5], []), ([2, 3, 5], []), ([999999], []), ([4], []), ([], [])]) (by kernel_rfl)
/-- cento/centoref07.Equal -/
def c_centoref07_Equal : CC :=
  .seq (.reg [cn (some 2) (.box 36 (.tmp 0)) none [0],
      cn (some 3) (.box 36 (.tmp 1)) none [1],
      co (some 4) (.assign (.const (.bool false))) none] [2, 3])
  (.seq (.reg [co (some 5) (.load 36 (.tmp 2)) none,
      ⟨some 6, (.call { callee := (.value (.func 49)), args := #[(.tmp 5)], argTypes := #[36] }), none, [], 1, [], true⟩,
      ⟨some 7, (.load 36 (.tmp 3)), none, [], 2, [1], false⟩,
      co (some 8) (.call { callee := (.value (.func 49)), args := #[(.tmp 7)], argTypes := #[36] }) none,
      co (some 9) (.call { callee := (.value (.func 48)), args := #[(.tmp 6), (.tmp 8)], argTypes := #[36, 36] }) none,
      co (some 4) (.assign (.tmp 9)) none] [4])
  (.ret))
theorem t_centoref07_Equal : Txt Try.prog 30 10 [(.tmp 4)] c_centoref07_Equal := txt_of (code := Try.f30.body.getD .ret) mixed (by kernel_rfl) Try.func30 (by kernel_rfl) Try.ntmps30 (by kernel_rfl) (ls := [([2, 3], [(0, [0]), (1, [1])]), ([], []), ([4], []), ([], [])]) (by kernel_rfl)
end Go.Proofs.Ytmeldaflhkiopaa

/-
  The functions' text as data, and the facts on the types that they use: written by a program of ours (gen2.py) off the translation.
-/
namespace Go.Proofs.Ytmeldaflhkiopaa
set_option linter.unusedVariables false
set_option linter.unusedSimpArgs false
set_option maxRecDepth 20000
open Go Go.G Go.Proofs
@[simp] theorem und_32 : Try.prog.underlying 32 = some (.slice 3) := by kernel_rfl
@[simp] theorem zeroT_3 : zeroT Try.prog 3 = some (Value.int IntKind.i64 0) := by kernel_rfl
@[simp] theorem bytesT_3 : bytesT Try.prog 3 = some 8 := by kernel_rfl
end Go.Proofs.Ytmeldaflhkiopaa

/-
  The functions' text as data, and the facts on the types that they use: written by a program of ours (gen2.py) off the translation.
-/
namespace Go.Proofs.Ytmeldaflhkiopaa
set_option linter.unusedVariables false
set_option linter.unusedSimpArgs false
set_option maxRecDepth 20000
open Go Go.G Go.Proofs
@[simp] theorem und_5 : Try.prog.underlying 5 = some (.int .u8) := by kernel_rfl
/-- cento/tree.Word -/
def c_tree_Word : CC :=
  .seq (.reg [cn (some 2) (.box 36 (.tmp 0)) none [0],
      co (some 4) (.assign (.const (.int .u64 0))) none] [1, 2])
  (.seq (.seq (.reg [co (some 5) (.move (.tmp 1)) none,
        co (some 6) (.binOp .lss 3 (.tmp 5) (.const (.int .i64 0)) 3) none,
        co (some 7) (.move (.tmp 6)) none,
        co (some 8) (.move (.tmp 1)) (some (7, false)),
        co (some 9) (.fieldAddr 36 (.tmp 2) 1) (some (7, false)),
        co (some 10) (.load 33 (.tmp 9)) (some (7, false)),
        co (some 11) (.call { callee := (.builtin .len), args := #[(.tmp 10)], argTypes := #[33] }) (some (7, false)),
        co (some 12) (.binOp .geq 3 (.tmp 8) (.tmp 11) 3) (some (7, false)),
        co (some 13) (.pick (.tmp 7) (.const (.bool true)) (.tmp 12)) none] [1, 2, 13])
    (.cond (.tmp 13)
      (.seq (.reg [co (some 4) (.assign (.const (.int .u64 0))) none] [4])
      (.ret))
      (.skip)))
  (.keep [1, 2] (.seq (.reg [co (some 14) (.fieldAddr 36 (.tmp 2) 1) none,
      co (some 15) (.load 33 (.tmp 14)) none,
      co (some 16) (.move (.tmp 1)) none,
      co (some 17) (.indexAddr 33 (.tmp 15) (.tmp 16)) none,
      co (some 18) (.load 68 (.tmp 17)) none,
      co (some 4) (.assign (.tmp 18)) none] [4])
  (.ret))))
theorem t_tree_Word : Txt Try.prog 46 19 [(.tmp 4)] c_tree_Word := txt_of (code := Try.f46.body.getD .ret) mixed (by kernel_rfl) Try.func46 (by kernel_rfl) Try.ntmps46 (by kernel_rfl) (ls := [([1, 2], [(0, [0])]), ([], []), ([1, 2, 13], []), ([], []), ([4], []), ([], []), ([999999, 1, 2], []), ([4], []), ([], [])]) (by kernel_rfl)
/-- cento/tree.Kid -/
def c_tree_Kid : CC :=
  .seq (.reg [cn (some 2) (.box 36 (.tmp 0)) none [0],
      cn (some 4) (.alloc 36) none [1]] [1, 2, 4])
  (.seq (.seq (.reg [co (some 5) (.move (.tmp 1)) none,
        co (some 6) (.binOp .lss 3 (.tmp 5) (.const (.int .i64 0)) 3) none,
        co (some 7) (.move (.tmp 6)) none,
        co (some 8) (.move (.tmp 1)) (some (7, false)),
        co (some 9) (.fieldAddr 36 (.tmp 2) 2) (some (7, false)),
        co (some 10) (.load 34 (.tmp 9)) (some (7, false)),
        co (some 11) (.call { callee := (.builtin .len), args := #[(.tmp 10)], argTypes := #[34] }) (some (7, false)),
        co (some 12) (.binOp .geq 3 (.tmp 8) (.tmp 11) 3) (some (7, false)),
        co (some 13) (.pick (.tmp 7) (.const (.bool true)) (.tmp 12)) none] [1, 2, 4, 13])
    (.cond (.tmp 13)
      (.seq (.reg [co (some 14) (.build 36 #[]) none,
          co none (.store 36 (.tmp 4) (.tmp 14)) none] [4])
      (.ret))
      (.skip)))
  (.keep [1, 2, 4] (.seq (.reg [co (some 15) (.fieldAddr 36 (.tmp 2) 2) none,
      co (some 16) (.load 34 (.tmp 15)) none,
      co (some 17) (.move (.tmp 1)) none,
      co (some 18) (.indexAddr 34 (.tmp 16) (.tmp 17)) none,
      co (some 19) (.load 36 (.tmp 18)) none,
      co none (.store 36 (.tmp 4) (.tmp 19)) none] [4])
  (.ret))))
theorem t_tree_Kid : Txt Try.prog 47 20 [(.cell 4 36)] c_tree_Kid := txt_of (code := Try.f47.body.getD .ret) mixed (by kernel_rfl) Try.func47 (by kernel_rfl) Try.ntmps47 (by kernel_rfl) (ls := [([1, 2, 4], [(0, [0]), (1, [1])]), ([], []), ([1, 2, 4, 13], []), ([], []), ([4], []), ([], []), ([999999, 1, 2, 4], []), ([4], []), ([], [])]) (by kernel_rfl)
end Go.Proofs.Ytmeldaflhkiopaa

/-
  The functions' text as data, and the facts on the types that they use: written by a program of ours (gen2.py) off the translation.
-/
namespace Go.Proofs.Ytmeldaflhkiopaa
set_option linter.unusedVariables false
set_option linter.unusedSimpArgs false
set_option maxRecDepth 20000
open Go Go.G Go.Proofs
def l1_slices_Equal_uint64_uint64 : CC :=
  .seq (.reg [co (some 14) (.binOp .lss 3 (.tmp 13) (.tmp 12) 3) none] [0, 1, 12, 13, 14])
  (.seq (.cond (.tmp 14)
      (.skip)
      (.exit 0))
  (.keep [0, 1, 12, 13] (.seq (.block 1
      (.seq (.reg [co (some 15) (.move (.tmp 13)) none,
          co (some 5) (.assign (.tmp 15)) none] [0, 1, 5, 12, 13])
      (.seq (.reg [co (some 16) (.move (.tmp 0)) none,
          co (some 17) (.move (.tmp 5)) none,
          co (some 18) (.indexAddr 33 (.tmp 16) (.tmp 17)) none,
          co (some 19) (.load 68 (.tmp 18)) none,
          co (some 20) (.move (.tmp 1)) none,
          co (some 21) (.move (.tmp 5)) none,
          co (some 22) (.indexAddr 33 (.tmp 20) (.tmp 21)) none,
          co (some 23) (.load 68 (.tmp 22)) none,
          co (some 24) (.binOp .neq 68 (.tmp 19) (.tmp 23) 68) none] [0, 1, 12, 13, 24])
      (.cond (.tmp 24)
        (.seq (.reg [co (some 4) (.assign (.const (.bool false))) none] [4])
        (.ret))
        (.skip)))))
  (.keep [0, 1, 12, 13] (.reg [co (some 25) (.binOp .add 3 (.tmp 13) (.const (.int .i64 1)) 3) none,
    co (some 13) (.move (.tmp 25)) none] [0, 1, 12, 13])))))
/-- slices.Equal[[]uint64,uint64] -/
def c_slices_Equal_uint64_uint64 : CC :=
  .seq (.reg [co (some 4) (.assign (.const (.bool false))) none] [0, 1])
  (.seq (.seq (.reg [co (some 6) (.move (.tmp 0)) none,
        co (some 7) (.call { callee := (.builtin .len), args := #[(.tmp 6)], argTypes := #[33] }) none,
        co (some 8) (.move (.tmp 1)) none,
        co (some 9) (.call { callee := (.builtin .len), args := #[(.tmp 8)], argTypes := #[33] }) none,
        co (some 10) (.binOp .neq 3 (.tmp 7) (.tmp 9) 3) none] [0, 1, 10])
    (.cond (.tmp 10)
      (.seq (.reg [co (some 4) (.assign (.const (.bool false))) none] [4])
      (.ret))
      (.skip)))
  (.keep [0, 1] (.seq (.seq (.reg [co (some 11) (.move (.tmp 0)) none,
        co (some 12) (.call { callee := (.builtin .len), args := #[(.tmp 11)], argTypes := #[33] }) none,
        co (some 13) (.move (.const (.int .i64 0))) none] [0, 1, 12, 13])
    (.block 0
      (.loop l1_slices_Equal_uint64_uint64)))
  (.keep [] (.seq (.reg [co (some 4) (.assign (.const (.bool true))) none] [4])
  (.ret))))))
theorem t_slices_Equal_uint64_uint64 : Txt Try.prog 45 26 [(.tmp 4)] c_slices_Equal_uint64_uint64 := txt_of (code := Try.f45.body.getD .ret) mixed (by kernel_rfl) Try.func45 (by kernel_rfl) Try.ntmps45 (by kernel_rfl) (ls := [([0, 1], []), ([], []), ([0, 1, 10], []), ([], []), ([4], []), ([], []), ([999999, 0, 1], []), ([0, 1, 12, 13], []), ([], []), ([0, 1, 12, 13, 14], []), ([], []), ([999999, 0, 1, 12, 13], []), ([0, 1, 5, 12, 13], []), ([], []), ([0, 1, 12, 13, 24], []), ([], []), ([4], []), ([], []), ([999999, 0, 1, 12, 13], []), ([0, 1, 12, 13], []), ([999999], []), ([4], []), ([], [])]) (by kernel_rfl)
def l1_tree_Equal : CC :=
  .seq (.reg [co (some 50) (.binOp .lss 3 (.tmp 49) (.tmp 48) 3) none] [2, 3, 48, 49, 50])
  (.seq (.cond (.tmp 50)
      (.skip)
      (.exit 0))
  (.keep [2, 3, 48, 49] (.seq (.block 1
      (.seq (.reg [co (some 51) (.move (.tmp 49)) none,
          co (some 5) (.assign (.tmp 51)) none] [2, 3, 5, 48, 49])
      (.seq (.reg [co (some 52) (.load 36 (.tmp 2)) none,
          co (some 53) (.move (.tmp 5)) none,
          ⟨some 54, (.call { callee := (.value (.func 46)), args := #[(.tmp 52), (.tmp 53)], argTypes := #[36, 3] }), none, [], 2, [], true⟩,
          ⟨some 55, (.load 36 (.tmp 3)), none, [], 3, [2], false⟩,
          co (some 56) (.move (.tmp 5)) none,
          co (some 57) (.call { callee := (.value (.func 46)), args := #[(.tmp 55), (.tmp 56)], argTypes := #[36, 3] }) none,
          co (some 58) (.binOp .neq 68 (.tmp 54) (.tmp 57) 68) none] [2, 3, 48, 49, 58])
      (.cond (.tmp 58)
        (.seq (.reg [co (some 4) (.assign (.const (.bool false))) none] [4])
        (.ret))
        (.skip)))))
  (.keep [2, 3, 48, 49] (.reg [co (some 59) (.binOp .add 3 (.tmp 49) (.const (.int .i64 1)) 3) none,
    co (some 49) (.move (.tmp 59)) none] [2, 3, 48, 49])))))
def l2_tree_Equal : CC :=
  .seq (.reg [co (some 68) (.binOp .lss 3 (.tmp 67) (.tmp 66) 3) none] [2, 3, 66, 67, 68])
  (.seq (.cond (.tmp 68)
      (.skip)
      (.exit 2))
  (.keep [2, 3, 66, 67] (.seq (.block 3
      (.seq (.reg [co (some 69) (.move (.tmp 67)) none,
          co (some 6) (.assign (.tmp 69)) none] [2, 3, 6, 66, 67])
      (.seq (.reg [co (some 70) (.load 36 (.tmp 2)) none,
          co (some 71) (.move (.tmp 6)) none,
          ⟨some 72, (.call { callee := (.value (.func 47)), args := #[(.tmp 70), (.tmp 71)], argTypes := #[36, 3] }), none, [], 2, [], true⟩,
          ⟨some 73, (.load 36 (.tmp 3)), none, [], 3, [2], false⟩,
          co (some 74) (.move (.tmp 6)) none,
          co (some 75) (.call { callee := (.value (.func 47)), args := #[(.tmp 73), (.tmp 74)], argTypes := #[36, 3] }) none,
          co (some 76) (.call { callee := (.value (.func 29)), args := #[(.tmp 72), (.tmp 75)], argTypes := #[36, 36] }) none,
          co (some 77) (.unOp .not 4 (.tmp 76)) none] [2, 3, 66, 67, 77])
      (.cond (.tmp 77)
        (.seq (.reg [co (some 4) (.assign (.const (.bool false))) none] [4])
        (.ret))
        (.skip)))))
  (.keep [2, 3, 66, 67] (.reg [co (some 78) (.binOp .add 3 (.tmp 67) (.const (.int .i64 1)) 3) none,
    co (some 67) (.move (.tmp 78)) none] [2, 3, 66, 67])))))
def k1_tree_Equal : CC :=
  .seq (.seq (.reg [co (some 42) (.fieldAddr 36 (.tmp 2) 1) none,
        co (some 43) (.load 33 (.tmp 42)) none,
        co (some 44) (.call { callee := (.builtin .len), args := #[(.tmp 43)], argTypes := #[33] }) none,
        co (some 45) (.fieldAddr 36 (.tmp 3) 1) none,
        co (some 46) (.load 33 (.tmp 45)) none,
        co (some 47) (.call { callee := (.builtin .len), args := #[(.tmp 46)], argTypes := #[33] }) none,
        co (some 48) (.call { callee := (.builtin .max), args := #[(.tmp 44), (.tmp 47)], argTypes := #[3, 3] }) none,
        co (some 49) (.move (.const (.int .i64 0))) none] [2, 3, 48, 49])
    (.block 0
      (.loop l1_tree_Equal)))
  (.keep [2, 3] (.seq (.seq (.reg [co (some 60) (.fieldAddr 36 (.tmp 2) 2) none,
        co (some 61) (.load 34 (.tmp 60)) none,
        co (some 62) (.call { callee := (.builtin .len), args := #[(.tmp 61)], argTypes := #[34] }) none,
        co (some 63) (.fieldAddr 36 (.tmp 3) 2) none,
        co (some 64) (.load 34 (.tmp 63)) none,
        co (some 65) (.call { callee := (.builtin .len), args := #[(.tmp 64)], argTypes := #[34] }) none,
        co (some 66) (.call { callee := (.builtin .max), args := #[(.tmp 62), (.tmp 65)], argTypes := #[3, 3] }) none,
        co (some 67) (.move (.const (.int .i64 0))) none] [2, 3, 66, 67])
    (.block 2
      (.loop l2_tree_Equal)))
  (.keep [] (.seq (.reg [co (some 4) (.assign (.const (.bool true))) none] [4])
  (.ret)))))
/-- cento/tree.Equal -/
def c_tree_Equal : CC :=
  .seq (.reg [cn (some 2) (.box 36 (.tmp 0)) none [0],
      cn (some 3) (.box 36 (.tmp 1)) none [1],
      co (some 4) (.assign (.const (.bool false))) none] [2, 3])
  (.seq (.seq (.reg [co (some 7) (.fieldAddr 36 (.tmp 2) 0) none,
        co (some 8) (.load 3 (.tmp 7)) none,
        co (some 9) (.fieldAddr 36 (.tmp 3) 0) none,
        co (some 10) (.load 3 (.tmp 9)) none,
        co (some 11) (.binOp .neq 3 (.tmp 8) (.tmp 10) 3) none,
        co (some 12) (.move (.tmp 11)) none,
        co (some 13) (.fieldAddr 36 (.tmp 2) 0) (some (12, false)),
        co (some 14) (.load 3 (.tmp 13)) (some (12, false)),
        co (some 15) (.binOp .eql 3 (.tmp 14) (.const (.int .i64 0)) 3) (some (12, false)),
        co (some 16) (.pick (.tmp 12) (.const (.bool true)) (.tmp 15)) none] [2, 3, 16])
    (.cond (.tmp 16)
      (.seq (.reg [co (some 17) (.fieldAddr 36 (.tmp 2) 0) none,
          co (some 18) (.load 3 (.tmp 17)) none,
          co (some 19) (.fieldAddr 36 (.tmp 3) 0) none,
          co (some 20) (.load 3 (.tmp 19)) none,
          co (some 21) (.binOp .eql 3 (.tmp 18) (.tmp 20) 3) none,
          co (some 4) (.assign (.tmp 21)) none] [4])
      (.ret))
      (.skip)))
  (.keep [2, 3] (.seq (.seq (.reg [co (some 22) (.fieldAddr 36 (.tmp 2) 0) none,
        co (some 23) (.load 3 (.tmp 22)) none,
        co (some 24) (.binOp .neq 3 (.tmp 23) (.const (.int .i64 1)) 3) none,
        co (some 25) (.move (.tmp 24)) none,
        co (some 26) (.fieldAddr 36 (.tmp 2) 2) (some (25, true)),
        co (some 27) (.load 34 (.tmp 26)) (some (25, true)),
        co (some 28) (.call { callee := (.builtin .len), args := #[(.tmp 27)], argTypes := #[34] }) (some (25, true)),
        co (some 29) (.fieldAddr 36 (.tmp 3) 2) (some (25, true)),
        co (some 30) (.load 34 (.tmp 29)) (some (25, true)),
        co (some 31) (.call { callee := (.builtin .len), args := #[(.tmp 30)], argTypes := #[34] }) (some (25, true)),
        co (some 32) (.binOp .neq 3 (.tmp 28) (.tmp 31) 3) (some (25, true)),
        co (some 33) (.move (.tmp 32)) (some (25, true)),
        co (some 34) (.fieldAddr 36 (.tmp 2) 1) (some (33, false)),
        co (some 35) (.load 33 (.tmp 34)) (some (33, false)),
        co (some 36) (.fieldAddr 36 (.tmp 3) 1) (some (33, false)),
        co (some 37) (.load 33 (.tmp 36)) (some (33, false)),
        co (some 38) (.call { callee := (.value (.func 45)), args := #[(.tmp 35), (.tmp 37)], argTypes := #[33, 33] }) (some (33, false)),
        co (some 39) (.unOp .not 4 (.tmp 38)) (some (33, false)),
        co (some 40) (.pick (.tmp 33) (.const (.bool true)) (.tmp 39)) (some (25, true)),
        co (some 41) (.pick (.tmp 25) (.tmp 40) (.const (.bool false))) none] [2, 3, 41])
    (.cond (.tmp 41)
      (.seq (.reg [co (some 4) (.assign (.const (.bool false))) none] [4])
      (.ret))
      (.skip)))
  (.keep [2, 3] (.stop k1_tree_Equal)))))
theorem t_tree_Equal : Txt Try.prog 29 79 [(.tmp 4)] c_tree_Equal := txt_of (code := Try.f29.body.getD .ret) mixed (by kernel_rfl) Try.func29 (by kernel_rfl) Try.ntmps29 (by kernel_rfl) (ls := [([2, 3], [(0, [0]), (1, [1])]), ([], []), ([2, 3, 16], []), ([], []), ([4], []), ([], []), ([999999, 2, 3], []), ([2, 3, 41], []), ([], []), ([4], []), ([], []), ([999997, 2, 3], []), ([2, 3, 48, 49], []), ([], []), ([2, 3, 48, 49, 50], []), ([], []), ([999999, 2, 3, 48, 49], []), ([2, 3, 5, 48, 49], []), ([], []), ([2, 3, 48, 49, 58], []), ([], []), ([4], []), ([], []), ([999999, 2, 3, 48, 49], []), ([2, 3, 48, 49], []), ([999999, 2, 3], []), ([2, 3, 66, 67], []), ([], []), ([2, 3, 66, 67, 68], []), ([], []), ([999999, 2, 3, 66, 67], []), ([2, 3, 6, 66, 67], []), ([], []), ([2, 3, 66, 67, 77], []), ([], []), ([4], []), ([], []), ([999999, 2, 3, 66, 67], []), ([2, 3, 66, 67], []), ([999999], []), ([4], []), ([], [])]) (by kernel_rfl)
end Go.Proofs.Ytmeldaflhkiopaa

/-
  The functions' text as data, and the facts on the types that they use: written by a program of ours (gen2.py) off the translation.
-/
namespace Go.Proofs.Ytmeldaflhkiopaa
set_option linter.unusedVariables false
set_option linter.unusedSimpArgs false
set_option maxRecDepth 20000
open Go Go.G Go.Proofs
@[simp] theorem und_22 : Try.prog.underlying 22 = some (.slice 32) := by kernel_rfl
@[simp] theorem und_25 : Try.prog.underlying 25 = some (.slice 30) := by kernel_rfl
@[simp] theorem und_27 : Try.prog.underlying 27 = some (.slice 31) := by kernel_rfl
@[simp] theorem und_54 : Try.prog.underlying 54 = some (.slice 57) := by kernel_rfl
@[simp] theorem szT_30 : szT Try.prog 30 = some 2 := by kernel_rfl
@[simp] theorem szT_31 : szT Try.prog 31 = some 2 := by kernel_rfl
@[simp] theorem szT_32 : szT Try.prog 32 = some 1 := by kernel_rfl
@[simp] theorem szT_54 : szT Try.prog 54 = some 1 := by kernel_rfl
@[simp] theorem szT_57 : szT Try.prog 57 = some 3 := by kernel_rfl
@[simp] theorem aggT_30 : aggT Try.prog 30 = some true := by kernel_rfl
@[simp] theorem aggT_31 : aggT Try.prog 31 = some true := by kernel_rfl
@[simp] theorem aggT_32 : aggT Try.prog 32 = some false := by kernel_rfl
@[simp] theorem aggT_54 : aggT Try.prog 54 = some false := by kernel_rfl
@[simp] theorem aggT_57 : aggT Try.prog 57 = some true := by kernel_rfl
@[simp] theorem zeroT_30 : zeroT Try.prog 30 = some (Value.agg #[Value.int IntKind.i64 0, Value.int IntKind.i64 0]) := by kernel_rfl
@[simp] theorem zeroT_31 : zeroT Try.prog 31 = some (Value.agg #[Value.int IntKind.i64 0, Value.int IntKind.i64 0]) := by kernel_rfl
@[simp] theorem zeroT_32 : zeroT Try.prog 32 = some (Value.slice none 0 0) := by kernel_rfl
@[simp] theorem zeroT_57 : zeroT Try.prog 57 = some (Value.agg #[Value.int IntKind.i64 0, Value.int IntKind.i64 0, Value.int IntKind.i64 0]) := by kernel_rfl
@[simp] theorem bytesT_30 : bytesT Try.prog 30 = some 16 := by kernel_rfl
@[simp] theorem bytesT_31 : bytesT Try.prog 31 = some 16 := by kernel_rfl
@[simp] theorem bytesT_32 : bytesT Try.prog 32 = some 24 := by kernel_rfl
@[simp] theorem bytesT_57 : bytesT Try.prog 57 = some 24 := by kernel_rfl
@[simp] theorem fieldOffT_30_0 : fieldOffT Try.prog 30 0 = some 0 := by kernel_rfl
@[simp] theorem fieldOffT_30_1 : fieldOffT Try.prog 30 1 = some 1 := by kernel_rfl
@[simp] theorem fieldOffT_31_0 : fieldOffT Try.prog 31 0 = some 0 := by kernel_rfl
@[simp] theorem fieldOffT_31_1 : fieldOffT Try.prog 31 1 = some 1 := by kernel_rfl
@[simp] theorem fieldOffT_57_0 : fieldOffT Try.prog 57 0 = some 0 := by kernel_rfl
@[simp] theorem fieldOffT_57_1 : fieldOffT Try.prog 57 1 = some 2 := by kernel_rfl
@[simp] theorem buildA_30 (ps : List (Nat × A)) : buildA Try.prog 30 ps = (fillA (fun i => ([(0, 1), (1, 1)] : List (Nat × Nat))[i]?) [A.v (Value.int IntKind.i64 0), A.v (Value.int IntKind.i64 0)] ps).map A.agg := by kernel_rfl
@[simp] theorem buildA_31 (ps : List (Nat × A)) : buildA Try.prog 31 ps = (fillA (fun i => ([(0, 1), (1, 1)] : List (Nat × Nat))[i]?) [A.v (Value.int IntKind.i64 0), A.v (Value.int IntKind.i64 0)] ps).map A.agg := by kernel_rfl
@[simp] theorem buildA_57 (ps : List (Nat × A)) : buildA Try.prog 57 ps = (fillA (fun i => ([(0, 2), (2, 1)] : List (Nat × Nat))[i]?) [A.v (Value.int IntKind.i64 0), A.v (Value.int IntKind.i64 0), A.v (Value.int IntKind.i64 0)] ps).map A.agg := by kernel_rfl
@[simp] theorem eqA_30 (x0 y0 : Int) (x1 y1 : Int) : eqA Try.prog 100 30 (.agg [A.v (.int .i64 x0), A.v (.int .i64 x1)]) (.agg [A.v (.int .i64 y0), A.v (.int .i64 y1)]) = some (((x0 == y0) && ((x1 == y1) && (true)))) := by kernel_rfl
@[simp] theorem eqG_30 : Try.prog.eqGuardType Try.prog.depth 30 = false := by kernel_rfl
/-- cmp.isNaN[int] -/
def c_cmp_isNaN_int : CC :=
  .seq (.reg [co (some 2) (.assign (.const (.bool false))) none] [0])
  (.seq (.reg [co (some 3) (.move (.tmp 0)) none,
      co (some 4) (.move (.tmp 0)) none,
      co (some 5) (.binOp .neq 3 (.tmp 3) (.tmp 4) 3) none,
      co (some 2) (.assign (.tmp 5)) none] [2])
  (.ret))
theorem t_cmp_isNaN_int : Txt Try.prog 43 6 [(.tmp 2)] c_cmp_isNaN_int := txt_of (code := Try.f43.body.getD .ret) mixed (by kernel_rfl) Try.func43 (by kernel_rfl) Try.ntmps43 (by kernel_rfl) (ls := [([0], []), ([], []), ([2], []), ([], [])]) (by kernel_rfl)
/-- cmp.Compare[int] -/
def c_cmp_Compare_int : CC :=
  .seq (.reg [co (some 4) (.assign (.const (.int .i64 0))) none] [0, 1])
  (.seq (.reg [co (some 7) (.move (.tmp 0)) none,
      co (some 8) (.call { callee := (.value (.func 43)), args := #[(.tmp 7)], argTypes := #[3] }) none,
      co (some 5) (.assign (.tmp 8)) none] [0, 1, 5])
  (.seq (.reg [co (some 9) (.move (.tmp 1)) none,
      co (some 10) (.call { callee := (.value (.func 43)), args := #[(.tmp 9)], argTypes := #[3] }) none,
      co (some 6) (.assign (.tmp 10)) none] [0, 1, 5, 6])
  (.seq (.seq (.reg [co (some 11) (.move (.tmp 5)) none] [0, 1, 6, 11])
    (.cond (.tmp 11)
      (.seq (.seq (.reg [co (some 12) (.move (.tmp 6)) none] [12])
        (.cond (.tmp 12)
          (.seq (.reg [co (some 4) (.assign (.const (.int .i64 0))) none] [4])
          (.ret))
          (.skip)))
      (.keep [] (.seq (.reg [co (some 4) (.assign (.const (.int .i64 (-1)))) none] [4])
      (.ret))))
      (.skip)))
  (.keep [0, 1, 6] (.seq (.seq (.reg [co (some 13) (.move (.tmp 6)) none] [0, 1, 13])
    (.cond (.tmp 13)
      (.seq (.reg [co (some 4) (.assign (.const (.int .i64 1))) none] [4])
      (.ret))
      (.skip)))
  (.keep [0, 1] (.seq (.seq (.reg [co (some 14) (.move (.tmp 0)) none,
        co (some 15) (.move (.tmp 1)) none,
        co (some 16) (.binOp .lss 3 (.tmp 14) (.tmp 15) 3) none] [0, 1, 16])
    (.cond (.tmp 16)
      (.seq (.reg [co (some 4) (.assign (.const (.int .i64 (-1)))) none] [4])
      (.ret))
      (.skip)))
  (.keep [0, 1] (.seq (.seq (.reg [co (some 17) (.move (.tmp 0)) none,
        co (some 18) (.move (.tmp 1)) none,
        co (some 19) (.binOp .gtr 3 (.tmp 17) (.tmp 18) 3) none] [19])
    (.cond (.tmp 19)
      (.seq (.reg [co (some 4) (.assign (.const (.int .i64 1))) none] [4])
      (.ret))
      (.skip)))
  (.keep [] (.seq (.reg [co (some 4) (.assign (.const (.int .i64 0))) none] [4])
  (.ret))))))))))))
theorem t_cmp_Compare_int : Txt Try.prog 26 20 [(.tmp 4)] c_cmp_Compare_int := txt_of (code := Try.f26.body.getD .ret) mixed (by kernel_rfl) Try.func26 (by kernel_rfl) Try.ntmps26 (by kernel_rfl) (ls := [([0, 1], []), ([], []), ([0, 1, 5], []), ([], []), ([0, 1, 5, 6], []), ([], []), ([0, 1, 6, 11], []), ([], []), ([12], []), ([], []), ([4], []), ([], []), ([999999], []), ([4], []), ([], []), ([999999, 0, 1, 6], []), ([0, 1, 13], []), ([], []), ([4], []), ([], []), ([999999, 0, 1], []), ([0, 1, 16], []), ([], []), ([4], []), ([], []), ([999999, 0, 1], []), ([19], []), ([], []), ([4], []), ([], []), ([999999], []), ([4], []), ([], [])]) (by kernel_rfl)
def l1_cmp_Or_int : CC :=
  .seq (.reg [co (some 9) (.binOp .lss 3 (.tmp 8) (.tmp 7) 3) none] [3, 6, 7, 8, 9])
  (.seq (.cond (.tmp 9)
      (.skip)
      (.exit 0))
  (.keep [3, 6, 7, 8] (.seq (.block 1
      (.seq (.reg [co (some 10) (.indexAddr 32 (.tmp 6) (.tmp 8)) none,
          co (some 11) (.load 3 (.tmp 10)) none,
          co (some 5) (.assign (.tmp 11)) none] [3, 5, 6, 7, 8])
      (.seq (.reg [co (some 12) (.move (.tmp 5)) none,
          co (some 13) (.move (.tmp 3)) none,
          co (some 14) (.binOp .neq 3 (.tmp 12) (.tmp 13) 3) none] [3, 5, 6, 7, 8, 14])
      (.cond (.tmp 14)
        (.seq (.reg [co (some 15) (.move (.tmp 5)) none,
            co (some 2) (.assign (.tmp 15)) none] [2])
        (.ret))
        (.skip)))))
  (.keep [3, 6, 7, 8] (.reg [co (some 16) (.binOp .add 3 (.tmp 8) (.const (.int .i64 1)) 3) none,
    co (some 8) (.move (.tmp 16)) none] [3, 6, 7, 8])))))
/-- cmp.Or[int] -/
def c_cmp_Or_int : CC :=
  .seq (.reg [co (some 2) (.assign (.const (.int .i64 0))) none] [0])
  (.seq (.reg [co (some 3) (.assign (.const (.int .i64 0))) none] [0, 3])
  (.seq (.seq (.reg [co (some 6) (.move (.tmp 0)) none,
        co (some 7) (.call { callee := (.builtin .len), args := #[(.tmp 6)], argTypes := #[32] }) none,
        co (some 8) (.move (.const (.int .i64 0))) none] [3, 6, 7, 8])
    (.block 0
      (.loop l1_cmp_Or_int)))
  (.keep [3] (.seq (.reg [co (some 17) (.move (.tmp 3)) none,
      co (some 2) (.assign (.tmp 17)) none] [2])
  (.ret)))))
theorem t_cmp_Or_int : Txt Try.prog 123 18 [(.tmp 2)] c_cmp_Or_int := txt_of (code := Try.f123.body.getD .ret) mixed (by kernel_rfl) Try.func123 (by kernel_rfl) Try.ntmps123 (by kernel_rfl) (ls := [([0], []), ([], []), ([0, 3], []), ([], []), ([3, 6, 7, 8], []), ([], []), ([3, 6, 7, 8, 9], []), ([], []), ([999999, 3, 6, 7, 8], []), ([3, 5, 6, 7, 8], []), ([], []), ([3, 5, 6, 7, 8, 14], []), ([], []), ([2], []), ([], []), ([999999, 3, 6, 7, 8], []), ([3, 6, 7, 8], []), ([999999, 3], []), ([2], []), ([], [])]) (by kernel_rfl)
/-- (cento/pair.scored).ahead -/
def c_pair_scored_ahead : CC :=
  .seq (.reg [cn (some 2) (.box 57 (.tmp 0)) none [0],
      cn (some 3) (.box 57 (.tmp 1)) none [1],
      co (some 4) (.assign (.const (.bool false))) none] [2, 3])
  (.seq (.reg [co (some 5) (.fieldAddr 57 (.tmp 3) 1) none,
      co (some 6) (.load 3 (.tmp 5)) none,
      co (some 7) (.fieldAddr 57 (.tmp 2) 1) none,
      co (some 8) (.load 3 (.tmp 7)) none,
      ⟨some 9, (.call { callee := (.value (.func 26)), args := #[(.tmp 6), (.tmp 8)], argTypes := #[3, 3] }), none, [], 4, [], true⟩,
      co (some 10) (.fieldAddr 57 (.tmp 2) 0) none,
      co (some 11) (.fieldAddr 30 (.tmp 10) 0) none,
      ⟨some 12, (.load 3 (.tmp 11)), none, [], 7, [4], false⟩,
      co (some 13) (.fieldAddr 57 (.tmp 3) 0) none,
      co (some 14) (.fieldAddr 30 (.tmp 13) 0) none,
      ⟨some 15, (.load 3 (.tmp 14)), none, [], 10, [4], false⟩,
      ⟨some 16, (.call { callee := (.value (.func 26)), args := #[(.tmp 12), (.tmp 15)], argTypes := #[3, 3] }), none, [], 11, [], true⟩,
      co (some 17) (.fieldAddr 57 (.tmp 2) 0) none,
      co (some 18) (.fieldAddr 30 (.tmp 17) 1) none,
      ⟨some 19, (.load 3 (.tmp 18)), none, [], 14, [4, 11], false⟩,
      co (some 20) (.fieldAddr 57 (.tmp 3) 0) none,
      co (some 21) (.fieldAddr 30 (.tmp 20) 1) none,
      ⟨some 22, (.load 3 (.tmp 21)), none, [], 17, [4, 11], false⟩,
      co (some 23) (.call { callee := (.value (.func 26)), args := #[(.tmp 19), (.tmp 22)], argTypes := #[3, 3] }) none,
      co (some 24) (.buildSlice 32 3 #[(0, (.tmp 9)), (1, (.tmp 16)), (2, (.tmp 23))]) none,
      co (some 25) (.call { callee := (.value (.func 123)), args := #[(.tmp 24)], argTypes := #[32] }) none,
      co (some 26) (.binOp .lss 3 (.tmp 25) (.const (.int .i64 0)) 3) none,
      co (some 4) (.assign (.tmp 26)) none] [4])
  (.ret))
theorem t_pair_scored_ahead : Txt Try.prog 122 27 [(.tmp 4)] c_pair_scored_ahead := txt_of (code := Try.f122.body.getD .ret) mixed (by kernel_rfl) Try.func122 (by kernel_rfl) Try.ntmps122 (by kernel_rfl) (ls := [([2, 3], [(0, [0]), (1, [1])]), ([], []), ([4], []), ([], [])]) (by kernel_rfl)
/-- (*cento/pair.row).Push -/
def c_pair_row_Push : CC :=
  .reg [co (some 4) (.move (.tmp 0)) none,
    co (some 5) (.move (.tmp 0)) none,
    co (some 6) (.nilCheck (.tmp 5)) none,
    ⟨some 7, (.load 54 (.tmp 6)), none, [], 3, [], true⟩,
    co (some 8) (.move (.tmp 1)) none,
    co (some 9) (.typeAssert (.tmp 8) 20 57 false) none,
    ⟨some 10, (.buildSlice 54 1 #[(0, (.tmp 9))]), none, [], 6, [3], false⟩,
    cn (some 11) (.call { callee := (.builtin .append), args := #[(.tmp 7), (.tmp 10)], argTypes := #[54, 54] }) none [1],
    co (some 12) (.nilCheck (.tmp 4)) none,
    co none (.store 54 (.tmp 12) (.tmp 11)) none] []
theorem t_pair_row_Push : Txt Try.prog 120 13 [] c_pair_row_Push := txt_of (code := Try.f120.body.getD .ret) mixed (by kernel_rfl) Try.func120 (by kernel_rfl) Try.ntmps120 (by kernel_rfl) (ls := [([], [(7, [1])])]) (by kernel_rfl)
/-- (*cento/pair.row).Pop -/
def c_pair_row_Pop : CC :=
  .seq (.reg [co (some 2) (.assign (.const .nilIface)) none] [0])
  (.seq (.reg [co (some 5) (.move (.tmp 0)) none,
      co (some 6) (.nilCheck (.tmp 5)) none,
      co (some 7) (.load 54 (.tmp 6)) none,
      co (some 3) (.assign (.tmp 7)) none] [0, 3])
  (.seq (.reg [co (some 8) (.move (.tmp 3)) none,
      co (some 9) (.move (.tmp 3)) none,
      co (some 10) (.call { callee := (.builtin .len), args := #[(.tmp 9)], argTypes := #[54] }) none,
      co (some 11) (.binOp .sub 3 (.tmp 10) (.const (.int .i64 1)) 3) none,
      co (some 12) (.indexAddr 54 (.tmp 8) (.tmp 11)) none,
      co (some 13) (.load 57 (.tmp 12)) none,
      cn (some 4) (.alloc 57) none [1],
      co none (.store 57 (.tmp 4) (.tmp 13)) none] [0, 3, 4])
  (.seq (.reg [co (some 14) (.move (.tmp 0)) none,
      co (some 15) (.move (.tmp 3)) none,
      co (some 16) (.move (.tmp 3)) none,
      co (some 17) (.call { callee := (.builtin .len), args := #[(.tmp 16)], argTypes := #[54] }) none,
      co (some 18) (.binOp .sub 3 (.tmp 17) (.const (.int .i64 1)) 3) none,
      co (some 19) (.slice 54 (.tmp 15) none (some (.tmp 18)) none) none,
      co (some 20) (.nilCheck (.tmp 14)) none,
      co none (.store 54 (.tmp 20) (.tmp 19)) none] [4])
  (.seq (.reg [co (some 21) (.load 57 (.tmp 4)) none,
      co (some 22) (.makeInterface 57 (.tmp 21)) none,
      co (some 2) (.assign (.tmp 22)) none] [2])
  (.ret)))))
theorem t_pair_row_Pop : Txt Try.prog 119 23 [(.tmp 2)] c_pair_row_Pop := txt_of (code := Try.f119.body.getD .ret) mixed (by kernel_rfl) Try.func119 (by kernel_rfl) Try.ntmps119 (by kernel_rfl) (ls := [([0], []), ([], []), ([0, 3], []), ([], []), ([0, 3, 4], [(6, [1])]), ([], []), ([4], []), ([], []), ([2], []), ([], [])]) (by kernel_rfl)
/-- (cento/pair.row).Len -/
def c_pair_row_Len : CC :=
  .seq (.reg [co (some 2) (.assign (.const (.int .i64 0))) none] [0])
  (.seq (.reg [co (some 3) (.move (.tmp 0)) none,
      co (some 4) (.call { callee := (.builtin .len), args := #[(.tmp 3)], argTypes := #[54] }) none,
      co (some 2) (.assign (.tmp 4)) none] [2])
  (.ret))
theorem t_pair_row_Len : Txt Try.prog 20 5 [(.tmp 2)] c_pair_row_Len := txt_of (code := Try.f20.body.getD .ret) mixed (by kernel_rfl) Try.func20 (by kernel_rfl) Try.ntmps20 (by kernel_rfl) (ls := [([0], []), ([], []), ([2], []), ([], [])]) (by kernel_rfl)
/-- (cento/pair.row).Less -/
def c_pair_row_Less : CC :=
  .seq (.reg [co (some 6) (.assign (.const (.bool false))) none] [0, 1, 2])
  (.seq (.reg [co (some 7) (.move (.tmp 0)) none,
      co (some 8) (.move (.tmp 1)) none,
      co (some 9) (.indexAddr 54 (.tmp 7) (.tmp 8)) none,
      co (some 10) (.load 57 (.tmp 9)) none,
      co (some 11) (.move (.tmp 0)) none,
      co (some 12) (.move (.tmp 2)) none,
      co (some 13) (.indexAddr 54 (.tmp 11) (.tmp 12)) none,
      co (some 14) (.load 57 (.tmp 13)) none,
      co (some 15) (.call { callee := (.value (.func 122)), args := #[(.tmp 10), (.tmp 14)], argTypes := #[57, 57] }) none,
      co (some 6) (.assign (.tmp 15)) none] [6])
  (.ret))
theorem t_pair_row_Less : Txt Try.prog 118 16 [(.tmp 6)] c_pair_row_Less := txt_of (code := Try.f118.body.getD .ret) mixed (by kernel_rfl) Try.func118 (by kernel_rfl) Try.ntmps118 (by kernel_rfl) (ls := [([0, 1, 2], []), ([], []), ([6], []), ([], [])]) (by kernel_rfl)
/-- (cento/pair.row).Swap -/
def c_pair_row_Swap : CC :=
  .reg [co (some 6) (.move (.tmp 0)) none,
    co (some 7) (.move (.tmp 1)) none,
    co (some 8) (.move (.tmp 0)) none,
    co (some 9) (.move (.tmp 2)) none,
    co (some 10) (.move (.tmp 0)) none,
    co (some 11) (.move (.tmp 2)) none,
    co (some 12) (.indexAddr 54 (.tmp 10) (.tmp 11)) none,
    co (some 13) (.load 57 (.tmp 12)) none,
    co (some 14) (.move (.tmp 0)) none,
    co (some 15) (.move (.tmp 1)) none,
    co (some 16) (.indexAddr 54 (.tmp 14) (.tmp 15)) none,
    co (some 17) (.load 57 (.tmp 16)) none,
    co (some 18) (.indexAddr 54 (.tmp 6) (.tmp 7)) none,
    co none (.store 57 (.tmp 18) (.tmp 13)) none,
    co (some 19) (.indexAddr 54 (.tmp 8) (.tmp 9)) none,
    co none (.store 57 (.tmp 19) (.tmp 17)) none] []
theorem t_pair_row_Swap : Txt Try.prog 121 20 [] c_pair_row_Swap := txt_of (code := Try.f121.body.getD .ret) mixed (by kernel_rfl) Try.func121 (by kernel_rfl) Try.ntmps121 (by kernel_rfl) (ls := [([], [])]) (by kernel_rfl)
def l1_container_heap_up : CC :=
  .block 1
    (.seq (.reg [co (some 5) (.move (.tmp 1)) none,
        co (some 6) (.binOp .sub 3 (.tmp 5) (.const (.int .i64 1)) 3) none,
        co (some 7) (.binOp .quo 3 (.tmp 6) (.const (.int .i64 2)) 3) none,
        co (some 4) (.assign (.tmp 7)) none] [0, 1, 4])
    (.seq (.seq (.reg [co (some 8) (.move (.tmp 4)) none,
          co (some 9) (.move (.tmp 1)) none,
          co (some 10) (.binOp .eql 3 (.tmp 8) (.tmp 9) 3) none,
          co (some 11) (.move (.tmp 10)) none,
          co (some 12) (.move (.tmp 0)) (some (11, false)),
          co (some 13) (.move (.tmp 1)) (some (11, false)),
          co (some 14) (.move (.tmp 4)) (some (11, false)),
          co (some 15) (.call { callee := (.invoke (.tmp 12) "Less"), args := #[(.tmp 13), (.tmp 14)], argTypes := #[3, 3] }) (some (11, false)),
          co (some 16) (.unOp .not 4 (.tmp 15)) (some (11, false)),
          co (some 17) (.pick (.tmp 11) (.const (.bool true)) (.tmp 16)) none] [0, 1, 4, 17])
      (.cond (.tmp 17)
        (.exit 0)
        (.skip)))
    (.keep [0, 1, 4] (.seq (.reg [co (some 18) (.move (.tmp 0)) none,
        co (some 19) (.move (.tmp 4)) none,
        co (some 20) (.move (.tmp 1)) none,
        co (some 21) (.call { callee := (.invoke (.tmp 18) "Swap"), args := #[(.tmp 19), (.tmp 20)], argTypes := #[3, 3] }) none] [0, 4])
    (.reg [co (some 22) (.move (.tmp 4)) none,
      co (some 1) (.assign (.tmp 22)) none] [0, 1])))))
/-- container/heap.up -/
def c_container_heap_up : CC :=
  .block 0
    (.loop l1_container_heap_up)
theorem t_container_heap_up : Txt Try.prog 38 23 [] c_container_heap_up := txt_of (code := Try.f38.body.getD .ret) mixed (by kernel_rfl) Try.func38 (by kernel_rfl) Try.ntmps38 (by kernel_rfl) (ls := [([0, 1, 4], []), ([], []), ([0, 1, 4, 17], []), ([], []), ([999999, 0, 1, 4], []), ([0, 4], []), ([], []), ([0, 1], [])]) (by kernel_rfl)
def k1_container_heap_down : CC :=
  .seq (.seq (.reg [co (some 35) (.move (.tmp 0)) none,
        co (some 36) (.move (.tmp 9)) none,
        co (some 37) (.move (.tmp 7)) none,
        co (some 38) (.call { callee := (.invoke (.tmp 35) "Less"), args := #[(.tmp 36), (.tmp 37)], argTypes := #[3, 3] }) none,
        co (some 39) (.unOp .not 4 (.tmp 38)) none] [0, 1, 2, 7, 9, 39])
    (.cond (.tmp 39)
      (.exit 0)
      (.skip)))
  (.keep [0, 1, 2, 7, 9] (.seq (.reg [co (some 40) (.move (.tmp 0)) none,
      co (some 41) (.move (.tmp 7)) none,
      co (some 42) (.move (.tmp 9)) none,
      co (some 43) (.call { callee := (.invoke (.tmp 40) "Swap"), args := #[(.tmp 41), (.tmp 42)], argTypes := #[3, 3] }) none] [0, 1, 2, 9])
  (.reg [co (some 44) (.move (.tmp 9)) none,
    co (some 7) (.assign (.tmp 44)) none] [0, 1, 2, 7])))
def l1_container_heap_down : CC :=
  .block 1
    (.seq (.reg [co (some 12) (.move (.tmp 7)) none,
        co (some 13) (.binOp .mul 3 (.const (.int .i64 2)) (.tmp 12) 3) none,
        co (some 14) (.binOp .add 3 (.tmp 13) (.const (.int .i64 1)) 3) none,
        co (some 8) (.assign (.tmp 14)) none] [0, 1, 2, 7, 8])
    (.seq (.seq (.reg [co (some 15) (.move (.tmp 8)) none,
          co (some 16) (.move (.tmp 2)) none,
          co (some 17) (.binOp .geq 3 (.tmp 15) (.tmp 16) 3) none,
          co (some 18) (.move (.tmp 17)) none,
          co (some 19) (.move (.tmp 8)) (some (18, false)),
          co (some 20) (.binOp .lss 3 (.tmp 19) (.const (.int .i64 0)) 3) (some (18, false)),
          co (some 21) (.pick (.tmp 18) (.const (.bool true)) (.tmp 20)) none] [0, 1, 2, 7, 8, 21])
      (.cond (.tmp 21)
        (.exit 0)
        (.skip)))
    (.keep [0, 1, 2, 7, 8] (.seq (.reg [co (some 22) (.move (.tmp 8)) none,
        co (some 9) (.assign (.tmp 22)) none] [0, 1, 2, 7, 8, 9])
    (.seq (.seq (.reg [co (some 23) (.move (.tmp 8)) none,
          co (some 24) (.binOp .add 3 (.tmp 23) (.const (.int .i64 1)) 3) none,
          co (some 10) (.assign (.tmp 24)) none] [0, 1, 2, 7, 8, 9, 10])
      (.seq (.reg [co (some 25) (.move (.tmp 10)) none,
          co (some 26) (.move (.tmp 2)) none,
          co (some 27) (.binOp .lss 3 (.tmp 25) (.tmp 26) 3) none,
          co (some 28) (.move (.tmp 27)) none,
          co (some 29) (.move (.tmp 0)) (some (28, true)),
          co (some 30) (.move (.tmp 10)) (some (28, true)),
          co (some 31) (.move (.tmp 8)) (some (28, true)),
          co (some 32) (.call { callee := (.invoke (.tmp 29) "Less"), args := #[(.tmp 30), (.tmp 31)], argTypes := #[3, 3] }) (some (28, true)),
          co (some 33) (.pick (.tmp 28) (.tmp 32) (.const (.bool false))) none] [0, 1, 2, 7, 9, 10, 33])
      (.cond (.tmp 33)
        (.reg [co (some 34) (.move (.tmp 10)) none,
          co (some 9) (.assign (.tmp 34)) none] [0, 1, 2, 7, 9])
        (.skip))))
    (.keep [0, 1, 2, 7, 9] k1_container_heap_down))))))
/-- container/heap.down -/
def c_container_heap_down : CC :=
  .seq (.reg [co (some 6) (.assign (.const (.bool false))) none] [0, 1, 2])
  (.seq (.reg [co (some 11) (.move (.tmp 1)) none,
      co (some 7) (.assign (.tmp 11)) none] [0, 1, 2, 7])
  (.seq (.block 0
      (.loop l1_container_heap_down))
  (.keep [1, 7] (.seq (.reg [co (some 45) (.move (.tmp 7)) none,
      co (some 46) (.move (.tmp 1)) none,
      co (some 47) (.binOp .gtr 3 (.tmp 45) (.tmp 46) 3) none,
      co (some 6) (.assign (.tmp 47)) none] [6])
  (.ret)))))
theorem t_container_heap_down : Txt Try.prog 39 48 [(.tmp 6)] c_container_heap_down := txt_of (code := Try.f39.body.getD .ret) mixed (by kernel_rfl) Try.func39 (by kernel_rfl) Try.ntmps39 (by kernel_rfl) (ls := [([0, 1, 2], []), ([], []), ([0, 1, 2, 7], []), ([], []), ([0, 1, 2, 7, 8], []), ([], []), ([0, 1, 2, 7, 8, 21], []), ([], []), ([999999, 0, 1, 2, 7, 8], []), ([0, 1, 2, 7, 8, 9], []), ([], []), ([0, 1, 2, 7, 8, 9, 10], []), ([], []), ([0, 1, 2, 7, 9, 10, 33], []), ([], []), ([0, 1, 2, 7, 9], []), ([999999, 0, 1, 2, 7, 9], []), ([0, 1, 2, 7, 9, 39], []), ([], []), ([999999, 0, 1, 2, 7, 9], []), ([0, 1, 2, 9], []), ([], []), ([0, 1, 2, 7], []), ([999999, 1, 7], []), ([6], []), ([], [])]) (by kernel_rfl)
/-- container/heap.Push -/
def c_container_heap_Push : CC :=
  .seq (.reg [co (some 4) (.move (.tmp 0)) none,
      co (some 5) (.move (.tmp 1)) none,
      co (some 6) (.call { callee := (.invoke (.tmp 4) "Push"), args := #[(.tmp 5)], argTypes := #[20] }) none] [0])
  (.reg [co (some 7) (.move (.tmp 0)) none,
    co (some 8) (.move (.tmp 0)) none,
    co (some 9) (.call { callee := (.invoke (.tmp 8) "Len"), args := #[], argTypes := #[] }) none,
    co (some 10) (.binOp .sub 3 (.tmp 9) (.const (.int .i64 1)) 3) none,
    co (some 11) (.call { callee := (.value (.func 38)), args := #[(.tmp 7), (.tmp 10)], argTypes := #[77, 3] }) none] [])
theorem t_container_heap_Push : Txt Try.prog 19 12 [] c_container_heap_Push := txt_of (code := Try.f19.body.getD .ret) mixed (by kernel_rfl) Try.func19 (by kernel_rfl) Try.ntmps19 (by kernel_rfl) (ls := [([0], []), ([], []), ([], [])]) (by kernel_rfl)
/-- container/heap.Pop -/
def c_container_heap_Pop : CC :=
  .seq (.reg [co (some 2) (.assign (.const .nilIface)) none] [0])
  (.seq (.reg [co (some 4) (.move (.tmp 0)) none,
      co (some 5) (.call { callee := (.invoke (.tmp 4) "Len"), args := #[], argTypes := #[] }) none,
      co (some 6) (.binOp .sub 3 (.tmp 5) (.const (.int .i64 1)) 3) none,
      co (some 3) (.assign (.tmp 6)) none] [0, 3])
  (.seq (.reg [co (some 7) (.move (.tmp 0)) none,
      co (some 8) (.move (.tmp 3)) none,
      co (some 9) (.call { callee := (.invoke (.tmp 7) "Swap"), args := #[(.const (.int .i64 0)), (.tmp 8)], argTypes := #[3, 3] }) none] [0, 3])
  (.seq (.reg [co (some 10) (.move (.tmp 0)) none,
      co (some 11) (.move (.tmp 3)) none,
      co (some 12) (.call { callee := (.value (.func 39)), args := #[(.tmp 10), (.const (.int .i64 0)), (.tmp 11)], argTypes := #[77, 3, 3] }) none] [0])
  (.seq (.reg [co (some 13) (.move (.tmp 0)) none,
      co (some 14) (.call { callee := (.invoke (.tmp 13) "Pop"), args := #[], argTypes := #[] }) none,
      co (some 2) (.assign (.tmp 14)) none] [2])
  (.ret)))))
theorem t_container_heap_Pop : Txt Try.prog 21 15 [(.tmp 2)] c_container_heap_Pop := txt_of (code := Try.f21.body.getD .ret) mixed (by kernel_rfl) Try.func21 (by kernel_rfl) Try.ntmps21 (by kernel_rfl) (ls := [([0], []), ([], []), ([0, 3], []), ([], []), ([0, 3], []), ([], []), ([0], []), ([], []), ([2], []), ([], [])]) (by kernel_rfl)
/-- (cento/pair.Pair).crosses -/
def c_pair_Pair_crosses : CC :=
  .seq (.reg [cn (some 2) (.box 30 (.tmp 0)) none [0],
      cn (some 3) (.box 30 (.tmp 1)) none [1],
      co (some 4) (.assign (.const (.bool false))) none] [2, 3])
  (.seq (.reg [co (some 5) (.fieldAddr 30 (.tmp 2) 0) none,
      co (some 6) (.load 3 (.tmp 5)) none,
      co (some 7) (.fieldAddr 30 (.tmp 3) 0) none,
      co (some 8) (.load 3 (.tmp 7)) none,
      co (some 9) (.binOp .lss 3 (.tmp 6) (.tmp 8) 3) none,
      co (some 10) (.move (.tmp 9)) none,
      co (some 11) (.fieldAddr 30 (.tmp 2) 1) (some (10, true)),
      co (some 12) (.load 3 (.tmp 11)) (some (10, true)),
      co (some 13) (.fieldAddr 30 (.tmp 3) 1) (some (10, true)),
      co (some 14) (.load 3 (.tmp 13)) (some (10, true)),
      co (some 15) (.binOp .lss 3 (.tmp 12) (.tmp 14) 3) (some (10, true)),
      co (some 16) (.pick (.tmp 10) (.tmp 15) (.const (.bool false))) none,
      co (some 17) (.move (.tmp 16)) none,
      co (some 18) (.fieldAddr 30 (.tmp 2) 0) (some (17, false)),
      co (some 19) (.load 3 (.tmp 18)) (some (17, false)),
      co (some 20) (.fieldAddr 30 (.tmp 3) 0) (some (17, false)),
      co (some 21) (.load 3 (.tmp 20)) (some (17, false)),
      co (some 22) (.binOp .gtr 3 (.tmp 19) (.tmp 21) 3) (some (17, false)),
      co (some 23) (.move (.tmp 22)) (some (17, false)),
      co (some 24) (.fieldAddr 30 (.tmp 2) 1) (some (23, true)),
      co (some 25) (.load 3 (.tmp 24)) (some (23, true)),
      co (some 26) (.fieldAddr 30 (.tmp 3) 1) (some (23, true)),
      co (some 27) (.load 3 (.tmp 26)) (some (23, true)),
      co (some 28) (.binOp .gtr 3 (.tmp 25) (.tmp 27) 3) (some (23, true)),
      co (some 29) (.pick (.tmp 23) (.tmp 28) (.const (.bool false))) (some (17, false)),
      co (some 30) (.pick (.tmp 17) (.const (.bool true)) (.tmp 29)) none,
      co (some 31) (.unOp .not 4 (.tmp 30)) none,
      co (some 4) (.assign (.tmp 31)) none] [4])
  (.ret))
theorem t_pair_Pair_crosses : Txt Try.prog 23 32 [(.tmp 4)] c_pair_Pair_crosses := txt_of (code := Try.f23.body.getD .ret) mixed (by kernel_rfl) Try.func23 (by kernel_rfl) Try.ntmps23 (by kernel_rfl) (ls := [([2, 3], [(0, [0]), (1, [1])]), ([], []), ([4], []), ([], [])]) (by kernel_rfl)
def l1_slices_IndexFunc_pair_Pair_pair_Pair : CC :=
  .seq (.reg [co (some 9) (.binOp .lss 3 (.tmp 8) (.tmp 7) 3) none] [0, 1, 7, 8, 9])
  (.seq (.cond (.tmp 9)
      (.skip)
      (.exit 0))
  (.keep [0, 1, 7, 8] (.seq (.block 1
      (.seq (.reg [co (some 10) (.move (.tmp 8)) none,
          co (some 5) (.assign (.tmp 10)) none] [0, 1, 5, 7, 8])
      (.seq (.reg [co (some 11) (.move (.tmp 1)) none,
          co (some 12) (.move (.tmp 0)) none,
          co (some 13) (.move (.tmp 5)) none,
          co (some 14) (.indexAddr 25 (.tmp 12) (.tmp 13)) none,
          co (some 15) (.load 30 (.tmp 14)) none,
          co (some 16) (.call { callee := (.value (.tmp 11)), args := #[(.tmp 15)], argTypes := #[30] }) none] [0, 1, 5, 7, 8, 16])
      (.cond (.tmp 16)
        (.seq (.reg [co (some 17) (.move (.tmp 5)) none,
            co (some 4) (.assign (.tmp 17)) none] [4])
        (.ret))
        (.skip)))))
  (.keep [0, 1, 7, 8] (.reg [co (some 18) (.binOp .add 3 (.tmp 8) (.const (.int .i64 1)) 3) none,
    co (some 8) (.move (.tmp 18)) none] [0, 1, 7, 8])))))
/-- slices.IndexFunc[[]cento/pair.Pair,cento/pair.Pair] -/
def c_slices_IndexFunc_pair_Pair_pair_Pair : CC :=
  .seq (.reg [co (some 4) (.assign (.const (.int .i64 0))) none] [0, 1])
  (.seq (.seq (.reg [co (some 6) (.move (.tmp 0)) none,
        co (some 7) (.call { callee := (.builtin .len), args := #[(.tmp 6)], argTypes := #[25] }) none,
        co (some 8) (.move (.const (.int .i64 0))) none] [0, 1, 7, 8])
    (.block 0
      (.loop l1_slices_IndexFunc_pair_Pair_pair_Pair)))
  (.keep [] (.seq (.reg [co (some 4) (.assign (.const (.int .i64 (-1)))) none] [4])
  (.ret))))
theorem t_slices_IndexFunc_pair_Pair_pair_Pair : Txt Try.prog 40 19 [(.tmp 4)] c_slices_IndexFunc_pair_Pair_pair_Pair := txt_of (code := Try.f40.body.getD .ret) mixed (by kernel_rfl) Try.func40 (by kernel_rfl) Try.ntmps40 (by kernel_rfl) (ls := [([0, 1], []), ([], []), ([0, 1, 7, 8], []), ([], []), ([0, 1, 7, 8, 9], []), ([], []), ([999999, 0, 1, 7, 8], []), ([0, 1, 5, 7, 8], []), ([], []), ([0, 1, 5, 7, 8, 16], []), ([], []), ([4], []), ([], []), ([999999, 0, 1, 7, 8], []), ([0, 1, 7, 8], []), ([999999], []), ([4], []), ([], [])]) (by kernel_rfl)
/-- slices.ContainsFunc[[]cento/pair.Pair,cento/pair.Pair] -/
def c_slices_ContainsFunc_pair_Pair_pair_Pair : CC :=
  .seq (.reg [co (some 4) (.assign (.const (.bool false))) none] [0, 1])
  (.seq (.reg [co (some 5) (.move (.tmp 0)) none,
      co (some 6) (.move (.tmp 1)) none,
      co (some 7) (.call { callee := (.value (.func 40)), args := #[(.tmp 5), (.tmp 6)], argTypes := #[25, 61] }) none,
      co (some 8) (.binOp .geq 3 (.tmp 7) (.const (.int .i64 0)) 3) none,
      co (some 4) (.assign (.tmp 8)) none] [4])
  (.ret))
theorem t_slices_ContainsFunc_pair_Pair_pair_Pair : Txt Try.prog 22 9 [(.tmp 4)] c_slices_ContainsFunc_pair_Pair_pair_Pair := txt_of (code := Try.f22.body.getD .ret) mixed (by kernel_rfl) Try.func22 (by kernel_rfl) Try.ntmps22 (by kernel_rfl) (ls := [([0, 1], []), ([], []), ([4], []), ([], [])]) (by kernel_rfl)
/-- cento/pair.Pick$1 -/
def c_pair_Pick_1 : CC :=
  .seq (.reg [cn (some 2) (.box 30 (.tmp 0)) none [0],
      cn (some 3) (.box 30 (.tmp 1)) none [1],
      co (some 4) (.assign (.const (.int .i64 0))) none] [2, 3])
  (.seq (.reg [co (some 5) (.fieldAddr 30 (.tmp 2) 0) none,
      co (some 6) (.load 3 (.tmp 5)) none,
      co (some 7) (.fieldAddr 30 (.tmp 3) 0) none,
      co (some 8) (.load 3 (.tmp 7)) none,
      co (some 9) (.call { callee := (.value (.func 26)), args := #[(.tmp 6), (.tmp 8)], argTypes := #[3, 3] }) none,
      co (some 4) (.assign (.tmp 9)) none] [4])
  (.ret))
theorem t_pair_Pick_1 : Txt Try.prog 25 10 [(.tmp 4)] c_pair_Pick_1 := txt_of (code := Try.f25.body.getD .ret) mixed (by kernel_rfl) Try.func25 (by kernel_rfl) Try.ntmps25 (by kernel_rfl) (ls := [([2, 3], [(0, [0]), (1, [1])]), ([], []), ([4], []), ([], [])]) (by kernel_rfl)
def l1_pair_Pick : CC :=
  .seq (.reg [co (some 22) (.binOp .lss 3 (.tmp 21) (.tmp 20) 3) none] [3, 4, 12, 13, 14, 19, 20, 21, 22])
  (.seq (.cond (.tmp 22)
      (.skip)
      (.exit 2))
  (.keep [3, 4, 12, 13, 14, 19, 20, 21] (.seq (.block 3
      (.seq (.reg [co (some 23) (.move (.tmp 21)) none,
          co (some 24) (.indexAddr 32 (.tmp 19) (.tmp 21)) none,
          co (some 25) (.load 3 (.tmp 24)) none,
          co (some 6) (.assign (.tmp 23)) none,
          co (some 7) (.assign (.tmp 25)) none] [3, 4, 6, 7, 12, 13, 14, 19, 20, 21])
      (.seq (.reg [co (some 26) (.move (.tmp 7)) none,
          co (some 27) (.binOp .gtr 3 (.tmp 26) (.const (.int .i64 0)) 3) none,
          co (some 28) (.move (.tmp 27)) none,
          co (some 29) (.move (.tmp 4)) (some (28, true)),
          co (some 30) (.binOp .lss 3 (.tmp 29) (.const (.int .i64 16)) 3) (some (28, true)),
          co (some 31) (.pick (.tmp 28) (.tmp 30) (.const (.bool false))) none,
          co (some 32) (.move (.tmp 31)) none,
          co (some 33) (.move (.tmp 6)) (some (32, true)),
          co (some 34) (.binOp .lss 3 (.tmp 33) (.const (.int .i64 16)) 3) (some (32, true)),
          co (some 35) (.pick (.tmp 32) (.tmp 34) (.const (.bool false))) none] [3, 4, 6, 7, 12, 13, 14, 19, 20, 21, 35])
      (.cond (.tmp 35)
        (.reg [co (some 36) (.move (.tmp 3)) none,
          co (some 37) (.makeInterface 52 (.tmp 36)) none,
          co (some 38) (.move (.tmp 4)) none,
          co (some 39) (.move (.tmp 6)) none,
          co (some 40) (.build 30 #[(0, (.tmp 38)), (1, (.tmp 39))]) none,
          co (some 41) (.move (.tmp 7)) none,
          co (some 42) (.build 57 #[(0, (.tmp 40)), (1, (.tmp 41))]) none,
          co (some 43) (.makeInterface 57 (.tmp 42)) none,
          co (some 44) (.call { callee := (.value (.func 19)), args := #[(.tmp 37), (.tmp 43)], argTypes := #[77, 20] }) none] [3, 4, 12, 13, 14, 19, 20, 21])
        (.skip)))))
  (.keep [3, 4, 12, 13, 14, 19, 20, 21] (.reg [co (some 45) (.binOp .add 3 (.tmp 21) (.const (.int .i64 1)) 3) none,
    co (some 21) (.move (.tmp 45)) none] [3, 4, 12, 13, 14, 19, 20, 21])))))
def l2_pair_Pick : CC :=
  .seq (.reg [co (some 15) (.binOp .lss 3 (.tmp 14) (.tmp 13) 3) none] [3, 12, 13, 14, 15])
  (.seq (.cond (.tmp 15)
      (.skip)
      (.exit 0))
  (.keep [3, 12, 13, 14] (.seq (.block 1
      (.seq (.reg [co (some 16) (.move (.tmp 14)) none,
          co (some 17) (.indexAddr 22 (.tmp 12) (.tmp 14)) none,
          co (some 18) (.load 32 (.tmp 17)) none,
          co (some 4) (.assign (.tmp 16)) none,
          co (some 5) (.assign (.tmp 18)) none] [3, 4, 5, 12, 13, 14])
      (.seq (.reg [co (some 19) (.move (.tmp 5)) none,
          co (some 20) (.call { callee := (.builtin .len), args := #[(.tmp 19)], argTypes := #[32] }) none,
          co (some 21) (.move (.const (.int .i64 0))) none] [3, 4, 12, 13, 14, 19, 20, 21])
      (.block 2
        (.loop l1_pair_Pick)))))
  (.keep [3, 12, 13, 14] (.reg [co (some 46) (.binOp .add 3 (.tmp 14) (.const (.int .i64 1)) 3) none,
    co (some 14) (.move (.tmp 46)) none] [3, 12, 13, 14])))))
def l3_pair_Pick : CC :=
  .seq (.seq (.reg [co (some 47) (.move (.tmp 3)) none,
        co (some 48) (.nilCheck (.tmp 47)) none,
        co (some 49) (.load 54 (.tmp 48)) none,
        co (some 50) (.call { callee := (.value (.func 20)), args := #[(.tmp 49)], argTypes := #[52] }) none,
        co (some 51) (.binOp .gtr 3 (.tmp 50) (.const (.int .i64 0)) 3) none] [3, 8, 51])
    (.cond (.tmp 51)
      (.skip)
      (.exit 4)))
  (.keep [3, 8] (.block 5
    (.seq (.reg [co (some 52) (.move (.tmp 3)) none,
        co (some 53) (.makeInterface 52 (.tmp 52)) none,
        co (some 54) (.call { callee := (.value (.func 21)), args := #[(.tmp 53)], argTypes := #[77] }) none,
        co (some 55) (.typeAssert (.tmp 54) 20 57 false) none,
        cn (some 9) (.alloc 57) none [1],
        co none (.store 57 (.tmp 9) (.tmp 55)) none] [3, 8, 9])
    (.seq (.reg [co (some 56) (.move (.tmp 8)) none,
        co (some 57) (.fieldAddr 57 (.tmp 9) 0) none,
        co (some 58) (.load 30 (.tmp 57)) none,
        co (some 59) (.makeFunc (.func 23) #[(.tmp 58)] #[]) none,
        co (some 60) (.call { callee := (.value (.func 22)), args := #[(.tmp 56), (.tmp 59)], argTypes := #[25, 61] }) none,
        co (some 61) (.unOp .not 4 (.tmp 60)) none] [3, 8, 9, 61])
    (.cond (.tmp 61)
      (.reg [co (some 62) (.move (.tmp 8)) none,
        co (some 63) (.fieldAddr 57 (.tmp 9) 0) none,
        co (some 64) (.load 30 (.tmp 63)) none,
        co (some 65) (.buildSlice 25 1 #[(0, (.tmp 64))]) none,
        cn (some 66) (.call { callee := (.builtin .append), args := #[(.tmp 62), (.tmp 65)], argTypes := #[25, 25] }) none [2],
        co (some 8) (.assign (.tmp 66)) none] [3, 8])
      (.skip))))))
/-- cento/pair.Pick -/
def c_pair_Pick : CC :=
  .seq (.reg [co (some 2) (.assign (.const (.slice none 0 0))) none] [0])
  (.seq (.reg [co (some 10) (.buildSlice 54 0 #[]) none,
      cn (some 11) (.box 54 (.tmp 10)) none [0],
      co (some 3) (.assign (.tmp 11)) none] [0, 3])
  (.seq (.seq (.reg [co (some 12) (.move (.tmp 0)) none,
        co (some 13) (.call { callee := (.builtin .len), args := #[(.tmp 12)], argTypes := #[22] }) none,
        co (some 14) (.move (.const (.int .i64 0))) none] [3, 12, 13, 14])
    (.block 0
      (.loop l2_pair_Pick)))
  (.keep [3] (.seq (.reg [co (some 8) (.assign (.const (.slice none 0 0))) none] [3, 8])
  (.seq (.block 4
      (.loop l3_pair_Pick))
  (.keep [8] (.seq (.reg [co (some 67) (.move (.tmp 8)) none,
      co (some 68) (.call { callee := (.value (.func 24)), args := #[(.tmp 67), (.func 25)], argTypes := #[25, 64] }) none] [8])
  (.seq (.reg [co (some 69) (.move (.tmp 8)) none,
      co (some 2) (.assign (.tmp 69)) none] [2])
  (.ret)))))))))
theorem t_pair_Pick : Txt Try.prog 9 70 [(.tmp 2)] c_pair_Pick := txt_of (code := Try.f9.body.getD .ret) mixed (by kernel_rfl) Try.func9 (by kernel_rfl) Try.ntmps9 (by kernel_rfl) (ls := [([0], []), ([], []), ([0, 3], [(1, [0])]), ([], []), ([3, 12, 13, 14], []), ([], []), ([3, 12, 13, 14, 15], []), ([], []), ([999999, 3, 12, 13, 14], []), ([3, 4, 5, 12, 13, 14], []), ([], []), ([3, 4, 12, 13, 14, 19, 20, 21], []), ([], []), ([3, 4, 12, 13, 14, 19, 20, 21, 22], []), ([], []), ([999999, 3, 4, 12, 13, 14, 19, 20, 21], []), ([3, 4, 6, 7, 12, 13, 14, 19, 20, 21], []), ([], []), ([3, 4, 6, 7, 12, 13, 14, 19, 20, 21, 35], []), ([], []), ([3, 4, 12, 13, 14, 19, 20, 21], []), ([999999, 3, 4, 12, 13, 14, 19, 20, 21], []), ([3, 4, 12, 13, 14, 19, 20, 21], []), ([999999, 3, 12, 13, 14], []), ([3, 12, 13, 14], []), ([999999, 3], []), ([3, 8], []), ([], []), ([3, 8, 51], []), ([], []), ([999999, 3, 8], []), ([3, 8, 9], [(4, [1])]), ([], []), ([3, 8, 9, 61], []), ([], []), ([3, 8], [(4, [2])]), ([999999, 8], []), ([8], []), ([], []), ([2], []), ([], [])]) (by kernel_rfl)
def l1_pair_Score : CC :=
  .seq (.reg [co (some 31) (.binOp .lss 3 (.tmp 30) (.tmp 29) 3) none] [2, 3, 5, 29, 30, 31])
  (.seq (.cond (.tmp 31)
      (.skip)
      (.exit 0))
  (.keep [2, 3, 5, 29, 30] (.seq (.block 1
      (.seq (.reg [co (some 32) (.move (.tmp 30)) none,
          co (some 6) (.assign (.tmp 32)) none] [2, 3, 5, 6, 29, 30])
      (.seq (.reg [co (some 33) (.fieldAddr 36 (.tmp 2) 1) none,
          co (some 34) (.load 33 (.tmp 33)) none,
          co (some 35) (.move (.tmp 6)) none,
          co (some 36) (.indexAddr 33 (.tmp 34) (.tmp 35)) none,
          co (some 37) (.load 68 (.tmp 36)) none,
          co (some 38) (.fieldAddr 36 (.tmp 3) 1) none,
          co (some 39) (.load 33 (.tmp 38)) none,
          co (some 40) (.move (.tmp 6)) none,
          co (some 41) (.indexAddr 33 (.tmp 39) (.tmp 40)) none,
          co (some 42) (.load 68 (.tmp 41)) none,
          co (some 43) (.binOp .eql 68 (.tmp 37) (.tmp 42) 68) none] [2, 3, 5, 29, 30, 43])
      (.cond (.tmp 43)
        (.reg [co (some 44) (.move (.tmp 5)) none,
          co (some 45) (.binOp .add 3 (.tmp 44) (.const (.int .i64 1)) 3) none,
          co (some 5) (.assign (.tmp 45)) none] [2, 3, 5, 29, 30])
        (.skip)))))
  (.keep [2, 3, 5, 29, 30] (.reg [co (some 46) (.binOp .add 3 (.tmp 30) (.const (.int .i64 1)) 3) none,
    co (some 30) (.move (.tmp 46)) none] [2, 3, 5, 29, 30])))))
def l2_pair_Score : CC :=
  .seq (.reg [co (some 55) (.binOp .lss 3 (.tmp 54) (.tmp 53) 3) none] [2, 3, 5, 53, 54, 55])
  (.seq (.cond (.tmp 55)
      (.skip)
      (.exit 2))
  (.keep [2, 3, 5, 53, 54] (.seq (.block 3
      (.seq (.reg [co (some 56) (.move (.tmp 54)) none,
          co (some 7) (.assign (.tmp 56)) none] [2, 3, 5, 7, 53, 54])
      (.seq (.reg [co (some 57) (.fieldAddr 36 (.tmp 2) 2) none,
          co (some 58) (.load 34 (.tmp 57)) none,
          co (some 59) (.move (.tmp 7)) none,
          co (some 60) (.indexAddr 34 (.tmp 58) (.tmp 59)) none,
          co (some 61) (.load 36 (.tmp 60)) none,
          co (some 62) (.fieldAddr 36 (.tmp 3) 2) none,
          co (some 63) (.load 34 (.tmp 62)) none,
          co (some 64) (.move (.tmp 7)) none,
          co (some 65) (.indexAddr 34 (.tmp 63) (.tmp 64)) none,
          co (some 66) (.load 36 (.tmp 65)) none,
          co (some 67) (.call { callee := (.value (.func 29)), args := #[(.tmp 61), (.tmp 66)], argTypes := #[36, 36] }) none] [2, 3, 5, 53, 54, 67])
      (.cond (.tmp 67)
        (.reg [co (some 68) (.move (.tmp 5)) none,
          co (some 69) (.binOp .add 3 (.tmp 68) (.const (.int .i64 1)) 3) none,
          co (some 5) (.assign (.tmp 69)) none] [2, 3, 5, 53, 54])
        (.skip)))))
  (.keep [2, 3, 5, 53, 54] (.reg [co (some 70) (.binOp .add 3 (.tmp 54) (.const (.int .i64 1)) 3) none,
    co (some 54) (.move (.tmp 70)) none] [2, 3, 5, 53, 54])))))
/-- cento/pair.Score -/
def c_pair_Score : CC :=
  .seq (.reg [cn (some 2) (.box 36 (.tmp 0)) none [0],
      cn (some 3) (.box 36 (.tmp 1)) none [1],
      co (some 4) (.assign (.const (.int .i64 0))) none] [2, 3])
  (.seq (.seq (.reg [co (some 8) (.fieldAddr 36 (.tmp 2) 0) none,
        co (some 9) (.load 3 (.tmp 8)) none,
        co (some 10) (.fieldAddr 36 (.tmp 3) 0) none,
        co (some 11) (.load 3 (.tmp 10)) none,
        co (some 12) (.binOp .neq 3 (.tmp 9) (.tmp 11) 3) none,
        co (some 13) (.move (.tmp 12)) none,
        co (some 14) (.fieldAddr 36 (.tmp 2) 0) (some (13, false)),
        co (some 15) (.load 3 (.tmp 14)) (some (13, false)),
        co (some 16) (.binOp .eql 3 (.tmp 15) (.const (.int .i64 0)) 3) (some (13, false)),
        co (some 17) (.pick (.tmp 13) (.const (.bool true)) (.tmp 16)) none,
        co (some 18) (.move (.tmp 17)) none,
        co (some 19) (.fieldAddr 36 (.tmp 2) 0) (some (18, false)),
        co (some 20) (.load 3 (.tmp 19)) (some (18, false)),
        co (some 21) (.binOp .eql 3 (.tmp 20) (.const (.int .i64 10)) 3) (some (18, false)),
        co (some 22) (.pick (.tmp 18) (.const (.bool true)) (.tmp 21)) none] [2, 3, 22])
    (.cond (.tmp 22)
      (.seq (.reg [co (some 4) (.assign (.const (.int .i64 0))) none] [4])
      (.ret))
      (.skip)))
  (.keep [2, 3] (.seq (.reg [co (some 5) (.assign (.const (.int .i64 1))) none] [2, 3, 5])
  (.seq (.seq (.reg [co (some 23) (.fieldAddr 36 (.tmp 2) 1) none,
        co (some 24) (.load 33 (.tmp 23)) none,
        co (some 25) (.call { callee := (.builtin .len), args := #[(.tmp 24)], argTypes := #[33] }) none,
        co (some 26) (.fieldAddr 36 (.tmp 3) 1) none,
        co (some 27) (.load 33 (.tmp 26)) none,
        co (some 28) (.call { callee := (.builtin .len), args := #[(.tmp 27)], argTypes := #[33] }) none,
        co (some 29) (.call { callee := (.builtin .min), args := #[(.tmp 25), (.tmp 28)], argTypes := #[3, 3] }) none,
        co (some 30) (.move (.const (.int .i64 0))) none] [2, 3, 5, 29, 30])
    (.block 0
      (.loop l1_pair_Score)))
  (.keep [2, 3, 5] (.seq (.seq (.reg [co (some 47) (.fieldAddr 36 (.tmp 2) 2) none,
        co (some 48) (.load 34 (.tmp 47)) none,
        co (some 49) (.call { callee := (.builtin .len), args := #[(.tmp 48)], argTypes := #[34] }) none,
        co (some 50) (.fieldAddr 36 (.tmp 3) 2) none,
        co (some 51) (.load 34 (.tmp 50)) none,
        co (some 52) (.call { callee := (.builtin .len), args := #[(.tmp 51)], argTypes := #[34] }) none,
        co (some 53) (.call { callee := (.builtin .min), args := #[(.tmp 49), (.tmp 52)], argTypes := #[3, 3] }) none,
        co (some 54) (.move (.const (.int .i64 0))) none] [2, 3, 5, 53, 54])
    (.block 2
      (.loop l2_pair_Score)))
  (.keep [5] (.seq (.reg [co (some 71) (.move (.tmp 5)) none,
      co (some 4) (.assign (.tmp 71)) none] [4])
  (.ret)))))))))
theorem t_pair_Score : Txt Try.prog 12 72 [(.tmp 4)] c_pair_Score := txt_of (code := Try.f12.body.getD .ret) mixed (by kernel_rfl) Try.func12 (by kernel_rfl) Try.ntmps12 (by kernel_rfl) (ls := [([2, 3], [(0, [0]), (1, [1])]), ([], []), ([2, 3, 22], []), ([], []), ([4], []), ([], []), ([999999, 2, 3], []), ([2, 3, 5], []), ([], []), ([2, 3, 5, 29, 30], []), ([], []), ([2, 3, 5, 29, 30, 31], []), ([], []), ([999999, 2, 3, 5, 29, 30], []), ([2, 3, 5, 6, 29, 30], []), ([], []), ([2, 3, 5, 29, 30, 43], []), ([], []), ([2, 3, 5, 29, 30], []), ([999999, 2, 3, 5, 29, 30], []), ([2, 3, 5, 29, 30], []), ([999999, 2, 3, 5], []), ([2, 3, 5, 53, 54], []), ([], []), ([2, 3, 5, 53, 54, 55], []), ([], []), ([999999, 2, 3, 5, 53, 54], []), ([2, 3, 5, 7, 53, 54], []), ([], []), ([2, 3, 5, 53, 54, 67], []), ([], []), ([2, 3, 5, 53, 54], []), ([999999, 2, 3, 5, 53, 54], []), ([2, 3, 5, 53, 54], []), ([999999, 5], []), ([4], []), ([], [])]) (by kernel_rfl)
def l1_centoref19_free : CC :=
  .seq (.seq (.reg [co (some 8) (.move (.tmp 7)) none,
        co (some 9) (.move (.tmp 0)) none,
        co (some 10) (.call { callee := (.builtin .len), args := #[(.tmp 9)], argTypes := #[27] }) none,
        co (some 11) (.binOp .lss 3 (.tmp 8) (.tmp 10) 3) none] [0, 1, 2, 7, 11])
    (.cond (.tmp 11)
      (.skip)
      (.exit 0)))
  (.keep [0, 1, 2, 7] (.seq (.block 1
      (.seq (.reg [co (some 14) (.move (.tmp 1)) none,
          co (some 15) (.move (.tmp 0)) none,
          co (some 16) (.move (.tmp 7)) none,
          co (some 17) (.indexAddr 27 (.tmp 15) (.tmp 16)) none,
          co (some 18) (.fieldAddr 31 (.tmp 17) 0) none,
          co (some 19) (.load 3 (.tmp 18)) none,
          co (some 20) (.binOp .lss 3 (.tmp 14) (.tmp 19) 3) none,
          co (some 21) (.move (.tmp 20)) none,
          co (some 22) (.move (.tmp 2)) (some (21, true)),
          co (some 23) (.move (.tmp 0)) (some (21, true)),
          co (some 24) (.move (.tmp 7)) (some (21, true)),
          co (some 25) (.indexAddr 27 (.tmp 23) (.tmp 24)) (some (21, true)),
          co (some 26) (.fieldAddr 31 (.tmp 25) 1) (some (21, true)),
          co (some 27) (.load 3 (.tmp 26)) (some (21, true)),
          co (some 28) (.binOp .lss 3 (.tmp 22) (.tmp 27) 3) (some (21, true)),
          co (some 29) (.pick (.tmp 21) (.tmp 28) (.const (.bool false))) none,
          co (some 30) (.unOp .not 4 (.tmp 29)) none,
          co (some 31) (.move (.tmp 30)) none,
          co (some 32) (.move (.tmp 1)) (some (31, true)),
          co (some 33) (.move (.tmp 0)) (some (31, true)),
          co (some 34) (.move (.tmp 7)) (some (31, true)),
          co (some 35) (.indexAddr 27 (.tmp 33) (.tmp 34)) (some (31, true)),
          co (some 36) (.fieldAddr 31 (.tmp 35) 0) (some (31, true)),
          co (some 37) (.load 3 (.tmp 36)) (some (31, true)),
          co (some 38) (.binOp .gtr 3 (.tmp 32) (.tmp 37) 3) (some (31, true)),
          co (some 39) (.move (.tmp 38)) (some (31, true)),
          co (some 40) (.move (.tmp 2)) (some (39, true)),
          co (some 41) (.move (.tmp 0)) (some (39, true)),
          co (some 42) (.move (.tmp 7)) (some (39, true)),
          co (some 43) (.indexAddr 27 (.tmp 41) (.tmp 42)) (some (39, true)),
          co (some 44) (.fieldAddr 31 (.tmp 43) 1) (some (39, true)),
          co (some 45) (.load 3 (.tmp 44)) (some (39, true)),
          co (some 46) (.binOp .gtr 3 (.tmp 40) (.tmp 45) 3) (some (39, true)),
          co (some 47) (.pick (.tmp 39) (.tmp 46) (.const (.bool false))) (some (31, true)),
          co (some 48) (.unOp .not 4 (.tmp 47)) (some (31, true)),
          co (some 49) (.pick (.tmp 31) (.tmp 48) (.const (.bool false))) none] [0, 1, 2, 7, 49])
      (.cond (.tmp 49)
        (.seq (.reg [co (some 6) (.assign (.const (.bool false))) none] [6])
        (.ret))
        (.skip))))
  (.keep [0, 1, 2, 7] (.reg [co (some 12) (.move (.tmp 7)) none,
    co (some 13) (.binOp .add 3 (.tmp 12) (.const (.int .i64 1)) 3) none,
    co (some 7) (.assign (.tmp 13)) none] [0, 1, 2, 7]))))
/-- cento/centoref19.free -/
def c_centoref19_free : CC :=
  .seq (.reg [co (some 6) (.assign (.const (.bool false))) none] [0, 1, 2])
  (.seq (.seq (.reg [co (some 7) (.assign (.const (.int .i64 0))) none] [0, 1, 2, 7])
    (.block 0
      (.loop l1_centoref19_free)))
  (.keep [] (.seq (.reg [co (some 6) (.assign (.const (.bool true))) none] [6])
  (.ret))))
theorem t_centoref19_free : Txt Try.prog 44 50 [(.tmp 6)] c_centoref19_free := txt_of (code := Try.f44.body.getD .ret) mixed (by kernel_rfl) Try.func44 (by kernel_rfl) Try.ntmps44 (by kernel_rfl) (ls := [([0, 1, 2], []), ([], []), ([0, 1, 2, 7], []), ([], []), ([0, 1, 2, 7, 11], []), ([], []), ([999999, 0, 1, 2, 7], []), ([0, 1, 2, 7, 49], []), ([], []), ([6], []), ([], []), ([999999, 0, 1, 2, 7], []), ([0, 1, 2, 7], []), ([999999], []), ([6], []), ([], [])]) (by kernel_rfl)
def l1_centoref19_best : CC :=
  .seq (.seq (.reg [co (some 21) (.move (.tmp 9)) none,
        co (some 22) (.move (.tmp 0)) none,
        co (some 23) (.move (.tmp 8)) none,
        co (some 24) (.indexAddr 22 (.tmp 22) (.tmp 23)) none,
        co (some 25) (.load 32 (.tmp 24)) none,
        co (some 26) (.call { callee := (.builtin .len), args := #[(.tmp 25)], argTypes := #[32] }) none,
        co (some 27) (.binOp .lss 3 (.tmp 21) (.tmp 26) 3) none,
        co (some 28) (.move (.tmp 27)) none,
        co (some 29) (.move (.tmp 9)) (some (28, true)),
        co (some 30) (.binOp .lss 3 (.tmp 29) (.const (.int .i64 16)) 3) (some (28, true)),
        co (some 31) (.pick (.tmp 28) (.tmp 30) (.const (.bool false))) none] [0, 1, 4, 6, 7, 8, 9, 31])
    (.cond (.tmp 31)
      (.skip)
      (.exit 2)))
  (.keep [0, 1, 4, 6, 7, 8, 9] (.seq (.block 3
      (.seq (.reg [co (some 34) (.move (.tmp 0)) none,
          co (some 35) (.move (.tmp 8)) none,
          co (some 36) (.indexAddr 22 (.tmp 34) (.tmp 35)) none,
          co (some 37) (.load 32 (.tmp 36)) none,
          co (some 38) (.move (.tmp 9)) none,
          co (some 39) (.indexAddr 32 (.tmp 37) (.tmp 38)) none,
          co (some 40) (.load 3 (.tmp 39)) none,
          co (some 41) (.move (.tmp 7)) none,
          co (some 42) (.binOp .gtr 3 (.tmp 40) (.tmp 41) 3) none,
          co (some 43) (.move (.tmp 42)) none,
          co (some 44) (.move (.tmp 1)) (some (43, true)),
          co (some 45) (.move (.tmp 8)) (some (43, true)),
          co (some 46) (.move (.tmp 9)) (some (43, true)),
          co (some 47) (.call { callee := (.value (.func 44)), args := #[(.tmp 44), (.tmp 45), (.tmp 46)], argTypes := #[27, 3, 3] }) (some (43, true)),
          co (some 48) (.pick (.tmp 43) (.tmp 47) (.const (.bool false))) none] [0, 1, 4, 6, 7, 8, 9, 48])
      (.cond (.tmp 48)
        (.seq (.reg [co (some 49) (.move (.tmp 8)) none,
            co (some 50) (.move (.tmp 9)) none,
            co (some 51) (.build 31 #[(0, (.tmp 49)), (1, (.tmp 50))]) none,
            co none (.store 31 (.tmp 6) (.tmp 51)) none] [0, 1, 4, 6, 8, 9])
        (.reg [co (some 52) (.move (.tmp 0)) none,
          co (some 53) (.move (.tmp 8)) none,
          co (some 54) (.indexAddr 22 (.tmp 52) (.tmp 53)) none,
          co (some 55) (.load 32 (.tmp 54)) none,
          co (some 56) (.move (.tmp 9)) none,
          co (some 57) (.indexAddr 32 (.tmp 55) (.tmp 56)) none,
          co (some 58) (.load 3 (.tmp 57)) none,
          co (some 7) (.assign (.tmp 58)) none] [0, 1, 4, 6, 7, 8, 9]))
        (.skip))))
  (.keep [0, 1, 4, 6, 7, 8, 9] (.reg [co (some 32) (.move (.tmp 9)) none,
    co (some 33) (.binOp .add 3 (.tmp 32) (.const (.int .i64 1)) 3) none,
    co (some 9) (.assign (.tmp 33)) none] [0, 1, 4, 6, 7, 8, 9]))))
def l2_centoref19_best : CC :=
  .seq (.seq (.reg [co (some 11) (.move (.tmp 8)) none,
        co (some 12) (.move (.tmp 0)) none,
        co (some 13) (.call { callee := (.builtin .len), args := #[(.tmp 12)], argTypes := #[22] }) none,
        co (some 14) (.binOp .lss 3 (.tmp 11) (.tmp 13) 3) none,
        co (some 15) (.move (.tmp 14)) none,
        co (some 16) (.move (.tmp 8)) (some (15, true)),
        co (some 17) (.binOp .lss 3 (.tmp 16) (.const (.int .i64 16)) 3) (some (15, true)),
        co (some 18) (.pick (.tmp 15) (.tmp 17) (.const (.bool false))) none] [0, 1, 4, 6, 7, 8, 18])
    (.cond (.tmp 18)
      (.skip)
      (.exit 0)))
  (.keep [0, 1, 4, 6, 7, 8] (.seq (.block 1
      (.seq (.reg [co (some 9) (.assign (.const (.int .i64 0))) none] [0, 1, 4, 6, 7, 8, 9])
      (.block 2
        (.loop l1_centoref19_best))))
  (.keep [0, 1, 4, 6, 7, 8] (.reg [co (some 19) (.move (.tmp 8)) none,
    co (some 20) (.binOp .add 3 (.tmp 19) (.const (.int .i64 1)) 3) none,
    co (some 8) (.assign (.tmp 20)) none] [0, 1, 4, 6, 7, 8]))))
/-- cento/centoref19.best -/
def c_centoref19_best : CC :=
  .seq (.reg [cn (some 4) (.alloc 31) none [0],
      co (some 5) (.assign (.const (.int .i64 0))) none] [0, 1, 4])
  (.seq (.reg [co (some 10) (.build 31 #[]) none,
      cn (some 6) (.alloc 31) none [1],
      co none (.store 31 (.tmp 6) (.tmp 10)) none,
      co (some 7) (.assign (.const (.int .i64 0))) none] [0, 1, 4, 6, 7])
  (.seq (.seq (.reg [co (some 8) (.assign (.const (.int .i64 0))) none] [0, 1, 4, 6, 7, 8])
    (.block 0
      (.loop l2_centoref19_best)))
  (.keep [4, 6, 7] (.seq (.reg [co (some 59) (.load 31 (.tmp 6)) none,
      co (some 60) (.move (.tmp 7)) none,
      co none (.store 31 (.tmp 4) (.tmp 59)) none,
      co (some 5) (.assign (.tmp 60)) none] [4, 5])
  (.ret)))))
theorem t_centoref19_best : Txt Try.prog 27 61 [(.cell 4 31), (.tmp 5)] c_centoref19_best := txt_of (code := Try.f27.body.getD .ret) mixed (by kernel_rfl) Try.func27 (by kernel_rfl) Try.ntmps27 (by kernel_rfl) (ls := [([0, 1, 4], [(0, [0])]), ([], []), ([0, 1, 4, 6, 7], [(1, [1])]), ([], []), ([0, 1, 4, 6, 7, 8], []), ([], []), ([0, 1, 4, 6, 7, 8, 18], []), ([], []), ([999999, 0, 1, 4, 6, 7, 8], []), ([0, 1, 4, 6, 7, 8, 9], []), ([], []), ([0, 1, 4, 6, 7, 8, 9, 31], []), ([], []), ([999999, 0, 1, 4, 6, 7, 8, 9], []), ([0, 1, 4, 6, 7, 8, 9, 48], []), ([], []), ([0, 1, 4, 6, 8, 9], []), ([], []), ([0, 1, 4, 6, 7, 8, 9], []), ([999999, 0, 1, 4, 6, 7, 8, 9], []), ([0, 1, 4, 6, 7, 8, 9], []), ([999999, 0, 1, 4, 6, 7, 8], []), ([0, 1, 4, 6, 7, 8], []), ([999999, 4, 6, 7], []), ([4, 5], []), ([], [])]) (by kernel_rfl)
def l1_centoref19_Pick : CC :=
  .seq (.seq (.reg [co (some 22) (.move (.tmp 8)) none,
        co (some 23) (.move (.tmp 3)) none,
        co (some 24) (.call { callee := (.builtin .len), args := #[(.tmp 23)], argTypes := #[27] }) none,
        co (some 25) (.binOp .lss 3 (.tmp 22) (.tmp 24) 3) none,
        co (some 26) (.move (.tmp 25)) none,
        co (some 27) (.move (.tmp 3)) (some (26, true)),
        co (some 28) (.move (.tmp 8)) (some (26, true)),
        co (some 29) (.indexAddr 27 (.tmp 27) (.tmp 28)) (some (26, true)),
        co (some 30) (.fieldAddr 31 (.tmp 29) 0) (some (26, true)),
        co (some 31) (.load 3 (.tmp 30)) (some (26, true)),
        co (some 32) (.fieldAddr 31 (.tmp 5) 0) (some (26, true)),
        co (some 33) (.load 3 (.tmp 32)) (some (26, true)),
        co (some 34) (.binOp .lss 3 (.tmp 31) (.tmp 33) 3) (some (26, true)),
        co (some 35) (.pick (.tmp 26) (.tmp 34) (.const (.bool false))) none] [0, 3, 4, 5, 7, 8, 35])
    (.cond (.tmp 35)
      (.skip)
      (.exit 2)))
  (.keep [0, 3, 4, 5, 7, 8] (.block 3
    (.reg [co (some 36) (.move (.tmp 8)) none,
      co (some 37) (.binOp .add 3 (.tmp 36) (.const (.int .i64 1)) 3) none,
      co (some 8) (.assign (.tmp 37)) none] [0, 3, 4, 5, 7, 8])))
def l2_centoref19_Pick : CC :=
  .seq (.seq (.reg [co (some 9) (.move (.tmp 4)) none,
        co (some 10) (.binOp .lss 3 (.tmp 9) (.const (.int .i64 17)) 3) none] [0, 3, 4, 10])
    (.cond (.tmp 10)
      (.skip)
      (.exit 0)))
  (.keep [0, 3, 4] (.seq (.block 1
      (.seq (.reg [co (some 14) (.move (.tmp 0)) none,
          co (some 15) (.move (.tmp 3)) none,
          co (some 16) (.call { callee := (.value (.func 27)), args := #[(.tmp 14), (.tmp 15)], argTypes := #[22, 27] }) none,
          co (some 13) (.move (.tmp 16)) none,
          co (some 17) (.extract (.tmp 13) 0) none,
          co (some 18) (.extract (.tmp 13) 1) none,
          cn (some 5) (.alloc 31) none [0],
          co none (.store 31 (.tmp 5) (.tmp 17)) none,
          co (some 6) (.assign (.tmp 18)) none] [0, 3, 4, 5, 6])
      (.seq (.seq (.reg [co (some 19) (.move (.tmp 6)) none,
            co (some 20) (.binOp .eql 3 (.tmp 19) (.const (.int .i64 0)) 3) none] [0, 3, 4, 5, 20])
        (.cond (.tmp 20)
          (.seq (.reg [co (some 21) (.move (.tmp 3)) none,
              co (some 2) (.assign (.tmp 21)) none] [2])
          (.ret))
          (.skip)))
      (.keep [0, 3, 4, 5] (.seq (.reg [co (some 7) (.assign (.const (.slice none 0 0))) none] [0, 3, 4, 5, 7])
      (.seq (.reg [co (some 8) (.assign (.const (.int .i64 0))) none] [0, 3, 4, 5, 7, 8])
      (.seq (.block 2
          (.loop l1_centoref19_Pick))
      (.keep [0, 3, 4, 5, 7, 8] (.seq (.reg [co (some 38) (.move (.tmp 7)) none,
          co (some 39) (.move (.tmp 3)) none,
          co (some 40) (.move (.tmp 8)) none,
          co (some 41) (.slice 27 (.tmp 39) none (some (.tmp 40)) none) none,
          cn (some 42) (.call { callee := (.builtin .append), args := #[(.tmp 38), (.tmp 41)], argTypes := #[27, 27] }) none [1],
          co (some 7) (.assign (.tmp 42)) none] [0, 3, 4, 5, 7, 8])
      (.seq (.reg [co (some 43) (.move (.tmp 7)) none,
          co (some 44) (.load 31 (.tmp 5)) none,
          co (some 45) (.buildSlice 27 1 #[(0, (.tmp 44))]) none,
          cn (some 46) (.call { callee := (.builtin .append), args := #[(.tmp 43), (.tmp 45)], argTypes := #[27, 27] }) none [2],
          co (some 7) (.assign (.tmp 46)) none] [0, 3, 4, 7, 8])
      (.reg [co (some 47) (.move (.tmp 7)) none,
        co (some 48) (.move (.tmp 3)) none,
        co (some 49) (.move (.tmp 8)) none,
        co (some 50) (.slice 27 (.tmp 48) (some (.tmp 49)) none none) none,
        cn (some 51) (.call { callee := (.builtin .append), args := #[(.tmp 47), (.tmp 50)], argTypes := #[27, 27] }) none [3],
        co (some 3) (.assign (.tmp 51)) none] [0, 3, 4])))))))))))
  (.keep [0, 3, 4] (.reg [co (some 11) (.move (.tmp 4)) none,
    co (some 12) (.binOp .add 3 (.tmp 11) (.const (.int .i64 1)) 3) none,
    co (some 4) (.assign (.tmp 12)) none] [0, 3, 4]))))
/-- cento/centoref19.Pick -/
def c_centoref19_Pick : CC :=
  .seq (.reg [co (some 2) (.assign (.const (.slice none 0 0))) none] [0])
  (.seq (.reg [co (some 3) (.assign (.const (.slice none 0 0))) none] [0, 3])
  (.seq (.seq (.reg [co (some 4) (.assign (.const (.int .i64 0))) none] [0, 3, 4])
    (.block 0
      (.loop l2_centoref19_Pick)))
  (.keep [3] (.seq (.reg [co (some 52) (.move (.tmp 3)) none,
      co (some 2) (.assign (.tmp 52)) none] [2])
  (.ret)))))
theorem t_centoref19_Pick : Txt Try.prog 10 53 [(.tmp 2)] c_centoref19_Pick := txt_of (code := Try.f10.body.getD .ret) mixed (by kernel_rfl) Try.func10 (by kernel_rfl) Try.ntmps10 (by kernel_rfl) (ls := [([0], []), ([], []), ([0, 3], []), ([], []), ([0, 3, 4], []), ([], []), ([0, 3, 4, 10], []), ([], []), ([999999, 0, 3, 4], []), ([0, 3, 4, 5, 6], [(6, [0])]), ([], []), ([0, 3, 4, 5, 20], []), ([], []), ([2], []), ([], []), ([999999, 0, 3, 4, 5], []), ([0, 3, 4, 5, 7], []), ([], []), ([0, 3, 4, 5, 7, 8], []), ([], []), ([0, 3, 4, 5, 7, 8, 35], []), ([], []), ([999999, 0, 3, 4, 5, 7, 8], []), ([0, 3, 4, 5, 7, 8], []), ([999999, 0, 3, 4, 5, 7, 8], []), ([0, 3, 4, 5, 7, 8], [(4, [1])]), ([], []), ([0, 3, 4, 7, 8], [(3, [2])]), ([], []), ([0, 3, 4], [(4, [3])]), ([999999, 0, 3, 4], []), ([0, 3, 4], []), ([999999, 3], []), ([2], []), ([], [])]) (by kernel_rfl)
def l1_centoref19_Score : CC :=
  .seq (.seq (.reg [co (some 23) (.move (.tmp 6)) none,
        co (some 24) (.fieldAddr 36 (.tmp 2) 1) none,
        co (some 25) (.load 33 (.tmp 24)) none,
        co (some 26) (.call { callee := (.builtin .len), args := #[(.tmp 25)], argTypes := #[33] }) none,
        co (some 27) (.binOp .lss 3 (.tmp 23) (.tmp 26) 3) none,
        co (some 28) (.move (.tmp 27)) none,
        co (some 29) (.move (.tmp 6)) (some (28, true)),
        co (some 30) (.fieldAddr 36 (.tmp 3) 1) (some (28, true)),
        co (some 31) (.load 33 (.tmp 30)) (some (28, true)),
        co (some 32) (.call { callee := (.builtin .len), args := #[(.tmp 31)], argTypes := #[33] }) (some (28, true)),
        co (some 33) (.binOp .lss 3 (.tmp 29) (.tmp 32) 3) (some (28, true)),
        co (some 34) (.pick (.tmp 28) (.tmp 33) (.const (.bool false))) none] [2, 3, 5, 6, 34])
    (.cond (.tmp 34)
      (.skip)
      (.exit 0)))
  (.keep [2, 3, 5, 6] (.seq (.block 1
      (.seq (.reg [co (some 37) (.fieldAddr 36 (.tmp 2) 1) none,
          co (some 38) (.load 33 (.tmp 37)) none,
          co (some 39) (.move (.tmp 6)) none,
          co (some 40) (.indexAddr 33 (.tmp 38) (.tmp 39)) none,
          co (some 41) (.load 68 (.tmp 40)) none,
          co (some 42) (.fieldAddr 36 (.tmp 3) 1) none,
          co (some 43) (.load 33 (.tmp 42)) none,
          co (some 44) (.move (.tmp 6)) none,
          co (some 45) (.indexAddr 33 (.tmp 43) (.tmp 44)) none,
          co (some 46) (.load 68 (.tmp 45)) none,
          co (some 47) (.binOp .eql 68 (.tmp 41) (.tmp 46) 68) none] [2, 3, 5, 6, 47])
      (.cond (.tmp 47)
        (.reg [co (some 48) (.move (.tmp 5)) none,
          co (some 49) (.binOp .add 3 (.tmp 48) (.const (.int .i64 1)) 3) none,
          co (some 5) (.assign (.tmp 49)) none] [2, 3, 5, 6])
        (.skip))))
  (.keep [2, 3, 5, 6] (.reg [co (some 35) (.move (.tmp 6)) none,
    co (some 36) (.binOp .add 3 (.tmp 35) (.const (.int .i64 1)) 3) none,
    co (some 6) (.assign (.tmp 36)) none] [2, 3, 5, 6]))))
def l2_centoref19_Score : CC :=
  .seq (.seq (.reg [co (some 50) (.move (.tmp 7)) none,
        co (some 51) (.fieldAddr 36 (.tmp 2) 2) none,
        co (some 52) (.load 34 (.tmp 51)) none,
        co (some 53) (.call { callee := (.builtin .len), args := #[(.tmp 52)], argTypes := #[34] }) none,
        co (some 54) (.binOp .lss 3 (.tmp 50) (.tmp 53) 3) none,
        co (some 55) (.move (.tmp 54)) none,
        co (some 56) (.move (.tmp 7)) (some (55, true)),
        co (some 57) (.fieldAddr 36 (.tmp 3) 2) (some (55, true)),
        co (some 58) (.load 34 (.tmp 57)) (some (55, true)),
        co (some 59) (.call { callee := (.builtin .len), args := #[(.tmp 58)], argTypes := #[34] }) (some (55, true)),
        co (some 60) (.binOp .lss 3 (.tmp 56) (.tmp 59) 3) (some (55, true)),
        co (some 61) (.pick (.tmp 55) (.tmp 60) (.const (.bool false))) none] [2, 3, 5, 7, 61])
    (.cond (.tmp 61)
      (.skip)
      (.exit 2)))
  (.keep [2, 3, 5, 7] (.seq (.block 3
      (.seq (.reg [co (some 64) (.fieldAddr 36 (.tmp 2) 2) none,
          co (some 65) (.load 34 (.tmp 64)) none,
          co (some 66) (.move (.tmp 7)) none,
          co (some 67) (.indexAddr 34 (.tmp 65) (.tmp 66)) none,
          co (some 68) (.load 36 (.tmp 67)) none,
          co (some 69) (.fieldAddr 36 (.tmp 3) 2) none,
          co (some 70) (.load 34 (.tmp 69)) none,
          co (some 71) (.move (.tmp 7)) none,
          co (some 72) (.indexAddr 34 (.tmp 70) (.tmp 71)) none,
          co (some 73) (.load 36 (.tmp 72)) none,
          co (some 74) (.call { callee := (.value (.func 30)), args := #[(.tmp 68), (.tmp 73)], argTypes := #[36, 36] }) none] [2, 3, 5, 7, 74])
      (.cond (.tmp 74)
        (.reg [co (some 75) (.move (.tmp 5)) none,
          co (some 76) (.binOp .add 3 (.tmp 75) (.const (.int .i64 1)) 3) none,
          co (some 5) (.assign (.tmp 76)) none] [2, 3, 5, 7])
        (.skip))))
  (.keep [2, 3, 5, 7] (.reg [co (some 62) (.move (.tmp 7)) none,
    co (some 63) (.binOp .add 3 (.tmp 62) (.const (.int .i64 1)) 3) none,
    co (some 7) (.assign (.tmp 63)) none] [2, 3, 5, 7]))))
/-- cento/centoref19.Score -/
def c_centoref19_Score : CC :=
  .seq (.reg [cn (some 2) (.box 36 (.tmp 0)) none [0],
      cn (some 3) (.box 36 (.tmp 1)) none [1],
      co (some 4) (.assign (.const (.int .i64 0))) none] [2, 3])
  (.seq (.seq (.reg [co (some 8) (.fieldAddr 36 (.tmp 2) 0) none,
        co (some 9) (.load 3 (.tmp 8)) none,
        co (some 10) (.fieldAddr 36 (.tmp 3) 0) none,
        co (some 11) (.load 3 (.tmp 10)) none,
        co (some 12) (.binOp .neq 3 (.tmp 9) (.tmp 11) 3) none,
        co (some 13) (.move (.tmp 12)) none,
        co (some 14) (.fieldAddr 36 (.tmp 2) 0) (some (13, false)),
        co (some 15) (.load 3 (.tmp 14)) (some (13, false)),
        co (some 16) (.binOp .eql 3 (.tmp 15) (.const (.int .i64 0)) 3) (some (13, false)),
        co (some 17) (.pick (.tmp 13) (.const (.bool true)) (.tmp 16)) none,
        co (some 18) (.move (.tmp 17)) none,
        co (some 19) (.fieldAddr 36 (.tmp 2) 0) (some (18, false)),
        co (some 20) (.load 3 (.tmp 19)) (some (18, false)),
        co (some 21) (.binOp .eql 3 (.tmp 20) (.const (.int .i64 10)) 3) (some (18, false)),
        co (some 22) (.pick (.tmp 18) (.const (.bool true)) (.tmp 21)) none] [2, 3, 22])
    (.cond (.tmp 22)
      (.seq (.reg [co (some 4) (.assign (.const (.int .i64 0))) none] [4])
      (.ret))
      (.skip)))
  (.keep [2, 3] (.seq (.reg [co (some 5) (.assign (.const (.int .i64 1))) none] [2, 3, 5])
  (.seq (.seq (.reg [co (some 6) (.assign (.const (.int .i64 0))) none] [2, 3, 5, 6])
    (.block 0
      (.loop l1_centoref19_Score)))
  (.keep [2, 3, 5] (.seq (.seq (.reg [co (some 7) (.assign (.const (.int .i64 0))) none] [2, 3, 5, 7])
    (.block 2
      (.loop l2_centoref19_Score)))
  (.keep [5] (.seq (.reg [co (some 77) (.move (.tmp 5)) none,
      co (some 4) (.assign (.tmp 77)) none] [4])
  (.ret)))))))))
theorem t_centoref19_Score : Txt Try.prog 13 78 [(.tmp 4)] c_centoref19_Score := txt_of (code := Try.f13.body.getD .ret) mixed (by kernel_rfl) Try.func13 (by kernel_rfl) Try.ntmps13 (by kernel_rfl) (ls := [([2, 3], [(0, [0]), (1, [1])]), ([], []), ([2, 3, 22], []), ([], []), ([4], []), ([], []), ([999999, 2, 3], []), ([2, 3, 5], []), ([], []), ([2, 3, 5, 6], []), ([], []), ([2, 3, 5, 6, 34], []), ([], []), ([999999, 2, 3, 5, 6], []), ([2, 3, 5, 6, 47], []), ([], []), ([2, 3, 5, 6], []), ([999999, 2, 3, 5, 6], []), ([2, 3, 5, 6], []), ([999999, 2, 3, 5], []), ([2, 3, 5, 7], []), ([], []), ([2, 3, 5, 7, 61], []), ([], []), ([999999, 2, 3, 5, 7], []), ([2, 3, 5, 7, 74], []), ([], []), ([2, 3, 5, 7], []), ([999999, 2, 3, 5, 7], []), ([2, 3, 5, 7], []), ([999999, 5], []), ([4], []), ([], [])]) (by kernel_rfl)
def l1_centolaw19_small : CC :=
  .seq (.seq (.reg [co (some 4) (.move (.tmp 3)) none,
        co (some 5) (.move (.tmp 0)) none,
        co (some 6) (.call { callee := (.builtin .len), args := #[(.tmp 5)], argTypes := #[22] }) none,
        co (some 7) (.binOp .lss 3 (.tmp 4) (.tmp 6) 3) none] [0, 3, 7])
    (.cond (.tmp 7)
      (.skip)
      (.exit 0)))
  (.keep [0, 3] (.seq (.block 1
      (.seq (.reg [co (some 10) (.move (.tmp 0)) none,
          co (some 11) (.move (.tmp 3)) none,
          co (some 12) (.indexAddr 22 (.tmp 10) (.tmp 11)) none,
          co (some 13) (.load 32 (.tmp 12)) none,
          co (some 14) (.call { callee := (.builtin .len), args := #[(.tmp 13)], argTypes := #[32] }) none,
          co (some 15) (.binOp .gtr 3 (.tmp 14) (.const (.int .i64 40)) 3) none] [0, 3, 15])
      (.cond (.tmp 15)
        (.seq (.reg [co (some 2) (.assign (.const (.bool false))) none] [2])
        (.ret))
        (.skip))))
  (.keep [0, 3] (.reg [co (some 8) (.move (.tmp 3)) none,
    co (some 9) (.binOp .add 3 (.tmp 8) (.const (.int .i64 1)) 3) none,
    co (some 3) (.assign (.tmp 9)) none] [0, 3]))))
/-- cento/centolaw19.small -/
def c_centolaw19_small : CC :=
  .seq (.reg [co (some 2) (.assign (.const (.bool false))) none] [0])
  (.seq (.seq (.reg [co (some 3) (.assign (.const (.int .i64 0))) none] [0, 3])
    (.block 0
      (.loop l1_centolaw19_small)))
  (.keep [0] (.seq (.reg [co (some 16) (.move (.tmp 0)) none,
      co (some 17) (.call { callee := (.builtin .len), args := #[(.tmp 16)], argTypes := #[22] }) none,
      co (some 18) (.binOp .leq 3 (.tmp 17) (.const (.int .i64 40)) 3) none,
      co (some 2) (.assign (.tmp 18)) none] [2])
  (.ret))))
theorem t_centolaw19_small : Txt Try.prog 7 19 [(.tmp 2)] c_centolaw19_small := txt_of (code := Try.f7.body.getD .ret) mixed (by kernel_rfl) Try.func7 (by kernel_rfl) Try.ntmps7 (by kernel_rfl) (ls := [([0], []), ([], []), ([0, 3], []), ([], []), ([0, 3, 7], []), ([], []), ([999999, 0, 3], []), ([0, 3, 15], []), ([], []), ([2], []), ([], []), ([999999, 0, 3], []), ([0, 3], []), ([999999, 0], []), ([2], []), ([], [])]) (by kernel_rfl)
/-- cento/centolaw19.awake -/
def c_centolaw19_awake : CC :=
  .seq (.reg [co (some 0) (.assign (.const (.bool false))) none] [])
  (.seq (.reg [co (some 2) (.buildSlice 32 2 #[(0, (.const (.int .i64 1))), (1, (.const (.int .i64 2)))]) none,
      co (some 3) (.buildSlice 32 2 #[(0, (.const (.int .i64 3))), (1, (.const (.int .i64 1)))]) none,
      co (some 4) (.buildSlice 22 2 #[(0, (.tmp 2)), (1, (.tmp 3))]) none,
      co (some 5) (.call { callee := (.value (.func 9)), args := #[(.tmp 4)], argTypes := #[22] }) none,
      co (some 1) (.assign (.tmp 5)) none] [1])
  (.seq (.reg [co (some 6) (.move (.tmp 1)) none,
      co (some 7) (.call { callee := (.builtin .len), args := #[(.tmp 6)], argTypes := #[25] }) none,
      co (some 8) (.binOp .eql 3 (.tmp 7) (.const (.int .i64 1)) 3) none,
      co (some 9) (.move (.tmp 8)) none,
      co (some 10) (.move (.tmp 1)) (some (9, true)),
      co (some 11) (.indexAddr 25 (.tmp 10) (.const (.int .i64 0))) (some (9, true)),
      co (some 12) (.load 30 (.tmp 11)) (some (9, true)),
      co (some 13) (.build 30 #[(0, (.const (.int .i64 1))), (1, (.const (.int .i64 0)))]) (some (9, true)),
      co (some 14) (.binOp .eql 30 (.tmp 12) (.tmp 13) 30) (some (9, true)),
      co (some 15) (.pick (.tmp 9) (.tmp 14) (.const (.bool false))) none,
      co (some 0) (.assign (.tmp 15)) none] [0])
  (.ret)))
theorem t_centolaw19_awake : Txt Try.prog 8 16 [(.tmp 0)] c_centolaw19_awake := txt_of (code := Try.f8.body.getD .ret) mixed (by kernel_rfl) Try.func8 (by kernel_rfl) Try.ntmps8 (by kernel_rfl) (ls := [([], []), ([], []), ([1], []), ([], []), ([0], []), ([], [])]) (by kernel_rfl)
def l1_centolaw19_PairPicks : CC :=
  .seq (.seq (.reg [co (some 19) (.move (.tmp 5)) none,
        co (some 20) (.move (.tmp 3)) none,
        co (some 21) (.call { callee := (.builtin .len), args := #[(.tmp 20)], argTypes := #[25] }) none,
        co (some 22) (.binOp .lss 3 (.tmp 19) (.tmp 21) 3) none] [3, 4, 5, 22])
    (.cond (.tmp 22)
      (.skip)
      (.exit 0)))
  (.keep [3, 4, 5] (.seq (.block 1
      (.seq (.reg [co (some 25) (.move (.tmp 3)) none,
          co (some 26) (.move (.tmp 5)) none,
          co (some 27) (.indexAddr 25 (.tmp 25) (.tmp 26)) none,
          co (some 28) (.fieldAddr 30 (.tmp 27) 0) none,
          co (some 29) (.load 3 (.tmp 28)) none,
          co (some 30) (.move (.tmp 4)) none,
          co (some 31) (.move (.tmp 5)) none,
          co (some 32) (.indexAddr 27 (.tmp 30) (.tmp 31)) none,
          co (some 33) (.fieldAddr 31 (.tmp 32) 0) none,
          co (some 34) (.load 3 (.tmp 33)) none,
          co (some 35) (.binOp .neq 3 (.tmp 29) (.tmp 34) 3) none,
          co (some 36) (.move (.tmp 35)) none,
          co (some 37) (.move (.tmp 3)) (some (36, false)),
          co (some 38) (.move (.tmp 5)) (some (36, false)),
          co (some 39) (.indexAddr 25 (.tmp 37) (.tmp 38)) (some (36, false)),
          co (some 40) (.fieldAddr 30 (.tmp 39) 1) (some (36, false)),
          co (some 41) (.load 3 (.tmp 40)) (some (36, false)),
          co (some 42) (.move (.tmp 4)) (some (36, false)),
          co (some 43) (.move (.tmp 5)) (some (36, false)),
          co (some 44) (.indexAddr 27 (.tmp 42) (.tmp 43)) (some (36, false)),
          co (some 45) (.fieldAddr 31 (.tmp 44) 1) (some (36, false)),
          co (some 46) (.load 3 (.tmp 45)) (some (36, false)),
          co (some 47) (.binOp .neq 3 (.tmp 41) (.tmp 46) 3) (some (36, false)),
          co (some 48) (.pick (.tmp 36) (.const (.bool true)) (.tmp 47)) none] [3, 4, 5, 48])
      (.cond (.tmp 48)
        (.seq (.reg [co (some 2) (.assign (.const (.bool false))) none] [2])
        (.ret))
        (.skip))))
  (.keep [3, 4, 5] (.reg [co (some 23) (.move (.tmp 5)) none,
    co (some 24) (.binOp .add 3 (.tmp 23) (.const (.int .i64 1)) 3) none,
    co (some 5) (.assign (.tmp 24)) none] [3, 4, 5]))))
/-- cento/centolaw19.PairPicks -/
def c_centolaw19_PairPicks : CC :=
  .seq (.reg [co (some 2) (.assign (.const (.bool false))) none] [0])
  (.seq (.seq (.reg [co (some 6) (.move (.tmp 0)) none,
        co (some 7) (.call { callee := (.value (.func 7)), args := #[(.tmp 6)], argTypes := #[22] }) none,
        co (some 8) (.unOp .not 4 (.tmp 7)) none] [0, 8])
    (.cond (.tmp 8)
      (.seq (.reg [co (some 9) (.call { callee := (.value (.func 8)), args := #[], argTypes := #[] }) none,
          co (some 2) (.assign (.tmp 9)) none] [2])
      (.ret))
      (.skip)))
  (.keep [0] (.seq (.reg [co (some 10) (.move (.tmp 0)) none,
      co (some 11) (.call { callee := (.value (.func 9)), args := #[(.tmp 10)], argTypes := #[22] }) none,
      co (some 12) (.move (.tmp 0)) none,
      co (some 13) (.call { callee := (.value (.func 10)), args := #[(.tmp 12)], argTypes := #[22] }) none,
      co (some 3) (.assign (.tmp 11)) none,
      co (some 4) (.assign (.tmp 13)) none] [3, 4])
  (.seq (.seq (.reg [co (some 14) (.move (.tmp 3)) none,
        co (some 15) (.call { callee := (.builtin .len), args := #[(.tmp 14)], argTypes := #[25] }) none,
        co (some 16) (.move (.tmp 4)) none,
        co (some 17) (.call { callee := (.builtin .len), args := #[(.tmp 16)], argTypes := #[27] }) none,
        co (some 18) (.binOp .neq 3 (.tmp 15) (.tmp 17) 3) none] [3, 4, 18])
    (.cond (.tmp 18)
      (.seq (.reg [co (some 2) (.assign (.const (.bool false))) none] [2])
      (.ret))
      (.skip)))
  (.keep [3, 4] (.seq (.seq (.reg [co (some 5) (.assign (.const (.int .i64 0))) none] [3, 4, 5])
    (.block 0
      (.loop l1_centolaw19_PairPicks)))
  (.keep [] (.seq (.reg [co (some 49) (.call { callee := (.value (.func 8)), args := #[], argTypes := #[] }) none,
      co (some 2) (.assign (.tmp 49)) none] [2])
  (.ret)))))))))
theorem t_centolaw19_PairPicks : Txt Try.prog 3 50 [(.tmp 2)] c_centolaw19_PairPicks := txt_of (code := Try.f3.body.getD .ret) mixed (by kernel_rfl) Try.func3 (by kernel_rfl) Try.ntmps3 (by kernel_rfl) (ls := [([0], []), ([], []), ([0, 8], []), ([], []), ([2], []), ([], []), ([999999, 0], []), ([3, 4], []), ([], []), ([3, 4, 18], []), ([], []), ([2], []), ([], []), ([999999, 3, 4], []), ([3, 4, 5], []), ([], []), ([3, 4, 5, 22], []), ([], []), ([999999, 3, 4, 5], []), ([3, 4, 5, 48], []), ([], []), ([2], []), ([], []), ([999999, 3, 4, 5], []), ([3, 4, 5], []), ([999999], []), ([2], []), ([], [])]) (by kernel_rfl)
def l1_centolaw19_PairRises : CC :=
  .seq (.seq (.reg [co (some 14) (.move (.tmp 5)) none,
        co (some 15) (.move (.tmp 3)) none,
        co (some 16) (.call { callee := (.builtin .len), args := #[(.tmp 15)], argTypes := #[25] }) none,
        co (some 17) (.binOp .lss 3 (.tmp 14) (.tmp 16) 3) none] [0, 3, 4, 5, 17])
    (.cond (.tmp 17)
      (.skip)
      (.exit 0)))
  (.keep [0, 3, 4, 5] (.seq (.block 1
      (.seq (.seq (.reg [co (some 20) (.move (.tmp 5)) none,
            co (some 21) (.binOp .gtr 3 (.tmp 20) (.const (.int .i64 0)) 3) none,
            co (some 22) (.move (.tmp 21)) none,
            co (some 23) (.move (.tmp 3)) (some (22, true)),
            co (some 24) (.move (.tmp 5)) (some (22, true)),
            co (some 25) (.binOp .sub 3 (.tmp 24) (.const (.int .i64 1)) 3) (some (22, true)),
            co (some 26) (.indexAddr 25 (.tmp 23) (.tmp 25)) (some (22, true)),
            co (some 27) (.fieldAddr 30 (.tmp 26) 0) (some (22, true)),
            co (some 28) (.load 3 (.tmp 27)) (some (22, true)),
            co (some 29) (.move (.tmp 3)) (some (22, true)),
            co (some 30) (.move (.tmp 5)) (some (22, true)),
            co (some 31) (.indexAddr 25 (.tmp 29) (.tmp 30)) (some (22, true)),
            co (some 32) (.fieldAddr 30 (.tmp 31) 0) (some (22, true)),
            co (some 33) (.load 3 (.tmp 32)) (some (22, true)),
            co (some 34) (.binOp .geq 3 (.tmp 28) (.tmp 33) 3) (some (22, true)),
            co (some 35) (.move (.tmp 34)) (some (22, true)),
            co (some 36) (.move (.tmp 3)) (some (35, false)),
            co (some 37) (.move (.tmp 5)) (some (35, false)),
            co (some 38) (.binOp .sub 3 (.tmp 37) (.const (.int .i64 1)) 3) (some (35, false)),
            co (some 39) (.indexAddr 25 (.tmp 36) (.tmp 38)) (some (35, false)),
            co (some 40) (.fieldAddr 30 (.tmp 39) 1) (some (35, false)),
            co (some 41) (.load 3 (.tmp 40)) (some (35, false)),
            co (some 42) (.move (.tmp 3)) (some (35, false)),
            co (some 43) (.move (.tmp 5)) (some (35, false)),
            co (some 44) (.indexAddr 25 (.tmp 42) (.tmp 43)) (some (35, false)),
            co (some 45) (.fieldAddr 30 (.tmp 44) 1) (some (35, false)),
            co (some 46) (.load 3 (.tmp 45)) (some (35, false)),
            co (some 47) (.binOp .geq 3 (.tmp 41) (.tmp 46) 3) (some (35, false)),
            co (some 48) (.pick (.tmp 35) (.const (.bool true)) (.tmp 47)) (some (22, true)),
            co (some 49) (.pick (.tmp 22) (.tmp 48) (.const (.bool false))) none] [0, 3, 4, 5, 49])
        (.cond (.tmp 49)
          (.seq (.reg [co (some 2) (.assign (.const (.bool false))) none] [2])
          (.ret))
          (.skip)))
      (.keep [0, 3, 4, 5] (.seq (.seq (.reg [co (some 50) (.move (.tmp 3)) none,
            co (some 51) (.move (.tmp 5)) none,
            co (some 52) (.indexAddr 25 (.tmp 50) (.tmp 51)) none,
            co (some 53) (.fieldAddr 30 (.tmp 52) 0) none,
            co (some 54) (.load 3 (.tmp 53)) none,
            co (some 55) (.binOp .lss 3 (.tmp 54) (.const (.int .i64 0)) 3) none,
            co (some 56) (.move (.tmp 55)) none,
            co (some 57) (.move (.tmp 3)) (some (56, false)),
            co (some 58) (.move (.tmp 5)) (some (56, false)),
            co (some 59) (.indexAddr 25 (.tmp 57) (.tmp 58)) (some (56, false)),
            co (some 60) (.fieldAddr 30 (.tmp 59) 0) (some (56, false)),
            co (some 61) (.load 3 (.tmp 60)) (some (56, false)),
            co (some 62) (.move (.tmp 0)) (some (56, false)),
            co (some 63) (.call { callee := (.builtin .len), args := #[(.tmp 62)], argTypes := #[22] }) (some (56, false)),
            co (some 64) (.binOp .geq 3 (.tmp 61) (.tmp 63) 3) (some (56, false)),
            co (some 65) (.pick (.tmp 56) (.const (.bool true)) (.tmp 64)) none,
            co (some 66) (.move (.tmp 65)) none,
            co (some 67) (.move (.tmp 3)) (some (66, false)),
            co (some 68) (.move (.tmp 5)) (some (66, false)),
            co (some 69) (.indexAddr 25 (.tmp 67) (.tmp 68)) (some (66, false)),
            co (some 70) (.fieldAddr 30 (.tmp 69) 1) (some (66, false)),
            co (some 71) (.load 3 (.tmp 70)) (some (66, false)),
            co (some 72) (.binOp .lss 3 (.tmp 71) (.const (.int .i64 0)) 3) (some (66, false)),
            co (some 73) (.pick (.tmp 66) (.const (.bool true)) (.tmp 72)) none,
            co (some 74) (.move (.tmp 73)) none,
            co (some 75) (.move (.tmp 3)) (some (74, false)),
            co (some 76) (.move (.tmp 5)) (some (74, false)),
            co (some 77) (.indexAddr 25 (.tmp 75) (.tmp 76)) (some (74, false)),
            co (some 78) (.fieldAddr 30 (.tmp 77) 1) (some (74, false)),
            co (some 79) (.load 3 (.tmp 78)) (some (74, false)),
            co (some 80) (.move (.tmp 0)) (some (74, false)),
            co (some 81) (.move (.tmp 3)) (some (74, false)),
            co (some 82) (.move (.tmp 5)) (some (74, false)),
            co (some 83) (.indexAddr 25 (.tmp 81) (.tmp 82)) (some (74, false)),
            co (some 84) (.fieldAddr 30 (.tmp 83) 0) (some (74, false)),
            co (some 85) (.load 3 (.tmp 84)) (some (74, false)),
            co (some 86) (.indexAddr 22 (.tmp 80) (.tmp 85)) (some (74, false)),
            co (some 87) (.load 32 (.tmp 86)) (some (74, false)),
            co (some 88) (.call { callee := (.builtin .len), args := #[(.tmp 87)], argTypes := #[32] }) (some (74, false)),
            co (some 89) (.binOp .geq 3 (.tmp 79) (.tmp 88) 3) (some (74, false)),
            co (some 90) (.pick (.tmp 74) (.const (.bool true)) (.tmp 89)) none] [0, 3, 4, 5, 90])
        (.cond (.tmp 90)
          (.seq (.reg [co (some 2) (.assign (.const (.bool false))) none] [2])
          (.ret))
          (.skip)))
      (.keep [0, 3, 4, 5] (.seq (.reg [co (some 91) (.move (.tmp 0)) none,
          co (some 92) (.move (.tmp 3)) none,
          co (some 93) (.move (.tmp 5)) none,
          co (some 94) (.indexAddr 25 (.tmp 92) (.tmp 93)) none,
          co (some 95) (.fieldAddr 30 (.tmp 94) 0) none,
          co (some 96) (.load 3 (.tmp 95)) none,
          co (some 97) (.indexAddr 22 (.tmp 91) (.tmp 96)) none,
          co (some 98) (.load 32 (.tmp 97)) none,
          co (some 99) (.move (.tmp 3)) none,
          co (some 100) (.move (.tmp 5)) none,
          co (some 101) (.indexAddr 25 (.tmp 99) (.tmp 100)) none,
          co (some 102) (.fieldAddr 30 (.tmp 101) 1) none,
          co (some 103) (.load 3 (.tmp 102)) none,
          co (some 104) (.indexAddr 32 (.tmp 98) (.tmp 103)) none,
          co (some 105) (.load 3 (.tmp 104)) none,
          co (some 106) (.move (.tmp 4)) none,
          co (some 107) (.binOp .gtr 3 (.tmp 105) (.tmp 106) 3) none] [0, 3, 4, 5, 107])
      (.cond (.tmp 107)
        (.reg [co (some 108) (.move (.tmp 0)) none,
          co (some 109) (.move (.tmp 3)) none,
          co (some 110) (.move (.tmp 5)) none,
          co (some 111) (.indexAddr 25 (.tmp 109) (.tmp 110)) none,
          co (some 112) (.fieldAddr 30 (.tmp 111) 0) none,
          co (some 113) (.load 3 (.tmp 112)) none,
          co (some 114) (.indexAddr 22 (.tmp 108) (.tmp 113)) none,
          co (some 115) (.load 32 (.tmp 114)) none,
          co (some 116) (.move (.tmp 3)) none,
          co (some 117) (.move (.tmp 5)) none,
          co (some 118) (.indexAddr 25 (.tmp 116) (.tmp 117)) none,
          co (some 119) (.fieldAddr 30 (.tmp 118) 1) none,
          co (some 120) (.load 3 (.tmp 119)) none,
          co (some 121) (.indexAddr 32 (.tmp 115) (.tmp 120)) none,
          co (some 122) (.load 3 (.tmp 121)) none,
          co (some 4) (.assign (.tmp 122)) none] [0, 3, 4, 5])
        (.skip))))))))
  (.keep [0, 3, 4, 5] (.reg [co (some 18) (.move (.tmp 5)) none,
    co (some 19) (.binOp .add 3 (.tmp 18) (.const (.int .i64 1)) 3) none,
    co (some 5) (.assign (.tmp 19)) none] [0, 3, 4, 5]))))
def l2_centolaw19_PairRises : CC :=
  .seq (.seq (.reg [co (some 133) (.move (.tmp 7)) none,
        co (some 134) (.move (.tmp 0)) none,
        co (some 135) (.move (.tmp 6)) none,
        co (some 136) (.indexAddr 22 (.tmp 134) (.tmp 135)) none,
        co (some 137) (.load 32 (.tmp 136)) none,
        co (some 138) (.call { callee := (.builtin .len), args := #[(.tmp 137)], argTypes := #[32] }) none,
        co (some 139) (.binOp .lss 3 (.tmp 133) (.tmp 138) 3) none,
        co (some 140) (.move (.tmp 139)) none,
        co (some 141) (.move (.tmp 7)) (some (140, true)),
        co (some 142) (.binOp .lss 3 (.tmp 141) (.const (.int .i64 16)) 3) (some (140, true)),
        co (some 143) (.pick (.tmp 140) (.tmp 142) (.const (.bool false))) none] [0, 4, 6, 7, 143])
    (.cond (.tmp 143)
      (.skip)
      (.exit 4)))
  (.keep [0, 4, 6, 7] (.seq (.block 5
      (.seq (.reg [co (some 146) (.move (.tmp 0)) none,
          co (some 147) (.move (.tmp 6)) none,
          co (some 148) (.indexAddr 22 (.tmp 146) (.tmp 147)) none,
          co (some 149) (.load 32 (.tmp 148)) none,
          co (some 150) (.move (.tmp 7)) none,
          co (some 151) (.indexAddr 32 (.tmp 149) (.tmp 150)) none,
          co (some 152) (.load 3 (.tmp 151)) none,
          co (some 153) (.move (.tmp 4)) none,
          co (some 154) (.binOp .gtr 3 (.tmp 152) (.tmp 153) 3) none] [0, 4, 6, 7, 154])
      (.cond (.tmp 154)
        (.seq (.reg [co (some 2) (.assign (.const (.bool false))) none] [2])
        (.ret))
        (.skip))))
  (.keep [0, 4, 6, 7] (.reg [co (some 144) (.move (.tmp 7)) none,
    co (some 145) (.binOp .add 3 (.tmp 144) (.const (.int .i64 1)) 3) none,
    co (some 7) (.assign (.tmp 145)) none] [0, 4, 6, 7]))))
def l3_centolaw19_PairRises : CC :=
  .seq (.seq (.reg [co (some 123) (.move (.tmp 6)) none,
        co (some 124) (.move (.tmp 0)) none,
        co (some 125) (.call { callee := (.builtin .len), args := #[(.tmp 124)], argTypes := #[22] }) none,
        co (some 126) (.binOp .lss 3 (.tmp 123) (.tmp 125) 3) none,
        co (some 127) (.move (.tmp 126)) none,
        co (some 128) (.move (.tmp 6)) (some (127, true)),
        co (some 129) (.binOp .lss 3 (.tmp 128) (.const (.int .i64 16)) 3) (some (127, true)),
        co (some 130) (.pick (.tmp 127) (.tmp 129) (.const (.bool false))) none] [0, 4, 6, 130])
    (.cond (.tmp 130)
      (.skip)
      (.exit 2)))
  (.keep [0, 4, 6] (.seq (.block 3
      (.seq (.reg [co (some 7) (.assign (.const (.int .i64 0))) none] [0, 4, 6, 7])
      (.block 4
        (.loop l2_centolaw19_PairRises))))
  (.keep [0, 4, 6] (.reg [co (some 131) (.move (.tmp 6)) none,
    co (some 132) (.binOp .add 3 (.tmp 131) (.const (.int .i64 1)) 3) none,
    co (some 6) (.assign (.tmp 132)) none] [0, 4, 6]))))
/-- cento/centolaw19.PairRises -/
def c_centolaw19_PairRises : CC :=
  .seq (.reg [co (some 2) (.assign (.const (.bool false))) none] [0])
  (.seq (.seq (.reg [co (some 8) (.move (.tmp 0)) none,
        co (some 9) (.call { callee := (.value (.func 7)), args := #[(.tmp 8)], argTypes := #[22] }) none,
        co (some 10) (.unOp .not 4 (.tmp 9)) none] [0, 10])
    (.cond (.tmp 10)
      (.seq (.reg [co (some 11) (.call { callee := (.value (.func 8)), args := #[], argTypes := #[] }) none,
          co (some 2) (.assign (.tmp 11)) none] [2])
      (.ret))
      (.skip)))
  (.keep [0] (.seq (.reg [co (some 12) (.move (.tmp 0)) none,
      co (some 13) (.call { callee := (.value (.func 9)), args := #[(.tmp 12)], argTypes := #[22] }) none,
      co (some 3) (.assign (.tmp 13)) none] [0, 3])
  (.seq (.reg [co (some 4) (.assign (.const (.int .i64 0))) none] [0, 3, 4])
  (.seq (.seq (.reg [co (some 5) (.assign (.const (.int .i64 0))) none] [0, 3, 4, 5])
    (.block 0
      (.loop l1_centolaw19_PairRises)))
  (.keep [0, 4] (.seq (.seq (.reg [co (some 6) (.assign (.const (.int .i64 0))) none] [0, 4, 6])
    (.block 2
      (.loop l3_centolaw19_PairRises)))
  (.keep [] (.seq (.reg [co (some 155) (.call { callee := (.value (.func 8)), args := #[], argTypes := #[] }) none,
      co (some 2) (.assign (.tmp 155)) none] [2])
  (.ret))))))))))
theorem t_centolaw19_PairRises : Txt Try.prog 4 156 [(.tmp 2)] c_centolaw19_PairRises := txt_of (code := Try.f4.body.getD .ret) mixed (by kernel_rfl) Try.func4 (by kernel_rfl) Try.ntmps4 (by kernel_rfl) (ls := [([0], []), ([], []), ([0, 10], []), ([], []), ([2], []), ([], []), ([999999, 0], []), ([0, 3], []), ([], []), ([0, 3, 4], []), ([], []), ([0, 3, 4, 5], []), ([], []), ([0, 3, 4, 5, 17], []), ([], []), ([999999, 0, 3, 4, 5], []), ([0, 3, 4, 5, 49], []), ([], []), ([2], []), ([], []), ([999999, 0, 3, 4, 5], []), ([0, 3, 4, 5, 90], []), ([], []), ([2], []), ([], []), ([999999, 0, 3, 4, 5], []), ([0, 3, 4, 5, 107], []), ([], []), ([0, 3, 4, 5], []), ([999999, 0, 3, 4, 5], []), ([0, 3, 4, 5], []), ([999999, 0, 4], []), ([0, 4, 6], []), ([], []), ([0, 4, 6, 130], []), ([], []), ([999999, 0, 4, 6], []), ([0, 4, 6, 7], []), ([], []), ([0, 4, 6, 7, 143], []), ([], []), ([999999, 0, 4, 6, 7], []), ([0, 4, 6, 7, 154], []), ([], []), ([2], []), ([], []), ([999999, 0, 4, 6, 7], []), ([0, 4, 6, 7], []), ([999999, 0, 4, 6], []), ([0, 4, 6], []), ([999999], []), ([2], []), ([], [])]) (by kernel_rfl)
/-- cento/centolaw19.PairScores -/
def c_centolaw19_PairScores : CC :=
  .seq (.reg [cn (some 2) (.box 36 (.tmp 0)) none [0],
      cn (some 3) (.box 36 (.tmp 1)) none [1],
      co (some 4) (.assign (.const (.bool false))) none] [2, 3])
  (.seq (.seq (.reg [co (some 5) (.load 36 (.tmp 2)) none,
        co (some 6) (.call { callee := (.value (.func 11)), args := #[(.tmp 5)], argTypes := #[36] }) none,
        co (some 7) (.unOp .not 4 (.tmp 6)) none,
        co (some 8) (.move (.tmp 7)) none,
        co (some 9) (.load 36 (.tmp 3)) (some (8, false)),
        co (some 10) (.call { callee := (.value (.func 11)), args := #[(.tmp 9)], argTypes := #[36] }) (some (8, false)),
        co (some 11) (.unOp .not 4 (.tmp 10)) (some (8, false)),
        co (some 12) (.pick (.tmp 8) (.const (.bool true)) (.tmp 11)) none] [2, 3, 12])
    (.cond (.tmp 12)
      (.seq (.reg [co (some 13) (.call { callee := (.value (.func 8)), args := #[], argTypes := #[] }) none,
          co (some 4) (.assign (.tmp 13)) none] [4])
      (.ret))
      (.skip)))
  (.keep [2, 3] (.seq (.reg [co (some 14) (.load 36 (.tmp 2)) none,
      co (some 15) (.load 36 (.tmp 3)) none,
      ⟨some 16, (.call { callee := (.value (.func 12)), args := #[(.tmp 14), (.tmp 15)], argTypes := #[36, 36] }), none, [], 2, [], true⟩,
      ⟨some 17, (.load 36 (.tmp 2)), none, [], 3, [2], false⟩,
      ⟨some 18, (.load 36 (.tmp 3)), none, [], 4, [2], false⟩,
      co (some 19) (.call { callee := (.value (.func 13)), args := #[(.tmp 17), (.tmp 18)], argTypes := #[36, 36] }) none,
      co (some 20) (.binOp .eql 3 (.tmp 16) (.tmp 19) 3) none,
      co (some 21) (.move (.tmp 20)) none,
      co (some 22) (.load 36 (.tmp 3)) (some (21, true)),
      co (some 23) (.load 36 (.tmp 2)) (some (21, true)),
      ⟨some 24, (.call { callee := (.value (.func 12)), args := #[(.tmp 22), (.tmp 23)], argTypes := #[36, 36] }), (some (21, true)), [], 10, [], true⟩,
      ⟨some 25, (.load 36 (.tmp 2)), (some (21, true)), [], 11, [10], false⟩,
      ⟨some 26, (.load 36 (.tmp 3)), (some (21, true)), [], 12, [10], false⟩,
      co (some 27) (.call { callee := (.value (.func 13)), args := #[(.tmp 25), (.tmp 26)], argTypes := #[36, 36] }) (some (21, true)),
      co (some 28) (.binOp .eql 3 (.tmp 24) (.tmp 27) 3) (some (21, true)),
      co (some 29) (.pick (.tmp 21) (.tmp 28) (.const (.bool false))) none,
      co (some 30) (.move (.tmp 29)) none,
      co (some 31) (.call { callee := (.value (.func 8)), args := #[], argTypes := #[] }) (some (30, true)),
      co (some 32) (.pick (.tmp 30) (.tmp 31) (.const (.bool false))) none,
      co (some 4) (.assign (.tmp 32)) none] [4])
  (.ret))))
theorem t_centolaw19_PairScores : Txt Try.prog 5 33 [(.tmp 4)] c_centolaw19_PairScores := txt_of (code := Try.f5.body.getD .ret) mixed (by kernel_rfl) Try.func5 (by kernel_rfl) Try.ntmps5 (by kernel_rfl) (ls := [([2, 3], [(0, [0]), (1, [1])]), ([], []), ([2, 3, 12], []), ([], []), ([4], []), ([], []), ([999999, 2, 3], []), ([4], []), ([], [])]) (by kernel_rfl)
end Go.Proofs.Ytmeldaflhkiopaa

/-
  Chapter 4's functions: what each answers.
-/
namespace Go.Proofs.Ytmeldaflhkiopaa
set_option linter.unusedVariables false
set_option linter.unusedSimpArgs false
open Go Go.G Go.Proofs
abbrev iv (n : Int) : A := .v (.int .i64 n)
abbrev uv (n : Int) : A := .v (.int .u64 n)
abbrev bv (b : Bool) : A := .v (.bool b)
theorem i64_same {n : Int} (h0 : -9223372036854775808 ≤ n) (h1 : n < 9223372036854775808) : IntKind.i64.wrap n = n := by rw [IntKind.wrap_i64]; omega
theorem u64_same {n : Int} (h0 : 0 ≤ n) (h1 : n < 18446744073709551616) : IntKind.u64.wrap n = n := by rw [IntKind.wrap_u64]; omega
/-- A pointer, as numbers. -/
structure Pt where
  (kind off data ptrs code count seg : Int)
  dbl : Bool
deriving DecidableEq
@[simp] def Pt.a (p : Pt) : A := .agg [iv p.kind, iv p.off, iv p.data, iv p.ptrs, iv p.code, iv p.count, iv p.seg, bv p.dbl]
/-- The offset in a word's lower half. -/
def offs (w : Int) : Int := if w / 4 % 1073741824 < 536870912 then w / 4 % 1073741824 else w / 4 % 1073741824 - 1073741824
/-- A word's pointer. -/
def dec (w : Int) : Pt :=
  if w = 0 then ⟨0, 0, 0, 0, 0, 0, 0, false⟩
  else if w % 4 = 0 then ⟨1, offs w, w / 4294967296 % 65536, w / 281474976710656, 0, 0, 0, false⟩
  else if w % 4 = 1 then ⟨2, offs w, 0, 0, w / 4294967296 % 8, w / 34359738368, 0, false⟩
  else if w % 4 = 2 then ⟨3, w / 8 % 536870912, 0, 0, 0, 0, w / 4294967296, decide (w / 4 % 2 = 1)⟩
  else ⟨4, 0, 0, 0, 0, 0, 0, false⟩
end Go.Proofs.Ytmeldaflhkiopaa

/-
  Plain: trees, and what the document says of them.
-/
namespace Go.PL
set_option linter.unusedVariables false
set_option linter.unusedSimpArgs false
inductive T where
  | mk (kind : Int) (words : List Int) (kids : List T)
  deriving Inhabited
namespace T
def kind : T → Int | mk k _ _ => k
def words : T → List Int | mk _ w _ => w
def kids : T → List T | mk _ _ l => l
@[simp] theorem kind_mk {k : Int} {w : List Int} {l : List T} : (mk k w l).kind = k := rfl
@[simp] theorem words_mk {k : Int} {w : List Int} {l : List T} : (mk k w l).words = w := rfl
@[simp] theorem kids_mk {k : Int} {w : List Int} {l : List T} : (mk k w l).kids = l := rfl
end T
theorem snocInd {α : Type} {P : List α → Prop} (h0 : P []) (h1 : ∀ l x, P l → P (l ++ [x])) (l : List α) : P l := by
  have : ∀ m : List α, P m.reverse := by
    intro m
    induction m with
    | nil => exact h0
    | cons x m ih => rw [List.reverse_cons]; exact h1 _ _ ih
  have h := this l.reverse
  rwa [List.reverse_reverse] at h
abbrev T0 : T := .mk 0 [] []
mutual
theorem T.ind {P : T → Prop} (h : ∀ k w l, (∀ t, t ∈ l → P t) → P (.mk k w l)) : ∀ t, P t
  | .mk k w l => h k w l (T.indL h l)
theorem T.indL {P : T → Prop} (h : ∀ k w l, (∀ t, t ∈ l → P t) → P (.mk k w l)) : ∀ (l : List T), ∀ t, t ∈ l → P t
  | [], t, ht => nomatch ht
  | x :: l, t, ht => by
    rcases List.mem_cons.1 ht with e | ht
    · rw [e]; exact T.ind h x
    · exact T.indL h l t ht
end
/-! ### the Norm -/
/-- Without what is nothing at the end. -/
def trimW (l : List Int) : List Int := (l.reverse.dropWhile (fun x => x == 0)).reverse
def trimK (l : List T) : List T := (l.reverse.dropWhile (fun x => x.kind == 0)).reverse
mutual
def norm : T → T
  | .mk k w l => if k = 0 then T0 else if k = 1 then .mk 1 (trimW w) (trimK (normL l)) else .mk k w (normL l)
def normL : List T → List T
  | [] => []
  | t :: l => norm t :: normL l
end
@[simp] theorem normL_map : ∀ l, normL l = l.map norm
  | [] => by simp [normL]
  | t :: l => by simp [normL, normL_map l]
theorem norm_mk (k : Int) (w : List Int) (l : List T) : norm (.mk k w l) = if k = 0 then T0 else if k = 1 then .mk 1 (trimW w) (trimK (l.map norm)) else .mk k w (l.map norm) := by simp [norm]
@[simp] theorem norm_kind (t : T) : (norm t).kind = t.kind := by
  cases t; rw [norm_mk]; split
  · rename_i h; rw [h]; rfl
  · split
    · rename_i h; rw [h]; rfl
    · rfl
@[simp] theorem trimW_nil : trimW [] = [] := rfl
@[simp] theorem trimK_nil : trimK [] = [] := rfl
theorem trimW_snoc (l : List Int) (x : Int) : trimW (l ++ [x]) = if x = 0 then trimW l else l ++ [x] := by
  unfold trimW; simp [List.dropWhile_cons]; split <;> simp
theorem trimK_snoc (l : List T) (x : T) : trimK (l ++ [x]) = if x.kind = 0 then trimK l else l ++ [x] := by
  unfold trimK
  by_cases h : x.kind = 0 <;> simp [List.dropWhile_cons, h]
theorem trimW_le (l : List Int) : (trimW l).length ≤ l.length := by
  unfold trimW; simp; have := (List.dropWhile_sublist (fun x : Int => x == 0) (l := l.reverse)).length_le; simpa using this
theorem trimK_le (l : List T) : (trimK l).length ≤ l.length := by
  unfold trimK; simp; have := (List.dropWhile_sublist (fun x : T => x.kind == 0) (l := l.reverse)).length_le; simpa using this
theorem trimW_take (l : List Int) : trimW l = l.take (trimW l).length := by
  induction l using snocInd with
  | h0 => rfl
  | h1 l x ih =>
    rw [trimW_snoc]
    split
    · rw [List.take_append_of_le_length (trimW_le l)]; exact ih
    · rw [List.take_of_length_le (Nat.le_refl _)]
theorem trimK_take (l : List T) : trimK l = l.take (trimK l).length := by
  induction l using snocInd with
  | h0 => rfl
  | h1 l x ih =>
    rw [trimK_snoc]
    split
    · rw [List.take_append_of_le_length (trimK_le l)]; exact ih
    · rw [List.take_of_length_le (Nat.le_refl _)]
/-! ### how many words a tree takes -/
/- As the program counts it. -/
/-! ### which trees may be -/
def widthZ (c : Int) : Int := if c = 0 then 0 else if c = 1 then 1 else if c = 2 then 8 else if c = 3 then 16 else if c = 4 then 32 else if c = 5 then 64 else -1
/- No deeper, and no more parts: what is left. -/
mutual
def shallow : Nat → Int → T → Int
  | d, n, .mk _ w l => if d = 0 ∨ n - 1 - w.length < 0 then -1 else shallowL (d - 1) (n - 1 - w.length) l
def shallowL : Nat → Int → List T → Int
  | _, n, [] => n
  | d, n, t :: l => if n < 0 then n else shallowL d (shallow d n t) l
end
theorem shallow_mk (d : Nat) (n : Int) (k : Int) (w : List Int) (l : List T) : shallow d n (.mk k w l) = if d = 0 ∨ n - 1 - w.length < 0 then -1 else shallowL (d - 1) (n - 1 - w.length) l := by rw [shallow]
@[simp] theorem shallowL_nil (d : Nat) (n : Int) : shallowL d n [] = n := by rw [shallowL]
@[simp] theorem shallowL_cons (d : Nat) (n : Int) (t : T) (l : List T) : shallowL d n (t :: l) = if n < 0 then n else shallowL d (shallow d n t) l := by rw [shallowL]
/-! ### the program's size is the document's, of a right tree's Norm -/
end Go.PL

/-
  Plain: edits, which ones are right, their trees, and how many words they take.
-/
namespace Go.PL
set_option linter.unusedVariables false
set_option linter.unusedSimpArgs false
structure WE where
  at_ : Int
  mask : Int
  old : Int
  new : Int
mutual
inductive E where
  | mk (kind : Int) (old new : T) (words : List WE) (kids : List KE) (list : Int) (ops : List OP)
inductive KE where
  | mk (at_ : Int) (e : E)
inductive OP where
  | mk (kind n : Int) (l : List T) (e : E)
end
namespace E
def kind : E → Int | mk k _ _ _ _ _ _ => k
def old : E → T | mk _ o _ _ _ _ _ => o
def new : E → T | mk _ _ n _ _ _ _ => n
def words : E → List WE | mk _ _ _ w _ _ _ => w
def kids : E → List KE | mk _ _ _ _ k _ _ => k
def list : E → Int | mk _ _ _ _ _ l _ => l
def ops : E → List OP | mk _ _ _ _ _ _ o => o
variable {k l : Int} {o n : T} {w : List WE} {ks : List KE} {os : List OP}
@[simp] theorem kind_mk : (mk k o n w ks l os).kind = k := rfl
@[simp] theorem old_mk : (mk k o n w ks l os).old = o := rfl
@[simp] theorem new_mk : (mk k o n w ks l os).new = n := rfl
@[simp] theorem words_mk : (mk k o n w ks l os).words = w := rfl
@[simp] theorem kids_mk : (mk k o n w ks l os).kids = ks := rfl
@[simp] theorem list_mk : (mk k o n w ks l os).list = l := rfl
@[simp] theorem ops_mk : (mk k o n w ks l os).ops = os := rfl
end E
namespace KE
def at_ : KE → Int | mk a _ => a
def e : KE → E | mk _ e => e
@[simp] theorem at_mk {a : Int} {e : E} : (mk a e).at_ = a := rfl
@[simp] theorem e_mk {a : Int} {e : E} : (mk a e).e = e := rfl
end KE
namespace OP
def kind : OP → Int | mk k _ _ _ => k
def n : OP → Int | mk _ n _ _ => n
def l : OP → List T | mk _ _ l _ => l
def e : OP → E | mk _ _ _ e => e
variable {k m : Int} {t : List T} {x : E}
@[simp] theorem kind_mk : (mk k m t x).kind = k := rfl
@[simp] theorem n_mk : (mk k m t x).n = m := rfl
@[simp] theorem l_mk : (mk k m t x).l = t := rfl
@[simp] theorem e_mk : (mk k m t x).e = x := rfl
end OP
mutual
theorem E.ind {P : E → Prop} (h : ∀ k o n w ks l os, (∀ x, x ∈ ks → P x.e) → (∀ x, x ∈ os → P x.e) → P (.mk k o n w ks l os)) : ∀ e, P e
  | .mk k o n w ks l os => h k o n w ks l os (E.indK h ks) (E.indO h os)
theorem E.indK {P : E → Prop} (h : ∀ k o n w ks l os, (∀ x, x ∈ ks → P x.e) → (∀ x, x ∈ os → P x.e) → P (.mk k o n w ks l os)) : ∀ (ks : List KE), ∀ x, x ∈ ks → P x.e
  | [], _, hx => nomatch hx
  | .mk a e :: ks, x, hx => by
    rcases List.mem_cons.1 hx with q | hx
    · rw [q]; exact E.ind h e
    · exact E.indK h ks x hx
theorem E.indO {P : E → Prop} (h : ∀ k o n w ks l os, (∀ x, x ∈ ks → P x.e) → (∀ x, x ∈ os → P x.e) → P (.mk k o n w ks l os)) : ∀ (os : List OP), ∀ x, x ∈ os → P x.e
  | [], _, hx => nomatch hx
  | .mk a n l e :: os, x, hx => by
    rcases List.mem_cons.1 hx with q | hx
    · rw [q]; exact E.ind h e
    · exact E.indO h os x hx
end
/-! ### which edits are right -/
/- How many parts are left behind an edit; below 0: it has more, or is deeper. -/
/-! ### the tree of an edit -/
/-! ### how many words an edit takes -/
end Go.PL

/-
  Plain: what counts at the end of words and kids; what trees that mean the same have.
-/
namespace Go.PL
set_option linter.unusedVariables false
set_option linter.unusedSimpArgs false
theorem trimW_zero {w : List Int} {n : Nat} (h : n < w.length) (h0 : w[n] = 0) : trimW (w.take (n + 1)) = trimW (w.take n) := by
  rw [List.take_succ_eq_append_getElem h, trimW_snoc, if_pos h0]
theorem trimW_stop {w : List Int} {n : Nat} (h : n < w.length) (h0 : w[n] ≠ 0) : trimW (w.take (n + 1)) = w.take (n + 1) := by
  rw [List.take_succ_eq_append_getElem h, trimW_snoc, if_neg h0]
theorem trimK_zero {w : List T} {n : Nat} (h : n < w.length) (h0 : w[n].kind = 0) : trimK (w.take (n + 1)) = trimK (w.take n) := by
  rw [List.take_succ_eq_append_getElem h, trimK_snoc, if_pos h0]
theorem trimK_stop {w : List T} {n : Nat} (h : n < w.length) (h0 : w[n].kind ≠ 0) : trimK (w.take (n + 1)) = w.take (n + 1) := by
  rw [List.take_succ_eq_append_getElem h, trimK_snoc, if_neg h0]
theorem trimK_map_len (l : List T) : (trimK (l.map norm)).length = (trimK l).length := by
  induction l using snocInd with
  | h0 => rfl
  | h1 l x ih =>
    rw [List.map_append, List.map_cons, List.map_nil, trimK_snoc, trimK_snoc, norm_kind]
    split
    · exact ih
    · simp
theorem trimK_map (l : List T) : trimK (l.map norm) = (l.map norm).take (trimK l).length := by
  rw [← trimK_map_len]; exact trimK_take _
theorem T.ext' {t u : T} (h1 : t.kind = u.kind) (h2 : t.words = u.words) (h3 : t.kids = u.kids) : t = u := by
  cases t; cases u; simp at h1 h2 h3; rw [h1, h2, h3]
/-- They are the same. -/
noncomputable def sameB (t u : T) : Bool := by classical exact decide (t = u)
theorem sameB_iff {t u : T} : sameB t u = true ↔ t = u := by simp [sameB]
noncomputable def eqT (t u : T) : Bool := sameB (norm t) (norm u)
theorem eqT_iff {t u : T} : eqT t u = true ↔ norm t = norm u := sameB_iff
end Go.PL

/-
  Trees and edits as the program's values.
-/
namespace Go.Proofs.Ytmeldaflhkiopaa
set_option linter.unusedVariables false
set_option linter.unusedSimpArgs false
open Go Go.G Go.Proofs Go.PL
/-- A call that is not made. -/
theorem sc_call_off {P : Program} {K : Sta → Prop} {rest : List CO} {s : Nat → A} {H : Hp} {dd : Option Nat} {k : Nat} {f : Bool} {nm : Nm} {ix : Nat} {un : List Nat} {l : Bool} {lg : Lg} {g : FuncId} {aa : Array Operand} {ts : Array TypeId}
    (hq : wantA (s k) f = some false) (h : SeqC P K rest (addL l ix ⟨[], []⟩ lg) (Sta.put ⟨s, H⟩ dd (.v undef) H)) :
    SeqC P K (⟨dd, .call { callee := .value (.func g), args := aa, argTypes := ts }, some (k, f), nm, ix, un, l⟩ :: rest) lg ⟨s, H⟩ :=
  sc_call_g (q := false) (x := .any) hq (fun e => by cases e) h
abbrev uws (l : List Int) : A := .sl false (l.map uv)
abbrev ivs (l : List Int) : A := .sl false (l.map iv)
abbrev u8 (n : Int) : A := .v (.int .u8 n)
mutual
def tC : T → List A
  | .mk k w l => [iv k, uws w, .sl false (tCs l)]
def tCs : List T → List A
  | [] => []
  | t :: l => .agg (tC t) :: tCs l
end
def tA (t : T) : A := .agg (tC t)
abbrev tKs (l : List T) : A := .sl false (l.map tA)
abbrev tX (t : T) : A := .agg [iv t.kind, uws t.words, tKs t.kids]
theorem tCs_map : ∀ l, tCs l = l.map tA
  | [] => by rw [tCs]; rfl
  | t :: l => by rw [tCs, tCs_map l]; rfl
theorem tC_eq (t : T) : tC t = [iv t.kind, uws t.words, tKs t.kids] := by cases t; rw [tC, tCs_map]; rfl
@[simp] theorem tA_eq (t : T) : tA t = tX t := by rw [tA, tC_eq]
def wA (w : WE) : A := .agg [iv w.at_, u8 w.mask, uv w.old, uv w.new]
abbrev wX (w : WE) : A := .agg [iv w.at_, u8 w.mask, uv w.old, uv w.new]
@[simp] theorem wA_eq (w : WE) : wA w = wX w := rfl
@[simp] theorem lens_uv (l : List Int) : lens 1 (l.map uv) = true := by simp [lens]
@[simp] theorem lens_iv (l : List Int) : lens 1 (l.map iv) = true := by simp [lens]
@[simp] theorem lens_tA (l : List T) : lens 3 (l.map tA) = true := by simp [lens]
@[simp] theorem lens_wA (l : List WE) : lens 4 (l.map wA) = true := by simp [lens]
theorem lens_all {n : Nat} {l : List A} : lens n l = true ↔ ∀ x, x ∈ l → x.cells.length = n := by simp [lens]
@[simp] theorem lens_take {n k : Nat} {l : List A} (h : lens n l = true) : lens n (l.take k) = true := by
  rw [lens_all] at h ⊢
  exact fun x hx => h x (List.mem_of_mem_take hx)
@[simp] theorem lens_drop {n k : Nat} {l : List A} (h : lens n l = true) : lens n (l.drop k) = true := by
  rw [lens_all] at h ⊢
  exact fun x hx => h x (List.mem_of_mem_drop hx)
/-- A row of the call's own, read. -/
theorem frz_row {α : Type} {H : Hp} {o : Nm} {u n sz : Nat} {l : List α} {f : α → A} (h : vr (H o) u = some (sz, l.map f)) (hn : n = l.length) (hf : ∀ x, ((f x).cells.length == sz && (f x).cells.all fun y => A.bare1 y && y.one) = true) : Frz H (.osl o u sz 0 n) (.sl false (l.map f)) := by
  subst hn
  have := frz_osl (H := H) (o := o) (u := u) (off := 0) (len := l.length) (sz := sz) (xs := l.map f) (by simpa using h) (by simp) (by
    simp only [List.drop_zero]
    rw [List.take_of_length_le (by simp), List.all_map, List.all_eq_true]
    exact fun x _ => hf x)
  simp [List.take_of_length_le] at this
  exact this
theorem frz_rowT {α : Type} {H : Hp} {o : Nm} {u n sz : Nat} {l : List α} {f : α → A} (h : vr (H o) u = some (sz, l.map f)) (hn : n ≤ l.length) (hf : ∀ x, ((f x).cells.length == sz && (f x).cells.all fun y => A.bare1 y && y.one) = true) : Frz H (.osl o u sz 0 n) (.sl false ((l.take n).map f)) := by
  have := frz_osl (H := H) (o := o) (u := u) (off := 0) (len := n) (sz := sz) (xs := l.map f) (by simpa using h) (by simpa using hn) (by
    simp only [List.drop_zero]
    rw [← List.map_take, List.all_map, List.all_eq_true]
    exact fun x _ => hf x)
  simpa using this
theorem row_succ {α : Type} {f : α → A} {l : List α} {i : Nat} (h : i < l.length) {x : A} (hx : f l[i] = x) : List.take i (List.take i (l.map f)) ++ [x] = (l.take (i + 1)).map f := by
  rw [List.take_take, Nat.min_self, List.take_succ_eq_append_getElem h, List.map_append, List.map_take, ← hx]; rfl
theorem frz_T0 {H : Hp} : Frz H (.agg [iv 0, .sl true [], .sl true []]) (tX T0) := frz_agg (by simp; exact ⟨frz_bare rfl, frz_sl, frz_sl⟩)
/-! ### sums, whatever is turned round -/
/-! ### sizes that memory has -/
def i64R (n : Int) : Prop := -9223372036854775808 ≤ n ∧ n < 9223372036854775808
def u64R (n : Int) : Prop := 0 ≤ n ∧ n < 18446744073709551616
mutual
def wfT : T → Prop
  | .mk k w l => i64R k ∧ (∀ x, x ∈ w → u64R x) ∧ w.length * 8 ≤ 140737488355328 ∧ l.length * 56 ≤ 140737488355328 ∧ wfTs l
def wfTs : List T → Prop
  | [] => True
  | t :: l => wfT t ∧ wfTs l
end
theorem wfTs_all : ∀ {l : List T}, wfTs l ↔ ∀ t, t ∈ l → wfT t
  | [] => by simp [wfTs]
  | t :: l => by simp [wfTs, wfTs_all (l := l)]
structure WfT (t : T) : Prop where
  k : i64R t.kind
  w : ∀ x, x ∈ t.words → u64R x
  wl : t.words.length * 8 ≤ 140737488355328
  kl : t.kids.length * 56 ≤ 140737488355328
  ks : ∀ x, x ∈ t.kids → wfT x
theorem wfT_iff {t : T} : wfT t ↔ WfT t := by
  cases t; rw [wfT, wfTs_all]
  exact ⟨fun ⟨a, b, c, d, e⟩ => ⟨a, b, c, d, e⟩, fun ⟨a, b, c, d, e⟩ => ⟨a, b, c, d, e⟩⟩
def WE.wf (w : WE) : Prop := i64R w.at_ ∧ (0 ≤ w.mask ∧ w.mask < 256) ∧ u64R w.old ∧ u64R w.new
end Go.Proofs.Ytmeldaflhkiopaa

/-
  Plain: heaps of scored pairs.
-/
namespace Go.PL
set_option linter.unusedVariables false
set_option linter.unusedSimpArgs false
/-- A scored pair. -/
structure Sc where
  i : Nat
  j : Nat
  n : Int
  deriving DecidableEq
def sc0 : Sc := ⟨0, 0, 0⟩
/-- Is a pair taken ahead of another one? -/
def aheadB (a b : Sc) : Bool := decide (b.n < a.n) || (decide (a.n = b.n) && (decide (a.i < b.i) || (decide (a.i = b.i) && decide (a.j < b.j))))
def swL (l : List Sc) (i j : Nat) : List Sc := (l.set i (l.getD j sc0)).set j (l.getD i sc0)
@[simp] theorem swL_len {l : List Sc} {i j : Nat} : (swL l i j).length = l.length := by simp [swL]
def upL : Nat → List Sc → Nat → List Sc
  | 0, l, _ => l
  | f + 1, l, j => if (j - 1) / 2 = j ∨ aheadB (l.getD j sc0) (l.getD ((j - 1) / 2) sc0) = false then l else upL f (swL l ((j - 1) / 2) j) ((j - 1) / 2)
def kidL (l : List Sc) (i n : Nat) : Nat := if 2 * i + 2 < n ∧ aheadB (l.getD (2 * i + 2) sc0) (l.getD (2 * i + 1) sc0) = true then 2 * i + 2 else 2 * i + 1
def downL : Nat → List Sc → Nat → Nat → List Sc × Nat
  | 0, l, i, _ => (l, i)
  | f + 1, l, i, n => if n ≤ 2 * i + 1 then (l, i) else if aheadB (l.getD (kidL l i n) sc0) (l.getD i sc0) = true then downL f (swL l i (kidL l i n)) (kidL l i n) n else (l, i)
theorem upL_len : ∀ (f : Nat) (l : List Sc) (j : Nat), (upL f l j).length = l.length
  | 0, l, j => rfl
  | f + 1, l, j => by
    unfold upL
    split
    · rfl
    · rw [upL_len f]; simp
theorem downL_len : ∀ (f : Nat) (l : List Sc) (i n : Nat), (downL f l i n).1.length = l.length
  | 0, l, i, n => rfl
  | f + 1, l, i, n => by
    unfold downL
    split
    · rfl
    · split
      · rw [downL_len f]; simp
      · rfl
end Go.PL

/-
  Plain: what a heap keeps.
-/
namespace Go.PL
set_option linter.unusedVariables false
set_option linter.unusedSimpArgs false
open List
theorem ahead_iff {a b : Sc} : aheadB a b = true ↔ b.n < a.n ∨ (a.n = b.n ∧ (a.i < b.i ∨ (a.i = b.i ∧ a.j < b.j))) := by
  unfold aheadB
  simp
theorem ahead_not {a b : Sc} : aheadB a b = false ↔ a.n < b.n ∨ (a.n = b.n ∧ (b.i < a.i ∨ (a.i = b.i ∧ b.j ≤ a.j))) := by
  rw [Bool.eq_false_iff, ne_eq, ahead_iff]
  omega
theorem ahead_irr (a : Sc) : aheadB a a = false := by rw [ahead_not]; omega
theorem ahead_asym {a b : Sc} (h : aheadB a b = true) : aheadB b a = false := by
  rw [ahead_iff] at h; rw [ahead_not]; omega
/-- Not behind, not behind: not behind. -/
theorem nb_trans {a b c : Sc} (h1 : aheadB b a = false) (h2 : aheadB c b = false) : aheadB c a = false := by
  rw [ahead_not] at h1 h2 ⊢; omega
theorem ahead_tot {a b : Sc} (h1 : aheadB a b = false) (h2 : aheadB b a = false) : a = b := by
  rw [ahead_not] at h1 h2
  obtain ⟨i, j, n⟩ := a
  obtain ⟨i', j', n'⟩ := b
  simp at h1 h2 ⊢
  omega
abbrev gt (l : List Sc) (k : Nat) : Sc := l.getD k sc0
theorem swL_get {l : List Sc} {i j : Nat} (hi : i < l.length) (hj : j < l.length) (k : Nat) : gt (swL l i j) k = if k = j then gt l i else if k = i then gt l j else gt l k := by
  unfold gt swL
  simp only [List.getD_eq_getElem?_getD, List.getElem?_set, List.length_set]
  by_cases h1 : k = j
  · subst h1; simp [hj]
  · rw [if_neg (fun e => h1 e.symm)]
    by_cases h2 : k = i
    · subst h2; simp [h1, hi]
    · rw [if_neg (fun e => h2 e.symm)]; simp [h1, h2]
theorem swL_perm {l : List Sc} {i j : Nat} (hi : i < l.length) (hj : j < l.length) : swL l i j ~ l := by
  unfold swL
  rw [List.getD_eq_getElem?_getD, List.getD_eq_getElem?_getD, List.getElem?_eq_getElem hi, List.getElem?_eq_getElem hj]
  exact List.set_set_perm hi hj
/-- A heap: none is ahead of the one above it. -/
def HeapL (l : List Sc) (n : Nat) : Prop := ∀ k, 0 < k → k < n → aheadB (gt l k) (gt l ((k - 1) / 2)) = false
theorem heap_min {l : List Sc} {n : Nat} (h : HeapL l n) : ∀ k, k < n → aheadB (gt l k) (gt l 0) = false := by
  intro k
  induction k using Nat.strongRecOn with
  | _ k ih =>
    intro hk
    by_cases h0 : k = 0
    · subst h0; exact ahead_irr _
    · exact nb_trans (ih ((k - 1) / 2) (by omega) (by omega)) (h k (by omega) hk)
/-! ### up -/
def UpInv (l : List Sc) (n j : Nat) : Prop := (∀ k, 0 < k → k < n → k ≠ j → aheadB (gt l k) (gt l ((k - 1) / 2)) = false) ∧ (∀ k, 0 < k → k < n → (k - 1) / 2 = j → 0 < j → aheadB (gt l k) (gt l ((j - 1) / 2)) = false)
theorem up_ok : ∀ (f : Nat) (l : List Sc) (j : Nat), j < f → j < l.length → UpInv l l.length j → HeapL (upL f l j) l.length ∧ upL f l j ~ l
  | 0, l, j, hf, _, _ => by omega
  | f + 1, l, j, hf, hj, ⟨h1, h2⟩ => by
    unfold upL
    split
    · rename_i hc
      refine ⟨fun k hk hk2 => ?_, Perm.refl _⟩
      by_cases e : k = j
      · subst e
        rcases hc with hc | hc
        · omega
        · exact hc
      · exact h1 k hk hk2 e
    · rename_i hc
      have hij : ¬ (j - 1) / 2 = j := fun e => hc (.inl e)
      have hA : aheadB (gt l j) (gt l ((j - 1) / 2)) = true := by
        cases hq : aheadB (gt l j) (gt l ((j - 1) / 2)) with
        | true => rfl
        | false => exact (hc (.inr hq)).elim
      obtain ⟨i, hi⟩ : ∃ i, i = (j - 1) / 2 := ⟨_, rfl⟩
      rw [← hi] at hij hA h2 ⊢
      have hil : i < l.length := by omega
      have hlt : i < j := by omega
      have ih := up_ok f (swL l i j) i (by omega) (by simp; omega) ⟨fun k hk hk2 hne => ?_, fun k hk hk2 hp h0 => ?_⟩
      · simp only [swL_len] at ih
        exact ⟨ih.1, ih.2.trans (swL_perm hil hj)⟩
      · simp only [swL_len] at hk2
        rw [swL_get hil hj, swL_get hil hj]
        by_cases e1 : k = j
        · subst e1
          rw [if_pos rfl, ← hi, if_neg (by omega), if_pos rfl]
          exact ahead_asym hA
        · rw [if_neg e1, if_neg hne]
          by_cases e2 : (k - 1) / 2 = j
          · rw [if_pos e2]
            exact h2 k hk hk2 e2 (by omega)
          · rw [if_neg e2]
            by_cases e3 : (k - 1) / 2 = i
            · rw [if_pos e3]
              have := h1 k hk hk2 e1
              rw [e3] at this
              exact nb_trans (ahead_asym hA) this
            · rw [if_neg e3]
              exact h1 k hk hk2 e1
      · simp only [swL_len] at hk2
        rw [swL_get hil hj, swL_get hil hj]
        have hpi := h1 i h0 hil (by omega)
        rw [if_neg (by omega : ¬ (i - 1) / 2 = j), if_neg (by omega : ¬ (i - 1) / 2 = i)]
        by_cases e1 : k = j
        · rw [if_pos e1]; exact hpi
        · rw [if_neg e1, if_neg (by omega : ¬ k = i)]
          have := h1 k hk hk2 e1
          rw [hp] at this
          exact nb_trans hpi this
theorem push_ok {l : List Sc} (h : HeapL l l.length) (x : Sc) : HeapL (upL (l.length + 1) (l ++ [x]) l.length) (l.length + 1) ∧ upL (l.length + 1) (l ++ [x]) l.length ~ x :: l := by
  have hg : ∀ k, k < l.length → gt (l ++ [x]) k = gt l k := fun k hk => by
    unfold gt
    rw [List.getD_eq_getElem?_getD, List.getD_eq_getElem?_getD, List.getElem?_append_left hk]
  have := up_ok (l.length + 1) (l ++ [x]) l.length (by omega) (by simp) ⟨fun k hk hk2 hne => ?_, fun k hk hk2 hp h0 => ?_⟩
  · simp only [List.length_append, List.length_singleton] at this
    exact ⟨this.1, this.2.trans (List.perm_append_singleton x l)⟩
  · simp at hk2
    rw [hg k (by omega), hg _ (by omega)]
    exact h k hk (by omega)
  · simp at hk2; omega
/-! ### down -/
def DownInv (l : List Sc) (n i : Nat) : Prop := (∀ k, 0 < k → k < n → (k - 1) / 2 ≠ i → aheadB (gt l k) (gt l ((k - 1) / 2)) = false) ∧ (∀ k, 0 < k → k < n → (k - 1) / 2 = i → 0 < i → aheadB (gt l k) (gt l ((i - 1) / 2)) = false)
theorem kid_facts {l : List Sc} {i n : Nat} (h : 2 * i + 1 < n) : kidL l i n < n ∧ (kidL l i n - 1) / 2 = i ∧ i < kidL l i n ∧ ∀ k, 0 < k → k < n → (k - 1) / 2 = i → aheadB (gt l k) (gt l (kidL l i n)) = false := by
  unfold kidL
  split
  · rename_i hc
    refine ⟨hc.1, by omega, by omega, fun k hk hk2 hp => ?_⟩
    have : k = 2 * i + 1 ∨ k = 2 * i + 2 := by omega
    rcases this with rfl | rfl
    · exact ahead_asym hc.2
    · exact ahead_irr _
  · rename_i hc
    refine ⟨h, by omega, by omega, fun k hk hk2 hp => ?_⟩
    have : k = 2 * i + 1 ∨ k = 2 * i + 2 := by omega
    rcases this with rfl | rfl
    · exact ahead_irr _
    · cases hq : aheadB (gt l (2 * i + 2)) (gt l (2 * i + 1)) with
      | false => rfl
      | true => exact (hc ⟨hk2, hq⟩).elim
theorem down_ok : ∀ (f : Nat) (l : List Sc) (i n : Nat), n ≤ l.length → i < l.length → n < i + f → DownInv l n i → HeapL (downL f l i n).1 n ∧ (downL f l i n).1 ~ l ∧ ∀ k, n ≤ k → gt (downL f l i n).1 k = if k = i then gt (downL f l i n).1 i else gt l k
  | 0, l, i, n, hn, hil, hf, ⟨h1, h2⟩ => by
    refine ⟨fun k hk hk2 => h1 k hk hk2 (by omega), Perm.refl _, fun k hk => ?_⟩
    show gt l k = if k = i then gt l i else gt l k
    split
    · rename_i e; rw [e]
    · rfl
  | f + 1, l, i, n, hn, hil, hf, ⟨h1, h2⟩ => by
    have same : ∀ k : Nat, gt l k = if k = i then gt l i else gt l k := fun k => by
      split
      · rename_i e; rw [e]
      · rfl
    unfold downL
    split
    · refine ⟨fun k hk hk2 => h1 k hk hk2 (by omega), Perm.refl _, fun k _ => same k⟩
    · rename_i hlt
      obtain ⟨c1, c2, c3, c4⟩ := kid_facts (l := l) (i := i) (n := n) (by omega)
      split
      · rename_i hA
        generalize kidL l i n = c at *
        have hcl : c < l.length := by omega
        have ih := down_ok f (swL l i c) c n (by simp; omega) (by simp; omega) (by omega) ⟨fun k hk hk2 hne => ?_, fun k hk hk2 hp h0 => ?_⟩
        · refine ⟨ih.1, ih.2.1.trans (swL_perm hil hcl), fun k hk => ?_⟩
          rw [ih.2.2 k hk, if_neg (by omega : ¬ k = c), swL_get hil hcl, if_neg (by omega : ¬ k = c)]
          by_cases e : k = i
          · subst e
            omega
          · rw [if_neg e, if_neg e]
        · rw [swL_get hil hcl, swL_get hil hcl]
          by_cases e1 : k = c
          · subst e1
            rw [if_pos rfl, c2, if_neg (by omega), if_pos rfl]
            exact ahead_asym hA
          · rw [if_neg e1]
            by_cases e2 : k = i
            · subst e2
              rw [if_pos rfl, if_neg hne, if_neg (by omega : ¬ (k - 1) / 2 = k)]
              exact h2 c (by omega) c1 c2 hk
            · rw [if_neg e2, if_neg hne]
              by_cases e3 : (k - 1) / 2 = i
              · rw [if_pos e3]
                exact c4 k hk hk2 e3
              · rw [if_neg e3]
                exact h1 k hk hk2 e3
        · rw [swL_get hil hcl, swL_get hil hcl, c2, if_neg (by omega : ¬ i = c), if_pos rfl, if_neg (by omega : ¬ k = c), if_neg (by omega : ¬ k = i)]
          have := h1 k hk hk2 (by omega)
          rwa [hp] at this
      · rename_i hA
        have hA' : aheadB (gt l (kidL l i n)) (gt l i) = false := by
          cases hq : aheadB (gt l (kidL l i n)) (gt l i) with
          | false => rfl
          | true => exact (hA hq).elim
        refine ⟨fun k hk hk2 => ?_, Perm.refl _, fun k _ => same k⟩
        by_cases e : (k - 1) / 2 = i
        · rw [e]
          exact nb_trans hA' (c4 k hk hk2 e)
        · exact h1 k hk hk2 e
end Go.PL

/-
  Plain: what a heap gives; which pairs are picked.
-/
namespace Go.PL
set_option linter.unusedVariables false
set_option linter.unusedSimpArgs false
open List
/-- The heap when its first one has gone to its end. -/
def popL (l : List Sc) : List Sc := (downL (l.length - 1 + 1) (swL l 0 (l.length - 1)) 0 (l.length - 1)).1
theorem popL_len (l : List Sc) : (popL l).length = l.length := by unfold popL; rw [downL_len]; simp
theorem gt_at {l : List Sc} {i : Nat} (h : i < l.length) : gt l i = l[i] := by unfold gt; rw [List.getD_eq_getElem?_getD, List.getElem?_eq_getElem h]; rfl
theorem gt_take {l : List Sc} {n k : Nat} (h : k < n) : gt (l.take n) k = gt l k := by
  unfold gt
  rw [List.getD_eq_getElem?_getD, List.getD_eq_getElem?_getD, List.getElem?_take, if_pos h]
theorem pop_ok {l : List Sc} (h0 : 0 < l.length) (h : HeapL l l.length) : gt (popL l) (l.length - 1) = gt l 0 ∧ HeapL ((popL l).take (l.length - 1)) (l.length - 1) ∧ (gt l 0 :: (popL l).take (l.length - 1)) ~ l := by
  have hlen := popL_len l
  obtain ⟨n, hn⟩ : ∃ n, n = l.length - 1 := ⟨_, rfl⟩
  unfold popL at hlen ⊢
  rw [← hn] at hlen ⊢
  have hnl : n < l.length := by omega
  have hd := down_ok (n + 1) (swL l 0 n) 0 n (by simp; omega) (by simp; omega) (by omega) ⟨fun k hk hk2 hne => ?_, fun k _ _ _ h0 => by omega⟩
  · generalize hl2 : (downL (n + 1) (swL l 0 n) 0 n).1 = l2 at hd hlen
    have hg : gt l2 n = gt l 0 := by
      by_cases e : n = 0
      · subst e
        have : l2 = swL l 0 0 := by rw [← hl2, downL, if_pos (by omega)]
        rw [this, swL_get h0 h0, if_pos rfl]
      · rw [hd.2.2 n (Nat.le_refl _), if_neg e, swL_get h0 hnl, if_pos rfl]
    refine ⟨hg, fun k hk hk2 => ?_, ?_⟩
    · rw [gt_take hk2, gt_take (by omega)]
      exact hd.1 k hk hk2
    · have hsplit : l2 = l2.take n ++ [gt l2 n] := by
        rw [gt_at (by omega), List.take_append_getElem, List.take_of_length_le (by omega)]
      refine Perm.trans ?_ (hd.2.1.trans (swL_perm h0 hnl))
      conv => rhs; rw [hsplit]
      rw [hg]
      exact (List.perm_append_singleton _ _).symm
  · rw [swL_get h0 hnl, swL_get h0 hnl, if_neg (by omega : ¬ k = n), if_neg (by omega : ¬ k = 0), if_neg (by omega : ¬ (k - 1) / 2 = n), if_neg hne]
    exact h k hk (by omega)
/-! ### picks -/
/-- Two pairs can both go together. -/
def par (p q : Sc) : Bool := (decide (p.i < q.i) && decide (p.j < q.j)) || (decide (q.i < p.i) && decide (q.j < p.j))
theorem par_symm {p q : Sc} : par p q = par q p := by unfold par; rw [Bool.or_comm]
theorem par_irr (p : Sc) : par p p = false := by simp [par]
/-- Does a pair go together with all that are picked? -/
def freeB (o : List Sc) (x : Sc) : Bool := o.all fun p => par p x
theorem free_snoc {o : List Sc} {x y : Sc} : freeB (o ++ [x]) y = (freeB o y && par x y) := by simp [freeB]
/-- The pair that is picked next. -/
def Best (all o : List Sc) (x : Sc) : Prop := x ∈ all ∧ freeB o x = true ∧ ∀ y, y ∈ all → freeB o y = true → aheadB y x = false
inductive Picks (all : List Sc) : List Sc → List Sc → Prop
  | done {o} : (∀ y, y ∈ all → freeB o y = false) → Picks all o o
  | step {o x o'} : Best all o x → Picks all (o ++ [x]) o' → Picks all o o'
theorem best_one {all o : List Sc} {x y : Sc} (h : Best all o x) (k : Best all o y) : x = y := ahead_tot (k.2.2 x h.1 h.2.1) (h.2.2 y k.1 k.2.1)
theorem picks_one {all o a b : List Sc} (h : Picks all o a) : Picks all o b → a = b := by
  induction h with
  | done h =>
    intro k
    cases k with
    | done => rfl
    | step hb _ =>
      have := hb.2.1
      rw [h _ hb.1] at this
      cases this
  | step hb _ ih =>
    intro k
    cases k with
    | done k =>
      have := hb.2.1
      rw [k _ hb.1] at this
      cases this
    | step hb' k =>
      have := best_one hb hb'
      subst this
      exact ih k
/-- All that are picked go together. -/
def Apart19 (o : List Sc) : Prop := o.Pairwise fun p q => par p q = true
theorem apart_snoc {o : List Sc} {x : Sc} (h : Apart19 o) (hx : freeB o x = true) : Apart19 (o ++ [x]) := by
  unfold Apart19 at h ⊢
  rw [List.pairwise_append]
  refine ⟨h, by simp, fun p hp q hq => ?_⟩
  simp at hq
  subst hq
  simp [freeB] at hx
  exact hx p hp
theorem picks_apart {all o o' : List Sc} (h : Picks all o o') : Apart19 o → (∀ x, x ∈ o → x ∈ all) → Apart19 o' ∧ ∀ x, x ∈ o' → x ∈ all := by
  induction h with
  | done => exact fun h k => ⟨h, k⟩
  | step hb _ ih =>
    intro h k
    refine ih (apart_snoc h hb.2.1) fun x hx => ?_
    rcases List.mem_append.1 hx with hx | hx
    · exact k x hx
    · simp at hx; subst hx; exact hb.1
/-- One pop: the picks go on. -/
theorem pick_pop {all o : List Sc} {x : Sc} {l rest : List Sc} (hl : x :: rest ~ l) (hmin : ∀ y, y ∈ l → aheadB y x = false) (hall : ∀ y, y ∈ all → y ∈ l ∨ freeB o y = false) (hsub : ∀ y, y ∈ l → y ∈ all) :
    (freeB o x = true → Best all o x ∧ (∀ y, y ∈ all → y ∈ rest ∨ freeB (o ++ [x]) y = false)) ∧ (freeB o x = false → ∀ y, y ∈ all → y ∈ rest ∨ freeB o y = false) := by
  refine ⟨fun hx => ⟨⟨hsub x (hl.subset (by simp)), hx, fun y hy hf => ?_⟩, fun y hy => ?_⟩, fun hx y hy => ?_⟩
  · rcases hall y hy with h | h
    · exact hmin y h
    · rw [h] at hf; cases hf
  · rcases hall y hy with h | h
    · rcases List.mem_cons.1 (hl.symm.subset h) with rfl | h
      · right; rw [free_snoc, par_irr]; simp
      · exact .inl h
    · right; rw [free_snoc, h]; rfl
  · rcases hall y hy with h | h
    · rcases List.mem_cons.1 (hl.symm.subset h) with rfl | h
      · exact .inr hx
      · exact .inl h
    · exact .inr h
/-! ### in order -/
def insI (x : Sc) : List Sc → List Sc
  | [] => [x]
  | y :: l => if y.i < x.i then y :: insI x l else x :: y :: l
def Rises (l : List Sc) : Prop := l.Pairwise fun p q => p.i < q.i
theorem insI_perm (x : Sc) : ∀ l, insI x l ~ x :: l
  | [] => Perm.refl _
  | y :: l => by
    unfold insI
    split
    · exact ((insI_perm x l).cons y).trans (Perm.swap x y l)
    · exact Perm.refl _
theorem insI_rises {x : Sc} : ∀ {l : List Sc}, Rises l → (∀ y, y ∈ l → y.i ≠ x.i) → Rises (insI x l)
  | [], _, _ => by simp [insI, Rises]
  | y :: l, h, hne => by
    unfold insI
    unfold Rises at h ⊢
    rw [List.pairwise_cons] at h
    split
    · rename_i hlt
      rw [List.pairwise_cons]
      refine ⟨fun z hz => ?_, insI_rises h.2 fun z hz => hne z (by simp [hz])⟩
      rcases List.mem_cons.1 ((insI_perm x l).subset hz) with rfl | hz
      · exact hlt
      · exact h.1 z hz
    · rename_i hlt
      have := hne y (by simp)
      rw [List.pairwise_cons, List.pairwise_cons]
      refine ⟨fun z hz => ?_, h⟩
      rcases List.mem_cons.1 hz with rfl | hz
      · omega
      · have := h.1 z hz; omega
theorem rises_one : ∀ {l m : List Sc}, Rises l → Rises m → l ~ m → l = m
  | [], m, _, _, h => (List.nil_perm.1 h).symm
  | x :: l, [], _, _, h => by have := h.length_eq; simp at this
  | x :: l, y :: m, hl, hm, h => by
    unfold Rises at hl hm
    rw [List.pairwise_cons] at hl hm
    have e : x = y := by
      rcases List.mem_cons.1 (h.subset (by simp : x ∈ x :: l)) with e | e
      · exact e
      · rcases List.mem_cons.1 (h.symm.subset (by simp : y ∈ y :: m)) with e2 | e2
        · exact e2.symm
        · have h1 := hm.1 x e
          have h2 := hl.1 y e2
          omega
    subst e
    rw [rises_one hl.2 hm.2 ((List.perm_cons x).1 h)]
/-- The picks in order. -/
def srtI (o : List Sc) : List Sc := o.foldl (fun l x => insI x l) []
theorem srt_ok {o : List Sc} (h : Apart19 o) : Rises (srtI o) ∧ srtI o ~ o := by
  have main : ∀ (o l p : List Sc), Rises l → l ~ p → (p ++ o).Pairwise (fun a b => par a b = true) → Rises (o.foldl (fun l x => insI x l) l) ∧ o.foldl (fun l x => insI x l) l ~ p ++ o := by
    intro o
    induction o with
    | nil => intro l p h1 h2 _; simpa using ⟨h1, h2⟩
    | cons x o ih =>
      intro l p h1 h2 h3
      have hx : ∀ y, y ∈ p → par y x = true := fun y hy => by
        rw [List.pairwise_append] at h3
        exact h3.2.2 y hy x (by simp)
      have := ih (insI x l) (p ++ [x]) (insI_rises h1 fun y hy e => by
        have := hx y (h2.subset hy)
        simp [par] at this
        omega) ((insI_perm x l).trans ((h2.cons x).trans (List.perm_append_singleton x p).symm)) (by simpa using h3)
      simpa using this
  have := main o [] [] (by simp [Rises]) (Perm.refl _) (by show Apart19 ([] ++ o); exact h)
  simpa [srtI] using this
/-- So few rise below a bound. -/
theorem rises_len : ∀ (l : List Sc) (a b : Nat), Rises l → (∀ x, x ∈ l → a ≤ x.i ∧ x.i < b) → l.length ≤ b - a
  | [], a, b, _, _ => by simp
  | x :: l, a, b, h, hb => by
    unfold Rises at h
    rw [List.pairwise_cons] at h
    have h1 := hb x (by simp)
    have := rises_len l (x.i + 1) b h.2 fun y hy => ⟨h.1 y hy, (hb y (by simp [hy])).2⟩
    simp
    omega
end Go.PL

/-
  pair's heap: a row of scored pairs below a root; its methods.
-/
namespace Go.Proofs.Ytmeldaflhkiopaa
set_option linter.unusedVariables false
set_option linter.unusedSimpArgs false
open Go Go.G Go.Proofs Go.PL
def scC (x : Sc) : List A := [iv x.i, iv x.j, iv x.n]
def scA (x : Sc) : A := .agg (scC x)
@[simp] theorem scA_cells {x : Sc} : (scA x).cells = scC x := rfl
@[simp] theorem scC_len {x : Sc} : (scC x).length = 3 := rfl
@[simp] theorem ifc_rowP {a : A} : ifcA Try.prog 52 a = some (.ifc 52 a) := by
  unfold ifcA
  rw [show Try.prog.underlying 52 = some (.pointer 54) by kernel_rfl]
@[simp] theorem ifc_sc {a : A} : ifcA Try.prog 57 a = some (.ifc 57 a) := by
  unfold ifcA
  rw [show Try.prog.underlying 57 = some (.struct (Try.prog.fieldsOf 57)) by kernel_rfl]
@[simp] theorem assert_sc {a : A} : assertA Try.prog 57 false (.ifc 57 a) = some a := by
  simp only [assertA, if_true]
  rw [show Try.prog.underlying 57 = some (.struct (Try.prog.fieldsOf 57)) by kernel_rfl]
  rfl
/-- The heap's row, with what lies behind it. -/
def hpF (l junk : List Sc) (v : Nat) : Fam := ⟨fun r p => if p = [] then ⟨1, .cells [.osl (r :: [0]) v 3 0 l.length]⟩ else if p = [0] then ⟨v, .arr 3 ((l ++ junk).map scA)⟩ else ⟨0, .none⟩, fun {g δ r r'} hg hd p => by
    by_cases h1 : p = []
    · rw [if_pos h1, if_pos h1]
      refine Fam.cells_ren ?_
      simp [A.renL, A.ren, hg, hd]
    · rw [if_neg h1, if_neg h1]
      by_cases h2 : p = [0]
      · rw [if_pos h2]
        refine Fam.arr_ren ?_
        have e : ∀ x : Sc, (scA x).ren g δ = scA x := fun x => by simp [scA, scC, A.ren, A.renL]
        simp only [renL_map, List.map_map]
        refine List.map_congr_left fun x _ => ?_
        exact e x
      · rw [if_neg h2]; rfl, fun {D r} hD p => by
    by_cases h1 : p = []
    · rw [if_pos h1]
      simp [Ob.refs, A.refsL, A.refs, hD]
    · rw [if_neg h1]
      by_cases h2 : p = [0]
      · rw [if_pos h2]
        simp only [Ob.refs, refsL_iff]
        intro y hy
        obtain ⟨x, _, rfl⟩ := List.mem_map.1 hy
        simp [A.refs, A.refsL, scA, scC]
      · rw [if_neg h2]; trivial⟩
@[simp] theorem hpF_F {l junk : List Sc} {v r : Nat} {p : Nm} : (hpF l junk v).F r p = if p = [] then ⟨1, .cells [.osl (r :: [0]) v 3 0 l.length]⟩ else if p = [0] then ⟨v, .arr 3 ((l ++ junk).map scA)⟩ else ⟨0, .none⟩ := rfl
abbrev hpP (r : Nat) : A := .pob [r] 1 0
abbrev hpI (r : Nat) : A := .ifc 52 (hpP r)
abbrev scI (x : Sc) : A := .ifc 57 (scA x)
theorem sc_bare {x : Sc} : ∀ y, y ∈ scC x → y.bare1 = true := fun y hy => by simp [scC] at hy; rcases hy with rfl | rfl | rfl <;> rfl
@[simp] theorem sc_ones {x : Sc} : A.ones (scC x) = true := rfl
@[simp] theorem sc_take {x : Sc} : (scC x).take 3 = scC x := rfl
theorem sc_agg {x : Sc} : A.agg (scC x) = scA x := rfl
theorem lens_sc {l : List Sc} : lens 3 (l.map scA) = true := by rw [lens_all]; simp
theorem famA_scI (x : Sc) : FamA (fun _ => scI x) := famA_ifc (famA_bare (cs := scC x) rfl fun y hy => by simp [scC] at hy; rcases hy with rfl | rfl | rfl <;> rfl)
theorem hLen_spec (l junk : List Sc) (v : Nat) (hl : l.length ≤ 1000) : SpecF Try.prog 20 (fun r => [.osl (r :: [0]) v 3 0 l.length]) (hpF l junk v) (fun _ => iv l.length) (hpF l junk v) := by
  refine specF_of t_pair_row_Len (by simp) (famL_cons famA_osl famL_nil) famA_v fun w0 I0 M0 m0 => ?_
  unfold c_pair_row_Len
  simp
  exact reth_fam rfl rfl (fun p => by simp)
theorem hPush_spec (l junk : List Sc) (v : Nat) (hl : l.length ≤ 1000) (x : Sc) : SpecF Try.prog 120 (fun r => [hpP r, scI x]) (hpF l junk v) (fun _ => .tup []) (hpF (l ++ [x]) [] (v + 1)) := by
  refine specF_of t_pair_row_Push (by simp) (famL_cons famA_pob (famL_cons (famA_scI x) famL_nil)) (famA_tup famL_nil) fun w0 I0 M0 m0 => ?_
  unfold c_pair_row_Push
  simp [lens_sc, updF_app]
  refine ⟨sc_bare, by omega, ?_⟩
  exact reth_famN rfl rfl (fun p => by by_cases h1 : p = [] <;> by_cases h2 : p = [0] <;> simp [h1, h2, updF_app])
theorem hPop_spec (l junk : List Sc) (v : Nat) (hl : l.length ≤ 1000) (x : Sc) : SpecF Try.prog 119 (fun r => [hpP r]) (hpF (l ++ [x]) junk v) (fun _ => scI x) (hpF l (x :: junk) v) := by
  refine specF_of t_pair_row_Pop (by simp) (famL_cons famA_pob famL_nil) (famA_scI x) fun w0 I0 M0 m0 => ?_
  have e1 : IntKind.i64.wrap (l.length : Int) = (l.length : Int) := i64_same (by omega) (by omega)
  have he : (l.map scA ++ scA x :: junk.map scA)[l.length]? = some (scA x) := by
    rw [List.getElem?_append_right (by simp)]; simp
  unfold c_pair_row_Pop
  simp [e1, he, updF_app, show (l.length : Int) < l.length + 1 by omega, show (l.length : Int) ≤ l.length + 1 by omega]
  exact reth_famN rfl rfl (fun p => by by_cases h1 : p = [] <;> by_cases h2 : p = [0] <;> simp [h1, h2, updF_app])
theorem isNaN_spec (n : Int) : G.Spec Try.prog 43 [iv n] (bv false) := by
  refine spec_of t_cmp_isNaN_int (by simp) fun w0 I0 => ?_
  unfold c_cmp_isNaN_int
  simp
  exact frz_bare rfl
def cmpZ (a b : Int) : Int := if a < b then -1 else if b < a then 1 else 0
theorem cmp_spec (a b : Int) : G.Spec Try.prog 26 [iv a, iv b] (iv (cmpZ a b)) := by
  refine spec_of t_cmp_Compare_int (by simp) fun w0 I0 => ?_
  unfold c_cmp_Compare_int cmpZ
  simp
  refine sc_call (isNaN_spec a) rfl ?_
  simp
  refine sc_call (isNaN_spec b) rfl ?_
  by_cases h : a < b
  · simp [h]
    exact frz_bare rfl
  · by_cases h2 : b < a
    · simp [h, h2]
      exact frz_bare rfl
    · simp [h, h2]
      exact frz_bare rfl
theorem or_spec (a b c : Int) : G.Spec Try.prog 123 [.sl true [iv a, iv b, iv c]] (iv (if a ≠ 0 then a else if b ≠ 0 then b else c)) := by
  refine spec_of t_cmp_Or_int (by simp) fun w0 I0 => ?_
  have w1 : IntKind.i64.wrap 1 = 1 := rfl
  have w2 : IntKind.i64.wrap 2 = 2 := rfl
  have w3 : IntKind.i64.wrap 3 = 3 := rfl
  unfold c_cmp_Or_int
  simp
  refine loopC_once mixed l1_cmp_Or_int.eq_1 ?_
  by_cases h1 : a = 0
  · simp [h1, w1]
    refine loopC_once mixed l1_cmp_Or_int.eq_1 ?_
    by_cases h2 : b = 0
    · simp [h2, w2]
      refine loopC_once mixed l1_cmp_Or_int.eq_1 ?_
      by_cases h3 : c = 0
      · simp [h3, w3]
        refine loopC_once mixed l1_cmp_Or_int.eq_1 ?_
        simp
        exact frz_bare rfl
      · simp [h3]
        exact frz_bare rfl
    · simp [h2]
      exact frz_bare rfl
  · simp [h1]
    exact frz_bare rfl
theorem ahead_cmp (a b : Sc) : decide ((if cmpZ b.n a.n ≠ 0 then cmpZ b.n a.n else if cmpZ a.i b.i ≠ 0 then cmpZ a.i b.i else cmpZ a.j b.j) < 0) = aheadB a b := by
  have h3 : ∀ x y : Int, (x < y ∧ cmpZ x y = -1) ∨ (x = y ∧ cmpZ x y = 0) ∨ (y < x ∧ cmpZ x y = 1) := fun x y => by
    unfold cmpZ
    rcases Int.lt_trichotomy x y with h | h | h
    · exact .inl ⟨h, if_pos h⟩
    · exact .inr (.inl ⟨h, by rw [if_neg (by omega), if_neg (by omega)]⟩)
    · exact .inr (.inr ⟨h, by rw [if_neg (by omega), if_pos h]⟩)
  unfold aheadB
  rcases h3 b.n a.n with ⟨h, e⟩ | ⟨h, e⟩ | ⟨h, e⟩
  · rw [e]; simp [h]
  · rw [e]
    rcases h3 a.i b.i with ⟨h2, e2⟩ | ⟨h2, e2⟩ | ⟨h2, e2⟩
    · rw [e2]
      have : a.i < b.i := by omega
      simp [h, this]
    · rw [e2]
      have h2' : a.i = b.i := by omega
      rcases h3 a.j b.j with ⟨h4, e4⟩ | ⟨h4, e4⟩ | ⟨h4, e4⟩
      · rw [e4]
        have : a.j < b.j := by omega
        simp [h, h2', this]
      · rw [e4]
        have : ¬ a.j < b.j := by omega
        simp [h, h2', this]
      · rw [e4]
        have : ¬ a.j < b.j := by omega
        simp [h, h2', this]
    · rw [e2]
      have h5 : ¬ a.i < b.i := by omega
      have h6 : ¬ a.i = b.i := by omega
      simp [h, h5, h6]
  · rw [e]
    have h5 : ¬ b.n < a.n := by omega
    have h6 : ¬ a.n = b.n := by omega
    simp [h5, h6]
theorem ahead_spec (a b : Sc) : G.Spec Try.prog 122 [scA a, scA b] (bv (aheadB a b)) := by
  refine spec_of t_pair_scored_ahead (by simp) fun w0 I0 => ?_
  have hO := or_spec (cmpZ b.n a.n) (cmpZ a.i b.i) (cmpZ a.j b.j)
  unfold c_pair_scored_ahead
  simp [scA, scC]
  refine sc_call (cmp_spec b.n a.n) rfl ?_
  simp
  refine sc_call (cmp_spec a.i b.i) rfl ?_
  simp
  refine sc_call (cmp_spec a.j b.j) rfl ?_
  simp
  refine sc_call hO rfl ?_
  simp
  refine frz_bool ?_
  rw [← ahead_cmp]
  simp
theorem hLess_spec (l junk : List Sc) (v : Nat) (hl : l.length ≤ 1000) (i j : Nat) (hi : i < l.length) (hj : j < l.length) : SpecF Try.prog 118 (fun r => [.osl (r :: [0]) v 3 0 l.length, iv i, iv j]) (hpF l junk v) (fun _ => bv (aheadB l[i] l[j])) (hpF l junk v) := by
  refine specF_of t_pair_row_Less (by simp) (famL_cons famA_osl (famL_cons famA_v (famL_cons famA_v famL_nil))) famA_v fun w0 I0 M0 m0 => ?_
  have hA := ahead_spec l[i] l[j]
  have gi : (l.map scA ++ junk.map scA)[i]? = some (scA l[i]) := by rw [List.getElem?_append_left (by simpa using hi)]; simp [hi]
  have gj : (l.map scA ++ junk.map scA)[j]? = some (scA l[j]) := by rw [List.getElem?_append_left (by simpa using hj)]; simp [hj]
  unfold c_pair_row_Less
  simp [gi, gj, hi, hj, show (i : Int) < l.length by omega, show (j : Int) < l.length by omega, sc_agg]
  refine sc_call hA rfl ?_
  simp
  exact reth_fam rfl rfl (fun p => by simp)
theorem hSwap_spec (l junk : List Sc) (v : Nat) (hl : l.length ≤ 1000) (i j : Nat) (hi : i < l.length) (hj : j < l.length) : SpecF Try.prog 121 (fun r => [.osl (r :: [0]) v 3 0 l.length, iv i, iv j]) (hpF l junk v) (fun _ => .tup []) (hpF ((l.set i l[j]).set j l[i]) junk v) := by
  refine specF_of t_pair_row_Swap (by simp) (famL_cons famA_osl (famL_cons famA_v (famL_cons famA_v famL_nil))) (famA_tup famL_nil) fun w0 I0 M0 m0 => ?_
  have gi : (l.map scA ++ junk.map scA)[i]? = some (scA l[i]) := by rw [List.getElem?_append_left (by simpa using hi)]; simp [hi]
  have gj : (l.map scA ++ junk.map scA)[j]? = some (scA l[j]) := by rw [List.getElem?_append_left (by simpa using hj)]; simp [hj]
  unfold c_pair_row_Swap
  simp [gi, gj, hi, hj, show (i : Int) < l.length by omega, show (j : Int) < l.length by omega, sc_agg]
  have gk : ((l.map scA).set i (scA l[j]) ++ junk.map scA)[j]? = some (scA l[j]) := by
    rw [List.getElem?_append_left (by simpa using hj)]
    by_cases e : i = j
    · subst e; simp [hi]
    · rw [List.getElem?_set_ne e]; simp [hj]
  rw [gk]
  simp [hj]
  exact reth_famN rfl rfl (fun p => by by_cases h1 : p = [] <;> by_cases h2 : p = [0] <;> simp [h1, h2, updF_app, List.map_set])
end Go.Proofs.Ytmeldaflhkiopaa

/-
  container/heap over the row.
-/
namespace Go.Proofs.Ytmeldaflhkiopaa
set_option linter.unusedVariables false
set_option linter.unusedSimpArgs false
open Go Go.G Go.Proofs Go.PL
theorem meth_Less : methA Try.prog 52 "Less" = some (118, some 54) := by kernel_rfl
theorem meth_Swap : methA Try.prog 52 "Swap" = some (121, some 54) := by kernel_rfl
theorem meth_Len : methA Try.prog 52 "Len" = some (20, some 54) := by kernel_rfl
theorem meth_Push : methA Try.prog 52 "Push" = some (120, none) := by kernel_rfl
theorem meth_Pop : methA Try.prog 52 "Pop" = some (119, none) := by kernel_rfl
theorem getD_at {l : List Sc} {i : Nat} (h : i < l.length) : l.getD i sc0 = l[i] := by rw [List.getD_eq_getElem?_getD, List.getElem?_eq_getElem h]; rfl
theorem swL_at {l : List Sc} {i j : Nat} (hi : i < l.length) (hj : j < l.length) : swL l i j = (l.set i l[j]).set j l[i] := by unfold swL; rw [getD_at hi, getD_at hj]
theorem recv_row {H : Hp} {l junk : List Sc} {v : Nat} (hH : ∀ p, H (0 :: p) = (hpF l junk v).F 0 p) : recvA Try.prog H (some 54) (hpP 0) = some (.osl [0, 0] v 3 0 l.length) := by
  have := hH []
  unfold recvA
  simp [this]
theorem up_l1 {n0 : Nat} {w0 : World} {I0 : Nat → Prop} {M0 : Nm → Nat → Prop} {m0 : Mu} {Q : Exit → Sta → Prop} {junk : List Sc} {v : Nat} : ∀ (f : Nat) (l : List Sc) (j : Nat) (H : Hp), l.length ≤ 1000 → j < l.length → j < f → (∀ p, H (0 :: p) = (hpF l junk v).F 0 p) →
    (∀ (H' : Hp) (st : List (Nat × A)), (∀ p, H' (0 :: p) = (hpF (upL f l j) junk v).F 0 p) → Q (.exit 0) ⟨lk st, H'⟩) →
    LoopC (cxh Try.prog w0 I0 M0 n0 m0) l1_container_heap_up Q ⟨lk [(0, hpI 0), (1, iv j)], H⟩ := by
  intro f
  induction f with
  | zero => intro l j H _ _ hf; omega
  | succ f ih =>
    intro l j H hl hj hf hH hq
    obtain ⟨i, hi⟩ : ∃ i, i = (j - 1) / 2 := ⟨_, rfl⟩
    have hil : i < l.length := by omega
    have e1 : IntKind.i64.wrap ((j : Int) - 1) = (j : Int) - 1 := i64_same (by omega) (by omega)
    have e2 : IntKind.i64.wrap (((j : Int) - 1).tdiv 2) = (i : Int) := by
      by_cases h0 : j = 0
      · subst h0
        have : i = 0 := by omega
        subst this; rfl
      · rw [Int.tdiv_eq_ediv_of_nonneg (by omega), i64_same (by omega) (by omega)]; omega
    have hL := hLess_spec l junk v hl j i hj hil
    have hS := hSwap_spec l junk v hl i j hil hj
    rw [upL, ← hi, getD_at hj, getD_at hil, swL_at hil hj] at hq
    refine loopC_once mixed l1_container_heap_up.eq_1 ?_
    by_cases hij : i = j
    · rw [if_pos (.inl hij)] at hq
      simp [e1, e2, hij]
      rw [sc_guard]
      simp
      exact hq H [(0, hpI 0), (1, iv j), (4, iv j), (17, bv true)] hH
    · have hij' : ¬ (i : Int) = j := by omega
      simp [e1, e2, hij, hij']
      rw [sc_guard]
      simp
      refine sc_invF 0 hL hH rfl meth_Less (recv_row hH) rfl (by simp) ?_
      cases hA : aheadB l[j] l[i] with
      | false =>
        rw [hA, if_pos (.inr rfl)] at hq
        simp
        exact hq _ [(0, hpI 0), (1, iv j), (4, iv i), (17, bv true)] (fun p => by simp)
      | true =>
        rw [hA, if_neg (by simp [hij])] at hq
        simp
        have hH2 : ∀ p, (ov 0 ((hpF l junk v).F 0) H) (0 :: p) = (hpF l junk v).F 0 p := fun p => by simp
        refine sc_invF 0 hS hH2 rfl meth_Swap (recv_row hH2) rfl (by simp) ?_
        simp
        refine ih _ i _ (by simp; omega) (by simp; omega) (by omega) (fun p => by simp) hq
theorem up_spec (l junk : List Sc) (v : Nat) (hl : l.length ≤ 1000) (j : Nat) (hj : j < l.length) : SpecF Try.prog 38 (fun r => [hpI r, iv j]) (hpF l junk v) (fun _ => .tup []) (hpF (upL (j + 1) l j) junk v) := by
  refine specF_of t_container_heap_up (by simp) (famL_cons (famA_ifc famA_pob) (famL_cons famA_v famL_nil)) (famA_tup famL_nil) fun w0 I0 M0 m0 => ?_
  unfold c_container_heap_up
  simp
  refine LoopC.le (le_list [(0, hpI 0), (1, iv j)] (by simp)) ?_
  refine up_l1 (junk := junk) (v := v) (j + 1) l j _ hl hj (by omega) (fun p => by simp) fun H' st hH => ?_
  simp
  exact reth_famN rfl rfl hH
theorem kidL_lt {l : List Sc} {i n : Nat} (h : 2 * i + 1 < n) : kidL l i n < n ∧ i < kidL l i n := by
  unfold kidL
  split
  · rename_i h2; omega
  · omega
theorem down_k1 {n0 : Nat} {w0 : World} {I0 : Nat → Prop} {M0 : Nm → Nat → Prop} {m0 : Mu} {Q' : Exit → Sta → Prop} {junk l : List Sc} {v i k : Nat} {i0 n : Int} {H : Hp} (hl : l.length ≤ 1000) (hi : i < l.length) (hk : k < l.length) (hH : ∀ p, H (0 :: p) = (hpF l junk v).F 0 p)
    (h0 : aheadB l[k] l[i] = false → ∀ (H' : Hp), (∀ p, H' (0 :: p) = (hpF l junk v).F 0 p) → Q' (.exit 0) ⟨lk [(0, hpI 0), (1, iv i0), (2, iv n), (7, iv i), (9, iv k), (39, bv true)], H'⟩)
    (h1 : aheadB l[k] l[i] = true → ∀ (H' : Hp), (∀ p, H' (0 :: p) = (hpF (swL l i k) junk v).F 0 p) → Q' .normal ⟨lk [(0, hpI 0), (1, iv i0), (2, iv n), (7, iv k)], H'⟩) :
    WPC (cxh Try.prog w0 I0 M0 n0 m0) k1_container_heap_down Q' ⟨lk [(0, hpI 0), (1, iv i0), (2, iv n), (7, iv i), (9, iv k)], H⟩ := by
  have hL := hLess_spec l junk v hl k i hk hi
  have hS := hSwap_spec l junk v hl i k hi hk
  rw [← swL_at hi hk] at hS
  rw [k1_container_heap_down.eq_1]
  simp
  refine sc_invF 0 hL hH rfl meth_Less (recv_row hH) rfl (by simp) ?_
  cases hA : aheadB l[k] l[i] with
  | false =>
    simp
    exact h0 hA _ (fun p => by simp)
  | true =>
    simp
    have hH2 : ∀ p, (ov 0 ((hpF l junk v).F 0) H) (0 :: p) = (hpF l junk v).F 0 p := fun p => by simp
    refine sc_invF 0 hS hH2 rfl meth_Swap (recv_row hH2) rfl (by simp) ?_
    simp
    exact h1 hA _ (fun p => by simp)
theorem down_l1 {n0 : Nat} {w0 : World} {I0 : Nat → Prop} {M0 : Nm → Nat → Prop} {m0 : Mu} {Q : Exit → Sta → Prop} {junk : List Sc} {v n : Nat} {i0 : Int} : ∀ (f : Nat) (l : List Sc) (i : Nat) (H : Hp), l.length ≤ 1000 → n ≤ l.length → (i < n ∨ (n = 0 ∧ i = 0)) → n < i + f → i < l.length → (∀ p, H (0 :: p) = (hpF l junk v).F 0 p) →
    (∀ (H' : Hp) (st : List (Nat × A)), (∀ p, H' (0 :: p) = (hpF (downL f l i n).1 junk v).F 0 p) → (lk st) 1 = iv i0 → (lk st) 7 = iv (downL f l i n).2 → Q (.exit 0) ⟨lk st, H'⟩) →
    LoopC (cxh Try.prog w0 I0 M0 n0 m0) l1_container_heap_down Q ⟨lk [(0, hpI 0), (1, iv i0), (2, iv n), (7, iv i)], H⟩ := by
  intro f
  induction f with
  | zero => intro l i H hl hn hi hf hil hH hq; omega
  | succ f ih =>
    intro l i H hl hn hi hf hil hH hq
    have e1 : IntKind.i64.wrap (2 * (i : Int)) = 2 * (i : Int) := i64_same (by omega) (by omega)
    have e2 : IntKind.i64.wrap (2 * (i : Int) + 1) = ((2 * i + 1 : Nat) : Int) := by rw [i64_same (by omega) (by omega)]; omega
    rw [downL] at hq
    refine loopC_once mixed l1_container_heap_down.eq_1 ?_
    by_cases h1 : n ≤ 2 * i + 1
    · rw [if_pos h1] at hq
      simp [e1, e2, show (n : Int) ≤ 2 * i + 1 by omega]
      exact hq H [(0, hpI 0), (1, iv i0), (2, iv n), (7, iv i), (8, iv (2 * i + 1 : Nat)), (21, bv true)] hH rfl rfl
    · rw [if_neg h1] at hq
      have e3 : IntKind.i64.wrap (2 * (i : Int) + 1 + 1) = ((2 * i + 2 : Nat) : Int) := by rw [i64_same (by omega) (by omega)]; omega
      have hkl := kidL_lt (l := l) (i := i) (n := n) (by omega)
      have fin : ∀ (H' : Hp), (∀ p, H' (0 :: p) = (hpF l junk v).F 0 p) → WPC (cxh Try.prog w0 I0 M0 n0 m0) k1_container_heap_down (InBlock 1 (ThenC (LoopC (cxh Try.prog w0 I0 M0 n0 m0) l1_container_heap_down Q) Q)) ⟨lk [(0, hpI 0), (1, iv i0), (2, iv n), (7, iv i), (9, iv (kidL l i n))], H'⟩ := fun H' hH' => by
        refine down_k1 hl hil (k := kidL l i n) (by omega) hH' (fun hA H2 h2 => ?_) (fun hA H2 h2 => ?_)
        · rw [← getD_at (by omega), ← getD_at hil] at hA
          rw [if_neg (by rw [hA]; simp)] at hq
          exact hq H2 _ h2 rfl rfl
        · rw [← getD_at (by omega), ← getD_at hil] at hA
          rw [if_pos hA] at hq
          simp
          exact ih _ _ H2 (by simp; omega) (by simp; omega) (.inl hkl.1) (by omega) (by simp; omega) h2 hq
      clear hq ih
      simp [e1, e2, show ¬ (n : Int) ≤ 2 * i + 1 by omega, show ¬ 2 * (i : Int) + 1 < 0 by omega, e3]
      by_cases h2 : 2 * i + 2 < n
      · have hL := hLess_spec l junk v hl (2 * i + 2) (2 * i + 1) (by omega) (by omega)
        simp [show 2 * (i : Int) + 2 < n by omega]
        rw [sc_guard]
        simp
        refine sc_invF 0 hL hH rfl meth_Less (recv_row hH) rfl (by simp) ?_
        have hk : kidL l i n = if aheadB l[2 * i + 2] l[2 * i + 1] = true then 2 * i + 2 else 2 * i + 1 := by
          unfold kidL
          rw [getD_at (by omega), getD_at (by omega)]
          simp [h2]
        rw [hk] at fin
        cases hA : aheadB l[2 * i + 2] l[2 * i + 1] with
        | false =>
          rw [hA] at fin
          simp
          exact fin _ (fun p => by simp)
        | true =>
          rw [hA] at fin
          simp
          exact fin _ (fun p => by simp)
      · have hk : kidL l i n = 2 * i + 1 := by
          unfold kidL
          rw [if_neg (fun e => h2 e.1)]
        rw [hk] at fin
        simp [show ¬ 2 * (i : Int) + 2 < n by omega]
        rw [sc_guard]
        simp
        exact fin _ hH
theorem down_spec (l junk : List Sc) (v : Nat) (hl : l.length ≤ 1000) (n : Nat) (hn : n ≤ l.length) (h0 : 0 < l.length) : SpecF Try.prog 39 (fun r => [hpI r, iv 0, iv n]) (hpF l junk v) (fun _ => bv (decide (0 < (downL (n + 1) l 0 n).2))) (hpF (downL (n + 1) l 0 n).1 junk v) := by
  refine specF_of t_container_heap_down (by simp) (famL_cons (famA_ifc famA_pob) (famL_cons famA_v (famL_cons famA_v famL_nil))) famA_v fun w0 I0 M0 m0 => ?_
  unfold c_container_heap_down
  simp
  refine LoopC.le (le_list [(0, hpI 0), (1, iv 0), (2, iv n), (7, iv (0 : Nat))] (by simp)) ?_
  refine down_l1 (junk := junk) (v := v) (n + 1) l 0 _ hl hn (by omega) (by omega) h0 (fun p => by simp) fun H' st hH h1 h7 => ?_
  simp [h1, h7]
  exact reth_fam rfl rfl hH
theorem hpPush_spec (l junk : List Sc) (v : Nat) (hl : l.length ≤ 900) (x : Sc) : SpecF Try.prog 19 (fun r => [hpI r, scI x]) (hpF l junk v) (fun _ => .tup []) (hpF (upL (l.length + 1) (l ++ [x]) l.length) [] (v + 1)) := by
  refine specF_of t_container_heap_Push (by simp) (famL_cons (famA_ifc famA_pob) (famL_cons (famA_scI x) famL_nil)) (famA_tup famL_nil) fun w0 I0 M0 m0 => ?_
  have hP := hPush_spec l junk v (by omega) x
  have hL := hLen_spec (l ++ [x]) [] (v + 1) (by simp; omega)
  have hU := up_spec (l ++ [x]) [] (v + 1) (by simp; omega) l.length (by simp)
  have e1 : IntKind.i64.wrap (l.length : Int) = (l.length : Int) := i64_same (by omega) (by omega)
  unfold c_container_heap_Push
  simp
  refine sc_invF 0 hP (fun p => by simp) rfl meth_Push rfl rfl (by simp) ?_
  simp
  have hH2 : ∀ p, (ov 0 ((hpF (l ++ [x]) [] (v + 1)).F 0) (lkH []) : Hp) (0 :: p) = (hpF (l ++ [x]) [] (v + 1)).F 0 p := fun p => by simp
  refine sc_invF 0 hL hH2 rfl meth_Len (recv_row hH2) rfl (by simp) ?_
  simp [e1]
  refine sc_fam 0 hU (fun p => by simp) (by simp) (by simp) ?_
  simp
  exact reth_famN rfl rfl (fun p => by simp)
theorem hpPop_spec (l junk : List Sc) (v : Nat) (hl : l.length ≤ 900) (h0 : 0 < l.length) : SpecF Try.prog 21 (fun r => [hpI r]) (hpF l junk v) (fun _ => scI ((popL l).getD (l.length - 1) sc0)) (hpF ((popL l).take (l.length - 1)) ((popL l).getD (l.length - 1) sc0 :: junk) v) := by
  refine specF_of t_container_heap_Pop (by simp) (famL_cons (famA_ifc famA_pob) famL_nil) (famA_scI _) fun w0 I0 M0 m0 => ?_
  obtain ⟨n, hn⟩ : ∃ n, n = l.length - 1 := ⟨_, rfl⟩
  have hlen := popL_len l
  rw [← hn]
  have hL := hLen_spec l junk v (by omega)
  have hS := hSwap_spec l junk v (by omega) 0 n h0 (by omega)
  rw [← swL_at h0 (by omega)] at hS
  have hD := down_spec (swL l 0 n) junk v (by simp; omega) n (by simp; omega) (by simp; omega)
  have hpd : (downL (n + 1) (swL l 0 n) 0 n).1 = popL l := by unfold popL; rw [← hn]
  rw [hpd] at hD
  have hsplit : popL l = (popL l).take n ++ [(popL l).getD n sc0] := by
    rw [getD_at (by omega), List.take_append_getElem, List.take_of_length_le (by omega)]
  have hP := hPop_spec ((popL l).take n) junk v (by simp; omega) ((popL l).getD n sc0)
  rw [← hsplit] at hP
  have e1 : IntKind.i64.wrap ((l.length : Int) - 1) = (n : Int) := by rw [i64_same (by omega) (by omega)]; omega
  have hH1 : ∀ p, (ov 0 ((hpF l junk v).F 0) (lkH []) : Hp) (0 :: p) = (hpF l junk v).F 0 p := fun p => by simp
  have hH3 : ∀ l2 : List Sc, ∀ p, (ov 0 ((hpF l2 junk v).F 0) (lkH []) : Hp) (0 :: p) = (hpF l2 junk v).F 0 p := fun l2 p => by simp
  generalize (popL l).getD n sc0 = z at hP ⊢
  generalize (popL l).take n = l3 at hP ⊢
  generalize popL l = l2 at hD hP
  generalize (downL (n + 1) (swL l 0 n) 0 n).2 = dd at hD
  generalize swL l 0 n = l1 at hS hD
  unfold c_container_heap_Pop
  simp
  refine sc_invF 0 hL hH1 rfl meth_Len (recv_row hH1) rfl (by simp) ?_
  simp [e1]
  refine sc_invF 0 hS hH1 rfl meth_Swap (recv_row hH1) rfl (by simp) ?_
  simp
  refine sc_fam 0 hD (fun p => by simp) (by simp) (by simp) ?_
  simp
  refine sc_invF 0 hP (fun p => by simp) rfl meth_Pop rfl rfl (by simp) ?_
  simp
  exact reth_fam rfl rfl (fun p => by simp)
end Go.Proofs.Ytmeldaflhkiopaa

/-
  pair.Pick: crossing pairs; rows of pairs.
-/
namespace Go.Proofs.Ytmeldaflhkiopaa
set_option linter.unusedVariables false
set_option linter.unusedSimpArgs false
open Go Go.G Go.Proofs Go.PL
def prC (x : Sc) : List A := [iv x.i, iv x.j]
def prA (x : Sc) : A := .agg (prC x)
@[simp] theorem prA_cells {x : Sc} : (prA x).cells = prC x := rfl
@[simp] theorem prC_len {x : Sc} : (prC x).length = 2 := rfl
@[simp] theorem pr_ones {x : Sc} : A.ones (prC x) = true := rfl
@[simp] theorem pr_take {x : Sc} : (prC x).take 2 = prC x := rfl
theorem pr_agg {x : Sc} : A.agg (prC x) = prA x := rfl
theorem pr_bare {x : Sc} : ∀ y, y ∈ prC x → y.bare1 = true := fun y hy => by simp [prC] at hy; rcases hy with rfl | rfl <;> rfl
theorem lens_pr {l : List Sc} : lens 2 (l.map prA) = true := by rw [lens_all]; simp
theorem famA_pr (x : Sc) : FamA (fun _ => prA x) := famA_bare (cs := prC x) rfl pr_bare
/-- A row of pairs. -/
def rpF (l : List Sc) (v : Nat) : Fam := ⟨fun r p => if p = [] then ⟨v, .arr 2 (l.map prA)⟩ else ⟨0, .none⟩, fun {g δ r r'} hg hd p => by
    by_cases h1 : p = []
    · rw [if_pos h1]
      refine Fam.arr_ren ?_
      have e : ∀ x : Sc, (prA x).ren g δ = prA x := fun x => by simp [prA, prC, A.ren, A.renL]
      simp only [renL_map, List.map_map]
      refine List.map_congr_left fun x _ => ?_
      exact e x
    · rw [if_neg h1]; rfl, fun {D r} hD p => by
    by_cases h1 : p = []
    · rw [if_pos h1]
      simp only [Ob.refs, refsL_iff]
      intro y hy
      obtain ⟨x, _, rfl⟩ := List.mem_map.1 hy
      simp [A.refs, A.refsL, prA, prC]
    · rw [if_neg h1]; trivial⟩
@[simp] theorem rpF_F {l : List Sc} {v r : Nat} {p : Nm} : (rpF l v).F r p = if p = [] then ⟨v, .arr 2 (l.map prA)⟩ else ⟨0, .none⟩ := rfl
abbrev rpS (l : List Sc) (v r : Nat) : A := .osl [r] v 2 0 l.length
theorem crosses_spec (p q : Sc) : G.Spec Try.prog 23 [prA p, prA q] (bv (!par p q)) := by
  refine spec_of t_pair_Pair_crosses (by simp) fun w0 I0 => ?_
  unfold c_pair_Pair_crosses par
  by_cases h1 : p.i < q.i <;> by_cases h2 : p.j < q.j <;> by_cases h3 : q.i < p.i <;> by_cases h4 : q.j < p.j <;> simp [prA, prC, h1, h2, h3, h4, updF_app] <;> exact frz_bool rfl
abbrev crF (x : Sc) : A := .fnc 23 [prA x] []
theorem famA_crF (x : Sc) : FamA (fun _ => crF x) := famA_fnc (famL_cons (famA_pr x) famL_nil) famL_nil
def idxCr (x : Sc) : List Sc → Nat → Int
  | [], _ => -1
  | q :: l, i => if par x q = true then idxCr x l (i + 1) else i
theorem idxCr_free (x : Sc) : ∀ (l : List Sc) (i : Nat), decide (0 ≤ idxCr x l i) = !(l.all fun q => par x q)
  | [], i => rfl
  | q :: l, i => by
    unfold idxCr
    cases h : par x q with
    | true => simp [h, idxCr_free x l (i + 1)]
    | false => simp [h]
theorem idx_l1 {n0 : Nat} {w0 : World} {I0 : Nat → Prop} {M0 : Nm → Nat → Prop} {m0 : Mu} {Q : Exit → Sta → Prop} {x : Sc} {l : List Sc} {v : Nat} {H : Hp} (hl : l.length ≤ 1000) (hH : ∀ p, H (0 :: p) = (rpF l v).F 0 p)
    (hq : ∀ y : Int, y = idxCr x l 0 → y ≠ -1 → Q .ret ⟨lk [(4, iv y)], H⟩) (hq2 : idxCr x l 0 = -1 → Q (.exit 0) ⟨lk [(0, rpS l v 0), (1, crF x), (7, iv l.length), (8, iv l.length), (9, bv false)], H⟩) : ∀ (m i : Nat), i + m = l.length → idxCr x (l.drop i) i = idxCr x l 0 →
    LoopC (cxh Try.prog w0 I0 M0 n0 m0) l1_slices_IndexFunc_pair_Pair_pair_Pair Q ⟨lk [(0, rpS l v 0), (1, crF x), (7, iv l.length), (8, iv i)], H⟩ := by
  intro m
  induction m with
  | zero =>
    intro i hi he
    have : i = l.length := by omega
    subst this
    rw [List.drop_length] at he
    refine loopC_once mixed l1_slices_IndexFunc_pair_Pair_pair_Pair.eq_1 ?_
    simp
    exact hq2 (he.symm.trans rfl)
  | succ m ih =>
    intro i hi he
    have hlt : i < l.length := by omega
    have h0 := hH []
    have hg : (l.map prA)[i]? = some (prA l[i]) := by simp [hlt]
    have e1 : IntKind.i64.wrap ((i : Int) + 1) = ((i + 1 : Nat) : Int) := by rw [i64_same (by omega) (by omega)]; omega
    rw [List.drop_eq_getElem_cons hlt, idxCr] at he
    refine loopC_once mixed l1_slices_IndexFunc_pair_Pair_pair_Pair.eq_1 ?_
    simp [h0, hg, hlt, pr_agg, show (i : Int) < l.length by omega]
    refine sc_callv (fs := [prA x]) (caps := []) rfl (crosses_spec x l[i]) rfl ?_
    cases hp : par x l[i] with
    | true =>
      rw [hp, if_pos rfl] at he
      simp [e1]
      exact ih (i + 1) (by omega) he
    | false =>
      rw [hp, if_neg (by simp)] at he
      simp
      exact hq _ he (by omega)
theorem idxF_spec (x : Sc) (l : List Sc) (v : Nat) (hl : l.length ≤ 1000) : SpecF Try.prog 40 (fun r => [rpS l v r, crF x]) (rpF l v) (fun _ => iv (idxCr x l 0)) (rpF l v) := by
  refine specF_of t_slices_IndexFunc_pair_Pair_pair_Pair (by simp) (famL_cons famA_osl (famL_cons (famA_crF x) famL_nil)) famA_v fun w0 I0 M0 m0 => ?_
  unfold c_slices_IndexFunc_pair_Pair_pair_Pair
  simp
  refine idx_l1 (v := v) (x := x) hl (fun p => by simp) (fun y hy hn => ?_) (fun h => ?_) l.length 0 (by omega) rfl
  · simp
    exact reth_fam (by rw [hy]; rfl) rfl (fun p => by simp)
  · simp
    exact reth_fam (by rw [h]; rfl) rfl (fun p => by simp)
theorem cont_spec (x : Sc) (l : List Sc) (v : Nat) (hl : l.length ≤ 1000) : SpecF Try.prog 22 (fun r => [rpS l v r, crF x]) (rpF l v) (fun _ => bv (!freeB l x)) (rpF l v) := by
  have hI := idxF_spec x l v hl
  have e : decide (0 ≤ idxCr x l 0) = !freeB l x := by
    rw [idxCr_free]
    unfold freeB
    congr 2
    funext q
    exact par_symm
  refine specF_of t_slices_ContainsFunc_pair_Pair_pair_Pair (by simp) (famL_cons famA_osl (famL_cons (famA_crF x) famL_nil)) famA_v fun w0 I0 M0 m0 => ?_
  unfold c_slices_ContainsFunc_pair_Pair_pair_Pair
  simp
  refine sc_fam 0 hI (fun p => by simp) (by simp) (by simp) ?_
  simp
  rw [← e]
  exact reth_fam rfl rfl (fun p => by simp)
end Go.Proofs.Ytmeldaflhkiopaa
