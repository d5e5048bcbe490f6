/-
  The functions' text as data, and the facts on the types that they use: written by a program of ours (gen2.py) off the translation.
-/
import Derived.Test.YtigdcnlhgelkaaaProg
import Derived.Test.YtigdcnlhgelkaaaGSimp
import Derived.Test.YtigdcnlhgelkaaaGFnsA
import Derived.Test.YtigdcnlhgelkaaaGFns1
import Derived.Test.YtigdcnlhgelkaaaGFnsB
import Derived.KernelRfl
namespace Go.Proofs.Ytigdcnlhgelkaaa
set_option linter.unusedVariables false
set_option linter.unusedSimpArgs false
set_option maxRecDepth 20000
open Go Go.G Go.Proofs

@[simp] theorem und_4 : Try.prog.underlying 4 = some .bool := by kernel_rfl
@[simp] theorem und_23 : Try.prog.underlying 23 = some (.slice 25) := by kernel_rfl
@[simp] theorem szT_23 : szT Try.prog 23 = some 1 := by kernel_rfl
@[simp] theorem szT_25 : szT Try.prog 25 = some 3 := by kernel_rfl
@[simp] theorem aggT_23 : aggT Try.prog 23 = some false := by kernel_rfl
@[simp] theorem aggT_25 : aggT Try.prog 25 = some true := by kernel_rfl
@[simp] theorem zeroT_25 : zeroT Try.prog 25 = some (Value.agg #[Value.int IntKind.i64 0, Value.slice none 0 0, Value.slice none 0 0]) := by kernel_rfl
@[simp] theorem bytesT_25 : bytesT Try.prog 25 = some 56 := by kernel_rfl
@[simp] theorem fieldOffT_25_0 : fieldOffT Try.prog 25 0 = some 0 := by kernel_rfl
@[simp] theorem fieldOffT_25_1 : fieldOffT Try.prog 25 1 = some 1 := by kernel_rfl
@[simp] theorem fieldOffT_25_2 : fieldOffT Try.prog 25 2 = some 2 := by kernel_rfl
@[simp] theorem buildA_25 (ps : List (Nat × A)) : buildA Try.prog 25 ps = (fillA (fun i => ([(0, 1), (1, 1), (2, 1)] : List (Nat × Nat))[i]?) [A.v (Value.int IntKind.i64 0), A.sl true [], A.sl true []] ps).map A.agg := by kernel_rfl

def l1_centoref07_Right : CC :=
  .seq (.seq (.reg [co (some 78) (.move (.tmp 5)) none,
        co (some 79) (.fieldAddr 25 (.tmp 2) 2) none,
        co (some 80) (.load 23 (.tmp 79)) none,
        co (some 81) (.call { callee := (.builtin .len), args := #[(.tmp 80)], argTypes := #[23] }) none,
        co (some 82) (.binOp .lss 3 (.tmp 78) (.tmp 81) 3) none] [1, 2, 5, 82])
    (.cond (.tmp 82)
      (.skip)
      (.exit 0)))
  (.keep [1, 2, 5] (.seq (.block 1
      (.seq (.reg [co (some 85) (.fieldAddr 25 (.tmp 2) 2) none,
          co (some 86) (.load 23 (.tmp 85)) none,
          co (some 87) (.move (.tmp 5)) none,
          co (some 88) (.indexAddr 23 (.tmp 86) (.tmp 87)) none,
          co (some 89) (.load 25 (.tmp 88)) none,
          cn (some 6) (.alloc 25) none [1],
          co none (.store 25 (.tmp 6) (.tmp 89)) none] [1, 2, 5, 6])
      (.seq (.seq (.reg [co (some 90) (.load 25 (.tmp 6)) none,
            co (some 91) (.move (.tmp 1)) none,
            co (some 92) (.binOp .sub 3 (.tmp 91) (.const (.int .i64 1)) 3) none,
            co (some 93) (.call { callee := (.value (.func 15)), args := #[(.tmp 90), (.tmp 92)], argTypes := #[25, 3] }) none,
            co (some 94) (.unOp .not 4 (.tmp 93)) none] [1, 2, 5, 6, 94])
        (.cond (.tmp 94)
          (.seq (.reg [co (some 4) (.assign (.const (.bool false))) none] [4])
          (.ret))
          (.skip)))
      (.keep [1, 2, 5, 6] (.seq (.reg [co (some 95) (.fieldAddr 25 (.tmp 2) 0) none,
          co (some 96) (.load 3 (.tmp 95)) none,
          co (some 97) (.binOp .geq 3 (.tmp 96) (.const (.int .i64 2)) 3) none,
          co (some 98) (.move (.tmp 97)) none,
          co (some 99) (.fieldAddr 25 (.tmp 2) 0) (some (98, true)),
          co (some 100) (.load 3 (.tmp 99)) (some (98, true)),
          co (some 101) (.binOp .leq 3 (.tmp 100) (.const (.int .i64 7)) 3) (some (98, true)),
          co (some 102) (.pick (.tmp 98) (.tmp 101) (.const (.bool false))) none,
          co (some 7) (.assign (.tmp 102)) none] [1, 2, 5, 6, 7])
      (.seq (.reg [co (some 103) (.move (.tmp 7)) none,
          co (some 104) (.fieldAddr 25 (.tmp 6) 0) none,
          co (some 105) (.load 3 (.tmp 104)) none,
          co (some 106) (.binOp .eql 3 (.tmp 105) (.const (.int .i64 10)) 3) none,
          co (some 107) (.binOp .neq 4 (.tmp 103) (.tmp 106) 4) none,
          co (some 108) (.move (.tmp 107)) none,
          co (some 109) (.fieldAddr 25 (.tmp 2) 0) (some (108, false)),
          co (some 110) (.load 3 (.tmp 109)) (some (108, false)),
          co (some 111) (.binOp .eql 3 (.tmp 110) (.const (.int .i64 9)) 3) (some (108, false)),
          co (some 112) (.move (.tmp 111)) (some (108, false)),
          co (some 113) (.fieldAddr 25 (.tmp 6) 0) (some (112, true)),
          co (some 114) (.load 3 (.tmp 113)) (some (112, true)),
          co (some 115) (.binOp .neq 3 (.tmp 114) (.const (.int .i64 1)) 3) (some (112, true)),
          co (some 116) (.pick (.tmp 112) (.tmp 115) (.const (.bool false))) (some (108, false)),
          co (some 117) (.pick (.tmp 108) (.const (.bool true)) (.tmp 116)) none,
          co (some 118) (.move (.tmp 117)) none,
          co (some 119) (.move (.tmp 7)) (some (118, false)),
          co (some 120) (.move (.tmp 119)) (some (118, false)),
          co (some 121) (.fieldAddr 25 (.tmp 2) 0) (some (120, true)),
          co (some 122) (.load 3 (.tmp 121)) (some (120, true)),
          co (some 123) (.binOp .sub 3 (.tmp 122) (.const (.int .i64 2)) 3) (some (120, true)),
          co (some 124) (.fieldAddr 25 (.tmp 6) 1) (some (120, true)),
          co (some 125) (.load 22 (.tmp 124)) (some (120, true)),
          co (some 126) (.indexAddr 22 (.tmp 125) (.const (.int .i64 0))) (some (120, true)),
          co (some 127) (.load 45 (.tmp 126)) (some (120, true)),
          co (some 128) (.call { callee := (.value (.func 50)), args := #[(.tmp 123), (.tmp 127)], argTypes := #[3, 45] }) (some (120, true)),
          co (some 129) (.unOp .not 4 (.tmp 128)) (some (120, true)),
          co (some 130) (.pick (.tmp 120) (.tmp 129) (.const (.bool false))) (some (118, false)),
          co (some 131) (.pick (.tmp 118) (.const (.bool true)) (.tmp 130)) none] [1, 2, 5, 131])
      (.cond (.tmp 131)
        (.seq (.reg [co (some 4) (.assign (.const (.bool false))) none] [4])
        (.ret))
        (.skip))))))))
  (.keep [1, 2, 5] (.reg [co (some 83) (.move (.tmp 5)) none,
    co (some 84) (.binOp .add 3 (.tmp 83) (.const (.int .i64 1)) 3) none,
    co (some 5) (.assign (.tmp 84)) none] [1, 2, 5]))))

/-- cento/centoref07.Right -/
def c_centoref07_Right : CC :=
  .seq (.reg [cn (some 2) (.box 25 (.tmp 0)) none [0],
      co (some 4) (.assign (.const (.bool false))) none] [1, 2])
  (.seq (.seq (.reg [co (some 8) (.fieldAddr 25 (.tmp 2) 0) none,
        co (some 9) (.load 3 (.tmp 8)) none,
        co (some 10) (.binOp .eql 3 (.tmp 9) (.const (.int .i64 0)) 3) none] [1, 2, 10])
    (.cond (.tmp 10)
      (.seq (.reg [co (some 11) (.fieldAddr 25 (.tmp 2) 1) none,
          co (some 12) (.load 22 (.tmp 11)) none,
          co (some 13) (.call { callee := (.builtin .len), args := #[(.tmp 12)], argTypes := #[22] }) none,
          co (some 14) (.binOp .eql 3 (.tmp 13) (.const (.int .i64 0)) 3) none,
          co (some 15) (.move (.tmp 14)) none,
          co (some 16) (.fieldAddr 25 (.tmp 2) 2) (some (15, true)),
          co (some 17) (.load 23 (.tmp 16)) (some (15, true)),
          co (some 18) (.call { callee := (.builtin .len), args := #[(.tmp 17)], argTypes := #[23] }) (some (15, true)),
          co (some 19) (.binOp .eql 3 (.tmp 18) (.const (.int .i64 0)) 3) (some (15, true)),
          co (some 20) (.pick (.tmp 15) (.tmp 19) (.const (.bool false))) none,
          co (some 4) (.assign (.tmp 20)) none] [4])
      (.ret))
      (.skip)))
  (.keep [1, 2] (.seq (.seq (.reg [co (some 21) (.fieldAddr 25 (.tmp 2) 0) none,
        co (some 22) (.load 3 (.tmp 21)) none,
        co (some 23) (.binOp .eql 3 (.tmp 22) (.const (.int .i64 10)) 3) none] [1, 2, 23])
    (.cond (.tmp 23)
      (.seq (.reg [co (some 24) (.fieldAddr 25 (.tmp 2) 1) none,
          co (some 25) (.load 22 (.tmp 24)) none,
          co (some 26) (.call { callee := (.builtin .len), args := #[(.tmp 25)], argTypes := #[22] }) none,
          co (some 27) (.binOp .eql 3 (.tmp 26) (.const (.int .i64 1)) 3) none,
          co (some 28) (.move (.tmp 27)) none,
          co (some 29) (.fieldAddr 25 (.tmp 2) 2) (some (28, true)),
          co (some 30) (.load 23 (.tmp 29)) (some (28, true)),
          co (some 31) (.call { callee := (.builtin .len), args := #[(.tmp 30)], argTypes := #[23] }) (some (28, true)),
          co (some 32) (.binOp .eql 3 (.tmp 31) (.const (.int .i64 0)) 3) (some (28, true)),
          co (some 33) (.pick (.tmp 28) (.tmp 32) (.const (.bool false))) none,
          co (some 4) (.assign (.tmp 33)) none] [4])
      (.ret))
      (.skip)))
  (.keep [1, 2] (.seq (.seq (.reg [co (some 34) (.fieldAddr 25 (.tmp 2) 0) none,
        co (some 35) (.load 3 (.tmp 34)) none,
        co (some 36) (.binOp .lss 3 (.tmp 35) (.const (.int .i64 0)) 3) none,
        co (some 37) (.move (.tmp 36)) none,
        co (some 38) (.fieldAddr 25 (.tmp 2) 0) (some (37, false)),
        co (some 39) (.load 3 (.tmp 38)) (some (37, false)),
        co (some 40) (.binOp .gtr 3 (.tmp 39) (.const (.int .i64 10)) 3) (some (37, false)),
        co (some 41) (.pick (.tmp 37) (.const (.bool true)) (.tmp 40)) none,
        co (some 42) (.move (.tmp 41)) none,
        co (some 43) (.move (.tmp 1)) (some (42, false)),
        co (some 44) (.binOp .eql 3 (.tmp 43) (.const (.int .i64 0)) 3) (some (42, false)),
        co (some 45) (.pick (.tmp 42) (.const (.bool true)) (.tmp 44)) none,
        co (some 46) (.move (.tmp 45)) none,
        co (some 47) (.fieldAddr 25 (.tmp 2) 1) (some (46, false)),
        co (some 48) (.load 22 (.tmp 47)) (some (46, false)),
        co (some 49) (.call { callee := (.builtin .len), args := #[(.tmp 48)], argTypes := #[22] }) (some (46, false)),
        co (some 50) (.binOp .geq 3 (.tmp 49) (.const (.int .i64 65536)) 3) (some (46, false)),
        co (some 51) (.pick (.tmp 46) (.const (.bool true)) (.tmp 50)) none,
        co (some 52) (.move (.tmp 51)) none,
        co (some 53) (.fieldAddr 25 (.tmp 2) 0) (some (52, false)),
        co (some 54) (.load 3 (.tmp 53)) (some (52, false)),
        co (some 55) (.binOp .eql 3 (.tmp 54) (.const (.int .i64 1)) 3) (some (52, false)),
        co (some 56) (.move (.tmp 55)) (some (52, false)),
        co (some 57) (.fieldAddr 25 (.tmp 2) 2) (some (56, true)),
        co (some 58) (.load 23 (.tmp 57)) (some (56, true)),
        co (some 59) (.call { callee := (.builtin .len), args := #[(.tmp 58)], argTypes := #[23] }) (some (56, true)),
        co (some 60) (.binOp .geq 3 (.tmp 59) (.const (.int .i64 65536)) 3) (some (56, true)),
        co (some 61) (.pick (.tmp 56) (.tmp 60) (.const (.bool false))) (some (52, false)),
        co (some 62) (.pick (.tmp 52) (.const (.bool true)) (.tmp 61)) none,
        co (some 63) (.move (.tmp 62)) none,
        co (some 64) (.fieldAddr 25 (.tmp 2) 2) (some (63, false)),
        co (some 65) (.load 23 (.tmp 64)) (some (63, false)),
        co (some 66) (.call { callee := (.builtin .len), args := #[(.tmp 65)], argTypes := #[23] }) (some (63, false)),
        co (some 67) (.binOp .geq 3 (.tmp 66) (.const (.int .i64 1048576)) 3) (some (63, false)),
        co (some 68) (.pick (.tmp 63) (.const (.bool true)) (.tmp 67)) none] [1, 2, 68])
    (.cond (.tmp 68)
      (.seq (.reg [co (some 4) (.assign (.const (.bool false))) none] [4])
      (.ret))
      (.skip)))
  (.keep [1, 2] (.seq (.seq (.reg [co (some 69) (.fieldAddr 25 (.tmp 2) 0) none,
        co (some 70) (.load 3 (.tmp 69)) none,
        co (some 71) (.binOp .gtr 3 (.tmp 70) (.const (.int .i64 1)) 3) none,
        co (some 72) (.move (.tmp 71)) none,
        co (some 73) (.fieldAddr 25 (.tmp 2) 1) (some (72, true)),
        co (some 74) (.load 22 (.tmp 73)) (some (72, true)),
        co (some 75) (.call { callee := (.builtin .len), args := #[(.tmp 74)], argTypes := #[22] }) (some (72, true)),
        co (some 76) (.binOp .gtr 3 (.tmp 75) (.const (.int .i64 0)) 3) (some (72, true)),
        co (some 77) (.pick (.tmp 72) (.tmp 76) (.const (.bool false))) none] [1, 2, 77])
    (.cond (.tmp 77)
      (.seq (.reg [co (some 4) (.assign (.const (.bool false))) none] [4])
      (.ret))
      (.skip)))
  (.keep [1, 2] (.seq (.seq (.reg [co (some 5) (.assign (.const (.int .i64 0))) none] [1, 2, 5])
    (.block 0
      (.loop l1_centoref07_Right)))
  (.keep [] (.seq (.reg [co (some 4) (.assign (.const (.bool true))) none] [4])
  (.ret))))))))))))
theorem t_centoref07_Right : Txt Try.prog 15 132 [(.tmp 4)] c_centoref07_Right := txt_of (code := Try.f15.body.getD .ret) mixed (by kernel_rfl) Try.func15 (by kernel_rfl) Try.ntmps15 (by kernel_rfl) (ls := [([1, 2], [(0, [0])]), ([], []), ([1, 2, 10], []), ([], []), ([4], []), ([], []), ([999999, 1, 2], []), ([1, 2, 23], []), ([], []), ([4], []), ([], []), ([999999, 1, 2], []), ([1, 2, 68], []), ([], []), ([4], []), ([], []), ([999999, 1, 2], []), ([1, 2, 77], []), ([], []), ([4], []), ([], []), ([999999, 1, 2], []), ([1, 2, 5], []), ([], []), ([1, 2, 5, 82], []), ([], []), ([999999, 1, 2, 5], []), ([1, 2, 5, 6], [(5, [1])]), ([], []), ([1, 2, 5, 6, 94], []), ([], []), ([4], []), ([], []), ([999999, 1, 2, 5, 6], []), ([1, 2, 5, 6, 7], []), ([], []), ([1, 2, 5, 131], []), ([], []), ([4], []), ([], []), ([999999, 1, 2, 5], []), ([1, 2, 5], []), ([999999], []), ([4], []), ([], [])]) (by kernel_rfl)

def l1_centoref07_Norm : CC :=
  .seq (.seq (.reg [co (some 12) (.move (.tmp 5)) none,
        co (some 13) (.fieldAddr 25 (.tmp 1) 2) none,
        co (some 14) (.load 23 (.tmp 13)) none,
        co (some 15) (.call { callee := (.builtin .len), args := #[(.tmp 14)], argTypes := #[23] }) none,
        co (some 16) (.binOp .lss 3 (.tmp 12) (.tmp 15) 3) none] [1, 2, 3, 4, 5, 16])
    (.cond (.tmp 16)
      (.skip)
      (.exit 0)))
  (.keep [1, 2, 3, 4, 5] (.seq (.block 1
      (.seq (.reg [co (some 19) (.fieldAddr 25 (.tmp 1) 2) none,
          co (some 20) (.load 23 (.tmp 19)) none,
          co (some 21) (.move (.tmp 5)) none,
          co (some 22) (.indexAddr 23 (.tmp 20) (.tmp 21)) none,
          co (some 23) (.load 25 (.tmp 22)) none,
          co (some 24) (.call { callee := (.value (.func 18)), args := #[(.tmp 23)], argTypes := #[25] }) none,
          cn (some 6) (.alloc 25) none [2],
          co none (.store 25 (.tmp 6) (.tmp 24)) none] [1, 2, 3, 4, 5, 6])
      (.seq (.reg [co (some 25) (.move (.tmp 3)) none,
          co (some 26) (.load 25 (.tmp 6)) none,
          co (some 27) (.buildSlice 23 1 #[(0, (.tmp 26))]) none,
          cn (some 28) (.call { callee := (.builtin .append), args := #[(.tmp 25), (.tmp 27)], argTypes := #[23, 23] }) none [3],
          co (some 3) (.assign (.tmp 28)) none] [1, 2, 3, 4, 5, 6])
      (.seq (.reg [co (some 29) (.fieldAddr 25 (.tmp 6) 0) none,
          co (some 30) (.load 3 (.tmp 29)) none,
          co (some 31) (.binOp .neq 3 (.tmp 30) (.const (.int .i64 0)) 3) none] [1, 2, 3, 4, 5, 31])
      (.cond (.tmp 31)
        (.reg [co (some 32) (.move (.tmp 5)) none,
          co (some 33) (.binOp .add 3 (.tmp 32) (.const (.int .i64 1)) 3) none,
          co (some 4) (.assign (.tmp 33)) none] [1, 2, 3, 4, 5])
        (.skip))))))
  (.keep [1, 2, 3, 4, 5] (.reg [co (some 17) (.move (.tmp 5)) none,
    co (some 18) (.binOp .add 3 (.tmp 17) (.const (.int .i64 1)) 3) none,
    co (some 5) (.assign (.tmp 18)) none] [1, 2, 3, 4, 5]))))

/-- cento/centoref07.Norm -/
def c_centoref07_Norm : CC :=
  .seq (.reg [cn (some 1) (.box 25 (.tmp 0)) none [0],
      cn (some 2) (.alloc 25) none [1]] [1, 2])
  (.seq (.seq (.reg [co (some 8) (.fieldAddr 25 (.tmp 1) 0) none,
        co (some 9) (.load 3 (.tmp 8)) none,
        co (some 10) (.binOp .eql 3 (.tmp 9) (.const (.int .i64 0)) 3) none] [1, 2, 10])
    (.cond (.tmp 10)
      (.seq (.reg [co (some 11) (.build 25 #[]) none,
          co none (.store 25 (.tmp 2) (.tmp 11)) none] [2])
      (.ret))
      (.skip)))
  (.keep [1, 2] (.seq (.reg [co (some 3) (.assign (.const (.slice none 0 0))) none] [1, 2, 3])
  (.seq (.reg [co (some 4) (.assign (.const (.int .i64 0))) none] [1, 2, 3, 4])
  (.seq (.seq (.reg [co (some 5) (.assign (.const (.int .i64 0))) none] [1, 2, 3, 4, 5])
    (.block 0
      (.loop l1_centoref07_Norm)))
  (.keep [1, 2, 3, 4] (.seq (.seq (.reg [co (some 34) (.fieldAddr 25 (.tmp 1) 0) none,
        co (some 35) (.load 3 (.tmp 34)) none,
        co (some 36) (.binOp .eql 3 (.tmp 35) (.const (.int .i64 1)) 3) none] [1, 2, 3, 4, 36])
    (.cond (.tmp 36)
      (.seq (.reg [co (some 37) (.fieldAddr 25 (.tmp 1) 1) none,
          co (some 38) (.load 22 (.tmp 37)) none,
          co (some 39) (.call { callee := (.value (.func 54)), args := #[(.tmp 38)], argTypes := #[22] }) none,
          co (some 40) (.move (.tmp 3)) none,
          co (some 41) (.move (.tmp 4)) none,
          co (some 42) (.slice 23 (.tmp 40) none (some (.tmp 41)) none) none,
          co (some 43) (.build 25 #[(0, (.const (.int .i64 1))), (1, (.tmp 39)), (2, (.tmp 42))]) none,
          co none (.store 25 (.tmp 2) (.tmp 43)) none] [2])
      (.ret))
      (.skip)))
  (.keep [1, 2, 3] (.seq (.reg [co (some 7) (.assign (.const (.slice none 0 0))) none] [1, 2, 3, 7])
  (.seq (.reg [co (some 44) (.move (.tmp 7)) none,
      co (some 45) (.fieldAddr 25 (.tmp 1) 1) none,
      co (some 46) (.load 22 (.tmp 45)) none,
      cn (some 47) (.call { callee := (.builtin .append), args := #[(.tmp 44), (.tmp 46)], argTypes := #[22, 22] }) none [4],
      co (some 7) (.assign (.tmp 47)) none] [1, 2, 3, 7])
  (.seq (.reg [co (some 48) (.fieldAddr 25 (.tmp 1) 0) none,
      co (some 49) (.load 3 (.tmp 48)) none,
      co (some 50) (.move (.tmp 7)) none,
      co (some 51) (.move (.tmp 3)) none,
      co (some 52) (.build 25 #[(0, (.tmp 49)), (1, (.tmp 50)), (2, (.tmp 51))]) none,
      co none (.store 25 (.tmp 2) (.tmp 52)) none] [2])
  (.ret))))))))))))
theorem t_centoref07_Norm : Txt Try.prog 18 53 [(.cell 2 25)] c_centoref07_Norm := txt_of (code := Try.f18.body.getD .ret) mixed (by kernel_rfl) Try.func18 (by kernel_rfl) Try.ntmps18 (by kernel_rfl) (ls := [([1, 2], [(0, [0]), (1, [1])]), ([], []), ([1, 2, 10], []), ([], []), ([2], []), ([], []), ([999999, 1, 2], []), ([1, 2, 3], []), ([], []), ([1, 2, 3, 4], []), ([], []), ([1, 2, 3, 4, 5], []), ([], []), ([1, 2, 3, 4, 5, 16], []), ([], []), ([999999, 1, 2, 3, 4, 5], []), ([1, 2, 3, 4, 5, 6], [(6, [2])]), ([], []), ([1, 2, 3, 4, 5, 6], [(3, [3])]), ([], []), ([1, 2, 3, 4, 5, 31], []), ([], []), ([1, 2, 3, 4, 5], []), ([999999, 1, 2, 3, 4, 5], []), ([1, 2, 3, 4, 5], []), ([999999, 1, 2, 3, 4], []), ([1, 2, 3, 4, 36], []), ([], []), ([2], []), ([], []), ([999999, 1, 2, 3], []), ([1, 2, 3, 7], []), ([], []), ([1, 2, 3, 7], [(3, [4])]), ([], []), ([2], []), ([], [])]) (by kernel_rfl)

def k1_centoref07_Frame : CC :=
  .seq (.reg [co (some 30) (.fieldAddr 25 (.tmp 1) 2) none,
      co (some 31) (.load 23 (.tmp 30)) none,
      co (some 32) (.move (.tmp 6)) none,
      co (some 33) (.indexAddr 23 (.tmp 31) (.tmp 32)) none,
      co (some 34) (.fieldAddr 25 (.tmp 33) 2) none,
      co (some 35) (.load 23 (.tmp 34)) none,
      co (some 36) (.call { callee := (.builtin .len), args := #[(.tmp 35)], argTypes := #[23] }) none,
      co (some 37) (.move (.tmp 5)) none,
      co (some 38) (.binOp .gtr 3 (.tmp 36) (.tmp 37) 3) none] [1, 4, 5, 6, 38])
  (.cond (.tmp 38)
    (.reg [co (some 39) (.fieldAddr 25 (.tmp 1) 2) none,
      co (some 40) (.load 23 (.tmp 39)) none,
      co (some 41) (.move (.tmp 6)) none,
      co (some 42) (.indexAddr 23 (.tmp 40) (.tmp 41)) none,
      co (some 43) (.fieldAddr 25 (.tmp 42) 2) none,
      co (some 44) (.load 23 (.tmp 43)) none,
      co (some 45) (.call { callee := (.builtin .len), args := #[(.tmp 44)], argTypes := #[23] }) none,
      co (some 5) (.assign (.tmp 45)) none] [1, 4, 5, 6])
    (.skip))
def l1_centoref07_Frame : CC :=
  .seq (.seq (.reg [co (some 7) (.move (.tmp 6)) none,
        co (some 8) (.fieldAddr 25 (.tmp 1) 2) none,
        co (some 9) (.load 23 (.tmp 8)) none,
        co (some 10) (.call { callee := (.builtin .len), args := #[(.tmp 9)], argTypes := #[23] }) none,
        co (some 11) (.binOp .lss 3 (.tmp 7) (.tmp 10) 3) none] [1, 4, 5, 6, 11])
    (.cond (.tmp 11)
      (.skip)
      (.exit 0)))
  (.keep [1, 4, 5, 6] (.seq (.block 1
      (.seq (.seq (.reg [co (some 14) (.fieldAddr 25 (.tmp 1) 2) none,
            co (some 15) (.load 23 (.tmp 14)) none,
            co (some 16) (.move (.tmp 6)) none,
            co (some 17) (.indexAddr 23 (.tmp 15) (.tmp 16)) none,
            co (some 18) (.fieldAddr 25 (.tmp 17) 1) none,
            co (some 19) (.load 22 (.tmp 18)) none,
            co (some 20) (.call { callee := (.builtin .len), args := #[(.tmp 19)], argTypes := #[22] }) none,
            co (some 21) (.move (.tmp 4)) none,
            co (some 22) (.binOp .gtr 3 (.tmp 20) (.tmp 21) 3) none] [1, 4, 5, 6, 22])
        (.cond (.tmp 22)
          (.reg [co (some 23) (.fieldAddr 25 (.tmp 1) 2) none,
            co (some 24) (.load 23 (.tmp 23)) none,
            co (some 25) (.move (.tmp 6)) none,
            co (some 26) (.indexAddr 23 (.tmp 24) (.tmp 25)) none,
            co (some 27) (.fieldAddr 25 (.tmp 26) 1) none,
            co (some 28) (.load 22 (.tmp 27)) none,
            co (some 29) (.call { callee := (.builtin .len), args := #[(.tmp 28)], argTypes := #[22] }) none,
            co (some 4) (.assign (.tmp 29)) none] [1, 4, 5, 6])
          (.skip)))
      (.keep [1, 4, 5, 6] k1_centoref07_Frame)))
  (.keep [1, 4, 5, 6] (.reg [co (some 12) (.move (.tmp 6)) none,
    co (some 13) (.binOp .add 3 (.tmp 12) (.const (.int .i64 1)) 3) none,
    co (some 6) (.assign (.tmp 13)) none] [1, 4, 5, 6]))))

/-- cento/centoref07.Frame -/
def c_centoref07_Frame : CC :=
  .seq (.reg [cn (some 1) (.box 25 (.tmp 0)) none [0],
      co (some 2) (.assign (.const (.int .i64 0))) none,
      co (some 3) (.assign (.const (.int .i64 0))) none] [1])
  (.seq (.reg [co (some 4) (.assign (.const (.int .i64 0))) none,
      co (some 5) (.assign (.const (.int .i64 0))) none] [1, 4, 5])
  (.seq (.seq (.reg [co (some 6) (.assign (.const (.int .i64 0))) none] [1, 4, 5, 6])
    (.block 0
      (.loop l1_centoref07_Frame)))
  (.keep [4, 5] (.seq (.reg [co (some 46) (.move (.tmp 4)) none,
      co (some 47) (.move (.tmp 5)) none,
      co (some 2) (.assign (.tmp 46)) none,
      co (some 3) (.assign (.tmp 47)) none] [2, 3])
  (.ret)))))
theorem t_centoref07_Frame : Txt Try.prog 53 48 [(.tmp 2), (.tmp 3)] c_centoref07_Frame := txt_of (code := Try.f53.body.getD .ret) mixed (by kernel_rfl) Try.func53 (by kernel_rfl) Try.ntmps53 (by kernel_rfl) (ls := [([1], [(0, [0])]), ([], []), ([1, 4, 5], []), ([], []), ([1, 4, 5, 6], []), ([], []), ([1, 4, 5, 6, 11], []), ([], []), ([999999, 1, 4, 5, 6], []), ([1, 4, 5, 6, 22], []), ([], []), ([1, 4, 5, 6], []), ([999999, 1, 4, 5, 6], []), ([1, 4, 5, 6, 38], []), ([], []), ([1, 4, 5, 6], []), ([999999, 1, 4, 5, 6], []), ([1, 4, 5, 6], []), ([999999, 4, 5], []), ([2, 3], []), ([], [])]) (by kernel_rfl)

def l1_centoref07_Size : CC :=
  .seq (.seq (.reg [co (some 61) (.move (.tmp 7)) none,
        co (some 62) (.fieldAddr 25 (.tmp 1) 2) none,
        co (some 63) (.load 23 (.tmp 62)) none,
        co (some 64) (.move (.tmp 6)) none,
        co (some 65) (.indexAddr 23 (.tmp 63) (.tmp 64)) none,
        co (some 66) (.fieldAddr 25 (.tmp 65) 2) none,
        co (some 67) (.load 23 (.tmp 66)) none,
        co (some 68) (.call { callee := (.builtin .len), args := #[(.tmp 67)], argTypes := #[23] }) none,
        co (some 69) (.binOp .lss 3 (.tmp 61) (.tmp 68) 3) none] [1, 3, 6, 7, 69])
    (.cond (.tmp 69)
      (.skip)
      (.exit 3)))
  (.keep [1, 3, 6, 7] (.seq (.block 4
      (.reg [co (some 72) (.move (.tmp 3)) none,
        co (some 73) (.fieldAddr 25 (.tmp 1) 2) none,
        co (some 74) (.load 23 (.tmp 73)) none,
        co (some 75) (.move (.tmp 6)) none,
        co (some 76) (.indexAddr 23 (.tmp 74) (.tmp 75)) none,
        co (some 77) (.fieldAddr 25 (.tmp 76) 2) none,
        co (some 78) (.load 23 (.tmp 77)) none,
        co (some 79) (.move (.tmp 7)) none,
        co (some 80) (.indexAddr 23 (.tmp 78) (.tmp 79)) none,
        co (some 81) (.load 25 (.tmp 80)) none,
        co (some 82) (.call { callee := (.value (.func 17)), args := #[(.tmp 81)], argTypes := #[25] }) none,
        co (some 83) (.binOp .add 3 (.tmp 72) (.tmp 82) 3) none,
        co (some 3) (.assign (.tmp 83)) none] [1, 3, 6, 7]))
  (.reg [co (some 70) (.move (.tmp 7)) none,
    co (some 71) (.binOp .add 3 (.tmp 70) (.const (.int .i64 1)) 3) none,
    co (some 7) (.assign (.tmp 71)) none] [1, 3, 6, 7])))
def l2_centoref07_Size : CC :=
  .seq (.seq (.reg [co (some 54) (.move (.tmp 6)) none,
        co (some 55) (.fieldAddr 25 (.tmp 1) 2) none,
        co (some 56) (.load 23 (.tmp 55)) none,
        co (some 57) (.call { callee := (.builtin .len), args := #[(.tmp 56)], argTypes := #[23] }) none,
        co (some 58) (.binOp .lss 3 (.tmp 54) (.tmp 57) 3) none] [1, 3, 6, 58])
    (.cond (.tmp 58)
      (.skip)
      (.exit 1)))
  (.keep [1, 3, 6] (.seq (.block 2
      (.seq (.reg [co (some 7) (.assign (.const (.int .i64 0))) none] [1, 3, 6, 7])
      (.block 3
        (.loop l1_centoref07_Size))))
  (.keep [1, 3, 6] (.reg [co (some 59) (.move (.tmp 6)) none,
    co (some 60) (.binOp .add 3 (.tmp 59) (.const (.int .i64 1)) 3) none,
    co (some 6) (.assign (.tmp 60)) none] [1, 3, 6]))))
def k1_centoref07_Size : CC :=
  .cond (.tmp 25)
    (.seq (.reg [co (some 32) (.fieldAddr 25 (.tmp 1) 0) none,
        co (some 33) (.load 3 (.tmp 32)) none,
        co (some 34) (.binOp .sub 3 (.tmp 33) (.const (.int .i64 2)) 3) none,
        co (some 35) (.fieldAddr 25 (.tmp 1) 2) none,
        co (some 36) (.load 23 (.tmp 35)) none,
        co (some 37) (.call { callee := (.builtin .len), args := #[(.tmp 36)], argTypes := #[23] }) none,
        co (some 38) (.call { callee := (.value (.func 52)), args := #[(.tmp 34), (.tmp 37)], argTypes := #[3, 3] }) none,
        co (some 2) (.assign (.tmp 38)) none] [2])
    (.ret))
    (.seq (.reg [co (some 40) (.binOp .eql 3 (.tmp 10) (.const (.int .i64 9)) 3) none,
        co (some 39) (.assign (.tmp 40)) none] [1, 3, 39])
    (.cond (.tmp 39)
      (.seq (.reg [co (some 42) (.load 25 (.tmp 1)) none,
          co (some 43) (.call { callee := (.value (.func 53)), args := #[(.tmp 42)], argTypes := #[25] }) none,
          co (some 41) (.move (.tmp 43)) none,
          co (some 44) (.extract (.tmp 41) 0) none,
          co (some 45) (.extract (.tmp 41) 1) none,
          co (some 4) (.assign (.tmp 44)) none,
          co (some 5) (.assign (.tmp 45)) none] [1, 4, 5])
      (.seq (.reg [co (some 46) (.fieldAddr 25 (.tmp 1) 2) none,
          co (some 47) (.load 23 (.tmp 46)) none,
          co (some 48) (.call { callee := (.builtin .len), args := #[(.tmp 47)], argTypes := #[23] }) none,
          co (some 49) (.move (.tmp 4)) none,
          co (some 50) (.move (.tmp 5)) none,
          co (some 51) (.binOp .add 3 (.tmp 49) (.tmp 50) 3) none,
          co (some 52) (.binOp .mul 3 (.tmp 48) (.tmp 51) 3) none,
          co (some 53) (.binOp .add 3 (.const (.int .i64 1)) (.tmp 52) 3) none,
          co (some 3) (.assign (.tmp 53)) none] [1, 3])
      (.seq (.seq (.reg [co (some 6) (.assign (.const (.int .i64 0))) none] [1, 3, 6])
        (.block 1
          (.loop l2_centoref07_Size)))
      (.keep [3] (.seq (.reg [co (some 84) (.move (.tmp 3)) none,
          co (some 2) (.assign (.tmp 84)) none] [2])
      (.ret))))))
      (.skip)))
def l3_centoref07_Size : CC :=
  .seq (.seq (.reg [co (some 85) (.move (.tmp 8)) none,
        co (some 86) (.fieldAddr 25 (.tmp 1) 2) none,
        co (some 87) (.load 23 (.tmp 86)) none,
        co (some 88) (.call { callee := (.builtin .len), args := #[(.tmp 87)], argTypes := #[23] }) none,
        co (some 89) (.binOp .lss 3 (.tmp 85) (.tmp 88) 3) none] [1, 3, 8, 89])
    (.cond (.tmp 89)
      (.skip)
      (.exit 5)))
  (.keep [1, 3, 8] (.seq (.block 6
      (.reg [co (some 92) (.move (.tmp 3)) none,
        co (some 93) (.fieldAddr 25 (.tmp 1) 2) none,
        co (some 94) (.load 23 (.tmp 93)) none,
        co (some 95) (.move (.tmp 8)) none,
        co (some 96) (.indexAddr 23 (.tmp 94) (.tmp 95)) none,
        co (some 97) (.load 25 (.tmp 96)) none,
        co (some 98) (.call { callee := (.value (.func 17)), args := #[(.tmp 97)], argTypes := #[25] }) none,
        co (some 99) (.binOp .add 3 (.tmp 92) (.tmp 98) 3) none,
        co (some 3) (.assign (.tmp 99)) none] [1, 3, 8]))
  (.reg [co (some 90) (.move (.tmp 8)) none,
    co (some 91) (.binOp .add 3 (.tmp 90) (.const (.int .i64 1)) 3) none,
    co (some 8) (.assign (.tmp 91)) none] [1, 3, 8])))
def k2_centoref07_Size : CC :=
  .seq (.seq (.reg [co (some 8) (.assign (.const (.int .i64 0))) none] [1, 3, 8])
    (.block 5
      (.loop l3_centoref07_Size)))
  (.keep [3] (.seq (.reg [co (some 100) (.move (.tmp 3)) none,
      co (some 2) (.assign (.tmp 100)) none] [2])
  (.ret)))

/-- cento/centoref07.Size -/
def c_centoref07_Size : CC :=
  .seq (.reg [cn (some 1) (.box 25 (.tmp 0)) none [0],
      co (some 2) (.assign (.const (.int .i64 0))) none] [1])
  (.seq (.reg [co (some 3) (.assign (.const (.int .i64 0))) none] [1, 3])
  (.seq (.seq (.reg [co (some 9) (.fieldAddr 25 (.tmp 1) 0) none,
        co (some 10) (.load 3 (.tmp 9)) none] [1, 3, 10])
    (.block 0
      (.seq (.reg [co (some 12) (.binOp .eql 3 (.tmp 10) (.const (.int .i64 1)) 3) none,
          co (some 11) (.assign (.tmp 12)) none] [1, 3, 10, 11])
      (.cond (.tmp 11)
        (.reg [co (some 13) (.fieldAddr 25 (.tmp 1) 1) none,
          co (some 14) (.load 22 (.tmp 13)) none,
          co (some 15) (.call { callee := (.builtin .len), args := #[(.tmp 14)], argTypes := #[22] }) none,
          co (some 16) (.fieldAddr 25 (.tmp 1) 2) none,
          co (some 17) (.load 23 (.tmp 16)) none,
          co (some 18) (.call { callee := (.builtin .len), args := #[(.tmp 17)], argTypes := #[23] }) none,
          co (some 19) (.binOp .add 3 (.tmp 15) (.tmp 18) 3) none,
          co (some 3) (.assign (.tmp 19)) none] [1, 3])
        (.seq (.reg [co (some 21) (.binOp .eql 3 (.tmp 10) (.const (.int .i64 8)) 3) none,
            co (some 20) (.assign (.tmp 21)) none] [1, 3, 10, 20])
        (.cond (.tmp 20)
          (.reg [co (some 22) (.fieldAddr 25 (.tmp 1) 2) none,
            co (some 23) (.load 23 (.tmp 22)) none,
            co (some 24) (.call { callee := (.builtin .len), args := #[(.tmp 23)], argTypes := #[23] }) none,
            co (some 3) (.assign (.tmp 24)) none] [1, 3])
          (.seq (.seq (.reg [co (some 26) (.binOp .eql 3 (.tmp 10) (.const (.int .i64 2)) 3) none,
                co (some 25) (.assign (.tmp 26)) none] [1, 3, 10, 25])
            (.cond (.tmp 25)
              (.skip)
              (.seq (.reg [co (some 27) (.binOp .eql 3 (.tmp 10) (.const (.int .i64 3)) 3) none,
                  co (some 25) (.assign (.tmp 27)) none] [1, 3, 10, 25])
              (.cond (.tmp 25)
                (.skip)
                (.seq (.reg [co (some 28) (.binOp .eql 3 (.tmp 10) (.const (.int .i64 4)) 3) none,
                    co (some 25) (.assign (.tmp 28)) none] [1, 3, 10, 25])
                (.cond (.tmp 25)
                  (.skip)
                  (.seq (.reg [co (some 29) (.binOp .eql 3 (.tmp 10) (.const (.int .i64 5)) 3) none,
                      co (some 25) (.assign (.tmp 29)) none] [1, 3, 10, 25])
                  (.cond (.tmp 25)
                    (.skip)
                    (.seq (.reg [co (some 30) (.binOp .eql 3 (.tmp 10) (.const (.int .i64 6)) 3) none,
                        co (some 25) (.assign (.tmp 30)) none] [1, 3, 10, 25])
                    (.cond (.tmp 25)
                      (.skip)
                      (.reg [co (some 31) (.binOp .eql 3 (.tmp 10) (.const (.int .i64 7)) 3) none,
                        co (some 25) (.assign (.tmp 31)) none] [1, 3, 10, 25])))))))))))
          (.keep [1, 3, 10, 25] k1_centoref07_Size))))))))
  (.keep [1, 3] k2_centoref07_Size)))
theorem t_centoref07_Size : Txt Try.prog 17 101 [(.tmp 2)] c_centoref07_Size := txt_of (code := Try.f17.body.getD .ret) mixed (by kernel_rfl) Try.func17 (by kernel_rfl) Try.ntmps17 (by kernel_rfl) (ls := [([1], [(0, [0])]), ([], []), ([1, 3], []), ([], []), ([1, 3, 10], []), ([], []), ([1, 3, 10, 11], []), ([], []), ([1, 3], []), ([1, 3, 10, 20], []), ([], []), ([1, 3], []), ([1, 3, 10, 25], []), ([], []), ([1, 3, 10, 25], []), ([], []), ([1, 3, 10, 25], []), ([], []), ([1, 3, 10, 25], []), ([], []), ([1, 3, 10, 25], []), ([], []), ([1, 3, 10, 25], []), ([999999, 1, 3, 10, 25], []), ([2], []), ([], []), ([1, 3, 39], []), ([], []), ([1, 4, 5], []), ([], []), ([1, 3], []), ([], []), ([1, 3, 6], []), ([], []), ([1, 3, 6, 58], []), ([], []), ([999999, 1, 3, 6], []), ([1, 3, 6, 7], []), ([], []), ([1, 3, 6, 7, 69], []), ([], []), ([999999, 1, 3, 6, 7], []), ([1, 3, 6, 7], []), ([], []), ([1, 3, 6, 7], []), ([999999, 1, 3, 6], []), ([1, 3, 6], []), ([999999, 3], []), ([2], []), ([], []), ([999999, 1, 3], []), ([1, 3, 8], []), ([], []), ([1, 3, 8, 89], []), ([], []), ([999999, 1, 3, 8], []), ([1, 3, 8], []), ([], []), ([1, 3, 8], []), ([999999, 3], []), ([2], []), ([], [])]) (by kernel_rfl)

def l1_centoref07_Shallow : CC :=
  .seq (.seq (.reg [co (some 20) (.move (.tmp 7)) none,
        co (some 21) (.fieldAddr 25 (.tmp 3) 2) none,
        co (some 22) (.load 23 (.tmp 21)) none,
        co (some 23) (.call { callee := (.builtin .len), args := #[(.tmp 22)], argTypes := #[23] }) none,
        co (some 24) (.binOp .lss 3 (.tmp 20) (.tmp 23) 3) none,
        co (some 25) (.move (.tmp 24)) none,
        co (some 26) (.move (.tmp 2)) (some (25, true)),
        co (some 27) (.binOp .geq 3 (.tmp 26) (.const (.int .i64 0)) 3) (some (25, true)),
        co (some 28) (.pick (.tmp 25) (.tmp 27) (.const (.bool false))) none] [1, 2, 3, 7, 28])
    (.cond (.tmp 28)
      (.skip)
      (.exit 0)))
  (.keep [1, 2, 3, 7] (.seq (.block 1
      (.reg [co (some 31) (.fieldAddr 25 (.tmp 3) 2) none,
        co (some 32) (.load 23 (.tmp 31)) none,
        co (some 33) (.move (.tmp 7)) none,
        co (some 34) (.indexAddr 23 (.tmp 32) (.tmp 33)) none,
        co (some 35) (.load 25 (.tmp 34)) none,
        co (some 36) (.move (.tmp 1)) none,
        co (some 37) (.binOp .sub 3 (.tmp 36) (.const (.int .i64 1)) 3) none,
        co (some 38) (.move (.tmp 2)) none,
        co (some 39) (.call { callee := (.value (.func 67)), args := #[(.tmp 35), (.tmp 37), (.tmp 38)], argTypes := #[25, 3, 3] }) none,
        co (some 2) (.assign (.tmp 39)) none] [1, 2, 3, 7]))
  (.reg [co (some 29) (.move (.tmp 7)) none,
    co (some 30) (.binOp .add 3 (.tmp 29) (.const (.int .i64 1)) 3) none,
    co (some 7) (.assign (.tmp 30)) none] [1, 2, 3, 7])))

/-- cento/centoref07.Shallow -/
def c_centoref07_Shallow : CC :=
  .seq (.reg [cn (some 3) (.box 25 (.tmp 0)) none [0],
      co (some 6) (.assign (.const (.int .i64 0))) none] [1, 2, 3])
  (.seq (.reg [co (some 8) (.move (.tmp 2)) none,
      co (some 9) (.binOp .sub 3 (.tmp 8) (.const (.int .i64 1)) 3) none,
      co (some 10) (.fieldAddr 25 (.tmp 3) 1) none,
      co (some 11) (.load 22 (.tmp 10)) none,
      co (some 12) (.call { callee := (.builtin .len), args := #[(.tmp 11)], argTypes := #[22] }) none,
      co (some 13) (.binOp .sub 3 (.tmp 9) (.tmp 12) 3) none,
      co (some 2) (.assign (.tmp 13)) none] [1, 2, 3])
  (.seq (.seq (.reg [co (some 14) (.move (.tmp 1)) none,
        co (some 15) (.binOp .eql 3 (.tmp 14) (.const (.int .i64 0)) 3) none,
        co (some 16) (.move (.tmp 15)) none,
        co (some 17) (.move (.tmp 2)) (some (16, false)),
        co (some 18) (.binOp .lss 3 (.tmp 17) (.const (.int .i64 0)) 3) (some (16, false)),
        co (some 19) (.pick (.tmp 16) (.const (.bool true)) (.tmp 18)) none] [1, 2, 3, 19])
    (.cond (.tmp 19)
      (.seq (.reg [co (some 6) (.assign (.const (.int .i64 (-1)))) none] [6])
      (.ret))
      (.skip)))
  (.keep [1, 2, 3] (.seq (.seq (.reg [co (some 7) (.assign (.const (.int .i64 0))) none] [1, 2, 3, 7])
    (.block 0
      (.loop l1_centoref07_Shallow)))
  (.keep [2] (.seq (.reg [co (some 40) (.move (.tmp 2)) none,
      co (some 6) (.assign (.tmp 40)) none] [6])
  (.ret)))))))
theorem t_centoref07_Shallow : Txt Try.prog 67 41 [(.tmp 6)] c_centoref07_Shallow := txt_of (code := Try.f67.body.getD .ret) mixed (by kernel_rfl) Try.func67 (by kernel_rfl) Try.ntmps67 (by kernel_rfl) (ls := [([1, 2, 3], [(0, [0])]), ([], []), ([1, 2, 3], []), ([], []), ([1, 2, 3, 19], []), ([], []), ([6], []), ([], []), ([999999, 1, 2, 3], []), ([1, 2, 3, 7], []), ([], []), ([1, 2, 3, 7, 28], []), ([], []), ([999999, 1, 2, 3, 7], []), ([1, 2, 3, 7], []), ([], []), ([1, 2, 3, 7], []), ([999999, 2], []), ([6], []), ([], [])]) (by kernel_rfl)


/-- cento/centoref07.Few -/
def c_centoref07_Few : CC :=
  .seq (.reg [cn (some 1) (.box 25 (.tmp 0)) none [0],
      co (some 2) (.assign (.const (.bool false))) none] [1])
  (.seq (.reg [co (some 3) (.load 25 (.tmp 1)) none,
      co (some 4) (.call { callee := (.value (.func 67)), args := #[(.tmp 3), (.const (.int .i64 80)), (.const (.int .i64 3000))], argTypes := #[25, 3, 3] }) none,
      co (some 5) (.binOp .geq 3 (.tmp 4) (.const (.int .i64 0)) 3) none,
      co (some 2) (.assign (.tmp 5)) none] [2])
  (.ret))
theorem t_centoref07_Few : Txt Try.prog 32 6 [(.tmp 2)] c_centoref07_Few := txt_of (code := Try.f32.body.getD .ret) mixed (by kernel_rfl) Try.func32 (by kernel_rfl) Try.ntmps32 (by kernel_rfl) (ls := [([1], [(0, [0])]), ([], []), ([2], []), ([], [])]) (by kernel_rfl)

def l1_centoref07_Same : CC :=
  .seq (.seq (.reg [co (some 28) (.move (.tmp 5)) none,
        co (some 29) (.fieldAddr 25 (.tmp 2) 2) none,
        co (some 30) (.load 23 (.tmp 29)) none,
        co (some 31) (.call { callee := (.builtin .len), args := #[(.tmp 30)], argTypes := #[23] }) none,
        co (some 32) (.binOp .lss 3 (.tmp 28) (.tmp 31) 3) none] [2, 3, 5, 32])
    (.cond (.tmp 32)
      (.skip)
      (.exit 0)))
  (.keep [2, 3, 5] (.seq (.block 1
      (.seq (.reg [co (some 35) (.fieldAddr 25 (.tmp 2) 2) none,
          co (some 36) (.load 23 (.tmp 35)) none,
          co (some 37) (.move (.tmp 5)) none,
          co (some 38) (.indexAddr 23 (.tmp 36) (.tmp 37)) none,
          co (some 39) (.load 25 (.tmp 38)) none,
          co (some 40) (.fieldAddr 25 (.tmp 3) 2) none,
          co (some 41) (.load 23 (.tmp 40)) none,
          co (some 42) (.move (.tmp 5)) none,
          co (some 43) (.indexAddr 23 (.tmp 41) (.tmp 42)) none,
          co (some 44) (.load 25 (.tmp 43)) none,
          co (some 45) (.call { callee := (.value (.func 64)), args := #[(.tmp 39), (.tmp 44)], argTypes := #[25, 25] }) none,
          co (some 46) (.unOp .not 4 (.tmp 45)) none] [2, 3, 5, 46])
      (.cond (.tmp 46)
        (.seq (.reg [co (some 4) (.assign (.const (.bool false))) none] [4])
        (.ret))
        (.skip))))
  (.keep [2, 3, 5] (.reg [co (some 33) (.move (.tmp 5)) none,
    co (some 34) (.binOp .add 3 (.tmp 33) (.const (.int .i64 1)) 3) none,
    co (some 5) (.assign (.tmp 34)) none] [2, 3, 5]))))

/-- cento/centoref07.Same -/
def c_centoref07_Same : CC :=
  .seq (.reg [cn (some 2) (.box 25 (.tmp 0)) none [0],
      cn (some 3) (.box 25 (.tmp 1)) none [1],
      co (some 4) (.assign (.const (.bool false))) none] [2, 3])
  (.seq (.seq (.reg [co (some 6) (.fieldAddr 25 (.tmp 2) 0) none,
        co (some 7) (.load 3 (.tmp 6)) none,
        co (some 8) (.fieldAddr 25 (.tmp 3) 0) none,
        co (some 9) (.load 3 (.tmp 8)) none,
        co (some 10) (.binOp .neq 3 (.tmp 7) (.tmp 9) 3) none,
        co (some 11) (.move (.tmp 10)) none,
        co (some 12) (.fieldAddr 25 (.tmp 2) 1) (some (11, false)),
        co (some 13) (.load 22 (.tmp 12)) (some (11, false)),
        co (some 14) (.fieldAddr 25 (.tmp 3) 1) (some (11, false)),
        co (some 15) (.load 22 (.tmp 14)) (some (11, false)),
        co (some 16) (.call { callee := (.value (.func 42)), args := #[(.tmp 13), (.tmp 15)], argTypes := #[22, 22] }) (some (11, false)),
        co (some 17) (.unOp .not 4 (.tmp 16)) (some (11, false)),
        co (some 18) (.pick (.tmp 11) (.const (.bool true)) (.tmp 17)) none,
        co (some 19) (.move (.tmp 18)) none,
        co (some 20) (.fieldAddr 25 (.tmp 2) 2) (some (19, false)),
        co (some 21) (.load 23 (.tmp 20)) (some (19, false)),
        co (some 22) (.call { callee := (.builtin .len), args := #[(.tmp 21)], argTypes := #[23] }) (some (19, false)),
        co (some 23) (.fieldAddr 25 (.tmp 3) 2) (some (19, false)),
        co (some 24) (.load 23 (.tmp 23)) (some (19, false)),
        co (some 25) (.call { callee := (.builtin .len), args := #[(.tmp 24)], argTypes := #[23] }) (some (19, false)),
        co (some 26) (.binOp .neq 3 (.tmp 22) (.tmp 25) 3) (some (19, false)),
        co (some 27) (.pick (.tmp 19) (.const (.bool true)) (.tmp 26)) none] [2, 3, 27])
    (.cond (.tmp 27)
      (.seq (.reg [co (some 4) (.assign (.const (.bool false))) none] [4])
      (.ret))
      (.skip)))
  (.keep [2, 3] (.seq (.seq (.reg [co (some 5) (.assign (.const (.int .i64 0))) none] [2, 3, 5])
    (.block 0
      (.loop l1_centoref07_Same)))
  (.keep [] (.seq (.reg [co (some 4) (.assign (.const (.bool true))) none] [4])
  (.ret))))))
theorem t_centoref07_Same : Txt Try.prog 64 47 [(.tmp 4)] c_centoref07_Same := txt_of (code := Try.f64.body.getD .ret) mixed (by kernel_rfl) Try.func64 (by kernel_rfl) Try.ntmps64 (by kernel_rfl) (ls := [([2, 3], [(0, [0]), (1, [1])]), ([], []), ([2, 3, 27], []), ([], []), ([4], []), ([], []), ([999999, 2, 3], []), ([2, 3, 5], []), ([], []), ([2, 3, 5, 32], []), ([], []), ([999999, 2, 3, 5], []), ([2, 3, 5, 46], []), ([], []), ([4], []), ([], []), ([999999, 2, 3, 5], []), ([2, 3, 5], []), ([999999], []), ([4], []), ([], [])]) (by kernel_rfl)


/-- cento/centoref07.Equal -/
def c_centoref07_Equal : CC :=
  .seq (.reg [cn (some 2) (.box 25 (.tmp 0)) none [0],
      cn (some 3) (.box 25 (.tmp 1)) none [1],
      co (some 4) (.assign (.const (.bool false))) none] [2, 3])
  (.seq (.reg [co (some 5) (.load 25 (.tmp 2)) none,
      ⟨some 6, (.call { callee := (.value (.func 18)), args := #[(.tmp 5)], argTypes := #[25] }), none, [], 1, [], true⟩,
      ⟨some 7, (.load 25 (.tmp 3)), none, [], 2, [1], false⟩,
      co (some 8) (.call { callee := (.value (.func 18)), args := #[(.tmp 7)], argTypes := #[25] }) none,
      co (some 9) (.call { callee := (.value (.func 64)), args := #[(.tmp 6), (.tmp 8)], argTypes := #[25, 25] }) none,
      co (some 4) (.assign (.tmp 9)) none] [4])
  (.ret))
theorem t_centoref07_Equal : Txt Try.prog 25 10 [(.tmp 4)] c_centoref07_Equal := txt_of (code := Try.f25.body.getD .ret) mixed (by kernel_rfl) Try.func25 (by kernel_rfl) Try.ntmps25 (by kernel_rfl) (ls := [([2, 3], [(0, [0]), (1, [1])]), ([], []), ([4], []), ([], [])]) (by kernel_rfl)

def l1_tree_Frame : CC :=
  .seq (.reg [co (some 12) (.binOp .lss 3 (.tmp 11) (.tmp 10) 3) none] [4, 5, 9, 10, 11, 12])
  (.seq (.cond (.tmp 12)
      (.skip)
      (.exit 0))
  (.keep [4, 5, 9, 10, 11] (.seq (.block 1
      (.seq (.reg [co (some 13) (.indexAddr 23 (.tmp 9) (.tmp 11)) none,
          co (some 14) (.load 25 (.tmp 13)) none,
          cn (some 7) (.alloc 25) none [1],
          co none (.store 25 (.tmp 7) (.tmp 14)) none] [4, 5, 7, 9, 10, 11])
      (.reg [co (some 15) (.move (.tmp 4)) none,
        co (some 16) (.fieldAddr 25 (.tmp 7) 1) none,
        co (some 17) (.load 22 (.tmp 16)) none,
        co (some 18) (.call { callee := (.builtin .len), args := #[(.tmp 17)], argTypes := #[22] }) none,
        co (some 19) (.call { callee := (.builtin .max), args := #[(.tmp 15), (.tmp 18)], argTypes := #[3, 3] }) none,
        co (some 20) (.move (.tmp 5)) none,
        co (some 21) (.fieldAddr 25 (.tmp 7) 2) none,
        co (some 22) (.load 23 (.tmp 21)) none,
        co (some 23) (.call { callee := (.builtin .len), args := #[(.tmp 22)], argTypes := #[23] }) none,
        co (some 24) (.call { callee := (.builtin .max), args := #[(.tmp 20), (.tmp 23)], argTypes := #[3, 3] }) none,
        co (some 4) (.assign (.tmp 19)) none,
        co (some 5) (.assign (.tmp 24)) none] [4, 5, 9, 10, 11])))
  (.reg [co (some 25) (.binOp .add 3 (.tmp 11) (.const (.int .i64 1)) 3) none,
    co (some 11) (.move (.tmp 25)) none] [4, 5, 9, 10, 11]))))

/-- cento/tree.Frame -/
def c_tree_Frame : CC :=
  .seq (.reg [cn (some 1) (.box 25 (.tmp 0)) none [0],
      co (some 2) (.assign (.const (.int .i64 0))) none,
      co (some 3) (.assign (.const (.int .i64 0))) none] [1])
  (.seq (.reg [co (some 4) (.assign (.const (.int .i64 0))) none,
      co (some 5) (.assign (.const (.int .i64 0))) none] [1, 4, 5])
  (.seq (.seq (.reg [co (some 8) (.fieldAddr 25 (.tmp 1) 2) none,
        co (some 9) (.load 23 (.tmp 8)) none,
        co (some 10) (.call { callee := (.builtin .len), args := #[(.tmp 9)], argTypes := #[23] }) none,
        co (some 11) (.move (.const (.int .i64 0))) none] [4, 5, 9, 10, 11])
    (.block 0
      (.loop l1_tree_Frame)))
  (.keep [4, 5] (.seq (.reg [co (some 26) (.move (.tmp 4)) none,
      co (some 27) (.move (.tmp 5)) none,
      co (some 2) (.assign (.tmp 26)) none,
      co (some 3) (.assign (.tmp 27)) none] [2, 3])
  (.ret)))))
theorem t_tree_Frame : Txt Try.prog 152 28 [(.tmp 2), (.tmp 3)] c_tree_Frame := txt_of (code := Try.f152.body.getD .ret) mixed (by kernel_rfl) Try.func152 (by kernel_rfl) Try.ntmps152 (by kernel_rfl) (ls := [([1], [(0, [0])]), ([], []), ([1, 4, 5], []), ([], []), ([4, 5, 9, 10, 11], []), ([], []), ([4, 5, 9, 10, 11, 12], []), ([], []), ([999999, 4, 5, 9, 10, 11], []), ([4, 5, 7, 9, 10, 11], [(2, [1])]), ([], []), ([4, 5, 9, 10, 11], []), ([], []), ([4, 5, 9, 10, 11], []), ([999999, 4, 5], []), ([2, 3], []), ([], [])]) (by kernel_rfl)

def l1_tree_Norm : CC :=
  .seq (.reg [co (some 20) (.binOp .lss 3 (.tmp 19) (.tmp 18) 3) none] [1, 2, 3, 17, 18, 19, 20])
  (.seq (.cond (.tmp 20)
      (.skip)
      (.exit 0))
  (.keep [1, 2, 3, 17, 18, 19] (.seq (.block 1
      (.seq (.reg [co (some 21) (.indexAddr 23 (.tmp 17) (.tmp 19)) none,
          co (some 22) (.load 25 (.tmp 21)) none,
          cn (some 5) (.alloc 25) none [3],
          co none (.store 25 (.tmp 5) (.tmp 22)) none] [1, 2, 3, 5, 17, 18, 19])
      (.reg [co (some 23) (.fieldAddr 25 (.tmp 3) 2) none,
        ⟨some 24, (.load 23 (.tmp 23)), none, [], 1, [], true⟩,
        co (some 25) (.load 25 (.tmp 5)) none,
        ⟨some 26, (.call { callee := (.value (.func 141)), args := #[(.tmp 25)], argTypes := #[25] }), none, [], 3, [1], false⟩,
        ⟨some 27, (.buildSlice 23 1 #[(0, (.tmp 26))]), none, [], 4, [1], false⟩,
        cn (some 28) (.call { callee := (.builtin .append), args := #[(.tmp 24), (.tmp 27)], argTypes := #[23, 23] }) none [4],
        co (some 29) (.fieldAddr 25 (.tmp 3) 2) none,
        co none (.store 23 (.tmp 29) (.tmp 28)) none] [1, 2, 3, 17, 18, 19])))
  (.reg [co (some 30) (.binOp .add 3 (.tmp 19) (.const (.int .i64 1)) 3) none,
    co (some 19) (.move (.tmp 30)) none] [1, 2, 3, 17, 18, 19]))))
def l2_tree_Norm : CC :=
  .seq (.seq (.reg [co (some 34) (.fieldAddr 25 (.tmp 3) 1) none,
        co (some 35) (.load 22 (.tmp 34)) none,
        co (some 36) (.call { callee := (.builtin .len), args := #[(.tmp 35)], argTypes := #[22] }) none,
        co (some 37) (.binOp .gtr 3 (.tmp 36) (.const (.int .i64 0)) 3) none,
        co (some 38) (.move (.tmp 37)) none,
        co (some 39) (.fieldAddr 25 (.tmp 3) 1) (some (38, true)),
        co (some 40) (.load 22 (.tmp 39)) (some (38, true)),
        co (some 41) (.fieldAddr 25 (.tmp 3) 1) (some (38, true)),
        co (some 42) (.load 22 (.tmp 41)) (some (38, true)),
        co (some 43) (.call { callee := (.builtin .len), args := #[(.tmp 42)], argTypes := #[22] }) (some (38, true)),
        co (some 44) (.binOp .sub 3 (.tmp 43) (.const (.int .i64 1)) 3) (some (38, true)),
        co (some 45) (.indexAddr 22 (.tmp 40) (.tmp 44)) (some (38, true)),
        co (some 46) (.load 45 (.tmp 45)) (some (38, true)),
        co (some 47) (.binOp .eql 45 (.tmp 46) (.const (.int .u64 0)) 45) (some (38, true)),
        co (some 48) (.pick (.tmp 38) (.tmp 47) (.const (.bool false))) none] [2, 3, 48])
    (.cond (.tmp 48)
      (.skip)
      (.exit 2)))
  (.keep [2, 3] (.block 3
    (.reg [co (some 49) (.fieldAddr 25 (.tmp 3) 1) none,
      co (some 50) (.load 22 (.tmp 49)) none,
      co (some 51) (.fieldAddr 25 (.tmp 3) 1) none,
      co (some 52) (.load 22 (.tmp 51)) none,
      co (some 53) (.call { callee := (.builtin .len), args := #[(.tmp 52)], argTypes := #[22] }) none,
      co (some 54) (.binOp .sub 3 (.tmp 53) (.const (.int .i64 1)) 3) none,
      co (some 55) (.slice 22 (.tmp 50) none (some (.tmp 54)) none) none,
      co (some 56) (.fieldAddr 25 (.tmp 3) 1) none,
      co none (.store 22 (.tmp 56) (.tmp 55)) none] [2, 3])))
def l3_tree_Norm : CC :=
  .seq (.seq (.reg [co (some 57) (.fieldAddr 25 (.tmp 3) 2) none,
        co (some 58) (.load 23 (.tmp 57)) none,
        co (some 59) (.call { callee := (.builtin .len), args := #[(.tmp 58)], argTypes := #[23] }) none,
        co (some 60) (.binOp .gtr 3 (.tmp 59) (.const (.int .i64 0)) 3) none,
        co (some 61) (.move (.tmp 60)) none,
        co (some 62) (.fieldAddr 25 (.tmp 3) 2) (some (61, true)),
        co (some 63) (.load 23 (.tmp 62)) (some (61, true)),
        co (some 64) (.fieldAddr 25 (.tmp 3) 2) (some (61, true)),
        co (some 65) (.load 23 (.tmp 64)) (some (61, true)),
        co (some 66) (.call { callee := (.builtin .len), args := #[(.tmp 65)], argTypes := #[23] }) (some (61, true)),
        co (some 67) (.binOp .sub 3 (.tmp 66) (.const (.int .i64 1)) 3) (some (61, true)),
        co (some 68) (.indexAddr 23 (.tmp 63) (.tmp 67)) (some (61, true)),
        co (some 69) (.fieldAddr 25 (.tmp 68) 0) (some (61, true)),
        co (some 70) (.load 3 (.tmp 69)) (some (61, true)),
        co (some 71) (.binOp .eql 3 (.tmp 70) (.const (.int .i64 0)) 3) (some (61, true)),
        co (some 72) (.pick (.tmp 61) (.tmp 71) (.const (.bool false))) none] [2, 3, 72])
    (.cond (.tmp 72)
      (.skip)
      (.exit 4)))
  (.keep [2, 3] (.block 5
    (.reg [co (some 73) (.fieldAddr 25 (.tmp 3) 2) none,
      co (some 74) (.load 23 (.tmp 73)) none,
      co (some 75) (.fieldAddr 25 (.tmp 3) 2) none,
      co (some 76) (.load 23 (.tmp 75)) none,
      co (some 77) (.call { callee := (.builtin .len), args := #[(.tmp 76)], argTypes := #[23] }) none,
      co (some 78) (.binOp .sub 3 (.tmp 77) (.const (.int .i64 1)) 3) none,
      co (some 79) (.slice 23 (.tmp 74) none (some (.tmp 78)) none) none,
      co (some 80) (.fieldAddr 25 (.tmp 3) 2) none,
      co none (.store 23 (.tmp 80) (.tmp 79)) none] [2, 3])))

/-- cento/tree.Norm -/
def c_tree_Norm : CC :=
  .seq (.reg [cn (some 1) (.box 25 (.tmp 0)) none [0],
      cn (some 2) (.alloc 25) none [1]] [1, 2])
  (.seq (.seq (.reg [co (some 6) (.fieldAddr 25 (.tmp 1) 0) none,
        co (some 7) (.load 3 (.tmp 6)) none,
        co (some 8) (.binOp .eql 3 (.tmp 7) (.const (.int .i64 0)) 3) none] [1, 2, 8])
    (.cond (.tmp 8)
      (.seq (.reg [co (some 9) (.build 25 #[]) none,
          co none (.store 25 (.tmp 2) (.tmp 9)) none] [2])
      (.ret))
      (.skip)))
  (.keep [1, 2] (.seq (.reg [co (some 10) (.fieldAddr 25 (.tmp 1) 0) none,
      ⟨some 11, (.load 3 (.tmp 10)), none, [], 1, [], true⟩,
      co (some 12) (.fieldAddr 25 (.tmp 1) 1) none,
      ⟨some 13, (.load 22 (.tmp 12)), none, [], 3, [], true⟩,
      ⟨some 14, (.call { callee := (.value (.func 73)), args := #[(.tmp 13)], argTypes := #[22] }), none, [], 4, [1], true⟩,
      co (some 15) (.build 25 #[(0, (.tmp 11)), (1, (.tmp 14))]) none,
      ⟨some 3, (.alloc 25), none, [2], 6, [1, 3, 4], false⟩,
      co none (.store 25 (.tmp 3) (.tmp 15)) none] [1, 2, 3])
  (.seq (.seq (.reg [co (some 16) (.fieldAddr 25 (.tmp 1) 2) none,
        co (some 17) (.load 23 (.tmp 16)) none,
        co (some 18) (.call { callee := (.builtin .len), args := #[(.tmp 17)], argTypes := #[23] }) none,
        co (some 19) (.move (.const (.int .i64 0))) none] [1, 2, 3, 17, 18, 19])
    (.block 0
      (.loop l1_tree_Norm)))
  (.keep [1, 2, 3] (.seq (.seq (.reg [co (some 31) (.fieldAddr 25 (.tmp 1) 0) none,
        co (some 32) (.load 3 (.tmp 31)) none,
        co (some 33) (.binOp .eql 3 (.tmp 32) (.const (.int .i64 1)) 3) none] [2, 3, 33])
    (.cond (.tmp 33)
      (.seq (.block 2
          (.loop l2_tree_Norm))
      (.keep [2, 3] (.block 4
        (.loop l3_tree_Norm))))
      (.skip)))
  (.keep [2, 3] (.seq (.reg [co (some 81) (.load 25 (.tmp 3)) none,
      co none (.store 25 (.tmp 2) (.tmp 81)) none] [2])
  (.ret)))))))))
theorem t_tree_Norm : Txt Try.prog 141 82 [(.cell 2 25)] c_tree_Norm := txt_of (code := Try.f141.body.getD .ret) mixed (by kernel_rfl) Try.func141 (by kernel_rfl) Try.ntmps141 (by kernel_rfl) (ls := [([1, 2], [(0, [0]), (1, [1])]), ([], []), ([1, 2, 8], []), ([], []), ([2], []), ([], []), ([999999, 1, 2], []), ([1, 2, 3], [(6, [2])]), ([], []), ([1, 2, 3, 17, 18, 19], []), ([], []), ([1, 2, 3, 17, 18, 19, 20], []), ([], []), ([999999, 1, 2, 3, 17, 18, 19], []), ([1, 2, 3, 5, 17, 18, 19], [(2, [3])]), ([], []), ([1, 2, 3, 17, 18, 19], [(5, [4])]), ([], []), ([1, 2, 3, 17, 18, 19], []), ([999999, 1, 2, 3], []), ([2, 3, 33], []), ([], []), ([2, 3, 48], []), ([], []), ([999999, 2, 3], []), ([2, 3], []), ([999999, 2, 3], []), ([2, 3, 72], []), ([], []), ([999999, 2, 3], []), ([2, 3], []), ([999999, 2, 3], []), ([2], []), ([], [])]) (by kernel_rfl)

def l1_tree_size : CC :=
  .seq (.reg [co (some 60) (.binOp .lss 3 (.tmp 59) (.tmp 58) 3) none] [3, 57, 58, 59, 60])
  (.seq (.cond (.tmp 60)
      (.skip)
      (.exit 1))
  (.keep [3, 57, 58, 59] (.seq (.block 2
      (.seq (.reg [co (some 61) (.indexAddr 23 (.tmp 57) (.tmp 59)) none,
          co (some 62) (.load 25 (.tmp 61)) none,
          cn (some 7) (.alloc 25) none [1],
          co none (.store 25 (.tmp 7) (.tmp 62)) none] [3, 7, 57, 58, 59])
      (.reg [co (some 63) (.move (.tmp 3)) none,
        co (some 64) (.load 25 (.tmp 7)) none,
        ⟨some 65, (.call { callee := (.value (.func 140)), args := #[(.tmp 64)], argTypes := #[25] }), none, [], 2, [], true⟩,
        co (some 66) (.fieldAddr 25 (.tmp 7) 1) none,
        ⟨some 67, (.load 22 (.tmp 66)), none, [], 4, [2], false⟩,
        co (some 68) (.call { callee := (.builtin .len), args := #[(.tmp 67)], argTypes := #[22] }) none,
        co (some 69) (.binOp .sub 3 (.tmp 65) (.tmp 68) 3) none,
        co (some 70) (.fieldAddr 25 (.tmp 7) 2) none,
        ⟨some 71, (.load 23 (.tmp 70)), none, [], 8, [2], false⟩,
        co (some 72) (.call { callee := (.builtin .len), args := #[(.tmp 71)], argTypes := #[23] }) none,
        co (some 73) (.binOp .sub 3 (.tmp 69) (.tmp 72) 3) none,
        co (some 74) (.binOp .add 3 (.tmp 63) (.tmp 73) 3) none,
        co (some 3) (.assign (.tmp 74)) none] [3, 57, 58, 59])))
  (.reg [co (some 75) (.binOp .add 3 (.tmp 59) (.const (.int .i64 1)) 3) none,
    co (some 59) (.move (.tmp 75)) none] [3, 57, 58, 59]))))
def l2_tree_size : CC :=
  .seq (.reg [co (some 81) (.binOp .lss 3 (.tmp 80) (.tmp 79) 3) none] [3, 78, 79, 80, 81])
  (.seq (.cond (.tmp 81)
      (.skip)
      (.exit 3))
  (.keep [3, 78, 79, 80] (.seq (.block 4
      (.seq (.reg [co (some 82) (.indexAddr 23 (.tmp 78) (.tmp 80)) none,
          co (some 83) (.load 25 (.tmp 82)) none,
          cn (some 9) (.alloc 25) none [2],
          co none (.store 25 (.tmp 9) (.tmp 83)) none] [3, 9, 78, 79, 80])
      (.reg [co (some 84) (.move (.tmp 3)) none,
        co (some 85) (.load 25 (.tmp 9)) none,
        co (some 86) (.call { callee := (.value (.func 140)), args := #[(.tmp 85)], argTypes := #[25] }) none,
        co (some 87) (.binOp .add 3 (.tmp 84) (.tmp 86) 3) none,
        co (some 3) (.assign (.tmp 87)) none] [3, 78, 79, 80])))
  (.reg [co (some 88) (.binOp .add 3 (.tmp 80) (.const (.int .i64 1)) 3) none,
    co (some 80) (.move (.tmp 88)) none] [3, 78, 79, 80]))))
def k1_tree_size : CC :=
  .seq (.seq (.reg [co (some 77) (.fieldAddr 25 (.tmp 1) 2) none,
        co (some 78) (.load 23 (.tmp 77)) none,
        co (some 79) (.call { callee := (.builtin .len), args := #[(.tmp 78)], argTypes := #[23] }) none,
        co (some 80) (.move (.const (.int .i64 0))) none] [3, 78, 79, 80])
    (.block 3
      (.loop l2_tree_size)))
  (.keep [3] (.seq (.reg [co (some 89) (.move (.tmp 3)) none,
      co (some 2) (.assign (.tmp 89)) none] [2])
  (.ret)))

/-- cento/tree.size -/
def c_tree_size : CC :=
  .seq (.reg [cn (some 1) (.box 25 (.tmp 0)) none [0],
      co (some 2) (.assign (.const (.int .i64 0))) none] [1])
  (.seq (.reg [co (some 3) (.assign (.const (.int .i64 0))) none] [1, 3])
  (.seq (.block 0
      (.seq (.reg [co (some 11) (.fieldAddr 25 (.tmp 1) 0) none,
          co (some 12) (.load 3 (.tmp 11)) none,
          co (some 13) (.binOp .eql 3 (.tmp 12) (.const (.int .i64 1)) 3) none,
          co (some 10) (.assign (.tmp 13)) none] [1, 3, 10])
      (.cond (.tmp 10)
        (.reg [co (some 14) (.fieldAddr 25 (.tmp 1) 1) none,
          co (some 15) (.load 22 (.tmp 14)) none,
          co (some 16) (.call { callee := (.builtin .len), args := #[(.tmp 15)], argTypes := #[22] }) none,
          co (some 17) (.fieldAddr 25 (.tmp 1) 2) none,
          co (some 18) (.load 23 (.tmp 17)) none,
          co (some 19) (.call { callee := (.builtin .len), args := #[(.tmp 18)], argTypes := #[23] }) none,
          co (some 20) (.binOp .add 3 (.tmp 16) (.tmp 19) 3) none,
          co (some 3) (.assign (.tmp 20)) none] [1, 3])
        (.seq (.reg [co (some 22) (.fieldAddr 25 (.tmp 1) 0) none,
            co (some 23) (.load 3 (.tmp 22)) none,
            co (some 24) (.binOp .eql 3 (.tmp 23) (.const (.int .i64 8)) 3) none,
            co (some 21) (.assign (.tmp 24)) none] [1, 3, 21])
        (.cond (.tmp 21)
          (.reg [co (some 25) (.fieldAddr 25 (.tmp 1) 2) none,
            co (some 26) (.load 23 (.tmp 25)) none,
            co (some 27) (.call { callee := (.builtin .len), args := #[(.tmp 26)], argTypes := #[23] }) none,
            co (some 3) (.assign (.tmp 27)) none] [1, 3])
          (.seq (.reg [co (some 29) (.fieldAddr 25 (.tmp 1) 0) none,
              co (some 30) (.load 3 (.tmp 29)) none,
              co (some 31) (.call { callee := (.value (.func 151)), args := #[(.tmp 30)], argTypes := #[3] }) none,
              co (some 28) (.assign (.tmp 31)) none] [1, 3, 28])
          (.cond (.tmp 28)
            (.seq (.reg [co (some 32) (.fieldAddr 25 (.tmp 1) 0) none,
                co (some 33) (.load 3 (.tmp 32)) none,
                co (some 34) (.binOp .sub 3 (.tmp 33) (.const (.int .i64 2)) 3) none,
                co (some 35) (.fieldAddr 25 (.tmp 1) 2) none,
                co (some 36) (.load 23 (.tmp 35)) none,
                co (some 37) (.call { callee := (.builtin .len), args := #[(.tmp 36)], argTypes := #[23] }) none,
                co (some 38) (.call { callee := (.value (.func 135)), args := #[(.tmp 34), (.tmp 37)], argTypes := #[3, 3] }) none,
                co (some 2) (.assign (.tmp 38)) none] [2])
            (.ret))
            (.seq (.reg [co (some 40) (.fieldAddr 25 (.tmp 1) 0) none,
                co (some 41) (.load 3 (.tmp 40)) none,
                co (some 42) (.binOp .eql 3 (.tmp 41) (.const (.int .i64 9)) 3) none,
                co (some 39) (.assign (.tmp 42)) none] [1, 3, 39])
            (.cond (.tmp 39)
              (.seq (.reg [co (some 44) (.load 25 (.tmp 1)) none,
                  co (some 45) (.call { callee := (.value (.func 152)), args := #[(.tmp 44)], argTypes := #[25] }) none,
                  co (some 43) (.move (.tmp 45)) none,
                  co (some 46) (.extract (.tmp 43) 0) none,
                  co (some 47) (.extract (.tmp 43) 1) none,
                  co (some 4) (.assign (.tmp 46)) none,
                  co (some 5) (.assign (.tmp 47)) none] [1, 4, 5])
              (.seq (.reg [co (some 48) (.fieldAddr 25 (.tmp 1) 2) none,
                  co (some 49) (.load 23 (.tmp 48)) none,
                  co (some 50) (.call { callee := (.builtin .len), args := #[(.tmp 49)], argTypes := #[23] }) none,
                  co (some 51) (.move (.tmp 4)) none,
                  co (some 52) (.move (.tmp 5)) none,
                  co (some 53) (.binOp .add 3 (.tmp 51) (.tmp 52) 3) none,
                  co (some 54) (.binOp .mul 3 (.tmp 50) (.tmp 53) 3) none,
                  co (some 55) (.binOp .add 3 (.const (.int .i64 1)) (.tmp 54) 3) none,
                  co (some 3) (.assign (.tmp 55)) none] [1, 3])
              (.seq (.seq (.reg [co (some 56) (.fieldAddr 25 (.tmp 1) 2) none,
                    co (some 57) (.load 23 (.tmp 56)) none,
                    co (some 58) (.call { callee := (.builtin .len), args := #[(.tmp 57)], argTypes := #[23] }) none,
                    co (some 59) (.move (.const (.int .i64 0))) none] [3, 57, 58, 59])
                (.block 1
                  (.loop l1_tree_size)))
              (.keep [3] (.seq (.reg [co (some 76) (.move (.tmp 3)) none,
                  co (some 2) (.assign (.tmp 76)) none] [2])
              (.ret))))))
              (.skip))))))))))
  (.keep [1, 3] k1_tree_size)))
theorem t_tree_size : Txt Try.prog 140 90 [(.tmp 2)] c_tree_size := txt_of (code := Try.f140.body.getD .ret) mixed (by kernel_rfl) Try.func140 (by kernel_rfl) Try.ntmps140 (by kernel_rfl) (ls := [([1], [(0, [0])]), ([], []), ([1, 3], []), ([], []), ([1, 3, 10], []), ([], []), ([1, 3], []), ([1, 3, 21], []), ([], []), ([1, 3], []), ([1, 3, 28], []), ([], []), ([2], []), ([], []), ([1, 3, 39], []), ([], []), ([1, 4, 5], []), ([], []), ([1, 3], []), ([], []), ([3, 57, 58, 59], []), ([], []), ([3, 57, 58, 59, 60], []), ([], []), ([999999, 3, 57, 58, 59], []), ([3, 7, 57, 58, 59], [(2, [1])]), ([], []), ([3, 57, 58, 59], []), ([], []), ([3, 57, 58, 59], []), ([999999, 3], []), ([2], []), ([], []), ([999999, 1, 3], []), ([3, 78, 79, 80], []), ([], []), ([3, 78, 79, 80, 81], []), ([], []), ([999999, 3, 78, 79, 80], []), ([3, 9, 78, 79, 80], [(2, [2])]), ([], []), ([3, 78, 79, 80], []), ([], []), ([3, 78, 79, 80], []), ([999999, 3], []), ([2], []), ([], [])]) (by kernel_rfl)


/-- cento/tree.Size -/
def c_tree_Size : CC :=
  .seq (.reg [cn (some 1) (.box 25 (.tmp 0)) none [0],
      co (some 2) (.assign (.const (.int .i64 0))) none] [1])
  (.seq (.reg [co (some 3) (.load 25 (.tmp 1)) none,
      co (some 4) (.call { callee := (.value (.func 141)), args := #[(.tmp 3)], argTypes := #[25] }) none,
      co (some 5) (.call { callee := (.value (.func 140)), args := #[(.tmp 4)], argTypes := #[25] }) none,
      co (some 2) (.assign (.tmp 5)) none] [2])
  (.ret))
theorem t_tree_Size : Txt Try.prog 117 6 [(.tmp 2)] c_tree_Size := txt_of (code := Try.f117.body.getD .ret) mixed (by kernel_rfl) Try.func117 (by kernel_rfl) Try.ntmps117 (by kernel_rfl) (ls := [([1], [(0, [0])]), ([], []), ([2], []), ([], [])]) (by kernel_rfl)
end Go.Proofs.Ytigdcnlhgelkaaa
