/-
  Texts, merged, without what is not reached.
-/
import Derived.Test.YtehcobkphobjiaaW29a
/-
  The functions' text as data, and the facts on the types that they use: written by a program of ours (gen2.py) off the translation.
-/
namespace Go.Proofs.Ytehcobkphobjiaa
set_option linter.unusedVariables false
set_option linter.unusedSimpArgs false
set_option maxRecDepth 20000
open Go Go.G Go.Proofs
@[simp] theorem und_4 : Try.prog.underlying 4 = some .bool := by kernel_rfl
@[simp] theorem und_51 : Try.prog.underlying 51 = some (.slice 53) := by kernel_rfl
@[simp] theorem szT_51 : szT Try.prog 51 = some 1 := by kernel_rfl
@[simp] theorem szT_53 : szT Try.prog 53 = some 3 := by kernel_rfl
@[simp] theorem aggT_51 : aggT Try.prog 51 = some false := by kernel_rfl
@[simp] theorem aggT_53 : aggT Try.prog 53 = some true := by kernel_rfl
@[simp] theorem zeroT_53 : zeroT Try.prog 53 = some (Value.agg #[Value.int IntKind.i64 0, Value.slice none 0 0, Value.slice none 0 0]) := by kernel_rfl
@[simp] theorem bytesT_53 : bytesT Try.prog 53 = some 56 := by kernel_rfl
@[simp] theorem fieldOffT_53_0 : fieldOffT Try.prog 53 0 = some 0 := by kernel_rfl
@[simp] theorem fieldOffT_53_1 : fieldOffT Try.prog 53 1 = some 1 := by kernel_rfl
@[simp] theorem fieldOffT_53_2 : fieldOffT Try.prog 53 2 = some 2 := by kernel_rfl
@[simp] theorem buildA_53 (ps : List (Nat × A)) : buildA Try.prog 53 ps = (fillA (fun i => ([(0, 1), (1, 1), (2, 1)] : List (Nat × Nat))[i]?) [A.v (Value.int IntKind.i64 0), A.sl true [], A.sl true []] ps).map A.agg := by kernel_rfl
def l1_centoref07_Right : CC :=
  .seq (.seq (.reg [co (some 78) (.move (.tmp 5)) none,
        co (some 79) (.fieldAddr 53 (.tmp 2) 2) none,
        co (some 80) (.load 51 (.tmp 79)) none,
        co (some 81) (.call { callee := (.builtin .len), args := #[(.tmp 80)], argTypes := #[51] }) none,
        co (some 82) (.binOp .lss 3 (.tmp 78) (.tmp 81) 3) none] [1, 2, 5, 82])
    (.cond (.tmp 82)
      (.skip)
      (.exit 0)))
  (.keep [1, 2, 5] (.seq (.block 1
      (.seq (.reg [co (some 85) (.fieldAddr 53 (.tmp 2) 2) none,
          co (some 86) (.load 51 (.tmp 85)) none,
          co (some 87) (.move (.tmp 5)) none,
          co (some 88) (.indexAddr 51 (.tmp 86) (.tmp 87)) none,
          co (some 89) (.load 53 (.tmp 88)) none,
          cn (some 6) (.alloc 53) none [1],
          co none (.store 53 (.tmp 6) (.tmp 89)) none] [1, 2, 5, 6])
      (.seq (.seq (.reg [co (some 90) (.load 53 (.tmp 6)) none,
            co (some 91) (.move (.tmp 1)) none,
            co (some 92) (.binOp .sub 3 (.tmp 91) (.const (.int .i64 1)) 3) none,
            co (some 93) (.call { callee := (.value (.func 69)), args := #[(.tmp 90), (.tmp 92)], argTypes := #[53, 3] }) none,
            co (some 94) (.unOp .not 4 (.tmp 93)) none] [1, 2, 5, 6, 94])
        (.cond (.tmp 94)
          (.seq (.reg [co (some 4) (.assign (.const (.bool false))) none] [4])
          (.ret))
          (.skip)))
      (.keep [1, 2, 5, 6] (.seq (.reg [co (some 95) (.fieldAddr 53 (.tmp 2) 0) none,
          co (some 96) (.load 3 (.tmp 95)) none,
          co (some 97) (.binOp .geq 3 (.tmp 96) (.const (.int .i64 2)) 3) none,
          co (some 98) (.move (.tmp 97)) none,
          co (some 99) (.fieldAddr 53 (.tmp 2) 0) (some (98, true)),
          co (some 100) (.load 3 (.tmp 99)) (some (98, true)),
          co (some 101) (.binOp .leq 3 (.tmp 100) (.const (.int .i64 7)) 3) (some (98, true)),
          co (some 102) (.pick (.tmp 98) (.tmp 101) (.const (.bool false))) none,
          co (some 7) (.assign (.tmp 102)) none] [1, 2, 5, 6, 7])
      (.seq (.reg [co (some 103) (.move (.tmp 7)) none,
          co (some 104) (.fieldAddr 53 (.tmp 6) 0) none,
          co (some 105) (.load 3 (.tmp 104)) none,
          co (some 106) (.binOp .eql 3 (.tmp 105) (.const (.int .i64 10)) 3) none,
          co (some 107) (.binOp .neq 4 (.tmp 103) (.tmp 106) 4) none,
          co (some 108) (.move (.tmp 107)) none,
          co (some 109) (.fieldAddr 53 (.tmp 2) 0) (some (108, false)),
          co (some 110) (.load 3 (.tmp 109)) (some (108, false)),
          co (some 111) (.binOp .eql 3 (.tmp 110) (.const (.int .i64 9)) 3) (some (108, false)),
          co (some 112) (.move (.tmp 111)) (some (108, false)),
          co (some 113) (.fieldAddr 53 (.tmp 6) 0) (some (112, true)),
          co (some 114) (.load 3 (.tmp 113)) (some (112, true)),
          co (some 115) (.binOp .neq 3 (.tmp 114) (.const (.int .i64 1)) 3) (some (112, true)),
          co (some 116) (.pick (.tmp 112) (.tmp 115) (.const (.bool false))) (some (108, false)),
          co (some 117) (.pick (.tmp 108) (.const (.bool true)) (.tmp 116)) none,
          co (some 118) (.move (.tmp 117)) none,
          co (some 119) (.move (.tmp 7)) (some (118, false)),
          co (some 120) (.move (.tmp 119)) (some (118, false)),
          co (some 121) (.fieldAddr 53 (.tmp 2) 0) (some (120, true)),
          co (some 122) (.load 3 (.tmp 121)) (some (120, true)),
          co (some 123) (.binOp .sub 3 (.tmp 122) (.const (.int .i64 2)) 3) (some (120, true)),
          co (some 124) (.fieldAddr 53 (.tmp 6) 1) (some (120, true)),
          co (some 125) (.load 23 (.tmp 124)) (some (120, true)),
          co (some 126) (.indexAddr 23 (.tmp 125) (.const (.int .i64 0))) (some (120, true)),
          co (some 127) (.load 26 (.tmp 126)) (some (120, true)),
          co (some 128) (.call { callee := (.value (.func 107)), args := #[(.tmp 123), (.tmp 127)], argTypes := #[3, 26] }) (some (120, true)),
          co (some 129) (.unOp .not 4 (.tmp 128)) (some (120, true)),
          co (some 130) (.pick (.tmp 120) (.tmp 129) (.const (.bool false))) (some (118, false)),
          co (some 131) (.pick (.tmp 118) (.const (.bool true)) (.tmp 130)) none] [1, 2, 5, 131])
      (.cond (.tmp 131)
        (.seq (.reg [co (some 4) (.assign (.const (.bool false))) none] [4])
        (.ret))
        (.skip))))))))
  (.keep [1, 2, 5] (.reg [co (some 83) (.move (.tmp 5)) none,
    co (some 84) (.binOp .add 3 (.tmp 83) (.const (.int .i64 1)) 3) none,
    co (some 5) (.assign (.tmp 84)) none] [1, 2, 5]))))
/-- cento/centoref07.Right -/
def c_centoref07_Right : CC :=
  .seq (.reg [cn (some 2) (.box 53 (.tmp 0)) none [0],
      co (some 4) (.assign (.const (.bool false))) none] [1, 2])
  (.seq (.seq (.reg [co (some 8) (.fieldAddr 53 (.tmp 2) 0) none,
        co (some 9) (.load 3 (.tmp 8)) none,
        co (some 10) (.binOp .eql 3 (.tmp 9) (.const (.int .i64 0)) 3) none] [1, 2, 10])
    (.cond (.tmp 10)
      (.seq (.reg [co (some 11) (.fieldAddr 53 (.tmp 2) 1) none,
          co (some 12) (.load 23 (.tmp 11)) none,
          co (some 13) (.call { callee := (.builtin .len), args := #[(.tmp 12)], argTypes := #[23] }) none,
          co (some 14) (.binOp .eql 3 (.tmp 13) (.const (.int .i64 0)) 3) none,
          co (some 15) (.move (.tmp 14)) none,
          co (some 16) (.fieldAddr 53 (.tmp 2) 2) (some (15, true)),
          co (some 17) (.load 51 (.tmp 16)) (some (15, true)),
          co (some 18) (.call { callee := (.builtin .len), args := #[(.tmp 17)], argTypes := #[51] }) (some (15, true)),
          co (some 19) (.binOp .eql 3 (.tmp 18) (.const (.int .i64 0)) 3) (some (15, true)),
          co (some 20) (.pick (.tmp 15) (.tmp 19) (.const (.bool false))) none,
          co (some 4) (.assign (.tmp 20)) none] [4])
      (.ret))
      (.skip)))
  (.keep [1, 2] (.seq (.seq (.reg [co (some 21) (.fieldAddr 53 (.tmp 2) 0) none,
        co (some 22) (.load 3 (.tmp 21)) none,
        co (some 23) (.binOp .eql 3 (.tmp 22) (.const (.int .i64 10)) 3) none] [1, 2, 23])
    (.cond (.tmp 23)
      (.seq (.reg [co (some 24) (.fieldAddr 53 (.tmp 2) 1) none,
          co (some 25) (.load 23 (.tmp 24)) none,
          co (some 26) (.call { callee := (.builtin .len), args := #[(.tmp 25)], argTypes := #[23] }) none,
          co (some 27) (.binOp .eql 3 (.tmp 26) (.const (.int .i64 1)) 3) none,
          co (some 28) (.move (.tmp 27)) none,
          co (some 29) (.fieldAddr 53 (.tmp 2) 2) (some (28, true)),
          co (some 30) (.load 51 (.tmp 29)) (some (28, true)),
          co (some 31) (.call { callee := (.builtin .len), args := #[(.tmp 30)], argTypes := #[51] }) (some (28, true)),
          co (some 32) (.binOp .eql 3 (.tmp 31) (.const (.int .i64 0)) 3) (some (28, true)),
          co (some 33) (.pick (.tmp 28) (.tmp 32) (.const (.bool false))) none,
          co (some 4) (.assign (.tmp 33)) none] [4])
      (.ret))
      (.skip)))
  (.keep [1, 2] (.seq (.seq (.reg [co (some 34) (.fieldAddr 53 (.tmp 2) 0) none,
        co (some 35) (.load 3 (.tmp 34)) none,
        co (some 36) (.binOp .lss 3 (.tmp 35) (.const (.int .i64 0)) 3) none,
        co (some 37) (.move (.tmp 36)) none,
        co (some 38) (.fieldAddr 53 (.tmp 2) 0) (some (37, false)),
        co (some 39) (.load 3 (.tmp 38)) (some (37, false)),
        co (some 40) (.binOp .gtr 3 (.tmp 39) (.const (.int .i64 10)) 3) (some (37, false)),
        co (some 41) (.pick (.tmp 37) (.const (.bool true)) (.tmp 40)) none,
        co (some 42) (.move (.tmp 41)) none,
        co (some 43) (.move (.tmp 1)) (some (42, false)),
        co (some 44) (.binOp .eql 3 (.tmp 43) (.const (.int .i64 0)) 3) (some (42, false)),
        co (some 45) (.pick (.tmp 42) (.const (.bool true)) (.tmp 44)) none,
        co (some 46) (.move (.tmp 45)) none,
        co (some 47) (.fieldAddr 53 (.tmp 2) 1) (some (46, false)),
        co (some 48) (.load 23 (.tmp 47)) (some (46, false)),
        co (some 49) (.call { callee := (.builtin .len), args := #[(.tmp 48)], argTypes := #[23] }) (some (46, false)),
        co (some 50) (.binOp .geq 3 (.tmp 49) (.const (.int .i64 65536)) 3) (some (46, false)),
        co (some 51) (.pick (.tmp 46) (.const (.bool true)) (.tmp 50)) none,
        co (some 52) (.move (.tmp 51)) none,
        co (some 53) (.fieldAddr 53 (.tmp 2) 0) (some (52, false)),
        co (some 54) (.load 3 (.tmp 53)) (some (52, false)),
        co (some 55) (.binOp .eql 3 (.tmp 54) (.const (.int .i64 1)) 3) (some (52, false)),
        co (some 56) (.move (.tmp 55)) (some (52, false)),
        co (some 57) (.fieldAddr 53 (.tmp 2) 2) (some (56, true)),
        co (some 58) (.load 51 (.tmp 57)) (some (56, true)),
        co (some 59) (.call { callee := (.builtin .len), args := #[(.tmp 58)], argTypes := #[51] }) (some (56, true)),
        co (some 60) (.binOp .geq 3 (.tmp 59) (.const (.int .i64 65536)) 3) (some (56, true)),
        co (some 61) (.pick (.tmp 56) (.tmp 60) (.const (.bool false))) (some (52, false)),
        co (some 62) (.pick (.tmp 52) (.const (.bool true)) (.tmp 61)) none,
        co (some 63) (.move (.tmp 62)) none,
        co (some 64) (.fieldAddr 53 (.tmp 2) 2) (some (63, false)),
        co (some 65) (.load 51 (.tmp 64)) (some (63, false)),
        co (some 66) (.call { callee := (.builtin .len), args := #[(.tmp 65)], argTypes := #[51] }) (some (63, false)),
        co (some 67) (.binOp .geq 3 (.tmp 66) (.const (.int .i64 1048576)) 3) (some (63, false)),
        co (some 68) (.pick (.tmp 63) (.const (.bool true)) (.tmp 67)) none] [1, 2, 68])
    (.cond (.tmp 68)
      (.seq (.reg [co (some 4) (.assign (.const (.bool false))) none] [4])
      (.ret))
      (.skip)))
  (.keep [1, 2] (.seq (.seq (.reg [co (some 69) (.fieldAddr 53 (.tmp 2) 0) none,
        co (some 70) (.load 3 (.tmp 69)) none,
        co (some 71) (.binOp .gtr 3 (.tmp 70) (.const (.int .i64 1)) 3) none,
        co (some 72) (.move (.tmp 71)) none,
        co (some 73) (.fieldAddr 53 (.tmp 2) 1) (some (72, true)),
        co (some 74) (.load 23 (.tmp 73)) (some (72, true)),
        co (some 75) (.call { callee := (.builtin .len), args := #[(.tmp 74)], argTypes := #[23] }) (some (72, true)),
        co (some 76) (.binOp .gtr 3 (.tmp 75) (.const (.int .i64 0)) 3) (some (72, true)),
        co (some 77) (.pick (.tmp 72) (.tmp 76) (.const (.bool false))) none] [1, 2, 77])
    (.cond (.tmp 77)
      (.seq (.reg [co (some 4) (.assign (.const (.bool false))) none] [4])
      (.ret))
      (.skip)))
  (.keep [1, 2] (.seq (.seq (.reg [co (some 5) (.assign (.const (.int .i64 0))) none] [1, 2, 5])
    (.block 0
      (.loop l1_centoref07_Right)))
  (.keep [] (.seq (.reg [co (some 4) (.assign (.const (.bool true))) none] [4])
  (.ret))))))))))))
theorem t_centoref07_Right : Txt Try.prog 69 132 [(.tmp 4)] c_centoref07_Right := txt_of (code := Try.f69.body.getD .ret) mixed (by kernel_rfl) Try.func69 (by kernel_rfl) Try.ntmps69 (by kernel_rfl) (ls := [([1, 2], [(0, [0])]), ([], []), ([1, 2, 10], []), ([], []), ([4], []), ([], []), ([999999, 1, 2], []), ([1, 2, 23], []), ([], []), ([4], []), ([], []), ([999999, 1, 2], []), ([1, 2, 68], []), ([], []), ([4], []), ([], []), ([999999, 1, 2], []), ([1, 2, 77], []), ([], []), ([4], []), ([], []), ([999999, 1, 2], []), ([1, 2, 5], []), ([], []), ([1, 2, 5, 82], []), ([], []), ([999999, 1, 2, 5], []), ([1, 2, 5, 6], [(5, [1])]), ([], []), ([1, 2, 5, 6, 94], []), ([], []), ([4], []), ([], []), ([999999, 1, 2, 5, 6], []), ([1, 2, 5, 6, 7], []), ([], []), ([1, 2, 5, 131], []), ([], []), ([4], []), ([], []), ([999999, 1, 2, 5], []), ([1, 2, 5], []), ([999999], []), ([4], []), ([], [])]) (by kernel_rfl)
def l1_centoref07_Norm : CC :=
  .seq (.seq (.reg [co (some 12) (.move (.tmp 5)) none,
        co (some 13) (.fieldAddr 53 (.tmp 1) 2) none,
        co (some 14) (.load 51 (.tmp 13)) none,
        co (some 15) (.call { callee := (.builtin .len), args := #[(.tmp 14)], argTypes := #[51] }) none,
        co (some 16) (.binOp .lss 3 (.tmp 12) (.tmp 15) 3) none] [1, 2, 3, 4, 5, 16])
    (.cond (.tmp 16)
      (.skip)
      (.exit 0)))
  (.keep [1, 2, 3, 4, 5] (.seq (.block 1
      (.seq (.reg [co (some 19) (.fieldAddr 53 (.tmp 1) 2) none,
          co (some 20) (.load 51 (.tmp 19)) none,
          co (some 21) (.move (.tmp 5)) none,
          co (some 22) (.indexAddr 51 (.tmp 20) (.tmp 21)) none,
          co (some 23) (.load 53 (.tmp 22)) none,
          co (some 24) (.call { callee := (.value (.func 47)), args := #[(.tmp 23)], argTypes := #[53] }) none,
          cn (some 6) (.alloc 53) none [2],
          co none (.store 53 (.tmp 6) (.tmp 24)) none] [1, 2, 3, 4, 5, 6])
      (.seq (.reg [co (some 25) (.move (.tmp 3)) none,
          co (some 26) (.load 53 (.tmp 6)) none,
          co (some 27) (.buildSlice 51 1 #[(0, (.tmp 26))]) none,
          cn (some 28) (.call { callee := (.builtin .append), args := #[(.tmp 25), (.tmp 27)], argTypes := #[51, 51] }) none [3],
          co (some 3) (.assign (.tmp 28)) none] [1, 2, 3, 4, 5, 6])
      (.seq (.reg [co (some 29) (.fieldAddr 53 (.tmp 6) 0) none,
          co (some 30) (.load 3 (.tmp 29)) none,
          co (some 31) (.binOp .neq 3 (.tmp 30) (.const (.int .i64 0)) 3) none] [1, 2, 3, 4, 5, 31])
      (.cond (.tmp 31)
        (.reg [co (some 32) (.move (.tmp 5)) none,
          co (some 33) (.binOp .add 3 (.tmp 32) (.const (.int .i64 1)) 3) none,
          co (some 4) (.assign (.tmp 33)) none] [1, 2, 3, 4, 5])
        (.skip))))))
  (.keep [1, 2, 3, 4, 5] (.reg [co (some 17) (.move (.tmp 5)) none,
    co (some 18) (.binOp .add 3 (.tmp 17) (.const (.int .i64 1)) 3) none,
    co (some 5) (.assign (.tmp 18)) none] [1, 2, 3, 4, 5]))))
/-- cento/centoref07.Norm -/
def c_centoref07_Norm : CC :=
  .seq (.reg [cn (some 1) (.box 53 (.tmp 0)) none [0],
      cn (some 2) (.alloc 53) none [1]] [1, 2])
  (.seq (.seq (.reg [co (some 8) (.fieldAddr 53 (.tmp 1) 0) none,
        co (some 9) (.load 3 (.tmp 8)) none,
        co (some 10) (.binOp .eql 3 (.tmp 9) (.const (.int .i64 0)) 3) none] [1, 2, 10])
    (.cond (.tmp 10)
      (.seq (.reg [co (some 11) (.build 53 #[]) none,
          co none (.store 53 (.tmp 2) (.tmp 11)) none] [2])
      (.ret))
      (.skip)))
  (.keep [1, 2] (.seq (.reg [co (some 3) (.assign (.const (.slice none 0 0))) none] [1, 2, 3])
  (.seq (.reg [co (some 4) (.assign (.const (.int .i64 0))) none] [1, 2, 3, 4])
  (.seq (.seq (.reg [co (some 5) (.assign (.const (.int .i64 0))) none] [1, 2, 3, 4, 5])
    (.block 0
      (.loop l1_centoref07_Norm)))
  (.keep [1, 2, 3, 4] (.seq (.seq (.reg [co (some 34) (.fieldAddr 53 (.tmp 1) 0) none,
        co (some 35) (.load 3 (.tmp 34)) none,
        co (some 36) (.binOp .eql 3 (.tmp 35) (.const (.int .i64 1)) 3) none] [1, 2, 3, 4, 36])
    (.cond (.tmp 36)
      (.seq (.reg [co (some 37) (.fieldAddr 53 (.tmp 1) 1) none,
          co (some 38) (.load 23 (.tmp 37)) none,
          co (some 39) (.call { callee := (.value (.func 87)), args := #[(.tmp 38)], argTypes := #[23] }) none,
          co (some 40) (.move (.tmp 3)) none,
          co (some 41) (.move (.tmp 4)) none,
          co (some 42) (.slice 51 (.tmp 40) none (some (.tmp 41)) none) none,
          co (some 43) (.build 53 #[(0, (.const (.int .i64 1))), (1, (.tmp 39)), (2, (.tmp 42))]) none,
          co none (.store 53 (.tmp 2) (.tmp 43)) none] [2])
      (.ret))
      (.skip)))
  (.keep [1, 2, 3] (.seq (.reg [co (some 7) (.assign (.const (.slice none 0 0))) none] [1, 2, 3, 7])
  (.seq (.reg [co (some 44) (.move (.tmp 7)) none,
      co (some 45) (.fieldAddr 53 (.tmp 1) 1) none,
      co (some 46) (.load 23 (.tmp 45)) none,
      cn (some 47) (.call { callee := (.builtin .append), args := #[(.tmp 44), (.tmp 46)], argTypes := #[23, 23] }) none [4],
      co (some 7) (.assign (.tmp 47)) none] [1, 2, 3, 7])
  (.seq (.reg [co (some 48) (.fieldAddr 53 (.tmp 1) 0) none,
      co (some 49) (.load 3 (.tmp 48)) none,
      co (some 50) (.move (.tmp 7)) none,
      co (some 51) (.move (.tmp 3)) none,
      co (some 52) (.build 53 #[(0, (.tmp 49)), (1, (.tmp 50)), (2, (.tmp 51))]) none,
      co none (.store 53 (.tmp 2) (.tmp 52)) none] [2])
  (.ret))))))))))))
theorem t_centoref07_Norm : Txt Try.prog 47 53 [(.cell 2 53)] c_centoref07_Norm := txt_of (code := Try.f47.body.getD .ret) mixed (by kernel_rfl) Try.func47 (by kernel_rfl) Try.ntmps47 (by kernel_rfl) (ls := [([1, 2], [(0, [0]), (1, [1])]), ([], []), ([1, 2, 10], []), ([], []), ([2], []), ([], []), ([999999, 1, 2], []), ([1, 2, 3], []), ([], []), ([1, 2, 3, 4], []), ([], []), ([1, 2, 3, 4, 5], []), ([], []), ([1, 2, 3, 4, 5, 16], []), ([], []), ([999999, 1, 2, 3, 4, 5], []), ([1, 2, 3, 4, 5, 6], [(6, [2])]), ([], []), ([1, 2, 3, 4, 5, 6], [(3, [3])]), ([], []), ([1, 2, 3, 4, 5, 31], []), ([], []), ([1, 2, 3, 4, 5], []), ([999999, 1, 2, 3, 4, 5], []), ([1, 2, 3, 4, 5], []), ([999999, 1, 2, 3, 4], []), ([1, 2, 3, 4, 36], []), ([], []), ([2], []), ([], []), ([999999, 1, 2, 3], []), ([1, 2, 3, 7], []), ([], []), ([1, 2, 3, 7], [(3, [4])]), ([], []), ([2], []), ([], [])]) (by kernel_rfl)
def l1_centoref07_Shallow : CC :=
  .seq (.seq (.reg [co (some 20) (.move (.tmp 7)) none,
        co (some 21) (.fieldAddr 53 (.tmp 3) 2) none,
        co (some 22) (.load 51 (.tmp 21)) none,
        co (some 23) (.call { callee := (.builtin .len), args := #[(.tmp 22)], argTypes := #[51] }) none,
        co (some 24) (.binOp .lss 3 (.tmp 20) (.tmp 23) 3) none,
        co (some 25) (.move (.tmp 24)) none,
        co (some 26) (.move (.tmp 2)) (some (25, true)),
        co (some 27) (.binOp .geq 3 (.tmp 26) (.const (.int .i64 0)) 3) (some (25, true)),
        co (some 28) (.pick (.tmp 25) (.tmp 27) (.const (.bool false))) none] [1, 2, 3, 7, 28])
    (.cond (.tmp 28)
      (.skip)
      (.exit 0)))
  (.keep [1, 2, 3, 7] (.seq (.block 1
      (.reg [co (some 31) (.fieldAddr 53 (.tmp 3) 2) none,
        co (some 32) (.load 51 (.tmp 31)) none,
        co (some 33) (.move (.tmp 7)) none,
        co (some 34) (.indexAddr 51 (.tmp 32) (.tmp 33)) none,
        co (some 35) (.load 53 (.tmp 34)) none,
        co (some 36) (.move (.tmp 1)) none,
        co (some 37) (.binOp .sub 3 (.tmp 36) (.const (.int .i64 1)) 3) none,
        co (some 38) (.move (.tmp 2)) none,
        co (some 39) (.call { callee := (.value (.func 68)), args := #[(.tmp 35), (.tmp 37), (.tmp 38)], argTypes := #[53, 3, 3] }) none,
        co (some 2) (.assign (.tmp 39)) none] [1, 2, 3, 7]))
  (.reg [co (some 29) (.move (.tmp 7)) none,
    co (some 30) (.binOp .add 3 (.tmp 29) (.const (.int .i64 1)) 3) none,
    co (some 7) (.assign (.tmp 30)) none] [1, 2, 3, 7])))
/-- cento/centoref07.Shallow -/
def c_centoref07_Shallow : CC :=
  .seq (.reg [cn (some 3) (.box 53 (.tmp 0)) none [0],
      co (some 6) (.assign (.const (.int .i64 0))) none] [1, 2, 3])
  (.seq (.reg [co (some 8) (.move (.tmp 2)) none,
      co (some 9) (.binOp .sub 3 (.tmp 8) (.const (.int .i64 1)) 3) none,
      co (some 10) (.fieldAddr 53 (.tmp 3) 1) none,
      co (some 11) (.load 23 (.tmp 10)) none,
      co (some 12) (.call { callee := (.builtin .len), args := #[(.tmp 11)], argTypes := #[23] }) none,
      co (some 13) (.binOp .sub 3 (.tmp 9) (.tmp 12) 3) none,
      co (some 2) (.assign (.tmp 13)) none] [1, 2, 3])
  (.seq (.seq (.reg [co (some 14) (.move (.tmp 1)) none,
        co (some 15) (.binOp .eql 3 (.tmp 14) (.const (.int .i64 0)) 3) none,
        co (some 16) (.move (.tmp 15)) none,
        co (some 17) (.move (.tmp 2)) (some (16, false)),
        co (some 18) (.binOp .lss 3 (.tmp 17) (.const (.int .i64 0)) 3) (some (16, false)),
        co (some 19) (.pick (.tmp 16) (.const (.bool true)) (.tmp 18)) none] [1, 2, 3, 19])
    (.cond (.tmp 19)
      (.seq (.reg [co (some 6) (.assign (.const (.int .i64 (-1)))) none] [6])
      (.ret))
      (.skip)))
  (.keep [1, 2, 3] (.seq (.seq (.reg [co (some 7) (.assign (.const (.int .i64 0))) none] [1, 2, 3, 7])
    (.block 0
      (.loop l1_centoref07_Shallow)))
  (.keep [2] (.seq (.reg [co (some 40) (.move (.tmp 2)) none,
      co (some 6) (.assign (.tmp 40)) none] [6])
  (.ret)))))))
theorem t_centoref07_Shallow : Txt Try.prog 68 41 [(.tmp 6)] c_centoref07_Shallow := txt_of (code := Try.f68.body.getD .ret) mixed (by kernel_rfl) Try.func68 (by kernel_rfl) Try.ntmps68 (by kernel_rfl) (ls := [([1, 2, 3], [(0, [0])]), ([], []), ([1, 2, 3], []), ([], []), ([1, 2, 3, 19], []), ([], []), ([6], []), ([], []), ([999999, 1, 2, 3], []), ([1, 2, 3, 7], []), ([], []), ([1, 2, 3, 7, 28], []), ([], []), ([999999, 1, 2, 3, 7], []), ([1, 2, 3, 7], []), ([], []), ([1, 2, 3, 7], []), ([999999, 2], []), ([6], []), ([], [])]) (by kernel_rfl)
def l1_centoref07_Same : CC :=
  .seq (.seq (.reg [co (some 28) (.move (.tmp 5)) none,
        co (some 29) (.fieldAddr 53 (.tmp 2) 2) none,
        co (some 30) (.load 51 (.tmp 29)) none,
        co (some 31) (.call { callee := (.builtin .len), args := #[(.tmp 30)], argTypes := #[51] }) none,
        co (some 32) (.binOp .lss 3 (.tmp 28) (.tmp 31) 3) none] [2, 3, 5, 32])
    (.cond (.tmp 32)
      (.skip)
      (.exit 0)))
  (.keep [2, 3, 5] (.seq (.block 1
      (.seq (.reg [co (some 35) (.fieldAddr 53 (.tmp 2) 2) none,
          co (some 36) (.load 51 (.tmp 35)) none,
          co (some 37) (.move (.tmp 5)) none,
          co (some 38) (.indexAddr 51 (.tmp 36) (.tmp 37)) none,
          co (some 39) (.load 53 (.tmp 38)) none,
          co (some 40) (.fieldAddr 53 (.tmp 3) 2) none,
          co (some 41) (.load 51 (.tmp 40)) none,
          co (some 42) (.move (.tmp 5)) none,
          co (some 43) (.indexAddr 51 (.tmp 41) (.tmp 42)) none,
          co (some 44) (.load 53 (.tmp 43)) none,
          co (some 45) (.call { callee := (.value (.func 53)), args := #[(.tmp 39), (.tmp 44)], argTypes := #[53, 53] }) none,
          co (some 46) (.unOp .not 4 (.tmp 45)) none] [2, 3, 5, 46])
      (.cond (.tmp 46)
        (.seq (.reg [co (some 4) (.assign (.const (.bool false))) none] [4])
        (.ret))
        (.skip))))
  (.keep [2, 3, 5] (.reg [co (some 33) (.move (.tmp 5)) none,
    co (some 34) (.binOp .add 3 (.tmp 33) (.const (.int .i64 1)) 3) none,
    co (some 5) (.assign (.tmp 34)) none] [2, 3, 5]))))
/-- cento/centoref07.Same -/
def c_centoref07_Same : CC :=
  .seq (.reg [cn (some 2) (.box 53 (.tmp 0)) none [0],
      cn (some 3) (.box 53 (.tmp 1)) none [1],
      co (some 4) (.assign (.const (.bool false))) none] [2, 3])
  (.seq (.seq (.reg [co (some 6) (.fieldAddr 53 (.tmp 2) 0) none,
        co (some 7) (.load 3 (.tmp 6)) none,
        co (some 8) (.fieldAddr 53 (.tmp 3) 0) none,
        co (some 9) (.load 3 (.tmp 8)) none,
        co (some 10) (.binOp .neq 3 (.tmp 7) (.tmp 9) 3) none,
        co (some 11) (.move (.tmp 10)) none,
        co (some 12) (.fieldAddr 53 (.tmp 2) 1) (some (11, false)),
        co (some 13) (.load 23 (.tmp 12)) (some (11, false)),
        co (some 14) (.fieldAddr 53 (.tmp 3) 1) (some (11, false)),
        co (some 15) (.load 23 (.tmp 14)) (some (11, false)),
        co (some 16) (.call { callee := (.value (.func 43)), args := #[(.tmp 13), (.tmp 15)], argTypes := #[23, 23] }) (some (11, false)),
        co (some 17) (.unOp .not 4 (.tmp 16)) (some (11, false)),
        co (some 18) (.pick (.tmp 11) (.const (.bool true)) (.tmp 17)) none,
        co (some 19) (.move (.tmp 18)) none,
        co (some 20) (.fieldAddr 53 (.tmp 2) 2) (some (19, false)),
        co (some 21) (.load 51 (.tmp 20)) (some (19, false)),
        co (some 22) (.call { callee := (.builtin .len), args := #[(.tmp 21)], argTypes := #[51] }) (some (19, false)),
        co (some 23) (.fieldAddr 53 (.tmp 3) 2) (some (19, false)),
        co (some 24) (.load 51 (.tmp 23)) (some (19, false)),
        co (some 25) (.call { callee := (.builtin .len), args := #[(.tmp 24)], argTypes := #[51] }) (some (19, false)),
        co (some 26) (.binOp .neq 3 (.tmp 22) (.tmp 25) 3) (some (19, false)),
        co (some 27) (.pick (.tmp 19) (.const (.bool true)) (.tmp 26)) none] [2, 3, 27])
    (.cond (.tmp 27)
      (.seq (.reg [co (some 4) (.assign (.const (.bool false))) none] [4])
      (.ret))
      (.skip)))
  (.keep [2, 3] (.seq (.seq (.reg [co (some 5) (.assign (.const (.int .i64 0))) none] [2, 3, 5])
    (.block 0
      (.loop l1_centoref07_Same)))
  (.keep [] (.seq (.reg [co (some 4) (.assign (.const (.bool true))) none] [4])
  (.ret))))))
theorem t_centoref07_Same : Txt Try.prog 53 47 [(.tmp 4)] c_centoref07_Same := txt_of (code := Try.f53.body.getD .ret) mixed (by kernel_rfl) Try.func53 (by kernel_rfl) Try.ntmps53 (by kernel_rfl) (ls := [([2, 3], [(0, [0]), (1, [1])]), ([], []), ([2, 3, 27], []), ([], []), ([4], []), ([], []), ([999999, 2, 3], []), ([2, 3, 5], []), ([], []), ([2, 3, 5, 32], []), ([], []), ([999999, 2, 3, 5], []), ([2, 3, 5, 46], []), ([], []), ([4], []), ([], []), ([999999, 2, 3, 5], []), ([2, 3, 5], []), ([999999], []), ([4], []), ([], [])]) (by kernel_rfl)
/-- cento/centoref07.Equal -/
def c_centoref07_Equal : CC :=
  .seq (.reg [cn (some 2) (.box 53 (.tmp 0)) none [0],
      cn (some 3) (.box 53 (.tmp 1)) none [1],
      co (some 4) (.assign (.const (.bool false))) none] [2, 3])
  (.seq (.reg [co (some 5) (.load 53 (.tmp 2)) none,
      ⟨some 6, (.call { callee := (.value (.func 47)), args := #[(.tmp 5)], argTypes := #[53] }), none, [], 1, [], true⟩,
      ⟨some 7, (.load 53 (.tmp 3)), none, [], 2, [1], false⟩,
      co (some 8) (.call { callee := (.value (.func 47)), args := #[(.tmp 7)], argTypes := #[53] }) none,
      co (some 9) (.call { callee := (.value (.func 53)), args := #[(.tmp 6), (.tmp 8)], argTypes := #[53, 53] }) none,
      co (some 4) (.assign (.tmp 9)) none] [4])
  (.ret))
theorem t_centoref07_Equal : Txt Try.prog 93 10 [(.tmp 4)] c_centoref07_Equal := txt_of (code := Try.f93.body.getD .ret) mixed (by kernel_rfl) Try.func93 (by kernel_rfl) Try.ntmps93 (by kernel_rfl) (ls := [([2, 3], [(0, [0]), (1, [1])]), ([], []), ([4], []), ([], [])]) (by kernel_rfl)
def l1_tree_Norm : CC :=
  .seq (.reg [co (some 20) (.binOp .lss 3 (.tmp 19) (.tmp 18) 3) none] [1, 2, 3, 17, 18, 19, 20])
  (.seq (.cond (.tmp 20)
      (.skip)
      (.exit 0))
  (.keep [1, 2, 3, 17, 18, 19] (.seq (.block 1
      (.seq (.reg [co (some 21) (.indexAddr 51 (.tmp 17) (.tmp 19)) none,
          co (some 22) (.load 53 (.tmp 21)) none,
          cn (some 5) (.alloc 53) none [3],
          co none (.store 53 (.tmp 5) (.tmp 22)) none] [1, 2, 3, 5, 17, 18, 19])
      (.reg [co (some 23) (.fieldAddr 53 (.tmp 3) 2) none,
        ⟨some 24, (.load 51 (.tmp 23)), none, [], 1, [], true⟩,
        co (some 25) (.load 53 (.tmp 5)) none,
        ⟨some 26, (.call { callee := (.value (.func 92)), args := #[(.tmp 25)], argTypes := #[53] }), none, [], 3, [1], false⟩,
        ⟨some 27, (.buildSlice 51 1 #[(0, (.tmp 26))]), none, [], 4, [1], false⟩,
        cn (some 28) (.call { callee := (.builtin .append), args := #[(.tmp 24), (.tmp 27)], argTypes := #[51, 51] }) none [4],
        co (some 29) (.fieldAddr 53 (.tmp 3) 2) none,
        co none (.store 51 (.tmp 29) (.tmp 28)) none] [1, 2, 3, 17, 18, 19])))
  (.reg [co (some 30) (.binOp .add 3 (.tmp 19) (.const (.int .i64 1)) 3) none,
    co (some 19) (.move (.tmp 30)) none] [1, 2, 3, 17, 18, 19]))))
def l2_tree_Norm : CC :=
  .seq (.seq (.reg [co (some 34) (.fieldAddr 53 (.tmp 3) 1) none,
        co (some 35) (.load 23 (.tmp 34)) none,
        co (some 36) (.call { callee := (.builtin .len), args := #[(.tmp 35)], argTypes := #[23] }) none,
        co (some 37) (.binOp .gtr 3 (.tmp 36) (.const (.int .i64 0)) 3) none,
        co (some 38) (.move (.tmp 37)) none,
        co (some 39) (.fieldAddr 53 (.tmp 3) 1) (some (38, true)),
        co (some 40) (.load 23 (.tmp 39)) (some (38, true)),
        co (some 41) (.fieldAddr 53 (.tmp 3) 1) (some (38, true)),
        co (some 42) (.load 23 (.tmp 41)) (some (38, true)),
        co (some 43) (.call { callee := (.builtin .len), args := #[(.tmp 42)], argTypes := #[23] }) (some (38, true)),
        co (some 44) (.binOp .sub 3 (.tmp 43) (.const (.int .i64 1)) 3) (some (38, true)),
        co (some 45) (.indexAddr 23 (.tmp 40) (.tmp 44)) (some (38, true)),
        co (some 46) (.load 26 (.tmp 45)) (some (38, true)),
        co (some 47) (.binOp .eql 26 (.tmp 46) (.const (.int .u64 0)) 26) (some (38, true)),
        co (some 48) (.pick (.tmp 38) (.tmp 47) (.const (.bool false))) none] [2, 3, 48])
    (.cond (.tmp 48)
      (.skip)
      (.exit 2)))
  (.keep [2, 3] (.block 3
    (.reg [co (some 49) (.fieldAddr 53 (.tmp 3) 1) none,
      co (some 50) (.load 23 (.tmp 49)) none,
      co (some 51) (.fieldAddr 53 (.tmp 3) 1) none,
      co (some 52) (.load 23 (.tmp 51)) none,
      co (some 53) (.call { callee := (.builtin .len), args := #[(.tmp 52)], argTypes := #[23] }) none,
      co (some 54) (.binOp .sub 3 (.tmp 53) (.const (.int .i64 1)) 3) none,
      co (some 55) (.slice 23 (.tmp 50) none (some (.tmp 54)) none) none,
      co (some 56) (.fieldAddr 53 (.tmp 3) 1) none,
      co none (.store 23 (.tmp 56) (.tmp 55)) none] [2, 3])))
def l3_tree_Norm : CC :=
  .seq (.seq (.reg [co (some 57) (.fieldAddr 53 (.tmp 3) 2) none,
        co (some 58) (.load 51 (.tmp 57)) none,
        co (some 59) (.call { callee := (.builtin .len), args := #[(.tmp 58)], argTypes := #[51] }) none,
        co (some 60) (.binOp .gtr 3 (.tmp 59) (.const (.int .i64 0)) 3) none,
        co (some 61) (.move (.tmp 60)) none,
        co (some 62) (.fieldAddr 53 (.tmp 3) 2) (some (61, true)),
        co (some 63) (.load 51 (.tmp 62)) (some (61, true)),
        co (some 64) (.fieldAddr 53 (.tmp 3) 2) (some (61, true)),
        co (some 65) (.load 51 (.tmp 64)) (some (61, true)),
        co (some 66) (.call { callee := (.builtin .len), args := #[(.tmp 65)], argTypes := #[51] }) (some (61, true)),
        co (some 67) (.binOp .sub 3 (.tmp 66) (.const (.int .i64 1)) 3) (some (61, true)),
        co (some 68) (.indexAddr 51 (.tmp 63) (.tmp 67)) (some (61, true)),
        co (some 69) (.fieldAddr 53 (.tmp 68) 0) (some (61, true)),
        co (some 70) (.load 3 (.tmp 69)) (some (61, true)),
        co (some 71) (.binOp .eql 3 (.tmp 70) (.const (.int .i64 0)) 3) (some (61, true)),
        co (some 72) (.pick (.tmp 61) (.tmp 71) (.const (.bool false))) none] [2, 3, 72])
    (.cond (.tmp 72)
      (.skip)
      (.exit 4)))
  (.keep [2, 3] (.block 5
    (.reg [co (some 73) (.fieldAddr 53 (.tmp 3) 2) none,
      co (some 74) (.load 51 (.tmp 73)) none,
      co (some 75) (.fieldAddr 53 (.tmp 3) 2) none,
      co (some 76) (.load 51 (.tmp 75)) none,
      co (some 77) (.call { callee := (.builtin .len), args := #[(.tmp 76)], argTypes := #[51] }) none,
      co (some 78) (.binOp .sub 3 (.tmp 77) (.const (.int .i64 1)) 3) none,
      co (some 79) (.slice 51 (.tmp 74) none (some (.tmp 78)) none) none,
      co (some 80) (.fieldAddr 53 (.tmp 3) 2) none,
      co none (.store 51 (.tmp 80) (.tmp 79)) none] [2, 3])))
/-- cento/tree.Norm -/
def c_tree_Norm : CC :=
  .seq (.reg [cn (some 1) (.box 53 (.tmp 0)) none [0],
      cn (some 2) (.alloc 53) none [1]] [1, 2])
  (.seq (.seq (.reg [co (some 6) (.fieldAddr 53 (.tmp 1) 0) none,
        co (some 7) (.load 3 (.tmp 6)) none,
        co (some 8) (.binOp .eql 3 (.tmp 7) (.const (.int .i64 0)) 3) none] [1, 2, 8])
    (.cond (.tmp 8)
      (.seq (.reg [co (some 9) (.build 53 #[]) none,
          co none (.store 53 (.tmp 2) (.tmp 9)) none] [2])
      (.ret))
      (.skip)))
  (.keep [1, 2] (.seq (.reg [co (some 10) (.fieldAddr 53 (.tmp 1) 0) none,
      ⟨some 11, (.load 3 (.tmp 10)), none, [], 1, [], true⟩,
      co (some 12) (.fieldAddr 53 (.tmp 1) 1) none,
      ⟨some 13, (.load 23 (.tmp 12)), none, [], 3, [], true⟩,
      ⟨some 14, (.call { callee := (.value (.func 60)), args := #[(.tmp 13)], argTypes := #[23] }), none, [], 4, [1], true⟩,
      co (some 15) (.build 53 #[(0, (.tmp 11)), (1, (.tmp 14))]) none,
      ⟨some 3, (.alloc 53), none, [2], 6, [1, 3, 4], false⟩,
      co none (.store 53 (.tmp 3) (.tmp 15)) none] [1, 2, 3])
  (.seq (.seq (.reg [co (some 16) (.fieldAddr 53 (.tmp 1) 2) none,
        co (some 17) (.load 51 (.tmp 16)) none,
        co (some 18) (.call { callee := (.builtin .len), args := #[(.tmp 17)], argTypes := #[51] }) none,
        co (some 19) (.move (.const (.int .i64 0))) none] [1, 2, 3, 17, 18, 19])
    (.block 0
      (.loop l1_tree_Norm)))
  (.keep [1, 2, 3] (.seq (.seq (.reg [co (some 31) (.fieldAddr 53 (.tmp 1) 0) none,
        co (some 32) (.load 3 (.tmp 31)) none,
        co (some 33) (.binOp .eql 3 (.tmp 32) (.const (.int .i64 1)) 3) none] [2, 3, 33])
    (.cond (.tmp 33)
      (.seq (.block 2
          (.loop l2_tree_Norm))
      (.keep [2, 3] (.block 4
        (.loop l3_tree_Norm))))
      (.skip)))
  (.keep [2, 3] (.seq (.reg [co (some 81) (.load 53 (.tmp 3)) none,
      co none (.store 53 (.tmp 2) (.tmp 81)) none] [2])
  (.ret)))))))))
theorem t_tree_Norm : Txt Try.prog 92 82 [(.cell 2 53)] c_tree_Norm := txt_of (code := Try.f92.body.getD .ret) mixed (by kernel_rfl) Try.func92 (by kernel_rfl) Try.ntmps92 (by kernel_rfl) (ls := [([1, 2], [(0, [0]), (1, [1])]), ([], []), ([1, 2, 8], []), ([], []), ([2], []), ([], []), ([999999, 1, 2], []), ([1, 2, 3], [(6, [2])]), ([], []), ([1, 2, 3, 17, 18, 19], []), ([], []), ([1, 2, 3, 17, 18, 19, 20], []), ([], []), ([999999, 1, 2, 3, 17, 18, 19], []), ([1, 2, 3, 5, 17, 18, 19], [(2, [3])]), ([], []), ([1, 2, 3, 17, 18, 19], [(5, [4])]), ([], []), ([1, 2, 3, 17, 18, 19], []), ([999999, 1, 2, 3], []), ([2, 3, 33], []), ([], []), ([2, 3, 48], []), ([], []), ([999999, 2, 3], []), ([2, 3], []), ([999999, 2, 3], []), ([2, 3, 72], []), ([], []), ([999999, 2, 3], []), ([2, 3], []), ([999999, 2, 3], []), ([2], []), ([], [])]) (by kernel_rfl)
end Go.Proofs.Ytehcobkphobjiaa

/-
  The functions' text as data, and the facts on the types that they use: written by a program of ours (gen2.py) off the translation.
-/
namespace Go.Proofs.Ytehcobkphobjiaa
set_option linter.unusedVariables false
set_option linter.unusedSimpArgs false
set_option maxRecDepth 20000
open Go Go.G Go.Proofs
@[simp] theorem und_64 : Try.prog.underlying 64 = some (.int .i64) := by kernel_rfl
@[simp] theorem szT_24 : szT Try.prog 24 = some 1 := by kernel_rfl
@[simp] theorem szT_60 : szT Try.prog 60 = some 4 := by kernel_rfl
@[simp] theorem szT_68 : szT Try.prog 68 = some 8 := by kernel_rfl
@[simp] theorem szT_128 : szT Try.prog 128 = some 7 := by kernel_rfl
@[simp] theorem aggT_24 : aggT Try.prog 24 = some false := by kernel_rfl
@[simp] theorem aggT_60 : aggT Try.prog 60 = some true := by kernel_rfl
@[simp] theorem aggT_68 : aggT Try.prog 68 = some true := by kernel_rfl
@[simp] theorem aggT_128 : aggT Try.prog 128 = some true := by kernel_rfl
@[simp] theorem zeroT_60 : zeroT Try.prog 60 = some (Value.agg #[Value.int IntKind.i64 0, Value.int IntKind.i64 0, Value.int IntKind.i64 0, Value.int IntKind.i64 0]) := by kernel_rfl
@[simp] theorem zeroT_68 : zeroT Try.prog 68 = some (Value.agg #[Value.pointer none, Value.int IntKind.i64 0, Value.int IntKind.i64 0, Value.int IntKind.i64 0, Value.int IntKind.i64 0, Value.int IntKind.i64 0, Value.int IntKind.i64 0, Value.int IntKind.u64 0]) := by kernel_rfl
@[simp] theorem zeroT_128 : zeroT Try.prog 128 = some (Value.agg #[Value.int IntKind.i64 0, Value.int IntKind.i64 0, Value.int IntKind.i64 0, Value.int IntKind.i64 0, Value.int IntKind.i64 0, Value.int IntKind.i64 0, Value.int IntKind.u64 0]) := by kernel_rfl
@[simp] theorem fieldOffT_60_0 : fieldOffT Try.prog 60 0 = some 0 := by kernel_rfl
@[simp] theorem fieldOffT_60_1 : fieldOffT Try.prog 60 1 = some 1 := by kernel_rfl
@[simp] theorem fieldOffT_60_2 : fieldOffT Try.prog 60 2 = some 2 := by kernel_rfl
@[simp] theorem fieldOffT_60_3 : fieldOffT Try.prog 60 3 = some 3 := by kernel_rfl
@[simp] theorem fieldOffT_68_0 : fieldOffT Try.prog 68 0 = some 0 := by kernel_rfl
@[simp] theorem fieldOffT_68_1 : fieldOffT Try.prog 68 1 = some 1 := by kernel_rfl
@[simp] theorem fieldOffT_68_2 : fieldOffT Try.prog 68 2 = some 2 := by kernel_rfl
@[simp] theorem fieldOffT_68_3 : fieldOffT Try.prog 68 3 = some 3 := by kernel_rfl
@[simp] theorem fieldOffT_68_4 : fieldOffT Try.prog 68 4 = some 4 := by kernel_rfl
@[simp] theorem fieldOffT_68_5 : fieldOffT Try.prog 68 5 = some 5 := by kernel_rfl
@[simp] theorem fieldOffT_68_6 : fieldOffT Try.prog 68 6 = some 6 := by kernel_rfl
@[simp] theorem fieldOffT_68_7 : fieldOffT Try.prog 68 7 = some 7 := by kernel_rfl
@[simp] theorem fieldOffT_128_0 : fieldOffT Try.prog 128 0 = some 0 := by kernel_rfl
@[simp] theorem fieldOffT_128_1 : fieldOffT Try.prog 128 1 = some 1 := by kernel_rfl
@[simp] theorem fieldOffT_128_2 : fieldOffT Try.prog 128 2 = some 2 := by kernel_rfl
@[simp] theorem fieldOffT_128_3 : fieldOffT Try.prog 128 3 = some 3 := by kernel_rfl
@[simp] theorem fieldOffT_128_4 : fieldOffT Try.prog 128 4 = some 4 := by kernel_rfl
@[simp] theorem fieldOffT_128_5 : fieldOffT Try.prog 128 5 = some 5 := by kernel_rfl
@[simp] theorem fieldOffT_128_6 : fieldOffT Try.prog 128 6 = some 6 := by kernel_rfl
@[simp] theorem buildA_60 (ps : List (Nat × A)) : buildA Try.prog 60 ps = (fillA (fun i => ([(0, 1), (1, 1), (2, 1), (3, 1)] : List (Nat × Nat))[i]?) [A.v (Value.int IntKind.i64 0), A.v (Value.int IntKind.i64 0), A.v (Value.int IntKind.i64 0), A.v (Value.int IntKind.i64 0)] ps).map A.agg := by kernel_rfl
@[simp] theorem buildA_68 (ps : List (Nat × A)) : buildA Try.prog 68 ps = (fillA (fun i => ([(0, 1), (1, 1), (2, 1), (3, 1), (4, 1), (5, 1), (6, 1), (7, 1)] : List (Nat × Nat))[i]?) [A.v (Value.pointer none), A.v (Value.int IntKind.i64 0), A.v (Value.int IntKind.i64 0), A.v (Value.int IntKind.i64 0), A.v (Value.int IntKind.i64 0), A.v (Value.int IntKind.i64 0), A.v (Value.int IntKind.i64 0), A.v (Value.int IntKind.u64 0)] ps).map A.agg := by kernel_rfl
@[simp] theorem buildA_128 (ps : List (Nat × A)) : buildA Try.prog 128 ps = (fillA (fun i => ([(0, 1), (1, 1), (2, 1), (3, 1), (4, 1), (5, 1), (6, 1)] : List (Nat × Nat))[i]?) [A.v (Value.int IntKind.i64 0), A.v (Value.int IntKind.i64 0), A.v (Value.int IntKind.i64 0), A.v (Value.int IntKind.i64 0), A.v (Value.int IntKind.i64 0), A.v (Value.int IntKind.i64 0), A.v (Value.int IntKind.u64 0)] ps).map A.agg := by kernel_rfl
/-- (cento/reader.Ref).Kind -/
def c_reader_Ref_Kind : CC :=
  .seq (.reg [cn (some 1) (.box 68 (.tmp 0)) none [0],
      co (some 2) (.assign (.const (.int .i64 0))) none] [1])
  (.seq (.reg [co (some 3) (.fieldAddr 68 (.tmp 1) 1) none,
      co (some 4) (.load 3 (.tmp 3)) none,
      co (some 2) (.assign (.tmp 4)) none] [2])
  (.ret))
theorem t_reader_Ref_Kind : Txt Try.prog 80 5 [(.tmp 2)] c_reader_Ref_Kind := txt_of (code := Try.f80.body.getD .ret) mixed (by kernel_rfl) Try.func80 (by kernel_rfl) Try.ntmps80 (by kernel_rfl) (ls := [([1], [(0, [0])]), ([], []), ([2], []), ([], [])]) (by kernel_rfl)
/-- (cento/reader.Ref).Words -/
def c_reader_Ref_Words : CC :=
  .seq (.reg [cn (some 1) (.box 68 (.tmp 0)) none [0],
      co (some 2) (.assign (.const (.int .i64 0))) none] [1])
  (.seq (.seq (.reg [co (some 3) (.fieldAddr 68 (.tmp 1) 1) none,
        co (some 4) (.load 3 (.tmp 3)) none] [1, 4])
    (.block 0
      (.seq (.reg [co (some 6) (.binOp .eql 3 (.tmp 4) (.const (.int .i64 1)) 3) none,
          co (some 5) (.assign (.tmp 6)) none] [1, 4, 5])
      (.cond (.tmp 5)
        (.seq (.reg [co (some 7) (.fieldAddr 68 (.tmp 1) 4) none,
            co (some 8) (.load 3 (.tmp 7)) none,
            co (some 2) (.assign (.tmp 8)) none] [2])
        (.ret))
        (.seq (.reg [co (some 10) (.binOp .eql 3 (.tmp 4) (.const (.int .i64 10)) 3) none,
            co (some 9) (.assign (.tmp 10)) none] [9])
        (.cond (.tmp 9)
          (.seq (.reg [co (some 2) (.assign (.const (.int .i64 1))) none] [2])
          (.ret))
          (.skip)))))))
  (.keep [] (.seq (.reg [co (some 2) (.assign (.const (.int .i64 0))) none] [2])
  (.ret))))
theorem t_reader_Ref_Words : Txt Try.prog 85 11 [(.tmp 2)] c_reader_Ref_Words := txt_of (code := Try.f85.body.getD .ret) mixed (by kernel_rfl) Try.func85 (by kernel_rfl) Try.ntmps85 (by kernel_rfl) (ls := [([1], [(0, [0])]), ([], []), ([1, 4], []), ([], []), ([1, 4, 5], []), ([], []), ([2], []), ([], []), ([9], []), ([], []), ([2], []), ([], []), ([999999], []), ([2], []), ([], [])]) (by kernel_rfl)
/-- (cento/reader.Ref).Kids -/
def c_reader_Ref_Kids : CC :=
  .seq (.reg [cn (some 1) (.box 68 (.tmp 0)) none [0],
      co (some 2) (.assign (.const (.int .i64 0))) none] [1])
  (.seq (.seq (.reg [co (some 3) (.fieldAddr 68 (.tmp 1) 1) none,
        co (some 4) (.load 3 (.tmp 3)) none,
        co (some 5) (.binOp .eql 3 (.tmp 4) (.const (.int .i64 1)) 3) none] [1, 5])
    (.cond (.tmp 5)
      (.seq (.reg [co (some 6) (.fieldAddr 68 (.tmp 1) 5) none,
          co (some 7) (.load 3 (.tmp 6)) none,
          co (some 2) (.assign (.tmp 7)) none] [2])
      (.ret))
      (.skip)))
  (.keep [1] (.seq (.reg [co (some 8) (.fieldAddr 68 (.tmp 1) 6) none,
      co (some 9) (.load 3 (.tmp 8)) none,
      co (some 2) (.assign (.tmp 9)) none] [2])
  (.ret))))
theorem t_reader_Ref_Kids : Txt Try.prog 75 10 [(.tmp 2)] c_reader_Ref_Kids := txt_of (code := Try.f75.body.getD .ret) mixed (by kernel_rfl) Try.func75 (by kernel_rfl) Try.ntmps75 (by kernel_rfl) (ls := [([1], [(0, [0])]), ([], []), ([1, 5], []), ([], []), ([2], []), ([], []), ([999999, 1], []), ([2], []), ([], [])]) (by kernel_rfl)
/-- (cento/reader.Ref).Word -/
def c_reader_Ref_Word : CC :=
  .seq (.reg [cn (some 2) (.box 68 (.tmp 0)) none [0],
      co (some 4) (.assign (.const (.int .u64 0))) none] [1, 2])
  (.seq (.seq (.reg [co (some 7) (.move (.tmp 1)) none,
        co (some 8) (.binOp .lss 3 (.tmp 7) (.const (.int .i64 0)) 3) none,
        co (some 9) (.move (.tmp 8)) none,
        co (some 10) (.move (.tmp 1)) (some (9, false)),
        co (some 11) (.load 68 (.tmp 2)) (some (9, false)),
        co (some 12) (.call { callee := (.value (.func 85)), args := #[(.tmp 11)], argTypes := #[68] }) (some (9, false)),
        co (some 13) (.binOp .geq 3 (.tmp 10) (.tmp 12) 3) (some (9, false)),
        co (some 14) (.pick (.tmp 9) (.const (.bool true)) (.tmp 13)) none] [1, 2, 14])
    (.cond (.tmp 14)
      (.seq (.reg [co (some 4) (.assign (.const (.int .u64 0))) none] [4])
      (.ret))
      (.skip)))
  (.keep [1, 2] (.seq (.seq (.reg [co (some 15) (.fieldAddr 68 (.tmp 2) 1) none,
        co (some 16) (.load 3 (.tmp 15)) none,
        co (some 17) (.binOp .eql 3 (.tmp 16) (.const (.int .i64 10)) 3) none] [1, 2, 17])
    (.cond (.tmp 17)
      (.seq (.reg [co (some 18) (.fieldAddr 68 (.tmp 2) 7) none,
          co (some 19) (.load 26 (.tmp 18)) none,
          co (some 4) (.assign (.tmp 19)) none] [4])
      (.ret))
      (.skip)))
  (.keep [1, 2] (.seq (.reg [co (some 21) (.fieldAddr 68 (.tmp 2) 0) none,
      co (some 22) (.load 24 (.tmp 21)) none,
      co (some 23) (.fieldAddr 68 (.tmp 2) 2) none,
      co (some 24) (.load 3 (.tmp 23)) none,
      co (some 25) (.fieldAddr 68 (.tmp 2) 3) none,
      co (some 26) (.load 3 (.tmp 25)) none,
      co (some 27) (.move (.tmp 1)) none,
      co (some 28) (.binOp .add 3 (.tmp 26) (.tmp 27) 3) none,
      co (some 29) (.call { callee := (.value (.func 26)), args := #[(.tmp 22), (.tmp 24), (.tmp 28)], argTypes := #[24, 3, 3] }) none,
      co (some 20) (.move (.tmp 29)) none,
      co (some 30) (.extract (.tmp 20) 0) none,
      co (some 31) (.extract (.tmp 20) 1) none,
      co (some 5) (.assign (.tmp 30)) none,
      co (some 6) (.assign (.tmp 31)) none] [5])
  (.seq (.reg [co (some 32) (.move (.tmp 5)) none,
      co (some 4) (.assign (.tmp 32)) none] [4])
  (.ret)))))))
theorem t_reader_Ref_Word : Txt Try.prog 86 33 [(.tmp 4)] c_reader_Ref_Word := txt_of (code := Try.f86.body.getD .ret) mixed (by kernel_rfl) Try.func86 (by kernel_rfl) Try.ntmps86 (by kernel_rfl) (ls := [([1, 2], [(0, [0])]), ([], []), ([1, 2, 14], []), ([], []), ([4], []), ([], []), ([999999, 1, 2], []), ([1, 2, 17], []), ([], []), ([4], []), ([], []), ([999999, 1, 2], []), ([5], []), ([], []), ([4], []), ([], [])]) (by kernel_rfl)
/-- (cento/reader.Ref).atom -/
def c_reader_Ref_atom : CC :=
  .seq (.reg [cn (some 2) (.box 68 (.tmp 0)) none [0],
      co (some 4) (.assign (.const (.int .u64 0))) none] [1, 2])
  (.seq (.reg [co (some 11) (.fieldAddr 68 (.tmp 2) 1) none,
      co (some 12) (.load 3 (.tmp 11)) none,
      co (some 13) (.binOp .sub 3 (.tmp 12) (.const (.int .i64 2)) 3) none,
      co (some 5) (.assign (.tmp 13)) none] [1, 2, 5])
  (.seq (.reg [co (some 15) (.move (.tmp 5)) none,
      co (some 16) (.call { callee := (.value (.func 135)), args := #[(.tmp 15)], argTypes := #[3] }) none,
      co (some 14) (.move (.tmp 16)) none,
      co (some 17) (.extract (.tmp 14) 0) none,
      co (some 18) (.extract (.tmp 14) 1) none,
      co (some 6) (.assign (.tmp 17)) none,
      co (some 7) (.assign (.tmp 18)) none] [1, 2, 5, 6])
  (.seq (.seq (.reg [co (some 19) (.move (.tmp 6)) none,
        co (some 20) (.binOp .eql 3 (.tmp 19) (.const (.int .i64 0)) 3) none] [1, 2, 5, 6, 20])
    (.cond (.tmp 20)
      (.seq (.reg [co (some 4) (.assign (.const (.int .u64 0))) none] [4])
      (.ret))
      (.skip)))
  (.keep [1, 2, 5, 6] (.seq (.reg [co (some 21) (.move (.tmp 6)) none,
      co (some 22) (.binOp .quo 3 (.const (.int .i64 64)) (.tmp 21) 3) none,
      co (some 8) (.assign (.tmp 22)) none] [1, 2, 5, 8])
  (.seq (.reg [co (some 24) (.fieldAddr 68 (.tmp 2) 0) none,
      co (some 25) (.load 24 (.tmp 24)) none,
      co (some 26) (.fieldAddr 68 (.tmp 2) 2) none,
      co (some 27) (.load 3 (.tmp 26)) none,
      co (some 28) (.fieldAddr 68 (.tmp 2) 3) none,
      co (some 29) (.load 3 (.tmp 28)) none,
      co (some 30) (.move (.tmp 1)) none,
      co (some 31) (.move (.tmp 8)) none,
      co (some 32) (.binOp .quo 3 (.tmp 30) (.tmp 31) 3) none,
      co (some 33) (.binOp .add 3 (.tmp 29) (.tmp 32) 3) none,
      co (some 34) (.call { callee := (.value (.func 26)), args := #[(.tmp 25), (.tmp 27), (.tmp 33)], argTypes := #[24, 3, 3] }) none,
      co (some 23) (.move (.tmp 34)) none,
      co (some 35) (.extract (.tmp 23) 0) none,
      co (some 36) (.extract (.tmp 23) 1) none,
      co (some 9) (.assign (.tmp 35)) none,
      co (some 10) (.assign (.tmp 36)) none] [1, 5, 8, 9])
  (.seq (.reg [co (some 37) (.move (.tmp 9)) none,
      co (some 38) (.buildSlice 23 1 #[(0, (.tmp 37))]) none,
      co (some 39) (.move (.tmp 5)) none,
      co (some 40) (.move (.tmp 1)) none,
      co (some 41) (.move (.tmp 8)) none,
      co (some 42) (.binOp .rem 3 (.tmp 40) (.tmp 41) 3) none,
      co (some 43) (.call { callee := (.value (.func 136)), args := #[(.tmp 38), (.tmp 39), (.tmp 42)], argTypes := #[23, 3, 3] }) none,
      co (some 4) (.assign (.tmp 43)) none] [4])
  (.ret))))))))
theorem t_reader_Ref_atom : Txt Try.prog 84 44 [(.tmp 4)] c_reader_Ref_atom := txt_of (code := Try.f84.body.getD .ret) mixed (by kernel_rfl) Try.func84 (by kernel_rfl) Try.ntmps84 (by kernel_rfl) (ls := [([1, 2], [(0, [0])]), ([], []), ([1, 2, 5], []), ([], []), ([1, 2, 5, 6], []), ([], []), ([1, 2, 5, 6, 20], []), ([], []), ([4], []), ([], []), ([999999, 1, 2, 5, 6], []), ([1, 2, 5, 8], []), ([], []), ([1, 5, 8, 9], []), ([], []), ([4], []), ([], [])]) (by kernel_rfl)
/-- cento/reader.At -/
def c_reader_At : CC :=
  .seq (.reg [cn (some 6) (.alloc 68) none [0],
      co (some 7) (.assign (.const (.int .i64 0))) none] [0, 1, 2, 6])
  (.seq (.reg [co (some 12) (.move (.tmp 0)) none,
      co (some 13) (.move (.tmp 1)) none,
      co (some 14) (.move (.tmp 2)) none,
      co (some 15) (.call { callee := (.value (.func 124)), args := #[(.tmp 12), (.tmp 13), (.tmp 14)], argTypes := #[24, 3, 3] }) none,
      co (some 11) (.move (.tmp 15)) none,
      co (some 16) (.extract (.tmp 11) 0) none,
      co (some 17) (.extract (.tmp 11) 1) none,
      cn (some 8) (.alloc 185) none [1],
      co none (.store 185 (.tmp 8) (.tmp 16)) none,
      co (some 9) (.assign (.tmp 17)) none] [0, 6, 8, 9])
  (.seq (.seq (.reg [co (some 18) (.move (.tmp 9)) none,
        co (some 19) (.binOp .neq 64 (.tmp 18) (.const (.int .i64 0)) 64) none,
        co (some 20) (.move (.tmp 19)) none,
        co (some 21) (.fieldAddr 185 (.tmp 8) 0) (some (20, false)),
        co (some 22) (.fieldAddr 183 (.tmp 21) 0) (some (20, false)),
        co (some 23) (.load 3 (.tmp 22)) (some (20, false)),
        co (some 24) (.binOp .eql 3 (.tmp 23) (.const (.int .i64 0)) 3) (some (20, false)),
        co (some 25) (.pick (.tmp 20) (.const (.bool true)) (.tmp 24)) none] [0, 6, 8, 9, 25])
    (.cond (.tmp 25)
      (.seq (.reg [co (some 26) (.build 68 #[]) none,
          co (some 27) (.move (.tmp 9)) none,
          co none (.store 68 (.tmp 6) (.tmp 26)) none,
          co (some 7) (.assign (.tmp 27)) none] [6, 7])
      (.ret))
      (.skip)))
  (.keep [0, 6, 8] (.seq (.reg [co (some 28) (.move (.tmp 0)) none,
      co (some 29) (.fieldAddr 185 (.tmp 8) 1) none,
      co (some 30) (.load 3 (.tmp 29)) none,
      co (some 31) (.fieldAddr 185 (.tmp 8) 2) none,
      co (some 32) (.load 3 (.tmp 31)) none,
      co (some 33) (.build 68 #[(0, (.tmp 28)), (2, (.tmp 30)), (3, (.tmp 32))]) none,
      cn (some 10) (.alloc 68) none [2],
      co none (.store 68 (.tmp 10) (.tmp 33)) none] [6, 8, 10])
  (.seq (.block 0
      (.seq (.reg [co (some 42) (.fieldAddr 185 (.tmp 8) 0) none,
          co (some 43) (.fieldAddr 183 (.tmp 42) 0) none,
          co (some 44) (.load 3 (.tmp 43)) none,
          co (some 45) (.binOp .eql 3 (.tmp 44) (.const (.int .i64 1)) 3) none,
          co (some 41) (.assign (.tmp 45)) none] [6, 8, 10, 41])
      (.cond (.tmp 41)
        (.reg [co (some 46) (.fieldAddr 185 (.tmp 8) 0) none,
          co (some 47) (.fieldAddr 183 (.tmp 46) 2) none,
          ⟨some 48, (.load 3 (.tmp 47)), none, [], 2, [], true⟩,
          co (some 49) (.fieldAddr 185 (.tmp 8) 0) none,
          co (some 50) (.fieldAddr 183 (.tmp 49) 3) none,
          ⟨some 51, (.load 3 (.tmp 50)), none, [], 5, [], true⟩,
          co (some 52) (.fieldAddr 68 (.tmp 10) 1) none,
          ⟨none, (.store 3 (.tmp 52) (.const (.int .i64 1))), none, [], 7, [2, 5], false⟩,
          co (some 53) (.fieldAddr 68 (.tmp 10) 4) none,
          ⟨none, (.store 3 (.tmp 53) (.tmp 48)), none, [], 9, [5], false⟩,
          co (some 54) (.fieldAddr 68 (.tmp 10) 5) none,
          co none (.store 3 (.tmp 54) (.tmp 51)) none] [6, 10])
        (.seq (.reg [co (some 56) (.fieldAddr 185 (.tmp 8) 0) none,
            co (some 57) (.fieldAddr 183 (.tmp 56) 4) none,
            co (some 58) (.load 3 (.tmp 57)) none,
            co (some 59) (.binOp .lss 3 (.tmp 58) (.const (.int .i64 6)) 3) none,
            co (some 55) (.assign (.tmp 59)) none] [6, 8, 10, 55])
        (.cond (.tmp 55)
          (.reg [co (some 60) (.fieldAddr 185 (.tmp 8) 0) none,
            co (some 61) (.fieldAddr 183 (.tmp 60) 4) none,
            co (some 62) (.load 3 (.tmp 61)) none,
            co (some 63) (.binOp .add 3 (.const (.int .i64 2)) (.tmp 62) 3) none,
            co (some 64) (.fieldAddr 185 (.tmp 8) 0) none,
            co (some 65) (.fieldAddr 183 (.tmp 64) 5) none,
            ⟨some 66, (.load 3 (.tmp 65)), none, [], 6, [], true⟩,
            co (some 67) (.fieldAddr 68 (.tmp 10) 1) none,
            ⟨none, (.store 3 (.tmp 67) (.tmp 63)), none, [], 8, [6], false⟩,
            co (some 68) (.fieldAddr 68 (.tmp 10) 6) none,
            co none (.store 3 (.tmp 68) (.tmp 66)) none] [6, 10])
          (.seq (.reg [co (some 70) (.fieldAddr 185 (.tmp 8) 0) none,
              co (some 71) (.fieldAddr 183 (.tmp 70) 4) none,
              co (some 72) (.load 3 (.tmp 71)) none,
              co (some 73) (.binOp .eql 3 (.tmp 72) (.const (.int .i64 6)) 3) none,
              co (some 69) (.assign (.tmp 73)) none] [6, 8, 10, 69])
          (.cond (.tmp 69)
            (.reg [co (some 74) (.fieldAddr 185 (.tmp 8) 0) none,
              co (some 75) (.fieldAddr 183 (.tmp 74) 5) none,
              ⟨some 76, (.load 3 (.tmp 75)), none, [], 2, [], true⟩,
              co (some 77) (.fieldAddr 68 (.tmp 10) 1) none,
              ⟨none, (.store 3 (.tmp 77) (.const (.int .i64 8))), none, [], 4, [2], false⟩,
              co (some 78) (.fieldAddr 68 (.tmp 10) 6) none,
              co none (.store 3 (.tmp 78) (.tmp 76)) none] [6, 10])
            (.seq (.reg [co (some 34) (.load 68 (.tmp 10)) none,
                co (some 35) (.fieldAddr 185 (.tmp 8) 0) none,
                co (some 36) (.fieldAddr 183 (.tmp 35) 5) none,
                co (some 37) (.load 3 (.tmp 36)) none,
                co (some 38) (.call { callee := (.value (.func 125)), args := #[(.tmp 34), (.tmp 37)], argTypes := #[68, 3] }) none,
                co (some 39) (.extract (.tmp 38) 0) none,
                co (some 40) (.extract (.tmp 38) 1) none,
                co none (.store 68 (.tmp 6) (.tmp 39)) none,
                co (some 7) (.assign (.tmp 40)) none] [6, 7])
            (.ret)))))))))
  (.keep [6, 10] (.seq (.reg [co (some 79) (.load 68 (.tmp 10)) none,
      co none (.store 68 (.tmp 6) (.tmp 79)) none,
      co (some 7) (.assign (.const (.int .i64 0))) none] [6, 7])
  (.ret))))))))
theorem t_reader_At : Txt Try.prog 78 80 [(.cell 6 68), (.tmp 7)] c_reader_At := txt_of (code := Try.f78.body.getD .ret) mixed (by kernel_rfl) Try.func78 (by kernel_rfl) Try.ntmps78 (by kernel_rfl) (ls := [([0, 1, 2, 6], [(0, [0])]), ([], []), ([0, 6, 8, 9], [(7, [1])]), ([], []), ([0, 6, 8, 9, 25], []), ([], []), ([6, 7], []), ([], []), ([999999, 0, 6, 8], []), ([6, 8, 10], [(6, [2])]), ([], []), ([6, 8, 10, 41], []), ([], []), ([6, 10], []), ([6, 8, 10, 55], []), ([], []), ([6, 10], []), ([6, 8, 10, 69], []), ([], []), ([6, 10], []), ([6, 7], []), ([], []), ([999999, 6, 10], []), ([6, 7], []), ([], [])]) (by kernel_rfl)
/-- cento/reader.Root -/
def c_reader_Root : CC :=
  .seq (.reg [cn (some 2) (.alloc 68) none [0],
      co (some 3) (.assign (.const (.int .i64 0))) none] [0, 2])
  (.seq (.reg [co (some 4) (.move (.tmp 0)) none,
      co (some 5) (.call { callee := (.value (.func 78)), args := #[(.tmp 4), (.const (.int .i64 0)), (.const (.int .i64 0))], argTypes := #[24, 3, 3] }) none,
      co (some 6) (.extract (.tmp 5) 0) none,
      co (some 7) (.extract (.tmp 5) 1) none,
      co none (.store 68 (.tmp 2) (.tmp 6)) none,
      co (some 3) (.assign (.tmp 7)) none] [2, 3])
  (.ret))
theorem t_reader_Root : Txt Try.prog 40 8 [(.cell 2 68), (.tmp 3)] c_reader_Root := txt_of (code := Try.f40.body.getD .ret) mixed (by kernel_rfl) Try.func40 (by kernel_rfl) Try.ntmps40 (by kernel_rfl) (ls := [([0, 2], [(0, [0])]), ([], []), ([2, 3], []), ([], [])]) (by kernel_rfl)
/-- (cento/reader.Ref).composite -/
def c_reader_Ref_composite : CC :=
  .seq (.reg [cn (some 2) (.box 68 (.tmp 0)) none [0],
      cn (some 4) (.alloc 68) none [1],
      co (some 5) (.assign (.const (.int .i64 0))) none] [1, 2, 4])
  (.seq (.reg [co (some 10) (.fieldAddr 68 (.tmp 2) 0) none,
      co (some 11) (.load 24 (.tmp 10)) none,
      co (some 12) (.fieldAddr 68 (.tmp 2) 2) none,
      co (some 13) (.load 3 (.tmp 12)) none,
      co (some 14) (.fieldAddr 68 (.tmp 2) 3) none,
      co (some 15) (.load 3 (.tmp 14)) none,
      co (some 16) (.call { callee := (.value (.func 26)), args := #[(.tmp 11), (.tmp 13), (.tmp 15)], argTypes := #[24, 3, 3] }) none,
      co (some 9) (.move (.tmp 16)) none,
      co (some 17) (.extract (.tmp 9) 0) none,
      co (some 18) (.extract (.tmp 9) 1) none,
      co (some 6) (.assign (.tmp 17)) none,
      co (some 7) (.assign (.tmp 18)) none] [1, 2, 4, 6])
  (.seq (.reg [co (some 19) (.move (.tmp 6)) none,
      co (some 20) (.call { callee := (.value (.func 172)), args := #[(.tmp 19)], argTypes := #[26] }) none,
      cn (some 8) (.alloc 183) none [2],
      co none (.store 183 (.tmp 8) (.tmp 20)) none] [1, 2, 4, 6, 8])
  (.seq (.seq (.reg [co (some 21) (.move (.tmp 6)) none,
        co (some 22) (.binOp .neq 26 (.tmp 21) (.const (.int .u64 0)) 26) none,
        co (some 23) (.move (.tmp 22)) none,
        co (some 24) (.fieldAddr 183 (.tmp 8) 0) (some (23, true)),
        co (some 25) (.load 3 (.tmp 24)) (some (23, true)),
        co (some 26) (.binOp .neq 3 (.tmp 25) (.const (.int .i64 1)) 3) (some (23, true)),
        co (some 27) (.pick (.tmp 23) (.tmp 26) (.const (.bool false))) none,
        co (some 28) (.move (.tmp 27)) none,
        co (some 29) (.fieldAddr 183 (.tmp 8) 1) (some (28, false)),
        co (some 30) (.load 3 (.tmp 29)) (some (28, false)),
        co (some 31) (.binOp .lss 3 (.tmp 30) (.const (.int .i64 0)) 3) (some (28, false)),
        co (some 32) (.pick (.tmp 28) (.const (.bool true)) (.tmp 31)) none,
        co (some 33) (.move (.tmp 32)) none,
        co (some 34) (.fieldAddr 183 (.tmp 8) 1) (some (33, false)),
        co (some 35) (.load 3 (.tmp 34)) (some (33, false)),
        co (some 36) (.fieldAddr 183 (.tmp 8) 2) (some (33, false)),
        co (some 37) (.load 3 (.tmp 36)) (some (33, false)),
        co (some 38) (.fieldAddr 183 (.tmp 8) 3) (some (33, false)),
        co (some 39) (.load 3 (.tmp 38)) (some (33, false)),
        co (some 40) (.binOp .add 3 (.tmp 37) (.tmp 39) 3) (some (33, false)),
        co (some 41) (.binOp .mul 3 (.tmp 35) (.tmp 40) 3) (some (33, false)),
        co (some 42) (.move (.tmp 1)) (some (33, false)),
        co (some 43) (.binOp .gtr 3 (.tmp 41) (.tmp 42) 3) (some (33, false)),
        co (some 44) (.pick (.tmp 33) (.const (.bool true)) (.tmp 43)) none] [2, 4, 8, 44])
    (.cond (.tmp 44)
      (.seq (.reg [co (some 45) (.build 68 #[]) none,
          co none (.store 68 (.tmp 4) (.tmp 45)) none,
          co (some 5) (.assign (.const (.int .i64 8))) none] [4, 5])
      (.ret))
      (.skip)))
  (.keep [2, 4, 8] (.seq (.reg [co (some 46) (.fieldAddr 68 (.tmp 2) 3) none,
      co (some 47) (.load 3 (.tmp 46)) none,
      co (some 48) (.binOp .add 3 (.tmp 47) (.const (.int .i64 1)) 3) none,
      co (some 49) (.fieldAddr 68 (.tmp 2) 1) none,
      co none (.store 3 (.tmp 49) (.const (.int .i64 9))) none,
      co (some 50) (.fieldAddr 68 (.tmp 2) 3) none,
      co none (.store 3 (.tmp 50) (.tmp 48)) none] [2, 4, 8])
  (.seq (.reg [co (some 51) (.fieldAddr 183 (.tmp 8) 1) none,
      co (some 52) (.load 3 (.tmp 51)) none,
      co (some 53) (.fieldAddr 183 (.tmp 8) 2) none,
      ⟨some 54, (.load 3 (.tmp 53)), none, [], 3, [], true⟩,
      co (some 55) (.fieldAddr 183 (.tmp 8) 3) none,
      ⟨some 56, (.load 3 (.tmp 55)), none, [], 5, [], true⟩,
      co (some 57) (.fieldAddr 68 (.tmp 2) 6) none,
      ⟨none, (.store 3 (.tmp 57) (.tmp 52)), none, [], 7, [3, 5], false⟩,
      co (some 58) (.fieldAddr 68 (.tmp 2) 4) none,
      ⟨none, (.store 3 (.tmp 58) (.tmp 54)), none, [], 9, [5], false⟩,
      co (some 59) (.fieldAddr 68 (.tmp 2) 5) none,
      co none (.store 3 (.tmp 59) (.tmp 56)) none] [2, 4])
  (.seq (.reg [co (some 60) (.load 68 (.tmp 2)) none,
      co none (.store 68 (.tmp 4) (.tmp 60)) none,
      co (some 5) (.assign (.const (.int .i64 0))) none] [4, 5])
  (.ret))))))))
theorem t_reader_Ref_composite : Txt Try.prog 125 61 [(.cell 4 68), (.tmp 5)] c_reader_Ref_composite := txt_of (code := Try.f125.body.getD .ret) mixed (by kernel_rfl) Try.func125 (by kernel_rfl) Try.ntmps125 (by kernel_rfl) (ls := [([1, 2, 4], [(0, [0]), (1, [1])]), ([], []), ([1, 2, 4, 6], []), ([], []), ([1, 2, 4, 6, 8], [(2, [2])]), ([], []), ([2, 4, 8, 44], []), ([], []), ([4, 5], []), ([], []), ([999999, 2, 4, 8], []), ([2, 4, 8], []), ([], []), ([2, 4], []), ([], []), ([4, 5], []), ([], [])]) (by kernel_rfl)
/-- (cento/reader.Ref).Kid -/
def c_reader_Ref_Kid : CC :=
  .seq (.reg [cn (some 2) (.box 68 (.tmp 0)) none [0],
      cn (some 4) (.alloc 68) none [1],
      co (some 5) (.assign (.const (.int .i64 0))) none] [1, 2, 4])
  (.seq (.seq (.reg [co (some 6) (.move (.tmp 1)) none,
        co (some 7) (.binOp .lss 3 (.tmp 6) (.const (.int .i64 0)) 3) none,
        co (some 8) (.move (.tmp 7)) none,
        co (some 9) (.move (.tmp 1)) (some (8, false)),
        co (some 10) (.load 68 (.tmp 2)) (some (8, false)),
        co (some 11) (.call { callee := (.value (.func 75)), args := #[(.tmp 10)], argTypes := #[68] }) (some (8, false)),
        co (some 12) (.binOp .geq 3 (.tmp 9) (.tmp 11) 3) (some (8, false)),
        co (some 13) (.pick (.tmp 8) (.const (.bool true)) (.tmp 12)) none] [1, 2, 4, 13])
    (.cond (.tmp 13)
      (.seq (.reg [co (some 14) (.build 68 #[]) none,
          co none (.store 68 (.tmp 4) (.tmp 14)) none,
          co (some 5) (.assign (.const (.int .i64 0))) none] [4, 5])
      (.ret))
      (.skip)))
  (.keep [1, 2, 4] (.seq (.seq (.reg [co (some 15) (.fieldAddr 68 (.tmp 2) 1) none,
        co (some 16) (.load 3 (.tmp 15)) none] [1, 2, 4, 16])
    (.block 0
      (.seq (.reg [co (some 18) (.binOp .eql 3 (.tmp 16) (.const (.int .i64 1)) 3) none,
          co (some 17) (.assign (.tmp 18)) none] [1, 2, 4, 16, 17])
      (.cond (.tmp 17)
        (.seq (.reg [co (some 19) (.fieldAddr 68 (.tmp 2) 0) none,
            co (some 20) (.load 24 (.tmp 19)) none,
            co (some 21) (.fieldAddr 68 (.tmp 2) 2) none,
            co (some 22) (.load 3 (.tmp 21)) none,
            co (some 23) (.fieldAddr 68 (.tmp 2) 3) none,
            co (some 24) (.load 3 (.tmp 23)) none,
            co (some 25) (.fieldAddr 68 (.tmp 2) 4) none,
            co (some 26) (.load 3 (.tmp 25)) none,
            co (some 27) (.binOp .add 3 (.tmp 24) (.tmp 26) 3) none,
            co (some 28) (.move (.tmp 1)) none,
            co (some 29) (.binOp .add 3 (.tmp 27) (.tmp 28) 3) none,
            co (some 30) (.call { callee := (.value (.func 78)), args := #[(.tmp 20), (.tmp 22), (.tmp 29)], argTypes := #[24, 3, 3] }) none,
            co (some 31) (.extract (.tmp 30) 0) none,
            co (some 32) (.extract (.tmp 30) 1) none,
            co none (.store 68 (.tmp 4) (.tmp 31)) none,
            co (some 5) (.assign (.tmp 32)) none] [4, 5])
        (.ret))
        (.seq (.reg [co (some 34) (.binOp .eql 3 (.tmp 16) (.const (.int .i64 8)) 3) none,
            co (some 33) (.assign (.tmp 34)) none] [1, 2, 4, 16, 33])
        (.cond (.tmp 33)
          (.seq (.reg [co (some 35) (.fieldAddr 68 (.tmp 2) 0) none,
              co (some 36) (.load 24 (.tmp 35)) none,
              co (some 37) (.fieldAddr 68 (.tmp 2) 2) none,
              co (some 38) (.load 3 (.tmp 37)) none,
              co (some 39) (.fieldAddr 68 (.tmp 2) 3) none,
              co (some 40) (.load 3 (.tmp 39)) none,
              co (some 41) (.move (.tmp 1)) none,
              co (some 42) (.binOp .add 3 (.tmp 40) (.tmp 41) 3) none,
              co (some 43) (.call { callee := (.value (.func 78)), args := #[(.tmp 36), (.tmp 38), (.tmp 42)], argTypes := #[24, 3, 3] }) none,
              co (some 44) (.extract (.tmp 43) 0) none,
              co (some 45) (.extract (.tmp 43) 1) none,
              co none (.store 68 (.tmp 4) (.tmp 44)) none,
              co (some 5) (.assign (.tmp 45)) none] [4, 5])
          (.ret))
          (.seq (.reg [co (some 47) (.binOp .eql 3 (.tmp 16) (.const (.int .i64 9)) 3) none,
              co (some 46) (.assign (.tmp 47)) none] [1, 2, 4, 46])
          (.cond (.tmp 46)
            (.seq (.reg [co (some 48) (.fieldAddr 68 (.tmp 2) 0) none,
                co (some 49) (.load 24 (.tmp 48)) none,
                co (some 50) (.fieldAddr 68 (.tmp 2) 2) none,
                co (some 51) (.load 3 (.tmp 50)) none,
                co (some 52) (.fieldAddr 68 (.tmp 2) 3) none,
                co (some 53) (.load 3 (.tmp 52)) none,
                co (some 54) (.move (.tmp 1)) none,
                co (some 55) (.fieldAddr 68 (.tmp 2) 4) none,
                co (some 56) (.load 3 (.tmp 55)) none,
                co (some 57) (.fieldAddr 68 (.tmp 2) 5) none,
                co (some 58) (.load 3 (.tmp 57)) none,
                co (some 59) (.binOp .add 3 (.tmp 56) (.tmp 58) 3) none,
                co (some 60) (.binOp .mul 3 (.tmp 54) (.tmp 59) 3) none,
                co (some 61) (.binOp .add 3 (.tmp 53) (.tmp 60) 3) none,
                co (some 62) (.fieldAddr 68 (.tmp 2) 4) none,
                co (some 63) (.load 3 (.tmp 62)) none,
                co (some 64) (.fieldAddr 68 (.tmp 2) 5) none,
                co (some 65) (.load 3 (.tmp 64)) none,
                co (some 66) (.build 68 #[(0, (.tmp 49)), (1, (.const (.int .i64 1))), (2, (.tmp 51)), (3, (.tmp 61)), (4, (.tmp 63)), (5, (.tmp 65))]) none,
                co none (.store 68 (.tmp 4) (.tmp 66)) none,
                co (some 5) (.assign (.const (.int .i64 0))) none] [4, 5])
            (.ret))
            (.skip)))))))))
  (.keep [1, 2, 4] (.seq (.reg [co (some 67) (.fieldAddr 68 (.tmp 2) 0) none,
      ⟨some 68, (.load 24 (.tmp 67)), none, [], 1, [], true⟩,
      co (some 69) (.load 68 (.tmp 2)) none,
      co (some 70) (.move (.tmp 1)) none,
      ⟨some 71, (.call { callee := (.value (.func 84)), args := #[(.tmp 69), (.tmp 70)], argTypes := #[68, 3] }), none, [], 4, [1], false⟩,
      co (some 72) (.build 68 #[(0, (.tmp 68)), (1, (.const (.int .i64 10))), (7, (.tmp 71))]) none,
      co none (.store 68 (.tmp 4) (.tmp 72)) none,
      co (some 5) (.assign (.const (.int .i64 0))) none] [4, 5])
  (.ret))))))
theorem t_reader_Ref_Kid : Txt Try.prog 44 73 [(.cell 4 68), (.tmp 5)] c_reader_Ref_Kid := txt_of (code := Try.f44.body.getD .ret) mixed (by kernel_rfl) Try.func44 (by kernel_rfl) Try.ntmps44 (by kernel_rfl) (ls := [([1, 2, 4], [(0, [0]), (1, [1])]), ([], []), ([1, 2, 4, 13], []), ([], []), ([4, 5], []), ([], []), ([999999, 1, 2, 4], []), ([1, 2, 4, 16], []), ([], []), ([1, 2, 4, 16, 17], []), ([], []), ([4, 5], []), ([], []), ([1, 2, 4, 16, 33], []), ([], []), ([4, 5], []), ([], []), ([1, 2, 4, 46], []), ([], []), ([4, 5], []), ([], []), ([999999, 1, 2, 4], []), ([4, 5], []), ([], [])]) (by kernel_rfl)
def l1_copy_Long : CC :=
  .seq (.seq (.reg [co (some 6) (.move (.tmp 3)) none,
        co (some 7) (.binOp .gtr 3 (.tmp 6) (.const (.int .i64 0)) 3) none,
        co (some 8) (.move (.tmp 7)) none,
        co (some 9) (.load 68 (.tmp 1)) (some (8, true)),
        co (some 10) (.move (.tmp 3)) (some (8, true)),
        co (some 11) (.binOp .sub 3 (.tmp 10) (.const (.int .i64 1)) 3) (some (8, true)),
        co (some 12) (.call { callee := (.value (.func 86)), args := #[(.tmp 9), (.tmp 11)], argTypes := #[68, 3] }) (some (8, true)),
        co (some 13) (.binOp .eql 26 (.tmp 12) (.const (.int .u64 0)) 26) (some (8, true)),
        co (some 14) (.pick (.tmp 8) (.tmp 13) (.const (.bool false))) none] [1, 3, 14])
    (.cond (.tmp 14)
      (.skip)
      (.exit 0)))
  (.keep [1, 3] (.block 1
    (.reg [co (some 15) (.move (.tmp 3)) none,
      co (some 16) (.binOp .sub 3 (.tmp 15) (.const (.int .i64 1)) 3) none,
      co (some 3) (.assign (.tmp 16)) none] [1, 3])))
/-- cento/copy.Long -/
def c_copy_Long : CC :=
  .seq (.reg [cn (some 1) (.box 68 (.tmp 0)) none [0],
      co (some 2) (.assign (.const (.int .i64 0))) none] [1])
  (.seq (.reg [co (some 4) (.load 68 (.tmp 1)) none,
      co (some 5) (.call { callee := (.value (.func 85)), args := #[(.tmp 4)], argTypes := #[68] }) none,
      co (some 3) (.assign (.tmp 5)) none] [1, 3])
  (.seq (.block 0
      (.loop l1_copy_Long))
  (.keep [3] (.seq (.reg [co (some 17) (.move (.tmp 3)) none,
      co (some 2) (.assign (.tmp 17)) none] [2])
  (.ret)))))
theorem t_copy_Long : Txt Try.prog 46 18 [(.tmp 2)] c_copy_Long := txt_of (code := Try.f46.body.getD .ret) mixed (by kernel_rfl) Try.func46 (by kernel_rfl) Try.ntmps46 (by kernel_rfl) (ls := [([1], [(0, [0])]), ([], []), ([1, 3], []), ([], []), ([1, 3, 14], []), ([], []), ([999999, 1, 3], []), ([1, 3], []), ([999999, 3], []), ([2], []), ([], [])]) (by kernel_rfl)
def l1_copy_Wide : CC :=
  .seq (.seq (.reg [co (some 9) (.move (.tmp 4)) none,
        co (some 10) (.binOp .gtr 3 (.tmp 9) (.const (.int .i64 0)) 3) none] [1, 4, 10])
    (.cond (.tmp 10)
      (.skip)
      (.exit 0)))
  (.keep [1, 4] (.block 1
    (.seq (.reg [co (some 12) (.load 68 (.tmp 1)) none,
        co (some 13) (.move (.tmp 4)) none,
        co (some 14) (.binOp .sub 3 (.tmp 13) (.const (.int .i64 1)) 3) none,
        co (some 15) (.call { callee := (.value (.func 44)), args := #[(.tmp 12), (.tmp 14)], argTypes := #[68, 3] }) none,
        co (some 11) (.move (.tmp 15)) none,
        co (some 16) (.extract (.tmp 11) 0) none,
        co (some 17) (.extract (.tmp 11) 1) none,
        cn (some 5) (.alloc 68) none [1],
        co none (.store 68 (.tmp 5) (.tmp 16)) none,
        co (some 6) (.assign (.tmp 17)) none] [1, 4, 5, 6])
    (.seq (.seq (.reg [co (some 18) (.move (.tmp 6)) none,
          co (some 19) (.binOp .neq 64 (.tmp 18) (.const (.int .i64 0)) 64) none,
          co (some 20) (.move (.tmp 19)) none,
          co (some 21) (.load 68 (.tmp 5)) (some (20, false)),
          co (some 22) (.call { callee := (.value (.func 80)), args := #[(.tmp 21)], argTypes := #[68] }) (some (20, false)),
          co (some 23) (.binOp .neq 3 (.tmp 22) (.const (.int .i64 0)) 3) (some (20, false)),
          co (some 24) (.pick (.tmp 20) (.const (.bool true)) (.tmp 23)) none] [1, 4, 6, 24])
      (.cond (.tmp 24)
        (.seq (.reg [co (some 25) (.move (.tmp 4)) none,
            co (some 26) (.move (.tmp 6)) none,
            co (some 2) (.assign (.tmp 25)) none,
            co (some 3) (.assign (.tmp 26)) none] [2, 3])
        (.ret))
        (.skip)))
    (.keep [1, 4] (.reg [co (some 27) (.move (.tmp 4)) none,
      co (some 28) (.binOp .sub 3 (.tmp 27) (.const (.int .i64 1)) 3) none,
      co (some 4) (.assign (.tmp 28)) none] [1, 4]))))))
/-- cento/copy.Wide -/
def c_copy_Wide : CC :=
  .seq (.reg [cn (some 1) (.box 68 (.tmp 0)) none [0],
      co (some 2) (.assign (.const (.int .i64 0))) none,
      co (some 3) (.assign (.const (.int .i64 0))) none] [1])
  (.seq (.reg [co (some 7) (.load 68 (.tmp 1)) none,
      co (some 8) (.call { callee := (.value (.func 75)), args := #[(.tmp 7)], argTypes := #[68] }) none,
      co (some 4) (.assign (.tmp 8)) none] [1, 4])
  (.seq (.block 0
      (.loop l1_copy_Wide))
  (.keep [] (.seq (.reg [co (some 2) (.assign (.const (.int .i64 0))) none,
      co (some 3) (.assign (.const (.int .i64 0))) none] [2, 3])
  (.ret)))))
theorem t_copy_Wide : Txt Try.prog 45 29 [(.tmp 2), (.tmp 3)] c_copy_Wide := txt_of (code := Try.f45.body.getD .ret) mixed (by kernel_rfl) Try.func45 (by kernel_rfl) Try.ntmps45 (by kernel_rfl) (ls := [([1], [(0, [0])]), ([], []), ([1, 4], []), ([], []), ([1, 4, 10], []), ([], []), ([999999, 1, 4], []), ([1, 4, 5, 6], [(7, [1])]), ([], []), ([1, 4, 6, 24], []), ([], []), ([2, 3], []), ([], []), ([999999, 1, 4], []), ([1, 4], []), ([999999], []), ([2, 3], []), ([], [])]) (by kernel_rfl)
/-- cento/centoref09.At -/
def c_centoref09_At : CC :=
  .seq (.reg [cn (some 6) (.alloc 128) none [0],
      co (some 7) (.assign (.const (.int .i64 0))) none] [0, 1, 2, 6])
  (.seq (.reg [co (some 13) (.move (.tmp 0)) none,
      co (some 14) (.move (.tmp 1)) none,
      co (some 15) (.move (.tmp 2)) none,
      co (some 16) (.call { callee := (.value (.func 115)), args := #[(.tmp 13), (.tmp 14), (.tmp 15)], argTypes := #[22, 3, 3] }) none,
      co (some 12) (.move (.tmp 16)) none,
      co (some 17) (.extract (.tmp 12) 0) none,
      co (some 18) (.extract (.tmp 12) 1) none,
      cn (some 8) (.alloc 172) none [1],
      co none (.store 172 (.tmp 8) (.tmp 17)) none,
      co (some 9) (.assign (.tmp 18)) none] [0, 6, 8, 9])
  (.seq (.seq (.reg [co (some 19) (.move (.tmp 9)) none,
        co (some 20) (.binOp .neq 3 (.tmp 19) (.const (.int .i64 0)) 3) none,
        co (some 21) (.move (.tmp 20)) none,
        co (some 22) (.fieldAddr 172 (.tmp 8) 0) (some (21, false)),
        co (some 23) (.fieldAddr 170 (.tmp 22) 0) (some (21, false)),
        co (some 24) (.load 3 (.tmp 23)) (some (21, false)),
        co (some 25) (.binOp .eql 3 (.tmp 24) (.const (.int .i64 0)) 3) (some (21, false)),
        co (some 26) (.pick (.tmp 21) (.const (.bool true)) (.tmp 25)) none] [0, 6, 8, 9, 26])
    (.cond (.tmp 26)
      (.seq (.reg [co (some 27) (.build 128 #[]) none,
          co (some 28) (.move (.tmp 9)) none,
          co none (.store 128 (.tmp 6) (.tmp 27)) none,
          co (some 7) (.assign (.tmp 28)) none] [6, 7])
      (.ret))
      (.skip)))
  (.keep [0, 6, 8] (.seq (.seq (.reg [co (some 29) (.fieldAddr 172 (.tmp 8) 0) none,
        co (some 30) (.fieldAddr 170 (.tmp 29) 0) none,
        co (some 31) (.load 3 (.tmp 30)) none,
        co (some 32) (.binOp .eql 3 (.tmp 31) (.const (.int .i64 1)) 3) none] [0, 6, 8, 32])
    (.cond (.tmp 32)
      (.seq (.reg [co (some 33) (.fieldAddr 172 (.tmp 8) 1) none,
          co (some 34) (.load 3 (.tmp 33)) none,
          co (some 35) (.fieldAddr 172 (.tmp 8) 2) none,
          co (some 36) (.load 3 (.tmp 35)) none,
          co (some 37) (.fieldAddr 172 (.tmp 8) 0) none,
          co (some 38) (.fieldAddr 170 (.tmp 37) 2) none,
          co (some 39) (.load 3 (.tmp 38)) none,
          co (some 40) (.fieldAddr 172 (.tmp 8) 0) none,
          co (some 41) (.fieldAddr 170 (.tmp 40) 3) none,
          co (some 42) (.load 3 (.tmp 41)) none,
          co (some 43) (.build 128 #[(0, (.const (.int .i64 1))), (1, (.tmp 34)), (2, (.tmp 36)), (3, (.tmp 39)), (4, (.tmp 42))]) none,
          co none (.store 128 (.tmp 6) (.tmp 43)) none,
          co (some 7) (.assign (.const (.int .i64 0))) none] [6, 7])
      (.ret))
      (.skip)))
  (.keep [0, 6, 8] (.seq (.seq (.reg [co (some 44) (.fieldAddr 172 (.tmp 8) 0) none,
        co (some 45) (.fieldAddr 170 (.tmp 44) 4) none,
        co (some 46) (.load 3 (.tmp 45)) none,
        co (some 47) (.binOp .lss 3 (.tmp 46) (.const (.int .i64 7)) 3) none] [0, 6, 8, 47])
    (.cond (.tmp 47)
      (.seq (.reg [co (some 48) (.fieldAddr 172 (.tmp 8) 0) none,
          co (some 49) (.fieldAddr 170 (.tmp 48) 4) none,
          co (some 50) (.load 3 (.tmp 49)) none,
          co (some 51) (.binOp .add 3 (.const (.int .i64 2)) (.tmp 50) 3) none,
          co (some 52) (.fieldAddr 172 (.tmp 8) 1) none,
          co (some 53) (.load 3 (.tmp 52)) none,
          co (some 54) (.fieldAddr 172 (.tmp 8) 2) none,
          co (some 55) (.load 3 (.tmp 54)) none,
          co (some 56) (.fieldAddr 172 (.tmp 8) 0) none,
          co (some 57) (.fieldAddr 170 (.tmp 56) 5) none,
          co (some 58) (.load 3 (.tmp 57)) none,
          co (some 59) (.build 128 #[(0, (.tmp 51)), (1, (.tmp 53)), (2, (.tmp 55)), (5, (.tmp 58))]) none,
          co none (.store 128 (.tmp 6) (.tmp 59)) none,
          co (some 7) (.assign (.const (.int .i64 0))) none] [6, 7])
      (.ret))
      (.skip)))
  (.keep [0, 6, 8] (.seq (.reg [co (some 60) (.move (.tmp 0)) none,
      co (some 61) (.fieldAddr 172 (.tmp 8) 1) none,
      co (some 62) (.load 3 (.tmp 61)) none,
      co (some 63) (.indexAddr 22 (.tmp 60) (.tmp 62)) none,
      co (some 64) (.load 23 (.tmp 63)) none,
      co (some 65) (.fieldAddr 172 (.tmp 8) 2) none,
      co (some 66) (.load 3 (.tmp 65)) none,
      co (some 67) (.indexAddr 23 (.tmp 64) (.tmp 66)) none,
      co (some 68) (.load 26 (.tmp 67)) none,
      co (some 10) (.assign (.tmp 68)) none] [6, 8, 10])
  (.seq (.reg [co (some 69) (.move (.tmp 10)) none,
      co (some 70) (.call { callee := (.value (.func 116)), args := #[(.tmp 69)], argTypes := #[26] }) none,
      cn (some 11) (.alloc 170) none [2],
      co none (.store 170 (.tmp 11) (.tmp 70)) none] [6, 8, 10, 11])
  (.seq (.seq (.reg [co (some 71) (.move (.tmp 10)) none,
        co (some 72) (.binOp .neq 26 (.tmp 71) (.const (.int .u64 0)) 26) none,
        co (some 73) (.move (.tmp 72)) none,
        co (some 74) (.fieldAddr 170 (.tmp 11) 0) (some (73, true)),
        co (some 75) (.load 3 (.tmp 74)) (some (73, true)),
        co (some 76) (.binOp .neq 3 (.tmp 75) (.const (.int .i64 1)) 3) (some (73, true)),
        co (some 77) (.pick (.tmp 73) (.tmp 76) (.const (.bool false))) none,
        co (some 78) (.move (.tmp 77)) none,
        co (some 79) (.fieldAddr 170 (.tmp 11) 1) (some (78, false)),
        co (some 80) (.load 3 (.tmp 79)) (some (78, false)),
        co (some 81) (.binOp .lss 3 (.tmp 80) (.const (.int .i64 0)) 3) (some (78, false)),
        co (some 82) (.pick (.tmp 78) (.const (.bool true)) (.tmp 81)) none,
        co (some 83) (.move (.tmp 82)) none,
        co (some 84) (.fieldAddr 170 (.tmp 11) 1) (some (83, false)),
        co (some 85) (.load 3 (.tmp 84)) (some (83, false)),
        co (some 86) (.fieldAddr 170 (.tmp 11) 2) (some (83, false)),
        co (some 87) (.load 3 (.tmp 86)) (some (83, false)),
        co (some 88) (.fieldAddr 170 (.tmp 11) 3) (some (83, false)),
        co (some 89) (.load 3 (.tmp 88)) (some (83, false)),
        co (some 90) (.binOp .add 3 (.tmp 87) (.tmp 89) 3) (some (83, false)),
        co (some 91) (.binOp .mul 3 (.tmp 85) (.tmp 90) 3) (some (83, false)),
        co (some 92) (.fieldAddr 172 (.tmp 8) 0) (some (83, false)),
        co (some 93) (.fieldAddr 170 (.tmp 92) 5) (some (83, false)),
        co (some 94) (.load 3 (.tmp 93)) (some (83, false)),
        co (some 95) (.binOp .gtr 3 (.tmp 91) (.tmp 94) 3) (some (83, false)),
        co (some 96) (.pick (.tmp 83) (.const (.bool true)) (.tmp 95)) none] [6, 8, 11, 96])
    (.cond (.tmp 96)
      (.seq (.reg [co (some 97) (.build 128 #[]) none,
          co none (.store 128 (.tmp 6) (.tmp 97)) none,
          co (some 7) (.assign (.const (.int .i64 8))) none] [6, 7])
      (.ret))
      (.skip)))
  (.keep [6, 8, 11] (.seq (.reg [co (some 98) (.fieldAddr 172 (.tmp 8) 1) none,
      co (some 99) (.load 3 (.tmp 98)) none,
      co (some 100) (.fieldAddr 172 (.tmp 8) 2) none,
      co (some 101) (.load 3 (.tmp 100)) none,
      co (some 102) (.binOp .add 3 (.tmp 101) (.const (.int .i64 1)) 3) none,
      co (some 103) (.fieldAddr 170 (.tmp 11) 2) none,
      co (some 104) (.load 3 (.tmp 103)) none,
      co (some 105) (.fieldAddr 170 (.tmp 11) 3) none,
      co (some 106) (.load 3 (.tmp 105)) none,
      co (some 107) (.fieldAddr 170 (.tmp 11) 1) none,
      co (some 108) (.load 3 (.tmp 107)) none,
      co (some 109) (.build 128 #[(0, (.const (.int .i64 9))), (1, (.tmp 99)), (2, (.tmp 102)), (3, (.tmp 104)), (4, (.tmp 106)), (5, (.tmp 108))]) none,
      co none (.store 128 (.tmp 6) (.tmp 109)) none,
      co (some 7) (.assign (.const (.int .i64 0))) none] [6, 7])
  (.ret)))))))))))))
theorem t_centoref09_At : Txt Try.prog 73 110 [(.cell 6 128), (.tmp 7)] c_centoref09_At := txt_of (code := Try.f73.body.getD .ret) mixed (by kernel_rfl) Try.func73 (by kernel_rfl) Try.ntmps73 (by kernel_rfl) (ls := [([0, 1, 2, 6], [(0, [0])]), ([], []), ([0, 6, 8, 9], [(7, [1])]), ([], []), ([0, 6, 8, 9, 26], []), ([], []), ([6, 7], []), ([], []), ([999999, 0, 6, 8], []), ([0, 6, 8, 32], []), ([], []), ([6, 7], []), ([], []), ([999999, 0, 6, 8], []), ([0, 6, 8, 47], []), ([], []), ([6, 7], []), ([], []), ([999999, 0, 6, 8], []), ([6, 8, 10], []), ([], []), ([6, 8, 10, 11], [(2, [2])]), ([], []), ([6, 8, 11, 96], []), ([], []), ([6, 7], []), ([], []), ([999999, 6, 8, 11], []), ([6, 7], []), ([], [])]) (by kernel_rfl)
/-- (cento/centoref09.Ref).Kids -/
def c_centoref09_Ref_Kids : CC :=
  .seq (.reg [cn (some 1) (.box 128 (.tmp 0)) none [0],
      co (some 2) (.assign (.const (.int .i64 0))) none] [1])
  (.seq (.seq (.reg [co (some 3) (.fieldAddr 128 (.tmp 1) 0) none,
        co (some 4) (.load 3 (.tmp 3)) none,
        co (some 5) (.binOp .eql 3 (.tmp 4) (.const (.int .i64 1)) 3) none] [1, 5])
    (.cond (.tmp 5)
      (.seq (.reg [co (some 6) (.fieldAddr 128 (.tmp 1) 4) none,
          co (some 7) (.load 3 (.tmp 6)) none,
          co (some 2) (.assign (.tmp 7)) none] [2])
      (.ret))
      (.skip)))
  (.keep [1] (.seq (.reg [co (some 8) (.fieldAddr 128 (.tmp 1) 5) none,
      co (some 9) (.load 3 (.tmp 8)) none,
      co (some 2) (.assign (.tmp 9)) none] [2])
  (.ret))))
theorem t_centoref09_Ref_Kids : Txt Try.prog 118 10 [(.tmp 2)] c_centoref09_Ref_Kids := txt_of (code := Try.f118.body.getD .ret) mixed (by kernel_rfl) Try.func118 (by kernel_rfl) Try.ntmps118 (by kernel_rfl) (ls := [([1], [(0, [0])]), ([], []), ([1, 5], []), ([], []), ([2], []), ([], []), ([999999, 1], []), ([2], []), ([], [])]) (by kernel_rfl)
/-- (cento/centoref09.Ref).Words -/
def c_centoref09_Ref_Words : CC :=
  .seq (.reg [cn (some 2) (.box 128 (.tmp 0)) none [0],
      co (some 4) (.assign (.const (.slice none 0 0))) none] [1, 2])
  (.seq (.seq (.reg [co (some 6) (.fieldAddr 128 (.tmp 2) 0) none,
        co (some 7) (.load 3 (.tmp 6)) none,
        co (some 8) (.binOp .eql 3 (.tmp 7) (.const (.int .i64 10)) 3) none] [1, 2, 8])
    (.cond (.tmp 8)
      (.seq (.reg [co (some 9) (.fieldAddr 128 (.tmp 2) 6) none,
          co (some 10) (.load 26 (.tmp 9)) none,
          co (some 11) (.buildSlice 23 1 #[(0, (.tmp 10))]) none,
          co (some 4) (.assign (.tmp 11)) none] [4])
      (.ret))
      (.skip)))
  (.keep [1, 2] (.seq (.seq (.reg [co (some 12) (.fieldAddr 128 (.tmp 2) 0) none,
        co (some 13) (.load 3 (.tmp 12)) none,
        co (some 14) (.binOp .neq 3 (.tmp 13) (.const (.int .i64 1)) 3) none] [1, 2, 14])
    (.cond (.tmp 14)
      (.seq (.reg [co (some 4) (.assign (.const (.slice none 0 0))) none] [4])
      (.ret))
      (.skip)))
  (.keep [1, 2] (.seq (.reg [co (some 5) (.assign (.const (.slice none 0 0))) none] [1, 2, 5])
  (.seq (.reg [co (some 15) (.move (.tmp 5)) none,
      co (some 16) (.move (.tmp 1)) none,
      co (some 17) (.fieldAddr 128 (.tmp 2) 1) none,
      co (some 18) (.load 3 (.tmp 17)) none,
      co (some 19) (.indexAddr 22 (.tmp 16) (.tmp 18)) none,
      co (some 20) (.load 23 (.tmp 19)) none,
      co (some 21) (.fieldAddr 128 (.tmp 2) 2) none,
      co (some 22) (.load 3 (.tmp 21)) none,
      co (some 23) (.fieldAddr 128 (.tmp 2) 2) none,
      co (some 24) (.load 3 (.tmp 23)) none,
      co (some 25) (.fieldAddr 128 (.tmp 2) 3) none,
      co (some 26) (.load 3 (.tmp 25)) none,
      co (some 27) (.binOp .add 3 (.tmp 24) (.tmp 26) 3) none,
      co (some 28) (.slice 23 (.tmp 20) (some (.tmp 22)) (some (.tmp 27)) none) none,
      cn (some 29) (.call { callee := (.builtin .append), args := #[(.tmp 15), (.tmp 28)], argTypes := #[23, 23] }) none [1],
      co (some 4) (.assign (.tmp 29)) none] [4])
  (.ret)))))))
theorem t_centoref09_Ref_Words : Txt Try.prog 117 30 [(.tmp 4)] c_centoref09_Ref_Words := txt_of (code := Try.f117.body.getD .ret) mixed (by kernel_rfl) Try.func117 (by kernel_rfl) Try.ntmps117 (by kernel_rfl) (ls := [([1, 2], [(0, [0])]), ([], []), ([1, 2, 8], []), ([], []), ([4], []), ([], []), ([999999, 1, 2], []), ([1, 2, 14], []), ([], []), ([4], []), ([], []), ([999999, 1, 2], []), ([1, 2, 5], []), ([], []), ([4], [(14, [1])]), ([], [])]) (by kernel_rfl)
/-- (cento/centoref09.Ref).Kid -/
def c_centoref09_Ref_Kid : CC :=
  .seq (.reg [cn (some 3) (.box 128 (.tmp 0)) none [0],
      cn (some 6) (.alloc 128) none [1],
      co (some 7) (.assign (.const (.int .i64 0))) none] [1, 2, 3, 6])
  (.seq (.seq (.reg [co (some 8) (.move (.tmp 2)) none,
        co (some 9) (.binOp .lss 3 (.tmp 8) (.const (.int .i64 0)) 3) none,
        co (some 10) (.move (.tmp 9)) none,
        co (some 11) (.move (.tmp 2)) (some (10, false)),
        co (some 12) (.load 128 (.tmp 3)) (some (10, false)),
        co (some 13) (.call { callee := (.value (.func 118)), args := #[(.tmp 12)], argTypes := #[128] }) (some (10, false)),
        co (some 14) (.binOp .geq 3 (.tmp 11) (.tmp 13) 3) (some (10, false)),
        co (some 15) (.pick (.tmp 10) (.const (.bool true)) (.tmp 14)) none] [1, 2, 3, 6, 15])
    (.cond (.tmp 15)
      (.seq (.reg [co (some 16) (.build 128 #[]) none,
          co none (.store 128 (.tmp 6) (.tmp 16)) none,
          co (some 7) (.assign (.const (.int .i64 0))) none] [6, 7])
      (.ret))
      (.skip)))
  (.keep [1, 2, 3, 6] (.seq (.seq (.reg [co (some 17) (.fieldAddr 128 (.tmp 3) 0) none,
        co (some 18) (.load 3 (.tmp 17)) none,
        co (some 19) (.binOp .eql 3 (.tmp 18) (.const (.int .i64 1)) 3) none] [1, 2, 3, 6, 19])
    (.cond (.tmp 19)
      (.seq (.reg [co (some 20) (.move (.tmp 1)) none,
          co (some 21) (.fieldAddr 128 (.tmp 3) 1) none,
          co (some 22) (.load 3 (.tmp 21)) none,
          co (some 23) (.fieldAddr 128 (.tmp 3) 2) none,
          co (some 24) (.load 3 (.tmp 23)) none,
          co (some 25) (.fieldAddr 128 (.tmp 3) 3) none,
          co (some 26) (.load 3 (.tmp 25)) none,
          co (some 27) (.binOp .add 3 (.tmp 24) (.tmp 26) 3) none,
          co (some 28) (.move (.tmp 2)) none,
          co (some 29) (.binOp .add 3 (.tmp 27) (.tmp 28) 3) none,
          co (some 30) (.call { callee := (.value (.func 73)), args := #[(.tmp 20), (.tmp 22), (.tmp 29)], argTypes := #[22, 3, 3] }) none,
          co (some 31) (.extract (.tmp 30) 0) none,
          co (some 32) (.extract (.tmp 30) 1) none,
          co none (.store 128 (.tmp 6) (.tmp 31)) none,
          co (some 7) (.assign (.tmp 32)) none] [6, 7])
      (.ret))
      (.skip)))
  (.keep [1, 2, 3, 6] (.seq (.seq (.reg [co (some 33) (.fieldAddr 128 (.tmp 3) 0) none,
        co (some 34) (.load 3 (.tmp 33)) none,
        co (some 35) (.binOp .eql 3 (.tmp 34) (.const (.int .i64 8)) 3) none] [1, 2, 3, 6, 35])
    (.cond (.tmp 35)
      (.seq (.reg [co (some 36) (.move (.tmp 1)) none,
          co (some 37) (.fieldAddr 128 (.tmp 3) 1) none,
          co (some 38) (.load 3 (.tmp 37)) none,
          co (some 39) (.fieldAddr 128 (.tmp 3) 2) none,
          co (some 40) (.load 3 (.tmp 39)) none,
          co (some 41) (.move (.tmp 2)) none,
          co (some 42) (.binOp .add 3 (.tmp 40) (.tmp 41) 3) none,
          co (some 43) (.call { callee := (.value (.func 73)), args := #[(.tmp 36), (.tmp 38), (.tmp 42)], argTypes := #[22, 3, 3] }) none,
          co (some 44) (.extract (.tmp 43) 0) none,
          co (some 45) (.extract (.tmp 43) 1) none,
          co none (.store 128 (.tmp 6) (.tmp 44)) none,
          co (some 7) (.assign (.tmp 45)) none] [6, 7])
      (.ret))
      (.skip)))
  (.keep [1, 2, 3, 6] (.seq (.seq (.reg [co (some 46) (.fieldAddr 128 (.tmp 3) 0) none,
        co (some 47) (.load 3 (.tmp 46)) none,
        co (some 48) (.binOp .eql 3 (.tmp 47) (.const (.int .i64 9)) 3) none] [1, 2, 3, 6, 48])
    (.cond (.tmp 48)
      (.seq (.reg [co (some 49) (.fieldAddr 128 (.tmp 3) 1) none,
          co (some 50) (.load 3 (.tmp 49)) none,
          co (some 51) (.fieldAddr 128 (.tmp 3) 2) none,
          co (some 52) (.load 3 (.tmp 51)) none,
          co (some 53) (.move (.tmp 2)) none,
          co (some 54) (.fieldAddr 128 (.tmp 3) 3) none,
          co (some 55) (.load 3 (.tmp 54)) none,
          co (some 56) (.fieldAddr 128 (.tmp 3) 4) none,
          co (some 57) (.load 3 (.tmp 56)) none,
          co (some 58) (.binOp .add 3 (.tmp 55) (.tmp 57) 3) none,
          co (some 59) (.binOp .mul 3 (.tmp 53) (.tmp 58) 3) none,
          co (some 60) (.binOp .add 3 (.tmp 52) (.tmp 59) 3) none,
          co (some 61) (.fieldAddr 128 (.tmp 3) 3) none,
          co (some 62) (.load 3 (.tmp 61)) none,
          co (some 63) (.fieldAddr 128 (.tmp 3) 4) none,
          co (some 64) (.load 3 (.tmp 63)) none,
          co (some 65) (.build 128 #[(0, (.const (.int .i64 1))), (1, (.tmp 50)), (2, (.tmp 60)), (3, (.tmp 62)), (4, (.tmp 64))]) none,
          co none (.store 128 (.tmp 6) (.tmp 65)) none,
          co (some 7) (.assign (.const (.int .i64 0))) none] [6, 7])
      (.ret))
      (.skip)))
  (.keep [1, 2, 3, 6] (.seq (.reg [co (some 66) (.move (.tmp 1)) none,
      co (some 67) (.fieldAddr 128 (.tmp 3) 1) none,
      co (some 68) (.load 3 (.tmp 67)) none,
      co (some 69) (.indexAddr 22 (.tmp 66) (.tmp 68)) none,
      co (some 70) (.load 23 (.tmp 69)) none,
      co (some 71) (.fieldAddr 128 (.tmp 3) 2) none,
      co (some 72) (.load 3 (.tmp 71)) none,
      co (some 73) (.slice 23 (.tmp 70) (some (.tmp 72)) none none) none,
      co (some 74) (.fieldAddr 128 (.tmp 3) 0) none,
      co (some 75) (.load 3 (.tmp 74)) none,
      co (some 76) (.binOp .sub 3 (.tmp 75) (.const (.int .i64 2)) 3) none,
      co (some 77) (.move (.tmp 2)) none,
      co (some 78) (.call { callee := (.value (.func 166)), args := #[(.tmp 73), (.tmp 76), (.tmp 77)], argTypes := #[23, 3, 3] }) none,
      co (some 79) (.build 128 #[(0, (.const (.int .i64 10))), (6, (.tmp 78))]) none,
      co none (.store 128 (.tmp 6) (.tmp 79)) none,
      co (some 7) (.assign (.const (.int .i64 0))) none] [6, 7])
  (.ret))))))))))
theorem t_centoref09_Ref_Kid : Txt Try.prog 119 80 [(.cell 6 128), (.tmp 7)] c_centoref09_Ref_Kid := txt_of (code := Try.f119.body.getD .ret) mixed (by kernel_rfl) Try.func119 (by kernel_rfl) Try.ntmps119 (by kernel_rfl) (ls := [([1, 2, 3, 6], [(0, [0]), (1, [1])]), ([], []), ([1, 2, 3, 6, 15], []), ([], []), ([6, 7], []), ([], []), ([999999, 1, 2, 3, 6], []), ([1, 2, 3, 6, 19], []), ([], []), ([6, 7], []), ([], []), ([999999, 1, 2, 3, 6], []), ([1, 2, 3, 6, 35], []), ([], []), ([6, 7], []), ([], []), ([999999, 1, 2, 3, 6], []), ([1, 2, 3, 6, 48], []), ([], []), ([6, 7], []), ([], []), ([999999, 1, 2, 3, 6], []), ([6, 7], []), ([], [])]) (by kernel_rfl)
/-- cento/centoref10.within -/
def c_centoref10_within : CC :=
  .seq (.reg [co (some 4) (.assign (.const (.int .i64 0))) none] [0, 1])
  (.seq (.seq (.reg [co (some 5) (.move (.tmp 0)) none,
        co (some 6) (.binOp .lss 3 (.tmp 5) (.const (.int .i64 0)) 3) none] [0, 1, 6])
    (.cond (.tmp 6)
      (.seq (.reg [co (some 4) (.assign (.const (.int .i64 0))) none] [4])
      (.ret))
      (.skip)))
  (.keep [0, 1] (.seq (.seq (.reg [co (some 7) (.move (.tmp 0)) none,
        co (some 8) (.move (.tmp 1)) none,
        co (some 9) (.binOp .gtr 3 (.tmp 7) (.tmp 8) 3) none] [0, 1, 9])
    (.cond (.tmp 9)
      (.seq (.reg [co (some 10) (.move (.tmp 1)) none,
          co (some 4) (.assign (.tmp 10)) none] [4])
      (.ret))
      (.skip)))
  (.keep [0] (.seq (.reg [co (some 11) (.move (.tmp 0)) none,
      co (some 4) (.assign (.tmp 11)) none] [4])
  (.ret))))))
theorem t_centoref10_within : Txt Try.prog 114 12 [(.tmp 4)] c_centoref10_within := txt_of (code := Try.f114.body.getD .ret) mixed (by kernel_rfl) Try.func114 (by kernel_rfl) Try.ntmps114 (by kernel_rfl) (ls := [([0, 1], []), ([], []), ([0, 1, 6], []), ([], []), ([4], []), ([], []), ([999999, 0, 1], []), ([0, 1, 9], []), ([], []), ([4], []), ([], []), ([999999, 0], []), ([4], []), ([], [])]) (by kernel_rfl)
/-- cento/centoref10.Limits -/
def c_centoref10_Limits : CC :=
  .seq (.reg [cn (some 1) (.box 60 (.tmp 0)) none [0],
      cn (some 2) (.alloc 60) none [1]] [1, 2])
  (.seq (.reg [co (some 3) (.fieldAddr 60 (.tmp 1) 0) none,
      co (some 4) (.load 3 (.tmp 3)) none,
      ⟨some 5, (.call { callee := (.value (.func 114)), args := #[(.tmp 4), (.const (.int .i64 64))], argTypes := #[3, 3] }), none, [], 2, [], true⟩,
      co (some 6) (.fieldAddr 60 (.tmp 1) 1) none,
      ⟨some 7, (.load 3 (.tmp 6)), none, [], 4, [2], false⟩,
      ⟨some 8, (.call { callee := (.value (.func 114)), args := #[(.tmp 7), (.const (.int .i64 65536))], argTypes := #[3, 3] }), none, [], 5, [], true⟩,
      co (some 9) (.fieldAddr 60 (.tmp 1) 2) none,
      ⟨some 10, (.load 3 (.tmp 9)), none, [], 7, [2, 5], false⟩,
      ⟨some 11, (.call { callee := (.value (.func 114)), args := #[(.tmp 10), (.const (.int .i64 4096))], argTypes := #[3, 3] }), none, [], 8, [], true⟩,
      co (some 12) (.fieldAddr 60 (.tmp 1) 3) none,
      ⟨some 13, (.load 3 (.tmp 12)), none, [], 10, [2, 5, 8], false⟩,
      co (some 14) (.call { callee := (.value (.func 114)), args := #[(.tmp 13), (.const (.int .i64 131072))], argTypes := #[3, 3] }) none,
      co (some 15) (.build 60 #[(0, (.tmp 5)), (1, (.tmp 8)), (2, (.tmp 11)), (3, (.tmp 14))]) none,
      co none (.store 60 (.tmp 2) (.tmp 15)) none] [2])
  (.ret))
theorem t_centoref10_Limits : Txt Try.prog 72 16 [(.cell 2 60)] c_centoref10_Limits := txt_of (code := Try.f72.body.getD .ret) mixed (by kernel_rfl) Try.func72 (by kernel_rfl) Try.ntmps72 (by kernel_rfl) (ls := [([1, 2], [(0, [0]), (1, [1])]), ([], []), ([2], []), ([], [])]) (by kernel_rfl)
def l1_centoref10_kids : CC :=
  .seq (.seq (.reg [co (some 22) (.move (.tmp 12)) none,
        co (some 23) (.fieldAddr 128 (.tmp 5) 4) none,
        co (some 24) (.load 3 (.tmp 23)) none,
        co (some 25) (.binOp .lss 3 (.tmp 22) (.tmp 24) 3) none] [0, 2, 3, 5, 8, 11, 12, 25])
    (.cond (.tmp 25)
      (.skip)
      (.exit 0)))
  (.keep [0, 2, 3, 5, 8, 11, 12] (.seq (.block 1
      (.seq (.reg [co (some 29) (.load 128 (.tmp 5)) none,
          co (some 30) (.move (.tmp 0)) none,
          co (some 31) (.move (.tmp 12)) none,
          co (some 32) (.call { callee := (.value (.func 119)), args := #[(.tmp 29), (.tmp 30), (.tmp 31)], argTypes := #[128, 22, 3] }) none,
          co (some 28) (.move (.tmp 32)) none,
          co (some 33) (.extract (.tmp 28) 0) none,
          co (some 34) (.extract (.tmp 28) 1) none,
          cn (some 13) (.alloc 128) none [3],
          co none (.store 128 (.tmp 13) (.tmp 33)) none,
          co (some 14) (.assign (.tmp 34)) none] [0, 2, 3, 5, 8, 11, 12, 13, 14])
      (.seq (.seq (.reg [co (some 35) (.move (.tmp 14)) none,
            co (some 36) (.binOp .neq 3 (.tmp 35) (.const (.int .i64 0)) 3) none] [0, 2, 3, 5, 8, 11, 12, 13, 14, 36])
        (.cond (.tmp 36)
          (.seq (.reg [co (some 37) (.load 53 (.tmp 11)) none,
              co (some 38) (.move (.tmp 3)) none,
              co (some 39) (.move (.tmp 14)) none,
              co none (.store 53 (.tmp 8) (.tmp 37)) none,
              co (some 9) (.assign (.tmp 38)) none,
              co (some 10) (.assign (.tmp 39)) none] [8, 9, 10])
          (.ret))
          (.skip)))
      (.keep [0, 2, 3, 5, 8, 11, 12, 13] (.seq (.reg [co (some 41) (.move (.tmp 0)) none,
          co (some 42) (.load 128 (.tmp 13)) none,
          co (some 43) (.move (.tmp 2)) none,
          co (some 44) (.move (.tmp 3)) none,
          co (some 45) (.call { callee := (.value (.func 74)), args := #[(.tmp 41), (.tmp 42), (.tmp 43), (.tmp 44)], argTypes := #[22, 128, 3, 3] }) none,
          co (some 40) (.move (.tmp 45)) none,
          co (some 46) (.extract (.tmp 40) 0) none,
          co (some 47) (.extract (.tmp 40) 1) none,
          co (some 48) (.extract (.tmp 40) 2) none,
          cn (some 15) (.alloc 53) none [4],
          co none (.store 53 (.tmp 15) (.tmp 46)) none,
          co (some 16) (.assign (.tmp 47)) none,
          co (some 17) (.assign (.tmp 48)) none] [0, 2, 5, 8, 11, 12, 15, 16, 17])
      (.seq (.seq (.reg [co (some 49) (.move (.tmp 17)) none,
            co (some 50) (.binOp .neq 3 (.tmp 49) (.const (.int .i64 0)) 3) none] [0, 2, 5, 8, 11, 12, 15, 16, 17, 50])
        (.cond (.tmp 50)
          (.seq (.reg [co (some 51) (.load 53 (.tmp 11)) none,
              co (some 52) (.move (.tmp 16)) none,
              co (some 53) (.move (.tmp 17)) none,
              co none (.store 53 (.tmp 8) (.tmp 51)) none,
              co (some 9) (.assign (.tmp 52)) none,
              co (some 10) (.assign (.tmp 53)) none] [8, 9, 10])
          (.ret))
          (.skip)))
      (.keep [0, 2, 5, 8, 11, 12, 15, 16] (.seq (.reg [co (some 54) (.move (.tmp 16)) none,
          co (some 3) (.assign (.tmp 54)) none] [0, 2, 3, 5, 8, 11, 12, 15])
      (.reg [co (some 55) (.fieldAddr 53 (.tmp 11) 2) none,
        co (some 56) (.load 51 (.tmp 55)) none,
        co (some 57) (.load 53 (.tmp 15)) none,
        co (some 58) (.buildSlice 51 1 #[(0, (.tmp 57))]) none,
        cn (some 59) (.call { callee := (.builtin .append), args := #[(.tmp 56), (.tmp 58)], argTypes := #[51, 51] }) none [5],
        co (some 60) (.fieldAddr 53 (.tmp 11) 2) none,
        co none (.store 51 (.tmp 60) (.tmp 59)) none] [0, 2, 3, 5, 8, 11, 12])))))))))
  (.keep [0, 2, 3, 5, 8, 11, 12] (.reg [co (some 26) (.move (.tmp 12)) none,
    co (some 27) (.binOp .add 3 (.tmp 26) (.const (.int .i64 1)) 3) none,
    co (some 12) (.assign (.tmp 27)) none] [0, 2, 3, 5, 8, 11, 12]))))
/-- cento/centoref10.kids -/
def c_centoref10_kids : CC :=
  .seq (.reg [cn (some 5) (.box 128 (.tmp 1)) none [0],
      cn (some 8) (.alloc 53) none [1],
      co (some 9) (.assign (.const (.int .i64 0))) none,
      co (some 10) (.assign (.const (.int .i64 0))) none] [0, 2, 3, 5, 8])
  (.seq (.reg [co (some 18) (.load 128 (.tmp 5)) none,
      co (some 19) (.move (.tmp 0)) none,
      co (some 20) (.call { callee := (.value (.func 117)), args := #[(.tmp 18), (.tmp 19)], argTypes := #[128, 22] }) none,
      co (some 21) (.build 53 #[(0, (.const (.int .i64 1))), (1, (.tmp 20))]) none,
      cn (some 11) (.alloc 53) none [2],
      co none (.store 53 (.tmp 11) (.tmp 21)) none] [0, 2, 3, 5, 8, 11])
  (.seq (.seq (.reg [co (some 12) (.assign (.const (.int .i64 0))) none] [0, 2, 3, 5, 8, 11, 12])
    (.block 0
      (.loop l1_centoref10_kids)))
  (.keep [3, 8, 11] (.seq (.reg [co (some 61) (.load 53 (.tmp 11)) none,
      co (some 62) (.move (.tmp 3)) none,
      co none (.store 53 (.tmp 8) (.tmp 61)) none,
      co (some 9) (.assign (.tmp 62)) none,
      co (some 10) (.assign (.const (.int .i64 0))) none] [8, 9, 10])
  (.ret)))))
theorem t_centoref10_kids : Txt Try.prog 120 63 [(.cell 8 53), (.tmp 9), (.tmp 10)] c_centoref10_kids := txt_of (code := Try.f120.body.getD .ret) mixed (by kernel_rfl) Try.func120 (by kernel_rfl) Try.ntmps120 (by kernel_rfl) (ls := [([0, 2, 3, 5, 8], [(0, [0]), (1, [1])]), ([], []), ([0, 2, 3, 5, 8, 11], [(4, [2])]), ([], []), ([0, 2, 3, 5, 8, 11, 12], []), ([], []), ([0, 2, 3, 5, 8, 11, 12, 25], []), ([], []), ([999999, 0, 2, 3, 5, 8, 11, 12], []), ([0, 2, 3, 5, 8, 11, 12, 13, 14], [(7, [3])]), ([], []), ([0, 2, 3, 5, 8, 11, 12, 13, 14, 36], []), ([], []), ([8, 9, 10], []), ([], []), ([999999, 0, 2, 3, 5, 8, 11, 12, 13], []), ([0, 2, 5, 8, 11, 12, 15, 16, 17], [(9, [4])]), ([], []), ([0, 2, 5, 8, 11, 12, 15, 16, 17, 50], []), ([], []), ([8, 9, 10], []), ([], []), ([999999, 0, 2, 5, 8, 11, 12, 15, 16], []), ([0, 2, 3, 5, 8, 11, 12, 15], []), ([], []), ([0, 2, 3, 5, 8, 11, 12], [(4, [5])]), ([999999, 0, 2, 3, 5, 8, 11, 12], []), ([0, 2, 3, 5, 8, 11, 12], []), ([999999, 3, 8, 11], []), ([8, 9, 10], []), ([], [])]) (by kernel_rfl)
def k1_centoref10_Meaning : CC :=
  .seq (.seq (.reg [co (some 136) (.move (.tmp 15)) none,
        co (some 137) (.binOp .neq 3 (.tmp 136) (.const (.int .i64 0)) 3) none] [0, 2, 3, 5, 8, 11, 13, 15, 16, 137])
    (.cond (.tmp 137)
      (.seq (.reg [co (some 138) (.load 53 (.tmp 11)) none,
          co (some 139) (.move (.tmp 3)) none,
          co (some 140) (.move (.tmp 15)) none,
          co none (.store 53 (.tmp 8) (.tmp 138)) none,
          co (some 9) (.assign (.tmp 139)) none,
          co (some 10) (.assign (.tmp 140)) none] [8, 9, 10])
      (.ret))
      (.skip)))
  (.keep [0, 2, 3, 5, 8, 11, 13, 16] (.reg [co (some 141) (.fieldAddr 53 (.tmp 11) 2) none,
    co (some 142) (.load 51 (.tmp 141)) none,
    co (some 143) (.load 53 (.tmp 16)) none,
    co (some 144) (.buildSlice 51 1 #[(0, (.tmp 143))]) none,
    cn (some 145) (.call { callee := (.builtin .append), args := #[(.tmp 142), (.tmp 144)], argTypes := #[51, 51] }) none [5],
    co (some 146) (.fieldAddr 53 (.tmp 11) 2) none,
    co none (.store 51 (.tmp 146) (.tmp 145)) none] [0, 2, 3, 5, 8, 11, 13]))
def l1_centoref10_Meaning : CC :=
  .seq (.seq (.reg [co (some 79) (.move (.tmp 13)) none,
        co (some 80) (.load 128 (.tmp 5)) none,
        co (some 81) (.call { callee := (.value (.func 118)), args := #[(.tmp 80)], argTypes := #[128] }) none,
        co (some 82) (.binOp .lss 3 (.tmp 79) (.tmp 81) 3) none] [0, 2, 3, 5, 8, 11, 13, 82])
    (.cond (.tmp 82)
      (.skip)
      (.exit 0)))
  (.keep [0, 2, 3, 5, 8, 11, 13] (.seq (.block 1
      (.seq (.reg [co (some 86) (.load 128 (.tmp 5)) none,
          co (some 87) (.move (.tmp 0)) none,
          co (some 88) (.move (.tmp 13)) none,
          co (some 89) (.call { callee := (.value (.func 119)), args := #[(.tmp 86), (.tmp 87), (.tmp 88)], argTypes := #[128, 22, 3] }) none,
          co (some 85) (.move (.tmp 89)) none,
          co (some 90) (.extract (.tmp 85) 0) none,
          co (some 91) (.extract (.tmp 85) 1) none,
          cn (some 14) (.alloc 128) none [3],
          co none (.store 128 (.tmp 14) (.tmp 90)) none,
          co (some 15) (.assign (.tmp 91)) none] [0, 2, 3, 5, 8, 11, 13, 14, 15])
      (.seq (.seq (.reg [co (some 92) (.move (.tmp 15)) none,
            co (some 93) (.binOp .neq 3 (.tmp 92) (.const (.int .i64 0)) 3) none] [0, 2, 3, 5, 8, 11, 13, 14, 15, 93])
        (.cond (.tmp 93)
          (.seq (.reg [co (some 94) (.load 53 (.tmp 11)) none,
              co (some 95) (.move (.tmp 3)) none,
              co (some 96) (.move (.tmp 15)) none,
              co none (.store 53 (.tmp 8) (.tmp 94)) none,
              co (some 9) (.assign (.tmp 95)) none,
              co (some 10) (.assign (.tmp 96)) none] [8, 9, 10])
          (.ret))
          (.skip)))
      (.keep [0, 2, 3, 5, 8, 11, 13, 14, 15] (.seq (.reg [co (some 97) (.fieldAddr 128 (.tmp 14) 0) none,
          ⟨some 98, (.load 3 (.tmp 97)), none, [], 1, [], true⟩,
          ⟨some 99, (.load 128 (.tmp 14)), none, [], 2, [], true⟩,
          co (some 100) (.move (.tmp 0)) none,
          ⟨some 101, (.call { callee := (.value (.func 117)), args := #[(.tmp 99), (.tmp 100)], argTypes := #[128, 22] }), none, [], 4, [1], true⟩,
          co (some 102) (.build 53 #[(0, (.tmp 98)), (1, (.tmp 101))]) none,
          ⟨some 16, (.alloc 53), none, [4], 6, [1, 2, 4], false⟩,
          co none (.store 53 (.tmp 16) (.tmp 102)) none] [0, 2, 3, 5, 8, 11, 13, 14, 15, 16])
      (.seq (.block 2
          (.seq (.reg [co (some 104) (.fieldAddr 128 (.tmp 5) 0) none,
              co (some 105) (.load 3 (.tmp 104)) none,
              co (some 106) (.binOp .eql 3 (.tmp 105) (.const (.int .i64 9)) 3) none,
              co (some 103) (.assign (.tmp 106)) none] [0, 2, 3, 5, 8, 11, 13, 14, 15, 16, 103])
          (.cond (.tmp 103)
            (.reg [co (some 108) (.move (.tmp 0)) none,
              co (some 109) (.load 128 (.tmp 14)) none,
              co (some 110) (.move (.tmp 2)) none,
              co (some 111) (.binOp .sub 3 (.tmp 110) (.const (.int .i64 2)) 3) none,
              co (some 112) (.move (.tmp 3)) none,
              co (some 113) (.call { callee := (.value (.func 120)), args := #[(.tmp 108), (.tmp 109), (.tmp 111), (.tmp 112)], argTypes := #[22, 128, 3, 3] }) none,
              co (some 107) (.move (.tmp 113)) none,
              co (some 114) (.extract (.tmp 107) 0) none,
              co (some 115) (.extract (.tmp 107) 1) none,
              co (some 116) (.extract (.tmp 107) 2) none,
              co none (.store 53 (.tmp 16) (.tmp 114)) none,
              co (some 3) (.assign (.tmp 115)) none,
              co (some 15) (.assign (.tmp 116)) none] [0, 2, 3, 5, 8, 11, 13, 15, 16])
            (.seq (.reg [co (some 118) (.fieldAddr 128 (.tmp 5) 0) none,
                co (some 119) (.load 3 (.tmp 118)) none,
                co (some 120) (.binOp .eql 3 (.tmp 119) (.const (.int .i64 1)) 3) none,
                co (some 121) (.move (.tmp 120)) none,
                co (some 122) (.fieldAddr 128 (.tmp 5) 0) (some (121, false)),
                co (some 123) (.load 3 (.tmp 122)) (some (121, false)),
                co (some 124) (.binOp .eql 3 (.tmp 123) (.const (.int .i64 8)) 3) (some (121, false)),
                co (some 125) (.pick (.tmp 121) (.const (.bool true)) (.tmp 124)) none,
                co (some 117) (.assign (.tmp 125)) none] [0, 2, 3, 5, 8, 11, 13, 14, 15, 16, 117])
            (.cond (.tmp 117)
              (.reg [co (some 127) (.move (.tmp 0)) none,
                co (some 128) (.load 128 (.tmp 14)) none,
                co (some 129) (.move (.tmp 2)) none,
                co (some 130) (.binOp .sub 3 (.tmp 129) (.const (.int .i64 1)) 3) none,
                co (some 131) (.move (.tmp 3)) none,
                co (some 132) (.call { callee := (.value (.func 74)), args := #[(.tmp 127), (.tmp 128), (.tmp 130), (.tmp 131)], argTypes := #[22, 128, 3, 3] }) none,
                co (some 126) (.move (.tmp 132)) none,
                co (some 133) (.extract (.tmp 126) 0) none,
                co (some 134) (.extract (.tmp 126) 1) none,
                co (some 135) (.extract (.tmp 126) 2) none,
                co none (.store 53 (.tmp 16) (.tmp 133)) none,
                co (some 3) (.assign (.tmp 134)) none,
                co (some 15) (.assign (.tmp 135)) none] [0, 2, 3, 5, 8, 11, 13, 15, 16])
              (.skip))))))
      (.keep [0, 2, 3, 5, 8, 11, 13, 15, 16] k1_centoref10_Meaning)))))))
  (.keep [0, 2, 3, 5, 8, 11, 13] (.reg [co (some 83) (.move (.tmp 13)) none,
    co (some 84) (.binOp .add 3 (.tmp 83) (.const (.int .i64 1)) 3) none,
    co (some 13) (.assign (.tmp 84)) none] [0, 2, 3, 5, 8, 11, 13]))))
def k2_centoref10_Meaning : CC :=
  .seq (.seq (.reg [co (some 71) (.move (.tmp 12)) none,
        co (some 72) (.move (.tmp 3)) none,
        co (some 73) (.binOp .gtr 3 (.tmp 71) (.tmp 72) 3) none] [0, 2, 3, 5, 8, 11, 12, 73])
    (.cond (.tmp 73)
      (.seq (.reg [co (some 74) (.load 53 (.tmp 11)) none,
          co (some 75) (.move (.tmp 3)) none,
          co none (.store 53 (.tmp 8) (.tmp 74)) none,
          co (some 9) (.assign (.tmp 75)) none,
          co (some 10) (.assign (.const (.int .i64 3))) none] [8, 9, 10])
      (.ret))
      (.skip)))
  (.keep [0, 2, 3, 5, 8, 11, 12] (.seq (.reg [co (some 76) (.move (.tmp 3)) none,
      co (some 77) (.move (.tmp 12)) none,
      co (some 78) (.binOp .sub 3 (.tmp 76) (.tmp 77) 3) none,
      co (some 3) (.assign (.tmp 78)) none] [0, 2, 3, 5, 8, 11])
  (.seq (.seq (.reg [co (some 13) (.assign (.const (.int .i64 0))) none] [0, 2, 3, 5, 8, 11, 13])
    (.block 0
      (.loop l1_centoref10_Meaning)))
  (.keep [3, 8, 11] (.seq (.reg [co (some 147) (.load 53 (.tmp 11)) none,
      co (some 148) (.move (.tmp 3)) none,
      co none (.store 53 (.tmp 8) (.tmp 147)) none,
      co (some 9) (.assign (.tmp 148)) none,
      co (some 10) (.assign (.const (.int .i64 0))) none] [8, 9, 10])
  (.ret))))))
def k3_centoref10_Meaning : CC :=
  .seq (.seq (.reg [co (some 58) (.fieldAddr 128 (.tmp 5) 0) none,
        co (some 59) (.load 3 (.tmp 58)) none,
        co (some 60) (.binOp .eql 3 (.tmp 59) (.const (.int .i64 9)) 3) none] [0, 2, 3, 5, 8, 11, 12, 60])
    (.cond (.tmp 60)
      (.reg [co (some 61) (.fieldAddr 128 (.tmp 5) 5) none,
        co (some 62) (.load 3 (.tmp 61)) none,
        co (some 63) (.fieldAddr 128 (.tmp 5) 3) none,
        co (some 64) (.load 3 (.tmp 63)) none,
        co (some 65) (.binOp .add 3 (.const (.int .i64 1)) (.tmp 64) 3) none,
        co (some 66) (.fieldAddr 128 (.tmp 5) 4) none,
        co (some 67) (.load 3 (.tmp 66)) none,
        co (some 68) (.binOp .add 3 (.tmp 65) (.tmp 67) 3) none,
        co (some 69) (.binOp .mul 3 (.tmp 62) (.tmp 68) 3) none,
        co (some 70) (.binOp .add 3 (.const (.int .i64 1)) (.tmp 69) 3) none,
        co (some 12) (.assign (.tmp 70)) none] [0, 2, 3, 5, 8, 11, 12])
      (.skip)))
  (.keep [0, 2, 3, 5, 8, 11, 12] k2_centoref10_Meaning)
/-- cento/centoref10.Meaning -/
def c_centoref10_Meaning : CC :=
  .seq (.reg [cn (some 5) (.box 128 (.tmp 1)) none [0],
      cn (some 8) (.alloc 53) none [1],
      co (some 9) (.assign (.const (.int .i64 0))) none,
      co (some 10) (.assign (.const (.int .i64 0))) none] [0, 2, 3, 5, 8])
  (.seq (.reg [co (some 17) (.fieldAddr 128 (.tmp 5) 0) none,
      ⟨some 18, (.load 3 (.tmp 17)), none, [], 1, [], true⟩,
      ⟨some 19, (.load 128 (.tmp 5)), none, [], 2, [], true⟩,
      co (some 20) (.move (.tmp 0)) none,
      ⟨some 21, (.call { callee := (.value (.func 117)), args := #[(.tmp 19), (.tmp 20)], argTypes := #[128, 22] }), none, [], 4, [1], true⟩,
      co (some 22) (.build 53 #[(0, (.tmp 18)), (1, (.tmp 21))]) none,
      ⟨some 11, (.alloc 53), none, [2], 6, [1, 2, 4], false⟩,
      co none (.store 53 (.tmp 11) (.tmp 22)) none] [0, 2, 3, 5, 8, 11])
  (.seq (.seq (.reg [co (some 23) (.fieldAddr 128 (.tmp 5) 0) none,
        co (some 24) (.load 3 (.tmp 23)) none,
        co (some 25) (.binOp .eql 3 (.tmp 24) (.const (.int .i64 0)) 3) none] [0, 2, 3, 5, 8, 11, 25])
    (.cond (.tmp 25)
      (.seq (.reg [co (some 26) (.load 53 (.tmp 11)) none,
          co (some 27) (.move (.tmp 3)) none,
          co none (.store 53 (.tmp 8) (.tmp 26)) none,
          co (some 9) (.assign (.tmp 27)) none,
          co (some 10) (.assign (.const (.int .i64 0))) none] [8, 9, 10])
      (.ret))
      (.skip)))
  (.keep [0, 2, 3, 5, 8, 11] (.seq (.seq (.reg [co (some 28) (.move (.tmp 2)) none,
        co (some 29) (.binOp .lss 3 (.tmp 28) (.const (.int .i64 1)) 3) none,
        co (some 30) (.move (.tmp 29)) none,
        co (some 31) (.fieldAddr 128 (.tmp 5) 0) (some (30, false)),
        co (some 32) (.load 3 (.tmp 31)) (some (30, false)),
        co (some 33) (.binOp .eql 3 (.tmp 32) (.const (.int .i64 9)) 3) (some (30, false)),
        co (some 34) (.move (.tmp 33)) (some (30, false)),
        co (some 35) (.fieldAddr 128 (.tmp 5) 5) (some (34, true)),
        co (some 36) (.load 3 (.tmp 35)) (some (34, true)),
        co (some 37) (.binOp .gtr 3 (.tmp 36) (.const (.int .i64 0)) 3) (some (34, true)),
        co (some 38) (.pick (.tmp 34) (.tmp 37) (.const (.bool false))) (some (30, false)),
        co (some 39) (.move (.tmp 38)) (some (30, false)),
        co (some 40) (.move (.tmp 2)) (some (39, true)),
        co (some 41) (.binOp .lss 3 (.tmp 40) (.const (.int .i64 2)) 3) (some (39, true)),
        co (some 42) (.pick (.tmp 39) (.tmp 41) (.const (.bool false))) (some (30, false)),
        co (some 43) (.pick (.tmp 30) (.const (.bool true)) (.tmp 42)) none] [0, 2, 3, 5, 8, 11, 43])
    (.cond (.tmp 43)
      (.seq (.reg [co (some 44) (.load 53 (.tmp 11)) none,
          co (some 45) (.move (.tmp 3)) none,
          co none (.store 53 (.tmp 8) (.tmp 44)) none,
          co (some 9) (.assign (.tmp 45)) none,
          co (some 10) (.assign (.const (.int .i64 3))) none] [8, 9, 10])
      (.ret))
      (.skip)))
  (.keep [0, 2, 3, 5, 8, 11] (.seq (.reg [co (some 46) (.load 128 (.tmp 5)) none,
      co (some 47) (.call { callee := (.value (.func 118)), args := #[(.tmp 46)], argTypes := #[128] }) none,
      co (some 48) (.binOp .add 3 (.const (.int .i64 1)) (.tmp 47) 3) none,
      co (some 12) (.assign (.tmp 48)) none] [0, 2, 3, 5, 8, 11, 12])
  (.seq (.seq (.reg [co (some 49) (.fieldAddr 128 (.tmp 5) 0) none,
        co (some 50) (.load 3 (.tmp 49)) none,
        co (some 51) (.binOp .eql 3 (.tmp 50) (.const (.int .i64 1)) 3) none] [0, 2, 3, 5, 8, 11, 12, 51])
    (.cond (.tmp 51)
      (.reg [co (some 52) (.fieldAddr 128 (.tmp 5) 3) none,
        co (some 53) (.load 3 (.tmp 52)) none,
        co (some 54) (.binOp .add 3 (.const (.int .i64 1)) (.tmp 53) 3) none,
        co (some 55) (.fieldAddr 128 (.tmp 5) 4) none,
        co (some 56) (.load 3 (.tmp 55)) none,
        co (some 57) (.binOp .add 3 (.tmp 54) (.tmp 56) 3) none,
        co (some 12) (.assign (.tmp 57)) none] [0, 2, 3, 5, 8, 11, 12])
      (.skip)))
  (.keep [0, 2, 3, 5, 8, 11, 12] k3_centoref10_Meaning))))))))
theorem t_centoref10_Meaning : Txt Try.prog 74 149 [(.cell 8 53), (.tmp 9), (.tmp 10)] c_centoref10_Meaning := txt_of (code := Try.f74.body.getD .ret) mixed (by kernel_rfl) Try.func74 (by kernel_rfl) Try.ntmps74 (by kernel_rfl) (ls := [([0, 2, 3, 5, 8], [(0, [0]), (1, [1])]), ([], []), ([0, 2, 3, 5, 8, 11], [(6, [2])]), ([], []), ([0, 2, 3, 5, 8, 11, 25], []), ([], []), ([8, 9, 10], []), ([], []), ([999999, 0, 2, 3, 5, 8, 11], []), ([0, 2, 3, 5, 8, 11, 43], []), ([], []), ([8, 9, 10], []), ([], []), ([999999, 0, 2, 3, 5, 8, 11], []), ([0, 2, 3, 5, 8, 11, 12], []), ([], []), ([0, 2, 3, 5, 8, 11, 12, 51], []), ([], []), ([0, 2, 3, 5, 8, 11, 12], []), ([999999, 0, 2, 3, 5, 8, 11, 12], []), ([0, 2, 3, 5, 8, 11, 12, 60], []), ([], []), ([0, 2, 3, 5, 8, 11, 12], []), ([999999, 0, 2, 3, 5, 8, 11, 12], []), ([0, 2, 3, 5, 8, 11, 12, 73], []), ([], []), ([8, 9, 10], []), ([], []), ([999999, 0, 2, 3, 5, 8, 11, 12], []), ([0, 2, 3, 5, 8, 11], []), ([], []), ([0, 2, 3, 5, 8, 11, 13], []), ([], []), ([0, 2, 3, 5, 8, 11, 13, 82], []), ([], []), ([999999, 0, 2, 3, 5, 8, 11, 13], []), ([0, 2, 3, 5, 8, 11, 13, 14, 15], [(7, [3])]), ([], []), ([0, 2, 3, 5, 8, 11, 13, 14, 15, 93], []), ([], []), ([8, 9, 10], []), ([], []), ([999999, 0, 2, 3, 5, 8, 11, 13, 14, 15], []), ([0, 2, 3, 5, 8, 11, 13, 14, 15, 16], [(6, [4])]), ([], []), ([0, 2, 3, 5, 8, 11, 13, 14, 15, 16, 103], []), ([], []), ([0, 2, 3, 5, 8, 11, 13, 15, 16], []), ([0, 2, 3, 5, 8, 11, 13, 14, 15, 16, 117], []), ([], []), ([0, 2, 3, 5, 8, 11, 13, 15, 16], []), ([999999, 0, 2, 3, 5, 8, 11, 13, 15, 16], []), ([0, 2, 3, 5, 8, 11, 13, 15, 16, 137], []), ([], []), ([8, 9, 10], []), ([], []), ([999999, 0, 2, 3, 5, 8, 11, 13, 16], []), ([0, 2, 3, 5, 8, 11, 13], [(4, [5])]), ([999999, 0, 2, 3, 5, 8, 11, 13], []), ([0, 2, 3, 5, 8, 11, 13], []), ([999999, 3, 8, 11], []), ([8, 9, 10], []), ([], [])]) (by kernel_rfl)
/-- cento/centoref10.Unfold -/
def c_centoref10_Unfold : CC :=
  .seq (.reg [cn (some 3) (.box 60 (.tmp 1)) none [0],
      cn (some 4) (.alloc 53) none [1],
      co (some 5) (.assign (.const (.int .i64 0))) none,
      co (some 6) (.assign (.const (.int .i64 0))) none] [0, 3, 4])
  (.seq (.reg [co (some 12) (.load 60 (.tmp 3)) none,
      co (some 13) (.call { callee := (.value (.func 72)), args := #[(.tmp 12)], argTypes := #[60] }) none,
      co none (.store 60 (.tmp 3) (.tmp 13)) none] [0, 3, 4])
  (.seq (.reg [co (some 15) (.move (.tmp 0)) none,
      co (some 16) (.call { callee := (.value (.func 73)), args := #[(.tmp 15), (.const (.int .i64 0)), (.const (.int .i64 0))], argTypes := #[22, 3, 3] }) none,
      co (some 14) (.move (.tmp 16)) none,
      co (some 17) (.extract (.tmp 14) 0) none,
      co (some 18) (.extract (.tmp 14) 1) none,
      cn (some 7) (.alloc 128) none [2],
      co none (.store 128 (.tmp 7) (.tmp 17)) none,
      co (some 8) (.assign (.tmp 18)) none] [0, 3, 4, 7, 8])
  (.seq (.seq (.reg [co (some 19) (.move (.tmp 8)) none,
        co (some 20) (.binOp .neq 3 (.tmp 19) (.const (.int .i64 0)) 3) none] [0, 3, 4, 7, 8, 20])
    (.cond (.tmp 20)
      (.seq (.reg [co (some 21) (.build 53 #[]) none,
          co (some 22) (.move (.tmp 8)) none,
          co none (.store 53 (.tmp 4) (.tmp 21)) none,
          co (some 5) (.assign (.const (.int .i64 0))) none,
          co (some 6) (.assign (.tmp 22)) none] [4, 5, 6])
      (.ret))
      (.skip)))
  (.keep [0, 3, 4, 7] (.seq (.reg [co (some 24) (.move (.tmp 0)) none,
      co (some 25) (.load 128 (.tmp 7)) none,
      co (some 26) (.fieldAddr 60 (.tmp 3) 0) none,
      co (some 27) (.load 3 (.tmp 26)) none,
      co (some 28) (.fieldAddr 60 (.tmp 3) 1) none,
      co (some 29) (.load 3 (.tmp 28)) none,
      co (some 30) (.call { callee := (.value (.func 74)), args := #[(.tmp 24), (.tmp 25), (.tmp 27), (.tmp 29)], argTypes := #[22, 128, 3, 3] }) none,
      co (some 23) (.move (.tmp 30)) none,
      co (some 31) (.extract (.tmp 23) 0) none,
      co (some 32) (.extract (.tmp 23) 1) none,
      co (some 33) (.extract (.tmp 23) 2) none,
      cn (some 9) (.alloc 53) none [3],
      co none (.store 53 (.tmp 9) (.tmp 31)) none,
      co (some 10) (.assign (.tmp 32)) none,
      co (some 11) (.assign (.tmp 33)) none] [3, 4, 9, 10, 11])
  (.seq (.seq (.reg [co (some 34) (.move (.tmp 11)) none,
        co (some 35) (.binOp .neq 3 (.tmp 34) (.const (.int .i64 0)) 3) none] [3, 4, 9, 10, 11, 35])
    (.cond (.tmp 35)
      (.seq (.reg [co (some 36) (.build 53 #[]) none,
          co (some 37) (.move (.tmp 11)) none,
          co none (.store 53 (.tmp 4) (.tmp 36)) none,
          co (some 5) (.assign (.const (.int .i64 0))) none,
          co (some 6) (.assign (.tmp 37)) none] [4, 5, 6])
      (.ret))
      (.skip)))
  (.keep [3, 4, 9, 10] (.seq (.reg [co (some 38) (.load 53 (.tmp 9)) none,
      co (some 39) (.fieldAddr 60 (.tmp 3) 1) none,
      ⟨some 40, (.load 3 (.tmp 39)), none, [], 2, [], true⟩,
      co (some 41) (.move (.tmp 10)) none,
      co (some 42) (.binOp .sub 3 (.tmp 40) (.tmp 41) 3) none,
      ⟨none, (.store 53 (.tmp 4) (.tmp 38)), none, [], 5, [2], false⟩,
      co (some 5) (.assign (.tmp 42)) none,
      co (some 6) (.assign (.const (.int .i64 0))) none] [4, 5, 6])
  (.ret)))))))))
theorem t_centoref10_Unfold : Txt Try.prog 31 43 [(.cell 4 53), (.tmp 5), (.tmp 6)] c_centoref10_Unfold := txt_of (code := Try.f31.body.getD .ret) mixed (by kernel_rfl) Try.func31 (by kernel_rfl) Try.ntmps31 (by kernel_rfl) (ls := [([0, 3, 4], [(0, [0]), (1, [1])]), ([], []), ([0, 3, 4], []), ([], []), ([0, 3, 4, 7, 8], [(5, [2])]), ([], []), ([0, 3, 4, 7, 8, 20], []), ([], []), ([4, 5, 6], []), ([], []), ([999999, 0, 3, 4, 7], []), ([3, 4, 9, 10, 11], [(11, [3])]), ([], []), ([3, 4, 9, 10, 11, 35], []), ([], []), ([4, 5, 6], []), ([], []), ([999999, 3, 4, 9, 10], []), ([4, 5, 6], []), ([], [])]) (by kernel_rfl)
/-- cento/centolaw10.Light -/
def c_centolaw10_Light : CC :=
  .seq (.reg [cn (some 1) (.box 60 (.tmp 0)) none [0],
      cn (some 2) (.alloc 60) none [1]] [1, 2])
  (.seq (.seq (.reg [co (some 3) (.fieldAddr 60 (.tmp 1) 1) none,
        co (some 4) (.load 3 (.tmp 3)) none,
        co (some 5) (.binOp .gtr 3 (.tmp 4) (.const (.int .i64 3000)) 3) none] [1, 2, 5])
    (.cond (.tmp 5)
      (.reg [co (some 6) (.fieldAddr 60 (.tmp 1) 1) none,
        co none (.store 3 (.tmp 6) (.const (.int .i64 3000))) none] [1, 2])
      (.skip)))
  (.keep [1, 2] (.seq (.reg [co (some 7) (.load 60 (.tmp 1)) none,
      co none (.store 60 (.tmp 2) (.tmp 7)) none] [2])
  (.ret))))
theorem t_centolaw10_Light : Txt Try.prog 38 8 [(.cell 2 60)] c_centolaw10_Light := txt_of (code := Try.f38.body.getD .ret) mixed (by kernel_rfl) Try.func38 (by kernel_rfl) Try.ntmps38 (by kernel_rfl) (ls := [([1, 2], [(0, [0]), (1, [1])]), ([], []), ([1, 2, 5], []), ([], []), ([1, 2], []), ([999999, 1, 2], []), ([2], []), ([], [])]) (by kernel_rfl)
end Go.Proofs.Ytehcobkphobjiaa

/-
  Chapter 9: values are read where they lie, by the program.
-/
namespace Go.Proofs.Ytehcobkphobjiaa
set_option linter.unusedVariables false
set_option linter.unusedSimpArgs false
open Go Go.G Go.Proofs Go.PL
/-- Segments that memory can hold. -/
structure Sg (l : List (List Int)) : Prop where
  b : ∀ x, x ∈ l → x.length * 8 ≤ 140737488355328
  w : Wds l
def arO (l : List (List Int)) (r : Rf) : A := if r.kind = 0 then .v (.pointer none) else arn l
@[simp] theorem arO_cells (l : List (List Int)) (r : Rf) : (arO l r).cells = [arO l r] := by unfold arO; split <;> rfl
@[simp] theorem arO_one (l : List (List Int)) (r : Rf) : (arO l r).one = true := by unfold arO; split <;> rfl
@[simp] theorem arO_bare (l : List (List Int)) (r : Rf) : (arO l r).bare = true := by unfold arO; split <;> rfl
@[simp] theorem arO_bare1 (l : List (List Int)) (r : Rf) : (arO l r).bare1 = true := by unfold arO; split <;> rfl
@[simp] theorem arO_bare2 (l : List (List Int)) (r : Rf) : (arO l r).bare2 = true := by unfold arO; split <;> rfl
theorem arO_nz {l : List (List Int)} {r : Rf} (h : r.kind ≠ 0) : arO l r = arn l := if_neg h
abbrev paL (l : List (List Int)) (r : Rf) : List A := [arO l r, iv r.kind, iv r.s, iv r.at_, iv r.data, iv r.kids, iv r.count, uv r.n]
abbrev paX (l : List (List Int)) (r : Rf) : A := .agg (paL l r)
def nwR (r : Rf) : Int := if r.kind = 1 then r.data else if r.kind = 10 then 1 else 0
def wordAt (l : List (List Int)) (r : Rf) (i : Int) : Int := if i < 0 ∨ nwR r ≤ i then 0 else if r.kind = 10 then r.n else (word l r.s (r.at_ + i)).getD 0
/-! ### small numbers -/
theorem u64_shr (x : Int) (k : Int) (h0 : 0 ≤ k) (h1 : k < 64) : x / 2 ^ (min k.toNat IntKind.u64.bits) = x / 2 ^ k.toNat := by
  have : min k.toNat IntKind.u64.bits = k.toNat := by
    have : IntKind.u64.bits = 64 := rfl
    omega
  rw [this]
set_option maxRecDepth 8000 in
theorem wGet_spec {g : List Int} (hg : ∀ x, x ∈ g → 0 ≤ x ∧ x < 18446744073709551616) (hl : g.length * 8 ≤ 140737488355328) (c i : Int) : G.Spec Try.prog 136 [uws g, iv c, iv i] (uv (getZ g c i)) := by
  refine spec_of t_word_Get (by simp) fun w0 I0 => ?_
  unfold c_word_Get
  simp
  refine sc_call (width_spec c) rfl ?_
  have hw := widthZ_cases c
  by_cases h0 : widthZ c < 1 ∨ i < 0 ∨ 1099511627776 < i
  · have e : getZ g c i = 0 := by unfold getZ; rw [if_pos h0]
    rw [e]
    rcases hw with h | h | h | h | h | h | h
    · simp [h]; exact frz_bare rfl
    · simp [h]; exact frz_bare rfl
    all_goals
      by_cases hi : i < 0
      · simp [h, hi]; exact frz_bare rfl
      · have hb : 1099511627776 < i := by omega
        simp [h, hi, hb]; exact frz_bare rfl
  · have hw1 : widthZ c = 1 ∨ widthZ c = 8 ∨ widthZ c = 16 ∨ widthZ c = 32 ∨ widthZ c = 64 := by omega
    have hi0 : 0 ≤ i := by omega
    have hi1 : i ≤ 1099511627776 := by omega
    have e : getZ g c i = ((g[(i * widthZ c / 64).toNat]?).getD 0) / 2 ^ (i * widthZ c % 64).toNat % 2 ^ (widthZ c).toNat := by unfold getZ; rw [if_neg h0]
    rw [e]
    clear e hw
    generalize widthZ c = w at hw1 h0
    have hn : ¬ w < 0 := by omega
    have hn0 : ¬ w = 0 := by omega
    have hp : 0 ≤ w := by omega
    have hneg : ¬ i < 0 := by omega
    have hbig : ¬ 1099511627776 < i := by omega
    have hb : 0 ≤ i * w ∧ i * w ≤ 70368744177664 := by rcases hw1 with rfl | rfl | rfl | rfl | rfl <;> omega
    have e1 : IntKind.i64.wrap (i * w) = i * w := i64_same (by omega) (by omega)
    have e2 : IntKind.i64.wrap ((i * w).tdiv 64) = i * w / 64 := by rw [Int.tdiv_eq_ediv_of_nonneg hb.1, i64_same (by omega) (by omega)]
    have e3 : (i * w).tmod 64 = i * w % 64 := Int.tmod_eq_emod_of_nonneg hb.1
    have hm : 0 ≤ i * w % 64 := by omega
    have hm1 : i * w % 64 < 64 := by omega
    have hd0 : 0 ≤ i * w / 64 := by omega
    by_cases hr : (g.length : Int) ≤ i * w / 64
    · have en : g[(i * w / 64).toNat]? = none := List.getElem?_eq_none (by omega)
      simp [hn, hn0, hp, hneg, hbig, e1, e2, hr, en]
      exact frz_bare rfl
    · have hlt : (i * w / 64).toNat < g.length := by omega
      have hlt' : i * w / 64 < g.length := by omega
      have hx := hg _ (List.getElem_mem hlt)
      simp [hn, hn0, hp, hneg, hbig, e1, e2, e3, hr, hd0, hlt, hlt', hm, u64_shr _ _ hm hm1]
      have hx0 : 0 ≤ g[(i * w / 64).toNat] / 2 ^ (i * w % 64).toNat := Int.ediv_nonneg hx.1 (Int.le_of_lt (Int.pow_pos (by decide)))
      have hx1 : g[(i * w / 64).toNat] / 2 ^ (i * w % 64).toNat < 18446744073709551616 := Int.lt_of_le_of_lt (Int.ediv_le_self _ hx.1) hx.2
      generalize g[(i * w / 64).toNat] / 2 ^ (i * w % 64).toNat = y at hx0 hx1
      refine ⟨fun h => ?_, fun h => ?_⟩
      · refine frz_int ?_
        rw [h]
        exact (Int.emod_eq_of_lt hx0 (by simpa using hx1)).symm
      · refine frz_int ?_
        have em : ∀ k : Nat, k < 64 → IntKind.u64.wrap (IntKind.u64.wrap (2 ^ min k IntKind.u64.bits) - 1) = 2 ^ k - 1 := fun k hk => by
          have h64 : min k IntKind.u64.bits = k := by
            have : IntKind.u64.bits = 64 := rfl
            omega
          have hp : (2 : Int) ^ k ≤ 9223372036854775808 := by
            have h2 := Int.ofNat_le.2 (Nat.pow_le_pow_right (n := 2) (by decide) (by omega : k ≤ 63))
            rw [Int.natCast_pow] at h2
            exact h2
          have hp0 : (0 : Int) < 2 ^ k := Int.pow_pos (by decide)
          rw [h64, u64_same (n := 2 ^ k) (by omega) (by omega), u64_same (by omega) (by omega)]
        rw [em w.toNat (by omega)]
        exact u64_mask w.toNat (by omega) hx0 hx1
theorem wWidth_spec (c : Int) : G.Spec Try.prog 135 [iv c] (.tup [iv (if widthZ c < 0 then 0 else widthZ c), bv (decide (0 ≤ widthZ c))]) := by
  refine spec_of t_word_Width (by simp) fun w0 I0 => ?_
  unfold c_word_Width
  simp
  refine sc_call (width_spec c) rfl ?_
  simp
  exact frz_bare rfl
theorem tup_bare {cs : List A} {x : Value} (h : cs.all A.bare2 = true) : (A.tup [.agg cs, .v x]).bare = true := by
  simp only [A.bare, List.all_cons, List.all_nil, Bool.and_true]
  rw [h]; rfl
/-! ### a value -/
theorem refKind_spec (l : List (List Int)) (r : Rf) : G.Spec Try.prog 80 [paX l r] (iv r.kind) := by
  refine spec_of t_reader_Ref_Kind (by simp) fun w0 I0 => ?_
  unfold c_reader_Ref_Kind
  simp
  exact frz_bare rfl
theorem refWords_spec' (l : List (List Int)) (r : Rf) : G.Spec Try.prog 85 [paX l r] (iv (nwR r)) := by
  refine spec_of t_reader_Ref_Words (by simp) fun w0 I0 => ?_
  unfold c_reader_Ref_Words
  by_cases h1 : r.kind = 1
  · simp [h1]; exact frz_is rfl (by simp [nwR, h1])
  · by_cases h10 : r.kind = 10
    · simp [h10]; exact frz_is rfl (by simp [nwR, h10])
    · simp [h1, h10]; exact frz_is rfl (by simp [nwR, h1, h10])
theorem refKids_spec' (l : List (List Int)) (r : Rf) : G.Spec Try.prog 75 [paX l r] (iv (nk r)) := by
  refine spec_of t_reader_Ref_Kids (by simp) fun w0 I0 => ?_
  unfold c_reader_Ref_Kids
  by_cases h1 : r.kind = 1
  · simp [h1]; exact frz_is rfl (by simp [nk, h1])
  · simp [h1]; exact frz_is rfl (by simp [nk, h1])
theorem hasW_bound {l : List (List Int)} (hs : Sg l) {s a n : Int} (h : hasW l s a n = true) : 0 ≤ a ∧ 0 ≤ n ∧ a + n ≤ 17592186044416 := by
  obtain ⟨h1, h2, h3, h4, h5, _, h6⟩ := hasW_in h
  have := hs.b _ (List.getElem_mem h5)
  omega
theorem word_spec' {l : List (List Int)} (hs : Sg l) {r : Rf} (hr : RfOk l r) (i : Int) : G.Spec Try.prog 86 [paX l r, iv i] (uv (wordAt l r i)) := by
  refine spec_of t_reader_Ref_Word (by simp) fun w0 I0 => ?_
  unfold c_reader_Ref_Word
  simp
  refine sc_call_gf rfl (fun _ => refWords_spec' l r) (fun e => by simp [e]) (by simp) ?_
  by_cases hi : i < 0 ∨ nwR r ≤ i
  · have hd : (decide (i < 0) || decide (nwR r ≤ i)) = true := by simpa using hi
    simp [hd]
    exact frz_is rfl (by simp [wordAt, hi])
  · have hd : (decide (i < 0) || decide (nwR r ≤ i)) = false := by simpa using hi
    simp [hd]
    have e : wordAt l r i = if r.kind = 10 then r.n else (word l r.s (r.at_ + i)).getD 0 := by rw [wordAt, if_neg hi]
    by_cases h10 : r.kind = 10
    · simp [h10]
      exact frz_is rfl (by rw [e, if_pos h10])
    · have h1 : r.kind = 1 := by
        cases hr <;> simp [nwR, Rf.zero] at hi h10 ⊢ <;> omega
      simp [h10]
      rw [e, if_neg h10, arO_nz (by omega)]
      have hb : IntKind.i64.wrap (r.at_ + i) = r.at_ + i := by
        cases hr with
        | str s a d k a1 a2 a3 a4 h =>
          have := hasW_bound hs h
          simp [nwR] at hi ⊢
          exact i64_same (by omega) (by omega)
        | _ => simp [Rf.zero] at h1 <;> omega
      rw [hb]
      refine sc_call (get_spec l hs.b r.s (r.at_ + i)) rfl ?_
      simp
      exact frz_bare rfl
theorem comp_spec {l : List (List Int)} (hs : Sg l) (s a n : Int) (ha : 0 ≤ a) (ha1 : a ≤ 17592186044416) : G.Spec Try.prog 125 [.agg [arn l, iv 0, iv s, iv a, iv 0, iv 0, iv 0, uv 0], iv n] (.tup [paX l (compP l s a n).1, iv (compP l s a n).2]) := by
  have h0 : 0 ≤ (word l s a).getD 0 ∧ (word l s a).getD 0 < 18446744073709551616 := by
    cases e : word l s a with
    | none => simp
    | some x => exact word_in hs.w e
  refine spec_of t_reader_Ref_composite (by simp) fun w0 I0 => ?_
  unfold c_reader_Ref_composite
  simp
  refine sc_call (get_spec l hs.b s a) rfl ?_
  simp
  unfold compP
  generalize (word l s a).getD 0 = w at h0
  refine sc_call (Decode_spec h0.1 h0.2) rfl ?_
  have hsh := dec_shp h0.1 h0.2
  have ho := dec_off h0.1 h0.2
  have hdp : 0 ≤ (dec w).data ∧ (dec w).data < 65536 ∧ 0 ≤ (dec w).ptrs ∧ (dec w).ptrs < 65536 := by
    unfold dec
    repeat' split
    all_goals simp
    all_goals omega
  generalize dec w = p at hsh ho hdp
  have hb : -70368744177664 ≤ p.off * (p.data + p.ptrs) ∧ p.off * (p.data + p.ptrs) ≤ 70368744177664 := by
    have b1 : p.off * (p.data + p.ptrs) ≤ 536870912 * (p.data + p.ptrs) := Int.mul_le_mul_of_nonneg_right (by omega) (by omega)
    have b2 : -536870912 * (p.data + p.ptrs) ≤ p.off * (p.data + p.ptrs) := Int.mul_le_mul_of_nonneg_right (by omega) (by omega)
    omega
  have e1 : IntKind.i64.wrap (p.data + p.ptrs) = p.data + p.ptrs := i64_same (by omega) (by omega)
  have e2 : IntKind.i64.wrap (p.off * (p.data + p.ptrs)) = p.off * (p.data + p.ptrs) := i64_same (by omega) (by omega)
  have e3 : IntKind.i64.wrap (a + 1) = a + 1 := i64_same (by omega) (by omega)
  by_cases hc : (w ≠ 0 ∧ p.kind ≠ 1) ∨ p.off < 0 ∨ n < p.off * (p.data + p.ptrs)
  · have hd : (((!decide (w = 0) && !decide (p.kind = 1)) || decide (p.off < 0)) || decide (n < p.off * (p.data + p.ptrs))) = true := by simp; omega
    rw [if_pos hc]
    simp [e1, e2, hd]
    exact frz_is (tup_bare (by simp)) (by simp [Rf.zero, arO])
  · have hd : (((!decide (w = 0) && !decide (p.kind = 1)) || decide (p.off < 0)) || decide (n < p.off * (p.data + p.ptrs))) = false := by simp; omega
    rw [if_neg hc]
    simp [e1, e2, e3, hd]
    exact frz_is (tup_bare (by simp)) (by simp [arO])
theorem at_spec {l : List (List Int)} (hs : Sg l) (s a : Int) : G.Spec Try.prog 78 [arn l, iv s, iv a] (.tup [paX l (atP l s a).1, iv (atP l s a).2]) := by
  have hf := follow_folw hs.w s a
  refine spec_of t_reader_At (by simp) fun w0 I0 => ?_
  unfold c_reader_At
  simp
  refine sc_call (follow_spec l hs.b hs.w s a) rfl ?_
  unfold atP
  generalize followP l s a = x at hf
  obtain ⟨x, e⟩ := x
  unfold Folw at hf
  simp only at hf ⊢
  by_cases hc : e ≠ 0 ∨ x.p.kind = 0
  · have hd : (!decide (e = 0) || decide (x.p.kind = 0)) = true := by simp; omega
    simp [hd, hc]
    exact frz_is (tup_bare (by simp)) (by simp [Rf.zero, arO])
  · have hd : (!decide (e = 0) || decide (x.p.kind = 0)) = false := by simp; omega
    have he : e = 0 := by omega
    obtain h0 | ⟨hk, hsh, hw⟩ := hf he
    · omega
    have hbd := hasW_bound hs hw
    rw [if_neg hc]
    simp [hd]
    unfold refP
    by_cases k1 : x.p.kind = 1
    · simp [k1]
      exact frz_is (tup_bare (by simp)) (by simp [arO])
    · have k2 : x.p.kind = 2 := by omega
      obtain ⟨c0, c1, _, _⟩ := hsh.k2 k2
      by_cases c6 : x.p.code < 6
      · have e2 : IntKind.i64.wrap (2 + x.p.code) = 2 + x.p.code := i64_same (by omega) (by omega)
        have c7 : x.p.code < 7 := by omega
        have nz : ¬ (2 + x.p.code = 0) := by omega
        simp [k1, c6, c7, e2]
        exact ⟨frz_is (tup_bare (by simp)) (by simp [arO, nz]), fun h => absurd h (by omega)⟩
      · by_cases c6' : x.p.code = 6
        · simp [k1, c6']
          exact frz_is (tup_bare (by simp)) (by simp [arO])
        · have c7 : ¬ x.p.code < 7 := by omega
          simp [k1, c6, c6', c7]
          intro _
          refine sc_call (comp_spec hs x.s x.at_ x.p.count hbd.1 (by omega)) rfl ?_
          simp
          exact frz_bare (tup_bare (by simp))
theorem root_spec {l : List (List Int)} (hs : Sg l) : G.Spec Try.prog 40 [arn l] (.tup [paX l (atP l 0 0).1, iv (atP l 0 0).2]) := by
  refine spec_of t_reader_Root (by simp) fun w0 I0 => ?_
  unfold c_reader_Root
  simp
  refine sc_call (at_spec hs 0 0) rfl ?_
  simp
  exact frz_bare (tup_bare (by simp))
end Go.Proofs.Ytehcobkphobjiaa

/-
  Chapters 9, 14, 15: kids; what counts of values; whether they mean the same.
-/
namespace Go.Proofs.Ytehcobkphobjiaa
set_option linter.unusedVariables false
set_option linter.unusedSimpArgs false
open Go Go.G Go.Proofs Go.PL
theorem word_drop {l : List (List Int)} {s a : Int} (ha : 0 ≤ a) (k : Nat) : ((((seg l s).getD []).drop a.toNat)[k]?).getD 0 = (word l s (a + k)).getD 0 := by
  unfold word
  rw [if_pos (by omega)]
  cases seg l s with
  | none => simp
  | some g =>
    simp only [Option.getD_some, Option.bind_some, List.getElem?_drop]
    have : a.toNat + k = (a + k).toNat := by omega
    rw [this]
theorem atom_spec {l : List (List Int)} (hs : Sg l) {c s a n : Int} (c0 : 0 ≤ c) (c6 : c < 6) (n0 : 0 ≤ n) (n1 : n < 536870912) (h : hasW l s a ((n * bitsOf c + 63) / 64) = true) {i : Int} (i0 : 0 ≤ i) (i1 : i < n) :
    G.Spec Try.prog 84 [paX l ⟨2 + c, s, a, 0, 0, n, 0⟩, iv i] (uv (atomZ l ⟨2 + c, s, a, 0, 0, n, 0⟩ i)) := by
  have hb := hasW_bound hs h
  have e2 : IntKind.i64.wrap c = c := i64_same (by omega) (by omega)
  have nz : ¬ (2 + c = 0) := by omega
  have key : ∀ w per : Int, widthZ c = w → w * per = 64 → (w = 1 ∨ w = 8 ∨ w = 16 ∨ w = 32 ∨ w = 64) → getZ [(word l s (a + i / per)).getD 0] c (i % per) = atomZ l ⟨2 + c, s, a, 0, 0, n, 0⟩ i := fun w per hw hp hw' => by
    unfold atomZ getZ
    simp only [show 2 + c - 2 = c by omega, hw]
    have hk : (i % per * w / 64).toNat = 0 ∧ i % per * w % 64 = i * w % 64 ∧ i * w / 64 = i / per ∧ ¬ (i % per < 0) ∧ ¬ 1099511627776 < i % per := by
      rcases hw' with rfl | rfl | rfl | rfl | rfl
      · have : per = 64 := by omega
        subst this; omega
      · have : per = 8 := by omega
        subst this; omega
      · have : per = 4 := by omega
        subst this; omega
      · have : per = 2 := by omega
        subst this; omega
      · have : per = 1 := by omega
        subst this; omega
    obtain ⟨k1, k2, k3, k4, k5⟩ := hk
    rw [if_neg (by omega), if_neg (by omega), k1, k2, k3]
    have hd0 : 0 ≤ i / per := by rw [← k3]; rcases hw' with rfl | rfl | rfl | rfl | rfl <;> omega
    have := word_drop (l := l) (s := s) (a := a) hb.1 (i / per).toNat
    rw [show ((i / per).toNat : Int) = i / per by omega] at this
    rw [this]
    simp
  have e2' : IntKind.i64.wrap (2 + c - 2) = c := by rw [i64_same (by omega) (by omega)]; omega
  have hw64 : ∀ x : Int, 0 ≤ (word l s x).getD 0 ∧ (word l s x).getD 0 < 18446744073709551616 := fun x => by
    cases e : word l s x with
    | none => simp
    | some y => exact word_in hs.w e
  refine spec_of t_reader_Ref_atom (by simp) fun w0 I0 => ?_
  unfold c_reader_Ref_atom
  simp [e2']
  refine sc_call (wWidth_spec c) rfl ?_
  by_cases hc0 : c = 0
  · subst hc0
    simp [widthZ]
    exact frz_is rfl (by simp [atomZ, getZ, widthZ])
  have hx : ∃ w per : Int, widthZ c = w ∧ w * per = 64 ∧ (w = 1 ∨ w = 8 ∨ w = 16 ∨ w = 32 ∨ w = 64) ∧ (per = 64 ∨ per = 8 ∨ per = 4 ∨ per = 2 ∨ per = 1) ∧ IntKind.i64.wrap ((64 : Int).tdiv w) = per := by
    have hc : c = 1 ∨ c = 2 ∨ c = 3 ∨ c = 4 ∨ c = 5 := by omega
    rcases hc with rfl | rfl | rfl | rfl | rfl
    · exact ⟨1, 64, rfl, rfl, by omega, by omega, by decide⟩
    · exact ⟨8, 8, rfl, rfl, by omega, by omega, by decide⟩
    · exact ⟨16, 4, rfl, rfl, by omega, by omega, by decide⟩
    · exact ⟨32, 2, rfl, rfl, by omega, by omega, by decide⟩
    · exact ⟨64, 1, rfl, rfl, by omega, by omega, by decide⟩
  obtain ⟨w, per, hw, hp, hw', hper, ep⟩ := hx
  have hk := key w per hw hp hw'
  have wn : ¬ w < 0 := by omega
  have wz : ¬ w = 0 := by omega
  have pz : ¬ per = 0 := by omega
  have hq : 0 ≤ i / per ∧ i / per ≤ i := by rcases hper with rfl | rfl | rfl | rfl | rfl <;> omega
  have hm : 0 ≤ i % per := Int.emod_nonneg _ pz
  have e3 : IntKind.i64.wrap (i.tdiv per) = i / per := by rw [Int.tdiv_eq_ediv_of_nonneg i0, i64_same (by omega) (by omega)]
  have e4 : IntKind.i64.wrap (a + i / per) = a + i / per := i64_same (by omega) (by omega)
  have e5 : i.tmod per = i % per := Int.tmod_eq_emod_of_nonneg i0
  simp [hw, wn, wz, ep, pz, e3, e4, arO, nz]
  refine sc_call (get_spec l hs.b s (a + i / per)) rfl ?_
  simp [pz, e5]
  have hx := hw64 (a + i / per)
  refine sc_call ((wGet_spec (g := [(word l s (a + i / per)).getD 0]) (fun x hx' => by simp at hx'; rw [hx']; exact hx) (by simp) c (i % per)).soft (by simp [A.softL, A.soft])) rfl ?_
  simp
  rw [hk]
  exact frz_bare rfl
theorem kid_spec {l : List (List Int)} (hs : Sg l) {r : Rf} (hr : RfOk l r) (i : Int) : G.Spec Try.prog 44 [paX l r, iv i] (.tup [paX l (kidP l r i).1, iv (kidP l r i).2]) := by
  refine spec_of t_reader_Ref_Kid (by simp) fun w0 I0 => ?_
  unfold c_reader_Ref_Kid
  simp
  refine sc_call_gf rfl (fun _ => refKids_spec' l r) (fun e => by simp [e]) (by simp) ?_
  by_cases hi : i < 0 ∨ nk r ≤ i
  · have hd : (decide (i < 0) || decide (nk r ≤ i)) = true := by simpa using hi
    simp [hd]
    exact frz_is (tup_bare (by simp)) (by simp [kidP, hi, Rf.zero, arO])
  · have hd : (decide (i < 0) || decide (nk r ≤ i)) = false := by simpa using hi
    have hi0 : 0 ≤ i := by omega
    have hi1 : i < nk r := by omega
    have hk := nk_nonneg hr
    rw [kidP, if_neg hi]
    cases hr with
    | zero => simp [nk, Rf.zero] at hi1; omega
    | str s a d k a1 a2 a3 a4 h =>
      have hb := hasW_bound hs h
      have e1 : IntKind.i64.wrap (IntKind.i64.wrap (a + d) + i) = a + d + i := by
        rw [i64_same (n := a + d) (by omega) (by omega), i64_same (by omega) (by omega)]
      simp [hd, arO, e1]
      refine sc_call (at_spec hs s (a + d + i)) rfl ?_
      simp
      exact frz_bare (tup_bare (by simp))
    | dat c s a n a1 a2 a3 a4 h =>
      have n0 : ¬ (2 + c = 0) := by omega
      have n1 : ¬ (2 + c = 1) := by omega
      have n8 : ¬ (2 + c = 8) := by omega
      have n9 : ¬ (2 + c = 9) := by omega
      have hn : i < n := by simpa [nk, n1] using hi1
      have := atom_spec hs a1 a2 a3 a4 h hi0 hn
      simp [hd, n1, n8, n9]
      refine sc_call this (by simp) ?_
      simp
      exact frz_is (tup_bare (by simp)) (by simp [arO, n0])
    | ptrs s a n a1 a2 h =>
      have hb := hasW_bound hs h
      have e1 : IntKind.i64.wrap (a + i) = a + i := i64_same (by omega) (by omega)
      simp [hd, arO, e1]
      refine sc_call (at_spec hs s (a + i)) rfl ?_
      simp
      exact frz_bare (tup_bare (by simp))
    | comp s a d k n a1 a2 a3 a4 a5 a6 h =>
      have hb := hasW_bound hs h
      have hn : i < n := by simpa [nk] using hi1
      have m1 : 0 ≤ i * (d + k) := Int.mul_nonneg hi0 (by omega)
      have m2 : i * (d + k) ≤ n * (d + k) := mul_le_of (by omega) (by omega)
      have e1 : IntKind.i64.wrap (d + k) = d + k := i64_same (by omega) (by omega)
      have e2 : IntKind.i64.wrap (i * (d + k)) = i * (d + k) := i64_same (by omega) (by omega)
      have e3 : IntKind.i64.wrap (a + i * (d + k)) = a + i * (d + k) := i64_same (by omega) (by omega)
      simp [hd, arO, e1, e2, e3]
      exact frz_is (tup_bare (by simp)) (by simp [arO])
    | atom n a1 a2 => simp [nk] at hi1; omega
/-! ### what counts -/
theorem means_word {l : List (List Int)} {r : Rf} {t : T} (h : Means l r t) : nwR r = t.words.length ∧ ∀ (i : Nat) (hi : i < t.words.length), wordAt l r i = t.words[i] := by
  cases h with
  | mk _ _ hr hk hw hn he hm =>
    have hl : nwR r = (wordsR l r).length := by
      cases hr with
      | str s a d k a1 a2 a3 a4 h =>
        obtain ⟨h1, h2, h3, h4, h5, e, h6⟩ := hasW_in h
        simp [nwR, wordsR, part, e]
        omega
      | dat c s a n a1 a2 a3 a4 h =>
        have : ¬ (2 + c = 10) := by omega
        have h1 : ¬ (2 + c = 1) := by omega
        simp [nwR, wordsR, this, h1]
      | _ => simp [nwR, wordsR, Rf.zero]
    rw [← hw]
    refine ⟨hl, fun i hi => ?_⟩
    have hi' : (i : Int) < nwR r := by rw [hl]; omega
    rw [wordAt, if_neg (by omega)]
    cases hr with
    | str s a d k a1 a2 a3 a4 h =>
      obtain ⟨h1, h2, h3, h4, h5, e, h6⟩ := hasW_in h
      simp [wordsR, part, e]
      have := word_drop (l := l) (s := s) (a := a) h3 i
      rw [e] at this
      simp at this
      rw [← this, List.getElem?_eq_getElem (by simp [nwR] at hi'; omega)]
      simp
    | atom n a1 a2 =>
      simp [wordsR] at hi ⊢
    | dat c s a n a1 a2 a3 a4 h =>
      have : ¬ (2 + c = 10) := by omega
      have h1 : ¬ (2 + c = 1) := by omega
      simp [nwR, this, h1] at hi'
      omega
    | _ => simp [nwR, Rf.zero] at hi' <;> omega
theorem means_ok {l : List (List Int)} {r : Rf} {t : T} (h : Means l r t) : RfOk l r := by cases h; assumption
theorem means_kind {l : List (List Int)} {r : Rf} {t : T} (h : Means l r t) : r.kind = t.kind := by cases h; assumption
theorem means_nk {l : List (List Int)} {r : Rf} {t : T} (h : Means l r t) : nk r = t.kids.length := by cases h; assumption
theorem means_kid {l : List (List Int)} {r : Rf} {t : T} (h : Means l r t) {i : Nat} (hi : i < t.kids.length) : (kidP l r i).2 = 0 ∧ Means l (kidP l r i).1 t.kids[i] := by
  cases h with
  | mk _ _ hr hk hw hn he hm => exact ⟨he i hi, hm i hi⟩
end Go.Proofs.Ytehcobkphobjiaa

/-
  Chapters 14 and 15: what counts of a value; whether two mean the same.
-/
namespace Go.Proofs.Ytehcobkphobjiaa
set_option linter.unusedVariables false
set_option linter.unusedSimpArgs false
open Go Go.G Go.Proofs Go.PL
theorem means_len {l : List (List Int)} {r : Rf} {t : T} (h : Means l r t) : t.words.length ≤ 65536 ∧ t.kids.length < 536870912 := by
  have hw := (means_word h).1
  have hn := means_nk h
  have hr := means_ok h
  have := nk_nonneg hr
  have : nwR r ≤ 65536 := by
    cases hr <;> simp [nwR, Rf.zero] <;> (try split) <;> omega
  omega
section
variable {n0 : Nat} {w0 : World} {I0 : Nat → Prop} {Q : Exit → Sta → Prop} {H : Hp}
theorem long_l1 {l : List (List Int)} (hs : Sg l) {r : Rf} {t : T} (hm : Means l r t) (hH : H [0] = ⟨1, .cells (paL l r)⟩) (hq : ∀ q, Q (.exit 0) ⟨lk [(1, .pob [0] 1 0), (3, iv (trimW t.words).length), (14, bv q)], H⟩) : ∀ (n : Nat), n ≤ t.words.length → trimW (t.words.take n) = trimW t.words →
    LoopC (cx Try.prog w0 I0 n0) l1_copy_Long Q ⟨lk [(1, .pob [0] 1 0), (3, iv n)], H⟩ := by
  have hlen := means_len hm
  intro n
  induction n with
  | zero =>
    intro hn ht
    refine loopC_once mixed l1_copy_Long.eq_1 ?_
    simp
    refine sc_call_off rfl ?_
    have e : (trimW t.words).length = 0 := by rw [← ht]; rfl
    have := hq false
    rw [e] at this
    simp
    exact this
  | succ n ih =>
    intro hn ht
    have hlt : n < t.words.length := by omega
    have e : IntKind.i64.wrap (n : Int) = n := i64_same (by omega) (by omega)
    have hp : (0 : Int) < (n : Int) + 1 := by omega
    have hwd := (means_word hm).2 n hlt
    refine loopC_once mixed l1_copy_Long.eq_1 ?_
    simp [hp, hH, e]
    refine sc_call_gt rfl (fun _ => word_spec' hs (means_ok hm) n) (fun _ => rfl) (by simp) ?_
    rw [hwd]
    by_cases h0 : t.words[n] = 0
    · simp [h0, e]
      exact ih (by omega) (by rw [← trimW_zero hlt h0]; exact ht)
    · have e2 : (trimW t.words).length = n + 1 := by rw [← ht, trimW_stop hlt h0]; simp; omega
      have := hq false
      rw [e2] at this
      simp [h0]
      exact this
theorem wide_l1 {l : List (List Int)} (hs : Sg l) {r : Rf} {t : T} (hm : Means l r t) : ∀ (n : Nat) (H : Hp), H [0] = ⟨1, .cells (paL l r)⟩ → n ≤ t.kids.length → trimK (t.kids.take n) = trimK t.kids → ((trimK t.kids).length = 0 → ∀ k q H', Q (.exit 0) ⟨lk [(1, .pob [0] 1 0), (4, iv k), (10, bv q)], H'⟩) → ((trimK t.kids).length ≠ 0 → ∀ H', Q .ret ⟨lk [(2, iv (trimK t.kids).length), (3, iv 0)], H'⟩) →
    LoopC (cx Try.prog w0 I0 n0) l1_copy_Wide Q ⟨lk [(1, .pob [0] 1 0), (4, iv n)], H⟩ := by
  have hlen := means_len hm
  intro n
  induction n with
  | zero =>
    intro H hH hn ht h1 h2
    refine loopC_once mixed l1_copy_Wide.eq_1 ?_
    simp
    exact h1 (by rw [← ht]; rfl) _ _ _
  | succ n ih =>
    intro H hH hn ht h1 h2
    have hlt : n < t.kids.length := by omega
    have e : IntKind.i64.wrap (n : Int) = n := i64_same (by omega) (by omega)
    have hp : (0 : Int) < (n : Int) + 1 := by omega
    obtain ⟨k1, k2⟩ := means_kid hm hlt
    have kk := means_kind k2
    refine loopC_once mixed l1_copy_Wide.eq_1 ?_
    simp [hp, hH, e]
    refine sc_call (kid_spec hs (means_ok hm) n) (by simp) ?_
    simp [k1, updF_app]
    refine sc_call_gf rfl (fun _ => refKind_spec l (kidP l r n).1) (fun _ => rfl) (by simp) ?_
    rw [kk]
    by_cases h0 : t.kids[n].kind = 0
    · simp [h0, e]
      exact ih _ (by simp [updF_app, hH]) (by omega) (by rw [← trimK_zero hlt h0]; exact ht) h1 h2
    · have e2 : (trimK t.kids).length = n + 1 := by rw [← ht, trimK_stop hlt h0]; simp; omega
      simp [h0]
      have := h2 (by omega) 
      rw [e2] at this
      exact this _
end
theorem long_spec {l : List (List Int)} (hs : Sg l) {r : Rf} {t : T} (hm : Means l r t) : G.Spec Try.prog 46 [paX l r] (iv (trimW t.words).length) := by
  refine spec_of t_copy_Long (by simp) fun w0 I0 => ?_
  unfold c_copy_Long
  simp
  refine sc_call (refWords_spec' l r) (by simp) ?_
  rw [(means_word hm).1]
  simp
  refine long_l1 hs hm (by simp) (fun q => ?_) t.words.length (Nat.le_refl _) (by rw [List.take_of_length_le (Nat.le_refl _)])
  simp
  exact frz_bare rfl
theorem wide_spec {l : List (List Int)} (hs : Sg l) {r : Rf} {t : T} (hm : Means l r t) : G.Spec Try.prog 45 [paX l r] (.tup [iv (trimK t.kids).length, iv 0]) := by
  refine spec_of t_copy_Wide (by simp) fun w0 I0 => ?_
  unfold c_copy_Wide
  simp
  refine sc_call (refKids_spec' l r) (by simp) ?_
  rw [means_nk hm]
  simp
  refine wide_l1 hs hm t.kids.length _ (by simp) (Nat.le_refl _) (by rw [List.take_of_length_le (Nat.le_refl _)]) (fun h k q H' => ?_) (fun h H' => ?_)
  · simp
    exact frz_is rfl (by simp [h])
  · simp
    exact frz_bare rfl
/-! ### alike -/
section
variable {n0 : Nat} {w0 : World} {I0 : Nat → Prop} {Q : Exit → Sta → Prop} {H : Hp}
end
/-! ### whether two mean the same -/
section
variable {n0 : Nat} {w0 : World} {I0 : Nat → Prop} {Q : Exit → Sta → Prop}
end
end Go.Proofs.Ytehcobkphobjiaa

/-
  The functions' text as data, and the facts on the types that they use: written by a program of ours (gen2.py) off the translation.
-/
namespace Go.Proofs.Ytehcobkphobjiaa
set_option linter.unusedVariables false
set_option linter.unusedSimpArgs false
set_option maxRecDepth 20000
open Go Go.G Go.Proofs
@[simp] theorem fieldOffT_229_0 : fieldOffT Try.prog 229 0 = some 0 := by kernel_rfl
@[simp] theorem buildA_229 (ps : List (Nat × A)) : buildA Try.prog 229 ps = (fillA (fun i => ([(0, 1)] : List (Nat × Nat))[i]?) [A.v (Value.int IntKind.u64 0)] ps).map A.agg := by kernel_rfl
end Go.Proofs.Ytehcobkphobjiaa

/-
  The functions' text as data, and the facts on the types that they use: written by a program of ours (gen2.py) off the translation.
-/
namespace Go.Proofs.Ytehcobkphobjiaa
set_option linter.unusedVariables false
set_option linter.unusedSimpArgs false
set_option maxRecDepth 20000
open Go Go.G Go.Proofs
@[simp] theorem und_61 : Try.prog.underlying 61 = some (.pointer 134) := by kernel_rfl
@[simp] theorem und_63 : Try.prog.underlying 63 = some (.slice 3) := by kernel_rfl
@[simp] theorem und_132 : Try.prog.underlying 132 = some (.slice 182) := by kernel_rfl
@[simp] theorem szT_63 : szT Try.prog 63 = some 1 := by kernel_rfl
@[simp] theorem szT_132 : szT Try.prog 132 = some 1 := by kernel_rfl
@[simp] theorem szT_182 : szT Try.prog 182 = some 9 := by kernel_rfl
@[simp] theorem aggT_63 : aggT Try.prog 63 = some false := by kernel_rfl
@[simp] theorem aggT_132 : aggT Try.prog 132 = some false := by kernel_rfl
@[simp] theorem aggT_182 : aggT Try.prog 182 = some true := by kernel_rfl
@[simp] theorem zeroT_3 : zeroT Try.prog 3 = some (Value.int IntKind.i64 0) := by kernel_rfl
@[simp] theorem zeroT_182 : zeroT Try.prog 182 = some (Value.agg #[Value.int IntKind.u64 0, Value.pointer none, Value.int IntKind.i64 0, Value.int IntKind.i64 0, Value.int IntKind.i64 0, Value.int IntKind.i64 0, Value.int IntKind.i64 0, Value.int IntKind.i64 0, Value.int IntKind.u64 0]) := by kernel_rfl
@[simp] theorem bytesT_3 : bytesT Try.prog 3 = some 8 := by kernel_rfl
@[simp] theorem bytesT_182 : bytesT Try.prog 182 = some 72 := by kernel_rfl
@[simp] theorem fieldOffT_134_0 : fieldOffT Try.prog 134 0 = some 0 := by kernel_rfl
@[simp] theorem fieldOffT_134_1 : fieldOffT Try.prog 134 1 = some 1 := by kernel_rfl
@[simp] theorem fieldOffT_182_0 : fieldOffT Try.prog 182 0 = some 0 := by kernel_rfl
@[simp] theorem fieldOffT_182_1 : fieldOffT Try.prog 182 1 = some 1 := by kernel_rfl
@[simp] theorem buildA_134 (ps : List (Nat × A)) : buildA Try.prog 134 ps = (fillA (fun i => ([(0, 1), (1, 1)] : List (Nat × Nat))[i]?) [A.sl true [], A.sl true []] ps).map A.agg := by kernel_rfl
@[simp] theorem buildA_182 (ps : List (Nat × A)) : buildA Try.prog 182 ps = (fillA (fun i => ([(0, 1), (1, 8)] : List (Nat × Nat))[i]?) [A.v (Value.int IntKind.u64 0), A.v (Value.pointer none), A.v (Value.int IntKind.i64 0), A.v (Value.int IntKind.i64 0), A.v (Value.int IntKind.i64 0), A.v (Value.int IntKind.i64 0), A.v (Value.int IntKind.i64 0), A.v (Value.int IntKind.i64 0), A.v (Value.int IntKind.u64 0)] ps).map A.agg := by kernel_rfl
end Go.Proofs.Ytehcobkphobjiaa

/-
  The functions' text as data, and the facts on the types that they use: written by a program of ours (gen2.py) off the translation.
-/
namespace Go.Proofs.Ytehcobkphobjiaa
set_option linter.unusedVariables false
set_option linter.unusedSimpArgs false
set_option maxRecDepth 20000
open Go Go.G Go.Proofs
@[simp] theorem fieldOffT_140_0 : fieldOffT Try.prog 140 0 = some 0 := by kernel_rfl
@[simp] theorem fieldOffT_140_1 : fieldOffT Try.prog 140 1 = some 1 := by kernel_rfl
@[simp] theorem buildA_140 (ps : List (Nat × A)) : buildA Try.prog 140 ps = (fillA (fun i => ([(0, 1), (1, 1)] : List (Nat × Nat))[i]?) [A.sl true [], A.v (Value.int IntKind.i64 0)] ps).map A.agg := by kernel_rfl
@[simp] theorem fieldT_53_1 : fieldT Try.prog 53 1 = some (23, 1) := by kernel_rfl
@[simp] theorem fieldT_53_2 : fieldT Try.prog 53 2 = some (51, 2) := by kernel_rfl
end Go.Proofs.Ytehcobkphobjiaa

/-
  The functions' text as data, and the facts on the types that they use: written by a program of ours (gen2.py) off the translation.
-/
namespace Go.Proofs.Ytehcobkphobjiaa
set_option linter.unusedVariables false
set_option linter.unusedSimpArgs false
set_option maxRecDepth 20000
open Go Go.G Go.Proofs
@[simp] theorem und_36 : Try.prog.underlying 36 = some (.slice 41) := by kernel_rfl
@[simp] theorem szT_41 : szT Try.prog 41 = some 5 := by kernel_rfl
@[simp] theorem aggT_41 : aggT Try.prog 41 = some true := by kernel_rfl
@[simp] theorem zeroT_41 : zeroT Try.prog 41 = some (Value.agg #[Value.int IntKind.i64 0, Value.int IntKind.i64 0, Value.int IntKind.i64 0, Value.int IntKind.i64 0, Value.int IntKind.u64 0]) := by kernel_rfl
@[simp] theorem bytesT_41 : bytesT Try.prog 41 = some 40 := by kernel_rfl
@[simp] theorem fieldOffT_41_0 : fieldOffT Try.prog 41 0 = some 0 := by kernel_rfl
@[simp] theorem fieldOffT_41_1 : fieldOffT Try.prog 41 1 = some 1 := by kernel_rfl
@[simp] theorem fieldOffT_41_2 : fieldOffT Try.prog 41 2 = some 2 := by kernel_rfl
@[simp] theorem fieldOffT_41_3 : fieldOffT Try.prog 41 3 = some 3 := by kernel_rfl
@[simp] theorem fieldOffT_41_4 : fieldOffT Try.prog 41 4 = some 4 := by kernel_rfl
@[simp] theorem fieldOffT_44_0 : fieldOffT Try.prog 44 0 = some 0 := by kernel_rfl
@[simp] theorem fieldOffT_44_1 : fieldOffT Try.prog 44 1 = some 1 := by kernel_rfl
@[simp] theorem fieldOffT_44_2 : fieldOffT Try.prog 44 2 = some 2 := by kernel_rfl
@[simp] theorem fieldOffT_44_3 : fieldOffT Try.prog 44 3 = some 3 := by kernel_rfl
@[simp] theorem fieldOffT_113_1 : fieldOffT Try.prog 113 1 = some 1 := by kernel_rfl
@[simp] theorem fieldOffT_113_2 : fieldOffT Try.prog 113 2 = some 2 := by kernel_rfl
@[simp] theorem fieldOffT_113_3 : fieldOffT Try.prog 113 3 = some 3 := by kernel_rfl
@[simp] theorem buildA_44 (ps : List (Nat × A)) : buildA Try.prog 44 ps = (fillA (fun i => ([(0, 1), (1, 1), (2, 1), (3, 1)] : List (Nat × Nat))[i]?) [A.sl true [], A.v (Value.int IntKind.i64 0), A.v (Value.int IntKind.i64 0), A.v (Value.int IntKind.i64 0)] ps).map A.agg := by kernel_rfl
end Go.Proofs.Ytehcobkphobjiaa

/-
  The functions' text as data, and the facts on the types that they use: written by a program of ours (gen2.py) off the translation.
-/
namespace Go.Proofs.Ytehcobkphobjiaa
set_option linter.unusedVariables false
set_option linter.unusedSimpArgs false
set_option maxRecDepth 20000
open Go Go.G Go.Proofs
@[simp] theorem szT_38 : szT Try.prog 38 = some 1 := by kernel_rfl
@[simp] theorem aggT_38 : aggT Try.prog 38 = some false := by kernel_rfl
@[simp] theorem fieldOffT_125_0 : fieldOffT Try.prog 125 0 = some 0 := by kernel_rfl
@[simp] theorem fieldOffT_125_1 : fieldOffT Try.prog 125 1 = some 1 := by kernel_rfl
@[simp] theorem buildA_125 (ps : List (Nat × A)) : buildA Try.prog 125 ps = (fillA (fun i => ([(0, 1), (1, 1)] : List (Nat × Nat))[i]?) [A.v (Value.pointer none), A.v (Value.bool false)] ps).map A.agg := by kernel_rfl
end Go.Proofs.Ytehcobkphobjiaa

/-
  The functions' text as data, and the facts on the types that they use: written by a program of ours (gen2.py) off the translation.
-/
namespace Go.Proofs.Ytehcobkphobjiaa
set_option linter.unusedVariables false
set_option linter.unusedSimpArgs false
set_option maxRecDepth 20000
open Go Go.G Go.Proofs
@[simp] theorem und_90 : Try.prog.underlying 90 = some (.slice 196) := by kernel_rfl
@[simp] theorem und_91 : Try.prog.underlying 91 = some (.slice 199) := by kernel_rfl
@[simp] theorem und_92 : Try.prog.underlying 92 = some (.slice 202) := by kernel_rfl
@[simp] theorem szT_90 : szT Try.prog 90 = some 1 := by kernel_rfl
@[simp] theorem szT_91 : szT Try.prog 91 = some 1 := by kernel_rfl
@[simp] theorem szT_92 : szT Try.prog 92 = some 1 := by kernel_rfl
@[simp] theorem szT_94 : szT Try.prog 94 = some 11 := by kernel_rfl
@[simp] theorem szT_196 : szT Try.prog 196 = some 4 := by kernel_rfl
@[simp] theorem szT_199 : szT Try.prog 199 = some 12 := by kernel_rfl
@[simp] theorem szT_202 : szT Try.prog 202 = some 14 := by kernel_rfl
@[simp] theorem aggT_90 : aggT Try.prog 90 = some false := by kernel_rfl
@[simp] theorem aggT_91 : aggT Try.prog 91 = some false := by kernel_rfl
@[simp] theorem aggT_92 : aggT Try.prog 92 = some false := by kernel_rfl
@[simp] theorem aggT_94 : aggT Try.prog 94 = some true := by kernel_rfl
@[simp] theorem aggT_196 : aggT Try.prog 196 = some true := by kernel_rfl
@[simp] theorem aggT_199 : aggT Try.prog 199 = some true := by kernel_rfl
@[simp] theorem aggT_202 : aggT Try.prog 202 = some true := by kernel_rfl
@[simp] theorem zeroT_196 : zeroT Try.prog 196 = some (Value.agg #[Value.int IntKind.i64 0, Value.int IntKind.u8 0, Value.int IntKind.u64 0, Value.int IntKind.u64 0]) := by kernel_rfl
@[simp] theorem zeroT_199 : zeroT Try.prog 199 = some (Value.agg #[Value.int IntKind.i64 0, Value.int IntKind.i64 0, Value.int IntKind.i64 0, Value.slice none 0 0, Value.slice none 0 0, Value.int IntKind.i64 0, Value.slice none 0 0, Value.slice none 0 0, Value.slice none 0 0, Value.slice none 0 0, Value.int IntKind.i64 0, Value.slice none 0 0]) := by kernel_rfl
@[simp] theorem zeroT_202 : zeroT Try.prog 202 = some (Value.agg #[Value.int IntKind.i64 0, Value.int IntKind.i64 0, Value.slice none 0 0, Value.int IntKind.i64 0, Value.int IntKind.i64 0, Value.slice none 0 0, Value.slice none 0 0, Value.int IntKind.i64 0, Value.slice none 0 0, Value.slice none 0 0, Value.slice none 0 0, Value.slice none 0 0, Value.int IntKind.i64 0, Value.slice none 0 0]) := by kernel_rfl
@[simp] theorem bytesT_196 : bytesT Try.prog 196 = some 32 := by kernel_rfl
@[simp] theorem bytesT_199 : bytesT Try.prog 199 = some 208 := by kernel_rfl
@[simp] theorem bytesT_202 : bytesT Try.prog 202 = some 240 := by kernel_rfl
@[simp] theorem fieldOffT_94_0 : fieldOffT Try.prog 94 0 = some 0 := by kernel_rfl
@[simp] theorem fieldOffT_94_1 : fieldOffT Try.prog 94 1 = some 1 := by kernel_rfl
@[simp] theorem fieldOffT_94_2 : fieldOffT Try.prog 94 2 = some 4 := by kernel_rfl
@[simp] theorem fieldOffT_94_3 : fieldOffT Try.prog 94 3 = some 7 := by kernel_rfl
@[simp] theorem fieldOffT_94_4 : fieldOffT Try.prog 94 4 = some 8 := by kernel_rfl
@[simp] theorem fieldOffT_94_5 : fieldOffT Try.prog 94 5 = some 9 := by kernel_rfl
@[simp] theorem fieldOffT_94_6 : fieldOffT Try.prog 94 6 = some 10 := by kernel_rfl
@[simp] theorem fieldOffT_196_0 : fieldOffT Try.prog 196 0 = some 0 := by kernel_rfl
@[simp] theorem fieldOffT_196_1 : fieldOffT Try.prog 196 1 = some 1 := by kernel_rfl
@[simp] theorem fieldOffT_196_2 : fieldOffT Try.prog 196 2 = some 2 := by kernel_rfl
@[simp] theorem fieldOffT_196_3 : fieldOffT Try.prog 196 3 = some 3 := by kernel_rfl
@[simp] theorem fieldOffT_199_0 : fieldOffT Try.prog 199 0 = some 0 := by kernel_rfl
@[simp] theorem fieldOffT_199_1 : fieldOffT Try.prog 199 1 = some 1 := by kernel_rfl
@[simp] theorem fieldOffT_202_0 : fieldOffT Try.prog 202 0 = some 0 := by kernel_rfl
@[simp] theorem fieldOffT_202_1 : fieldOffT Try.prog 202 1 = some 1 := by kernel_rfl
@[simp] theorem fieldOffT_202_2 : fieldOffT Try.prog 202 2 = some 2 := by kernel_rfl
@[simp] theorem fieldOffT_202_3 : fieldOffT Try.prog 202 3 = some 3 := by kernel_rfl
/-- cento/centoref20.none -/
def c_centoref20_none : CC :=
  .seq (.reg [cn (some 1) (.box 53 (.tmp 0)) none [0],
      co (some 2) (.assign (.const (.bool false))) none] [1])
  (.seq (.reg [co (some 3) (.fieldAddr 53 (.tmp 1) 0) none,
      co (some 4) (.load 3 (.tmp 3)) none,
      co (some 5) (.binOp .eql 3 (.tmp 4) (.const (.int .i64 0)) 3) none,
      co (some 6) (.move (.tmp 5)) none,
      co (some 7) (.fieldAddr 53 (.tmp 1) 1) (some (6, true)),
      co (some 8) (.load 23 (.tmp 7)) (some (6, true)),
      co (some 9) (.call { callee := (.builtin .len), args := #[(.tmp 8)], argTypes := #[23] }) (some (6, true)),
      co (some 10) (.fieldAddr 53 (.tmp 1) 2) (some (6, true)),
      co (some 11) (.load 51 (.tmp 10)) (some (6, true)),
      co (some 12) (.call { callee := (.builtin .len), args := #[(.tmp 11)], argTypes := #[51] }) (some (6, true)),
      co (some 13) (.binOp .add 3 (.tmp 9) (.tmp 12) 3) (some (6, true)),
      co (some 14) (.binOp .eql 3 (.tmp 13) (.const (.int .i64 0)) 3) (some (6, true)),
      co (some 15) (.pick (.tmp 6) (.tmp 14) (.const (.bool false))) none,
      co (some 2) (.assign (.tmp 15)) none] [2])
  (.ret))
theorem t_centoref20_none : Txt Try.prog 138 16 [(.tmp 2)] c_centoref20_none := txt_of (code := Try.f138.body.getD .ret) mixed (by kernel_rfl) Try.func138 (by kernel_rfl) Try.ntmps138 (by kernel_rfl) (ls := [([1], [(0, [0])]), ([], []), ([2], []), ([], [])]) (by kernel_rfl)
/-- cento/centoref20.within -/
def c_centoref20_within : CC :=
  .seq (.reg [co (some 4) (.assign (.const (.bool false))) none] [0, 1])
  (.seq (.reg [co (some 5) (.move (.tmp 0)) none,
      co (some 6) (.move (.tmp 1)) none,
      co (some 7) (.call { callee := (.value (.func 148)), args := #[(.tmp 5), (.const (.int .u64 0)), (.tmp 6)], argTypes := #[26, 26, 5] }) none,
      co (some 8) (.binOp .eql 26 (.tmp 7) (.const (.int .u64 0)) 26) none,
      co (some 4) (.assign (.tmp 8)) none] [4])
  (.ret))
theorem t_centoref20_within : Txt Try.prog 139 9 [(.tmp 4)] c_centoref20_within := txt_of (code := Try.f139.body.getD .ret) mixed (by kernel_rfl) Try.func139 (by kernel_rfl) Try.ntmps139 (by kernel_rfl) (ls := [([0, 1], []), ([], []), ([4], []), ([], [])]) (by kernel_rfl)
/-- cento/centoref20.same -/
def c_centoref20_same : CC :=
  .seq (.reg [cn (some 1) (.box 94 (.tmp 0)) none [0],
      co (some 2) (.assign (.const (.bool false))) none] [1])
  (.seq (.reg [co (some 3) (.fieldAddr 94 (.tmp 1) 0) none,
      co (some 4) (.load 3 (.tmp 3)) none,
      co (some 5) (.binOp .eql 3 (.tmp 4) (.const (.int .i64 0)) 3) none,
      co (some 6) (.move (.tmp 5)) none,
      co (some 7) (.fieldAddr 94 (.tmp 1) 1) (some (6, true)),
      co (some 8) (.load 53 (.tmp 7)) (some (6, true)),
      co (some 9) (.call { callee := (.value (.func 138)), args := #[(.tmp 8)], argTypes := #[53] }) (some (6, true)),
      co (some 10) (.pick (.tmp 6) (.tmp 9) (.const (.bool false))) none,
      co (some 11) (.move (.tmp 10)) none,
      co (some 12) (.fieldAddr 94 (.tmp 1) 2) (some (11, true)),
      co (some 13) (.load 53 (.tmp 12)) (some (11, true)),
      co (some 14) (.call { callee := (.value (.func 138)), args := #[(.tmp 13)], argTypes := #[53] }) (some (11, true)),
      co (some 15) (.pick (.tmp 11) (.tmp 14) (.const (.bool false))) none,
      co (some 16) (.move (.tmp 15)) none,
      co (some 17) (.fieldAddr 94 (.tmp 1) 3) (some (16, true)),
      co (some 18) (.load 90 (.tmp 17)) (some (16, true)),
      co (some 19) (.call { callee := (.builtin .len), args := #[(.tmp 18)], argTypes := #[90] }) (some (16, true)),
      co (some 20) (.fieldAddr 94 (.tmp 1) 4) (some (16, true)),
      co (some 21) (.load 91 (.tmp 20)) (some (16, true)),
      co (some 22) (.call { callee := (.builtin .len), args := #[(.tmp 21)], argTypes := #[91] }) (some (16, true)),
      co (some 23) (.binOp .add 3 (.tmp 19) (.tmp 22) 3) (some (16, true)),
      co (some 24) (.fieldAddr 94 (.tmp 1) 6) (some (16, true)),
      co (some 25) (.load 92 (.tmp 24)) (some (16, true)),
      co (some 26) (.call { callee := (.builtin .len), args := #[(.tmp 25)], argTypes := #[92] }) (some (16, true)),
      co (some 27) (.binOp .add 3 (.tmp 23) (.tmp 26) 3) (some (16, true)),
      co (some 28) (.binOp .eql 3 (.tmp 27) (.const (.int .i64 0)) 3) (some (16, true)),
      co (some 29) (.pick (.tmp 16) (.tmp 28) (.const (.bool false))) none,
      co (some 30) (.move (.tmp 29)) none,
      co (some 31) (.fieldAddr 94 (.tmp 1) 5) (some (30, true)),
      co (some 32) (.load 3 (.tmp 31)) (some (30, true)),
      co (some 33) (.binOp .eql 3 (.tmp 32) (.const (.int .i64 0)) 3) (some (30, true)),
      co (some 34) (.pick (.tmp 30) (.tmp 33) (.const (.bool false))) none,
      co (some 2) (.assign (.tmp 34)) none] [2])
  (.ret))
theorem t_centoref20_same : Txt Try.prog 180 35 [(.tmp 2)] c_centoref20_same := txt_of (code := Try.f180.body.getD .ret) mixed (by kernel_rfl) Try.func180 (by kernel_rfl) Try.ntmps180 (by kernel_rfl) (ls := [([1], [(0, [0])]), ([], []), ([2], []), ([], [])]) (by kernel_rfl)
def l1_centoref20_op : CC :=
  .seq (.seq (.reg [co (some 46) (.move (.tmp 7)) none,
        co (some 47) (.fieldAddr 202 (.tmp 4) 2) none,
        co (some 48) (.load 51 (.tmp 47)) none,
        co (some 49) (.call { callee := (.builtin .len), args := #[(.tmp 48)], argTypes := #[51] }) none,
        co (some 50) (.binOp .lss 3 (.tmp 46) (.tmp 49) 3) none] [0, 4, 7, 50])
    (.cond (.tmp 50)
      (.skip)
      (.exit 0)))
  (.keep [0, 4, 7] (.seq (.block 1
      (.seq (.reg [co (some 53) (.move (.tmp 0)) none,
          co (some 54) (.fieldAddr 202 (.tmp 4) 2) none,
          co (some 55) (.load 51 (.tmp 54)) none,
          co (some 56) (.move (.tmp 7)) none,
          co (some 57) (.move (.tmp 7)) none,
          co (some 58) (.binOp .add 3 (.tmp 57) (.const (.int .i64 1)) 3) none,
          co (some 59) (.slice 51 (.tmp 55) (some (.tmp 56)) (some (.tmp 58)) none) none,
          co (some 60) (.build 53 #[(0, (.tmp 53)), (2, (.tmp 59))]) none,
          co (some 61) (.call { callee := (.value (.func 69)), args := #[(.tmp 60), (.const (.int .i64 64))], argTypes := #[53, 3] }) none,
          co (some 62) (.unOp .not 4 (.tmp 61)) none] [0, 4, 7, 62])
      (.cond (.tmp 62)
        (.seq (.reg [co (some 6) (.assign (.const (.bool false))) none] [6])
        (.ret))
        (.skip))))
  (.keep [0, 4, 7] (.reg [co (some 51) (.move (.tmp 7)) none,
    co (some 52) (.binOp .add 3 (.tmp 51) (.const (.int .i64 1)) 3) none,
    co (some 7) (.assign (.tmp 52)) none] [0, 4, 7]))))
/-- cento/centoref20.op -/
def c_centoref20_op : CC :=
  .seq (.reg [cn (some 4) (.box 202 (.tmp 1)) none [0],
      co (some 6) (.assign (.const (.bool false))) none] [0, 2, 4])
  (.seq (.seq (.reg [co (some 8) (.fieldAddr 202 (.tmp 4) 0) none,
        co (some 9) (.load 3 (.tmp 8)) none,
        co (some 10) (.binOp .eql 3 (.tmp 9) (.const (.int .i64 0)) 3) none] [0, 2, 4, 10])
    (.cond (.tmp 10)
      (.seq (.reg [co (some 11) (.fieldAddr 202 (.tmp 4) 1) none,
          co (some 12) (.load 3 (.tmp 11)) none,
          co (some 13) (.binOp .geq 3 (.tmp 12) (.const (.int .i64 1)) 3) none,
          co (some 14) (.move (.tmp 13)) none,
          co (some 15) (.fieldAddr 202 (.tmp 4) 1) (some (14, true)),
          co (some 16) (.load 3 (.tmp 15)) (some (14, true)),
          co (some 17) (.binOp .leq 3 (.tmp 16) (.const (.int .i64 1048576)) 3) (some (14, true)),
          co (some 18) (.pick (.tmp 14) (.tmp 17) (.const (.bool false))) none,
          co (some 19) (.move (.tmp 18)) none,
          co (some 20) (.fieldAddr 202 (.tmp 4) 2) (some (19, true)),
          co (some 21) (.load 51 (.tmp 20)) (some (19, true)),
          co (some 22) (.call { callee := (.builtin .len), args := #[(.tmp 21)], argTypes := #[51] }) (some (19, true)),
          co (some 23) (.binOp .eql 3 (.tmp 22) (.const (.int .i64 0)) 3) (some (19, true)),
          co (some 24) (.pick (.tmp 19) (.tmp 23) (.const (.bool false))) none,
          co (some 25) (.move (.tmp 24)) none,
          co (some 26) (.fieldAddr 202 (.tmp 4) 3) (some (25, true)),
          co (some 27) (.load 94 (.tmp 26)) (some (25, true)),
          co (some 28) (.call { callee := (.value (.func 180)), args := #[(.tmp 27)], argTypes := #[94] }) (some (25, true)),
          co (some 29) (.pick (.tmp 25) (.tmp 28) (.const (.bool false))) none,
          co (some 6) (.assign (.tmp 29)) none] [6])
      (.ret))
      (.skip)))
  (.keep [0, 2, 4] (.seq (.seq (.reg [co (some 30) (.fieldAddr 202 (.tmp 4) 1) none,
        co (some 31) (.load 3 (.tmp 30)) none,
        co (some 32) (.binOp .neq 3 (.tmp 31) (.const (.int .i64 0)) 3) none,
        co (some 33) (.move (.tmp 32)) none,
        co (some 34) (.fieldAddr 202 (.tmp 4) 0) (some (33, false)),
        co (some 35) (.load 3 (.tmp 34)) (some (33, false)),
        co (some 36) (.binOp .lss 3 (.tmp 35) (.const (.int .i64 0)) 3) (some (33, false)),
        co (some 37) (.pick (.tmp 33) (.const (.bool true)) (.tmp 36)) none,
        co (some 38) (.move (.tmp 37)) none,
        co (some 39) (.fieldAddr 202 (.tmp 4) 0) (some (38, false)),
        co (some 40) (.load 3 (.tmp 39)) (some (38, false)),
        co (some 41) (.binOp .gtr 3 (.tmp 40) (.const (.int .i64 3)) 3) (some (38, false)),
        co (some 42) (.pick (.tmp 38) (.const (.bool true)) (.tmp 41)) none] [0, 2, 4, 42])
    (.cond (.tmp 42)
      (.seq (.reg [co (some 6) (.assign (.const (.bool false))) none] [6])
      (.ret))
      (.skip)))
  (.keep [0, 2, 4] (.seq (.seq (.reg [co (some 43) (.fieldAddr 202 (.tmp 4) 0) none,
        co (some 44) (.load 3 (.tmp 43)) none,
        co (some 45) (.binOp .lss 3 (.tmp 44) (.const (.int .i64 3)) 3) none] [0, 2, 4, 45])
    (.cond (.tmp 45)
      (.seq (.seq (.reg [co (some 7) (.assign (.const (.int .i64 0))) none] [0, 4, 7])
        (.block 0
          (.loop l1_centoref20_op)))
      (.keep [4] (.seq (.reg [co (some 63) (.fieldAddr 202 (.tmp 4) 2) none,
          co (some 64) (.load 51 (.tmp 63)) none,
          co (some 65) (.call { callee := (.builtin .len), args := #[(.tmp 64)], argTypes := #[51] }) none,
          co (some 66) (.binOp .gtr 3 (.tmp 65) (.const (.int .i64 0)) 3) none,
          co (some 67) (.move (.tmp 66)) none,
          co (some 68) (.fieldAddr 202 (.tmp 4) 3) (some (67, true)),
          co (some 69) (.load 94 (.tmp 68)) (some (67, true)),
          co (some 70) (.call { callee := (.value (.func 180)), args := #[(.tmp 69)], argTypes := #[94] }) (some (67, true)),
          co (some 71) (.pick (.tmp 67) (.tmp 70) (.const (.bool false))) none,
          co (some 6) (.assign (.tmp 71)) none] [6])
      (.ret))))
      (.skip)))
  (.keep [0, 2, 4] (.seq (.seq (.reg [co (some 72) (.fieldAddr 202 (.tmp 4) 2) none,
        co (some 73) (.load 51 (.tmp 72)) none,
        co (some 74) (.call { callee := (.builtin .len), args := #[(.tmp 73)], argTypes := #[51] }) none,
        co (some 75) (.binOp .gtr 3 (.tmp 74) (.const (.int .i64 0)) 3) none,
        co (some 76) (.move (.tmp 75)) none,
        co (some 77) (.fieldAddr 202 (.tmp 4) 3) (some (76, false)),
        co (some 78) (.fieldAddr 94 (.tmp 77) 0) (some (76, false)),
        co (some 79) (.load 3 (.tmp 78)) (some (76, false)),
        co (some 80) (.binOp .eql 3 (.tmp 79) (.const (.int .i64 0)) 3) (some (76, false)),
        co (some 81) (.pick (.tmp 76) (.const (.bool true)) (.tmp 80)) none,
        co (some 82) (.move (.tmp 81)) none,
        co (some 83) (.move (.tmp 0)) (some (82, false)),
        co (some 84) (.binOp .leq 3 (.tmp 83) (.const (.int .i64 7)) 3) (some (82, false)),
        co (some 85) (.pick (.tmp 82) (.const (.bool true)) (.tmp 84)) none,
        co (some 86) (.move (.tmp 85)) none,
        co (some 87) (.fieldAddr 202 (.tmp 4) 3) (some (86, false)),
        co (some 88) (.load 94 (.tmp 87)) (some (86, false)),
        co (some 89) (.move (.tmp 2)) (some (86, false)),
        co (some 90) (.call { callee := (.value (.func 89)), args := #[(.tmp 88), (.tmp 89)], argTypes := #[94, 3] }) (some (86, false)),
        co (some 91) (.unOp .not 4 (.tmp 90)) (some (86, false)),
        co (some 92) (.pick (.tmp 86) (.const (.bool true)) (.tmp 91)) none] [0, 4, 92])
    (.cond (.tmp 92)
      (.seq (.reg [co (some 6) (.assign (.const (.bool false))) none] [6])
      (.ret))
      (.skip)))
  (.keep [0, 4] (.seq (.reg [co (some 93) (.move (.tmp 0)) none,
      co (some 94) (.binOp .eql 3 (.tmp 93) (.const (.int .i64 8)) 3) none,
      co (some 95) (.move (.tmp 94)) none,
      co (some 96) (.fieldAddr 202 (.tmp 4) 3) (some (95, false)),
      co (some 97) (.fieldAddr 94 (.tmp 96) 0) (some (95, false)),
      co (some 98) (.load 3 (.tmp 97)) (some (95, false)),
      co (some 99) (.binOp .eql 3 (.tmp 98) (.const (.int .i64 2)) 3) (some (95, false)),
      co (some 100) (.pick (.tmp 95) (.const (.bool true)) (.tmp 99)) none,
      co (some 101) (.move (.tmp 100)) none,
      co (some 102) (.fieldAddr 202 (.tmp 4) 3) (some (101, false)),
      co (some 103) (.fieldAddr 94 (.tmp 102) 0) (some (101, false)),
      co (some 104) (.load 3 (.tmp 103)) (some (101, false)),
      co (some 105) (.binOp .eql 3 (.tmp 104) (.const (.int .i64 1)) 3) (some (101, false)),
      co (some 106) (.move (.tmp 105)) (some (101, false)),
      co (some 107) (.fieldAddr 202 (.tmp 4) 3) (some (106, true)),
      co (some 108) (.fieldAddr 94 (.tmp 107) 1) (some (106, true)),
      co (some 109) (.fieldAddr 53 (.tmp 108) 0) (some (106, true)),
      co (some 110) (.load 3 (.tmp 109)) (some (106, true)),
      co (some 111) (.binOp .eql 3 (.tmp 110) (.const (.int .i64 1)) 3) (some (106, true)),
      co (some 112) (.pick (.tmp 106) (.tmp 111) (.const (.bool false))) (some (101, false)),
      co (some 113) (.move (.tmp 112)) (some (101, false)),
      co (some 114) (.fieldAddr 202 (.tmp 4) 3) (some (113, true)),
      co (some 115) (.fieldAddr 94 (.tmp 114) 2) (some (113, true)),
      co (some 116) (.fieldAddr 53 (.tmp 115) 0) (some (113, true)),
      co (some 117) (.load 3 (.tmp 116)) (some (113, true)),
      co (some 118) (.binOp .eql 3 (.tmp 117) (.const (.int .i64 1)) 3) (some (113, true)),
      co (some 119) (.pick (.tmp 113) (.tmp 118) (.const (.bool false))) (some (101, false)),
      co (some 120) (.pick (.tmp 101) (.const (.bool true)) (.tmp 119)) none,
      co (some 6) (.assign (.tmp 120)) none] [6])
  (.ret))))))))))
theorem t_centoref20_op : Txt Try.prog 140 121 [(.tmp 6)] c_centoref20_op := txt_of (code := Try.f140.body.getD .ret) mixed (by kernel_rfl) Try.func140 (by kernel_rfl) Try.ntmps140 (by kernel_rfl) (ls := [([0, 2, 4], [(0, [0])]), ([], []), ([0, 2, 4, 10], []), ([], []), ([6], []), ([], []), ([999999, 0, 2, 4], []), ([0, 2, 4, 42], []), ([], []), ([6], []), ([], []), ([999999, 0, 2, 4], []), ([0, 2, 4, 45], []), ([], []), ([0, 4, 7], []), ([], []), ([0, 4, 7, 50], []), ([], []), ([999999, 0, 4, 7], []), ([0, 4, 7, 62], []), ([], []), ([6], []), ([], []), ([999999, 0, 4, 7], []), ([0, 4, 7], []), ([999999, 4], []), ([6], []), ([], []), ([999999, 0, 2, 4], []), ([0, 4, 92], []), ([], []), ([6], []), ([], []), ([999999, 0, 4], []), ([6], []), ([], [])]) (by kernel_rfl)
def l1_centoref20_Right : CC :=
  .seq (.seq (.reg [co (some 93) (.move (.tmp 6)) none,
        co (some 94) (.fieldAddr 94 (.tmp 2) 3) none,
        co (some 95) (.load 90 (.tmp 94)) none,
        co (some 96) (.call { callee := (.builtin .len), args := #[(.tmp 95)], argTypes := #[90] }) none,
        co (some 97) (.binOp .lss 3 (.tmp 93) (.tmp 96) 3) none] [1, 2, 5, 6, 97])
    (.cond (.tmp 97)
      (.skip)
      (.exit 0)))
  (.keep [1, 2, 5, 6] (.seq (.block 1
      (.seq (.reg [co (some 100) (.fieldAddr 94 (.tmp 2) 3) none,
          co (some 101) (.load 90 (.tmp 100)) none,
          co (some 102) (.move (.tmp 6)) none,
          co (some 103) (.indexAddr 90 (.tmp 101) (.tmp 102)) none,
          co (some 104) (.load 196 (.tmp 103)) none,
          cn (some 7) (.alloc 196) none [1],
          co none (.store 196 (.tmp 7) (.tmp 104)) none] [1, 2, 5, 6, 7])
      (.seq (.seq (.reg [co (some 105) (.fieldAddr 196 (.tmp 7) 0) none,
            co (some 106) (.load 3 (.tmp 105)) none,
            co (some 107) (.move (.tmp 5)) none,
            co (some 108) (.binOp .leq 3 (.tmp 106) (.tmp 107) 3) none,
            co (some 109) (.move (.tmp 108)) none,
            co (some 110) (.fieldAddr 196 (.tmp 7) 0) (some (109, false)),
            co (some 111) (.load 3 (.tmp 110)) (some (109, false)),
            co (some 112) (.binOp .gtr 3 (.tmp 111) (.const (.int .i64 65534)) 3) (some (109, false)),
            co (some 113) (.pick (.tmp 109) (.const (.bool true)) (.tmp 112)) none,
            co (some 114) (.move (.tmp 113)) none,
            co (some 115) (.fieldAddr 196 (.tmp 7) 1) (some (114, false)),
            co (some 116) (.load 5 (.tmp 115)) (some (114, false)),
            co (some 117) (.binOp .eql 5 (.tmp 116) (.const (.int .u8 0)) 5) (some (114, false)),
            co (some 118) (.pick (.tmp 114) (.const (.bool true)) (.tmp 117)) none,
            co (some 119) (.move (.tmp 118)) none,
            co (some 120) (.fieldAddr 196 (.tmp 7) 2) (some (119, false)),
            co (some 121) (.load 26 (.tmp 120)) (some (119, false)),
            co (some 122) (.fieldAddr 196 (.tmp 7) 1) (some (119, false)),
            co (some 123) (.load 5 (.tmp 122)) (some (119, false)),
            co (some 124) (.call { callee := (.value (.func 139)), args := #[(.tmp 121), (.tmp 123)], argTypes := #[26, 5] }) (some (119, false)),
            co (some 125) (.unOp .not 4 (.tmp 124)) (some (119, false)),
            co (some 126) (.pick (.tmp 119) (.const (.bool true)) (.tmp 125)) none,
            co (some 127) (.move (.tmp 126)) none,
            co (some 128) (.fieldAddr 196 (.tmp 7) 3) (some (127, false)),
            co (some 129) (.load 26 (.tmp 128)) (some (127, false)),
            co (some 130) (.fieldAddr 196 (.tmp 7) 1) (some (127, false)),
            co (some 131) (.load 5 (.tmp 130)) (some (127, false)),
            co (some 132) (.call { callee := (.value (.func 139)), args := #[(.tmp 129), (.tmp 131)], argTypes := #[26, 5] }) (some (127, false)),
            co (some 133) (.unOp .not 4 (.tmp 132)) (some (127, false)),
            co (some 134) (.pick (.tmp 127) (.const (.bool true)) (.tmp 133)) none] [1, 2, 6, 7, 134])
        (.cond (.tmp 134)
          (.seq (.reg [co (some 4) (.assign (.const (.bool false))) none] [4])
          (.ret))
          (.skip)))
      (.keep [1, 2, 6, 7] (.reg [co (some 135) (.fieldAddr 196 (.tmp 7) 0) none,
        co (some 136) (.load 3 (.tmp 135)) none,
        co (some 5) (.assign (.tmp 136)) none] [1, 2, 5, 6])))))
  (.keep [1, 2, 5, 6] (.reg [co (some 98) (.move (.tmp 6)) none,
    co (some 99) (.binOp .add 3 (.tmp 98) (.const (.int .i64 1)) 3) none,
    co (some 6) (.assign (.tmp 99)) none] [1, 2, 5, 6]))))
def l2_centoref20_Right : CC :=
  .seq (.seq (.reg [co (some 137) (.move (.tmp 8)) none,
        co (some 138) (.fieldAddr 94 (.tmp 2) 4) none,
        co (some 139) (.load 91 (.tmp 138)) none,
        co (some 140) (.call { callee := (.builtin .len), args := #[(.tmp 139)], argTypes := #[91] }) none,
        co (some 141) (.binOp .lss 3 (.tmp 137) (.tmp 140) 3) none] [1, 2, 5, 8, 141])
    (.cond (.tmp 141)
      (.skip)
      (.exit 2)))
  (.keep [1, 2, 5, 8] (.seq (.block 3
      (.seq (.reg [co (some 144) (.fieldAddr 94 (.tmp 2) 4) none,
          co (some 145) (.load 91 (.tmp 144)) none,
          co (some 146) (.move (.tmp 8)) none,
          co (some 147) (.indexAddr 91 (.tmp 145) (.tmp 146)) none,
          co (some 148) (.load 199 (.tmp 147)) none,
          cn (some 9) (.alloc 199) none [2],
          co none (.store 199 (.tmp 9) (.tmp 148)) none] [1, 2, 5, 8, 9])
      (.seq (.seq (.reg [co (some 149) (.fieldAddr 199 (.tmp 9) 0) none,
            co (some 150) (.load 3 (.tmp 149)) none,
            co (some 151) (.move (.tmp 5)) none,
            co (some 152) (.binOp .leq 3 (.tmp 150) (.tmp 151) 3) none,
            co (some 153) (.move (.tmp 152)) none,
            co (some 154) (.fieldAddr 199 (.tmp 9) 0) (some (153, false)),
            co (some 155) (.load 3 (.tmp 154)) (some (153, false)),
            co (some 156) (.binOp .gtr 3 (.tmp 155) (.const (.int .i64 65534)) 3) (some (153, false)),
            co (some 157) (.pick (.tmp 153) (.const (.bool true)) (.tmp 156)) none,
            co (some 158) (.move (.tmp 157)) none,
            co (some 159) (.fieldAddr 199 (.tmp 9) 1) (some (158, false)),
            co (some 160) (.fieldAddr 94 (.tmp 159) 0) (some (158, false)),
            co (some 161) (.load 3 (.tmp 160)) (some (158, false)),
            co (some 162) (.binOp .eql 3 (.tmp 161) (.const (.int .i64 0)) 3) (some (158, false)),
            co (some 163) (.pick (.tmp 158) (.const (.bool true)) (.tmp 162)) none,
            co (some 164) (.move (.tmp 163)) none,
            co (some 165) (.fieldAddr 199 (.tmp 9) 1) (some (164, false)),
            co (some 166) (.load 94 (.tmp 165)) (some (164, false)),
            co (some 167) (.move (.tmp 1)) (some (164, false)),
            co (some 168) (.binOp .sub 3 (.tmp 167) (.const (.int .i64 1)) 3) (some (164, false)),
            co (some 169) (.call { callee := (.value (.func 89)), args := #[(.tmp 166), (.tmp 168)], argTypes := #[94, 3] }) (some (164, false)),
            co (some 170) (.unOp .not 4 (.tmp 169)) (some (164, false)),
            co (some 171) (.pick (.tmp 164) (.const (.bool true)) (.tmp 170)) none] [1, 2, 8, 9, 171])
        (.cond (.tmp 171)
          (.seq (.reg [co (some 4) (.assign (.const (.bool false))) none] [4])
          (.ret))
          (.skip)))
      (.keep [1, 2, 8, 9] (.reg [co (some 172) (.fieldAddr 199 (.tmp 9) 0) none,
        co (some 173) (.load 3 (.tmp 172)) none,
        co (some 5) (.assign (.tmp 173)) none] [1, 2, 5, 8])))))
  (.keep [1, 2, 5, 8] (.reg [co (some 142) (.move (.tmp 8)) none,
    co (some 143) (.binOp .add 3 (.tmp 142) (.const (.int .i64 1)) 3) none,
    co (some 8) (.assign (.tmp 143)) none] [1, 2, 5, 8]))))
def l3_centoref20_Right : CC :=
  .seq (.seq (.reg [co (some 187) (.move (.tmp 10)) none,
        co (some 188) (.fieldAddr 94 (.tmp 2) 6) none,
        co (some 189) (.load 92 (.tmp 188)) none,
        co (some 190) (.call { callee := (.builtin .len), args := #[(.tmp 189)], argTypes := #[92] }) none,
        co (some 191) (.binOp .lss 3 (.tmp 187) (.tmp 190) 3) none] [1, 2, 10, 191])
    (.cond (.tmp 191)
      (.skip)
      (.exit 4)))
  (.keep [1, 2, 10] (.seq (.block 5
      (.seq (.reg [co (some 194) (.fieldAddr 94 (.tmp 2) 5) none,
          co (some 195) (.load 3 (.tmp 194)) none,
          co (some 196) (.fieldAddr 94 (.tmp 2) 6) none,
          co (some 197) (.load 92 (.tmp 196)) none,
          co (some 198) (.move (.tmp 10)) none,
          co (some 199) (.indexAddr 92 (.tmp 197) (.tmp 198)) none,
          co (some 200) (.load 202 (.tmp 199)) none,
          co (some 201) (.move (.tmp 1)) none,
          co (some 202) (.binOp .sub 3 (.tmp 201) (.const (.int .i64 1)) 3) none,
          co (some 203) (.call { callee := (.value (.func 140)), args := #[(.tmp 195), (.tmp 200), (.tmp 202)], argTypes := #[3, 202, 3] }) none,
          co (some 204) (.unOp .not 4 (.tmp 203)) none] [1, 2, 10, 204])
      (.cond (.tmp 204)
        (.seq (.reg [co (some 4) (.assign (.const (.bool false))) none] [4])
        (.ret))
        (.skip))))
  (.keep [1, 2, 10] (.reg [co (some 192) (.move (.tmp 10)) none,
    co (some 193) (.binOp .add 3 (.tmp 192) (.const (.int .i64 1)) 3) none,
    co (some 10) (.assign (.tmp 193)) none] [1, 2, 10]))))
/-- cento/centoref20.Right -/
def c_centoref20_Right : CC :=
  .seq (.reg [cn (some 2) (.box 94 (.tmp 0)) none [0],
      co (some 4) (.assign (.const (.bool false))) none] [1, 2])
  (.seq (.seq (.reg [co (some 13) (.move (.tmp 1)) none,
        co (some 14) (.binOp .eql 3 (.tmp 13) (.const (.int .i64 0)) 3) none,
        co (some 15) (.move (.tmp 14)) none,
        co (some 16) (.fieldAddr 94 (.tmp 2) 0) (some (15, false)),
        co (some 17) (.load 3 (.tmp 16)) (some (15, false)),
        co (some 18) (.binOp .lss 3 (.tmp 17) (.const (.int .i64 0)) 3) (some (15, false)),
        co (some 19) (.pick (.tmp 15) (.const (.bool true)) (.tmp 18)) none,
        co (some 20) (.move (.tmp 19)) none,
        co (some 21) (.fieldAddr 94 (.tmp 2) 0) (some (20, false)),
        co (some 22) (.load 3 (.tmp 21)) (some (20, false)),
        co (some 23) (.binOp .gtr 3 (.tmp 22) (.const (.int .i64 3)) 3) (some (20, false)),
        co (some 24) (.pick (.tmp 20) (.const (.bool true)) (.tmp 23)) none] [1, 2, 24])
    (.cond (.tmp 24)
      (.seq (.reg [co (some 4) (.assign (.const (.bool false))) none] [4])
      (.ret))
      (.skip)))
  (.keep [1, 2] (.seq (.seq (.reg [co (some 25) (.fieldAddr 94 (.tmp 2) 0) none,
        co (some 26) (.load 3 (.tmp 25)) none,
        co (some 27) (.binOp .neq 3 (.tmp 26) (.const (.int .i64 1)) 3) none,
        co (some 28) (.move (.tmp 27)) none,
        co (some 29) (.fieldAddr 94 (.tmp 2) 1) (some (28, true)),
        co (some 30) (.load 53 (.tmp 29)) (some (28, true)),
        co (some 31) (.call { callee := (.value (.func 138)), args := #[(.tmp 30)], argTypes := #[53] }) (some (28, true)),
        co (some 32) (.move (.tmp 31)) (some (28, true)),
        co (some 33) (.fieldAddr 94 (.tmp 2) 2) (some (32, true)),
        co (some 34) (.load 53 (.tmp 33)) (some (32, true)),
        co (some 35) (.call { callee := (.value (.func 138)), args := #[(.tmp 34)], argTypes := #[53] }) (some (32, true)),
        co (some 36) (.pick (.tmp 32) (.tmp 35) (.const (.bool false))) (some (28, true)),
        co (some 37) (.unOp .not 4 (.tmp 36)) (some (28, true)),
        co (some 38) (.pick (.tmp 28) (.tmp 37) (.const (.bool false))) none,
        co (some 39) (.move (.tmp 38)) none,
        co (some 40) (.fieldAddr 94 (.tmp 2) 0) (some (39, false)),
        co (some 41) (.load 3 (.tmp 40)) (some (39, false)),
        co (some 42) (.binOp .neq 3 (.tmp 41) (.const (.int .i64 2)) 3) (some (39, false)),
        co (some 43) (.move (.tmp 42)) (some (39, false)),
        co (some 44) (.fieldAddr 94 (.tmp 2) 3) (some (43, true)),
        co (some 45) (.load 90 (.tmp 44)) (some (43, true)),
        co (some 46) (.call { callee := (.builtin .len), args := #[(.tmp 45)], argTypes := #[90] }) (some (43, true)),
        co (some 47) (.fieldAddr 94 (.tmp 2) 4) (some (43, true)),
        co (some 48) (.load 91 (.tmp 47)) (some (43, true)),
        co (some 49) (.call { callee := (.builtin .len), args := #[(.tmp 48)], argTypes := #[91] }) (some (43, true)),
        co (some 50) (.binOp .add 3 (.tmp 46) (.tmp 49) 3) (some (43, true)),
        co (some 51) (.binOp .gtr 3 (.tmp 50) (.const (.int .i64 0)) 3) (some (43, true)),
        co (some 52) (.pick (.tmp 43) (.tmp 51) (.const (.bool false))) (some (39, false)),
        co (some 53) (.pick (.tmp 39) (.const (.bool true)) (.tmp 52)) none,
        co (some 54) (.move (.tmp 53)) none,
        co (some 55) (.fieldAddr 94 (.tmp 2) 0) (some (54, false)),
        co (some 56) (.load 3 (.tmp 55)) (some (54, false)),
        co (some 57) (.binOp .neq 3 (.tmp 56) (.const (.int .i64 3)) 3) (some (54, false)),
        co (some 58) (.move (.tmp 57)) (some (54, false)),
        co (some 59) (.fieldAddr 94 (.tmp 2) 5) (some (58, true)),
        co (some 60) (.load 3 (.tmp 59)) (some (58, true)),
        co (some 61) (.binOp .neq 3 (.tmp 60) (.const (.int .i64 0)) 3) (some (58, true)),
        co (some 62) (.move (.tmp 61)) (some (58, true)),
        co (some 63) (.fieldAddr 94 (.tmp 2) 6) (some (62, false)),
        co (some 64) (.load 92 (.tmp 63)) (some (62, false)),
        co (some 65) (.call { callee := (.builtin .len), args := #[(.tmp 64)], argTypes := #[92] }) (some (62, false)),
        co (some 66) (.binOp .gtr 3 (.tmp 65) (.const (.int .i64 0)) 3) (some (62, false)),
        co (some 67) (.pick (.tmp 62) (.const (.bool true)) (.tmp 66)) (some (58, true)),
        co (some 68) (.pick (.tmp 58) (.tmp 67) (.const (.bool false))) (some (54, false)),
        co (some 69) (.pick (.tmp 54) (.const (.bool true)) (.tmp 68)) none] [1, 2, 69])
    (.cond (.tmp 69)
      (.seq (.reg [co (some 4) (.assign (.const (.bool false))) none] [4])
      (.ret))
      (.skip)))
  (.keep [1, 2] (.seq (.seq (.reg [co (some 70) (.fieldAddr 94 (.tmp 2) 0) none,
        co (some 71) (.load 3 (.tmp 70)) none,
        co (some 72) (.binOp .eql 3 (.tmp 71) (.const (.int .i64 1)) 3) none] [1, 2, 72])
    (.cond (.tmp 72)
      (.seq (.reg [co (some 73) (.fieldAddr 94 (.tmp 2) 1) none,
          co (some 74) (.load 53 (.tmp 73)) none,
          co (some 75) (.call { callee := (.value (.func 69)), args := #[(.tmp 74), (.const (.int .i64 64))], argTypes := #[53, 3] }) none,
          co (some 76) (.move (.tmp 75)) none,
          co (some 77) (.fieldAddr 94 (.tmp 2) 2) (some (76, true)),
          co (some 78) (.load 53 (.tmp 77)) (some (76, true)),
          co (some 79) (.call { callee := (.value (.func 69)), args := #[(.tmp 78), (.const (.int .i64 64))], argTypes := #[53, 3] }) (some (76, true)),
          co (some 80) (.pick (.tmp 76) (.tmp 79) (.const (.bool false))) none,
          co (some 81) (.move (.tmp 80)) none,
          co (some 82) (.fieldAddr 94 (.tmp 2) 1) (some (81, true)),
          co (some 83) (.fieldAddr 53 (.tmp 82) 0) (some (81, true)),
          co (some 84) (.load 3 (.tmp 83)) (some (81, true)),
          co (some 85) (.binOp .neq 3 (.tmp 84) (.const (.int .i64 10)) 3) (some (81, true)),
          co (some 86) (.pick (.tmp 81) (.tmp 85) (.const (.bool false))) none,
          co (some 87) (.move (.tmp 86)) none,
          co (some 88) (.fieldAddr 94 (.tmp 2) 2) (some (87, true)),
          co (some 89) (.fieldAddr 53 (.tmp 88) 0) (some (87, true)),
          co (some 90) (.load 3 (.tmp 89)) (some (87, true)),
          co (some 91) (.binOp .neq 3 (.tmp 90) (.const (.int .i64 10)) 3) (some (87, true)),
          co (some 92) (.pick (.tmp 87) (.tmp 91) (.const (.bool false))) none,
          co (some 4) (.assign (.tmp 92)) none] [4])
      (.ret))
      (.skip)))
  (.keep [1, 2] (.seq (.reg [co (some 5) (.assign (.const (.int .i64 (-1)))) none] [1, 2, 5])
  (.seq (.seq (.reg [co (some 6) (.assign (.const (.int .i64 0))) none] [1, 2, 5, 6])
    (.block 0
      (.loop l1_centoref20_Right)))
  (.keep [1, 2] (.seq (.reg [co (some 5) (.assign (.const (.int .i64 (-1)))) none] [1, 2, 5])
  (.seq (.seq (.reg [co (some 8) (.assign (.const (.int .i64 0))) none] [1, 2, 5, 8])
    (.block 2
      (.loop l2_centoref20_Right)))
  (.keep [1, 2] (.seq (.seq (.reg [co (some 174) (.fieldAddr 94 (.tmp 2) 0) none,
        co (some 175) (.load 3 (.tmp 174)) none,
        co (some 176) (.binOp .eql 3 (.tmp 175) (.const (.int .i64 3)) 3) none,
        co (some 177) (.move (.tmp 176)) none,
        co (some 178) (.fieldAddr 94 (.tmp 2) 5) (some (177, true)),
        co (some 179) (.load 3 (.tmp 178)) (some (177, true)),
        co (some 180) (.binOp .lss 3 (.tmp 179) (.const (.int .i64 2)) 3) (some (177, true)),
        co (some 181) (.move (.tmp 180)) (some (177, true)),
        co (some 182) (.fieldAddr 94 (.tmp 2) 5) (some (181, false)),
        co (some 183) (.load 3 (.tmp 182)) (some (181, false)),
        co (some 184) (.binOp .gtr 3 (.tmp 183) (.const (.int .i64 9)) 3) (some (181, false)),
        co (some 185) (.pick (.tmp 181) (.const (.bool true)) (.tmp 184)) (some (177, true)),
        co (some 186) (.pick (.tmp 177) (.tmp 185) (.const (.bool false))) none] [1, 2, 186])
    (.cond (.tmp 186)
      (.seq (.reg [co (some 4) (.assign (.const (.bool false))) none] [4])
      (.ret))
      (.skip)))
  (.keep [1, 2] (.seq (.seq (.reg [co (some 10) (.assign (.const (.int .i64 0))) none] [1, 2, 10])
    (.block 4
      (.loop l3_centoref20_Right)))
  (.keep [2] (.seq (.reg [co (some 206) (.load 94 (.tmp 2)) none,
      co (some 207) (.call { callee := (.value (.func 141)), args := #[(.tmp 206)], argTypes := #[94] }) none,
      co (some 205) (.move (.tmp 207)) none,
      co (some 208) (.extract (.tmp 205) 0) none,
      co (some 209) (.extract (.tmp 205) 1) none,
      co (some 11) (.assign (.tmp 208)) none,
      co (some 12) (.assign (.tmp 209)) none] [11, 12])
  (.seq (.reg [co (some 210) (.move (.tmp 11)) none,
      co (some 211) (.binOp .lss 3 (.tmp 210) (.const (.int .i64 1048576)) 3) none,
      co (some 212) (.move (.tmp 211)) none,
      co (some 213) (.move (.tmp 12)) (some (212, true)),
      co (some 214) (.binOp .lss 3 (.tmp 213) (.const (.int .i64 1048576)) 3) (some (212, true)),
      co (some 215) (.pick (.tmp 212) (.tmp 214) (.const (.bool false))) none,
      co (some 4) (.assign (.tmp 215)) none] [4])
  (.ret)))))))))))))))))))
theorem t_centoref20_Right : Txt Try.prog 89 216 [(.tmp 4)] c_centoref20_Right := txt_of (code := Try.f89.body.getD .ret) mixed (by kernel_rfl) Try.func89 (by kernel_rfl) Try.ntmps89 (by kernel_rfl) (ls := [([1, 2], [(0, [0])]), ([], []), ([1, 2, 24], []), ([], []), ([4], []), ([], []), ([999999, 1, 2], []), ([1, 2, 69], []), ([], []), ([4], []), ([], []), ([999999, 1, 2], []), ([1, 2, 72], []), ([], []), ([4], []), ([], []), ([999999, 1, 2], []), ([1, 2, 5], []), ([], []), ([1, 2, 5, 6], []), ([], []), ([1, 2, 5, 6, 97], []), ([], []), ([999999, 1, 2, 5, 6], []), ([1, 2, 5, 6, 7], [(5, [1])]), ([], []), ([1, 2, 6, 7, 134], []), ([], []), ([4], []), ([], []), ([999999, 1, 2, 6, 7], []), ([1, 2, 5, 6], []), ([999999, 1, 2, 5, 6], []), ([1, 2, 5, 6], []), ([999999, 1, 2], []), ([1, 2, 5], []), ([], []), ([1, 2, 5, 8], []), ([], []), ([1, 2, 5, 8, 141], []), ([], []), ([999999, 1, 2, 5, 8], []), ([1, 2, 5, 8, 9], [(5, [2])]), ([], []), ([1, 2, 8, 9, 171], []), ([], []), ([4], []), ([], []), ([999999, 1, 2, 8, 9], []), ([1, 2, 5, 8], []), ([999999, 1, 2, 5, 8], []), ([1, 2, 5, 8], []), ([999999, 1, 2], []), ([1, 2, 186], []), ([], []), ([4], []), ([], []), ([999999, 1, 2], []), ([1, 2, 10], []), ([], []), ([1, 2, 10, 191], []), ([], []), ([999999, 1, 2, 10], []), ([1, 2, 10, 204], []), ([], []), ([4], []), ([], []), ([999999, 1, 2, 10], []), ([1, 2, 10], []), ([999999, 2], []), ([11, 12], []), ([], []), ([4], []), ([], [])]) (by kernel_rfl)
def k1_centoref20_Lengths : CC :=
  .seq (.seq (.reg [co (some 42) (.move (.tmp 4)) none,
        co (some 43) (.binOp .gtr 3 (.tmp 42) (.const (.int .i64 1048576)) 3) none] [1, 4, 5, 6, 43])
    (.cond (.tmp 43)
      (.reg [co (some 4) (.assign (.const (.int .i64 1048576))) none] [1, 4, 5, 6])
      (.skip)))
  (.keep [1, 4, 5, 6] (.seq (.reg [co (some 44) (.move (.tmp 5)) none,
      co (some 45) (.binOp .gtr 3 (.tmp 44) (.const (.int .i64 1048576)) 3) none] [1, 4, 5, 6, 45])
  (.cond (.tmp 45)
    (.reg [co (some 5) (.assign (.const (.int .i64 1048576))) none] [1, 4, 5, 6])
    (.skip))))
def k2_centoref20_Lengths : CC :=
  .seq (.seq (.reg [co (some 36) (.fieldAddr 202 (.tmp 7) 0) none,
        co (some 37) (.load 3 (.tmp 36)) none,
        co (some 38) (.binOp .neq 3 (.tmp 37) (.const (.int .i64 1)) 3) none] [1, 4, 5, 6, 8, 38])
    (.cond (.tmp 38)
      (.reg [co (some 39) (.move (.tmp 5)) none,
        co (some 40) (.move (.tmp 8)) none,
        co (some 41) (.binOp .add 3 (.tmp 39) (.tmp 40) 3) none,
        co (some 5) (.assign (.tmp 41)) none] [1, 4, 5, 6])
      (.skip)))
  (.keep [1, 4, 5, 6] k1_centoref20_Lengths)
def k3_centoref20_Lengths : CC :=
  .seq (.seq (.reg [co (some 30) (.fieldAddr 202 (.tmp 7) 0) none,
        co (some 31) (.load 3 (.tmp 30)) none,
        co (some 32) (.binOp .neq 3 (.tmp 31) (.const (.int .i64 2)) 3) none] [1, 4, 5, 6, 7, 8, 32])
    (.cond (.tmp 32)
      (.reg [co (some 33) (.move (.tmp 4)) none,
        co (some 34) (.move (.tmp 8)) none,
        co (some 35) (.binOp .add 3 (.tmp 33) (.tmp 34) 3) none,
        co (some 4) (.assign (.tmp 35)) none] [1, 4, 5, 6, 7, 8])
      (.skip)))
  (.keep [1, 4, 5, 6, 7, 8] k2_centoref20_Lengths)
def l1_centoref20_Lengths : CC :=
  .seq (.seq (.reg [co (some 9) (.move (.tmp 6)) none,
        co (some 10) (.fieldAddr 94 (.tmp 1) 6) none,
        co (some 11) (.load 92 (.tmp 10)) none,
        co (some 12) (.call { callee := (.builtin .len), args := #[(.tmp 11)], argTypes := #[92] }) none,
        co (some 13) (.binOp .lss 3 (.tmp 9) (.tmp 12) 3) none] [1, 4, 5, 6, 13])
    (.cond (.tmp 13)
      (.skip)
      (.exit 0)))
  (.keep [1, 4, 5, 6] (.seq (.block 1
      (.seq (.reg [co (some 16) (.fieldAddr 94 (.tmp 1) 6) none,
          co (some 17) (.load 92 (.tmp 16)) none,
          co (some 18) (.move (.tmp 6)) none,
          co (some 19) (.indexAddr 92 (.tmp 17) (.tmp 18)) none,
          co (some 20) (.load 202 (.tmp 19)) none,
          cn (some 7) (.alloc 202) none [1],
          co none (.store 202 (.tmp 7) (.tmp 20)) none] [1, 4, 5, 6, 7])
      (.seq (.reg [co (some 21) (.fieldAddr 202 (.tmp 7) 1) none,
          co (some 22) (.load 3 (.tmp 21)) none,
          co (some 23) (.fieldAddr 202 (.tmp 7) 2) none,
          co (some 24) (.load 51 (.tmp 23)) none,
          co (some 25) (.call { callee := (.builtin .len), args := #[(.tmp 24)], argTypes := #[51] }) none,
          co (some 26) (.binOp .add 3 (.tmp 22) (.tmp 25) 3) none,
          co (some 8) (.assign (.tmp 26)) none] [1, 4, 5, 6, 7, 8])
      (.seq (.seq (.reg [co (some 27) (.fieldAddr 202 (.tmp 7) 0) none,
            co (some 28) (.load 3 (.tmp 27)) none,
            co (some 29) (.binOp .eql 3 (.tmp 28) (.const (.int .i64 3)) 3) none] [1, 4, 5, 6, 7, 8, 29])
        (.cond (.tmp 29)
          (.reg [co (some 8) (.assign (.const (.int .i64 1))) none] [1, 4, 5, 6, 7, 8])
          (.skip)))
      (.keep [1, 4, 5, 6, 7, 8] k3_centoref20_Lengths)))))
  (.keep [1, 4, 5, 6] (.reg [co (some 14) (.move (.tmp 6)) none,
    co (some 15) (.binOp .add 3 (.tmp 14) (.const (.int .i64 1)) 3) none,
    co (some 6) (.assign (.tmp 15)) none] [1, 4, 5, 6]))))
/-- cento/centoref20.Lengths -/
def c_centoref20_Lengths : CC :=
  .seq (.reg [cn (some 1) (.box 94 (.tmp 0)) none [0],
      co (some 2) (.assign (.const (.int .i64 0))) none,
      co (some 3) (.assign (.const (.int .i64 0))) none] [1])
  (.seq (.reg [co (some 4) (.assign (.const (.int .i64 0))) none,
      co (some 5) (.assign (.const (.int .i64 0))) none] [1, 4, 5])
  (.seq (.seq (.reg [co (some 6) (.assign (.const (.int .i64 0))) none] [1, 4, 5, 6])
    (.block 0
      (.loop l1_centoref20_Lengths)))
  (.keep [4, 5] (.seq (.reg [co (some 46) (.move (.tmp 4)) none,
      co (some 47) (.move (.tmp 5)) none,
      co (some 2) (.assign (.tmp 46)) none,
      co (some 3) (.assign (.tmp 47)) none] [2, 3])
  (.ret)))))
theorem t_centoref20_Lengths : Txt Try.prog 141 48 [(.tmp 2), (.tmp 3)] c_centoref20_Lengths := txt_of (code := Try.f141.body.getD .ret) mixed (by kernel_rfl) Try.func141 (by kernel_rfl) Try.ntmps141 (by kernel_rfl) (ls := [([1], [(0, [0])]), ([], []), ([1, 4, 5], []), ([], []), ([1, 4, 5, 6], []), ([], []), ([1, 4, 5, 6, 13], []), ([], []), ([999999, 1, 4, 5, 6], []), ([1, 4, 5, 6, 7], [(5, [1])]), ([], []), ([1, 4, 5, 6, 7, 8], []), ([], []), ([1, 4, 5, 6, 7, 8, 29], []), ([], []), ([1, 4, 5, 6, 7, 8], []), ([999999, 1, 4, 5, 6, 7, 8], []), ([1, 4, 5, 6, 7, 8, 32], []), ([], []), ([1, 4, 5, 6, 7, 8], []), ([999999, 1, 4, 5, 6, 7, 8], []), ([1, 4, 5, 6, 8, 38], []), ([], []), ([1, 4, 5, 6], []), ([999999, 1, 4, 5, 6], []), ([1, 4, 5, 6, 43], []), ([], []), ([1, 4, 5, 6], []), ([999999, 1, 4, 5, 6], []), ([1, 4, 5, 6, 45], []), ([], []), ([1, 4, 5, 6], []), ([999999, 1, 4, 5, 6], []), ([1, 4, 5, 6], []), ([999999, 4, 5], []), ([2, 3], []), ([], [])]) (by kernel_rfl)
def l1_centoref20_left : CC :=
  .seq (.seq (.reg [co (some 36) (.move (.tmp 7)) none,
        co (some 37) (.fieldAddr 94 (.tmp 3) 4) none,
        co (some 38) (.load 91 (.tmp 37)) none,
        co (some 39) (.call { callee := (.builtin .len), args := #[(.tmp 38)], argTypes := #[91] }) none,
        co (some 40) (.binOp .lss 3 (.tmp 36) (.tmp 39) 3) none,
        co (some 41) (.move (.tmp 40)) none,
        co (some 42) (.move (.tmp 2)) (some (41, true)),
        co (some 43) (.binOp .geq 3 (.tmp 42) (.const (.int .i64 0)) 3) (some (41, true)),
        co (some 44) (.pick (.tmp 41) (.tmp 43) (.const (.bool false))) none] [1, 2, 3, 7, 44])
    (.cond (.tmp 44)
      (.skip)
      (.exit 0)))
  (.keep [1, 2, 3, 7] (.seq (.block 1
      (.reg [co (some 47) (.fieldAddr 94 (.tmp 3) 4) none,
        co (some 48) (.load 91 (.tmp 47)) none,
        co (some 49) (.move (.tmp 7)) none,
        co (some 50) (.indexAddr 91 (.tmp 48) (.tmp 49)) none,
        co (some 51) (.fieldAddr 199 (.tmp 50) 1) none,
        co (some 52) (.load 94 (.tmp 51)) none,
        co (some 53) (.move (.tmp 1)) none,
        co (some 54) (.binOp .sub 3 (.tmp 53) (.const (.int .i64 1)) 3) none,
        co (some 55) (.move (.tmp 2)) none,
        co (some 56) (.call { callee := (.value (.func 137)), args := #[(.tmp 52), (.tmp 54), (.tmp 55)], argTypes := #[94, 3, 3] }) none,
        co (some 2) (.assign (.tmp 56)) none] [1, 2, 3, 7]))
  (.reg [co (some 45) (.move (.tmp 7)) none,
    co (some 46) (.binOp .add 3 (.tmp 45) (.const (.int .i64 1)) 3) none,
    co (some 7) (.assign (.tmp 46)) none] [1, 2, 3, 7])))
def l2_centoref20_left : CC :=
  .seq (.seq (.reg [co (some 68) (.move (.tmp 9)) none,
        co (some 69) (.fieldAddr 94 (.tmp 3) 6) none,
        co (some 70) (.load 92 (.tmp 69)) none,
        co (some 71) (.move (.tmp 8)) none,
        co (some 72) (.indexAddr 92 (.tmp 70) (.tmp 71)) none,
        co (some 73) (.fieldAddr 202 (.tmp 72) 2) none,
        co (some 74) (.load 51 (.tmp 73)) none,
        co (some 75) (.call { callee := (.builtin .len), args := #[(.tmp 74)], argTypes := #[51] }) none,
        co (some 76) (.binOp .lss 3 (.tmp 68) (.tmp 75) 3) none,
        co (some 77) (.move (.tmp 76)) none,
        co (some 78) (.move (.tmp 2)) (some (77, true)),
        co (some 79) (.binOp .geq 3 (.tmp 78) (.const (.int .i64 0)) 3) (some (77, true)),
        co (some 80) (.pick (.tmp 77) (.tmp 79) (.const (.bool false))) none] [1, 2, 3, 8, 9, 80])
    (.cond (.tmp 80)
      (.skip)
      (.exit 4)))
  (.keep [1, 2, 3, 8, 9] (.seq (.block 5
      (.reg [co (some 83) (.fieldAddr 94 (.tmp 3) 6) none,
        co (some 84) (.load 92 (.tmp 83)) none,
        co (some 85) (.move (.tmp 8)) none,
        co (some 86) (.indexAddr 92 (.tmp 84) (.tmp 85)) none,
        co (some 87) (.fieldAddr 202 (.tmp 86) 2) none,
        co (some 88) (.load 51 (.tmp 87)) none,
        co (some 89) (.move (.tmp 9)) none,
        co (some 90) (.indexAddr 51 (.tmp 88) (.tmp 89)) none,
        co (some 91) (.load 53 (.tmp 90)) none,
        co (some 92) (.move (.tmp 2)) none,
        co (some 93) (.call { callee := (.value (.func 68)), args := #[(.tmp 91), (.const (.int .i64 80)), (.tmp 92)], argTypes := #[53, 3, 3] }) none,
        co (some 2) (.assign (.tmp 93)) none] [1, 2, 3, 8, 9]))
  (.reg [co (some 81) (.move (.tmp 9)) none,
    co (some 82) (.binOp .add 3 (.tmp 81) (.const (.int .i64 1)) 3) none,
    co (some 9) (.assign (.tmp 82)) none] [1, 2, 3, 8, 9])))
def l3_centoref20_left : CC :=
  .seq (.seq (.reg [co (some 57) (.move (.tmp 8)) none,
        co (some 58) (.fieldAddr 94 (.tmp 3) 6) none,
        co (some 59) (.load 92 (.tmp 58)) none,
        co (some 60) (.call { callee := (.builtin .len), args := #[(.tmp 59)], argTypes := #[92] }) none,
        co (some 61) (.binOp .lss 3 (.tmp 57) (.tmp 60) 3) none,
        co (some 62) (.move (.tmp 61)) none,
        co (some 63) (.move (.tmp 2)) (some (62, true)),
        co (some 64) (.binOp .geq 3 (.tmp 63) (.const (.int .i64 0)) 3) (some (62, true)),
        co (some 65) (.pick (.tmp 62) (.tmp 64) (.const (.bool false))) none] [1, 2, 3, 8, 65])
    (.cond (.tmp 65)
      (.skip)
      (.exit 2)))
  (.keep [1, 2, 3, 8] (.seq (.block 3
      (.seq (.seq (.reg [co (some 9) (.assign (.const (.int .i64 0))) none] [1, 2, 3, 8, 9])
        (.block 4
          (.loop l2_centoref20_left)))
      (.keep [1, 2, 3, 8] (.seq (.reg [co (some 94) (.move (.tmp 2)) none,
          co (some 95) (.binOp .geq 3 (.tmp 94) (.const (.int .i64 0)) 3) none] [1, 2, 3, 8, 95])
      (.cond (.tmp 95)
        (.reg [co (some 96) (.fieldAddr 94 (.tmp 3) 6) none,
          co (some 97) (.load 92 (.tmp 96)) none,
          co (some 98) (.move (.tmp 8)) none,
          co (some 99) (.indexAddr 92 (.tmp 97) (.tmp 98)) none,
          co (some 100) (.fieldAddr 202 (.tmp 99) 3) none,
          co (some 101) (.load 94 (.tmp 100)) none,
          co (some 102) (.move (.tmp 1)) none,
          co (some 103) (.binOp .sub 3 (.tmp 102) (.const (.int .i64 1)) 3) none,
          co (some 104) (.move (.tmp 2)) none,
          co (some 105) (.call { callee := (.value (.func 137)), args := #[(.tmp 101), (.tmp 103), (.tmp 104)], argTypes := #[94, 3, 3] }) none,
          co (some 2) (.assign (.tmp 105)) none] [1, 2, 3, 8])
        (.skip))))))
  (.keep [1, 2, 3, 8] (.reg [co (some 66) (.move (.tmp 8)) none,
    co (some 67) (.binOp .add 3 (.tmp 66) (.const (.int .i64 1)) 3) none,
    co (some 8) (.assign (.tmp 67)) none] [1, 2, 3, 8]))))
def k1_centoref20_left : CC :=
  .seq (.seq (.reg [co (some 7) (.assign (.const (.int .i64 0))) none] [1, 2, 3, 7])
    (.block 0
      (.loop l1_centoref20_left)))
  (.keep [1, 2, 3] (.seq (.seq (.reg [co (some 8) (.assign (.const (.int .i64 0))) none] [1, 2, 3, 8])
    (.block 2
      (.loop l3_centoref20_left)))
  (.keep [2] (.seq (.reg [co (some 106) (.move (.tmp 2)) none,
      co (some 6) (.assign (.tmp 106)) none] [6])
  (.ret)))))
/-- cento/centoref20.left -/
def c_centoref20_left : CC :=
  .seq (.reg [cn (some 3) (.box 94 (.tmp 0)) none [0],
      co (some 6) (.assign (.const (.int .i64 0))) none] [1, 2, 3])
  (.seq (.reg [co (some 10) (.move (.tmp 2)) none,
      co (some 11) (.binOp .sub 3 (.tmp 10) (.const (.int .i64 1)) 3) none,
      co (some 12) (.fieldAddr 94 (.tmp 3) 3) none,
      co (some 13) (.load 90 (.tmp 12)) none,
      co (some 14) (.call { callee := (.builtin .len), args := #[(.tmp 13)], argTypes := #[90] }) none,
      co (some 15) (.binOp .sub 3 (.tmp 11) (.tmp 14) 3) none,
      co (some 16) (.fieldAddr 94 (.tmp 3) 6) none,
      co (some 17) (.load 92 (.tmp 16)) none,
      co (some 18) (.call { callee := (.builtin .len), args := #[(.tmp 17)], argTypes := #[92] }) none,
      co (some 19) (.binOp .sub 3 (.tmp 15) (.tmp 18) 3) none,
      co (some 2) (.assign (.tmp 19)) none] [1, 2, 3])
  (.seq (.seq (.reg [co (some 20) (.move (.tmp 1)) none,
        co (some 21) (.binOp .eql 3 (.tmp 20) (.const (.int .i64 0)) 3) none,
        co (some 22) (.move (.tmp 21)) none,
        co (some 23) (.move (.tmp 2)) (some (22, false)),
        co (some 24) (.binOp .lss 3 (.tmp 23) (.const (.int .i64 0)) 3) (some (22, false)),
        co (some 25) (.pick (.tmp 22) (.const (.bool true)) (.tmp 24)) none] [1, 2, 3, 25])
    (.cond (.tmp 25)
      (.seq (.reg [co (some 6) (.assign (.const (.int .i64 (-1)))) none] [6])
      (.ret))
      (.skip)))
  (.keep [1, 2, 3] (.seq (.reg [co (some 26) (.fieldAddr 94 (.tmp 3) 1) none,
      co (some 27) (.load 53 (.tmp 26)) none,
      co (some 28) (.move (.tmp 2)) none,
      co (some 29) (.call { callee := (.value (.func 68)), args := #[(.tmp 27), (.const (.int .i64 80)), (.tmp 28)], argTypes := #[53, 3, 3] }) none,
      co (some 2) (.assign (.tmp 29)) none] [1, 2, 3])
  (.seq (.seq (.reg [co (some 30) (.move (.tmp 2)) none,
        co (some 31) (.binOp .geq 3 (.tmp 30) (.const (.int .i64 0)) 3) none] [1, 2, 3, 31])
    (.cond (.tmp 31)
      (.reg [co (some 32) (.fieldAddr 94 (.tmp 3) 2) none,
        co (some 33) (.load 53 (.tmp 32)) none,
        co (some 34) (.move (.tmp 2)) none,
        co (some 35) (.call { callee := (.value (.func 68)), args := #[(.tmp 33), (.const (.int .i64 80)), (.tmp 34)], argTypes := #[53, 3, 3] }) none,
        co (some 2) (.assign (.tmp 35)) none] [1, 2, 3])
      (.skip)))
  (.keep [1, 2, 3] k1_centoref20_left))))))
theorem t_centoref20_left : Txt Try.prog 137 107 [(.tmp 6)] c_centoref20_left := txt_of (code := Try.f137.body.getD .ret) mixed (by kernel_rfl) Try.func137 (by kernel_rfl) Try.ntmps137 (by kernel_rfl) (ls := [([1, 2, 3], [(0, [0])]), ([], []), ([1, 2, 3], []), ([], []), ([1, 2, 3, 25], []), ([], []), ([6], []), ([], []), ([999999, 1, 2, 3], []), ([1, 2, 3], []), ([], []), ([1, 2, 3, 31], []), ([], []), ([1, 2, 3], []), ([999999, 1, 2, 3], []), ([1, 2, 3, 7], []), ([], []), ([1, 2, 3, 7, 44], []), ([], []), ([999999, 1, 2, 3, 7], []), ([1, 2, 3, 7], []), ([], []), ([1, 2, 3, 7], []), ([999999, 1, 2, 3], []), ([1, 2, 3, 8], []), ([], []), ([1, 2, 3, 8, 65], []), ([], []), ([999999, 1, 2, 3, 8], []), ([1, 2, 3, 8, 9], []), ([], []), ([1, 2, 3, 8, 9, 80], []), ([], []), ([999999, 1, 2, 3, 8, 9], []), ([1, 2, 3, 8, 9], []), ([], []), ([1, 2, 3, 8, 9], []), ([999999, 1, 2, 3, 8], []), ([1, 2, 3, 8, 95], []), ([], []), ([1, 2, 3, 8], []), ([999999, 1, 2, 3, 8], []), ([1, 2, 3, 8], []), ([999999, 2], []), ([6], []), ([], [])]) (by kernel_rfl)
/-- cento/centoref20.Few -/
def c_centoref20_Few : CC :=
  .seq (.reg [cn (some 1) (.box 94 (.tmp 0)) none [0],
      co (some 2) (.assign (.const (.bool false))) none] [1])
  (.seq (.reg [co (some 3) (.load 94 (.tmp 1)) none,
      co (some 4) (.call { callee := (.value (.func 137)), args := #[(.tmp 3), (.const (.int .i64 80)), (.const (.int .i64 3000))], argTypes := #[94, 3, 3] }) none,
      co (some 5) (.binOp .geq 3 (.tmp 4) (.const (.int .i64 0)) 3) none,
      co (some 2) (.assign (.tmp 5)) none] [2])
  (.ret))
theorem t_centoref20_Few : Txt Try.prog 88 6 [(.tmp 2)] c_centoref20_Few := txt_of (code := Try.f88.body.getD .ret) mixed (by kernel_rfl) Try.func88 (by kernel_rfl) Try.ntmps88 (by kernel_rfl) (ls := [([1], [(0, [0])]), ([], []), ([2], []), ([], [])]) (by kernel_rfl)
def l1_centoref20_Light : CC :=
  .seq (.seq (.reg [co (some 18) (.move (.tmp 5)) none,
        co (some 19) (.fieldAddr 94 (.tmp 1) 4) none,
        co (some 20) (.load 91 (.tmp 19)) none,
        co (some 21) (.call { callee := (.builtin .len), args := #[(.tmp 20)], argTypes := #[91] }) none,
        co (some 22) (.binOp .lss 3 (.tmp 18) (.tmp 21) 3) none] [1, 5, 22])
    (.cond (.tmp 22)
      (.skip)
      (.exit 0)))
  (.keep [1, 5] (.seq (.block 1
      (.seq (.reg [co (some 25) (.fieldAddr 94 (.tmp 1) 4) none,
          co (some 26) (.load 91 (.tmp 25)) none,
          co (some 27) (.move (.tmp 5)) none,
          co (some 28) (.indexAddr 91 (.tmp 26) (.tmp 27)) none,
          co (some 29) (.fieldAddr 199 (.tmp 28) 1) none,
          co (some 30) (.load 94 (.tmp 29)) none,
          co (some 31) (.call { callee := (.value (.func 90)), args := #[(.tmp 30)], argTypes := #[94] }) none,
          co (some 32) (.unOp .not 4 (.tmp 31)) none] [1, 5, 32])
      (.cond (.tmp 32)
        (.seq (.reg [co (some 2) (.assign (.const (.bool false))) none] [2])
        (.ret))
        (.skip))))
  (.keep [1, 5] (.reg [co (some 23) (.move (.tmp 5)) none,
    co (some 24) (.binOp .add 3 (.tmp 23) (.const (.int .i64 1)) 3) none,
    co (some 5) (.assign (.tmp 24)) none] [1, 5]))))
def l2_centoref20_Light : CC :=
  .seq (.seq (.reg [co (some 33) (.move (.tmp 6)) none,
        co (some 34) (.fieldAddr 94 (.tmp 1) 6) none,
        co (some 35) (.load 92 (.tmp 34)) none,
        co (some 36) (.call { callee := (.builtin .len), args := #[(.tmp 35)], argTypes := #[92] }) none,
        co (some 37) (.binOp .lss 3 (.tmp 33) (.tmp 36) 3) none] [1, 6, 37])
    (.cond (.tmp 37)
      (.skip)
      (.exit 2)))
  (.keep [1, 6] (.seq (.block 3
      (.seq (.reg [co (some 40) (.fieldAddr 94 (.tmp 1) 6) none,
          co (some 41) (.load 92 (.tmp 40)) none,
          co (some 42) (.move (.tmp 6)) none,
          co (some 43) (.indexAddr 92 (.tmp 41) (.tmp 42)) none,
          co (some 44) (.fieldAddr 202 (.tmp 43) 3) none,
          co (some 45) (.load 94 (.tmp 44)) none,
          co (some 46) (.call { callee := (.value (.func 90)), args := #[(.tmp 45)], argTypes := #[94] }) none,
          co (some 47) (.unOp .not 4 (.tmp 46)) none] [1, 6, 47])
      (.cond (.tmp 47)
        (.seq (.reg [co (some 2) (.assign (.const (.bool false))) none] [2])
        (.ret))
        (.skip))))
  (.keep [1, 6] (.reg [co (some 38) (.move (.tmp 6)) none,
    co (some 39) (.binOp .add 3 (.tmp 38) (.const (.int .i64 1)) 3) none,
    co (some 6) (.assign (.tmp 39)) none] [1, 6]))))
/-- cento/centoref20.Light -/
def c_centoref20_Light : CC :=
  .seq (.reg [cn (some 1) (.box 94 (.tmp 0)) none [0],
      co (some 2) (.assign (.const (.bool false))) none] [1])
  (.seq (.reg [co (some 8) (.load 94 (.tmp 1)) none,
      co (some 9) (.call { callee := (.value (.func 141)), args := #[(.tmp 8)], argTypes := #[94] }) none,
      co (some 7) (.move (.tmp 9)) none,
      co (some 10) (.extract (.tmp 7) 0) none,
      co (some 11) (.extract (.tmp 7) 1) none,
      co (some 3) (.assign (.tmp 10)) none,
      co (some 4) (.assign (.tmp 11)) none] [1, 3, 4])
  (.seq (.seq (.reg [co (some 12) (.move (.tmp 3)) none,
        co (some 13) (.binOp .gtr 3 (.tmp 12) (.const (.int .i64 2000)) 3) none,
        co (some 14) (.move (.tmp 13)) none,
        co (some 15) (.move (.tmp 4)) (some (14, false)),
        co (some 16) (.binOp .gtr 3 (.tmp 15) (.const (.int .i64 2000)) 3) (some (14, false)),
        co (some 17) (.pick (.tmp 14) (.const (.bool true)) (.tmp 16)) none] [1, 17])
    (.cond (.tmp 17)
      (.seq (.reg [co (some 2) (.assign (.const (.bool false))) none] [2])
      (.ret))
      (.skip)))
  (.keep [1] (.seq (.seq (.reg [co (some 5) (.assign (.const (.int .i64 0))) none] [1, 5])
    (.block 0
      (.loop l1_centoref20_Light)))
  (.keep [1] (.seq (.seq (.reg [co (some 6) (.assign (.const (.int .i64 0))) none] [1, 6])
    (.block 2
      (.loop l2_centoref20_Light)))
  (.keep [] (.seq (.reg [co (some 2) (.assign (.const (.bool true))) none] [2])
  (.ret)))))))))
theorem t_centoref20_Light : Txt Try.prog 90 48 [(.tmp 2)] c_centoref20_Light := txt_of (code := Try.f90.body.getD .ret) mixed (by kernel_rfl) Try.func90 (by kernel_rfl) Try.ntmps90 (by kernel_rfl) (ls := [([1], [(0, [0])]), ([], []), ([1, 3, 4], []), ([], []), ([1, 17], []), ([], []), ([2], []), ([], []), ([999999, 1], []), ([1, 5], []), ([], []), ([1, 5, 22], []), ([], []), ([999999, 1, 5], []), ([1, 5, 32], []), ([], []), ([2], []), ([], []), ([999999, 1, 5], []), ([1, 5], []), ([999999, 1], []), ([1, 6], []), ([], []), ([1, 6, 37], []), ([], []), ([999999, 1, 6], []), ([1, 6, 47], []), ([], []), ([2], []), ([], []), ([999999, 1, 6], []), ([1, 6], []), ([999999], []), ([2], []), ([], [])]) (by kernel_rfl)
/-- cento/centoref20.Good -/
def c_centoref20_Good : CC :=
  .seq (.reg [cn (some 1) (.box 94 (.tmp 0)) none [0],
      co (some 2) (.assign (.const (.bool false))) none] [1])
  (.seq (.reg [co (some 3) (.load 94 (.tmp 1)) none,
      co (some 4) (.call { callee := (.value (.func 88)), args := #[(.tmp 3)], argTypes := #[94] }) none,
      co (some 5) (.move (.tmp 4)) none,
      co (some 6) (.load 94 (.tmp 1)) (some (5, true)),
      co (some 7) (.call { callee := (.value (.func 89)), args := #[(.tmp 6), (.const (.int .i64 64))], argTypes := #[94, 3] }) (some (5, true)),
      co (some 8) (.pick (.tmp 5) (.tmp 7) (.const (.bool false))) none,
      co (some 9) (.move (.tmp 8)) none,
      co (some 10) (.load 94 (.tmp 1)) (some (9, true)),
      co (some 11) (.call { callee := (.value (.func 90)), args := #[(.tmp 10)], argTypes := #[94] }) (some (9, true)),
      co (some 12) (.pick (.tmp 9) (.tmp 11) (.const (.bool false))) none,
      co (some 2) (.assign (.tmp 12)) none] [2])
  (.ret))
theorem t_centoref20_Good : Txt Try.prog 48 13 [(.tmp 2)] c_centoref20_Good := txt_of (code := Try.f48.body.getD .ret) mixed (by kernel_rfl) Try.func48 (by kernel_rfl) Try.ntmps48 (by kernel_rfl) (ls := [([1], [(0, [0])]), ([], []), ([2], []), ([], [])]) (by kernel_rfl)
end Go.Proofs.Ytehcobkphobjiaa
