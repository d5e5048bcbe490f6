/-
  The functions' text as data, and the facts on the types that they use: written by a program of ours (gen2.py) off the translation.
-/
import Derived.Test.YtigdcnlhgelkaaaProg
import Derived.Test.YtigdcnlhgelkaaaGSimp
import Derived.Test.YtigdcnlhgelkaaaGFnsA
import Derived.Test.YtigdcnlhgelkaaaGFns1
import Derived.Test.YtigdcnlhgelkaaaGFnsB
import Derived.Test.YtigdcnlhgelkaaaGFns7
import Derived.Test.YtigdcnlhgelkaaaGFns9
import Derived.KernelRfl
namespace Go.Proofs.Ytigdcnlhgelkaaa
set_option linter.unusedVariables false
set_option linter.unusedSimpArgs false
set_option maxRecDepth 20000
open Go Go.G Go.Proofs

@[simp] theorem fieldOffT_112_0 : fieldOffT Try.prog 112 0 = some 0 := by kernel_rfl
@[simp] theorem buildA_112 (ps : List (Nat × A)) : buildA Try.prog 112 ps = (fillA (fun i => ([(0, 1)] : List (Nat × Nat))[i]?) [A.v (Value.int IntKind.u64 0)] ps).map A.agg := by kernel_rfl


/-- (*cento/equal.mixer).add -/
def c_equal_mixer_add : CC :=
  .seq (.reg [co (some 4) (.move (.tmp 0)) none,
      co (some 5) (.move (.tmp 0)) none,
      co (some 6) (.nilCheck (.tmp 5)) none,
      co (some 7) (.fieldAddr 112 (.tmp 6) 0) none,
      co (some 8) (.load 45 (.tmp 7)) none,
      co (some 9) (.move (.tmp 1)) none,
      co (some 10) (.binOp .xor 45 (.tmp 8) (.tmp 9) 45) none,
      co (some 11) (.binOp .mul 45 (.tmp 10) (.const (.int .u64 1099511628211)) 45) none,
      co (some 12) (.nilCheck (.tmp 4)) none,
      co (some 13) (.fieldAddr 112 (.tmp 12) 0) none,
      co none (.store 45 (.tmp 13) (.tmp 11)) none] [0])
  (.reg [co (some 14) (.move (.tmp 0)) none,
    co (some 15) (.nilCheck (.tmp 14)) none,
    co (some 16) (.fieldAddr 112 (.tmp 15) 0) none,
    co (some 17) (.load 45 (.tmp 16)) none,
    co (some 18) (.move (.tmp 0)) none,
    co (some 19) (.nilCheck (.tmp 18)) none,
    co (some 20) (.fieldAddr 112 (.tmp 19) 0) none,
    co (some 21) (.load 45 (.tmp 20)) none,
    co (some 22) (.binOp .shr 45 (.tmp 21) (.const (.int .u64 29)) 76) none,
    co (some 23) (.binOp .xor 45 (.tmp 17) (.tmp 22) 45) none,
    co (some 24) (.nilCheck (.tmp 14)) none,
    co (some 25) (.fieldAddr 112 (.tmp 24) 0) none,
    co none (.store 45 (.tmp 25) (.tmp 23)) none] [])
theorem t_equal_mixer_add : Txt Try.prog 59 26 [] c_equal_mixer_add := txt_of (code := Try.f59.body.getD .ret) mixed (by kernel_rfl) Try.func59 (by kernel_rfl) Try.ntmps59 (by kernel_rfl) (ls := [([0], []), ([], []), ([], [])]) (by kernel_rfl)

def l1_equal_Hash : CC :=
  .seq (.reg [co (some 38) (.binOp .lss 3 (.tmp 37) (.tmp 36) 3) none] [1, 4, 5, 6, 36, 37, 38])
  (.seq (.cond (.tmp 38)
      (.skip)
      (.exit 0))
  (.keep [1, 4, 5, 6, 36, 37] (.seq (.block 1
      (.seq (.reg [co (some 39) (.move (.tmp 37)) none,
          co (some 8) (.assign (.tmp 39)) none] [1, 4, 5, 6, 8, 36, 37])
      (.reg [co (some 40) (.move (.tmp 5)) none,
        co (some 41) (.load 47 (.tmp 1)) none,
        co (some 42) (.move (.tmp 8)) none,
        co (some 43) (.call { callee := (.value (.func 63)), args := #[(.tmp 41), (.tmp 42)], argTypes := #[47, 3] }) none,
        co (some 44) (.call { callee := (.value (.tmp 40)), args := #[(.tmp 43)], argTypes := #[45] }) none] [1, 4, 5, 6, 36, 37])))
  (.reg [co (some 45) (.binOp .add 3 (.tmp 37) (.const (.int .i64 1)) 3) none,
    co (some 37) (.move (.tmp 45)) none] [1, 4, 5, 6, 36, 37]))))
def l2_equal_Hash : CC :=
  .seq (.reg [co (some 48) (.binOp .lss 3 (.tmp 47) (.tmp 46) 3) none] [1, 4, 5, 46, 47, 48])
  (.seq (.cond (.tmp 48)
      (.skip)
      (.exit 2))
  (.keep [1, 4, 5, 46, 47] (.seq (.block 3
      (.seq (.reg [co (some 49) (.move (.tmp 47)) none,
          co (some 9) (.assign (.tmp 49)) none] [1, 4, 5, 9, 46, 47])
      (.seq (.reg [co (some 51) (.load 47 (.tmp 1)) none,
          co (some 52) (.move (.tmp 9)) none,
          co (some 53) (.call { callee := (.value (.func 43)), args := #[(.tmp 51), (.tmp 52)], argTypes := #[47, 3] }) none,
          co (some 50) (.move (.tmp 53)) none,
          co (some 54) (.extract (.tmp 50) 0) none,
          co (some 55) (.extract (.tmp 50) 1) none,
          cn (some 10) (.alloc 47) none [2],
          co none (.store 47 (.tmp 10) (.tmp 54)) none,
          co (some 11) (.assign (.tmp 55)) none] [1, 4, 5, 10, 11, 46, 47])
      (.seq (.seq (.reg [co (some 56) (.move (.tmp 11)) none,
            co (some 57) (.binOp .neq 49 (.tmp 56) (.const (.int .i64 0)) 49) none] [1, 4, 5, 10, 11, 46, 47, 57])
        (.cond (.tmp 57)
          (.seq (.reg [co (some 58) (.move (.tmp 11)) none,
              co (some 2) (.assign (.const (.int .u64 0))) none,
              co (some 3) (.assign (.tmp 58)) none] [2, 3])
          (.ret))
          (.skip)))
      (.keep [1, 4, 5, 10, 46, 47] (.seq (.reg [co (some 60) (.load 47 (.tmp 10)) none,
          co (some 61) (.call { callee := (.value (.func 24)), args := #[(.tmp 60)], argTypes := #[47] }) none,
          co (some 59) (.move (.tmp 61)) none,
          co (some 62) (.extract (.tmp 59) 0) none,
          co (some 63) (.extract (.tmp 59) 1) none,
          co (some 12) (.assign (.tmp 62)) none,
          co (some 11) (.assign (.tmp 63)) none] [1, 4, 5, 11, 12, 46, 47])
      (.seq (.seq (.reg [co (some 64) (.move (.tmp 11)) none,
            co (some 65) (.binOp .neq 49 (.tmp 64) (.const (.int .i64 0)) 49) none] [1, 4, 5, 11, 12, 46, 47, 65])
        (.cond (.tmp 65)
          (.seq (.reg [co (some 66) (.move (.tmp 11)) none,
              co (some 2) (.assign (.const (.int .u64 0))) none,
              co (some 3) (.assign (.tmp 66)) none] [2, 3])
          (.ret))
          (.skip)))
      (.keep [1, 4, 5, 12, 46, 47] (.reg [co (some 67) (.move (.tmp 5)) none,
        co (some 68) (.move (.tmp 12)) none,
        co (some 69) (.call { callee := (.value (.tmp 67)), args := #[(.tmp 68)], argTypes := #[45] }) none] [1, 4, 5, 46, 47])))))))))
  (.keep [1, 4, 5, 46, 47] (.reg [co (some 70) (.binOp .add 3 (.tmp 47) (.const (.int .i64 1)) 3) none,
    co (some 47) (.move (.tmp 70)) none] [1, 4, 5, 46, 47])))))

/-- cento/equal.Hash -/
def c_equal_Hash : CC :=
  .seq (.reg [cn (some 1) (.box 47 (.tmp 0)) none [0],
      co (some 2) (.assign (.const (.int .u64 0))) none,
      co (some 3) (.assign (.const (.int .i64 0))) none] [1])
  (.seq (.reg [co (some 13) (.build 112 #[(0, (.const (.int .u64 14695981039346656037)))]) none,
      cn (some 14) (.box 112 (.tmp 13)) none [1],
      co (some 4) (.assign (.tmp 14)) none] [1, 4])
  (.seq (.reg [co (some 15) (.move (.tmp 4)) none,
      co (some 16) (.makeFunc (.func 59) #[(.tmp 15)] #[]) none,
      co (some 5) (.assign (.tmp 16)) none] [1, 4, 5])
  (.seq (.reg [co (some 17) (.move (.tmp 5)) none,
      co (some 18) (.load 47 (.tmp 1)) none,
      co (some 19) (.call { callee := (.value (.func 60)), args := #[(.tmp 18)], argTypes := #[47] }) none,
      co (some 20) (.convert 3 45 (.tmp 19)) none,
      co (some 21) (.call { callee := (.value (.tmp 17)), args := #[(.tmp 20)], argTypes := #[45] }) none] [1, 4, 5])
  (.seq (.reg [co (some 23) (.load 47 (.tmp 1)) none,
      co (some 24) (.call { callee := (.value (.func 61)), args := #[(.tmp 23)], argTypes := #[47] }) none,
      co (some 22) (.move (.tmp 24)) none,
      co (some 25) (.extract (.tmp 22) 0) none,
      co (some 26) (.extract (.tmp 22) 1) none,
      co (some 6) (.assign (.tmp 25)) none,
      co (some 7) (.assign (.tmp 26)) none] [1, 4, 5, 6, 7])
  (.seq (.seq (.reg [co (some 27) (.move (.tmp 7)) none,
        co (some 28) (.binOp .neq 49 (.tmp 27) (.const (.int .i64 0)) 49) none] [1, 4, 5, 6, 7, 28])
    (.cond (.tmp 28)
      (.seq (.reg [co (some 29) (.move (.tmp 7)) none,
          co (some 2) (.assign (.const (.int .u64 0))) none,
          co (some 3) (.assign (.tmp 29)) none] [2, 3])
      (.ret))
      (.skip)))
  (.keep [1, 4, 5, 6] (.seq (.reg [co (some 30) (.move (.tmp 5)) none,
      co (some 31) (.load 47 (.tmp 1)) none,
      co (some 32) (.call { callee := (.value (.func 62)), args := #[(.tmp 31)], argTypes := #[47] }) none,
      co (some 33) (.convert 3 45 (.tmp 32)) none,
      co (some 34) (.call { callee := (.value (.tmp 30)), args := #[(.tmp 33)], argTypes := #[45] }) none] [1, 4, 5, 6])
  (.seq (.seq (.reg [co (some 35) (.load 47 (.tmp 1)) none,
        co (some 36) (.call { callee := (.value (.func 62)), args := #[(.tmp 35)], argTypes := #[47] }) none,
        co (some 37) (.move (.const (.int .i64 0))) none] [1, 4, 5, 6, 36, 37])
    (.block 0
      (.loop l1_equal_Hash)))
  (.keep [1, 4, 5, 6] (.seq (.seq (.reg [co (some 46) (.move (.tmp 6)) none,
        co (some 47) (.move (.const (.int .i64 0))) none] [1, 4, 5, 46, 47])
    (.block 2
      (.loop l2_equal_Hash)))
  (.keep [4] (.seq (.reg [co (some 71) (.move (.tmp 4)) none,
      co (some 72) (.nilCheck (.tmp 71)) none,
      co (some 73) (.fieldAddr 112 (.tmp 72) 0) none,
      co (some 74) (.load 45 (.tmp 73)) none,
      co (some 2) (.assign (.tmp 74)) none,
      co (some 3) (.assign (.const (.int .i64 0))) none] [2, 3])
  (.ret)))))))))))))
theorem t_equal_Hash : Txt Try.prog 24 75 [(.tmp 2), (.tmp 3)] c_equal_Hash := txt_of (code := Try.f24.body.getD .ret) mixed (by kernel_rfl) Try.func24 (by kernel_rfl) Try.ntmps24 (by kernel_rfl) (ls := [([1], [(0, [0])]), ([], []), ([1, 4], [(1, [1])]), ([], []), ([1, 4, 5], []), ([], []), ([1, 4, 5], []), ([], []), ([1, 4, 5, 6, 7], []), ([], []), ([1, 4, 5, 6, 7, 28], []), ([], []), ([2, 3], []), ([], []), ([999999, 1, 4, 5, 6], []), ([1, 4, 5, 6], []), ([], []), ([1, 4, 5, 6, 36, 37], []), ([], []), ([1, 4, 5, 6, 36, 37, 38], []), ([], []), ([999999, 1, 4, 5, 6, 36, 37], []), ([1, 4, 5, 6, 8, 36, 37], []), ([], []), ([1, 4, 5, 6, 36, 37], []), ([], []), ([1, 4, 5, 6, 36, 37], []), ([999999, 1, 4, 5, 6], []), ([1, 4, 5, 46, 47], []), ([], []), ([1, 4, 5, 46, 47, 48], []), ([], []), ([999999, 1, 4, 5, 46, 47], []), ([1, 4, 5, 9, 46, 47], []), ([], []), ([1, 4, 5, 10, 11, 46, 47], [(6, [2])]), ([], []), ([1, 4, 5, 10, 11, 46, 47, 57], []), ([], []), ([2, 3], []), ([], []), ([999999, 1, 4, 5, 10, 46, 47], []), ([1, 4, 5, 11, 12, 46, 47], []), ([], []), ([1, 4, 5, 11, 12, 46, 47, 65], []), ([], []), ([2, 3], []), ([], []), ([999999, 1, 4, 5, 12, 46, 47], []), ([1, 4, 5, 46, 47], []), ([999999, 1, 4, 5, 46, 47], []), ([1, 4, 5, 46, 47], []), ([999999, 4], []), ([2, 3], []), ([], [])]) (by kernel_rfl)


/-- cento/centolaw15.EqualValues -/
def c_centolaw15_EqualValues : CC :=
  .seq (.reg [cn (some 5) (.box 40 (.tmp 2)) none [0],
      co (some 6) (.assign (.const (.bool false))) none] [0, 1, 5])
  (.seq (.reg [co (some 21) (.load 40 (.tmp 5)) none,
      co (some 22) (.call { callee := (.value (.func 19)), args := #[(.tmp 21)], argTypes := #[40] }) none,
      co none (.store 40 (.tmp 5) (.tmp 22)) none] [0, 1, 5])
  (.seq (.reg [co (some 24) (.move (.tmp 0)) none,
      co (some 25) (.load 40 (.tmp 5)) none,
      co (some 26) (.call { callee := (.value (.func 20)), args := #[(.tmp 24), (.tmp 25)], argTypes := #[38, 40] }) none,
      co (some 23) (.move (.tmp 26)) none,
      co (some 27) (.extract (.tmp 23) 0) none,
      co (some 28) (.extract (.tmp 23) 1) none,
      co (some 29) (.extract (.tmp 23) 2) none,
      cn (some 7) (.alloc 25) none [1],
      co none (.store 25 (.tmp 7) (.tmp 27)) none,
      co (some 8) (.assign (.tmp 28)) none,
      co (some 9) (.assign (.tmp 29)) none] [0, 1, 5, 7, 9])
  (.seq (.reg [co (some 31) (.move (.tmp 1)) none,
      co (some 32) (.load 40 (.tmp 5)) none,
      co (some 33) (.call { callee := (.value (.func 20)), args := #[(.tmp 31), (.tmp 32)], argTypes := #[38, 40] }) none,
      co (some 30) (.move (.tmp 33)) none,
      co (some 34) (.extract (.tmp 30) 0) none,
      co (some 35) (.extract (.tmp 30) 1) none,
      co (some 36) (.extract (.tmp 30) 2) none,
      cn (some 10) (.alloc 25) none [2],
      co none (.store 25 (.tmp 10) (.tmp 34)) none,
      co (some 11) (.assign (.tmp 35)) none,
      co (some 12) (.assign (.tmp 36)) none] [0, 1, 7, 9, 10, 12])
  (.seq (.seq (.reg [co (some 37) (.move (.tmp 9)) none,
        co (some 38) (.binOp .neq 3 (.tmp 37) (.const (.int .i64 0)) 3) none,
        co (some 39) (.move (.tmp 38)) none,
        co (some 40) (.move (.tmp 12)) (some (39, false)),
        co (some 41) (.binOp .neq 3 (.tmp 40) (.const (.int .i64 0)) 3) (some (39, false)),
        co (some 42) (.pick (.tmp 39) (.const (.bool true)) (.tmp 41)) none] [0, 1, 7, 10, 42])
    (.cond (.tmp 42)
      (.seq (.reg [co (some 43) (.call { callee := (.value (.func 21)), args := #[], argTypes := #[] }) none,
          co (some 6) (.assign (.tmp 43)) none] [6])
      (.ret))
      (.skip)))
  (.keep [0, 1, 7, 10] (.seq (.reg [co (some 44) (.move (.tmp 0)) none,
      co (some 45) (.call { callee := (.value (.func 22)), args := #[(.tmp 44)], argTypes := #[38] }) none,
      co (some 46) (.move (.tmp 1)) none,
      co (some 47) (.call { callee := (.value (.func 22)), args := #[(.tmp 46)], argTypes := #[38] }) none,
      cn (some 13) (.alloc 47) none [3],
      cn (some 14) (.alloc 47) none [4],
      co none (.store 47 (.tmp 13) (.tmp 45)) none,
      co none (.store 47 (.tmp 14) (.tmp 47)) none] [7, 10, 13, 14])
  (.seq (.reg [co (some 49) (.load 47 (.tmp 13)) none,
      co (some 50) (.load 47 (.tmp 14)) none,
      co (some 51) (.call { callee := (.value (.func 23)), args := #[(.tmp 49), (.tmp 50)], argTypes := #[47, 47] }) none,
      co (some 48) (.move (.tmp 51)) none,
      co (some 52) (.extract (.tmp 48) 0) none,
      co (some 53) (.extract (.tmp 48) 1) none,
      co (some 15) (.assign (.tmp 52)) none,
      co (some 16) (.assign (.tmp 53)) none] [7, 10, 13, 14, 15, 16])
  (.seq (.reg [co (some 55) (.load 47 (.tmp 13)) none,
      co (some 56) (.call { callee := (.value (.func 24)), args := #[(.tmp 55)], argTypes := #[47] }) none,
      co (some 54) (.move (.tmp 56)) none,
      co (some 57) (.extract (.tmp 54) 0) none,
      co (some 58) (.extract (.tmp 54) 1) none,
      co (some 17) (.assign (.tmp 57)) none,
      co (some 18) (.assign (.tmp 58)) none] [7, 10, 14, 15, 16, 17, 18])
  (.seq (.reg [co (some 60) (.load 47 (.tmp 14)) none,
      co (some 61) (.call { callee := (.value (.func 24)), args := #[(.tmp 60)], argTypes := #[47] }) none,
      co (some 59) (.move (.tmp 61)) none,
      co (some 62) (.extract (.tmp 59) 0) none,
      co (some 63) (.extract (.tmp 59) 1) none,
      co (some 19) (.assign (.tmp 62)) none,
      co (some 20) (.assign (.tmp 63)) none] [7, 10, 15, 16, 17, 18, 19, 20])
  (.seq (.seq (.reg [co (some 64) (.move (.tmp 15)) none,
        co (some 65) (.load 25 (.tmp 7)) none,
        co (some 66) (.load 25 (.tmp 10)) none,
        co (some 67) (.call { callee := (.value (.func 25)), args := #[(.tmp 65), (.tmp 66)], argTypes := #[25, 25] }) none,
        co (some 68) (.binOp .neq 4 (.tmp 64) (.tmp 67) 4) none,
        co (some 69) (.move (.tmp 68)) none,
        co (some 70) (.move (.tmp 16)) (some (69, false)),
        co (some 71) (.binOp .neq 49 (.tmp 70) (.const (.int .i64 0)) 49) (some (69, false)),
        co (some 72) (.pick (.tmp 69) (.const (.bool true)) (.tmp 71)) none,
        co (some 73) (.move (.tmp 72)) none,
        co (some 74) (.move (.tmp 18)) (some (73, false)),
        co (some 75) (.binOp .neq 49 (.tmp 74) (.const (.int .i64 0)) 49) (some (73, false)),
        co (some 76) (.pick (.tmp 73) (.const (.bool true)) (.tmp 75)) none,
        co (some 77) (.move (.tmp 76)) none,
        co (some 78) (.move (.tmp 20)) (some (77, false)),
        co (some 79) (.binOp .neq 49 (.tmp 78) (.const (.int .i64 0)) 49) (some (77, false)),
        co (some 80) (.pick (.tmp 77) (.const (.bool true)) (.tmp 79)) none] [15, 17, 19, 80])
    (.cond (.tmp 80)
      (.seq (.reg [co (some 6) (.assign (.const (.bool false))) none] [6])
      (.ret))
      (.skip)))
  (.keep [15, 17, 19] (.seq (.reg [co (some 81) (.move (.tmp 15)) none,
      co (some 82) (.unOp .not 4 (.tmp 81)) none,
      co (some 83) (.move (.tmp 82)) none,
      co (some 84) (.move (.tmp 17)) (some (83, false)),
      co (some 85) (.move (.tmp 19)) (some (83, false)),
      co (some 86) (.binOp .eql 45 (.tmp 84) (.tmp 85) 45) (some (83, false)),
      co (some 87) (.pick (.tmp 83) (.const (.bool true)) (.tmp 86)) none,
      co (some 88) (.move (.tmp 87)) none,
      co (some 89) (.call { callee := (.value (.func 21)), args := #[], argTypes := #[] }) (some (88, true)),
      co (some 90) (.pick (.tmp 88) (.tmp 89) (.const (.bool false))) none,
      co (some 6) (.assign (.tmp 90)) none] [6])
  (.ret)))))))))))))
theorem t_centolaw15_EqualValues : Txt Try.prog 5 91 [(.tmp 6)] c_centolaw15_EqualValues := txt_of (code := Try.f5.body.getD .ret) mixed (by kernel_rfl) Try.func5 (by kernel_rfl) Try.ntmps5 (by kernel_rfl) (ls := [([0, 1, 5], [(0, [0])]), ([], []), ([0, 1, 5], []), ([], []), ([0, 1, 5, 7, 9], [(7, [1])]), ([], []), ([0, 1, 7, 9, 10, 12], [(7, [2])]), ([], []), ([0, 1, 7, 10, 42], []), ([], []), ([6], []), ([], []), ([999999, 0, 1, 7, 10], []), ([7, 10, 13, 14], [(4, [3]), (5, [4])]), ([], []), ([7, 10, 13, 14, 15, 16], []), ([], []), ([7, 10, 14, 15, 16, 17, 18], []), ([], []), ([7, 10, 15, 16, 17, 18, 19, 20], []), ([], []), ([15, 17, 19, 80], []), ([], []), ([6], []), ([], []), ([999999, 15, 17, 19], []), ([6], []), ([], [])]) (by kernel_rfl)
end Go.Proofs.Ytigdcnlhgelkaaa
