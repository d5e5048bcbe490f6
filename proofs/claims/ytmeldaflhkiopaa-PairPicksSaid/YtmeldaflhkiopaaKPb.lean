/-
  Texts, merged, without what is not reached.
-/
import Derived.Test.YtmeldaflhkiopaaKPa
/-
  The functions' text as data, and the facts on the types that they use: written by a program of ours (gen2.py) off the translation.
-/
namespace Go.Proofs.Ytmeldaflhkiopaa
set_option linter.unusedVariables false
set_option linter.unusedSimpArgs false
set_option maxRecDepth 20000
open Go Go.G Go.Proofs
@[simp] theorem und_9 : Try.prog.underlying 9 = some .string := by kernel_rfl
@[simp] theorem und_86 : Try.prog.underlying 86 = some (.int .u64) := by kernel_rfl
@[simp] theorem und_99 : Try.prog.underlying 99 = some (.int .i64) := by kernel_rfl
@[simp] theorem und_107 : Try.prog.underlying 107 = some (.int .u32) := by kernel_rfl
@[simp] theorem und_132 : Try.prog.underlying 132 = some (.int .u64) := by kernel_rfl
@[simp] theorem szT_132 : szT Try.prog 132 = some 1 := by kernel_rfl
@[simp] theorem aggT_132 : aggT Try.prog 132 = some false := by kernel_rfl
@[simp] theorem zeroT_132 : zeroT Try.prog 132 = some (Value.int IntKind.u64 0) := by kernel_rfl
def k1_math_bits_Len64 : CC :=
  .seq (.seq (.reg [co (some 13) (.move (.tmp 0)) none,
        co (some 14) (.binOp .geq 68 (.tmp 13) (.const (.int .u64 256)) 68) none] [0, 2, 14])
    (.cond (.tmp 14)
      (.seq (.reg [co (some 15) (.move (.tmp 0)) none,
          co (some 16) (.binOp .shr 68 (.tmp 15) (.const (.int .u64 8)) 86) none,
          co (some 0) (.assign (.tmp 16)) none] [0, 2])
      (.reg [co (some 17) (.move (.tmp 2)) none,
        co (some 18) (.binOp .add 3 (.tmp 17) (.const (.int .i64 8)) 3) none,
        co (some 2) (.assign (.tmp 18)) none] [0, 2]))
      (.skip)))
  (.keep [0, 2] (.seq (.reg [co (some 19) (.move (.tmp 2)) none,
      co (some 20) (.move (.tmp 0)) none,
      co (some 21) (.convert 68 5 (.tmp 20)) none,
      co (some 22) (.index 9 (.const (.string { data := #[0, 1, 2, 2, 3, 3, 3, 3, 4, 4, 4, 4, 4, 4, 4, 4, 5, 5, 5, 5, 5, 5, 5, 5, 5, 5, 5, 5, 5, 5, 5, 5, 6, 6, 6, 6, 6, 6, 6, 6, 6, 6, 6, 6, 6, 6, 6, 6, 6, 6, 6, 6, 6, 6, 6, 6, 6, 6, 6, 6, 6, 6, 6, 6, 7, 7, 7, 7, 7, 7, 7, 7, 7, 7, 7, 7, 7, 7, 7, 7, 7, 7, 7, 7, 7, 7, 7, 7, 7, 7, 7, 7, 7, 7, 7, 7, 7, 7, 7, 7, 7, 7, 7, 7, 7, 7, 7, 7, 7, 7, 7, 7, 7, 7, 7, 7, 7, 7, 7, 7, 7, 7, 7, 7, 7, 7, 7, 7, 8, 8, 8, 8, 8, 8, 8, 8, 8, 8, 8, 8, 8, 8, 8, 8, 8, 8, 8, 8, 8, 8, 8, 8, 8, 8, 8, 8, 8, 8, 8, 8, 8, 8, 8, 8, 8, 8, 8, 8, 8, 8, 8, 8, 8, 8, 8, 8, 8, 8, 8, 8, 8, 8, 8, 8, 8, 8, 8, 8, 8, 8, 8, 8, 8, 8, 8, 8, 8, 8, 8, 8, 8, 8, 8, 8, 8, 8, 8, 8, 8, 8, 8, 8, 8, 8, 8, 8, 8, 8, 8, 8, 8, 8, 8, 8, 8, 8, 8, 8, 8, 8, 8, 8, 8, 8, 8, 8, 8, 8, 8, 8, 8, 8, 8, 8, 8, 8, 8, 8, 8, 8, 8, 8, 8, 8, 8, 8] })) (.tmp 21)) none,
      co (some 23) (.convert 5 3 (.tmp 22)) none,
      co (some 24) (.binOp .add 3 (.tmp 19) (.tmp 23) 3) none,
      co (some 2) (.assign (.tmp 24)) none] [2])
  (.ret)))
def k2_math_bits_Len64 : CC :=
  .seq (.seq (.reg [co (some 7) (.move (.tmp 0)) none,
        co (some 8) (.binOp .geq 68 (.tmp 7) (.const (.int .u64 65536)) 68) none] [0, 2, 8])
    (.cond (.tmp 8)
      (.seq (.reg [co (some 9) (.move (.tmp 0)) none,
          co (some 10) (.binOp .shr 68 (.tmp 9) (.const (.int .u64 16)) 86) none,
          co (some 0) (.assign (.tmp 10)) none] [0, 2])
      (.reg [co (some 11) (.move (.tmp 2)) none,
        co (some 12) (.binOp .add 3 (.tmp 11) (.const (.int .i64 16)) 3) none,
        co (some 2) (.assign (.tmp 12)) none] [0, 2]))
      (.skip)))
  (.keep [0, 2] k1_math_bits_Len64)
/-- math/bits.Len64 -/
def c_math_bits_Len64 : CC :=
  .seq (.reg [co (some 2) (.assign (.const (.int .i64 0))) none] [0, 2])
  (.seq (.seq (.reg [co (some 3) (.move (.tmp 0)) none,
        co (some 4) (.binOp .geq 68 (.tmp 3) (.const (.int .u64 4294967296)) 68) none] [0, 2, 4])
    (.cond (.tmp 4)
      (.seq (.reg [co (some 5) (.move (.tmp 0)) none,
          co (some 6) (.binOp .shr 68 (.tmp 5) (.const (.int .u64 32)) 86) none,
          co (some 0) (.assign (.tmp 6)) none] [0])
      (.reg [co (some 2) (.assign (.const (.int .i64 32))) none] [0, 2]))
      (.skip)))
  (.keep [0, 2] k2_math_bits_Len64))
theorem t_math_bits_Len64 : Txt Try.prog 65 25 [(.tmp 2)] c_math_bits_Len64 := txt_of (code := Try.f65.body.getD .ret) mixed (by kernel_rfl) Try.func65 (by kernel_rfl) Try.ntmps65 (by kernel_rfl) (ls := [([0, 2], []), ([], []), ([0, 2, 4], []), ([], []), ([0], []), ([], []), ([0, 2], []), ([999999, 0, 2], []), ([0, 2, 8], []), ([], []), ([0, 2], []), ([], []), ([0, 2], []), ([999999, 0, 2], []), ([0, 2, 14], []), ([], []), ([0, 2], []), ([], []), ([0, 2], []), ([999999, 0, 2], []), ([2], []), ([], [])]) (by kernel_rfl)
/-- math/bits.Len -/
def c_math_bits_Len : CC :=
  .seq (.reg [co (some 2) (.assign (.const (.int .i64 0))) none] [0])
  (.seq (.cond (.const (.bool false))
      (.seq (.reg [co (some 3) (.move (.tmp 0)) none,
          co (some 4) (.convert 86 107 (.tmp 3)) none,
          co (some 5) (.call { callee := (.value (.func 64)), args := #[(.tmp 4)], argTypes := #[107] }) none,
          co (some 2) (.assign (.tmp 5)) none] [2])
      (.ret))
      (.skip))
  (.keep [0] (.seq (.reg [co (some 6) (.move (.tmp 0)) none,
      co (some 7) (.call { callee := (.value (.func 65)), args := #[(.tmp 6)], argTypes := #[68] }) none,
      co (some 2) (.assign (.tmp 7)) none] [2])
  (.ret))))
theorem t_math_bits_Len : Txt Try.prog 42 8 [(.tmp 2)] c_math_bits_Len := txt_of (code := Try.f42.body.getD .ret) mixed (by kernel_rfl) Try.func42 (by kernel_rfl) Try.ntmps42 (by kernel_rfl) (ls := [([0], []), ([], []), ([2], []), ([], []), ([999999, 0], []), ([2], []), ([], [])]) (by kernel_rfl)
def l1_slices_insertionSortCmpFunc_pair_Pair : CC :=
  .seq (.seq (.reg [co (some 18) (.move (.tmp 9)) none,
        co (some 19) (.move (.tmp 1)) none,
        co (some 20) (.binOp .gtr 3 (.tmp 18) (.tmp 19) 3) none,
        co (some 21) (.move (.tmp 20)) none,
        co (some 22) (.move (.tmp 3)) (some (21, true)),
        co (some 23) (.move (.tmp 0)) (some (21, true)),
        co (some 24) (.move (.tmp 9)) (some (21, true)),
        co (some 25) (.indexAddr 25 (.tmp 23) (.tmp 24)) (some (21, true)),
        co (some 26) (.load 30 (.tmp 25)) (some (21, true)),
        co (some 27) (.move (.tmp 0)) (some (21, true)),
        co (some 28) (.move (.tmp 9)) (some (21, true)),
        co (some 29) (.binOp .sub 3 (.tmp 28) (.const (.int .i64 1)) 3) (some (21, true)),
        co (some 30) (.indexAddr 25 (.tmp 27) (.tmp 29)) (some (21, true)),
        co (some 31) (.load 30 (.tmp 30)) (some (21, true)),
        co (some 32) (.call { callee := (.value (.tmp 22)), args := #[(.tmp 26), (.tmp 31)], argTypes := #[30, 30] }) (some (21, true)),
        co (some 33) (.binOp .lss 3 (.tmp 32) (.const (.int .i64 0)) 3) (some (21, true)),
        co (some 34) (.pick (.tmp 21) (.tmp 33) (.const (.bool false))) none] [0, 1, 2, 3, 8, 9, 34])
    (.cond (.tmp 34)
      (.skip)
      (.exit 2)))
  (.keep [0, 1, 2, 3, 8, 9] (.seq (.block 3
      (.reg [co (some 37) (.move (.tmp 0)) none,
        co (some 38) (.move (.tmp 9)) none,
        co (some 39) (.move (.tmp 0)) none,
        co (some 40) (.move (.tmp 9)) none,
        co (some 41) (.binOp .sub 3 (.tmp 40) (.const (.int .i64 1)) 3) none,
        co (some 42) (.move (.tmp 0)) none,
        co (some 43) (.move (.tmp 9)) none,
        co (some 44) (.binOp .sub 3 (.tmp 43) (.const (.int .i64 1)) 3) none,
        co (some 45) (.indexAddr 25 (.tmp 42) (.tmp 44)) none,
        co (some 46) (.load 30 (.tmp 45)) none,
        co (some 47) (.move (.tmp 0)) none,
        co (some 48) (.move (.tmp 9)) none,
        co (some 49) (.indexAddr 25 (.tmp 47) (.tmp 48)) none,
        co (some 50) (.load 30 (.tmp 49)) none,
        co (some 51) (.indexAddr 25 (.tmp 37) (.tmp 38)) none,
        co none (.store 30 (.tmp 51) (.tmp 46)) none,
        co (some 52) (.indexAddr 25 (.tmp 39) (.tmp 41)) none,
        co none (.store 30 (.tmp 52) (.tmp 50)) none] [0, 1, 2, 3, 8, 9]))
  (.reg [co (some 35) (.move (.tmp 9)) none,
    co (some 36) (.binOp .sub 3 (.tmp 35) (.const (.int .i64 1)) 3) none,
    co (some 9) (.assign (.tmp 36)) none] [0, 1, 2, 3, 8, 9])))
def l2_slices_insertionSortCmpFunc_pair_Pair : CC :=
  .seq (.seq (.reg [co (some 12) (.move (.tmp 8)) none,
        co (some 13) (.move (.tmp 2)) none,
        co (some 14) (.binOp .lss 3 (.tmp 12) (.tmp 13) 3) none] [0, 1, 2, 3, 8, 14])
    (.cond (.tmp 14)
      (.skip)
      (.exit 0)))
  (.keep [0, 1, 2, 3, 8] (.seq (.block 1
      (.seq (.reg [co (some 17) (.move (.tmp 8)) none,
          co (some 9) (.assign (.tmp 17)) none] [0, 1, 2, 3, 8, 9])
      (.block 2
        (.loop l1_slices_insertionSortCmpFunc_pair_Pair))))
  (.keep [0, 1, 2, 3, 8] (.reg [co (some 15) (.move (.tmp 8)) none,
    co (some 16) (.binOp .add 3 (.tmp 15) (.const (.int .i64 1)) 3) none,
    co (some 8) (.assign (.tmp 16)) none] [0, 1, 2, 3, 8]))))
/-- slices.insertionSortCmpFunc[cento/pair.Pair] -/
def c_slices_insertionSortCmpFunc_pair_Pair : CC :=
  .seq (.reg [co (some 10) (.move (.tmp 1)) none,
      co (some 11) (.binOp .add 3 (.tmp 10) (.const (.int .i64 1)) 3) none,
      co (some 8) (.assign (.tmp 11)) none] [0, 1, 2, 3, 8])
  (.block 0
    (.loop l2_slices_insertionSortCmpFunc_pair_Pair))
theorem t_slices_insertionSortCmpFunc_pair_Pair : Txt Try.prog 56 53 [] c_slices_insertionSortCmpFunc_pair_Pair := txt_of (code := Try.f56.body.getD .ret) mixed (by kernel_rfl) Try.func56 (by kernel_rfl) Try.ntmps56 (by kernel_rfl) (ls := [([0, 1, 2, 3, 8], []), ([], []), ([0, 1, 2, 3, 8, 14], []), ([], []), ([999999, 0, 1, 2, 3, 8], []), ([0, 1, 2, 3, 8, 9], []), ([], []), ([0, 1, 2, 3, 8, 9, 34], []), ([], []), ([999999, 0, 1, 2, 3, 8, 9], []), ([0, 1, 2, 3, 8, 9], []), ([], []), ([0, 1, 2, 3, 8, 9], []), ([999999, 0, 1, 2, 3, 8], []), ([0, 1, 2, 3, 8], [])]) (by kernel_rfl)
/-- slices.nextPowerOfTwo -/
def c_slices_nextPowerOfTwo : CC :=
  .seq (.reg [co (some 2) (.assign (.const (.int .u64 0))) none] [0])
  (.seq (.reg [co (some 3) (.move (.tmp 0)) none,
      co (some 4) (.convert 3 86 (.tmp 3)) none,
      co (some 5) (.call { callee := (.value (.func 42)), args := #[(.tmp 4)], argTypes := #[86] }) none,
      co (some 6) (.binOp .shl 86 (.const (.int .u64 1)) (.tmp 5) 3) none,
      co (some 2) (.assign (.tmp 6)) none] [2])
  (.ret))
theorem t_slices_nextPowerOfTwo : Txt Try.prog 79 7 [(.tmp 2)] c_slices_nextPowerOfTwo := txt_of (code := Try.f79.body.getD .ret) mixed (by kernel_rfl) Try.func79 (by kernel_rfl) Try.ntmps79 (by kernel_rfl) (ls := [([0], []), ([], []), ([2], []), ([], [])]) (by kernel_rfl)
/-- (*slices.xorshift).Next -/
def c_slices_xorshift_Next : CC :=
  .seq (.reg [co (some 2) (.assign (.const (.int .u64 0))) none] [0])
  (.seq (.reg [co (some 3) (.move (.tmp 0)) none,
      co (some 4) (.nilCheck (.tmp 3)) none,
      co (some 5) (.load 132 (.tmp 4)) none,
      co (some 6) (.move (.tmp 0)) none,
      co (some 7) (.nilCheck (.tmp 6)) none,
      co (some 8) (.load 132 (.tmp 7)) none,
      co (some 9) (.binOp .shl 132 (.tmp 8) (.const (.int .u64 13)) 86) none,
      co (some 10) (.binOp .xor 132 (.tmp 5) (.tmp 9) 132) none,
      co (some 11) (.nilCheck (.tmp 3)) none,
      co none (.store 132 (.tmp 11) (.tmp 10)) none] [0])
  (.seq (.reg [co (some 12) (.move (.tmp 0)) none,
      co (some 13) (.nilCheck (.tmp 12)) none,
      co (some 14) (.load 132 (.tmp 13)) none,
      co (some 15) (.move (.tmp 0)) none,
      co (some 16) (.nilCheck (.tmp 15)) none,
      co (some 17) (.load 132 (.tmp 16)) none,
      co (some 18) (.binOp .shr 132 (.tmp 17) (.const (.int .u64 7)) 86) none,
      co (some 19) (.binOp .xor 132 (.tmp 14) (.tmp 18) 132) none,
      co (some 20) (.nilCheck (.tmp 12)) none,
      co none (.store 132 (.tmp 20) (.tmp 19)) none] [0])
  (.seq (.reg [co (some 21) (.move (.tmp 0)) none,
      co (some 22) (.nilCheck (.tmp 21)) none,
      co (some 23) (.load 132 (.tmp 22)) none,
      co (some 24) (.move (.tmp 0)) none,
      co (some 25) (.nilCheck (.tmp 24)) none,
      co (some 26) (.load 132 (.tmp 25)) none,
      co (some 27) (.binOp .shl 132 (.tmp 26) (.const (.int .u64 17)) 86) none,
      co (some 28) (.binOp .xor 132 (.tmp 23) (.tmp 27) 132) none,
      co (some 29) (.nilCheck (.tmp 21)) none,
      co none (.store 132 (.tmp 29) (.tmp 28)) none] [0])
  (.seq (.reg [co (some 30) (.move (.tmp 0)) none,
      co (some 31) (.nilCheck (.tmp 30)) none,
      co (some 32) (.load 132 (.tmp 31)) none,
      co (some 2) (.assign (.tmp 32)) none] [2])
  (.ret)))))
theorem t_slices_xorshift_Next : Txt Try.prog 80 33 [(.tmp 2)] c_slices_xorshift_Next := txt_of (code := Try.f80.body.getD .ret) mixed (by kernel_rfl) Try.func80 (by kernel_rfl) Try.ntmps80 (by kernel_rfl) (ls := [([0], []), ([], []), ([0], []), ([], []), ([0], []), ([], []), ([0], []), ([], []), ([2], []), ([], [])]) (by kernel_rfl)
def k1_slices_breakPatternsCmpFunc_pair_Pair : CC :=
  .reg [co (some 49) (.move (.tmp 0)) none,
    co (some 50) (.move (.tmp 11)) none,
    co (some 51) (.move (.tmp 0)) none,
    co (some 52) (.move (.tmp 1)) none,
    co (some 53) (.move (.tmp 12)) none,
    co (some 54) (.binOp .add 3 (.tmp 52) (.tmp 53) 3) none,
    co (some 55) (.move (.tmp 0)) none,
    co (some 56) (.move (.tmp 1)) none,
    co (some 57) (.move (.tmp 12)) none,
    co (some 58) (.binOp .add 3 (.tmp 56) (.tmp 57) 3) none,
    co (some 59) (.indexAddr 25 (.tmp 55) (.tmp 58)) none,
    co (some 60) (.load 30 (.tmp 59)) none,
    co (some 61) (.move (.tmp 0)) none,
    co (some 62) (.move (.tmp 11)) none,
    co (some 63) (.indexAddr 25 (.tmp 61) (.tmp 62)) none,
    co (some 64) (.load 30 (.tmp 63)) none,
    co (some 65) (.indexAddr 25 (.tmp 49) (.tmp 50)) none,
    co none (.store 30 (.tmp 65) (.tmp 60)) none,
    co (some 66) (.indexAddr 25 (.tmp 51) (.tmp 54)) none,
    co none (.store 30 (.tmp 66) (.tmp 64)) none] [0, 1, 8, 9, 10, 11]
def l1_slices_breakPatternsCmpFunc_pair_Pair : CC :=
  .seq (.seq (.reg [co (some 28) (.move (.tmp 11)) none,
        co (some 29) (.move (.tmp 1)) none,
        co (some 30) (.move (.tmp 8)) none,
        co (some 31) (.binOp .quo 3 (.tmp 30) (.const (.int .i64 4)) 3) none,
        co (some 32) (.binOp .mul 3 (.tmp 31) (.const (.int .i64 2)) 3) none,
        co (some 33) (.binOp .add 3 (.tmp 29) (.tmp 32) 3) none,
        co (some 34) (.binOp .add 3 (.tmp 33) (.const (.int .i64 1)) 3) none,
        co (some 35) (.binOp .leq 3 (.tmp 28) (.tmp 34) 3) none] [0, 1, 8, 9, 10, 11, 35])
    (.cond (.tmp 35)
      (.skip)
      (.exit 0)))
  (.keep [0, 1, 8, 9, 10, 11] (.seq (.block 1
      (.seq (.reg [co (some 38) (.call { callee := (.value (.func 80)), args := #[(.tmp 9)], argTypes := #[132] }) none,
          co (some 39) (.move (.tmp 10)) none,
          co (some 40) (.binOp .sub 86 (.tmp 39) (.const (.int .u64 1)) 86) none,
          co (some 41) (.binOp .and 86 (.tmp 38) (.tmp 40) 86) none,
          co (some 42) (.convert 86 3 (.tmp 41)) none,
          co (some 12) (.assign (.tmp 42)) none] [0, 1, 8, 9, 10, 11, 12])
      (.seq (.seq (.reg [co (some 43) (.move (.tmp 12)) none,
            co (some 44) (.move (.tmp 8)) none,
            co (some 45) (.binOp .geq 3 (.tmp 43) (.tmp 44) 3) none] [0, 1, 8, 9, 10, 11, 12, 45])
        (.cond (.tmp 45)
          (.reg [co (some 46) (.move (.tmp 12)) none,
            co (some 47) (.move (.tmp 8)) none,
            co (some 48) (.binOp .sub 3 (.tmp 46) (.tmp 47) 3) none,
            co (some 12) (.assign (.tmp 48)) none] [0, 1, 8, 9, 10, 11, 12])
          (.skip)))
      (.keep [0, 1, 8, 9, 10, 11, 12] k1_slices_breakPatternsCmpFunc_pair_Pair))))
  (.keep [0, 1, 8, 9, 10, 11] (.reg [co (some 36) (.move (.tmp 11)) none,
    co (some 37) (.binOp .add 3 (.tmp 36) (.const (.int .i64 1)) 3) none,
    co (some 11) (.assign (.tmp 37)) none] [0, 1, 8, 9, 10, 11]))))
/-- slices.breakPatternsCmpFunc[cento/pair.Pair] -/
def c_slices_breakPatternsCmpFunc_pair_Pair : CC :=
  .seq (.reg [co (some 13) (.move (.tmp 2)) none,
      co (some 14) (.move (.tmp 1)) none,
      co (some 15) (.binOp .sub 3 (.tmp 13) (.tmp 14) 3) none,
      co (some 8) (.assign (.tmp 15)) none] [0, 1, 8])
  (.seq (.reg [co (some 16) (.move (.tmp 8)) none,
      co (some 17) (.binOp .geq 3 (.tmp 16) (.const (.int .i64 8)) 3) none] [0, 1, 8, 17])
  (.cond (.tmp 17)
    (.seq (.reg [co (some 18) (.move (.tmp 8)) none,
        co (some 19) (.convert 3 132 (.tmp 18)) none,
        cn (some 9) (.alloc 132) none [1],
        co none (.store 132 (.tmp 9) (.tmp 19)) none] [0, 1, 8, 9])
    (.seq (.reg [co (some 20) (.move (.tmp 8)) none,
        co (some 21) (.call { callee := (.value (.func 79)), args := #[(.tmp 20)], argTypes := #[3] }) none,
        co (some 10) (.assign (.tmp 21)) none] [0, 1, 8, 9, 10])
    (.seq (.reg [co (some 22) (.move (.tmp 1)) none,
        co (some 23) (.move (.tmp 8)) none,
        co (some 24) (.binOp .quo 3 (.tmp 23) (.const (.int .i64 4)) 3) none,
        co (some 25) (.binOp .mul 3 (.tmp 24) (.const (.int .i64 2)) 3) none,
        co (some 26) (.binOp .add 3 (.tmp 22) (.tmp 25) 3) none,
        co (some 27) (.binOp .sub 3 (.tmp 26) (.const (.int .i64 1)) 3) none,
        co (some 11) (.assign (.tmp 27)) none] [0, 1, 8, 9, 10, 11])
    (.block 0
      (.loop l1_slices_breakPatternsCmpFunc_pair_Pair)))))
    (.skip)))
theorem t_slices_breakPatternsCmpFunc_pair_Pair : Txt Try.prog 58 67 [] c_slices_breakPatternsCmpFunc_pair_Pair := txt_of (code := Try.f58.body.getD .ret) mixed (by kernel_rfl) Try.func58 (by kernel_rfl) Try.ntmps58 (by kernel_rfl) (ls := [([0, 1, 8], []), ([], []), ([0, 1, 8, 17], []), ([], []), ([0, 1, 8, 9], [(2, [1])]), ([], []), ([0, 1, 8, 9, 10], []), ([], []), ([0, 1, 8, 9, 10, 11], []), ([], []), ([0, 1, 8, 9, 10, 11, 35], []), ([], []), ([999999, 0, 1, 8, 9, 10, 11], []), ([0, 1, 8, 9, 10, 11, 12], []), ([], []), ([0, 1, 8, 9, 10, 11, 12, 45], []), ([], []), ([0, 1, 8, 9, 10, 11, 12], []), ([999999, 0, 1, 8, 9, 10, 11, 12], []), ([0, 1, 8, 9, 10, 11], []), ([999999, 0, 1, 8, 9, 10, 11], []), ([0, 1, 8, 9, 10, 11], [])]) (by kernel_rfl)
/-- slices.order2CmpFunc[cento/pair.Pair] -/
def c_slices_order2CmpFunc_pair_Pair : CC :=
  .seq (.reg [co (some 10) (.assign (.const (.int .i64 0))) none,
      co (some 11) (.assign (.const (.int .i64 0))) none] [0, 1, 2, 3, 4])
  (.seq (.seq (.reg [co (some 12) (.move (.tmp 4)) none,
        co (some 13) (.move (.tmp 0)) none,
        co (some 14) (.move (.tmp 2)) none,
        co (some 15) (.indexAddr 25 (.tmp 13) (.tmp 14)) none,
        co (some 16) (.load 30 (.tmp 15)) none,
        co (some 17) (.move (.tmp 0)) none,
        co (some 18) (.move (.tmp 1)) none,
        co (some 19) (.indexAddr 25 (.tmp 17) (.tmp 18)) none,
        co (some 20) (.load 30 (.tmp 19)) none,
        co (some 21) (.call { callee := (.value (.tmp 12)), args := #[(.tmp 16), (.tmp 20)], argTypes := #[30, 30] }) none,
        co (some 22) (.binOp .lss 3 (.tmp 21) (.const (.int .i64 0)) 3) none] [1, 2, 3, 22])
    (.cond (.tmp 22)
      (.seq (.reg [co (some 23) (.move (.tmp 3)) none,
          co (some 24) (.nilCheck (.tmp 23)) none,
          co (some 25) (.load 3 (.tmp 24)) none,
          co (some 26) (.binOp .add 3 (.tmp 25) (.const (.int .i64 1)) 3) none,
          co (some 27) (.nilCheck (.tmp 23)) none,
          co none (.store 3 (.tmp 27) (.tmp 26)) none] [1, 2])
      (.seq (.reg [co (some 28) (.move (.tmp 2)) none,
          co (some 29) (.move (.tmp 1)) none,
          co (some 10) (.assign (.tmp 28)) none,
          co (some 11) (.assign (.tmp 29)) none] [10, 11])
      (.ret)))
      (.skip)))
  (.keep [1, 2] (.seq (.reg [co (some 30) (.move (.tmp 1)) none,
      co (some 31) (.move (.tmp 2)) none,
      co (some 10) (.assign (.tmp 30)) none,
      co (some 11) (.assign (.tmp 31)) none] [10, 11])
  (.ret))))
theorem t_slices_order2CmpFunc_pair_Pair : Txt Try.prog 92 32 [(.tmp 10), (.tmp 11)] c_slices_order2CmpFunc_pair_Pair := txt_of (code := Try.f92.body.getD .ret) mixed (by kernel_rfl) Try.func92 (by kernel_rfl) Try.ntmps92 (by kernel_rfl) (ls := [([0, 1, 2, 3, 4], []), ([], []), ([1, 2, 3, 22], []), ([], []), ([1, 2], []), ([], []), ([10, 11], []), ([], []), ([999999, 1, 2], []), ([10, 11], []), ([], [])]) (by kernel_rfl)
/-- slices.medianCmpFunc[cento/pair.Pair] -/
def c_slices_medianCmpFunc_pair_Pair : CC :=
  .seq (.reg [co (some 12) (.assign (.const (.int .i64 0))) none] [0, 1, 2, 3, 4, 5])
  (.seq (.reg [co (some 14) (.move (.tmp 0)) none,
      co (some 15) (.move (.tmp 1)) none,
      co (some 16) (.move (.tmp 2)) none,
      co (some 17) (.move (.tmp 4)) none,
      co (some 18) (.move (.tmp 5)) none,
      co (some 19) (.call { callee := (.value (.func 92)), args := #[(.tmp 14), (.tmp 15), (.tmp 16), (.tmp 17), (.tmp 18)], argTypes := #[25, 3, 3, 136, 64] }) none,
      co (some 13) (.move (.tmp 19)) none,
      co (some 20) (.extract (.tmp 13) 0) none,
      co (some 21) (.extract (.tmp 13) 1) none,
      co (some 1) (.assign (.tmp 20)) none,
      co (some 2) (.assign (.tmp 21)) none] [0, 1, 2, 3, 4, 5])
  (.seq (.reg [co (some 23) (.move (.tmp 0)) none,
      co (some 24) (.move (.tmp 2)) none,
      co (some 25) (.move (.tmp 3)) none,
      co (some 26) (.move (.tmp 4)) none,
      co (some 27) (.move (.tmp 5)) none,
      co (some 28) (.call { callee := (.value (.func 92)), args := #[(.tmp 23), (.tmp 24), (.tmp 25), (.tmp 26), (.tmp 27)], argTypes := #[25, 3, 3, 136, 64] }) none,
      co (some 22) (.move (.tmp 28)) none,
      co (some 29) (.extract (.tmp 22) 0) none,
      co (some 30) (.extract (.tmp 22) 1) none,
      co (some 2) (.assign (.tmp 29)) none,
      co (some 3) (.assign (.tmp 30)) none] [0, 1, 2, 4, 5])
  (.seq (.reg [co (some 32) (.move (.tmp 0)) none,
      co (some 33) (.move (.tmp 1)) none,
      co (some 34) (.move (.tmp 2)) none,
      co (some 35) (.move (.tmp 4)) none,
      co (some 36) (.move (.tmp 5)) none,
      co (some 37) (.call { callee := (.value (.func 92)), args := #[(.tmp 32), (.tmp 33), (.tmp 34), (.tmp 35), (.tmp 36)], argTypes := #[25, 3, 3, 136, 64] }) none,
      co (some 31) (.move (.tmp 37)) none,
      co (some 38) (.extract (.tmp 31) 0) none,
      co (some 39) (.extract (.tmp 31) 1) none,
      co (some 1) (.assign (.tmp 38)) none,
      co (some 2) (.assign (.tmp 39)) none] [2])
  (.seq (.reg [co (some 40) (.move (.tmp 2)) none,
      co (some 12) (.assign (.tmp 40)) none] [12])
  (.ret)))))
theorem t_slices_medianCmpFunc_pair_Pair : Txt Try.prog 82 41 [(.tmp 12)] c_slices_medianCmpFunc_pair_Pair := txt_of (code := Try.f82.body.getD .ret) mixed (by kernel_rfl) Try.func82 (by kernel_rfl) Try.ntmps82 (by kernel_rfl) (ls := [([0, 1, 2, 3, 4, 5], []), ([], []), ([0, 1, 2, 3, 4, 5], []), ([], []), ([0, 1, 2, 4, 5], []), ([], []), ([2], []), ([], []), ([12], []), ([], [])]) (by kernel_rfl)
def k1_slices_choosePivotCmpFunc_pair_Pair : CC :=
  .seq (.reg [co (some 55) (.load 3 (.tmp 11)) none] [13, 55])
  (.block 0
    (.seq (.reg [co (some 58) (.binOp .eql 3 (.tmp 55) (.const (.int .i64 0)) 3) none,
        co (some 57) (.assign (.tmp 58)) none] [13, 55, 57])
    (.cond (.tmp 57)
      (.seq (.reg [co (some 59) (.move (.tmp 13)) none,
          co (some 8) (.assign (.tmp 59)) none,
          co (some 9) (.assign (.const (.int .i64 1))) none] [8, 9])
      (.ret))
      (.seq (.reg [co (some 61) (.binOp .eql 3 (.tmp 55) (.const (.int .i64 12)) 3) none,
          co (some 60) (.assign (.tmp 61)) none] [13, 60])
      (.cond (.tmp 60)
        (.seq (.reg [co (some 62) (.move (.tmp 13)) none,
            co (some 8) (.assign (.tmp 62)) none,
            co (some 9) (.assign (.const (.int .i64 2))) none] [8, 9])
        (.ret))
        (.seq (.reg [co (some 56) (.move (.tmp 13)) none,
            co (some 8) (.assign (.tmp 56)) none,
            co (some 9) (.assign (.const (.int .i64 0))) none] [8, 9])
        (.ret)))))))
/-- slices.choosePivotCmpFunc[cento/pair.Pair] -/
def c_slices_choosePivotCmpFunc_pair_Pair : CC :=
  .seq (.reg [co (some 8) (.assign (.const (.int .i64 0))) none,
      co (some 9) (.assign (.const (.int .i64 0))) none] [0, 1, 2, 3])
  (.seq (.reg [co (some 15) (.move (.tmp 2)) none,
      co (some 16) (.move (.tmp 1)) none,
      co (some 17) (.binOp .sub 3 (.tmp 15) (.tmp 16) 3) none,
      co (some 10) (.assign (.tmp 17)) none] [0, 1, 3, 10])
  (.seq (.reg [cn (some 11) (.alloc 3) none [1]] [0, 1, 3, 10, 11])
  (.seq (.reg [co (some 18) (.move (.tmp 1)) none,
      co (some 19) (.move (.tmp 10)) none,
      co (some 20) (.binOp .quo 3 (.tmp 19) (.const (.int .i64 4)) 3) none,
      co (some 21) (.binOp .mul 3 (.tmp 20) (.const (.int .i64 1)) 3) none,
      co (some 22) (.binOp .add 3 (.tmp 18) (.tmp 21) 3) none,
      co (some 12) (.assign (.tmp 22)) none] [0, 1, 3, 10, 11, 12])
  (.seq (.reg [co (some 23) (.move (.tmp 1)) none,
      co (some 24) (.move (.tmp 10)) none,
      co (some 25) (.binOp .quo 3 (.tmp 24) (.const (.int .i64 4)) 3) none,
      co (some 26) (.binOp .mul 3 (.tmp 25) (.const (.int .i64 2)) 3) none,
      co (some 27) (.binOp .add 3 (.tmp 23) (.tmp 26) 3) none,
      co (some 13) (.assign (.tmp 27)) none] [0, 1, 3, 10, 11, 12, 13])
  (.seq (.reg [co (some 28) (.move (.tmp 1)) none,
      co (some 29) (.move (.tmp 10)) none,
      co (some 30) (.binOp .quo 3 (.tmp 29) (.const (.int .i64 4)) 3) none,
      co (some 31) (.binOp .mul 3 (.tmp 30) (.const (.int .i64 3)) 3) none,
      co (some 32) (.binOp .add 3 (.tmp 28) (.tmp 31) 3) none,
      co (some 14) (.assign (.tmp 32)) none] [0, 3, 10, 11, 12, 13, 14])
  (.seq (.seq (.reg [co (some 33) (.move (.tmp 10)) none,
        co (some 34) (.binOp .geq 3 (.tmp 33) (.const (.int .i64 8)) 3) none] [0, 3, 10, 11, 12, 13, 14, 34])
    (.cond (.tmp 34)
      (.seq (.seq (.reg [co (some 35) (.move (.tmp 10)) none,
            co (some 36) (.binOp .geq 3 (.tmp 35) (.const (.int .i64 50)) 3) none] [0, 3, 11, 12, 13, 14, 36])
        (.cond (.tmp 36)
          (.seq (.reg [co (some 37) (.move (.tmp 0)) none,
              co (some 38) (.move (.tmp 12)) none,
              co (some 39) (.move (.tmp 3)) none,
              co (some 40) (.call { callee := (.value (.func 81)), args := #[(.tmp 37), (.tmp 38), (.tmp 11), (.tmp 39)], argTypes := #[25, 3, 136, 64] }) none,
              co (some 12) (.assign (.tmp 40)) none] [0, 3, 11, 12, 13, 14])
          (.seq (.reg [co (some 41) (.move (.tmp 0)) none,
              co (some 42) (.move (.tmp 13)) none,
              co (some 43) (.move (.tmp 3)) none,
              co (some 44) (.call { callee := (.value (.func 81)), args := #[(.tmp 41), (.tmp 42), (.tmp 11), (.tmp 43)], argTypes := #[25, 3, 136, 64] }) none,
              co (some 13) (.assign (.tmp 44)) none] [0, 3, 11, 12, 13, 14])
          (.reg [co (some 45) (.move (.tmp 0)) none,
            co (some 46) (.move (.tmp 14)) none,
            co (some 47) (.move (.tmp 3)) none,
            co (some 48) (.call { callee := (.value (.func 81)), args := #[(.tmp 45), (.tmp 46), (.tmp 11), (.tmp 47)], argTypes := #[25, 3, 136, 64] }) none,
            co (some 14) (.assign (.tmp 48)) none] [0, 3, 11, 12, 13, 14])))
          (.skip)))
      (.keep [0, 3, 11, 12, 13, 14] (.reg [co (some 49) (.move (.tmp 0)) none,
        co (some 50) (.move (.tmp 12)) none,
        co (some 51) (.move (.tmp 13)) none,
        co (some 52) (.move (.tmp 14)) none,
        co (some 53) (.move (.tmp 3)) none,
        co (some 54) (.call { callee := (.value (.func 82)), args := #[(.tmp 49), (.tmp 50), (.tmp 51), (.tmp 52), (.tmp 11), (.tmp 53)], argTypes := #[25, 3, 3, 3, 136, 64] }) none,
        co (some 13) (.assign (.tmp 54)) none] [11, 13])))
      (.skip)))
  (.keep [11, 13] k1_slices_choosePivotCmpFunc_pair_Pair)))))))
theorem t_slices_choosePivotCmpFunc_pair_Pair : Txt Try.prog 59 63 [(.tmp 8), (.tmp 9)] c_slices_choosePivotCmpFunc_pair_Pair := txt_of (code := Try.f59.body.getD .ret) mixed (by kernel_rfl) Try.func59 (by kernel_rfl) Try.ntmps59 (by kernel_rfl) (ls := [([0, 1, 2, 3], []), ([], []), ([0, 1, 3, 10], []), ([], []), ([0, 1, 3, 10, 11], [(0, [1])]), ([], []), ([0, 1, 3, 10, 11, 12], []), ([], []), ([0, 1, 3, 10, 11, 12, 13], []), ([], []), ([0, 3, 10, 11, 12, 13, 14], []), ([], []), ([0, 3, 10, 11, 12, 13, 14, 34], []), ([], []), ([0, 3, 11, 12, 13, 14, 36], []), ([], []), ([0, 3, 11, 12, 13, 14], []), ([], []), ([0, 3, 11, 12, 13, 14], []), ([], []), ([0, 3, 11, 12, 13, 14], []), ([999999, 0, 3, 11, 12, 13, 14], []), ([11, 13], []), ([999999, 11, 13], []), ([13, 55], []), ([], []), ([13, 55, 57], []), ([], []), ([8, 9], []), ([], []), ([13, 60], []), ([], []), ([8, 9], []), ([], []), ([8, 9], []), ([], [])]) (by kernel_rfl)
def l1_slices_reverseRangeCmpFunc_pair_Pair : CC :=
  .seq (.seq (.reg [co (some 13) (.move (.tmp 8)) none,
        co (some 14) (.move (.tmp 9)) none,
        co (some 15) (.binOp .lss 3 (.tmp 13) (.tmp 14) 3) none] [0, 8, 9, 15])
    (.cond (.tmp 15)
      (.skip)
      (.exit 0)))
  (.keep [0, 8, 9] (.block 1
    (.seq (.reg [co (some 16) (.move (.tmp 0)) none,
        co (some 17) (.move (.tmp 8)) none,
        co (some 18) (.move (.tmp 0)) none,
        co (some 19) (.move (.tmp 9)) none,
        co (some 20) (.move (.tmp 0)) none,
        co (some 21) (.move (.tmp 9)) none,
        co (some 22) (.indexAddr 25 (.tmp 20) (.tmp 21)) none,
        co (some 23) (.load 30 (.tmp 22)) none,
        co (some 24) (.move (.tmp 0)) none,
        co (some 25) (.move (.tmp 8)) none,
        co (some 26) (.indexAddr 25 (.tmp 24) (.tmp 25)) none,
        co (some 27) (.load 30 (.tmp 26)) none,
        co (some 28) (.indexAddr 25 (.tmp 16) (.tmp 17)) none,
        co none (.store 30 (.tmp 28) (.tmp 23)) none,
        co (some 29) (.indexAddr 25 (.tmp 18) (.tmp 19)) none,
        co none (.store 30 (.tmp 29) (.tmp 27)) none] [0, 8, 9])
    (.seq (.reg [co (some 30) (.move (.tmp 8)) none,
        co (some 31) (.binOp .add 3 (.tmp 30) (.const (.int .i64 1)) 3) none,
        co (some 8) (.assign (.tmp 31)) none] [0, 8, 9])
    (.reg [co (some 32) (.move (.tmp 9)) none,
      co (some 33) (.binOp .sub 3 (.tmp 32) (.const (.int .i64 1)) 3) none,
      co (some 9) (.assign (.tmp 33)) none] [0, 8, 9])))))
/-- slices.reverseRangeCmpFunc[cento/pair.Pair] -/
def c_slices_reverseRangeCmpFunc_pair_Pair : CC :=
  .seq (.reg [co (some 10) (.move (.tmp 1)) none,
      co (some 8) (.assign (.tmp 10)) none] [0, 2, 8])
  (.seq (.reg [co (some 11) (.move (.tmp 2)) none,
      co (some 12) (.binOp .sub 3 (.tmp 11) (.const (.int .i64 1)) 3) none,
      co (some 9) (.assign (.tmp 12)) none] [0, 8, 9])
  (.block 0
    (.loop l1_slices_reverseRangeCmpFunc_pair_Pair)))
theorem t_slices_reverseRangeCmpFunc_pair_Pair : Txt Try.prog 60 34 [] c_slices_reverseRangeCmpFunc_pair_Pair := txt_of (code := Try.f60.body.getD .ret) mixed (by kernel_rfl) Try.func60 (by kernel_rfl) Try.ntmps60 (by kernel_rfl) (ls := [([0, 2, 8], []), ([], []), ([0, 8, 9], []), ([], []), ([0, 8, 9, 15], []), ([], []), ([999999, 0, 8, 9], []), ([0, 8, 9], []), ([], []), ([0, 8, 9], []), ([], []), ([0, 8, 9], [])]) (by kernel_rfl)
def l1_slices_partialInsertionSortCmpFunc_pair_Pair : CC :=
  .seq (.seq (.reg [co (some 19) (.move (.tmp 9)) none,
        co (some 20) (.move (.tmp 2)) none,
        co (some 21) (.binOp .lss 3 (.tmp 19) (.tmp 20) 3) none,
        co (some 22) (.move (.tmp 21)) none,
        co (some 23) (.move (.tmp 3)) (some (22, true)),
        co (some 24) (.move (.tmp 0)) (some (22, true)),
        co (some 25) (.move (.tmp 9)) (some (22, true)),
        co (some 26) (.indexAddr 25 (.tmp 24) (.tmp 25)) (some (22, true)),
        co (some 27) (.load 30 (.tmp 26)) (some (22, true)),
        co (some 28) (.move (.tmp 0)) (some (22, true)),
        co (some 29) (.move (.tmp 9)) (some (22, true)),
        co (some 30) (.binOp .sub 3 (.tmp 29) (.const (.int .i64 1)) 3) (some (22, true)),
        co (some 31) (.indexAddr 25 (.tmp 28) (.tmp 30)) (some (22, true)),
        co (some 32) (.load 30 (.tmp 31)) (some (22, true)),
        co (some 33) (.call { callee := (.value (.tmp 23)), args := #[(.tmp 27), (.tmp 32)], argTypes := #[30, 30] }) (some (22, true)),
        co (some 34) (.binOp .lss 3 (.tmp 33) (.const (.int .i64 0)) 3) (some (22, true)),
        co (some 35) (.unOp .not 4 (.tmp 34)) (some (22, true)),
        co (some 36) (.pick (.tmp 22) (.tmp 35) (.const (.bool false))) none] [0, 1, 2, 3, 9, 10, 36])
    (.cond (.tmp 36)
      (.skip)
      (.exit 2)))
  (.keep [0, 1, 2, 3, 9, 10] (.block 3
    (.reg [co (some 37) (.move (.tmp 9)) none,
      co (some 38) (.binOp .add 3 (.tmp 37) (.const (.int .i64 1)) 3) none,
      co (some 9) (.assign (.tmp 38)) none] [0, 1, 2, 3, 9, 10])))
def l2_slices_partialInsertionSortCmpFunc_pair_Pair : CC :=
  .seq (.seq (.reg [co (some 68) (.move (.tmp 11)) none,
        co (some 69) (.binOp .geq 3 (.tmp 68) (.const (.int .i64 1)) 3) none] [0, 1, 2, 3, 9, 10, 11, 69])
    (.cond (.tmp 69)
      (.skip)
      (.exit 4)))
  (.keep [0, 1, 2, 3, 9, 10, 11] (.seq (.block 5
      (.seq (.seq (.reg [co (some 72) (.move (.tmp 3)) none,
            co (some 73) (.move (.tmp 0)) none,
            co (some 74) (.move (.tmp 11)) none,
            co (some 75) (.indexAddr 25 (.tmp 73) (.tmp 74)) none,
            co (some 76) (.load 30 (.tmp 75)) none,
            co (some 77) (.move (.tmp 0)) none,
            co (some 78) (.move (.tmp 11)) none,
            co (some 79) (.binOp .sub 3 (.tmp 78) (.const (.int .i64 1)) 3) none,
            co (some 80) (.indexAddr 25 (.tmp 77) (.tmp 79)) none,
            co (some 81) (.load 30 (.tmp 80)) none,
            co (some 82) (.call { callee := (.value (.tmp 72)), args := #[(.tmp 76), (.tmp 81)], argTypes := #[30, 30] }) none,
            co (some 83) (.binOp .lss 3 (.tmp 82) (.const (.int .i64 0)) 3) none,
            co (some 84) (.unOp .not 4 (.tmp 83)) none] [0, 1, 2, 3, 9, 10, 11, 84])
        (.cond (.tmp 84)
          (.exit 4)
          (.skip)))
      (.keep [0, 1, 2, 3, 9, 10, 11] (.reg [co (some 85) (.move (.tmp 0)) none,
        co (some 86) (.move (.tmp 11)) none,
        co (some 87) (.move (.tmp 0)) none,
        co (some 88) (.move (.tmp 11)) none,
        co (some 89) (.binOp .sub 3 (.tmp 88) (.const (.int .i64 1)) 3) none,
        co (some 90) (.move (.tmp 0)) none,
        co (some 91) (.move (.tmp 11)) none,
        co (some 92) (.binOp .sub 3 (.tmp 91) (.const (.int .i64 1)) 3) none,
        co (some 93) (.indexAddr 25 (.tmp 90) (.tmp 92)) none,
        co (some 94) (.load 30 (.tmp 93)) none,
        co (some 95) (.move (.tmp 0)) none,
        co (some 96) (.move (.tmp 11)) none,
        co (some 97) (.indexAddr 25 (.tmp 95) (.tmp 96)) none,
        co (some 98) (.load 30 (.tmp 97)) none,
        co (some 99) (.indexAddr 25 (.tmp 85) (.tmp 86)) none,
        co none (.store 30 (.tmp 99) (.tmp 94)) none,
        co (some 100) (.indexAddr 25 (.tmp 87) (.tmp 89)) none,
        co none (.store 30 (.tmp 100) (.tmp 98)) none] [0, 1, 2, 3, 9, 10, 11]))))
  (.keep [0, 1, 2, 3, 9, 10, 11] (.reg [co (some 70) (.move (.tmp 11)) none,
    co (some 71) (.binOp .sub 3 (.tmp 70) (.const (.int .i64 1)) 3) none,
    co (some 11) (.assign (.tmp 71)) none] [0, 1, 2, 3, 9, 10, 11]))))
def l3_slices_partialInsertionSortCmpFunc_pair_Pair : CC :=
  .seq (.seq (.reg [co (some 107) (.move (.tmp 12)) none,
        co (some 108) (.move (.tmp 2)) none,
        co (some 109) (.binOp .lss 3 (.tmp 107) (.tmp 108) 3) none] [0, 1, 2, 3, 9, 10, 12, 109])
    (.cond (.tmp 109)
      (.skip)
      (.exit 6)))
  (.keep [0, 1, 2, 3, 9, 10, 12] (.seq (.block 7
      (.seq (.seq (.reg [co (some 112) (.move (.tmp 3)) none,
            co (some 113) (.move (.tmp 0)) none,
            co (some 114) (.move (.tmp 12)) none,
            co (some 115) (.indexAddr 25 (.tmp 113) (.tmp 114)) none,
            co (some 116) (.load 30 (.tmp 115)) none,
            co (some 117) (.move (.tmp 0)) none,
            co (some 118) (.move (.tmp 12)) none,
            co (some 119) (.binOp .sub 3 (.tmp 118) (.const (.int .i64 1)) 3) none,
            co (some 120) (.indexAddr 25 (.tmp 117) (.tmp 119)) none,
            co (some 121) (.load 30 (.tmp 120)) none,
            co (some 122) (.call { callee := (.value (.tmp 112)), args := #[(.tmp 116), (.tmp 121)], argTypes := #[30, 30] }) none,
            co (some 123) (.binOp .lss 3 (.tmp 122) (.const (.int .i64 0)) 3) none,
            co (some 124) (.unOp .not 4 (.tmp 123)) none] [0, 1, 2, 3, 9, 10, 12, 124])
        (.cond (.tmp 124)
          (.exit 6)
          (.skip)))
      (.keep [0, 1, 2, 3, 9, 10, 12] (.reg [co (some 125) (.move (.tmp 0)) none,
        co (some 126) (.move (.tmp 12)) none,
        co (some 127) (.move (.tmp 0)) none,
        co (some 128) (.move (.tmp 12)) none,
        co (some 129) (.binOp .sub 3 (.tmp 128) (.const (.int .i64 1)) 3) none,
        co (some 130) (.move (.tmp 0)) none,
        co (some 131) (.move (.tmp 12)) none,
        co (some 132) (.binOp .sub 3 (.tmp 131) (.const (.int .i64 1)) 3) none,
        co (some 133) (.indexAddr 25 (.tmp 130) (.tmp 132)) none,
        co (some 134) (.load 30 (.tmp 133)) none,
        co (some 135) (.move (.tmp 0)) none,
        co (some 136) (.move (.tmp 12)) none,
        co (some 137) (.indexAddr 25 (.tmp 135) (.tmp 136)) none,
        co (some 138) (.load 30 (.tmp 137)) none,
        co (some 139) (.indexAddr 25 (.tmp 125) (.tmp 126)) none,
        co none (.store 30 (.tmp 139) (.tmp 134)) none,
        co (some 140) (.indexAddr 25 (.tmp 127) (.tmp 129)) none,
        co none (.store 30 (.tmp 140) (.tmp 138)) none] [0, 1, 2, 3, 9, 10, 12]))))
  (.keep [0, 1, 2, 3, 9, 10, 12] (.reg [co (some 110) (.move (.tmp 12)) none,
    co (some 111) (.binOp .add 3 (.tmp 110) (.const (.int .i64 1)) 3) none,
    co (some 12) (.assign (.tmp 111)) none] [0, 1, 2, 3, 9, 10, 12]))))
def k1_slices_partialInsertionSortCmpFunc_pair_Pair : CC :=
  .seq (.reg [co (some 101) (.move (.tmp 2)) none,
      co (some 102) (.move (.tmp 9)) none,
      co (some 103) (.binOp .sub 3 (.tmp 101) (.tmp 102) 3) none,
      co (some 104) (.binOp .geq 3 (.tmp 103) (.const (.int .i64 2)) 3) none] [0, 1, 2, 3, 9, 10, 104])
  (.cond (.tmp 104)
    (.seq (.reg [co (some 105) (.move (.tmp 9)) none,
        co (some 106) (.binOp .add 3 (.tmp 105) (.const (.int .i64 1)) 3) none,
        co (some 12) (.assign (.tmp 106)) none] [0, 1, 2, 3, 9, 10, 12])
    (.block 6
      (.loop l3_slices_partialInsertionSortCmpFunc_pair_Pair)))
    (.skip))
def l4_slices_partialInsertionSortCmpFunc_pair_Pair : CC :=
  .seq (.seq (.reg [co (some 15) (.move (.tmp 10)) none,
        co (some 16) (.binOp .lss 3 (.tmp 15) (.const (.int .i64 5)) 3) none] [0, 1, 2, 3, 9, 10, 16])
    (.cond (.tmp 16)
      (.skip)
      (.exit 0)))
  (.keep [0, 1, 2, 3, 9, 10] (.seq (.block 1
      (.seq (.block 2
          (.loop l1_slices_partialInsertionSortCmpFunc_pair_Pair))
      (.keep [0, 1, 2, 3, 9, 10] (.seq (.seq (.reg [co (some 39) (.move (.tmp 9)) none,
            co (some 40) (.move (.tmp 2)) none,
            co (some 41) (.binOp .eql 3 (.tmp 39) (.tmp 40) 3) none] [0, 1, 2, 3, 9, 10, 41])
        (.cond (.tmp 41)
          (.seq (.reg [co (some 8) (.assign (.const (.bool true))) none] [8])
          (.ret))
          (.skip)))
      (.keep [0, 1, 2, 3, 9, 10] (.seq (.seq (.reg [co (some 42) (.move (.tmp 2)) none,
            co (some 43) (.move (.tmp 1)) none,
            co (some 44) (.binOp .sub 3 (.tmp 42) (.tmp 43) 3) none,
            co (some 45) (.binOp .lss 3 (.tmp 44) (.const (.int .i64 50)) 3) none] [0, 1, 2, 3, 9, 10, 45])
        (.cond (.tmp 45)
          (.seq (.reg [co (some 8) (.assign (.const (.bool false))) none] [8])
          (.ret))
          (.skip)))
      (.keep [0, 1, 2, 3, 9, 10] (.seq (.reg [co (some 46) (.move (.tmp 0)) none,
          co (some 47) (.move (.tmp 9)) none,
          co (some 48) (.move (.tmp 0)) none,
          co (some 49) (.move (.tmp 9)) none,
          co (some 50) (.binOp .sub 3 (.tmp 49) (.const (.int .i64 1)) 3) none,
          co (some 51) (.move (.tmp 0)) none,
          co (some 52) (.move (.tmp 9)) none,
          co (some 53) (.binOp .sub 3 (.tmp 52) (.const (.int .i64 1)) 3) none,
          co (some 54) (.indexAddr 25 (.tmp 51) (.tmp 53)) none,
          co (some 55) (.load 30 (.tmp 54)) none,
          co (some 56) (.move (.tmp 0)) none,
          co (some 57) (.move (.tmp 9)) none,
          co (some 58) (.indexAddr 25 (.tmp 56) (.tmp 57)) none,
          co (some 59) (.load 30 (.tmp 58)) none,
          co (some 60) (.indexAddr 25 (.tmp 46) (.tmp 47)) none,
          co none (.store 30 (.tmp 60) (.tmp 55)) none,
          co (some 61) (.indexAddr 25 (.tmp 48) (.tmp 50)) none,
          co none (.store 30 (.tmp 61) (.tmp 59)) none] [0, 1, 2, 3, 9, 10])
      (.seq (.seq (.reg [co (some 62) (.move (.tmp 9)) none,
            co (some 63) (.move (.tmp 1)) none,
            co (some 64) (.binOp .sub 3 (.tmp 62) (.tmp 63) 3) none,
            co (some 65) (.binOp .geq 3 (.tmp 64) (.const (.int .i64 2)) 3) none] [0, 1, 2, 3, 9, 10, 65])
        (.cond (.tmp 65)
          (.seq (.reg [co (some 66) (.move (.tmp 9)) none,
              co (some 67) (.binOp .sub 3 (.tmp 66) (.const (.int .i64 1)) 3) none,
              co (some 11) (.assign (.tmp 67)) none] [0, 1, 2, 3, 9, 10, 11])
          (.block 4
            (.loop l2_slices_partialInsertionSortCmpFunc_pair_Pair)))
          (.skip)))
      (.keep [0, 1, 2, 3, 9, 10] k1_slices_partialInsertionSortCmpFunc_pair_Pair))))))))))
  (.keep [0, 1, 2, 3, 9, 10] (.reg [co (some 17) (.move (.tmp 10)) none,
    co (some 18) (.binOp .add 3 (.tmp 17) (.const (.int .i64 1)) 3) none,
    co (some 10) (.assign (.tmp 18)) none] [0, 1, 2, 3, 9, 10]))))
/-- slices.partialInsertionSortCmpFunc[cento/pair.Pair] -/
def c_slices_partialInsertionSortCmpFunc_pair_Pair : CC :=
  .seq (.reg [co (some 8) (.assign (.const (.bool false))) none] [0, 1, 2, 3])
  (.seq (.reg [co (some 13) (.move (.tmp 1)) none,
      co (some 14) (.binOp .add 3 (.tmp 13) (.const (.int .i64 1)) 3) none,
      co (some 9) (.assign (.tmp 14)) none] [0, 1, 2, 3, 9])
  (.seq (.seq (.reg [co (some 10) (.assign (.const (.int .i64 0))) none] [0, 1, 2, 3, 9, 10])
    (.block 0
      (.loop l4_slices_partialInsertionSortCmpFunc_pair_Pair)))
  (.keep [] (.seq (.reg [co (some 8) (.assign (.const (.bool false))) none] [8])
  (.ret)))))
theorem t_slices_partialInsertionSortCmpFunc_pair_Pair : Txt Try.prog 61 141 [(.tmp 8)] c_slices_partialInsertionSortCmpFunc_pair_Pair := txt_of (code := Try.f61.body.getD .ret) mixed (by kernel_rfl) Try.func61 (by kernel_rfl) Try.ntmps61 (by kernel_rfl) (ls := [([0, 1, 2, 3], []), ([], []), ([0, 1, 2, 3, 9], []), ([], []), ([0, 1, 2, 3, 9, 10], []), ([], []), ([0, 1, 2, 3, 9, 10, 16], []), ([], []), ([999999, 0, 1, 2, 3, 9, 10], []), ([0, 1, 2, 3, 9, 10, 36], []), ([], []), ([999999, 0, 1, 2, 3, 9, 10], []), ([0, 1, 2, 3, 9, 10], []), ([999999, 0, 1, 2, 3, 9, 10], []), ([0, 1, 2, 3, 9, 10, 41], []), ([], []), ([8], []), ([], []), ([999999, 0, 1, 2, 3, 9, 10], []), ([0, 1, 2, 3, 9, 10, 45], []), ([], []), ([8], []), ([], []), ([999999, 0, 1, 2, 3, 9, 10], []), ([0, 1, 2, 3, 9, 10], []), ([], []), ([0, 1, 2, 3, 9, 10, 65], []), ([], []), ([0, 1, 2, 3, 9, 10, 11], []), ([], []), ([0, 1, 2, 3, 9, 10, 11, 69], []), ([], []), ([999999, 0, 1, 2, 3, 9, 10, 11], []), ([0, 1, 2, 3, 9, 10, 11, 84], []), ([], []), ([999999, 0, 1, 2, 3, 9, 10, 11], []), ([0, 1, 2, 3, 9, 10, 11], []), ([999999, 0, 1, 2, 3, 9, 10, 11], []), ([0, 1, 2, 3, 9, 10, 11], []), ([999999, 0, 1, 2, 3, 9, 10], []), ([0, 1, 2, 3, 9, 10, 104], []), ([], []), ([0, 1, 2, 3, 9, 10, 12], []), ([], []), ([0, 1, 2, 3, 9, 10, 12, 109], []), ([], []), ([999999, 0, 1, 2, 3, 9, 10, 12], []), ([0, 1, 2, 3, 9, 10, 12, 124], []), ([], []), ([999999, 0, 1, 2, 3, 9, 10, 12], []), ([0, 1, 2, 3, 9, 10, 12], []), ([999999, 0, 1, 2, 3, 9, 10, 12], []), ([0, 1, 2, 3, 9, 10, 12], []), ([999999, 0, 1, 2, 3, 9, 10], []), ([0, 1, 2, 3, 9, 10], []), ([999999], []), ([8], []), ([], [])]) (by kernel_rfl)
def l1_slices_partitionEqualCmpFunc_pair_Pair : CC :=
  .seq (.seq (.reg [co (some 31) (.move (.tmp 11)) none,
        co (some 32) (.move (.tmp 12)) none,
        co (some 33) (.binOp .leq 3 (.tmp 31) (.tmp 32) 3) none,
        co (some 34) (.move (.tmp 33)) none,
        co (some 35) (.move (.tmp 4)) (some (34, true)),
        co (some 36) (.move (.tmp 0)) (some (34, true)),
        co (some 37) (.move (.tmp 1)) (some (34, true)),
        co (some 38) (.indexAddr 25 (.tmp 36) (.tmp 37)) (some (34, true)),
        co (some 39) (.load 30 (.tmp 38)) (some (34, true)),
        co (some 40) (.move (.tmp 0)) (some (34, true)),
        co (some 41) (.move (.tmp 11)) (some (34, true)),
        co (some 42) (.indexAddr 25 (.tmp 40) (.tmp 41)) (some (34, true)),
        co (some 43) (.load 30 (.tmp 42)) (some (34, true)),
        co (some 44) (.call { callee := (.value (.tmp 35)), args := #[(.tmp 39), (.tmp 43)], argTypes := #[30, 30] }) (some (34, true)),
        co (some 45) (.binOp .lss 3 (.tmp 44) (.const (.int .i64 0)) 3) (some (34, true)),
        co (some 46) (.unOp .not 4 (.tmp 45)) (some (34, true)),
        co (some 47) (.pick (.tmp 34) (.tmp 46) (.const (.bool false))) none] [0, 1, 4, 11, 12, 47])
    (.cond (.tmp 47)
      (.skip)
      (.exit 2)))
  (.keep [0, 1, 4, 11, 12] (.block 3
    (.reg [co (some 48) (.move (.tmp 11)) none,
      co (some 49) (.binOp .add 3 (.tmp 48) (.const (.int .i64 1)) 3) none,
      co (some 11) (.assign (.tmp 49)) none] [0, 1, 4, 11, 12])))
def l2_slices_partitionEqualCmpFunc_pair_Pair : CC :=
  .seq (.seq (.reg [co (some 50) (.move (.tmp 11)) none,
        co (some 51) (.move (.tmp 12)) none,
        co (some 52) (.binOp .leq 3 (.tmp 50) (.tmp 51) 3) none,
        co (some 53) (.move (.tmp 52)) none,
        co (some 54) (.move (.tmp 4)) (some (53, true)),
        co (some 55) (.move (.tmp 0)) (some (53, true)),
        co (some 56) (.move (.tmp 1)) (some (53, true)),
        co (some 57) (.indexAddr 25 (.tmp 55) (.tmp 56)) (some (53, true)),
        co (some 58) (.load 30 (.tmp 57)) (some (53, true)),
        co (some 59) (.move (.tmp 0)) (some (53, true)),
        co (some 60) (.move (.tmp 12)) (some (53, true)),
        co (some 61) (.indexAddr 25 (.tmp 59) (.tmp 60)) (some (53, true)),
        co (some 62) (.load 30 (.tmp 61)) (some (53, true)),
        co (some 63) (.call { callee := (.value (.tmp 54)), args := #[(.tmp 58), (.tmp 62)], argTypes := #[30, 30] }) (some (53, true)),
        co (some 64) (.binOp .lss 3 (.tmp 63) (.const (.int .i64 0)) 3) (some (53, true)),
        co (some 65) (.pick (.tmp 53) (.tmp 64) (.const (.bool false))) none] [0, 1, 4, 11, 12, 65])
    (.cond (.tmp 65)
      (.skip)
      (.exit 4)))
  (.keep [0, 1, 4, 11, 12] (.block 5
    (.reg [co (some 66) (.move (.tmp 12)) none,
      co (some 67) (.binOp .sub 3 (.tmp 66) (.const (.int .i64 1)) 3) none,
      co (some 12) (.assign (.tmp 67)) none] [0, 1, 4, 11, 12])))
def l3_slices_partitionEqualCmpFunc_pair_Pair : CC :=
  .block 1
    (.seq (.block 2
        (.loop l1_slices_partitionEqualCmpFunc_pair_Pair))
    (.keep [0, 1, 4, 11, 12] (.seq (.block 4
        (.loop l2_slices_partitionEqualCmpFunc_pair_Pair))
    (.keep [0, 1, 4, 11, 12] (.seq (.seq (.reg [co (some 68) (.move (.tmp 11)) none,
          co (some 69) (.move (.tmp 12)) none,
          co (some 70) (.binOp .gtr 3 (.tmp 68) (.tmp 69) 3) none] [0, 1, 4, 11, 12, 70])
      (.cond (.tmp 70)
        (.exit 0)
        (.skip)))
    (.keep [0, 1, 4, 11, 12] (.seq (.reg [co (some 71) (.move (.tmp 0)) none,
        co (some 72) (.move (.tmp 11)) none,
        co (some 73) (.move (.tmp 0)) none,
        co (some 74) (.move (.tmp 12)) none,
        co (some 75) (.move (.tmp 0)) none,
        co (some 76) (.move (.tmp 12)) none,
        co (some 77) (.indexAddr 25 (.tmp 75) (.tmp 76)) none,
        co (some 78) (.load 30 (.tmp 77)) none,
        co (some 79) (.move (.tmp 0)) none,
        co (some 80) (.move (.tmp 11)) none,
        co (some 81) (.indexAddr 25 (.tmp 79) (.tmp 80)) none,
        co (some 82) (.load 30 (.tmp 81)) none,
        co (some 83) (.indexAddr 25 (.tmp 71) (.tmp 72)) none,
        co none (.store 30 (.tmp 83) (.tmp 78)) none,
        co (some 84) (.indexAddr 25 (.tmp 73) (.tmp 74)) none,
        co none (.store 30 (.tmp 84) (.tmp 82)) none] [0, 1, 4, 11, 12])
    (.seq (.reg [co (some 85) (.move (.tmp 11)) none,
        co (some 86) (.binOp .add 3 (.tmp 85) (.const (.int .i64 1)) 3) none,
        co (some 11) (.assign (.tmp 86)) none] [0, 1, 4, 11, 12])
    (.reg [co (some 87) (.move (.tmp 12)) none,
      co (some 88) (.binOp .sub 3 (.tmp 87) (.const (.int .i64 1)) 3) none,
      co (some 12) (.assign (.tmp 88)) none] [0, 1, 4, 11, 12])))))))))
/-- slices.partitionEqualCmpFunc[cento/pair.Pair] -/
def c_slices_partitionEqualCmpFunc_pair_Pair : CC :=
  .seq (.reg [co (some 10) (.assign (.const (.int .i64 0))) none] [0, 1, 2, 3, 4])
  (.seq (.reg [co (some 13) (.move (.tmp 0)) none,
      co (some 14) (.move (.tmp 1)) none,
      co (some 15) (.move (.tmp 0)) none,
      co (some 16) (.move (.tmp 3)) none,
      co (some 17) (.move (.tmp 0)) none,
      co (some 18) (.move (.tmp 3)) none,
      co (some 19) (.indexAddr 25 (.tmp 17) (.tmp 18)) none,
      co (some 20) (.load 30 (.tmp 19)) none,
      co (some 21) (.move (.tmp 0)) none,
      co (some 22) (.move (.tmp 1)) none,
      co (some 23) (.indexAddr 25 (.tmp 21) (.tmp 22)) none,
      co (some 24) (.load 30 (.tmp 23)) none,
      co (some 25) (.indexAddr 25 (.tmp 13) (.tmp 14)) none,
      co none (.store 30 (.tmp 25) (.tmp 20)) none,
      co (some 26) (.indexAddr 25 (.tmp 15) (.tmp 16)) none,
      co none (.store 30 (.tmp 26) (.tmp 24)) none] [0, 1, 2, 4])
  (.seq (.reg [co (some 27) (.move (.tmp 1)) none,
      co (some 28) (.binOp .add 3 (.tmp 27) (.const (.int .i64 1)) 3) none,
      co (some 29) (.move (.tmp 2)) none,
      co (some 30) (.binOp .sub 3 (.tmp 29) (.const (.int .i64 1)) 3) none,
      co (some 11) (.assign (.tmp 28)) none,
      co (some 12) (.assign (.tmp 30)) none] [0, 1, 4, 11, 12])
  (.seq (.block 0
      (.loop l3_slices_partitionEqualCmpFunc_pair_Pair))
  (.keep [11] (.seq (.reg [co (some 89) (.move (.tmp 11)) none,
      co (some 10) (.assign (.tmp 89)) none] [10])
  (.ret))))))
theorem t_slices_partitionEqualCmpFunc_pair_Pair : Txt Try.prog 62 90 [(.tmp 10)] c_slices_partitionEqualCmpFunc_pair_Pair := txt_of (code := Try.f62.body.getD .ret) mixed (by kernel_rfl) Try.func62 (by kernel_rfl) Try.ntmps62 (by kernel_rfl) (ls := [([0, 1, 2, 3, 4], []), ([], []), ([0, 1, 2, 4], []), ([], []), ([0, 1, 4, 11, 12], []), ([], []), ([0, 1, 4, 11, 12, 47], []), ([], []), ([999999, 0, 1, 4, 11, 12], []), ([0, 1, 4, 11, 12], []), ([999999, 0, 1, 4, 11, 12], []), ([0, 1, 4, 11, 12, 65], []), ([], []), ([999999, 0, 1, 4, 11, 12], []), ([0, 1, 4, 11, 12], []), ([999999, 0, 1, 4, 11, 12], []), ([0, 1, 4, 11, 12, 70], []), ([], []), ([999999, 0, 1, 4, 11, 12], []), ([0, 1, 4, 11, 12], []), ([], []), ([0, 1, 4, 11, 12], []), ([], []), ([0, 1, 4, 11, 12], []), ([999999, 11], []), ([10], []), ([], [])]) (by kernel_rfl)
def l1_slices_partitionCmpFunc_pair_Pair : CC :=
  .seq (.seq (.reg [co (some 32) (.move (.tmp 12)) none,
        co (some 33) (.move (.tmp 13)) none,
        co (some 34) (.binOp .leq 3 (.tmp 32) (.tmp 33) 3) none,
        co (some 35) (.move (.tmp 34)) none,
        co (some 36) (.move (.tmp 4)) (some (35, true)),
        co (some 37) (.move (.tmp 0)) (some (35, true)),
        co (some 38) (.move (.tmp 12)) (some (35, true)),
        co (some 39) (.indexAddr 25 (.tmp 37) (.tmp 38)) (some (35, true)),
        co (some 40) (.load 30 (.tmp 39)) (some (35, true)),
        co (some 41) (.move (.tmp 0)) (some (35, true)),
        co (some 42) (.move (.tmp 1)) (some (35, true)),
        co (some 43) (.indexAddr 25 (.tmp 41) (.tmp 42)) (some (35, true)),
        co (some 44) (.load 30 (.tmp 43)) (some (35, true)),
        co (some 45) (.call { callee := (.value (.tmp 36)), args := #[(.tmp 40), (.tmp 44)], argTypes := #[30, 30] }) (some (35, true)),
        co (some 46) (.binOp .lss 3 (.tmp 45) (.const (.int .i64 0)) 3) (some (35, true)),
        co (some 47) (.pick (.tmp 35) (.tmp 46) (.const (.bool false))) none] [0, 1, 4, 12, 13, 47])
    (.cond (.tmp 47)
      (.skip)
      (.exit 0)))
  (.keep [0, 1, 4, 12, 13] (.block 1
    (.reg [co (some 48) (.move (.tmp 12)) none,
      co (some 49) (.binOp .add 3 (.tmp 48) (.const (.int .i64 1)) 3) none,
      co (some 12) (.assign (.tmp 49)) none] [0, 1, 4, 12, 13])))
def l2_slices_partitionCmpFunc_pair_Pair : CC :=
  .seq (.seq (.reg [co (some 50) (.move (.tmp 12)) none,
        co (some 51) (.move (.tmp 13)) none,
        co (some 52) (.binOp .leq 3 (.tmp 50) (.tmp 51) 3) none,
        co (some 53) (.move (.tmp 52)) none,
        co (some 54) (.move (.tmp 4)) (some (53, true)),
        co (some 55) (.move (.tmp 0)) (some (53, true)),
        co (some 56) (.move (.tmp 13)) (some (53, true)),
        co (some 57) (.indexAddr 25 (.tmp 55) (.tmp 56)) (some (53, true)),
        co (some 58) (.load 30 (.tmp 57)) (some (53, true)),
        co (some 59) (.move (.tmp 0)) (some (53, true)),
        co (some 60) (.move (.tmp 1)) (some (53, true)),
        co (some 61) (.indexAddr 25 (.tmp 59) (.tmp 60)) (some (53, true)),
        co (some 62) (.load 30 (.tmp 61)) (some (53, true)),
        co (some 63) (.call { callee := (.value (.tmp 54)), args := #[(.tmp 58), (.tmp 62)], argTypes := #[30, 30] }) (some (53, true)),
        co (some 64) (.binOp .lss 3 (.tmp 63) (.const (.int .i64 0)) 3) (some (53, true)),
        co (some 65) (.unOp .not 4 (.tmp 64)) (some (53, true)),
        co (some 66) (.pick (.tmp 53) (.tmp 65) (.const (.bool false))) none] [0, 1, 4, 12, 13, 66])
    (.cond (.tmp 66)
      (.skip)
      (.exit 2)))
  (.keep [0, 1, 4, 12, 13] (.block 3
    (.reg [co (some 67) (.move (.tmp 13)) none,
      co (some 68) (.binOp .sub 3 (.tmp 67) (.const (.int .i64 1)) 3) none,
      co (some 13) (.assign (.tmp 68)) none] [0, 1, 4, 12, 13])))
def l3_slices_partitionCmpFunc_pair_Pair : CC :=
  .seq (.seq (.reg [co (some 105) (.move (.tmp 12)) none,
        co (some 106) (.move (.tmp 13)) none,
        co (some 107) (.binOp .leq 3 (.tmp 105) (.tmp 106) 3) none,
        co (some 108) (.move (.tmp 107)) none,
        co (some 109) (.move (.tmp 4)) (some (108, true)),
        co (some 110) (.move (.tmp 0)) (some (108, true)),
        co (some 111) (.move (.tmp 12)) (some (108, true)),
        co (some 112) (.indexAddr 25 (.tmp 110) (.tmp 111)) (some (108, true)),
        co (some 113) (.load 30 (.tmp 112)) (some (108, true)),
        co (some 114) (.move (.tmp 0)) (some (108, true)),
        co (some 115) (.move (.tmp 1)) (some (108, true)),
        co (some 116) (.indexAddr 25 (.tmp 114) (.tmp 115)) (some (108, true)),
        co (some 117) (.load 30 (.tmp 116)) (some (108, true)),
        co (some 118) (.call { callee := (.value (.tmp 109)), args := #[(.tmp 113), (.tmp 117)], argTypes := #[30, 30] }) (some (108, true)),
        co (some 119) (.binOp .lss 3 (.tmp 118) (.const (.int .i64 0)) 3) (some (108, true)),
        co (some 120) (.pick (.tmp 108) (.tmp 119) (.const (.bool false))) none] [0, 1, 4, 12, 13, 120])
    (.cond (.tmp 120)
      (.skip)
      (.exit 6)))
  (.keep [0, 1, 4, 12, 13] (.block 7
    (.reg [co (some 121) (.move (.tmp 12)) none,
      co (some 122) (.binOp .add 3 (.tmp 121) (.const (.int .i64 1)) 3) none,
      co (some 12) (.assign (.tmp 122)) none] [0, 1, 4, 12, 13])))
def l4_slices_partitionCmpFunc_pair_Pair : CC :=
  .seq (.seq (.reg [co (some 123) (.move (.tmp 12)) none,
        co (some 124) (.move (.tmp 13)) none,
        co (some 125) (.binOp .leq 3 (.tmp 123) (.tmp 124) 3) none,
        co (some 126) (.move (.tmp 125)) none,
        co (some 127) (.move (.tmp 4)) (some (126, true)),
        co (some 128) (.move (.tmp 0)) (some (126, true)),
        co (some 129) (.move (.tmp 13)) (some (126, true)),
        co (some 130) (.indexAddr 25 (.tmp 128) (.tmp 129)) (some (126, true)),
        co (some 131) (.load 30 (.tmp 130)) (some (126, true)),
        co (some 132) (.move (.tmp 0)) (some (126, true)),
        co (some 133) (.move (.tmp 1)) (some (126, true)),
        co (some 134) (.indexAddr 25 (.tmp 132) (.tmp 133)) (some (126, true)),
        co (some 135) (.load 30 (.tmp 134)) (some (126, true)),
        co (some 136) (.call { callee := (.value (.tmp 127)), args := #[(.tmp 131), (.tmp 135)], argTypes := #[30, 30] }) (some (126, true)),
        co (some 137) (.binOp .lss 3 (.tmp 136) (.const (.int .i64 0)) 3) (some (126, true)),
        co (some 138) (.unOp .not 4 (.tmp 137)) (some (126, true)),
        co (some 139) (.pick (.tmp 126) (.tmp 138) (.const (.bool false))) none] [0, 1, 4, 12, 13, 139])
    (.cond (.tmp 139)
      (.skip)
      (.exit 8)))
  (.keep [0, 1, 4, 12, 13] (.block 9
    (.reg [co (some 140) (.move (.tmp 13)) none,
      co (some 141) (.binOp .sub 3 (.tmp 140) (.const (.int .i64 1)) 3) none,
      co (some 13) (.assign (.tmp 141)) none] [0, 1, 4, 12, 13])))
def l5_slices_partitionCmpFunc_pair_Pair : CC :=
  .block 5
    (.seq (.block 6
        (.loop l3_slices_partitionCmpFunc_pair_Pair))
    (.keep [0, 1, 4, 12, 13] (.seq (.block 8
        (.loop l4_slices_partitionCmpFunc_pair_Pair))
    (.keep [0, 1, 4, 12, 13] (.seq (.seq (.reg [co (some 142) (.move (.tmp 12)) none,
          co (some 143) (.move (.tmp 13)) none,
          co (some 144) (.binOp .gtr 3 (.tmp 142) (.tmp 143) 3) none] [0, 1, 4, 12, 13, 144])
      (.cond (.tmp 144)
        (.exit 4)
        (.skip)))
    (.keep [0, 1, 4, 12, 13] (.seq (.reg [co (some 145) (.move (.tmp 0)) none,
        co (some 146) (.move (.tmp 12)) none,
        co (some 147) (.move (.tmp 0)) none,
        co (some 148) (.move (.tmp 13)) none,
        co (some 149) (.move (.tmp 0)) none,
        co (some 150) (.move (.tmp 13)) none,
        co (some 151) (.indexAddr 25 (.tmp 149) (.tmp 150)) none,
        co (some 152) (.load 30 (.tmp 151)) none,
        co (some 153) (.move (.tmp 0)) none,
        co (some 154) (.move (.tmp 12)) none,
        co (some 155) (.indexAddr 25 (.tmp 153) (.tmp 154)) none,
        co (some 156) (.load 30 (.tmp 155)) none,
        co (some 157) (.indexAddr 25 (.tmp 145) (.tmp 146)) none,
        co none (.store 30 (.tmp 157) (.tmp 152)) none,
        co (some 158) (.indexAddr 25 (.tmp 147) (.tmp 148)) none,
        co none (.store 30 (.tmp 158) (.tmp 156)) none] [0, 1, 4, 12, 13])
    (.seq (.reg [co (some 159) (.move (.tmp 12)) none,
        co (some 160) (.binOp .add 3 (.tmp 159) (.const (.int .i64 1)) 3) none,
        co (some 12) (.assign (.tmp 160)) none] [0, 1, 4, 12, 13])
    (.reg [co (some 161) (.move (.tmp 13)) none,
      co (some 162) (.binOp .sub 3 (.tmp 161) (.const (.int .i64 1)) 3) none,
      co (some 13) (.assign (.tmp 162)) none] [0, 1, 4, 12, 13])))))))))
/-- slices.partitionCmpFunc[cento/pair.Pair] -/
def c_slices_partitionCmpFunc_pair_Pair : CC :=
  .seq (.reg [co (some 10) (.assign (.const (.int .i64 0))) none,
      co (some 11) (.assign (.const (.bool false))) none] [0, 1, 2, 3, 4])
  (.seq (.reg [co (some 14) (.move (.tmp 0)) none,
      co (some 15) (.move (.tmp 1)) none,
      co (some 16) (.move (.tmp 0)) none,
      co (some 17) (.move (.tmp 3)) none,
      co (some 18) (.move (.tmp 0)) none,
      co (some 19) (.move (.tmp 3)) none,
      co (some 20) (.indexAddr 25 (.tmp 18) (.tmp 19)) none,
      co (some 21) (.load 30 (.tmp 20)) none,
      co (some 22) (.move (.tmp 0)) none,
      co (some 23) (.move (.tmp 1)) none,
      co (some 24) (.indexAddr 25 (.tmp 22) (.tmp 23)) none,
      co (some 25) (.load 30 (.tmp 24)) none,
      co (some 26) (.indexAddr 25 (.tmp 14) (.tmp 15)) none,
      co none (.store 30 (.tmp 26) (.tmp 21)) none,
      co (some 27) (.indexAddr 25 (.tmp 16) (.tmp 17)) none,
      co none (.store 30 (.tmp 27) (.tmp 25)) none] [0, 1, 2, 4])
  (.seq (.reg [co (some 28) (.move (.tmp 1)) none,
      co (some 29) (.binOp .add 3 (.tmp 28) (.const (.int .i64 1)) 3) none,
      co (some 30) (.move (.tmp 2)) none,
      co (some 31) (.binOp .sub 3 (.tmp 30) (.const (.int .i64 1)) 3) none,
      co (some 12) (.assign (.tmp 29)) none,
      co (some 13) (.assign (.tmp 31)) none] [0, 1, 4, 12, 13])
  (.seq (.block 0
      (.loop l1_slices_partitionCmpFunc_pair_Pair))
  (.keep [0, 1, 4, 12, 13] (.seq (.block 2
      (.loop l2_slices_partitionCmpFunc_pair_Pair))
  (.keep [0, 1, 4, 12, 13] (.seq (.seq (.reg [co (some 69) (.move (.tmp 12)) none,
        co (some 70) (.move (.tmp 13)) none,
        co (some 71) (.binOp .gtr 3 (.tmp 69) (.tmp 70) 3) none] [0, 1, 4, 12, 13, 71])
    (.cond (.tmp 71)
      (.seq (.reg [co (some 72) (.move (.tmp 0)) none,
          co (some 73) (.move (.tmp 13)) none,
          co (some 74) (.move (.tmp 0)) none,
          co (some 75) (.move (.tmp 1)) none,
          co (some 76) (.move (.tmp 0)) none,
          co (some 77) (.move (.tmp 1)) none,
          co (some 78) (.indexAddr 25 (.tmp 76) (.tmp 77)) none,
          co (some 79) (.load 30 (.tmp 78)) none,
          co (some 80) (.move (.tmp 0)) none,
          co (some 81) (.move (.tmp 13)) none,
          co (some 82) (.indexAddr 25 (.tmp 80) (.tmp 81)) none,
          co (some 83) (.load 30 (.tmp 82)) none,
          co (some 84) (.indexAddr 25 (.tmp 72) (.tmp 73)) none,
          co none (.store 30 (.tmp 84) (.tmp 79)) none,
          co (some 85) (.indexAddr 25 (.tmp 74) (.tmp 75)) none,
          co none (.store 30 (.tmp 85) (.tmp 83)) none] [13])
      (.seq (.reg [co (some 86) (.move (.tmp 13)) none,
          co (some 10) (.assign (.tmp 86)) none,
          co (some 11) (.assign (.const (.bool true))) none] [10, 11])
      (.ret)))
      (.skip)))
  (.keep [0, 1, 4, 12, 13] (.seq (.reg [co (some 87) (.move (.tmp 0)) none,
      co (some 88) (.move (.tmp 12)) none,
      co (some 89) (.move (.tmp 0)) none,
      co (some 90) (.move (.tmp 13)) none,
      co (some 91) (.move (.tmp 0)) none,
      co (some 92) (.move (.tmp 13)) none,
      co (some 93) (.indexAddr 25 (.tmp 91) (.tmp 92)) none,
      co (some 94) (.load 30 (.tmp 93)) none,
      co (some 95) (.move (.tmp 0)) none,
      co (some 96) (.move (.tmp 12)) none,
      co (some 97) (.indexAddr 25 (.tmp 95) (.tmp 96)) none,
      co (some 98) (.load 30 (.tmp 97)) none,
      co (some 99) (.indexAddr 25 (.tmp 87) (.tmp 88)) none,
      co none (.store 30 (.tmp 99) (.tmp 94)) none,
      co (some 100) (.indexAddr 25 (.tmp 89) (.tmp 90)) none,
      co none (.store 30 (.tmp 100) (.tmp 98)) none] [0, 1, 4, 12, 13])
  (.seq (.reg [co (some 101) (.move (.tmp 12)) none,
      co (some 102) (.binOp .add 3 (.tmp 101) (.const (.int .i64 1)) 3) none,
      co (some 12) (.assign (.tmp 102)) none] [0, 1, 4, 12, 13])
  (.seq (.reg [co (some 103) (.move (.tmp 13)) none,
      co (some 104) (.binOp .sub 3 (.tmp 103) (.const (.int .i64 1)) 3) none,
      co (some 13) (.assign (.tmp 104)) none] [0, 1, 4, 12, 13])
  (.seq (.block 4
      (.loop l5_slices_partitionCmpFunc_pair_Pair))
  (.keep [0, 1, 13] (.seq (.reg [co (some 163) (.move (.tmp 0)) none,
      co (some 164) (.move (.tmp 13)) none,
      co (some 165) (.move (.tmp 0)) none,
      co (some 166) (.move (.tmp 1)) none,
      co (some 167) (.move (.tmp 0)) none,
      co (some 168) (.move (.tmp 1)) none,
      co (some 169) (.indexAddr 25 (.tmp 167) (.tmp 168)) none,
      co (some 170) (.load 30 (.tmp 169)) none,
      co (some 171) (.move (.tmp 0)) none,
      co (some 172) (.move (.tmp 13)) none,
      co (some 173) (.indexAddr 25 (.tmp 171) (.tmp 172)) none,
      co (some 174) (.load 30 (.tmp 173)) none,
      co (some 175) (.indexAddr 25 (.tmp 163) (.tmp 164)) none,
      co none (.store 30 (.tmp 175) (.tmp 170)) none,
      co (some 176) (.indexAddr 25 (.tmp 165) (.tmp 166)) none,
      co none (.store 30 (.tmp 176) (.tmp 174)) none] [13])
  (.seq (.reg [co (some 177) (.move (.tmp 13)) none,
      co (some 10) (.assign (.tmp 177)) none,
      co (some 11) (.assign (.const (.bool false))) none] [10, 11])
  (.ret))))))))))))))))
theorem t_slices_partitionCmpFunc_pair_Pair : Txt Try.prog 63 178 [(.tmp 10), (.tmp 11)] c_slices_partitionCmpFunc_pair_Pair := txt_of (code := Try.f63.body.getD .ret) mixed (by kernel_rfl) Try.func63 (by kernel_rfl) Try.ntmps63 (by kernel_rfl) (ls := [([0, 1, 2, 3, 4], []), ([], []), ([0, 1, 2, 4], []), ([], []), ([0, 1, 4, 12, 13], []), ([], []), ([0, 1, 4, 12, 13, 47], []), ([], []), ([999999, 0, 1, 4, 12, 13], []), ([0, 1, 4, 12, 13], []), ([999999, 0, 1, 4, 12, 13], []), ([0, 1, 4, 12, 13, 66], []), ([], []), ([999999, 0, 1, 4, 12, 13], []), ([0, 1, 4, 12, 13], []), ([999999, 0, 1, 4, 12, 13], []), ([0, 1, 4, 12, 13, 71], []), ([], []), ([13], []), ([], []), ([10, 11], []), ([], []), ([999999, 0, 1, 4, 12, 13], []), ([0, 1, 4, 12, 13], []), ([], []), ([0, 1, 4, 12, 13], []), ([], []), ([0, 1, 4, 12, 13], []), ([], []), ([0, 1, 4, 12, 13, 120], []), ([], []), ([999999, 0, 1, 4, 12, 13], []), ([0, 1, 4, 12, 13], []), ([999999, 0, 1, 4, 12, 13], []), ([0, 1, 4, 12, 13, 139], []), ([], []), ([999999, 0, 1, 4, 12, 13], []), ([0, 1, 4, 12, 13], []), ([999999, 0, 1, 4, 12, 13], []), ([0, 1, 4, 12, 13, 144], []), ([], []), ([999999, 0, 1, 4, 12, 13], []), ([0, 1, 4, 12, 13], []), ([], []), ([0, 1, 4, 12, 13], []), ([], []), ([0, 1, 4, 12, 13], []), ([999999, 0, 1, 13], []), ([13], []), ([], []), ([10, 11], []), ([], [])]) (by kernel_rfl)
def k1_slices_pdqsortCmpFunc_pair_Pair : CC :=
  .seq (.seq (.reg [co (some 81) (.move (.tmp 1)) none,
        co (some 82) (.binOp .gtr 3 (.tmp 81) (.const (.int .i64 0)) 3) none,
        co (some 83) (.move (.tmp 82)) none,
        co (some 84) (.move (.tmp 4)) (some (83, true)),
        co (some 85) (.move (.tmp 0)) (some (83, true)),
        co (some 86) (.move (.tmp 1)) (some (83, true)),
        co (some 87) (.binOp .sub 3 (.tmp 86) (.const (.int .i64 1)) 3) (some (83, true)),
        co (some 88) (.indexAddr 25 (.tmp 85) (.tmp 87)) (some (83, true)),
        co (some 89) (.load 30 (.tmp 88)) (some (83, true)),
        co (some 90) (.move (.tmp 0)) (some (83, true)),
        co (some 91) (.move (.tmp 13)) (some (83, true)),
        co (some 92) (.indexAddr 25 (.tmp 90) (.tmp 91)) (some (83, true)),
        co (some 93) (.load 30 (.tmp 92)) (some (83, true)),
        co (some 94) (.call { callee := (.value (.tmp 84)), args := #[(.tmp 89), (.tmp 93)], argTypes := #[30, 30] }) (some (83, true)),
        co (some 95) (.binOp .lss 3 (.tmp 94) (.const (.int .i64 0)) 3) (some (83, true)),
        co (some 96) (.unOp .not 4 (.tmp 95)) (some (83, true)),
        co (some 97) (.pick (.tmp 83) (.tmp 96) (.const (.bool false))) none] [0, 1, 2, 3, 4, 10, 11, 12, 13, 97])
    (.cond (.tmp 97)
      (.seq (.reg [co (some 98) (.move (.tmp 0)) none,
          co (some 99) (.move (.tmp 1)) none,
          co (some 100) (.move (.tmp 2)) none,
          co (some 101) (.move (.tmp 13)) none,
          co (some 102) (.move (.tmp 4)) none,
          co (some 103) (.call { callee := (.value (.func 62)), args := #[(.tmp 98), (.tmp 99), (.tmp 100), (.tmp 101), (.tmp 102)], argTypes := #[25, 3, 3, 3, 64] }) none,
          co (some 15) (.assign (.tmp 103)) none] [0, 2, 3, 4, 10, 11, 15])
      (.seq (.reg [co (some 104) (.move (.tmp 15)) none,
          co (some 1) (.assign (.tmp 104)) none] [0, 1, 2, 3, 4, 10, 11])
      (.exit 1)))
      (.skip)))
  (.keep [0, 1, 2, 3, 4, 12, 13] (.seq (.reg [co (some 106) (.move (.tmp 0)) none,
      co (some 107) (.move (.tmp 1)) none,
      co (some 108) (.move (.tmp 2)) none,
      co (some 109) (.move (.tmp 13)) none,
      co (some 110) (.move (.tmp 4)) none,
      co (some 111) (.call { callee := (.value (.func 63)), args := #[(.tmp 106), (.tmp 107), (.tmp 108), (.tmp 109), (.tmp 110)], argTypes := #[25, 3, 3, 3, 64] }) none,
      co (some 105) (.move (.tmp 111)) none,
      co (some 112) (.extract (.tmp 105) 0) none,
      co (some 113) (.extract (.tmp 105) 1) none,
      co (some 16) (.assign (.tmp 112)) none,
      co (some 17) (.assign (.tmp 113)) none] [0, 1, 2, 3, 4, 12, 16, 17])
  (.seq (.reg [co (some 114) (.move (.tmp 17)) none,
      co (some 11) (.assign (.tmp 114)) none] [0, 1, 2, 3, 4, 11, 12, 16])
  (.seq (.reg [co (some 115) (.move (.tmp 16)) none,
      co (some 116) (.move (.tmp 1)) none,
      co (some 117) (.binOp .sub 3 (.tmp 115) (.tmp 116) 3) none,
      co (some 118) (.move (.tmp 2)) none,
      co (some 119) (.move (.tmp 16)) none,
      co (some 120) (.binOp .sub 3 (.tmp 118) (.tmp 119) 3) none,
      co (some 18) (.assign (.tmp 117)) none,
      co (some 19) (.assign (.tmp 120)) none] [0, 1, 2, 3, 4, 11, 12, 16, 18, 19])
  (.seq (.reg [co (some 121) (.move (.tmp 12)) none,
      co (some 122) (.binOp .quo 3 (.tmp 121) (.const (.int .i64 8)) 3) none,
      co (some 20) (.assign (.tmp 122)) none] [0, 1, 2, 3, 4, 11, 16, 18, 19, 20])
  (.seq (.reg [co (some 123) (.move (.tmp 18)) none,
      co (some 124) (.move (.tmp 19)) none,
      co (some 125) (.binOp .lss 3 (.tmp 123) (.tmp 124) 3) none] [0, 1, 2, 3, 4, 11, 16, 18, 19, 20, 125])
  (.cond (.tmp 125)
    (.seq (.reg [co (some 126) (.move (.tmp 18)) none,
        co (some 127) (.move (.tmp 20)) none,
        co (some 128) (.binOp .geq 3 (.tmp 126) (.tmp 127) 3) none,
        co (some 10) (.assign (.tmp 128)) none] [0, 1, 2, 3, 4, 10, 11, 16])
    (.seq (.reg [co (some 129) (.move (.tmp 0)) none,
        co (some 130) (.move (.tmp 1)) none,
        co (some 131) (.move (.tmp 16)) none,
        co (some 132) (.move (.tmp 3)) none,
        co (some 133) (.move (.tmp 4)) none,
        co (some 134) (.call { callee := (.value (.func 41)), args := #[(.tmp 129), (.tmp 130), (.tmp 131), (.tmp 132), (.tmp 133)], argTypes := #[25, 3, 3, 3, 64] }) none] [0, 2, 3, 4, 10, 11, 16])
    (.reg [co (some 135) (.move (.tmp 16)) none,
      co (some 136) (.binOp .add 3 (.tmp 135) (.const (.int .i64 1)) 3) none,
      co (some 1) (.assign (.tmp 136)) none] [0, 1, 2, 3, 4, 10, 11])))
    (.seq (.reg [co (some 137) (.move (.tmp 19)) none,
        co (some 138) (.move (.tmp 20)) none,
        co (some 139) (.binOp .geq 3 (.tmp 137) (.tmp 138) 3) none,
        co (some 10) (.assign (.tmp 139)) none] [0, 1, 2, 3, 4, 10, 11, 16])
    (.seq (.reg [co (some 140) (.move (.tmp 0)) none,
        co (some 141) (.move (.tmp 16)) none,
        co (some 142) (.binOp .add 3 (.tmp 141) (.const (.int .i64 1)) 3) none,
        co (some 143) (.move (.tmp 2)) none,
        co (some 144) (.move (.tmp 3)) none,
        co (some 145) (.move (.tmp 4)) none,
        co (some 146) (.call { callee := (.value (.func 41)), args := #[(.tmp 140), (.tmp 142), (.tmp 143), (.tmp 144), (.tmp 145)], argTypes := #[25, 3, 3, 3, 64] }) none] [0, 1, 3, 4, 10, 11, 16])
    (.reg [co (some 147) (.move (.tmp 16)) none,
      co (some 2) (.assign (.tmp 147)) none] [0, 1, 2, 3, 4, 10, 11]))))))))))
def k2_slices_pdqsortCmpFunc_pair_Pair : CC :=
  .seq (.seq (.reg [co (some 68) (.move (.tmp 10)) none,
        co (some 69) (.move (.tmp 68)) none,
        co (some 70) (.move (.tmp 11)) (some (69, true)),
        co (some 71) (.pick (.tmp 69) (.tmp 70) (.const (.bool false))) none,
        co (some 72) (.move (.tmp 71)) none,
        co (some 73) (.move (.tmp 14)) (some (72, true)),
        co (some 74) (.binOp .eql 99 (.tmp 73) (.const (.int .i64 1)) 99) (some (72, true)),
        co (some 75) (.pick (.tmp 72) (.tmp 74) (.const (.bool false))) none] [0, 1, 2, 3, 4, 10, 11, 12, 13, 75])
    (.cond (.tmp 75)
      (.seq (.reg [co (some 76) (.move (.tmp 0)) none,
          co (some 77) (.move (.tmp 1)) none,
          co (some 78) (.move (.tmp 2)) none,
          co (some 79) (.move (.tmp 4)) none,
          co (some 80) (.call { callee := (.value (.func 61)), args := #[(.tmp 76), (.tmp 77), (.tmp 78), (.tmp 79)], argTypes := #[25, 3, 3, 64] }) none] [0, 1, 2, 3, 4, 10, 11, 12, 13, 80])
      (.cond (.tmp 80)
        (.ret)
        (.skip)))
      (.skip)))
  (.keep [0, 1, 2, 3, 4, 10, 11, 12, 13] k1_slices_pdqsortCmpFunc_pair_Pair)
def k3_slices_pdqsortCmpFunc_pair_Pair : CC :=
  .seq (.reg [co (some 48) (.move (.tmp 0)) none,
      co (some 49) (.move (.tmp 1)) none,
      co (some 50) (.move (.tmp 2)) none,
      co (some 51) (.move (.tmp 4)) none,
      co (some 52) (.call { callee := (.value (.func 59)), args := #[(.tmp 48), (.tmp 49), (.tmp 50), (.tmp 51)], argTypes := #[25, 3, 3, 64] }) none,
      co (some 47) (.move (.tmp 52)) none,
      co (some 53) (.extract (.tmp 47) 0) none,
      co (some 54) (.extract (.tmp 47) 1) none,
      co (some 13) (.assign (.tmp 53)) none,
      co (some 14) (.assign (.tmp 54)) none] [0, 1, 2, 3, 4, 10, 11, 12, 13, 14])
  (.seq (.seq (.reg [co (some 55) (.move (.tmp 14)) none,
        co (some 56) (.binOp .eql 99 (.tmp 55) (.const (.int .i64 2)) 99) none] [0, 1, 2, 3, 4, 10, 11, 12, 13, 14, 56])
    (.cond (.tmp 56)
      (.seq (.reg [co (some 57) (.move (.tmp 0)) none,
          co (some 58) (.move (.tmp 1)) none,
          co (some 59) (.move (.tmp 2)) none,
          co (some 60) (.move (.tmp 4)) none,
          co (some 61) (.call { callee := (.value (.func 60)), args := #[(.tmp 57), (.tmp 58), (.tmp 59), (.tmp 60)], argTypes := #[25, 3, 3, 64] }) none] [0, 1, 2, 3, 4, 10, 11, 12, 13])
      (.seq (.reg [co (some 62) (.move (.tmp 2)) none,
          co (some 63) (.binOp .sub 3 (.tmp 62) (.const (.int .i64 1)) 3) none,
          co (some 64) (.move (.tmp 13)) none,
          co (some 65) (.move (.tmp 1)) none,
          co (some 66) (.binOp .sub 3 (.tmp 64) (.tmp 65) 3) none,
          co (some 67) (.binOp .sub 3 (.tmp 63) (.tmp 66) 3) none,
          co (some 13) (.assign (.tmp 67)) none] [0, 1, 2, 3, 4, 10, 11, 12, 13])
      (.reg [co (some 14) (.assign (.const (.int .i64 1))) none] [0, 1, 2, 3, 4, 10, 11, 12, 13, 14])))
      (.skip)))
  (.keep [0, 1, 2, 3, 4, 10, 11, 12, 13, 14] k2_slices_pdqsortCmpFunc_pair_Pair))
def l1_slices_pdqsortCmpFunc_pair_Pair : CC :=
  .block 1
    (.seq (.reg [co (some 21) (.move (.tmp 2)) none,
        co (some 22) (.move (.tmp 1)) none,
        co (some 23) (.binOp .sub 3 (.tmp 21) (.tmp 22) 3) none,
        co (some 12) (.assign (.tmp 23)) none] [0, 1, 2, 3, 4, 10, 11, 12])
    (.seq (.seq (.reg [co (some 24) (.move (.tmp 12)) none,
          co (some 25) (.binOp .leq 3 (.tmp 24) (.const (.int .i64 12)) 3) none] [0, 1, 2, 3, 4, 10, 11, 12, 25])
      (.cond (.tmp 25)
        (.seq (.reg [co (some 26) (.move (.tmp 0)) none,
            co (some 27) (.move (.tmp 1)) none,
            co (some 28) (.move (.tmp 2)) none,
            co (some 29) (.move (.tmp 4)) none,
            co (some 30) (.call { callee := (.value (.func 56)), args := #[(.tmp 26), (.tmp 27), (.tmp 28), (.tmp 29)], argTypes := #[25, 3, 3, 64] }) none] [])
        (.ret))
        (.skip)))
    (.keep [0, 1, 2, 3, 4, 10, 11, 12] (.seq (.seq (.reg [co (some 31) (.move (.tmp 3)) none,
          co (some 32) (.binOp .eql 3 (.tmp 31) (.const (.int .i64 0)) 3) none] [0, 1, 2, 3, 4, 10, 11, 12, 32])
      (.cond (.tmp 32)
        (.seq (.reg [co (some 33) (.move (.tmp 0)) none,
            co (some 34) (.move (.tmp 1)) none,
            co (some 35) (.move (.tmp 2)) none,
            co (some 36) (.move (.tmp 4)) none,
            co (some 37) (.call { callee := (.value (.func 57)), args := #[(.tmp 33), (.tmp 34), (.tmp 35), (.tmp 36)], argTypes := #[25, 3, 3, 64] }) none] [])
        (.ret))
        (.skip)))
    (.keep [0, 1, 2, 3, 4, 10, 11, 12] (.seq (.seq (.reg [co (some 38) (.move (.tmp 10)) none,
          co (some 39) (.unOp .not 4 (.tmp 38)) none] [0, 1, 2, 3, 4, 10, 11, 12, 39])
      (.cond (.tmp 39)
        (.seq (.reg [co (some 40) (.move (.tmp 0)) none,
            co (some 41) (.move (.tmp 1)) none,
            co (some 42) (.move (.tmp 2)) none,
            co (some 43) (.move (.tmp 4)) none,
            co (some 44) (.call { callee := (.value (.func 58)), args := #[(.tmp 40), (.tmp 41), (.tmp 42), (.tmp 43)], argTypes := #[25, 3, 3, 64] }) none] [0, 1, 2, 3, 4, 10, 11, 12])
        (.reg [co (some 45) (.move (.tmp 3)) none,
          co (some 46) (.binOp .sub 3 (.tmp 45) (.const (.int .i64 1)) 3) none,
          co (some 3) (.assign (.tmp 46)) none] [0, 1, 2, 3, 4, 10, 11, 12]))
        (.skip)))
    (.keep [0, 1, 2, 3, 4, 10, 11, 12] k3_slices_pdqsortCmpFunc_pair_Pair)))))))
/-- slices.pdqsortCmpFunc[cento/pair.Pair] -/
def c_slices_pdqsortCmpFunc_pair_Pair : CC :=
  .seq (.reg [co (some 10) (.assign (.const (.bool true))) none] [0, 1, 2, 3, 4, 10])
  (.seq (.reg [co (some 11) (.assign (.const (.bool true))) none] [0, 1, 2, 3, 4, 10, 11])
  (.block 0
    (.loop l1_slices_pdqsortCmpFunc_pair_Pair)))
theorem t_slices_pdqsortCmpFunc_pair_Pair : Txt Try.prog 41 148 [] c_slices_pdqsortCmpFunc_pair_Pair := txt_of (code := Try.f41.body.getD .ret) mixed (by kernel_rfl) Try.func41 (by kernel_rfl) Try.ntmps41 (by kernel_rfl) (ls := [([0, 1, 2, 3, 4, 10], []), ([], []), ([0, 1, 2, 3, 4, 10, 11], []), ([], []), ([0, 1, 2, 3, 4, 10, 11, 12], []), ([], []), ([0, 1, 2, 3, 4, 10, 11, 12, 25], []), ([], []), ([], []), ([], []), ([999999, 0, 1, 2, 3, 4, 10, 11, 12], []), ([0, 1, 2, 3, 4, 10, 11, 12, 32], []), ([], []), ([], []), ([], []), ([999999, 0, 1, 2, 3, 4, 10, 11, 12], []), ([0, 1, 2, 3, 4, 10, 11, 12, 39], []), ([], []), ([0, 1, 2, 3, 4, 10, 11, 12], []), ([], []), ([0, 1, 2, 3, 4, 10, 11, 12], []), ([999999, 0, 1, 2, 3, 4, 10, 11, 12], []), ([0, 1, 2, 3, 4, 10, 11, 12, 13, 14], []), ([], []), ([0, 1, 2, 3, 4, 10, 11, 12, 13, 14, 56], []), ([], []), ([0, 1, 2, 3, 4, 10, 11, 12, 13], []), ([], []), ([0, 1, 2, 3, 4, 10, 11, 12, 13], []), ([], []), ([0, 1, 2, 3, 4, 10, 11, 12, 13, 14], []), ([999999, 0, 1, 2, 3, 4, 10, 11, 12, 13, 14], []), ([0, 1, 2, 3, 4, 10, 11, 12, 13, 75], []), ([], []), ([0, 1, 2, 3, 4, 10, 11, 12, 13, 80], []), ([], []), ([999999, 0, 1, 2, 3, 4, 10, 11, 12, 13], []), ([0, 1, 2, 3, 4, 10, 11, 12, 13, 97], []), ([], []), ([0, 2, 3, 4, 10, 11, 15], []), ([], []), ([0, 1, 2, 3, 4, 10, 11], []), ([], []), ([999999, 0, 1, 2, 3, 4, 12, 13], []), ([0, 1, 2, 3, 4, 12, 16, 17], []), ([], []), ([0, 1, 2, 3, 4, 11, 12, 16], []), ([], []), ([0, 1, 2, 3, 4, 11, 12, 16, 18, 19], []), ([], []), ([0, 1, 2, 3, 4, 11, 16, 18, 19, 20], []), ([], []), ([0, 1, 2, 3, 4, 11, 16, 18, 19, 20, 125], []), ([], []), ([0, 1, 2, 3, 4, 10, 11, 16], []), ([], []), ([0, 2, 3, 4, 10, 11, 16], []), ([], []), ([0, 1, 2, 3, 4, 10, 11], []), ([0, 1, 2, 3, 4, 10, 11, 16], []), ([], []), ([0, 1, 3, 4, 10, 11, 16], []), ([], []), ([0, 1, 2, 3, 4, 10, 11], [])]) (by kernel_rfl)
/-- slices.SortFunc[[]cento/pair.Pair,cento/pair.Pair] -/
def c_slices_SortFunc_pair_Pair_pair_Pair : CC :=
  .seq (.reg [co (some 5) (.move (.tmp 0)) none,
      co (some 6) (.call { callee := (.builtin .len), args := #[(.tmp 5)], argTypes := #[25] }) none,
      co (some 4) (.assign (.tmp 6)) none] [0, 1, 4])
  (.reg [co (some 7) (.move (.tmp 0)) none,
    co (some 8) (.move (.tmp 4)) none,
    co (some 9) (.move (.tmp 4)) none,
    co (some 10) (.convert 3 86 (.tmp 9)) none,
    co (some 11) (.call { callee := (.value (.func 42)), args := #[(.tmp 10)], argTypes := #[86] }) none,
    co (some 12) (.move (.tmp 1)) none,
    co (some 13) (.call { callee := (.value (.func 41)), args := #[(.tmp 7), (.const (.int .i64 0)), (.tmp 8), (.tmp 11), (.tmp 12)], argTypes := #[25, 3, 3, 3, 64] }) none] [])
theorem t_slices_SortFunc_pair_Pair_pair_Pair : Txt Try.prog 24 14 [] c_slices_SortFunc_pair_Pair_pair_Pair := txt_of (code := Try.f24.body.getD .ret) mixed (by kernel_rfl) Try.func24 (by kernel_rfl) Try.ntmps24 (by kernel_rfl) (ls := [([0, 1, 4], []), ([], []), ([], [])]) (by kernel_rfl)
end Go.Proofs.Ytmeldaflhkiopaa

/-
  slices' sort at pairs, for short rows: the program's functions are the plain ones (the kit's Sort.Defs).
-/
namespace Go.Proofs.Ytmeldaflhkiopaa
set_option linter.unusedVariables false
set_option linter.unusedSimpArgs false
open Go Go.G Go.Proofs Go.PL
theorem sc_callv0 {P : Program} {K : Sta → Prop} {rest : List CO} {s : Nat → A} {H : Hp} {dd : Option Nat} {nm : Nm} {ix : Nat} {un : List Nat} {l : Bool} {lg : Lg} {o : Operand} {g : FuncId} {aa : Array Operand} {ts : Array TypeId} {L : List A} {x : A} (ho : evs s o = .fnc g [] []) (hs : G.Spec P g L x) (hL : aa.toList.map (evs s) = L) (hb : L.all A.bare = true) (h : SeqC P K rest (addL l ix ⟨[], []⟩ lg) (Sta.put ⟨s, H⟩ dd x H)) :
    SeqC P K (⟨dd, .call { callee := .value o, args := aa, argTypes := ts }, none, nm, ix, un, l⟩ :: rest) lg ⟨s, H⟩ := by
  subst hL
  exact sc_callv ho (by simpa using hs) (by simpa using hb) h
instance : Inhabited Sc := ⟨sc0⟩
def ltP (a b : Sc) : Bool := decide (a.i < b.i)
theorem cmp0 (a b : Sc) : decide (cmpZ a.i b.i < 0) = ltP a b := by
  unfold cmpZ ltP
  by_cases h : a.i < b.i
  · rw [if_pos (by omega)]; simp [h]
  · rw [if_neg (by omega)]
    by_cases h2 : b.i < a.i
    · rw [if_pos (by omega)]; simp [h]
    · rw [if_neg (by omega)]; simp [h]
abbrev cmpF : A := .fnc 25 [] []
theorem famA_cmpF : FamA (fun _ => cmpF) := famA_fnc famL_nil famL_nil
theorem pick1_spec (a b : Sc) : G.Spec Try.prog 25 [prA a, prA b] (iv (cmpZ a.i b.i)) := by
  refine spec_of t_pair_Pick_1 (by simp) fun w0 I0 => ?_
  unfold c_pair_Pick_1
  simp [prA, prC]
  refine sc_call (cmp_spec a.i b.i) rfl ?_
  simp
  exact frz_bare rfl
/-- A row of pairs, as an array. -/
abbrev arF (d : Array Sc) (v : Nat) : Fam := rpF d.toList v
theorem ar_get {d : Array Sc} {i : Nat} (h : i < d.size) : (d.toList.map prA)[i]? = some (prA d[i]!) := by
  rw [List.getElem?_map, Array.getElem?_toList, getElem!_pos d i h, Array.getElem?_eq_getElem h]
  rfl
theorem ar_swp {d : Array Sc} {i j : Nat} : (Sort.swp d i j).toList.map prA = ((d.toList.map prA).set i (prA d[j]!)).set j (prA d[i]!) := by
  unfold Sort.swp
  simp [List.map_set]
theorem swp_size {d : Array Sc} {i j : Nat} : (Sort.swp d i j).size = d.size := by simp [Sort.swp]
/-- What the two stores of a swap leave. -/
theorem ar_get2 {d : Array Sc} {i j : Nat} (hi : i < d.size) (hj : j < d.size) : ((d.toList.map prA).set i (prA d[j]!))[j]? = some (prA d[j]!) := by
  by_cases e : i = j
  · subst e
    rw [List.getElem?_set_self (by simpa using hi)]
  · rw [List.getElem?_set_ne e, ar_get hj]
section
variable {n0 : Nat} {w0 : World} {I0 : Nat → Prop} {M0 : Nm → Nat → Prop} {m0 : Mu} {Q : Exit → Sta → Prop} {v : Nat}
abbrev arN (n v r : Nat) : A := .osl [r] v 2 0 n
theorem ins_l1 {a n : Nat} {b i : Int} (hn : n ≤ 1000) (ha : a ≤ 1000) : ∀ (j : Nat) (d : Array Sc) (H : Hp), d.size = n → j < n → (∀ p, H (0 :: p) = (arF d v).F 0 p) →
    (∀ (H' : Hp) (st : List (Nat × A)), (∀ p, H' (0 :: p) = (arF (Sort.insInner ltP a j d) v).F 0 p) → Q (.exit 2) ⟨lk ([(0, arN n v 0), (1, iv a), (2, iv b), (3, cmpF), (8, iv i)] ++ st), H'⟩) →
    LoopC (cxh Try.prog w0 I0 M0 n0 m0) l1_slices_insertionSortCmpFunc_pair_Pair Q ⟨lk [(0, arN n v 0), (1, iv a), (2, iv b), (3, cmpF), (8, iv i), (9, iv j)], H⟩ := by
  intro j
  induction j with
  | zero =>
    intro d H hd hj hH hq
    refine loopC_once mixed l1_slices_insertionSortCmpFunc_pair_Pair.eq_1 ?_
    simp [show ¬ (a : Int) < 0 by omega]
    rw [sc_guard]
    simp
    exact hq H [(9, iv 0), (34, bv false)] hH
  | succ j ih =>
    intro d H hd hj hH hq
    have h0 := hH []
    have g1 := ar_get (d := d) (i := j + 1) (by omega)
    have g0 := ar_get (d := d) (i := j) (by omega)
    rw [Sort.insInner] at hq
    have e1 : IntKind.i64.wrap ((j : Int) + 1 - 1) = (j : Int) := by rw [i64_same (by omega) (by omega)]; omega
    simp only [Int.add_sub_cancel] at e1
    refine loopC_once mixed l1_slices_insertionSortCmpFunc_pair_Pair.eq_1 ?_
    by_cases h1 : a < j + 1
    · have hc := cmp0 d[j + 1]! d[j]!
      simp only [rpF_F] at h0
      generalize hx : d[j + 1]! = x at *
      generalize hy : d[j]! = y at *
      simp [show (a : Int) < j + 1 by omega, h0, e1, g1, g0, hj, show j < n by omega, show (j : Int) + 1 < n by omega, show (j : Int) < n by omega, show (0 : Int) ≤ (j : Int) + 1 by omega, pr_agg]
      rw [sc_guard]
      simp
      refine sc_callv0 rfl (pick1_spec x y) (by simp) rfl ?_
      cases hL : ltP x y with
      | false =>
        rw [hL] at hc hq
        rw [if_neg (by simp)] at hq
        have hc' : ¬ cmpZ x.i y.i < 0 := by simpa using hc
        simp [hc']
        exact hq H [(9, iv (j + 1 : Nat)), (34, bv false)] (fun p => by simp [hH])
      | true =>
        rw [hL] at hc hq
        rw [if_pos (by simp; omega)] at hq
        have hc' : cmpZ x.i y.i < 0 := by simpa using hc
        have g2 := ar_get2 (d := d) (i := j + 1) (j := j) (by omega) (by omega)
        have hs := ar_swp (d := d) (i := j + 1) (j := j)
        rw [hx, hy] at hs
        rw [hy] at g2
        simp [hc', h0, e1, g1, g0, g2, hj, show j < n by omega, show (j : Int) + 1 < n by omega, show (j : Int) < n by omega, show (0 : Int) ≤ (j : Int) + 1 by omega, pr_agg]
        exact ih (Sort.swp d (j + 1) j) _ (by rw [swp_size]; exact hd) (by omega) (fun p => by by_cases hp : p = [] <;> simp [hp, hs, updF_app, hH]) hq
    · rw [if_neg (by simp; omega)] at hq
      simp [show ¬ (a : Int) < j + 1 by omega]
      rw [sc_guard]
      simp
      exact hq H [(9, iv (j + 1 : Nat)), (34, bv false)] hH
theorem insInner_size (lt : Sc → Sc → Bool) (a : Nat) : ∀ (j : Nat) (d : Array Sc), (Sort.insInner lt a j d).size = d.size
  | 0, d => rfl
  | j + 1, d => by
    unfold Sort.insInner
    split
    · rw [insInner_size lt a j, swp_size]
    · rfl
theorem ins_l2 {a b n : Nat} (hn : n ≤ 1000) (ha : a ≤ 1000) (hb : b ≤ n) : ∀ (m i : Nat) (d : Array Sc) (H : Hp), (i + m = b ∨ (b ≤ i ∧ m = 0 ∧ i ≤ 1001)) → d.size = n → (∀ p, H (0 :: p) = (arF d v).F 0 p) →
    (∀ (H' : Hp) (st : List (Nat × A)), (∀ p, H' (0 :: p) = (arF (Sort.insOuter ltP a b i d) v).F 0 p) → Q (.exit 0) ⟨lk st, H'⟩) →
    LoopC (cxh Try.prog w0 I0 M0 n0 m0) l2_slices_insertionSortCmpFunc_pair_Pair Q ⟨lk [(0, arN n v 0), (1, iv a), (2, iv b), (3, cmpF), (8, iv i)], H⟩ := by
  intro m
  induction m with
  | zero =>
    intro i d H hi hd hH hq
    rw [Sort.insOuter, if_neg (by omega)] at hq
    refine loopC_once mixed l2_slices_insertionSortCmpFunc_pair_Pair.eq_1 ?_
    simp [show ¬ (i : Int) < b by omega, show ¬ i < b by omega]
    exact hq H [(0, arN n v 0), (1, iv a), (2, iv b), (3, cmpF), (8, iv i), (14, bv false)] hH
  | succ m ih =>
    intro i d H hi hd hH hq
    have hib : i < b := by omega
    have e1 : IntKind.i64.wrap ((i : Int) + 1) = ((i + 1 : Nat) : Int) := by rw [i64_same (by omega) (by omega)]; omega
    rw [Sort.insOuter, if_pos hib] at hq
    refine loopC_once mixed l2_slices_insertionSortCmpFunc_pair_Pair.eq_1 ?_
    simp [show (i : Int) < b by omega, hib]
    refine ins_l1 (n := n) (v := v) hn ha i d H hd (by omega) hH fun H' st h' => ?_
    simp [e1]
    exact ih (i + 1) _ H' (by omega) (by rw [insInner_size]; exact hd) h' hq
end
theorem insOuter_size (lt : Sc → Sc → Bool) (a b : Nat) : ∀ (m i : Nat) (d : Array Sc), b - i ≤ m → (Sort.insOuter lt a b i d).size = d.size
  | 0, i, d, h => by rw [Sort.insOuter, if_neg (by omega)]
  | m + 1, i, d, h => by
    rw [Sort.insOuter]
    split
    · rw [insOuter_size lt a b m _ _ (by omega), insInner_size]
    · rfl
theorem famAr (n v : Nat) : FamA (fun r => arN n v r) := famA_osl
theorem insSort_spec (d : Array Sc) (v a b : Nat) (hn : d.size ≤ 900) (ha : a ≤ 900) (hb : b ≤ d.size) : SpecF Try.prog 56 (fun r => [arN d.size v r, iv a, iv b, cmpF]) (arF d v) (fun _ => .tup []) (arF (Sort.insertionSort ltP d a b) v) := by
  refine specF_of t_slices_insertionSortCmpFunc_pair_Pair (by simp) (famL_cons (famAr _ _) (famL_cons famA_v (famL_cons famA_v (famL_cons famA_cmpF famL_nil)))) (famA_tup famL_nil) fun w0 I0 M0 m0 => ?_
  have e1 : IntKind.i64.wrap ((a : Int) + 1) = ((a + 1 : Nat) : Int) := by rw [i64_same (by omega) (by omega)]; omega
  unfold c_slices_insertionSortCmpFunc_pair_Pair
  simp [e1]
  refine LoopC.le (le_list [(0, arN d.size v 0), (1, iv a), (2, iv b), (3, cmpF), (8, iv (a + 1 : Nat))] (by simp)) ?_
  refine ins_l2 (n := d.size) (v := v) (by omega) (by omega) hb (b - (a + 1)) (a + 1) d _ (by omega) rfl (fun p => by simp) fun H' st h' => ?_
  simp
  exact reth_famN rfl rfl (fun p => h' p)
/-! ### reverseRange -/
section
variable {n0 : Nat} {w0 : World} {I0 : Nat → Prop} {M0 : Nm → Nat → Prop} {m0 : Mu} {Q : Exit → Sta → Prop} {v : Nat}
theorem rev_l1 {n : Nat} (hn : n ≤ 1000) : ∀ (m i j : Nat) (d : Array Sc) (H : Hp), j - i ≤ m → i ≤ n → j < n → d.size = n → (∀ p, H (0 :: p) = (arF d v).F 0 p) →
    (∀ (H' : Hp) (st : List (Nat × A)), (∀ p, H' (0 :: p) = (arF (Sort.reverseLoop i j d) v).F 0 p) → Q (.exit 0) ⟨lk st, H'⟩) →
    LoopC (cxh Try.prog w0 I0 M0 n0 m0) l1_slices_reverseRangeCmpFunc_pair_Pair Q ⟨lk [(0, arN n v 0), (8, iv i), (9, iv j)], H⟩ := by
  intro m
  induction m with
  | zero =>
    intro i j d H hm hi hj hd hH hq
    rw [Sort.reverseLoop, if_neg (by omega)] at hq
    refine loopC_once mixed l1_slices_reverseRangeCmpFunc_pair_Pair.eq_1 ?_
    simp [show ¬ (i : Int) < j by omega, show ¬ i < j by omega]
    exact hq H [(0, arN n v 0), (8, iv i), (9, iv j), (15, bv false)] hH
  | succ m ih =>
    intro i j d H hm hi hj hd hH hq
    by_cases hij : i < j
    · rw [Sort.reverseLoop, if_pos hij] at hq
      have h0 := hH []
      simp only [rpF_F] at h0
      have e1 : IntKind.i64.wrap ((i : Int) + 1) = ((i + 1 : Nat) : Int) := by rw [i64_same (by omega) (by omega)]; omega
      have e2 : IntKind.i64.wrap ((j : Int) - 1) = ((j - 1 : Nat) : Int) := by rw [i64_same (by omega) (by omega)]; omega
      have g1 := ar_get (d := d) (i := i) (by omega)
      have g0 := ar_get (d := d) (i := j) (by omega)
      have g2 := ar_get2 (d := d) (i := i) (j := j) (by omega) (by omega)
      have hs := ar_swp (d := d) (i := i) (j := j)
      generalize d[i]! = x at g1 g2 hs
      generalize d[j]! = y at g0 g2 hs
      refine loopC_once mixed l1_slices_reverseRangeCmpFunc_pair_Pair.eq_1 ?_
      simp [hij, show (i : Int) < j by omega, h0, g0, g1, g2, e1, e2, show (i : Int) < n by omega, show (j : Int) < n by omega, show i < n by omega, hj, pr_agg]
      refine LoopC.le (le_list [(0, arN n v 0), (8, iv (i + 1 : Nat)), (9, iv (j - 1 : Nat))] (by simp)) ?_
      exact ih (i + 1) (j - 1) (Sort.swp d i j) _ (by omega) (by omega) (by omega) (by rw [swp_size]; exact hd) (fun p => by by_cases hp : p = [] <;> simp [hp, hs, updF_app, hH]) hq
    · rw [Sort.reverseLoop, if_neg hij] at hq
      refine loopC_once mixed l1_slices_reverseRangeCmpFunc_pair_Pair.eq_1 ?_
      simp [show ¬ (i : Int) < j by omega, hij]
      exact hq H [(0, arN n v 0), (8, iv i), (9, iv j), (15, bv false)] hH
end
theorem reverse_spec (d : Array Sc) (v a b : Nat) (hn : d.size ≤ 900) (ha : a ≤ d.size) (hb : 1 ≤ b) (hb2 : b ≤ d.size) : SpecF Try.prog 60 (fun r => [arN d.size v r, iv a, iv b, cmpF]) (arF d v) (fun _ => .tup []) (arF (Sort.reverseRange d a b) v) := by
  refine specF_of t_slices_reverseRangeCmpFunc_pair_Pair (by simp) (famL_cons (famAr _ _) (famL_cons famA_v (famL_cons famA_v (famL_cons famA_cmpF famL_nil)))) (famA_tup famL_nil) fun w0 I0 M0 m0 => ?_
  have e1 : IntKind.i64.wrap ((b : Int) - 1) = ((b - 1 : Nat) : Int) := by rw [i64_same (by omega) (by omega)]; omega
  unfold c_slices_reverseRangeCmpFunc_pair_Pair
  simp [e1]
  refine rev_l1 (n := d.size) (v := v) (by omega) (b - 1 - a) a (b - 1) d _ (Nat.le_refl _) ha (by omega) rfl (fun p => by simp) fun H' st h' => ?_
  simp
  exact reth_famN rfl rfl (fun p => h' p)
/-! ### choosePivot -/
def ceF (s : Nat) : Fam := ⟨fun r p => if p = [] then ⟨1, .cells [iv s]⟩ else ⟨0, .none⟩, fun {g δ r r'} hg hd p => by
    by_cases h1 : p = []
    · rw [if_pos h1]
      exact Fam.cells_ren (by simp [A.renL, A.ren])
    · rw [if_neg h1]; rfl, fun {D r} hD p => by
    by_cases h1 : p = []
    · rw [if_pos h1]; simp [Ob.refs, A.refsL, A.refs]
    · rw [if_neg h1]; trivial⟩
@[simp] theorem ceF_F {s r : Nat} {p : Nm} : (ceF s).F r p = if p = [] then ⟨1, .cells [iv s]⟩ else ⟨0, .none⟩ := rfl
abbrev ceP (q : Nat) : A := .pob [q] 1 0
theorem order2_spec (d : Array Sc) (v a b s : Nat) (hn : d.size ≤ 900) (ha : a < d.size) (hb : b < d.size) (hs : s ≤ 900) : SpecF2 Try.prog 92 (fun r q => [arN d.size v r, iv a, iv b, ceP q, cmpF]) ((arF d v).two (ceF s)) (fun _ _ => .tup [iv (Sort.order2 ltP d a b s).1, iv (Sort.order2 ltP d a b s).2.1]) ((arF d v).two (ceF (Sort.order2 ltP d a b s).2.2)) := by
  refine specF2_of t_slices_order2CmpFunc_pair_Pair (by simp) (famL2_cons (famA2_l (famAr _ _)) (famL2_cons (famA2_l famA_v) (famL2_cons (famA2_l famA_v) (famL2_cons (famA2_r famA_pob) (famL2_cons (famA2_l famA_cmpF) famL2_nil))))) (famA2_tup (famL2_cons (famA2_l famA_v) (famL2_cons (famA2_l famA_v) famL2_nil))) fun w0 I0 M0 m0 => ?_
  have ga := ar_get (d := d) (i := a) (by omega)
  have gb := ar_get (d := d) (i := b) (by omega)
  have hc := cmp0 d[b]! d[a]!
  have e1 : IntKind.i64.wrap ((s : Int) + 1) = ((s + 1 : Nat) : Int) := by rw [i64_same (by omega) (by omega)]; omega
  unfold Sort.order2
  generalize d[a]! = x at *
  generalize d[b]! = y at *
  generalize d.size = n at hn ha hb ⊢
  unfold c_slices_order2CmpFunc_pair_Pair
  simp [ga, gb, ha, hb, show (a : Int) < n by omega, show (b : Int) < n by omega, pr_agg]
  refine sc_callv0 rfl (pick1_spec y x) (by simp) rfl ?_
  cases hL : ltP y x with
  | true =>
    rw [hL] at hc
    have hc' : cmpZ y.i x.i < 0 := by simpa using hc
    simp [hc', e1, updF_app]
    exact reth_fam2 rfl rfl (fun p => by simp) (fun p => by by_cases hp : p = [] <;> simp [hp, updF_app])
  | false =>
    rw [hL] at hc
    have hc' : ¬ cmpZ y.i x.i < 0 := by simpa using hc
    simp [hc']
    exact reth_fam2 rfl rfl (fun p => by simp) (fun p => by simp)
theorem order2_mem (lt : Sc → Sc → Bool) (d : Array Sc) (a b s n : Nat) (ha : a < n) (hb : b < n) (hs : s ≤ 100) : (Sort.order2 lt d a b s).1 < n ∧ (Sort.order2 lt d a b s).2.1 < n ∧ (Sort.order2 lt d a b s).2.2 ≤ s + 1 := by
  unfold Sort.order2
  split
  · exact ⟨hb, ha, by simp⟩
  · exact ⟨ha, hb, by simp⟩
theorem median_spec (d : Array Sc) (v a b c s : Nat) (hn : d.size ≤ 900) (ha : a < d.size) (hb : b < d.size) (hcc : c < d.size) (hs : s ≤ 90) : SpecF2 Try.prog 82 (fun r q => [arN d.size v r, iv a, iv b, iv c, ceP q, cmpF]) ((arF d v).two (ceF s)) (fun _ _ => iv (Sort.median ltP d a b c s).1) ((arF d v).two (ceF (Sort.median ltP d a b c s).2)) := by
  refine specF2_of t_slices_medianCmpFunc_pair_Pair (by simp) (famL2_cons (famA2_l (famAr _ _)) (famL2_cons (famA2_l famA_v) (famL2_cons (famA2_l famA_v) (famL2_cons (famA2_l famA_v) (famL2_cons (famA2_r famA_pob) (famL2_cons (famA2_l famA_cmpF) famL2_nil)))))) (famA2_l famA_v) fun w0 I0 M0 m0 => ?_
  obtain ⟨q1, q2, q3⟩ := order2_mem ltP d a b s d.size ha hb (by omega)
  have h1 := order2_spec d v a b s hn ha hb (by omega)
  unfold Sort.median
  simp only
  generalize Sort.order2 ltP d a b s = R at h1 q1 q2 q3 ⊢
  obtain ⟨p1, p2, p3⟩ := order2_mem ltP d R.2.1 c R.2.2 d.size q2 hcc (by omega)
  have h2 := order2_spec d v R.2.1 c R.2.2 hn q2 hcc (by omega)
  generalize Sort.order2 ltP d R.2.1 c R.2.2 = S2 at h2 p1 p2 p3 ⊢
  obtain ⟨z1, z2, z3⟩ := order2_mem ltP d R.1 S2.1 S2.2.2 d.size q1 p1 (by omega)
  have h3 := order2_spec d v R.1 S2.1 S2.2.2 hn q1 p1 (by omega)
  generalize Sort.order2 ltP d R.1 S2.1 S2.2.2 = T3 at h3 z1 z2 z3 ⊢
  unfold c_slices_medianCmpFunc_pair_Pair
  simp
  refine sc_fam2 0 1 (by omega) h1 (fun p => by simp) (fun p => by simp) (by simp) (by simp) ?_
  simp
  refine sc_fam2 0 1 (by omega) h2 (fun p => by simp) (fun p => by simp) (by simp) (by simp) ?_
  simp
  refine sc_fam2 0 1 (by omega) h3 (fun p => by simp) (fun p => by simp) (by simp) (by simp) ?_
  simp
  exact reth_fam2 rfl rfl (fun p => by simp) (fun p => by simp)
def hintI : Sort.Hint → Int
  | .unknown => 0
  | .increasing => 1
  | .decreasing => 2
theorem choose_spec (d : Array Sc) (v a b : Nat) (hn : d.size ≤ 900) (hab : a + 13 ≤ b) (hb : b ≤ d.size) (hl : b - a < 50) : SpecF Try.prog 59 (fun r => [arN d.size v r, iv a, iv b, cmpF]) (arF d v) (fun _ => .tup [iv (Sort.choosePivot ltP d a b).1, iv (hintI (Sort.choosePivot ltP d a b).2)]) (arF d v) := by
  refine specF_of t_slices_choosePivotCmpFunc_pair_Pair (by simp) (famL_cons (famAr _ _) (famL_cons famA_v (famL_cons famA_v (famL_cons famA_cmpF famL_nil)))) (famA_tup (famL_cons famA_v (famL_cons famA_v famL_nil))) fun w0 I0 M0 m0 => ?_
  obtain ⟨l, hll⟩ : ∃ l, l = b - a := ⟨_, rfl⟩
  have e1 : IntKind.i64.wrap ((b : Int) - a) = (l : Int) := by rw [i64_same (by omega) (by omega)]; omega
  obtain ⟨q, hq⟩ : ∃ q, q = l / 4 := ⟨_, rfl⟩
  have e2 : IntKind.i64.wrap ((l : Int).tdiv 4) = (q : Int) := by rw [Int.tdiv_eq_ediv_of_nonneg (by omega), i64_same (by omega) (by omega)]; omega
  have e3 : IntKind.i64.wrap ((q : Int) * 1) = (q : Int) := by rw [i64_same (by omega) (by omega)]; omega
  have e4 : IntKind.i64.wrap ((q : Int) * 2) = ((q * 2 : Nat) : Int) := by rw [i64_same (by omega) (by omega)]; omega
  have e5 : IntKind.i64.wrap ((q : Int) * 3) = ((q * 3 : Nat) : Int) := by rw [i64_same (by omega) (by omega)]; omega
  have e6 : IntKind.i64.wrap ((a : Int) + q) = ((a + q : Nat) : Int) := by rw [i64_same (by omega) (by omega)]; omega
  have e7 : IntKind.i64.wrap ((a : Int) + (q : Int) * 2) = ((a + q * 2 : Nat) : Int) := by rw [i64_same (by omega) (by omega)]; omega
  have e8 : IntKind.i64.wrap ((a : Int) + (q : Int) * 3) = ((a + q * 3 : Nat) : Int) := by rw [i64_same (by omega) (by omega)]; omega
  have e9 : IntKind.i64.wrap ((l : Int) / 4) = (q : Int) := by rw [i64_same (by omega) (by omega)]; omega
  have e10 : IntKind.i64.wrap (q : Int) = (q : Int) := i64_same (by omega) (by omega)
  have hm := median_spec d v (a + q) (a + q * 2) (a + q * 3) 0 hn (by omega) (by omega) (by omega) (by omega)
  unfold Sort.choosePivot
  simp only [← hll, ← hq, Nat.mul_one, ge_iff_le, if_pos (show 8 ≤ l by omega), if_neg (show ¬ 50 ≤ l by omega)]
  generalize Sort.median ltP d (a + q) (a + q * 2) (a + q * 3) 0 = R at hm ⊢
  unfold c_slices_choosePivotCmpFunc_pair_Pair
  simp [e1, e2, e3, e4, e5, e6, e7, e8, e9, e10, show (8 : Int) ≤ l by omega, show ¬ (50 : Int) ≤ l by omega, updF_app]
  refine sc_fam2 0 1 (by omega) hm (fun p => by simp) (fun p => ?_) (by simp) (by simp) ?_
  · by_cases hp : p = []
    · subst hp; simp [lkH]
    · simp [lkH, hp, Ne.symm hp]
  rw [two_C]
  simp
  rw [k1_slices_choosePivotCmpFunc_pair_Pair.eq_1]
  by_cases h0 : R.2 = 0
  · simp [h0, hintI]
    exact reth_fam rfl rfl (fun p => by simp)
  · by_cases h12 : R.2 = 12
    · simp [h12, hintI]
      exact reth_fam rfl rfl (fun p => by simp)
    · have h0' : ¬ (R.2 : Int) = 0 := by omega
      have h12' : ¬ (R.2 : Int) = 12 := by omega
      simp [h0, h12, h0', h12', hintI]
      exact reth_fam rfl rfl (fun p => by simp)
/-! ### partialInsertionSort -/
section
variable {n0 : Nat} {w0 : World} {I0 : Nat → Prop} {M0 : Nm → Nat → Prop} {m0 : Mu} {Q : Exit → Sta → Prop} {v : Nat}
theorem scan_le (lt : Sc → Sc → Bool) (d : Array Sc) (b : Nat) : ∀ (m i : Nat), b - i ≤ m → i ≤ b → i ≤ Sort.scanSorted lt d b i ∧ Sort.scanSorted lt d b i ≤ b
  | 0, i, h, hi => by rw [Sort.scanSorted, if_neg (by simp; omega)]; omega
  | m + 1, i, h, hi => by
    rw [Sort.scanSorted]
    split
    · rename_i hc
      simp at hc
      have := scan_le lt d b m (i + 1) (by omega) (by omega)
      omega
    · omega
theorem part_l1 {n a b : Nat} {k : Int} {d : Array Sc} {H : Hp} (hn : n ≤ 900) (hb : b ≤ n) (hd : d.size = n) (hH : ∀ p, H (0 :: p) = (arF d v).F 0 p) : ∀ (m i : Nat), b - i ≤ m → 1 ≤ i → i ≤ b →
    (∀ (st : List (Nat × A)), Q (.exit 2) ⟨lk ([(0, arN n v 0), (1, iv a), (2, iv b), (3, cmpF), (9, iv (Sort.scanSorted ltP d b i)), (10, iv k)] ++ st), H⟩) →
    LoopC (cxh Try.prog w0 I0 M0 n0 m0) l1_slices_partialInsertionSortCmpFunc_pair_Pair Q ⟨lk [(0, arN n v 0), (1, iv a), (2, iv b), (3, cmpF), (9, iv i), (10, iv k)], H⟩ := by
  intro m
  induction m with
  | zero =>
    intro i hm h1 hi hq
    rw [Sort.scanSorted, if_neg (by simp; omega)] at hq
    refine loopC_once mixed l1_slices_partialInsertionSortCmpFunc_pair_Pair.eq_1 ?_
    simp [show ¬ (i : Int) < b by omega, show ¬ i < b by omega]
    rw [sc_guard]
    simp
    exact hq [(36, bv false)]
  | succ m ih =>
    intro i hm h1 hi hq
    by_cases hib : i < b
    · have h0 := hH []
      simp only [rpF_F] at h0
      have g1 := ar_get (d := d) (i := i) (by omega)
      have g0 := ar_get (d := d) (i := i - 1) (by omega)
      have e1 : IntKind.i64.wrap ((i : Int) + 1) = ((i + 1 : Nat) : Int) := by rw [i64_same (by omega) (by omega)]; omega
      have e2 : IntKind.i64.wrap ((i : Int) - 1) = ((i - 1 : Nat) : Int) := by rw [i64_same (by omega) (by omega)]; omega
      have hc := cmp0 d[i]! d[i - 1]!
      rw [Sort.scanSorted] at hq
      generalize d[i]! = x at g1 hc hq
      generalize d[i - 1]! = y at g0 hc hq
      refine loopC_once mixed l1_slices_partialInsertionSortCmpFunc_pair_Pair.eq_1 ?_
      simp [hib, show (i : Int) < b by omega, h0, g1, g0, e2, show (i : Int) < n by omega, show i < n by omega, show i - 1 < n by omega, show ((i - 1 : Nat) : Int) < n by omega, pr_agg]
      rw [sc_guard]
      simp
      refine sc_callv0 rfl (pick1_spec x y) (by simp) rfl ?_
      cases hL : ltP x y with
      | true =>
        rw [hL] at hc hq
        rw [if_neg (by simp)] at hq
        have hc' : cmpZ x.i y.i < 0 := by simpa using hc
        simp [hc']
        exact hq [(36, bv false)]
      | false =>
        rw [hL] at hc hq
        rw [if_pos (by simp [hib])] at hq
        have hc' : ¬ cmpZ x.i y.i < 0 := by simpa using hc
        simp [hc', e1]
        exact ih (i + 1) (by omega) (by omega) (by omega) hq
    · rw [Sort.scanSorted, if_neg (by simp; omega)] at hq
      refine loopC_once mixed l1_slices_partialInsertionSortCmpFunc_pair_Pair.eq_1 ?_
      simp [show ¬ (i : Int) < b by omega, hib]
      rw [sc_guard]
      simp
      exact hq [(36, bv false)]
end
theorem partial_eq (d : Array Sc) (a b : Nat) (hl : b - a < 50) : Sort.partialInsertionSort ltP d a b = (d, decide (Sort.scanSorted ltP d b (a + 1) = b)) := by
  unfold Sort.partialInsertionSort
  rw [Sort.partialIns]
  simp only
  split
  · rename_i h; simp [h]
  · rename_i h; simp [h, hl]
theorem partial_spec (d : Array Sc) (v a b : Nat) (hn : d.size ≤ 900) (hab : a < b) (hb : b ≤ d.size) (hl : b - a < 50) : SpecF Try.prog 61 (fun r => [arN d.size v r, iv a, iv b, cmpF]) (arF d v) (fun _ => bv (Sort.partialInsertionSort ltP d a b).2) (arF (Sort.partialInsertionSort ltP d a b).1 v) := by
  rw [partial_eq d a b hl]
  refine specF_of t_slices_partialInsertionSortCmpFunc_pair_Pair (by simp) (famL_cons (famAr _ _) (famL_cons famA_v (famL_cons famA_v (famL_cons famA_cmpF famL_nil)))) famA_v fun w0 I0 M0 m0 => ?_
  have e1 : IntKind.i64.wrap ((a : Int) + 1) = ((a + 1 : Nat) : Int) := by rw [i64_same (by omega) (by omega)]; omega
  have e2 : IntKind.i64.wrap ((b : Int) - a) = ((b - a : Nat) : Int) := by rw [i64_same (by omega) (by omega)]; omega
  have hsc := scan_le ltP d b (b - (a + 1)) (a + 1) (by omega) (by omega)
  have l1 := fun (Q : Exit → Sta → Prop) (H : Hp) (k : Int) (hH : ∀ p, H (0 :: p) = (arF d v).F 0 p) => part_l1 (n0 := 141) (w0 := w0) (I0 := I0) (M0 := M0) (m0 := m0) (Q := Q) (v := v) (k := k) (a := a) hn hb rfl hH (b - (a + 1)) (a + 1) (Nat.le_refl _) (by omega) (by omega)
  generalize Sort.scanSorted ltP d b (a + 1) = z at hsc l1 ⊢
  unfold c_slices_partialInsertionSortCmpFunc_pair_Pair
  simp [e1]
  refine loopC_once mixed l4_slices_partialInsertionSortCmpFunc_pair_Pair.eq_1 ?_
  simp
  refine LoopC.le (le_list [(0, arN d.size v 0), (1, iv a), (2, iv b), (3, cmpF), (9, iv (a + 1 : Nat)), (10, iv 0)] (by simp)) ?_
  refine l1 _ _ 0 (fun p => by simp) fun st => ?_
  by_cases hz : z = b
  · simp [hz]
    exact reth_fam rfl rfl (fun p => by simp)
  · have hz' : ¬ (z : Int) = b := by omega
    simp [hz, hz', e2, show ((b - a : Nat) : Int) < 50 by omega]
    exact reth_fam rfl rfl (fun p => by simp)
end Go.Proofs.Ytmeldaflhkiopaa

/-
  The sort's partitions.
-/
namespace Go.Proofs.Ytmeldaflhkiopaa
set_option linter.unusedVariables false
set_option linter.unusedSimpArgs false
open Go Go.G Go.Proofs Go.PL
section
variable {n0 : Nat} {w0 : World} {I0 : Nat → Prop} {M0 : Nm → Nat → Prop} {m0 : Mu} {Q : Exit → Sta → Prop} {v : Nat}
theorem pt_l1 {n a j : Nat} {z : Sc} {d : Array Sc} {H : Hp} (hn : n ≤ 900) (ha : a < n) (hj : j < n) (hd : d.size = n) (hz : d[a]! = z) (hH : ∀ p, H (0 :: p) = (arF d v).F 0 p) : ∀ (m i : Nat), j + 1 - i ≤ m → i ≤ n →
    (∀ (st : List (Nat × A)), Q (.exit 0) ⟨lk ([(0, arN n v 0), (1, iv a), (4, cmpF), (12, iv (Sort.scanUp (fun x => ltP x z) d j i)), (13, iv j)] ++ st), H⟩) →
    LoopC (cxh Try.prog w0 I0 M0 n0 m0) l1_slices_partitionCmpFunc_pair_Pair Q ⟨lk [(0, arN n v 0), (1, iv a), (4, cmpF), (12, iv i), (13, iv j)], H⟩ := by
  intro m
  induction m with
  | zero =>
    intro i hm hi hq
    rw [Sort.scanUp, if_neg (by simp; omega)] at hq
    refine loopC_once mixed l1_slices_partitionCmpFunc_pair_Pair.eq_1 ?_
    simp [show ¬ (i : Int) ≤ j by omega, show ¬ i ≤ j by omega]
    rw [sc_guard]
    simp
    exact hq [(47, bv false)]
  | succ m ih =>
    intro i hm hi hq
    by_cases hij : i ≤ j
    · have h0 := hH []
      simp only [rpF_F] at h0
      have gi := ar_get (d := d) (i := i) (by omega)
      have ga := ar_get (d := d) (i := a) (by omega)
      rw [hz] at ga
      have e1 : IntKind.i64.wrap ((i : Int) + 1) = ((i + 1 : Nat) : Int) := by rw [i64_same (by omega) (by omega)]; omega
      rw [Sort.scanUp] at hq
      generalize d[i]! = x at gi hq
      have hc := cmp0 x z
      refine loopC_once mixed l1_slices_partitionCmpFunc_pair_Pair.eq_1 ?_
      simp [hij, show (i : Int) ≤ j by omega, h0, gi, ga, show (i : Int) < n by omega, show i < n by omega, ha, show (a : Int) < n by omega, pr_agg]
      rw [sc_guard]
      simp
      refine sc_callv0 rfl (pick1_spec x z) (by simp) rfl ?_
      cases hL : ltP x z with
      | true =>
        rw [hL] at hc hq
        have hc' : cmpZ x.i z.i < 0 := by simpa using hc
        rw [if_pos (by simp [hij])] at hq
        simp [hc', e1]
        exact ih (i + 1) (by omega) (by omega) hq
      | false =>
        rw [hL] at hc hq
        have hc' : ¬ cmpZ x.i z.i < 0 := by simpa using hc
        rw [if_neg (by simp)] at hq
        simp [hc']
        exact hq [(47, bv false)]
    · rw [Sort.scanUp, if_neg (by simp; omega)] at hq
      refine loopC_once mixed l1_slices_partitionCmpFunc_pair_Pair.eq_1 ?_
      simp [show ¬ (i : Int) ≤ j by omega, hij]
      rw [sc_guard]
      simp
      exact hq [(47, bv false)]
theorem pt_l3 {n a j : Nat} {z : Sc} {d : Array Sc} {H : Hp} (hn : n ≤ 900) (ha : a < n) (hj : j < n) (hd : d.size = n) (hz : d[a]! = z) (hH : ∀ p, H (0 :: p) = (arF d v).F 0 p) : ∀ (m i : Nat), j + 1 - i ≤ m → i ≤ n →
    (∀ (st : List (Nat × A)), Q (.exit 6) ⟨lk ([(0, arN n v 0), (1, iv a), (4, cmpF), (12, iv (Sort.scanUp (fun x => ltP x z) d j i)), (13, iv j)] ++ st), H⟩) →
    LoopC (cxh Try.prog w0 I0 M0 n0 m0) l3_slices_partitionCmpFunc_pair_Pair Q ⟨lk [(0, arN n v 0), (1, iv a), (4, cmpF), (12, iv i), (13, iv j)], H⟩ := by
  intro m
  induction m with
  | zero =>
    intro i hm hi hq
    rw [Sort.scanUp, if_neg (by simp; omega)] at hq
    refine loopC_once mixed l3_slices_partitionCmpFunc_pair_Pair.eq_1 ?_
    simp [show ¬ (i : Int) ≤ j by omega, show ¬ i ≤ j by omega]
    rw [sc_guard]
    simp
    exact hq [(120, bv false)]
  | succ m ih =>
    intro i hm hi hq
    by_cases hij : i ≤ j
    · have h0 := hH []
      simp only [rpF_F] at h0
      have gi := ar_get (d := d) (i := i) (by omega)
      have ga := ar_get (d := d) (i := a) (by omega)
      rw [hz] at ga
      have e1 : IntKind.i64.wrap ((i : Int) + 1) = ((i + 1 : Nat) : Int) := by rw [i64_same (by omega) (by omega)]; omega
      rw [Sort.scanUp] at hq
      generalize d[i]! = x at gi hq
      have hc := cmp0 x z
      refine loopC_once mixed l3_slices_partitionCmpFunc_pair_Pair.eq_1 ?_
      simp [hij, show (i : Int) ≤ j by omega, h0, gi, ga, show (i : Int) < n by omega, show i < n by omega, ha, show (a : Int) < n by omega, pr_agg]
      rw [sc_guard]
      simp
      refine sc_callv0 rfl (pick1_spec x z) (by simp) rfl ?_
      cases hL : ltP x z with
      | true =>
        rw [hL] at hc hq
        have hc' : cmpZ x.i z.i < 0 := by simpa using hc
        rw [if_pos (by simp [hij])] at hq
        simp [hc', e1]
        exact ih (i + 1) (by omega) (by omega) hq
      | false =>
        rw [hL] at hc hq
        have hc' : ¬ cmpZ x.i z.i < 0 := by simpa using hc
        rw [if_neg (by simp)] at hq
        simp [hc']
        exact hq [(120, bv false)]
    · rw [Sort.scanUp, if_neg (by simp; omega)] at hq
      refine loopC_once mixed l3_slices_partitionCmpFunc_pair_Pair.eq_1 ?_
      simp [show ¬ (i : Int) ≤ j by omega, hij]
      rw [sc_guard]
      simp
      exact hq [(120, bv false)]
theorem pt_l2 {n a i : Nat} {z : Sc} {d : Array Sc} {H : Hp} (hn : n ≤ 900) (ha : a < n) (hi : i ≤ n) (hi1 : 1 ≤ i) (hd : d.size = n) (hz : d[a]! = z) (hH : ∀ p, H (0 :: p) = (arF d v).F 0 p) : ∀ (j : Nat), j < n →
    (∀ (st : List (Nat × A)), Q (.exit 2) ⟨lk ([(0, arN n v 0), (1, iv a), (4, cmpF), (12, iv i), (13, iv (Sort.scanDown (fun x => !ltP x z) d i j))] ++ st), H⟩) →
    LoopC (cxh Try.prog w0 I0 M0 n0 m0) l2_slices_partitionCmpFunc_pair_Pair Q ⟨lk [(0, arN n v 0), (1, iv a), (4, cmpF), (12, iv i), (13, iv j)], H⟩ := by
  intro j
  induction j with
  | zero =>
    intro hj hq
    rw [Sort.scanDown] at hq
    refine loopC_once mixed l2_slices_partitionCmpFunc_pair_Pair.eq_1 ?_
    simp [show ¬ (i : Int) ≤ 0 by omega, show ¬ i = 0 by omega]
    rw [sc_guard]
    simp
    exact hq [(66, bv false)]
  | succ j ih =>
    intro hj hq
    rw [Sort.scanDown] at hq
    by_cases hij : i ≤ j + 1
    · have h0 := hH []
      simp only [rpF_F] at h0
      have gi := ar_get (d := d) (i := j + 1) (by omega)
      have ga := ar_get (d := d) (i := a) (by omega)
      rw [hz] at ga
      have e1 : IntKind.i64.wrap (((j + 1 : Nat) : Int) - 1) = (j : Int) := by rw [i64_same (by omega) (by omega)]; omega
      have e2 : IntKind.i64.wrap (j : Int) = (j : Int) := i64_same (by omega) (by omega)
      generalize d[j + 1]! = x at gi hq
      have hc := cmp0 x z
      have hij' : (i : Int) ≤ ((j + 1 : Nat) : Int) := by omega
      have hj' : ((j + 1 : Nat) : Int) < n := by omega
      generalize hjj : j + 1 = jj at gi hij hij' hj hj' e1 hq ⊢
      refine loopC_once mixed l2_slices_partitionCmpFunc_pair_Pair.eq_1 ?_
      simp [hij, hij', h0, gi, ga, hj, hj', ha, show (a : Int) < n by omega, pr_agg]
      rw [sc_guard]
      simp
      refine sc_callv0 rfl (pick1_spec x z) (by simp) rfl ?_
      cases hL : ltP x z with
      | true =>
        rw [hL] at hc hq
        have hc' : cmpZ x.i z.i < 0 := by simpa using hc
        rw [if_neg (by simp)] at hq
        simp [hc']
        exact hq [(66, bv false)]
      | false =>
        rw [hL] at hc hq
        have hc' : ¬ cmpZ x.i z.i < 0 := by simpa using hc
        rw [if_pos (by simp [hij])] at hq
        simp [hc', e1]
        exact ih (by omega) hq
    · rw [if_neg (by simp; omega)] at hq
      refine loopC_once mixed l2_slices_partitionCmpFunc_pair_Pair.eq_1 ?_
      have hij' : ¬ (i : Int) ≤ ((j + 1 : Nat) : Int) := by omega
      generalize hjj : j + 1 = jj at hij hij' hq ⊢
      simp [hij, hij']
      rw [sc_guard]
      simp
      exact hq [(66, bv false)]
theorem pt_l4 {n a i : Nat} {z : Sc} {d : Array Sc} {H : Hp} (hn : n ≤ 900) (ha : a < n) (hi : i ≤ n) (hi1 : 1 ≤ i) (hd : d.size = n) (hz : d[a]! = z) (hH : ∀ p, H (0 :: p) = (arF d v).F 0 p) : ∀ (j : Nat), j < n →
    (∀ (st : List (Nat × A)), Q (.exit 8) ⟨lk ([(0, arN n v 0), (1, iv a), (4, cmpF), (12, iv i), (13, iv (Sort.scanDown (fun x => !ltP x z) d i j))] ++ st), H⟩) →
    LoopC (cxh Try.prog w0 I0 M0 n0 m0) l4_slices_partitionCmpFunc_pair_Pair Q ⟨lk [(0, arN n v 0), (1, iv a), (4, cmpF), (12, iv i), (13, iv j)], H⟩ := by
  intro j
  induction j with
  | zero =>
    intro hj hq
    rw [Sort.scanDown] at hq
    refine loopC_once mixed l4_slices_partitionCmpFunc_pair_Pair.eq_1 ?_
    simp [show ¬ (i : Int) ≤ 0 by omega, show ¬ i = 0 by omega]
    rw [sc_guard]
    simp
    exact hq [(139, bv false)]
  | succ j ih =>
    intro hj hq
    rw [Sort.scanDown] at hq
    by_cases hij : i ≤ j + 1
    · have h0 := hH []
      simp only [rpF_F] at h0
      have gi := ar_get (d := d) (i := j + 1) (by omega)
      have ga := ar_get (d := d) (i := a) (by omega)
      rw [hz] at ga
      have e1 : IntKind.i64.wrap (((j + 1 : Nat) : Int) - 1) = (j : Int) := by rw [i64_same (by omega) (by omega)]; omega
      have e2 : IntKind.i64.wrap (j : Int) = (j : Int) := i64_same (by omega) (by omega)
      generalize d[j + 1]! = x at gi hq
      have hc := cmp0 x z
      have hij' : (i : Int) ≤ ((j + 1 : Nat) : Int) := by omega
      have hj' : ((j + 1 : Nat) : Int) < n := by omega
      generalize hjj : j + 1 = jj at gi hij hij' hj hj' e1 hq ⊢
      refine loopC_once mixed l4_slices_partitionCmpFunc_pair_Pair.eq_1 ?_
      simp [hij, hij', h0, gi, ga, hj, hj', ha, show (a : Int) < n by omega, pr_agg]
      rw [sc_guard]
      simp
      refine sc_callv0 rfl (pick1_spec x z) (by simp) rfl ?_
      cases hL : ltP x z with
      | true =>
        rw [hL] at hc hq
        have hc' : cmpZ x.i z.i < 0 := by simpa using hc
        rw [if_neg (by simp)] at hq
        simp [hc']
        exact hq [(139, bv false)]
      | false =>
        rw [hL] at hc hq
        have hc' : ¬ cmpZ x.i z.i < 0 := by simpa using hc
        rw [if_pos (by simp [hij])] at hq
        simp [hc', e1]
        exact ih (by omega) hq
    · rw [if_neg (by simp; omega)] at hq
      refine loopC_once mixed l4_slices_partitionCmpFunc_pair_Pair.eq_1 ?_
      have hij' : ¬ (i : Int) ≤ ((j + 1 : Nat) : Int) := by omega
      generalize hjj : j + 1 = jj at hij hij' hq ⊢
      simp [hij, hij']
      rw [sc_guard]
      simp
      exact hq [(139, bv false)]
theorem pe_l1 {n a j : Nat} {z : Sc} {d : Array Sc} {H : Hp} (hn : n ≤ 900) (ha : a < n) (hj : j < n) (hd : d.size = n) (hz : d[a]! = z) (hH : ∀ p, H (0 :: p) = (arF d v).F 0 p) : ∀ (m i : Nat), j + 1 - i ≤ m → i ≤ n →
    (∀ (st : List (Nat × A)), Q (.exit 2) ⟨lk ([(0, arN n v 0), (1, iv a), (4, cmpF), (11, iv (Sort.scanUp (fun x => !ltP z x) d j i)), (12, iv j)] ++ st), H⟩) →
    LoopC (cxh Try.prog w0 I0 M0 n0 m0) l1_slices_partitionEqualCmpFunc_pair_Pair Q ⟨lk [(0, arN n v 0), (1, iv a), (4, cmpF), (11, iv i), (12, iv j)], H⟩ := by
  intro m
  induction m with
  | zero =>
    intro i hm hi hq
    rw [Sort.scanUp, if_neg (by simp; omega)] at hq
    refine loopC_once mixed l1_slices_partitionEqualCmpFunc_pair_Pair.eq_1 ?_
    simp [show ¬ (i : Int) ≤ j by omega, show ¬ i ≤ j by omega]
    rw [sc_guard]
    simp
    exact hq [(47, bv false)]
  | succ m ih =>
    intro i hm hi hq
    by_cases hij : i ≤ j
    · have h0 := hH []
      simp only [rpF_F] at h0
      have gi := ar_get (d := d) (i := i) (by omega)
      have ga := ar_get (d := d) (i := a) (by omega)
      rw [hz] at ga
      have e1 : IntKind.i64.wrap ((i : Int) + 1) = ((i + 1 : Nat) : Int) := by rw [i64_same (by omega) (by omega)]; omega
      rw [Sort.scanUp] at hq
      generalize d[i]! = x at gi hq
      have hc := cmp0 z x
      refine loopC_once mixed l1_slices_partitionEqualCmpFunc_pair_Pair.eq_1 ?_
      simp [hij, show (i : Int) ≤ j by omega, h0, gi, ga, show (i : Int) < n by omega, show i < n by omega, ha, show (a : Int) < n by omega, pr_agg]
      rw [sc_guard]
      simp
      refine sc_callv0 rfl (pick1_spec z x) (by simp) rfl ?_
      cases hL : ltP z x with
      | true =>
        rw [hL] at hc hq
        have hc' : cmpZ z.i x.i < 0 := by simpa using hc
        rw [if_neg (by simp)] at hq
        simp [hc']
        exact hq [(47, bv false)]
      | false =>
        rw [hL] at hc hq
        have hc' : ¬ cmpZ z.i x.i < 0 := by simpa using hc
        rw [if_pos (by simp [hij])] at hq
        simp [hc', e1]
        exact ih (i + 1) (by omega) (by omega) hq
    · rw [Sort.scanUp, if_neg (by simp; omega)] at hq
      refine loopC_once mixed l1_slices_partitionEqualCmpFunc_pair_Pair.eq_1 ?_
      simp [show ¬ (i : Int) ≤ j by omega, hij]
      rw [sc_guard]
      simp
      exact hq [(47, bv false)]
theorem pe_l2 {n a i : Nat} {z : Sc} {d : Array Sc} {H : Hp} (hn : n ≤ 900) (ha : a < n) (hi : i ≤ n) (hi1 : 1 ≤ i) (hd : d.size = n) (hz : d[a]! = z) (hH : ∀ p, H (0 :: p) = (arF d v).F 0 p) : ∀ (j : Nat), j < n →
    (∀ (st : List (Nat × A)), Q (.exit 4) ⟨lk ([(0, arN n v 0), (1, iv a), (4, cmpF), (11, iv i), (12, iv (Sort.scanDown (fun x => ltP z x) d i j))] ++ st), H⟩) →
    LoopC (cxh Try.prog w0 I0 M0 n0 m0) l2_slices_partitionEqualCmpFunc_pair_Pair Q ⟨lk [(0, arN n v 0), (1, iv a), (4, cmpF), (11, iv i), (12, iv j)], H⟩ := by
  intro j
  induction j with
  | zero =>
    intro hj hq
    rw [Sort.scanDown] at hq
    refine loopC_once mixed l2_slices_partitionEqualCmpFunc_pair_Pair.eq_1 ?_
    simp [show ¬ (i : Int) ≤ 0 by omega, show ¬ i = 0 by omega]
    rw [sc_guard]
    simp
    exact hq [(65, bv false)]
  | succ j ih =>
    intro hj hq
    rw [Sort.scanDown] at hq
    by_cases hij : i ≤ j + 1
    · have h0 := hH []
      simp only [rpF_F] at h0
      have gi := ar_get (d := d) (i := j + 1) (by omega)
      have ga := ar_get (d := d) (i := a) (by omega)
      rw [hz] at ga
      have e1 : IntKind.i64.wrap (((j + 1 : Nat) : Int) - 1) = (j : Int) := by rw [i64_same (by omega) (by omega)]; omega
      have e2 : IntKind.i64.wrap (j : Int) = (j : Int) := i64_same (by omega) (by omega)
      generalize d[j + 1]! = x at gi hq
      have hc := cmp0 z x
      have hij' : (i : Int) ≤ ((j + 1 : Nat) : Int) := by omega
      have hj' : ((j + 1 : Nat) : Int) < n := by omega
      generalize hjj : j + 1 = jj at gi hij hij' hj hj' e1 hq ⊢
      refine loopC_once mixed l2_slices_partitionEqualCmpFunc_pair_Pair.eq_1 ?_
      simp [hij, hij', h0, gi, ga, hj, hj', ha, show (a : Int) < n by omega, pr_agg]
      rw [sc_guard]
      simp
      refine sc_callv0 rfl (pick1_spec z x) (by simp) rfl ?_
      cases hL : ltP z x with
      | true =>
        rw [hL] at hc hq
        have hc' : cmpZ z.i x.i < 0 := by simpa using hc
        rw [if_pos (by simp [hij])] at hq
        simp [hc', e1]
        exact ih (by omega) hq
      | false =>
        rw [hL] at hc hq
        have hc' : ¬ cmpZ z.i x.i < 0 := by simpa using hc
        rw [if_neg (by simp)] at hq
        simp [hc']
        exact hq [(65, bv false)]
    · rw [if_neg (by simp; omega)] at hq
      refine loopC_once mixed l2_slices_partitionEqualCmpFunc_pair_Pair.eq_1 ?_
      have hij' : ¬ (i : Int) ≤ ((j + 1 : Nat) : Int) := by omega
      generalize hjj : j + 1 = jj at hij hij' hq ⊢
      simp [hij, hij']
      rw [sc_guard]
      simp
      exact hq [(65, bv false)]
theorem scanUp_bd (p : Sc → Bool) (d : Array Sc) (j : Nat) : ∀ (m i : Nat), j + 1 - i ≤ m → i ≤ Sort.scanUp p d j i ∧ (Sort.scanUp p d j i ≤ j + 1 ∨ Sort.scanUp p d j i = i)
  | 0, i, h => by rw [Sort.scanUp, if_neg (by simp; omega)]; exact ⟨Nat.le_refl _, .inr rfl⟩
  | m + 1, i, h => by
    rw [Sort.scanUp]
    split
    · rename_i hc
      simp at hc
      have := scanUp_bd p d j m (i + 1) (by omega)
      refine ⟨by omega, .inl ?_⟩
      rcases this.2 with h | h <;> omega
    · exact ⟨Nat.le_refl _, .inr rfl⟩
theorem scanDown_bd (p : Sc → Bool) (d : Array Sc) (i : Nat) (hi : 1 ≤ i) : ∀ j : Nat, Sort.scanDown p d i j ≤ j ∧ (i - 1 ≤ Sort.scanDown p d i j ∨ Sort.scanDown p d i j = j)
  | 0 => by rw [Sort.scanDown]; exact ⟨Nat.le_refl _, .inr rfl⟩
  | j + 1 => by
    rw [Sort.scanDown]
    split
    · rename_i hc
      simp at hc
      have := scanDown_bd p d i hi j
      refine ⟨by omega, ?_⟩
      rcases this.2 with h | h
      · exact .inl h
      · left; omega
    · exact ⟨Nat.le_refl _, .inr rfl⟩
theorem pt_l5 {n a : Nat} (hn : n ≤ 900) (ha : a < n) : ∀ (m i j : Nat) (d : Array Sc) (H : Hp), j + 1 - i ≤ m → a + 1 ≤ i → i ≤ n → j < n → a ≤ j → i ≤ j + 2 → d.size = n → (∀ p, H (0 :: p) = (arF d v).F 0 p) →
    (∀ (H' : Hp) (x : A) (st : List (Nat × A)), (∀ p, H' (0 :: p) = (arF (Sort.partLoop ltP a i j d).2 v).F 0 p) → a ≤ (Sort.partLoop ltP a i j d).1 → (Sort.partLoop ltP a i j d).1 < n → (Sort.partLoop ltP a i j d).2.size = n →
      Q (.exit 4) ⟨lk ([(0, arN n v 0), (1, iv a), (4, cmpF), (12, x), (13, iv (Sort.partLoop ltP a i j d).1)] ++ st), H'⟩) →
    LoopC (cxh Try.prog w0 I0 M0 n0 m0) l5_slices_partitionCmpFunc_pair_Pair Q ⟨lk [(0, arN n v 0), (1, iv a), (4, cmpF), (12, iv i), (13, iv j)], H⟩ := by
  intro m
  induction m using Nat.strongRecOn with
  | _ m ih =>
    intro i j d H hm h1 hi hj haj hij hd hH hq
    rw [Sort.partLoop] at hq
    have hu := scanUp_bd (fun x => ltP x d[a]!) d j (j + 1 - i) i (Nat.le_refl _)
    have lu := fun (Q : Exit → Sta → Prop) => pt_l3 (n0 := n0) (w0 := w0) (I0 := I0) (M0 := M0) (m0 := m0) (Q := Q) (v := v) (a := a) (j := j) (H := H) hn ha hj hd rfl hH (j + 1 - i) i (Nat.le_refl _) hi
    generalize Sort.scanUp (fun x => ltP x d[a]!) d j i = i2 at hq hu lu
    have hi2 : i2 ≤ n := by rcases hu.2 with h | h <;> omega
    have hdn := scanDown_bd (fun x => !ltP x d[a]!) d i2 (by omega) j
    have ld := fun (Q : Exit → Sta → Prop) => pt_l4 (n0 := n0) (w0 := w0) (I0 := I0) (M0 := M0) (m0 := m0) (Q := Q) (v := v) (a := a) (i := i2) (H := H) hn ha hi2 (by omega) hd rfl hH j hj
    generalize Sort.scanDown (fun x => !ltP x d[a]!) d i2 j = j2 at hq hdn ld
    refine loopC_once mixed l5_slices_partitionCmpFunc_pair_Pair.eq_1 ?_
    simp
    refine lu _ fun st => ?_
    simp
    refine ld _ fun st2 => ?_
    by_cases hc : j2 < i2
    · rw [if_pos hc] at hq
      simp [hc, show (j2 : Int) < i2 by omega]
      exact hq H (iv i2) [(144, bv true)] hH (by rcases hdn.2 with h | h <;> omega) (by omega) hd
    · rw [if_neg hc] at hq
      have hg : j2 - 1 + 1 - (i2 + 1) < j + 1 - i := by omega
      rw [dif_pos hg] at hq
      have h0 := hH []
      simp only [rpF_F] at h0
      have e1 : IntKind.i64.wrap ((i2 : Int) + 1) = ((i2 + 1 : Nat) : Int) := by rw [i64_same (by omega) (by omega)]; omega
      have e2 : IntKind.i64.wrap ((j2 : Int) - 1) = ((j2 - 1 : Nat) : Int) := by rw [i64_same (by omega) (by omega)]; omega
      have g1 := ar_get (d := d) (i := i2) (by omega)
      have g0 := ar_get (d := d) (i := j2) (by omega)
      have g2 := ar_get2 (d := d) (i := i2) (j := j2) (by omega) (by omega)
      have hs := ar_swp (d := d) (i := i2) (j := j2)
      generalize d[i2]! = x at g1 g2 hs
      generalize d[j2]! = y at g0 g2 hs
      simp [hc, show ¬ (j2 : Int) < i2 by omega, h0, g0, g1, g2, e1, e2, show (i2 : Int) < n by omega, show (j2 : Int) < n by omega, show i2 < n by omega, show j2 < n by omega, pr_agg]
      refine LoopC.le (le_list [(0, arN n v 0), (1, iv a), (4, cmpF), (12, iv (i2 + 1 : Nat)), (13, iv (j2 - 1 : Nat))] (by simp)) ?_
      exact ih (j2 - 1 + 1 - (i2 + 1)) (by omega) (i2 + 1) (j2 - 1) (Sort.swp d i2 j2) _ (Nat.le_refl _) (by omega) (by omega) (by omega) (by omega) (by omega) (by rw [swp_size]; exact hd) (fun p => by by_cases hp : p = [] <;> simp [hp, hs, updF_app, hH]) hq
theorem pe_l3 {n a : Nat} (hn : n ≤ 900) (ha : a < n) : ∀ (m i j : Nat) (d : Array Sc) (H : Hp), j + 1 - i ≤ m → a + 1 ≤ i → i ≤ n → j < n → a ≤ j → i ≤ j + 2 → d.size = n → (∀ p, H (0 :: p) = (arF d v).F 0 p) →
    (∀ (H' : Hp) (x : A) (st : List (Nat × A)), (∀ p, H' (0 :: p) = (arF (Sort.partEqLoop ltP a i j d).2 v).F 0 p) → a < (Sort.partEqLoop ltP a i j d).1 → (Sort.partEqLoop ltP a i j d).1 ≤ n → (Sort.partEqLoop ltP a i j d).2.size = n →
      Q (.exit 0) ⟨lk ([(0, arN n v 0), (1, iv a), (4, cmpF), (11, iv (Sort.partEqLoop ltP a i j d).1), (12, x)] ++ st), H'⟩) →
    LoopC (cxh Try.prog w0 I0 M0 n0 m0) l3_slices_partitionEqualCmpFunc_pair_Pair Q ⟨lk [(0, arN n v 0), (1, iv a), (4, cmpF), (11, iv i), (12, iv j)], H⟩ := by
  intro m
  induction m using Nat.strongRecOn with
  | _ m ih =>
    intro i j d H hm h1 hi hj haj hij hd hH hq
    rw [Sort.partEqLoop] at hq
    have hu := scanUp_bd (fun x => !ltP d[a]! x) d j (j + 1 - i) i (Nat.le_refl _)
    have lu := fun (Q : Exit → Sta → Prop) => pe_l1 (n0 := n0) (w0 := w0) (I0 := I0) (M0 := M0) (m0 := m0) (Q := Q) (v := v) (a := a) (j := j) (H := H) hn ha hj hd rfl hH (j + 1 - i) i (Nat.le_refl _) hi
    generalize Sort.scanUp (fun x => !ltP d[a]! x) d j i = i2 at hq hu lu
    have hi2 : i2 ≤ n := by rcases hu.2 with h | h <;> omega
    have hdn := scanDown_bd (fun x => ltP d[a]! x) d i2 (by omega) j
    have ld := fun (Q : Exit → Sta → Prop) => pe_l2 (n0 := n0) (w0 := w0) (I0 := I0) (M0 := M0) (m0 := m0) (Q := Q) (v := v) (a := a) (i := i2) (H := H) hn ha hi2 (by omega) hd rfl hH j hj
    generalize Sort.scanDown (fun x => ltP d[a]! x) d i2 j = j2 at hq hdn ld
    refine loopC_once mixed l3_slices_partitionEqualCmpFunc_pair_Pair.eq_1 ?_
    simp
    refine lu _ fun st => ?_
    simp
    refine ld _ fun st2 => ?_
    by_cases hc : j2 < i2
    · rw [if_pos hc] at hq
      simp [hc, show (j2 : Int) < i2 by omega]
      exact hq H (iv j2) [(70, bv true)] hH (by omega) hi2 hd
    · rw [if_neg hc] at hq
      have hg : j2 - 1 + 1 - (i2 + 1) < j + 1 - i := by omega
      rw [dif_pos hg] at hq
      have h0 := hH []
      simp only [rpF_F] at h0
      have e1 : IntKind.i64.wrap ((i2 : Int) + 1) = ((i2 + 1 : Nat) : Int) := by rw [i64_same (by omega) (by omega)]; omega
      have e2 : IntKind.i64.wrap ((j2 : Int) - 1) = ((j2 - 1 : Nat) : Int) := by rw [i64_same (by omega) (by omega)]; omega
      have g1 := ar_get (d := d) (i := i2) (by omega)
      have g0 := ar_get (d := d) (i := j2) (by omega)
      have g2 := ar_get2 (d := d) (i := i2) (j := j2) (by omega) (by omega)
      have hs := ar_swp (d := d) (i := i2) (j := j2)
      generalize d[i2]! = x at g1 g2 hs
      generalize d[j2]! = y at g0 g2 hs
      simp [hc, show ¬ (j2 : Int) < i2 by omega, h0, g0, g1, g2, e1, e2, show (i2 : Int) < n by omega, show (j2 : Int) < n by omega, show i2 < n by omega, show j2 < n by omega, pr_agg]
      refine LoopC.le (le_list [(0, arN n v 0), (1, iv a), (4, cmpF), (11, iv (i2 + 1 : Nat)), (12, iv (j2 - 1 : Nat))] (by simp)) ?_
      exact ih (j2 - 1 + 1 - (i2 + 1)) (by omega) (i2 + 1) (j2 - 1) (Sort.swp d i2 j2) _ (Nat.le_refl _) (by omega) (by omega) (by omega) (by omega) (by omega) (by rw [swp_size]; exact hd) (fun p => by by_cases hp : p = [] <;> simp [hp, hs, updF_app, hH]) hq
end
theorem partition_spec (d : Array Sc) (v a b q : Nat) (hn : d.size ≤ 900) (hab : a + 2 ≤ b) (hb : b ≤ d.size) (hq : q < d.size) : SpecF Try.prog 63 (fun r => [arN d.size v r, iv a, iv b, iv q, cmpF]) (arF d v) (fun _ => .tup [iv (Sort.partition ltP d a b q).1, bv (Sort.partition ltP d a b q).2.1]) (arF (Sort.partition ltP d a b q).2.2 v) := by
  refine specF_of t_slices_partitionCmpFunc_pair_Pair (by simp) (famL_cons (famAr _ _) (famL_cons famA_v (famL_cons famA_v (famL_cons famA_v (famL_cons famA_cmpF famL_nil))))) (famA_tup (famL_cons famA_v (famL_cons famA_v famL_nil))) fun w0 I0 M0 m0 => ?_
  obtain ⟨n, hnn⟩ : ∃ n, d.size = n := ⟨_, rfl⟩
  rw [hnn] at hn hb hq ⊢
  have e1 : IntKind.i64.wrap ((a : Int) + 1) = ((a + 1 : Nat) : Int) := by rw [i64_same (by omega) (by omega)]; omega
  have e2 : IntKind.i64.wrap ((b : Int) - 1) = ((b - 1 : Nat) : Int) := by rw [i64_same (by omega) (by omega)]; omega
  have g1 := ar_get (d := d) (i := a) (by omega)
  have g0 := ar_get (d := d) (i := q) (by omega)
  have g2 := ar_get2 (d := d) (i := a) (j := q) (by omega) (by omega)
  have hs := ar_swp (d := d) (i := a) (j := q)
  have hsz : (Sort.swp d a q).size = n := by rw [swp_size]; exact hnn
  obtain ⟨R, hR⟩ : ∃ R, R = Sort.partition ltP d a b q := ⟨_, rfl⟩
  rw [← hR]
  unfold Sort.partition at hR
  generalize d[a]! = x at g1 g2 hs
  generalize d[q]! = y at g0 g2 hs
  generalize hd1 : Sort.swp d a q = d1 at hs hsz hR
  have hu := scanUp_bd (fun x => ltP x d1[a]!) d1 (b - 1) (b - 1 + 1 - (a + 1)) (a + 1) (Nat.le_refl _)
  have lu := fun (Q : Exit → Sta → Prop) (H : Hp) (hH : ∀ p, H (0 :: p) = (arF d1 v).F 0 p) => pt_l1 (n0 := 178) (w0 := w0) (I0 := I0) (M0 := M0) (m0 := m0) (Q := Q) (v := v) (a := a) (j := b - 1) (H := H) hn (by omega) (by omega) hsz rfl hH (b - 1 + 1 - (a + 1)) (a + 1) (Nat.le_refl _) (by omega)
  simp only at hR
  generalize Sort.scanUp (fun x => ltP x d1[a]!) d1 (b - 1) (a + 1) = i2 at hR hu lu
  have hi2 : i2 ≤ n := by rcases hu.2 with h | h <;> omega
  have hdn := scanDown_bd (fun x => !ltP x d1[a]!) d1 i2 (by omega) (b - 1)
  have ld := fun (Q : Exit → Sta → Prop) (H : Hp) (hH : ∀ p, H (0 :: p) = (arF d1 v).F 0 p) => pt_l2 (n0 := 178) (w0 := w0) (I0 := I0) (M0 := M0) (m0 := m0) (Q := Q) (v := v) (a := a) (i := i2) (H := H) hn (by omega) hi2 (by omega) hsz rfl hH (b - 1) (by omega)
  generalize Sort.scanDown (fun x => !ltP x d1[a]!) d1 i2 (b - 1) = j2 at hR hdn ld
  have hj2 : a ≤ j2 := by rcases hdn.2 with h | h <;> omega
  have hj2n : j2 < n := by omega
  unfold c_slices_partitionCmpFunc_pair_Pair
  simp [g0, g1, g2, e1, e2, show (a : Int) < n by omega, show (q : Int) < n by omega, show a < n by omega, hq, pr_agg, updF_app]
  refine LoopC.le (le_list [(0, arN n v 0), (1, iv a), (4, cmpF), (12, iv (a + 1 : Nat)), (13, iv (b - 1 : Nat))] (by simp)) ?_
  have hH1 : ∀ p, (ov 0 (updF ((arF d v).F 0) [] ⟨v, .arr 2 (((d.toList.map prA).set a (prA y)).set q (prA x))⟩) (lkH []) : Hp) (0 :: p) = (arF d1 v).F 0 p := fun p => by by_cases hp : p = [] <;> simp [hp, hs, updF_app]
  refine lu _ _ hH1 fun st => ?_
  simp
  refine ld _ _ hH1 fun st2 => ?_
  have m1 := ar_get (d := d1) (i := a) (by omega)
  have m2 := ar_get (d := d1) (i := j2) (by omega)
  by_cases hc : j2 < i2
  · rw [if_pos hc] at hR
    subst hR
    have m3 := ar_get2 (d := d1) (i := j2) (j := a) (by omega) (by omega)
    have ms := ar_swp (d := d1) (i := j2) (j := a)
    rw [hs] at m1 m2 m3 ms
    simp only
    generalize d1[a]! = z at m1 m3 ms
    generalize d1[j2]! = u at m2 m3 ms
    generalize hL : (((d.toList.map prA).set a (prA y)).set q (prA x)) = L at *
    simp [hc, show (j2 : Int) < i2 by omega, m1, m2, m3, updF_app, show (a : Int) < n by omega, show (j2 : Int) < n by omega, show a < n by omega, hj2n, pr_agg]
    exact reth_fam rfl rfl (fun p => by by_cases hp : p = [] <;> simp [hp, ms, updF_app])
  · rw [if_neg hc] at hR
    have e3 : IntKind.i64.wrap ((i2 : Int) + 1) = ((i2 + 1 : Nat) : Int) := by rw [i64_same (by omega) (by omega)]; omega
    have e4 : IntKind.i64.wrap ((j2 : Int) - 1) = ((j2 - 1 : Nat) : Int) := by rw [i64_same (by omega) (by omega)]; omega
    have m1 := ar_get (d := d1) (i := i2) (by omega)
    have m3 := ar_get2 (d := d1) (i := i2) (j := j2) (by omega) (by omega)
    have ms := ar_swp (d := d1) (i := i2) (j := j2)
    have hsz2 : (Sort.swp d1 i2 j2).size = n := by rw [swp_size]; exact hsz
    rw [hs] at m1 m2 m3 ms
    generalize d1[i2]! = z at m1 m3 ms
    generalize d1[j2]! = u at m2 m3 ms
    generalize hd2 : Sort.swp d1 i2 j2 = d2 at ms hsz2 hR
    have l5 := fun (Q : Exit → Sta → Prop) (H : Hp) (hH : ∀ p, H (0 :: p) = (arF d2 v).F 0 p) => pt_l5 (n0 := 178) (w0 := w0) (I0 := I0) (M0 := M0) (m0 := m0) (Q := Q) (v := v) hn (show a < n by omega) (j2 - 1 + 1 - (i2 + 1)) (i2 + 1) (j2 - 1) d2 H (Nat.le_refl _) (by omega) (by omega) (by omega) (by omega) (by omega) hsz2 hH
    generalize Sort.partLoop ltP a (i2 + 1) (j2 - 1) d2 = T at hR l5
    generalize hL : (((d.toList.map prA).set a (prA y)).set q (prA x)) = L at *
    simp [hc, show ¬ (j2 : Int) < i2 by omega, m1, m2, m3, e3, e4, updF_app, show (i2 : Int) < n by omega, show (j2 : Int) < n by omega, show i2 < n by omega, hj2n, pr_agg]
    refine LoopC.le (le_list [(0, arN n v 0), (1, iv a), (4, cmpF), (12, iv (i2 + 1 : Nat)), (13, iv (j2 - 1 : Nat))] (by simp)) ?_
    refine l5 _ _ (fun p => by by_cases hp : p = [] <;> simp [hp, ms, updF_app]) fun H' xx st3 hT t1 t2 t3 => ?_
    have h0 := hT []
    simp only [rpF_F] at h0
    have k1 := ar_get (d := T.2) (i := a) (by omega)
    have k2 := ar_get (d := T.2) (i := T.1) (by omega)
    have k3 := ar_get2 (d := T.2) (i := T.1) (j := a) (by omega) (by omega)
    have ks := ar_swp (d := T.2) (i := T.1) (j := a)
    subst hR
    simp only
    generalize T.2[a]! = z' at k1 k3 ks
    generalize T.2[T.1]! = u' at k2 k3 ks
    simp [h0, k1, k2, k3, show (a : Int) < n by omega, show (T.1 : Int) < n by omega, show a < n by omega, t2, pr_agg]
    exact reth_fam rfl rfl (fun p => by by_cases hp : p = [] <;> simp [hp, ks, hT, updF_app])
theorem partEq_spec (d : Array Sc) (v a b q : Nat) (hn : d.size ≤ 900) (hab : a + 2 ≤ b) (hb : b ≤ d.size) (hq : q < d.size) : SpecF Try.prog 62 (fun r => [arN d.size v r, iv a, iv b, iv q, cmpF]) (arF d v) (fun _ => iv (Sort.partitionEqual ltP d a b q).1) (arF (Sort.partitionEqual ltP d a b q).2 v) := by
  refine specF_of t_slices_partitionEqualCmpFunc_pair_Pair (by simp) (famL_cons (famAr _ _) (famL_cons famA_v (famL_cons famA_v (famL_cons famA_v (famL_cons famA_cmpF famL_nil))))) famA_v fun w0 I0 M0 m0 => ?_
  obtain ⟨n, hnn⟩ : ∃ n, d.size = n := ⟨_, rfl⟩
  rw [hnn] at hn hb hq ⊢
  have e1 : IntKind.i64.wrap ((a : Int) + 1) = ((a + 1 : Nat) : Int) := by rw [i64_same (by omega) (by omega)]; omega
  have e2 : IntKind.i64.wrap ((b : Int) - 1) = ((b - 1 : Nat) : Int) := by rw [i64_same (by omega) (by omega)]; omega
  have g1 := ar_get (d := d) (i := a) (by omega)
  have g0 := ar_get (d := d) (i := q) (by omega)
  have g2 := ar_get2 (d := d) (i := a) (j := q) (by omega) (by omega)
  have hs := ar_swp (d := d) (i := a) (j := q)
  have hsz : (Sort.swp d a q).size = n := by rw [swp_size]; exact hnn
  unfold Sort.partitionEqual
  generalize d[a]! = x at g1 g2 hs
  generalize d[q]! = y at g0 g2 hs
  generalize Sort.swp d a q = d1 at hs hsz ⊢
  have l3 := fun (Q : Exit → Sta → Prop) (H : Hp) (hH : ∀ p, H (0 :: p) = (arF d1 v).F 0 p) => pe_l3 (n0 := 90) (w0 := w0) (I0 := I0) (M0 := M0) (m0 := m0) (Q := Q) (v := v) hn (show a < n by omega) (b - 1 + 1 - (a + 1)) (a + 1) (b - 1) d1 H (Nat.le_refl _) (by omega) (by omega) (by omega) (by omega) (by omega) hsz hH
  generalize Sort.partEqLoop ltP a (a + 1) (b - 1) d1 = T at l3 ⊢
  unfold c_slices_partitionEqualCmpFunc_pair_Pair
  simp [g0, g1, g2, e1, e2, show (a : Int) < n by omega, show (q : Int) < n by omega, show a < n by omega, hq, pr_agg, updF_app]
  refine LoopC.le (le_list [(0, arN n v 0), (1, iv a), (4, cmpF), (11, iv (a + 1 : Nat)), (12, iv (b - 1 : Nat))] (by simp)) ?_
  refine l3 _ _ (fun p => by by_cases hp : p = [] <;> simp [hp, hs, updF_app]) fun H' xx st hT t1 t2 t3 => ?_
  simp
  exact reth_fam rfl rfl hT
end Go.Proofs.Ytmeldaflhkiopaa

/-
  The sort's random swaps.
-/
namespace Go.Proofs.Ytmeldaflhkiopaa
set_option linter.unusedVariables false
set_option linter.unusedSimpArgs false
open Go Go.G Go.Proofs Go.PL
abbrev tab8 : List UInt8 := [0, 1, 2, 2, 3, 3, 3, 3, 4, 4, 4, 4, 4, 4, 4, 4, 5, 5, 5, 5, 5, 5, 5, 5, 5, 5, 5, 5, 5, 5, 5, 5, 6, 6, 6, 6, 6, 6, 6, 6, 6, 6, 6, 6, 6, 6, 6, 6, 6, 6, 6, 6, 6, 6, 6, 6, 6, 6, 6, 6, 6, 6, 6, 6, 7, 7, 7, 7, 7, 7, 7, 7, 7, 7, 7, 7, 7, 7, 7, 7, 7, 7, 7, 7, 7, 7, 7, 7, 7, 7, 7, 7, 7, 7, 7, 7, 7, 7, 7, 7, 7, 7, 7, 7, 7, 7, 7, 7, 7, 7, 7, 7, 7, 7, 7, 7, 7, 7, 7, 7, 7, 7, 7, 7, 7, 7, 7, 7, 8, 8, 8, 8, 8, 8, 8, 8, 8, 8, 8, 8, 8, 8, 8, 8, 8, 8, 8, 8, 8, 8, 8, 8, 8, 8, 8, 8, 8, 8, 8, 8, 8, 8, 8, 8, 8, 8, 8, 8, 8, 8, 8, 8, 8, 8, 8, 8, 8, 8, 8, 8, 8, 8, 8, 8, 8, 8, 8, 8, 8, 8, 8, 8, 8, 8, 8, 8, 8, 8, 8, 8, 8, 8, 8, 8, 8, 8, 8, 8, 8, 8, 8, 8, 8, 8, 8, 8, 8, 8, 8, 8, 8, 8, 8, 8, 8, 8, 8, 8, 8, 8, 8, 8, 8, 8, 8, 8, 8, 8, 8, 8, 8, 8, 8, 8, 8, 8, 8, 8, 8, 8, 8, 8, 8, 8, 8, 8]
set_option maxRecDepth 100000 in
theorem tab8_get (n : Nat) (h : n < 256) : tab8[n]? = some (UInt8.ofNat (Sort.bitsLen n)) ∧ Sort.bitsLen n ≤ 8 := by
  have : ∀ n : Fin 256, tab8[n.val]? = some (UInt8.ofNat (Sort.bitsLen n.val)) ∧ Sort.bitsLen n.val ≤ 8 := by decide +kernel
  exact this ⟨n, h⟩
set_option maxRecDepth 100000 in
theorem len64_spec (n : Nat) (hn : n < 256) : G.Spec Try.prog 65 [uv n] (iv (Sort.bitsLen n)) := by
  refine spec_of t_math_bits_Len64 (by simp) fun w0 I0 => ?_
  unfold c_math_bits_Len64
  simp [show ¬ (4294967296 : Int) ≤ n by omega]
  rw [k2_math_bits_Len64.eq_1]
  simp [show ¬ (65536 : Int) ≤ n by omega]
  rw [k1_math_bits_Len64.eq_1]
  obtain ⟨ht, hb⟩ := tab8_get n hn
  have hx : (UInt8.ofNat (Sort.bitsLen n)).toNat = Sort.bitsLen n := by rw [UInt8.toNat_ofNat']; exact Nat.mod_eq_of_lt (by omega)
  generalize UInt8.ofNat (Sort.bitsLen n) = y at ht hx
  have e1 : IntKind.i64.wrap (Sort.bitsLen n : Int) = (Sort.bitsLen n : Int) := i64_same (by omega) (by omega)
  have e2 : IntKind.u8.wrap (n : Int) = (n : Int) := by rw [IntKind.wrap_u8]; omega
  simp [show ¬ (256 : Int) ≤ n by omega, ht, e2]
  rw [hx, e1, e1]
  exact frz_bare rfl
theorem len_spec (n : Nat) (hn : n < 256) : G.Spec Try.prog 42 [uv n] (iv (Sort.bitsLen n)) := by
  refine spec_of t_math_bits_Len (by simp) fun w0 I0 => ?_
  unfold c_math_bits_Len
  simp
  refine sc_call (len64_spec n hn) rfl ?_
  simp
  exact frz_bare rfl
theorem nextPow_spec (n : Nat) (hn : n < 256) : G.Spec Try.prog 79 [iv n] (uv (1 <<< Sort.bitsLen n : Nat)) := by
  refine spec_of t_slices_nextPowerOfTwo (by simp) fun w0 I0 => ?_
  obtain ⟨_, hb⟩ := tab8_get n hn
  have e1 : IntKind.u64.wrap (n : Int) = (n : Int) := u64_same (by omega) (by omega)
  have h2 : (2 : Nat) ^ Sort.bitsLen n ≤ 2 ^ 8 := Nat.pow_le_pow_right (by omega) hb
  have h3 : ((2 ^ Sort.bitsLen n : Nat) : Int) < 18446744073709551616 := Int.ofNat_lt.2 (Nat.lt_of_le_of_lt h2 (by decide))
  have e2 : IntKind.u64.wrap (2 ^ min (Sort.bitsLen n) IntKind.u64.bits : Int) = ((1 <<< Sort.bitsLen n : Nat) : Int) := by
    rw [show min (Sort.bitsLen n) IntKind.u64.bits = Sort.bitsLen n from Nat.min_eq_left (Nat.le_trans hb (by decide)), Nat.one_shiftLeft]
    rw [show ((2 : Int) ^ Sort.bitsLen n) = ((2 ^ Sort.bitsLen n : Nat) : Int) by simp]
    exact u64_same (Int.natCast_nonneg _) h3
  generalize hz : ((1 <<< Sort.bitsLen n : Nat) : Int) = z at e2 ⊢
  unfold c_slices_nextPowerOfTwo
  simp [e1]
  refine sc_call (len_spec n hn) rfl ?_
  simp [e2]
  exact frz_bare rfl
theorem xshl (s : UInt64) (k : UInt64) (hk : k.toNat < 64) : bits .xor .u64 (s.toNat : Int) (IntKind.u64.wrap ((s.toNat : Int) * 2 ^ k.toNat)) = ((s ^^^ (s <<< k)).toNat : Int) := by
  have h := s.toNat_lt
  have e : IntKind.u64.wrap ((s.toNat : Int) * 2 ^ k.toNat) = ((s <<< k).toNat : Int) := by
    rw [IntKind.wrap_u64, UInt64.toNat_shiftLeft, Nat.mod_eq_of_lt hk, Nat.shiftLeft_eq]
    rw [show ((s.toNat : Int) * 2 ^ k.toNat) = ((s.toNat * 2 ^ k.toNat : Nat) : Int) by simp]
    omega
  rw [e, bits_xor_u64_nat _ _ h (s <<< k).toNat_lt, UInt64.toNat_xor]
theorem xshr (s : UInt64) (k : UInt64) (hk : k.toNat < 64) : bits .xor .u64 (s.toNat : Int) ((s.toNat : Int) / 2 ^ k.toNat) = ((s ^^^ (s >>> k)).toNat : Int) := by
  have h := s.toNat_lt
  have e : (s.toNat : Int) / 2 ^ k.toNat = ((s >>> k).toNat : Int) := by
    rw [UInt64.toNat_shiftRight, Nat.mod_eq_of_lt hk, Nat.shiftRight_eq_div_pow]
    simp
  rw [e, bits_xor_u64_nat _ _ h (s >>> k).toNat_lt, UInt64.toNat_xor]
def ceU (s : UInt64) : Fam := ⟨fun r p => if p = [] then ⟨1, .cells [uv s.toNat]⟩ else ⟨0, .none⟩, fun {g δ r r'} hg hd p => by
    by_cases h1 : p = []
    · rw [if_pos h1]
      exact Fam.cells_ren (by simp [A.renL, A.ren])
    · rw [if_neg h1]; rfl, fun {D r} hD p => by
    by_cases h1 : p = []
    · rw [if_pos h1]; simp [Ob.refs, A.refsL, A.refs]
    · rw [if_neg h1]; trivial⟩
@[simp] theorem ceU_F {s : UInt64} {r : Nat} {p : Nm} : (ceU s).F r p = if p = [] then ⟨1, .cells [uv s.toNat]⟩ else ⟨0, .none⟩ := rfl
theorem next_spec19 (s : UInt64) : SpecF Try.prog 80 (fun r => [ceP r]) (ceU s) (fun _ => uv (Sort.xorNext s).toNat) (ceU (Sort.xorNext s)) := by
  refine specF_of t_slices_xorshift_Next (by simp) (famL_cons famA_pob famL_nil) famA_v fun w0 I0 M0 m0 => ?_
  unfold c_slices_xorshift_Next
  simp [updF_app]
  have x1 : bits .xor .u64 (s.toNat : Int) (IntKind.u64.wrap ((s.toNat : Int) * 2 ^ min 13 IntKind.u64.bits)) = ((s ^^^ (s <<< 13)).toNat : Int) := xshl s 13 (by decide)
  rw [x1]
  have x2 := fun r : UInt64 => xshr r 7 (by decide)
  have x2' : ∀ r : UInt64, bits .xor .u64 (r.toNat : Int) ((r.toNat : Int) / 2 ^ min 7 IntKind.u64.bits) = ((r ^^^ (r >>> 7)).toNat : Int) := fun r => x2 r
  rw [x2']
  have x3 : ∀ r : UInt64, bits .xor .u64 (r.toNat : Int) (IntKind.u64.wrap ((r.toNat : Int) * 2 ^ min 17 IntKind.u64.bits)) = ((r ^^^ (r <<< 17)).toNat : Int) := fun r => xshl r 17 (by decide)
  rw [x3]
  exact reth_fam rfl rfl (fun p => by by_cases hp : p = [] <;> simp [hp, updF_app, Sort.xorNext])
/-! ### breakPatterns -/
theorem breakStep_size (a l m : Nat) (st : UInt64 × Array Sc) (i : Nat) : (Sort.breakStep a l m st i).2.size = st.2.size := by
  unfold Sort.breakStep
  exact swp_size
section
variable {n0 : Nat} {w0 : World} {I0 : Nat → Prop} {M0 : Nm → Nat → Prop} {m0 : Mu} {Q : Exit → Sta → Prop} {v : Nat}
theorem br_step {n a l k : Nat} (hn : n ≤ 900) (hal : a + l ≤ n) (h13 : 13 ≤ l) (h16 : l ≤ 49) (hk : k = Sort.bitsLen l) {i : Nat} (hi : i < n) (hib : i ≤ a + l / 4 * 2 + 1) {r : UInt64} {d : Array Sc} {H : Hp} (hd : d.size = n) (hH : ∀ p, H (0 :: p) = (arF d v).F 0 p) (hG : ∀ p, H (1 :: p) = (ceU r).F 1 p)
    (hq : ∀ H' : Hp, (∀ p, H' (0 :: p) = (arF (Sort.breakStep a l (1 <<< k) (r, d) i).2 v).F 0 p) → (∀ p, H' (1 :: p) = (ceU (Sort.breakStep a l (1 <<< k) (r, d) i).1).F 1 p) → LoopC (cxh Try.prog w0 I0 M0 n0 m0) l1_slices_breakPatternsCmpFunc_pair_Pair Q ⟨lk [(0, arN n v 0), (1, iv a), (8, iv l), (9, ceP 1), (10, uv (1 <<< k : Nat)), (11, iv (i + 1 : Nat))], H'⟩) :
    LoopC (cxh Try.prog w0 I0 M0 n0 m0) l1_slices_breakPatternsCmpFunc_pair_Pair Q ⟨lk [(0, arN n v 0), (1, iv a), (8, iv l), (9, ceP 1), (10, uv (1 <<< k : Nat)), (11, iv i)], H⟩ := by
  have hN := next_spec19 r
  obtain ⟨m, hm⟩ : ∃ m, m = (1 <<< k : Nat) := ⟨_, rfl⟩
  obtain ⟨q4, hq4⟩ : ∃ q4, q4 = l / 4 := ⟨_, rfl⟩
  have e1 : IntKind.i64.wrap ((l : Int).tdiv 4) = (q4 : Int) := by rw [Int.tdiv_eq_ediv_of_nonneg (by omega), i64_same (by omega) (by omega)]; omega
  have e1' : IntKind.i64.wrap ((l : Int) / 4) = (q4 : Int) := by rw [i64_same (by omega) (by omega)]; omega
  have e2 : IntKind.i64.wrap ((q4 : Int) * 2) = (q4 : Int) * 2 := i64_same (by omega) (by omega)
  have e3 : IntKind.i64.wrap ((a : Int) + (q4 : Int) * 2) = (a : Int) + (q4 : Int) * 2 := i64_same (by omega) (by omega)
  have e4 : IntKind.i64.wrap ((a : Int) + (q4 : Int) * 2 + 1) = (a : Int) + (q4 : Int) * 2 + 1 := i64_same (by omega) (by omega)
  rw [← hm] at hq ⊢
  refine loopC_once mixed l1_slices_breakPatternsCmpFunc_pair_Pair.eq_1 ?_
  simp [e1, e1', e2, e3, e4, show (i : Int) ≤ (a : Int) + (q4 : Int) * 2 + 1 by omega]
  refine sc_fam 1 hN hG (by simp) (by simp) ?_
  simp
  have hX := (Sort.xorNext r).toNat_lt
  have hml : m ≤ 2 * l := by
    rw [hm, hk, Nat.one_shiftLeft]
    exact Sort.two_pow_bitsLen_le (by omega)
  have hm1 : 1 ≤ m := by
    rw [hm, Nat.one_shiftLeft]
    exact Nat.one_le_two_pow
  obtain ⟨o, ho⟩ : ∃ o, o = (Sort.xorNext r).toNat &&& (m - 1) := ⟨_, rfl⟩
  have hol : o ≤ m - 1 := by rw [ho]; exact Nat.and_le_right
  have eA : bits .and .u64 ((Sort.xorNext r).toNat : Int) (IntKind.u64.wrap ((m : Int) - 1)) = (o : Int) := by
    rw [show IntKind.u64.wrap ((m : Int) - 1) = ((m - 1 : Nat) : Int) by rw [u64_same (by omega) (by omega)]; omega, bits_and_u64_nat _ _ hX (by omega), ← ho]
  have eB : IntKind.i64.wrap (o : Int) = (o : Int) := i64_same (by omega) (by omega)
  have e5 : IntKind.i64.wrap ((i : Int) + 1) = ((i + 1 : Nat) : Int) := by rw [i64_same (by omega) (by omega)]; omega
  have fin : ∀ o2 : Nat, o2 < l → Sort.breakStep a l m (r, d) i = (Sort.xorNext r, Sort.swp d i (a + o2)) → WPC (cxh Try.prog w0 I0 M0 n0 m0) k1_slices_breakPatternsCmpFunc_pair_Pair
      (InBlock 1 (ThenC (WPC (cxh Try.prog w0 I0 M0 n0 m0) (.keep [0, 1, 8, 9, 10, 11] (.reg [co (some 36) (.move (.tmp 11)) none, co (some 37) (.binOp .add 3 (.tmp 36) (.const (.int .i64 1)) 3) none, co (some 11) (.assign (.tmp 37)) none] [0, 1, 8, 9, 10, 11]))
        (ThenC (LoopC (cxh Try.prog w0 I0 M0 n0 m0) l1_slices_breakPatternsCmpFunc_pair_Pair Q) Q)) (ThenC (LoopC (cxh Try.prog w0 I0 M0 n0 m0) l1_slices_breakPatternsCmpFunc_pair_Pair Q) Q)))
      ⟨lk [(0, arN n v 0), (1, iv a), (8, iv l), (9, ceP 1), (10, uv m), (11, iv i), (12, iv o2)], ov 1 ((ceU (Sort.xorNext r)).F 1) H⟩ := fun o2 ho2 hst => by
    have h0 := hH []
    simp only [rpF_F] at h0
    have e6 : IntKind.i64.wrap ((a : Int) + (o2 : Int)) = ((a + o2 : Nat) : Int) := by rw [i64_same (by omega) (by omega)]; omega
    have g1 := ar_get (d := d) (i := i) (by omega)
    have g0 := ar_get (d := d) (i := a + o2) (by omega)
    have g2 := ar_get2 (d := d) (i := i) (j := a + o2) (by omega) (by omega)
    have hs := ar_swp (d := d) (i := i) (j := a + o2)
    rw [hst] at hq
    generalize d[i]! = x at g1 g2 hs
    generalize d[a + o2]! = y at g0 g2 hs
    have hj : ((a + o2 : Nat) : Int) < n := by omega
    have hj' : a + o2 < n := by omega
    generalize Sort.swp d i (a + o2) = d2 at hs hq
    generalize a + o2 = jj at e6 g0 g2 hs hj hj'
    rw [k1_slices_breakPatternsCmpFunc_pair_Pair.eq_1]
    simp [e6, h0, g0, g1, g2, e5, show (i : Int) < n by omega, hi, hj, hj', pr_agg]
    exact hq _ (fun p => by by_cases hp : p = [] <;> simp [hp, hs, updF_app, hH]) (fun p => by simp [updF_app])
  simp only [eA, eB]
  have hbs : Sort.breakStep a l m (r, d) i = (Sort.xorNext r, Sort.swp d i (a + (if o ≥ l then o - l else o))) := by
    unfold Sort.breakStep
    simp only [← ho]
  by_cases hc : l ≤ o
  · rw [if_pos (show o ≥ l from hc)] at hbs
    refine ⟨fun _ => ?_, fun h => by omega⟩
    have e7 : IntKind.i64.wrap ((o : Int) - l) = ((o - l : Nat) : Int) := by rw [i64_same (by omega) (by omega)]; omega
    rw [e7]
    exact fin (o - l) (by omega) hbs
  · rw [if_neg hc] at hbs
    refine ⟨fun h => by omega, fun _ => ?_⟩
    exact fin o (by omega) hbs
end
theorem break_spec (d : Array Sc) (v a b : Nat) (hn : d.size ≤ 900) (hab : a + 13 ≤ b) (hb : b ≤ d.size) (hl : b - a < 50) : SpecF Try.prog 58 (fun r => [arN d.size v r, iv a, iv b, cmpF]) (arF d v) (fun _ => .tup []) (arF (Sort.breakPatterns d a b) v) := by
  refine specF_of t_slices_breakPatternsCmpFunc_pair_Pair (by simp) (famL_cons (famAr _ _) (famL_cons famA_v (famL_cons famA_v (famL_cons famA_cmpF famL_nil)))) (famA_tup famL_nil) fun w0 I0 M0 m0 => ?_
  obtain ⟨n, hnn⟩ : ∃ n, d.size = n := ⟨_, rfl⟩
  rw [hnn] at hn hb ⊢
  obtain ⟨l, hll⟩ : ∃ l, l = b - a := ⟨_, rfl⟩
  obtain ⟨q4, hq4⟩ : ∃ q4, q4 = l / 4 := ⟨_, rfl⟩
  have e0 : IntKind.i64.wrap ((b : Int) - a) = (l : Int) := by rw [i64_same (by omega) (by omega)]; omega
  have e1 : IntKind.i64.wrap ((l : Int).tdiv 4) = (q4 : Int) := by rw [Int.tdiv_eq_ediv_of_nonneg (by omega), i64_same (by omega) (by omega)]; omega
  have e1' : IntKind.i64.wrap ((l : Int) / 4) = (q4 : Int) := by rw [i64_same (by omega) (by omega)]; omega
  have e2 : IntKind.i64.wrap ((q4 : Int) * 2) = (q4 : Int) * 2 := i64_same (by omega) (by omega)
  have e3 : IntKind.i64.wrap ((a : Int) + (q4 : Int) * 2) = (a : Int) + (q4 : Int) * 2 := i64_same (by omega) (by omega)
  have e4 : IntKind.i64.wrap ((a : Int) + (q4 : Int) * 2 - 1) = ((a + q4 * 2 - 1 : Nat) : Int) := by rw [i64_same (by omega) (by omega)]; omega
  have e5 : IntKind.i64.wrap ((a : Int) + (q4 : Int) * 2 + 1) = (a : Int) + (q4 : Int) * 2 + 1 := i64_same (by omega) (by omega)
  have eu : IntKind.u64.wrap (l : Int) = (l : Int) := u64_same (by omega) (by omega)
  have hNx := nextPow_spec l (by omega)
  have ho : (UInt64.ofNat l).toNat = l := by rw [UInt64.toNat_ofNat']; exact Nat.mod_eq_of_lt (by omega)
  unfold Sort.breakPatterns
  simp only [← hll, ge_iff_le, if_pos (show 8 ≤ l by omega), ← hq4]
  have st := @br_step (n0 := 67) w0 I0 M0 m0
  generalize hid : a + q4 * 2 - 1 = id0 at e4 ⊢
  unfold c_slices_breakPatternsCmpFunc_pair_Pair
  generalize hmm : (1 <<< Sort.bitsLen l : Nat) = mm at hNx ⊢
  simp [e0, eu, show (8 : Int) ≤ l by omega, updF_app]
  refine sc_call hNx rfl ?_
  simp [e1, e1', e2, e3, e4]
  rw [← hmm]
  refine st hn (by omega) (by omega) (by omega) rfl (i := id0) (r := UInt64.ofNat l) (d := d) (by omega) (by omega) hnn (fun p => by simp) (fun p => ?_) fun H1 f1 g1 => ?_
  · by_cases hp : p = []
    · subst hp; simp [lkH, ho]
    · simp [lkH, hp, Ne.symm hp]
  have s1 := breakStep_size a l (1 <<< Sort.bitsLen l) (UInt64.ofNat l, d) id0
  simp only [hnn] at s1
  generalize Sort.breakStep a l (1 <<< Sort.bitsLen l) (UInt64.ofNat l, d) id0 = S1 at f1 g1 s1 ⊢
  refine st hn (by omega) (by omega) (by omega) rfl (i := id0 + 1) (r := S1.1) (d := S1.2) (by omega) (by omega) s1 f1 g1 fun H2 f2 g2 => ?_
  have s2 := breakStep_size a l (1 <<< Sort.bitsLen l) (S1.1, S1.2) (id0 + 1)
  simp only [s1] at s2
  have eS : (S1.1, S1.2) = S1 := rfl
  rw [eS] at f2 g2 s2
  generalize Sort.breakStep a l (1 <<< Sort.bitsLen l) S1 (id0 + 1) = S2 at f2 g2 s2 ⊢
  refine st hn (by omega) (by omega) (by omega) rfl (i := id0 + 1 + 1) (r := S2.1) (d := S2.2) (by omega) (by omega) s2 f2 g2 fun H3 f3 g3 => ?_
  refine loopC_once mixed l1_slices_breakPatternsCmpFunc_pair_Pair.eq_1 ?_
  have big : ¬ ((id0 + 1 + 1 + 1 : Nat) : Int) ≤ (a : Int) + (q4 : Int) * 2 + 1 := by omega
  generalize id0 + 1 + 1 + 1 = id3 at big ⊢
  simp [e1, e1', e2, e3, e5, big]
  exact reth_famN rfl rfl (fun p => f3 p)
end Go.Proofs.Ytmeldaflhkiopaa

/-
  The sort itself, at most 16 pairs.
-/
namespace Go.Proofs.Ytmeldaflhkiopaa
set_option linter.unusedVariables false
set_option linter.unusedSimpArgs false
open Go Go.G Go.Proofs Go.PL
/-- Behind the pivot: the partitions. -/
def pq1 (d : Array Sc) (a b lim q : Nat) (wb wp : Bool) : Array Sc :=
  if (decide (a > 0) && !ltP d[a - 1]! d[q]!) = true then
    if a < (Sort.partitionEqual ltP d a b q).1 ∧ (Sort.partitionEqual ltP d a b q).1 ≤ b then Sort.pdq ltP (Sort.partitionEqual ltP d a b q).2 (Sort.partitionEqual ltP d a b q).1 b lim wb wp else (Sort.partitionEqual ltP d a b q).2
  else
    if a ≤ (Sort.partition ltP d a b q).1 ∧ (Sort.partition ltP d a b q).1 < b then
      if (Sort.partition ltP d a b q).1 - a < b - (Sort.partition ltP d a b q).1 then
        Sort.pdq ltP (Sort.pdq ltP (Sort.partition ltP d a b q).2.2 a (Sort.partition ltP d a b q).1 lim true true) ((Sort.partition ltP d a b q).1 + 1) b lim (decide ((Sort.partition ltP d a b q).1 - a ≥ (b - a) / 8)) (Sort.partition ltP d a b q).2.1
      else
        Sort.pdq ltP (Sort.pdq ltP (Sort.partition ltP d a b q).2.2 ((Sort.partition ltP d a b q).1 + 1) b lim true true) a (Sort.partition ltP d a b q).1 lim (decide (b - (Sort.partition ltP d a b q).1 ≥ (b - a) / 8)) (Sort.partition ltP d a b q).2.1
    else (Sort.partition ltP d a b q).2.2
def pq2 (d : Array Sc) (a b lim q : Nat) (hint : Sort.Hint) (wb wp : Bool) : Array Sc :=
  if (wb && wp && decide (hint = .increasing)) = true then
    if (Sort.partialInsertionSort ltP d a b).2 = true then (Sort.partialInsertionSort ltP d a b).1 else pq1 (Sort.partialInsertionSort ltP d a b).1 a b lim q wb wp
  else pq1 d a b lim q wb wp
def pq3 (d : Array Sc) (a b lim : Nat) (wb wp : Bool) : Array Sc :=
  if (Sort.choosePivot ltP d a b).2 = .decreasing then pq2 (Sort.reverseRange d a b) a b lim ((b - 1) - ((Sort.choosePivot ltP d a b).1 - a)) .increasing wb wp
  else pq2 d a b lim (Sort.choosePivot ltP d a b).1 (Sort.choosePivot ltP d a b).2 wb wp
theorem pdq_eq (d : Array Sc) (a b lim : Nat) (wb wp : Bool) : Sort.pdq ltP d a b lim wb wp = if b - a ≤ 12 then Sort.insertionSort ltP d a b else if lim = 0 then Sort.heapSort ltP d a b else
    if wb = true then pq3 d a b lim wb wp else pq3 (Sort.breakPatterns d a b) a b (lim - 1) wb wp := by
  rw [Sort.pdq]
  split
  · rfl
  · split
    · rfl
    · have main : ∀ (d : Array Sc) (lim : Nat), (let c := Sort.choosePivot ltP d a b
        let d2 := if c.2 = .decreasing then Sort.reverseRange d a b else d
        let pivot := if c.2 = .decreasing then (b - 1) - (c.1 - a) else c.1
        let hint := if c.2 = .decreasing then Sort.Hint.increasing else c.2
        let pi := if (wb && wp && hint = .increasing) = true then Sort.partialInsertionSort ltP d2 a b else (d2, false)
        if pi.2 = true then pi.1 else pq1 pi.1 a b lim pivot wb wp) = pq3 d a b lim wb wp := fun d lim => by
        simp only
        unfold pq3 pq2
        by_cases hd : (Sort.choosePivot ltP d a b).2 = .decreasing
        · simp only [hd, if_true]
          cases wb <;> cases wp <;> simp
        · simp only [hd, if_false]
          by_cases hw : (wb && wp && decide ((Sort.choosePivot ltP d a b).2 = .increasing)) = true
          · rw [if_pos hw, if_pos hw]
          · rw [if_neg hw, if_neg hw]
            simp
      cases wb with
      | true =>
        rw [if_pos rfl, ← main]
        simp only [Bool.not_true, Bool.false_eq_true, if_false]
        unfold pq1
        rfl
      | false =>
        have e2 : (if (false : Bool) = true then pq3 d a b lim false wp else pq3 (Sort.breakPatterns d a b) a b (lim - 1) false wp) = pq3 (Sort.breakPatterns d a b) a b (lim - 1) false wp := if_neg (by simp)
        rw [e2, ← main]
        simp only [Bool.not_false, if_true]
        unfold pq1
        rfl
/-- Never at the limit: so far is it still. -/
def farL (l lim : Nat) (wb : Bool) : Prop := l ≤ 12 ∨ (l - 12) + (if wb = true then 0 else 1) ≤ lim
section
variable {v n : Nat}
theorem far_less {l l' lim : Nat} (wb : Bool) (h : l' < l) (h2 : l - 12 ≤ lim) : farL l' lim wb := by
  unfold farL
  by_cases h3 : l' ≤ 12
  · exact .inl h3
  · right
    split <;> omega
/-- The sort's loop, from a state. -/
def LPs (v n a b lim : Nat) (wb wp : Bool) (d : Array Sc) : Prop := ∀ {n0 : Nat} {w0 : World} {I0 : Nat → Prop} {M0 : Nm → Nat → Prop} {m0 : Mu} {Q : Exit → Sta → Prop} (H : Hp), (∀ p, H (0 :: p) = (arF d v).F 0 p) →
    (∀ (H' : Hp) (st : List (Nat × A)), (∀ p, H' (0 :: p) = (arF (Sort.pdq ltP d a b lim wb wp) v).F 0 p) → Q .ret ⟨lk st, H'⟩) →
    LoopC (cxh Try.prog w0 I0 M0 n0 m0) l1_slices_pdqsortCmpFunc_pair_Pair Q ⟨lk [(0, arN n v 0), (1, iv a), (2, iv b), (3, iv lim), (4, cmpF), (10, bv wb), (11, bv wp)], H⟩
def PQs (v n a b lim : Nat) (d : Array Sc) : Prop := SpecF Try.prog 41 (fun r => [arN n v r, iv a, iv b, iv lim, cmpF]) (arF d v) (fun _ => .tup []) (arF (Sort.pdq ltP d a b lim true true) v)
theorem pq_of {a b lim : Nat} {d : Array Sc} (h : LPs v n a b lim true true d) : PQs v n a b lim d := by
  refine specF_of t_slices_pdqsortCmpFunc_pair_Pair (by simp) (famL_cons (famAr _ _) (famL_cons famA_v (famL_cons famA_v (famL_cons famA_v (famL_cons famA_cmpF famL_nil))))) (famA_tup famL_nil) fun w0 I0 M0 m0 => ?_
  unfold c_slices_pdqsortCmpFunc_pair_Pair
  simp
  refine LoopC.le (le_list [(0, arN n v 0), (1, iv a), (2, iv b), (3, iv lim), (4, cmpF), (10, bv true), (11, bv true)] (by simp)) ?_
  refine h _ (fun p => by simp) fun H' st h' => ?_
  simp
  exact reth_famN rfl rfl (fun p => h' p)
end
theorem partEqL_bd (a : Nat) : ∀ (m i j J : Nat) (d : Array Sc), j + 1 - i ≤ m → 1 ≤ i → i ≤ J + 1 → j ≤ J → i ≤ (Sort.partEqLoop ltP a i j d).1 ∧ (Sort.partEqLoop ltP a i j d).1 ≤ J + 1 ∧ (Sort.partEqLoop ltP a i j d).2.size = d.size := by
  intro m
  induction m using Nat.strongRecOn with
  | _ m ih =>
    intro i j J d hm h1 hi hj
    rw [Sort.partEqLoop]
    have hu := scanUp_bd (fun x => !ltP d[a]! x) d j (j + 1 - i) i (Nat.le_refl _)
    generalize Sort.scanUp (fun x => !ltP d[a]! x) d j i = i2 at hu ⊢
    have hdn := scanDown_bd (fun x => ltP d[a]! x) d i2 (by omega) j
    generalize Sort.scanDown (fun x => ltP d[a]! x) d i2 j = j2 at hdn ⊢
    by_cases hc : i2 > j2
    · simp only [hc, if_true]
      refine ⟨hu.1, ?_, trivial⟩
      rcases hu.2 with h | h <;> omega
    · have hg : j2 - 1 + 1 - (i2 + 1) < j + 1 - i := by omega
      simp only [hc, if_false, dif_pos hg]
      have := ih (j2 - 1 + 1 - (i2 + 1)) (by omega) (i2 + 1) (j2 - 1) J (Sort.swp d i2 j2) (Nat.le_refl _) (by omega) (by omega) (by omega)
      rw [swp_size] at this
      omega
theorem partEq_bd (d : Array Sc) (a b q : Nat) (hab : a + 2 ≤ b) : a < (Sort.partitionEqual ltP d a b q).1 ∧ (Sort.partitionEqual ltP d a b q).1 ≤ b ∧ (Sort.partitionEqual ltP d a b q).2.size = d.size := by
  unfold Sort.partitionEqual
  have := partEqL_bd a (b - 1 + 1 - (a + 1)) (a + 1) (b - 1) (b - 1) (Sort.swp d a q) (Nat.le_refl _) (by omega) (by omega) (Nat.le_refl _)
  rw [swp_size] at this
  omega
theorem swoP : Sort.SWO ltP where
  irrefl x := by simp [ltP]
  trans x y z h1 h2 := by simp [ltP] at *; omega
  ntrans x y z h1 h2 := by simp [ltP] at *; omega
theorem part_bd (d : Array Sc) (a b q : Nat) (h1 : a ≤ q) (h2 : q < b) (hb : b ≤ d.size) : a ≤ (Sort.partition ltP d a b q).1 ∧ (Sort.partition ltP d a b q).1 < b ∧ (Sort.partition ltP d a b q).2.2.size = d.size := by
  obtain ⟨k1, k2, k3, _⟩ := Sort.partition_holds ltP swoP d a b q h1 h2 hb
  exact ⟨k1, k2, k3.1⟩
theorem short_size (d : Array Sc) (a b lim : Nat) (h : b - a ≤ 12) : (Sort.pdq ltP d a b lim true true).size = d.size := by
  rw [pdq_eq, if_pos h]
  exact insOuter_size ltP a b (b - (a + 1)) (a + 1) d (Nat.le_refl _)
section
variable {n0 : Nat} {w0 : World} {I0 : Nat → Prop} {M0 : Nm → Nat → Prop} {m0 : Mu} {Q : Exit → Sta → Prop} {v n : Nat}
theorem pq_k1 {a b lim q l : Nat} {wb wp : Bool} {d : Array Sc} (hn : n ≤ 900) (hd : d.size = n) (hab : a + 13 ≤ b) (hb : b ≤ n) (hl : l = b - a) (hl24 : l ≤ 24) (hq1 : a ≤ q) (hq2 : q < b) (hlim : l - 12 ≤ lim) (hlm : lim ≤ 900)
    (ihL : ∀ (a' b' lim' : Nat) (wb' wp' : Bool) (d' : Array Sc), d'.size = n → a' ≤ b' → b' ≤ n → b' - a' < l → lim' ≤ 900 → farL (b' - a') lim' wb' → LPs v n a' b' lim' wb' wp' d')
    {H : Hp} (hH : ∀ p, H (0 :: p) = (arF d v).F 0 p) (hq : ∀ (H' : Hp) (st : List (Nat × A)), (∀ p, H' (0 :: p) = (arF (pq1 d a b lim q wb wp) v).F 0 p) → Q .ret ⟨lk st, H'⟩) :
    WPC (cxh Try.prog w0 I0 M0 n0 m0) k1_slices_pdqsortCmpFunc_pair_Pair (InBlock 1 (ThenC (LoopC (cxh Try.prog w0 I0 M0 n0 m0) l1_slices_pdqsortCmpFunc_pair_Pair Q) Q)) ⟨lk [(0, arN n v 0), (1, iv a), (2, iv b), (3, iv lim), (4, cmpF), (10, bv wb), (11, bv wp), (12, iv l), (13, iv q)], H⟩ := by
  have hP := partition_spec d v a b q (by omega) (by omega) (by omega) (by omega)
  have hE := partEq_spec d v a b q (by omega) (by omega) (by omega) (by omega)
  obtain ⟨p1, p2, p3⟩ := part_bd d a b q hq1 hq2 (by omega)
  obtain ⟨c1, c2, c3⟩ := partEq_bd d a b q (by omega)
  unfold pq1 at hq
  rw [if_pos (show a < (Sort.partitionEqual ltP d a b q).1 ∧ (Sort.partitionEqual ltP d a b q).1 ≤ b from ⟨c1, c2⟩), if_pos (show a ≤ (Sort.partition ltP d a b q).1 ∧ (Sort.partition ltP d a b q).1 < b from ⟨p1, p2⟩)] at hq
  generalize Sort.partitionEqual ltP d a b q = E at hE c1 c2 c3 hq
  generalize Sort.partition ltP d a b q = R at hP p1 p2 p3 hq
  obtain ⟨mid, ap, d4⟩ := R
  simp only at hP p1 p2 p3 hq
  rw [hd] at hP hE p3 c3
  have f1 : IntKind.i64.wrap ((mid : Int) - a) = ((mid - a : Nat) : Int) := by rw [i64_same (by omega) (by omega)]; omega
  have f2 : IntKind.i64.wrap ((b : Int) - mid) = ((b - mid : Nat) : Int) := by rw [i64_same (by omega) (by omega)]; omega
  have f3 : IntKind.i64.wrap ((l : Int).tdiv 8) = ((l / 8 : Nat) : Int) := by rw [Int.tdiv_eq_ediv_of_nonneg (by omega), i64_same (by omega) (by omega)]; omega
  have f4 : IntKind.i64.wrap ((l : Int) / 8) = ((l / 8 : Nat) : Int) := by rw [i64_same (by omega) (by omega)]; omega
  have f5 : IntKind.i64.wrap ((mid : Int) + 1) = ((mid + 1 : Nat) : Int) := by rw [i64_same (by omega) (by omega)]; omega
  rw [k1_slices_pdqsortCmpFunc_pair_Pair.eq_1]
  by_cases ha0 : 0 < a
  · have h0 := hH []
    simp only [rpF_F] at h0
    have g1 := ar_get (d := d) (i := a - 1) (by omega)
    have g0 := ar_get (d := d) (i := q) (by omega)
    have hc := cmp0 d[a - 1]! d[q]!
    have f6 : IntKind.i64.wrap ((a : Int) - 1) = ((a - 1 : Nat) : Int) := by rw [i64_same (by omega) (by omega)]; omega
    generalize d[a - 1]! = x at g1 hc hq
    generalize d[q]! = y at g0 hc hq
    simp [show (0 : Int) < a by omega, ha0, h0, f6, g1, g0, show (q : Int) < n by omega, show q < n by omega, show a - 1 < n by omega, show ((a - 1 : Nat) : Int) < n by omega, pr_agg]
    rw [sc_guard]
    simp
    refine sc_callv0 rfl (pick1_spec x y) (by simp) rfl ?_
    cases hL : ltP x y with
    | false =>
      rw [hL] at hc hq
      rw [if_pos (by simp; omega)] at hq
      have hc' : ¬ cmpZ x.i y.i < 0 := by simpa using hc
      simp [hc']
      refine sc_fam 0 hE hH (by simp) (by simp) ?_
      simp
      exact ihL E.1 b lim wb wp E.2 c3 (by omega) hb (by omega) hlm (far_less _ (by omega) hlim) _ (fun p => by simp) hq
    | true =>
      rw [hL] at hc hq
      rw [if_neg (by simp)] at hq
      have hc' : cmpZ x.i y.i < 0 := by simpa using hc
      simp [hc']
      refine sc_fam 0 hP hH (by simp) (by simp) ?_
      simp [f1, f2, f3, f4, f5]
      refine ⟨fun hs => ?_, fun hs => ?_⟩
      · rw [if_pos hs] at hq
        have hS : PQs v n a mid lim d4 := pq_of (ihL a mid lim true true d4 p3 (by omega) (by omega) (by omega) hlm (.inl (by omega)))
        have hsz := short_size d4 a mid lim (by omega)
        have hdec : decide ((l : Int) / 8 ≤ ((mid - a : Nat) : Int)) = decide (mid - a ≥ (b - a) / 8) := by rw [decide_eq_decide]; omega
        refine sc_fam 0 hS (fun p => by simp) (by simp) (by simp) ?_
        simp [f5]
        rw [hdec]
        refine LoopC.le (le_list [(0, arN n v 0), (1, iv (mid + 1 : Nat)), (2, iv b), (3, iv lim), (4, cmpF), (10, bv (decide (mid - a ≥ (b - a) / 8))), (11, bv ap)] (by simp)) ?_
        exact ihL (mid + 1) b lim _ ap _ (by rw [hsz]; exact p3) (by omega) hb (by omega) hlm (far_less _ (by omega) hlim) _ (fun p => by simp) hq
      · have hs' : ¬ mid - a < b - mid := by omega
        rw [if_neg hs'] at hq
        have hS : PQs v n (mid + 1) b lim d4 := pq_of (ihL (mid + 1) b lim true true d4 p3 (by omega) (by omega) (by omega) hlm (.inl (by omega)))
        have hsz := short_size d4 (mid + 1) b lim (by omega)
        have hdec : decide ((l : Int) / 8 ≤ ((b - mid : Nat) : Int)) = decide (b - mid ≥ (b - a) / 8) := by rw [decide_eq_decide]; omega
        refine sc_fam 0 hS (fun p => by simp) (by simp) (by simp) ?_
        simp
        rw [hdec]
        exact ihL a mid lim _ ap _ (by rw [hsz]; exact p3) (by omega) (by omega) (by omega) hlm (far_less _ (by omega) hlim) _ (fun p => by simp) hq
  · rw [if_neg (by simp; omega)] at hq
    have ha00 : a = 0 := by omega
    simp [show ¬ (0 : Int) < a by omega, ha0]
    rw [sc_guard]
    simp
    refine sc_fam 0 hP hH (by simp) (by simp) ?_
    simp [f1, f2, f3, f4, f5]
    refine ⟨fun hs => ?_, fun hs => ?_⟩
    · rw [if_pos hs] at hq
      have hS : PQs v n a mid lim d4 := pq_of (ihL a mid lim true true d4 p3 (by omega) (by omega) (by omega) hlm (.inl (by omega)))
      have hsz := short_size d4 a mid lim (by omega)
      have hdec : decide ((l : Int) / 8 ≤ ((mid - a : Nat) : Int)) = decide (mid - a ≥ (b - a) / 8) := by rw [decide_eq_decide]; omega
      refine sc_fam 0 hS (fun p => by simp) (by simp) (by simp) ?_
      simp [f5]
      rw [hdec]
      refine LoopC.le (le_list [(0, arN n v 0), (1, iv (mid + 1 : Nat)), (2, iv b), (3, iv lim), (4, cmpF), (10, bv (decide (mid - a ≥ (b - a) / 8))), (11, bv ap)] (by simp)) ?_
      exact ihL (mid + 1) b lim _ ap _ (by rw [hsz]; exact p3) (by omega) hb (by omega) hlm (far_less _ (by omega) hlim) _ (fun p => by simp) hq
    · have hs' : ¬ mid - a < b - mid := by omega
      rw [if_neg hs'] at hq
      have hS : PQs v n (mid + 1) b lim d4 := pq_of (ihL (mid + 1) b lim true true d4 p3 (by omega) (by omega) (by omega) hlm (.inl (by omega)))
      have hsz := short_size d4 (mid + 1) b lim (by omega)
      have hdec : decide ((l : Int) / 8 ≤ ((b - mid : Nat) : Int)) = decide (b - mid ≥ (b - a) / 8) := by rw [decide_eq_decide]; omega
      refine sc_fam 0 hS (fun p => by simp) (by simp) (by simp) ?_
      simp
      rw [hdec]
      exact ihL a mid lim _ ap _ (by rw [hsz]; exact p3) (by omega) (by omega) (by omega) hlm (far_less _ (by omega) hlim) _ (fun p => by simp) hq
theorem pq_k2 {a b lim q l : Nat} {wb wp : Bool} {h : Sort.Hint} {d : Array Sc} (hn : n ≤ 900) (hd : d.size = n) (hab : a + 13 ≤ b) (hb : b ≤ n) (hl : l = b - a) (hl24 : l ≤ 24) (hq1 : a ≤ q) (hq2 : q < b) (hlim : l - 12 ≤ lim) (hlm : lim ≤ 900)
    (ihL : ∀ (a' b' lim' : Nat) (wb' wp' : Bool) (d' : Array Sc), d'.size = n → a' ≤ b' → b' ≤ n → b' - a' < l → lim' ≤ 900 → farL (b' - a') lim' wb' → LPs v n a' b' lim' wb' wp' d')
    {H : Hp} (hH : ∀ p, H (0 :: p) = (arF d v).F 0 p) (hq : ∀ (H' : Hp) (st : List (Nat × A)), (∀ p, H' (0 :: p) = (arF (pq2 d a b lim q h wb wp) v).F 0 p) → Q .ret ⟨lk st, H'⟩) :
    WPC (cxh Try.prog w0 I0 M0 n0 m0) k2_slices_pdqsortCmpFunc_pair_Pair (InBlock 1 (ThenC (LoopC (cxh Try.prog w0 I0 M0 n0 m0) l1_slices_pdqsortCmpFunc_pair_Pair Q) Q)) ⟨lk [(0, arN n v 0), (1, iv a), (2, iv b), (3, iv lim), (4, cmpF), (10, bv wb), (11, bv wp), (12, iv l), (13, iv q), (14, iv (hintI h))], H⟩ := by
  have hP := partial_spec d v a b (by omega) (by omega) (by omega) (by omega)
  have hpe := partial_eq d a b (by omega)
  have h1 : (Sort.partialInsertionSort ltP d a b).1 = d := by rw [hpe]
  have hk : ∀ {H : Hp}, (∀ p, H (0 :: p) = (arF d v).F 0 p) → (∀ (H' : Hp) (st : List (Nat × A)), (∀ p, H' (0 :: p) = (arF (pq1 d a b lim q wb wp) v).F 0 p) → Q .ret ⟨lk st, H'⟩) → WPC (cxh Try.prog w0 I0 M0 n0 m0) k1_slices_pdqsortCmpFunc_pair_Pair (InBlock 1 (ThenC (LoopC (cxh Try.prog w0 I0 M0 n0 m0) l1_slices_pdqsortCmpFunc_pair_Pair Q) Q)) ⟨lk [(0, arN n v 0), (1, iv a), (2, iv b), (3, iv lim), (4, cmpF), (10, bv wb), (11, bv wp), (12, iv l), (13, iv q)], H⟩ := fun hH hq => pq_k1 hn hd hab hb hl hl24 hq1 hq2 hlim hlm ihL hH hq
  unfold pq2 at hq
  rw [h1] at hP hq
  rw [hd] at hP
  rw [k2_slices_pdqsortCmpFunc_pair_Pair.eq_1]
  by_cases hw : (wb && wp && decide (h = .increasing)) = true
  · rw [if_pos hw] at hq
    simp at hw
    obtain ⟨⟨rfl, rfl⟩, rfl⟩ := hw
    simp [hintI]
    refine sc_fam 0 hP hH (by simp) (by simp) ?_
    cases hp : (Sort.partialInsertionSort ltP d a b).2 with
    | true =>
      rw [if_pos hp] at hq
      simp
      exact hq _ [(0, arN n v 0), (1, iv a), (2, iv b), (3, iv lim), (4, cmpF), (10, bv true), (11, bv true), (12, iv l), (13, iv q), (80, bv true)] (fun p => by simp)
    | false =>
      rw [if_neg (by rw [hp]; simp)] at hq
      simp
      exact hk (fun p => by simp) hq
  · rw [if_neg hw] at hq
    cases wb with
    | false =>
      simp
      exact hk hH hq
    | true => cases wp with
      | false =>
        simp
        exact hk hH hq
      | true =>
        cases h with
        | increasing => simp at hw
        | unknown =>
          simp [hintI]
          exact hk hH hq
        | decreasing =>
          simp [hintI]
          exact hk hH hq
theorem pq_k3 {a b lim l : Nat} {wb wp : Bool} {d : Array Sc} (hn : n ≤ 900) (hd : d.size = n) (hab : a + 13 ≤ b) (hb : b ≤ n) (hl : l = b - a) (hl24 : l ≤ 24) (hlim : l - 12 ≤ lim) (hlm : lim ≤ 900)
    (ihL : ∀ (a' b' lim' : Nat) (wb' wp' : Bool) (d' : Array Sc), d'.size = n → a' ≤ b' → b' ≤ n → b' - a' < l → lim' ≤ 900 → farL (b' - a') lim' wb' → LPs v n a' b' lim' wb' wp' d')
    {H : Hp} (hH : ∀ p, H (0 :: p) = (arF d v).F 0 p) (hq : ∀ (H' : Hp) (st : List (Nat × A)), (∀ p, H' (0 :: p) = (arF (pq3 d a b lim wb wp) v).F 0 p) → Q .ret ⟨lk st, H'⟩) :
    WPC (cxh Try.prog w0 I0 M0 n0 m0) k3_slices_pdqsortCmpFunc_pair_Pair (InBlock 1 (ThenC (LoopC (cxh Try.prog w0 I0 M0 n0 m0) l1_slices_pdqsortCmpFunc_pair_Pair Q) Q)) ⟨lk [(0, arN n v 0), (1, iv a), (2, iv b), (3, iv lim), (4, cmpF), (10, bv wb), (11, bv wp), (12, iv l)], H⟩ := by
  have hC := choose_spec d v a b (by omega) hab (by omega) (by omega)
  have hR := reverse_spec d v a b (by omega) (by omega) (by omega) (by omega)
  obtain ⟨c1, c2⟩ := Sort.choosePivot_holds ltP d a b (by omega)
  have hrs : (Sort.reverseRange d a b).size = n := by
    have := (Sort.reverseRange_holds d a b (by omega) (by omega)).1
    rw [this]; exact hd
  unfold pq3 at hq
  rw [hd] at hC hR
  rcases hqq : Sort.choosePivot ltP d a b with ⟨q, h⟩
  rw [hqq] at hC c1 c2 hq
  simp only at hC c1 c2 hq
  rw [k3_slices_pdqsortCmpFunc_pair_Pair.eq_1]
  simp
  refine sc_fam 0 hC hH (by simp) (by simp) ?_
  by_cases hdec : h = .decreasing
  · subst hdec
    rw [if_pos rfl] at hq
    have e1 : IntKind.i64.wrap ((b : Int) - 1) = (b : Int) - 1 := i64_same (by omega) (by omega)
    have e2 : IntKind.i64.wrap ((q : Int) - a) = (q : Int) - a := i64_same (by omega) (by omega)
    have e3 : IntKind.i64.wrap ((b : Int) - 1 - ((q : Int) - a)) = ((b - 1 - (q - a) : Nat) : Int) := by rw [i64_same (by omega) (by omega)]; omega
    simp [hintI]
    refine sc_fam 0 hR (fun p => by simp) (by simp) (by simp) ?_
    simp [e1, e2, e3]
    exact pq_k2 (h := .increasing) hn hrs hab hb hl hl24 (by omega) (by omega) hlim hlm ihL (fun p => by simp) hq
  · rw [if_neg hdec] at hq
    have h2 : ¬ hintI h = 2 := by cases h <;> simp [hintI] at hdec ⊢
    simp [h2]
    exact pq_k2 hn hd hab hb hl hl24 (by omega) (by omega) hlim hlm ihL (fun p => by simp) hq
theorem lp_all (hn : n ≤ 900) : ∀ (l : Nat), l ≤ 24 → ∀ (a b lim : Nat) (wb wp : Bool) (d : Array Sc), d.size = n → a ≤ b → b ≤ n → b - a = l → lim ≤ 900 → farL l lim wb → LPs v n a b lim wb wp d := by
  intro l
  induction l using Nat.strongRecOn with
  | _ l ih =>
    intro hl24 a b lim wb wp d hd hab hb hl hlm hfar n0 w0 I0 M0 m0 Q H hH hq
    have e0 : IntKind.i64.wrap ((b : Int) - a) = (l : Int) := by rw [i64_same (by omega) (by omega)]; omega
    refine loopC_once mixed l1_slices_pdqsortCmpFunc_pair_Pair.eq_1 ?_
    rw [pdq_eq] at hq
    by_cases h12 : l ≤ 12
    · rw [if_pos (by omega)] at hq
      have hI := insSort_spec d v a b (by omega) (by omega) (by omega)
      rw [hd] at hI
      simp [e0, show (l : Int) ≤ 12 by omega, h12]
      refine sc_fam 0 hI hH (by simp) (by simp) ?_
      simp
      exact hq _ [] (fun p => by simp)
    · rw [if_neg (by omega)] at hq
      have hlim : (l - 12) + (if wb = true then 0 else 1) ≤ lim := by
        rcases hfar with h | h
        · omega
        · exact h
      have hlim0 : ¬ lim = 0 := by split at hlim <;> omega
      rw [if_neg hlim0] at hq
      have ihL : ∀ (a' b' lim' : Nat) (wb' wp' : Bool) (d' : Array Sc), d'.size = n → a' ≤ b' → b' ≤ n → b' - a' < l → lim' ≤ 900 → farL (b' - a') lim' wb' → LPs v n a' b' lim' wb' wp' d' := fun a' b' lim' wb' wp' d' k1 k2 k3 k4 k5 k6 => ih (b' - a') k4 (by omega) a' b' lim' wb' wp' d' k1 k2 k3 rfl k5 k6
      cases wb with
      | true =>
        rw [if_pos rfl] at hq
        simp at hlim
        simp [e0, show ¬ (l : Int) ≤ 12 by omega, h12, hlim0]
        exact pq_k3 hn hd (by omega) hb hl.symm hl24 (by omega) hlm ihL hH hq
      | false =>
        rw [if_neg (by simp)] at hq
        simp at hlim
        have hB := break_spec d v a b (by omega) (by omega) (by omega) (by omega)
        rw [hd] at hB
        have hbs : (Sort.breakPatterns d a b).size = n := by
          have := (Sort.breakPatterns_holds d a b hab (by omega)).1
          rw [this]; exact hd
        have e1 : IntKind.i64.wrap ((lim : Int) - 1) = ((lim - 1 : Nat) : Int) := by rw [i64_same (by omega) (by omega)]; omega
        simp [e0, show ¬ (l : Int) ≤ 12 by omega, h12, hlim0]
        refine sc_fam 0 hB hH (by simp) (by simp) ?_
        simp [e1]
        exact pq_k3 hn hbs (by omega) hb hl.symm hl24 (by omega) (by omega) ihL (fun p => by simp) hq
end
end Go.Proofs.Ytmeldaflhkiopaa

/-
  slices.SortFunc at the picks.
-/
namespace Go.Proofs.Ytmeldaflhkiopaa
set_option linter.unusedVariables false
set_option linter.unusedSimpArgs false
open Go Go.G Go.Proofs Go.PL
theorem sorted_rises {o : List Sc} (ho : Apart19 o) {d : Array Sc} (hp : d.toList.Perm o) (hs : Sort.SortedIn ltP 0 d.size d) : d.toList = srtI o := by
  have ha : Apart19 d.toList := by
    unfold Apart19 at ho ⊢
    exact (hp.pairwise_iff (fun {x y} h => by rw [par_symm]; exact h)).2 ho
  have hr : Rises d.toList := by
    unfold Rises Apart19 at *
    rw [List.pairwise_iff_getElem] at ha ⊢
    intro i j hi hj hij
    have h1 := ha i j hi hj hij
    have h2 := hs i j (Nat.zero_le _) hij (by simpa using hj)
    have e1 : d[i]! = d.toList[i] := by rw [getElem!_pos d i (by simpa using hi)]; simp
    have e2 : d[j]! = d.toList[j] := by rw [getElem!_pos d j (by simpa using hj)]; simp
    rw [e1, e2] at h2
    simp [ltP] at h2
    simp [par] at h1
    simp at h1 h2 ⊢
    omega
  obtain ⟨k1, k2⟩ := srt_ok ho
  exact rises_one hr k1 (hp.trans k2.symm)
theorem sortF_spec {o : List Sc} (ho : Apart19 o) (hl : o.length ≤ 16) (v : Nat) : SpecF Try.prog 24 (fun r => [rpS o v r, cmpF]) (rpF o v) (fun _ => .tup []) (rpF (srtI o) v) := by
  obtain ⟨d, hd⟩ : ∃ d : Array Sc, d = o.toArray := ⟨_, rfl⟩
  have hdl : d.toList = o := by rw [hd]
  have hds : d.size = o.length := by rw [hd]; simp
  have hb : Sort.bitsLen o.length ≤ 8 := (tab8_get o.length (by omega)).2
  have hfar : farL o.length (Sort.bitsLen o.length) true := by
    have : ∀ n : Fin 17, n.val ≤ 12 ∨ (n.val - 12) + 0 ≤ Sort.bitsLen n.val := by decide +kernel
    unfold farL
    simpa using this ⟨o.length, by omega⟩
  have hP : PQs v o.length 0 o.length (Sort.bitsLen o.length) d := pq_of (lp_all (by omega) o.length (by omega) 0 o.length _ true true d hds (by omega) (Nat.le_refl _) (by omega) (by omega) hfar)
  have hS := Sort.pdq_sorts ltP swoP d 0 d.size (Sort.bitsLen o.length) true true (Nat.zero_le _) (Nat.le_refl _) (.inl rfl)
  have hres : (Sort.pdq ltP d 0 o.length (Sort.bitsLen o.length) true true).toList = srtI o := by
    rw [hds] at hS
    obtain ⟨⟨s1, _, s3⟩, s4⟩ := hS
    refine sorted_rises ho ?_ (by rw [s1, hds]; exact s4)
    have e1 : ∀ x : Array Sc, x.size = o.length → x.extract 0 o.length = x := fun x hx => by rw [← hx]; simp
    rw [e1 _ (by rw [s1, hds]), e1 _ hds, hdl] at s3
    exact s3
  unfold PQs at hP
  rw [show (arF d v) = rpF o v by unfold arF; rw [hdl], show arF (Sort.pdq ltP d 0 o.length (Sort.bitsLen o.length) true true) v = rpF (srtI o) v by unfold arF; rw [hres]] at hP
  refine specF_of t_slices_SortFunc_pair_Pair_pair_Pair (by simp) (famL_cons famA_osl (famL_cons famA_cmpF famL_nil)) (famA_tup famL_nil) fun w0 I0 M0 m0 => ?_
  have e1 : IntKind.u64.wrap (o.length : Int) = (o.length : Int) := u64_same (by omega) (by omega)
  have hL := len_spec o.length (by omega)
  unfold c_slices_SortFunc_pair_Pair_pair_Pair
  simp [e1]
  refine sc_call hL rfl ?_
  simp
  refine sc_fam 0 hP (fun p => by simp) (by simp) (by simp) ?_
  simp
  exact reth_famN rfl rfl (fun p => by simp)
end Go.Proofs.Ytmeldaflhkiopaa

/-
  pair.Pick.
-/
namespace Go.Proofs.Ytmeldaflhkiopaa
set_option linter.unusedVariables false
set_option linter.unusedSimpArgs false
open Go Go.G Go.Proofs Go.PL
@[simp] theorem sc_take2 {x : Sc} : (scC x).take 2 = prC x := rfl
/-- The pops: what is picked. -/
theorem pick_l3 {all : List Sc} : ∀ (m : Nat) (l junk o : List Sc) (v : Nat), l.length = m → l.length ≤ 300 → o.length + l.length ≤ 300 → HeapL l l.length → (∀ y, y ∈ all → y ∈ l ∨ freeB o y = false) → (∀ y, y ∈ l → y ∈ all) →
    ∃ o', Picks all o o' ∧ ∀ {n0 : Nat} {w0 : World} {I0 : Nat → Prop} {Q : Exit → Sta → Prop} (u : Nat) (H : Hp), (∀ p, H (0 :: p) = (hpF l junk v).F 0 p) → (∀ p, H (2 :: p) = (rpF o u).F 2 p) →
      (∀ (H' : Hp) (u' : Nat) (st : List (Nat × A)), (∀ p, H' (2 :: p) = (rpF o' u').F 2 p) → Q (.exit 4) ⟨lk ([(3, hpP 0), (8, rpS o' u' 2)] ++ st), H'⟩) →
      LoopC (cx Try.prog w0 I0 n0) l3_pair_Pick Q ⟨lk [(3, hpP 0), (8, rpS o u 2)], H⟩ := by
  intro m
  induction m with
  | zero =>
    intro l junk o v hm hl hol hh hall hsub
    have : l = [] := List.eq_nil_of_length_eq_zero hm
    subst this
    refine ⟨o, .done fun y hy => by rcases hall y hy with h | h; · simp at h
                                    · exact h, fun {n0 w0 I0 Q} u H hH hG hq => ?_⟩
    have hL := hLen_spec [] junk v (by simp)
    have h0 := hH []
    refine loopC_once mixed l3_pair_Pick.eq_1 ?_
    simp [h0]
    refine sc_fam 0 hL hH (by simp) (by simp) ?_
    simp
    exact hq _ u [(51, bv false)] (fun p => by simp [hG])
  | succ m ih =>
    intro l junk o v hm hl hol hh hall hsub
    obtain ⟨q1, q2, q3⟩ := pop_ok (l := l) (by omega) hh
    have hmin : ∀ y, y ∈ l → aheadB y (gt l 0) = false := fun y hy => by
      obtain ⟨k, hk, rfl⟩ := List.getElem_of_mem hy
      rw [← gt_at hk]
      exact heap_min hh k hk
    obtain ⟨g1, g2⟩ := pick_pop q3 hmin hall hsub
    have hP := hpPop_spec l junk v (by omega) (by omega)
    have hL := hLen_spec l junk v (by omega)
    have hlen := popL_len l
    have hrl : ((popL l).take (l.length - 1)).length = m := by simp; omega
    have q1' : (popL l).getD (l.length - 1) sc0 = gt l 0 := q1
    rw [q1'] at hP
    have q2' : HeapL ((popL l).take (l.length - 1)) m := fun k h1 h2 => q2 k h1 (by omega)
    clear q2
    generalize gt l 0 = x at hP g1 g2 q3 hmin
    generalize (popL l).take (l.length - 1) = rest at hP hrl q2' q3 g1 g2
    have q2 : HeapL rest rest.length := fun k h1 h2 => q2' k h1 (by omega)
    have hsub' : ∀ y, y ∈ rest → y ∈ all := fun y hy => hsub y (q3.subset (by simp [hy]))
    cases hf : freeB o x with
    | true =>
      obtain ⟨b1, b2⟩ := g1 hf
      obtain ⟨o', p1, p2⟩ := ih rest (x :: junk) (o ++ [x]) v hrl (by omega) (by simp; omega) q2 b2 hsub'
      refine ⟨o', .step b1 p1, fun {n0 w0 I0 Q} u H hH hG hq => ?_⟩
      have hC := cont_spec x o u (by omega)
      rw [hf] at hC
      have h0 := hH []
      simp only [hpF_F] at h0
      refine loopC_once mixed l3_pair_Pick.eq_1 ?_
      simp [h0]
      refine sc_fam 0 hL hH (by simp) (by simp) ?_
      simp [show 0 < l.length by omega]
      refine sc_fam 0 hP (fun p => by simp) (by simp) (by simp) ?_
      simp [updF_app, pr_agg]
      have hG2 : ∀ p, (ov 0 ((hpF rest (x :: junk) v).F 0) (updF H [1] ⟨(H [1]).u + 1, .cells (scC x)⟩) : Hp) (2 :: p) = (rpF o u).F 2 p := fun p => by simp [updF_app, hG]
      refine sc_fam 2 hC hG2 (by simp) (by simp) ?_
      have ht : (o.map prA).take o.length = o.map prA := List.take_of_length_le (by simp)
      simp [updF_app, lens_pr, ht, pr_agg]
      refine ⟨pr_bare, by omega, ?_⟩
      refine LoopC.le (le_list [(3, hpP 0), (8, rpS (o ++ [x]) (u + 1) 2)] (by simp)) ?_
      exact p2 (u + 1) _ (fun p => by simp [updF_app]) (fun p => by by_cases hp : p = [] <;> simp [hp, updF_app]) hq
    | false =>
      obtain ⟨o', p1, p2⟩ := ih rest (x :: junk) o v hrl (by omega) (by omega) q2 (g2 hf) hsub'
      refine ⟨o', p1, fun {n0 w0 I0 Q} u H hH hG hq => ?_⟩
      have hC := cont_spec x o u (by omega)
      rw [hf] at hC
      have h0 := hH []
      simp only [hpF_F] at h0
      refine loopC_once mixed l3_pair_Pick.eq_1 ?_
      simp [h0]
      refine sc_fam 0 hL hH (by simp) (by simp) ?_
      simp [show 0 < l.length by omega]
      refine sc_fam 0 hP (fun p => by simp) (by simp) (by simp) ?_
      simp [updF_app, pr_agg]
      have hG2 : ∀ p, (ov 0 ((hpF rest (x :: junk) v).F 0) (updF H [1] ⟨(H [1]).u + 1, .cells (scC x)⟩) : Hp) (2 :: p) = (rpF o u).F 2 p := fun p => by simp [updF_app, hG]
      refine sc_fam 2 hC hG2 (by simp) (by simp) ?_
      simp
      refine LoopC.le (le_list [(3, hpP 0), (8, rpS o u 2)] (by simp)) ?_
      exact p2 u _ (fun p => by simp [updF_app]) (fun p => by simp) hq
end Go.Proofs.Ytmeldaflhkiopaa

/-
  Plain: which pairs have a score that counts.
-/
namespace Go.PL
set_option linter.unusedVariables false
set_option linter.unusedSimpArgs false
open List
/-- The pairs of one row from place j on. -/
def candR (i : Nat) : Nat → List Int → List Sc
  | _, [] => []
  | j, n :: r => if 0 < n ∧ i < 16 ∧ j < 16 then ⟨i, j, n⟩ :: candR i (j + 1) r else candR i (j + 1) r
def candS : Nat → List (List Int) → List Sc
  | _, [] => []
  | i, r :: rs => candR i 0 r ++ candS (i + 1) rs
theorem candR_len {i : Nat} : ∀ {r : List Int} {j : Nat}, (candR i j r).length ≤ 16 - j
  | [], j => by simp [candR]
  | n :: r, j => by
    have := candR_len (i := i) (r := r) (j := j + 1)
    unfold candR
    split
    · simp; omega
    · omega
theorem candR_far {i : Nat} (h : 16 ≤ i) : ∀ {r : List Int} {j : Nat}, candR i j r = []
  | [], j => rfl
  | n :: r, j => by
    unfold candR
    rw [if_neg (by omega), candR_far h]
theorem candS_len : ∀ {rs : List (List Int)} {i : Nat}, (candS i rs).length ≤ (16 - i) * 16
  | [], i => by simp [candS]
  | r :: rs, i => by
    have h1 := candS_len (rs := rs) (i := i + 1)
    have h2 := candR_len (i := i) (r := r) (j := 0)
    unfold candS
    rw [List.length_append]
    by_cases h : 16 ≤ i
    · rw [candR_far h]; simp; omega
    · omega
theorem candR_lt {i : Nat} : ∀ {r : List Int} {j : Nat} {x : Sc}, x ∈ candR i j r → x.i = i ∧ i < 16 ∧ x.j < 16 ∧ j ≤ x.j ∧ x.j < j + r.length ∧ r[x.j - j]? = some x.n ∧ 0 < x.n
  | [], j, x, h => by simp [candR] at h
  | n :: r, j, x, h => by
    have ih : x ∈ candR i (j + 1) r → x.i = i ∧ i < 16 ∧ x.j < 16 ∧ j ≤ x.j ∧ x.j < j + (n :: r).length ∧ (n :: r)[x.j - j]? = some x.n ∧ 0 < x.n := fun h => by
      obtain ⟨h1, h2, h3, h4, h5, h6, h7⟩ := candR_lt h
      refine ⟨h1, h2, h3, by omega, by simp; omega, ?_, h7⟩
      rw [show x.j - j = (x.j - (j + 1)) + 1 by omega]
      simpa using h6
    unfold candR at h
    split at h
    · rename_i hc
      rcases List.mem_cons.1 h with rfl | h
      · exact ⟨rfl, hc.2.1, hc.2.2, Nat.le_refl _, by simp, by simp, hc.1⟩
      · exact ih h
    · exact ih h
end Go.PL

/-
  pair.Pick: the pushes.
-/
namespace Go.Proofs.Ytmeldaflhkiopaa
set_option linter.unusedVariables false
set_option linter.unusedSimpArgs false
open Go Go.G Go.Proofs Go.PL
abbrev ivss (l : List (List Int)) : A := .sl false (l.map ivs)
/-- The heap so far. -/
def HpI (H : Hp) (all : List Sc) : Prop := ∃ (l junk : List Sc) (v : Nat), (∀ p, H (0 :: p) = (hpF l junk v).F 0 p) ∧ HeapL l l.length ∧ List.Perm l all ∧ ∀ p, H (2 :: p) = ⟨0, .none⟩
theorem pick_l1 {n0 : Nat} {w0 : World} {I0 : Nat → Prop} {Q : Exit → Sta → Prop} {X : A} {N : Nat} {r : List Int} {i : Nat} (hr : r.length ≤ 1000000) : ∀ (m j : Nat) (all : List Sc) (H : Hp), r.length = j + m → all.length + (candR i j (r.drop j)).length ≤ 256 → HpI H all →
    (∀ (H' : Hp) (st : List (Nat × A)), HpI H' (all ++ candR i j (r.drop j)) → Q (.exit 2) ⟨lk ([(3, hpP 0), (4, iv i), (12, X), (13, iv N), (14, iv i)] ++ st), H'⟩) →
    LoopC (cx Try.prog w0 I0 n0) l1_pair_Pick Q ⟨lk [(3, hpP 0), (4, iv i), (12, X), (13, iv N), (14, iv i), (19, ivs r), (20, iv r.length), (21, iv j)], H⟩ := by
  intro m
  induction m with
  | zero =>
    intro j all H hm hl hI hq
    refine loopC_once mixed l1_pair_Pick.eq_1 ?_
    have : ¬ (j : Int) < r.length := by omega
    simp [this]
    have hd : r.drop j = [] := List.drop_eq_nil_of_le (by omega)
    rw [hd] at hq
    exact hq H [(19, ivs r), (20, iv r.length), (21, iv j), (22, bv false)] (by simpa [candR] using hI)
  | succ m ih =>
    intro j all H hm hl hI hq
    have hj : j < r.length := by omega
    have hd : r.drop j = r[j] :: r.drop (j + 1) := (List.getElem_cons_drop hj).symm
    have e1 : IntKind.i64.wrap ((j : Int) + 1) = ((j + 1 : Nat) : Int) := by rw [i64_same (by omega) (by omega)]; omega
    rw [hd] at hl hq
    unfold candR at hl hq
    refine loopC_once mixed l1_pair_Pick.eq_1 ?_
    simp [hj, show (j : Int) < r.length by omega]
    have next : ∀ (all' : List Sc) (H' : Hp), all'.length + (candR i (j + 1) (r.drop (j + 1))).length ≤ 256 → HpI H' all' → all' ++ candR i (j + 1) (r.drop (j + 1)) = all ++ (if 0 < r[j] ∧ i < 16 ∧ j < 16 then ⟨i, j, r[j]⟩ :: candR i (j + 1) (r.drop (j + 1)) else candR i (j + 1) (r.drop (j + 1))) → LoopC (cx Try.prog w0 I0 n0) l1_pair_Pick Q ⟨lk [(3, hpP 0), (4, iv i), (12, X), (13, iv N), (14, iv i), (19, ivs r), (20, iv r.length), (21, iv (j + 1 : Nat))], H'⟩ := fun all' H' hl' hI' he => ih (j + 1) all' H' (by omega) hl' hI' (by rw [he]; exact hq)
    by_cases h1 : 0 < r[j]
    · by_cases h2 : i < 16
      · by_cases h3 : j < 16
        · rw [if_pos ⟨h1, h2, h3⟩] at hl
          obtain ⟨l, junk, v, q1, q2, q3, q4⟩ := hI
          have hll := q3.length_eq
          simp at hl
          have hP := hpPush_spec l junk v (by omega) ⟨i, j, r[j]⟩
          obtain ⟨g1, g2⟩ := push_ok q2 ⟨i, j, r[j]⟩
          simp [h1, show (i : Int) < 16 by omega, show (j : Int) < 16 by omega]
          refine ⟨?_, fun h => by omega⟩
          refine sc_fam 0 hP q1 (by simp [scA, scC]) (by simp) ?_
          simp [e1]
          refine next (all ++ [⟨i, j, r[j]⟩]) _ (by simp; omega) ⟨upL (l.length + 1) (l ++ [⟨i, j, r[j]⟩]) l.length, [], v + 1, fun p => by simp, ?_, ?_, fun p => by simp [q4]⟩ (by rw [if_pos ⟨h1, h2, h3⟩]; simp)
          · rw [upL_len]; simpa using g1
          · exact g2.trans ((q3.cons _).trans (List.perm_append_singleton _ _).symm)
        · have : ¬ (j : Int) < 16 := by omega
          simp [h1, show (i : Int) < 16 by omega, this, e1]
          intro _
          refine next all H (by rw [if_neg (by omega)] at hl; exact hl) hI (by rw [if_neg (by omega)])
      · have : ¬ (i : Int) < 16 := by omega
        simp [h1, this, e1]
        refine next all H (by rw [if_neg (by omega)] at hl; exact hl) hI (by rw [if_neg (by omega)])
    · simp [h1, e1]
      refine next all H (by rw [if_neg (by omega)] at hl; exact hl) hI (by rw [if_neg (by omega)])
theorem pick_l2 {n0 : Nat} {w0 : World} {I0 : Nat → Prop} {Q : Exit → Sta → Prop} {rs : List (List Int)} (hrs : rs.length ≤ 1000000) (hr : ∀ r, r ∈ rs → r.length ≤ 1000000) : ∀ (m i : Nat) (all : List Sc) (H : Hp), rs.length = i + m → all.length + (candS i (rs.drop i)).length ≤ 256 → HpI H all →
    (∀ (H' : Hp) (st : List (Nat × A)), HpI H' (all ++ candS i (rs.drop i)) → Q (.exit 0) ⟨lk ([(3, hpP 0)] ++ st), H'⟩) →
    LoopC (cx Try.prog w0 I0 n0) l2_pair_Pick Q ⟨lk [(3, hpP 0), (12, ivss rs), (13, iv rs.length), (14, iv i)], H⟩ := by
  intro m
  induction m with
  | zero =>
    intro i all H hm hl hI hq
    refine loopC_once mixed l2_pair_Pick.eq_1 ?_
    have : ¬ (i : Int) < rs.length := by omega
    simp [this]
    have hd : rs.drop i = [] := List.drop_eq_nil_of_le (by omega)
    rw [hd] at hq
    exact hq H [(12, ivss rs), (13, iv rs.length), (14, iv i), (15, bv false)] (by simpa [candS] using hI)
  | succ m ih =>
    intro i all H hm hl hI hq
    have hj : i < rs.length := by omega
    have hd : rs.drop i = rs[i] :: rs.drop (i + 1) := (List.getElem_cons_drop hj).symm
    have e1 : IntKind.i64.wrap ((i : Int) + 1) = ((i + 1 : Nat) : Int) := by rw [i64_same (by omega) (by omega)]; omega
    have hri := hr rs[i] (List.getElem_mem hj)
    rw [hd] at hl hq
    unfold candS at hl hq
    rw [List.length_append] at hl
    refine loopC_once mixed l2_pair_Pick.eq_1 ?_
    simp [hj, show (i : Int) < rs.length by omega]
    refine LoopC.le (le_list [(3, hpP 0), (4, iv i), (12, ivss rs), (13, iv rs.length), (14, iv i), (19, ivs rs[i]), (20, iv rs[i].length), (21, iv (0 : Nat))] (by simp)) ?_
    refine pick_l1 hri rs[i].length 0 all H (by omega) (by simp; omega) hI fun H' st hI' => ?_
    simp [e1]
    refine ih (i + 1) _ H' (by omega) ?_ (by simpa using hI') fun H2 st2 hI2 => ?_
    · simp; omega
    · refine hq H2 st2 (by simpa using hI2)
end Go.Proofs.Ytmeldaflhkiopaa

/-
  pair.Pick.
-/
namespace Go.Proofs.Ytmeldaflhkiopaa
set_option linter.unusedVariables false
set_option linter.unusedSimpArgs false
open Go Go.G Go.Proofs Go.PL
theorem heap_any : ∀ all : List Sc, ∃ l, HeapL l l.length ∧ List.Perm l all
  | [] => ⟨[], fun k _ h => by simp at h, List.Perm.refl _⟩
  | x :: all => by
    obtain ⟨l, h1, h2⟩ := heap_any all
    obtain ⟨g1, g2⟩ := push_ok h1 x
    exact ⟨_, by rw [upL_len]; simpa using g1, g2.trans (h2.cons x)⟩
theorem picks_any {all : List Sc} (h : all.length ≤ 300) : ∃ o', Picks all [] o' := by
  obtain ⟨l, h1, h2⟩ := heap_any all
  have := h2.length_eq
  obtain ⟨o', h3, _⟩ := pick_l3 (all := all) l.length l [] [] 0 rfl (by omega) (by simp; omega) h1 (fun y hy => .inl (h2.symm.subset hy)) (fun y hy => h2.subset hy)
  exact ⟨o', h3⟩
theorem picks_facts {rs : List (List Int)} {o' : List Sc} (h : Picks (candS 0 rs) [] o') : Apart19 o' ∧ (∀ x, x ∈ o' → x ∈ candS 0 rs) := picks_apart h (by simp [Apart19]) (by simp)
theorem pick_spec (rs : List (List Int)) (hrs : rs.length ≤ 1000000) (hr : ∀ r, r ∈ rs → r.length ≤ 1000000) {o' : List Sc} (ho : Picks (candS 0 rs) [] o') (hl16 : o'.length ≤ 16) : G.Spec Try.prog 9 [ivss rs] (.sl false ((srtI o').map prA)) := by
  obtain ⟨hap, _⟩ := picks_facts ho
  have hcl := candS_len (rs := rs) (i := 0)
  refine spec_of t_pair_Pick (by simp) fun w0 I0 => ?_
  unfold c_pair_Pick
  simp
  refine LoopC.le (le_blankC (d := [0]) (u := 1) (cs := [.sl true []]) 0 [0, 0] 3 rfl rfl (by simp)) ?_
  simp
  refine LoopC.le (le_list [(3, hpP 0), (12, ivss rs), (13, iv rs.length), (14, iv (0 : Nat))] (by simp)) ?_
  refine pick_l2 hrs hr rs.length 0 [] _ (by omega) (by simpa using hcl) ⟨[], [], 1, fun p => ?_, fun k _ h => by simp at h, List.Perm.refl _, fun p => by simp⟩ fun H' st hI => ?_
  · by_cases h1 : p = []
    · subst h1; simp
    · by_cases h2 : p = [0]
      · subst h2; simp
      · simp [h1, h2, Ne.symm h1, Ne.symm h2]
  · obtain ⟨l, junk, v, q1, q2, q3, q4⟩ := hI
    simp only [List.nil_append, List.drop_zero] at q3
    have hll := q3.length_eq
    simp
    refine LoopC.le (le_blank 8 [2] 2 (by simp)) ?_
    obtain ⟨o2, p1, p2⟩ := pick_l3 (all := candS 0 rs) l.length l junk [] v rfl (by omega) (by simp; omega) q2 (fun y hy => .inl (q3.symm.subset hy)) (fun y hy => q3.subset hy)
    have := picks_one p1 ho
    subst this
    refine LoopC.le (le_list [(3, hpP 0), (8, rpS [] ((H' [2]).u + 1) 2)] (by simp)) ?_
    refine p2 _ _ (fun p => by simp [updF_app, q1]) (fun p => ?_) fun H2 u2 st2 hG => ?_
    · by_cases h1 : p = [] <;> simp [h1, updF_app, q4]
    · have hS := sortF_spec hap hl16 u2
      simp
      refine sc_fam 2 hS hG (by simp) (by simp) ?_
      simp
      have hsl : (srtI o2).length = o2.length := (srt_ok hap).2.length_eq
      have := frz_rowT (H := ov 2 ((rpF (srtI o2) u2).F 2) H2) (o := [2]) (u := u2) (sz := 2) (l := srtI o2) (f := prA) (n := o2.length) (by simp) (by omega) (by intro x; rfl)
      rw [List.take_of_length_le (by omega)] at this
      exact this
end Go.Proofs.Ytmeldaflhkiopaa

/-
  centoref19.free.
-/
namespace Go.Proofs.Ytmeldaflhkiopaa
set_option linter.unusedVariables false
set_option linter.unusedSimpArgs false
open Go Go.G Go.Proofs Go.PL
abbrev prs (l : List Sc) : A := .sl false (l.map prA)
theorem free_l1 {n0 : Nat} {w0 : World} {I0 : Nat → Prop} {Q : Exit → Sta → Prop} {l : List Sc} {x : Sc} {H : Hp} (hl : l.length ≤ 1000) (hq : freeB l x = true → ∀ st, Q (.exit 0) ⟨lk st, H⟩) (hq2 : freeB l x = false → Q .ret ⟨lk [(6, bv false)], H⟩) : ∀ (m i : Nat), i + m = l.length → freeB (l.drop i) x = freeB l x →
    LoopC (cx Try.prog w0 I0 n0) l1_centoref19_free Q ⟨lk [(0, prs l), (1, iv x.i), (2, iv x.j), (7, iv i)], H⟩ := by
  intro m
  induction m with
  | zero =>
    intro i hm hf
    refine loopC_once mixed l1_centoref19_free.eq_1 ?_
    have : ¬ (i : Int) < l.length := by omega
    simp [this]
    rw [List.drop_eq_nil_of_le (by omega)] at hf
    exact hq hf.symm [(0, prs l), (1, iv x.i), (2, iv x.j), (7, iv i), (11, bv false)]
  | succ m ih =>
    intro i hm hf
    have hi : i < l.length := by omega
    have e1 : IntKind.i64.wrap ((i : Int) + 1) = ((i + 1 : Nat) : Int) := by rw [i64_same (by omega) (by omega)]; omega
    have hd : l.drop i = l[i] :: l.drop (i + 1) := (List.getElem_cons_drop hi).symm
    have hgo : par l[i] x = true → freeB (l.drop (i + 1)) x = freeB l x := fun h => by rw [← hf, hd]; unfold freeB; rw [List.all_cons, h, Bool.true_and]
    have hno : par l[i] x = false → freeB l x = false := fun h => by rw [← hf, hd]; unfold freeB; rw [List.all_cons, h, Bool.false_and]
    have ih' := fun h => ih (i + 1) (by omega) (hgo h)
    refine loopC_once mixed l1_centoref19_free.eq_1 ?_
    unfold par at hgo hno ih'
    generalize hy : l[i] = y at hgo hno ih'
    by_cases h1 : y.i < x.i <;> by_cases h2 : y.j < x.j <;> by_cases h3 : x.i < y.i <;> by_cases h4 : x.j < y.j <;> first | omega | skip
    all_goals simp [h1, h2, h3, h4] at hno ih'
    all_goals simp [hi, hy, prA, prC, h1, h2, h3, h4, e1]
    all_goals first | exact hq2 hno | exact ih' | skip
theorem free_spec (l : List Sc) (x : Sc) (hl : l.length ≤ 1000) : G.Spec Try.prog 44 [prs l, iv x.i, iv x.j] (bv (freeB l x)) := by
  refine spec_of t_centoref19_free (by simp) fun w0 I0 => ?_
  unfold c_centoref19_free
  simp
  refine LoopC.le (le_list [(0, prs l), (1, iv x.i), (2, iv x.j), (7, iv (0 : Nat))] (by simp)) ?_
  refine free_l1 hl (fun h st => ?_) (fun h => ?_) l.length 0 (by omega) (by simp)
  · simp [h]
    exact frz_bare rfl
  · simp [h]
    exact frz_bare rfl
end Go.Proofs.Ytmeldaflhkiopaa

/-
  Plain: the best one, found by a scan.
-/
namespace Go.PL
set_option linter.unusedVariables false
set_option linter.unusedSimpArgs false
open List
def bestF (o : List Sc) (b : Sc) (l : List Sc) : Sc := l.foldl (fun b y => if b.n < y.n ∧ freeB o y = true then y else b) b
/-- One pair lies ahead of another in the table. -/
def bef (a b : Sc) : Prop := a.i < b.i ∨ (a.i = b.i ∧ a.j < b.j)
theorem bestF_ok {o : List Sc} : ∀ (l p : List Sc) (b : Sc), (p ++ l).Pairwise bef → (∀ y, y ∈ p ++ l → 0 < y.n) → ((b = sc0 ∧ ∀ y, y ∈ p → freeB o y = false) ∨ Best p o b) →
    ((bestF o b l = sc0 ∧ ∀ y, y ∈ p ++ l → freeB o y = false) ∨ Best (p ++ l) o (bestF o b l))
  | [], p, b, _, _, h => by simpa [bestF] using h
  | x :: l, p, b, hs, hn, h => by
    have hx := hn x (by simp)
    have hbx : ∀ y, y ∈ p → bef y x := fun y hy => by
      rw [List.pairwise_append] at hs
      exact hs.2.2 y hy x (by simp)
    have hst : bestF o b (x :: l) = bestF o (if b.n < x.n ∧ freeB o x = true then x else b) l := rfl
    have := bestF_ok (o := o) l (p ++ [x]) (if b.n < x.n ∧ freeB o x = true then x else b) (by simpa using hs) (by simpa using hn) ?_
    · rw [hst]; simpa using this
    · by_cases hf : freeB o x = true
      · rcases h with ⟨rfl, h⟩ | h
        · rw [if_pos ⟨by simpa [sc0] using hx, hf⟩]
          refine .inr ⟨by simp, hf, fun y hy hyf => ?_⟩
          rcases List.mem_append.1 hy with hy | hy
          · rw [h y hy] at hyf; cases hyf
          · simp at hy; subst hy; exact ahead_irr _
        · by_cases hl : b.n < x.n
          · rw [if_pos ⟨hl, hf⟩]
            refine .inr ⟨by simp, hf, fun y hy hyf => ?_⟩
            rcases List.mem_append.1 hy with hy | hy
            · have := h.2.2 y hy hyf
              unfold aheadB at this ⊢
              simp at this ⊢
              omega
            · simp at hy; subst hy; exact ahead_irr _
          · rw [if_neg (fun k => hl k.1)]
            refine .inr ⟨by simp [h.1], h.2.1, fun y hy hyf => ?_⟩
            rcases List.mem_append.1 hy with hy | hy
            · exact h.2.2 y hy hyf
            · simp at hy; subst hy
              have := hbx b h.1
              unfold bef at this
              unfold aheadB
              simp
              omega
      · rw [if_neg (fun k => hf k.2)]
        rcases h with ⟨rfl, h⟩ | h
        · refine .inl ⟨rfl, fun y hy => ?_⟩
          rcases List.mem_append.1 hy with hy | hy
          · exact h y hy
          · simp at hy; subst hy; simpa using hf
        · refine .inr ⟨by simp [h.1], h.2.1, fun y hy hyf => ?_⟩
          rcases List.mem_append.1 hy with hy | hy
          · exact h.2.2 y hy hyf
          · simp at hy; subst hy; exact absurd hyf hf
theorem candR_bef {i : Nat} : ∀ {r : List Int} {j : Nat}, (candR i j r).Pairwise bef
  | [], j => by simp [candR]
  | n :: r, j => by
    unfold candR
    split
    · rw [List.pairwise_cons]
      refine ⟨fun y hy => ?_, candR_bef⟩
      obtain ⟨h1, _, _, h4, _⟩ := candR_lt hy
      exact .inr ⟨h1.symm, by simp; omega⟩
    · exact candR_bef
theorem candS_mem : ∀ {rs : List (List Int)} {i : Nat} {x : Sc}, x ∈ candS i rs → i ≤ x.i ∧ x.i < 16 ∧ x.j < 16 ∧ 0 < x.n ∧ ∃ r, rs[x.i - i]? = some r ∧ r[x.j]? = some x.n
  | [], i, x, h => by simp [candS] at h
  | r :: rs, i, x, h => by
    unfold candS at h
    rcases List.mem_append.1 h with h | h
    · obtain ⟨h1, h2, h3, h4, h5, h6, h7⟩ := candR_lt h
      exact ⟨by omega, by omega, h3, h7, r, by rw [h1]; simp, by simpa using h6⟩
    · obtain ⟨h1, h2, h3, h4, r', h5, h6⟩ := candS_mem h
      refine ⟨by omega, h2, h3, h4, r', ?_, h6⟩
      rw [show x.i - i = (x.i - (i + 1)) + 1 by omega]
      simpa using h5
theorem candS_bef : ∀ {rs : List (List Int)} {i : Nat}, (candS i rs).Pairwise bef
  | [], i => by simp [candS]
  | r :: rs, i => by
    unfold candS
    rw [List.pairwise_append]
    refine ⟨candR_bef, candS_bef, fun x hx y hy => ?_⟩
    have h1 := (candR_lt hx).1
    have h2 := (candS_mem hy).1
    exact .inl (by omega)
theorem best_found {rs : List (List Int)} {o : List Sc} : (bestF o sc0 (candS 0 rs) = sc0 ∧ ∀ y, y ∈ candS 0 rs → freeB o y = false) ∨ Best (candS 0 rs) o (bestF o sc0 (candS 0 rs)) := by
  have := bestF_ok (o := o) (candS 0 rs) [] sc0 (by simpa using candS_bef) (by simpa using fun y hy => (candS_mem hy).2.2.2.1) (.inl ⟨rfl, by simp⟩)
  simpa using this
end Go.PL

/-
  centoref19.best.
-/
namespace Go.Proofs.Ytmeldaflhkiopaa
set_option linter.unusedVariables false
set_option linter.unusedSimpArgs false
open Go Go.G Go.Proofs Go.PL
theorem best_l1 {n0 : Nat} {w0 : World} {I0 : Nat → Prop} {Q : Exit → Sta → Prop} {rs : List (List Int)} {o : List Sc} (ho : o.length ≤ 1000) {i : Nat} (hi : i < rs.length) (hi16 : i < 16) (hr : rs[i].length ≤ 1000000) : ∀ (m j : Nat) (b : Sc) (H : Hp), rs[i].length = j + m → 0 ≤ b.n → H [1] = ⟨1, .cells (prC b)⟩ → H [0] = ⟨1, .cells [iv 0, iv 0]⟩ →
    (∀ (b' : Sc) (H' : Hp) (st : List (Nat × A)), b' = bestF o b (candR i j (rs[i].drop j)) → 0 ≤ b'.n → H' [1] = ⟨1, .cells (prC b')⟩ → H' [0] = ⟨1, .cells [iv 0, iv 0]⟩ → Q (.exit 2) ⟨lk ([(0, ivss rs), (1, prs o), (4, .pob [0] 1 0), (6, .pob [1] 1 0), (7, iv b'.n), (8, iv i)] ++ st), H'⟩) →
    LoopC (cx Try.prog w0 I0 n0) l1_centoref19_best Q ⟨lk [(0, ivss rs), (1, prs o), (4, .pob [0] 1 0), (6, .pob [1] 1 0), (7, iv b.n), (8, iv i), (9, iv j)], H⟩ := by
  intro m
  induction m with
  | zero =>
    intro j b H hm hb0 hH hH0 hq
    refine loopC_once mixed l1_centoref19_best.eq_1 ?_
    have : ¬ (j : Int) < rs[i].length := by omega
    have hd : rs[i].drop j = [] := List.drop_eq_nil_of_le (by omega)
    rw [hd] at hq
    simp [hi, show (i : Int) < rs.length by omega, this]
    exact hq b H [(9, iv j), (31, bv false)] rfl hb0 hH hH0
  | succ m ih =>
    intro j b H hm hb0 hH hH0 hq
    have hj : j < rs[i].length := by omega
    have hd : rs[i].drop j = rs[i][j] :: rs[i].drop (j + 1) := (List.getElem_cons_drop hj).symm
    have e1 : IntKind.i64.wrap ((j : Int) + 1) = ((j + 1 : Nat) : Int) := by rw [i64_same (by omega) (by omega)]; omega
    have hfar : ¬ j < 16 → candR i j (rs[i].drop j) = [] := fun h => by
      have := candR_len (i := i) (r := rs[i].drop j) (j := j)
      exact List.eq_nil_of_length_eq_zero (by omega)
    refine loopC_once mixed l1_centoref19_best.eq_1 ?_
    by_cases h16 : j < 16
    · have hF := free_spec o ⟨i, j, rs[i][j]⟩ ho
      simp [hi, hj, show (i : Int) < rs.length by omega, show (j : Int) < rs[i].length by omega, h16, show (j : Int) < 16 by omega]
      have hstep : candR i j (rs[i].drop j) = if 0 < rs[i][j] then ⟨i, j, rs[i][j]⟩ :: candR i (j + 1) (rs[i].drop (j + 1)) else candR i (j + 1) (rs[i].drop (j + 1)) := by
        rw [hd, candR]; simp [hi16, h16]
      have next : ∀ (b2 : Sc) (H2 : Hp), 0 ≤ b2.n → H2 [1] = ⟨1, .cells (prC b2)⟩ → H2 [0] = ⟨1, .cells [iv 0, iv 0]⟩ → bestF o b2 (candR i (j + 1) (rs[i].drop (j + 1))) = bestF o b (candR i j (rs[i].drop j)) → LoopC (cx Try.prog w0 I0 n0) l1_centoref19_best Q ⟨lk [(0, ivss rs), (1, prs o), (4, .pob [0] 1 0), (6, .pob [1] 1 0), (7, iv b2.n), (8, iv i), (9, iv (j + 1 : Nat))], H2⟩ := fun b2 H2 h0 q1 q2 he => ih (j + 1) b2 H2 (by omega) h0 q1 q2 (by rw [he]; exact hq)
      by_cases h1 : b.n < rs[i][j]
      · rw [sc_guard]
        simp [h1]
        refine sc_call hF rfl ?_
        cases hf : freeB o ⟨i, j, rs[i][j]⟩ with
        | true =>
          simp [hi, hj, show (i : Int) < rs.length by omega, show (j : Int) < rs[i].length by omega, h1, hH, e1]
          refine next ⟨i, j, rs[i][j]⟩ _ (by simp; omega) (by simp [updF_app, prC]) (by simp [updF_app, hH0]) ?_
          rw [hstep, if_pos (by omega)]
          simp [bestF, h1, hf]
        | false =>
          simp [h1, e1]
          refine next b H hb0 hH hH0 ?_
          rw [hstep]
          split
          · simp [bestF, hf]
          · rfl
      · rw [sc_guard]
        simp [h1, e1]
        refine next b H hb0 hH hH0 ?_
        rw [hstep]
        split
        · simp [bestF, h1]
        · rfl
    · simp [hi, show (i : Int) < rs.length by omega, show (j : Int) < rs[i].length by omega, show ¬ (j : Int) < 16 by omega]
      exact hq b H [(9, iv j), (31, bv false)] (by rw [hfar h16]; rfl) hb0 hH hH0
theorem best_l2 {n0 : Nat} {w0 : World} {I0 : Nat → Prop} {Q : Exit → Sta → Prop} {rs : List (List Int)} {o : List Sc} (ho : o.length ≤ 1000) (hrs : rs.length ≤ 1000000) (hr : ∀ r, r ∈ rs → r.length ≤ 1000000) : ∀ (m i : Nat) (b : Sc) (H : Hp), rs.length = i + m → 0 ≤ b.n → H [1] = ⟨1, .cells (prC b)⟩ → H [0] = ⟨1, .cells [iv 0, iv 0]⟩ →
    (∀ (b' : Sc) (H' : Hp) (st : List (Nat × A)), b' = bestF o b (candS i (rs.drop i)) → H' [1] = ⟨1, .cells (prC b')⟩ → H' [0] = ⟨1, .cells [iv 0, iv 0]⟩ → Q (.exit 0) ⟨lk ([(0, ivss rs), (1, prs o), (4, .pob [0] 1 0), (6, .pob [1] 1 0), (7, iv b'.n)] ++ st), H'⟩) →
    LoopC (cx Try.prog w0 I0 n0) l2_centoref19_best Q ⟨lk [(0, ivss rs), (1, prs o), (4, .pob [0] 1 0), (6, .pob [1] 1 0), (7, iv b.n), (8, iv i)], H⟩ := by
  intro m
  induction m with
  | zero =>
    intro i b H hm hb0 hH hH0 hq
    refine loopC_once mixed l2_centoref19_best.eq_1 ?_
    have : ¬ (i : Int) < rs.length := by omega
    have hd : rs.drop i = [] := List.drop_eq_nil_of_le (by omega)
    rw [hd] at hq
    simp [this]
    exact hq b H [(8, iv i), (18, bv false)] rfl hH hH0
  | succ m ih =>
    intro i b H hm hb0 hH hH0 hq
    have hi : i < rs.length := by omega
    have hd : rs.drop i = rs[i] :: rs.drop (i + 1) := (List.getElem_cons_drop hi).symm
    have e1 : IntKind.i64.wrap ((i : Int) + 1) = ((i + 1 : Nat) : Int) := by rw [i64_same (by omega) (by omega)]; omega
    refine loopC_once mixed l2_centoref19_best.eq_1 ?_
    by_cases h16 : i < 16
    · simp [show (i : Int) < rs.length by omega, show (i : Int) < 16 by omega]
      refine LoopC.le (le_list [(0, ivss rs), (1, prs o), (4, .pob [0] 1 0), (6, .pob [1] 1 0), (7, iv b.n), (8, iv i), (9, iv (0 : Nat))] (by simp)) ?_
      refine best_l1 ho hi h16 (hr _ (List.getElem_mem hi)) rs[i].length 0 b H (by omega) hb0 hH hH0 fun b' H' st hb' hn' q1 q0 => ?_
      simp [e1]
      refine ih (i + 1) b' H' (by omega) hn' q1 q0 fun b2 H2 st2 hb2 r1 r0 => hq b2 H2 st2 ?_ r1 r0
      rw [hb2, hb', hd, candS, bestF, bestF, bestF, List.foldl_append, List.drop_zero]
    · have hz : candS i (rs.drop i) = [] := List.eq_nil_of_length_eq_zero (by have := candS_len (rs := rs.drop i) (i := i); rw [show 16 - i = 0 by omega] at this; omega)
      simp [show (i : Int) < rs.length by omega, show ¬ (i : Int) < 16 by omega]
      exact hq b H [(8, iv i), (18, bv false)] (by rw [hz]; rfl) hH hH0
theorem best_spec (rs : List (List Int)) (o : List Sc) (hl : o.length ≤ 1000) (hrs : rs.length ≤ 1000000) (hr : ∀ r, r ∈ rs → r.length ≤ 1000000) : G.Spec Try.prog 27 [ivss rs, prs o] (.tup [prA (bestF o sc0 (candS 0 rs)), iv (bestF o sc0 (candS 0 rs)).n]) := by
  refine spec_of t_centoref19_best (by simp) fun w0 I0 => ?_
  unfold c_centoref19_best
  simp
  refine LoopC.le (le_list [(0, ivss rs), (1, prs o), (4, .pob [0] 1 0), (6, .pob [1] 1 0), (7, iv sc0.n), (8, iv (0 : Nat))] (by simp [sc0])) ?_
  refine best_l2 hl hrs hr rs.length 0 sc0 _ (by omega) (by simp [sc0]) (by simp [updF_app, prC, sc0]) (by simp [updF_app]) fun b' H' st hb' q1 q0 => ?_
  rw [List.drop_zero] at hb'
  rw [← hb']
  simp [q1, q0, updF_app, prC]
  exact frz_bare rfl
end Go.Proofs.Ytmeldaflhkiopaa

/-
  Plain: picks by the definition, in order; what the law says of them.
-/
namespace Go.PL
set_option linter.unusedVariables false
set_option linter.unusedSimpArgs false
open List
/-- Where a pair is put. -/
def atI (x : Sc) : List Sc → Nat
  | [] => 0
  | y :: l => if y.i < x.i then atI x l + 1 else 0
theorem atI_le (x : Sc) : ∀ l, atI x l ≤ l.length
  | [] => by simp [atI]
  | y :: l => by
    have := atI_le x l
    unfold atI
    split <;> simp <;> omega
theorem insI_at (x : Sc) : ∀ l, insI x l = l.take (atI x l) ++ x :: l.drop (atI x l)
  | [] => by simp [insI, atI]
  | y :: l => by
    unfold insI atI
    split
    · simp [insI_at x l]
    · simp
theorem srtI_snoc (o : List Sc) (x : Sc) : srtI (o ++ [x]) = insI x (srtI o) := by simp [srtI]
theorem free_perm {a b : List Sc} (h : a ~ b) (x : Sc) : freeB a x = freeB b x := by
  unfold freeB
  rw [Bool.eq_iff_iff, List.all_eq_true, List.all_eq_true]
  exact ⟨fun k y hy => k y (h.symm.subset hy), fun k y hy => k y (h.subset hy)⟩
theorem bestF_perm {a b : List Sc} (h : a ~ b) : ∀ (l : List Sc) (s : Sc), bestF a s l = bestF b s l
  | [], s => rfl
  | y :: l, s => by
    have := bestF_perm h l
    unfold bestF at this ⊢
    simp only [List.foldl_cons, free_perm h, this]
theorem picks_le {all o o' : List Sc} (h : Picks all o o') : o <+: o' := by
  induction h with
  | done h => exact List.prefix_rfl
  | step hx hp ih => exact (List.prefix_append _ _).trans ih
/-- The best one of all is picked. -/
theorem picks_most {all o' : List Sc} (h : Picks all [] o') : ∀ y, y ∈ all → ∃ x, x ∈ o' ∧ y.n ≤ x.n := by
  intro y hy
  cases h with
  | done h => have := h y hy; simp [freeB] at this
  | @step _ x _ hx hp =>
    refine ⟨x, (picks_le hp).subset (by simp), ?_⟩
    have := hx.2.2 y hy (by simp [freeB])
    unfold aheadB at this
    simp at this
    omega
/-- What is picked rises in both numbers. -/
theorem srt_both {o : List Sc} (h : Apart19 o) {k : Nat} (hk : k + 1 < (srtI o).length) : (srtI o)[k].i < (srtI o)[k + 1].i ∧ (srtI o)[k].j < (srtI o)[k + 1].j := by
  obtain ⟨h1, h2⟩ := srt_ok h
  have hi := (List.pairwise_iff_getElem.1 h1) k (k + 1) (by omega) hk (by omega)
  have hap : Apart19 (srtI o) := by
    unfold Apart19 at h ⊢
    exact (h2.pairwise_iff (fun {a b} hab => by rw [par_symm]; exact hab)).2 h
  have := (List.pairwise_iff_getElem.1 hap) k (k + 1) (by omega) hk (by omega)
  refine ⟨hi, ?_⟩
  unfold par at this
  simp at this
  omega
theorem candR_has {i : Nat} (hi : i < 16) : ∀ {r : List Int} {j k : Nat} (hk : k < r.length), j + k < 16 → 0 < r[k] → ⟨i, j + k, r[k]⟩ ∈ candR i j r
  | n :: r, j, 0, _, h, hp => by
    unfold candR
    simp at hp h
    rw [if_pos ⟨hp, hi, by omega⟩]
    simp
  | n :: r, j, k + 1, hk, h, hp => by
    have := candR_has hi (r := r) (j := j + 1) (k := k) (by simpa using hk) (by omega) (by simpa using hp)
    unfold candR
    have e : j + 1 + k = j + (k + 1) := by omega
    rw [e] at this
    split
    · exact List.mem_cons_of_mem _ this
    · exact this
theorem candS_has : ∀ {rs : List (List Int)} {i k j : Nat} (hk : k < rs.length) (hj : j < rs[k].length), i + k < 16 → j < 16 → 0 < rs[k][j] → ⟨i + k, j, rs[k][j]⟩ ∈ candS i rs
  | r :: rs, i, 0, j, _, hj, h1, h2, hp => by
    unfold candS
    have := candR_has (i := i) (by omega) (r := r) (j := 0) (k := j) hj (by omega) hp
    simp at this
    simp [this]
  | r :: rs, i, k + 1, j, hk, hj, h1, h2, hp => by
    have := candS_has (rs := rs) (i := i + 1) (k := k) (j := j) (by simpa using hk) (by simpa using hj) (by omega) h2 (by simpa using hp)
    have e : i + 1 + k = i + (k + 1) := by omega
    rw [e] at this
    unfold candS
    simp at this ⊢
    exact .inr this
end Go.PL

/-
  centoref19.Pick.
-/
namespace Go.Proofs.Ytmeldaflhkiopaa
set_option linter.unusedVariables false
set_option linter.unusedSimpArgs false
open Go Go.G Go.Proofs Go.PL
theorem le_soft19 {c : Cx} {s : Nat → A} {H : Hp} (t : Nat) : Le c ⟨s, H⟩ ⟨upd s t (A.soft (s t)), H⟩ := fun a w I μ hs =>
  ⟨I, μ, hs.sim, hs.size, hs.defers, fun k => by
    show Rel w I μ (upd s t (A.soft (s t)) k) _
    unfold upd
    split
    · rename_i e
      subst e
      exact (hs.rel _).soft
    · exact hs.rel k⟩
theorem rpk_l1 {n0 : Nat} {w0 : World} {I0 : Nat → Prop} {Q : Exit → Sta → Prop} {X : A} {l : List Sc} {x : Sc} {k u : Nat} {H : Hp} (hl : l.length ≤ 1000) (hH : H [0] = ⟨u, .cells (prC x)⟩) (hq : ∀ st, Q (.exit 2) ⟨lk ([(0, X), (3, prs l), (4, iv k), (5, .pob [0] u 0), (7, .sl true []), (8, iv (atI x l))] ++ st), H⟩) : ∀ (m i : Nat), i + m = l.length → i + atI x (l.drop i) = atI x l →
    LoopC (cx Try.prog w0 I0 n0) l1_centoref19_Pick Q ⟨lk [(0, X), (3, prs l), (4, iv k), (5, .pob [0] u 0), (7, .sl true []), (8, iv i)], H⟩ := by
  intro m
  induction m with
  | zero =>
    intro i hm hf
    refine loopC_once mixed l1_centoref19_Pick.eq_1 ?_
    have : ¬ (i : Int) < l.length := by omega
    rw [List.drop_eq_nil_of_le (by omega)] at hf
    have : i = atI x l := by rw [← hf]; rfl
    simp [show ¬ (i : Int) < l.length by omega]
    rw [this]
    exact hq [(35, bv false)]
  | succ m ih =>
    intro i hm hf
    have hi : i < l.length := by omega
    have e1 : IntKind.i64.wrap ((i : Int) + 1) = ((i + 1 : Nat) : Int) := by rw [i64_same (by omega) (by omega)]; omega
    have hd : l.drop i = l[i] :: l.drop (i + 1) := (List.getElem_cons_drop hi).symm
    rw [hd, atI] at hf
    refine loopC_once mixed l1_centoref19_Pick.eq_1 ?_
    by_cases h1 : l[i].i < x.i
    · rw [if_pos h1] at hf
      simp [hi, hH, prA, prC, h1, e1]
      exact ih (i + 1) (by omega) (by omega)
    · rw [if_neg h1] at hf
      have : i = atI x l := by rw [← hf]; rfl
      simp [hi, hH, prA, prC, h1, e1]
      rw [this]
      exact hq [(35, bv false)]
theorem rpk_l2 {n0 : Nat} {w0 : World} {I0 : Nat → Prop} {rs : List (List Int)} (hrs : rs.length ≤ 1000000) (hr : ∀ r, r ∈ rs → r.length ≤ 1000000) {Q : Exit → Sta → Prop} {o o' : List Sc} (h : Picks (candS 0 rs) o o') (hl : o'.length ≤ 16) (ha : Apart19 o) (hq : ∀ H, Q .ret ⟨lk [(2, prs (srtI o'))], H⟩) : ∀ (H : Hp),
    LoopC (cx Try.prog w0 I0 n0) l2_centoref19_Pick Q ⟨lk [(0, ivss rs), (3, prs (srtI o)), (4, iv o.length)], H⟩ := by
  induction h with
  | @done o h =>
    intro H
    have hsl : (srtI o).length = o.length := (srt_ok ha).2.length_eq
    have hB := best_spec rs (srtI o) (by omega) hrs hr
    refine loopC_once mixed l2_centoref19_Pick.eq_1 ?_
    simp [show (o.length : Int) < 17 by omega]
    refine sc_call hB rfl ?_
    have hb : bestF (srtI o) sc0 (candS 0 rs) = sc0 := by
      rw [bestF_perm (srt_ok ha).2]
      rcases best_found (rs := rs) (o := o) with ⟨h, _⟩ | h'
      · exact h
      · have := h _ h'.1; rw [h'.2.1] at this; cases this
    rw [hb]
    simp [sc0, prA, prC]
    exact hq _
  | @step o x o' hx hp ih =>
    intro H
    have hol := (picks_le hp).length_le
    simp at hol
    have hsl : (srtI o).length = o.length := (srt_ok ha).2.length_eq
    have hB := best_spec rs (srtI o) (by omega) hrs hr
    refine loopC_once mixed l2_centoref19_Pick.eq_1 ?_
    simp [show (o.length : Int) < 17 by omega]
    refine sc_call hB rfl ?_
    have hb : bestF (srtI o) sc0 (candS 0 rs) = x := by
      rw [bestF_perm (srt_ok ha).2]
      rcases best_found (rs := rs) (o := o) with ⟨_, h⟩ | h
      · have := h x hx.1; rw [hx.2.1] at this; cases this
      · exact best_one h hx
    have hn := (candS_mem hx.1).2.2.2.1
    rw [hb]
    simp [show ¬ x.n = 0 by omega]
    refine rpk_l1 (x := x) (u := (H [0]).u + 1) (by omega) (by simp [updF_app]) (fun st => ?_) (srtI o).length 0 (by omega) (by simp)
    have hat := atI_le x (srtI o)
    simp [updF_app, hat]
    have f1 : List.take (atI x (srtI o)) (List.map prA (srtI o)) = List.map prA ((srtI o).take (atI x (srtI o))) := by simp
    have f2 : List.take ((srtI o).length - atI x (srtI o)) (List.drop (atI x (srtI o)) (List.map prA (srtI o))) = List.map prA ((srtI o).drop (atI x (srtI o))) := by
      rw [List.take_of_length_le (by simp)]; simp
    have f3 : srtI (o ++ [x]) = (srtI o).take (atI x (srtI o)) ++ x :: (srtI o).drop (atI x (srtI o)) := by rw [srtI_snoc, insI_at]
    have f4 : ((srtI o).take (atI x (srtI o))).length + ((srtI o).drop (atI x (srtI o))).length ≤ 16 := by simp; omega
    rw [f1, f2]
    generalize (srtI o).take (atI x (srtI o)) = A1 at f3 f4
    generalize (srtI o).drop (atI x (srtI o)) = A2 at f3 f4
    have e1 : IntKind.i64.wrap ((o.length : Int) + 1) = (((o ++ [x]).length : Nat) : Int) := by rw [i64_same (by omega) (by omega)]; simp
    rw [e1]
    have d3 : prC x = [iv x.i, iv x.j] := rfl
    simp [lens_pr, updF_app, d3]
    refine ⟨by omega, by omega, by omega, ?_⟩
    refine LoopC.le (le_freezeD (d := [1]) (fun _ h => h) 3 (prs (srtI (o ++ [x]))) fun H1 h1 => ?_) ?_
    · rw [f3]
      refine frz_row (u := (H [1]).u + 1 + 1 + 1) (sz := 2) ?_ (by simp; omega) (fun x => rfl)
      rw [h1]
      simp [updF_app]
      rw [List.take_of_length_le (by simp)]
      rw [List.take_of_length_le (by simp)]
      simp
      rfl
    · refine LoopC.le (le_list [(0, ivss rs), (3, prs (srtI (o ++ [x]))), (4, iv (o ++ [x]).length)] (by simp)) ?_
      exact ih hl (apart_snoc ha hx.2.1) hq _
theorem rpk_spec (rs : List (List Int)) (hrs : rs.length ≤ 1000000) (hr : ∀ r, r ∈ rs → r.length ≤ 1000000) {o' : List Sc} (ho : Picks (candS 0 rs) [] o') (hl16 : o'.length ≤ 16) : G.Spec Try.prog 10 [ivss rs] (prs (srtI o')) := by
  refine spec_of t_centoref19_Pick (by simp) fun w0 I0 => ?_
  unfold c_centoref19_Pick
  simp
  refine LoopC.le (le_soft19 3) ?_
  refine LoopC.le (le_list [(0, ivss rs), (3, prs (srtI [])), (4, iv (([] : List Sc).length : Nat))] (by simp [A.soft, A.softL, srtI])) ?_
  refine rpk_l2 hrs hr ho hl16 (by simp [Apart19]) (fun H => ?_) _
  simp
  exact frz_bare rfl
end Go.Proofs.Ytmeldaflhkiopaa

/-
  Chapter 6's functions: arenas that are only read.
-/
namespace Go.Proofs.Ytmeldaflhkiopaa
set_option linter.unusedVariables false
set_option linter.unusedSimpArgs false
open Go Go.G Go.Proofs
abbrev ws (l : List Int) : A := .sl false (l.map uv)
abbrev sgs (l : List (List Int)) : A := .sl false (l.map ws)
@[simp] theorem lens_ws (l : List (List Int)) : lens 1 (l.map ws) = true := by simp [lens]
/-- An arena that is only read. -/
abbrev arX (l : List (List Int)) (z m u : Int) : A := .pim [sgs l, iv z, iv m, iv u]
abbrev arn (l : List (List Int)) : A := arX l 0 0 0
/-- A segment; its length. -/
def seg (l : List (List Int)) (s : Int) : Option (List Int) := if 0 ≤ s then l[s.toNat]? else none
def szAt (l : List (List Int)) (s : Int) : Nat := ((seg l s).map List.length).getD 0
/-- Are so many words, from one on, in a segment? -/
def hasW (l : List (List Int)) (s a n : Int) : Bool := decide (0 ≤ s ∧ s < l.length ∧ 0 ≤ a ∧ 0 ≤ n ∧ a + n ≤ szAt l s)
/-- A word. -/
def word (l : List (List Int)) (s a : Int) : Option Int := if 0 ≤ a then (seg l s).bind fun g => g[a.toNat]? else none
/-- Words. -/
def part (l : List (List Int)) (s a n : Int) : List Int := (((seg l s).getD []).drop a.toNat).take n.toNat
end Go.Proofs.Ytmeldaflhkiopaa

/-
  Chapter 6: far pointers are followed, by the program and by the document.
-/
namespace Go.Proofs.Ytmeldaflhkiopaa
set_option linter.unusedVariables false
set_option linter.unusedSimpArgs false
open Go Go.G Go.Proofs
/-- How many bits each kid has. -/
def bitsOf (c : Int) : Int := if c = 0 then 0 else if c = 1 then 1 else if c = 2 then 8 else if c = 3 then 16 else if c = 4 then 32 else 64
/-- How many words what is pointed to takes. -/
def wordsP (p : Pt) : Option Int :=
  if p.kind = 1 then some (p.data + p.ptrs)
  else if p.kind = 2 ∧ p.code = 7 then some (p.count + 1)
  else if p.kind = 2 ∧ 0 ≤ p.code ∧ p.code ≤ 6 ∧ 0 ≤ p.count ∧ p.count ≤ 536870911 then some ((p.count * bitsOf p.code + 63) / 64)
  else none
/-- What a pointer points to. -/
structure Lc where
  p : Pt
  s : Int
  at_ : Int
deriving DecidableEq
def Pt.l (p : Pt) : List A := [iv p.kind, iv p.off, iv p.data, iv p.ptrs, iv p.code, iv p.count, iv p.seg, bv p.dbl]
@[simp] theorem Pt.l_eq (p : Pt) : p.l = [iv p.kind, iv p.off, iv p.data, iv p.ptrs, iv p.code, iv p.count, iv p.seg, bv p.dbl] := rfl
def Pt.zero : Pt := ⟨0, 0, 0, 0, 0, 0, 0, false⟩
def Lc.zero : Lc := ⟨Pt.zero, 0, 0⟩
abbrev Lc.a (x : Lc) : A := .agg [iv x.p.kind, iv x.p.off, iv x.p.data, iv x.p.ptrs, iv x.p.code, iv x.p.count, iv x.p.seg, bv x.p.dbl, iv x.s, iv x.at_]
/-- All of it in its segment? -/
def insideP (l : List (List Int)) (x : Lc) : Lc × Int := if hasW l x.s x.at_ ((wordsP x.p).getD 0) = true then (⟨{ x.p with off := 0 }, x.s, x.at_⟩, 0) else (Lc.zero, 7)
def nearP (l : List (List Int)) (p : Pt) (s a : Int) : Lc × Int :=
  if p.kind = 1 ∨ p.kind = 2 then insideP l ⟨p, s, a + 1 + p.off⟩ else if p.kind = 4 then (Lc.zero, 9) else (Lc.zero, 8)
/-- All of it are words. -/
def Wds (l : List (List Int)) : Prop := ∀ x, x ∈ l → ∀ y, y ∈ x → 0 ≤ y ∧ y < 18446744073709551616
/-- Two words: a far pointer to what is meant, and its shape. -/
def doubleP (l : List (List Int)) (s a : Int) : Lc × Int :=
  match word l s a, word l s (a + 1) with
  | some v, some w =>
    if (dec v).kind ≠ 3 ∨ (dec v).dbl = true then (Lc.zero, 8)
    else if (dec w).kind = 4 then (Lc.zero, 9)
    else if ((dec w).kind ≠ 1 ∧ (dec w).kind ≠ 2) ∨ (dec w).off ≠ 0 then (Lc.zero, 8)
    else insideP l ⟨dec w, (dec v).seg, (dec v).off⟩
  | _, _ => (Lc.zero, 7)
/-- What the pointer points to that stands in a word. -/
def followP (l : List (List Int)) (s a : Int) : Lc × Int :=
  match word l s a with
  | none => (Lc.zero, 7)
  | some w =>
    if (dec w).kind = 0 then (Lc.zero, 0)
    else if (dec w).kind ≠ 3 then nearP l (dec w) s a
    else if (dec w).dbl = true then doubleP l (dec w).seg (dec w).off
    else match word l (dec w).seg (dec w).off with
      | none => (Lc.zero, 7)
      | some v => nearP l (dec v) (dec w).seg (dec w).off
end Go.Proofs.Ytmeldaflhkiopaa

/-
  Chapters 9 and 10, plain: values where they lie, and what they mean.
-/
namespace Go.Proofs.Ytmeldaflhkiopaa
set_option linter.unusedVariables false
set_option linter.unusedSimpArgs false
open Go Go.G Go.Proofs Go.PL
/-- A value where it lies. -/
structure Rf where
  kind : Int
  s : Int
  at_ : Int
  data : Int
  kids : Int
  count : Int
  n : Int
def Rf.zero : Rf := ⟨0, 0, 0, 0, 0, 0, 0⟩
def nk (r : Rf) : Int := if r.kind = 1 then r.kids else r.count
def compP (l : List (List Int)) (s a m : Int) : Rf × Int :=
  if ((word l s a).getD 0 ≠ 0 ∧ (dec ((word l s a).getD 0)).kind ≠ 1) ∨ (dec ((word l s a).getD 0)).off < 0 ∨ m < (dec ((word l s a).getD 0)).off * ((dec ((word l s a).getD 0)).data + (dec ((word l s a).getD 0)).ptrs) then (Rf.zero, 8)
  else (⟨9, s, a + 1, (dec ((word l s a).getD 0)).data, (dec ((word l s a).getD 0)).ptrs, (dec ((word l s a).getD 0)).off, 0⟩, 0)
/-- What a shape at a place is. -/
def refP (l : List (List Int)) (x : Lc) : Rf × Int :=
  if x.p.kind = 1 then (⟨1, x.s, x.at_, x.p.data, x.p.ptrs, 0, 0⟩, 0)
  else if x.p.code < 7 then (⟨2 + x.p.code, x.s, x.at_, 0, 0, x.p.count, 0⟩, 0)
  else compP l x.s x.at_ x.p.count
def atP (l : List (List Int)) (s a : Int) : Rf × Int :=
  if (followP l s a).2 ≠ 0 ∨ (followP l s a).1.p.kind = 0 then (Rf.zero, (followP l s a).2) else refP l (followP l s a).1
def getZ (g : List Int) (c i : Int) : Int :=
  if widthZ c < 1 ∨ i < 0 ∨ 1099511627776 < i then 0 else ((g[(i * widthZ c / 64).toNat]?).getD 0) / 2 ^ (i * widthZ c % 64).toNat % 2 ^ (widthZ c).toNat
def atomZ (l : List (List Int)) (r : Rf) (i : Int) : Int := getZ (((seg l r.s).getD []).drop r.at_.toNat) (r.kind - 2) i
def kidP (l : List (List Int)) (r : Rf) (i : Int) : Rf × Int :=
  if i < 0 ∨ nk r ≤ i then (Rf.zero, 0)
  else if r.kind = 1 then atP l r.s (r.at_ + r.data + i)
  else if r.kind = 8 then atP l r.s (r.at_ + i)
  else if r.kind = 9 then (⟨1, r.s, r.at_ + i * (r.data + r.kids), r.data, r.kids, 0, 0⟩, 0)
  else (⟨10, 0, 0, 0, 0, 0, atomZ l r i⟩, 0)
def wordsR (l : List (List Int)) (r : Rf) : List Int := if r.kind = 10 then [r.n] else if r.kind ≠ 1 then [] else part l r.s r.at_ r.data
/-- It lies in its segment. -/
inductive RfOk (l : List (List Int)) : Rf → Prop
  | zero : RfOk l Rf.zero
  | str (s a d k : Int) : 0 ≤ d → d < 65536 → 0 ≤ k → k < 65536 → hasW l s a (d + k) = true → RfOk l ⟨1, s, a, d, k, 0, 0⟩
  | dat (c s a n : Int) : 0 ≤ c → c < 6 → 0 ≤ n → n < 536870912 → hasW l s a ((n * bitsOf c + 63) / 64) = true → RfOk l ⟨2 + c, s, a, 0, 0, n, 0⟩
  | ptrs (s a n : Int) : 0 ≤ n → n < 536870912 → hasW l s a n = true → RfOk l ⟨8, s, a, 0, 0, n, 0⟩
  | comp (s a d k n : Int) : 0 ≤ d → d < 65536 → 0 ≤ k → k < 65536 → 0 ≤ n → n < 536870912 → hasW l s a (n * (d + k)) = true → RfOk l ⟨9, s, a, d, k, n, 0⟩
  | atom (n : Int) : 0 ≤ n → n < 18446744073709551616 → RfOk l ⟨10, 0, 0, 0, 0, 0, n⟩
/-! ### what is followed lies in its segment -/
/-! ### what it means -/
inductive Means (l : List (List Int)) : Rf → T → Prop
  | mk (r : Rf) (t : T) : RfOk l r → r.kind = t.kind → wordsR l r = t.words → nk r = t.kids.length → (∀ (i : Nat) (h : i < t.kids.length), (kidP l r i).2 = 0) → (∀ (i : Nat) (h : i < t.kids.length), Means l (kidP l r i).1 t.kids[i]) → Means l r t
end Go.Proofs.Ytmeldaflhkiopaa

/-
  The document's words: bytes, masks, small numbers.
-/
namespace Go.Proofs.Ytmeldaflhkiopaa
set_option linter.unusedVariables false
set_option linter.unusedSimpArgs false
open Go Go.G Go.Proofs Go.PL
section
variable {n0 : Nat} {w0 : World} {I0 : Nat → Prop} {Q : Exit → Sta → Prop} {H : Hp}
end
section
variable {n0 : Nat} {w0 : World} {I0 : Nat → Prop} {Q : Exit → Sta → Prop} {H : Hp}
theorem rSame_l1 {a b : List Int} (hl : a.length = b.length) (hb : a.length * 8 ≤ 140737488355328) : ∀ (m i : Nat), i + m = a.length → a.take i = b.take i → (a = b → ∀ i q, Q (.exit 0) ⟨lk [(0, uws a), (1, uws b), (5, iv i), (14, bv q)], H⟩) → (a ≠ b → Q .ret ⟨lk [(4, bv false)], H⟩) →
    LoopC (cx Try.prog w0 I0 n0) l1_centoref01_Same Q ⟨lk [(0, uws a), (1, uws b), (5, iv i)], H⟩ := by
  intro m
  induction m with
  | zero =>
    intro i hi ht h1 h2
    have : i = a.length := by omega
    subst this
    refine loopC_once mixed l1_centoref01_Same.eq_1 ?_
    simp
    refine h1 ?_ _ _
    rw [List.take_of_length_le (Nat.le_refl _), List.take_of_length_le (by omega)] at ht
    exact ht
  | succ m ih =>
    intro i hi ht h1 h2
    have hlt : i < a.length := by omega
    have hlt' : i < b.length := by omega
    refine loopC_once mixed l1_centoref01_Same.eq_1 ?_
    simp [hlt, hlt']
    refine ⟨fun he => ?_, fun hne => h2 fun e => hne (by subst e; rfl)⟩
    rw [i64_same (by omega) (by omega)]
    refine ih (i + 1) (by omega) ?_ h1 h2
    rw [List.take_succ_eq_append_getElem hlt, List.take_succ_eq_append_getElem hlt', ht, he]
end
theorem rSame_spec (a b : List Int) (hb : a.length * 8 ≤ 140737488355328) : G.Spec Try.prog 66 [uws a, uws b] (bv (decide (a = b))) := by
  refine spec_of t_centoref01_Same (by simp) fun w0 I0 => ?_
  unfold c_centoref01_Same
  simp
  refine ⟨fun h => ?_, fun h => ?_⟩
  · refine rSame_l1 (by omega) hb a.length 0 (by omega) rfl (fun e i q => ?_) (fun e => ?_)
    · simp
      refine frz_bool ?_
      simp [e]
    · simp
      refine frz_bool ?_
      simp [e]
  · refine frz_bool ?_
    have : ¬ a = b := fun e => h (by rw [e])
    simp [this]
/-! ### the program's widths -/
/-! ### without noughts at the end -/
section
variable {n0 : Nat} {w0 : World} {I0 : Nat → Prop} {Q : Exit → Sta → Prop} {H : Hp}
theorem rTrim_l1 {w : List Int} (hb : w.length * 8 ≤ 140737488355328) (hq : ∀ q, Q (.exit 0) ⟨lk [(0, uws w), (3, iv (trimW w).length), (16, bv q)], H⟩) : ∀ (n : Nat), n ≤ w.length → trimW (w.take n) = trimW w →
    LoopC (cx Try.prog w0 I0 n0) l1_centoref07_Trim Q ⟨lk [(0, uws w), (3, iv n)], H⟩ := by
  intro n
  induction n with
  | zero =>
    intro hn ht
    refine loopC_once mixed l1_centoref07_Trim.eq_1 ?_
    simp
    have e : (trimW w).length = 0 := by rw [← ht]; rfl
    have := hq false
    rw [e] at this
    exact this
  | succ n ih =>
    intro hn ht
    have hlt : n < w.length := by omega
    have e : IntKind.i64.wrap (n : Int) = n := i64_same (by omega) (by omega)
    refine loopC_once mixed l1_centoref07_Trim.eq_1 ?_
    by_cases h0 : w[n] = 0
    · simp [e, hlt, h0]
      exact ih (by omega) (by rw [← trimW_zero hlt h0]; exact ht)
    · have e2 : (trimW w).length = n + 1 := by rw [← ht, trimW_stop hlt h0]; simp; omega
      have := hq false
      rw [e2] at this
      simp [e, hlt, h0]
      simpa using this
end
theorem rTrim_spec (w : List Int) (hb : w.length * 8 ≤ 140737488355328) : G.Spec Try.prog 67 [uws w] (uws (trimW w)) := by
  refine spec_of t_centoref07_Trim (by simp) fun w0 I0 => ?_
  unfold c_centoref07_Trim
  simp
  refine rTrim_l1 hb (fun q => ?_) w.length (Nat.le_refl _) (by rw [List.take_of_length_le (Nat.le_refl _)])
  have hl := trimW_le w
  have hb' : (trimW w).length * 8 ≤ 140737488355328 := by omega
  simp [hl]
  refine ⟨hb', ?_⟩
  rw [← List.map_take, ← trimW_take]
  exact frz_row (by simp) rfl (by simp)
/-! ### bytes -/
section
variable {n0 : Nat} {w0 : World} {I0 : Nat → Prop} {Q : Exit → Sta → Prop}
end
section
variable {n0 : Nat} {w0 : World} {I0 : Nat → Prop} {Q : Exit → Sta → Prop} {H : Hp}
end
section
variable {n0 : Nat} {w0 : World} {I0 : Nat → Prop} {Q : Exit → Sta → Prop} {H : Hp}
end
section
variable {n0 : Nat} {w0 : World} {I0 : Nat → Prop} {Q : Exit → Sta → Prop}
end
end Go.Proofs.Ytmeldaflhkiopaa

/-
  Trees and edits as arguments, whatever the room of their slices; operations under a guard.
-/
namespace Go.Proofs.Ytmeldaflhkiopaa
set_option linter.unusedVariables false
set_option linter.unusedSimpArgs false
open Go Go.G Go.Proofs Go.PL
@[simp] theorem GtG_shift {q : Bool} {n : Nat} {y : A} {K : A → Prop} : GtG q (A.shift n (gd q y)) K = GtG q (A.shift n y) K := GtG_same fun h => by rw [h]; rfl
/-! ### slices of any room -/
end Go.Proofs.Ytmeldaflhkiopaa

/-
  Chapter 9: values are read where they lie, by the program.
-/
namespace Go.Proofs.Ytmeldaflhkiopaa
set_option linter.unusedVariables false
set_option linter.unusedSimpArgs false
open Go Go.G Go.Proofs Go.PL
/-- Segments that memory can hold. -/
structure Sg (l : List (List Int)) : Prop where
  b : ∀ x, x ∈ l → x.length * 8 ≤ 140737488355328
  w : Wds l
def arO (l : List (List Int)) (r : Rf) : A := if r.kind = 0 then .v (.pointer none) else arn l
@[simp] theorem arO_cells (l : List (List Int)) (r : Rf) : (arO l r).cells = [arO l r] := by unfold arO; split <;> rfl
@[simp] theorem arO_one (l : List (List Int)) (r : Rf) : (arO l r).one = true := by unfold arO; split <;> rfl
@[simp] theorem arO_bare (l : List (List Int)) (r : Rf) : (arO l r).bare = true := by unfold arO; split <;> rfl
@[simp] theorem arO_bare1 (l : List (List Int)) (r : Rf) : (arO l r).bare1 = true := by unfold arO; split <;> rfl
@[simp] theorem arO_bare2 (l : List (List Int)) (r : Rf) : (arO l r).bare2 = true := by unfold arO; split <;> rfl
abbrev paL (l : List (List Int)) (r : Rf) : List A := [arO l r, iv r.kind, iv r.s, iv r.at_, iv r.data, iv r.kids, iv r.count, uv r.n]
/-! ### small numbers -/
/-! ### a value -/
end Go.Proofs.Ytmeldaflhkiopaa

/-
  Chapter 29: words and kids of trees; what a value means is made.
-/
namespace Go.Proofs.Ytmeldaflhkiopaa
set_option linter.unusedVariables false
set_option linter.unusedSimpArgs false
open Go Go.G Go.Proofs Go.PL
theorem treeWord_spec (t : T) (i : Nat) : G.Spec Try.prog 46 [tX t, iv i] (uv (t.words.getD i 0)) := by
  refine spec_of t_tree_Word (by simp) fun w0 I0 => ?_
  unfold c_tree_Word
  have hn : ¬ (i : Int) < 0 := by omega
  by_cases h : i < t.words.length
  · have h2 : ¬ t.words.length ≤ i := by omega
    simp [h, hn, h2]
    exact frz_is rfl (by simp [h])
  · have h2 : t.words.length ≤ i := by omega
    simp [h, hn, h2]
    exact frz_is rfl (by simp [List.getElem?_eq_none (Nat.le_of_not_lt h)])
theorem treeKid_spec (t : T) (i : Nat) : G.Spec Try.prog 47 [tX t, iv i] (tX (t.kids.getD i T0)) := by
  refine spec_of t_tree_Kid (by simp) fun w0 I0 => ?_
  unfold c_tree_Kid
  have hn : ¬ (i : Int) < 0 := by omega
  by_cases h : i < t.kids.length
  · have h2 : ¬ t.kids.length ≤ i := by omega
    simp [h, hn, h2]
    exact frz_bare (by simp)
  · have h2 : t.kids.length ≤ i := by omega
    simp [h, hn, h2]
    exact frz_agg (by simp; exact ⟨frz_bare rfl, frz_sl, frz_sl⟩)
/-! ### what a value means, as a tree -/
section
variable {n0 : Nat} {w0 : World} {I0 : Nat → Prop} {Q : Exit → Sta → Prop}
end
end Go.Proofs.Ytmeldaflhkiopaa

/-
  The document's trees.
-/
namespace Go.Proofs.Ytmeldaflhkiopaa
set_option linter.unusedVariables false
set_option linter.unusedSimpArgs false
open Go Go.G Go.Proofs Go.PL
mutual
theorem shallow_range : ∀ (t : T) (d : Nat) (n : Int), -1 ≤ shallow d n t ∧ (-1 ≤ n → shallow d n t ≤ n)
  | .mk k w l, d, n => by
    rw [shallow_mk]
    split
    · omega
    · have := shallowL_range l (d - 1) (n - 1 - w.length) (by omega)
      omega
theorem shallowL_range : ∀ (l : List T) (d : Nat) (n : Int), -1 ≤ n → -1 ≤ shallowL d n l ∧ shallowL d n l ≤ n
  | [], d, n, h => by simp; omega
  | t :: l, d, n, h => by
    rw [shallowL_cons]
    split
    · omega
    · have h1 := shallow_range t d n
      have h2 := shallowL_range l d (shallow d n t) h1.1
      omega
end
theorem shallowL_neg (l : List T) (d : Nat) {n : Int} (h : n < 0) : shallowL d n l = n := by
  cases l with
  | nil => simp
  | cons t l => simp [h]
section
variable {n0 : Nat} {w0 : World} {I0 : Nat → Prop} {Q : Exit → Sta → Prop}
theorem shallow_l1 {t : T} {d : Nat} (hd : 1 ≤ d) (hd1 : d ≤ 1000) (hl : t.kids.length * 56 ≤ 140737488355328) (ih : ∀ c, c ∈ t.kids → ∀ (d : Nat) (n : Int), d ≤ 1000 → 0 ≤ n → n ≤ 1000000 → G.Spec Try.prog 28 [tX c, iv d, iv n] (iv (shallow d n c)))
    {H : Hp} (hH : H [0] = ⟨1, .cells [iv t.kind, uws t.words, tKs t.kids]⟩) : ∀ (m i : Nat) (n : Int), i + m = t.kids.length → -1 ≤ n → n ≤ 1000000 →
    (∀ i' q, Q (.exit 0) ⟨lk [(1, iv d), (2, iv (shallowL (d - 1) n (t.kids.drop i))), (3, .pob [0] 1 0), (7, iv i'), (28, bv q)], H⟩) →
    LoopC (cx Try.prog w0 I0 n0) l1_centoref07_Shallow Q ⟨lk [(1, iv d), (2, iv n), (3, .pob [0] 1 0), (7, iv i)], H⟩ := by
  intro m
  induction m with
  | zero =>
    intro i n hi h1 h2 hq
    have : i = t.kids.length := by omega
    subst this
    refine loopC_once mixed l1_centoref07_Shallow.eq_1 ?_
    simp [hH]
    simpa using hq _ false
  | succ m ihm =>
    intro i n hi h1 h2 hq
    have hlt : i < t.kids.length := by omega
    refine loopC_once mixed l1_centoref07_Shallow.eq_1 ?_
    have e : t.kids.drop i = t.kids[i] :: t.kids.drop (i + 1) := List.drop_eq_getElem_cons hlt
    by_cases hn : n < 0
    · simp [hH, hlt, show ¬ (0 : Int) ≤ n by omega]
      have := hq i false
      rwa [shallowL_neg _ _ hn] at this
    · have hn' : 0 ≤ n := by omega
      simp [hH, hlt, hn']
      have ed : IntKind.i64.wrap ((d : Int) - 1) = ((d - 1 : Nat) : Int) := by rw [i64_same (by omega) (by omega)]; omega
      rw [ed]
      refine sc_call (ih _ (List.getElem_mem hlt) (d - 1) n (by omega) hn' h2) rfl ?_
      simp
      have hr := shallow_range t.kids[i] (d - 1) n
      rw [i64_same (by omega) (by omega)]
      refine ihm (i + 1) _ (by omega) hr.1 (by omega) fun i' q => ?_
      have := hq i' q
      rw [e, shallowL_cons, if_neg (by omega)] at this
      exact this
end
theorem shallow_spec : ∀ (t : T), wfT t → ∀ (d : Nat) (n : Int), d ≤ 1000 → 0 ≤ n → n ≤ 1000000 → G.Spec Try.prog 28 [tX t, iv d, iv n] (iv (shallow d n t)) := by
  refine T.ind fun k w l ih hw d n hd hn hn1 => ?_
  have hw' := wfT_iff.1 hw
  have hwl := hw'.wl
  have hkl := hw'.kl
  simp at hwl hkl
  have ihc : ∀ c, c ∈ (T.mk k w l).kids → ∀ (d : Nat) (n : Int), d ≤ 1000 → 0 ≤ n → n ≤ 1000000 → G.Spec Try.prog 28 [tX c, iv d, iv n] (iv (shallow d n c)) := fun c hc => ih c hc (hw'.ks c hc)
  refine spec_of t_centoref07_Shallow (by simp) fun w0 I0 => ?_
  unfold c_centoref07_Shallow
  have e1 : IntKind.i64.wrap (IntKind.i64.wrap (n - 1) - (w.length : Int)) = n - 1 - w.length := by rw [i64_same (n := n - 1) (by omega) (by omega), i64_same (by omega) (by omega)]
  rw [shallow_mk]
  by_cases hc : d = 0 ∨ n - 1 - (w.length : Int) < 0
  · have hd : (decide (d = 0) || decide (n - 1 - (w.length : Int) < 0)) = true := by simp; omega
    simp [e1, hd, hc]
    exact frz_bare rfl
  · have hd : (decide (d = 0) || decide (n - 1 - (w.length : Int) < 0)) = false := by simp; omega
    simp [e1, hd, hc]
    refine shallow_l1 (t := .mk k w l) (by omega) (by omega) hkl ihc (by simp) l.length 0 _ (by simp) (by omega) (by omega) fun i' q => ?_
    simp
    exact frz_bare rfl
def fewT (t : T) : Bool := decide (0 ≤ shallow 80 3000 t)
theorem few_spec {t : T} (h : wfT t) : G.Spec Try.prog 11 [tX t] (bv (fewT t)) := by
  refine spec_of t_centoref07_Few (by simp) fun w0 I0 => ?_
  unfold c_centoref07_Few
  simp
  refine sc_call (shallow_spec t h 80 3000 (by omega) (by omega) (by omega)) rfl ?_
  simp
  exact frz_bare rfl
end Go.Proofs.Ytmeldaflhkiopaa

/-
  The document's trees: what they have at the most, whether they are the same, the Norm.
-/
namespace Go.Proofs.Ytmeldaflhkiopaa
set_option linter.unusedVariables false
set_option linter.unusedSimpArgs false
open Go Go.G Go.Proofs Go.PL
abbrev tL (t : T) : List A := [iv t.kind, uws t.words, tKs t.kids]
section
variable {n0 : Nat} {w0 : World} {I0 : Nat → Prop} {Q : Exit → Sta → Prop}
end
/-! ### the same -/
section
variable {n0 : Nat} {w0 : World} {I0 : Nat → Prop} {Q : Exit → Sta → Prop}
theorem same_l1 {a b : T} (hl : a.kids.length * 56 ≤ 140737488355328) (hn : a.kids.length = b.kids.length) (ih : ∀ c, c ∈ a.kids → ∀ u, G.Spec Try.prog 48 [tX c, tX u] (bv (sameB c u)))
    {H : Hp} (hA : H [0] = ⟨1, .cells (tL a)⟩) (hB : H [1] = ⟨1, .cells (tL b)⟩) : ∀ (m i : Nat), i + m = a.kids.length → a.kids.take i = b.kids.take i → (a.kids = b.kids → ∀ i' q, Q (.exit 0) ⟨lk [(2, .pob [0] 1 0), (3, .pob [1] 1 0), (5, iv i'), (32, bv q)], H⟩) → (a.kids ≠ b.kids → Q .ret ⟨lk [(4, bv false)], H⟩) →
    LoopC (cx Try.prog w0 I0 n0) l1_centoref07_Same Q ⟨lk [(2, .pob [0] 1 0), (3, .pob [1] 1 0), (5, iv i)], H⟩ := by
  intro m
  induction m with
  | zero =>
    intro i hi ht h1 h2
    have : i = a.kids.length := by omega
    subst this
    refine loopC_once mixed l1_centoref07_Same.eq_1 ?_
    simp [hA, hB]
    refine h1 ?_ _ _
    rw [List.take_of_length_le (Nat.le_refl _), List.take_of_length_le (by omega)] at ht
    exact ht
  | succ m ihm =>
    intro i hi ht h1 h2
    have hlt : i < a.kids.length := by omega
    have hlt' : i < b.kids.length := by omega
    refine loopC_once mixed l1_centoref07_Same.eq_1 ?_
    simp [hA, hB, hlt, hlt']
    refine sc_call (ih _ (List.getElem_mem hlt) b.kids[i]) rfl ?_
    simp
    cases hs : sameB a.kids[i] b.kids[i] with
    | false =>
      simp
      refine h2 fun e => ?_
      have : a.kids[i] = b.kids[i] := by simp [e]
      rw [← sameB_iff, hs] at this
      cases this
    | true =>
      simp
      rw [i64_same (by omega) (by omega)]
      refine ihm (i + 1) (by omega) ?_ h1 h2
      rw [List.take_succ_eq_append_getElem hlt, List.take_succ_eq_append_getElem hlt', ht, sameB_iff.1 hs]
end
set_option maxRecDepth 8000 in
theorem rTSame_spec : ∀ (a : T), wfT a → ∀ b : T, G.Spec Try.prog 48 [tX a, tX b] (bv (sameB a b)) := by
  refine T.ind fun k w l ih hw b => ?_
  have hw' := wfT_iff.1 hw
  have hwl := hw'.wl
  have hkl := hw'.kl
  simp at hwl hkl
  refine spec_of t_centoref07_Same (by simp) fun w0 I0 => ?_
  unfold c_centoref07_Same
  have no : (k ≠ b.kind ∨ w ≠ b.words ∨ l ≠ b.kids) → sameB (.mk k w l) b = false := fun h => by
    rw [Bool.eq_false_iff]
    intro e
    have := sameB_iff.1 e
    subst this
    simp at h
  by_cases h1 : k = b.kind
  · by_cases h2 : w = b.words
    · by_cases h3 : l.length = b.kids.length
      · simp [h1]
        refine sc_call_gf rfl (fun _ => rSame_spec w b.words hwl) (fun _ => rfl) rfl ?_
        simp [h2, h3]
        refine same_l1 (a := .mk k w l) (b := b) hkl h3 (fun c hc u => ih c hc (hw'.ks c hc) u) (by simp [h1, h2]) (by simp) l.length 0 (by simp) rfl (fun e i' q => ?_) (fun e => ?_)
        · simp
          have : sameB (.mk k w l) b = true := sameB_iff.2 (T.ext' h1 h2 e)
          rw [← h1, ← h2, this]
          exact frz_bare rfl
        · simp
          rw [← h1, ← h2, no (.inr (.inr e))]
          exact frz_bare rfl
      · simp [h1]
        refine sc_call_gf rfl (fun _ => rSame_spec w b.words hwl) (fun _ => rfl) rfl ?_
        simp [h2, h3]
        refine ⟨fun h => absurd (by omega) h3, fun _ => ?_⟩
        rw [← h1, ← h2, no (.inr (.inr fun e => h3 (by rw [e])))]
        exact frz_bare rfl
    · simp [h1]
      refine sc_call_gf rfl (fun _ => rSame_spec w b.words hwl) (fun _ => rfl) rfl ?_
      simp [h2]
      rw [← h1, no (.inr (.inl h2))]
      exact frz_bare rfl
  · simp [h1]
    refine sc_call_off rfl ?_
    simp
    rw [no (.inl h1)]
    exact frz_bare rfl
/-! ### the Norm -/
section
variable {n0 : Nat} {w0 : World} {I0 : Nat → Prop} {Q : Exit → Sta → Prop}
theorem norm_l1 {t : T} (hl : t.kids.length * 56 ≤ 140737488355328) (ih : ∀ c, c ∈ t.kids → G.Spec Try.prog 49 [tX c] (tX (norm c))) {v : VOb} : ∀ (m i : Nat) (u : Nat) (H : Hp), i + m = t.kids.length → H [0] = ⟨1, .cells (tL t)⟩ → H [1] = v → H [3] = ⟨u, .arr 3 (((t.kids.take i).map norm).map tA)⟩ →
    (∀ i' q (u' : Nat) (H' : Hp), H' [0] = ⟨1, .cells (tL t)⟩ → H' [1] = v → H' [3] = ⟨u', .arr 3 ((t.kids.map norm).map tA)⟩ → Q (.exit 0) ⟨lk [(1, .pob [0] 1 0), (2, .pob [1] 1 0), (3, .osl [3] u' 3 0 t.kids.length), (4, iv (trimK t.kids).length), (5, iv i'), (16, bv q)], H'⟩) →
    LoopC (cx Try.prog w0 I0 n0) l1_centoref07_Norm Q ⟨lk [(1, .pob [0] 1 0), (2, .pob [1] 1 0), (3, .osl [3] u 3 0 i), (4, iv (trimK (t.kids.take i)).length), (5, iv i)], H⟩ := by
  intro m
  induction m with
  | zero =>
    intro i u H hi hA hR hB hq
    have : i = t.kids.length := by omega
    subst this
    refine loopC_once mixed l1_centoref07_Norm.eq_1 ?_
    simp [hA]
    have := hq t.kids.length false u H hA hR (by rw [hB]; simp)
    simpa using this
  | succ m ihm =>
    intro i u H hi hA hR hB hq
    have hlt : i < t.kids.length := by omega
    refine loopC_once mixed l1_centoref07_Norm.eq_1 ?_
    simp [hA, hlt]
    refine sc_call (ih _ (List.getElem_mem hlt)) rfl ?_
    simp [updF_app, hB]
    have ei : IntKind.i64.wrap ((i : Int) + 1) = ((i + 1 : Nat) : Int) := i64_same (by omega) (by omega)
    have hrow := row_succ (f := tA ∘ norm) hlt (x := A.agg [iv t.kids[i].kind, uws (norm t.kids[i]).words, tKs (norm t.kids[i]).kids]) (by simp)
    rw [hrow]
    refine ⟨⟨by omega, by omega⟩, fun h => ?_, fun h => ?_⟩
    · rw [ei, ← trimK_zero hlt h]
      exact ihm (i + 1) (u + 1) _ (by omega) (by simp [updF_app, hA]) (by simp [updF_app, hR]) (by simp [updF_app]) hq
    · have ek : (trimK (t.kids.take (i + 1))).length = i + 1 := by rw [trimK_stop hlt h]; simp; omega
      rw [ei]
      have := fun H h1 h2 h3 => ihm (i + 1) (u + 1) H (by omega) h1 h2 h3 hq
      rw [ek] at this
      exact this _ (by simp [updF_app, hA]) (by simp [updF_app, hR]) (by simp [updF_app])
end
theorem rNorm_spec : ∀ (t : T), wfT t → G.Spec Try.prog 49 [tX t] (tX (norm t)) := by
  refine T.ind fun k w l ih hw => ?_
  have hw' := wfT_iff.1 hw
  have hwl := hw'.wl
  have hkl := hw'.kl
  simp at hwl hkl
  refine spec_of t_centoref07_Norm (by simp) fun w0 I0 => ?_
  unfold c_centoref07_Norm
  rw [norm_mk]
  by_cases h0 : k = 0
  · simp [h0]
    exact frz_T0
  · simp [h0]
    refine LoopC.le (le_blank 3 [3] 3 (by simp)) ?_
    simp
    refine LoopC.le (le_list [(1, .pob [0] 1 0), (2, .pob [1] 1 0), (3, .osl [3] 1 3 0 0), (4, iv 0), (5, iv 0)] (by simp [upd])) ?_
    refine norm_l1 (t := .mk k w l) (by simpa using hkl) (fun c hc => ih c hc (hw'.ks c hc)) l.length 0 1 _ (by simp) (by simp) rfl (by simp) fun i' q u' H' hA hR hB => ?_
    have hle := trimK_le l
    by_cases h1 : k = 1
    · subst h1
      simp at hA hR hB
      simp [hA, hR, hB, hle, updF_app]
      refine sc_call (rTrim_spec w hwl) rfl ?_
      simp [hA, hR, hB, hle, updF_app]
      refine frz_agg ?_
      simp
      rw [trimK_map]
      refine ⟨frz_bare rfl, frz_bare rfl, ?_⟩
      have := frz_rowT (H := updF H' [1] ⟨1, .cells [A.v (Value.int IntKind.i64 1), A.sl false (List.map uv (trimW w)), A.osl [3] u' 3 0 (trimK l).length]⟩) (o := [3]) (u := u') (sz := 3) (l := l) (f := tA ∘ norm) (by simp [updF_app, hB]) hle (by simp)
      rw [← List.map_take]
      show Frz _ _ (A.sl false (((l.take (trimK l).length).map norm).map tA))
      rw [List.map_map]
      exact this
    · simp at hA hR hB
      simp [hA, hR, hB, h1, updF_app]
      refine ⟨hwl, frz_agg ?_⟩
      simp
      refine ⟨frz_bare rfl, frz_row (by simp [updF_app]) rfl (by simp), ?_⟩
      have := frz_row (H := updF (updF H' [4] { u := (H' [4]).u + 1, ob := Ob.arr 1 (List.map uv w) }) [1] ⟨1, .cells [A.v (Value.int IntKind.i64 k), A.osl [4] ((H' [4]).u + 1) 1 0 w.length, A.osl [3] u' 3 0 l.length]⟩) (o := [3]) (u := u') (sz := 3) (l := l) (f := tA ∘ norm) (by simp [updF_app, hB]) rfl (by simp)
      show Frz _ _ (A.sl false ((l.map norm).map tA))
      rw [List.map_map]
      exact this
theorem rEqual_spec {a b : T} (ha : wfT a) (hb : wfT b) (hn : wfT (norm a)) : G.Spec Try.prog 30 [tX a, tX b] (bv (eqT a b)) := by
  refine spec_of t_centoref07_Equal (by simp) fun w0 I0 => ?_
  unfold c_centoref07_Equal
  simp
  refine sc_call (rNorm_spec a ha) rfl ?_
  simp
  refine sc_call (rNorm_spec b hb) rfl ?_
  simp
  refine sc_call (rTSame_spec (norm a) hn (norm b)) rfl ?_
  simp
  exact frz_bare rfl
end Go.Proofs.Ytmeldaflhkiopaa

/-
  Chapters 12 and 14, plain: trees as words.
-/
namespace Go.PL
set_option linter.unusedVariables false
set_option linter.unusedSimpArgs false
def hd (t : T) : Int := t.words.headD 0
/-! ### numbers side by side -/
/-! ### what is laid leaves other words -/
end Go.PL

/-
  Chapter 15: the law EqualGoes.
-/
namespace Go.Proofs.Ytmeldaflhkiopaa
set_option linter.unusedVariables false
set_option linter.unusedSimpArgs false
open Go Go.G Go.Proofs Go.PL
abbrev s1 : List (List Int) := [[4294967296, 7]]
abbrev s2 : List (List Int) := [[8589934592, 7, 0]]
abbrev s3 : List (List Int) := [[4294967296, 8]]
end Go.Proofs.Ytmeldaflhkiopaa

/-
  Chapter 15: the hash.
-/
namespace Go.Proofs.Ytmeldaflhkiopaa
set_option linter.unusedVariables false
set_option linter.unusedSimpArgs false
open Go Go.G Go.Proofs Go.PL
def mixG (h x : Int) : Int := IntKind.u64.wrap (bits .xor .u64 h x * 1099511628211)
def mixH (h x : Int) : Int := bits .xor .u64 (mixG h x) (mixG h x / 2 ^ min 29 IntKind.u64.bits)
mutual
def hashN : T → Int
  | .mk k w l => hashL (w.foldl mixH (mixH (mixH 14695981039346656037 (IntKind.u64.wrap k)) (IntKind.u64.wrap w.length))) l
def hashL : Int → List T → Int
  | h, [] => h
  | h, t :: l => hashL (mixH h (hashN t)) l
end
end Go.Proofs.Ytmeldaflhkiopaa

/-
  The document's trees: how many words they take; which ones are right.
-/
namespace Go.Proofs.Ytmeldaflhkiopaa
set_option linter.unusedVariables false
set_option linter.unusedSimpArgs false
open Go Go.G Go.Proofs Go.PL
theorem wf_norm : ∀ (t : T), wfT t → wfT (norm t) := by
  refine T.ind fun k w l ih hw => ?_
  have hw' := wfT_iff.1 hw
  rw [norm_mk]
  have h2 : ∀ (l : List T), (∀ t, t ∈ l → ∃ u, u ∈ l ∧ t = u) → True := fun _ _ => trivial
  have hm : ∀ t, t ∈ l.map norm → wfT t := fun t ht => by
    obtain ⟨u, hu, rfl⟩ := List.mem_map.1 ht
    exact ih u hu (hw'.ks u hu)
  split
  · exact wfT_iff.2 ⟨by simp [i64R], by simp, by simp, by simp, by simp⟩
  · split
    · refine wfT_iff.2 ⟨by simp [i64R], fun x hx => ?_, ?_, ?_, fun t ht => ?_⟩
      · simp only [T.words_mk] at hx
        rw [trimW_take] at hx
        exact hw'.w x (List.mem_of_mem_take hx)
      · have := trimW_le w
        have := hw'.wl
        simp at this ⊢
        omega
      · have := trimK_le (l.map norm)
        have := hw'.kl
        simp at this ⊢
        simp at *
        omega
      · simp only [T.kids_mk] at ht
        rw [trimK_take] at ht
        exact hm t (List.mem_of_mem_take ht)
    · exact wfT_iff.2 ⟨hw'.k, hw'.w, hw'.wl, by simpa using hw'.kl, by simpa using hm⟩
section
variable {n0 : Nat} {w0 : World} {I0 : Nat → Prop} {Q : Exit → Sta → Prop}
end
/-! ### right -/
section
variable {n0 : Nat} {w0 : World} {I0 : Nat → Prop} {Q : Exit → Sta → Prop}
end
end Go.Proofs.Ytmeldaflhkiopaa

/-
  Chapter 16, plain: places that are hashed by hand.
-/
namespace Go.PL
set_option linter.unusedVariables false
set_option linter.unusedSimpArgs false
/-- Places of so many classes, by their numbers. -/
structure Pl (hs : List Nat) (pl : List Nat) : Prop where
  cnt : pl.countP (fun v => v != 0) = hs.length
  vals : ∀ v, v ∈ pl → v ≤ hs.length
  reach : ∀ (c : Nat) (hc : c < hs.length), ∃ d, pl[(hs[c] + d) % pl.length]? = some (c + 1) ∧ ∀ e, e < d → pl.getD ((hs[c] + e) % pl.length) 0 ≠ 0
theorem Pl.nil (m : Nat) : Pl [] (List.replicate m 0) := by
  refine ⟨?_, fun v hv => ?_, fun c hc => ?_⟩
  · simp [List.countP_replicate]
  · simp at hv; omega
  · simp at hc
end Go.PL

/-
  Chapter 16: tables of classes.
-/
namespace Go.Proofs.Ytmeldaflhkiopaa
set_option linter.unusedVariables false
set_option linter.unusedSimpArgs false
open Go Go.G Go.Proofs Go.PL
/-- A class: its number of what it means; where its value lies, and what it means. -/
structure Cl where
  l : List (List Int)
  r : Rf
  t : T
noncomputable def Cl.h (c : Cl) : Int := hashN (norm c.t)
noncomputable def Cl.hn (c : Cl) : Nat := c.h.toNat
abbrev clL (h : Int) (l : List (List Int)) (r : Rf) : List A := uv h :: paL l r
noncomputable def Cl.a (c : Cl) : A := .agg (clL c.h c.l c.r)
abbrev nv (n : Nat) : A := iv (n : Int)
/-- A table: versions, classes, places. -/
structure Tb where
  u : Nat
  uc : Nat
  up : Nat
  cl : List Cl
  pl : List Nat
structure Tb.Ok (S : Tb) : Prop where
  p8 : 8 ≤ S.pl.length
  half : 2 * S.cl.length ≤ S.pl.length
  most : S.pl.length ≤ 8 + 4 * S.cl.length
  pl : Pl (S.cl.map Cl.hn) S.pl
  means : ∀ c, c ∈ S.cl → Sg c.l ∧ Means c.l c.r c.t
  nd : (S.cl.map fun c => norm c.t).Nodup
noncomputable def Tb.ks (S : Tb) : List T := S.cl.map fun c => norm c.t
@[simp] theorem Tb.ks_length (S : Tb) : S.ks.length = S.cl.length := by simp [Tb.ks]
theorem Tb.Ok.lt {S : Tb} (h : S.Ok) : S.cl.length < S.pl.length := by have := h.p8; have := h.half; omega
section
variable {n0 : Nat} {w0 : World} {I0 : Nat → Prop} {Q : Exit → Sta → Prop}
end
end Go.Proofs.Ytmeldaflhkiopaa
