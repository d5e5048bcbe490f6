/-
  Texts, merged, without what is not reached.
-/
import Derived.Test.YtehcobkphobjiaaW29b
/-
  The functions' text as data, and the facts on the types that they use: written by a program of ours (gen2.py) off the translation.
-/
namespace Go.Proofs.Ytehcobkphobjiaa
set_option linter.unusedVariables false
set_option linter.unusedSimpArgs false
set_option maxRecDepth 20000
open Go Go.G Go.Proofs
@[simp] theorem szT_64 : szT Try.prog 64 = some 1 := by kernel_rfl
@[simp] theorem aggT_64 : aggT Try.prog 64 = some false := by kernel_rfl
@[simp] theorem zeroT_94 : zeroT Try.prog 94 = some (Value.agg #[Value.int IntKind.i64 0, Value.int IntKind.i64 0, Value.slice none 0 0, Value.slice none 0 0, Value.int IntKind.i64 0, Value.slice none 0 0, Value.slice none 0 0, Value.slice none 0 0, Value.slice none 0 0, Value.int IntKind.i64 0, Value.slice none 0 0]) := by kernel_rfl
@[simp] theorem fieldOffT_149_0 : fieldOffT Try.prog 149 0 = some 0 := by kernel_rfl
@[simp] theorem buildA_94 (ps : List (Nat × A)) : buildA Try.prog 94 ps = (fillA (fun i => ([(0, 1), (1, 3), (4, 3), (7, 1), (8, 1), (9, 1), (10, 1)] : List (Nat × Nat))[i]?) [A.v (Value.int IntKind.i64 0), A.v (Value.int IntKind.i64 0), A.sl true [], A.sl true [], A.v (Value.int IntKind.i64 0), A.sl true [], A.sl true [], A.sl true [], A.sl true [], A.v (Value.int IntKind.i64 0), A.sl true []] ps).map A.agg := by kernel_rfl
@[simp] theorem buildA_149 (ps : List (Nat × A)) : buildA Try.prog 149 ps = (fillA (fun i => ([(0, 1)] : List (Nat × Nat))[i]?) [A.v (Value.int IntKind.i64 0)] ps).map A.agg := by kernel_rfl
/-- cento/tree.Word -/
def c_tree_Word : CC :=
  .seq (.reg [cn (some 2) (.box 53 (.tmp 0)) none [0],
      co (some 4) (.assign (.const (.int .u64 0))) none] [1, 2])
  (.seq (.seq (.reg [co (some 5) (.move (.tmp 1)) none,
        co (some 6) (.binOp .lss 3 (.tmp 5) (.const (.int .i64 0)) 3) none,
        co (some 7) (.move (.tmp 6)) none,
        co (some 8) (.move (.tmp 1)) (some (7, false)),
        co (some 9) (.fieldAddr 53 (.tmp 2) 1) (some (7, false)),
        co (some 10) (.load 23 (.tmp 9)) (some (7, false)),
        co (some 11) (.call { callee := (.builtin .len), args := #[(.tmp 10)], argTypes := #[23] }) (some (7, false)),
        co (some 12) (.binOp .geq 3 (.tmp 8) (.tmp 11) 3) (some (7, false)),
        co (some 13) (.pick (.tmp 7) (.const (.bool true)) (.tmp 12)) none] [1, 2, 13])
    (.cond (.tmp 13)
      (.seq (.reg [co (some 4) (.assign (.const (.int .u64 0))) none] [4])
      (.ret))
      (.skip)))
  (.keep [1, 2] (.seq (.reg [co (some 14) (.fieldAddr 53 (.tmp 2) 1) none,
      co (some 15) (.load 23 (.tmp 14)) none,
      co (some 16) (.move (.tmp 1)) none,
      co (some 17) (.indexAddr 23 (.tmp 15) (.tmp 16)) none,
      co (some 18) (.load 26 (.tmp 17)) none,
      co (some 4) (.assign (.tmp 18)) none] [4])
  (.ret))))
theorem t_tree_Word : Txt Try.prog 158 19 [(.tmp 4)] c_tree_Word := txt_of (code := Try.f158.body.getD .ret) mixed (by kernel_rfl) Try.func158 (by kernel_rfl) Try.ntmps158 (by kernel_rfl) (ls := [([1, 2], [(0, [0])]), ([], []), ([1, 2, 13], []), ([], []), ([4], []), ([], []), ([999999, 1, 2], []), ([4], []), ([], [])]) (by kernel_rfl)
/-- cento/tree.Kid -/
def c_tree_Kid : CC :=
  .seq (.reg [cn (some 2) (.box 53 (.tmp 0)) none [0],
      cn (some 4) (.alloc 53) none [1]] [1, 2, 4])
  (.seq (.seq (.reg [co (some 5) (.move (.tmp 1)) none,
        co (some 6) (.binOp .lss 3 (.tmp 5) (.const (.int .i64 0)) 3) none,
        co (some 7) (.move (.tmp 6)) none,
        co (some 8) (.move (.tmp 1)) (some (7, false)),
        co (some 9) (.fieldAddr 53 (.tmp 2) 2) (some (7, false)),
        co (some 10) (.load 51 (.tmp 9)) (some (7, false)),
        co (some 11) (.call { callee := (.builtin .len), args := #[(.tmp 10)], argTypes := #[51] }) (some (7, false)),
        co (some 12) (.binOp .geq 3 (.tmp 8) (.tmp 11) 3) (some (7, false)),
        co (some 13) (.pick (.tmp 7) (.const (.bool true)) (.tmp 12)) none] [1, 2, 4, 13])
    (.cond (.tmp 13)
      (.seq (.reg [co (some 14) (.build 53 #[]) none,
          co none (.store 53 (.tmp 4) (.tmp 14)) none] [4])
      (.ret))
      (.skip)))
  (.keep [1, 2, 4] (.seq (.reg [co (some 15) (.fieldAddr 53 (.tmp 2) 2) none,
      co (some 16) (.load 51 (.tmp 15)) none,
      co (some 17) (.move (.tmp 1)) none,
      co (some 18) (.indexAddr 51 (.tmp 16) (.tmp 17)) none,
      co (some 19) (.load 53 (.tmp 18)) none,
      co none (.store 53 (.tmp 4) (.tmp 19)) none] [4])
  (.ret))))
theorem t_tree_Kid : Txt Try.prog 159 20 [(.cell 4 53)] c_tree_Kid := txt_of (code := Try.f159.body.getD .ret) mixed (by kernel_rfl) Try.func159 (by kernel_rfl) Try.ntmps159 (by kernel_rfl) (ls := [([1, 2, 4], [(0, [0]), (1, [1])]), ([], []), ([1, 2, 4, 13], []), ([], []), ([4], []), ([], []), ([999999, 1, 2, 4], []), ([4], []), ([], [])]) (by kernel_rfl)
def l1_word_Wide : CC :=
  .seq (.reg [co (some 6) (.binOp .lss 3 (.tmp 5) (.const (.int .i64 8)) 3) none] [0, 3, 5, 6])
  (.seq (.cond (.tmp 6)
      (.skip)
      (.exit 0))
  (.keep [0, 3, 5] (.seq (.block 1
      (.seq (.reg [co (some 7) (.move (.tmp 5)) none,
          co (some 4) (.assign (.tmp 7)) none] [0, 3, 4, 5])
      (.seq (.reg [co (some 8) (.move (.tmp 0)) none,
          co (some 9) (.move (.tmp 4)) none,
          co (some 10) (.binOp .shr 5 (.tmp 8) (.tmp 9) 3) none,
          co (some 11) (.binOp .and 5 (.tmp 10) (.const (.int .u8 1)) 5) none,
          co (some 12) (.binOp .eql 5 (.tmp 11) (.const (.int .u8 1)) 5) none] [0, 3, 4, 5, 12])
      (.cond (.tmp 12)
        (.reg [co (some 13) (.move (.tmp 3)) none,
          co (some 14) (.move (.tmp 4)) none,
          co (some 15) (.binOp .mul 3 (.const (.int .i64 8)) (.tmp 14) 3) none,
          co (some 16) (.binOp .shl 26 (.const (.int .u64 255)) (.tmp 15) 3) none,
          co (some 17) (.binOp .or 26 (.tmp 13) (.tmp 16) 26) none,
          co (some 3) (.assign (.tmp 17)) none] [0, 3, 5])
        (.skip)))))
  (.keep [0, 3, 5] (.reg [co (some 18) (.binOp .add 3 (.tmp 5) (.const (.int .i64 1)) 3) none,
    co (some 5) (.move (.tmp 18)) none] [0, 3, 5])))))
/-- cento/word.Wide -/
def c_word_Wide : CC :=
  .seq (.reg [co (some 2) (.assign (.const (.int .u64 0))) none] [0])
  (.seq (.reg [co (some 3) (.assign (.const (.int .u64 0))) none] [0, 3])
  (.seq (.seq (.reg [co (some 5) (.move (.const (.int .i64 0))) none] [0, 3, 5])
    (.block 0
      (.loop l1_word_Wide)))
  (.keep [3] (.seq (.reg [co (some 19) (.move (.tmp 3)) none,
      co (some 2) (.assign (.tmp 19)) none] [2])
  (.ret)))))
theorem t_word_Wide : Txt Try.prog 205 20 [(.tmp 2)] c_word_Wide := txt_of (code := Try.f205.body.getD .ret) mixed (by kernel_rfl) Try.func205 (by kernel_rfl) Try.ntmps205 (by kernel_rfl) (ls := [([0], []), ([], []), ([0, 3], []), ([], []), ([0, 3, 5], []), ([], []), ([0, 3, 5, 6], []), ([], []), ([999999, 0, 3, 5], []), ([0, 3, 4, 5], []), ([], []), ([0, 3, 4, 5, 12], []), ([], []), ([0, 3, 5], []), ([999999, 0, 3, 5], []), ([0, 3, 5], []), ([999999, 3], []), ([2], []), ([], [])]) (by kernel_rfl)
/-- cento/word.Mix -/
def c_word_Mix : CC :=
  .seq (.reg [co (some 6) (.assign (.const (.int .u64 0))) none] [0, 1, 2])
  (.seq (.reg [co (some 7) (.move (.tmp 0)) none,
      co (some 8) (.move (.tmp 2)) none,
      co (some 9) (.call { callee := (.value (.func 205)), args := #[(.tmp 8)], argTypes := #[5] }) none,
      co (some 10) (.binOp .andNot 26 (.tmp 7) (.tmp 9) 26) none,
      co (some 11) (.move (.tmp 1)) none,
      co (some 12) (.move (.tmp 2)) none,
      co (some 13) (.call { callee := (.value (.func 205)), args := #[(.tmp 12)], argTypes := #[5] }) none,
      co (some 14) (.binOp .and 26 (.tmp 11) (.tmp 13) 26) none,
      co (some 15) (.binOp .or 26 (.tmp 10) (.tmp 14) 26) none,
      co (some 6) (.assign (.tmp 15)) none] [6])
  (.ret))
theorem t_word_Mix : Txt Try.prog 183 16 [(.tmp 6)] c_word_Mix := txt_of (code := Try.f183.body.getD .ret) mixed (by kernel_rfl) Try.func183 (by kernel_rfl) Try.ntmps183 (by kernel_rfl) (ls := [([0, 1, 2], []), ([], []), ([6], []), ([], [])]) (by kernel_rfl)
def l1_unfold_Value : CC :=
  .seq (.reg [co (some 16) (.binOp .lss 3 (.tmp 15) (.tmp 14) 3) none] [1, 2, 4, 14, 15, 16])
  (.seq (.cond (.tmp 16)
      (.skip)
      (.exit 0))
  (.keep [1, 2, 4, 14, 15] (.seq (.block 1
      (.seq (.reg [co (some 17) (.move (.tmp 15)) none,
          co (some 5) (.assign (.tmp 17)) none] [1, 2, 4, 5, 14, 15])
      (.reg [co (some 18) (.fieldAddr 53 (.tmp 4) 1) none,
        ⟨some 19, (.load 23 (.tmp 18)), none, [], 1, [], true⟩,
        co (some 20) (.load 68 (.tmp 1)) none,
        co (some 21) (.move (.tmp 5)) none,
        ⟨some 22, (.call { callee := (.value (.func 86)), args := #[(.tmp 20), (.tmp 21)], argTypes := #[68, 3] }), none, [], 4, [1], false⟩,
        ⟨some 23, (.buildSlice 23 1 #[(0, (.tmp 22))]), none, [], 5, [1], false⟩,
        cn (some 24) (.call { callee := (.builtin .append), args := #[(.tmp 19), (.tmp 23)], argTypes := #[23, 23] }) none [3],
        co (some 25) (.fieldAddr 53 (.tmp 4) 1) none,
        co none (.store 23 (.tmp 25) (.tmp 24)) none] [1, 2, 4, 14, 15])))
  (.reg [co (some 26) (.binOp .add 3 (.tmp 15) (.const (.int .i64 1)) 3) none,
    co (some 15) (.move (.tmp 26)) none] [1, 2, 4, 14, 15]))))
def l2_unfold_Value : CC :=
  .seq (.reg [co (some 30) (.binOp .lss 3 (.tmp 29) (.tmp 28) 3) none] [1, 2, 4, 28, 29, 30])
  (.seq (.cond (.tmp 30)
      (.skip)
      (.exit 2))
  (.keep [1, 2, 4, 28, 29] (.seq (.block 3
      (.seq (.reg [co (some 31) (.move (.tmp 29)) none,
          co (some 6) (.assign (.tmp 31)) none] [1, 2, 4, 6, 28, 29])
      (.seq (.reg [co (some 33) (.load 68 (.tmp 1)) none,
          co (some 34) (.move (.tmp 6)) none,
          co (some 35) (.call { callee := (.value (.func 44)), args := #[(.tmp 33), (.tmp 34)], argTypes := #[68, 3] }) none,
          co (some 32) (.move (.tmp 35)) none,
          co (some 36) (.extract (.tmp 32) 0) none,
          co (some 37) (.extract (.tmp 32) 1) none,
          cn (some 7) (.alloc 68) none [4],
          co none (.store 68 (.tmp 7) (.tmp 36)) none,
          co (some 8) (.assign (.tmp 37)) none] [1, 2, 4, 7, 8, 28, 29])
      (.seq (.seq (.reg [co (some 38) (.move (.tmp 8)) none,
            co (some 39) (.binOp .neq 64 (.tmp 38) (.const (.int .i64 0)) 64) none] [1, 2, 4, 7, 8, 28, 29, 39])
        (.cond (.tmp 39)
          (.seq (.reg [co (some 40) (.build 53 #[]) none,
              co (some 41) (.move (.tmp 8)) none,
              co none (.store 53 (.tmp 2) (.tmp 40)) none,
              co (some 3) (.assign (.tmp 41)) none] [2, 3])
          (.ret))
          (.skip)))
      (.keep [1, 2, 4, 7, 28, 29] (.seq (.reg [co (some 43) (.load 68 (.tmp 7)) none,
          co (some 44) (.call { callee := (.value (.func 181)), args := #[(.tmp 43)], argTypes := #[68] }) none,
          co (some 42) (.move (.tmp 44)) none,
          co (some 45) (.extract (.tmp 42) 0) none,
          co (some 46) (.extract (.tmp 42) 1) none,
          cn (some 9) (.alloc 53) none [5],
          co none (.store 53 (.tmp 9) (.tmp 45)) none,
          co (some 8) (.assign (.tmp 46)) none] [1, 2, 4, 8, 9, 28, 29])
      (.seq (.seq (.reg [co (some 47) (.move (.tmp 8)) none,
            co (some 48) (.binOp .neq 64 (.tmp 47) (.const (.int .i64 0)) 64) none] [1, 2, 4, 8, 9, 28, 29, 48])
        (.cond (.tmp 48)
          (.seq (.reg [co (some 49) (.build 53 #[]) none,
              co (some 50) (.move (.tmp 8)) none,
              co none (.store 53 (.tmp 2) (.tmp 49)) none,
              co (some 3) (.assign (.tmp 50)) none] [2, 3])
          (.ret))
          (.skip)))
      (.keep [1, 2, 4, 9, 28, 29] (.reg [co (some 51) (.fieldAddr 53 (.tmp 4) 2) none,
        co (some 52) (.load 51 (.tmp 51)) none,
        co (some 53) (.load 53 (.tmp 9)) none,
        co (some 54) (.buildSlice 51 1 #[(0, (.tmp 53))]) none,
        cn (some 55) (.call { callee := (.builtin .append), args := #[(.tmp 52), (.tmp 54)], argTypes := #[51, 51] }) none [6],
        co (some 56) (.fieldAddr 53 (.tmp 4) 2) none,
        co none (.store 51 (.tmp 56) (.tmp 55)) none] [1, 2, 4, 28, 29])))))))))
  (.keep [1, 2, 4, 28, 29] (.reg [co (some 57) (.binOp .add 3 (.tmp 29) (.const (.int .i64 1)) 3) none,
    co (some 29) (.move (.tmp 57)) none] [1, 2, 4, 28, 29])))))
/-- cento/unfold.Value -/
def c_unfold_Value : CC :=
  .seq (.reg [cn (some 1) (.box 68 (.tmp 0)) none [0],
      cn (some 2) (.alloc 53) none [1],
      co (some 3) (.assign (.const (.int .i64 0))) none] [1, 2])
  (.seq (.reg [co (some 10) (.load 68 (.tmp 1)) none,
      co (some 11) (.call { callee := (.value (.func 80)), args := #[(.tmp 10)], argTypes := #[68] }) none,
      co (some 12) (.build 53 #[(0, (.tmp 11))]) none,
      cn (some 4) (.alloc 53) none [2],
      co none (.store 53 (.tmp 4) (.tmp 12)) none] [1, 2, 4])
  (.stop (.seq (.seq (.reg [co (some 13) (.load 68 (.tmp 1)) none,
        co (some 14) (.call { callee := (.value (.func 85)), args := #[(.tmp 13)], argTypes := #[68] }) none,
        co (some 15) (.move (.const (.int .i64 0))) none] [1, 2, 4, 14, 15])
    (.block 0
      (.loop l1_unfold_Value)))
  (.keep [1, 2, 4] (.seq (.seq (.reg [co (some 27) (.load 68 (.tmp 1)) none,
        co (some 28) (.call { callee := (.value (.func 75)), args := #[(.tmp 27)], argTypes := #[68] }) none,
        co (some 29) (.move (.const (.int .i64 0))) none] [1, 2, 4, 28, 29])
    (.block 2
      (.loop l2_unfold_Value)))
  (.keep [2, 4] (.seq (.reg [co (some 58) (.load 53 (.tmp 4)) none,
      co none (.store 53 (.tmp 2) (.tmp 58)) none,
      co (some 3) (.assign (.const (.int .i64 0))) none] [2, 3])
  (.ret))))))))
theorem t_unfold_Value : Txt Try.prog 181 59 [(.cell 2 53), (.tmp 3)] c_unfold_Value := txt_of (code := Try.f181.body.getD .ret) mixed (by kernel_rfl) Try.func181 (by kernel_rfl) Try.ntmps181 (by kernel_rfl) (ls := [([1, 2], [(0, [0]), (1, [1])]), ([], []), ([1, 2, 4], [(3, [2])]), ([999998], []), ([1, 2, 4, 14, 15], []), ([], []), ([1, 2, 4, 14, 15, 16], []), ([], []), ([999999, 1, 2, 4, 14, 15], []), ([1, 2, 4, 5, 14, 15], []), ([], []), ([1, 2, 4, 14, 15], [(6, [3])]), ([], []), ([1, 2, 4, 14, 15], []), ([999999, 1, 2, 4], []), ([1, 2, 4, 28, 29], []), ([], []), ([1, 2, 4, 28, 29, 30], []), ([], []), ([999999, 1, 2, 4, 28, 29], []), ([1, 2, 4, 6, 28, 29], []), ([], []), ([1, 2, 4, 7, 8, 28, 29], [(6, [4])]), ([], []), ([1, 2, 4, 7, 8, 28, 29, 39], []), ([], []), ([2, 3], []), ([], []), ([999999, 1, 2, 4, 7, 28, 29], []), ([1, 2, 4, 8, 9, 28, 29], [(5, [5])]), ([], []), ([1, 2, 4, 8, 9, 28, 29, 48], []), ([], []), ([2, 3], []), ([], []), ([999999, 1, 2, 4, 9, 28, 29], []), ([1, 2, 4, 28, 29], [(4, [6])]), ([999999, 1, 2, 4, 28, 29], []), ([1, 2, 4, 28, 29], []), ([999999, 2, 4], []), ([2, 3], []), ([], [])]) (by kernel_rfl)
def l1_inapply_Means : CC :=
  .seq (.reg [co (some 53) (.binOp .lss 3 (.tmp 52) (.tmp 51) 3) none] [2, 3, 6, 51, 52, 53])
  (.seq (.cond (.tmp 53)
      (.skip)
      (.exit 1))
  (.keep [2, 3, 6, 51, 52] (.seq (.block 2
      (.seq (.reg [co (some 54) (.move (.tmp 52)) none,
          co (some 9) (.assign (.tmp 54)) none] [2, 3, 6, 9, 51, 52])
      (.seq (.reg [co (some 55) (.load 68 (.tmp 2)) none,
          co (some 56) (.move (.tmp 9)) none,
          ⟨some 57, (.call { callee := (.value (.func 86)), args := #[(.tmp 55), (.tmp 56)], argTypes := #[68, 3] }), none, [], 2, [], true⟩,
          ⟨some 58, (.load 53 (.tmp 3)), none, [], 3, [2], false⟩,
          co (some 59) (.move (.tmp 9)) none,
          co (some 60) (.call { callee := (.value (.func 158)), args := #[(.tmp 58), (.tmp 59)], argTypes := #[53, 3] }) none,
          co (some 61) (.binOp .neq 26 (.tmp 57) (.tmp 60) 26) none] [2, 3, 6, 51, 52, 61])
      (.cond (.tmp 61)
        (.seq (.reg [co (some 4) (.assign (.const (.bool false))) none,
            co (some 5) (.assign (.const (.int .i64 0))) none] [4, 5])
        (.ret))
        (.skip)))))
  (.keep [2, 3, 6, 51, 52] (.reg [co (some 62) (.binOp .add 3 (.tmp 52) (.const (.int .i64 1)) 3) none,
    co (some 52) (.move (.tmp 62)) none] [2, 3, 6, 51, 52])))))
def l2_inapply_Means : CC :=
  .seq (.reg [co (some 65) (.binOp .lss 3 (.tmp 64) (.tmp 63) 3) none] [2, 3, 63, 64, 65])
  (.seq (.cond (.tmp 65)
      (.skip)
      (.exit 3))
  (.keep [2, 3, 63, 64] (.seq (.block 4
      (.seq (.reg [co (some 66) (.move (.tmp 64)) none,
          co (some 10) (.assign (.tmp 66)) none] [2, 3, 10, 63, 64])
      (.seq (.reg [co (some 68) (.load 68 (.tmp 2)) none,
          co (some 69) (.move (.tmp 10)) none,
          co (some 70) (.call { callee := (.value (.func 44)), args := #[(.tmp 68), (.tmp 69)], argTypes := #[68, 3] }) none,
          co (some 67) (.move (.tmp 70)) none,
          co (some 71) (.extract (.tmp 67) 0) none,
          co (some 72) (.extract (.tmp 67) 1) none,
          cn (some 11) (.alloc 68) none [2],
          co none (.store 68 (.tmp 11) (.tmp 71)) none,
          co (some 12) (.assign (.tmp 72)) none] [2, 3, 10, 11, 12, 63, 64])
      (.seq (.seq (.reg [co (some 73) (.move (.tmp 12)) none,
            co (some 74) (.binOp .neq 64 (.tmp 73) (.const (.int .i64 0)) 64) none] [2, 3, 10, 11, 12, 63, 64, 74])
        (.cond (.tmp 74)
          (.seq (.reg [co (some 75) (.move (.tmp 12)) none,
              co (some 4) (.assign (.const (.bool false))) none,
              co (some 5) (.assign (.tmp 75)) none] [4, 5])
          (.ret))
          (.skip)))
      (.keep [2, 3, 10, 11, 63, 64] (.seq (.reg [⟨some 77, (.load 68 (.tmp 11)), none, [], 0, [], true⟩,
          co (some 78) (.load 53 (.tmp 3)) none,
          co (some 79) (.move (.tmp 10)) none,
          ⟨some 80, (.call { callee := (.value (.func 159)), args := #[(.tmp 78), (.tmp 79)], argTypes := #[53, 3] }), none, [], 3, [0], false⟩,
          co (some 81) (.call { callee := (.value (.func 182)), args := #[(.tmp 77), (.tmp 80)], argTypes := #[68, 53] }) none,
          co (some 76) (.move (.tmp 81)) none,
          co (some 82) (.extract (.tmp 76) 0) none,
          co (some 83) (.extract (.tmp 76) 1) none,
          co (some 13) (.assign (.tmp 82)) none,
          co (some 14) (.assign (.tmp 83)) none] [2, 3, 13, 14, 63, 64])
      (.seq (.reg [co (some 84) (.move (.tmp 13)) none,
          co (some 85) (.unOp .not 4 (.tmp 84)) none] [2, 3, 14, 63, 64, 85])
      (.cond (.tmp 85)
        (.seq (.reg [co (some 86) (.move (.tmp 14)) none,
            co (some 4) (.assign (.const (.bool false))) none,
            co (some 5) (.assign (.tmp 86)) none] [4, 5])
        (.ret))
        (.skip)))))))))
  (.keep [2, 3, 63, 64] (.reg [co (some 87) (.binOp .add 3 (.tmp 64) (.const (.int .i64 1)) 3) none,
    co (some 64) (.move (.tmp 87)) none] [2, 3, 63, 64])))))
def k1_inapply_Means : CC :=
  .seq (.seq (.reg [co (some 46) (.load 68 (.tmp 2)) none,
        ⟨some 47, (.call { callee := (.value (.func 85)), args := #[(.tmp 46)], argTypes := #[68] }), none, [], 1, [], true⟩,
        co (some 48) (.fieldAddr 53 (.tmp 3) 1) none,
        ⟨some 49, (.load 23 (.tmp 48)), none, [], 3, [1], false⟩,
        co (some 50) (.call { callee := (.builtin .len), args := #[(.tmp 49)], argTypes := #[23] }) none,
        co (some 51) (.call { callee := (.builtin .max), args := #[(.tmp 47), (.tmp 50)], argTypes := #[3, 3] }) none,
        co (some 52) (.move (.const (.int .i64 0))) none] [2, 3, 6, 51, 52])
    (.block 1
      (.loop l1_inapply_Means)))
  (.keep [2, 3, 6] (.seq (.seq (.reg [co (some 63) (.move (.tmp 6)) none,
        co (some 64) (.move (.const (.int .i64 0))) none] [2, 3, 63, 64])
    (.block 3
      (.loop l2_inapply_Means)))
  (.keep [] (.seq (.reg [co (some 4) (.assign (.const (.bool true))) none,
      co (some 5) (.assign (.const (.int .i64 0))) none] [4, 5])
  (.ret)))))
/-- cento/inapply.Means -/
def c_inapply_Means : CC :=
  .seq (.reg [cn (some 2) (.box 68 (.tmp 0)) none [0],
      cn (some 3) (.box 53 (.tmp 1)) none [1],
      co (some 4) (.assign (.const (.bool false))) none,
      co (some 5) (.assign (.const (.int .i64 0))) none] [2, 3])
  (.seq (.reg [co (some 15) (.load 68 (.tmp 2)) none,
      co (some 16) (.call { callee := (.value (.func 75)), args := #[(.tmp 15)], argTypes := #[68] }) none,
      co (some 6) (.assign (.tmp 16)) none] [2, 3, 6])
  (.seq (.block 0
      (.seq (.reg [co (some 18) (.load 68 (.tmp 2)) none,
          ⟨some 19, (.call { callee := (.value (.func 80)), args := #[(.tmp 18)], argTypes := #[68] }), none, [], 1, [], true⟩,
          co (some 20) (.fieldAddr 53 (.tmp 3) 0) none,
          ⟨some 21, (.load 3 (.tmp 20)), none, [], 3, [1], false⟩,
          co (some 22) (.binOp .neq 3 (.tmp 19) (.tmp 21) 3) none,
          co (some 17) (.assign (.tmp 22)) none] [2, 3, 6, 17])
      (.cond (.tmp 17)
        (.seq (.reg [co (some 4) (.assign (.const (.bool false))) none,
            co (some 5) (.assign (.const (.int .i64 0))) none] [4, 5])
        (.ret))
        (.seq (.reg [co (some 24) (.fieldAddr 53 (.tmp 3) 0) none,
            co (some 25) (.load 3 (.tmp 24)) none,
            co (some 26) (.binOp .eql 3 (.tmp 25) (.const (.int .i64 1)) 3) none,
            co (some 23) (.assign (.tmp 26)) none] [2, 3, 6, 23])
        (.cond (.tmp 23)
          (.seq (.reg [co (some 28) (.load 68 (.tmp 2)) none,
              co (some 29) (.call { callee := (.value (.func 45)), args := #[(.tmp 28)], argTypes := #[68] }) none,
              co (some 27) (.move (.tmp 29)) none,
              co (some 30) (.extract (.tmp 27) 0) none,
              co (some 31) (.extract (.tmp 27) 1) none,
              co (some 7) (.assign (.tmp 30)) none,
              co (some 8) (.assign (.tmp 31)) none] [2, 3, 7, 8])
          (.seq (.seq (.reg [co (some 32) (.move (.tmp 8)) none,
                co (some 33) (.binOp .neq 64 (.tmp 32) (.const (.int .i64 0)) 64) none] [2, 3, 7, 8, 33])
            (.cond (.tmp 33)
              (.seq (.reg [co (some 34) (.move (.tmp 8)) none,
                  co (some 4) (.assign (.const (.bool false))) none,
                  co (some 5) (.assign (.tmp 34)) none] [4, 5])
              (.ret))
              (.skip)))
          (.keep [2, 3, 7] (.reg [co (some 35) (.move (.tmp 7)) none,
            co (some 36) (.fieldAddr 53 (.tmp 3) 2) none,
            co (some 37) (.load 51 (.tmp 36)) none,
            co (some 38) (.call { callee := (.builtin .len), args := #[(.tmp 37)], argTypes := #[51] }) none,
            co (some 39) (.call { callee := (.builtin .max), args := #[(.tmp 35), (.tmp 38)], argTypes := #[3, 3] }) none,
            co (some 6) (.assign (.tmp 39)) none] [2, 3, 6]))))
          (.seq (.reg [co (some 41) (.move (.tmp 6)) none,
              co (some 42) (.fieldAddr 53 (.tmp 3) 2) none,
              co (some 43) (.load 51 (.tmp 42)) none,
              co (some 44) (.call { callee := (.builtin .len), args := #[(.tmp 43)], argTypes := #[51] }) none,
              co (some 45) (.binOp .neq 3 (.tmp 41) (.tmp 44) 3) none,
              co (some 40) (.assign (.tmp 45)) none] [2, 3, 6, 40])
          (.cond (.tmp 40)
            (.seq (.reg [co (some 4) (.assign (.const (.bool false))) none,
                co (some 5) (.assign (.const (.int .i64 0))) none] [4, 5])
            (.ret))
            (.skip))))))))
  (.keep [2, 3, 6] k1_inapply_Means)))
theorem t_inapply_Means : Txt Try.prog 182 88 [(.tmp 4), (.tmp 5)] c_inapply_Means := txt_of (code := Try.f182.body.getD .ret) mixed (by kernel_rfl) Try.func182 (by kernel_rfl) Try.ntmps182 (by kernel_rfl) (ls := [([2, 3], [(0, [0]), (1, [1])]), ([], []), ([2, 3, 6], []), ([], []), ([2, 3, 6, 17], []), ([], []), ([4, 5], []), ([], []), ([2, 3, 6, 23], []), ([], []), ([2, 3, 7, 8], []), ([], []), ([2, 3, 7, 8, 33], []), ([], []), ([4, 5], []), ([], []), ([999999, 2, 3, 7], []), ([2, 3, 6], []), ([2, 3, 6, 40], []), ([], []), ([4, 5], []), ([], []), ([999999, 2, 3, 6], []), ([2, 3, 6, 51, 52], []), ([], []), ([2, 3, 6, 51, 52, 53], []), ([], []), ([999999, 2, 3, 6, 51, 52], []), ([2, 3, 6, 9, 51, 52], []), ([], []), ([2, 3, 6, 51, 52, 61], []), ([], []), ([4, 5], []), ([], []), ([999999, 2, 3, 6, 51, 52], []), ([2, 3, 6, 51, 52], []), ([999999, 2, 3, 6], []), ([2, 3, 63, 64], []), ([], []), ([2, 3, 63, 64, 65], []), ([], []), ([999999, 2, 3, 63, 64], []), ([2, 3, 10, 63, 64], []), ([], []), ([2, 3, 10, 11, 12, 63, 64], [(6, [2])]), ([], []), ([2, 3, 10, 11, 12, 63, 64, 74], []), ([], []), ([4, 5], []), ([], []), ([999999, 2, 3, 10, 11, 63, 64], []), ([2, 3, 13, 14, 63, 64], []), ([], []), ([2, 3, 14, 63, 64, 85], []), ([], []), ([4, 5], []), ([], []), ([999999, 2, 3, 63, 64], []), ([2, 3, 63, 64], []), ([999999], []), ([4, 5], []), ([], [])]) (by kernel_rfl)
/-- (*cento/inapply.maker).fail -/
def c_inapply_maker_fail : CC :=
  .seq (.reg [cn (some 4) (.alloc 53) none [1]] [0, 1, 4])
  (.seq (.seq (.reg [co (some 5) (.move (.tmp 0)) none,
        co (some 6) (.nilCheck (.tmp 5)) none,
        co (some 7) (.fieldAddr 149 (.tmp 6) 0) none,
        co (some 8) (.load 64 (.tmp 7)) none,
        co (some 9) (.binOp .eql 64 (.tmp 8) (.const (.int .i64 0)) 64) none] [0, 1, 4, 9])
    (.cond (.tmp 9)
      (.reg [co (some 10) (.move (.tmp 0)) none,
        co (some 11) (.move (.tmp 1)) none,
        co (some 12) (.nilCheck (.tmp 10)) none,
        co (some 13) (.fieldAddr 149 (.tmp 12) 0) none,
        co none (.store 64 (.tmp 13) (.tmp 11)) none] [4])
      (.skip)))
  (.keep [4] (.seq (.reg [co (some 14) (.build 53 #[]) none,
      co none (.store 53 (.tmp 4) (.tmp 14)) none] [4])
  (.ret))))
theorem t_inapply_maker_fail : Txt Try.prog 146 15 [(.cell 4 53)] c_inapply_maker_fail := txt_of (code := Try.f146.body.getD .ret) mixed (by kernel_rfl) Try.func146 (by kernel_rfl) Try.ntmps146 (by kernel_rfl) (ls := [([0, 1, 4], [(0, [1])]), ([], []), ([0, 1, 4, 9], []), ([], []), ([4], []), ([999999, 4], []), ([4], []), ([], [])]) (by kernel_rfl)
/-- (*cento/inapply.maker).whole -/
def c_inapply_maker_whole : CC :=
  .seq (.reg [cn (some 3) (.box 68 (.tmp 1)) none [1],
      cn (some 4) (.alloc 53) none [2]] [0, 3, 4])
  (.seq (.reg [co (some 8) (.load 68 (.tmp 3)) none,
      co (some 9) (.call { callee := (.value (.func 181)), args := #[(.tmp 8)], argTypes := #[68] }) none,
      co (some 7) (.move (.tmp 9)) none,
      co (some 10) (.extract (.tmp 7) 0) none,
      co (some 11) (.extract (.tmp 7) 1) none,
      cn (some 5) (.alloc 53) none [3],
      co none (.store 53 (.tmp 5) (.tmp 10)) none,
      co (some 6) (.assign (.tmp 11)) none] [0, 4, 5, 6])
  (.seq (.seq (.reg [co (some 12) (.move (.tmp 6)) none,
        co (some 13) (.binOp .neq 64 (.tmp 12) (.const (.int .i64 0)) 64) none] [0, 4, 5, 6, 13])
    (.cond (.tmp 13)
      (.seq (.reg [co (some 14) (.move (.tmp 0)) none,
          co (some 15) (.move (.tmp 6)) none,
          co (some 16) (.call { callee := (.value (.func 146)), args := #[(.tmp 14), (.tmp 15)], argTypes := #[147, 64] }) none,
          co none (.store 53 (.tmp 4) (.tmp 16)) none] [4])
      (.ret))
      (.skip)))
  (.keep [4, 5] (.seq (.reg [co (some 17) (.load 53 (.tmp 5)) none,
      co none (.store 53 (.tmp 4) (.tmp 17)) none] [4])
  (.ret)))))
theorem t_inapply_maker_whole : Txt Try.prog 142 18 [(.cell 4 53)] c_inapply_maker_whole := txt_of (code := Try.f142.body.getD .ret) mixed (by kernel_rfl) Try.func142 (by kernel_rfl) Try.ntmps142 (by kernel_rfl) (ls := [([0, 3, 4], [(0, [1]), (1, [2])]), ([], []), ([0, 4, 5, 6], [(5, [3])]), ([], []), ([0, 4, 5, 6, 13], []), ([], []), ([4], []), ([], []), ([999999, 4, 5], []), ([4], []), ([], [])]) (by kernel_rfl)
/-- (*cento/inapply.maker).kid -/
def c_inapply_maker_kid : CC :=
  .seq (.reg [cn (some 4) (.box 68 (.tmp 1)) none [1],
      cn (some 6) (.alloc 68) none [2]] [0, 2, 4, 6])
  (.seq (.reg [co (some 10) (.load 68 (.tmp 4)) none,
      co (some 11) (.move (.tmp 2)) none,
      co (some 12) (.call { callee := (.value (.func 44)), args := #[(.tmp 10), (.tmp 11)], argTypes := #[68, 3] }) none,
      co (some 9) (.move (.tmp 12)) none,
      co (some 13) (.extract (.tmp 9) 0) none,
      co (some 14) (.extract (.tmp 9) 1) none,
      cn (some 7) (.alloc 68) none [3],
      co none (.store 68 (.tmp 7) (.tmp 13)) none,
      co (some 8) (.assign (.tmp 14)) none] [0, 6, 7, 8])
  (.seq (.seq (.reg [co (some 15) (.move (.tmp 8)) none,
        co (some 16) (.binOp .neq 64 (.tmp 15) (.const (.int .i64 0)) 64) none] [0, 6, 7, 8, 16])
    (.cond (.tmp 16)
      (.reg [co (some 17) (.move (.tmp 0)) none,
        co (some 18) (.move (.tmp 8)) none,
        co (some 19) (.call { callee := (.value (.func 146)), args := #[(.tmp 17), (.tmp 18)], argTypes := #[147, 64] }) none] [6, 7])
      (.skip)))
  (.keep [6, 7] (.seq (.reg [co (some 20) (.load 68 (.tmp 7)) none,
      co none (.store 68 (.tmp 6) (.tmp 20)) none] [6])
  (.ret)))))
theorem t_inapply_maker_kid : Txt Try.prog 184 21 [(.cell 6 68)] c_inapply_maker_kid := txt_of (code := Try.f184.body.getD .ret) mixed (by kernel_rfl) Try.func184 (by kernel_rfl) Try.ntmps184 (by kernel_rfl) (ls := [([0, 2, 4, 6], [(0, [1]), (1, [2])]), ([], []), ([0, 6, 7, 8], [(6, [3])]), ([], []), ([0, 6, 7, 8, 16], []), ([], []), ([6, 7], []), ([999999, 6, 7], []), ([6], []), ([], [])]) (by kernel_rfl)
/-- (*cento/inapply.maker).means -/
def c_inapply_maker_means : CC :=
  .seq (.reg [cn (some 4) (.box 68 (.tmp 1)) none [1],
      cn (some 5) (.box 53 (.tmp 2)) none [2]] [0, 4, 5])
  (.seq (.reg [co (some 9) (.load 68 (.tmp 4)) none,
      co (some 10) (.load 53 (.tmp 5)) none,
      co (some 11) (.call { callee := (.value (.func 182)), args := #[(.tmp 9), (.tmp 10)], argTypes := #[68, 53] }) none,
      co (some 8) (.move (.tmp 11)) none,
      co (some 12) (.extract (.tmp 8) 0) none,
      co (some 13) (.extract (.tmp 8) 1) none,
      co (some 6) (.assign (.tmp 12)) none,
      co (some 7) (.assign (.tmp 13)) none] [0, 6, 7])
  (.block 0
    (.seq (.reg [co (some 15) (.move (.tmp 7)) none,
        co (some 16) (.binOp .neq 64 (.tmp 15) (.const (.int .i64 0)) 64) none,
        co (some 14) (.assign (.tmp 16)) none] [0, 6, 7, 14])
    (.cond (.tmp 14)
      (.reg [co (some 17) (.move (.tmp 0)) none,
        co (some 18) (.move (.tmp 7)) none,
        co (some 19) (.call { callee := (.value (.func 146)), args := #[(.tmp 17), (.tmp 18)], argTypes := #[147, 64] }) none] [])
      (.seq (.reg [co (some 21) (.move (.tmp 6)) none,
          co (some 22) (.unOp .not 4 (.tmp 21)) none,
          co (some 20) (.assign (.tmp 22)) none] [0, 20])
      (.cond (.tmp 20)
        (.reg [co (some 23) (.move (.tmp 0)) none,
          co (some 24) (.call { callee := (.value (.func 146)), args := #[(.tmp 23), (.const (.int .i64 13))], argTypes := #[147, 64] }) none] [])
        (.skip)))))))
theorem t_inapply_maker_means : Txt Try.prog 143 25 [] c_inapply_maker_means := txt_of (code := Try.f143.body.getD .ret) mixed (by kernel_rfl) Try.func143 (by kernel_rfl) Try.ntmps143 (by kernel_rfl) (ls := [([0, 4, 5], [(0, [1]), (1, [2])]), ([], []), ([0, 6, 7], []), ([], []), ([0, 6, 7, 14], []), ([], []), ([], []), ([0, 20], []), ([], []), ([], [])]) (by kernel_rfl)
/-- (*cento/inapply.maker).edit -/
def c_inapply_maker_edit : CC :=
  .seq (.reg [cn (some 4) (.box 94 (.tmp 1)) none [1],
      cn (some 5) (.box 68 (.tmp 2)) none [2],
      cn (some 6) (.alloc 53) none [3]] [0, 4, 5, 6])
  (.seq (.block 0
      (.seq (.reg [co (some 8) (.move (.tmp 0)) none,
          co (some 9) (.nilCheck (.tmp 8)) none,
          co (some 10) (.fieldAddr 149 (.tmp 9) 0) none,
          co (some 11) (.load 64 (.tmp 10)) none,
          co (some 12) (.binOp .neq 64 (.tmp 11) (.const (.int .i64 0)) 64) none,
          co (some 7) (.assign (.tmp 12)) none] [0, 4, 5, 6, 7])
      (.cond (.tmp 7)
        (.skip)
        (.seq (.reg [co (some 14) (.fieldAddr 94 (.tmp 4) 0) none,
            co (some 15) (.load 3 (.tmp 14)) none,
            co (some 16) (.binOp .eql 3 (.tmp 15) (.const (.int .i64 0)) 3) none,
            co (some 13) (.assign (.tmp 16)) none] [0, 4, 5, 6, 13])
        (.cond (.tmp 13)
          (.seq (.reg [co (some 17) (.move (.tmp 0)) none,
              co (some 18) (.load 68 (.tmp 5)) none,
              co (some 19) (.call { callee := (.value (.func 142)), args := #[(.tmp 17), (.tmp 18)], argTypes := #[147, 68] }) none,
              co none (.store 53 (.tmp 6) (.tmp 19)) none] [6])
          (.ret))
          (.seq (.reg [co (some 21) (.fieldAddr 94 (.tmp 4) 0) none,
              co (some 22) (.load 3 (.tmp 21)) none,
              co (some 23) (.binOp .eql 3 (.tmp 22) (.const (.int .i64 1)) 3) none,
              co (some 20) (.assign (.tmp 23)) none] [0, 4, 5, 6, 20])
          (.cond (.tmp 20)
            (.seq (.reg [co (some 24) (.move (.tmp 0)) none,
                co (some 25) (.load 68 (.tmp 5)) none,
                co (some 26) (.fieldAddr 94 (.tmp 4) 1) none,
                co (some 27) (.load 53 (.tmp 26)) none,
                co (some 28) (.call { callee := (.value (.func 143)), args := #[(.tmp 24), (.tmp 25), (.tmp 27)], argTypes := #[147, 68, 53] }) none] [4, 6])
            (.seq (.reg [co (some 29) (.fieldAddr 94 (.tmp 4) 2) none,
                co (some 30) (.load 53 (.tmp 29)) none,
                co none (.store 53 (.tmp 6) (.tmp 30)) none] [6])
            (.ret)))
            (.seq (.reg [co (some 32) (.fieldAddr 94 (.tmp 4) 0) none,
                co (some 33) (.load 3 (.tmp 32)) none,
                co (some 34) (.binOp .eql 3 (.tmp 33) (.const (.int .i64 2)) 3) none,
                co (some 35) (.move (.tmp 34)) none,
                co (some 36) (.load 68 (.tmp 5)) (some (35, true)),
                co (some 37) (.call { callee := (.value (.func 80)), args := #[(.tmp 36)], argTypes := #[68] }) (some (35, true)),
                co (some 38) (.binOp .eql 3 (.tmp 37) (.const (.int .i64 1)) 3) (some (35, true)),
                co (some 39) (.pick (.tmp 35) (.tmp 38) (.const (.bool false))) none,
                co (some 31) (.assign (.tmp 39)) none] [0, 4, 5, 6, 31])
            (.cond (.tmp 31)
              (.seq (.reg [co (some 40) (.move (.tmp 0)) none,
                  co (some 41) (.load 94 (.tmp 4)) none,
                  co (some 42) (.load 68 (.tmp 5)) none,
                  co (some 43) (.call { callee := (.value (.func 144)), args := #[(.tmp 40), (.tmp 41), (.tmp 42)], argTypes := #[147, 94, 68] }) none,
                  co none (.store 53 (.tmp 6) (.tmp 43)) none] [6])
              (.ret))
              (.seq (.reg [co (some 45) (.fieldAddr 94 (.tmp 4) 0) none,
                  co (some 46) (.load 3 (.tmp 45)) none,
                  co (some 47) (.binOp .eql 3 (.tmp 46) (.const (.int .i64 3)) 3) none,
                  co (some 48) (.move (.tmp 47)) none,
                  co (some 49) (.load 68 (.tmp 5)) (some (48, true)),
                  ⟨some 50, (.call { callee := (.value (.func 80)), args := #[(.tmp 49)], argTypes := #[68] }), (some (48, true)), [], 5, [], true⟩,
                  co (some 51) (.fieldAddr 94 (.tmp 4) 5) (some (48, true)),
                  ⟨some 52, (.load 3 (.tmp 51)), (some (48, true)), [], 7, [5], false⟩,
                  co (some 53) (.binOp .eql 3 (.tmp 50) (.tmp 52) 3) (some (48, true)),
                  co (some 54) (.pick (.tmp 48) (.tmp 53) (.const (.bool false))) none,
                  co (some 44) (.assign (.tmp 54)) none] [0, 4, 5, 6, 44])
              (.cond (.tmp 44)
                (.seq (.reg [co (some 55) (.move (.tmp 0)) none,
                    co (some 56) (.load 94 (.tmp 4)) none,
                    co (some 57) (.load 68 (.tmp 5)) none,
                    co (some 58) (.call { callee := (.value (.func 145)), args := #[(.tmp 55), (.tmp 56), (.tmp 57)], argTypes := #[147, 94, 68] }) none,
                    co none (.store 53 (.tmp 6) (.tmp 58)) none] [6])
                (.ret))
                (.skip))))))))))))
  (.keep [0, 6] (.seq (.reg [co (some 59) (.move (.tmp 0)) none,
      co (some 60) (.call { callee := (.value (.func 146)), args := #[(.tmp 59), (.const (.int .i64 13))], argTypes := #[147, 64] }) none,
      co none (.store 53 (.tmp 6) (.tmp 60)) none] [6])
  (.ret))))
theorem t_inapply_maker_edit : Txt Try.prog 91 61 [(.cell 6 53)] c_inapply_maker_edit := txt_of (code := Try.f91.body.getD .ret) mixed (by kernel_rfl) Try.func91 (by kernel_rfl) Try.ntmps91 (by kernel_rfl) (ls := [([0, 4, 5, 6], [(0, [1]), (1, [2]), (2, [3])]), ([], []), ([0, 4, 5, 6, 7], []), ([], []), ([0, 4, 5, 6, 13], []), ([], []), ([6], []), ([], []), ([0, 4, 5, 6, 20], []), ([], []), ([4, 6], []), ([], []), ([6], []), ([], []), ([0, 4, 5, 6, 31], []), ([], []), ([6], []), ([], []), ([0, 4, 5, 6, 44], []), ([], []), ([6], []), ([], []), ([999999, 0, 6], []), ([6], []), ([], [])]) (by kernel_rfl)
def l1_inapply_maker_structure : CC :=
  .seq (.reg [co (some 57) (.binOp .lss 3 (.tmp 56) (.tmp 55) 3) none] [0, 4, 5, 6, 7, 9, 12, 55, 56, 57])
  (.seq (.cond (.tmp 57)
      (.skip)
      (.exit 0))
  (.keep [0, 4, 5, 6, 7, 9, 12, 55, 56] (.seq (.block 1
      (.seq (.reg [co (some 58) (.move (.tmp 56)) none,
          co (some 13) (.assign (.tmp 58)) none] [0, 4, 5, 6, 7, 9, 12, 13, 55, 56])
      (.seq (.reg [co (some 59) (.load 68 (.tmp 5)) none,
          co (some 60) (.move (.tmp 13)) none,
          co (some 61) (.call { callee := (.value (.func 86)), args := #[(.tmp 59), (.tmp 60)], argTypes := #[68, 3] }) none,
          co (some 14) (.assign (.tmp 61)) none] [0, 4, 5, 6, 7, 9, 12, 13, 14, 55, 56])
      (.seq (.seq (.reg [co (some 62) (.move (.tmp 12)) none,
            co (some 63) (.call { callee := (.builtin .len), args := #[(.tmp 62)], argTypes := #[90] }) none,
            co (some 64) (.binOp .gtr 3 (.tmp 63) (.const (.int .i64 0)) 3) none,
            co (some 65) (.move (.tmp 64)) none,
            co (some 66) (.move (.tmp 12)) (some (65, true)),
            co (some 67) (.indexAddr 90 (.tmp 66) (.const (.int .i64 0))) (some (65, true)),
            co (some 68) (.fieldAddr 196 (.tmp 67) 0) (some (65, true)),
            co (some 69) (.load 3 (.tmp 68)) (some (65, true)),
            co (some 70) (.move (.tmp 13)) (some (65, true)),
            co (some 71) (.binOp .eql 3 (.tmp 69) (.tmp 70) 3) (some (65, true)),
            co (some 72) (.pick (.tmp 65) (.tmp 71) (.const (.bool false))) none] [0, 4, 5, 6, 7, 9, 12, 14, 55, 56, 72])
        (.cond (.tmp 72)
          (.seq (.seq (.reg [co (some 73) (.move (.tmp 14)) none,
                co (some 74) (.move (.tmp 12)) none,
                co (some 75) (.indexAddr 90 (.tmp 74) (.const (.int .i64 0))) none,
                co (some 76) (.fieldAddr 196 (.tmp 75) 1) none,
                co (some 77) (.load 5 (.tmp 76)) none,
                ⟨some 78, (.call { callee := (.value (.func 183)), args := #[(.const (.int .u64 0)), (.tmp 73), (.tmp 77)], argTypes := #[26, 26, 5] }), none, [], 5, [], true⟩,
                co (some 79) (.move (.tmp 12)) none,
                co (some 80) (.indexAddr 90 (.tmp 79) (.const (.int .i64 0))) none,
                co (some 81) (.fieldAddr 196 (.tmp 80) 2) none,
                ⟨some 82, (.load 26 (.tmp 81)), none, [], 9, [5], false⟩,
                co (some 83) (.binOp .neq 26 (.tmp 78) (.tmp 82) 26) none] [0, 4, 5, 6, 7, 9, 12, 14, 55, 56, 83])
            (.cond (.tmp 83)
              (.seq (.reg [co (some 84) (.move (.tmp 0)) none,
                  co (some 85) (.call { callee := (.value (.func 146)), args := #[(.tmp 84), (.const (.int .i64 13))], argTypes := #[147, 64] }) none,
                  co none (.store 53 (.tmp 6) (.tmp 85)) none] [6])
              (.ret))
              (.skip)))
          (.keep [0, 4, 5, 6, 7, 9, 12, 14, 55, 56] (.reg [co (some 86) (.move (.tmp 14)) none,
            co (some 87) (.move (.tmp 12)) none,
            co (some 88) (.indexAddr 90 (.tmp 87) (.const (.int .i64 0))) none,
            co (some 89) (.fieldAddr 196 (.tmp 88) 3) none,
            co (some 90) (.load 26 (.tmp 89)) none,
            co (some 91) (.move (.tmp 12)) none,
            co (some 92) (.indexAddr 90 (.tmp 91) (.const (.int .i64 0))) none,
            co (some 93) (.fieldAddr 196 (.tmp 92) 1) none,
            co (some 94) (.load 5 (.tmp 93)) none,
            co (some 95) (.call { callee := (.value (.func 183)), args := #[(.tmp 86), (.tmp 90), (.tmp 94)], argTypes := #[26, 26, 5] }) none,
            co (some 96) (.move (.tmp 12)) none,
            co (some 97) (.slice 90 (.tmp 96) (some (.const (.int .i64 1))) none none) none,
            co (some 14) (.assign (.tmp 95)) none,
            co (some 12) (.assign (.tmp 97)) none] [0, 4, 5, 6, 7, 9, 12, 14, 55, 56])))
          (.skip)))
      (.keep [0, 4, 5, 6, 7, 9, 12, 14, 55, 56] (.reg [co (some 98) (.fieldAddr 53 (.tmp 7) 1) none,
        co (some 99) (.load 23 (.tmp 98)) none,
        co (some 100) (.move (.tmp 14)) none,
        co (some 101) (.buildSlice 23 1 #[(0, (.tmp 100))]) none,
        cn (some 102) (.call { callee := (.builtin .append), args := #[(.tmp 99), (.tmp 101)], argTypes := #[23, 23] }) none [5],
        co (some 103) (.fieldAddr 53 (.tmp 7) 1) none,
        co none (.store 23 (.tmp 103) (.tmp 102)) none] [0, 4, 5, 6, 7, 9, 12, 55, 56]))))))
  (.keep [0, 4, 5, 6, 7, 9, 12, 55, 56] (.reg [co (some 104) (.binOp .add 3 (.tmp 56) (.const (.int .i64 1)) 3) none,
    co (some 56) (.move (.tmp 104)) none] [0, 4, 5, 6, 7, 9, 12, 55, 56])))))
def k1_inapply_maker_structure : CC :=
  .reg [co (some 129) (.fieldAddr 53 (.tmp 7) 2) none,
    ⟨some 130, (.load 51 (.tmp 129)), none, [], 1, [], true⟩,
    co (some 131) (.move (.tmp 0)) none,
    ⟨some 132, (.load 94 (.tmp 17)), none, [], 3, [], true⟩,
    co (some 133) (.move (.tmp 0)) none,
    co (some 134) (.load 68 (.tmp 5)) none,
    co (some 135) (.move (.tmp 16)) none,
    ⟨some 136, (.call { callee := (.value (.func 184)), args := #[(.tmp 133), (.tmp 134), (.tmp 135)], argTypes := #[147, 68, 3] }), none, [], 7, [1, 3], false⟩,
    ⟨some 137, (.call { callee := (.value (.func 91)), args := #[(.tmp 131), (.tmp 132), (.tmp 136)], argTypes := #[147, 94, 68] }), none, [], 8, [1], false⟩,
    ⟨some 138, (.buildSlice 51 1 #[(0, (.tmp 137))]), none, [], 9, [1], false⟩,
    cn (some 139) (.call { callee := (.builtin .append), args := #[(.tmp 130), (.tmp 138)], argTypes := #[51, 51] }) none [7],
    co (some 140) (.fieldAddr 53 (.tmp 7) 2) none,
    co none (.store 51 (.tmp 140) (.tmp 139)) none] [0, 5, 6, 7, 15, 107, 108]
def l2_inapply_maker_structure : CC :=
  .seq (.reg [co (some 109) (.binOp .lss 3 (.tmp 108) (.tmp 107) 3) none] [0, 5, 6, 7, 15, 107, 108, 109])
  (.seq (.cond (.tmp 109)
      (.skip)
      (.exit 2))
  (.keep [0, 5, 6, 7, 15, 107, 108] (.seq (.block 3
      (.seq (.reg [co (some 110) (.move (.tmp 108)) none,
          co (some 16) (.assign (.tmp 110)) none] [0, 5, 6, 7, 15, 16, 107, 108])
      (.seq (.reg [co (some 111) (.build 94 #[]) none,
          cn (some 17) (.alloc 94) none [6],
          co none (.store 94 (.tmp 17) (.tmp 111)) none] [0, 5, 6, 7, 15, 16, 17, 107, 108])
      (.stop (.seq (.seq (.reg [co (some 112) (.move (.tmp 15)) none,
            co (some 113) (.call { callee := (.builtin .len), args := #[(.tmp 112)], argTypes := #[91] }) none,
            co (some 114) (.binOp .gtr 3 (.tmp 113) (.const (.int .i64 0)) 3) none,
            co (some 115) (.move (.tmp 114)) none,
            co (some 116) (.move (.tmp 15)) (some (115, true)),
            co (some 117) (.indexAddr 91 (.tmp 116) (.const (.int .i64 0))) (some (115, true)),
            co (some 118) (.fieldAddr 199 (.tmp 117) 0) (some (115, true)),
            co (some 119) (.load 3 (.tmp 118)) (some (115, true)),
            co (some 120) (.move (.tmp 16)) (some (115, true)),
            co (some 121) (.binOp .eql 3 (.tmp 119) (.tmp 120) 3) (some (115, true)),
            co (some 122) (.pick (.tmp 115) (.tmp 121) (.const (.bool false))) none] [0, 5, 6, 7, 15, 16, 17, 107, 108, 122])
        (.cond (.tmp 122)
          (.reg [co (some 123) (.move (.tmp 15)) none,
            co (some 124) (.indexAddr 91 (.tmp 123) (.const (.int .i64 0))) none,
            co (some 125) (.fieldAddr 199 (.tmp 124) 1) none,
            co (some 126) (.load 94 (.tmp 125)) none,
            co (some 127) (.move (.tmp 15)) none,
            co (some 128) (.slice 91 (.tmp 127) (some (.const (.int .i64 1))) none none) none,
            co none (.store 94 (.tmp 17) (.tmp 126)) none,
            co (some 15) (.assign (.tmp 128)) none] [0, 5, 6, 7, 15, 16, 17, 107, 108])
          (.skip)))
      (.keep [0, 5, 6, 7, 15, 16, 17, 107, 108] k1_inapply_maker_structure))))))
  (.keep [0, 5, 6, 7, 15, 107, 108] (.reg [co (some 141) (.binOp .add 3 (.tmp 108) (.const (.int .i64 1)) 3) none,
    co (some 108) (.move (.tmp 141)) none] [0, 5, 6, 7, 15, 107, 108])))))
def k2_inapply_maker_structure : CC :=
  .seq (.reg [co (some 53) (.fieldAddr 94 (.tmp 4) 3) none,
      co (some 54) (.load 90 (.tmp 53)) none,
      co (some 12) (.assign (.tmp 54)) none] [0, 4, 5, 6, 7, 8, 9, 12])
  (.seq (.seq (.reg [co (some 55) (.move (.tmp 8)) none,
        co (some 56) (.move (.const (.int .i64 0))) none] [0, 4, 5, 6, 7, 9, 12, 55, 56])
    (.block 0
      (.loop l1_inapply_maker_structure)))
  (.keep [0, 4, 5, 6, 7, 9] (.seq (.reg [co (some 105) (.fieldAddr 94 (.tmp 4) 4) none,
      co (some 106) (.load 91 (.tmp 105)) none,
      co (some 15) (.assign (.tmp 106)) none] [0, 5, 6, 7, 9, 15])
  (.seq (.seq (.reg [co (some 107) (.move (.tmp 9)) none,
        co (some 108) (.move (.const (.int .i64 0))) none] [0, 5, 6, 7, 15, 107, 108])
    (.block 2
      (.loop l2_inapply_maker_structure)))
  (.keep [6, 7] (.seq (.reg [co (some 142) (.load 53 (.tmp 7)) none,
      co none (.store 53 (.tmp 6) (.tmp 142)) none] [6])
  (.ret)))))))
def k3_inapply_maker_structure : CC :=
  .seq (.seq (.reg [co (some 38) (.fieldAddr 94 (.tmp 4) 4) none,
        co (some 39) (.load 91 (.tmp 38)) none,
        co (some 40) (.call { callee := (.builtin .len), args := #[(.tmp 39)], argTypes := #[91] }) none,
        co (some 11) (.assign (.tmp 40)) none] [0, 4, 5, 6, 7, 8, 9, 11])
    (.seq (.reg [co (some 41) (.move (.tmp 11)) none,
        co (some 42) (.binOp .gtr 3 (.tmp 41) (.const (.int .i64 0)) 3) none] [0, 4, 5, 6, 7, 8, 9, 11, 42])
    (.cond (.tmp 42)
      (.reg [co (some 43) (.move (.tmp 9)) none,
        co (some 44) (.fieldAddr 94 (.tmp 4) 4) none,
        co (some 45) (.load 91 (.tmp 44)) none,
        co (some 46) (.move (.tmp 11)) none,
        co (some 47) (.binOp .sub 3 (.tmp 46) (.const (.int .i64 1)) 3) none,
        co (some 48) (.indexAddr 91 (.tmp 45) (.tmp 47)) none,
        co (some 49) (.fieldAddr 199 (.tmp 48) 0) none,
        co (some 50) (.load 3 (.tmp 49)) none,
        co (some 51) (.binOp .add 3 (.tmp 50) (.const (.int .i64 1)) 3) none,
        co (some 52) (.call { callee := (.builtin .max), args := #[(.tmp 43), (.tmp 51)], argTypes := #[3, 3] }) none,
        co (some 9) (.assign (.tmp 52)) none] [0, 4, 5, 6, 7, 8, 9])
      (.skip))))
  (.keep [0, 4, 5, 6, 7, 8, 9] k2_inapply_maker_structure)
/-- (*cento/inapply.maker).structure -/
def c_inapply_maker_structure : CC :=
  .seq (.reg [cn (some 4) (.box 94 (.tmp 1)) none [1],
      cn (some 5) (.box 68 (.tmp 2)) none [2],
      cn (some 6) (.alloc 53) none [3]] [0, 4, 5, 6])
  (.seq (.reg [co (some 18) (.build 53 #[(0, (.const (.int .i64 1)))]) none,
      cn (some 7) (.alloc 53) none [4],
      co none (.store 53 (.tmp 7) (.tmp 18)) none] [0, 4, 5, 6, 7])
  (.stop (.seq (.reg [co (some 19) (.load 68 (.tmp 5)) none,
      ⟨some 20, (.call { callee := (.value (.func 46)), args := #[(.tmp 19)], argTypes := #[68] }), none, [], 1, [], true⟩,
      ⟨some 21, (.load 68 (.tmp 5)), none, [], 2, [1], false⟩,
      co (some 22) (.call { callee := (.value (.func 75)), args := #[(.tmp 21)], argTypes := #[68] }) none,
      co (some 8) (.assign (.tmp 20)) none,
      co (some 9) (.assign (.tmp 22)) none] [0, 4, 5, 6, 7, 8, 9])
  (.seq (.seq (.reg [co (some 23) (.fieldAddr 94 (.tmp 4) 3) none,
        co (some 24) (.load 90 (.tmp 23)) none,
        co (some 25) (.call { callee := (.builtin .len), args := #[(.tmp 24)], argTypes := #[90] }) none,
        co (some 10) (.assign (.tmp 25)) none] [0, 4, 5, 6, 7, 8, 9, 10])
    (.seq (.reg [co (some 26) (.move (.tmp 10)) none,
        co (some 27) (.binOp .gtr 3 (.tmp 26) (.const (.int .i64 0)) 3) none] [0, 4, 5, 6, 7, 8, 9, 10, 27])
    (.cond (.tmp 27)
      (.reg [co (some 28) (.move (.tmp 8)) none,
        co (some 29) (.fieldAddr 94 (.tmp 4) 3) none,
        co (some 30) (.load 90 (.tmp 29)) none,
        co (some 31) (.move (.tmp 10)) none,
        co (some 32) (.binOp .sub 3 (.tmp 31) (.const (.int .i64 1)) 3) none,
        co (some 33) (.indexAddr 90 (.tmp 30) (.tmp 32)) none,
        co (some 34) (.fieldAddr 196 (.tmp 33) 0) none,
        co (some 35) (.load 3 (.tmp 34)) none,
        co (some 36) (.binOp .add 3 (.tmp 35) (.const (.int .i64 1)) 3) none,
        co (some 37) (.call { callee := (.builtin .max), args := #[(.tmp 28), (.tmp 36)], argTypes := #[3, 3] }) none,
        co (some 8) (.assign (.tmp 37)) none] [0, 4, 5, 6, 7, 8, 9])
      (.skip))))
  (.keep [0, 4, 5, 6, 7, 8, 9] k3_inapply_maker_structure)))))
theorem t_inapply_maker_structure : Txt Try.prog 144 143 [(.cell 6 53)] c_inapply_maker_structure := txt_of (code := Try.f144.body.getD .ret) mixed (by kernel_rfl) Try.func144 (by kernel_rfl) Try.ntmps144 (by kernel_rfl) (ls := [([0, 4, 5, 6], [(0, [1]), (1, [2]), (2, [3])]), ([], []), ([0, 4, 5, 6, 7], [(1, [4])]), ([999998], []), ([0, 4, 5, 6, 7, 8, 9], []), ([], []), ([0, 4, 5, 6, 7, 8, 9, 10], []), ([], []), ([0, 4, 5, 6, 7, 8, 9, 10, 27], []), ([], []), ([0, 4, 5, 6, 7, 8, 9], []), ([999999, 0, 4, 5, 6, 7, 8, 9], []), ([0, 4, 5, 6, 7, 8, 9, 11], []), ([], []), ([0, 4, 5, 6, 7, 8, 9, 11, 42], []), ([], []), ([0, 4, 5, 6, 7, 8, 9], []), ([999999, 0, 4, 5, 6, 7, 8, 9], []), ([0, 4, 5, 6, 7, 8, 9, 12], []), ([], []), ([0, 4, 5, 6, 7, 9, 12, 55, 56], []), ([], []), ([0, 4, 5, 6, 7, 9, 12, 55, 56, 57], []), ([], []), ([999999, 0, 4, 5, 6, 7, 9, 12, 55, 56], []), ([0, 4, 5, 6, 7, 9, 12, 13, 55, 56], []), ([], []), ([0, 4, 5, 6, 7, 9, 12, 13, 14, 55, 56], []), ([], []), ([0, 4, 5, 6, 7, 9, 12, 14, 55, 56, 72], []), ([], []), ([0, 4, 5, 6, 7, 9, 12, 14, 55, 56, 83], []), ([], []), ([6], []), ([], []), ([999999, 0, 4, 5, 6, 7, 9, 12, 14, 55, 56], []), ([0, 4, 5, 6, 7, 9, 12, 14, 55, 56], []), ([999999, 0, 4, 5, 6, 7, 9, 12, 14, 55, 56], []), ([0, 4, 5, 6, 7, 9, 12, 55, 56], [(4, [5])]), ([999999, 0, 4, 5, 6, 7, 9, 12, 55, 56], []), ([0, 4, 5, 6, 7, 9, 12, 55, 56], []), ([999999, 0, 4, 5, 6, 7, 9], []), ([0, 5, 6, 7, 9, 15], []), ([], []), ([0, 5, 6, 7, 15, 107, 108], []), ([], []), ([0, 5, 6, 7, 15, 107, 108, 109], []), ([], []), ([999999, 0, 5, 6, 7, 15, 107, 108], []), ([0, 5, 6, 7, 15, 16, 107, 108], []), ([], []), ([0, 5, 6, 7, 15, 16, 17, 107, 108], [(1, [6])]), ([999998], []), ([0, 5, 6, 7, 15, 16, 17, 107, 108, 122], []), ([], []), ([0, 5, 6, 7, 15, 16, 17, 107, 108], []), ([999999, 0, 5, 6, 7, 15, 16, 17, 107, 108], []), ([0, 5, 6, 7, 15, 107, 108], [(10, [7])]), ([999999, 0, 5, 6, 7, 15, 107, 108], []), ([0, 5, 6, 7, 15, 107, 108], []), ([999999, 6, 7], []), ([6], []), ([], [])]) (by kernel_rfl)
def l1_inapply_maker_list : CC :=
  .seq (.reg [co (some 61) (.binOp .lss 3 (.tmp 60) (.tmp 59) 3) none] [0, 5, 6, 7, 8, 10, 11, 18, 19, 20, 59, 60, 61])
  (.seq (.cond (.tmp 61)
      (.skip)
      (.exit 3))
  (.keep [0, 5, 6, 7, 8, 10, 11, 18, 19, 20, 59, 60] (.seq (.block 4
      (.seq (.reg [co (some 62) (.move (.tmp 60)) none,
          co (some 12) (.assign (.tmp 62)) none] [0, 5, 6, 7, 8, 10, 11, 12, 18, 19, 20, 59, 60])
      (.seq (.reg [co (some 63) (.move (.tmp 0)) none,
          co (some 64) (.load 68 (.tmp 5)) none,
          co (some 65) (.move (.tmp 8)) none,
          co (some 66) (.move (.tmp 12)) none,
          co (some 67) (.binOp .add 3 (.tmp 65) (.tmp 66) 3) none,
          co (some 68) (.call { callee := (.value (.func 184)), args := #[(.tmp 63), (.tmp 64), (.tmp 67)], argTypes := #[147, 68, 3] }) none,
          cn (some 13) (.alloc 68) none [7],
          co none (.store 68 (.tmp 13) (.tmp 68)) none] [0, 5, 6, 7, 8, 10, 11, 12, 13, 18, 19, 20, 59, 60])
      (.seq (.reg [co (some 69) (.fieldAddr 202 (.tmp 10) 0) none,
          co (some 70) (.load 3 (.tmp 69)) none] [0, 5, 6, 7, 8, 10, 11, 12, 13, 18, 19, 20, 59, 60, 70])
      (.block 5
        (.seq (.reg [co (some 82) (.binOp .eql 3 (.tmp 70) (.const (.int .i64 0)) 3) none,
            co (some 81) (.assign (.tmp 82)) none] [0, 5, 6, 7, 8, 10, 11, 12, 13, 18, 19, 20, 59, 60, 70, 81])
        (.cond (.tmp 81)
          (.reg [co (some 83) (.fieldAddr 53 (.tmp 7) 2) none,
            ⟨some 84, (.load 51 (.tmp 83)), none, [], 1, [], true⟩,
            co (some 85) (.move (.tmp 0)) none,
            co (some 86) (.load 68 (.tmp 13)) none,
            ⟨some 87, (.call { callee := (.value (.func 142)), args := #[(.tmp 85), (.tmp 86)], argTypes := #[147, 68] }), none, [], 4, [1], false⟩,
            ⟨some 88, (.buildSlice 51 1 #[(0, (.tmp 87))]), none, [], 5, [1], false⟩,
            cn (some 89) (.call { callee := (.builtin .append), args := #[(.tmp 84), (.tmp 88)], argTypes := #[51, 51] }) none [8],
            co (some 90) (.fieldAddr 53 (.tmp 7) 2) none,
            co none (.store 51 (.tmp 90) (.tmp 89)) none] [0, 5, 6, 7, 8, 10, 11, 18, 19, 20, 59, 60])
          (.seq (.reg [co (some 92) (.binOp .eql 3 (.tmp 70) (.const (.int .i64 1)) 3) none,
              co (some 91) (.assign (.tmp 92)) none] [0, 5, 6, 7, 8, 10, 11, 12, 13, 18, 19, 20, 59, 60, 91])
          (.cond (.tmp 91)
            (.reg [co (some 93) (.move (.tmp 0)) none,
              co (some 94) (.load 68 (.tmp 13)) none,
              co (some 95) (.fieldAddr 202 (.tmp 10) 2) none,
              co (some 96) (.load 51 (.tmp 95)) none,
              co (some 97) (.move (.tmp 12)) none,
              co (some 98) (.indexAddr 51 (.tmp 96) (.tmp 97)) none,
              co (some 99) (.load 53 (.tmp 98)) none,
              co (some 100) (.call { callee := (.value (.func 143)), args := #[(.tmp 93), (.tmp 94), (.tmp 99)], argTypes := #[147, 68, 53] }) none] [0, 5, 6, 7, 8, 10, 11, 18, 19, 20, 59, 60])
            (.reg [co (some 71) (.fieldAddr 53 (.tmp 7) 2) none,
              ⟨some 72, (.load 51 (.tmp 71)), none, [], 1, [], true⟩,
              co (some 73) (.move (.tmp 0)) none,
              co (some 74) (.fieldAddr 202 (.tmp 10) 3) none,
              co (some 75) (.load 94 (.tmp 74)) none,
              co (some 76) (.load 68 (.tmp 13)) none,
              ⟨some 77, (.call { callee := (.value (.func 91)), args := #[(.tmp 73), (.tmp 75), (.tmp 76)], argTypes := #[147, 94, 68] }), none, [], 6, [1], false⟩,
              ⟨some 78, (.buildSlice 51 1 #[(0, (.tmp 77))]), none, [], 7, [1], false⟩,
              cn (some 79) (.call { callee := (.builtin .append), args := #[(.tmp 72), (.tmp 78)], argTypes := #[51, 51] }) none [9],
              co (some 80) (.fieldAddr 53 (.tmp 7) 2) none,
              co none (.store 51 (.tmp 80) (.tmp 79)) none] [0, 5, 6, 7, 8, 10, 11, 18, 19, 20, 59, 60]))))))))))
  (.keep [0, 5, 6, 7, 8, 10, 11, 18, 19, 20, 59, 60] (.reg [co (some 101) (.binOp .add 3 (.tmp 60) (.const (.int .i64 1)) 3) none,
    co (some 60) (.move (.tmp 101)) none] [0, 5, 6, 7, 8, 10, 11, 18, 19, 20, 59, 60])))))
def k1_inapply_maker_list : CC :=
  .seq (.seq (.reg [co (some 44) (.move (.tmp 11)) none,
        co (some 45) (.load 68 (.tmp 5)) none,
        co (some 46) (.call { callee := (.value (.func 75)), args := #[(.tmp 45)], argTypes := #[68] }) none,
        co (some 47) (.move (.tmp 8)) none,
        co (some 48) (.binOp .sub 3 (.tmp 46) (.tmp 47) 3) none,
        co (some 49) (.binOp .gtr 3 (.tmp 44) (.tmp 48) 3) none,
        co (some 50) (.move (.tmp 49)) none,
        co (some 51) (.move (.tmp 0)) (some (50, false)),
        co (some 52) (.nilCheck (.tmp 51)) (some (50, false)),
        co (some 53) (.fieldAddr 149 (.tmp 52) 0) (some (50, false)),
        co (some 54) (.load 64 (.tmp 53)) (some (50, false)),
        co (some 55) (.binOp .neq 64 (.tmp 54) (.const (.int .i64 0)) 64) (some (50, false)),
        co (some 56) (.pick (.tmp 50) (.const (.bool true)) (.tmp 55)) none] [0, 5, 6, 7, 8, 10, 11, 18, 19, 20, 56])
    (.cond (.tmp 56)
      (.seq (.reg [co (some 57) (.move (.tmp 0)) none,
          co (some 58) (.call { callee := (.value (.func 146)), args := #[(.tmp 57), (.const (.int .i64 13))], argTypes := #[147, 64] }) none,
          co none (.store 53 (.tmp 6) (.tmp 58)) none] [6])
      (.ret))
      (.skip)))
  (.keep [0, 5, 6, 7, 8, 10, 11, 18, 19, 20] (.seq (.seq (.reg [co (some 59) (.move (.tmp 11)) none,
        co (some 60) (.move (.const (.int .i64 0))) none] [0, 5, 6, 7, 8, 10, 11, 18, 19, 20, 59, 60])
    (.block 3
      (.loop l1_inapply_maker_list)))
  (.keep [0, 5, 6, 7, 8, 11, 18, 19, 20] (.stop (.reg [co (some 102) (.move (.tmp 8)) none,
    co (some 103) (.move (.tmp 11)) none,
    co (some 104) (.binOp .add 3 (.tmp 102) (.tmp 103) 3) none,
    co (some 8) (.assign (.tmp 104)) none] [0, 5, 6, 7, 8, 18, 19, 20])))))
def l2_inapply_maker_list : CC :=
  .seq (.reg [co (some 21) (.binOp .lss 3 (.tmp 20) (.tmp 19) 3) none] [0, 5, 6, 7, 8, 18, 19, 20, 21])
  (.seq (.cond (.tmp 21)
      (.skip)
      (.exit 0))
  (.keep [0, 5, 6, 7, 8, 18, 19, 20] (.seq (.block 1
      (.seq (.reg [co (some 22) (.indexAddr 92 (.tmp 18) (.tmp 20)) none,
          co (some 23) (.load 202 (.tmp 22)) none,
          cn (some 10) (.alloc 202) none [5],
          co none (.store 202 (.tmp 10) (.tmp 23)) none] [0, 5, 6, 7, 8, 10, 18, 19, 20])
      (.seq (.reg [co (some 24) (.fieldAddr 202 (.tmp 10) 1) none,
          co (some 25) (.load 3 (.tmp 24)) none,
          co (some 26) (.fieldAddr 202 (.tmp 10) 2) none,
          co (some 27) (.load 51 (.tmp 26)) none,
          co (some 28) (.call { callee := (.builtin .len), args := #[(.tmp 27)], argTypes := #[51] }) none,
          co (some 29) (.binOp .add 3 (.tmp 25) (.tmp 28) 3) none,
          co (some 11) (.assign (.tmp 29)) none] [0, 5, 6, 7, 8, 10, 11, 18, 19, 20])
      (.seq (.block 2
          (.seq (.reg [co (some 31) (.fieldAddr 202 (.tmp 10) 0) none,
              co (some 32) (.load 3 (.tmp 31)) none,
              co (some 33) (.binOp .eql 3 (.tmp 32) (.const (.int .i64 2)) 3) none,
              co (some 30) (.assign (.tmp 33)) none] [0, 5, 6, 7, 8, 10, 11, 18, 19, 20, 30])
          (.cond (.tmp 30)
            (.seq (.reg [co (some 34) (.fieldAddr 53 (.tmp 7) 2) none,
                co (some 35) (.load 51 (.tmp 34)) none,
                co (some 36) (.fieldAddr 202 (.tmp 10) 2) none,
                co (some 37) (.load 51 (.tmp 36)) none,
                cn (some 38) (.call { callee := (.builtin .append), args := #[(.tmp 35), (.tmp 37)], argTypes := #[51, 51] }) none [6],
                co (some 39) (.fieldAddr 53 (.tmp 7) 2) none,
                co none (.store 51 (.tmp 39) (.tmp 38)) none] [0, 5, 6, 7, 8, 18, 19, 20])
            (.exit 1))
            (.seq (.reg [co (some 41) (.fieldAddr 202 (.tmp 10) 0) none,
                co (some 42) (.load 3 (.tmp 41)) none,
                co (some 43) (.binOp .eql 3 (.tmp 42) (.const (.int .i64 3)) 3) none,
                co (some 40) (.assign (.tmp 43)) none] [0, 5, 6, 7, 8, 10, 11, 18, 19, 20, 40])
            (.cond (.tmp 40)
              (.reg [co (some 11) (.assign (.const (.int .i64 1))) none] [0, 5, 6, 7, 8, 10, 11, 18, 19, 20])
              (.skip))))))
      (.keep [0, 5, 6, 7, 8, 10, 11, 18, 19, 20] k1_inapply_maker_list)))))
  (.keep [0, 5, 6, 7, 8, 18, 19, 20] (.reg [co (some 105) (.binOp .add 3 (.tmp 20) (.const (.int .i64 1)) 3) none,
    co (some 20) (.move (.tmp 105)) none] [0, 5, 6, 7, 8, 18, 19, 20])))))
/-- (*cento/inapply.maker).list -/
def c_inapply_maker_list : CC :=
  .seq (.reg [cn (some 4) (.box 94 (.tmp 1)) none [1],
      cn (some 5) (.box 68 (.tmp 2)) none [2],
      cn (some 6) (.alloc 53) none [3]] [0, 4, 5, 6])
  (.seq (.reg [co (some 14) (.load 68 (.tmp 5)) none,
      co (some 15) (.call { callee := (.value (.func 80)), args := #[(.tmp 14)], argTypes := #[68] }) none,
      co (some 16) (.build 53 #[(0, (.tmp 15))]) none,
      cn (some 7) (.alloc 53) none [4],
      co none (.store 53 (.tmp 7) (.tmp 16)) none] [0, 4, 5, 6, 7])
  (.stop (.seq (.reg [co (some 8) (.assign (.const (.int .i64 0))) none] [0, 4, 5, 6, 7, 8])
  (.seq (.seq (.reg [co (some 17) (.fieldAddr 94 (.tmp 4) 6) none,
        co (some 18) (.load 92 (.tmp 17)) none,
        co (some 19) (.call { callee := (.builtin .len), args := #[(.tmp 18)], argTypes := #[92] }) none,
        co (some 20) (.move (.const (.int .i64 0))) none] [0, 5, 6, 7, 8, 18, 19, 20])
    (.block 0
      (.loop l2_inapply_maker_list)))
  (.keep [0, 5, 6, 7, 8] (.seq (.seq (.reg [co (some 106) (.move (.tmp 8)) none,
        co (some 107) (.load 68 (.tmp 5)) none,
        co (some 108) (.call { callee := (.value (.func 75)), args := #[(.tmp 107)], argTypes := #[68] }) none,
        co (some 109) (.binOp .neq 3 (.tmp 106) (.tmp 108) 3) none] [0, 6, 7, 109])
    (.cond (.tmp 109)
      (.seq (.reg [co (some 110) (.move (.tmp 0)) none,
          co (some 111) (.call { callee := (.value (.func 146)), args := #[(.tmp 110), (.const (.int .i64 13))], argTypes := #[147, 64] }) none,
          co none (.store 53 (.tmp 6) (.tmp 111)) none] [6])
      (.ret))
      (.skip)))
  (.keep [6, 7] (.seq (.reg [co (some 112) (.load 53 (.tmp 7)) none,
      co none (.store 53 (.tmp 6) (.tmp 112)) none] [6])
  (.ret)))))))))
theorem t_inapply_maker_list : Txt Try.prog 145 113 [(.cell 6 53)] c_inapply_maker_list := txt_of (code := Try.f145.body.getD .ret) mixed (by kernel_rfl) Try.func145 (by kernel_rfl) Try.ntmps145 (by kernel_rfl) (ls := [([0, 4, 5, 6], [(0, [1]), (1, [2]), (2, [3])]), ([], []), ([0, 4, 5, 6, 7], [(3, [4])]), ([999998], []), ([0, 4, 5, 6, 7, 8], []), ([], []), ([0, 5, 6, 7, 8, 18, 19, 20], []), ([], []), ([0, 5, 6, 7, 8, 18, 19, 20, 21], []), ([], []), ([999999, 0, 5, 6, 7, 8, 18, 19, 20], []), ([0, 5, 6, 7, 8, 10, 18, 19, 20], [(2, [5])]), ([], []), ([0, 5, 6, 7, 8, 10, 11, 18, 19, 20], []), ([], []), ([0, 5, 6, 7, 8, 10, 11, 18, 19, 20, 30], []), ([], []), ([0, 5, 6, 7, 8, 18, 19, 20], [(4, [6])]), ([], []), ([0, 5, 6, 7, 8, 10, 11, 18, 19, 20, 40], []), ([], []), ([0, 5, 6, 7, 8, 10, 11, 18, 19, 20], []), ([999999, 0, 5, 6, 7, 8, 10, 11, 18, 19, 20], []), ([0, 5, 6, 7, 8, 10, 11, 18, 19, 20, 56], []), ([], []), ([6], []), ([], []), ([999999, 0, 5, 6, 7, 8, 10, 11, 18, 19, 20], []), ([0, 5, 6, 7, 8, 10, 11, 18, 19, 20, 59, 60], []), ([], []), ([0, 5, 6, 7, 8, 10, 11, 18, 19, 20, 59, 60, 61], []), ([], []), ([999999, 0, 5, 6, 7, 8, 10, 11, 18, 19, 20, 59, 60], []), ([0, 5, 6, 7, 8, 10, 11, 12, 18, 19, 20, 59, 60], []), ([], []), ([0, 5, 6, 7, 8, 10, 11, 12, 13, 18, 19, 20, 59, 60], [(6, [7])]), ([], []), ([0, 5, 6, 7, 8, 10, 11, 12, 13, 18, 19, 20, 59, 60, 70], []), ([], []), ([0, 5, 6, 7, 8, 10, 11, 12, 13, 18, 19, 20, 59, 60, 70, 81], []), ([], []), ([0, 5, 6, 7, 8, 10, 11, 18, 19, 20, 59, 60], [(6, [8])]), ([0, 5, 6, 7, 8, 10, 11, 12, 13, 18, 19, 20, 59, 60, 91], []), ([], []), ([0, 5, 6, 7, 8, 10, 11, 18, 19, 20, 59, 60], []), ([0, 5, 6, 7, 8, 10, 11, 18, 19, 20, 59, 60], [(8, [9])]), ([999999, 0, 5, 6, 7, 8, 10, 11, 18, 19, 20, 59, 60], []), ([0, 5, 6, 7, 8, 10, 11, 18, 19, 20, 59, 60], []), ([999997, 0, 5, 6, 7, 8, 11, 18, 19, 20], []), ([0, 5, 6, 7, 8, 18, 19, 20], []), ([999999, 0, 5, 6, 7, 8, 18, 19, 20], []), ([0, 5, 6, 7, 8, 18, 19, 20], []), ([999999, 0, 5, 6, 7, 8], []), ([0, 6, 7, 109], []), ([], []), ([6], []), ([], []), ([999999, 6, 7], []), ([6], []), ([], [])]) (by kernel_rfl)
/-- cento/inapply.Edit -/
def c_inapply_Edit : CC :=
  .seq (.reg [cn (some 2) (.box 94 (.tmp 0)) none [0],
      cn (some 3) (.box 68 (.tmp 1)) none [1],
      cn (some 4) (.alloc 53) none [2],
      co (some 5) (.assign (.const (.int .i64 0))) none] [2, 3, 4])
  (.seq (.reg [co (some 8) (.build 149 #[]) none,
      cn (some 9) (.box 149 (.tmp 8)) none [3],
      co (some 6) (.assign (.tmp 9)) none] [2, 3, 4, 6])
  (.seq (.reg [co (some 10) (.move (.tmp 6)) none,
      co (some 11) (.load 94 (.tmp 2)) none,
      co (some 12) (.load 68 (.tmp 3)) none,
      co (some 13) (.call { callee := (.value (.func 91)), args := #[(.tmp 10), (.tmp 11), (.tmp 12)], argTypes := #[147, 94, 68] }) none,
      cn (some 7) (.alloc 53) none [4],
      co none (.store 53 (.tmp 7) (.tmp 13)) none] [4, 6, 7])
  (.seq (.seq (.reg [co (some 14) (.move (.tmp 6)) none,
        co (some 15) (.nilCheck (.tmp 14)) none,
        co (some 16) (.fieldAddr 149 (.tmp 15) 0) none,
        co (some 17) (.load 64 (.tmp 16)) none,
        co (some 18) (.binOp .neq 64 (.tmp 17) (.const (.int .i64 0)) 64) none] [4, 6, 7, 18])
    (.cond (.tmp 18)
      (.seq (.reg [co (some 19) (.build 53 #[]) none,
          co (some 20) (.move (.tmp 6)) none,
          co (some 21) (.nilCheck (.tmp 20)) none,
          co (some 22) (.fieldAddr 149 (.tmp 21) 0) none,
          ⟨some 23, (.load 64 (.tmp 22)), none, [], 4, [], true⟩,
          ⟨none, (.store 53 (.tmp 4) (.tmp 19)), none, [], 5, [4], false⟩,
          co (some 5) (.assign (.tmp 23)) none] [4, 5])
      (.ret))
      (.skip)))
  (.keep [4, 7] (.seq (.reg [co (some 24) (.load 53 (.tmp 7)) none,
      co (some 25) (.call { callee := (.value (.func 92)), args := #[(.tmp 24)], argTypes := #[53] }) none,
      co none (.store 53 (.tmp 4) (.tmp 25)) none,
      co (some 5) (.assign (.const (.int .i64 0))) none] [4, 5])
  (.ret))))))
theorem t_inapply_Edit : Txt Try.prog 50 26 [(.cell 4 53), (.tmp 5)] c_inapply_Edit := txt_of (code := Try.f50.body.getD .ret) mixed (by kernel_rfl) Try.func50 (by kernel_rfl) Try.ntmps50 (by kernel_rfl) (ls := [([2, 3, 4], [(0, [0]), (1, [1]), (2, [2])]), ([], []), ([2, 3, 4, 6], [(1, [3])]), ([], []), ([4, 6, 7], [(4, [4])]), ([], []), ([4, 6, 7, 18], []), ([], []), ([4, 5], []), ([], []), ([999999, 4, 7], []), ([4, 5], []), ([], [])]) (by kernel_rfl)
/-- cento/centoref21.word -/
def c_centoref21_word : CC :=
  .seq (.reg [cn (some 2) (.box 53 (.tmp 0)) none [0],
      co (some 4) (.assign (.const (.int .u64 0))) none] [1, 2])
  (.seq (.seq (.reg [co (some 5) (.move (.tmp 1)) none,
        co (some 6) (.fieldAddr 53 (.tmp 2) 1) none,
        co (some 7) (.load 23 (.tmp 6)) none,
        co (some 8) (.call { callee := (.builtin .len), args := #[(.tmp 7)], argTypes := #[23] }) none,
        co (some 9) (.binOp .lss 3 (.tmp 5) (.tmp 8) 3) none] [1, 2, 9])
    (.cond (.tmp 9)
      (.seq (.reg [co (some 10) (.fieldAddr 53 (.tmp 2) 1) none,
          co (some 11) (.load 23 (.tmp 10)) none,
          co (some 12) (.move (.tmp 1)) none,
          co (some 13) (.indexAddr 23 (.tmp 11) (.tmp 12)) none,
          co (some 14) (.load 26 (.tmp 13)) none,
          co (some 4) (.assign (.tmp 14)) none] [4])
      (.ret))
      (.skip)))
  (.keep [] (.seq (.reg [co (some 4) (.assign (.const (.int .u64 0))) none] [4])
  (.ret))))
theorem t_centoref21_word : Txt Try.prog 147 15 [(.tmp 4)] c_centoref21_word := txt_of (code := Try.f147.body.getD .ret) mixed (by kernel_rfl) Try.func147 (by kernel_rfl) Try.ntmps147 (by kernel_rfl) (ls := [([1, 2], [(0, [0])]), ([], []), ([1, 2, 9], []), ([], []), ([4], []), ([], []), ([999999], []), ([4], []), ([], [])]) (by kernel_rfl)
/-- cento/centoref21.kid -/
def c_centoref21_kid : CC :=
  .seq (.reg [cn (some 2) (.box 53 (.tmp 0)) none [0],
      cn (some 4) (.alloc 53) none [1]] [1, 2, 4])
  (.seq (.seq (.reg [co (some 5) (.move (.tmp 1)) none,
        co (some 6) (.fieldAddr 53 (.tmp 2) 2) none,
        co (some 7) (.load 51 (.tmp 6)) none,
        co (some 8) (.call { callee := (.builtin .len), args := #[(.tmp 7)], argTypes := #[51] }) none,
        co (some 9) (.binOp .lss 3 (.tmp 5) (.tmp 8) 3) none] [1, 2, 4, 9])
    (.cond (.tmp 9)
      (.seq (.reg [co (some 10) (.fieldAddr 53 (.tmp 2) 2) none,
          co (some 11) (.load 51 (.tmp 10)) none,
          co (some 12) (.move (.tmp 1)) none,
          co (some 13) (.indexAddr 51 (.tmp 11) (.tmp 12)) none,
          co (some 14) (.load 53 (.tmp 13)) none,
          co none (.store 53 (.tmp 4) (.tmp 14)) none] [4])
      (.ret))
      (.skip)))
  (.keep [4] (.seq (.reg [co (some 15) (.build 53 #[]) none,
      co none (.store 53 (.tmp 4) (.tmp 15)) none] [4])
  (.ret))))
theorem t_centoref21_kid : Txt Try.prog 149 16 [(.cell 4 53)] c_centoref21_kid := txt_of (code := Try.f149.body.getD .ret) mixed (by kernel_rfl) Try.func149 (by kernel_rfl) Try.ntmps149 (by kernel_rfl) (ls := [([1, 2, 4], [(0, [0]), (1, [1])]), ([], []), ([1, 2, 4, 9], []), ([], []), ([4], []), ([], []), ([999999, 4], []), ([4], []), ([], [])]) (by kernel_rfl)
def l1_centoref21_structure : CC :=
  .seq (.seq (.reg [co (some 78) (.move (.tmp 12)) none,
        co (some 79) (.move (.tmp 7)) none,
        co (some 80) (.binOp .lss 3 (.tmp 78) (.tmp 79) 3) none] [2, 3, 4, 6, 7, 8, 11, 12, 80])
    (.cond (.tmp 80)
      (.skip)
      (.exit 0)))
  (.keep [2, 3, 4, 6, 7, 8, 11, 12] (.seq (.block 1
      (.seq (.reg [co (some 83) (.load 53 (.tmp 3)) none,
          co (some 84) (.move (.tmp 12)) none,
          co (some 85) (.call { callee := (.value (.func 147)), args := #[(.tmp 83), (.tmp 84)], argTypes := #[53, 3] }) none,
          co (some 13) (.assign (.tmp 85)) none] [2, 3, 4, 6, 7, 8, 11, 12, 13])
      (.seq (.seq (.reg [co (some 86) (.move (.tmp 11)) none,
            co (some 87) (.fieldAddr 94 (.tmp 2) 3) none,
            co (some 88) (.load 90 (.tmp 87)) none,
            co (some 89) (.call { callee := (.builtin .len), args := #[(.tmp 88)], argTypes := #[90] }) none,
            co (some 90) (.binOp .lss 3 (.tmp 86) (.tmp 89) 3) none,
            co (some 91) (.move (.tmp 90)) none,
            co (some 92) (.fieldAddr 94 (.tmp 2) 3) (some (91, true)),
            co (some 93) (.load 90 (.tmp 92)) (some (91, true)),
            co (some 94) (.move (.tmp 11)) (some (91, true)),
            co (some 95) (.indexAddr 90 (.tmp 93) (.tmp 94)) (some (91, true)),
            co (some 96) (.fieldAddr 196 (.tmp 95) 0) (some (91, true)),
            co (some 97) (.load 3 (.tmp 96)) (some (91, true)),
            co (some 98) (.move (.tmp 12)) (some (91, true)),
            co (some 99) (.binOp .eql 3 (.tmp 97) (.tmp 98) 3) (some (91, true)),
            co (some 100) (.pick (.tmp 91) (.tmp 99) (.const (.bool false))) none] [2, 3, 4, 6, 7, 8, 11, 12, 13, 100])
        (.cond (.tmp 100)
          (.seq (.reg [co (some 101) (.fieldAddr 94 (.tmp 2) 3) none,
              co (some 102) (.load 90 (.tmp 101)) none,
              co (some 103) (.move (.tmp 11)) none,
              co (some 104) (.indexAddr 90 (.tmp 102) (.tmp 103)) none,
              co (some 105) (.load 196 (.tmp 104)) none,
              cn (some 14) (.alloc 196) none [4],
              co none (.store 196 (.tmp 14) (.tmp 105)) none] [2, 3, 4, 6, 7, 8, 11, 12, 13, 14])
          (.seq (.seq (.reg [co (some 106) (.move (.tmp 13)) none,
                co (some 107) (.fieldAddr 196 (.tmp 14) 1) none,
                co (some 108) (.load 5 (.tmp 107)) none,
                ⟨some 109, (.call { callee := (.value (.func 148)), args := #[(.const (.int .u64 0)), (.tmp 106), (.tmp 108)], argTypes := #[26, 26, 5] }), none, [], 3, [], true⟩,
                co (some 110) (.fieldAddr 196 (.tmp 14) 2) none,
                ⟨some 111, (.load 26 (.tmp 110)), none, [], 5, [3], false⟩,
                co (some 112) (.binOp .neq 26 (.tmp 109) (.tmp 111) 26) none] [2, 3, 4, 6, 7, 8, 11, 12, 13, 14, 112])
            (.cond (.tmp 112)
              (.seq (.reg [co (some 113) (.build 53 #[]) none,
                  co none (.store 53 (.tmp 4) (.tmp 113)) none,
                  co (some 5) (.assign (.const (.bool false))) none] [4, 5])
              (.ret))
              (.skip)))
          (.keep [2, 3, 4, 6, 7, 8, 11, 12, 13, 14] (.seq (.reg [co (some 114) (.move (.tmp 13)) none,
              co (some 115) (.fieldAddr 196 (.tmp 14) 3) none,
              co (some 116) (.load 26 (.tmp 115)) none,
              co (some 117) (.fieldAddr 196 (.tmp 14) 1) none,
              co (some 118) (.load 5 (.tmp 117)) none,
              co (some 119) (.call { callee := (.value (.func 148)), args := #[(.tmp 114), (.tmp 116), (.tmp 118)], argTypes := #[26, 26, 5] }) none,
              co (some 13) (.assign (.tmp 119)) none] [2, 3, 4, 6, 7, 8, 11, 12, 13])
          (.reg [co (some 120) (.move (.tmp 11)) none,
            co (some 121) (.binOp .add 3 (.tmp 120) (.const (.int .i64 1)) 3) none,
            co (some 11) (.assign (.tmp 121)) none] [2, 3, 4, 6, 7, 8, 11, 12, 13])))))
          (.skip)))
      (.keep [2, 3, 4, 6, 7, 8, 11, 12, 13] (.reg [co (some 122) (.fieldAddr 53 (.tmp 6) 1) none,
        co (some 123) (.load 23 (.tmp 122)) none,
        co (some 124) (.move (.tmp 13)) none,
        co (some 125) (.buildSlice 23 1 #[(0, (.tmp 124))]) none,
        cn (some 126) (.call { callee := (.builtin .append), args := #[(.tmp 123), (.tmp 125)], argTypes := #[23, 23] }) none [5],
        co (some 127) (.fieldAddr 53 (.tmp 6) 1) none,
        co none (.store 23 (.tmp 127) (.tmp 126)) none] [2, 3, 4, 6, 7, 8, 11, 12])))))
  (.keep [2, 3, 4, 6, 7, 8, 11, 12] (.reg [co (some 81) (.move (.tmp 12)) none,
    co (some 82) (.binOp .add 3 (.tmp 81) (.const (.int .i64 1)) 3) none,
    co (some 12) (.assign (.tmp 82)) none] [2, 3, 4, 6, 7, 8, 11, 12]))))
def l2_centoref21_structure : CC :=
  .seq (.seq (.reg [co (some 128) (.move (.tmp 15)) none,
        co (some 129) (.move (.tmp 8)) none,
        co (some 130) (.binOp .lss 3 (.tmp 128) (.tmp 129) 3) none] [2, 3, 4, 6, 8, 11, 15, 130])
    (.cond (.tmp 130)
      (.skip)
      (.exit 2)))
  (.keep [2, 3, 4, 6, 8, 11, 15] (.seq (.block 3
      (.seq (.reg [co (some 133) (.load 53 (.tmp 3)) none,
          co (some 134) (.move (.tmp 15)) none,
          co (some 135) (.call { callee := (.value (.func 149)), args := #[(.tmp 133), (.tmp 134)], argTypes := #[53, 3] }) none,
          cn (some 16) (.alloc 53) none [6],
          co none (.store 53 (.tmp 16) (.tmp 135)) none] [2, 3, 4, 6, 8, 11, 15, 16])
      (.seq (.seq (.reg [co (some 136) (.move (.tmp 11)) none,
            co (some 137) (.fieldAddr 94 (.tmp 2) 4) none,
            co (some 138) (.load 91 (.tmp 137)) none,
            co (some 139) (.call { callee := (.builtin .len), args := #[(.tmp 138)], argTypes := #[91] }) none,
            co (some 140) (.binOp .lss 3 (.tmp 136) (.tmp 139) 3) none,
            co (some 141) (.move (.tmp 140)) none,
            co (some 142) (.fieldAddr 94 (.tmp 2) 4) (some (141, true)),
            co (some 143) (.load 91 (.tmp 142)) (some (141, true)),
            co (some 144) (.move (.tmp 11)) (some (141, true)),
            co (some 145) (.indexAddr 91 (.tmp 143) (.tmp 144)) (some (141, true)),
            co (some 146) (.fieldAddr 199 (.tmp 145) 0) (some (141, true)),
            co (some 147) (.load 3 (.tmp 146)) (some (141, true)),
            co (some 148) (.move (.tmp 15)) (some (141, true)),
            co (some 149) (.binOp .eql 3 (.tmp 147) (.tmp 148) 3) (some (141, true)),
            co (some 150) (.pick (.tmp 141) (.tmp 149) (.const (.bool false))) none] [2, 3, 4, 6, 8, 11, 15, 16, 150])
        (.cond (.tmp 150)
          (.seq (.reg [co (some 152) (.fieldAddr 94 (.tmp 2) 4) none,
              ⟨some 153, (.load 91 (.tmp 152)), none, [], 1, [], true⟩,
              co (some 154) (.move (.tmp 11)) none,
              co (some 155) (.indexAddr 91 (.tmp 153) (.tmp 154)) none,
              co (some 156) (.fieldAddr 199 (.tmp 155) 1) none,
              ⟨some 157, (.load 94 (.tmp 156)), none, [], 5, [], true⟩,
              ⟨some 158, (.load 53 (.tmp 16)), none, [], 6, [], true⟩,
              ⟨some 159, (.call { callee := (.value (.func 52)), args := #[(.tmp 157), (.tmp 158)], argTypes := #[94, 53] }), none, [], 7, [], true⟩,
              co (some 151) (.move (.tmp 159)) none,
              co (some 160) (.extract (.tmp 151) 0) none,
              co (some 161) (.extract (.tmp 151) 1) none,
              ⟨some 17, (.alloc 53), none, [7], 11, [1, 5, 6, 7], false⟩,
              co none (.store 53 (.tmp 17) (.tmp 160)) none,
              co (some 18) (.assign (.tmp 161)) none] [2, 3, 4, 6, 8, 11, 15, 16, 17, 18])
          (.seq (.seq (.reg [co (some 162) (.move (.tmp 18)) none,
                co (some 163) (.unOp .not 4 (.tmp 162)) none] [2, 3, 4, 6, 8, 11, 15, 16, 17, 163])
            (.cond (.tmp 163)
              (.seq (.reg [co (some 164) (.build 53 #[]) none,
                  co none (.store 53 (.tmp 4) (.tmp 164)) none,
                  co (some 5) (.assign (.const (.bool false))) none] [4, 5])
              (.ret))
              (.skip)))
          (.keep [2, 3, 4, 6, 8, 11, 15, 16, 17] (.seq (.reg [co (some 165) (.load 53 (.tmp 17)) none,
              co none (.store 53 (.tmp 16) (.tmp 165)) none] [2, 3, 4, 6, 8, 11, 15, 16])
          (.reg [co (some 166) (.move (.tmp 11)) none,
            co (some 167) (.binOp .add 3 (.tmp 166) (.const (.int .i64 1)) 3) none,
            co (some 11) (.assign (.tmp 167)) none] [2, 3, 4, 6, 8, 11, 15, 16])))))
          (.skip)))
      (.keep [2, 3, 4, 6, 8, 11, 15, 16] (.reg [co (some 168) (.fieldAddr 53 (.tmp 6) 2) none,
        co (some 169) (.load 51 (.tmp 168)) none,
        co (some 170) (.load 53 (.tmp 16)) none,
        co (some 171) (.buildSlice 51 1 #[(0, (.tmp 170))]) none,
        cn (some 172) (.call { callee := (.builtin .append), args := #[(.tmp 169), (.tmp 171)], argTypes := #[51, 51] }) none [8],
        co (some 173) (.fieldAddr 53 (.tmp 6) 2) none,
        co none (.store 51 (.tmp 173) (.tmp 172)) none] [2, 3, 4, 6, 8, 11, 15])))))
  (.keep [2, 3, 4, 6, 8, 11, 15] (.reg [co (some 131) (.move (.tmp 15)) none,
    co (some 132) (.binOp .add 3 (.tmp 131) (.const (.int .i64 1)) 3) none,
    co (some 15) (.assign (.tmp 132)) none] [2, 3, 4, 6, 8, 11, 15]))))
def k1_centoref21_structure : CC :=
  .seq (.reg [co (some 11) (.assign (.const (.int .i64 0))) none] [2, 3, 4, 6, 7, 8, 11])
  (.seq (.seq (.reg [co (some 12) (.assign (.const (.int .i64 0))) none] [2, 3, 4, 6, 7, 8, 11, 12])
    (.block 0
      (.loop l1_centoref21_structure)))
  (.keep [2, 3, 4, 6, 8] (.seq (.reg [co (some 11) (.assign (.const (.int .i64 0))) none] [2, 3, 4, 6, 8, 11])
  (.seq (.seq (.reg [co (some 15) (.assign (.const (.int .i64 0))) none] [2, 3, 4, 6, 8, 11, 15])
    (.block 2
      (.loop l2_centoref21_structure)))
  (.keep [4, 6] (.seq (.reg [co (some 174) (.load 53 (.tmp 6)) none,
      co none (.store 53 (.tmp 4) (.tmp 174)) none,
      co (some 5) (.assign (.const (.bool true))) none] [4, 5])
  (.ret)))))))
def k2_centoref21_structure : CC :=
  .seq (.seq (.reg [co (some 54) (.fieldAddr 94 (.tmp 2) 4) none,
        co (some 55) (.load 91 (.tmp 54)) none,
        co (some 56) (.call { callee := (.builtin .len), args := #[(.tmp 55)], argTypes := #[91] }) none,
        co (some 10) (.assign (.tmp 56)) none] [2, 3, 4, 6, 7, 8, 10])
    (.seq (.reg [co (some 57) (.move (.tmp 10)) none,
        co (some 58) (.binOp .gtr 3 (.tmp 57) (.const (.int .i64 0)) 3) none,
        co (some 59) (.move (.tmp 58)) none,
        co (some 60) (.fieldAddr 94 (.tmp 2) 4) (some (59, true)),
        co (some 61) (.load 91 (.tmp 60)) (some (59, true)),
        co (some 62) (.move (.tmp 10)) (some (59, true)),
        co (some 63) (.binOp .sub 3 (.tmp 62) (.const (.int .i64 1)) 3) (some (59, true)),
        co (some 64) (.indexAddr 91 (.tmp 61) (.tmp 63)) (some (59, true)),
        co (some 65) (.fieldAddr 199 (.tmp 64) 0) (some (59, true)),
        co (some 66) (.load 3 (.tmp 65)) (some (59, true)),
        co (some 67) (.move (.tmp 8)) (some (59, true)),
        co (some 68) (.binOp .geq 3 (.tmp 66) (.tmp 67) 3) (some (59, true)),
        co (some 69) (.pick (.tmp 59) (.tmp 68) (.const (.bool false))) none] [2, 3, 4, 6, 7, 8, 10, 69])
    (.cond (.tmp 69)
      (.reg [co (some 70) (.fieldAddr 94 (.tmp 2) 4) none,
        co (some 71) (.load 91 (.tmp 70)) none,
        co (some 72) (.move (.tmp 10)) none,
        co (some 73) (.binOp .sub 3 (.tmp 72) (.const (.int .i64 1)) 3) none,
        co (some 74) (.indexAddr 91 (.tmp 71) (.tmp 73)) none,
        co (some 75) (.fieldAddr 199 (.tmp 74) 0) none,
        co (some 76) (.load 3 (.tmp 75)) none,
        co (some 77) (.binOp .add 3 (.tmp 76) (.const (.int .i64 1)) 3) none,
        co (some 8) (.assign (.tmp 77)) none] [2, 3, 4, 6, 7, 8])
      (.skip))))
  (.keep [2, 3, 4, 6, 7, 8] k1_centoref21_structure)
/-- cento/centoref21.structure -/
def c_centoref21_structure : CC :=
  .seq (.reg [cn (some 2) (.box 94 (.tmp 0)) none [0],
      cn (some 3) (.box 53 (.tmp 1)) none [1],
      cn (some 4) (.alloc 53) none [2],
      co (some 5) (.assign (.const (.bool false))) none] [2, 3, 4])
  (.seq (.seq (.reg [co (some 19) (.fieldAddr 53 (.tmp 3) 0) none,
        co (some 20) (.load 3 (.tmp 19)) none,
        co (some 21) (.binOp .neq 3 (.tmp 20) (.const (.int .i64 1)) 3) none] [2, 3, 4, 21])
    (.cond (.tmp 21)
      (.seq (.reg [co (some 22) (.build 53 #[]) none,
          co none (.store 53 (.tmp 4) (.tmp 22)) none,
          co (some 5) (.assign (.const (.bool false))) none] [4, 5])
      (.ret))
      (.skip)))
  (.keep [2, 3, 4] (.seq (.reg [co (some 23) (.build 53 #[(0, (.const (.int .i64 1)))]) none,
      cn (some 6) (.alloc 53) none [3],
      co none (.store 53 (.tmp 6) (.tmp 23)) none] [2, 3, 4, 6])
  (.seq (.reg [co (some 24) (.fieldAddr 53 (.tmp 3) 1) none,
      co (some 25) (.load 23 (.tmp 24)) none,
      co (some 26) (.call { callee := (.builtin .len), args := #[(.tmp 25)], argTypes := #[23] }) none,
      co (some 27) (.fieldAddr 53 (.tmp 3) 2) none,
      co (some 28) (.load 51 (.tmp 27)) none,
      co (some 29) (.call { callee := (.builtin .len), args := #[(.tmp 28)], argTypes := #[51] }) none,
      co (some 7) (.assign (.tmp 26)) none,
      co (some 8) (.assign (.tmp 29)) none] [2, 3, 4, 6, 7, 8])
  (.stop (.seq (.seq (.reg [co (some 30) (.fieldAddr 94 (.tmp 2) 3) none,
        co (some 31) (.load 90 (.tmp 30)) none,
        co (some 32) (.call { callee := (.builtin .len), args := #[(.tmp 31)], argTypes := #[90] }) none,
        co (some 9) (.assign (.tmp 32)) none] [2, 3, 4, 6, 7, 8, 9])
    (.seq (.reg [co (some 33) (.move (.tmp 9)) none,
        co (some 34) (.binOp .gtr 3 (.tmp 33) (.const (.int .i64 0)) 3) none,
        co (some 35) (.move (.tmp 34)) none,
        co (some 36) (.fieldAddr 94 (.tmp 2) 3) (some (35, true)),
        co (some 37) (.load 90 (.tmp 36)) (some (35, true)),
        co (some 38) (.move (.tmp 9)) (some (35, true)),
        co (some 39) (.binOp .sub 3 (.tmp 38) (.const (.int .i64 1)) 3) (some (35, true)),
        co (some 40) (.indexAddr 90 (.tmp 37) (.tmp 39)) (some (35, true)),
        co (some 41) (.fieldAddr 196 (.tmp 40) 0) (some (35, true)),
        co (some 42) (.load 3 (.tmp 41)) (some (35, true)),
        co (some 43) (.move (.tmp 7)) (some (35, true)),
        co (some 44) (.binOp .geq 3 (.tmp 42) (.tmp 43) 3) (some (35, true)),
        co (some 45) (.pick (.tmp 35) (.tmp 44) (.const (.bool false))) none] [2, 3, 4, 6, 7, 8, 9, 45])
    (.cond (.tmp 45)
      (.reg [co (some 46) (.fieldAddr 94 (.tmp 2) 3) none,
        co (some 47) (.load 90 (.tmp 46)) none,
        co (some 48) (.move (.tmp 9)) none,
        co (some 49) (.binOp .sub 3 (.tmp 48) (.const (.int .i64 1)) 3) none,
        co (some 50) (.indexAddr 90 (.tmp 47) (.tmp 49)) none,
        co (some 51) (.fieldAddr 196 (.tmp 50) 0) none,
        co (some 52) (.load 3 (.tmp 51)) none,
        co (some 53) (.binOp .add 3 (.tmp 52) (.const (.int .i64 1)) 3) none,
        co (some 7) (.assign (.tmp 53)) none] [2, 3, 4, 6, 7, 8])
      (.skip))))
  (.keep [2, 3, 4, 6, 7, 8] k2_centoref21_structure)))))))
theorem t_centoref21_structure : Txt Try.prog 94 175 [(.cell 4 53), (.tmp 5)] c_centoref21_structure := txt_of (code := Try.f94.body.getD .ret) mixed (by kernel_rfl) Try.func94 (by kernel_rfl) Try.ntmps94 (by kernel_rfl) (ls := [([2, 3, 4], [(0, [0]), (1, [1]), (2, [2])]), ([], []), ([2, 3, 4, 21], []), ([], []), ([4, 5], []), ([], []), ([999999, 2, 3, 4], []), ([2, 3, 4, 6], [(1, [3])]), ([], []), ([2, 3, 4, 6, 7, 8], []), ([999998], []), ([2, 3, 4, 6, 7, 8, 9], []), ([], []), ([2, 3, 4, 6, 7, 8, 9, 45], []), ([], []), ([2, 3, 4, 6, 7, 8], []), ([999999, 2, 3, 4, 6, 7, 8], []), ([2, 3, 4, 6, 7, 8, 10], []), ([], []), ([2, 3, 4, 6, 7, 8, 10, 69], []), ([], []), ([2, 3, 4, 6, 7, 8], []), ([999999, 2, 3, 4, 6, 7, 8], []), ([2, 3, 4, 6, 7, 8, 11], []), ([], []), ([2, 3, 4, 6, 7, 8, 11, 12], []), ([], []), ([2, 3, 4, 6, 7, 8, 11, 12, 80], []), ([], []), ([999999, 2, 3, 4, 6, 7, 8, 11, 12], []), ([2, 3, 4, 6, 7, 8, 11, 12, 13], []), ([], []), ([2, 3, 4, 6, 7, 8, 11, 12, 13, 100], []), ([], []), ([2, 3, 4, 6, 7, 8, 11, 12, 13, 14], [(5, [4])]), ([], []), ([2, 3, 4, 6, 7, 8, 11, 12, 13, 14, 112], []), ([], []), ([4, 5], []), ([], []), ([999999, 2, 3, 4, 6, 7, 8, 11, 12, 13, 14], []), ([2, 3, 4, 6, 7, 8, 11, 12, 13], []), ([], []), ([2, 3, 4, 6, 7, 8, 11, 12, 13], []), ([999999, 2, 3, 4, 6, 7, 8, 11, 12, 13], []), ([2, 3, 4, 6, 7, 8, 11, 12], [(4, [5])]), ([999999, 2, 3, 4, 6, 7, 8, 11, 12], []), ([2, 3, 4, 6, 7, 8, 11, 12], []), ([999999, 2, 3, 4, 6, 8], []), ([2, 3, 4, 6, 8, 11], []), ([], []), ([2, 3, 4, 6, 8, 11, 15], []), ([], []), ([2, 3, 4, 6, 8, 11, 15, 130], []), ([], []), ([999999, 2, 3, 4, 6, 8, 11, 15], []), ([2, 3, 4, 6, 8, 11, 15, 16], [(3, [6])]), ([], []), ([2, 3, 4, 6, 8, 11, 15, 16, 150], []), ([], []), ([2, 3, 4, 6, 8, 11, 15, 16, 17, 18], [(11, [7])]), ([], []), ([2, 3, 4, 6, 8, 11, 15, 16, 17, 163], []), ([], []), ([4, 5], []), ([], []), ([999999, 2, 3, 4, 6, 8, 11, 15, 16, 17], []), ([2, 3, 4, 6, 8, 11, 15, 16], []), ([], []), ([2, 3, 4, 6, 8, 11, 15, 16], []), ([999999, 2, 3, 4, 6, 8, 11, 15, 16], []), ([2, 3, 4, 6, 8, 11, 15], [(4, [8])]), ([999999, 2, 3, 4, 6, 8, 11, 15], []), ([2, 3, 4, 6, 8, 11, 15], []), ([999999, 4, 6], []), ([4, 5], []), ([], [])]) (by kernel_rfl)
def l1_centoref21_list : CC :=
  .seq (.seq (.reg [co (some 35) (.move (.tmp 10)) none,
        co (some 36) (.fieldAddr 202 (.tmp 9) 1) none,
        co (some 37) (.load 3 (.tmp 36)) none,
        co (some 38) (.binOp .lss 3 (.tmp 35) (.tmp 37) 3) none,
        co (some 39) (.move (.tmp 38)) none,
        co (some 40) (.fieldAddr 202 (.tmp 9) 0) (some (39, true)),
        co (some 41) (.load 3 (.tmp 40)) (some (39, true)),
        co (some 42) (.binOp .eql 3 (.tmp 41) (.const (.int .i64 0)) 3) (some (39, true)),
        co (some 43) (.pick (.tmp 39) (.tmp 42) (.const (.bool false))) none] [2, 3, 4, 6, 7, 8, 9, 10, 43])
    (.cond (.tmp 43)
      (.skip)
      (.exit 2)))
  (.keep [2, 3, 4, 6, 7, 8, 9, 10] (.seq (.block 3
      (.seq (.seq (.reg [co (some 46) (.move (.tmp 7)) none,
            co (some 47) (.fieldAddr 53 (.tmp 3) 2) none,
            co (some 48) (.load 51 (.tmp 47)) none,
            co (some 49) (.call { callee := (.builtin .len), args := #[(.tmp 48)], argTypes := #[51] }) none,
            co (some 50) (.binOp .geq 3 (.tmp 46) (.tmp 49) 3) none] [2, 3, 4, 6, 7, 8, 9, 10, 50])
        (.cond (.tmp 50)
          (.seq (.reg [co (some 51) (.build 53 #[]) none,
              co none (.store 53 (.tmp 4) (.tmp 51)) none,
              co (some 5) (.assign (.const (.bool false))) none] [4, 5])
          (.ret))
          (.skip)))
      (.keep [2, 3, 4, 6, 7, 8, 9, 10] (.seq (.reg [co (some 52) (.fieldAddr 53 (.tmp 6) 2) none,
          ⟨some 53, (.load 51 (.tmp 52)), none, [], 1, [], true⟩,
          co (some 54) (.fieldAddr 53 (.tmp 3) 2) none,
          co (some 55) (.load 51 (.tmp 54)) none,
          co (some 56) (.move (.tmp 7)) none,
          co (some 57) (.indexAddr 51 (.tmp 55) (.tmp 56)) none,
          co (some 58) (.load 53 (.tmp 57)) none,
          ⟨some 59, (.buildSlice 51 1 #[(0, (.tmp 58))]), none, [], 7, [1], false⟩,
          cn (some 60) (.call { callee := (.builtin .append), args := #[(.tmp 53), (.tmp 59)], argTypes := #[51, 51] }) none [5],
          co (some 61) (.fieldAddr 53 (.tmp 6) 2) none,
          co none (.store 51 (.tmp 61) (.tmp 60)) none] [2, 3, 4, 6, 7, 8, 9, 10])
      (.stop (.reg [co (some 62) (.move (.tmp 7)) none,
        co (some 63) (.binOp .add 3 (.tmp 62) (.const (.int .i64 1)) 3) none,
        co (some 7) (.assign (.tmp 63)) none] [2, 3, 4, 6, 7, 8, 9, 10]))))))
  (.keep [2, 3, 4, 6, 7, 8, 9, 10] (.reg [co (some 44) (.move (.tmp 10)) none,
    co (some 45) (.binOp .add 3 (.tmp 44) (.const (.int .i64 1)) 3) none,
    co (some 10) (.assign (.tmp 45)) none] [2, 3, 4, 6, 7, 8, 9, 10]))))
def l2_centoref21_list : CC :=
  .seq (.seq (.reg [co (some 64) (.move (.tmp 11)) none,
        co (some 65) (.fieldAddr 202 (.tmp 9) 2) none,
        co (some 66) (.load 51 (.tmp 65)) none,
        co (some 67) (.call { callee := (.builtin .len), args := #[(.tmp 66)], argTypes := #[51] }) none,
        co (some 68) (.binOp .lss 3 (.tmp 64) (.tmp 67) 3) none] [2, 3, 4, 6, 7, 8, 9, 11, 68])
    (.cond (.tmp 68)
      (.skip)
      (.exit 4)))
  (.keep [2, 3, 4, 6, 7, 8, 9, 11] (.seq (.block 5
      (.seq (.seq (.reg [co (some 71) (.fieldAddr 202 (.tmp 9) 0) none,
            co (some 72) (.load 3 (.tmp 71)) none,
            co (some 73) (.binOp .eql 3 (.tmp 72) (.const (.int .i64 2)) 3) none] [2, 3, 4, 6, 7, 8, 9, 11, 73])
        (.cond (.tmp 73)
          (.seq (.reg [co (some 74) (.fieldAddr 53 (.tmp 6) 2) none,
              ⟨some 75, (.load 51 (.tmp 74)), none, [], 1, [], true⟩,
              co (some 76) (.fieldAddr 202 (.tmp 9) 2) none,
              co (some 77) (.load 51 (.tmp 76)) none,
              co (some 78) (.move (.tmp 11)) none,
              co (some 79) (.indexAddr 51 (.tmp 77) (.tmp 78)) none,
              co (some 80) (.load 53 (.tmp 79)) none,
              ⟨some 81, (.buildSlice 51 1 #[(0, (.tmp 80))]), none, [], 7, [1], false⟩,
              cn (some 82) (.call { callee := (.builtin .append), args := #[(.tmp 75), (.tmp 81)], argTypes := #[51, 51] }) none [6],
              co (some 83) (.fieldAddr 53 (.tmp 6) 2) none,
              co none (.store 51 (.tmp 83) (.tmp 82)) none] [2, 3, 4, 6, 7, 8, 9, 11])
          (.exit 5))
          (.skip)))
      (.keep [2, 3, 4, 6, 7, 8, 9, 11] (.seq (.seq (.reg [co (some 84) (.move (.tmp 7)) none,
            co (some 85) (.fieldAddr 53 (.tmp 3) 2) none,
            co (some 86) (.load 51 (.tmp 85)) none,
            co (some 87) (.call { callee := (.builtin .len), args := #[(.tmp 86)], argTypes := #[51] }) none,
            co (some 88) (.binOp .geq 3 (.tmp 84) (.tmp 87) 3) none,
            co (some 89) (.move (.tmp 88)) none,
            co (some 90) (.fieldAddr 53 (.tmp 3) 2) (some (89, false)),
            co (some 91) (.load 51 (.tmp 90)) (some (89, false)),
            co (some 92) (.move (.tmp 7)) (some (89, false)),
            co (some 93) (.indexAddr 51 (.tmp 91) (.tmp 92)) (some (89, false)),
            co (some 94) (.load 53 (.tmp 93)) (some (89, false)),
            co (some 95) (.fieldAddr 202 (.tmp 9) 2) (some (89, false)),
            co (some 96) (.load 51 (.tmp 95)) (some (89, false)),
            co (some 97) (.move (.tmp 11)) (some (89, false)),
            co (some 98) (.indexAddr 51 (.tmp 96) (.tmp 97)) (some (89, false)),
            co (some 99) (.load 53 (.tmp 98)) (some (89, false)),
            co (some 100) (.call { callee := (.value (.func 93)), args := #[(.tmp 94), (.tmp 99)], argTypes := #[53, 53] }) (some (89, false)),
            co (some 101) (.unOp .not 4 (.tmp 100)) (some (89, false)),
            co (some 102) (.pick (.tmp 89) (.const (.bool true)) (.tmp 101)) none] [2, 3, 4, 6, 7, 8, 9, 11, 102])
        (.cond (.tmp 102)
          (.seq (.reg [co (some 103) (.build 53 #[]) none,
              co none (.store 53 (.tmp 4) (.tmp 103)) none,
              co (some 5) (.assign (.const (.bool false))) none] [4, 5])
          (.ret))
          (.skip)))
      (.keep [2, 3, 4, 6, 7, 8, 9, 11] (.stop (.reg [co (some 104) (.move (.tmp 7)) none,
        co (some 105) (.binOp .add 3 (.tmp 104) (.const (.int .i64 1)) 3) none,
        co (some 7) (.assign (.tmp 105)) none] [2, 3, 4, 6, 7, 8, 9, 11])))))))
  (.keep [2, 3, 4, 6, 7, 8, 9, 11] (.reg [co (some 69) (.move (.tmp 11)) none,
    co (some 70) (.binOp .add 3 (.tmp 69) (.const (.int .i64 1)) 3) none,
    co (some 11) (.assign (.tmp 70)) none] [2, 3, 4, 6, 7, 8, 9, 11]))))
def l3_centoref21_list : CC :=
  .seq (.seq (.reg [co (some 23) (.move (.tmp 8)) none,
        co (some 24) (.fieldAddr 94 (.tmp 2) 6) none,
        co (some 25) (.load 92 (.tmp 24)) none,
        co (some 26) (.call { callee := (.builtin .len), args := #[(.tmp 25)], argTypes := #[92] }) none,
        co (some 27) (.binOp .lss 3 (.tmp 23) (.tmp 26) 3) none] [2, 3, 4, 6, 7, 8, 27])
    (.cond (.tmp 27)
      (.skip)
      (.exit 0)))
  (.keep [2, 3, 4, 6, 7, 8] (.seq (.block 1
      (.seq (.reg [co (some 30) (.fieldAddr 94 (.tmp 2) 6) none,
          co (some 31) (.load 92 (.tmp 30)) none,
          co (some 32) (.move (.tmp 8)) none,
          co (some 33) (.indexAddr 92 (.tmp 31) (.tmp 32)) none,
          co (some 34) (.load 202 (.tmp 33)) none,
          cn (some 9) (.alloc 202) none [4],
          co none (.store 202 (.tmp 9) (.tmp 34)) none] [2, 3, 4, 6, 7, 8, 9])
      (.seq (.seq (.reg [co (some 10) (.assign (.const (.int .i64 0))) none] [2, 3, 4, 6, 7, 8, 9, 10])
        (.block 2
          (.loop l1_centoref21_list)))
      (.keep [2, 3, 4, 6, 7, 8, 9] (.seq (.seq (.reg [co (some 11) (.assign (.const (.int .i64 0))) none] [2, 3, 4, 6, 7, 8, 9, 11])
        (.block 4
          (.loop l2_centoref21_list)))
      (.keep [2, 3, 4, 6, 7, 8, 9] (.seq (.reg [co (some 106) (.fieldAddr 202 (.tmp 9) 0) none,
          co (some 107) (.load 3 (.tmp 106)) none,
          co (some 108) (.binOp .eql 3 (.tmp 107) (.const (.int .i64 3)) 3) none] [2, 3, 4, 6, 7, 8, 9, 108])
      (.cond (.tmp 108)
        (.seq (.seq (.reg [co (some 109) (.move (.tmp 7)) none,
              co (some 110) (.fieldAddr 53 (.tmp 3) 2) none,
              co (some 111) (.load 51 (.tmp 110)) none,
              co (some 112) (.call { callee := (.builtin .len), args := #[(.tmp 111)], argTypes := #[51] }) none,
              co (some 113) (.binOp .geq 3 (.tmp 109) (.tmp 112) 3) none] [2, 3, 4, 6, 7, 8, 9, 113])
          (.cond (.tmp 113)
            (.seq (.reg [co (some 114) (.build 53 #[]) none,
                co none (.store 53 (.tmp 4) (.tmp 114)) none,
                co (some 5) (.assign (.const (.bool false))) none] [4, 5])
            (.ret))
            (.skip)))
        (.keep [2, 3, 4, 6, 7, 8, 9] (.seq (.reg [co (some 116) (.fieldAddr 202 (.tmp 9) 3) none,
            ⟨some 117, (.load 94 (.tmp 116)), none, [], 1, [], true⟩,
            co (some 118) (.fieldAddr 53 (.tmp 3) 2) none,
            ⟨some 119, (.load 51 (.tmp 118)), none, [], 3, [], true⟩,
            co (some 120) (.move (.tmp 7)) none,
            co (some 121) (.indexAddr 51 (.tmp 119) (.tmp 120)) none,
            ⟨some 122, (.load 53 (.tmp 121)), none, [], 6, [], true⟩,
            ⟨some 123, (.call { callee := (.value (.func 52)), args := #[(.tmp 117), (.tmp 122)], argTypes := #[94, 53] }), none, [], 7, [], true⟩,
            co (some 115) (.move (.tmp 123)) none,
            co (some 124) (.extract (.tmp 115) 0) none,
            co (some 125) (.extract (.tmp 115) 1) none,
            ⟨some 12, (.alloc 53), none, [7], 11, [1, 3, 6, 7], false⟩,
            co none (.store 53 (.tmp 12) (.tmp 124)) none,
            co (some 13) (.assign (.tmp 125)) none] [2, 3, 4, 6, 7, 8, 12, 13])
        (.seq (.seq (.reg [co (some 126) (.move (.tmp 13)) none,
              co (some 127) (.unOp .not 4 (.tmp 126)) none] [2, 3, 4, 6, 7, 8, 12, 127])
          (.cond (.tmp 127)
            (.seq (.reg [co (some 128) (.build 53 #[]) none,
                co none (.store 53 (.tmp 4) (.tmp 128)) none,
                co (some 5) (.assign (.const (.bool false))) none] [4, 5])
            (.ret))
            (.skip)))
        (.keep [2, 3, 4, 6, 7, 8, 12] (.seq (.reg [co (some 129) (.fieldAddr 53 (.tmp 6) 2) none,
            co (some 130) (.load 51 (.tmp 129)) none,
            co (some 131) (.load 53 (.tmp 12)) none,
            co (some 132) (.buildSlice 51 1 #[(0, (.tmp 131))]) none,
            cn (some 133) (.call { callee := (.builtin .append), args := #[(.tmp 130), (.tmp 132)], argTypes := #[51, 51] }) none [8],
            co (some 134) (.fieldAddr 53 (.tmp 6) 2) none,
            co none (.store 51 (.tmp 134) (.tmp 133)) none] [2, 3, 4, 6, 7, 8])
        (.stop (.reg [co (some 135) (.move (.tmp 7)) none,
          co (some 136) (.binOp .add 3 (.tmp 135) (.const (.int .i64 1)) 3) none,
          co (some 7) (.assign (.tmp 136)) none] [2, 3, 4, 6, 7, 8]))))))))
        (.skip)))))))))
  (.keep [2, 3, 4, 6, 7, 8] (.reg [co (some 28) (.move (.tmp 8)) none,
    co (some 29) (.binOp .add 3 (.tmp 28) (.const (.int .i64 1)) 3) none,
    co (some 8) (.assign (.tmp 29)) none] [2, 3, 4, 6, 7, 8]))))
/-- cento/centoref21.list -/
def c_centoref21_list : CC :=
  .seq (.reg [cn (some 2) (.box 94 (.tmp 0)) none [0],
      cn (some 3) (.box 53 (.tmp 1)) none [1],
      cn (some 4) (.alloc 53) none [2],
      co (some 5) (.assign (.const (.bool false))) none] [2, 3, 4])
  (.seq (.seq (.reg [co (some 14) (.fieldAddr 53 (.tmp 3) 0) none,
        co (some 15) (.load 3 (.tmp 14)) none,
        co (some 16) (.fieldAddr 94 (.tmp 2) 5) none,
        co (some 17) (.load 3 (.tmp 16)) none,
        co (some 18) (.binOp .neq 3 (.tmp 15) (.tmp 17) 3) none] [2, 3, 4, 18])
    (.cond (.tmp 18)
      (.seq (.reg [co (some 19) (.build 53 #[]) none,
          co none (.store 53 (.tmp 4) (.tmp 19)) none,
          co (some 5) (.assign (.const (.bool false))) none] [4, 5])
      (.ret))
      (.skip)))
  (.keep [2, 3, 4] (.seq (.reg [co (some 20) (.fieldAddr 53 (.tmp 3) 0) none,
      co (some 21) (.load 3 (.tmp 20)) none,
      co (some 22) (.build 53 #[(0, (.tmp 21))]) none,
      cn (some 6) (.alloc 53) none [3],
      co none (.store 53 (.tmp 6) (.tmp 22)) none] [2, 3, 4, 6])
  (.stop (.seq (.reg [co (some 7) (.assign (.const (.int .i64 0))) none] [2, 3, 4, 6, 7])
  (.seq (.seq (.reg [co (some 8) (.assign (.const (.int .i64 0))) none] [2, 3, 4, 6, 7, 8])
    (.block 0
      (.loop l3_centoref21_list)))
  (.keep [3, 4, 6, 7] (.seq (.reg [co (some 137) (.load 53 (.tmp 6)) none,
      co (some 138) (.move (.tmp 7)) none,
      co (some 139) (.fieldAddr 53 (.tmp 3) 2) none,
      ⟨some 140, (.load 51 (.tmp 139)), none, [], 3, [], true⟩,
      co (some 141) (.call { callee := (.builtin .len), args := #[(.tmp 140)], argTypes := #[51] }) none,
      co (some 142) (.binOp .eql 3 (.tmp 138) (.tmp 141) 3) none,
      ⟨none, (.store 53 (.tmp 4) (.tmp 137)), none, [], 6, [3], false⟩,
      co (some 5) (.assign (.tmp 142)) none] [4, 5])
  (.ret)))))))))
theorem t_centoref21_list : Txt Try.prog 95 143 [(.cell 4 53), (.tmp 5)] c_centoref21_list := txt_of (code := Try.f95.body.getD .ret) mixed (by kernel_rfl) Try.func95 (by kernel_rfl) Try.ntmps95 (by kernel_rfl) (ls := [([2, 3, 4], [(0, [0]), (1, [1]), (2, [2])]), ([], []), ([2, 3, 4, 18], []), ([], []), ([4, 5], []), ([], []), ([999999, 2, 3, 4], []), ([2, 3, 4, 6], [(3, [3])]), ([999998], []), ([2, 3, 4, 6, 7], []), ([], []), ([2, 3, 4, 6, 7, 8], []), ([], []), ([2, 3, 4, 6, 7, 8, 27], []), ([], []), ([999999, 2, 3, 4, 6, 7, 8], []), ([2, 3, 4, 6, 7, 8, 9], [(5, [4])]), ([], []), ([2, 3, 4, 6, 7, 8, 9, 10], []), ([], []), ([2, 3, 4, 6, 7, 8, 9, 10, 43], []), ([], []), ([999999, 2, 3, 4, 6, 7, 8, 9, 10], []), ([2, 3, 4, 6, 7, 8, 9, 10, 50], []), ([], []), ([4, 5], []), ([], []), ([999999, 2, 3, 4, 6, 7, 8, 9, 10], []), ([2, 3, 4, 6, 7, 8, 9, 10], [(8, [5])]), ([999998], []), ([2, 3, 4, 6, 7, 8, 9, 10], []), ([999999, 2, 3, 4, 6, 7, 8, 9, 10], []), ([2, 3, 4, 6, 7, 8, 9, 10], []), ([999999, 2, 3, 4, 6, 7, 8, 9], []), ([2, 3, 4, 6, 7, 8, 9, 11], []), ([], []), ([2, 3, 4, 6, 7, 8, 9, 11, 68], []), ([], []), ([999999, 2, 3, 4, 6, 7, 8, 9, 11], []), ([2, 3, 4, 6, 7, 8, 9, 11, 73], []), ([], []), ([2, 3, 4, 6, 7, 8, 9, 11], [(8, [6])]), ([], []), ([999999, 2, 3, 4, 6, 7, 8, 9, 11], []), ([2, 3, 4, 6, 7, 8, 9, 11, 102], []), ([], []), ([4, 5], []), ([], []), ([999997, 2, 3, 4, 6, 7, 8, 9, 11], []), ([2, 3, 4, 6, 7, 8, 9, 11], []), ([999999, 2, 3, 4, 6, 7, 8, 9, 11], []), ([2, 3, 4, 6, 7, 8, 9, 11], []), ([999999, 2, 3, 4, 6, 7, 8, 9], []), ([2, 3, 4, 6, 7, 8, 9, 108], []), ([], []), ([2, 3, 4, 6, 7, 8, 9, 113], []), ([], []), ([4, 5], []), ([], []), ([999999, 2, 3, 4, 6, 7, 8, 9], []), ([2, 3, 4, 6, 7, 8, 12, 13], [(11, [7])]), ([], []), ([2, 3, 4, 6, 7, 8, 12, 127], []), ([], []), ([4, 5], []), ([], []), ([999999, 2, 3, 4, 6, 7, 8, 12], []), ([2, 3, 4, 6, 7, 8], [(4, [8])]), ([999998], []), ([2, 3, 4, 6, 7, 8], []), ([999999, 2, 3, 4, 6, 7, 8], []), ([2, 3, 4, 6, 7, 8], []), ([999999, 3, 4, 6, 7], []), ([4, 5], []), ([], [])]) (by kernel_rfl)
def k1_centoref21_Edit : CC :=
  .seq (.seq (.reg [co (some 37) (.move (.tmp 7)) none,
        co (some 38) (.unOp .not 4 (.tmp 37)) none] [4, 6, 38])
    (.cond (.tmp 38)
      (.seq (.reg [co (some 39) (.build 53 #[]) none,
          co none (.store 53 (.tmp 4) (.tmp 39)) none,
          co (some 5) (.assign (.const (.bool false))) none] [4, 5])
      (.ret))
      (.skip)))
  (.keep [4, 6] (.seq (.reg [co (some 40) (.load 53 (.tmp 6)) none,
      co (some 41) (.call { callee := (.value (.func 47)), args := #[(.tmp 40)], argTypes := #[53] }) none,
      co none (.store 53 (.tmp 4) (.tmp 41)) none,
      co (some 5) (.assign (.const (.bool true))) none] [4, 5])
  (.ret)))
/-- cento/centoref21.Edit -/
def c_centoref21_Edit : CC :=
  .seq (.reg [cn (some 2) (.box 94 (.tmp 0)) none [0],
      cn (some 3) (.box 53 (.tmp 1)) none [1],
      cn (some 4) (.alloc 53) none [2],
      co (some 5) (.assign (.const (.bool false))) none] [2, 3, 4])
  (.seq (.reg [co (some 8) (.load 53 (.tmp 3)) none,
      cn (some 6) (.alloc 53) none [3],
      co none (.store 53 (.tmp 6) (.tmp 8)) none,
      co (some 7) (.assign (.const (.bool true))) none] [2, 3, 4, 6])
  (.seq (.seq (.reg [co (some 9) (.fieldAddr 94 (.tmp 2) 0) none,
        co (some 10) (.load 3 (.tmp 9)) none] [2, 3, 4, 6, 10])
    (.block 0
      (.seq (.reg [co (some 12) (.binOp .eql 3 (.tmp 10) (.const (.int .i64 0)) 3) none,
          co (some 11) (.assign (.tmp 12)) none] [2, 3, 4, 6, 10, 11])
      (.cond (.tmp 11)
        (.reg [co (some 7) (.assign (.const (.bool true))) none] [4, 6, 7])
        (.seq (.reg [co (some 14) (.binOp .eql 3 (.tmp 10) (.const (.int .i64 1)) 3) none,
            co (some 13) (.assign (.tmp 14)) none] [2, 3, 4, 6, 10, 13])
        (.cond (.tmp 13)
          (.seq (.reg [co (some 15) (.fieldAddr 94 (.tmp 2) 2) none,
              co (some 16) (.load 53 (.tmp 15)) none,
              co none (.store 53 (.tmp 6) (.tmp 16)) none] [2, 3, 4, 6])
          (.reg [co (some 17) (.fieldAddr 94 (.tmp 2) 1) none,
            co (some 18) (.load 53 (.tmp 17)) none,
            co (some 19) (.load 53 (.tmp 3)) none,
            co (some 20) (.call { callee := (.value (.func 93)), args := #[(.tmp 18), (.tmp 19)], argTypes := #[53, 53] }) none,
            co (some 7) (.assign (.tmp 20)) none] [4, 6, 7]))
          (.seq (.reg [co (some 22) (.binOp .eql 3 (.tmp 10) (.const (.int .i64 2)) 3) none,
              co (some 21) (.assign (.tmp 22)) none] [2, 3, 4, 6, 10, 21])
          (.cond (.tmp 21)
            (.reg [co (some 24) (.load 94 (.tmp 2)) none,
              co (some 25) (.load 53 (.tmp 3)) none,
              co (some 26) (.call { callee := (.value (.func 94)), args := #[(.tmp 24), (.tmp 25)], argTypes := #[94, 53] }) none,
              co (some 23) (.move (.tmp 26)) none,
              co (some 27) (.extract (.tmp 23) 0) none,
              co (some 28) (.extract (.tmp 23) 1) none,
              co none (.store 53 (.tmp 6) (.tmp 27)) none,
              co (some 7) (.assign (.tmp 28)) none] [4, 6, 7])
            (.seq (.reg [co (some 30) (.binOp .eql 3 (.tmp 10) (.const (.int .i64 3)) 3) none,
                co (some 29) (.assign (.tmp 30)) none] [2, 3, 4, 6, 29])
            (.cond (.tmp 29)
              (.reg [co (some 32) (.load 94 (.tmp 2)) none,
                co (some 33) (.load 53 (.tmp 3)) none,
                co (some 34) (.call { callee := (.value (.func 95)), args := #[(.tmp 32), (.tmp 33)], argTypes := #[94, 53] }) none,
                co (some 31) (.move (.tmp 34)) none,
                co (some 35) (.extract (.tmp 31) 0) none,
                co (some 36) (.extract (.tmp 31) 1) none,
                co none (.store 53 (.tmp 6) (.tmp 35)) none,
                co (some 7) (.assign (.tmp 36)) none] [4, 6, 7])
              (.reg [co (some 7) (.assign (.const (.bool false))) none] [4, 6, 7])))))))))))
  (.keep [4, 6, 7] k1_centoref21_Edit)))
theorem t_centoref21_Edit : Txt Try.prog 52 42 [(.cell 4 53), (.tmp 5)] c_centoref21_Edit := txt_of (code := Try.f52.body.getD .ret) mixed (by kernel_rfl) Try.func52 (by kernel_rfl) Try.ntmps52 (by kernel_rfl) (ls := [([2, 3, 4], [(0, [0]), (1, [1]), (2, [2])]), ([], []), ([2, 3, 4, 6], [(1, [3])]), ([], []), ([2, 3, 4, 6, 10], []), ([], []), ([2, 3, 4, 6, 10, 11], []), ([], []), ([4, 6, 7], []), ([2, 3, 4, 6, 10, 13], []), ([], []), ([2, 3, 4, 6], []), ([], []), ([4, 6, 7], []), ([2, 3, 4, 6, 10, 21], []), ([], []), ([4, 6, 7], []), ([2, 3, 4, 6, 29], []), ([], []), ([4, 6, 7], []), ([4, 6, 7], []), ([999999, 4, 6, 7], []), ([4, 6, 38], []), ([], []), ([4, 5], []), ([], []), ([999999, 4, 6], []), ([4, 5], []), ([], [])]) (by kernel_rfl)
/-- cento/centolaw29.root -/
def c_centolaw29_root : CC :=
  .seq (.reg [cn (some 2) (.alloc 68) none [0]] [0, 2])
  (.seq (.reg [co (some 6) (.move (.tmp 0)) none,
      co (some 7) (.call { callee := (.value (.func 13)), args := #[(.tmp 6)], argTypes := #[22] }) none,
      co (some 8) (.call { callee := (.value (.func 40)), args := #[(.tmp 7)], argTypes := #[24] }) none,
      co (some 5) (.move (.tmp 8)) none,
      co (some 9) (.extract (.tmp 5) 0) none,
      co (some 10) (.extract (.tmp 5) 1) none,
      cn (some 3) (.alloc 68) none [1],
      co none (.store 68 (.tmp 3) (.tmp 9)) none,
      co (some 4) (.assign (.tmp 10)) none] [2, 3])
  (.seq (.reg [co (some 11) (.load 68 (.tmp 3)) none,
      co none (.store 68 (.tmp 2) (.tmp 11)) none] [2])
  (.ret)))
theorem t_centolaw29_root : Txt Try.prog 51 12 [(.cell 2 68)] c_centolaw29_root := txt_of (code := Try.f51.body.getD .ret) mixed (by kernel_rfl) Try.func51 (by kernel_rfl) Try.ntmps51 (by kernel_rfl) (ls := [([0, 2], [(0, [0])]), ([], []), ([2, 3], [(6, [1])]), ([], []), ([2], []), ([], [])]) (by kernel_rfl)
/-- cento/centolaw29.awake -/
def c_centolaw29_awake : CC :=
  .seq (.reg [co (some 0) (.assign (.const (.bool false))) none] [])
  (.seq (.reg [co (some 6) (.buildSlice 23 2 #[(0, (.const (.int .u64 4294967296))), (1, (.const (.int .u64 7)))]) none,
      co (some 7) (.buildSlice 22 1 #[(0, (.tmp 6))]) none,
      co (some 8) (.call { callee := (.value (.func 51)), args := #[(.tmp 7)], argTypes := #[22] }) none,
      cn (some 1) (.alloc 68) none [0],
      co none (.store 68 (.tmp 1) (.tmp 8)) none] [1])
  (.seq (.reg [co (some 10) (.build 94 #[(0, (.const (.int .i64 1)))]) none,
      co (some 11) (.load 68 (.tmp 1)) none,
      co (some 12) (.call { callee := (.value (.func 50)), args := #[(.tmp 10), (.tmp 11)], argTypes := #[94, 68] }) none,
      co (some 9) (.move (.tmp 12)) none,
      co (some 13) (.extract (.tmp 9) 0) none,
      co (some 14) (.extract (.tmp 9) 1) none,
      cn (some 2) (.alloc 53) none [1],
      co none (.store 53 (.tmp 2) (.tmp 13)) none,
      co (some 3) (.assign (.tmp 14)) none] [1, 3])
  (.seq (.reg [co (some 16) (.build 94 #[]) none,
      co (some 17) (.load 68 (.tmp 1)) none,
      co (some 18) (.call { callee := (.value (.func 50)), args := #[(.tmp 16), (.tmp 17)], argTypes := #[94, 68] }) none,
      co (some 15) (.move (.tmp 18)) none,
      co (some 19) (.extract (.tmp 15) 0) none,
      co (some 20) (.extract (.tmp 15) 1) none,
      cn (some 4) (.alloc 53) none [2],
      co none (.store 53 (.tmp 4) (.tmp 19)) none,
      co (some 5) (.assign (.tmp 20)) none] [3, 4, 5])
  (.seq (.reg [co (some 21) (.move (.tmp 3)) none,
      co (some 22) (.binOp .eql 64 (.tmp 21) (.const (.int .i64 13)) 64) none,
      co (some 23) (.move (.tmp 22)) none,
      co (some 24) (.move (.tmp 5)) (some (23, true)),
      co (some 25) (.binOp .eql 64 (.tmp 24) (.const (.int .i64 0)) 64) (some (23, true)),
      co (some 26) (.pick (.tmp 23) (.tmp 25) (.const (.bool false))) none,
      co (some 27) (.move (.tmp 26)) none,
      co (some 28) (.fieldAddr 53 (.tmp 4) 0) (some (27, true)),
      co (some 29) (.load 3 (.tmp 28)) (some (27, true)),
      co (some 30) (.binOp .eql 3 (.tmp 29) (.const (.int .i64 1)) 3) (some (27, true)),
      co (some 31) (.pick (.tmp 27) (.tmp 30) (.const (.bool false))) none,
      co (some 32) (.move (.tmp 31)) none,
      co (some 33) (.fieldAddr 53 (.tmp 4) 1) (some (32, true)),
      co (some 34) (.load 23 (.tmp 33)) (some (32, true)),
      co (some 35) (.call { callee := (.builtin .len), args := #[(.tmp 34)], argTypes := #[23] }) (some (32, true)),
      co (some 36) (.binOp .eql 3 (.tmp 35) (.const (.int .i64 1)) 3) (some (32, true)),
      co (some 37) (.pick (.tmp 32) (.tmp 36) (.const (.bool false))) none,
      co (some 0) (.assign (.tmp 37)) none] [0])
  (.ret)))))
theorem t_centolaw29_awake : Txt Try.prog 49 38 [(.tmp 0)] c_centolaw29_awake := txt_of (code := Try.f49.body.getD .ret) mixed (by kernel_rfl) Try.func49 (by kernel_rfl) Try.ntmps49 (by kernel_rfl) (ls := [([], []), ([], []), ([1], [(3, [0])]), ([], []), ([1, 3], [(6, [1])]), ([], []), ([3, 4, 5], [(6, [2])]), ([], []), ([0], []), ([], [])]) (by kernel_rfl)
/-- cento/centolaw29.InapplyMessages -/
def c_centolaw29_InapplyMessages : CC :=
  .seq (.reg [cn (some 3) (.box 94 (.tmp 0)) none [0],
      cn (some 5) (.box 60 (.tmp 2)) none [1],
      co (some 6) (.assign (.const (.bool false))) none] [1, 3, 5])
  (.seq (.reg [co (some 14) (.load 60 (.tmp 5)) none,
      co (some 15) (.call { callee := (.value (.func 38)), args := #[(.tmp 14)], argTypes := #[60] }) none,
      co none (.store 60 (.tmp 5) (.tmp 15)) none] [1, 3, 5])
  (.seq (.reg [co (some 17) (.move (.tmp 1)) none,
      co (some 18) (.load 60 (.tmp 5)) none,
      co (some 19) (.call { callee := (.value (.func 31)), args := #[(.tmp 17), (.tmp 18)], argTypes := #[22, 60] }) none,
      co (some 16) (.move (.tmp 19)) none,
      co (some 20) (.extract (.tmp 16) 0) none,
      co (some 21) (.extract (.tmp 16) 1) none,
      co (some 22) (.extract (.tmp 16) 2) none,
      cn (some 7) (.alloc 53) none [2],
      co none (.store 53 (.tmp 7) (.tmp 20)) none,
      co (some 8) (.assign (.tmp 21)) none,
      co (some 9) (.assign (.tmp 22)) none] [1, 3, 7, 9])
  (.seq (.seq (.reg [co (some 23) (.move (.tmp 9)) none,
        co (some 24) (.binOp .neq 3 (.tmp 23) (.const (.int .i64 0)) 3) none,
        co (some 25) (.move (.tmp 24)) none,
        co (some 26) (.load 94 (.tmp 3)) (some (25, false)),
        co (some 27) (.call { callee := (.value (.func 48)), args := #[(.tmp 26)], argTypes := #[94] }) (some (25, false)),
        co (some 28) (.unOp .not 4 (.tmp 27)) (some (25, false)),
        co (some 29) (.pick (.tmp 25) (.const (.bool true)) (.tmp 28)) none] [1, 3, 7, 29])
    (.cond (.tmp 29)
      (.seq (.reg [co (some 30) (.call { callee := (.value (.func 49)), args := #[], argTypes := #[] }) none,
          co (some 6) (.assign (.tmp 30)) none] [6])
      (.ret))
      (.skip)))
  (.keep [1, 3, 7] (.seq (.reg [⟨some 32, (.load 94 (.tmp 3)), none, [], 0, [], true⟩,
      co (some 33) (.move (.tmp 1)) none,
      ⟨some 34, (.call { callee := (.value (.func 51)), args := #[(.tmp 33)], argTypes := #[22] }), none, [], 2, [0], true⟩,
      ⟨some 35, (.call { callee := (.value (.func 50)), args := #[(.tmp 32), (.tmp 34)], argTypes := #[94, 68] }), none, [], 3, [], true⟩,
      co (some 31) (.move (.tmp 35)) none,
      co (some 36) (.extract (.tmp 31) 0) none,
      co (some 37) (.extract (.tmp 31) 1) none,
      ⟨some 10, (.alloc 53), none, [3], 7, [0, 2, 3], false⟩,
      co none (.store 53 (.tmp 10) (.tmp 36)) none,
      co (some 11) (.assign (.tmp 37)) none] [3, 7, 10, 11])
  (.seq (.reg [co (some 39) (.load 94 (.tmp 3)) none,
      co (some 40) (.load 53 (.tmp 7)) none,
      co (some 41) (.call { callee := (.value (.func 52)), args := #[(.tmp 39), (.tmp 40)], argTypes := #[94, 53] }) none,
      co (some 38) (.move (.tmp 41)) none,
      co (some 42) (.extract (.tmp 38) 0) none,
      co (some 43) (.extract (.tmp 38) 1) none,
      cn (some 12) (.alloc 53) none [4],
      co none (.store 53 (.tmp 12) (.tmp 42)) none,
      co (some 13) (.assign (.tmp 43)) none] [10, 11, 12, 13])
  (.seq (.reg [co (some 44) (.move (.tmp 13)) none,
      co (some 45) (.move (.tmp 44)) none,
      co (some 46) (.move (.tmp 11)) (some (45, true)),
      co (some 47) (.binOp .eql 64 (.tmp 46) (.const (.int .i64 0)) 64) (some (45, true)),
      co (some 48) (.pick (.tmp 45) (.tmp 47) (.const (.bool false))) none,
      co (some 49) (.move (.tmp 48)) none,
      co (some 50) (.move (.tmp 13)) (some (49, false)),
      co (some 51) (.unOp .not 4 (.tmp 50)) (some (49, false)),
      co (some 52) (.move (.tmp 51)) (some (49, false)),
      co (some 53) (.move (.tmp 11)) (some (52, true)),
      co (some 54) (.binOp .eql 64 (.tmp 53) (.const (.int .i64 13)) 64) (some (52, true)),
      co (some 55) (.pick (.tmp 52) (.tmp 54) (.const (.bool false))) (some (49, false)),
      co (some 56) (.pick (.tmp 49) (.const (.bool true)) (.tmp 55)) none,
      co (some 57) (.move (.tmp 56)) none,
      co (some 58) (.load 53 (.tmp 10)) (some (57, true)),
      co (some 59) (.load 53 (.tmp 12)) (some (57, true)),
      co (some 60) (.call { callee := (.value (.func 53)), args := #[(.tmp 58), (.tmp 59)], argTypes := #[53, 53] }) (some (57, true)),
      co (some 61) (.pick (.tmp 57) (.tmp 60) (.const (.bool false))) none,
      co (some 62) (.move (.tmp 61)) none,
      co (some 63) (.call { callee := (.value (.func 49)), args := #[], argTypes := #[] }) (some (62, true)),
      co (some 64) (.pick (.tmp 62) (.tmp 63) (.const (.bool false))) none,
      co (some 6) (.assign (.tmp 64)) none] [6])
  (.ret))))))))
theorem t_centolaw29_InapplyMessages : Txt Try.prog 9 65 [(.tmp 6)] c_centolaw29_InapplyMessages := txt_of (code := Try.f9.body.getD .ret) mixed (by kernel_rfl) Try.func9 (by kernel_rfl) Try.ntmps9 (by kernel_rfl) (ls := [([1, 3, 5], [(0, [0]), (1, [1])]), ([], []), ([1, 3, 5], []), ([], []), ([1, 3, 7, 9], [(7, [2])]), ([], []), ([1, 3, 7, 29], []), ([], []), ([6], []), ([], []), ([999999, 1, 3, 7], []), ([3, 7, 10, 11], [(7, [3])]), ([], []), ([10, 11, 12, 13], [(6, [4])]), ([], []), ([6], []), ([], [])]) (by kernel_rfl)
end Go.Proofs.Ytehcobkphobjiaa

/-
  Chapter 29: words and kids of trees; what a value means is made.
-/
namespace Go.Proofs.Ytehcobkphobjiaa
set_option linter.unusedVariables false
set_option linter.unusedSimpArgs false
open Go Go.G Go.Proofs Go.PL
theorem treeWord_spec (t : T) (i : Nat) : G.Spec Try.prog 158 [tX t, iv i] (uv (t.words.getD i 0)) := by
  refine spec_of t_tree_Word (by simp) fun w0 I0 => ?_
  unfold c_tree_Word
  have hn : ¬ (i : Int) < 0 := by omega
  by_cases h : i < t.words.length
  · have h2 : ¬ t.words.length ≤ i := by omega
    simp [h, hn, h2]
    exact frz_is rfl (by simp [h])
  · have h2 : t.words.length ≤ i := by omega
    simp [h, hn, h2]
    exact frz_is rfl (by simp [List.getElem?_eq_none (Nat.le_of_not_lt h)])
theorem treeKid_spec (t : T) (i : Nat) : G.Spec Try.prog 159 [tX t, iv i] (tX (t.kids.getD i T0)) := by
  refine spec_of t_tree_Kid (by simp) fun w0 I0 => ?_
  unfold c_tree_Kid
  have hn : ¬ (i : Int) < 0 := by omega
  by_cases h : i < t.kids.length
  · have h2 : ¬ t.kids.length ≤ i := by omega
    simp [h, hn, h2]
    exact frz_bare (by simp)
  · have h2 : t.kids.length ≤ i := by omega
    simp [h, hn, h2]
    exact frz_agg (by simp; exact ⟨frz_bare rfl, frz_sl, frz_sl⟩)
theorem rWord21_spec (t : T) (i : Nat) : G.Spec Try.prog 147 [tX t, iv i] (uv (t.words.getD i 0)) := by
  refine spec_of t_centoref21_word (by simp) fun w0 I0 => ?_
  unfold c_centoref21_word
  have hn : ¬ (i : Int) < 0 := by omega
  by_cases h : i < t.words.length
  · have h2 : ¬ t.words.length ≤ i := by omega
    simp [h, hn, h2]
    exact frz_is rfl (by simp [h])
  · have h2 : t.words.length ≤ i := by omega
    simp [h, hn, h2]
    exact frz_is rfl (by simp [List.getElem?_eq_none (Nat.le_of_not_lt h)])
/-! ### what a value means, as a tree -/
section
variable {n0 : Nat} {w0 : World} {I0 : Nat → Prop} {Q : Exit → Sta → Prop}
theorem value_l1 {l : List (List Int)} (hs : Sg l) {r : Rf} {t : T} (hm : Means l r t) {k : Int}
    (hq : ∀ (q : Bool) (H : Hp), H [0] = ⟨1, .cells (paL l r)⟩ → H [2] = ⟨1, .cells [iv k, .osl [3] (t.words.length + 1) 1 0 t.words.length, .osl [6] 1 3 0 0]⟩ → H [3] = ⟨t.words.length + 1, .arr 1 (t.words.map uv)⟩ → H [6] = ⟨1, .arr 3 []⟩ → H [1] = ⟨1, .cells [iv 0, .sl true [], .sl true []]⟩ →
      Q (.exit 0) ⟨lk [(1, .pob [0] 1 0), (2, .pob [1] 1 0), (4, .pob [2] 1 0), (14, iv t.words.length), (15, iv t.words.length), (16, bv q)], H⟩) :
    ∀ (j i : Nat) (H : Hp), i + j = t.words.length → H [0] = ⟨1, .cells (paL l r)⟩ → H [2] = ⟨1, .cells [iv k, .osl [3] (i + 1) 1 0 i, .osl [6] 1 3 0 0]⟩ → H [3] = ⟨i + 1, .arr 1 ((t.words.take i).map uv)⟩ → H [6] = ⟨1, .arr 3 []⟩ → H [1] = ⟨1, .cells [iv 0, .sl true [], .sl true []]⟩ →
    LoopC (cx Try.prog w0 I0 n0) l1_unfold_Value Q ⟨lk [(1, .pob [0] 1 0), (2, .pob [1] 1 0), (4, .pob [2] 1 0), (14, iv t.words.length), (15, iv i)], H⟩ := by
  obtain ⟨hw1, hw2⟩ := means_word hm
  have hln := means_len hm
  intro j
  induction j with
  | zero =>
    intro i H hi h0 h2 h3 h6 h1
    have : i = t.words.length := by omega
    subst this
    rw [List.take_of_length_le (Nat.le_refl _)] at h3
    refine loopC_once mixed l1_unfold_Value.eq_1 ?_
    simp
    exact hq _ H h0 h2 h3 h6 h1
  | succ j ih =>
    intro i H hi h0 h2 h3 h6 h1
    have hlt : i < t.words.length := by omega
    have ei : IntKind.i64.wrap ((i : Int) + 1) = ((i + 1 : Nat) : Int) := i64_same (by omega) (by omega)
    have htk : (t.words.take (i + 1)).map uv = (t.words.take i).map uv ++ [uv t.words[i]] := by rw [List.take_succ_eq_append_getElem hlt, List.map_append]; rfl
    refine loopC_once mixed l1_unfold_Value.eq_1 ?_
    simp [hlt, h0, h2]
    refine sc_call (word_spec' hs (means_ok hm) i) (by simp) ?_
    rw [hw2 i hlt]
    simp [h2, h3, ei, updF_app]
    refine ⟨⟨by omega, by omega⟩, ?_⟩
    refine ih (i + 1) _ (by omega) (by simp [updF_app, h0]) (by simp [updF_app]) ?_ (by simp [updF_app, h6]) (by simp [updF_app, h1])
    rw [htk]
    simp [updF_app, List.take_take]
theorem value_l2 {l : List (List Int)} (hs : Sg l) {r : Rf} {t : T} (hm : Means l r t) {k : Int} {c1 : A} {X : VOb} (ih0 : ∀ c, c ∈ t.kids → ∀ x, Means l x c → G.Spec Try.prog 181 [paX l x] (.tup [tX c, iv 0]))
    (hq : ∀ (q : Bool) (H : Hp), H [2] = ⟨1, .cells [iv k, c1, .osl [6] (t.kids.length + 1) 3 0 t.kids.length]⟩ → H [6] = ⟨t.kids.length + 1, .arr 3 (t.kids.map tA)⟩ → H [3] = X → H [1] = ⟨1, .cells [iv 0, .sl true [], .sl true []]⟩ →
      Q (.exit 2) ⟨lk [(1, .pob [0] 1 0), (2, .pob [1] 1 0), (4, .pob [2] 1 0), (28, iv t.kids.length), (29, iv t.kids.length), (30, bv q)], H⟩) :
    ∀ (j i : Nat) (H : Hp), i + j = t.kids.length → H [0] = ⟨1, .cells (paL l r)⟩ → H [2] = ⟨1, .cells [iv k, c1, .osl [6] (i + 1) 3 0 i]⟩ → H [6] = ⟨i + 1, .arr 3 ((t.kids.take i).map tA)⟩ → H [3] = X → H [1] = ⟨1, .cells [iv 0, .sl true [], .sl true []]⟩ →
    LoopC (cx Try.prog w0 I0 n0) l2_unfold_Value Q ⟨lk [(1, .pob [0] 1 0), (2, .pob [1] 1 0), (4, .pob [2] 1 0), (28, iv t.kids.length), (29, iv i)], H⟩ := by
  have hln := means_len hm
  intro j
  induction j with
  | zero =>
    intro i H hi h0 h2 h6 h3 h1
    have : i = t.kids.length := by omega
    subst this
    rw [List.take_of_length_le (Nat.le_refl _)] at h6
    refine loopC_once mixed l2_unfold_Value.eq_1 ?_
    simp
    exact hq _ H h2 h6 h3 h1
  | succ j ih =>
    intro i H hi h0 h2 h6 h3 h1
    have hlt : i < t.kids.length := by omega
    obtain ⟨k1, k2⟩ := means_kid hm hlt
    have ei : IntKind.i64.wrap ((i : Int) + 1) = ((i + 1 : Nat) : Int) := i64_same (by omega) (by omega)
    have htk : (t.kids.take (i + 1)).map tA = (t.kids.take i).map tA ++ [tA t.kids[i]] := by rw [List.take_succ_eq_append_getElem hlt, List.map_append]; rfl
    refine loopC_once mixed l2_unfold_Value.eq_1 ?_
    simp [hlt, h0]
    refine sc_call (kid_spec hs (means_ok hm) i) (by simp) ?_
    rw [k1]
    simp [updF_app, h0]
    refine sc_call (ih0 _ (List.getElem_mem hlt) _ k2) (by simp) ?_
    simp [updF_app, h2, h6, ei]
    refine ⟨⟨by omega, by omega⟩, ?_⟩
    refine ih (i + 1) _ (by omega) (by simp [updF_app, h0]) (by simp [updF_app]) ?_ (by simp [updF_app, h3]) (by simp [updF_app, h1])
    rw [htk]
    simp [updF_app, List.take_take]
end
theorem value_spec {l : List (List Int)} (hs : Sg l) : ∀ (t : T) (r : Rf), Means l r t → G.Spec Try.prog 181 [paX l r] (.tup [tX t, iv 0]) := by
  refine T.ind fun k w ks ih r hm => ?_
  refine spec_of t_unfold_Value (by simp) fun w0 I0 => ?_
  unfold c_unfold_Value
  simp
  refine sc_call (refKind_spec l r) (by simp) ?_
  simp
  refine stop_le (le_blankC (d := [2]) (u := 1) (cs := [iv r.kind, .sl true [], .sl true []]) 1 [3] 1 (by simp) rfl (by simp)) ?_
  refine stop_le (le_blankC (d := [2]) (u := 1) (cs := [iv r.kind, .osl [3] 1 1 0 0, .sl true []]) 2 [6] 3 (by simp [updF_app]) rfl (by simp)) (stop_go ?_)
  simp [updF_app]
  refine sc_call (refWords_spec' l r) (by simp) ?_
  rw [(means_word hm).1]
  simp [updF_app]
  refine value_l1 hs hm (k := r.kind) (fun q H h0 h2 h3 h6 h1 => ?_) w.length 0 _ (by simp) (by simp [updF_app]) (by simp [updF_app]) (by simp [updF_app]) (by simp [updF_app]) (by simp [updF_app])
  simp [h0]
  refine sc_call (refKids_spec' l r) (by simp) ?_
  rw [means_nk hm]
  simp
  refine value_l2 hs hm (k := r.kind) (c1 := .osl [3] (w.length + 1) 1 0 w.length) (X := ⟨w.length + 1, .arr 1 (w.map uv)⟩) ih (fun q H' h2' h6' h3' h1' => ?_) ks.length 0 H (by simp) h0 h2 (by simpa using h6) h3 h1
  simp [h2', h1', updF_app]
  rw [means_kind hm]
  exact frz_tup ⟨frz_agg ⟨frz_bare rfl, frz_row (f := uv) (l := w) (by simp [updF_app, h3']) rfl (fun x => by simp), frz_row (f := tA) (l := ks) (by simp [updF_app, h6']) rfl (fun x => by simp), trivial⟩, frz_bare rfl, trivial⟩
end Go.Proofs.Ytehcobkphobjiaa

/-
  Chapter 9's reference: values where they lie.
-/
namespace Go.Proofs.Ytehcobkphobjiaa
set_option linter.unusedVariables false
set_option linter.unusedSimpArgs false
open Go Go.G Go.Proofs Go.PL
abbrev raX (r : Rf) : A := .agg [iv r.kind, iv r.s, iv r.at_, iv r.data, iv r.kids, iv r.count, uv r.n]
def bitZ (g : List Int) (i : Int) : Int := if i < 0 then 0 else ((g[(i / 64).toNat]?).getD 0) / 2 ^ (i % 64).toNat % 2
section
variable {n0 : Nat} {w0 : World} {I0 : Nat → Prop} {Q : Exit → Sta → Prop} {H : Hp}
theorem rBit_l1 {i : Int} (hi : 0 ≤ i) : ∀ (m : Nat) (x j : Int), 0 ≤ x → x < 18446744073709551616 → 0 ≤ j → j + m = i % 64 → (∀ j' b, Q (.exit 0) ⟨lk [(1, iv i), (5, uv (x / 2 ^ m)), (6, iv j'), (24, bv b)], H⟩) →
    LoopC (cx Try.prog w0 I0 n0) l1_centoref01_Bit Q ⟨lk [(1, iv i), (5, uv x), (6, iv j)], H⟩ := by
  have e : i.tmod 64 = i % 64 := Int.tmod_eq_emod_of_nonneg hi
  intro m
  induction m with
  | zero =>
    intro x j h0 h1 h2 h3 hq
    have : j = i % 64 := by simpa using h3
    subst this
    refine loopC_once mixed l1_centoref01_Bit.eq_1 ?_
    simp [e]
    simpa using hq _ _
  | succ m ih =>
    intro x j h0 h1 h2 h3 hq
    refine loopC_once mixed l1_centoref01_Bit.eq_1 ?_
    have hj : j < i % 64 := by omega
    simp [e, hj]
    rw [i64_same (by omega) (by omega), Int.tdiv_eq_ediv_of_nonneg h0, u64_same (by omega) (by omega)]
    exact ih _ _ (by omega) (by omega) (by omega) (by omega) (by rw [pow_half]; exact hq)
end
theorem rBit_spec {g : List Int} (hg : ∀ x, x ∈ g → 0 ≤ x ∧ x < 18446744073709551616) {i : Int} (hi1 : i < 1000000000000000000) (hi : 0 ≤ i) : G.Spec Try.prog 199 [uws g, iv i] (uv (bitZ g i)) := by
  refine spec_of t_centoref01_Bit (by simp) fun w0 I0 => ?_
  unfold c_centoref01_Bit
  have e2 : IntKind.i64.wrap (i.tdiv 64) = i / 64 := by rw [Int.tdiv_eq_ediv_of_nonneg hi, i64_same (by omega) (by omega)]
  have hn : ¬ i < 0 := by omega
  have hd0 : 0 ≤ i / 64 := by omega
  by_cases hr : (g.length : Int) ≤ i / 64
  · have en : g[(i / 64).toNat]? = none := List.getElem?_eq_none (by omega)
    simp [hn, e2, hr, hi]
    exact frz_is rfl (by simp [bitZ, en])
  · have hlt : (i / 64).toNat < g.length := by omega
    have hlt' : i / 64 < g.length := by omega
    have hx := hg _ (List.getElem_mem hlt)
    simp [hn, e2, hr, hi, hd0, hlt, hlt']
    have hx0 : 0 ≤ g[(i / 64).toNat] / 2 ^ (i % 64).toNat := Int.ediv_nonneg hx.1 (Int.le_of_lt (Int.pow_pos (by decide)))
    have hx1 : g[(i / 64).toNat] / 2 ^ (i % 64).toNat < 18446744073709551616 := Int.lt_of_le_of_lt (Int.ediv_le_self _ hx.1) hx.2
    refine rBit_l1 hi (i % 64).toNat _ 0 hx.1 hx.2 (by omega) (by omega) fun j' b => ?_
    simp [Int.tmod_eq_emod_of_nonneg hx0]
    exact frz_is rfl (by simp [bitZ, hn, hlt])
theorem bits_up (y : Int) (m k : Nat) : y / 2 ^ (m + 1) % 2 ^ k * 2 + y / 2 ^ m % 2 = y / 2 ^ m % 2 ^ (k + 1) := by
  have e : y / 2 ^ (m + 1) = y / 2 ^ m / 2 := by
    rw [Int.pow_succ, Int.ediv_ediv_of_nonneg (Int.le_of_lt (Int.pow_pos (by decide)))]
  rw [e]
  generalize y / 2 ^ m = z
  have e2 : z % 2 ^ (k + 1) = z - 2 ^ (k + 1) * (z / 2 ^ (k + 1)) := Int.emod_def ..
  have e3 : z / 2 ^ (k + 1) = z / 2 / 2 ^ k := by rw [Int.pow_succ, Int.mul_comm, Int.ediv_ediv_of_nonneg (by decide)]
  have e4 : z / 2 % 2 ^ k = z / 2 - 2 ^ k * (z / 2 / 2 ^ k) := Int.emod_def ..
  rw [e2, e3, e4, Int.pow_succ, Int.mul_comm (2 ^ k) 2, Int.mul_assoc]
  generalize 2 ^ k * (z / 2 / 2 ^ k) = q
  omega
/-- A word's bit, seen from the item's first. -/
theorem bit_of {g : List Int} {i w : Int} (hi : 0 ≤ i) (hw : w = 1 ∨ w = 8 ∨ w = 16 ∨ w = 32 ∨ w = 64) (m : Nat) (hm : (m : Int) < w) : bitZ g (i * w + m) = ((g[(i * w / 64).toNat]?).getD 0) / 2 ^ (i * w % 64).toNat / 2 ^ m % 2 := by
  have hp : 0 ≤ i * w := by rcases hw with rfl | rfl | rfl | rfl | rfl <;> omega
  have h1 : (i * w + m) / 64 = i * w / 64 ∧ (i * w + m) % 64 = i * w % 64 + m := by
    rcases hw with rfl | rfl | rfl | rfl | rfl <;> omega
  unfold bitZ
  rw [if_neg (by omega), h1.1, h1.2, Int.ediv_ediv_of_nonneg (Int.le_of_lt (Int.pow_pos (by decide))), ← Int.pow_add]
  have : (i * w % 64 + (m : Int)).toNat = (i * w % 64).toNat + m := by omega
  rw [this]
section
variable {n0 : Nat} {w0 : World} {I0 : Nat → Prop} {Q : Exit → Sta → Prop} {H : Hp}
theorem rGet_l1 {g : List Int} (hg : ∀ x, x ∈ g → 0 ≤ x ∧ x < 18446744073709551616) {i w y : Int} (hi : 0 ≤ i) (hi1 : i ≤ 1099511627776) (hw : w = 1 ∨ w = 8 ∨ w = 16 ∨ w = 32 ∨ w = 64) (hy : y = ((g[(i * w / 64).toNat]?).getD 0) / 2 ^ (i * w % 64).toNat) (y0 : 0 ≤ y) (y1 : y < 18446744073709551616) : ∀ (m : Nat) (k : Nat) (x j : Int), k + m = w → j = (m : Int) - 1 → x = y / 2 ^ m % 2 ^ k →
    (∀ j' b, Q (.exit 0) ⟨lk [(0, uws g), (2, iv i), (7, iv w), (8, uv (y % 2 ^ w.toNat)), (9, iv j'), (25, bv b)], H⟩) →
    LoopC (cx Try.prog w0 I0 n0) l1_centoref01_Get Q ⟨lk [(0, uws g), (2, iv i), (7, iv w), (8, uv x), (9, iv j)], H⟩ := by
  intro m
  induction m with
  | zero =>
    intro k x j hk hj hx hq
    subst hj
    refine loopC_once mixed l1_centoref01_Get.eq_1 ?_
    simp
    have : w.toNat = k := by omega
    rw [this] at hq
    rw [hx]
    simpa using hq _ _
  | succ m ih =>
    intro k x j hk hj hx hq
    have hj' : j = m := by omega
    subst hj'
    have hm : (m : Int) < w := by omega
    have hb : 0 ≤ i * w ∧ i * w ≤ 70368744177664 := by rcases hw with rfl | rfl | rfl | rfl | rfl <;> omega
    have e1 : IntKind.i64.wrap (i * w) = i * w := i64_same (by omega) (by omega)
    have e2 : IntKind.i64.wrap (i * w + m) = i * w + m := i64_same (by omega) (by omega)
    have e3 : IntKind.i64.wrap ((m : Int) - 1) = m - 1 := i64_same (by omega) (by omega)
    refine loopC_once mixed l1_centoref01_Get.eq_1 ?_
    simp [e1, e2]
    refine sc_call (rBit_spec hg (i := i * w + m) (by omega) (by omega)) rfl ?_
    simp [e3]
    rw [bit_of hi hw m hm, ← hy]
    have hu := bits_up y m k
    have hz0 : 0 ≤ y / 2 ^ m := Int.ediv_nonneg y0 (Int.le_of_lt (Int.pow_pos (by decide)))
    have hz1 : y / 2 ^ m ≤ y := Int.ediv_le_self _ y0
    have p2 : (0 : Int) < 2 ^ (k + 1) := Int.pow_pos (by omega)
    have m0 := Int.emod_nonneg (y / 2 ^ m) (by omega : (2 : Int) ^ (k + 1) ≠ 0)
    have m1 : y / 2 ^ m % 2 ^ (k + 1) ≤ y / 2 ^ m := by
      rw [Int.emod_def]
      have := Int.mul_nonneg (a := 2 ^ (k + 1)) (b := y / 2 ^ m / 2 ^ (k + 1)) (by omega) (Int.ediv_nonneg hz0 (by omega))
      omega
    have p3 : (0 : Int) < 2 ^ k := Int.pow_pos (by omega)
    have n0 := Int.emod_nonneg (y / 2 ^ (m + 1)) (by omega : (2 : Int) ^ k ≠ 0)
    rw [← hx] at hu n0
    rw [u64_same (n := x * 2) (by omega) (by omega), u64_same (by omega) (by omega)]
    exact ih (k + 1) _ _ (by omega) rfl hu hq
end
theorem rGet_spec {g : List Int} (hg : ∀ x, x ∈ g → 0 ≤ x ∧ x < 18446744073709551616) (c i : Int) : G.Spec Try.prog 166 [uws g, iv c, iv i] (uv (getZ g c i)) := by
  refine spec_of t_centoref01_Get (by simp) fun w0 I0 => ?_
  unfold c_centoref01_Get
  simp
  refine sc_call (rWidth_spec c) rfl ?_
  have hw := widthZ_cases c
  by_cases h0 : widthZ c < 1 ∨ i < 0 ∨ 1099511627776 < i
  · have e : getZ g c i = 0 := by unfold getZ; rw [if_pos h0]
    rw [e]
    have hd : (decide (widthZ c < 1) || decide (i < 0) || decide (1099511627776 < i)) = true := by simp; omega
    simp [hd]
    exact frz_bare rfl
  · have hw1 : widthZ c = 1 ∨ widthZ c = 8 ∨ widthZ c = 16 ∨ widthZ c = 32 ∨ widthZ c = 64 := by omega
    have hd : (decide (widthZ c < 1) || decide (i < 0) || decide (1099511627776 < i)) = false := by simp; omega
    have hi0 : 0 ≤ i := by omega
    have e : getZ g c i = ((g[(i * widthZ c / 64).toNat]?).getD 0) / 2 ^ (i * widthZ c % 64).toNat % 2 ^ (widthZ c).toNat := by unfold getZ; rw [if_neg h0]
    rw [e]
    simp [hd]
    clear e hw
    generalize widthZ c = w at hw1 h0
    rw [i64_same (by omega) (by omega)]
    have hx : 0 ≤ (g[(i * w / 64).toNat]?).getD 0 ∧ (g[(i * w / 64).toNat]?).getD 0 < 18446744073709551616 := by
      cases e : g[(i * w / 64).toNat]? with
      | none => simp
      | some x => exact hg x (List.mem_of_getElem? e)
    have y0 : 0 ≤ (g[(i * w / 64).toNat]?).getD 0 / 2 ^ (i * w % 64).toNat := Int.ediv_nonneg hx.1 (Int.le_of_lt (Int.pow_pos (by decide)))
    have y1 : (g[(i * w / 64).toNat]?).getD 0 / 2 ^ (i * w % 64).toNat < 18446744073709551616 := Int.lt_of_le_of_lt (Int.ediv_le_self _ hx.1) hx.2
    refine rGet_l1 hg hi0 (by omega) hw1 rfl y0 y1 w.toNat 0 0 _ (by omega) (by omega) (by simp) fun j' b => ?_
    simp
    exact frz_is rfl rfl
/-! ### a value -/
theorem raKids_spec (r : Rf) : G.Spec Try.prog 118 [raX r] (iv (nk r)) := by
  refine spec_of t_centoref09_Ref_Kids (by simp) fun w0 I0 => ?_
  unfold c_centoref09_Ref_Kids
  by_cases h1 : r.kind = 1
  · simp [h1]; exact frz_is rfl (by simp [nk, h1])
  · simp [h1]; exact frz_is rfl (by simp [nk, h1])
theorem raAt_spec {l : List (List Int)} (hs : Sg l) (s a : Int) : G.Spec Try.prog 73 [sgs l, iv s, iv a] (.tup [raX (atP l s a).1, iv (atP l s a).2]) := by
  have hf := follow_folw hs.w s a
  refine spec_of t_centoref09_At (by simp) fun w0 I0 => ?_
  unfold c_centoref09_At
  simp
  refine sc_call (refFollow_spec l hs.b hs.w s a) rfl ?_
  unfold atP
  generalize followP l s a = x at hf
  obtain ⟨x, e⟩ := x
  unfold Folw at hf
  simp only at hf ⊢
  by_cases hc : e ≠ 0 ∨ x.p.kind = 0
  · have hd : (!decide (e = 0) || decide (x.p.kind = 0)) = true := by simp; omega
    simp [hd, hc]
    exact frz_is rfl (by simp [Rf.zero])
  · have hd : (!decide (e = 0) || decide (x.p.kind = 0)) = false := by simp; omega
    have he : e = 0 := by omega
    obtain h0 | ⟨hk, hsh, hw⟩ := hf he
    · omega
    have hbd := hasW_bound hs hw
    rw [if_neg hc]
    simp [hd]
    unfold refP
    by_cases k1 : x.p.kind = 1
    · simp [k1, he]
      exact frz_is rfl rfl
    · have k2 : x.p.kind = 2 := by omega
      obtain ⟨c0, c1, _, _⟩ := hsh.k2 k2
      by_cases c7 : x.p.code < 7
      · have e2 : IntKind.i64.wrap (2 + x.p.code) = 2 + x.p.code := i64_same (by omega) (by omega)
        simp [k1, c7, e2]
        exact ⟨frz_is rfl rfl, fun h => absurd h (by omega)⟩
      · rw [wordsP_comp k2 (by omega)] at hw
        have hcnt := (hsh.k2 k2).2.2
        obtain ⟨q1, q2, q3, q4, q5, q6, q7⟩ := hasW_in hw
        simp only [Option.getD_some] at q7
        have q8 : x.at_.toNat < l[x.s.toNat].length := by omega
        have q9 : x.at_ < l[x.s.toNat].length := by omega
        have e0 : (word l x.s x.at_).getD 0 = l[x.s.toNat][x.at_.toNat] := by
          unfold word
          rw [if_pos q3, q6]
          simp [q8]
        have h0 : 0 ≤ (word l x.s x.at_).getD 0 ∧ (word l x.s x.at_).getD 0 < 18446744073709551616 := by
          cases e : word l x.s x.at_ with
          | none => simp
          | some x => exact word_in hs.w e
        simp [k1, c7, q1, q2, q3, q5, q8, q9, ws]
        unfold compP
        rw [← e0]
        generalize (word l x.s x.at_).getD 0 = w at h0
        intro _
        refine sc_call (refDecode_spec h0.1 h0.2) rfl ?_
        have hsh := dec_shp h0.1 h0.2
        have ho := dec_off h0.1 h0.2
        have hdp : 0 ≤ (dec w).data ∧ (dec w).data < 65536 ∧ 0 ≤ (dec w).ptrs ∧ (dec w).ptrs < 65536 := by
          unfold dec
          repeat' split
          all_goals simp
          all_goals omega
        generalize dec w = p at hsh ho hdp
        have hb : -70368744177664 ≤ p.off * (p.data + p.ptrs) ∧ p.off * (p.data + p.ptrs) ≤ 70368744177664 := by
          have b1 : p.off * (p.data + p.ptrs) ≤ 536870912 * (p.data + p.ptrs) := Int.mul_le_mul_of_nonneg_right (by omega) (by omega)
          have b2 : -536870912 * (p.data + p.ptrs) ≤ p.off * (p.data + p.ptrs) := Int.mul_le_mul_of_nonneg_right (by omega) (by omega)
          omega
        have e1 : IntKind.i64.wrap (p.data + p.ptrs) = p.data + p.ptrs := i64_same (by omega) (by omega)
        have e2 : IntKind.i64.wrap (p.off * (p.data + p.ptrs)) = p.off * (p.data + p.ptrs) := i64_same (by omega) (by omega)
        have e3 : IntKind.i64.wrap (x.at_ + 1) = x.at_ + 1 := i64_same (by omega) (by omega)
        by_cases hc : (w ≠ 0 ∧ p.kind ≠ 1) ∨ p.off < 0 ∨ x.p.count < p.off * (p.data + p.ptrs)
        · have hd : (((!decide (w = 0) && !decide (p.kind = 1)) || decide (p.off < 0)) || decide (x.p.count < p.off * (p.data + p.ptrs))) = true := by simp; omega
          rw [if_pos hc]
          simp [e1, e2, hd]
          exact frz_is rfl (by simp [Rf.zero])
        · have hd : (((!decide (w = 0) && !decide (p.kind = 1)) || decide (p.off < 0)) || decide (x.p.count < p.off * (p.data + p.ptrs))) = false := by simp; omega
          rw [if_neg hc]
          simp [e1, e2, e3, hd]
          exact frz_is rfl rfl
theorem raKid_spec {l : List (List Int)} (hs : Sg l) {r : Rf} (hr : RfOk l r) (i : Int) : G.Spec Try.prog 119 [raX r, sgs l, iv i] (.tup [raX (kidP l r i).1, iv (kidP l r i).2]) := by
  refine spec_of t_centoref09_Ref_Kid (by simp) fun w0 I0 => ?_
  unfold c_centoref09_Ref_Kid
  simp
  refine sc_call_gf rfl (fun _ => raKids_spec r) (fun e => by simp [e]) (by simp) ?_
  by_cases hi : i < 0 ∨ nk r ≤ i
  · have hd : (decide (i < 0) || decide (nk r ≤ i)) = true := by simpa using hi
    simp [hd]
    exact frz_is rfl (by simp [kidP, hi, Rf.zero])
  · have hd : (decide (i < 0) || decide (nk r ≤ i)) = false := by simpa using hi
    have hi0 : 0 ≤ i := by omega
    have hi1 : i < nk r := by omega
    have hk := nk_nonneg hr
    rw [kidP, if_neg hi]
    cases hr with
    | zero => simp [nk, Rf.zero] at hi1; omega
    | str s a d k a1 a2 a3 a4 h =>
      have hb := hasW_bound hs h
      have e1 : IntKind.i64.wrap (IntKind.i64.wrap (a + d) + i) = a + d + i := by
        rw [i64_same (n := a + d) (by omega) (by omega), i64_same (by omega) (by omega)]
      simp [hd, e1]
      refine sc_call (raAt_spec hs s (a + d + i)) rfl ?_
      simp
      exact frz_is rfl rfl
    | dat c s a n a1 a2 a3 a4 h =>
      have n1 : ¬ (2 + c = 1) := by omega
      have n8 : ¬ (2 + c = 8) := by omega
      have n9 : ¬ (2 + c = 9) := by omega
      obtain ⟨q1, q2, q3, q4, q5, q6, q7⟩ := hasW_in h
      have hz : 0 ≤ (n * bitsOf c + 63) / 64 := q4
      have q8 : a ≤ l[s.toNat].length := by omega
      have e2 : IntKind.i64.wrap (2 + c - 2) = 2 + c - 2 := i64_same (by omega) (by omega)
      have et : List.take (l[s.toNat].length - a.toNat) (List.drop a.toNat (List.map uv l[s.toNat])) = (l[s.toNat].drop a.toNat).map uv := by
        rw [List.take_of_length_le (by simp), List.map_drop]
      simp [hd, n1, n8, n9, q1, q2, q3, q5, q8, e2, et]
      refine sc_calle (L := [uws (l[s.toNat].drop a.toNat), iv (2 + c - 2), iv i]) (by simp) (rGet_spec (fun x hx => hs.w _ (List.getElem_mem q5) x (List.mem_of_mem_drop hx)) (2 + c - 2) i) rfl ?_
      simp
      exact frz_is rfl (by simp [atomZ, q6])
    | ptrs s a n a1 a2 h =>
      have hb := hasW_bound hs h
      have e1 : IntKind.i64.wrap (a + i) = a + i := i64_same (by omega) (by omega)
      simp [hd, e1]
      refine sc_call (raAt_spec hs s (a + i)) rfl ?_
      simp
      exact frz_is rfl rfl
    | comp s a d k n a1 a2 a3 a4 a5 a6 h =>
      have hb := hasW_bound hs h
      have hn : i < n := by simpa [nk] using hi1
      have m1 : 0 ≤ i * (d + k) := Int.mul_nonneg hi0 (by omega)
      have m2 : i * (d + k) ≤ n * (d + k) := mul_le_of (by omega) (by omega)
      have e1 : IntKind.i64.wrap (d + k) = d + k := i64_same (by omega) (by omega)
      have e2 : IntKind.i64.wrap (i * (d + k)) = i * (d + k) := i64_same (by omega) (by omega)
      have e3 : IntKind.i64.wrap (a + i * (d + k)) = a + i * (d + k) := i64_same (by omega) (by omega)
      simp [hd, e1, e2, e3]
      exact frz_is rfl rfl
    | atom n a1 a2 => simp [nk] at hi1; omega
theorem raWords_spec {l : List (List Int)} (hs : Sg l) {r : Rf} (hr : RfOk l r) : G.Spec Try.prog 117 [raX r, sgs l] (uws (wordsR l r)) := by
  refine spec_of t_centoref09_Ref_Words (by simp) fun w0 I0 => ?_
  unfold c_centoref09_Ref_Words
  by_cases h10 : r.kind = 10
  · simp [h10]
    have : wordsR l r = [r.n] := by simp [wordsR, h10]
    rw [this]
    exact frz_sl
  by_cases h1 : r.kind = 1
  · cases hr with
    | str s a d k a1 a2 a3 a4 h =>
      obtain ⟨q1, q2, q3, q4, q5, q6, q7⟩ := hasW_in h
      have hbd := hasW_bound hs h
      have e1 : IntKind.i64.wrap (a + d) = a + d := i64_same (by omega) (by omega)
      have g1 : a ≤ a + d := by omega
      have g2 : a + d ≤ l[s.toNat].length := by omega
      have g3 := hs.b _ (List.getElem_mem q5)
      have g4 : 0 ≤ a + d := by omega
      have g5 : a.toNat ≤ (a + d).toNat := by omega
      have g6 : (a + d).toNat ≤ l[s.toNat].length := by omega
      have g7 : max (a + d) 0 = a + d := by omega
      simp [e1, q1, q2, q3, q5, g1, g2, g4, g5, g6, g7]
      have gl : (List.take ((a + d).toNat - a.toNat) (List.drop a.toNat (List.map uv l[s.toNat]))) = (part l s a d).map uv := by
        simp only [part, q6, Option.getD_some, List.map_take, List.map_drop]
        congr 1
        omega
      refine ⟨by omega, ?_⟩
      rw [gl]
      have : wordsR l ⟨1, s, a, d, k, 0, 0⟩ = part l s a d := by simp [wordsR]
      rw [this]
      exact frz_row (sz := 1) (by simp) (by simp [part, q6]; omega) (by simp)
    | dat c s a n a1 a2 a3 a4 h => simp at h1; omega
    | _ => simp [Rf.zero] at h1
  · have : wordsR l r = [] := by simp [wordsR, h1, h10]
    rw [this]
    simp [h1, h10]
    exact frz_sl
end Go.Proofs.Ytehcobkphobjiaa

/-
  Chapter 10's reference: what a value means.
-/
namespace Go.Proofs.Ytehcobkphobjiaa
set_option linter.unusedVariables false
set_option linter.unusedSimpArgs false
open Go Go.G Go.Proofs Go.PL
/-! ### plain -/
abbrev LB (l : List (List Int)) (B : Int) (rec : Rf → Int → T × Int × Int) : Prop := ∀ r, RfOk l r → ∀ left : Int, 0 ≤ left → left ≤ B → 0 ≤ (rec r left).2.1 ∧ (rec r left).2.1 ≤ B
theorem loopM_lb {B : Int} {f : Nat → Int → T × Int × Int} (hf : ∀ i left, 0 ≤ left → left ≤ B → 0 ≤ (f i left).2.1 ∧ (f i left).2.1 ≤ B) : ∀ (m i : Nat) (acc : List T) (left : Int), 0 ≤ left → left ≤ B → 0 ≤ (loopM f m i acc left).2.1 ∧ (loopM f m i acc left).2.1 ≤ B
  | 0, i, acc, left, h0, h1 => ⟨h0, h1⟩
  | m + 1, i, acc, left, h0, h1 => by
    rw [loopM]
    have := hf i left h0 h1
    split
    · exact this
    · exact loopM_lb hf m _ _ _ this.1 this.2
theorem stepM_lb {l : List (List Int)} (hw : Wds l) {B : Int} {rec : Rf → Int → T × Int × Int} (h : LB l B rec) {r : Rf} (hr : RfOk l r) (i : Nat) (left : Int) (h0 : 0 ≤ left) (h1 : left ≤ B) : 0 ≤ (stepM l rec r i left).2.1 ∧ (stepM l rec r i left).2.1 ≤ B := by
  unfold stepM
  split
  · exact ⟨h0, h1⟩
  · exact h _ (kid_ok hw hr i) _ h0 h1
theorem kidsM_lb {l : List (List Int)} (hw : Wds l) {B : Int} {rec : Rf → Int → T × Int × Int} (h : LB l B rec) : LB l B (kidsM l rec) := fun r hr left h0 h1 =>
  loopM_lb (stepM_lb hw h hr) _ _ _ _ h0 h1
theorem leafM_lb {l : List (List Int)} {B : Int} : LB l B (leafM l) := fun r hr left h0 h1 => ⟨h0, h1⟩
theorem costM_pos {l : List (List Int)} {r : Rf} (hr : RfOk l r) : 1 ≤ costM r ∧ costM r ≤ 100000000000000 := by
  cases hr with
  | zero => simp [costM, nk, Rf.zero]
  | str s a d k a1 a2 a3 a4 h => simp [costM]; omega
  | dat c s a n a1 a2 a3 a4 h => simp [costM, nk]; rw [if_neg (by omega), if_neg (by omega), if_neg (by omega)]; omega
  | ptrs s a n a1 a2 h => simp [costM, nk]; omega
  | comp s a d k n a1 a2 a3 a4 a5 a6 h =>
    simp [costM]
    have m1 : 0 ≤ n * (1 + d + k) := Int.mul_nonneg (by omega) (by omega)
    have m2 : n * (1 + d + k) ≤ 536870912 * (1 + d + k) := mul_le_of (by omega) (by omega)
    omega
  | atom n a1 a2 => simp [costM, nk]
theorem restM_lb {l : List (List Int)} (hw : Wds l) {B : Int} {r : Rf} (hr : RfOk l r) {rec1 rec2 : Rf → Int → T × Int × Int} (h1 : LB l B rec1) (h2 : LB l B rec2) {left : Int} (h3 : ¬ left < costM r) (h4 : left ≤ B) : 0 ≤ (restM l r rec1 rec2 left).2.1 ∧ (restM l r rec1 rec2 left).2.1 ≤ B := by
  have := costM_pos hr
  unfold restM
  refine loopM_lb (stepM_lb hw ?_ hr) _ _ _ _ (by omega) (by omega)
  split
  · exact kidsM_lb hw h2
  · split
    · exact h1
    · exact leafM_lb
theorem meaning_lb {l : List (List Int)} (hw : Wds l) {B : Int} : ∀ d : Nat, LB l B (meaning l d)
  | 0, r, hr, left, h0, h1 => by
    rw [meaning]; split <;> exact ⟨h0, h1⟩
  | 1, r, hr, left, h0, h1 => by
    rw [meaning]
    split
    · exact ⟨h0, h1⟩
    · split
      · exact ⟨h0, h1⟩
      · split
        · exact ⟨h0, h1⟩
        · rename_i hc
          exact restM_lb hw hr (meaning_lb hw 0) (fun r hr left h0 h1 => ⟨h0, h1⟩) hc h1
  | d + 2, r, hr, left, h0, h1 => by
    rw [meaning]
    split
    · exact ⟨h0, h1⟩
    · split
      · exact ⟨h0, h1⟩
      · rename_i hc
        exact restM_lb hw hr (meaning_lb hw (d + 1)) (meaning_lb hw d) hc h1
/-! ### the walks -/
abbrev M3 (x : T × Int × Int) : A := .tup [tX x.1, iv x.2.1, iv x.2.2]
abbrev raL (r : Rf) : List A := [iv r.kind, iv r.s, iv r.at_, iv r.data, iv r.kids, iv r.count, uv r.n]
abbrev RecS (l : List (List Int)) (g : FuncId) (d : Nat) (B : Int) (rec : Rf → Int → T × Int × Int) : Prop := ∀ r, RfOk l r → ∀ left : Int, 0 ≤ left → left ≤ B → G.Spec Try.prog g [sgs l, raX r, iv d, iv left] (M3 (rec r left))
abbrev zT : List A := [iv 0, .sl true [], .sl true []]
theorem kids_in {l : List (List Int)} {r : Rf} (hr : RfOk l r) : 0 ≤ r.kids ∧ r.kids < 65536 := by
  cases hr <;> simp [Rf.zero] <;> omega
section
variable {n0 : Nat} {w0 : World} {I0 : Nat → Prop} {Q : Exit → Sta → Prop}
theorem rkids_l1 {l : List (List Int)} (hs : Sg l) {r : Rf} (hr : RfOk l r) {rec : Rf → Int → T × Int × Int} {d : Nat} {B : Int} (hrec : RecS l 74 d B rec) (hlb : LB l B rec) {W : List Int} {ks : List T} {lf e : Int} : ∀ (m i u : Nat) (acc : List T) (left : Int) (H : Hp), (i : Int) + m = r.kids → acc.length = i → 0 ≤ left → left ≤ B → H [0] = ⟨1, .cells (raL r)⟩ → H [1] = ⟨1, .cells zT⟩ → H [2] = ⟨1, .cells [iv 1, uws W, .osl [5] u 3 0 i]⟩ → H [5] = ⟨u, .arr 3 (acc.map tA)⟩ → loopM (stepM l rec r) m i acc left = (ks, lf, e) →
    (e = 0 → ∀ i' q u' H', H' [1] = ⟨1, .cells zT⟩ → H' [2] = ⟨1, .cells [iv 1, uws W, .osl [5] u' 3 0 ks.length]⟩ → H' [5] = ⟨u', .arr 3 (ks.map tA)⟩ → Q (.exit 0) ⟨lk [(0, sgs l), (2, iv d), (3, iv lf), (5, .pob [0] 1 0), (8, .pob [1] 1 0), (11, .pob [2] 1 0), (12, iv i'), (25, bv q)], H'⟩) →
    (e ≠ 0 → ∀ u' H', H' [1] = ⟨1, .cells [iv 1, uws W, .osl [5] u' 3 0 ks.length]⟩ → H' [5] = ⟨u', .arr 3 (ks.map tA)⟩ → Q .ret ⟨lk [(8, .pob [1] 1 0), (9, iv lf), (10, iv e)], H'⟩) →
    LoopC (cx Try.prog w0 I0 n0) l1_centoref10_kids Q ⟨lk [(0, sgs l), (2, iv d), (3, iv left), (5, .pob [0] 1 0), (8, .pob [1] 1 0), (11, .pob [2] 1 0), (12, iv i)], H⟩ := by
  have hb := kids_in hr
  intro m
  induction m with
  | zero =>
    intro i u acc left H hi ha h0 h1 hA hR hO hK hX hq hq2
    have : (i : Int) = r.kids := by omega
    rw [loopM] at hX
    cases hX
    refine loopC_once mixed l1_centoref10_kids.eq_1 ?_
    simp [hA, this]
    refine hq rfl _ _ u H hR (by rw [hO, ha]) hK
  | succ m ihm =>
    intro i u acc left H hi ha h0 h1 hA hR hO hK hX hq hq2
    have hlt : (i : Int) < r.kids := by omega
    have ei : IntKind.i64.wrap ((i : Int) + 1) = ((i + 1 : Nat) : Int) := i64_same (by omega) (by omega)
    rw [loopM] at hX
    refine loopC_once mixed l1_centoref10_kids.eq_1 ?_
    simp [hA, hlt]
    refine sc_call (raKid_spec hs hr i) (by simp) ?_
    by_cases he : (kidP l r i).2 = 0
    · have hst : stepM l rec r i left = rec (kidP l r i).1 left := by rw [stepM, if_neg (by omega)]
      rw [hst] at hX
      have hlb' := hlb _ (kid_ok hs.w hr i) left h0 h1
      simp [he, hA, hR, hO, hK, updF_app]
      refine sc_call (hrec _ (kid_ok hs.w hr i) left h0 h1) (by simp) ?_
      generalize hy : rec (kidP l r i).1 left = y at hX hlb'
      obtain ⟨y, yl, ye⟩ := y
      simp only at hX hlb'
      by_cases hye : ye = 0
      · rw [if_neg (by simp [hye])] at hX
        simp [hye, hA, hR, hO, hK, updF_app]
        have hrow : List.take i (acc.map tA) ++ [tX y] = (acc ++ [y]).map tA := by rw [List.take_of_length_le (by simp; omega)]; simp
        have hrow' : List.take i (acc.map tA) = acc.map tA := List.take_of_length_le (by simp; omega)
        rw [ei]
        refine ⟨⟨by omega, by omega⟩, ?_⟩
        exact ihm (i + 1) (u + 1) (acc ++ [y]) yl _ (by omega) (by simp [ha]) hlb'.1 hlb'.2 (by simp [updF_app, hA]) (by simp [updF_app, hR]) (by simp [updF_app]) (by simp [updF_app, hrow']) hX hq hq2
      · rw [if_pos hye] at hX
        simp only [Prod.mk.injEq] at hX
        obtain ⟨rfl, rfl, rfl⟩ := hX
        simp [hye, hA, hR, hO, hK, updF_app]
        refine hq2 hye u _ ?_ ?_
        · simp [updF_app, hR, ha]
        · simp [updF_app, hK]
    · have hst : stepM l rec r i left = (T0, left, (kidP l r i).2) := by rw [stepM, if_pos he]
      rw [hst, if_pos he] at hX
      simp only [Prod.mk.injEq] at hX
      obtain ⟨rfl, rfl, rfl⟩ := hX
      simp [he, hA, hR, hO, hK, updF_app]
      refine hq2 he u _ ?_ ?_
      · simp [updF_app, hR, ha]
      · simp [updF_app, hK]
end
theorem rkids_spec {l : List (List Int)} (hs : Sg l) {rec : Rf → Int → T × Int × Int} {d : Nat} {B : Int} (hrec : RecS l 74 d B rec) (hlb : LB l B rec) : RecS l 120 d B (kidsM l rec) := fun r hr left h0 h1 => by
  have hb := kids_in hr
  refine spec_of t_centoref10_kids (by simp) fun w0 I0 => ?_
  unfold c_centoref10_kids
  simp
  refine sc_call (raWords_spec hs hr) (by simp) ?_
  simp
  refine LoopC.le (le_blankC (d := [2]) 2 [5] 3 rfl rfl (by simp)) ?_
  simp
  generalize hX : loopM (stepM l rec r) r.kids.toNat 0 [] left = X
  obtain ⟨ks, lf, e⟩ := X
  have fin : ∀ (H : Hp) (u : Nat), H [5] = ⟨u, .arr 3 (ks.map tA)⟩ → Frz H (.tup [.agg [iv 1, uws (wordsR l r), .osl [5] u 3 0 ks.length], iv lf, iv e]) (M3 (kidsM l rec r left)) := fun H u hH => by
    unfold kidsM
    rw [hX]
    refine frz_tup ?_
    simp
    refine ⟨frz_agg ?_, frz_bare rfl, frz_bare rfl⟩
    simp
    exact ⟨frz_bare rfl, frz_bare rfl, frz_row (by simp [hH]) rfl (by simp)⟩
  refine rkids_l1 (W := wordsR l r) hs hr hrec hlb r.kids.toNat 0 1 [] left _ (by omega) rfl h0 h1 (by simp) (by simp) (by simp) (by simp) hX (fun he i' q u' H' hR hO hK => ?_) (fun he u' H' hR hK => ?_)
  · simp [hR, hO, hK, updF_app]
    rw [← he]
    exact fin _ u' (by simp [updF_app, hK])
  · simp [hR, hK, updF_app]
    exact fin _ u' hK
end Go.Proofs.Ytehcobkphobjiaa

/-
  Chapter 10's reference: what a value means, whole.
-/
namespace Go.Proofs.Ytehcobkphobjiaa
set_option linter.unusedVariables false
set_option linter.unusedSimpArgs false
open Go Go.G Go.Proofs Go.PL
/-- A tree whose kids were never made. -/
def rawT (b : Bool) (t : T) : A := if b = true then .agg [iv t.kind, uws t.words, .sl true []] else tA t
theorem frz_raw {H : Hp} {o : Nm} {u n : Nat} {b : Bool} {l : List T} (h : vr (H o) u = some (3, l.map (rawT b))) (hn : n = l.length) (hb : b = true → ∀ t, t ∈ l → t.kids = []) : Frz H (.osl o u 3 0 n) (tKs l) := by
  subst hn
  cases b with
  | false =>
    have e : rawT false = tA := by funext t; simp [rawT]
    rw [e] at h
    exact frz_row (by simpa using h) rfl (by simp)
  | true =>
    refine frz_osl' (xs := l.map (rawT true)) (by simpa using h) (by simp) (by simp) (fun y hy => ?_) ?_ ?_
    · obtain ⟨x, hx, rfl⟩ := List.mem_map.1 hy
      simp
    · simp only [A.ones, List.all_eq_true, List.mem_flatMap]
      rintro y ⟨z, hz, hy⟩
      obtain ⟨x, hx, rfl⟩ := List.mem_map.1 hz
      simp at hy
      rcases hy with rfl | rfl | rfl <;> rfl
    · rw [List.drop_zero, List.take_of_length_le (by simp)]
      have : ∀ (m : List T), (∀ x, x ∈ m → x ∈ l) → FrzL H ((m.map (rawT true)).flatMap A.cells) ((m.map tA).flatMap A.cells) := by
        intro m
        induction m with
        | nil => intro _; simp
        | cons x m ih =>
          intro hm
          have := hb rfl x (hm x (by simp))
          have := ih fun y hy => hm y (by simp [hy])
          simp [rawT] at this ⊢
          exact ⟨frz_bare rfl, frz_bare rfl, by rw [hb rfl x (hm x (by simp))]; exact frz_sl, this⟩
      exact this l fun x hx => hx
def recM (l : List (List Int)) (r : Rf) (rec1 rec2 : Rf → Int → T × Int × Int) : Rf → Int → T × Int × Int := if r.kind = 9 then kidsM l rec2 else if r.kind = 1 ∨ r.kind = 8 then rec1 else leafM l
def leafB (r : Rf) : Bool := !(decide (r.kind = 9) || decide (r.kind = 1) || decide (r.kind = 8))
theorem leaf_kids {l : List (List Int)} {r : Rf} {rec1 rec2 : Rf → Int → T × Int × Int} (hb : leafB r = true) : ∀ (m i : Nat) (acc : List T) (left : Int), (∀ t, t ∈ acc → t.kids = []) → ∀ t, t ∈ (loopM (stepM l (recM l r rec1 rec2) r) m i acc left).1 → t.kids = []
  | 0, i, acc, left, ha, t, ht => ha t ht
  | m + 1, i, acc, left, ha, t, ht => by
    have e : recM l r rec1 rec2 = leafM l := by
      simp [leafB] at hb
      rw [recM, if_neg hb.1.1, if_neg (by omega)]
    rw [loopM] at ht
    split at ht
    · exact ha t ht
    · refine leaf_kids hb m _ _ _ (fun t ht => ?_) t ht
      rcases List.mem_append.1 ht with h | h
      · exact ha t h
      · simp only [List.mem_singleton] at h
        subst h
        rw [e]
        unfold stepM
        split
        · rfl
        · rfl
section
variable {n0 : Nat} {w0 : World} {I0 : Nat → Prop} {Q : Exit → Sta → Prop}
theorem meaning_l1 {l : List (List Int)} (hs : Sg l) {r : Rf} (hr : RfOk l r) {rec1 rec2 : Rf → Int → T × Int × Int} {d : Nat} (hd : d ≤ 1000) {B : Int}
    (h1 : r.kind = 1 ∨ r.kind = 8 → ∃ d1 : Nat, d = d1 + 1 ∧ RecS l 74 d1 B rec1 ∧ LB l B rec1)
    (h2 : r.kind = 9 → 0 < r.count → ∃ d2 : Nat, d = d2 + 2 ∧ RecS l 120 d2 B (kidsM l rec2) ∧ LB l B (kidsM l rec2))
    {W : List Int} {ks : List T} {lf e : Int} : ∀ (m i u : Nat) (acc : List T) (left : Int) (H : Hp), (i : Int) + m = nk r → acc.length = i → 0 ≤ left → left ≤ B → H [0] = ⟨1, .cells (raL r)⟩ → H [1] = ⟨1, .cells zT⟩ → H [2] = ⟨1, .cells [iv r.kind, uws W, .osl [5] u 3 0 i]⟩ → H [5] = ⟨u, .arr 3 (acc.map (rawT (leafB r)))⟩ → loopM (stepM l (recM l r rec1 rec2) r) m i acc left = (ks, lf, e) →
    (e = 0 → ∀ i' q u' H', H' [1] = ⟨1, .cells zT⟩ → H' [2] = ⟨1, .cells [iv r.kind, uws W, .osl [5] u' 3 0 ks.length]⟩ → H' [5] = ⟨u', .arr 3 (ks.map (rawT (leafB r)))⟩ → Q (.exit 0) ⟨lk [(0, sgs l), (2, iv d), (3, iv lf), (5, .pob [0] 1 0), (8, .pob [1] 1 0), (11, .pob [2] 1 0), (13, iv i'), (82, bv q)], H'⟩) →
    (e ≠ 0 → ∀ u' H', H' [1] = ⟨1, .cells [iv r.kind, uws W, .osl [5] u' 3 0 ks.length]⟩ → H' [5] = ⟨u', .arr 3 (ks.map (rawT (leafB r)))⟩ → Q .ret ⟨lk [(8, .pob [1] 1 0), (9, iv lf), (10, iv e)], H'⟩) →
    LoopC (cx Try.prog w0 I0 n0) l1_centoref10_Meaning Q ⟨lk [(0, sgs l), (2, iv d), (3, iv left), (5, .pob [0] 1 0), (8, .pob [1] 1 0), (11, .pob [2] 1 0), (13, iv i)], H⟩ := by
  have hb := nk_nonneg hr
  intro m
  induction m with
  | zero =>
    intro i u acc left H hi ha h0 hl hA hR hO hK hX hq hq2
    have : (i : Int) = nk r := by omega
    rw [loopM] at hX
    cases hX
    refine loopC_once mixed l1_centoref10_Meaning.eq_1 ?_
    simp [hA]
    refine sc_call (raKids_spec r) (by simp) ?_
    simp [this]
    refine hq rfl _ _ u H hR (by rw [hO, ha]) hK
  | succ m ihm =>
    intro i u acc left H hi ha h0 hl hA hR hO hK hX hq hq2
    have hlt : (i : Int) < nk r := by omega
    have ei : IntKind.i64.wrap ((i : Int) + 1) = ((i + 1 : Nat) : Int) := i64_same (by omega) (by omega)
    have hrow : List.take i (acc.map (rawT (leafB r))) = acc.map (rawT (leafB r)) := List.take_of_length_le (by simp; omega)
    rw [loopM] at hX
    refine loopC_once mixed l1_centoref10_Meaning.eq_1 ?_
    simp [hA]
    refine sc_call (raKids_spec r) (by simp) ?_
    simp [hA, hlt]
    refine sc_call (raKid_spec hs hr i) (by simp) ?_
    have hok := kid_ok hs.w hr i
    have next : ∀ (y : T) (yl ye : Int), stepM l (recM l r rec1 rec2) r i left = (y, yl, ye) → ye = 0 → 0 ≤ yl → yl ≤ B → ∀ (x : A) (H' : Hp), rawT (leafB r) y = x → H' [0] = ⟨1, .cells (raL r)⟩ → H' [1] = ⟨1, .cells zT⟩ → H' [2] = ⟨1, .cells [iv r.kind, uws W, .osl [5] (u + 1) 3 0 (i + 1)]⟩ → H' [5] = ⟨u + 1, .arr 3 (acc.map (rawT (leafB r)) ++ [x])⟩ →
        LoopC (cx Try.prog w0 I0 n0) l1_centoref10_Meaning Q ⟨lk [(0, sgs l), (2, iv d), (3, iv yl), (5, .pob [0] 1 0), (8, .pob [1] 1 0), (11, .pob [2] 1 0), (13, iv ((i + 1 : Nat) : Int))], H'⟩ := fun y yl ye hy he y0 y1 x H' hx a0 a1 a2 a5 => by
      rw [hy, if_neg (by simp [he])] at hX
      exact ihm (i + 1) (u + 1) (acc ++ [y]) yl H' (by omega) (by simp [ha]) y0 y1 a0 a1 a2 (by rw [a5, ← hx]; simp) hX hq hq2
    by_cases he : (kidP l r i).2 = 0
    · have hst : stepM l (recM l r rec1 rec2) r i left = recM l r rec1 rec2 (kidP l r i).1 left := by rw [stepM, if_neg (by omega)]
      rw [hst] at hX next
      simp [he, hA, hR, hO, hK, updF_app]
      refine sc_call (raWords_spec hs hok) (by simp) ?_
      simp [he, hA, hR, hO, hK, updF_app]
      by_cases h9 : r.kind = 9
      · have hrec : recM l r rec1 rec2 = kidsM l rec2 := by rw [recM, if_pos h9]
        have hlf : leafB r = false := by simp [leafB, h9]
        rw [hrec] at hX next
        obtain ⟨d2, ed, hsp, hlb⟩ := h2 h9 (by unfold nk at hlt; rw [if_neg (by omega)] at hlt; omega)
        have e2 : IntKind.i64.wrap ((d : Int) - 2) = (d2 : Int) := by rw [i64_same (by omega) (by omega)]; omega
        have hlb' := hlb _ hok left h0 hl
        simp [h9, e2, hA, updF_app]
        refine sc_call (hsp _ hok left h0 hl) (by simp) ?_
        generalize hy : kidsM l rec2 (kidP l r i).1 left = y at hX hlb' next
        obtain ⟨y, yl, ye⟩ := y
        simp only at hX hlb'
        rw [k1_centoref10_Meaning.eq_1]
        by_cases hye : ye = 0
        · simp [hye, hA, hR, hO, hK, updF_app, hrow]
          rw [ei]
          refine ⟨⟨by omega, by omega⟩, ?_⟩
          refine next y yl ye rfl hye hlb'.1 hlb'.2 _ _ rfl ?_ ?_ ?_ ?_
          · simp [updF_app, hA]
          · simp [updF_app, hR]
          · simp [updF_app, h9]
          · simp [updF_app, hlf, rawT]
        · rw [if_pos hye] at hX
          simp only [Prod.mk.injEq] at hX
          obtain ⟨rfl, rfl, rfl⟩ := hX
          simp [hye, hA, hR, hO, hK, updF_app]
          refine hq2 hye u _ ?_ ?_
          · simp [updF_app, hR, ha, h9]
          · simp [updF_app, hK]
      · by_cases h18 : r.kind = 1 ∨ r.kind = 8
        · have hrec : recM l r rec1 rec2 = rec1 := by rw [recM, if_neg h9, if_pos h18]
          have hlf : leafB r = false := by rcases h18 with h | h <;> simp [leafB, h]
          have hdc : (decide (r.kind = 1) || decide (r.kind = 8)) = true := by simpa using h18
          rw [hrec] at hX next
          obtain ⟨d1, ed, hsp, hlb⟩ := h1 h18
          have e2 : IntKind.i64.wrap ((d : Int) - 1) = (d1 : Int) := by rw [i64_same (by omega) (by omega)]; omega
          have hlb' := hlb _ hok left h0 hl
          simp [h9, hdc, e2, hA, updF_app]
          refine ⟨fun _ => ?_, fun a b => by omega⟩
          refine sc_call (hsp _ hok left h0 hl) (by simp) ?_
          generalize hy : rec1 (kidP l r i).1 left = y at hX hlb' next
          obtain ⟨y, yl, ye⟩ := y
          simp only at hX hlb'
          rw [k1_centoref10_Meaning.eq_1]
          by_cases hye : ye = 0
          · simp [hye, hA, hR, hO, hK, updF_app, hrow]
            rw [ei]
            refine ⟨⟨by omega, by omega⟩, ?_⟩
            refine next y yl ye rfl hye hlb'.1 hlb'.2 _ _ rfl ?_ ?_ ?_ ?_
            · simp [updF_app, hA]
            · simp [updF_app, hR]
            · simp [updF_app]
            · simp [updF_app, hlf, rawT]
          · rw [if_pos hye] at hX
            simp only [Prod.mk.injEq] at hX
            obtain ⟨rfl, rfl, rfl⟩ := hX
            simp [hye, hA, hR, hO, hK, updF_app]
            refine hq2 hye u _ ?_ ?_
            · simp [updF_app, hR, ha]
            · simp [updF_app, hK]
        · have hrec : recM l r rec1 rec2 = leafM l := by rw [recM, if_neg h9, if_neg h18]
          have hlf : leafB r = true := by simp [leafB]; omega
          have hdc : (decide (r.kind = 1) || decide (r.kind = 8)) = false := by simpa using h18
          rw [hrec] at next
          simp [h9, hdc, hA, updF_app]
          rw [k1_centoref10_Meaning.eq_1]
          simp [he, hA, hR, hO, hK, updF_app, hrow]
          rw [ei]
          refine ⟨fun h => absurd h h18, fun _ _ => ⟨⟨by omega, by omega⟩, ?_⟩⟩
          refine next _ _ _ rfl rfl h0 hl _ _ rfl ?_ ?_ ?_ ?_
          · simp [updF_app, hA]
          · simp [updF_app, hR]
          · simp [updF_app]
          · simp [updF_app, hlf, rawT]
    · have hst : stepM l (recM l r rec1 rec2) r i left = (T0, left, (kidP l r i).2) := by rw [stepM, if_pos he]
      rw [hst, if_pos he] at hX
      simp only [Prod.mk.injEq] at hX
      obtain ⟨rfl, rfl, rfl⟩ := hX
      simp [he, hA, hR, hO, hK, updF_app]
      refine hq2 he u _ ?_ ?_
      · simp [updF_app, hR, ha]
      · simp [updF_app, hK]
end
theorem meaning_step {l : List (List Int)} (hs : Sg l) {r : Rf} (hr : RfOk l r) {rec1 rec2 : Rf → Int → T × Int × Int} {d : Nat} (hd : d ≤ 1000) {B : Int} (hB : B ≤ 1000000)
    (h1 : r.kind = 1 ∨ r.kind = 8 → 0 < d → ∃ d1 : Nat, d = d1 + 1 ∧ RecS l 74 d1 B rec1 ∧ LB l B rec1)
    (h2 : r.kind = 9 → 0 < r.count → 1 < d → ∃ d2 : Nat, d = d2 + 2 ∧ RecS l 120 d2 B (kidsM l rec2) ∧ LB l B (kidsM l rec2))
    {left : Int} (h0 : 0 ≤ left) (hl : left ≤ B) {X : T × Int × Int} (hX : X = if r.kind = 0 then leafM l r left else if d < 1 ∨ (r.kind = 9 ∧ 0 < r.count ∧ d < 2) then stopM l r left else if left < costM r then stopM l r left else restM l r rec1 rec2 left) : G.Spec Try.prog 74 [sgs l, raX r, iv d, iv left] (M3 X) := by
  have hb := nk_nonneg hr
  have hc := costM_pos hr
  refine spec_of t_centoref10_Meaning (by simp) fun w0 I0 => ?_
  unfold c_centoref10_Meaning
  simp
  refine sc_call (raWords_spec hs hr) (by simp) ?_
  have leaf : ∀ (H : Hp) (k lf e : Int) (X : T × Int × Int), X = (.mk k (wordsR l r) [], lf, e) → Frz H (.tup [.agg [iv k, uws (wordsR l r), .sl true []], iv lf, iv e]) (M3 X) := fun H k lf e X hX => by
    rw [hX]
    exact frz_tup (by simp; exact ⟨frz_agg (by simp; exact ⟨frz_bare rfl, frz_bare rfl, frz_sl⟩), frz_bare rfl, frz_bare rfl⟩)
  by_cases k0 : r.kind = 0
  · rw [if_pos k0, leafM, k0] at hX
    simp [k0]
    exact leaf _ _ _ _ _ hX
  rw [if_neg k0] at hX
  by_cases hst : d < 1 ∨ (r.kind = 9 ∧ 0 < r.count ∧ d < 2)
  · have hd : (decide ((d : Int) < 1) || ((decide (r.kind = 9) && decide (0 < r.count)) && decide ((d : Int) < 2))) = true := by simp; omega
    rw [if_pos hst, stopM] at hX
    by_cases d0 : (d : Int) < 1
    · simp [k0, d0]
      exact leaf _ _ _ _ _ hX
    · have h9 : r.kind = 9 := by omega
      have hcn : 0 < r.count := by omega
      have d2 : (d : Int) < 2 := by omega
      simp [k0, d0, h9, hcn, d2]
      rw [h9] at hX
      exact leaf _ _ _ _ _ hX
  rw [if_neg hst] at hX
  have d0 : ¬ (d : Int) < 1 := by omega
  have fin : ∀ (H : Hp), H [0] = ⟨1, .cells (raL r)⟩ → H [1] = ⟨1, .cells zT⟩ → H [2] = ⟨1, .cells [iv r.kind, uws (wordsR l r), .sl true []]⟩ → H [5] = ⟨0, .none⟩ → WPC (cx Try.prog w0 I0 149) k2_centoref10_Meaning (RetC Try.prog [.cell 8 53, .tmp 9, .tmp 10] (M3 X)) ⟨lk [(0, sgs l), (2, iv d), (3, iv left), (5, .pob [0] 1 0), (8, .pob [1] 1 0), (11, .pob [2] 1 0), (12, iv (costM r))], H⟩ := fun H hA hR hO hN => by
    rw [k2_centoref10_Meaning.eq_1]
    by_cases hlc : left < costM r
    · rw [if_pos hlc, stopM] at hX
      simp [hlc, hA, hR, hO, updF_app]
      exact leaf _ _ _ _ _ hX
    · rw [if_neg hlc, restM] at hX
      have ew : IntKind.i64.wrap (left - costM r) = left - costM r := i64_same (by omega) (by omega)
      simp [hlc, hA, hR, hO, updF_app, ew]
      have hX' : X = (.mk r.kind (wordsR l r) (loopM (stepM l (recM l r rec1 rec2) r) (nk r).toNat 0 [] (left - costM r)).1, (loopM (stepM l (recM l r rec1 rec2) r) (nk r).toNat 0 [] (left - costM r)).2.1, (loopM (stepM l (recM l r rec1 rec2) r) (nk r).toNat 0 [] (left - costM r)).2.2) := hX
      have hleaf := fun hb => leaf_kids (rec1 := rec1) (rec2 := rec2) (l := l) (r := r) hb (nk r).toNat 0 [] (left - costM r) (by simp)
      generalize hY : loopM (stepM l (recM l r rec1 rec2) r) (nk r).toNat 0 [] (left - costM r) = Y at hX' hleaf
      obtain ⟨ks, lf, e⟩ := Y
      have done : ∀ (H : Hp) (u : Nat), H [5] = ⟨u, .arr 3 (ks.map (rawT (leafB r)))⟩ → Frz H (.tup [.agg [iv r.kind, uws (wordsR l r), .osl [5] u 3 0 ks.length], iv lf, iv e]) (M3 X) := fun H u hH => by
        rw [hX']
        exact frz_tup (by simp; exact ⟨frz_agg (by simp; exact ⟨frz_bare rfl, frz_bare rfl, frz_raw (by simp [hH]) rfl hleaf⟩), frz_bare rfl, frz_bare rfl⟩)
      refine LoopC.le (le_blankC (d := [2]) 2 [5] 3 hO rfl (by simp)) ?_
      refine meaning_l1 (W := wordsR l r) hs hr hd (fun k => h1 k (by omega)) (fun k k' => h2 k k' (by omega)) (nk r).toNat 0 1 [] (left - costM r) _ (by omega) rfl (by omega) (by omega) (by simp [updF_app, hA]) (by simp [updF_app, hR]) (by simp [updF_app, hN]) (by simp [updF_app, hN]) hY (fun he i' q u' H' hR hO hK => ?_) (fun he u' H' hR hK => ?_)
      · simp [hR, hO, hK, updF_app]
        rw [← he]
        exact done _ u' (by simp [updF_app, hK])
      · simp [hR, hK, updF_app]
        exact done _ u' hK
  have b0 : decide (r.kind = 0) = false := by simpa using k0
  have hst' : ((decide (r.kind = 9) && decide (0 < r.count)) && decide ((d : Int) < 2)) = false := by
    simp only [Bool.and_eq_false_iff, decide_eq_false_iff_not]
    omega
  simp [b0, d0, hst']
  refine sc_call (raKids_spec r) (by simp) ?_
  have ek : IntKind.i64.wrap (1 + nk r) = 1 + nk r := i64_same (by omega) (by omega)
  by_cases k1 : r.kind = 1
  · have b1 : decide (r.kind = 1) = true := by simpa using k1
    have b9 : decide (r.kind = 9) = false := by simp [k1]
    have ec : IntKind.i64.wrap (IntKind.i64.wrap (1 + r.data) + r.kids) = costM r := by
      cases hr with
      | str s a d k a1 a2 a3 a4 h =>
        rw [i64_same (n := 1 + _) (by simp; omega) (by simp; omega), i64_same (by simp; omega) (by simp; omega)]
        simp [costM]
      | dat c s a n a1 a2 a3 a4 h => simp at k1; omega
      | _ => simp [Rf.zero] at k1
    simp [b1]
    rw [k3_centoref10_Meaning.eq_1]
    simp [b9, ec]
    exact fin _ (by simp) (by simp) (by simp) (by simp)
  · have b1 : decide (r.kind = 1) = false := by simpa using k1
    by_cases k9 : r.kind = 9
    · have b9 : decide (r.kind = 9) = true := by simpa using k9
      have ec : IntKind.i64.wrap (1 + IntKind.i64.wrap (r.count * IntKind.i64.wrap (IntKind.i64.wrap (1 + r.data) + r.kids))) = costM r := by
        have e : costM r = 1 + r.count * (1 + r.data + r.kids) := by simp [costM, k9]
        have hd : 0 ≤ r.data ∧ r.data < 65536 ∧ 0 ≤ r.kids ∧ r.kids < 65536 := by
          cases hr with
          | comp s a d k n a1 a2 a3 a4 a5 a6 h => exact ⟨a1, a2, a3, a4⟩
          | dat c s a n a1 a2 a3 a4 h => simp at k9; omega
          | _ => simp [Rf.zero] at k9
        rw [i64_same (n := 1 + r.data) (by omega) (by omega), i64_same (n := 1 + r.data + r.kids) (by omega) (by omega), i64_same (n := r.count * _) (by omega) (by omega), i64_same (by omega) (by omega), e]
      simp [b1, ek]
      rw [k3_centoref10_Meaning.eq_1]
      simp [b9, ec]
      exact fin _ (by simp) (by simp) (by simp) (by simp)
    · have b9 : decide (r.kind = 9) = false := by simpa using k9
      have ec : 1 + nk r = costM r := by simp [costM, k1, k9]
      have ek' : IntKind.i64.wrap (1 + nk r) = costM r := by rw [ek, ec]
      simp [b1, ek']
      rw [k3_centoref10_Meaning.eq_1]
      simp [b9]
      refine fin _ ?_ ?_ ?_ ?_ <;> simp
theorem meaning_spec {l : List (List Int)} (hs : Sg l) {B : Int} (hB : B ≤ 1000000) : ∀ d : Nat, d ≤ 1000 → RecS l 74 d B (meaning l d)
  | 0, hd, r, hr, left, h0, hl => by
    refine meaning_step hs hr hd hB (rec1 := leafM l) (rec2 := leafM l) (fun _ h => absurd h (by omega)) (fun _ _ h => absurd h (by omega)) h0 hl ?_
    rw [meaning]
    simp
  | 1, hd, r, hr, left, h0, hl => by
    refine meaning_step hs hr hd hB (rec1 := meaning l 0) (rec2 := fun r left => stopM l r left) (fun _ _ => ⟨0, rfl, meaning_spec hs hB 0 (by omega), meaning_lb hs.w 0⟩) (fun _ _ h => absurd h (by omega)) h0 hl ?_
    rw [meaning]
    simp
  | d + 2, hd, r, hr, left, h0, hl => by
    refine meaning_step hs hr hd hB (rec1 := meaning l (d + 1)) (rec2 := meaning l d) (fun _ _ => ⟨d + 1, rfl, meaning_spec hs hB (d + 1) (by omega), meaning_lb hs.w (d + 1)⟩) (fun _ _ _ => ⟨d, rfl, rkids_spec hs (meaning_spec hs hB d (by omega)) (meaning_lb hs.w d), kidsM_lb hs.w (meaning_lb hs.w d)⟩) h0 hl ?_
    have n1 : ¬ (d + 2 < 1 ∨ r.kind = 9 ∧ 0 < r.count ∧ d + 2 < 2) := by omega
    rw [meaning, if_neg n1]
end Go.Proofs.Ytehcobkphobjiaa

/-
  Chapter 10's reference: what a message means; chapter 15's law.
-/
namespace Go.Proofs.Ytehcobkphobjiaa
set_option linter.unusedVariables false
set_option linter.unusedSimpArgs false
open Go Go.G Go.Proofs Go.PL
def clampZ (x m : Int) : Int := if x < 0 then 0 else if m < x then m else x
theorem within10_spec (x m : Int) : G.Spec Try.prog 114 [iv x, iv m] (iv (clampZ x m)) := by
  refine spec_of t_centoref10_within (by simp) fun w0 I0 => ?_
  unfold c_centoref10_within
  by_cases h : x < 0
  · simp [h]
    exact frz_is rfl (by simp [clampZ, h])
  · by_cases h2 : m < x
    · simp [h, h2]
      exact frz_is rfl (by simp [clampZ, h, h2])
    · simp [h, h2]
      exact frz_is rfl (by simp [clampZ, h, h2])
abbrev liX (a b c d : Int) : A := .agg [iv a, iv b, iv c, iv d]
set_option maxRecDepth 100000 in
theorem limits_spec (a b c d : Int) : G.Spec Try.prog 72 [liX a b c d] (liX (clampZ a 64) (clampZ b 65536) (clampZ c 4096) (clampZ d 131072)) := by
  refine spec_of t_centoref10_Limits (by simp) fun w0 I0 => ?_
  unfold c_centoref10_Limits
  simp
  refine sc_call (within10_spec a 64) rfl ?_
  simp
  refine sc_call (within10_spec b 65536) rfl ?_
  simp
  refine sc_call (within10_spec c 4096) rfl ?_
  simp
  refine sc_call (within10_spec d 131072) rfl ?_
  simp
  exact frz_bare rfl
def lightZ (b : Int) : Int := if 3000 < b then 3000 else b
theorem light_spec (a b c d : Int) : G.Spec Try.prog 38 [liX a b c d] (liX a (lightZ b) c d) := by
  refine spec_of t_centolaw10_Light (by simp) fun w0 I0 => ?_
  unfold c_centolaw10_Light
  by_cases h : 3000 < b
  · simp [h]
    exact frz_is rfl (by simp [lightZ, h])
  · simp [h]
    exact frz_is rfl (by simp [lightZ, h])
/-- What a message means; an error. -/
def unfP (l : List (List Int)) (a b : Int) : T × Int × Int :=
  if (atP l 0 0).2 ≠ 0 then (T0, 0, (atP l 0 0).2)
  else if (meaning l (clampZ a 64).toNat (atP l 0 0).1 (clampZ b 65536)).2.2 ≠ 0 then (T0, 0, (meaning l (clampZ a 64).toNat (atP l 0 0).1 (clampZ b 65536)).2.2)
  else ((meaning l (clampZ a 64).toNat (atP l 0 0).1 (clampZ b 65536)).1, clampZ b 65536 - (meaning l (clampZ a 64).toNat (atP l 0 0).1 (clampZ b 65536)).2.1, 0)
theorem clamp_in (x m : Int) (h : 0 ≤ m) : 0 ≤ clampZ x m ∧ clampZ x m ≤ m := by
  unfold clampZ; split
  · omega
  · split <;> omega
theorem unfold_spec {l : List (List Int)} (hs : Sg l) (a b c d : Int) : G.Spec Try.prog 31 [sgs l, liX a b c d] (M3 (unfP l a b)) := by
  have ha := clamp_in a 64 (by decide)
  have hb := clamp_in b 65536 (by decide)
  refine spec_of t_centoref10_Unfold (by simp) fun w0 I0 => ?_
  unfold c_centoref10_Unfold
  simp
  refine sc_call (limits_spec a b c d) rfl ?_
  simp
  refine sc_call (raAt_spec hs 0 0) rfl ?_
  simp
  unfold unfP
  have hok := at_ok hs.w 0 0
  generalize hx : atP l 0 0 = x at hok
  obtain ⟨r, e⟩ := x
  simp only
  by_cases he : e = 0
  · rw [if_neg (by simp [he])]
    obtain ⟨D, hD⟩ : ∃ D : Nat, clampZ a 64 = (D : Int) := ⟨(clampZ a 64).toNat, by omega⟩
    have hm := meaning_spec hs (B := 65536) (by omega) D (by omega) r hok (clampZ b 65536) hb.1 hb.2
    have hlb := meaning_lb hs.w (B := 65536) D r hok (clampZ b 65536) hb.1 hb.2
    simp [he, hD]
    refine sc_call hm (by simp) ?_
    generalize meaning l D r (clampZ b 65536) = y at hlb
    obtain ⟨t, lf, e2⟩ := y
    simp only at hlb ⊢
    by_cases he2 : e2 = 0
    · have ew : IntKind.i64.wrap (clampZ b 65536 - lf) = clampZ b 65536 - lf := i64_same (by omega) (by omega)
      simp [he2, ew]
      exact frz_bare (tup_bare (by simp))
    · simp [he2]
      exact frz_tup (by simp; exact ⟨frz_T0, frz_bare rfl, frz_bare rfl⟩)
  · rw [if_pos he]
    simp [he]
    exact frz_tup (by simp; exact ⟨frz_T0, frz_bare rfl, frz_bare rfl⟩)
theorem unfold_means {l : List (List Int)} (hs : Sg l) {a b : Int} (h : (unfP l a b).2.2 = 0) : Means l (atP l 0 0).1 (unfP l a b).1 := by
  unfold unfP at h ⊢
  split at h
  · rename_i h0; exact absurd h h0
  · rename_i h0
    rw [if_neg h0]
    split at h
    · rename_i h1; exact absurd h h1
    · rename_i h1
      rw [if_neg h1]
      exact meaning_means hs.w _ _ _ (at_ok hs.w 0 0) (by omega)
/-! ### the law -/
end Go.Proofs.Ytehcobkphobjiaa

/-
  Chapter 15: the law EqualGoes.
-/
namespace Go.Proofs.Ytehcobkphobjiaa
set_option linter.unusedVariables false
set_option linter.unusedSimpArgs false
open Go Go.G Go.Proofs Go.PL
abbrev s1 : List (List Int) := [[4294967296, 7]]
abbrev s2 : List (List Int) := [[8589934592, 7, 0]]
abbrev s3 : List (List Int) := [[4294967296, 8]]
theorem sg1 : Sg s1 := ⟨fun x hx => by simp at hx; subst hx; simp, fun x hx y hy => by simp at hx; subst hx; simp at hy; omega⟩
theorem unf1 : unfP s1 64 3000 = (.mk 1 [7] [], 2, 0) := by kernel_rfl
end Go.Proofs.Ytehcobkphobjiaa

/-
  Chapter 15: the hash.
-/
namespace Go.Proofs.Ytehcobkphobjiaa
set_option linter.unusedVariables false
set_option linter.unusedSimpArgs false
open Go Go.G Go.Proofs Go.PL
def mixG (h x : Int) : Int := IntKind.u64.wrap (bits .xor .u64 h x * 1099511628211)
def mixH (h x : Int) : Int := bits .xor .u64 (mixG h x) (mixG h x / 2 ^ min 29 IntKind.u64.bits)
mutual
def hashN : T → Int
  | .mk k w l => hashL (w.foldl mixH (mixH (mixH 14695981039346656037 (IntKind.u64.wrap k)) (IntKind.u64.wrap w.length))) l
def hashL : Int → List T → Int
  | h, [] => h
  | h, t :: l => hashL (mixH h (hashN t)) l
end
end Go.Proofs.Ytehcobkphobjiaa

/-
  The document's trees.
-/
namespace Go.Proofs.Ytehcobkphobjiaa
set_option linter.unusedVariables false
set_option linter.unusedSimpArgs false
open Go Go.G Go.Proofs Go.PL
mutual
theorem shallow_range : ∀ (t : T) (d : Nat) (n : Int), -1 ≤ shallow d n t ∧ (-1 ≤ n → shallow d n t ≤ n)
  | .mk k w l, d, n => by
    rw [shallow_mk]
    split
    · omega
    · have := shallowL_range l (d - 1) (n - 1 - w.length) (by omega)
      omega
theorem shallowL_range : ∀ (l : List T) (d : Nat) (n : Int), -1 ≤ n → -1 ≤ shallowL d n l ∧ shallowL d n l ≤ n
  | [], d, n, h => by simp; omega
  | t :: l, d, n, h => by
    rw [shallowL_cons]
    split
    · omega
    · have h1 := shallow_range t d n
      have h2 := shallowL_range l d (shallow d n t) h1.1
      omega
end
theorem shallowL_neg (l : List T) (d : Nat) {n : Int} (h : n < 0) : shallowL d n l = n := by
  cases l with
  | nil => simp
  | cons t l => simp [h]
section
variable {n0 : Nat} {w0 : World} {I0 : Nat → Prop} {Q : Exit → Sta → Prop}
theorem shallow_l1 {t : T} {d : Nat} (hd : 1 ≤ d) (hd1 : d ≤ 1000) (hl : t.kids.length * 56 ≤ 140737488355328) (ih : ∀ c, c ∈ t.kids → ∀ (d : Nat) (n : Int), d ≤ 1000 → 0 ≤ n → n ≤ 1000000 → G.Spec Try.prog 68 [tX c, iv d, iv n] (iv (shallow d n c)))
    {H : Hp} (hH : H [0] = ⟨1, .cells [iv t.kind, uws t.words, tKs t.kids]⟩) : ∀ (m i : Nat) (n : Int), i + m = t.kids.length → -1 ≤ n → n ≤ 1000000 →
    (∀ i' q, Q (.exit 0) ⟨lk [(1, iv d), (2, iv (shallowL (d - 1) n (t.kids.drop i))), (3, .pob [0] 1 0), (7, iv i'), (28, bv q)], H⟩) →
    LoopC (cx Try.prog w0 I0 n0) l1_centoref07_Shallow Q ⟨lk [(1, iv d), (2, iv n), (3, .pob [0] 1 0), (7, iv i)], H⟩ := by
  intro m
  induction m with
  | zero =>
    intro i n hi h1 h2 hq
    have : i = t.kids.length := by omega
    subst this
    refine loopC_once mixed l1_centoref07_Shallow.eq_1 ?_
    simp [hH]
    simpa using hq _ false
  | succ m ihm =>
    intro i n hi h1 h2 hq
    have hlt : i < t.kids.length := by omega
    refine loopC_once mixed l1_centoref07_Shallow.eq_1 ?_
    have e : t.kids.drop i = t.kids[i] :: t.kids.drop (i + 1) := List.drop_eq_getElem_cons hlt
    by_cases hn : n < 0
    · simp [hH, hlt, show ¬ (0 : Int) ≤ n by omega]
      have := hq i false
      rwa [shallowL_neg _ _ hn] at this
    · have hn' : 0 ≤ n := by omega
      simp [hH, hlt, hn']
      have ed : IntKind.i64.wrap ((d : Int) - 1) = ((d - 1 : Nat) : Int) := by rw [i64_same (by omega) (by omega)]; omega
      rw [ed]
      refine sc_call (ih _ (List.getElem_mem hlt) (d - 1) n (by omega) hn' h2) rfl ?_
      simp
      have hr := shallow_range t.kids[i] (d - 1) n
      rw [i64_same (by omega) (by omega)]
      refine ihm (i + 1) _ (by omega) hr.1 (by omega) fun i' q => ?_
      have := hq i' q
      rw [e, shallowL_cons, if_neg (by omega)] at this
      exact this
end
theorem shallow_spec : ∀ (t : T), wfT t → ∀ (d : Nat) (n : Int), d ≤ 1000 → 0 ≤ n → n ≤ 1000000 → G.Spec Try.prog 68 [tX t, iv d, iv n] (iv (shallow d n t)) := by
  refine T.ind fun k w l ih hw d n hd hn hn1 => ?_
  have hw' := wfT_iff.1 hw
  have hwl := hw'.wl
  have hkl := hw'.kl
  simp at hwl hkl
  have ihc : ∀ c, c ∈ (T.mk k w l).kids → ∀ (d : Nat) (n : Int), d ≤ 1000 → 0 ≤ n → n ≤ 1000000 → G.Spec Try.prog 68 [tX c, iv d, iv n] (iv (shallow d n c)) := fun c hc => ih c hc (hw'.ks c hc)
  refine spec_of t_centoref07_Shallow (by simp) fun w0 I0 => ?_
  unfold c_centoref07_Shallow
  have e1 : IntKind.i64.wrap (IntKind.i64.wrap (n - 1) - (w.length : Int)) = n - 1 - w.length := by rw [i64_same (n := n - 1) (by omega) (by omega), i64_same (by omega) (by omega)]
  rw [shallow_mk]
  by_cases hc : d = 0 ∨ n - 1 - (w.length : Int) < 0
  · have hd : (decide (d = 0) || decide (n - 1 - (w.length : Int) < 0)) = true := by simp; omega
    simp [e1, hd, hc]
    exact frz_bare rfl
  · have hd : (decide (d = 0) || decide (n - 1 - (w.length : Int) < 0)) = false := by simp; omega
    simp [e1, hd, hc]
    refine shallow_l1 (t := .mk k w l) (by omega) (by omega) hkl ihc (by simp) l.length 0 _ (by simp) (by omega) (by omega) fun i' q => ?_
    simp
    exact frz_bare rfl
end Go.Proofs.Ytehcobkphobjiaa

/-
  The document's trees: what they have at the most, whether they are the same, the Norm.
-/
namespace Go.Proofs.Ytehcobkphobjiaa
set_option linter.unusedVariables false
set_option linter.unusedSimpArgs false
open Go Go.G Go.Proofs Go.PL
abbrev tL (t : T) : List A := [iv t.kind, uws t.words, tKs t.kids]
section
variable {n0 : Nat} {w0 : World} {I0 : Nat → Prop} {Q : Exit → Sta → Prop}
end
/-! ### the same -/
section
variable {n0 : Nat} {w0 : World} {I0 : Nat → Prop} {Q : Exit → Sta → Prop}
theorem same_l1 {a b : T} (hl : a.kids.length * 56 ≤ 140737488355328) (hn : a.kids.length = b.kids.length) (ih : ∀ c, c ∈ a.kids → ∀ u, G.Spec Try.prog 53 [tX c, tX u] (bv (sameB c u)))
    {H : Hp} (hA : H [0] = ⟨1, .cells (tL a)⟩) (hB : H [1] = ⟨1, .cells (tL b)⟩) : ∀ (m i : Nat), i + m = a.kids.length → a.kids.take i = b.kids.take i → (a.kids = b.kids → ∀ i' q, Q (.exit 0) ⟨lk [(2, .pob [0] 1 0), (3, .pob [1] 1 0), (5, iv i'), (32, bv q)], H⟩) → (a.kids ≠ b.kids → Q .ret ⟨lk [(4, bv false)], H⟩) →
    LoopC (cx Try.prog w0 I0 n0) l1_centoref07_Same Q ⟨lk [(2, .pob [0] 1 0), (3, .pob [1] 1 0), (5, iv i)], H⟩ := by
  intro m
  induction m with
  | zero =>
    intro i hi ht h1 h2
    have : i = a.kids.length := by omega
    subst this
    refine loopC_once mixed l1_centoref07_Same.eq_1 ?_
    simp [hA, hB]
    refine h1 ?_ _ _
    rw [List.take_of_length_le (Nat.le_refl _), List.take_of_length_le (by omega)] at ht
    exact ht
  | succ m ihm =>
    intro i hi ht h1 h2
    have hlt : i < a.kids.length := by omega
    have hlt' : i < b.kids.length := by omega
    refine loopC_once mixed l1_centoref07_Same.eq_1 ?_
    simp [hA, hB, hlt, hlt']
    refine sc_call (ih _ (List.getElem_mem hlt) b.kids[i]) rfl ?_
    simp
    cases hs : sameB a.kids[i] b.kids[i] with
    | false =>
      simp
      refine h2 fun e => ?_
      have : a.kids[i] = b.kids[i] := by simp [e]
      rw [← sameB_iff, hs] at this
      cases this
    | true =>
      simp
      rw [i64_same (by omega) (by omega)]
      refine ihm (i + 1) (by omega) ?_ h1 h2
      rw [List.take_succ_eq_append_getElem hlt, List.take_succ_eq_append_getElem hlt', ht, sameB_iff.1 hs]
end
set_option maxRecDepth 8000 in
theorem rTSame_spec : ∀ (a : T), wfT a → ∀ b : T, G.Spec Try.prog 53 [tX a, tX b] (bv (sameB a b)) := by
  refine T.ind fun k w l ih hw b => ?_
  have hw' := wfT_iff.1 hw
  have hwl := hw'.wl
  have hkl := hw'.kl
  simp at hwl hkl
  refine spec_of t_centoref07_Same (by simp) fun w0 I0 => ?_
  unfold c_centoref07_Same
  have no : (k ≠ b.kind ∨ w ≠ b.words ∨ l ≠ b.kids) → sameB (.mk k w l) b = false := fun h => by
    rw [Bool.eq_false_iff]
    intro e
    have := sameB_iff.1 e
    subst this
    simp at h
  by_cases h1 : k = b.kind
  · by_cases h2 : w = b.words
    · by_cases h3 : l.length = b.kids.length
      · simp [h1]
        refine sc_call_gf rfl (fun _ => rSame_spec w b.words hwl) (fun _ => rfl) rfl ?_
        simp [h2, h3]
        refine same_l1 (a := .mk k w l) (b := b) hkl h3 (fun c hc u => ih c hc (hw'.ks c hc) u) (by simp [h1, h2]) (by simp) l.length 0 (by simp) rfl (fun e i' q => ?_) (fun e => ?_)
        · simp
          have : sameB (.mk k w l) b = true := sameB_iff.2 (T.ext' h1 h2 e)
          rw [← h1, ← h2, this]
          exact frz_bare rfl
        · simp
          rw [← h1, ← h2, no (.inr (.inr e))]
          exact frz_bare rfl
      · simp [h1]
        refine sc_call_gf rfl (fun _ => rSame_spec w b.words hwl) (fun _ => rfl) rfl ?_
        simp [h2, h3]
        refine ⟨fun h => absurd (by omega) h3, fun _ => ?_⟩
        rw [← h1, ← h2, no (.inr (.inr fun e => h3 (by rw [e])))]
        exact frz_bare rfl
    · simp [h1]
      refine sc_call_gf rfl (fun _ => rSame_spec w b.words hwl) (fun _ => rfl) rfl ?_
      simp [h2]
      rw [← h1, no (.inr (.inl h2))]
      exact frz_bare rfl
  · simp [h1]
    refine sc_call_off rfl ?_
    simp
    rw [no (.inl h1)]
    exact frz_bare rfl
/-! ### the Norm -/
section
variable {n0 : Nat} {w0 : World} {I0 : Nat → Prop} {Q : Exit → Sta → Prop}
theorem norm_l1 {t : T} (hl : t.kids.length * 56 ≤ 140737488355328) (ih : ∀ c, c ∈ t.kids → G.Spec Try.prog 47 [tX c] (tX (norm c))) {v : VOb} : ∀ (m i : Nat) (u : Nat) (H : Hp), i + m = t.kids.length → H [0] = ⟨1, .cells (tL t)⟩ → H [1] = v → H [3] = ⟨u, .arr 3 (((t.kids.take i).map norm).map tA)⟩ →
    (∀ i' q (u' : Nat) (H' : Hp), H' [0] = ⟨1, .cells (tL t)⟩ → H' [1] = v → H' [3] = ⟨u', .arr 3 ((t.kids.map norm).map tA)⟩ → Q (.exit 0) ⟨lk [(1, .pob [0] 1 0), (2, .pob [1] 1 0), (3, .osl [3] u' 3 0 t.kids.length), (4, iv (trimK t.kids).length), (5, iv i'), (16, bv q)], H'⟩) →
    LoopC (cx Try.prog w0 I0 n0) l1_centoref07_Norm Q ⟨lk [(1, .pob [0] 1 0), (2, .pob [1] 1 0), (3, .osl [3] u 3 0 i), (4, iv (trimK (t.kids.take i)).length), (5, iv i)], H⟩ := by
  intro m
  induction m with
  | zero =>
    intro i u H hi hA hR hB hq
    have : i = t.kids.length := by omega
    subst this
    refine loopC_once mixed l1_centoref07_Norm.eq_1 ?_
    simp [hA]
    have := hq t.kids.length false u H hA hR (by rw [hB]; simp)
    simpa using this
  | succ m ihm =>
    intro i u H hi hA hR hB hq
    have hlt : i < t.kids.length := by omega
    refine loopC_once mixed l1_centoref07_Norm.eq_1 ?_
    simp [hA, hlt]
    refine sc_call (ih _ (List.getElem_mem hlt)) rfl ?_
    simp [updF_app, hB]
    have ei : IntKind.i64.wrap ((i : Int) + 1) = ((i + 1 : Nat) : Int) := i64_same (by omega) (by omega)
    have hrow := row_succ (f := tA ∘ norm) hlt (x := A.agg [iv t.kids[i].kind, uws (norm t.kids[i]).words, tKs (norm t.kids[i]).kids]) (by simp)
    rw [hrow]
    refine ⟨⟨by omega, by omega⟩, fun h => ?_, fun h => ?_⟩
    · rw [ei, ← trimK_zero hlt h]
      exact ihm (i + 1) (u + 1) _ (by omega) (by simp [updF_app, hA]) (by simp [updF_app, hR]) (by simp [updF_app]) hq
    · have ek : (trimK (t.kids.take (i + 1))).length = i + 1 := by rw [trimK_stop hlt h]; simp; omega
      rw [ei]
      have := fun H h1 h2 h3 => ihm (i + 1) (u + 1) H (by omega) h1 h2 h3 hq
      rw [ek] at this
      exact this _ (by simp [updF_app, hA]) (by simp [updF_app, hR]) (by simp [updF_app])
end
theorem rNorm_spec : ∀ (t : T), wfT t → G.Spec Try.prog 47 [tX t] (tX (norm t)) := by
  refine T.ind fun k w l ih hw => ?_
  have hw' := wfT_iff.1 hw
  have hwl := hw'.wl
  have hkl := hw'.kl
  simp at hwl hkl
  refine spec_of t_centoref07_Norm (by simp) fun w0 I0 => ?_
  unfold c_centoref07_Norm
  rw [norm_mk]
  by_cases h0 : k = 0
  · simp [h0]
    exact frz_T0
  · simp [h0]
    refine LoopC.le (le_blank 3 [3] 3 (by simp)) ?_
    simp
    refine LoopC.le (le_list [(1, .pob [0] 1 0), (2, .pob [1] 1 0), (3, .osl [3] 1 3 0 0), (4, iv 0), (5, iv 0)] (by simp [upd])) ?_
    refine norm_l1 (t := .mk k w l) (by simpa using hkl) (fun c hc => ih c hc (hw'.ks c hc)) l.length 0 1 _ (by simp) (by simp) rfl (by simp) fun i' q u' H' hA hR hB => ?_
    have hle := trimK_le l
    by_cases h1 : k = 1
    · subst h1
      simp at hA hR hB
      simp [hA, hR, hB, hle, updF_app]
      refine sc_call (rTrim_spec w hwl) rfl ?_
      simp [hA, hR, hB, hle, updF_app]
      refine frz_agg ?_
      simp
      rw [trimK_map]
      refine ⟨frz_bare rfl, frz_bare rfl, ?_⟩
      have := frz_rowT (H := updF H' [1] ⟨1, .cells [A.v (Value.int IntKind.i64 1), A.sl false (List.map uv (trimW w)), A.osl [3] u' 3 0 (trimK l).length]⟩) (o := [3]) (u := u') (sz := 3) (l := l) (f := tA ∘ norm) (by simp [updF_app, hB]) hle (by simp)
      rw [← List.map_take]
      show Frz _ _ (A.sl false (((l.take (trimK l).length).map norm).map tA))
      rw [List.map_map]
      exact this
    · simp at hA hR hB
      simp [hA, hR, hB, h1, updF_app]
      refine ⟨hwl, frz_agg ?_⟩
      simp
      refine ⟨frz_bare rfl, frz_row (by simp [updF_app]) rfl (by simp), ?_⟩
      have := frz_row (H := updF (updF H' [4] { u := (H' [4]).u + 1, ob := Ob.arr 1 (List.map uv w) }) [1] ⟨1, .cells [A.v (Value.int IntKind.i64 k), A.osl [4] ((H' [4]).u + 1) 1 0 w.length, A.osl [3] u' 3 0 l.length]⟩) (o := [3]) (u := u') (sz := 3) (l := l) (f := tA ∘ norm) (by simp [updF_app, hB]) rfl (by simp)
      show Frz _ _ (A.sl false ((l.map norm).map tA))
      rw [List.map_map]
      exact this
theorem rEqual_spec {a b : T} (ha : wfT a) (hb : wfT b) (hn : wfT (norm a)) : G.Spec Try.prog 93 [tX a, tX b] (bv (eqT a b)) := by
  refine spec_of t_centoref07_Equal (by simp) fun w0 I0 => ?_
  unfold c_centoref07_Equal
  simp
  refine sc_call (rNorm_spec a ha) rfl ?_
  simp
  refine sc_call (rNorm_spec b hb) rfl ?_
  simp
  refine sc_call (rTSame_spec (norm a) hn (norm b)) rfl ?_
  simp
  exact frz_bare rfl
end Go.Proofs.Ytehcobkphobjiaa

/-
  The document's trees: how many words they take; which ones are right.
-/
namespace Go.Proofs.Ytehcobkphobjiaa
set_option linter.unusedVariables false
set_option linter.unusedSimpArgs false
open Go Go.G Go.Proofs Go.PL
theorem wf_norm : ∀ (t : T), wfT t → wfT (norm t) := by
  refine T.ind fun k w l ih hw => ?_
  have hw' := wfT_iff.1 hw
  rw [norm_mk]
  have h2 : ∀ (l : List T), (∀ t, t ∈ l → ∃ u, u ∈ l ∧ t = u) → True := fun _ _ => trivial
  have hm : ∀ t, t ∈ l.map norm → wfT t := fun t ht => by
    obtain ⟨u, hu, rfl⟩ := List.mem_map.1 ht
    exact ih u hu (hw'.ks u hu)
  split
  · exact wfT_iff.2 ⟨by simp [i64R], by simp, by simp, by simp, by simp⟩
  · split
    · refine wfT_iff.2 ⟨by simp [i64R], fun x hx => ?_, ?_, ?_, fun t ht => ?_⟩
      · simp only [T.words_mk] at hx
        rw [trimW_take] at hx
        exact hw'.w x (List.mem_of_mem_take hx)
      · have := trimW_le w
        have := hw'.wl
        simp at this ⊢
        omega
      · have := trimK_le (l.map norm)
        have := hw'.kl
        simp at this ⊢
        simp at *
        omega
      · simp only [T.kids_mk] at ht
        rw [trimK_take] at ht
        exact hm t (List.mem_of_mem_take ht)
    · exact wfT_iff.2 ⟨hw'.k, hw'.w, hw'.wl, by simpa using hw'.kl, by simpa using hm⟩
section
variable {n0 : Nat} {w0 : World} {I0 : Nat → Prop} {Q : Exit → Sta → Prop}
end
/-! ### right -/
theorem fits_word {c : T} (h : wfT c) (hl : c.words.length = 1) : ∃ x, c.words = [x] ∧ u64R x := by
  have := (wfT_iff.1 h).w
  match hc : c.words, hl with
  | [x], _ => exact ⟨x, rfl, this x (by simp [hc])⟩
theorem right_kind10 {d : Nat} {c : T} (h : rightT d c = true) (h10 : c.kind = 10) : c.words.length = 1 := by
  obtain ⟨k, w, l⟩ := c
  simp at h10
  subst h10
  rw [rightT_mk] at h
  simp at h
  exact h.1
section
variable {n0 : Nat} {w0 : World} {I0 : Nat → Prop} {Q : Exit → Sta → Prop}
theorem right_l1 {t : T} (hl : t.kids.length * 56 ≤ 140737488355328) (hk0 : 0 ≤ t.kind) (hk1 : t.kind ≤ 10) {d : Nat} (hd : 1 ≤ d) (hd1 : d ≤ 1000) (hw : ∀ c, c ∈ t.kids → wfT c) (ih : ∀ c, c ∈ t.kids → ∀ d : Nat, d ≤ 1000 → G.Spec Try.prog 69 [tX c, iv d] (bv (rightT d c))) : ∀ (m i : Nat) (H : Hp), i + m = t.kids.length → H [0] = ⟨1, .cells (tL t)⟩ →
    (rightL (d - 1) t.kind (t.kids.drop i) = true → ∀ i' q H', Q (.exit 0) ⟨lk [(1, iv d), (2, .pob [0] 1 0), (5, iv i'), (82, bv q)], H'⟩) → (rightL (d - 1) t.kind (t.kids.drop i) = false → ∀ H', Q .ret ⟨lk [(4, bv false)], H'⟩) →
    LoopC (cx Try.prog w0 I0 n0) l1_centoref07_Right Q ⟨lk [(1, iv d), (2, .pob [0] 1 0), (5, iv i)], H⟩ := by
  intro m
  induction m with
  | zero =>
    intro i H hi hA h1 h2
    have : i = t.kids.length := by omega
    subst this
    refine loopC_once mixed l1_centoref07_Right.eq_1 ?_
    simp [hA]
    exact h1 (by simp) _ _ _
  | succ m ihm =>
    intro i H hi hA h1 h2
    have hlt : i < t.kids.length := by omega
    have e : t.kids.drop i = t.kids[i] :: t.kids.drop (i + 1) := List.drop_eq_getElem_cons hlt
    have ei : IntKind.i64.wrap ((i : Int) + 1) = ((i + 1 : Nat) : Int) := i64_same (by omega) (by omega)
    have ed : IntKind.i64.wrap ((d : Int) - 1) = ((d - 1 : Nat) : Int) := by rw [i64_same (by omega) (by omega)]; omega
    rw [e, rightL_cons] at h1 h2
    have hwc := hw _ (List.getElem_mem hlt)
    have ihc := ih _ (List.getElem_mem hlt) (d - 1) (by omega)
    generalize hc : t.kids[i] = c at *
    refine loopC_once mixed l1_centoref07_Right.eq_1 ?_
    simp [hA, hlt, hc, updF_app, ed]
    refine sc_call ihc rfl ?_
    cases hr : rightT (d - 1) c with
    | false =>
      simp
      exact h2 (by simp [hr]) _
    | true =>
      rw [hr] at h1 h2
      have good : kidOk t.kind c = true → ∀ H', H' [0] = ⟨1, .cells (tL t)⟩ → LoopC (cx Try.prog w0 I0 n0) l1_centoref07_Right Q ⟨lk [(1, iv d), (2, .pob [0] 1 0), (5, iv ((i : Int) + 1))], H'⟩ := fun hg H' hA' =>
        ihm (i + 1) H' (by omega) hA' (fun hh => h1 (by simp [hg, hh])) (fun hh => h2 (by simp [hh]))
      have bad : kidOk t.kind c = false → ∀ H', Q .ret ⟨lk [(4, bv false)], H'⟩ := fun hg => h2 (by simp [hg])
      rw [show ((i + 1 : Nat) : Int) = (i : Int) + 1 from rfl] at ei
      by_cases hD : 2 ≤ t.kind ∧ t.kind ≤ 7
      · obtain ⟨d2, d7⟩ := hD
        have d9 : ¬ t.kind = 9 := by omega
        by_cases h10 : c.kind = 10
        · obtain ⟨x, hx, hx64⟩ := fits_word hwc (right_kind10 hr h10)
          have hk : kidOk t.kind c = fitsZ (t.kind - 2) x := by simp [kidOk, isData, d2, d7, d9, h10, hx]
          have e2 : IntKind.i64.wrap (t.kind - 2) = t.kind - 2 := i64_same (by omega) (by omega)
          simp [updF_app, hA, d2, d7, d9, h10, hx, e2]
          refine sc_call_gt rfl (fun _ => rFits_spec hx64) (fun _ => rfl) rfl ?_
          cases hf : fitsZ (t.kind - 2) x with
          | false => simp; exact bad (by rw [hk, hf]) _
          | true => simp [ei]; exact good (by rw [hk, hf]) _ (by simp [updF_app, hA])
        · have hk : kidOk t.kind c = false := by simp [kidOk, isData, d2, d7, d9, h10]
          simp [updF_app, hA, d2, d7, d9, h10]
          refine sc_call_off rfl ?_
          simp
          exact bad hk _
      · have hD' : (decide (2 ≤ t.kind) && decide (t.kind ≤ 7)) = false := by simp; omega
        by_cases h10 : c.kind = 10
        · have hk : kidOk t.kind c = false := by simp [kidOk, isData, hD', h10]
          simp [updF_app, hA, hD', h10]
          refine sc_call_off rfl ?_
          simp
          exact bad hk _
        · by_cases h9 : t.kind = 9
          · by_cases h1' : c.kind = 1
            · have hk : kidOk t.kind c = true := by simp [kidOk, isData, hD', h9, h1']
              rw [h9] at hD'
              simp [updF_app, hA, hD', h10, h9, h1']
              refine sc_call_off rfl ?_
              simp [ei]
              exact good hk _ (by simp [updF_app, hA])
            · have hk : kidOk t.kind c = false := by simp [kidOk, isData, hD', h9, h1', h10]
              rw [h9] at hD'
              simp [updF_app, hA, hD', h10, h9, h1']
              refine sc_call_off rfl ?_
              simp
              exact bad hk _
          · have hk : kidOk t.kind c = true := by simp [kidOk, isData, hD', h9, h10]
            simp [updF_app, hA, hD', h10, h9]
            refine sc_call_off rfl ?_
            simp [ei]
            exact good hk _ (by simp [updF_app, hA])
end
theorem rRight_spec : ∀ (t : T), wfT t → ∀ d : Nat, d ≤ 1000 → G.Spec Try.prog 69 [tX t, iv d] (bv (rightT d t)) := by
  refine T.ind fun k w l ih hw d hd => ?_
  have hw' := wfT_iff.1 hw
  have hwl := hw'.wl
  have hkl := hw'.kl
  simp at hwl hkl
  refine spec_of t_centoref07_Right (by simp) fun w0 I0 => ?_
  unfold c_centoref07_Right
  rw [rightT_mk]
  by_cases h0 : k = 0
  · simp [h0]
    exact frz_bool (by cases w <;> cases l <;> simp <;> (rw [← List.length_eq_zero_iff]; omega))
  by_cases h10 : k = 10
  · simp [h10]
    exact frz_bool (by cases w <;> cases l <;> simp <;> (rw [← List.length_eq_zero_iff]; omega))
  rw [if_neg h0, if_neg h10]
  have bad : tooBig k d w.length l.length = true → ∀ H, Frz H (bv false) (bv (if tooBig k d w.length l.length = true then false else rightL (d - 1) k l)) := fun hb H => frz_bool (by simp [hb])
  by_cases ha : k < 0 ∨ 10 < k ∨ d = 0 ∨ 65536 ≤ w.length
  · have ha' : (decide (k < 0) || decide (10 < k) || decide (d = 0) || decide (65536 ≤ (w.length : Int))) = true := by simp; omega
    simp [h0, h10, ha']
    have := bad (by simp [tooBig]; omega) (lkH [([0], { u := 1, ob := Ob.cells [iv k, uws w, tKs l] })])
    simpa using this
  have ha' : (decide (k < 0) || decide (10 < k) || decide (d = 0) || decide (65536 ≤ (w.length : Int))) = false := by simp; omega
  by_cases h1 : k = 1 ∧ 65536 ≤ l.length
  · have hl : (65536 : Int) ≤ l.length := by omega
    simp [h0, h10, ha', h1.1, hl]
    have := bad (by simp [tooBig]; omega) (lkH [([0], { u := 1, ob := Ob.cells [iv k, uws w, tKs l] })])
    simpa [h1.1] using this
  by_cases h2 : 1048576 ≤ l.length
  · have hl : (1048576 : Int) ≤ l.length := by omega
    have hk1 : ¬ k = 1 := by omega
    simp [h0, h10, ha', hk1, hl]
    have := bad (by simp [tooBig]; omega) (lkH [([0], { u := 1, ob := Ob.cells [iv k, uws w, tKs l] })])
    simpa using this
  have hl2 : ¬ (1048576 : Int) ≤ l.length := by omega
  by_cases h3 : 1 < k ∧ 0 < w.length
  · have hk1 : ¬ k = 1 := by omega
    have hw0 : w ≠ [] := fun e => by simp [e] at h3
    simp [h0, h10, ha', hk1, hl2, h3.1, h3.2, hw0]
    have := bad (by simp [tooBig]; omega) (lkH [([0], { u := 1, ob := Ob.cells [iv k, uws w, tKs l] })])
    simpa using this
  have hb : tooBig k d w.length l.length = false := by
    rw [Bool.eq_false_iff]
    unfold tooBig
    simp only [Bool.or_eq_true, Bool.and_eq_true, decide_eq_true_eq, ne_eq]
    omega
  have hw0 : (1 < k → w = []) := fun h => List.eq_nil_of_length_eq_zero (by omega)
  have fin : LoopC (cx Try.prog w0 I0 132) l1_centoref07_Right (InBlock 0 (ThenC (WPC (cx Try.prog w0 I0 132) (.keep [] (.seq (.reg [co (some 4) (.assign (.const (.bool true))) none] [4]) .ret)) (RetC Try.prog [.tmp 4] (bv (rightL (d - 1) k l)))) (RetC Try.prog [.tmp 4] (bv (rightL (d - 1) k l))))) ⟨lk [(1, iv d), (2, .pob [0] 1 0), (5, iv 0)], lkH [([0], ⟨1, .cells [iv k, uws w, tKs l]⟩)]⟩ := by
    refine right_l1 (t := .mk k w l) (by simpa using hkl) (by simp; omega) (by simp; omega) (by omega) hd (fun c hc => hw'.ks c hc) (fun c hc => ih c hc (hw'.ks c hc)) l.length 0 _ (by simp) (by simp) (fun hr i' q H' => ?_) (fun hr H' => ?_)
    · simp
      exact frz_bool (by simpa using hr.symm)
    · simp
      exact frz_bool (by simpa using hr.symm)
  rw [if_neg (by simp [hb])]
  by_cases k1 : k = 1
  · have hl3 : ¬ (65536 : Int) ≤ l.length := by omega
    have ha1 : (decide (d = 0) || decide (65536 ≤ (w.length : Int))) = false := by simp; omega
    simp [ha1, k1, hl2, hl3]
    simpa [k1] using fin
  · simp [h0, h10, ha', k1, hl2]
    refine ⟨fun a b => absurd ⟨a, by omega⟩ h3, fun _ => ?_⟩
    exact fin
end Go.Proofs.Ytehcobkphobjiaa

/-
  Chapter 15: the law EqualValues.
-/
namespace Go.Proofs.Ytehcobkphobjiaa
set_option linter.unusedVariables false
set_option linter.unusedSimpArgs false
open Go Go.G Go.Proofs Go.PL
/-- What values mean are trees that memory can hold. -/
theorem means_wf {l : List (List Int)} (hs : Sg l) : ∀ (t : T) (r : Rf), Means l r t → wfT t := by
  refine T.ind fun k w ks ih r ht => ?_
  have hln := means_len ht
  have hk := means_kind ht
  have hok := means_ok ht
  simp at hln hk
  refine wfT_iff.2 ⟨?_, ?_, ?_, ?_, ?_⟩
  · simp only [T.kind_mk]
    rw [← hk]
    unfold i64R
    cases hok <;> simp [Rf.zero] <;> omega
  · intro x hx
    obtain ⟨i, hi, rfl⟩ := List.mem_iff_getElem.1 hx
    have := (means_word ht).2 i hi
    rw [← this]
    unfold u64R wordAt
    split
    · omega
    · split
      · cases hok with
        | atom n a1 a2 => exact ⟨a1, a2⟩
        | dat c s a n a1 a2 a3 a4 h => simp
        | _ => simp [Rf.zero]
      · cases e : word l r.s (r.at_ + i) with
        | none => simp
        | some x => exact word_in hs.w e
  · simp; omega
  · simp; omega
  · intro c hc
    obtain ⟨i, hi, rfl⟩ := List.mem_iff_getElem.1 hc
    exact ih _ (List.getElem_mem hi) _ (means_kid ht hi).2
end Go.Proofs.Ytehcobkphobjiaa

/-
  Chapter 16, plain: places that are hashed by hand.
-/
namespace Go.PL
set_option linter.unusedVariables false
set_option linter.unusedSimpArgs false
/-- Places of so many classes, by their numbers. -/
structure Pl (hs : List Nat) (pl : List Nat) : Prop where
  cnt : pl.countP (fun v => v != 0) = hs.length
  vals : ∀ v, v ∈ pl → v ≤ hs.length
  reach : ∀ (c : Nat) (hc : c < hs.length), ∃ d, pl[(hs[c] + d) % pl.length]? = some (c + 1) ∧ ∀ e, e < d → pl.getD ((hs[c] + e) % pl.length) 0 ≠ 0
theorem Pl.nil (m : Nat) : Pl [] (List.replicate m 0) := by
  refine ⟨?_, fun v hv => ?_, fun c hc => ?_⟩
  · simp [List.countP_replicate]
  · simp at hv; omega
  · simp at hc
end Go.PL

/-
  Chapter 16: tables of classes.
-/
namespace Go.Proofs.Ytehcobkphobjiaa
set_option linter.unusedVariables false
set_option linter.unusedSimpArgs false
open Go Go.G Go.Proofs Go.PL
/-- A class: its number of what it means; where its value lies, and what it means. -/
structure Cl where
  l : List (List Int)
  r : Rf
  t : T
noncomputable def Cl.h (c : Cl) : Int := hashN (norm c.t)
noncomputable def Cl.hn (c : Cl) : Nat := c.h.toNat
abbrev clL (h : Int) (l : List (List Int)) (r : Rf) : List A := uv h :: paL l r
noncomputable def Cl.a (c : Cl) : A := .agg (clL c.h c.l c.r)
/-- A table: versions, classes, places. -/
structure Tb where
  u : Nat
  uc : Nat
  up : Nat
  cl : List Cl
  pl : List Nat
structure Tb.Ok (S : Tb) : Prop where
  p8 : 8 ≤ S.pl.length
  half : 2 * S.cl.length ≤ S.pl.length
  most : S.pl.length ≤ 8 + 4 * S.cl.length
  pl : Pl (S.cl.map Cl.hn) S.pl
  means : ∀ c, c ∈ S.cl → Sg c.l ∧ Means c.l c.r c.t
  nd : (S.cl.map fun c => norm c.t).Nodup
noncomputable def Tb.ks (S : Tb) : List T := S.cl.map fun c => norm c.t
@[simp] theorem Tb.ks_length (S : Tb) : S.ks.length = S.cl.length := by simp [Tb.ks]
theorem Tb.Ok.lt {S : Tb} (h : S.Ok) : S.cl.length < S.pl.length := by have := h.p8; have := h.half; omega
/-- But for its room. -/
structure Tb.Ok1 (S : Tb) : Prop where
  p8 : 8 ≤ S.pl.length
  half : 2 * S.cl.length ≤ S.pl.length + 2
  most : S.pl.length ≤ 8 + 4 * S.cl.length
  pl : Pl (S.cl.map Cl.hn) S.pl
  means : ∀ c, c ∈ S.cl → Sg c.l ∧ Means c.l c.r c.t
  nd : (S.cl.map fun c => norm c.t).Nodup
theorem Tb.Ok1.ok {S : Tb} (h : S.Ok1) (hf : ¬ S.pl.length < 2 * S.cl.length) : S.Ok := ⟨h.p8, by omega, h.most, h.pl, h.means, h.nd⟩
section
variable {n0 : Nat} {w0 : World} {I0 : Nat → Prop} {Q : Exit → Sta → Prop}
end
end Go.Proofs.Ytehcobkphobjiaa

/-
  Chapter 16: a table grows; the class of a value.
-/
namespace Go.Proofs.Ytehcobkphobjiaa
set_option linter.unusedVariables false
set_option linter.unusedSimpArgs false
open Go Go.G Go.Proofs Go.PL
section
variable {n0 : Nat} {w0 : World} {I0 : Nat → Prop} {M0 : Nm → Nat → Prop} {m0 : Mu} {Q : Exit → Sta → Prop}
end
theorem famL_ref (l : List (List Int)) (r : Rf) : FamA (fun _ => paX l r) := famA_bare rfl fun x hx => by
  simp at hx
  rcases hx with rfl | rfl | rfl | rfl | rfl | rfl | rfl | rfl <;> simp
end Go.Proofs.Ytehcobkphobjiaa

/-
  Chapter 29: the maker of trees; the first error stays.
-/
namespace Go.Proofs.Ytehcobkphobjiaa
set_option linter.unusedVariables false
set_option linter.unusedSimpArgs false
open Go Go.G Go.Proofs Go.PL
/-- A maker: whether nothing failed so far. -/
def mkE (ok : Bool) : Int := if ok = true then 0 else 13
def mkM (u : Nat) (ok : Bool) : Fam := ⟨fun _ p => if p = [] then ⟨u, .cells [iv (mkE ok)]⟩ else ⟨0, .none⟩, fun {g δ r r'} hg hd p => by
    by_cases hp : p = []
    · rw [if_pos hp]
      exact Fam.cells_ren (by simp [A.renL, A.ren])
    · rw [if_neg hp]; rfl, fun {D r} hD p => by
    by_cases hp : p = []
    · rw [if_pos hp]
      simp [Ob.refs, A.refsL, A.refs]
    · rw [if_neg hp]; trivial⟩
@[simp] theorem mkM_F {u : Nat} {ok : Bool} {r : Nat} {p : Nm} : (mkM u ok).F r p = if p = [] then ⟨u, .cells [iv (mkE ok)]⟩ else ⟨0, .none⟩ := rfl
abbrev z0 : List A := [iv 0, .sl true [], .sl true []]
/-- A tree that holds nothing, in an object's cells. -/
theorem le_zero {c : Cx} {s : Nat → A} {H : Hp} {r0 : Nat} {p0 : Nm} {u : Nat} (hd : H (r0 :: p0) = ⟨u, .cells z0⟩) : ∃ H2 : Hp, Le c ⟨s, H⟩ ⟨s, H2⟩ ∧ H2 (r0 :: p0) = ⟨u, .cells [iv 0, .sl false [], .sl false []]⟩ ∧ ∀ r p, r :: p ≠ r0 :: p0 → H2 (r :: p) = H (r :: p) := by
  obtain ⟨H2, g1, g2⟩ := le_freezeC (c := c) (s := s) (H := H) (fun _ => False) (fun _ _ _ h => h.elim) (r0 := r0) (p0 := p0) (by simp) hd (cs' := [iv 0, .sl false [], .sl false []]) (by simp [A.ones]) (fun H1 _ => ⟨frz_bare rfl, frz_sl, frz_sl, trivial⟩)
  exact ⟨_, g1, updF_self, fun r p h => by rw [updF_ne h]; exact g2 r p (fun h => h)⟩
theorem mFail_spec (u : Nat) (ok : Bool) : SpecF Try.prog 146 (fun q => [.pob [q] u 0, iv 13]) (mkM u ok) (fun _ => tX T0) (mkM u false) := by
  refine specF_of t_inapply_maker_fail (by simp) (famL_cons famA_pob (famL_cons famA_v famL_nil)) (famA_bare (cs := [iv 0, .sl false [], .sl false []]) rfl fun x hx => by simp at hx; rcases hx with rfl | rfl <;> rfl) fun w0 I0 M0 m0 => ?_
  have fin : ∀ H : Hp, (∀ p, H (0 :: p) = (mkM u false).F 0 p) → H [1] = ⟨1, .cells z0⟩ → RetH (cxh Try.prog w0 I0 M0 15 m0) [.cell 4 53] 1 (tX T0) (ov 0 ((mkM u false).F 0) (lkH [])) .ret ⟨lk [(4, .pob [1] 1 0)], H⟩ := fun H h0 h1 => by
    obtain ⟨H2, g1, g2, g3⟩ := le_zero (c := cxh Try.prog w0 I0 M0 15 m0) (s := lk [(4, .pob [1] 1 0)]) (H := H) (r0 := 1) (p0 := []) (u := 1) h1
    refine reth_le g1 (reth_fam (r0 := tX T0) ?_ rfl (fun p => ?_))
    · simp [resA, g2]
    · show H2 (0 :: p) = _
      rw [g3 0 p (by simp), h0]
  unfold c_inapply_maker_fail
  cases ok with
  | true =>
    simp [mkE]
    refine fin _ (fun p => ?_) (by simp)
    by_cases hp : p = []
    · subst hp; simp [updF_app, mkE]
    · simp [updF_app, hp]
  | false =>
    simp [mkE]
    exact fin _ (fun p => by simp) (by simp)
theorem famA_pa (l : List (List Int)) (r : Rf) : FamA (fun _ => paX l r) := famL_ref l r
theorem famA_tt (t : T) : FamA (fun _ => tX t) := famA_bare (cs := [iv t.kind, uws t.words, tKs t.kids]) rfl fun x hx => by simp at hx; rcases hx with rfl | rfl | rfl <;> rfl
theorem mWhole_spec {l : List (List Int)} (hs : Sg l) {r : Rf} {t : T} (hm : Means l r t) (u : Nat) (ok : Bool) : SpecF Try.prog 142 (fun q => [.pob [q] u 0, paX l r]) (mkM u ok) (fun _ => tX t) (mkM u ok) := by
  refine specF_of t_inapply_maker_whole (by simp) (famL_cons famA_pob (famL_cons (famA_pa l r) famL_nil)) (famA_tt t) fun w0 I0 M0 m0 => ?_
  unfold c_inapply_maker_whole
  simp
  refine sc_call (value_spec hs _ _ hm) (by simp) ?_
  simp
  exact reth_fam (r0 := tX t) (by simp) rfl (fun p => by simp)
theorem mKid_spec {l : List (List Int)} (hs : Sg l) {r : Rf} (hr : RfOk l r) (i : Int) (h0 : (kidP l r i).2 = 0) (u : Nat) (ok : Bool) : SpecF Try.prog 184 (fun q => [.pob [q] u 0, paX l r, iv i]) (mkM u ok) (fun _ => paX l (kidP l r i).1) (mkM u ok) := by
  refine specF_of t_inapply_maker_kid (by simp) (famL_cons famA_pob (famL_cons (famA_pa l r) (famL_cons famA_v famL_nil))) (famA_pa l _) fun w0 I0 M0 m0 => ?_
  unfold c_inapply_maker_kid
  simp
  refine sc_call (kid_spec hs hr i) (by simp) ?_
  rw [h0]
  simp
  exact reth_fam (r0 := paX l (kidP l r i).1) (by simp) rfl (fun p => by simp)
theorem mMeans_spec {l : List (List Int)} {r : Rf} {t : T} {b : Bool} (hM : G.Spec Try.prog 182 [paX l r, tX t] (.tup [bv b, iv 0])) (u : Nat) (ok : Bool) : SpecF Try.prog 143 (fun q => [.pob [q] u 0, paX l r, tX t]) (mkM u ok) (fun _ => .tup []) (mkM u (ok && b)) := by
  refine specF_of t_inapply_maker_means (by simp) (famL_cons famA_pob (famL_cons (famA_pa l r) (famL_cons (famA_tt t) famL_nil))) (famA_tup famL_nil) fun w0 I0 M0 m0 => ?_
  unfold c_inapply_maker_means
  simp
  refine sc_call hM (by simp) ?_
  cases b with
  | true =>
    simp
    exact reth_famN rfl rfl (fun p => by simp)
  | false =>
    simp
    refine sc_fam 0 (mFail_spec u ok) (fun p => by simp) (by simp) (by simp) ?_
    simp
    exact reth_famN rfl rfl (fun p => by simp)
end Go.Proofs.Ytehcobkphobjiaa

/-
  Plain: which trees mean the same, place by place.
-/
namespace Go.PL
set_option linter.unusedVariables false
set_option linter.unusedSimpArgs false
def trimG {α : Type} (p : α → Bool) (l : List α) : List α := (l.reverse.dropWhile p).reverse
theorem trimG_snoc {α : Type} {p : α → Bool} (l : List α) (x : α) : trimG p (l ++ [x]) = if p x = true then trimG p l else l ++ [x] := by
  unfold trimG
  rw [List.reverse_append, List.reverse_singleton, List.singleton_append, List.dropWhile_cons]
  split <;> simp
theorem snocRec {α : Type} {P : List α → Prop} (h0 : P []) (h1 : ∀ l x, P l → P (l ++ [x])) (l : List α) : P l := by
  have : ∀ m : List α, P m.reverse := by
    intro m
    induction m with
    | nil => exact h0
    | cons x m ih => rw [List.reverse_cons]; exact h1 _ _ ih
  have := this l.reverse
  rwa [List.reverse_reverse] at this
theorem trimG_getD {α : Type} {p : α → Bool} {z : α} (l : List α) : (∀ x, x ∈ l → p x = true → x = z) → ∀ i, (trimG p l).getD i z = l.getD i z := by
  refine snocRec (P := fun l => (∀ x, x ∈ l → p x = true → x = z) → ∀ i, (trimG p l).getD i z = l.getD i z) (fun _ i => rfl) (fun l x ih h i => ?_) l
  rw [trimG_snoc]
  split
  · rename_i hx
    rw [ih (fun y hy => h y (by simp [hy])) i]
    have := h x (by simp) hx
    subst this
    simp only [List.getD_eq_getElem?_getD, List.getElem?_append]
    split
    · rfl
    · rw [List.getElem?_eq_none (by omega)]
      by_cases e : i - l.length = 0
      · simp [e]
      · rw [List.getElem?_eq_none (by simp; omega)]
  · rfl
theorem trimG_last {α : Type} {p : α → Bool} {z : α} (l : List α) : trimG p l ≠ [] → p ((trimG p l).getD ((trimG p l).length - 1) z) = false := by
  refine snocRec (P := fun l => trimG p l ≠ [] → p ((trimG p l).getD ((trimG p l).length - 1) z) = false) (fun h => absurd rfl h) (fun l x ih h => ?_) l
  rw [trimG_snoc] at h ⊢
  split
  · rename_i hx
    rw [if_pos hx] at h
    exact ih h
  · rename_i hx
    simp at hx ⊢
    exact hx
theorem trimG_eq {α : Type} {p : α → Bool} {z : α} (hz : p z = true) {a b : List α} (ha : ∀ x, x ∈ a → p x = true → x = z) (hb : ∀ x, x ∈ b → p x = true → x = z) : trimG p a = trimG p b ↔ ∀ i, a.getD i z = b.getD i z := by
  constructor
  · intro h i
    rw [← trimG_getD a ha, h, trimG_getD b hb]
  · intro h
    have h' : ∀ i, (trimG p a).getD i z = (trimG p b).getD i z := fun i => by rw [trimG_getD a ha, trimG_getD b hb, h]
    have one : ∀ c d : List α, (∀ i, (trimG p c).getD i z = (trimG p d).getD i z) → (trimG p c).length ≤ (trimG p d).length := fun c d hcd => by
      by_cases e : trimG p c = []
      · simp [e]
      · have hl := trimG_last (z := z) c e
        have hpos : 0 < (trimG p c).length := List.length_pos_iff.2 e
        rw [hcd] at hl
        refine Nat.le_of_not_lt fun hlt => ?_
        rw [List.getD_eq_getElem?_getD, List.getElem?_eq_none (by omega)] at hl
        simp [hz] at hl
    have hlen : (trimG p a).length = (trimG p b).length := Nat.le_antisymm (one a b h') (one b a fun i => (h' i).symm)
    apply List.ext_getElem hlen
    intro i h1 h2
    have := h' i
    simpa [List.getD_eq_getElem?_getD, h1, h2] using this
theorem trimW_G (l : List Int) : trimW l = trimG (fun x => x == 0) l := rfl
theorem trimK_G (l : List T) : trimK l = trimG (fun x => x.kind == 0) l := rfl
theorem trimW_eq {a b : List Int} : trimW a = trimW b ↔ ∀ i, a.getD i 0 = b.getD i 0 := by
  rw [trimW_G, trimW_G]
  exact trimG_eq rfl (fun x _ h => by simpa using h) (fun x _ h => by simpa using h)
theorem norm_kind0 {t : T} (h : t.kind = 0) : norm t = T0 := by cases t; simp at h; rw [norm_mk, if_pos h]
theorem norm_T0 : norm T0 = T0 := norm_kind0 rfl
theorem getD_norm (l : List T) (i : Nat) : (l.map norm).getD i T0 = norm (l.getD i T0) := by
  simp only [List.getD_eq_getElem?_getD, List.getElem?_map]
  cases l[i]? with
  | none => simp [norm_T0]
  | some x => rfl
theorem trimK_eq {a b : List T} : trimK (a.map norm) = trimK (b.map norm) ↔ ∀ i, norm (a.getD i T0) = norm (b.getD i T0) := by
  have hz : ∀ c : List T, ∀ x, x ∈ c.map norm → (x.kind == 0) = true → x = T0 := fun c x hx h0 => by
    obtain ⟨y, _, rfl⟩ := List.mem_map.1 hx
    simp at h0
    exact norm_kind0 h0
  rw [trimK_G, trimK_G, trimG_eq (z := T0) rfl (hz a) (hz b)]
  constructor
  · intro h i; rw [← getD_norm, ← getD_norm]; exact h i
  · intro h i; rw [getD_norm, getD_norm]; exact h i
theorem struct_eq {w w' : List Int} {a b : List T} : norm (.mk 1 w a) = norm (.mk 1 w' b) ↔ (∀ i, w.getD i 0 = w'.getD i 0) ∧ ∀ i, norm (a.getD i T0) = norm (b.getD i T0) := by
  rw [norm_mk, norm_mk]
  simp only [if_neg (show ¬ (1 : Int) = 0 by decide), if_true, T.mk.injEq, true_and]
  rw [trimW_eq, trimK_eq]
theorem other_eq {k : Int} {w w' : List Int} {a b : List T} (h0 : k ≠ 0) (h1 : k ≠ 1) : norm (.mk k w a) = norm (.mk k w' b) ↔ w = w' ∧ a.map norm = b.map norm := by
  rw [norm_mk, norm_mk]
  simp [h0, h1]
theorem norm_norm : ∀ t, norm (norm t) = norm t := by
  refine T.ind fun k w ks ih => ?_
  have hm : (ks.map norm).map norm = ks.map norm := by
    rw [List.map_map]
    exact List.map_congr_left fun x hx => ih x hx
  rw [norm_mk]
  split
  · exact norm_T0
  · rename_i h0
    split
    · rename_i h1
      subst h1
      rw [struct_eq (w' := w) (b := ks) |>.2 ⟨fun i => ?_, fun i => ?_⟩, norm_mk]
      · simp
      · rw [trimW_G]
        exact trimG_getD w (fun x _ h => by simpa using h) i
      · have hz : ∀ x, x ∈ ks.map norm → (x.kind == 0) = true → x = T0 := fun x hx h0 => by
          obtain ⟨y, _, rfl⟩ := List.mem_map.1 hx
          simp at h0
          exact norm_kind0 h0
        rw [trimK_G, trimG_getD _ hz i, ← getD_norm, hm, getD_norm]
    · rename_i h1
      rw [norm_mk, if_neg h0, if_neg h1, hm]
end Go.PL

/-
  Chapter 29: whether a value means what a tree does.
-/
namespace Go.Proofs.Ytehcobkphobjiaa
set_option linter.unusedVariables false
set_option linter.unusedSimpArgs false
open Go Go.G Go.Proofs Go.PL
structure ShT (t : T) : Prop where
  z : t.kind = 0 → t.words = [] ∧ t.kids = []
  a : t.kind = 10 → t.words.length = 1 ∧ t.kids = []
  o : t.kind ≠ 0 → t.kind ≠ 1 → t.kind ≠ 10 → t.words = []
theorem shp_means {l : List (List Int)} {r : Rf} {t : T} (h : Means l r t) : ShT t := by
  have hk := means_kind h
  have hw := (means_word h).1
  have hn := means_nk h
  have hr := means_ok h
  have nil : ∀ {α : Type} (l : List α), l.length = 0 → l = [] := fun l h => List.eq_nil_of_length_eq_zero h
  cases hr with
  | zero => simp [Rf.zero, nwR, nk] at hk hw hn; exact ⟨fun _ => ⟨nil _ (by omega), nil _ (by omega)⟩, fun h => by omega, fun h => by omega⟩
  | str s a d k a1 a2 a3 a4 h => simp at hk; exact ⟨fun h => by omega, fun h => by omega, fun _ h => by omega⟩
  | dat c s a n a1 a2 a3 a4 h =>
    simp [nwR] at hk hw
    rw [if_neg (by omega), if_neg (by omega)] at hw
    exact ⟨fun h => by omega, fun h => by omega, fun _ _ _ => nil _ (by omega)⟩
  | ptrs s a n a1 a2 h => simp [nwR] at hk hw; exact ⟨fun h => by omega, fun h => by omega, fun _ _ _ => nil _ (by omega)⟩
  | comp s a d k n a1 a2 a3 a4 a5 a6 h => simp [nwR] at hk hw; exact ⟨fun h => by omega, fun h => by omega, fun _ _ _ => nil _ (by omega)⟩
  | atom n a1 a2 => simp [nwR, nk] at hk hw hn; exact ⟨fun h => by omega, fun _ => ⟨by omega, nil _ (by omega)⟩, fun _ _ h => by omega⟩
theorem shp_right {d : Nat} {t : T} (h : rightT d t = true) : ShT t := by
  obtain ⟨k, w, ks⟩ := t
  rw [rightT_mk] at h
  by_cases h0 : k = 0
  · subst h0
    simp at h
    exact ⟨fun _ => h, fun h => by simp at h, fun h => absurd rfl h⟩
  rw [if_neg h0] at h
  by_cases h1 : k = 10
  · subst h1
    simp at h
    exact ⟨fun h => by simp at h, fun _ => h, fun _ _ h => absurd rfl h⟩
  rw [if_neg h1] at h
  refine ⟨fun h => absurd h h0, fun h => absurd h h1, fun _ h2 _ => ?_⟩
  have htb : tooBig k d w.length ks.length = false := by
    cases e : tooBig k d w.length ks.length with
    | false => rfl
    | true => rw [e] at h; simp at h
  simp [tooBig] at htb
  have h3 : ¬ k = 1 := h2
  by_cases h4 : 1 < k
  · have := htb.2
    simp only [T.words_mk]
    first | exact this h4 | exact List.eq_nil_of_length_eq_zero (this h4) | exact List.eq_nil_of_length_eq_zero (by omega)
  · exfalso; omega
theorem kids_same {a b : List T} (hl : a.length = b.length) : a.map norm = b.map norm ↔ ∀ i, norm (a.getD i T0) = norm (b.getD i T0) := by
  constructor
  · intro h i; rw [← getD_norm, h, getD_norm]
  · intro h
    apply List.ext_getElem (by simpa using hl)
    intro i h1 h2
    have := h i
    simp at h1 h2
    simpa [List.getD_eq_getElem?_getD, h1, h2] using this
theorem words_same {a b : List Int} (hl : a.length = b.length) : a = b ↔ ∀ i, a.getD i 0 = b.getD i 0 := by
  constructor
  · intro h i; rw [h]
  · intro h
    apply List.ext_getElem hl
    intro i h1 h2
    have := h i
    simpa [List.getD_eq_getElem?_getD, h1, h2] using this
theorem eqT_shp {t u : T} (ht : ShT t) (hu : ShT u) : eqT t u = true ↔ t.kind = u.kind ∧ (t.kind = 1 ∨ t.kids.length = u.kids.length) ∧ (∀ i, t.words.getD i 0 = u.words.getD i 0) ∧ ∀ i, norm (t.kids.getD i T0) = norm (u.kids.getD i T0) := by
  rw [eqT_iff]
  obtain ⟨k, w, a⟩ := t
  obtain ⟨k', w', b⟩ := u
  by_cases hk : k = k'
  rotate_left
  · constructor
    · intro h
      have := congrArg T.kind h
      simp at this
      exact absurd this hk
    · intro h; exact absurd h.1 hk
  subst hk
  by_cases h0 : k = 0
  · subst h0
    obtain ⟨e1, e2⟩ := ht.z rfl
    obtain ⟨e3, e4⟩ := hu.z rfl
    simp at e1 e2 e3 e4
    subst e1 e2 e3 e4
    simp
  by_cases h1 : k = 1
  · subst h1
    rw [struct_eq]
    simp
  rw [other_eq h0 h1]
  have hwl : w.length = w'.length := by
    by_cases h10 : k = 10
    · subst h10
      have := (ht.a rfl).1
      have := (hu.a rfl).1
      simp at *
      omega
    · have e1 := ht.o h0 h1 h10
      have e2 := hu.o h0 h1 h10
      simp at e1 e2
      rw [e1, e2]
  rw [words_same hwl]
  constructor
  · rintro ⟨g1, g2⟩
    have hl : a.length = b.length := by have := congrArg List.length g2; simpa using this
    exact ⟨rfl, .inr hl, g1, (kids_same hl).1 g2⟩
  · rintro ⟨_, g0, g1, g2⟩
    rcases g0 with g0 | g0
    · exact absurd g0 h1
    · exact ⟨g1, (kids_same g0).2 g2⟩
theorem means_T0 (l : List (List Int)) : Means l Rf.zero T0 := .mk _ _ .zero rfl (by simp [wordsR, Rf.zero]) (by simp [nk, Rf.zero]) (fun i h => by simp at h) (fun i h => by simp at h)
theorem means_kidD {l : List (List Int)} {r : Rf} {t : T} (h : Means l r t) (i : Nat) : (kidP l r i).2 = 0 ∧ Means l (kidP l r i).1 (t.kids.getD i T0) := by
  by_cases hi : i < t.kids.length
  · have := means_kid h hi
    rw [List.getD_eq_getElem?_getD, List.getElem?_eq_getElem hi]
    exact this
  · have hn := means_nk h
    have : kidP l r i = (Rf.zero, 0) := by
      unfold kidP
      rw [if_pos (by omega)]
    rw [this, List.getD_eq_getElem?_getD, List.getElem?_eq_none (by omega)]
    exact ⟨rfl, means_T0 l⟩
theorem means_wordD {l : List (List Int)} {r : Rf} {t : T} (h : Means l r t) (i : Nat) : wordAt l r i = t.words.getD i 0 := by
  obtain ⟨h1, h2⟩ := means_word h
  by_cases hi : i < t.words.length
  · rw [h2 i hi, List.getD_eq_getElem?_getD, List.getElem?_eq_getElem hi]; rfl
  · rw [List.getD_eq_getElem?_getD, List.getElem?_eq_none (by omega)]
    unfold wordAt
    rw [if_pos (by omega)]
    rfl
/-! ### the walk -/
def MeansS (l : List (List Int)) (t : T) : Prop := ∀ (r : Rf) (u : T), Means l r t → wfT u → (∃ d, rightT d u = true) → G.Spec Try.prog 182 [paX l r, tX u] (.tup [bv (eqT t u), iv 0])
section
variable {n0 : Nat} {w0 : World} {I0 : Nat → Prop} {Q : Exit → Sta → Prop}
theorem means_l1 {l : List (List Int)} (hs : Sg l) {r : Rf} {t u : T} (hm : Means l r t) {n N : Nat} (hN : N ≤ 100000000000000)
    (hq : (∀ i, i < N → t.words.getD i 0 = u.words.getD i 0) → ∀ (q : Bool) (H : Hp), H [0] = ⟨1, .cells (paL l r)⟩ → H [1] = ⟨1, .cells (tL u)⟩ → Q (.exit 1) ⟨lk [(2, .pob [0] 1 0), (3, .pob [1] 1 0), (6, iv n), (51, iv N), (52, iv N), (53, bv q)], H⟩)
    (hf : (∃ i, t.words.getD i 0 ≠ u.words.getD i 0) → ∀ H : Hp, Q .ret ⟨lk [(4, bv false), (5, iv 0)], H⟩) :
    ∀ (j i : Nat) (H : Hp), i + j = N → (∀ i', i' < i → t.words.getD i' 0 = u.words.getD i' 0) → H [0] = ⟨1, .cells (paL l r)⟩ → H [1] = ⟨1, .cells (tL u)⟩ →
    LoopC (cx Try.prog w0 I0 n0) l1_inapply_Means Q ⟨lk [(2, .pob [0] 1 0), (3, .pob [1] 1 0), (6, iv n), (51, iv N), (52, iv i)], H⟩ := by
  intro j
  induction j with
  | zero =>
    intro i H hi he h0 h1
    have : i = N := by omega
    subst this
    refine loopC_once mixed l1_inapply_Means.eq_1 ?_
    simp
    exact hq he _ H h0 h1
  | succ j ih =>
    intro i H hi he h0 h1
    have hlt : i < N := by omega
    have ei : IntKind.i64.wrap ((i : Int) + 1) = ((i + 1 : Nat) : Int) := i64_same (by omega) (by omega)
    refine loopC_once mixed l1_inapply_Means.eq_1 ?_
    simp [hlt, h0]
    refine sc_call (word_spec' hs (means_ok hm) i) (by simp) ?_
    rw [means_wordD hm]
    simp [h1]
    refine sc_call (treeWord_spec u i) (by simp) ?_
    by_cases hw : t.words.getD i 0 = u.words.getD i 0
    · have hw' := hw
      simp only [List.getD_eq_getElem?_getD] at hw'
      simp [hw', ei]
      refine ih (i + 1) H (by omega) (fun i' hi' => ?_) h0 h1
      by_cases e : i' = i
      · rw [e]; exact hw
      · exact he i' (by omega)
    · have hw' := hw
      simp only [List.getD_eq_getElem?_getD] at hw'
      simp [hw']
      exact hf ⟨i, hw⟩ H
theorem means_l2 {l : List (List Int)} (hs : Sg l) {r : Rf} {t u : T} (hm : Means l r t) {n : Nat} (hn : n ≤ 100000000000000) (hr : ∃ d, rightT d u = true) (hwu : wfT u) (hk : ∀ i, i < n → MeansS l (t.kids.getD i T0))
    (hq : (∀ i, i < n → norm (t.kids.getD i T0) = norm (u.kids.getD i T0)) → ∀ (q : Bool) (H : Hp), Q (.exit 3) ⟨lk [(2, .pob [0] 1 0), (3, .pob [1] 1 0), (63, iv n), (64, iv n), (65, bv q)], H⟩)
    (hf : (∃ i, norm (t.kids.getD i T0) ≠ norm (u.kids.getD i T0)) → ∀ H : Hp, Q .ret ⟨lk [(4, bv false), (5, iv 0)], H⟩) :
    ∀ (j i : Nat) (H : Hp), i + j = n → (∀ i', i' < i → norm (t.kids.getD i' T0) = norm (u.kids.getD i' T0)) → H [0] = ⟨1, .cells (paL l r)⟩ → H [1] = ⟨1, .cells (tL u)⟩ →
    LoopC (cx Try.prog w0 I0 n0) l2_inapply_Means Q ⟨lk [(2, .pob [0] 1 0), (3, .pob [1] 1 0), (63, iv n), (64, iv i)], H⟩ := by
  intro j
  induction j with
  | zero =>
    intro i H hi he h0 h1
    have : i = n := by omega
    subst this
    refine loopC_once mixed l2_inapply_Means.eq_1 ?_
    simp
    exact hq he _ H
  | succ j ih =>
    intro i H hi he h0 h1
    have hlt : i < n := by omega
    have ei : IntKind.i64.wrap ((i : Int) + 1) = ((i + 1 : Nat) : Int) := i64_same (by omega) (by omega)
    obtain ⟨k1, k2⟩ := means_kidD hm i
    have hru : (∃ d, rightT d (u.kids.getD i T0) = true) ∧ wfT (u.kids.getD i T0) := by
      obtain ⟨d, hd⟩ := hr
      obtain ⟨k, w, ks⟩ := u
      by_cases hi' : i < ks.length
      · have e : (T.mk k w ks).kids.getD i T0 = ks[i] := by simp [List.getD_eq_getElem?_getD, hi']
        rw [e]
        exact ⟨⟨_, (rightT_struct hd _ (List.getElem_mem hi')).1⟩, (wfT_iff.1 hwu).ks _ (List.getElem_mem hi')⟩
      · have e : (T.mk k w ks).kids.getD i T0 = T0 := by rw [List.getD_eq_getElem?_getD, List.getElem?_eq_none (by simpa using hi')]; rfl
        rw [e]
        exact ⟨⟨0, by rw [rightT_mk]; rfl⟩, wfT_iff.2 ⟨by simp [i64R], by simp, by simp, by simp, by simp⟩⟩
    have hrec := hk i hlt _ (u.kids.getD i T0) k2 hru.2 hru.1
    refine loopC_once mixed l2_inapply_Means.eq_1 ?_
    simp [hlt, h0]
    refine sc_call (kid_spec hs (means_ok hm) i) (by simp) ?_
    rw [k1]
    simp [updF_app, h0, h1]
    refine sc_call (treeKid_spec u i) (by simp) ?_
    simp [updF_app, h0, h1]
    refine sc_call hrec (by simp) ?_
    cases hb : eqT (t.kids.getD i T0) (u.kids.getD i T0) with
    | true =>
      simp [ei]
      refine ih (i + 1) _ (by omega) (fun i' hi' => ?_) (by simp [updF_app, h0]) (by simp [updF_app, h1])
      by_cases e : i' = i
      · rw [e]; exact eqT_iff.1 hb
      · exact he i' (by omega)
    | false =>
      simp
      exact hf ⟨i, fun e => by rw [eqT_iff.2 e] at hb; cases hb⟩ _
end
theorem means_k1 {n0 : Nat} {w0 : World} {I0 : Nat → Prop} {l : List (List Int)} (hs : Sg l) {r : Rf} {t u : T} (hm : Means l r t) (hwu : wfT u) (hr : ∃ d, rightT d u = true) (hb : eqT t u = true ↔ t.kind = u.kind ∧ (t.kind = 1 ∨ t.kids.length = u.kids.length) ∧ (∀ i, t.words.getD i 0 = u.words.getD i 0) ∧ ∀ i, norm (t.kids.getD i T0) = norm (u.kids.getD i T0))
    (h1 : t.kind = u.kind) (h2 : t.kind = 1 ∨ t.kids.length = u.kids.length) {n : Nat} (hn : n ≤ 100000000000000) (hbig : ∀ i, n ≤ i → norm (t.kids.getD i T0) = norm (u.kids.getD i T0)) (hk : ∀ i, i < n → MeansS l (t.kids.getD i T0)) {H : Hp} (g0 : H [0] = ⟨1, .cells (paL l r)⟩) (g1 : H [1] = ⟨1, .cells (tL u)⟩) :
    WPC (cx Try.prog w0 I0 n0) k1_inapply_Means (RetC Try.prog [.tmp 4, .tmp 5] (.tup [bv (eqT t u), iv 0])) ⟨lk [(2, .pob [0] 1 0), (3, .pob [1] 1 0), (6, iv n)], H⟩ := by
  have hln := means_len hm
  have hwl := (wfT_iff.1 hwu).wl
  have no : (∃ i, t.words.getD i 0 ≠ u.words.getD i 0) ∨ (∃ i, norm (t.kids.getD i T0) ≠ norm (u.kids.getD i T0)) → eqT t u = false := fun h => by
    rw [Bool.eq_false_iff]
    intro e
    obtain ⟨_, _, q1, q2⟩ := hb.1 e
    rcases h with ⟨i, hi⟩ | ⟨i, hi⟩
    · exact hi (q1 i)
    · exact hi (q2 i)
  have em : max (t.words.length : Int) (u.words.length : Int) = ((max t.words.length u.words.length : Nat) : Int) := by omega
  unfold k1_inapply_Means
  simp [g0]
  refine sc_call (refWords_spec' l r) (by simp) ?_
  rw [(means_word hm).1]
  simp [g1]
  rw [em]
  refine means_l1 hs hm (n := n) (N := max t.words.length u.words.length) (by omega) (fun hw q H' h0' h1' => ?_) (fun hw H' => ?_) (max t.words.length u.words.length) 0 H (by omega) (fun i' hi' => by omega) g0 g1
  · have hwall : ∀ i, t.words.getD i 0 = u.words.getD i 0 := fun i => by
      by_cases hi : i < max t.words.length u.words.length
      · exact hw i hi
      · rw [List.getD_eq_getElem?_getD, List.getD_eq_getElem?_getD, List.getElem?_eq_none (by omega), List.getElem?_eq_none (by omega)]
    simp
    refine means_l2 hs hm hn hr hwu hk (fun hw2 q2 H2 => ?_) (fun hw2 H2 => ?_) n 0 H' (by omega) (fun i' hi' => by omega) h0' h1'
    · have : eqT t u = true := hb.2 ⟨h1, h2, hwall, fun i => by
        by_cases hi : i < n
        · exact hw2 i hi
        · exact hbig i (by omega)⟩
      simp
      rw [this]
      exact frz_bare rfl
    · simp
      rw [no (.inr hw2)]
      exact frz_bare rfl
  · simp
    rw [no (.inl hw)]
    exact frz_bare rfl
theorem getD_trim (ks : List T) {i : Nat} (h : (trimK ks).length ≤ i) : norm (ks.getD i T0) = T0 := by
  have hz : ∀ c : List T, ∀ x, x ∈ c.map norm → (x.kind == 0) = true → x = T0 := fun c x hx h0 => by
    obtain ⟨y, _, rfl⟩ := List.mem_map.1 hx
    simp at h0
    exact norm_kind0 h0
  rw [← getD_norm, ← trimG_getD _ (hz ks) i, ← trimK_G, List.getD_eq_getElem?_getD, List.getElem?_eq_none (by rw [trimK_map_len]; exact h)]
  rfl
theorem means_walk {l : List (List Int)} (hs : Sg l) {t : T} (hk : ∀ i, t.kind ≠ 0 → MeansS l (t.kids.getD i T0)) : MeansS l t := by
  intro r u hm hwu hr
  have ht := shp_means hm
  have hu : ShT u := by obtain ⟨d, hd⟩ := hr; exact shp_right hd
  have hb := eqT_shp ht hu
  have hln := means_len hm
  have hwl := wfT_iff.1 hwu
  refine spec_of t_inapply_Means (by simp) fun w0 I0 => ?_
  unfold c_inapply_Means
  simp
  refine sc_call (refKids_spec' l r) (by simp) ?_
  rw [means_nk hm]
  simp
  refine sc_call (refKind_spec l r) (by simp) ?_
  rw [means_kind hm]
  simp
  have nok : t.kind ≠ u.kind → eqT t u = false := fun h => by
    rw [Bool.eq_false_iff]
    exact fun e => h (hb.1 e).1
  by_cases h1 : t.kind = u.kind
  rotate_left
  · simp [h1]
    rw [nok h1]
    exact frz_bare rfl
  have hbig : ∀ i, t.kids.length ≤ i → u.kids.length ≤ i → norm (t.kids.getD i T0) = norm (u.kids.getD i T0) := fun i g1 g2 => by
    rw [List.getD_eq_getElem?_getD, List.getD_eq_getElem?_getD, List.getElem?_eq_none g1, List.getElem?_eq_none g2]
  by_cases h2 : u.kind = 1
  · simp [h1, h2]
    refine sc_call (wide_spec hs hm) (by simp) ?_
    have em : max ((trimK t.kids).length : Int) (u.kids.length : Int) = ((max (trimK t.kids).length u.kids.length : Nat) : Int) := by omega
    have := trimK_le t.kids
    have := hwl.kl
    simp
    rw [em]
    refine means_k1 hs hm hwu hr hb h1 (.inl (h1.trans h2)) (by omega) (fun i hi => ?_) (fun i hi => hk i (by rw [h1, h2]; decide)) (by simp) (by simp [h2])
    rw [getD_trim _ (show (trimK t.kids).length ≤ i by omega), List.getD_eq_getElem?_getD, List.getElem?_eq_none (by omega)]
    exact norm_T0.symm
  · simp [h1, h2]
    by_cases h3 : t.kids.length = u.kids.length
    · simp [h3]
      rw [← h3]
      refine means_k1 hs hm hwu hr hb h1 (.inr h3) (by omega) (fun i hi => hbig i hi (by omega)) (fun i hi => hk i (fun e => ?_)) (by simp) (by simp)
      have := (ht.z e).2
      rw [this] at hi
      simp at hi
    · have h3' : ¬ (t.kids.length : Int) = u.kids.length := by omega
      simp [h3']
      have : eqT t u = false := by
        rw [Bool.eq_false_iff]
        intro e
        rcases (hb.1 e).2.1 with g | g
        · exact h2 (h1 ▸ g)
        · exact h3 g
      rw [this]
      exact frz_bare rfl
theorem means_spec29 {l : List (List Int)} (hs : Sg l) : ∀ t : T, MeansS l t := by
  have h0 : MeansS l T0 := means_walk hs fun i h => absurd rfl h
  refine T.ind fun k w ks ih => means_walk hs fun i _ => ?_
  by_cases hi : i < ks.length
  · have : (T.mk k w ks).kids.getD i T0 = ks[i] := by simp [List.getD_eq_getElem?_getD, hi]
    rw [this]
    exact ih _ (List.getElem_mem hi)
  · have : (T.mk k w ks).kids.getD i T0 = T0 := by rw [List.getD_eq_getElem?_getD, List.getElem?_eq_none (by simpa using hi)]; rfl
    rw [this]
    exact h0
end Go.Proofs.Ytehcobkphobjiaa

/-
  Chapter 1: words mixed byte by byte, by the program.
-/
namespace Go.Proofs.Ytehcobkphobjiaa
set_option linter.unusedVariables false
set_option linter.unusedSimpArgs false
open Go Go.G Go.Proofs Go.PL
def mixN : Nat → Nat → Nat → Nat → Nat
  | 0, _, _, _ => 0
  | k + 1, a, b, m => (if m % 2 = 1 then b % 256 else a % 256) + 256 * mixN k (a / 256) (b / 256) (m / 2)
def wideN : Nat → Nat → Nat
  | 0, _ => 0
  | k + 1, m => (if m % 2 = 1 then 255 else 0) + 256 * wideN k (m / 2)
theorem wideN_lt : ∀ k m, wideN k m < 256 ^ k
  | 0, m => by simp [wideN]
  | k + 1, m => by
    have := wideN_lt k (m / 2)
    simp only [wideN, Nat.pow_succ]
    split <;> omega
theorem mixN_bits : ∀ k a b m, a < 256 ^ k → b < 256 ^ k → (a &&& (256 ^ k - 1 - wideN k m)) ||| (b &&& wideN k m) = mixN k a b m
  | 0, a, b, m, ha, hb => by
    simp at ha hb
    subst ha hb
    simp [mixN, wideN]
  | k + 1, a, b, m, ha, hb => by
    have hw := wideN_lt k (m / 2)
    rw [Nat.pow_succ] at ha hb
    have ih := mixN_bits k (a / 256) (b / 256) (m / 2) (by omega) (by omega)
    have p0 : 0 < 256 ^ k := Nat.pow_pos (by decide)
    generalize hx : (a &&& (256 ^ (k + 1) - 1 - wideN (k + 1) m)) ||| (b &&& wideN (k + 1) m) = x
    have d1 : wideN (k + 1) m / 256 = wideN k (m / 2) := by simp only [wideN]; split <;> omega
    have d2 : (256 ^ (k + 1) - 1 - wideN (k + 1) m) / 256 = 256 ^ k - 1 - wideN k (m / 2) := by simp only [wideN, Nat.pow_succ]; split <;> omega
    have m1 : wideN (k + 1) m % 256 = if m % 2 = 1 then 255 else 0 := by simp only [wideN]; split <;> omega
    have m2 : (256 ^ (k + 1) - 1 - wideN (k + 1) m) % 256 = if m % 2 = 1 then 0 else 255 := by simp only [wideN, Nat.pow_succ]; split <;> omega
    have e1 : x / 256 = mixN k (a / 256) (b / 256) (m / 2) := by
      have q1 := @Nat.or_div_two_pow (a &&& (256 ^ (k + 1) - 1 - wideN (k + 1) m)) (b &&& wideN (k + 1) m) 8
      have q2 := @Nat.and_div_two_pow a (256 ^ (k + 1) - 1 - wideN (k + 1) m) 8
      have q3 := @Nat.and_div_two_pow b (wideN (k + 1) m) 8
      have c : (2 : Nat) ^ 8 = 256 := rfl
      rw [q2, q3, c, d1, d2, hx] at q1
      rw [q1, ih]
    have e2 : x % 256 = if m % 2 = 1 then b % 256 else a % 256 := by
      have h : x % 2 ^ 8 = (a % 2 ^ 8 &&& (256 ^ (k + 1) - 1 - wideN (k + 1) m) % 2 ^ 8) ||| (b % 2 ^ 8 &&& wideN (k + 1) m % 2 ^ 8) := by
        rw [← hx, Nat.or_mod_two_pow, Nat.and_mod_two_pow, Nat.and_mod_two_pow]
      have c : (2 : Nat) ^ 8 = 256 := rfl
      rw [c, m1, m2] at h
      rw [h]
      have h255 : (255 : Nat) = 2 ^ 8 - 1 := rfl
      split
      · rw [h255, Nat.and_two_pow_sub_one_eq_mod]; simp
      · rw [h255, Nat.and_two_pow_sub_one_eq_mod]; simp
    simp only [mixN]
    omega
theorem mx_range : ∀ (k : Nat) (a b mask : Int), 0 ≤ a → 0 ≤ b → 0 ≤ mask → ofZ ((List.range k).map fun i => if namedZ mask i = true then (bytesN k b).getD i 0 else (bytesN k a).getD i 0) = (mixN k a.toNat b.toNat mask.toNat : Nat)
  | 0, a, b, mask, _, _, _ => by simp [ofZ, mixN]
  | k + 1, a, b, mask, ha, hb, hm => by
    have ih := mx_range k (a / 256) (b / 256) (mask / 2) (by omega) (by omega) (by omega)
    have e1 : (a / 256).toNat = a.toNat / 256 := by omega
    have e2 : (b / 256).toNat = b.toNat / 256 := by omega
    have e3 : (mask / 2).toNat = mask.toNat / 2 := by omega
    rw [e1, e2, e3] at ih
    rw [List.range_succ_eq_map, List.map_cons, List.map_map, ofZ]
    have h : (List.range k).map ((fun i => if namedZ mask i = true then (bytesN (k + 1) b).getD i 0 else (bytesN (k + 1) a).getD i 0) ∘ Nat.succ) = (List.range k).map fun i => if namedZ (mask / 2) i = true then (bytesN k (b / 256)).getD i 0 else (bytesN k (a / 256)).getD i 0 := by
      refine List.map_congr_left fun i _ => ?_
      have hn : namedZ mask (i + 1) = namedZ (mask / 2) i := by
        unfold namedZ
        have : mask / 2 ^ (i + 1) = mask / 2 / 2 ^ i := by
          rw [Int.ediv_ediv_of_nonneg (by decide), Int.pow_succ, Int.mul_comm]
        rw [this]
      simp [bytesN, hn]
    rw [h, ih]
    have h0 : (namedZ mask 0 = true) = (mask.toNat % 2 = 1) := by
      simp [namedZ]
      omega
    simp only [h0, mixN, bytesN, List.getD_cons_zero]
    split <;> omega
theorem mixZ_nat {a b mask : Int} (ha : u64R a) (hb : u64R b) (h0 : 0 ≤ mask) : mixZ a b mask = (mixN 8 a.toNat b.toNat mask.toNat : Nat) := by
  rw [← mx_range 8 a b mask ha.1 hb.1 h0]
  unfold mixZ mixL bytesZ
  rw [List.drop_eq_nil_of_le (by simp), List.append_nil]
def wS (mask : Int) : Nat → Int
  | 0 => 0
  | i + 1 => if bits .and .u8 (mask / 2 ^ min i 8) 1 = 1 then bits .or .u64 (wS mask i) (IntKind.u64.wrap (255 * 2 ^ min (8 * i) 64)) else wS mask i
theorem wS_all : ∀ m : Nat, m < 256 → wS m 8 = (wideN 8 m : Nat) := by decide +kernel
section
variable {n0 : Nat} {w0 : World} {I0 : Nat → Prop} {Q : Exit → Sta → Prop}
theorem mxwide_l1 {mask : Int} (hq : ∀ q, Q (.exit 0) ⟨lk [(0, u8 mask), (3, uv (wS mask 8)), (5, iv 8), (6, bv q)], lkH []⟩) :
    ∀ (j i : Nat), i + j = 8 → LoopC (cx Try.prog w0 I0 n0) l1_word_Wide Q ⟨lk [(0, u8 mask), (3, uv (wS mask i)), (5, iv i)], lkH []⟩ := by
  intro j
  induction j with
  | zero =>
    intro i hi
    have : i = 8 := by omega
    subst this
    refine loopC_once mixed l1_word_Wide.eq_1 ?_
    simp
    exact hq _
  | succ j ih =>
    intro i hi
    refine loopC_once mixed l1_word_Wide.eq_1 ?_
    have hlt : i < 8 := by omega
    have hlt2 : (i : Int) < 8 := by omega
    have e8 : IntKind.i64.wrap (8 * (i : Int)) = ((8 * i : Nat) : Int) := (i64_same (by omega) (by omega)).trans (by omega)
    have ei : IntKind.i64.wrap ((i : Int) + 1) = ((i + 1 : Nat) : Int) := i64_same (by omega) (by omega)
    have b8 : IntKind.u8.bits = 8 := rfl
    have b64 : IntKind.u64.bits = 64 := rfl
    have hs := ih (i + 1) (by omega)
    rw [wS] at hs
    have e9 : (8 * (i : Int)).toNat = 8 * i := by omega
    simp [hlt, hlt2, e8, ei, b8, b64, e9]
    refine ⟨fun hc => ⟨by omega, ?_⟩, fun hc => ?_⟩
    · rw [if_pos hc] at hs
      exact hs
    · rw [if_neg hc] at hs
      exact hs
end
theorem pWide_spec {mask : Int} (h0 : 0 ≤ mask) (h1 : mask < 256) : G.Spec Try.prog 205 [u8 mask] (uv (wideN 8 mask.toNat : Nat)) := by
  refine spec_of t_word_Wide (by simp) fun w0 I0 => ?_
  unfold c_word_Wide
  simp
  obtain ⟨m, rfl⟩ := Int.eq_ofNat_of_zero_le h0
  refine mxwide_l1 (fun q => ?_) 8 0 rfl
  simp
  rw [wS_all m (by omega)]
  exact frz_bare rfl
theorem mx_nat {x : Nat} (h : x < 2 ^ 64) : (BitVec.ofInt 64 (x : Int)).toNat = x := by
  rw [BitVec.toNat_ofInt]
  omega
theorem mx_and {x y : Nat} (hx : x < 2 ^ 64) (hy : y < 2 ^ 64) : bits .and .u64 x y = (x &&& y : Nat) := by
  have h := Nat.lt_of_le_of_lt (Nat.and_le_left (n := x) (m := y)) hx
  show IntKind.u64.wrap ((BitVec.ofInt 64 x &&& BitVec.ofInt 64 y).toNat : Nat) = _
  rw [BitVec.toNat_and, mx_nat hx, mx_nat hy]
  exact u64_same (by omega) (by omega)
theorem mx_or {x y : Nat} (hx : x < 2 ^ 64) (hy : y < 2 ^ 64) : bits .or .u64 x y = (x ||| y : Nat) := by
  have h := Nat.or_lt_two_pow hx hy
  show IntKind.u64.wrap ((BitVec.ofInt 64 x ||| BitVec.ofInt 64 y).toNat : Nat) = _
  rw [BitVec.toNat_or, mx_nat hx, mx_nat hy]
  exact u64_same (by omega) (by omega)
theorem mx_andN {x y : Nat} (hx : x < 2 ^ 64) (hy : y < 2 ^ 64) : bits .andNot .u64 x y = (x &&& (256 ^ 8 - 1 - y) : Nat) := by
  have h := Nat.lt_of_le_of_lt (Nat.and_le_left (n := x) (m := 256 ^ 8 - 1 - y)) hx
  show IntKind.u64.wrap ((BitVec.ofInt 64 x &&& ~~~ BitVec.ofInt 64 y).toNat : Nat) = _
  rw [BitVec.toNat_and, BitVec.toNat_not, mx_nat hx, mx_nat hy]
  have e : (2 : Nat) ^ 64 - 1 - y = 256 ^ 8 - 1 - y := rfl
  rw [e]
  exact u64_same (by omega) (by omega)
theorem pMix_spec {a b mask : Int} (ha : u64R a) (hb : u64R b) (h0 : 0 ≤ mask) (h1 : mask < 256) : G.Spec Try.prog 183 [uv a, uv b, u8 mask] (uv (mixZ a b mask)) := by
  refine spec_of t_word_Mix (by simp) fun w0 I0 => ?_
  unfold c_word_Mix
  simp
  refine sc_call (pWide_spec h0 h1) (by simp) ?_
  simp
  refine sc_call (pWide_spec h0 h1) (by simp) ?_
  simp
  refine frz_int ?_
  rw [mixZ_nat ha hb h0]
  obtain ⟨x, rfl⟩ := Int.eq_ofNat_of_zero_le ha.1
  obtain ⟨y, rfl⟩ := Int.eq_ofNat_of_zero_le hb.1
  have hx : x < 2 ^ 64 := by have := ha.2; omega
  have hy : y < 2 ^ 64 := by have := hb.2; omega
  have hw : wideN 8 mask.toNat < 2 ^ 64 := wideN_lt 8 _
  rw [mx_andN hx hw, mx_and hy hw, mx_or (Nat.lt_of_le_of_lt Nat.and_le_left hx) (Nat.lt_of_le_of_lt Nat.and_le_left hy)]
  have := mixN_bits 8 x y mask.toNat hx hy
  simp only [Int.toNat_natCast]
  rw [← this]
end Go.Proofs.Ytehcobkphobjiaa

/-
  The program's trees: the Norm, and how many words they take.
-/
namespace Go.Proofs.Ytehcobkphobjiaa
set_option linter.unusedVariables false
set_option linter.unusedSimpArgs false
open Go Go.G Go.Proofs Go.PL
section
variable {n0 : Nat} {w0 : World} {I0 : Nat → Prop} {Q : Exit → Sta → Prop}
end
/-! ### the Norm -/
section
variable {n0 : Nat} {w0 : World} {I0 : Nat → Prop} {Q : Exit → Sta → Prop}
theorem tnorm_l1 {t : T} (hl : t.kids.length * 56 ≤ 140737488355328) (ih : ∀ c, c ∈ t.kids → G.Spec Try.prog 92 [tX c] (tX (norm c))) {v v0 : VOb} {k w : A} : ∀ (m i : Nat) (u : Nat) (H : Hp), i + m = t.kids.length → H [0] = v0 → H [1] = v → H [2] = ⟨1, .cells [k, w, .osl [4] u 3 0 i]⟩ → H [4] = ⟨u, .arr 3 ((t.kids.take i).map (tA ∘ norm))⟩ →
    (∀ i' q (u' : Nat) (H' : Hp), H' [0] = v0 → H' [1] = v → H' [2] = ⟨1, .cells [k, w, .osl [4] u' 3 0 t.kids.length]⟩ → H' [4] = ⟨u', .arr 3 (t.kids.map (tA ∘ norm))⟩ → Q (.exit 0) ⟨lk [(1, .pob [0] 1 0), (2, .pob [1] 1 0), (3, .pob [2] 1 0), (17, tKs t.kids), (18, iv t.kids.length), (19, iv i'), (20, bv q)], H'⟩) →
    LoopC (cx Try.prog w0 I0 n0) l1_tree_Norm Q ⟨lk [(1, .pob [0] 1 0), (2, .pob [1] 1 0), (3, .pob [2] 1 0), (17, tKs t.kids), (18, iv t.kids.length), (19, iv i)], H⟩ := by
  intro m
  induction m with
  | zero =>
    intro i u H hi hA hR hO hB hq
    have : i = t.kids.length := by omega
    subst this
    refine loopC_once mixed l1_tree_Norm.eq_1 ?_
    simp
    exact hq _ _ u H hA hR hO (by rw [hB]; simp)
  | succ m ihm =>
    intro i u H hi hA hR hO hB hq
    have hlt : i < t.kids.length := by omega
    have ei : IntKind.i64.wrap ((i : Int) + 1) = ((i + 1 : Nat) : Int) := i64_same (by omega) (by omega)
    refine loopC_once mixed l1_tree_Norm.eq_1 ?_
    simp [hlt, updF_app, hO]
    refine sc_call (ih _ (List.getElem_mem hlt)) rfl ?_
    simp [updF_app, hO, hB]
    have hrow := row_succ (f := tA ∘ norm) hlt (x := tX (norm t.kids[i])) (by simp)
    rw [hrow, ei]
    refine ⟨⟨by omega, by omega⟩, ?_⟩
    exact ihm (i + 1) (u + 1) _ (by omega) (by simp [updF_app, hA]) (by simp [updF_app, hR]) (by simp [updF_app]) (by simp [updF_app]) hq
theorem tnorm_l2 {w : List Int} (hl : w.length * 8 ≤ 140737488355328) {v v4 : VOb} {K : A} : ∀ (n : Nat) (H : Hp), n ≤ w.length → trimW (w.take n) = trimW w → H [1] = v → H [2] = ⟨1, .cells [iv 1, uws (w.take n), K]⟩ → H [4] = v4 →
    (∀ q (H' : Hp), H' [1] = v → H' [2] = ⟨1, .cells [iv 1, uws (trimW w), K]⟩ → H' [4] = v4 → Q (.exit 2) ⟨lk [(2, .pob [1] 1 0), (3, .pob [2] 1 0), (48, bv q)], H'⟩) →
    LoopC (cx Try.prog w0 I0 n0) l2_tree_Norm Q ⟨lk [(2, .pob [1] 1 0), (3, .pob [2] 1 0)], H⟩ := by
  intro n
  induction n with
  | zero =>
    intro H hn ht hR hO hB hq
    refine loopC_once mixed l2_tree_Norm.eq_1 ?_
    simp [hO]
    refine hq _ H hR ?_ hB
    rw [← ht]
    simpa using hO
  | succ n ihn =>
    intro H hn ht hR hO hB hq
    have hlt : n < w.length := by omega
    have en : IntKind.i64.wrap (n : Int) = n := i64_same (by omega) (by omega)
    have emin : min (n + 1) w.length = n + 1 := by omega
    refine loopC_once mixed l2_tree_Norm.eq_1 ?_
    by_cases h0 : w[n] = 0
    · have hnn : (n : Int) < n + 1 := by omega
      have hnn' : (n : Int) ≤ n + 1 := by omega
      have hs : List.take n (List.take (n + 1) (List.map uv w)) = (w.take n).map uv := by rw [List.take_take, Nat.min_eq_left (by omega), List.map_take]
      simp [hO, emin, en, hlt, h0, hnn, hnn', hs]
      exact ihn _ (by omega) (by rw [← trimW_zero hlt h0]; exact ht) (by simp [updF_app, hR]) (by simp [updF_app]) (by simp [updF_app, hB]) hq
    · have hnn : (n : Int) < n + 1 := by omega
      simp [hO, emin, en, hlt, h0, hnn]
      refine hq _ H hR ?_ hB
      rw [hO, ← ht, trimW_stop hlt h0]
theorem tnorm_l3 {l : List T} (hl : l.length * 56 ≤ 140737488355328) {v : VOb} {W : A} {u : Nat} : ∀ (n : Nat) (H : Hp), n ≤ l.length → trimK (l.take n) = trimK l → H [1] = v → H [2] = ⟨1, .cells [iv 1, W, .osl [4] u 3 0 n]⟩ → H [4] = ⟨u, .arr 3 (l.map (tA ∘ norm))⟩ →
    (∀ q (H' : Hp), H' [1] = v → H' [2] = ⟨1, .cells [iv 1, W, .osl [4] u 3 0 (trimK l).length]⟩ → H' [4] = ⟨u, .arr 3 (l.map (tA ∘ norm))⟩ → Q (.exit 4) ⟨lk [(2, .pob [1] 1 0), (3, .pob [2] 1 0), (72, bv q)], H'⟩) →
    LoopC (cx Try.prog w0 I0 n0) l3_tree_Norm Q ⟨lk [(2, .pob [1] 1 0), (3, .pob [2] 1 0)], H⟩ := by
  intro n
  induction n with
  | zero =>
    intro H hn ht hR hO hB hq
    refine loopC_once mixed l3_tree_Norm.eq_1 ?_
    simp [hO]
    refine hq _ H hR ?_ hB
    rw [← ht]
    simpa using hO
  | succ n ihn =>
    intro H hn ht hR hO hB hq
    have hlt : n < l.length := by omega
    have en : IntKind.i64.wrap (n : Int) = n := i64_same (by omega) (by omega)
    have hnn : (n : Int) < n + 1 := by omega
    have hnn' : (n : Int) ≤ n + 1 := by omega
    refine loopC_once mixed l3_tree_Norm.eq_1 ?_
    by_cases h0 : l[n].kind = 0
    · simp [hO, hB, en, hlt, h0, hnn, hnn']
      exact ihn _ (by omega) (by rw [← trimK_zero hlt h0]; exact ht) (by simp [updF_app, hR]) (by simp [updF_app]) (by simp [updF_app, hB]) hq
    · simp [hO, hB, en, hlt, h0, hnn]
      refine hq _ H hR ?_ hB
      rw [hO, ← ht, trimK_stop hlt h0]
      simp; omega
end
theorem tNorm_spec : ∀ (t : T), wfT t → G.Spec Try.prog 92 [tX t] (tX (norm t)) := by
  refine T.ind fun k w l ih hw => ?_
  have hw' := wfT_iff.1 hw
  have hwl := hw'.wl
  have hkl := hw'.kl
  simp at hwl hkl
  refine spec_of t_tree_Norm (by simp) fun w0 I0 => ?_
  unfold c_tree_Norm
  rw [norm_mk]
  by_cases h0 : k = 0
  · simp [h0]
    exact frz_T0
  · simp [h0]
    refine sc_call (clone_spec false w hwl).spec rfl ?_
    simp
    refine LoopC.le (le_blankC (d := [2]) 2 [4] 3 rfl rfl (by simp)) ?_
    simp
    refine tnorm_l1 (t := .mk k w l) (k := iv k) (w := uws w) (by simpa using hkl) (fun c hc => ih c hc (hw'.ks c hc)) l.length 0 1 _ (by simp) rfl rfl (by simp) (by simp) fun i' q u' H' hA hR hO hB => ?_
    by_cases h1 : k = 1
    · subst h1
      simp at hA hR hO hB
      simp [hA, hR, hO, hB]
      refine LoopC.le (le_list [(2, .pob [1] 1 0), (3, .pob [2] 1 0)] (by simp)) ?_
      refine tnorm_l2 hwl w.length _ (Nat.le_refl _) (by rw [List.take_of_length_le (Nat.le_refl _)]) hR (by rw [hO, List.take_of_length_le (Nat.le_refl _)]) hB fun q H2 hR2 hO2 hB2 => ?_
      simp
      refine tnorm_l3 hkl l.length _ (Nat.le_refl _) (by rw [List.take_of_length_le (Nat.le_refl _)]) hR2 hO2 hB2 fun q H3 hR3 hO3 hB3 => ?_
      simp [hO3, hR3, updF_app]
      refine frz_agg ?_
      simp
      rw [trimK_map]
      refine ⟨frz_bare rfl, frz_bare rfl, ?_⟩
      have := frz_rowT (H := updF H3 [1] ⟨1, .cells [iv 1, uws (trimW w), A.osl [4] u' 3 0 (trimK l).length]⟩) (o := [4]) (u := u') (sz := 3) (l := l) (f := tA ∘ norm) (by simp [updF_app, hB3]) (trimK_le l) (by simp)
      rw [← List.map_take]
      show Frz _ _ (A.sl false (((l.take (trimK l).length).map norm).map tA))
      rw [List.map_map]
      exact this
    · simp at hA hR hO hB
      simp [hA, hR, hO, hB, h1, updF_app]
      refine frz_agg ?_
      simp
      refine ⟨frz_bare rfl, frz_bare rfl, ?_⟩
      have := frz_row (H := updF H' [1] ⟨1, .cells [iv k, uws w, A.osl [4] u' 3 0 l.length]⟩) (o := [4]) (u := u') (sz := 3) (l := l) (f := tA ∘ norm) (by simp [updF_app, hB]) rfl (by simp)
      show Frz _ _ (A.sl false ((l.map norm).map tA))
      rw [List.map_map]
      exact this
/-! ### how many words -/
section
variable {n0 : Nat} {w0 : World} {I0 : Nat → Prop} {Q : Exit → Sta → Prop}
end
end Go.Proofs.Ytehcobkphobjiaa
