/-
  Texts, merged, without what is not reached.
-/
import Derived.Test.YthfiijdbnkaabaaGreatKCb
/-
  The functions' text as data, and the facts on the types that they use: written by a program of ours (gen2.py) off the translation.
-/
namespace Go.Proofs.YthfiijdbnkaabaaGreat
set_option linter.unusedVariables false
set_option linter.unusedSimpArgs false
set_option maxRecDepth 20000
open Go Go.G Go.Proofs
@[simp] theorem zeroT_30 : zeroT Tryz.prog 30 = some (Value.agg #[Value.int IntKind.i64 0, Value.int IntKind.i64 0, Value.slice none 0 0, Value.slice none 0 0, Value.int IntKind.i64 0, Value.slice none 0 0, Value.slice none 0 0, Value.slice none 0 0, Value.slice none 0 0, Value.int IntKind.i64 0, Value.slice none 0 0]) := by kernel_rfl
@[simp] theorem fieldOffT_88_0 : fieldOffT Tryz.prog 88 0 = some 0 := by kernel_rfl
@[simp] theorem fieldOffT_98_0 : fieldOffT Tryz.prog 98 0 = some 0 := by kernel_rfl
@[simp] theorem fieldOffT_98_1 : fieldOffT Tryz.prog 98 1 = some 1 := by kernel_rfl
@[simp] theorem buildA_63 (ps : List (Nat × A)) : buildA Tryz.prog 63 ps = (fillA (fun i => ([(0, 1), (1, 1), (2, 1), (3, 1)] : List (Nat × Nat))[i]?) [A.v (Value.int IntKind.i64 0), A.v (Value.int IntKind.u8 0), A.v (Value.int IntKind.u64 0), A.v (Value.int IntKind.u64 0)] ps).map A.agg := by kernel_rfl
@[simp] theorem buildA_66 (ps : List (Nat × A)) : buildA Tryz.prog 66 ps = (fillA (fun i => ([(0, 1), (1, 11)] : List (Nat × Nat))[i]?) [A.v (Value.int IntKind.i64 0), A.v (Value.int IntKind.i64 0), A.v (Value.int IntKind.i64 0), A.sl true [], A.sl true [], A.v (Value.int IntKind.i64 0), A.sl true [], A.sl true [], A.sl true [], A.sl true [], A.v (Value.int IntKind.i64 0), A.sl true []] ps).map A.agg := by kernel_rfl
@[simp] theorem buildA_69 (ps : List (Nat × A)) : buildA Tryz.prog 69 ps = (fillA (fun i => ([(0, 1), (1, 1), (2, 1), (3, 11)] : List (Nat × Nat))[i]?) [A.v (Value.int IntKind.i64 0), A.v (Value.int IntKind.i64 0), A.sl true [], A.v (Value.int IntKind.i64 0), A.v (Value.int IntKind.i64 0), A.sl true [], A.sl true [], A.v (Value.int IntKind.i64 0), A.sl true [], A.sl true [], A.sl true [], A.sl true [], A.v (Value.int IntKind.i64 0), A.sl true []] ps).map A.agg := by kernel_rfl
@[simp] theorem buildA_88 (ps : List (Nat × A)) : buildA Tryz.prog 88 ps = (fillA (fun i => ([(0, 1)] : List (Nat × Nat))[i]?) [A.sl true []] ps).map A.agg := by kernel_rfl
@[simp] theorem buildA_98 (ps : List (Nat × A)) : buildA Tryz.prog 98 ps = (fillA (fun i => ([(0, 1), (1, 1)] : List (Nat × Nat))[i]?) [A.v (Value.int IntKind.i64 0), A.v (Value.int IntKind.i64 0)] ps).map A.agg := by kernel_rfl
@[simp] theorem eqA_63 (x0 y0 : Int) (x1 y1 : Int) (x2 y2 : Int) (x3 y3 : Int) : eqA Tryz.prog 100 63 (.agg [A.v (.int .i64 x0), A.v (.int .u8 x1), A.v (.int .u64 x2), A.v (.int .u64 x3)]) (.agg [A.v (.int .i64 y0), A.v (.int .u8 y1), A.v (.int .u64 y2), A.v (.int .u64 y3)]) = some (((x0 == y0) && ((x1 == y1) && ((x2 == y2) && ((x3 == y3) && (true)))))) := by kernel_rfl
@[simp] theorem eqG_63 : Tryz.prog.eqGuardType Tryz.prog.depth 63 = false := by kernel_rfl
@[simp] theorem fieldT_25_2 : fieldT Tryz.prog 25 2 = some (23, 2) := by kernel_rfl
/-- cento/word.Fits -/
def c_word_Fits : CC :=
  .seq (.reg [co (some 4) (.assign (.const (.bool false))) none] [0, 1])
  (.seq (.reg [co (some 8) (.move (.tmp 0)) none,
      co (some 9) (.call { callee := (.value (.func 133)), args := #[(.tmp 8)], argTypes := #[3] }) none,
      co (some 7) (.move (.tmp 9)) none,
      co (some 10) (.extract (.tmp 7) 0) none,
      co (some 11) (.extract (.tmp 7) 1) none,
      co (some 5) (.assign (.tmp 10)) none,
      co (some 6) (.assign (.tmp 11)) none] [1, 5, 6])
  (.seq (.reg [co (some 12) (.move (.tmp 6)) none,
      co (some 13) (.move (.tmp 12)) none,
      co (some 14) (.move (.tmp 5)) (some (13, true)),
      co (some 15) (.binOp .eql 3 (.tmp 14) (.const (.int .i64 64)) 3) (some (13, true)),
      co (some 16) (.move (.tmp 15)) (some (13, true)),
      co (some 17) (.move (.tmp 1)) (some (16, false)),
      co (some 18) (.move (.tmp 5)) (some (16, false)),
      co (some 19) (.binOp .shr 60 (.tmp 17) (.tmp 18) 3) (some (16, false)),
      co (some 20) (.binOp .eql 60 (.tmp 19) (.const (.int .u64 0)) 60) (some (16, false)),
      co (some 21) (.pick (.tmp 16) (.const (.bool true)) (.tmp 20)) (some (13, true)),
      co (some 22) (.pick (.tmp 13) (.tmp 21) (.const (.bool false))) none,
      co (some 4) (.assign (.tmp 22)) none] [4])
  (.ret)))
theorem t_word_Fits : Txt Tryz.prog 134 23 [(.tmp 4)] c_word_Fits := txt_of (code := Tryz.f134.body.getD .ret) mixed (by kernel_rfl) Tryz.func134 (by kernel_rfl) Tryz.ntmps134 (by kernel_rfl) (ls := [([0, 1], []), ([], []), ([1, 5, 6], []), ([], []), ([4], []), ([], [])]) (by kernel_rfl)
def l1_word_Put : CC :=
  .seq (.reg [co (some 26) (.binOp .lss 3 (.tmp 25) (.tmp 24) 3) none] [0, 6, 8, 23, 24, 25, 26])
  (.seq (.cond (.tmp 26)
      (.skip)
      (.exit 0))
  (.keep [0, 6, 8, 23, 24, 25] (.seq (.block 1
      (.seq (.reg [co (some 27) (.move (.tmp 25)) none,
          co (some 28) (.indexAddr 22 (.tmp 23) (.tmp 25)) none,
          co (some 29) (.load 60 (.tmp 28)) none,
          co (some 9) (.assign (.tmp 27)) none,
          co (some 10) (.assign (.tmp 29)) none] [0, 6, 8, 9, 10, 23, 24, 25])
      (.seq (.seq (.reg [co (some 30) (.move (.tmp 0)) none,
            co (some 31) (.move (.tmp 10)) none,
            co (some 32) (.call { callee := (.value (.func 134)), args := #[(.tmp 30), (.tmp 31)], argTypes := #[3, 60] }) none,
            co (some 33) (.unOp .not 4 (.tmp 32)) none] [0, 6, 8, 9, 10, 23, 24, 25, 33])
        (.cond (.tmp 33)
          (.seq (.reg [co (some 4) (.assign (.const (.slice none 0 0))) none,
              co (some 5) (.assign (.const (.bool false))) none] [4, 5])
          (.ret))
          (.skip)))
      (.keep [0, 6, 8, 9, 10, 23, 24, 25] (.seq (.reg [co (some 34) (.move (.tmp 6)) none,
          co (some 35) (.binOp .gtr 3 (.tmp 34) (.const (.int .i64 0)) 3) none] [0, 6, 8, 9, 10, 23, 24, 25, 35])
      (.cond (.tmp 35)
        (.reg [co (some 36) (.move (.tmp 8)) none,
          co (some 37) (.move (.tmp 9)) none,
          co (some 38) (.move (.tmp 6)) none,
          co (some 39) (.binOp .mul 3 (.tmp 37) (.tmp 38) 3) none,
          co (some 40) (.binOp .quo 3 (.tmp 39) (.const (.int .i64 64)) 3) none,
          co (some 41) (.indexAddr 22 (.tmp 36) (.tmp 40)) none,
          co (some 42) (.load 60 (.tmp 41)) none,
          co (some 43) (.move (.tmp 10)) none,
          co (some 44) (.move (.tmp 9)) none,
          co (some 45) (.move (.tmp 6)) none,
          co (some 46) (.binOp .mul 3 (.tmp 44) (.tmp 45) 3) none,
          co (some 47) (.binOp .rem 3 (.tmp 46) (.const (.int .i64 64)) 3) none,
          co (some 48) (.binOp .shl 60 (.tmp 43) (.tmp 47) 3) none,
          co (some 49) (.binOp .or 60 (.tmp 42) (.tmp 48) 60) none,
          co (some 50) (.indexAddr 22 (.tmp 36) (.tmp 40)) none,
          co none (.store 60 (.tmp 50) (.tmp 49)) none] [0, 6, 8, 23, 24, 25])
        (.skip)))))))
  (.keep [0, 6, 8, 23, 24, 25] (.reg [co (some 51) (.binOp .add 3 (.tmp 25) (.const (.int .i64 1)) 3) none,
    co (some 25) (.move (.tmp 51)) none] [0, 6, 8, 23, 24, 25])))))
/-- cento/word.Put -/
def c_word_Put : CC :=
  .seq (.reg [co (some 4) (.assign (.const (.slice none 0 0))) none,
      co (some 5) (.assign (.const (.bool false))) none] [0, 1])
  (.seq (.reg [co (some 12) (.move (.tmp 0)) none,
      co (some 13) (.call { callee := (.value (.func 133)), args := #[(.tmp 12)], argTypes := #[3] }) none,
      co (some 11) (.move (.tmp 13)) none,
      co (some 14) (.extract (.tmp 11) 0) none,
      co (some 15) (.extract (.tmp 11) 1) none,
      co (some 6) (.assign (.tmp 14)) none,
      co (some 7) (.assign (.tmp 15)) none] [0, 1, 6, 7])
  (.seq (.seq (.reg [co (some 16) (.move (.tmp 7)) none,
        co (some 17) (.unOp .not 4 (.tmp 16)) none] [0, 1, 6, 17])
    (.cond (.tmp 17)
      (.seq (.reg [co (some 4) (.assign (.const (.slice none 0 0))) none,
          co (some 5) (.assign (.const (.bool false))) none] [4, 5])
      (.ret))
      (.skip)))
  (.keep [0, 1, 6] (.seq (.reg [co (some 18) (.move (.tmp 0)) none,
      co (some 19) (.move (.tmp 1)) none,
      co (some 20) (.call { callee := (.builtin .len), args := #[(.tmp 19)], argTypes := #[22] }) none,
      co (some 21) (.call { callee := (.value (.func 130)), args := #[(.tmp 18), (.tmp 20)], argTypes := #[3, 3] }) none,
      cn (some 22) (.makeSlice 22 (.tmp 21) (.tmp 21)) none [0],
      co (some 8) (.assign (.tmp 22)) none] [0, 1, 6, 8])
  (.seq (.seq (.reg [co (some 23) (.move (.tmp 1)) none,
        co (some 24) (.call { callee := (.builtin .len), args := #[(.tmp 23)], argTypes := #[22] }) none,
        co (some 25) (.move (.const (.int .i64 0))) none] [0, 6, 8, 23, 24, 25])
    (.block 0
      (.loop l1_word_Put)))
  (.keep [8] (.seq (.reg [co (some 52) (.move (.tmp 8)) none,
      co (some 4) (.assign (.tmp 52)) none,
      co (some 5) (.assign (.const (.bool true))) none] [4, 5])
  (.ret))))))))
theorem t_word_Put : Txt Tryz.prog 99 53 [(.tmp 4), (.tmp 5)] c_word_Put := txt_of (code := Tryz.f99.body.getD .ret) mixed (by kernel_rfl) Tryz.func99 (by kernel_rfl) Tryz.ntmps99 (by kernel_rfl) (ls := [([0, 1], []), ([], []), ([0, 1, 6, 7], []), ([], []), ([0, 1, 6, 17], []), ([], []), ([4, 5], []), ([], []), ([999999, 0, 1, 6], []), ([0, 1, 6, 8], [(4, [0])]), ([], []), ([0, 6, 8, 23, 24, 25], []), ([], []), ([0, 6, 8, 23, 24, 25, 26], []), ([], []), ([999999, 0, 6, 8, 23, 24, 25], []), ([0, 6, 8, 9, 10, 23, 24, 25], []), ([], []), ([0, 6, 8, 9, 10, 23, 24, 25, 33], []), ([], []), ([4, 5], []), ([], []), ([999999, 0, 6, 8, 9, 10, 23, 24, 25], []), ([0, 6, 8, 9, 10, 23, 24, 25, 35], []), ([], []), ([0, 6, 8, 23, 24, 25], []), ([999999, 0, 6, 8, 23, 24, 25], []), ([0, 6, 8, 23, 24, 25], []), ([999999, 8], []), ([4, 5], []), ([], [])]) (by kernel_rfl)
/-- cento/tree.List -/
def c_tree_List : CC :=
  .seq (.reg [co (some 2) (.assign (.const (.bool false))) none] [0])
  (.seq (.reg [co (some 3) (.move (.tmp 0)) none,
      co (some 4) (.binOp .geq 3 (.tmp 3) (.const (.int .i64 2)) 3) none,
      co (some 5) (.move (.tmp 4)) none,
      co (some 6) (.move (.tmp 0)) (some (5, true)),
      co (some 7) (.binOp .leq 3 (.tmp 6) (.const (.int .i64 9)) 3) (some (5, true)),
      co (some 8) (.pick (.tmp 5) (.tmp 7) (.const (.bool false))) none,
      co (some 2) (.assign (.tmp 8)) none] [2])
  (.ret))
theorem t_tree_List : Txt Tryz.prog 91 9 [(.tmp 2)] c_tree_List := txt_of (code := Tryz.f91.body.getD .ret) mixed (by kernel_rfl) Tryz.func91 (by kernel_rfl) Tryz.ntmps91 (by kernel_rfl) (ls := [([0], []), ([], []), ([2], []), ([], [])]) (by kernel_rfl)
/-- cento/tree.kid -/
def c_tree_kid : CC :=
  .seq (.reg [cn (some 3) (.box 25 (.tmp 1)) none [0],
      co (some 4) (.assign (.const (.bool false))) none] [0, 3])
  (.seq (.block 0
      (.seq (.reg [co (some 6) (.move (.tmp 0)) none,
          co (some 7) (.call { callee := (.value (.func 105)), args := #[(.tmp 6)], argTypes := #[3] }) none,
          co (some 5) (.assign (.tmp 7)) none] [0, 3, 5])
      (.cond (.tmp 5)
        (.seq (.reg [co (some 8) (.fieldAddr 25 (.tmp 3) 0) none,
            co (some 9) (.load 3 (.tmp 8)) none,
            co (some 10) (.binOp .eql 3 (.tmp 9) (.const (.int .i64 10)) 3) none,
            co (some 11) (.move (.tmp 10)) none,
            co (some 12) (.fieldAddr 25 (.tmp 3) 2) (some (11, true)),
            co (some 13) (.load 23 (.tmp 12)) (some (11, true)),
            co (some 14) (.call { callee := (.builtin .len), args := #[(.tmp 13)], argTypes := #[23] }) (some (11, true)),
            co (some 15) (.binOp .eql 3 (.tmp 14) (.const (.int .i64 0)) 3) (some (11, true)),
            co (some 16) (.pick (.tmp 11) (.tmp 15) (.const (.bool false))) none,
            co (some 17) (.move (.tmp 16)) none,
            co (some 18) (.fieldAddr 25 (.tmp 3) 1) (some (17, true)),
            co (some 19) (.load 22 (.tmp 18)) (some (17, true)),
            co (some 20) (.call { callee := (.builtin .len), args := #[(.tmp 19)], argTypes := #[22] }) (some (17, true)),
            co (some 21) (.binOp .eql 3 (.tmp 20) (.const (.int .i64 1)) 3) (some (17, true)),
            co (some 22) (.pick (.tmp 17) (.tmp 21) (.const (.bool false))) none,
            co (some 23) (.move (.tmp 22)) none,
            co (some 24) (.move (.tmp 0)) (some (23, true)),
            co (some 25) (.binOp .sub 3 (.tmp 24) (.const (.int .i64 2)) 3) (some (23, true)),
            co (some 26) (.fieldAddr 25 (.tmp 3) 1) (some (23, true)),
            co (some 27) (.load 22 (.tmp 26)) (some (23, true)),
            co (some 28) (.indexAddr 22 (.tmp 27) (.const (.int .i64 0))) (some (23, true)),
            co (some 29) (.load 60 (.tmp 28)) (some (23, true)),
            co (some 30) (.call { callee := (.value (.func 134)), args := #[(.tmp 25), (.tmp 29)], argTypes := #[3, 60] }) (some (23, true)),
            co (some 31) (.pick (.tmp 23) (.tmp 30) (.const (.bool false))) none,
            co (some 4) (.assign (.tmp 31)) none] [4])
        (.ret))
        (.seq (.reg [co (some 33) (.move (.tmp 0)) none,
            co (some 34) (.binOp .eql 3 (.tmp 33) (.const (.int .i64 9)) 3) none,
            co (some 32) (.assign (.tmp 34)) none] [3, 32])
        (.cond (.tmp 32)
          (.seq (.reg [co (some 35) (.fieldAddr 25 (.tmp 3) 0) none,
              co (some 36) (.load 3 (.tmp 35)) none,
              co (some 37) (.binOp .eql 3 (.tmp 36) (.const (.int .i64 1)) 3) none,
              co (some 4) (.assign (.tmp 37)) none] [4])
          (.ret))
          (.skip))))))
  (.keep [3] (.seq (.reg [co (some 38) (.fieldAddr 25 (.tmp 3) 0) none,
      co (some 39) (.load 3 (.tmp 38)) none,
      co (some 40) (.binOp .neq 3 (.tmp 39) (.const (.int .i64 10)) 3) none,
      co (some 4) (.assign (.tmp 40)) none] [4])
  (.ret))))
theorem t_tree_kid : Txt Tryz.prog 129 41 [(.tmp 4)] c_tree_kid := txt_of (code := Tryz.f129.body.getD .ret) mixed (by kernel_rfl) Tryz.func129 (by kernel_rfl) Tryz.ntmps129 (by kernel_rfl) (ls := [([0, 3], [(0, [0])]), ([], []), ([0, 3, 5], []), ([], []), ([4], []), ([], []), ([3, 32], []), ([], []), ([4], []), ([], []), ([999999, 3], []), ([4], []), ([], [])]) (by kernel_rfl)
def k1_tree_right : CC :=
  .seq (.reg [co (some 87) (.move (.tmp 7)) none,
      co (some 88) (.unOp .not 4 (.tmp 87)) none,
      co (some 89) (.move (.tmp 88)) none,
      co (some 90) (.load 25 (.tmp 6)) (some (89, false)),
      co (some 91) (.move (.tmp 1)) (some (89, false)),
      co (some 92) (.binOp .sub 3 (.tmp 91) (.const (.int .i64 1)) 3) (some (89, false)),
      co (some 93) (.call { callee := (.value (.func 93)), args := #[(.tmp 90), (.tmp 92)], argTypes := #[25, 3] }) (some (89, false)),
      co (some 94) (.unOp .not 4 (.tmp 93)) (some (89, false)),
      co (some 95) (.pick (.tmp 89) (.const (.bool true)) (.tmp 94)) none] [1, 2, 71, 72, 73, 95])
  (.cond (.tmp 95)
    (.seq (.reg [co (some 4) (.assign (.const (.bool false))) none] [4])
    (.ret))
    (.skip))
def l1_tree_right : CC :=
  .seq (.reg [co (some 74) (.binOp .lss 3 (.tmp 73) (.tmp 72) 3) none] [1, 2, 71, 72, 73, 74])
  (.seq (.cond (.tmp 74)
      (.skip)
      (.exit 1))
  (.keep [1, 2, 71, 72, 73] (.seq (.block 2
      (.seq (.reg [co (some 75) (.indexAddr 23 (.tmp 71) (.tmp 73)) none,
          co (some 76) (.load 25 (.tmp 75)) none,
          cn (some 6) (.alloc 25) none [1],
          co none (.store 25 (.tmp 6) (.tmp 76)) none] [1, 2, 6, 71, 72, 73])
      (.seq (.reg [co (some 77) (.fieldAddr 25 (.tmp 6) 0) none,
          co (some 78) (.load 3 (.tmp 77)) none,
          co (some 79) (.binOp .neq 3 (.tmp 78) (.const (.int .i64 10)) 3) none,
          co (some 7) (.assign (.tmp 79)) none] [1, 2, 6, 7, 71, 72, 73])
      (.seq (.seq (.reg [co (some 80) (.fieldAddr 25 (.tmp 2) 0) none,
            co (some 81) (.load 3 (.tmp 80)) none,
            co (some 82) (.binOp .neq 3 (.tmp 81) (.const (.int .i64 1)) 3) none] [1, 2, 6, 7, 71, 72, 73, 82])
        (.cond (.tmp 82)
          (.reg [co (some 83) (.fieldAddr 25 (.tmp 2) 0) none,
            co (some 84) (.load 3 (.tmp 83)) none,
            co (some 85) (.load 25 (.tmp 6)) none,
            co (some 86) (.call { callee := (.value (.func 129)), args := #[(.tmp 84), (.tmp 85)], argTypes := #[3, 25] }) none,
            co (some 7) (.assign (.tmp 86)) none] [1, 2, 6, 7, 71, 72, 73])
          (.skip)))
      (.keep [1, 2, 6, 7, 71, 72, 73] k1_tree_right)))))
  (.keep [1, 2, 71, 72, 73] (.reg [co (some 96) (.binOp .add 3 (.tmp 73) (.const (.int .i64 1)) 3) none,
    co (some 73) (.move (.tmp 96)) none] [1, 2, 71, 72, 73])))))
def k2_tree_right : CC :=
  .seq (.seq (.reg [co (some 70) (.fieldAddr 25 (.tmp 2) 2) none,
        co (some 71) (.load 23 (.tmp 70)) none,
        co (some 72) (.call { callee := (.builtin .len), args := #[(.tmp 71)], argTypes := #[23] }) none,
        co (some 73) (.move (.const (.int .i64 0))) none] [1, 2, 71, 72, 73])
    (.block 1
      (.loop l1_tree_right)))
  (.keep [] (.seq (.reg [co (some 4) (.assign (.const (.bool true))) none] [4])
  (.ret)))
/-- cento/tree.right -/
def c_tree_right : CC :=
  .seq (.reg [cn (some 2) (.box 25 (.tmp 0)) none [0],
      co (some 4) (.assign (.const (.bool false))) none] [1, 2])
  (.seq (.block 0
      (.seq (.reg [co (some 9) (.fieldAddr 25 (.tmp 2) 0) none,
          co (some 10) (.load 3 (.tmp 9)) none,
          co (some 11) (.binOp .eql 3 (.tmp 10) (.const (.int .i64 0)) 3) none,
          co (some 8) (.assign (.tmp 11)) none] [1, 2, 8])
      (.cond (.tmp 8)
        (.seq (.reg [co (some 12) (.fieldAddr 25 (.tmp 2) 1) none,
            co (some 13) (.load 22 (.tmp 12)) none,
            co (some 14) (.call { callee := (.builtin .len), args := #[(.tmp 13)], argTypes := #[22] }) none,
            co (some 15) (.binOp .eql 3 (.tmp 14) (.const (.int .i64 0)) 3) none,
            co (some 16) (.move (.tmp 15)) none,
            co (some 17) (.fieldAddr 25 (.tmp 2) 2) (some (16, true)),
            co (some 18) (.load 23 (.tmp 17)) (some (16, true)),
            co (some 19) (.call { callee := (.builtin .len), args := #[(.tmp 18)], argTypes := #[23] }) (some (16, true)),
            co (some 20) (.binOp .eql 3 (.tmp 19) (.const (.int .i64 0)) 3) (some (16, true)),
            co (some 21) (.pick (.tmp 16) (.tmp 20) (.const (.bool false))) none,
            co (some 4) (.assign (.tmp 21)) none] [4])
        (.ret))
        (.seq (.reg [co (some 23) (.fieldAddr 25 (.tmp 2) 0) none,
            co (some 24) (.load 3 (.tmp 23)) none,
            co (some 25) (.binOp .eql 3 (.tmp 24) (.const (.int .i64 10)) 3) none,
            co (some 22) (.assign (.tmp 25)) none] [1, 2, 22])
        (.cond (.tmp 22)
          (.seq (.reg [co (some 26) (.fieldAddr 25 (.tmp 2) 1) none,
              co (some 27) (.load 22 (.tmp 26)) none,
              co (some 28) (.call { callee := (.builtin .len), args := #[(.tmp 27)], argTypes := #[22] }) none,
              co (some 29) (.binOp .eql 3 (.tmp 28) (.const (.int .i64 1)) 3) none,
              co (some 30) (.move (.tmp 29)) none,
              co (some 31) (.fieldAddr 25 (.tmp 2) 2) (some (30, true)),
              co (some 32) (.load 23 (.tmp 31)) (some (30, true)),
              co (some 33) (.call { callee := (.builtin .len), args := #[(.tmp 32)], argTypes := #[23] }) (some (30, true)),
              co (some 34) (.binOp .eql 3 (.tmp 33) (.const (.int .i64 0)) 3) (some (30, true)),
              co (some 35) (.pick (.tmp 30) (.tmp 34) (.const (.bool false))) none,
              co (some 4) (.assign (.tmp 35)) none] [4])
          (.ret))
          (.seq (.reg [co (some 37) (.move (.tmp 1)) none,
              co (some 38) (.binOp .eql 3 (.tmp 37) (.const (.int .i64 0)) 3) none,
              co (some 36) (.assign (.tmp 38)) none] [1, 2, 36])
          (.cond (.tmp 36)
            (.seq (.reg [co (some 4) (.assign (.const (.bool false))) none] [4])
            (.ret))
            (.seq (.reg [co (some 40) (.fieldAddr 25 (.tmp 2) 0) none,
                co (some 41) (.load 3 (.tmp 40)) none,
                co (some 42) (.binOp .eql 3 (.tmp 41) (.const (.int .i64 1)) 3) none,
                co (some 39) (.assign (.tmp 42)) none] [1, 2, 39])
            (.cond (.tmp 39)
              (.seq (.reg [co (some 43) (.fieldAddr 25 (.tmp 2) 1) none,
                  co (some 44) (.load 22 (.tmp 43)) none,
                  co (some 45) (.call { callee := (.builtin .len), args := #[(.tmp 44)], argTypes := #[22] }) none,
                  co (some 46) (.binOp .geq 3 (.tmp 45) (.const (.int .i64 65536)) 3) none,
                  co (some 47) (.move (.tmp 46)) none,
                  co (some 48) (.fieldAddr 25 (.tmp 2) 2) (some (47, false)),
                  co (some 49) (.load 23 (.tmp 48)) (some (47, false)),
                  co (some 50) (.call { callee := (.builtin .len), args := #[(.tmp 49)], argTypes := #[23] }) (some (47, false)),
                  co (some 51) (.binOp .geq 3 (.tmp 50) (.const (.int .i64 65536)) 3) (some (47, false)),
                  co (some 52) (.pick (.tmp 47) (.const (.bool true)) (.tmp 51)) none] [1, 2, 52])
              (.cond (.tmp 52)
                (.seq (.reg [co (some 4) (.assign (.const (.bool false))) none] [4])
                (.ret))
                (.skip)))
              (.seq (.reg [co (some 54) (.fieldAddr 25 (.tmp 2) 0) none,
                  co (some 55) (.load 3 (.tmp 54)) none,
                  co (some 56) (.call { callee := (.value (.func 91)), args := #[(.tmp 55)], argTypes := #[3] }) none,
                  co (some 57) (.unOp .not 4 (.tmp 56)) none,
                  co (some 58) (.move (.tmp 57)) none,
                  co (some 59) (.fieldAddr 25 (.tmp 2) 1) (some (58, false)),
                  co (some 60) (.load 22 (.tmp 59)) (some (58, false)),
                  co (some 61) (.call { callee := (.builtin .len), args := #[(.tmp 60)], argTypes := #[22] }) (some (58, false)),
                  co (some 62) (.binOp .gtr 3 (.tmp 61) (.const (.int .i64 0)) 3) (some (58, false)),
                  co (some 63) (.pick (.tmp 58) (.const (.bool true)) (.tmp 62)) none,
                  co (some 64) (.move (.tmp 63)) none,
                  co (some 65) (.fieldAddr 25 (.tmp 2) 2) (some (64, false)),
                  co (some 66) (.load 23 (.tmp 65)) (some (64, false)),
                  co (some 67) (.call { callee := (.builtin .len), args := #[(.tmp 66)], argTypes := #[23] }) (some (64, false)),
                  co (some 68) (.binOp .geq 3 (.tmp 67) (.const (.int .i64 1048576)) 3) (some (64, false)),
                  co (some 69) (.pick (.tmp 64) (.const (.bool true)) (.tmp 68)) none,
                  co (some 53) (.assign (.tmp 69)) none] [1, 2, 53])
              (.cond (.tmp 53)
                (.seq (.reg [co (some 4) (.assign (.const (.bool false))) none] [4])
                (.ret))
                (.skip))))))))))))
  (.keep [1, 2] k2_tree_right))
theorem t_tree_right : Txt Tryz.prog 93 97 [(.tmp 4)] c_tree_right := txt_of (code := Tryz.f93.body.getD .ret) mixed (by kernel_rfl) Tryz.func93 (by kernel_rfl) Tryz.ntmps93 (by kernel_rfl) (ls := [([1, 2], [(0, [0])]), ([], []), ([1, 2, 8], []), ([], []), ([4], []), ([], []), ([1, 2, 22], []), ([], []), ([4], []), ([], []), ([1, 2, 36], []), ([], []), ([4], []), ([], []), ([1, 2, 39], []), ([], []), ([1, 2, 52], []), ([], []), ([4], []), ([], []), ([1, 2, 53], []), ([], []), ([4], []), ([], []), ([999999, 1, 2], []), ([1, 2, 71, 72, 73], []), ([], []), ([1, 2, 71, 72, 73, 74], []), ([], []), ([999999, 1, 2, 71, 72, 73], []), ([1, 2, 6, 71, 72, 73], [(2, [1])]), ([], []), ([1, 2, 6, 7, 71, 72, 73], []), ([], []), ([1, 2, 6, 7, 71, 72, 73, 82], []), ([], []), ([1, 2, 6, 7, 71, 72, 73], []), ([999999, 1, 2, 6, 7, 71, 72, 73], []), ([1, 2, 71, 72, 73, 95], []), ([], []), ([4], []), ([], []), ([999999, 1, 2, 71, 72, 73], []), ([1, 2, 71, 72, 73], []), ([999999], []), ([4], []), ([], [])]) (by kernel_rfl)
/-- cento/tree.Right -/
def c_tree_Right : CC :=
  .seq (.reg [cn (some 1) (.box 25 (.tmp 0)) none [0],
      co (some 2) (.assign (.const (.bool false))) none] [1])
  (.seq (.reg [co (some 3) (.load 25 (.tmp 1)) none,
      co (some 4) (.call { callee := (.value (.func 93)), args := #[(.tmp 3), (.const (.int .i64 64))], argTypes := #[25, 3] }) none,
      co (some 2) (.assign (.tmp 4)) none] [2])
  (.ret))
theorem t_tree_Right : Txt Tryz.prog 58 5 [(.tmp 2)] c_tree_Right := txt_of (code := Tryz.f58.body.getD .ret) mixed (by kernel_rfl) Tryz.func58 (by kernel_rfl) Tryz.ntmps58 (by kernel_rfl) (ls := [([1], [(0, [0])]), ([], []), ([2], []), ([], [])]) (by kernel_rfl)
/-- cento/edit.bare$1 -/
def c_edit_bare_1 : CC :=
  .seq (.reg [cn (some 1) (.box 25 (.tmp 0)) none [0],
      co (some 2) (.assign (.const (.bool false))) none] [1])
  (.seq (.reg [co (some 3) (.fieldAddr 25 (.tmp 1) 0) none,
      co (some 4) (.load 3 (.tmp 3)) none,
      co (some 5) (.binOp .eql 3 (.tmp 4) (.const (.int .i64 0)) 3) none,
      co (some 6) (.move (.tmp 5)) none,
      co (some 7) (.fieldAddr 25 (.tmp 1) 1) (some (6, true)),
      co (some 8) (.load 22 (.tmp 7)) (some (6, true)),
      co (some 9) (.call { callee := (.builtin .len), args := #[(.tmp 8)], argTypes := #[22] }) (some (6, true)),
      co (some 10) (.fieldAddr 25 (.tmp 1) 2) (some (6, true)),
      co (some 11) (.load 23 (.tmp 10)) (some (6, true)),
      co (some 12) (.call { callee := (.builtin .len), args := #[(.tmp 11)], argTypes := #[23] }) (some (6, true)),
      co (some 13) (.binOp .add 3 (.tmp 9) (.tmp 12) 3) (some (6, true)),
      co (some 14) (.binOp .eql 3 (.tmp 13) (.const (.int .i64 0)) 3) (some (6, true)),
      co (some 15) (.pick (.tmp 6) (.tmp 14) (.const (.bool false))) none,
      co (some 2) (.assign (.tmp 15)) none] [2])
  (.ret))
theorem t_edit_bare_1 : Txt Tryz.prog 125 16 [(.tmp 2)] c_edit_bare_1 := txt_of (code := Tryz.f125.body.getD .ret) mixed (by kernel_rfl) Tryz.func125 (by kernel_rfl) Tryz.ntmps125 (by kernel_rfl) (ls := [([1], [(0, [0])]), ([], []), ([2], []), ([], [])]) (by kernel_rfl)
/-- cento/edit.bare -/
def c_edit_bare : CC :=
  .seq (.reg [cn (some 1) (.box 30 (.tmp 0)) none [0],
      co (some 2) (.assign (.const (.bool false))) none] [1])
  (.seq (.reg [co (some 3) (.assign (.func 125)) none] [1, 3])
  (.seq (.block 0
      (.seq (.reg [co (some 5) (.fieldAddr 30 (.tmp 1) 0) none,
          co (some 6) (.load 3 (.tmp 5)) none,
          co (some 7) (.binOp .neq 3 (.tmp 6) (.const (.int .i64 1)) 3) none,
          co (some 8) (.move (.tmp 7)) none,
          co (some 9) (.move (.tmp 3)) (some (8, true)),
          co (some 10) (.fieldAddr 30 (.tmp 1) 1) (some (8, true)),
          co (some 11) (.load 25 (.tmp 10)) (some (8, true)),
          co (some 12) (.call { callee := (.value (.tmp 9)), args := #[(.tmp 11)], argTypes := #[25] }) (some (8, true)),
          co (some 13) (.move (.tmp 12)) (some (8, true)),
          co (some 14) (.move (.tmp 3)) (some (13, true)),
          co (some 15) (.fieldAddr 30 (.tmp 1) 2) (some (13, true)),
          co (some 16) (.load 25 (.tmp 15)) (some (13, true)),
          co (some 17) (.call { callee := (.value (.tmp 14)), args := #[(.tmp 16)], argTypes := #[25] }) (some (13, true)),
          co (some 18) (.pick (.tmp 13) (.tmp 17) (.const (.bool false))) (some (8, true)),
          co (some 19) (.unOp .not 4 (.tmp 18)) (some (8, true)),
          co (some 20) (.pick (.tmp 8) (.tmp 19) (.const (.bool false))) none,
          co (some 4) (.assign (.tmp 20)) none] [1, 4])
      (.cond (.tmp 4)
        (.seq (.reg [co (some 2) (.assign (.const (.bool false))) none] [2])
        (.ret))
        (.seq (.reg [co (some 22) (.fieldAddr 30 (.tmp 1) 0) none,
            co (some 23) (.load 3 (.tmp 22)) none,
            co (some 24) (.binOp .neq 3 (.tmp 23) (.const (.int .i64 2)) 3) none,
            co (some 25) (.move (.tmp 24)) none,
            co (some 26) (.fieldAddr 30 (.tmp 1) 3) (some (25, true)),
            co (some 27) (.load 26 (.tmp 26)) (some (25, true)),
            co (some 28) (.call { callee := (.builtin .len), args := #[(.tmp 27)], argTypes := #[26] }) (some (25, true)),
            co (some 29) (.fieldAddr 30 (.tmp 1) 4) (some (25, true)),
            co (some 30) (.load 27 (.tmp 29)) (some (25, true)),
            co (some 31) (.call { callee := (.builtin .len), args := #[(.tmp 30)], argTypes := #[27] }) (some (25, true)),
            co (some 32) (.binOp .add 3 (.tmp 28) (.tmp 31) 3) (some (25, true)),
            co (some 33) (.binOp .gtr 3 (.tmp 32) (.const (.int .i64 0)) 3) (some (25, true)),
            co (some 34) (.pick (.tmp 25) (.tmp 33) (.const (.bool false))) none,
            co (some 21) (.assign (.tmp 34)) none] [1, 21])
        (.cond (.tmp 21)
          (.seq (.reg [co (some 2) (.assign (.const (.bool false))) none] [2])
          (.ret))
          (.skip))))))
  (.keep [1] (.seq (.reg [co (some 35) (.fieldAddr 30 (.tmp 1) 0) none,
      co (some 36) (.load 3 (.tmp 35)) none,
      co (some 37) (.binOp .eql 3 (.tmp 36) (.const (.int .i64 3)) 3) none,
      co (some 38) (.move (.tmp 37)) none,
      co (some 39) (.fieldAddr 30 (.tmp 1) 5) (some (38, false)),
      co (some 40) (.load 3 (.tmp 39)) (some (38, false)),
      co (some 41) (.binOp .eql 3 (.tmp 40) (.const (.int .i64 0)) 3) (some (38, false)),
      co (some 42) (.move (.tmp 41)) (some (38, false)),
      co (some 43) (.fieldAddr 30 (.tmp 1) 6) (some (42, true)),
      co (some 44) (.load 28 (.tmp 43)) (some (42, true)),
      co (some 45) (.call { callee := (.builtin .len), args := #[(.tmp 44)], argTypes := #[28] }) (some (42, true)),
      co (some 46) (.binOp .eql 3 (.tmp 45) (.const (.int .i64 0)) 3) (some (42, true)),
      co (some 47) (.pick (.tmp 42) (.tmp 46) (.const (.bool false))) (some (38, false)),
      co (some 48) (.pick (.tmp 38) (.const (.bool true)) (.tmp 47)) none,
      co (some 2) (.assign (.tmp 48)) none] [2])
  (.ret)))))
theorem t_edit_bare : Txt Tryz.prog 87 49 [(.tmp 2)] c_edit_bare := txt_of (code := Tryz.f87.body.getD .ret) mixed (by kernel_rfl) Tryz.func87 (by kernel_rfl) Tryz.ntmps87 (by kernel_rfl) (ls := [([1], [(0, [0])]), ([], []), ([1, 3], []), ([], []), ([1, 4], []), ([], []), ([2], []), ([], []), ([1, 21], []), ([], []), ([2], []), ([], []), ([999999, 1], []), ([2], []), ([], [])]) (by kernel_rfl)
/-- cento/edit.value -/
def c_edit_value : CC :=
  .seq (.reg [cn (some 1) (.box 25 (.tmp 0)) none [0],
      co (some 2) (.assign (.const (.bool false))) none] [1])
  (.seq (.reg [co (some 3) (.fieldAddr 25 (.tmp 1) 0) none,
      co (some 4) (.load 3 (.tmp 3)) none,
      co (some 5) (.binOp .neq 3 (.tmp 4) (.const (.int .i64 10)) 3) none,
      co (some 6) (.move (.tmp 5)) none,
      co (some 7) (.load 25 (.tmp 1)) (some (6, true)),
      co (some 8) (.call { callee := (.value (.func 58)), args := #[(.tmp 7)], argTypes := #[25] }) (some (6, true)),
      co (some 9) (.pick (.tmp 6) (.tmp 8) (.const (.bool false))) none,
      co (some 2) (.assign (.tmp 9)) none] [2])
  (.ret))
theorem t_edit_value : Txt Tryz.prog 88 10 [(.tmp 2)] c_edit_value := txt_of (code := Tryz.f88.body.getD .ret) mixed (by kernel_rfl) Tryz.func88 (by kernel_rfl) Tryz.ntmps88 (by kernel_rfl) (ls := [([1], [(0, [0])]), ([], []), ([2], []), ([], [])]) (by kernel_rfl)
def k1_edit_words : CC :=
  .seq (.reg [co (some 40) (.fieldAddr 63 (.tmp 4) 2) none,
      co (some 41) (.load 60 (.tmp 40)) none,
      co (some 42) (.fieldAddr 63 (.tmp 4) 1) none,
      co (some 43) (.load 5 (.tmp 42)) none,
      co (some 44) (.call { callee := (.value (.func 126)), args := #[(.tmp 41), (.const (.int .u64 0)), (.tmp 43)], argTypes := #[60, 60, 5] }) none,
      co (some 45) (.binOp .neq 60 (.tmp 44) (.const (.int .u64 0)) 60) none,
      co (some 46) (.move (.tmp 45)) none,
      co (some 47) (.fieldAddr 63 (.tmp 4) 3) (some (46, false)),
      co (some 48) (.load 60 (.tmp 47)) (some (46, false)),
      co (some 49) (.fieldAddr 63 (.tmp 4) 1) (some (46, false)),
      co (some 50) (.load 5 (.tmp 49)) (some (46, false)),
      co (some 51) (.call { callee := (.value (.func 126)), args := #[(.tmp 48), (.const (.int .u64 0)), (.tmp 50)], argTypes := #[60, 60, 5] }) (some (46, false)),
      co (some 52) (.binOp .neq 60 (.tmp 51) (.const (.int .u64 0)) 60) (some (46, false)),
      co (some 53) (.pick (.tmp 46) (.const (.bool true)) (.tmp 52)) none] [0, 5, 6, 7, 53])
  (.cond (.tmp 53)
    (.seq (.reg [co (some 2) (.assign (.const (.bool false))) none] [2])
    (.ret))
    (.skip))
def l1_edit_words : CC :=
  .seq (.reg [co (some 8) (.binOp .lss 3 (.tmp 7) (.tmp 6) 3) none] [0, 5, 6, 7, 8])
  (.seq (.cond (.tmp 8)
      (.skip)
      (.exit 0))
  (.keep [0, 5, 6, 7] (.seq (.block 1
      (.seq (.reg [co (some 9) (.move (.tmp 7)) none,
          co (some 10) (.indexAddr 26 (.tmp 5) (.tmp 7)) none,
          co (some 11) (.load 63 (.tmp 10)) none,
          cn (some 4) (.alloc 63) none [0],
          co (some 3) (.assign (.tmp 9)) none,
          co none (.store 63 (.tmp 4) (.tmp 11)) none] [0, 3, 4, 5, 6, 7])
      (.seq (.seq (.reg [co (some 12) (.fieldAddr 63 (.tmp 4) 0) none,
            co (some 13) (.load 3 (.tmp 12)) none,
            co (some 14) (.binOp .lss 3 (.tmp 13) (.const (.int .i64 0)) 3) none,
            co (some 15) (.move (.tmp 14)) none,
            co (some 16) (.fieldAddr 63 (.tmp 4) 0) (some (15, false)),
            co (some 17) (.load 3 (.tmp 16)) (some (15, false)),
            co (some 18) (.binOp .geq 3 (.tmp 17) (.const (.int .i64 65535)) 3) (some (15, false)),
            co (some 19) (.pick (.tmp 15) (.const (.bool true)) (.tmp 18)) none,
            co (some 20) (.move (.tmp 19)) none,
            co (some 21) (.move (.tmp 3)) (some (20, false)),
            co (some 22) (.binOp .gtr 3 (.tmp 21) (.const (.int .i64 0)) 3) (some (20, false)),
            co (some 23) (.move (.tmp 22)) (some (20, false)),
            co (some 24) (.move (.tmp 0)) (some (23, true)),
            co (some 25) (.move (.tmp 3)) (some (23, true)),
            co (some 26) (.binOp .sub 3 (.tmp 25) (.const (.int .i64 1)) 3) (some (23, true)),
            co (some 27) (.indexAddr 26 (.tmp 24) (.tmp 26)) (some (23, true)),
            co (some 28) (.fieldAddr 63 (.tmp 27) 0) (some (23, true)),
            co (some 29) (.load 3 (.tmp 28)) (some (23, true)),
            co (some 30) (.fieldAddr 63 (.tmp 4) 0) (some (23, true)),
            co (some 31) (.load 3 (.tmp 30)) (some (23, true)),
            co (some 32) (.binOp .geq 3 (.tmp 29) (.tmp 31) 3) (some (23, true)),
            co (some 33) (.pick (.tmp 23) (.tmp 32) (.const (.bool false))) (some (20, false)),
            co (some 34) (.pick (.tmp 20) (.const (.bool true)) (.tmp 33)) none,
            co (some 35) (.move (.tmp 34)) none,
            co (some 36) (.fieldAddr 63 (.tmp 4) 1) (some (35, false)),
            co (some 37) (.load 5 (.tmp 36)) (some (35, false)),
            co (some 38) (.binOp .eql 5 (.tmp 37) (.const (.int .u8 0)) 5) (some (35, false)),
            co (some 39) (.pick (.tmp 35) (.const (.bool true)) (.tmp 38)) none] [0, 4, 5, 6, 7, 39])
        (.cond (.tmp 39)
          (.seq (.reg [co (some 2) (.assign (.const (.bool false))) none] [2])
          (.ret))
          (.skip)))
      (.keep [0, 4, 5, 6, 7] (.stop k1_edit_words)))))
  (.keep [0, 5, 6, 7] (.reg [co (some 54) (.binOp .add 3 (.tmp 7) (.const (.int .i64 1)) 3) none,
    co (some 7) (.move (.tmp 54)) none] [0, 5, 6, 7])))))
/-- cento/edit.words -/
def c_edit_words : CC :=
  .seq (.reg [co (some 2) (.assign (.const (.bool false))) none] [0])
  (.seq (.seq (.reg [co (some 5) (.move (.tmp 0)) none,
        co (some 6) (.call { callee := (.builtin .len), args := #[(.tmp 5)], argTypes := #[26] }) none,
        co (some 7) (.move (.const (.int .i64 0))) none] [0, 5, 6, 7])
    (.block 0
      (.loop l1_edit_words)))
  (.keep [] (.seq (.reg [co (some 2) (.assign (.const (.bool true))) none] [2])
  (.ret))))
theorem t_edit_words : Txt Tryz.prog 89 55 [(.tmp 2)] c_edit_words := txt_of (code := Tryz.f89.body.getD .ret) mixed (by kernel_rfl) Tryz.func89 (by kernel_rfl) Tryz.ntmps89 (by kernel_rfl) (ls := [([0], []), ([], []), ([0, 5, 6, 7], []), ([], []), ([0, 5, 6, 7, 8], []), ([], []), ([999999, 0, 5, 6, 7], []), ([0, 3, 4, 5, 6, 7], [(3, [0])]), ([], []), ([0, 4, 5, 6, 7, 39], []), ([], []), ([2], []), ([], []), ([999997, 0, 4, 5, 6, 7], []), ([0, 5, 6, 7, 53], []), ([], []), ([2], []), ([], []), ([999999, 0, 5, 6, 7], []), ([0, 5, 6, 7], []), ([999999], []), ([2], []), ([], [])]) (by kernel_rfl)
def l1_edit_kids : CC :=
  .seq (.reg [co (some 10) (.binOp .lss 3 (.tmp 9) (.tmp 8) 3) none] [0, 1, 7, 8, 9, 10])
  (.seq (.cond (.tmp 10)
      (.skip)
      (.exit 0))
  (.keep [0, 1, 7, 8, 9] (.seq (.block 1
      (.seq (.reg [co (some 11) (.move (.tmp 9)) none,
          co (some 12) (.indexAddr 27 (.tmp 7) (.tmp 9)) none,
          co (some 13) (.load 66 (.tmp 12)) none,
          cn (some 6) (.alloc 66) none [0],
          co (some 5) (.assign (.tmp 11)) none,
          co none (.store 66 (.tmp 6) (.tmp 13)) none] [0, 1, 5, 6, 7, 8, 9])
      (.seq (.reg [co (some 14) (.fieldAddr 66 (.tmp 6) 0) none,
          co (some 15) (.load 3 (.tmp 14)) none,
          co (some 16) (.binOp .lss 3 (.tmp 15) (.const (.int .i64 0)) 3) none,
          co (some 17) (.move (.tmp 16)) none,
          co (some 18) (.fieldAddr 66 (.tmp 6) 0) (some (17, false)),
          co (some 19) (.load 3 (.tmp 18)) (some (17, false)),
          co (some 20) (.binOp .geq 3 (.tmp 19) (.const (.int .i64 65535)) 3) (some (17, false)),
          co (some 21) (.pick (.tmp 17) (.const (.bool true)) (.tmp 20)) none,
          co (some 22) (.move (.tmp 21)) none,
          co (some 23) (.move (.tmp 5)) (some (22, false)),
          co (some 24) (.binOp .gtr 3 (.tmp 23) (.const (.int .i64 0)) 3) (some (22, false)),
          co (some 25) (.move (.tmp 24)) (some (22, false)),
          co (some 26) (.move (.tmp 0)) (some (25, true)),
          co (some 27) (.move (.tmp 5)) (some (25, true)),
          co (some 28) (.binOp .sub 3 (.tmp 27) (.const (.int .i64 1)) 3) (some (25, true)),
          co (some 29) (.indexAddr 27 (.tmp 26) (.tmp 28)) (some (25, true)),
          co (some 30) (.fieldAddr 66 (.tmp 29) 0) (some (25, true)),
          co (some 31) (.load 3 (.tmp 30)) (some (25, true)),
          co (some 32) (.fieldAddr 66 (.tmp 6) 0) (some (25, true)),
          co (some 33) (.load 3 (.tmp 32)) (some (25, true)),
          co (some 34) (.binOp .geq 3 (.tmp 31) (.tmp 33) 3) (some (25, true)),
          co (some 35) (.pick (.tmp 25) (.tmp 34) (.const (.bool false))) (some (22, false)),
          co (some 36) (.pick (.tmp 22) (.const (.bool true)) (.tmp 35)) none,
          co (some 37) (.move (.tmp 36)) none,
          co (some 38) (.fieldAddr 66 (.tmp 6) 1) (some (37, false)),
          co (some 39) (.fieldAddr 30 (.tmp 38) 0) (some (37, false)),
          co (some 40) (.load 3 (.tmp 39)) (some (37, false)),
          co (some 41) (.binOp .eql 3 (.tmp 40) (.const (.int .i64 0)) 3) (some (37, false)),
          co (some 42) (.pick (.tmp 37) (.const (.bool true)) (.tmp 41)) none,
          co (some 43) (.move (.tmp 42)) none,
          co (some 44) (.fieldAddr 66 (.tmp 6) 1) (some (43, false)),
          co (some 45) (.load 30 (.tmp 44)) (some (43, false)),
          co (some 46) (.move (.tmp 1)) (some (43, false)),
          co (some 47) (.call { callee := (.value (.func 57)), args := #[(.tmp 45), (.tmp 46)], argTypes := #[30, 3] }) (some (43, false)),
          co (some 48) (.unOp .not 4 (.tmp 47)) (some (43, false)),
          co (some 49) (.pick (.tmp 43) (.const (.bool true)) (.tmp 48)) none] [0, 1, 7, 8, 9, 49])
      (.cond (.tmp 49)
        (.seq (.reg [co (some 4) (.assign (.const (.bool false))) none] [4])
        (.ret))
        (.skip)))))
  (.keep [0, 1, 7, 8, 9] (.reg [co (some 50) (.binOp .add 3 (.tmp 9) (.const (.int .i64 1)) 3) none,
    co (some 9) (.move (.tmp 50)) none] [0, 1, 7, 8, 9])))))
/-- cento/edit.kids -/
def c_edit_kids : CC :=
  .seq (.reg [co (some 4) (.assign (.const (.bool false))) none] [0, 1])
  (.seq (.seq (.reg [co (some 7) (.move (.tmp 0)) none,
        co (some 8) (.call { callee := (.builtin .len), args := #[(.tmp 7)], argTypes := #[27] }) none,
        co (some 9) (.move (.const (.int .i64 0))) none] [0, 1, 7, 8, 9])
    (.block 0
      (.loop l1_edit_kids)))
  (.keep [] (.seq (.reg [co (some 4) (.assign (.const (.bool true))) none] [4])
  (.ret))))
theorem t_edit_kids : Txt Tryz.prog 90 51 [(.tmp 4)] c_edit_kids := txt_of (code := Tryz.f90.body.getD .ret) mixed (by kernel_rfl) Tryz.func90 (by kernel_rfl) Tryz.ntmps90 (by kernel_rfl) (ls := [([0, 1], []), ([], []), ([0, 1, 7, 8, 9], []), ([], []), ([0, 1, 7, 8, 9, 10], []), ([], []), ([999999, 0, 1, 7, 8, 9], []), ([0, 1, 5, 6, 7, 8, 9], [(3, [0])]), ([], []), ([0, 1, 7, 8, 9, 49], []), ([], []), ([4], []), ([], []), ([999999, 0, 1, 7, 8, 9], []), ([0, 1, 7, 8, 9], []), ([999999], []), ([4], []), ([], [])]) (by kernel_rfl)
/-- cento/edit.kid -/
def c_edit_kid : CC :=
  .seq (.reg [cn (some 3) (.box 25 (.tmp 1)) none [0],
      co (some 4) (.assign (.const (.bool false))) none] [0, 3])
  (.seq (.reg [co (some 5) (.move (.tmp 0)) none,
      co (some 6) (.load 25 (.tmp 3)) none,
      co (some 7) (.buildSlice 23 1 #[(0, (.tmp 6))]) none,
      co (some 8) (.build 25 #[(0, (.tmp 5)), (2, (.tmp 7))]) none,
      co (some 9) (.call { callee := (.value (.func 58)), args := #[(.tmp 8)], argTypes := #[25] }) none,
      co (some 4) (.assign (.tmp 9)) none] [4])
  (.ret))
theorem t_edit_kid : Txt Tryz.prog 149 10 [(.tmp 4)] c_edit_kid := txt_of (code := Tryz.f149.body.getD .ret) mixed (by kernel_rfl) Tryz.func149 (by kernel_rfl) Tryz.ntmps149 (by kernel_rfl) (ls := [([0, 3], [(0, [0])]), ([], []), ([4], []), ([], [])]) (by kernel_rfl)
/-- cento/edit.within -/
def c_edit_within : CC :=
  .seq (.reg [cn (some 3) (.box 30 (.tmp 1)) none [0],
      co (some 4) (.assign (.const (.bool false))) none] [0, 3])
  (.seq (.block 0
      (.seq (.reg [co (some 6) (.move (.tmp 0)) none,
          co (some 7) (.call { callee := (.value (.func 105)), args := #[(.tmp 6)], argTypes := #[3] }) none,
          co (some 8) (.move (.tmp 7)) none,
          co (some 9) (.fieldAddr 30 (.tmp 3) 0) (some (8, false)),
          co (some 10) (.load 3 (.tmp 9)) (some (8, false)),
          co (some 11) (.binOp .eql 3 (.tmp 10) (.const (.int .i64 0)) 3) (some (8, false)),
          co (some 12) (.pick (.tmp 8) (.const (.bool true)) (.tmp 11)) none,
          co (some 5) (.assign (.tmp 12)) none] [0, 3, 5])
      (.cond (.tmp 5)
        (.seq (.reg [co (some 4) (.assign (.const (.bool false))) none] [4])
        (.ret))
        (.seq (.reg [co (some 14) (.move (.tmp 0)) none,
            co (some 15) (.binOp .eql 3 (.tmp 14) (.const (.int .i64 8)) 3) none,
            co (some 16) (.move (.tmp 15)) none,
            co (some 17) (.fieldAddr 30 (.tmp 3) 0) (some (16, false)),
            co (some 18) (.load 3 (.tmp 17)) (some (16, false)),
            co (some 19) (.binOp .eql 3 (.tmp 18) (.const (.int .i64 2)) 3) (some (16, false)),
            co (some 20) (.pick (.tmp 16) (.const (.bool true)) (.tmp 19)) none,
            co (some 13) (.assign (.tmp 20)) none] [3, 13])
        (.cond (.tmp 13)
          (.seq (.reg [co (some 4) (.assign (.const (.bool true))) none] [4])
          (.ret))
          (.skip))))))
  (.keep [3] (.seq (.reg [co (some 21) (.fieldAddr 30 (.tmp 3) 0) none,
      co (some 22) (.load 3 (.tmp 21)) none,
      co (some 23) (.binOp .eql 3 (.tmp 22) (.const (.int .i64 1)) 3) none,
      co (some 24) (.move (.tmp 23)) none,
      co (some 25) (.fieldAddr 30 (.tmp 3) 1) (some (24, true)),
      co (some 26) (.fieldAddr 25 (.tmp 25) 0) (some (24, true)),
      co (some 27) (.load 3 (.tmp 26)) (some (24, true)),
      co (some 28) (.binOp .eql 3 (.tmp 27) (.const (.int .i64 1)) 3) (some (24, true)),
      co (some 29) (.pick (.tmp 24) (.tmp 28) (.const (.bool false))) none,
      co (some 30) (.move (.tmp 29)) none,
      co (some 31) (.fieldAddr 30 (.tmp 3) 2) (some (30, true)),
      co (some 32) (.fieldAddr 25 (.tmp 31) 0) (some (30, true)),
      co (some 33) (.load 3 (.tmp 32)) (some (30, true)),
      co (some 34) (.binOp .eql 3 (.tmp 33) (.const (.int .i64 1)) 3) (some (30, true)),
      co (some 35) (.pick (.tmp 30) (.tmp 34) (.const (.bool false))) none,
      co (some 4) (.assign (.tmp 35)) none] [4])
  (.ret))))
theorem t_edit_within : Txt Tryz.prog 150 36 [(.tmp 4)] c_edit_within := txt_of (code := Tryz.f150.body.getD .ret) mixed (by kernel_rfl) Tryz.func150 (by kernel_rfl) Tryz.ntmps150 (by kernel_rfl) (ls := [([0, 3], [(0, [0])]), ([], []), ([0, 3, 5], []), ([], []), ([4], []), ([], []), ([3, 13], []), ([], []), ([4], []), ([], []), ([999999, 3], []), ([4], []), ([], [])]) (by kernel_rfl)
/-- cento/edit.op$1 -/
def c_edit_op_1 : CC :=
  .seq (.reg [cn (some 2) (.box 25 (.tmp 0)) none [0],
      co (some 3) (.assign (.const (.bool false))) none] [1, 2])
  (.seq (.reg [co (some 4) (.load 3 (.tmp 1)) none,
      co (some 5) (.load 25 (.tmp 2)) none,
      co (some 6) (.call { callee := (.value (.func 149)), args := #[(.tmp 4), (.tmp 5)], argTypes := #[3, 25] }) none,
      co (some 7) (.unOp .not 4 (.tmp 6)) none,
      co (some 3) (.assign (.tmp 7)) none] [3])
  (.ret))
theorem t_edit_op_1 : Txt Tryz.prog 148 8 [(.tmp 3)] c_edit_op_1 := txt_of (code := Tryz.f148.body.getD .ret) mixed (by kernel_rfl) Tryz.func148 (by kernel_rfl) Tryz.ntmps148 (by kernel_rfl) (ls := [([1, 2], [(0, [0])]), ([], []), ([3], []), ([], [])]) (by kernel_rfl)
def l1_slices_IndexFunc_api_Tree_api_Tree : CC :=
  .seq (.reg [co (some 9) (.binOp .lss 3 (.tmp 8) (.tmp 7) 3) none] [0, 1, 7, 8, 9])
  (.seq (.cond (.tmp 9)
      (.skip)
      (.exit 0))
  (.keep [0, 1, 7, 8] (.seq (.block 1
      (.seq (.reg [co (some 10) (.move (.tmp 8)) none,
          co (some 5) (.assign (.tmp 10)) none] [0, 1, 5, 7, 8])
      (.seq (.reg [co (some 11) (.move (.tmp 1)) none,
          co (some 12) (.move (.tmp 0)) none,
          co (some 13) (.move (.tmp 5)) none,
          co (some 14) (.indexAddr 23 (.tmp 12) (.tmp 13)) none,
          co (some 15) (.load 25 (.tmp 14)) none,
          co (some 16) (.call { callee := (.value (.tmp 11)), args := #[(.tmp 15)], argTypes := #[25] }) none] [0, 1, 5, 7, 8, 16])
      (.cond (.tmp 16)
        (.seq (.reg [co (some 17) (.move (.tmp 5)) none,
            co (some 4) (.assign (.tmp 17)) none] [4])
        (.ret))
        (.skip)))))
  (.keep [0, 1, 7, 8] (.reg [co (some 18) (.binOp .add 3 (.tmp 8) (.const (.int .i64 1)) 3) none,
    co (some 8) (.move (.tmp 18)) none] [0, 1, 7, 8])))))
/-- slices.IndexFunc[[]cento/api.Tree,cento/api.Tree] -/
def c_slices_IndexFunc_api_Tree_api_Tree : CC :=
  .seq (.reg [co (some 4) (.assign (.const (.int .i64 0))) none] [0, 1])
  (.seq (.seq (.reg [co (some 6) (.move (.tmp 0)) none,
        co (some 7) (.call { callee := (.builtin .len), args := #[(.tmp 6)], argTypes := #[23] }) none,
        co (some 8) (.move (.const (.int .i64 0))) none] [0, 1, 7, 8])
    (.block 0
      (.loop l1_slices_IndexFunc_api_Tree_api_Tree)))
  (.keep [] (.seq (.reg [co (some 4) (.assign (.const (.int .i64 (-1)))) none] [4])
  (.ret))))
theorem t_slices_IndexFunc_api_Tree_api_Tree : Txt Tryz.prog 161 19 [(.tmp 4)] c_slices_IndexFunc_api_Tree_api_Tree := txt_of (code := Tryz.f161.body.getD .ret) mixed (by kernel_rfl) Tryz.func161 (by kernel_rfl) Tryz.ntmps161 (by kernel_rfl) (ls := [([0, 1], []), ([], []), ([0, 1, 7, 8], []), ([], []), ([0, 1, 7, 8, 9], []), ([], []), ([999999, 0, 1, 7, 8], []), ([0, 1, 5, 7, 8], []), ([], []), ([0, 1, 5, 7, 8, 16], []), ([], []), ([4], []), ([], []), ([999999, 0, 1, 7, 8], []), ([0, 1, 7, 8], []), ([999999], []), ([4], []), ([], [])]) (by kernel_rfl)
/-- slices.ContainsFunc[[]cento/api.Tree,cento/api.Tree] -/
def c_slices_ContainsFunc_api_Tree_api_Tree : CC :=
  .seq (.reg [co (some 4) (.assign (.const (.bool false))) none] [0, 1])
  (.seq (.reg [co (some 5) (.move (.tmp 0)) none,
      co (some 6) (.move (.tmp 1)) none,
      co (some 7) (.call { callee := (.value (.func 161)), args := #[(.tmp 5), (.tmp 6)], argTypes := #[23, 42] }) none,
      co (some 8) (.binOp .geq 3 (.tmp 7) (.const (.int .i64 0)) 3) none,
      co (some 4) (.assign (.tmp 8)) none] [4])
  (.ret))
theorem t_slices_ContainsFunc_api_Tree_api_Tree : Txt Tryz.prog 147 9 [(.tmp 4)] c_slices_ContainsFunc_api_Tree_api_Tree := txt_of (code := Tryz.f147.body.getD .ret) mixed (by kernel_rfl) Tryz.func147 (by kernel_rfl) Tryz.ntmps147 (by kernel_rfl) (ls := [([0, 1], []), ([], []), ([4], []), ([], [])]) (by kernel_rfl)
def k1_edit_op : CC :=
  .seq (.seq (.reg [co (some 42) (.fieldAddr 69 (.tmp 4) 1) none,
        co (some 43) (.load 3 (.tmp 42)) none,
        co (some 44) (.binOp .eql 3 (.tmp 43) (.const (.int .i64 0)) 3) none,
        co (some 45) (.move (.tmp 44)) none,
        co (some 46) (.fieldAddr 69 (.tmp 4) 2) (some (45, true)),
        co (some 47) (.load 23 (.tmp 46)) (some (45, true)),
        co (some 48) (.call { callee := (.builtin .len), args := #[(.tmp 47)], argTypes := #[23] }) (some (45, true)),
        co (some 49) (.binOp .gtr 3 (.tmp 48) (.const (.int .i64 0)) 3) (some (45, true)),
        co (some 50) (.pick (.tmp 45) (.tmp 49) (.const (.bool false))) none,
        co (some 51) (.move (.tmp 50)) none,
        co (some 52) (.fieldAddr 69 (.tmp 4) 3) (some (51, true)),
        co (some 53) (.load 30 (.tmp 52)) (some (51, true)),
        co (some 54) (.call { callee := (.value (.func 57)), args := #[(.tmp 53), (.const (.int .i64 1))], argTypes := #[30, 3] }) (some (51, true)),
        co (some 55) (.pick (.tmp 51) (.tmp 54) (.const (.bool false))) none,
        co (some 56) (.move (.tmp 55)) none,
        co (some 57) (.fieldAddr 69 (.tmp 4) 3) (some (56, true)),
        co (some 58) (.fieldAddr 30 (.tmp 57) 0) (some (56, true)),
        co (some 59) (.load 3 (.tmp 58)) (some (56, true)),
        co (some 60) (.binOp .eql 3 (.tmp 59) (.const (.int .i64 0)) 3) (some (56, true)),
        co (some 61) (.pick (.tmp 56) (.tmp 60) (.const (.bool false))) none,
        co (some 62) (.move (.tmp 61)) none,
        co (some 63) (.fieldAddr 69 (.tmp 4) 2) (some (62, true)),
        co (some 64) (.load 23 (.tmp 63)) (some (62, true)),
        co (some 65) (.makeFunc (.func 148) #[] #[(.tmp 3)]) (some (62, true)),
        co (some 66) (.call { callee := (.value (.func 147)), args := #[(.tmp 64), (.tmp 65)], argTypes := #[23, 42] }) (some (62, true)),
        co (some 67) (.unOp .not 4 (.tmp 66)) (some (62, true)),
        co (some 68) (.pick (.tmp 62) (.tmp 67) (.const (.bool false))) none,
        co (some 6) (.assign (.tmp 68)) none] [6])
    (.ret))
  (.exit 0)
/-- cento/edit.op -/
def c_edit_op : CC :=
  .seq (.reg [cn (some 3) (.box 3 (.tmp 0)) none [0],
      cn (some 4) (.box 69 (.tmp 1)) none [1],
      co (some 6) (.assign (.const (.bool false))) none] [2, 3, 4])
  (.seq (.seq (.reg [co (some 7) (.fieldAddr 69 (.tmp 4) 0) none,
        co (some 8) (.load 3 (.tmp 7)) none] [2, 3, 4, 8])
    (.block 0
      (.seq (.block 4
          (.seq (.block 3
              (.block 2
                (.seq (.block 1
                    (.seq (.seq (.seq (.reg [co (some 10) (.binOp .eql 3 (.tmp 8) (.const (.int .i64 0)) 3) none,
                            co (some 9) (.assign (.tmp 10)) none] [2, 3, 4, 8, 9])
                        (.cond (.tmp 9)
                          (.exit 1)
                          (.skip)))
                      (.keep [2, 3, 4, 8] (.seq (.seq (.reg [co (some 12) (.binOp .eql 3 (.tmp 8) (.const (.int .i64 1)) 3) none,
                            co (some 11) (.assign (.tmp 12)) none] [2, 3, 4, 8, 11])
                        (.cond (.tmp 11)
                          (.exit 2)
                          (.skip)))
                      (.keep [2, 3, 4, 8] (.seq (.seq (.reg [co (some 14) (.binOp .eql 3 (.tmp 8) (.const (.int .i64 2)) 3) none,
                            co (some 13) (.assign (.tmp 14)) none] [2, 3, 4, 8, 13])
                        (.cond (.tmp 13)
                          (.exit 3)
                          (.skip)))
                      (.keep [2, 3, 4, 8] (.seq (.reg [co (some 16) (.binOp .eql 3 (.tmp 8) (.const (.int .i64 3)) 3) none,
                          co (some 15) (.assign (.tmp 16)) none] [2, 3, 4, 15])
                      (.cond (.tmp 15)
                        (.exit 4)
                        (.skip)))))))))
                    (.exit 0)))
                (.keep [4] (.seq (.seq (.reg [co (some 17) (.fieldAddr 69 (.tmp 4) 1) none,
                      co (some 18) (.load 3 (.tmp 17)) none,
                      co (some 19) (.binOp .geq 3 (.tmp 18) (.const (.int .i64 1)) 3) none,
                      co (some 20) (.move (.tmp 19)) none,
                      co (some 21) (.fieldAddr 69 (.tmp 4) 1) (some (20, true)),
                      co (some 22) (.load 3 (.tmp 21)) (some (20, true)),
                      co (some 23) (.binOp .leq 3 (.tmp 22) (.const (.int .i64 1048576)) 3) (some (20, true)),
                      co (some 24) (.pick (.tmp 20) (.tmp 23) (.const (.bool false))) none,
                      co (some 25) (.move (.tmp 24)) none,
                      co (some 26) (.fieldAddr 69 (.tmp 4) 2) (some (25, true)),
                      co (some 27) (.load 23 (.tmp 26)) (some (25, true)),
                      co (some 28) (.call { callee := (.builtin .len), args := #[(.tmp 27)], argTypes := #[23] }) (some (25, true)),
                      co (some 29) (.binOp .eql 3 (.tmp 28) (.const (.int .i64 0)) 3) (some (25, true)),
                      co (some 30) (.pick (.tmp 25) (.tmp 29) (.const (.bool false))) none,
                      co (some 31) (.move (.tmp 30)) none,
                      co (some 32) (.fieldAddr 69 (.tmp 4) 3) (some (31, true)),
                      co (some 33) (.load 30 (.tmp 32)) (some (31, true)),
                      co (some 34) (.call { callee := (.value (.func 57)), args := #[(.tmp 33), (.const (.int .i64 1))], argTypes := #[30, 3] }) (some (31, true)),
                      co (some 35) (.pick (.tmp 31) (.tmp 34) (.const (.bool false))) none,
                      co (some 36) (.move (.tmp 35)) none,
                      co (some 37) (.fieldAddr 69 (.tmp 4) 3) (some (36, true)),
                      co (some 38) (.fieldAddr 30 (.tmp 37) 0) (some (36, true)),
                      co (some 39) (.load 3 (.tmp 38)) (some (36, true)),
                      co (some 40) (.binOp .eql 3 (.tmp 39) (.const (.int .i64 0)) 3) (some (36, true)),
                      co (some 41) (.pick (.tmp 36) (.tmp 40) (.const (.bool false))) none,
                      co (some 6) (.assign (.tmp 41)) none] [6])
                  (.ret))
                (.exit 0))))))
          (.keep [3, 4] (.stop k1_edit_op))))
      (.keep [2, 3, 4] (.seq (.seq (.reg [co (some 69) (.fieldAddr 69 (.tmp 4) 1) none,
            co (some 70) (.load 3 (.tmp 69)) none,
            co (some 71) (.binOp .eql 3 (.tmp 70) (.const (.int .i64 0)) 3) none,
            co (some 72) (.move (.tmp 71)) none,
            co (some 73) (.fieldAddr 69 (.tmp 4) 2) (some (72, true)),
            co (some 74) (.load 23 (.tmp 73)) (some (72, true)),
            co (some 75) (.call { callee := (.builtin .len), args := #[(.tmp 74)], argTypes := #[23] }) (some (72, true)),
            co (some 76) (.binOp .eql 3 (.tmp 75) (.const (.int .i64 0)) 3) (some (72, true)),
            co (some 77) (.pick (.tmp 72) (.tmp 76) (.const (.bool false))) none,
            co (some 78) (.move (.tmp 77)) none,
            co (some 79) (.load 3 (.tmp 3)) (some (78, true)),
            co (some 80) (.fieldAddr 69 (.tmp 4) 3) (some (78, true)),
            co (some 81) (.load 30 (.tmp 80)) (some (78, true)),
            co (some 82) (.call { callee := (.value (.func 150)), args := #[(.tmp 79), (.tmp 81)], argTypes := #[3, 30] }) (some (78, true)),
            co (some 83) (.pick (.tmp 78) (.tmp 82) (.const (.bool false))) none,
            co (some 84) (.move (.tmp 83)) none,
            co (some 85) (.fieldAddr 69 (.tmp 4) 3) (some (84, true)),
            co (some 86) (.load 30 (.tmp 85)) (some (84, true)),
            co (some 87) (.move (.tmp 2)) (some (84, true)),
            co (some 88) (.call { callee := (.value (.func 57)), args := #[(.tmp 86), (.tmp 87)], argTypes := #[30, 3] }) (some (84, true)),
            co (some 89) (.pick (.tmp 84) (.tmp 88) (.const (.bool false))) none,
            co (some 6) (.assign (.tmp 89)) none] [6])
        (.ret))
      (.exit 0))))))
  (.keep [] (.seq (.reg [co (some 6) (.assign (.const (.bool false))) none] [6])
  (.ret))))
theorem t_edit_op : Txt Tryz.prog 127 90 [(.tmp 6)] c_edit_op := txt_of (code := Tryz.f127.body.getD .ret) mixed (by kernel_rfl) Tryz.func127 (by kernel_rfl) Tryz.ntmps127 (by kernel_rfl) (ls := [([2, 3, 4], [(0, [0]), (1, [1])]), ([], []), ([2, 3, 4, 8], []), ([], []), ([2, 3, 4, 8, 9], []), ([], []), ([999999, 2, 3, 4, 8], []), ([2, 3, 4, 8, 11], []), ([], []), ([999999, 2, 3, 4, 8], []), ([2, 3, 4, 8, 13], []), ([], []), ([999999, 2, 3, 4, 8], []), ([2, 3, 4, 15], []), ([], []), ([], []), ([999999, 4], []), ([6], []), ([], []), ([], []), ([999997, 3, 4], []), ([6], []), ([], []), ([], []), ([999999, 2, 3, 4], []), ([6], []), ([], []), ([], []), ([999999], []), ([6], []), ([], [])]) (by kernel_rfl)
def k1_edit_Lengths : CC :=
  .seq (.reg [co (some 32) (.fieldAddr 69 (.tmp 7) 0) none,
      co (some 33) (.load 3 (.tmp 32)) none,
      co (some 34) (.binOp .neq 3 (.tmp 33) (.const (.int .i64 1)) 3) none] [4, 5, 8, 10, 11, 12, 34])
  (.cond (.tmp 34)
    (.reg [co (some 35) (.move (.tmp 5)) none,
      co (some 36) (.move (.tmp 8)) none,
      co (some 37) (.binOp .add 3 (.tmp 35) (.tmp 36) 3) none,
      co (some 38) (.call { callee := (.builtin .min), args := #[(.tmp 37), (.const (.int .i64 1048576))], argTypes := #[3, 3] }) none,
      co (some 5) (.assign (.tmp 38)) none] [4, 5, 10, 11, 12])
    (.skip))
def k2_edit_Lengths : CC :=
  .seq (.seq (.reg [co (some 25) (.fieldAddr 69 (.tmp 7) 0) none,
        co (some 26) (.load 3 (.tmp 25)) none,
        co (some 27) (.binOp .neq 3 (.tmp 26) (.const (.int .i64 2)) 3) none] [4, 5, 7, 8, 10, 11, 12, 27])
    (.cond (.tmp 27)
      (.reg [co (some 28) (.move (.tmp 4)) none,
        co (some 29) (.move (.tmp 8)) none,
        co (some 30) (.binOp .add 3 (.tmp 28) (.tmp 29) 3) none,
        co (some 31) (.call { callee := (.builtin .min), args := #[(.tmp 30), (.const (.int .i64 1048576))], argTypes := #[3, 3] }) none,
        co (some 4) (.assign (.tmp 31)) none] [4, 5, 7, 8, 10, 11, 12])
      (.skip)))
  (.keep [4, 5, 7, 8, 10, 11, 12] k1_edit_Lengths)
def l1_edit_Lengths : CC :=
  .seq (.reg [co (some 13) (.binOp .lss 3 (.tmp 12) (.tmp 11) 3) none] [4, 5, 10, 11, 12, 13])
  (.seq (.cond (.tmp 13)
      (.skip)
      (.exit 0))
  (.keep [4, 5, 10, 11, 12] (.seq (.block 1
      (.seq (.reg [co (some 14) (.indexAddr 28 (.tmp 10) (.tmp 12)) none,
          co (some 15) (.load 69 (.tmp 14)) none,
          cn (some 7) (.alloc 69) none [1],
          co none (.store 69 (.tmp 7) (.tmp 15)) none] [4, 5, 7, 10, 11, 12])
      (.seq (.reg [co (some 16) (.fieldAddr 69 (.tmp 7) 1) none,
          co (some 17) (.load 3 (.tmp 16)) none,
          co (some 18) (.fieldAddr 69 (.tmp 7) 2) none,
          co (some 19) (.load 23 (.tmp 18)) none,
          co (some 20) (.call { callee := (.builtin .len), args := #[(.tmp 19)], argTypes := #[23] }) none,
          co (some 21) (.binOp .add 3 (.tmp 17) (.tmp 20) 3) none,
          co (some 8) (.assign (.tmp 21)) none] [4, 5, 7, 8, 10, 11, 12])
      (.seq (.seq (.reg [co (some 22) (.fieldAddr 69 (.tmp 7) 0) none,
            co (some 23) (.load 3 (.tmp 22)) none,
            co (some 24) (.binOp .eql 3 (.tmp 23) (.const (.int .i64 3)) 3) none] [4, 5, 7, 8, 10, 11, 12, 24])
        (.cond (.tmp 24)
          (.reg [co (some 8) (.assign (.const (.int .i64 1))) none] [4, 5, 7, 8, 10, 11, 12])
          (.skip)))
      (.keep [4, 5, 7, 8, 10, 11, 12] k2_edit_Lengths)))))
  (.keep [4, 5, 10, 11, 12] (.reg [co (some 39) (.binOp .add 3 (.tmp 12) (.const (.int .i64 1)) 3) none,
    co (some 12) (.move (.tmp 39)) none] [4, 5, 10, 11, 12])))))
/-- cento/edit.Lengths -/
def c_edit_Lengths : CC :=
  .seq (.reg [cn (some 1) (.box 30 (.tmp 0)) none [0],
      co (some 2) (.assign (.const (.int .i64 0))) none,
      co (some 3) (.assign (.const (.int .i64 0))) none] [1])
  (.seq (.reg [co (some 4) (.assign (.const (.int .i64 0))) none,
      co (some 5) (.assign (.const (.int .i64 0))) none] [1, 4, 5])
  (.seq (.seq (.reg [co (some 9) (.fieldAddr 30 (.tmp 1) 6) none,
        co (some 10) (.load 28 (.tmp 9)) none,
        co (some 11) (.call { callee := (.builtin .len), args := #[(.tmp 10)], argTypes := #[28] }) none,
        co (some 12) (.move (.const (.int .i64 0))) none] [4, 5, 10, 11, 12])
    (.block 0
      (.loop l1_edit_Lengths)))
  (.keep [4, 5] (.seq (.reg [co (some 40) (.move (.tmp 4)) none,
      co (some 41) (.move (.tmp 5)) none,
      co (some 2) (.assign (.tmp 40)) none,
      co (some 3) (.assign (.tmp 41)) none] [2, 3])
  (.ret)))))
theorem t_edit_Lengths : Txt Tryz.prog 128 42 [(.tmp 2), (.tmp 3)] c_edit_Lengths := txt_of (code := Tryz.f128.body.getD .ret) mixed (by kernel_rfl) Tryz.func128 (by kernel_rfl) Tryz.ntmps128 (by kernel_rfl) (ls := [([1], [(0, [0])]), ([], []), ([1, 4, 5], []), ([], []), ([4, 5, 10, 11, 12], []), ([], []), ([4, 5, 10, 11, 12, 13], []), ([], []), ([999999, 4, 5, 10, 11, 12], []), ([4, 5, 7, 10, 11, 12], [(2, [1])]), ([], []), ([4, 5, 7, 8, 10, 11, 12], []), ([], []), ([4, 5, 7, 8, 10, 11, 12, 24], []), ([], []), ([4, 5, 7, 8, 10, 11, 12], []), ([999999, 4, 5, 7, 8, 10, 11, 12], []), ([4, 5, 7, 8, 10, 11, 12, 27], []), ([], []), ([4, 5, 7, 8, 10, 11, 12], []), ([999999, 4, 5, 7, 8, 10, 11, 12], []), ([4, 5, 8, 10, 11, 12, 34], []), ([], []), ([4, 5, 10, 11, 12], []), ([999999, 4, 5, 10, 11, 12], []), ([4, 5, 10, 11, 12], []), ([999999, 4, 5], []), ([2, 3], []), ([], [])]) (by kernel_rfl)
def l1_edit_ops : CC :=
  .seq (.reg [co (some 13) (.binOp .lss 3 (.tmp 12) (.tmp 11) 3) none] [1, 2, 10, 11, 12, 13])
  (.seq (.cond (.tmp 13)
      (.skip)
      (.exit 0))
  (.keep [1, 2, 10, 11, 12] (.seq (.block 1
      (.seq (.reg [co (some 14) (.indexAddr 28 (.tmp 10) (.tmp 12)) none,
          co (some 15) (.load 69 (.tmp 14)) none,
          cn (some 6) (.alloc 69) none [1],
          co none (.store 69 (.tmp 6) (.tmp 15)) none] [1, 2, 6, 10, 11, 12])
      (.seq (.reg [co (some 16) (.fieldAddr 30 (.tmp 2) 5) none,
          co (some 17) (.load 3 (.tmp 16)) none,
          co (some 18) (.load 69 (.tmp 6)) none,
          co (some 19) (.move (.tmp 1)) none,
          co (some 20) (.call { callee := (.value (.func 127)), args := #[(.tmp 17), (.tmp 18), (.tmp 19)], argTypes := #[3, 69, 3] }) none,
          co (some 21) (.unOp .not 4 (.tmp 20)) none] [1, 2, 10, 11, 12, 21])
      (.cond (.tmp 21)
        (.seq (.reg [co (some 4) (.assign (.const (.bool false))) none] [4])
        (.ret))
        (.skip)))))
  (.keep [1, 2, 10, 11, 12] (.reg [co (some 22) (.binOp .add 3 (.tmp 12) (.const (.int .i64 1)) 3) none,
    co (some 12) (.move (.tmp 22)) none] [1, 2, 10, 11, 12])))))
/-- cento/edit.ops -/
def c_edit_ops : CC :=
  .seq (.reg [cn (some 2) (.box 30 (.tmp 0)) none [0],
      co (some 4) (.assign (.const (.bool false))) none] [1, 2])
  (.seq (.seq (.reg [co (some 9) (.fieldAddr 30 (.tmp 2) 6) none,
        co (some 10) (.load 28 (.tmp 9)) none,
        co (some 11) (.call { callee := (.builtin .len), args := #[(.tmp 10)], argTypes := #[28] }) none,
        co (some 12) (.move (.const (.int .i64 0))) none] [1, 2, 10, 11, 12])
    (.block 0
      (.loop l1_edit_ops)))
  (.keep [2] (.seq (.reg [co (some 24) (.load 30 (.tmp 2)) none,
      co (some 25) (.call { callee := (.value (.func 128)), args := #[(.tmp 24)], argTypes := #[30] }) none,
      co (some 23) (.move (.tmp 25)) none,
      co (some 26) (.extract (.tmp 23) 0) none,
      co (some 27) (.extract (.tmp 23) 1) none,
      co (some 7) (.assign (.tmp 26)) none,
      co (some 8) (.assign (.tmp 27)) none] [7, 8])
  (.seq (.reg [co (some 28) (.move (.tmp 7)) none,
      co (some 29) (.binOp .lss 3 (.tmp 28) (.const (.int .i64 1048576)) 3) none,
      co (some 30) (.move (.tmp 29)) none,
      co (some 31) (.move (.tmp 8)) (some (30, true)),
      co (some 32) (.binOp .lss 3 (.tmp 31) (.const (.int .i64 1048576)) 3) (some (30, true)),
      co (some 33) (.pick (.tmp 30) (.tmp 32) (.const (.bool false))) none,
      co (some 4) (.assign (.tmp 33)) none] [4])
  (.ret)))))
theorem t_edit_ops : Txt Tryz.prog 92 34 [(.tmp 4)] c_edit_ops := txt_of (code := Tryz.f92.body.getD .ret) mixed (by kernel_rfl) Tryz.func92 (by kernel_rfl) Tryz.ntmps92 (by kernel_rfl) (ls := [([1, 2], [(0, [0])]), ([], []), ([1, 2, 10, 11, 12], []), ([], []), ([1, 2, 10, 11, 12, 13], []), ([], []), ([999999, 1, 2, 10, 11, 12], []), ([1, 2, 6, 10, 11, 12], [(2, [1])]), ([], []), ([1, 2, 10, 11, 12, 21], []), ([], []), ([4], []), ([], []), ([999999, 1, 2, 10, 11, 12], []), ([1, 2, 10, 11, 12], []), ([999999, 2], []), ([7, 8], []), ([], []), ([4], []), ([], [])]) (by kernel_rfl)
/-- cento/edit.right -/
def c_edit_right : CC :=
  .seq (.reg [cn (some 2) (.box 30 (.tmp 0)) none [0],
      co (some 4) (.assign (.const (.bool false))) none] [1, 2])
  (.seq (.seq (.reg [co (some 5) (.load 30 (.tmp 2)) none,
        co (some 6) (.call { callee := (.value (.func 87)), args := #[(.tmp 5)], argTypes := #[30] }) none,
        co (some 7) (.unOp .not 4 (.tmp 6)) none,
        co (some 8) (.move (.tmp 7)) none,
        co (some 9) (.move (.tmp 1)) (some (8, false)),
        co (some 10) (.binOp .eql 3 (.tmp 9) (.const (.int .i64 0)) 3) (some (8, false)),
        co (some 11) (.pick (.tmp 8) (.const (.bool true)) (.tmp 10)) none] [1, 2, 11])
    (.cond (.tmp 11)
      (.seq (.reg [co (some 4) (.assign (.const (.bool false))) none] [4])
      (.ret))
      (.skip)))
  (.keep [1, 2] (.seq (.seq (.reg [co (some 12) (.fieldAddr 30 (.tmp 2) 0) none,
        co (some 13) (.load 3 (.tmp 12)) none] [1, 2, 13])
    (.block 0
      (.seq (.reg [co (some 15) (.binOp .eql 3 (.tmp 13) (.const (.int .i64 0)) 3) none,
          co (some 14) (.assign (.tmp 15)) none] [1, 2, 13, 14])
      (.cond (.tmp 14)
        (.seq (.reg [co (some 4) (.assign (.const (.bool true))) none] [4])
        (.ret))
        (.seq (.reg [co (some 17) (.binOp .eql 3 (.tmp 13) (.const (.int .i64 1)) 3) none,
            co (some 16) (.assign (.tmp 17)) none] [1, 2, 13, 16])
        (.cond (.tmp 16)
          (.seq (.reg [co (some 18) (.fieldAddr 30 (.tmp 2) 1) none,
              co (some 19) (.load 25 (.tmp 18)) none,
              co (some 20) (.call { callee := (.value (.func 88)), args := #[(.tmp 19)], argTypes := #[25] }) none,
              co (some 21) (.move (.tmp 20)) none,
              co (some 22) (.fieldAddr 30 (.tmp 2) 2) (some (21, true)),
              co (some 23) (.load 25 (.tmp 22)) (some (21, true)),
              co (some 24) (.call { callee := (.value (.func 88)), args := #[(.tmp 23)], argTypes := #[25] }) (some (21, true)),
              co (some 25) (.pick (.tmp 21) (.tmp 24) (.const (.bool false))) none,
              co (some 4) (.assign (.tmp 25)) none] [4])
          (.ret))
          (.seq (.reg [co (some 27) (.binOp .eql 3 (.tmp 13) (.const (.int .i64 2)) 3) none,
              co (some 26) (.assign (.tmp 27)) none] [1, 2, 13, 26])
          (.cond (.tmp 26)
            (.seq (.reg [co (some 28) (.fieldAddr 30 (.tmp 2) 3) none,
                co (some 29) (.load 26 (.tmp 28)) none,
                co (some 30) (.call { callee := (.value (.func 89)), args := #[(.tmp 29)], argTypes := #[26] }) none,
                co (some 31) (.move (.tmp 30)) none,
                co (some 32) (.fieldAddr 30 (.tmp 2) 4) (some (31, true)),
                co (some 33) (.load 27 (.tmp 32)) (some (31, true)),
                co (some 34) (.move (.tmp 1)) (some (31, true)),
                co (some 35) (.binOp .sub 3 (.tmp 34) (.const (.int .i64 1)) 3) (some (31, true)),
                co (some 36) (.call { callee := (.value (.func 90)), args := #[(.tmp 33), (.tmp 35)], argTypes := #[27, 3] }) (some (31, true)),
                co (some 37) (.pick (.tmp 31) (.tmp 36) (.const (.bool false))) none,
                co (some 4) (.assign (.tmp 37)) none] [4])
            (.ret))
            (.seq (.reg [co (some 39) (.binOp .eql 3 (.tmp 13) (.const (.int .i64 3)) 3) none,
                co (some 38) (.assign (.tmp 39)) none] [1, 2, 38])
            (.cond (.tmp 38)
              (.seq (.reg [co (some 40) (.fieldAddr 30 (.tmp 2) 5) none,
                  co (some 41) (.load 3 (.tmp 40)) none,
                  co (some 42) (.call { callee := (.value (.func 91)), args := #[(.tmp 41)], argTypes := #[3] }) none,
                  co (some 43) (.move (.tmp 42)) none,
                  co (some 44) (.load 30 (.tmp 2)) (some (43, true)),
                  co (some 45) (.move (.tmp 1)) (some (43, true)),
                  co (some 46) (.binOp .sub 3 (.tmp 45) (.const (.int .i64 1)) 3) (some (43, true)),
                  co (some 47) (.call { callee := (.value (.func 92)), args := #[(.tmp 44), (.tmp 46)], argTypes := #[30, 3] }) (some (43, true)),
                  co (some 48) (.pick (.tmp 43) (.tmp 47) (.const (.bool false))) none,
                  co (some 4) (.assign (.tmp 48)) none] [4])
              (.ret))
              (.skip)))))))))))
  (.keep [] (.seq (.reg [co (some 4) (.assign (.const (.bool false))) none] [4])
  (.ret))))))
theorem t_edit_right : Txt Tryz.prog 57 49 [(.tmp 4)] c_edit_right := txt_of (code := Tryz.f57.body.getD .ret) mixed (by kernel_rfl) Tryz.func57 (by kernel_rfl) Tryz.ntmps57 (by kernel_rfl) (ls := [([1, 2], [(0, [0])]), ([], []), ([1, 2, 11], []), ([], []), ([4], []), ([], []), ([999999, 1, 2], []), ([1, 2, 13], []), ([], []), ([1, 2, 13, 14], []), ([], []), ([4], []), ([], []), ([1, 2, 13, 16], []), ([], []), ([4], []), ([], []), ([1, 2, 13, 26], []), ([], []), ([4], []), ([], []), ([1, 2, 38], []), ([], []), ([4], []), ([], []), ([999999], []), ([4], []), ([], [])]) (by kernel_rfl)
/-- cento/edit.Right -/
def c_edit_Right : CC :=
  .seq (.reg [cn (some 1) (.box 30 (.tmp 0)) none [0],
      co (some 2) (.assign (.const (.bool false))) none] [1])
  (.seq (.reg [co (some 3) (.load 30 (.tmp 1)) none,
      co (some 4) (.call { callee := (.value (.func 57)), args := #[(.tmp 3), (.const (.int .i64 64))], argTypes := #[30, 3] }) none,
      co (some 2) (.assign (.tmp 4)) none] [2])
  (.ret))
theorem t_edit_Right : Txt Tryz.prog 29 5 [(.tmp 2)] c_edit_Right := txt_of (code := Tryz.f29.body.getD .ret) mixed (by kernel_rfl) Tryz.func29 (by kernel_rfl) Tryz.ntmps29 (by kernel_rfl) (ls := [([1], [(0, [0])]), ([], []), ([2], []), ([], [])]) (by kernel_rfl)
/-- cento/patch.number -/
def c_patch_number : CC :=
  .seq (.reg [co (some 6) (.assign (.const (.int .u64 0))) none] [0, 1, 2])
  (.seq (.reg [co (some 7) (.move (.tmp 0)) none,
      co (some 8) (.convert 3 60 (.tmp 7)) none,
      co (some 9) (.move (.tmp 1)) none,
      co (some 10) (.convert 3 60 (.tmp 9)) none,
      co (some 11) (.move (.tmp 2)) none,
      co (some 12) (.binOp .shl 60 (.tmp 10) (.tmp 11) 3) none,
      co (some 13) (.binOp .or 60 (.tmp 8) (.tmp 12) 60) none,
      co (some 6) (.assign (.tmp 13)) none] [6])
  (.ret))
theorem t_patch_number : Txt Tryz.prog 36 14 [(.tmp 6)] c_patch_number := txt_of (code := Tryz.f36.body.getD .ret) mixed (by kernel_rfl) Tryz.func36 (by kernel_rfl) Tryz.ntmps36 (by kernel_rfl) (ls := [([0, 1, 2], []), ([], []), ([6], []), ([], [])]) (by kernel_rfl)
/-- cento/patch.structure -/
def c_patch_structure : CC :=
  .seq (.reg [cn (some 4) (.alloc 25) none [0]] [0, 1, 4])
  (.seq (.reg [co (some 5) (.move (.tmp 0)) none,
      co (some 6) (.move (.tmp 1)) none,
      co (some 7) (.build 25 #[(0, (.const (.int .i64 1))), (1, (.tmp 5)), (2, (.tmp 6))]) none,
      co none (.store 25 (.tmp 4) (.tmp 7)) none] [4])
  (.ret))
theorem t_patch_structure : Txt Tryz.prog 35 8 [(.cell 4 25)] c_patch_structure := txt_of (code := Tryz.f35.body.getD .ret) mixed (by kernel_rfl) Tryz.func35 (by kernel_rfl) Tryz.ntmps35 (by kernel_rfl) (ls := [([0, 1, 4], [(0, [0])]), ([], []), ([4], []), ([], [])]) (by kernel_rfl)
/-- cento/patch.row -/
def c_patch_row : CC :=
  .seq (.reg [cn (some 2) (.alloc 25) none [0]] [0, 2])
  (.seq (.seq (.reg [co (some 3) (.move (.tmp 0)) none,
        co (some 4) (.call { callee := (.builtin .len), args := #[(.tmp 3)], argTypes := #[23] }) none,
        co (some 5) (.binOp .eql 3 (.tmp 4) (.const (.int .i64 0)) 3) none] [0, 2, 5])
    (.cond (.tmp 5)
      (.seq (.reg [co (some 6) (.build 25 #[]) none,
          co none (.store 25 (.tmp 2) (.tmp 6)) none] [2])
      (.ret))
      (.skip)))
  (.keep [0, 2] (.seq (.reg [co (some 7) (.move (.tmp 0)) none,
      co (some 8) (.build 25 #[(0, (.const (.int .i64 9))), (2, (.tmp 7))]) none,
      co none (.store 25 (.tmp 2) (.tmp 8)) none] [2])
  (.ret))))
theorem t_patch_row : Txt Tryz.prog 37 9 [(.cell 2 25)] c_patch_row := txt_of (code := Tryz.f37.body.getD .ret) mixed (by kernel_rfl) Tryz.func37 (by kernel_rfl) Tryz.ntmps37 (by kernel_rfl) (ls := [([0, 2], [(0, [0])]), ([], []), ([0, 2, 5], []), ([], []), ([2], []), ([], []), ([999999, 0, 2], []), ([2], []), ([], [])]) (by kernel_rfl)
def l1_patch_Tree : CC :=
  .seq (.reg [co (some 29) (.binOp .lss 3 (.tmp 28) (.tmp 27) 3) none] [1, 2, 3, 4, 26, 27, 28, 29])
  (.seq (.cond (.tmp 29)
      (.skip)
      (.exit 1))
  (.keep [1, 2, 3, 4, 26, 27, 28] (.seq (.block 2
      (.seq (.reg [co (some 30) (.indexAddr 26 (.tmp 26) (.tmp 28)) none,
          co (some 31) (.load 63 (.tmp 30)) none,
          cn (some 6) (.alloc 63) none [2],
          co none (.store 63 (.tmp 6) (.tmp 31)) none] [1, 2, 3, 4, 6, 26, 27, 28])
      (.reg [co (some 32) (.move (.tmp 3)) none,
        co (some 33) (.fieldAddr 63 (.tmp 6) 0) none,
        co (some 34) (.load 3 (.tmp 33)) none,
        co (some 35) (.fieldAddr 63 (.tmp 6) 1) none,
        co (some 36) (.load 5 (.tmp 35)) none,
        co (some 37) (.convert 5 3 (.tmp 36)) none,
        ⟨some 38, (.call { callee := (.value (.func 36)), args := #[(.tmp 34), (.tmp 37), (.const (.int .i64 32))], argTypes := #[3, 3, 3] }), none, [], 6, [], true⟩,
        co (some 39) (.fieldAddr 63 (.tmp 6) 2) none,
        ⟨some 40, (.load 60 (.tmp 39)), none, [], 8, [6], false⟩,
        co (some 41) (.fieldAddr 63 (.tmp 6) 3) none,
        ⟨some 42, (.load 60 (.tmp 41)), none, [], 10, [6], false⟩,
        co (some 43) (.buildSlice 22 3 #[(0, (.tmp 38)), (1, (.tmp 40)), (2, (.tmp 42))]) none,
        co (some 44) (.call { callee := (.value (.func 35)), args := #[(.tmp 43), (.const (.slice none 0 0))], argTypes := #[22, 23] }) none,
        co (some 45) (.buildSlice 23 1 #[(0, (.tmp 44))]) none,
        cn (some 46) (.call { callee := (.builtin .append), args := #[(.tmp 32), (.tmp 45)], argTypes := #[23, 23] }) none [3],
        co (some 3) (.assign (.tmp 46)) none] [1, 2, 3, 4, 26, 27, 28])))
  (.reg [co (some 47) (.binOp .add 3 (.tmp 28) (.const (.int .i64 1)) 3) none,
    co (some 28) (.move (.tmp 47)) none] [1, 2, 3, 4, 26, 27, 28]))))
def l2_patch_Tree : CC :=
  .seq (.reg [co (some 52) (.binOp .lss 3 (.tmp 51) (.tmp 50) 3) none] [2, 3, 4, 49, 50, 51, 52])
  (.seq (.cond (.tmp 52)
      (.skip)
      (.exit 3))
  (.keep [2, 3, 4, 49, 50, 51] (.seq (.block 4
      (.seq (.reg [co (some 53) (.indexAddr 27 (.tmp 49) (.tmp 51)) none,
          co (some 54) (.load 66 (.tmp 53)) none,
          cn (some 8) (.alloc 66) none [4],
          co none (.store 66 (.tmp 8) (.tmp 54)) none] [2, 3, 4, 8, 49, 50, 51])
      (.reg [co (some 55) (.move (.tmp 4)) none,
        co (some 56) (.fieldAddr 66 (.tmp 8) 0) none,
        ⟨some 57, (.load 3 (.tmp 56)), none, [], 2, [], true⟩,
        co (some 58) (.convert 3 60 (.tmp 57)) none,
        ⟨some 59, (.buildSlice 22 1 #[(0, (.tmp 58))]), none, [], 4, [], true⟩,
        co (some 60) (.fieldAddr 66 (.tmp 8) 1) none,
        ⟨some 61, (.load 30 (.tmp 60)), none, [], 6, [4], false⟩,
        ⟨some 62, (.call { callee := (.value (.func 13)), args := #[(.tmp 61)], argTypes := #[30] }), none, [], 7, [2, 4], false⟩,
        ⟨some 63, (.buildSlice 23 1 #[(0, (.tmp 62))]), none, [], 8, [2, 4], false⟩,
        co (some 64) (.call { callee := (.value (.func 35)), args := #[(.tmp 59), (.tmp 63)], argTypes := #[22, 23] }) none,
        co (some 65) (.buildSlice 23 1 #[(0, (.tmp 64))]) none,
        cn (some 66) (.call { callee := (.builtin .append), args := #[(.tmp 55), (.tmp 65)], argTypes := #[23, 23] }) none [5],
        co (some 4) (.assign (.tmp 66)) none] [2, 3, 4, 49, 50, 51])))
  (.reg [co (some 67) (.binOp .add 3 (.tmp 51) (.const (.int .i64 1)) 3) none,
    co (some 51) (.move (.tmp 67)) none] [2, 3, 4, 49, 50, 51]))))
def l3_patch_Tree : CC :=
  .seq (.reg [co (some 81) (.binOp .lss 3 (.tmp 80) (.tmp 79) 3) none] [1, 2, 9, 78, 79, 80, 81])
  (.seq (.cond (.tmp 81)
      (.skip)
      (.exit 5))
  (.keep [1, 2, 9, 78, 79, 80] (.seq (.block 6
      (.seq (.reg [co (some 82) (.indexAddr 28 (.tmp 78) (.tmp 80)) none,
          co (some 83) (.load 69 (.tmp 82)) none,
          cn (some 11) (.alloc 69) none [6],
          co none (.store 69 (.tmp 11) (.tmp 83)) none] [1, 2, 9, 11, 78, 79, 80])
      (.reg [co (some 84) (.move (.tmp 9)) none,
        co (some 85) (.fieldAddr 30 (.tmp 1) 5) none,
        co (some 86) (.load 3 (.tmp 85)) none,
        co (some 87) (.load 69 (.tmp 11)) none,
        co (some 88) (.call { callee := (.value (.func 38)), args := #[(.tmp 86), (.tmp 87)], argTypes := #[3, 69] }) none,
        co (some 89) (.buildSlice 23 1 #[(0, (.tmp 88))]) none,
        cn (some 90) (.call { callee := (.builtin .append), args := #[(.tmp 84), (.tmp 89)], argTypes := #[23, 23] }) none [7],
        co (some 9) (.assign (.tmp 90)) none] [1, 2, 9, 78, 79, 80])))
  (.reg [co (some 91) (.binOp .add 3 (.tmp 80) (.const (.int .i64 1)) 3) none,
    co (some 80) (.move (.tmp 91)) none] [1, 2, 9, 78, 79, 80]))))
/-- cento/patch.Tree -/
def c_patch_Tree : CC :=
  .seq (.reg [cn (some 1) (.box 30 (.tmp 0)) none [0],
      cn (some 2) (.alloc 25) none [1]] [1, 2])
  (.seq (.seq (.reg [co (some 12) (.fieldAddr 30 (.tmp 1) 0) none,
        co (some 13) (.load 3 (.tmp 12)) none] [1, 2, 13])
    (.block 0
      (.seq (.reg [co (some 15) (.binOp .eql 3 (.tmp 13) (.const (.int .i64 1)) 3) none,
          co (some 14) (.assign (.tmp 15)) none] [1, 2, 13, 14])
      (.cond (.tmp 14)
        (.seq (.reg [co (some 16) (.buildSlice 22 1 #[(0, (.const (.int .u64 1)))]) none,
            co (some 17) (.fieldAddr 30 (.tmp 1) 1) none,
            co (some 18) (.load 25 (.tmp 17)) none,
            co (some 19) (.fieldAddr 30 (.tmp 1) 2) none,
            co (some 20) (.load 25 (.tmp 19)) none,
            co (some 21) (.buildSlice 23 2 #[(0, (.tmp 18)), (1, (.tmp 20))]) none,
            co (some 22) (.call { callee := (.value (.func 35)), args := #[(.tmp 16), (.tmp 21)], argTypes := #[22, 23] }) none,
            co none (.store 25 (.tmp 2) (.tmp 22)) none] [2])
        (.ret))
        (.seq (.reg [co (some 24) (.binOp .eql 3 (.tmp 13) (.const (.int .i64 2)) 3) none,
            co (some 23) (.assign (.tmp 24)) none] [1, 2, 13, 23])
        (.cond (.tmp 23)
          (.seq (.reg [co (some 3) (.assign (.const (.slice none 0 0))) none,
              co (some 4) (.assign (.const (.slice none 0 0))) none] [1, 2, 3, 4])
          (.seq (.seq (.reg [co (some 25) (.fieldAddr 30 (.tmp 1) 3) none,
                co (some 26) (.load 26 (.tmp 25)) none,
                co (some 27) (.call { callee := (.builtin .len), args := #[(.tmp 26)], argTypes := #[26] }) none,
                co (some 28) (.move (.const (.int .i64 0))) none] [1, 2, 3, 4, 26, 27, 28])
            (.block 1
              (.loop l1_patch_Tree)))
          (.keep [1, 2, 3, 4] (.seq (.seq (.reg [co (some 48) (.fieldAddr 30 (.tmp 1) 4) none,
                co (some 49) (.load 27 (.tmp 48)) none,
                co (some 50) (.call { callee := (.builtin .len), args := #[(.tmp 49)], argTypes := #[27] }) none,
                co (some 51) (.move (.const (.int .i64 0))) none] [2, 3, 4, 49, 50, 51])
            (.block 3
              (.loop l2_patch_Tree)))
          (.keep [2, 3, 4] (.stop (.seq (.reg [co (some 68) (.buildSlice 22 1 #[(0, (.const (.int .u64 2)))]) none,
              co (some 69) (.move (.tmp 3)) none,
              co (some 70) (.call { callee := (.value (.func 37)), args := #[(.tmp 69)], argTypes := #[23] }) none,
              co (some 71) (.move (.tmp 4)) none,
              co (some 72) (.call { callee := (.value (.func 37)), args := #[(.tmp 71)], argTypes := #[23] }) none,
              co (some 73) (.buildSlice 23 2 #[(0, (.tmp 70)), (1, (.tmp 72))]) none,
              co (some 74) (.call { callee := (.value (.func 35)), args := #[(.tmp 68), (.tmp 73)], argTypes := #[22, 23] }) none,
              co none (.store 25 (.tmp 2) (.tmp 74)) none] [2])
          (.ret))))))))
          (.seq (.reg [co (some 76) (.binOp .eql 3 (.tmp 13) (.const (.int .i64 3)) 3) none,
              co (some 75) (.assign (.tmp 76)) none] [1, 2, 75])
          (.cond (.tmp 75)
            (.seq (.reg [co (some 9) (.assign (.const (.slice none 0 0))) none] [1, 2, 9])
            (.seq (.seq (.reg [co (some 77) (.fieldAddr 30 (.tmp 1) 6) none,
                  co (some 78) (.load 28 (.tmp 77)) none,
                  co (some 79) (.call { callee := (.builtin .len), args := #[(.tmp 78)], argTypes := #[28] }) none,
                  co (some 80) (.move (.const (.int .i64 0))) none] [1, 2, 9, 78, 79, 80])
              (.block 5
                (.loop l3_patch_Tree)))
            (.keep [1, 2, 9] (.stop (.seq (.reg [co (some 92) (.fieldAddr 30 (.tmp 1) 5) none,
                co (some 93) (.load 3 (.tmp 92)) none,
                co (some 94) (.call { callee := (.value (.func 36)), args := #[(.const (.int .i64 3)), (.tmp 93), (.const (.int .i64 8))], argTypes := #[3, 3, 3] }) none,
                co (some 95) (.buildSlice 22 1 #[(0, (.tmp 94))]) none,
                co (some 96) (.move (.tmp 9)) none,
                co (some 97) (.call { callee := (.value (.func 37)), args := #[(.tmp 96)], argTypes := #[23] }) none,
                co (some 98) (.buildSlice 23 1 #[(0, (.tmp 97))]) none,
                co (some 99) (.call { callee := (.value (.func 35)), args := #[(.tmp 95), (.tmp 98)], argTypes := #[22, 23] }) none,
                co none (.store 25 (.tmp 2) (.tmp 99)) none] [2])
            (.ret))))))
            (.skip)))))))))
  (.keep [2] (.seq (.reg [co (some 100) (.build 25 #[]) none,
      co none (.store 25 (.tmp 2) (.tmp 100)) none] [2])
  (.ret))))
theorem t_patch_Tree : Txt Tryz.prog 13 101 [(.cell 2 25)] c_patch_Tree := txt_of (code := Tryz.f13.body.getD .ret) mixed (by kernel_rfl) Tryz.func13 (by kernel_rfl) Tryz.ntmps13 (by kernel_rfl) (ls := [([1, 2], [(0, [0]), (1, [1])]), ([], []), ([1, 2, 13], []), ([], []), ([1, 2, 13, 14], []), ([], []), ([2], []), ([], []), ([1, 2, 13, 23], []), ([], []), ([1, 2, 3, 4], []), ([], []), ([1, 2, 3, 4, 26, 27, 28], []), ([], []), ([1, 2, 3, 4, 26, 27, 28, 29], []), ([], []), ([999999, 1, 2, 3, 4, 26, 27, 28], []), ([1, 2, 3, 4, 6, 26, 27, 28], [(2, [2])]), ([], []), ([1, 2, 3, 4, 26, 27, 28], [(14, [3])]), ([], []), ([1, 2, 3, 4, 26, 27, 28], []), ([999999, 1, 2, 3, 4], []), ([2, 3, 4, 49, 50, 51], []), ([], []), ([2, 3, 4, 49, 50, 51, 52], []), ([], []), ([999999, 2, 3, 4, 49, 50, 51], []), ([2, 3, 4, 8, 49, 50, 51], [(2, [4])]), ([], []), ([2, 3, 4, 49, 50, 51], [(11, [5])]), ([], []), ([2, 3, 4, 49, 50, 51], []), ([999997, 2, 3, 4], []), ([2], []), ([], []), ([1, 2, 75], []), ([], []), ([1, 2, 9], []), ([], []), ([1, 2, 9, 78, 79, 80], []), ([], []), ([1, 2, 9, 78, 79, 80, 81], []), ([], []), ([999999, 1, 2, 9, 78, 79, 80], []), ([1, 2, 9, 11, 78, 79, 80], [(2, [6])]), ([], []), ([1, 2, 9, 78, 79, 80], [(6, [7])]), ([], []), ([1, 2, 9, 78, 79, 80], []), ([999997, 1, 2, 9], []), ([2], []), ([], []), ([999999, 2], []), ([2], []), ([], [])]) (by kernel_rfl)
def k1_patch_op : CC :=
  .cond (.tmp 14)
    (.seq (.reg [co (some 17) (.move (.tmp 5)) none,
        co (some 18) (.move (.tmp 0)) none,
        co (some 19) (.fieldAddr 69 (.tmp 3) 2) none,
        co (some 20) (.load 23 (.tmp 19)) none,
        co (some 21) (.build 25 #[(0, (.tmp 18)), (2, (.tmp 20))]) none,
        co (some 22) (.buildSlice 23 1 #[(0, (.tmp 21))]) none,
        co (some 23) (.call { callee := (.value (.func 35)), args := #[(.tmp 17), (.tmp 22)], argTypes := #[22, 23] }) none,
        co none (.store 25 (.tmp 4) (.tmp 23)) none] [4])
    (.ret))
    (.seq (.reg [co (some 25) (.binOp .eql 3 (.tmp 13) (.const (.int .i64 3)) 3) none,
        co (some 24) (.assign (.tmp 25)) none] [3, 4, 5, 24])
    (.cond (.tmp 24)
      (.seq (.reg [co (some 26) (.move (.tmp 5)) none,
          co (some 27) (.fieldAddr 69 (.tmp 3) 3) none,
          co (some 28) (.load 30 (.tmp 27)) none,
          co (some 29) (.call { callee := (.value (.func 13)), args := #[(.tmp 28)], argTypes := #[30] }) none,
          co (some 30) (.buildSlice 23 1 #[(0, (.tmp 29))]) none,
          co (some 31) (.call { callee := (.value (.func 35)), args := #[(.tmp 26), (.tmp 30)], argTypes := #[22, 23] }) none,
          co none (.store 25 (.tmp 4) (.tmp 31)) none] [4])
      (.ret))
      (.skip)))
/-- cento/patch.op -/
def c_patch_op : CC :=
  .seq (.reg [cn (some 3) (.box 69 (.tmp 1)) none [0],
      cn (some 4) (.alloc 25) none [1]] [0, 3, 4])
  (.seq (.reg [co (some 6) (.fieldAddr 69 (.tmp 3) 0) none,
      co (some 7) (.load 3 (.tmp 6)) none,
      co (some 8) (.fieldAddr 69 (.tmp 3) 1) none,
      co (some 9) (.load 3 (.tmp 8)) none,
      co (some 10) (.call { callee := (.value (.func 36)), args := #[(.tmp 7), (.tmp 9), (.const (.int .i64 8))], argTypes := #[3, 3, 3] }) none,
      co (some 11) (.buildSlice 22 1 #[(0, (.tmp 10))]) none,
      co (some 5) (.assign (.tmp 11)) none] [0, 3, 4, 5])
  (.seq (.seq (.reg [co (some 12) (.fieldAddr 69 (.tmp 3) 0) none,
        co (some 13) (.load 3 (.tmp 12)) none] [0, 3, 4, 5, 13])
    (.block 0
      (.seq (.seq (.reg [co (some 15) (.binOp .eql 3 (.tmp 13) (.const (.int .i64 1)) 3) none,
            co (some 14) (.assign (.tmp 15)) none] [0, 3, 4, 5, 13, 14])
        (.cond (.tmp 14)
          (.skip)
          (.reg [co (some 16) (.binOp .eql 3 (.tmp 13) (.const (.int .i64 2)) 3) none,
            co (some 14) (.assign (.tmp 16)) none] [0, 3, 4, 5, 13, 14])))
      (.keep [0, 3, 4, 5, 13, 14] k1_patch_op))))
  (.keep [4, 5] (.seq (.reg [co (some 32) (.move (.tmp 5)) none,
      co (some 33) (.call { callee := (.value (.func 35)), args := #[(.tmp 32), (.const (.slice none 0 0))], argTypes := #[22, 23] }) none,
      co none (.store 25 (.tmp 4) (.tmp 33)) none] [4])
  (.ret)))))
theorem t_patch_op : Txt Tryz.prog 38 34 [(.cell 4 25)] c_patch_op := txt_of (code := Tryz.f38.body.getD .ret) mixed (by kernel_rfl) Tryz.func38 (by kernel_rfl) Tryz.ntmps38 (by kernel_rfl) (ls := [([0, 3, 4], [(0, [0]), (1, [1])]), ([], []), ([0, 3, 4, 5], []), ([], []), ([0, 3, 4, 5, 13], []), ([], []), ([0, 3, 4, 5, 13, 14], []), ([], []), ([0, 3, 4, 5, 13, 14], []), ([999999, 0, 3, 4, 5, 13, 14], []), ([4], []), ([], []), ([3, 4, 5, 24], []), ([], []), ([4], []), ([], []), ([999999, 4, 5], []), ([4], []), ([], [])]) (by kernel_rfl)
/-- cento/patch.limits -/
def c_patch_limits : CC :=
  .seq (.reg [cn (some 0) (.alloc 58) none [0]] [0])
  (.seq (.reg [co (some 1) (.build 58 #[(0, (.const (.int .i64 64))), (1, (.const (.int .i64 65536)))]) none,
      co none (.store 58 (.tmp 0) (.tmp 1)) none] [0])
  (.ret))
theorem t_patch_limits : Txt Tryz.prog 33 2 [(.cell 0 58)] c_patch_limits := txt_of (code := Tryz.f33.body.getD .ret) mixed (by kernel_rfl) Tryz.func33 (by kernel_rfl) Tryz.ntmps33 (by kernel_rfl) (ls := [([0], [(0, [0])]), ([], []), ([0], []), ([], [])]) (by kernel_rfl)
/-- cento/patch.Encode -/
def c_patch_Encode : CC :=
  .seq (.reg [cn (some 2) (.box 30 (.tmp 0)) none [0],
      co (some 4) (.assign (.const (.slice none 0 0))) none,
      co (some 5) (.assign (.const (.bool false))) none] [1, 2])
  (.seq (.seq (.reg [co (some 10) (.load 30 (.tmp 2)) none,
        co (some 11) (.call { callee := (.value (.func 29)), args := #[(.tmp 10)], argTypes := #[30] }) none,
        co (some 12) (.unOp .not 4 (.tmp 11)) none] [1, 2, 12])
    (.cond (.tmp 12)
      (.seq (.reg [co (some 4) (.assign (.const (.slice none 0 0))) none,
          co (some 5) (.assign (.const (.bool false))) none] [4, 5])
      (.ret))
      (.skip)))
  (.keep [1, 2] (.seq (.reg [co (some 14) (.load 30 (.tmp 2)) none,
      co (some 15) (.call { callee := (.value (.func 13)), args := #[(.tmp 14)], argTypes := #[30] }) none,
      co (some 16) (.move (.tmp 1)) none,
      co (some 17) (.call { callee := (.value (.func 30)), args := #[(.tmp 15), (.tmp 16)], argTypes := #[25, 3] }) none,
      co (some 13) (.move (.tmp 17)) none,
      co (some 18) (.extract (.tmp 13) 0) none,
      co (some 19) (.extract (.tmp 13) 1) none,
      co (some 6) (.assign (.tmp 18)) none,
      co (some 7) (.assign (.tmp 19)) none] [6, 7])
  (.seq (.seq (.reg [co (some 20) (.move (.tmp 7)) none,
        co (some 21) (.unOp .not 4 (.tmp 20)) none] [6, 21])
    (.cond (.tmp 21)
      (.seq (.reg [co (some 4) (.assign (.const (.slice none 0 0))) none,
          co (some 5) (.assign (.const (.bool false))) none] [4, 5])
      (.ret))
      (.skip)))
  (.keep [6] (.seq (.seq (.reg [co (some 23) (.move (.tmp 6)) none,
        co (some 24) (.buildSlice 56 1 #[(0, (.tmp 23))]) none,
        co (some 25) (.call { callee := (.value (.func 32)), args := #[(.tmp 24)], argTypes := #[56] }) none,
        co (some 26) (.call { callee := (.value (.func 33)), args := #[], argTypes := #[] }) none,
        co (some 27) (.call { callee := (.value (.func 31)), args := #[(.tmp 25), (.tmp 26)], argTypes := #[54, 58] }) none,
        co (some 22) (.move (.tmp 27)) none,
        co (some 28) (.extract (.tmp 22) 0) none,
        co (some 29) (.extract (.tmp 22) 1) none,
        co (some 8) (.assign (.tmp 28)) none,
        co (some 9) (.assign (.tmp 29)) none] [6, 9])
    (.seq (.reg [co (some 30) (.move (.tmp 9)) none,
        co (some 31) (.binOp .neq 45 (.tmp 30) (.const (.int .i64 0)) 45) none] [6, 31])
    (.cond (.tmp 31)
      (.seq (.reg [co (some 4) (.assign (.const (.slice none 0 0))) none,
          co (some 5) (.assign (.const (.bool false))) none] [4, 5])
      (.ret))
      (.skip))))
  (.keep [6] (.seq (.reg [co (some 32) (.move (.tmp 6)) none,
      co (some 4) (.assign (.tmp 32)) none,
      co (some 5) (.assign (.const (.bool true))) none] [4, 5])
  (.ret)))))))))
theorem t_patch_Encode : Txt Tryz.prog 10 33 [(.tmp 4), (.tmp 5)] c_patch_Encode := txt_of (code := Tryz.f10.body.getD .ret) mixed (by kernel_rfl) Tryz.func10 (by kernel_rfl) Tryz.ntmps10 (by kernel_rfl) (ls := [([1, 2], [(0, [0])]), ([], []), ([1, 2, 12], []), ([], []), ([4, 5], []), ([], []), ([999999, 1, 2], []), ([6, 7], []), ([], []), ([6, 21], []), ([], []), ([4, 5], []), ([], []), ([999999, 6], []), ([6, 9], []), ([], []), ([6, 31], []), ([], []), ([4, 5], []), ([], []), ([999999, 6], []), ([4, 5], []), ([], [])]) (by kernel_rfl)
/-- (*cento/canon.writer).give -/
def c_canon_writer_give : CC :=
  .seq (.reg [co (some 4) (.assign (.const (.int .i64 0))) none] [0, 1])
  (.seq (.reg [co (some 6) (.move (.tmp 0)) none,
      co (some 7) (.nilCheck (.tmp 6)) none,
      co (some 8) (.fieldAddr 88 (.tmp 7) 0) none,
      co (some 9) (.load 22 (.tmp 8)) none,
      co (some 10) (.call { callee := (.builtin .len), args := #[(.tmp 9)], argTypes := #[22] }) none,
      co (some 5) (.assign (.tmp 10)) none] [0, 1, 5])
  (.seq (.reg [co (some 11) (.move (.tmp 0)) none,
      co (some 12) (.move (.tmp 0)) none,
      co (some 13) (.nilCheck (.tmp 12)) none,
      co (some 14) (.fieldAddr 88 (.tmp 13) 0) none,
      co (some 15) (.load 22 (.tmp 14)) none,
      co (some 16) (.move (.tmp 1)) none,
      cn (some 17) (.call { callee := (.builtin .append), args := #[(.tmp 15), (.tmp 16)], argTypes := #[22, 3] }) none [1],
      co (some 18) (.nilCheck (.tmp 11)) none,
      co (some 19) (.fieldAddr 88 (.tmp 18) 0) none,
      co none (.store 22 (.tmp 19) (.tmp 17)) none] [5])
  (.seq (.reg [co (some 20) (.move (.tmp 5)) none,
      co (some 4) (.assign (.tmp 20)) none] [4])
  (.ret))))
theorem t_canon_writer_give : Txt Tryz.prog 62 21 [(.tmp 4)] c_canon_writer_give := txt_of (code := Tryz.f62.body.getD .ret) mixed (by kernel_rfl) Tryz.func62 (by kernel_rfl) Tryz.ntmps62 (by kernel_rfl) (ls := [([0, 1], []), ([], []), ([0, 1, 5], []), ([], []), ([5], [(6, [1])]), ([], []), ([4], []), ([], [])]) (by kernel_rfl)
def k1_canon_writer_point : CC :=
  .seq (.reg [co (some 29) (.load 121 (.tmp 7)) none,
      co (some 30) (.call { callee := (.value (.func 132)), args := #[(.tmp 29)], argTypes := #[121] }) none,
      co (some 28) (.move (.tmp 30)) none,
      co (some 31) (.extract (.tmp 28) 0) none,
      co (some 32) (.extract (.tmp 28) 1) none,
      co (some 9) (.assign (.tmp 31)) none,
      co (some 10) (.assign (.tmp 32)) none] [0, 1, 9, 10])
  (.seq (.reg [co (some 33) (.move (.tmp 0)) none,
      co (some 34) (.nilCheck (.tmp 33)) none,
      co (some 35) (.fieldAddr 88 (.tmp 34) 0) none,
      co (some 36) (.load 22 (.tmp 35)) none,
      co (some 37) (.move (.tmp 1)) none,
      co (some 38) (.move (.tmp 9)) none,
      co (some 39) (.indexAddr 22 (.tmp 36) (.tmp 37)) none,
      co none (.store 60 (.tmp 39) (.tmp 38)) none] [10])
  (.seq (.reg [co (some 40) (.move (.tmp 10)) none,
      co (some 8) (.assign (.tmp 40)) none] [8])
  (.ret)))
/-- (*cento/canon.writer).point -/
def c_canon_writer_point : CC :=
  .seq (.reg [cn (some 7) (.box 121 (.tmp 3)) none [1],
      co (some 8) (.assign (.const (.bool false))) none] [0, 1, 2, 7])
  (.seq (.reg [co (some 11) (.move (.tmp 2)) none,
      co (some 12) (.move (.tmp 1)) none,
      co (some 13) (.binOp .sub 3 (.tmp 11) (.tmp 12) 3) none,
      co (some 14) (.binOp .sub 3 (.tmp 13) (.const (.int .i64 1)) 3) none,
      co (some 15) (.fieldAddr 121 (.tmp 7) 1) none,
      co none (.store 3 (.tmp 15) (.tmp 14)) none] [0, 1, 7])
  (.seq (.seq (.reg [co (some 16) (.fieldAddr 121 (.tmp 7) 0) none,
        co (some 17) (.load 3 (.tmp 16)) none,
        co (some 18) (.binOp .eql 3 (.tmp 17) (.const (.int .i64 1)) 3) none,
        co (some 19) (.move (.tmp 18)) none,
        co (some 20) (.fieldAddr 121 (.tmp 7) 2) (some (19, true)),
        co (some 21) (.load 3 (.tmp 20)) (some (19, true)),
        co (some 22) (.fieldAddr 121 (.tmp 7) 3) (some (19, true)),
        co (some 23) (.load 3 (.tmp 22)) (some (19, true)),
        co (some 24) (.binOp .add 3 (.tmp 21) (.tmp 23) 3) (some (19, true)),
        co (some 25) (.binOp .eql 3 (.tmp 24) (.const (.int .i64 0)) 3) (some (19, true)),
        co (some 26) (.pick (.tmp 19) (.tmp 25) (.const (.bool false))) none] [0, 1, 7, 26])
    (.cond (.tmp 26)
      (.reg [co (some 27) (.fieldAddr 121 (.tmp 7) 1) none,
        co none (.store 3 (.tmp 27) (.const (.int .i64 (-1)))) none] [0, 1, 7])
      (.skip)))
  (.keep [0, 1, 7] k1_canon_writer_point)))
theorem t_canon_writer_point : Txt Tryz.prog 95 41 [(.tmp 8)] c_canon_writer_point := txt_of (code := Tryz.f95.body.getD .ret) mixed (by kernel_rfl) Tryz.func95 (by kernel_rfl) Tryz.ntmps95 (by kernel_rfl) (ls := [([0, 1, 2, 7], [(0, [1])]), ([], []), ([0, 1, 7], []), ([], []), ([0, 1, 7, 26], []), ([], []), ([0, 1, 7], []), ([999999, 0, 1, 7], []), ([0, 1, 9, 10], []), ([], []), ([10], []), ([], []), ([8], []), ([], [])]) (by kernel_rfl)
def l1_canon_writer_tree : CC :=
  .seq (.reg [co (some 91) (.binOp .lss 3 (.tmp 90) (.tmp 89) 3) none] [0, 1, 5, 9, 10, 88, 89, 90, 91])
  (.seq (.cond (.tmp 91)
      (.skip)
      (.exit 1))
  (.keep [0, 1, 5, 9, 10, 88, 89, 90] (.seq (.block 2
      (.seq (.reg [co (some 92) (.indexAddr 23 (.tmp 88) (.tmp 90)) none,
          co (some 93) (.load 25 (.tmp 92)) none,
          cn (some 12) (.alloc 25) none [2],
          co none (.store 25 (.tmp 12) (.tmp 93)) none] [0, 1, 5, 9, 10, 12, 88, 89, 90])
      (.reg [co (some 94) (.move (.tmp 10)) none,
        co (some 95) (.load 25 (.tmp 12)) none,
        co (some 96) (.call { callee := (.value (.func 70)), args := #[(.tmp 95), (.const (.int .i64 0))], argTypes := #[25, 3] }) none,
        co (some 97) (.buildSlice 22 1 #[(0, (.tmp 96))]) none,
        cn (some 98) (.call { callee := (.builtin .append), args := #[(.tmp 94), (.tmp 97)], argTypes := #[22, 22] }) none [3],
        co (some 10) (.assign (.tmp 98)) none] [0, 1, 5, 9, 10, 88, 89, 90])))
  (.reg [co (some 99) (.binOp .add 3 (.tmp 90) (.const (.int .i64 1)) 3) none,
    co (some 90) (.move (.tmp 99)) none] [0, 1, 5, 9, 10, 88, 89, 90]))))
/-- (*cento/canon.writer).tree -/
def c_canon_writer_tree : CC :=
  .seq (.reg [cn (some 5) (.box 25 (.tmp 2)) none [1],
      co (some 6) (.assign (.const (.bool false))) none] [0, 1, 5])
  (.seq (.block 0
      (.seq (.reg [co (some 17) (.fieldAddr 25 (.tmp 5) 0) none,
          co (some 18) (.load 3 (.tmp 17)) none,
          co (some 19) (.binOp .eql 3 (.tmp 18) (.const (.int .i64 0)) 3) none,
          co (some 16) (.assign (.tmp 19)) none] [0, 1, 5, 16])
      (.cond (.tmp 16)
        (.seq (.reg [co (some 6) (.assign (.const (.bool true))) none] [6])
        (.ret))
        (.seq (.reg [co (some 21) (.fieldAddr 25 (.tmp 5) 0) none,
            co (some 22) (.load 3 (.tmp 21)) none,
            co (some 23) (.binOp .eql 3 (.tmp 22) (.const (.int .i64 1)) 3) none,
            co (some 20) (.assign (.tmp 23)) none] [0, 1, 5, 20])
        (.cond (.tmp 20)
          (.seq (.reg [co (some 24) (.move (.tmp 0)) none,
              co (some 25) (.fieldAddr 25 (.tmp 5) 1) none,
              co (some 26) (.load 22 (.tmp 25)) none,
              co (some 27) (.call { callee := (.builtin .len), args := #[(.tmp 26)], argTypes := #[22] }) none,
              co (some 28) (.fieldAddr 25 (.tmp 5) 2) none,
              co (some 29) (.load 23 (.tmp 28)) none,
              co (some 30) (.call { callee := (.builtin .len), args := #[(.tmp 29)], argTypes := #[23] }) none,
              co (some 31) (.binOp .add 3 (.tmp 27) (.tmp 30) 3) none,
              co (some 32) (.call { callee := (.value (.func 62)), args := #[(.tmp 24), (.tmp 31)], argTypes := #[86, 3] }) none,
              co (some 7) (.assign (.tmp 32)) none] [0, 1, 5, 7])
          (.seq (.reg [co (some 33) (.move (.tmp 0)) none,
              co (some 34) (.move (.tmp 1)) none,
              co (some 35) (.move (.tmp 7)) none,
              co (some 36) (.fieldAddr 25 (.tmp 5) 1) none,
              co (some 37) (.load 22 (.tmp 36)) none,
              co (some 38) (.call { callee := (.builtin .len), args := #[(.tmp 37)], argTypes := #[22] }) none,
              co (some 39) (.fieldAddr 25 (.tmp 5) 2) none,
              co (some 40) (.load 23 (.tmp 39)) none,
              co (some 41) (.call { callee := (.builtin .len), args := #[(.tmp 40)], argTypes := #[23] }) none,
              co (some 42) (.build 121 #[(0, (.const (.int .i64 1))), (2, (.tmp 38)), (3, (.tmp 41))]) none,
              co (some 43) (.call { callee := (.value (.func 95)), args := #[(.tmp 33), (.tmp 34), (.tmp 35), (.tmp 42)], argTypes := #[86, 3, 3, 121] }) none,
              co (some 44) (.move (.tmp 43)) none,
              co (some 45) (.move (.tmp 0)) (some (44, true)),
              co (some 46) (.move (.tmp 7)) (some (44, true)),
              co (some 47) (.fieldAddr 25 (.tmp 5) 1) (some (44, true)),
              co (some 48) (.load 22 (.tmp 47)) (some (44, true)),
              co (some 49) (.call { callee := (.builtin .len), args := #[(.tmp 48)], argTypes := #[22] }) (some (44, true)),
              co (some 50) (.load 25 (.tmp 5)) (some (44, true)),
              co (some 51) (.call { callee := (.value (.func 96)), args := #[(.tmp 45), (.tmp 46), (.tmp 49), (.tmp 50)], argTypes := #[86, 3, 3, 25] }) (some (44, true)),
              co (some 52) (.pick (.tmp 44) (.tmp 51) (.const (.bool false))) none,
              co (some 6) (.assign (.tmp 52)) none] [6])
          (.ret)))
          (.seq (.reg [co (some 54) (.fieldAddr 25 (.tmp 5) 0) none,
              co (some 55) (.load 3 (.tmp 54)) none,
              co (some 56) (.binOp .eql 3 (.tmp 55) (.const (.int .i64 9)) 3) none,
              co (some 53) (.assign (.tmp 56)) none] [0, 1, 5, 53])
          (.cond (.tmp 53)
            (.seq (.reg [co (some 57) (.move (.tmp 0)) none,
                co (some 58) (.move (.tmp 1)) none,
                co (some 59) (.load 25 (.tmp 5)) none,
                co (some 60) (.call { callee := (.value (.func 97)), args := #[(.tmp 57), (.tmp 58), (.tmp 59)], argTypes := #[86, 3, 25] }) none,
                co (some 6) (.assign (.tmp 60)) none] [6])
            (.ret))
            (.seq (.reg [co (some 62) (.fieldAddr 25 (.tmp 5) 0) none,
                co (some 63) (.load 3 (.tmp 62)) none,
                co (some 64) (.binOp .eql 3 (.tmp 63) (.const (.int .i64 8)) 3) none,
                co (some 61) (.assign (.tmp 64)) none] [0, 1, 5, 61])
            (.cond (.tmp 61)
              (.seq (.reg [co (some 65) (.move (.tmp 0)) none,
                  co (some 66) (.fieldAddr 25 (.tmp 5) 2) none,
                  co (some 67) (.load 23 (.tmp 66)) none,
                  co (some 68) (.call { callee := (.builtin .len), args := #[(.tmp 67)], argTypes := #[23] }) none,
                  co (some 69) (.call { callee := (.value (.func 62)), args := #[(.tmp 65), (.tmp 68)], argTypes := #[86, 3] }) none,
                  co (some 8) (.assign (.tmp 69)) none] [0, 1, 5, 8])
              (.seq (.reg [co (some 70) (.move (.tmp 0)) none,
                  co (some 71) (.move (.tmp 1)) none,
                  co (some 72) (.move (.tmp 8)) none,
                  co (some 73) (.fieldAddr 25 (.tmp 5) 2) none,
                  co (some 74) (.load 23 (.tmp 73)) none,
                  co (some 75) (.call { callee := (.builtin .len), args := #[(.tmp 74)], argTypes := #[23] }) none,
                  co (some 76) (.build 121 #[(0, (.const (.int .i64 2))), (4, (.const (.int .i64 6))), (5, (.tmp 75))]) none,
                  co (some 77) (.call { callee := (.value (.func 95)), args := #[(.tmp 70), (.tmp 71), (.tmp 72), (.tmp 76)], argTypes := #[86, 3, 3, 121] }) none,
                  co (some 78) (.move (.tmp 77)) none,
                  co (some 79) (.move (.tmp 0)) (some (78, true)),
                  co (some 80) (.move (.tmp 8)) (some (78, true)),
                  co (some 81) (.load 25 (.tmp 5)) (some (78, true)),
                  co (some 82) (.call { callee := (.value (.func 98)), args := #[(.tmp 79), (.tmp 80), (.tmp 81)], argTypes := #[86, 3, 25] }) (some (78, true)),
                  co (some 83) (.pick (.tmp 78) (.tmp 82) (.const (.bool false))) none,
                  co (some 6) (.assign (.tmp 83)) none] [6])
              (.ret)))
              (.skip))))))))))
  (.keep [0, 1, 5] (.seq (.reg [co (some 84) (.fieldAddr 25 (.tmp 5) 0) none,
      co (some 85) (.load 3 (.tmp 84)) none,
      co (some 86) (.binOp .sub 3 (.tmp 85) (.const (.int .i64 2)) 3) none,
      co (some 9) (.assign (.tmp 86)) none] [0, 1, 5, 9])
  (.seq (.reg [co (some 10) (.assign (.const (.slice none 0 0))) none] [0, 1, 5, 9, 10])
  (.seq (.seq (.reg [co (some 87) (.fieldAddr 25 (.tmp 5) 2) none,
        co (some 88) (.load 23 (.tmp 87)) none,
        co (some 89) (.call { callee := (.builtin .len), args := #[(.tmp 88)], argTypes := #[23] }) none,
        co (some 90) (.move (.const (.int .i64 0))) none] [0, 1, 5, 9, 10, 88, 89, 90])
    (.block 1
      (.loop l1_canon_writer_tree)))
  (.keep [0, 1, 5, 9, 10] (.stop (.seq (.reg [co (some 101) (.move (.tmp 9)) none,
      co (some 102) (.move (.tmp 10)) none,
      co (some 103) (.call { callee := (.value (.func 99)), args := #[(.tmp 101), (.tmp 102)], argTypes := #[3, 22] }) none,
      co (some 100) (.move (.tmp 103)) none,
      co (some 104) (.extract (.tmp 100) 0) none,
      co (some 105) (.extract (.tmp 100) 1) none,
      co (some 13) (.assign (.tmp 104)) none,
      co (some 14) (.assign (.tmp 105)) none] [0, 1, 5, 9, 13, 14])
  (.seq (.reg [co (some 106) (.move (.tmp 0)) none,
      co (some 107) (.move (.tmp 13)) none,
      co (some 108) (.call { callee := (.builtin .len), args := #[(.tmp 107)], argTypes := #[22] }) none,
      co (some 109) (.call { callee := (.value (.func 62)), args := #[(.tmp 106), (.tmp 108)], argTypes := #[86, 3] }) none,
      co (some 15) (.assign (.tmp 109)) none] [0, 1, 5, 9, 13, 14, 15])
  (.seq (.reg [co (some 110) (.move (.tmp 0)) none,
      co (some 111) (.nilCheck (.tmp 110)) none,
      co (some 112) (.fieldAddr 88 (.tmp 111) 0) none,
      co (some 113) (.load 22 (.tmp 112)) none,
      co (some 114) (.move (.tmp 15)) none,
      co (some 115) (.slice 22 (.tmp 113) (some (.tmp 114)) none none) none,
      co (some 116) (.move (.tmp 13)) none,
      co (some 117) (.call { callee := (.builtin .copy), args := #[(.tmp 115), (.tmp 116)], argTypes := #[22, 22] }) none] [0, 1, 5, 9, 14, 15])
  (.seq (.reg [co (some 118) (.move (.tmp 14)) none,
      co (some 119) (.move (.tmp 118)) none,
      co (some 120) (.move (.tmp 0)) (some (119, true)),
      co (some 121) (.move (.tmp 1)) (some (119, true)),
      co (some 122) (.move (.tmp 15)) (some (119, true)),
      co (some 123) (.move (.tmp 9)) (some (119, true)),
      co (some 124) (.fieldAddr 25 (.tmp 5) 2) (some (119, true)),
      co (some 125) (.load 23 (.tmp 124)) (some (119, true)),
      co (some 126) (.call { callee := (.builtin .len), args := #[(.tmp 125)], argTypes := #[23] }) (some (119, true)),
      co (some 127) (.build 121 #[(0, (.const (.int .i64 2))), (4, (.tmp 123)), (5, (.tmp 126))]) (some (119, true)),
      co (some 128) (.call { callee := (.value (.func 95)), args := #[(.tmp 120), (.tmp 121), (.tmp 122), (.tmp 127)], argTypes := #[86, 3, 3, 121] }) (some (119, true)),
      co (some 129) (.pick (.tmp 119) (.tmp 128) (.const (.bool false))) none,
      co (some 6) (.assign (.tmp 129)) none] [6])
  (.ret))))))))))))
theorem t_canon_writer_tree : Txt Tryz.prog 61 130 [(.tmp 6)] c_canon_writer_tree := txt_of (code := Tryz.f61.body.getD .ret) mixed (by kernel_rfl) Tryz.func61 (by kernel_rfl) Tryz.ntmps61 (by kernel_rfl) (ls := [([0, 1, 5], [(0, [1])]), ([], []), ([0, 1, 5, 16], []), ([], []), ([6], []), ([], []), ([0, 1, 5, 20], []), ([], []), ([0, 1, 5, 7], []), ([], []), ([6], []), ([], []), ([0, 1, 5, 53], []), ([], []), ([6], []), ([], []), ([0, 1, 5, 61], []), ([], []), ([0, 1, 5, 8], []), ([], []), ([6], []), ([], []), ([999999, 0, 1, 5], []), ([0, 1, 5, 9], []), ([], []), ([0, 1, 5, 9, 10], []), ([], []), ([0, 1, 5, 9, 10, 88, 89, 90], []), ([], []), ([0, 1, 5, 9, 10, 88, 89, 90, 91], []), ([], []), ([999999, 0, 1, 5, 9, 10, 88, 89, 90], []), ([0, 1, 5, 9, 10, 12, 88, 89, 90], [(2, [2])]), ([], []), ([0, 1, 5, 9, 10, 88, 89, 90], [(4, [3])]), ([], []), ([0, 1, 5, 9, 10, 88, 89, 90], []), ([999997, 0, 1, 5, 9, 10], []), ([0, 1, 5, 9, 13, 14], []), ([], []), ([0, 1, 5, 9, 13, 14, 15], []), ([], []), ([0, 1, 5, 9, 14, 15], []), ([], []), ([6], []), ([], [])]) (by kernel_rfl)
def l1_canon_writer_kids : CC :=
  .seq (.reg [co (some 13) (.binOp .lss 3 (.tmp 12) (.tmp 11) 3) none] [0, 1, 10, 11, 12, 13])
  (.seq (.cond (.tmp 13)
      (.skip)
      (.exit 0))
  (.keep [0, 1, 10, 11, 12] (.seq (.block 1
      (.seq (.reg [co (some 14) (.move (.tmp 12)) none,
          co (some 15) (.indexAddr 23 (.tmp 10) (.tmp 12)) none,
          co (some 16) (.load 25 (.tmp 15)) none,
          cn (some 8) (.alloc 25) none [2],
          co (some 7) (.assign (.tmp 14)) none,
          co none (.store 25 (.tmp 8) (.tmp 16)) none] [0, 1, 7, 8, 10, 11, 12])
      (.seq (.reg [co (some 17) (.move (.tmp 0)) none,
          co (some 18) (.move (.tmp 1)) none,
          co (some 19) (.move (.tmp 7)) none,
          co (some 20) (.binOp .add 3 (.tmp 18) (.tmp 19) 3) none,
          co (some 21) (.load 25 (.tmp 8)) none,
          co (some 22) (.call { callee := (.value (.func 61)), args := #[(.tmp 17), (.tmp 20), (.tmp 21)], argTypes := #[86, 3, 25] }) none,
          co (some 23) (.unOp .not 4 (.tmp 22)) none] [0, 1, 10, 11, 12, 23])
      (.cond (.tmp 23)
        (.seq (.reg [co (some 6) (.assign (.const (.bool false))) none] [6])
        (.ret))
        (.skip)))))
  (.keep [0, 1, 10, 11, 12] (.reg [co (some 24) (.binOp .add 3 (.tmp 12) (.const (.int .i64 1)) 3) none,
    co (some 12) (.move (.tmp 24)) none] [0, 1, 10, 11, 12])))))
/-- (*cento/canon.writer).kids -/
def c_canon_writer_kids : CC :=
  .seq (.reg [cn (some 5) (.box 25 (.tmp 2)) none [1],
      co (some 6) (.assign (.const (.bool false))) none] [0, 1, 5])
  (.seq (.seq (.reg [co (some 9) (.fieldAddr 25 (.tmp 5) 2) none,
        co (some 10) (.load 23 (.tmp 9)) none,
        co (some 11) (.call { callee := (.builtin .len), args := #[(.tmp 10)], argTypes := #[23] }) none,
        co (some 12) (.move (.const (.int .i64 0))) none] [0, 1, 10, 11, 12])
    (.block 0
      (.loop l1_canon_writer_kids)))
  (.keep [] (.seq (.reg [co (some 6) (.assign (.const (.bool true))) none] [6])
  (.ret))))
theorem t_canon_writer_kids : Txt Tryz.prog 98 25 [(.tmp 6)] c_canon_writer_kids := txt_of (code := Tryz.f98.body.getD .ret) mixed (by kernel_rfl) Tryz.func98 (by kernel_rfl) Tryz.ntmps98 (by kernel_rfl) (ls := [([0, 1, 5], [(0, [1])]), ([], []), ([0, 1, 10, 11, 12], []), ([], []), ([0, 1, 10, 11, 12, 13], []), ([], []), ([999999, 0, 1, 10, 11, 12], []), ([0, 1, 7, 8, 10, 11, 12], [(3, [2])]), ([], []), ([0, 1, 10, 11, 12, 23], []), ([], []), ([6], []), ([], []), ([999999, 0, 1, 10, 11, 12], []), ([0, 1, 10, 11, 12], []), ([999999], []), ([6], []), ([], [])]) (by kernel_rfl)
/-- (*cento/canon.writer).structure -/
def c_canon_writer_structure : CC :=
  .seq (.reg [cn (some 7) (.box 25 (.tmp 3)) none [1],
      co (some 8) (.assign (.const (.bool false))) none] [0, 1, 2, 7])
  (.seq (.reg [co (some 9) (.move (.tmp 0)) none,
      co (some 10) (.nilCheck (.tmp 9)) none,
      co (some 11) (.fieldAddr 88 (.tmp 10) 0) none,
      co (some 12) (.load 22 (.tmp 11)) none,
      co (some 13) (.move (.tmp 1)) none,
      co (some 14) (.slice 22 (.tmp 12) (some (.tmp 13)) none none) none,
      co (some 15) (.fieldAddr 25 (.tmp 7) 1) none,
      co (some 16) (.load 22 (.tmp 15)) none,
      co (some 17) (.call { callee := (.builtin .copy), args := #[(.tmp 14), (.tmp 16)], argTypes := #[22, 22] }) none] [0, 1, 2, 7])
  (.seq (.reg [co (some 18) (.move (.tmp 0)) none,
      co (some 19) (.move (.tmp 1)) none,
      co (some 20) (.move (.tmp 2)) none,
      co (some 21) (.binOp .add 3 (.tmp 19) (.tmp 20) 3) none,
      co (some 22) (.load 25 (.tmp 7)) none,
      co (some 23) (.call { callee := (.value (.func 98)), args := #[(.tmp 18), (.tmp 21), (.tmp 22)], argTypes := #[86, 3, 25] }) none,
      co (some 8) (.assign (.tmp 23)) none] [8])
  (.ret)))
theorem t_canon_writer_structure : Txt Tryz.prog 96 24 [(.tmp 8)] c_canon_writer_structure := txt_of (code := Tryz.f96.body.getD .ret) mixed (by kernel_rfl) Tryz.func96 (by kernel_rfl) Tryz.ntmps96 (by kernel_rfl) (ls := [([0, 1, 2, 7], [(0, [1])]), ([], []), ([0, 1, 2, 7], []), ([], []), ([8], []), ([], [])]) (by kernel_rfl)
def l1_canon_writer_composite : CC :=
  .seq (.reg [co (some 65) (.binOp .lss 3 (.tmp 64) (.tmp 63) 3) none] [0, 5, 7, 9, 11, 12, 62, 63, 64, 65])
  (.seq (.cond (.tmp 65)
      (.skip)
      (.exit 0))
  (.keep [0, 5, 7, 9, 11, 12, 62, 63, 64] (.seq (.block 1
      (.seq (.reg [co (some 66) (.move (.tmp 64)) none,
          co (some 67) (.indexAddr 23 (.tmp 62) (.tmp 64)) none,
          co (some 68) (.load 25 (.tmp 67)) none,
          cn (some 14) (.alloc 25) none [2],
          co (some 13) (.assign (.tmp 66)) none,
          co none (.store 25 (.tmp 14) (.tmp 68)) none] [0, 5, 7, 9, 11, 12, 13, 14, 62, 63, 64])
      (.seq (.reg [co (some 69) (.move (.tmp 0)) none,
          co (some 70) (.move (.tmp 12)) none,
          co (some 71) (.binOp .add 3 (.tmp 70) (.const (.int .i64 1)) 3) none,
          co (some 72) (.move (.tmp 13)) none,
          co (some 73) (.move (.tmp 9)) none,
          co (some 74) (.binOp .mul 3 (.tmp 72) (.tmp 73) 3) none,
          co (some 75) (.binOp .add 3 (.tmp 71) (.tmp 74) 3) none,
          co (some 76) (.move (.tmp 7)) none,
          co (some 77) (.load 25 (.tmp 14)) none,
          co (some 78) (.call { callee := (.value (.func 96)), args := #[(.tmp 69), (.tmp 75), (.tmp 76), (.tmp 77)], argTypes := #[86, 3, 3, 25] }) none,
          co (some 79) (.unOp .not 4 (.tmp 78)) none] [0, 5, 7, 9, 11, 12, 62, 63, 64, 79])
      (.cond (.tmp 79)
        (.seq (.reg [co (some 6) (.assign (.const (.bool false))) none] [6])
        (.ret))
        (.skip)))))
  (.keep [0, 5, 7, 9, 11, 12, 62, 63, 64] (.reg [co (some 80) (.binOp .add 3 (.tmp 64) (.const (.int .i64 1)) 3) none,
    co (some 64) (.move (.tmp 80)) none] [0, 5, 7, 9, 11, 12, 62, 63, 64])))))
def k1_canon_writer_composite : CC :=
  .seq (.reg [co (some 35) (.move (.tmp 0)) none,
      co (some 36) (.fieldAddr 25 (.tmp 5) 2) none,
      co (some 37) (.load 23 (.tmp 36)) none,
      co (some 38) (.call { callee := (.builtin .len), args := #[(.tmp 37)], argTypes := #[23] }) none,
      co (some 39) (.move (.tmp 9)) none,
      co (some 40) (.binOp .mul 3 (.tmp 38) (.tmp 39) 3) none,
      co (some 41) (.binOp .add 3 (.const (.int .i64 1)) (.tmp 40) 3) none,
      co (some 42) (.call { callee := (.value (.func 62)), args := #[(.tmp 35), (.tmp 41)], argTypes := #[86, 3] }) none,
      co (some 12) (.assign (.tmp 42)) none] [0, 1, 5, 7, 9, 10, 11, 12])
  (.seq (.reg [co (some 43) (.move (.tmp 0)) none,
      co (some 44) (.nilCheck (.tmp 43)) none,
      co (some 45) (.fieldAddr 88 (.tmp 44) 0) none,
      co (some 46) (.load 22 (.tmp 45)) none,
      co (some 47) (.move (.tmp 12)) none,
      co (some 48) (.move (.tmp 10)) none,
      co (some 49) (.indexAddr 22 (.tmp 46) (.tmp 47)) none,
      co none (.store 60 (.tmp 49) (.tmp 48)) none] [0, 1, 5, 7, 9, 11, 12])
  (.seq (.seq (.reg [co (some 50) (.move (.tmp 0)) none,
        co (some 51) (.move (.tmp 1)) none,
        co (some 52) (.move (.tmp 12)) none,
        co (some 53) (.fieldAddr 25 (.tmp 5) 2) none,
        co (some 54) (.load 23 (.tmp 53)) none,
        co (some 55) (.call { callee := (.builtin .len), args := #[(.tmp 54)], argTypes := #[23] }) none,
        co (some 56) (.move (.tmp 9)) none,
        co (some 57) (.binOp .mul 3 (.tmp 55) (.tmp 56) 3) none,
        co (some 58) (.build 121 #[(0, (.const (.int .i64 2))), (4, (.const (.int .i64 7))), (5, (.tmp 57))]) none,
        co (some 59) (.call { callee := (.value (.func 95)), args := #[(.tmp 50), (.tmp 51), (.tmp 52), (.tmp 58)], argTypes := #[86, 3, 3, 121] }) none,
        co (some 60) (.unOp .not 4 (.tmp 59)) none] [0, 5, 7, 9, 11, 12, 60])
    (.cond (.tmp 60)
      (.seq (.reg [co (some 6) (.assign (.const (.bool false))) none] [6])
      (.ret))
      (.skip)))
  (.keep [0, 5, 7, 9, 11, 12] (.seq (.seq (.reg [co (some 61) (.fieldAddr 25 (.tmp 5) 2) none,
        co (some 62) (.load 23 (.tmp 61)) none,
        co (some 63) (.call { callee := (.builtin .len), args := #[(.tmp 62)], argTypes := #[23] }) none,
        co (some 64) (.move (.const (.int .i64 0))) none] [0, 5, 7, 9, 11, 12, 62, 63, 64])
    (.block 0
      (.loop l1_canon_writer_composite)))
  (.keep [5, 9, 11] (.seq (.reg [co (some 81) (.move (.tmp 11)) none,
      co (some 82) (.move (.tmp 81)) none,
      co (some 83) (.fieldAddr 25 (.tmp 5) 2) (some (82, false)),
      co (some 84) (.load 23 (.tmp 83)) (some (82, false)),
      co (some 85) (.call { callee := (.builtin .len), args := #[(.tmp 84)], argTypes := #[23] }) (some (82, false)),
      co (some 86) (.move (.tmp 9)) (some (82, false)),
      co (some 87) (.binOp .add 3 (.tmp 85) (.tmp 86) 3) (some (82, false)),
      co (some 88) (.binOp .eql 3 (.tmp 87) (.const (.int .i64 0)) 3) (some (82, false)),
      co (some 89) (.pick (.tmp 82) (.const (.bool true)) (.tmp 88)) none,
      co (some 6) (.assign (.tmp 89)) none] [6])
  (.ret)))))))
/-- (*cento/canon.writer).composite -/
def c_canon_writer_composite : CC :=
  .seq (.reg [cn (some 5) (.box 25 (.tmp 2)) none [1],
      co (some 6) (.assign (.const (.bool false))) none] [0, 1, 5])
  (.seq (.reg [co (some 16) (.load 25 (.tmp 5)) none,
      co (some 17) (.call { callee := (.value (.func 131)), args := #[(.tmp 16)], argTypes := #[25] }) none,
      co (some 15) (.move (.tmp 17)) none,
      co (some 18) (.extract (.tmp 15) 0) none,
      co (some 19) (.extract (.tmp 15) 1) none,
      co (some 7) (.assign (.tmp 18)) none,
      co (some 8) (.assign (.tmp 19)) none] [0, 1, 5, 7, 8])
  (.seq (.reg [co (some 20) (.move (.tmp 7)) none,
      co (some 21) (.move (.tmp 8)) none,
      co (some 22) (.binOp .add 3 (.tmp 20) (.tmp 21) 3) none,
      co (some 9) (.assign (.tmp 22)) none] [0, 1, 5, 7, 8, 9])
  (.seq (.reg [co (some 24) (.fieldAddr 25 (.tmp 5) 2) none,
      co (some 25) (.load 23 (.tmp 24)) none,
      co (some 26) (.call { callee := (.builtin .len), args := #[(.tmp 25)], argTypes := #[23] }) none,
      co (some 27) (.move (.tmp 7)) none,
      co (some 28) (.move (.tmp 8)) none,
      co (some 29) (.build 121 #[(0, (.const (.int .i64 1))), (1, (.tmp 26)), (2, (.tmp 27)), (3, (.tmp 28))]) none,
      co (some 30) (.call { callee := (.value (.func 132)), args := #[(.tmp 29)], argTypes := #[121] }) none,
      co (some 23) (.move (.tmp 30)) none,
      co (some 31) (.extract (.tmp 23) 0) none,
      co (some 32) (.extract (.tmp 23) 1) none,
      co (some 10) (.assign (.tmp 31)) none,
      co (some 11) (.assign (.tmp 32)) none] [0, 1, 5, 7, 9, 10, 11])
  (.seq (.seq (.reg [co (some 33) (.move (.tmp 11)) none,
        co (some 34) (.unOp .not 4 (.tmp 33)) none] [0, 1, 5, 7, 9, 10, 11, 34])
    (.cond (.tmp 34)
      (.reg [co (some 10) (.assign (.const (.int .u64 0))) none] [0, 1, 5, 7, 9, 10, 11])
      (.skip)))
  (.keep [0, 1, 5, 7, 9, 10, 11] k1_canon_writer_composite)))))
theorem t_canon_writer_composite : Txt Tryz.prog 97 90 [(.tmp 6)] c_canon_writer_composite := txt_of (code := Tryz.f97.body.getD .ret) mixed (by kernel_rfl) Tryz.func97 (by kernel_rfl) Tryz.ntmps97 (by kernel_rfl) (ls := [([0, 1, 5], [(0, [1])]), ([], []), ([0, 1, 5, 7, 8], []), ([], []), ([0, 1, 5, 7, 8, 9], []), ([], []), ([0, 1, 5, 7, 9, 10, 11], []), ([], []), ([0, 1, 5, 7, 9, 10, 11, 34], []), ([], []), ([0, 1, 5, 7, 9, 10, 11], []), ([999999, 0, 1, 5, 7, 9, 10, 11], []), ([0, 1, 5, 7, 9, 10, 11, 12], []), ([], []), ([0, 1, 5, 7, 9, 11, 12], []), ([], []), ([0, 5, 7, 9, 11, 12, 60], []), ([], []), ([6], []), ([], []), ([999999, 0, 5, 7, 9, 11, 12], []), ([0, 5, 7, 9, 11, 12, 62, 63, 64], []), ([], []), ([0, 5, 7, 9, 11, 12, 62, 63, 64, 65], []), ([], []), ([999999, 0, 5, 7, 9, 11, 12, 62, 63, 64], []), ([0, 5, 7, 9, 11, 12, 13, 14, 62, 63, 64], [(3, [2])]), ([], []), ([0, 5, 7, 9, 11, 12, 62, 63, 64, 79], []), ([], []), ([6], []), ([], []), ([999999, 0, 5, 7, 9, 11, 12, 62, 63, 64], []), ([0, 5, 7, 9, 11, 12, 62, 63, 64], []), ([999999, 5, 9, 11], []), ([6], []), ([], [])]) (by kernel_rfl)
/-- cento/canon.Encode -/
def c_canon_Encode : CC :=
  .seq (.reg [cn (some 2) (.box 25 (.tmp 0)) none [0],
      co (some 4) (.assign (.const (.slice none 0 0))) none,
      co (some 5) (.assign (.const (.bool false))) none] [1, 2])
  (.seq (.seq (.reg [co (some 9) (.load 25 (.tmp 2)) none,
        co (some 10) (.call { callee := (.value (.func 58)), args := #[(.tmp 9)], argTypes := #[25] }) none,
        co (some 11) (.unOp .not 4 (.tmp 10)) none,
        co (some 12) (.move (.tmp 11)) none,
        co (some 13) (.fieldAddr 25 (.tmp 2) 0) (some (12, false)),
        co (some 14) (.load 3 (.tmp 13)) (some (12, false)),
        co (some 15) (.binOp .eql 3 (.tmp 14) (.const (.int .i64 10)) 3) (some (12, false)),
        co (some 16) (.pick (.tmp 12) (.const (.bool true)) (.tmp 15)) none] [1, 2, 16])
    (.cond (.tmp 16)
      (.seq (.reg [co (some 4) (.assign (.const (.slice none 0 0))) none,
          co (some 5) (.assign (.const (.bool false))) none] [4, 5])
      (.ret))
      (.skip)))
  (.keep [1, 2] (.seq (.reg [co (some 17) (.load 25 (.tmp 2)) none,
      co (some 18) (.call { callee := (.value (.func 59)), args := #[(.tmp 17)], argTypes := #[25] }) none,
      co none (.store 25 (.tmp 2) (.tmp 18)) none] [1, 2])
  (.seq (.seq (.reg [co (some 19) (.load 25 (.tmp 2)) none,
        co (some 20) (.call { callee := (.value (.func 60)), args := #[(.tmp 19)], argTypes := #[25] }) none,
        co (some 6) (.assign (.tmp 20)) none] [1, 2, 6])
    (.seq (.reg [co (some 21) (.move (.tmp 6)) none,
        co (some 22) (.move (.tmp 1)) none,
        co (some 23) (.binOp .geq 3 (.tmp 21) (.tmp 22) 3) none,
        co (some 24) (.move (.tmp 23)) none,
        co (some 25) (.move (.tmp 6)) (some (24, false)),
        co (some 26) (.binOp .geq 3 (.tmp 25) (.const (.int .i64 131072)) 3) (some (24, false)),
        co (some 27) (.pick (.tmp 24) (.const (.bool true)) (.tmp 26)) none] [2, 27])
    (.cond (.tmp 27)
      (.seq (.reg [co (some 4) (.assign (.const (.slice none 0 0))) none,
          co (some 5) (.assign (.const (.bool false))) none] [4, 5])
      (.ret))
      (.skip))))
  (.keep [2] (.seq (.reg [co (some 28) (.build 88 #[]) none,
      cn (some 29) (.box 88 (.tmp 28)) none [1],
      co (some 7) (.assign (.tmp 29)) none] [2, 7])
  (.stop (.seq (.reg [co (some 30) (.move (.tmp 7)) none,
      co (some 31) (.move (.tmp 7)) none,
      ⟨some 32, (.call { callee := (.value (.func 62)), args := #[(.tmp 31), (.const (.int .i64 1))], argTypes := #[86, 3] }), none, [], 2, [], true⟩,
      ⟨some 33, (.load 25 (.tmp 2)), none, [], 3, [2], false⟩,
      co (some 34) (.call { callee := (.value (.func 61)), args := #[(.tmp 30), (.tmp 32), (.tmp 33)], argTypes := #[86, 3, 25] }) none,
      co (some 8) (.assign (.tmp 34)) none] [7, 8])
  (.seq (.reg [co (some 35) (.move (.tmp 7)) none,
      co (some 36) (.nilCheck (.tmp 35)) none,
      co (some 37) (.fieldAddr 88 (.tmp 36) 0) none,
      co (some 38) (.load 22 (.tmp 37)) none,
      co (some 39) (.move (.tmp 8)) none,
      co (some 4) (.assign (.tmp 38)) none,
      co (some 5) (.assign (.tmp 39)) none] [4, 5])
  (.ret))))))))))
theorem t_canon_Encode : Txt Tryz.prog 30 40 [(.tmp 4), (.tmp 5)] c_canon_Encode := txt_of (code := Tryz.f30.body.getD .ret) mixed (by kernel_rfl) Tryz.func30 (by kernel_rfl) Tryz.ntmps30 (by kernel_rfl) (ls := [([1, 2], [(0, [0])]), ([], []), ([1, 2, 16], []), ([], []), ([4, 5], []), ([], []), ([999999, 1, 2], []), ([1, 2], []), ([], []), ([1, 2, 6], []), ([], []), ([2, 27], []), ([], []), ([4, 5], []), ([], []), ([999999, 2], []), ([2, 7], [(1, [1])]), ([999998], []), ([7, 8], []), ([], []), ([4, 5], []), ([], [])]) (by kernel_rfl)
/-- (*cento/valid.meter).spend -/
def c_valid_meter_spend : CC :=
  .seq (.reg [co (some 4) (.assign (.const (.bool false))) none] [0, 1])
  (.seq (.seq (.reg [co (some 5) (.move (.tmp 1)) none,
        co (some 6) (.move (.tmp 0)) none,
        co (some 7) (.nilCheck (.tmp 6)) none,
        co (some 8) (.fieldAddr 98 (.tmp 7) 1) none,
        co (some 9) (.load 3 (.tmp 8)) none,
        co (some 10) (.move (.tmp 0)) none,
        co (some 11) (.nilCheck (.tmp 10)) none,
        co (some 12) (.fieldAddr 98 (.tmp 11) 0) none,
        co (some 13) (.load 3 (.tmp 12)) none,
        co (some 14) (.binOp .sub 3 (.tmp 9) (.tmp 13) 3) none,
        co (some 15) (.binOp .gtr 3 (.tmp 5) (.tmp 14) 3) none] [0, 1, 15])
    (.cond (.tmp 15)
      (.seq (.reg [co (some 4) (.assign (.const (.bool false))) none] [4])
      (.ret))
      (.skip)))
  (.keep [0, 1] (.seq (.reg [co (some 16) (.move (.tmp 0)) none,
      co (some 17) (.nilCheck (.tmp 16)) none,
      co (some 18) (.fieldAddr 98 (.tmp 17) 0) none,
      co (some 19) (.load 3 (.tmp 18)) none,
      co (some 20) (.move (.tmp 1)) none,
      co (some 21) (.binOp .add 3 (.tmp 19) (.tmp 20) 3) none,
      co (some 22) (.nilCheck (.tmp 16)) none,
      co (some 23) (.fieldAddr 98 (.tmp 22) 0) none,
      co none (.store 3 (.tmp 23) (.tmp 21)) none] [])
  (.seq (.reg [co (some 4) (.assign (.const (.bool true))) none] [4])
  (.ret)))))
theorem t_valid_meter_spend : Txt Tryz.prog 103 24 [(.tmp 4)] c_valid_meter_spend := txt_of (code := Tryz.f103.body.getD .ret) mixed (by kernel_rfl) Tryz.func103 (by kernel_rfl) Tryz.ntmps103 (by kernel_rfl) (ls := [([0, 1], []), ([], []), ([0, 1, 15], []), ([], []), ([4], []), ([], []), ([999999, 0, 1], []), ([], []), ([], []), ([4], []), ([], [])]) (by kernel_rfl)
/-- cento/valid.own -/
def c_valid_own : CC :=
  .seq (.reg [cn (some 1) (.box 93 (.tmp 0)) none [0],
      co (some 2) (.assign (.const (.int .i64 0))) none] [1])
  (.seq (.block 0
      (.seq (.reg [co (some 6) (.load 93 (.tmp 1)) none,
          co (some 7) (.call { callee := (.value (.func 101)), args := #[(.tmp 6)], argTypes := #[93] }) none,
          co (some 8) (.binOp .eql 3 (.tmp 7) (.const (.int .i64 1)) 3) none,
          co (some 5) (.assign (.tmp 8)) none] [1, 5])
      (.cond (.tmp 5)
        (.seq (.reg [co (some 9) (.load 93 (.tmp 1)) none,
            ⟨some 10, (.call { callee := (.value (.func 137)), args := #[(.tmp 9)], argTypes := #[93] }), none, [], 1, [], true⟩,
            co (some 11) (.binOp .add 3 (.const (.int .i64 1)) (.tmp 10) 3) none,
            ⟨some 12, (.load 93 (.tmp 1)), none, [], 3, [1], false⟩,
            co (some 13) (.call { callee := (.value (.func 102)), args := #[(.tmp 12)], argTypes := #[93] }) none,
            co (some 14) (.binOp .add 3 (.tmp 11) (.tmp 13) 3) none,
            co (some 2) (.assign (.tmp 14)) none] [2])
        (.ret))
        (.seq (.reg [co (some 16) (.load 93 (.tmp 1)) none,
            co (some 17) (.call { callee := (.value (.func 101)), args := #[(.tmp 16)], argTypes := #[93] }) none,
            co (some 18) (.binOp .eql 3 (.tmp 17) (.const (.int .i64 9)) 3) none,
            co (some 15) (.assign (.tmp 18)) none] [1, 15])
        (.cond (.tmp 15)
          (.seq (.reg [co (some 20) (.load 93 (.tmp 1)) none,
              co (some 21) (.call { callee := (.value (.func 138)), args := #[(.tmp 20)], argTypes := #[93] }) none,
              co (some 19) (.move (.tmp 21)) none,
              co (some 22) (.extract (.tmp 19) 0) none,
              co (some 23) (.extract (.tmp 19) 1) none,
              co (some 3) (.assign (.tmp 22)) none,
              co (some 4) (.assign (.tmp 23)) none] [1, 3, 4])
          (.seq (.reg [co (some 24) (.load 93 (.tmp 1)) none,
              co (some 25) (.call { callee := (.value (.func 102)), args := #[(.tmp 24)], argTypes := #[93] }) none,
              co (some 26) (.move (.tmp 3)) none,
              co (some 27) (.binOp .add 3 (.const (.int .i64 1)) (.tmp 26) 3) none,
              co (some 28) (.move (.tmp 4)) none,
              co (some 29) (.binOp .add 3 (.tmp 27) (.tmp 28) 3) none,
              co (some 30) (.binOp .mul 3 (.tmp 25) (.tmp 29) 3) none,
              co (some 31) (.binOp .add 3 (.const (.int .i64 1)) (.tmp 30) 3) none,
              co (some 2) (.assign (.tmp 31)) none] [2])
          (.ret)))
          (.skip))))))
  (.keep [1] (.seq (.reg [co (some 32) (.load 93 (.tmp 1)) none,
      co (some 33) (.call { callee := (.value (.func 102)), args := #[(.tmp 32)], argTypes := #[93] }) none,
      co (some 34) (.binOp .add 3 (.const (.int .i64 1)) (.tmp 33) 3) none,
      co (some 2) (.assign (.tmp 34)) none] [2])
  (.ret))))
theorem t_valid_own : Txt Tryz.prog 104 35 [(.tmp 2)] c_valid_own := txt_of (code := Tryz.f104.body.getD .ret) mixed (by kernel_rfl) Tryz.func104 (by kernel_rfl) Tryz.ntmps104 (by kernel_rfl) (ls := [([1], [(0, [0])]), ([], []), ([1, 5], []), ([], []), ([2], []), ([], []), ([1, 15], []), ([], []), ([1, 3, 4], []), ([], []), ([2], []), ([], []), ([999999, 1], []), ([2], []), ([], [])]) (by kernel_rfl)
def l1_valid_meter_walk : CC :=
  .seq (.reg [co (some 44) (.binOp .lss 3 (.tmp 43) (.tmp 42) 3) none] [0, 4, 7, 42, 43, 44])
  (.seq (.cond (.tmp 44)
      (.skip)
      (.exit 0))
  (.keep [0, 4, 7, 42, 43] (.seq (.block 1
      (.seq (.reg [co (some 45) (.move (.tmp 43)) none,
          co (some 8) (.assign (.tmp 45)) none] [0, 4, 7, 8, 42, 43])
      (.seq (.reg [co (some 46) (.move (.tmp 0)) none,
          co (some 47) (.load 93 (.tmp 4)) none,
          co (some 48) (.move (.tmp 8)) none,
          co (some 49) (.move (.tmp 7)) none,
          co (some 50) (.call { callee := (.value (.func 106)), args := #[(.tmp 46), (.tmp 47), (.tmp 48), (.tmp 49)], argTypes := #[96, 93, 3, 3] }) none,
          co (some 9) (.assign (.tmp 50)) none] [0, 4, 7, 9, 42, 43])
      (.seq (.reg [co (some 51) (.move (.tmp 9)) none,
          co (some 52) (.binOp .neq 45 (.tmp 51) (.const (.int .i64 0)) 45) none] [0, 4, 7, 9, 42, 43, 52])
      (.cond (.tmp 52)
        (.seq (.reg [co (some 53) (.move (.tmp 9)) none,
            co (some 6) (.assign (.tmp 53)) none] [6])
        (.ret))
        (.skip))))))
  (.keep [0, 4, 7, 42, 43] (.reg [co (some 54) (.binOp .add 3 (.tmp 43) (.const (.int .i64 1)) 3) none,
    co (some 43) (.move (.tmp 54)) none] [0, 4, 7, 42, 43])))))
def k1_valid_meter_walk : CC :=
  .seq (.seq (.reg [co (some 25) (.move (.tmp 2)) none,
        co (some 26) (.binOp .lss 3 (.tmp 25) (.const (.int .i64 1)) 3) none,
        co (some 27) (.move (.tmp 26)) none,
        co (some 28) (.move (.tmp 7)) (some (27, false)),
        co (some 29) (.binOp .lss 3 (.tmp 28) (.const (.int .i64 0)) 3) (some (27, false)),
        co (some 30) (.pick (.tmp 27) (.const (.bool true)) (.tmp 29)) none,
        co (some 31) (.move (.tmp 30)) none,
        co (some 32) (.move (.tmp 0)) (some (31, false)),
        co (some 33) (.load 93 (.tmp 4)) (some (31, false)),
        co (some 34) (.call { callee := (.value (.func 104)), args := #[(.tmp 33)], argTypes := #[93] }) (some (31, false)),
        co (some 35) (.call { callee := (.value (.func 103)), args := #[(.tmp 32), (.tmp 34)], argTypes := #[96, 3] }) (some (31, false)),
        co (some 36) (.unOp .not 4 (.tmp 35)) (some (31, false)),
        co (some 37) (.pick (.tmp 31) (.const (.bool true)) (.tmp 36)) none] [0, 4, 7, 37])
    (.cond (.tmp 37)
      (.seq (.reg [co (some 6) (.assign (.const (.int .i64 3))) none] [6])
      (.ret))
      (.skip)))
  (.keep [0, 4, 7] (.seq (.seq (.reg [co (some 38) (.load 93 (.tmp 4)) none,
        co (some 39) (.call { callee := (.value (.func 101)), args := #[(.tmp 38)], argTypes := #[93] }) none,
        co (some 40) (.call { callee := (.value (.func 105)), args := #[(.tmp 39)], argTypes := #[3] }) none] [0, 4, 7, 40])
    (.cond (.tmp 40)
      (.seq (.reg [co (some 6) (.assign (.const (.int .i64 0))) none] [6])
      (.ret))
      (.skip)))
  (.keep [0, 4, 7] (.seq (.seq (.reg [co (some 41) (.load 93 (.tmp 4)) none,
        co (some 42) (.call { callee := (.value (.func 102)), args := #[(.tmp 41)], argTypes := #[93] }) none,
        co (some 43) (.move (.const (.int .i64 0))) none] [0, 4, 7, 42, 43])
    (.block 0
      (.loop l1_valid_meter_walk)))
  (.keep [] (.seq (.reg [co (some 6) (.assign (.const (.int .i64 0))) none] [6])
  (.ret)))))))
/-- (*cento/valid.meter).walk -/
def c_valid_meter_walk : CC :=
  .seq (.reg [cn (some 4) (.box 93 (.tmp 1)) none [1],
      co (some 6) (.assign (.const (.int .i64 0))) none] [0, 2, 4])
  (.seq (.seq (.reg [co (some 10) (.load 93 (.tmp 4)) none,
        co (some 11) (.call { callee := (.value (.func 101)), args := #[(.tmp 10)], argTypes := #[93] }) none,
        co (some 12) (.binOp .eql 3 (.tmp 11) (.const (.int .i64 0)) 3) none] [0, 2, 4, 12])
    (.cond (.tmp 12)
      (.seq (.reg [co (some 6) (.assign (.const (.int .i64 0))) none] [6])
      (.ret))
      (.skip)))
  (.keep [0, 2, 4] (.seq (.reg [co (some 13) (.move (.tmp 2)) none,
      co (some 14) (.binOp .sub 3 (.tmp 13) (.const (.int .i64 1)) 3) none,
      co (some 7) (.assign (.tmp 14)) none] [0, 2, 4, 7])
  (.seq (.seq (.reg [co (some 15) (.load 93 (.tmp 4)) none,
        co (some 16) (.call { callee := (.value (.func 101)), args := #[(.tmp 15)], argTypes := #[93] }) none,
        co (some 17) (.binOp .eql 3 (.tmp 16) (.const (.int .i64 9)) 3) none,
        co (some 18) (.move (.tmp 17)) none,
        co (some 19) (.load 93 (.tmp 4)) (some (18, true)),
        co (some 20) (.call { callee := (.value (.func 102)), args := #[(.tmp 19)], argTypes := #[93] }) (some (18, true)),
        co (some 21) (.binOp .gtr 3 (.tmp 20) (.const (.int .i64 0)) 3) (some (18, true)),
        co (some 22) (.pick (.tmp 18) (.tmp 21) (.const (.bool false))) none] [0, 2, 4, 7, 22])
    (.cond (.tmp 22)
      (.reg [co (some 23) (.move (.tmp 7)) none,
        co (some 24) (.binOp .sub 3 (.tmp 23) (.const (.int .i64 1)) 3) none,
        co (some 7) (.assign (.tmp 24)) none] [0, 2, 4, 7])
      (.skip)))
  (.keep [0, 2, 4, 7] k1_valid_meter_walk)))))
theorem t_valid_meter_walk : Txt Tryz.prog 65 55 [(.tmp 6)] c_valid_meter_walk := txt_of (code := Tryz.f65.body.getD .ret) mixed (by kernel_rfl) Tryz.func65 (by kernel_rfl) Tryz.ntmps65 (by kernel_rfl) (ls := [([0, 2, 4], [(0, [1])]), ([], []), ([0, 2, 4, 12], []), ([], []), ([6], []), ([], []), ([999999, 0, 2, 4], []), ([0, 2, 4, 7], []), ([], []), ([0, 2, 4, 7, 22], []), ([], []), ([0, 2, 4, 7], []), ([999999, 0, 2, 4, 7], []), ([0, 4, 7, 37], []), ([], []), ([6], []), ([], []), ([999999, 0, 4, 7], []), ([0, 4, 7, 40], []), ([], []), ([6], []), ([], []), ([999999, 0, 4, 7], []), ([0, 4, 7, 42, 43], []), ([], []), ([0, 4, 7, 42, 43, 44], []), ([], []), ([999999, 0, 4, 7, 42, 43], []), ([0, 4, 7, 8, 42, 43], []), ([], []), ([0, 4, 7, 9, 42, 43], []), ([], []), ([0, 4, 7, 9, 42, 43, 52], []), ([], []), ([6], []), ([], []), ([999999, 0, 4, 7, 42, 43], []), ([0, 4, 7, 42, 43], []), ([999999], []), ([6], []), ([], [])]) (by kernel_rfl)
def l1_valid_meter_kid : CC :=
  .seq (.reg [co (some 32) (.binOp .lss 3 (.tmp 31) (.tmp 30) 3) none] [0, 3, 9, 30, 31, 32])
  (.seq (.cond (.tmp 32)
      (.skip)
      (.exit 0))
  (.keep [0, 3, 9, 30, 31] (.seq (.block 1
      (.seq (.reg [co (some 33) (.move (.tmp 31)) none,
          co (some 11) (.assign (.tmp 33)) none] [0, 3, 9, 11, 30, 31])
      (.seq (.reg [co (some 34) (.move (.tmp 0)) none,
          co (some 35) (.load 93 (.tmp 9)) none,
          co (some 36) (.move (.tmp 11)) none,
          co (some 37) (.move (.tmp 3)) none,
          co (some 38) (.call { callee := (.value (.func 106)), args := #[(.tmp 34), (.tmp 35), (.tmp 36), (.tmp 37)], argTypes := #[96, 93, 3, 3] }) none,
          co (some 12) (.assign (.tmp 38)) none] [0, 3, 9, 12, 30, 31])
      (.seq (.reg [co (some 39) (.move (.tmp 12)) none,
          co (some 40) (.binOp .neq 45 (.tmp 39) (.const (.int .i64 0)) 45) none] [0, 3, 9, 12, 30, 31, 40])
      (.cond (.tmp 40)
        (.seq (.reg [co (some 41) (.move (.tmp 12)) none,
            co (some 8) (.assign (.tmp 41)) none] [8])
        (.ret))
        (.skip))))))
  (.keep [0, 3, 9, 30, 31] (.reg [co (some 42) (.binOp .add 3 (.tmp 31) (.const (.int .i64 1)) 3) none,
    co (some 31) (.move (.tmp 42)) none] [0, 3, 9, 30, 31])))))
/-- (*cento/valid.meter).kid -/
def c_valid_meter_kid : CC :=
  .seq (.reg [cn (some 5) (.box 93 (.tmp 1)) none [1],
      co (some 8) (.assign (.const (.int .i64 0))) none] [0, 2, 3, 5])
  (.seq (.reg [co (some 14) (.load 93 (.tmp 5)) none,
      co (some 15) (.move (.tmp 2)) none,
      co (some 16) (.call { callee := (.value (.func 139)), args := #[(.tmp 14), (.tmp 15)], argTypes := #[93, 3] }) none,
      co (some 13) (.move (.tmp 16)) none,
      co (some 17) (.extract (.tmp 13) 0) none,
      co (some 18) (.extract (.tmp 13) 1) none,
      cn (some 9) (.alloc 93) none [2],
      co none (.store 93 (.tmp 9) (.tmp 17)) none,
      co (some 10) (.assign (.tmp 18)) none] [0, 3, 5, 9, 10])
  (.seq (.seq (.reg [co (some 19) (.move (.tmp 10)) none,
        co (some 20) (.binOp .neq 45 (.tmp 19) (.const (.int .i64 0)) 45) none] [0, 3, 5, 9, 10, 20])
    (.cond (.tmp 20)
      (.seq (.reg [co (some 21) (.move (.tmp 10)) none,
          co (some 8) (.assign (.tmp 21)) none] [8])
      (.ret))
      (.skip)))
  (.keep [0, 3, 5, 9] (.seq (.seq (.reg [co (some 22) (.load 93 (.tmp 5)) none,
        co (some 23) (.call { callee := (.value (.func 101)), args := #[(.tmp 22)], argTypes := #[93] }) none,
        co (some 24) (.binOp .neq 3 (.tmp 23) (.const (.int .i64 9)) 3) none] [0, 3, 9, 24])
    (.cond (.tmp 24)
      (.seq (.reg [co (some 25) (.move (.tmp 0)) none,
          co (some 26) (.load 93 (.tmp 9)) none,
          co (some 27) (.move (.tmp 3)) none,
          co (some 28) (.call { callee := (.value (.func 65)), args := #[(.tmp 25), (.tmp 26), (.tmp 27)], argTypes := #[96, 93, 3] }) none,
          co (some 8) (.assign (.tmp 28)) none] [8])
      (.ret))
      (.skip)))
  (.keep [0, 3, 9] (.seq (.seq (.reg [co (some 29) (.load 93 (.tmp 9)) none,
        co (some 30) (.call { callee := (.value (.func 102)), args := #[(.tmp 29)], argTypes := #[93] }) none,
        co (some 31) (.move (.const (.int .i64 0))) none] [0, 3, 9, 30, 31])
    (.block 0
      (.loop l1_valid_meter_kid)))
  (.keep [] (.seq (.reg [co (some 8) (.assign (.const (.int .i64 0))) none] [8])
  (.ret)))))))))
theorem t_valid_meter_kid : Txt Tryz.prog 106 43 [(.tmp 8)] c_valid_meter_kid := txt_of (code := Tryz.f106.body.getD .ret) mixed (by kernel_rfl) Tryz.func106 (by kernel_rfl) Tryz.ntmps106 (by kernel_rfl) (ls := [([0, 2, 3, 5], [(0, [1])]), ([], []), ([0, 3, 5, 9, 10], [(6, [2])]), ([], []), ([0, 3, 5, 9, 10, 20], []), ([], []), ([8], []), ([], []), ([999999, 0, 3, 5, 9], []), ([0, 3, 9, 24], []), ([], []), ([8], []), ([], []), ([999999, 0, 3, 9], []), ([0, 3, 9, 30, 31], []), ([], []), ([0, 3, 9, 30, 31, 32], []), ([], []), ([999999, 0, 3, 9, 30, 31], []), ([0, 3, 9, 11, 30, 31], []), ([], []), ([0, 3, 9, 12, 30, 31], []), ([], []), ([0, 3, 9, 12, 30, 31, 40], []), ([], []), ([8], []), ([], []), ([999999, 0, 3, 9, 30, 31], []), ([0, 3, 9, 30, 31], []), ([999999], []), ([8], []), ([], [])]) (by kernel_rfl)
/-- cento/valid.Limits -/
def c_valid_Limits : CC :=
  .seq (.reg [cn (some 1) (.box 58 (.tmp 0)) none [0],
      cn (some 2) (.alloc 58) none [1]] [1, 2])
  (.seq (.reg [co (some 3) (.fieldAddr 58 (.tmp 1) 0) none,
      co (some 4) (.load 3 (.tmp 3)) none,
      co (some 5) (.call { callee := (.builtin .max), args := #[(.tmp 4), (.const (.int .i64 0))], argTypes := #[3, 3] }) none,
      co (some 6) (.call { callee := (.builtin .min), args := #[(.tmp 5), (.const (.int .i64 64))], argTypes := #[3, 3] }) none,
      co (some 7) (.fieldAddr 58 (.tmp 1) 1) none,
      co (some 8) (.load 3 (.tmp 7)) none,
      co (some 9) (.call { callee := (.builtin .max), args := #[(.tmp 8), (.const (.int .i64 0))], argTypes := #[3, 3] }) none,
      co (some 10) (.call { callee := (.builtin .min), args := #[(.tmp 9), (.const (.int .i64 65536))], argTypes := #[3, 3] }) none,
      co (some 11) (.fieldAddr 58 (.tmp 1) 2) none,
      co (some 12) (.load 3 (.tmp 11)) none,
      co (some 13) (.call { callee := (.builtin .max), args := #[(.tmp 12), (.const (.int .i64 0))], argTypes := #[3, 3] }) none,
      co (some 14) (.call { callee := (.builtin .min), args := #[(.tmp 13), (.const (.int .i64 4096))], argTypes := #[3, 3] }) none,
      co (some 15) (.fieldAddr 58 (.tmp 1) 3) none,
      co (some 16) (.load 3 (.tmp 15)) none,
      co (some 17) (.call { callee := (.builtin .max), args := #[(.tmp 16), (.const (.int .i64 0))], argTypes := #[3, 3] }) none,
      co (some 18) (.call { callee := (.builtin .min), args := #[(.tmp 17), (.const (.int .i64 131072))], argTypes := #[3, 3] }) none,
      co (some 19) (.build 58 #[(0, (.tmp 6)), (1, (.tmp 10)), (2, (.tmp 14)), (3, (.tmp 18))]) none,
      co none (.store 58 (.tmp 2) (.tmp 19)) none] [2])
  (.ret))
theorem t_valid_Limits : Txt Tryz.prog 63 20 [(.cell 2 58)] c_valid_Limits := txt_of (code := Tryz.f63.body.getD .ret) mixed (by kernel_rfl) Tryz.func63 (by kernel_rfl) Tryz.ntmps63 (by kernel_rfl) (ls := [([1, 2], [(0, [0]), (1, [1])]), ([], []), ([2], []), ([], [])]) (by kernel_rfl)
/-- cento/valid.Check -/
def c_valid_Check : CC :=
  .seq (.reg [cn (some 3) (.box 58 (.tmp 1)) none [0],
      co (some 4) (.assign (.const (.int .i64 0))) none,
      co (some 5) (.assign (.const (.int .i64 0))) none] [0, 3])
  (.seq (.reg [co (some 10) (.load 58 (.tmp 3)) none,
      co (some 11) (.call { callee := (.value (.func 63)), args := #[(.tmp 10)], argTypes := #[58] }) none,
      co none (.store 58 (.tmp 3) (.tmp 11)) none] [0, 3])
  (.seq (.reg [co (some 13) (.move (.tmp 0)) none,
      co (some 14) (.call { callee := (.value (.func 64)), args := #[(.tmp 13)], argTypes := #[54] }) none,
      co (some 12) (.move (.tmp 14)) none,
      co (some 15) (.extract (.tmp 12) 0) none,
      co (some 16) (.extract (.tmp 12) 1) none,
      cn (some 6) (.alloc 93) none [1],
      co none (.store 93 (.tmp 6) (.tmp 15)) none,
      co (some 7) (.assign (.tmp 16)) none] [3, 6, 7])
  (.seq (.seq (.reg [co (some 17) (.move (.tmp 7)) none,
        co (some 18) (.binOp .neq 45 (.tmp 17) (.const (.int .i64 0)) 45) none] [3, 6, 7, 18])
    (.cond (.tmp 18)
      (.seq (.reg [co (some 19) (.move (.tmp 7)) none,
          co (some 4) (.assign (.const (.int .i64 0))) none,
          co (some 5) (.assign (.tmp 19)) none] [4, 5])
      (.ret))
      (.skip)))
  (.keep [3, 6] (.seq (.reg [co (some 20) (.fieldAddr 58 (.tmp 3) 1) none,
      co (some 21) (.load 3 (.tmp 20)) none,
      co (some 22) (.build 98 #[(1, (.tmp 21))]) none,
      cn (some 23) (.box 98 (.tmp 22)) none [2],
      co (some 8) (.assign (.tmp 23)) none] [3, 6, 8])
  (.seq (.seq (.reg [co (some 24) (.move (.tmp 8)) none,
        co (some 25) (.load 93 (.tmp 6)) none,
        co (some 26) (.fieldAddr 58 (.tmp 3) 0) none,
        co (some 27) (.load 3 (.tmp 26)) none,
        co (some 28) (.call { callee := (.value (.func 65)), args := #[(.tmp 24), (.tmp 25), (.tmp 27)], argTypes := #[96, 93, 3] }) none,
        co (some 9) (.assign (.tmp 28)) none] [8, 9])
    (.seq (.reg [co (some 29) (.move (.tmp 9)) none,
        co (some 30) (.binOp .neq 45 (.tmp 29) (.const (.int .i64 0)) 45) none] [8, 9, 30])
    (.cond (.tmp 30)
      (.seq (.reg [co (some 31) (.move (.tmp 9)) none,
          co (some 4) (.assign (.const (.int .i64 0))) none,
          co (some 5) (.assign (.tmp 31)) none] [4, 5])
      (.ret))
      (.skip))))
  (.keep [8] (.seq (.reg [co (some 32) (.move (.tmp 8)) none,
      co (some 33) (.nilCheck (.tmp 32)) none,
      co (some 34) (.fieldAddr 98 (.tmp 33) 0) none,
      co (some 35) (.load 3 (.tmp 34)) none,
      co (some 4) (.assign (.tmp 35)) none,
      co (some 5) (.assign (.const (.int .i64 0))) none] [4, 5])
  (.ret)))))))))
theorem t_valid_Check : Txt Tryz.prog 31 36 [(.tmp 4), (.tmp 5)] c_valid_Check := txt_of (code := Tryz.f31.body.getD .ret) mixed (by kernel_rfl) Tryz.func31 (by kernel_rfl) Tryz.ntmps31 (by kernel_rfl) (ls := [([0, 3], [(0, [0])]), ([], []), ([0, 3], []), ([], []), ([3, 6, 7], [(5, [1])]), ([], []), ([3, 6, 7, 18], []), ([], []), ([4, 5], []), ([], []), ([999999, 3, 6], []), ([3, 6, 8], [(3, [2])]), ([], []), ([8, 9], []), ([], []), ([8, 9, 30], []), ([], []), ([4, 5], []), ([], []), ([999999, 8], []), ([4, 5], []), ([], [])]) (by kernel_rfl)
/-- (cento/reader.Ref).Frame -/
def c_reader_Ref_Frame : CC :=
  .seq (.reg [cn (some 1) (.box 93 (.tmp 0)) none [0],
      co (some 2) (.assign (.const (.int .i64 0))) none,
      co (some 3) (.assign (.const (.int .i64 0))) none] [1])
  (.seq (.seq (.reg [co (some 4) (.fieldAddr 93 (.tmp 1) 1) none,
        co (some 5) (.load 3 (.tmp 4)) none,
        co (some 6) (.binOp .neq 3 (.tmp 5) (.const (.int .i64 9)) 3) none] [1, 6])
    (.cond (.tmp 6)
      (.seq (.reg [co (some 2) (.assign (.const (.int .i64 0))) none,
          co (some 3) (.assign (.const (.int .i64 0))) none] [2, 3])
      (.ret))
      (.skip)))
  (.keep [1] (.seq (.reg [co (some 7) (.fieldAddr 93 (.tmp 1) 4) none,
      co (some 8) (.load 3 (.tmp 7)) none,
      co (some 9) (.fieldAddr 93 (.tmp 1) 5) none,
      co (some 10) (.load 3 (.tmp 9)) none,
      co (some 2) (.assign (.tmp 8)) none,
      co (some 3) (.assign (.tmp 10)) none] [2, 3])
  (.ret))))
theorem t_reader_Ref_Frame : Txt Tryz.prog 138 11 [(.tmp 2), (.tmp 3)] c_reader_Ref_Frame := txt_of (code := Tryz.f138.body.getD .ret) mixed (by kernel_rfl) Tryz.func138 (by kernel_rfl) Tryz.ntmps138 (by kernel_rfl) (ls := [([1], [(0, [0])]), ([], []), ([1, 6], []), ([], []), ([2, 3], []), ([], []), ([999999, 1], []), ([2, 3], []), ([], [])]) (by kernel_rfl)
/-- cento/centolaw39.CostPatch -/
def c_centolaw39_CostPatch : CC :=
  .seq (.reg [cn (some 1) (.box 30 (.tmp 0)) none [0],
      co (some 2) (.assign (.const (.bool false))) none] [1])
  (.seq (.seq (.reg [co (some 5) (.load 30 (.tmp 1)) none,
        co (some 6) (.call { callee := (.value (.func 8)), args := #[(.tmp 5)], argTypes := #[30] }) none,
        co (some 7) (.unOp .not 4 (.tmp 6)) none] [1, 7])
    (.cond (.tmp 7)
      (.seq (.reg [co (some 8) (.call { callee := (.value (.func 9)), args := #[], argTypes := #[] }) none,
          co (some 2) (.assign (.tmp 8)) none] [2])
      (.ret))
      (.skip)))
  (.keep [1] (.seq (.reg [co (some 10) (.load 30 (.tmp 1)) none,
      co (some 11) (.call { callee := (.value (.func 10)), args := #[(.tmp 10), (.const (.int .i64 131072))], argTypes := #[30, 3] }) none,
      co (some 9) (.move (.tmp 11)) none,
      co (some 12) (.extract (.tmp 9) 0) none,
      co (some 13) (.extract (.tmp 9) 1) none,
      co (some 3) (.assign (.tmp 12)) none,
      co (some 4) (.assign (.tmp 13)) none] [1, 3, 4])
  (.seq (.reg [co (some 14) (.move (.tmp 4)) none,
      co (some 15) (.unOp .not 4 (.tmp 14)) none,
      co (some 16) (.move (.tmp 15)) none,
      co (some 17) (.move (.tmp 3)) (some (16, false)),
      co (some 18) (.call { callee := (.builtin .len), args := #[(.tmp 17)], argTypes := #[22] }) (some (16, false)),
      co (some 19) (.load 30 (.tmp 1)) (some (16, false)),
      co (some 20) (.call { callee := (.value (.func 11)), args := #[(.tmp 19)], argTypes := #[30] }) (some (16, false)),
      co (some 21) (.binOp .eql 3 (.tmp 18) (.tmp 20) 3) (some (16, false)),
      co (some 22) (.pick (.tmp 16) (.const (.bool true)) (.tmp 21)) none,
      co (some 23) (.move (.tmp 22)) none,
      co (some 24) (.call { callee := (.value (.func 9)), args := #[], argTypes := #[] }) (some (23, true)),
      co (some 25) (.pick (.tmp 23) (.tmp 24) (.const (.bool false))) none,
      co (some 2) (.assign (.tmp 25)) none] [2])
  (.ret)))))
theorem t_centolaw39_CostPatch : Txt Tryz.prog 3 26 [(.tmp 2)] c_centolaw39_CostPatch := txt_of (code := Tryz.f3.body.getD .ret) mixed (by kernel_rfl) Tryz.func3 (by kernel_rfl) Tryz.ntmps3 (by kernel_rfl) (ls := [([1], [(0, [0])]), ([], []), ([1, 7], []), ([], []), ([2], []), ([], []), ([999999, 1], []), ([1, 3, 4], []), ([], []), ([2], []), ([], [])]) (by kernel_rfl)
end Go.Proofs.YthfiijdbnkaabaaGreat

/-
  The program's trees: which ones are right, and which mean the same.
-/
namespace Go.Proofs.YthfiijdbnkaabaaGreat
set_option linter.unusedVariables false
set_option linter.unusedSimpArgs false
open Go Go.G Go.Proofs Go.PL
theorem pFits_spec {c n : Int} (h : u64R n) : G.Spec Tryz.prog 134 [iv c, uv n] (bv (fitsZ c n)) := by
  refine spec_of t_word_Fits (by simp) fun w0 I0 => ?_
  unfold c_word_Fits
  simp
  refine sc_call (width_spec c) rfl ?_
  have hw := widthZ_cases c
  unfold fitsZ
  rcases hw with h1 | h1 | h1 | h1 | h1 | h1 | h1
  all_goals
    rw [h1]
    simp
    refine frz_bool ?_
  all_goals try rfl
  all_goals
    obtain ⟨n0, n1⟩ := h
    have hb : IntKind.u64.bits = 64 := rfl
    simp [hb]
  all_goals omega
theorem tList_spec (k : Int) : G.Spec Tryz.prog 91 [iv k] (bv (decide (2 ≤ k) && decide (k ≤ 9))) := by
  refine spec_of t_tree_List (by simp) fun w0 I0 => ?_
  unfold c_tree_List
  simp
  exact frz_bare rfl
/-- May a tree be a kid of a list, by its own kind? -/
def pkid (list : Int) (t : T) : Bool := if isData list = true then decide (t.kind = 10) && t.kids.isEmpty && decide (t.words.length = 1) && fitsZ (list - 2) (t.words.headD 0) else if list = 9 then decide (t.kind = 1) else !decide (t.kind = 10)
theorem pkid_eq {list : Int} {t : T} {d : Nat} (h1 : list ≠ 1) : (pkid list t && rightT d t) = (rightT d t && kidOk list t) := by
  unfold pkid kidOk
  cases hd : isData list with
  | true =>
    simp only [if_true]
    by_cases h10 : t.kind = 10
    · have e : rightT d t = (decide (t.words.length = 1) && t.kids.isEmpty) := by
        obtain ⟨k, w, l⟩ := t
        simp at h10
        subst h10
        rw [rightT_mk]
        rfl
      have n9 : list ≠ 9 := fun e => by subst e; simp [isData] at hd
      rw [e]
      simp [h10, n9]
      cases decide (t.words.length = 1) <;> cases t.kids.isEmpty <;> simp
    · simp [h10]
  | false =>
    simp
    by_cases h9 : list = 9
    · subst h9
      simp
      cases h : rightT d t <;> simp
      by_cases h1 : t.kind = 1 <;> simp [h1]
    · simp [h9]
      cases h : rightT d t <;> simp
theorem pKid_spec (list : Int) (hl : i64R list) {t : T} (h : wfT t) : G.Spec Tryz.prog 129 [iv list, tX t] (bv (pkid list t)) := by
  have hw := wfT_iff.1 h
  refine spec_of t_tree_kid (by simp) fun w0 I0 => ?_
  unfold c_tree_kid
  simp
  refine sc_call (data_spec list) rfl ?_
  cases hd : isData list with
  | false =>
    simp
    by_cases h9 : list = 9
    · simp [h9]
      refine frz_bool ?_
      simp [pkid, isData]
    · simp [h9]
      refine frz_bool ?_
      simp [pkid, hd, h9]
  | true =>
    have hd' := hd
    simp [isData] at hd'
    by_cases hc : t.kind = 10 ∧ t.kids = [] ∧ t.words.length = 1
    · obtain ⟨c1, c2, c3⟩ := hc
      obtain ⟨x, hx⟩ : ∃ x, t.words = [x] := List.length_eq_one_iff.1 c3
      have hxr : u64R x := hw.w x (by rw [hx]; simp)
      have e2 : IntKind.i64.wrap (list - 2) = list - 2 := i64_same (by omega) (by omega)
      simp [c1, c2, hx, e2]
      refine sc_call_gt rfl (fun _ => pFits_spec hxr) (fun _ => rfl) rfl ?_
      simp
      refine frz_bool ?_
      simp [pkid, hd, c1, c2, hx]
    · have hp : pkid list t = false := by
        unfold pkid
        rw [if_pos hd]
        rw [Bool.eq_false_iff]
        intro e
        simp at e
        exact hc ⟨e.1.1.1, e.1.1.2, e.1.2⟩
      by_cases c1 : t.kind = 10
      · by_cases c2 : t.kids = []
        · have c3 : ¬ t.words.length = 1 := fun e => hc ⟨c1, c2, e⟩
          have c3' : ¬ (t.words.length : Int) = 1 := by omega
          simp [c1, c2, c3, c3']
          refine sc_call_off rfl ?_
          simp
          rw [hp]
          exact frz_bare rfl
        · have c2' : ¬ (t.kids.length : Int) = 0 := fun e => c2 (List.length_eq_zero_iff.1 (by omega))
          simp [c1, c2, c2']
          refine sc_call_off rfl ?_
          simp
          rw [hp]
          exact frz_bare rfl
      · simp [c1]
        refine sc_call_off rfl ?_
        simp
        rw [hp]
        exact frz_bare rfl
section
variable {n0 : Nat} {w0 : World} {I0 : Nat → Prop} {Q : Exit → Sta → Prop}
theorem pright_k1 {Q' : Exit → Sta → Prop} {c : T} {d : Nat} {b : Bool} {u : Nat} {p x y z : A} {H : Hp} (hd : 1 ≤ d) (hd1 : d ≤ 1000) (ihc : G.Spec Tryz.prog 93 [tX c, iv (d - 1 : Nat)] (bv (rightT (d - 1) c))) (hB : H [1] = ⟨u, .cells (tL c)⟩)
    (h1 : (b && rightT (d - 1) c) = true → Q' .normal ⟨lk [(1, iv d), (2, p), (71, x), (72, y), (73, z), (95, bv false)], H⟩) (h2 : (b && rightT (d - 1) c) = false → Q' .ret ⟨lk [(4, bv false)], H⟩) :
    WPC (cx Tryz.prog w0 I0 n0) k1_tree_right Q' ⟨lk [(1, iv d), (2, p), (6, .pob [1] u 0), (7, bv b), (71, x), (72, y), (73, z)], H⟩ := by
  rw [k1_tree_right.eq_1]
  have ed : IntKind.i64.wrap ((d : Int) - 1) = ((d - 1 : Nat) : Int) := by rw [i64_same (by omega) (by omega)]; omega
  cases b with
  | false =>
    simp
    refine sc_call_off rfl ?_
    simp
    exact h2 rfl
  | true =>
    simp [hB, ed]
    refine sc_call_gf rfl (fun _ => ihc) (fun _ => rfl) rfl ?_
    cases hr : rightT (d - 1) c with
    | false => simp; exact h2 (by simp [hr])
    | true => simp; exact h1 (by simp [hr])
theorem pright_l1 {t : T} (hk : i64R t.kind) (hl : t.kids.length * 56 ≤ 140737488355328) {d : Nat} (hd : 1 ≤ d) (hd1 : d ≤ 1000) (hw : ∀ c, c ∈ t.kids → wfT c) (ih : ∀ c, c ∈ t.kids → ∀ d : Nat, d ≤ 1000 → G.Spec Tryz.prog 93 [tX c, iv d] (bv (rightT d c))) : ∀ (m i : Nat) (H : Hp), i + m = t.kids.length → H [0] = ⟨1, .cells (tL t)⟩ →
    (rightL (d - 1) t.kind (t.kids.drop i) = true → ∀ i' q H', Q (.exit 1) ⟨lk [(1, iv d), (2, .pob [0] 1 0), (71, tKs t.kids), (72, iv t.kids.length), (73, iv i'), (74, bv q)], H'⟩) → (rightL (d - 1) t.kind (t.kids.drop i) = false → ∀ H', Q .ret ⟨lk [(4, bv false)], H'⟩) →
    LoopC (cx Tryz.prog w0 I0 n0) l1_tree_right Q ⟨lk [(1, iv d), (2, .pob [0] 1 0), (71, tKs t.kids), (72, iv t.kids.length), (73, iv i)], H⟩ := by
  intro m
  induction m with
  | zero =>
    intro i H hi hA h1 h2
    have : i = t.kids.length := by omega
    subst this
    refine loopC_once mixed l1_tree_right.eq_1 ?_
    simp
    exact h1 (by simp) _ _ _
  | succ m ihm =>
    intro i H hi hA h1 h2
    have hlt : i < t.kids.length := by omega
    have e : t.kids.drop i = t.kids[i] :: t.kids.drop (i + 1) := List.drop_eq_getElem_cons hlt
    have ei : IntKind.i64.wrap ((i : Int) + 1) = ((i + 1 : Nat) : Int) := i64_same (by omega) (by omega)
    rw [e, rightL_cons] at h1 h2
    have hwc := hw _ (List.getElem_mem hlt)
    have ihc := ih _ (List.getElem_mem hlt) (d - 1) (by omega)
    generalize hc : t.kids[i] = c at *
    refine loopC_once mixed l1_tree_right.eq_1 ?_
    simp [hA, hlt, hc, updF_app]
    refine ⟨fun h10 => ?_, fun h10 => ?_⟩
    · have ek : kidOk t.kind c = !decide (c.kind = 10) := by
        unfold kidOk
        rw [h10]
        by_cases e : c.kind = 10 <;> simp [isData, e]
      try simp [hA, updF_app, h10]
      refine pright_k1 (c := c) hd hd1 ihc (by simp [updF_app]) (fun hr => ?_) (fun hr => ?_)
      · simp [ei]
        refine ihm (i + 1) _ (by omega) (by simp [updF_app, hA]) (fun hh => h1 ?_) (fun hh => h2 ?_)
        · rw [ek, hh]; simpa using And.comm.1 (by simpa using hr)
        · rw [hh]; simp
      · simp
        refine h2 ?_ _
        rw [ek]
        have : (rightT (d - 1) c && !decide (c.kind = 10)) = false := by rw [Bool.and_comm]; simpa using hr
        rw [this]; rfl
    · have ek := pkid_eq (t := c) (d := d - 1) h10
      simp [hA, updF_app, h10]
      refine sc_call (pKid_spec t.kind hk hwc) rfl ?_
      simp
      refine pright_k1 (c := c) hd hd1 ihc (by simp [updF_app]) (fun hr => ?_) (fun hr => ?_)
      · simp [ei]
        rw [ek] at hr
        refine ihm (i + 1) _ (by omega) (by simp [updF_app, hA]) (fun hh => h1 ?_) (fun hh => h2 ?_)
        · rw [hr, hh]; rfl
        · rw [hh]; simp
      · simp
        refine h2 ?_ _
        rw [ek] at hr
        rw [hr]; rfl
end
theorem pRight_spec : ∀ (t : T), wfT t → ∀ d : Nat, d ≤ 1000 → G.Spec Tryz.prog 93 [tX t, iv d] (bv (rightT d t)) := by
  refine T.ind fun k w l ih hw d hd => ?_
  have hw' := wfT_iff.1 hw
  have hwl := hw'.wl
  have hkl := hw'.kl
  have hk := hw'.k
  simp at hwl hkl hk
  refine spec_of t_tree_right (by simp) fun w0 I0 => ?_
  unfold c_tree_right
  rw [rightT_mk]
  by_cases h0 : k = 0
  · simp [h0]
    exact frz_bool (by cases w <;> cases l <;> simp <;> (rw [← List.length_eq_zero_iff]; omega))
  by_cases h10 : k = 10
  · simp [h10]
    exact frz_bool (by cases w <;> cases l <;> simp <;> (rw [← List.length_eq_zero_iff]; omega))
  rw [if_neg h0, if_neg h10]
  obtain ⟨R, hR⟩ : ∃ R, R = (if tooBig k d w.length l.length = true then false else rightL (d - 1) k l) := ⟨_, rfl⟩
  rw [← hR]
  have bad : tooBig k d w.length l.length = true → R = false := fun h => by rw [hR, if_pos h]
  by_cases hd0 : d = 0
  · subst hd0
    simp [h0, h10]
    exact frz_bool (bad (by simp [tooBig])).symm
  have fin : tooBig k d w.length l.length = false → WPC (cx Tryz.prog w0 I0 97) k2_tree_right (RetC Tryz.prog [.tmp 4] (bv R)) ⟨lk [(1, iv d), (2, .pob [0] 1 0)], lkH [([0], ⟨1, .cells [iv k, uws w, tKs l]⟩)]⟩ := fun hb => by
    rw [if_neg (by rw [hb]; simp)] at hR
    subst hR
    rw [k2_tree_right.eq_1]
    simp
    refine pright_l1 (t := .mk k w l) (by simpa using hk) (by simpa using hkl) (by omega) hd (fun c hc => hw'.ks c hc) (fun c hc => ih c hc (hw'.ks c hc)) l.length 0 _ (by simp) (by simp) (fun hr i' q H' => ?_) (fun hr H' => ?_)
    · simp
      exact frz_bool (by simpa using hr.symm)
    · simp
      exact frz_bool (by simpa using hr.symm)
  by_cases h1 : k = 1
  · subst h1
    by_cases hb : 65536 ≤ w.length ∨ 65536 ≤ l.length
    · have hb' : (decide (65536 ≤ (w.length : Int)) || decide (65536 ≤ (l.length : Int))) = true := by simp; omega
      simp [hd0, hb']
      exact frz_bool (bad (by simp [tooBig]; omega)).symm
    · have hb' : (decide (65536 ≤ (w.length : Int)) || decide (65536 ≤ (l.length : Int))) = false := by simp; omega
      simp [hd0, hb']
      exact fin (by simp [tooBig]; omega)
  · simp [h0, h10, h1, hd0]
    refine sc_call (tList_spec k) rfl ?_
    simp
    refine ⟨fun hc => ?_, fun a b c e => ?_⟩
    · exact frz_bool (bad (by simp [tooBig]; omega)).symm
    · refine fin ?_
      rw [Bool.eq_false_iff]
      unfold tooBig
      simp only [Bool.or_eq_true, Bool.and_eq_true, decide_eq_true_eq, ne_eq]
      have hl0 : w.length = 0 := by first | omega | simp [c]
      omega
theorem ptRight_spec {t : T} (h : wfT t) : G.Spec Tryz.prog 58 [tX t] (bv (rightT 64 t)) := by
  refine spec_of t_tree_Right (by simp) fun w0 I0 => ?_
  unfold c_tree_Right
  simp
  refine sc_call (pRight_spec t h 64 (by omega)) (by simp) ?_
  simp
  exact frz_bare rfl
end Go.Proofs.YthfiijdbnkaabaaGreat

/-
  Chapter 29: the maker of trees; the first error stays.
-/
namespace Go.Proofs.YthfiijdbnkaabaaGreat
set_option linter.unusedVariables false
set_option linter.unusedSimpArgs false
open Go Go.G Go.Proofs Go.PL
abbrev z0 : List A := [iv 0, .sl true [], .sl true []]
theorem famA_pa (l : List (List Int)) (r : Rf) : FamA (fun _ => paX l r) := famL_ref l r
end Go.Proofs.YthfiijdbnkaabaaGreat

/-
  The program's trees: the Norm, and how many words they take.
-/
namespace Go.Proofs.YthfiijdbnkaabaaGreat
set_option linter.unusedVariables false
set_option linter.unusedSimpArgs false
open Go Go.G Go.Proofs Go.PL
section
variable {n0 : Nat} {w0 : World} {I0 : Nat → Prop} {Q : Exit → Sta → Prop}
theorem tframe_l1 {l : List T} (hl : l.length * 56 ≤ 140737488355328) : ∀ (m i a b : Nat) (H : Hp), i + m = l.length →
    (∀ i' q (x y : Nat) H', x = max a (frameW (l.drop i)) → y = max b (frameK (l.drop i)) → Q (.exit 0) ⟨lk [(4, iv x), (5, iv y), (9, tKs l), (10, iv l.length), (11, iv i'), (12, bv q)], H'⟩) →
    LoopC (cx Tryz.prog w0 I0 n0) l1_tree_Frame Q ⟨lk [(4, iv a), (5, iv b), (9, tKs l), (10, iv l.length), (11, iv i)], H⟩ := by
  intro m
  induction m with
  | zero =>
    intro i a b H hi hq
    have : i = l.length := by omega
    subst this
    refine loopC_once mixed l1_tree_Frame.eq_1 ?_
    simp
    exact hq _ false _ _ _ (by simp [frameW]) (by simp [frameK])
  | succ m ih =>
    intro i a b H hi hq
    have hlt : i < l.length := by omega
    have e : l.drop i = l[i] :: l.drop (i + 1) := List.drop_eq_getElem_cons hlt
    have ei : IntKind.i64.wrap ((i : Int) + 1) = ((i + 1 : Nat) : Int) := i64_same (by omega) (by omega)
    refine loopC_once mixed l1_tree_Frame.eq_1 ?_
    simp [hlt, ei]
    have em : ∀ (x y : Nat), max (x : Int) (y : Int) = ((max x y : Nat) : Int) := fun x y => by omega
    rw [em, em]
    exact ih (i + 1) _ _ _ (by omega) fun i' q x y H' hx hy => hq i' q x y H' (by rw [hx, e, frameW]; omega) (by rw [hy, e, frameK]; omega)
end
theorem tFrame_spec (t : T) (hl : t.kids.length * 56 ≤ 140737488355328) : G.Spec Tryz.prog 131 [tX t] (.tup [iv (frameW t.kids), iv (frameK t.kids)]) := by
  refine spec_of t_tree_Frame (by simp) fun w0 I0 => ?_
  unfold c_tree_Frame
  simp
  refine tframe_l1 hl t.kids.length 0 0 0 _ (by omega) fun i' q x y H' hx hy => ?_
  simp
  refine frz_is rfl ?_
  simp [hx, hy]
/-! ### the Norm -/
section
variable {n0 : Nat} {w0 : World} {I0 : Nat → Prop} {Q : Exit → Sta → Prop}
theorem tnorm_l1 {t : T} (hl : t.kids.length * 56 ≤ 140737488355328) (ih : ∀ c, c ∈ t.kids → G.Spec Tryz.prog 59 [tX c] (tX (norm c))) {v v0 : VOb} {k w : A} : ∀ (m i : Nat) (u : Nat) (H : Hp), i + m = t.kids.length → H [0] = v0 → H [1] = v → H [2] = ⟨1, .cells [k, w, .osl [4] u 3 0 i]⟩ → H [4] = ⟨u, .arr 3 ((t.kids.take i).map (tA ∘ norm))⟩ →
    (∀ i' q (u' : Nat) (H' : Hp), H' [0] = v0 → H' [1] = v → H' [2] = ⟨1, .cells [k, w, .osl [4] u' 3 0 t.kids.length]⟩ → H' [4] = ⟨u', .arr 3 (t.kids.map (tA ∘ norm))⟩ → Q (.exit 0) ⟨lk [(1, .pob [0] 1 0), (2, .pob [1] 1 0), (3, .pob [2] 1 0), (17, tKs t.kids), (18, iv t.kids.length), (19, iv i'), (20, bv q)], H'⟩) →
    LoopC (cx Tryz.prog w0 I0 n0) l1_tree_Norm Q ⟨lk [(1, .pob [0] 1 0), (2, .pob [1] 1 0), (3, .pob [2] 1 0), (17, tKs t.kids), (18, iv t.kids.length), (19, iv i)], H⟩ := by
  intro m
  induction m with
  | zero =>
    intro i u H hi hA hR hO hB hq
    have : i = t.kids.length := by omega
    subst this
    refine loopC_once mixed l1_tree_Norm.eq_1 ?_
    simp
    exact hq _ _ u H hA hR hO (by rw [hB]; simp)
  | succ m ihm =>
    intro i u H hi hA hR hO hB hq
    have hlt : i < t.kids.length := by omega
    have ei : IntKind.i64.wrap ((i : Int) + 1) = ((i + 1 : Nat) : Int) := i64_same (by omega) (by omega)
    refine loopC_once mixed l1_tree_Norm.eq_1 ?_
    simp [hlt, updF_app, hO]
    refine sc_call (ih _ (List.getElem_mem hlt)) rfl ?_
    simp [updF_app, hO, hB]
    have hrow := row_succ (f := tA ∘ norm) hlt (x := tX (norm t.kids[i])) (by simp)
    rw [hrow, ei]
    refine ⟨⟨by omega, by omega⟩, ?_⟩
    exact ihm (i + 1) (u + 1) _ (by omega) (by simp [updF_app, hA]) (by simp [updF_app, hR]) (by simp [updF_app]) (by simp [updF_app]) hq
theorem tnorm_l2 {w : List Int} (hl : w.length * 8 ≤ 140737488355328) {v v4 : VOb} {K : A} : ∀ (n : Nat) (H : Hp), n ≤ w.length → trimW (w.take n) = trimW w → H [1] = v → H [2] = ⟨1, .cells [iv 1, uws (w.take n), K]⟩ → H [4] = v4 →
    (∀ q (H' : Hp), H' [1] = v → H' [2] = ⟨1, .cells [iv 1, uws (trimW w), K]⟩ → H' [4] = v4 → Q (.exit 2) ⟨lk [(2, .pob [1] 1 0), (3, .pob [2] 1 0), (48, bv q)], H'⟩) →
    LoopC (cx Tryz.prog w0 I0 n0) l2_tree_Norm Q ⟨lk [(2, .pob [1] 1 0), (3, .pob [2] 1 0)], H⟩ := by
  intro n
  induction n with
  | zero =>
    intro H hn ht hR hO hB hq
    refine loopC_once mixed l2_tree_Norm.eq_1 ?_
    simp [hO]
    refine hq _ H hR ?_ hB
    rw [← ht]
    simpa using hO
  | succ n ihn =>
    intro H hn ht hR hO hB hq
    have hlt : n < w.length := by omega
    have en : IntKind.i64.wrap (n : Int) = n := i64_same (by omega) (by omega)
    have emin : min (n + 1) w.length = n + 1 := by omega
    refine loopC_once mixed l2_tree_Norm.eq_1 ?_
    by_cases h0 : w[n] = 0
    · have hnn : (n : Int) < n + 1 := by omega
      have hnn' : (n : Int) ≤ n + 1 := by omega
      have hs : List.take n (List.take (n + 1) (List.map uv w)) = (w.take n).map uv := by rw [List.take_take, Nat.min_eq_left (by omega), List.map_take]
      simp [hO, emin, en, hlt, h0, hnn, hnn', hs]
      exact ihn _ (by omega) (by rw [← trimW_zero hlt h0]; exact ht) (by simp [updF_app, hR]) (by simp [updF_app]) (by simp [updF_app, hB]) hq
    · have hnn : (n : Int) < n + 1 := by omega
      simp [hO, emin, en, hlt, h0, hnn]
      refine hq _ H hR ?_ hB
      rw [hO, ← ht, trimW_stop hlt h0]
theorem tnorm_l3 {l : List T} (hl : l.length * 56 ≤ 140737488355328) {v : VOb} {W : A} {u : Nat} : ∀ (n : Nat) (H : Hp), n ≤ l.length → trimK (l.take n) = trimK l → H [1] = v → H [2] = ⟨1, .cells [iv 1, W, .osl [4] u 3 0 n]⟩ → H [4] = ⟨u, .arr 3 (l.map (tA ∘ norm))⟩ →
    (∀ q (H' : Hp), H' [1] = v → H' [2] = ⟨1, .cells [iv 1, W, .osl [4] u 3 0 (trimK l).length]⟩ → H' [4] = ⟨u, .arr 3 (l.map (tA ∘ norm))⟩ → Q (.exit 4) ⟨lk [(2, .pob [1] 1 0), (3, .pob [2] 1 0), (72, bv q)], H'⟩) →
    LoopC (cx Tryz.prog w0 I0 n0) l3_tree_Norm Q ⟨lk [(2, .pob [1] 1 0), (3, .pob [2] 1 0)], H⟩ := by
  intro n
  induction n with
  | zero =>
    intro H hn ht hR hO hB hq
    refine loopC_once mixed l3_tree_Norm.eq_1 ?_
    simp [hO]
    refine hq _ H hR ?_ hB
    rw [← ht]
    simpa using hO
  | succ n ihn =>
    intro H hn ht hR hO hB hq
    have hlt : n < l.length := by omega
    have en : IntKind.i64.wrap (n : Int) = n := i64_same (by omega) (by omega)
    have hnn : (n : Int) < n + 1 := by omega
    have hnn' : (n : Int) ≤ n + 1 := by omega
    refine loopC_once mixed l3_tree_Norm.eq_1 ?_
    by_cases h0 : l[n].kind = 0
    · simp [hO, hB, en, hlt, h0, hnn, hnn']
      exact ihn _ (by omega) (by rw [← trimK_zero hlt h0]; exact ht) (by simp [updF_app, hR]) (by simp [updF_app]) (by simp [updF_app, hB]) hq
    · simp [hO, hB, en, hlt, h0, hnn]
      refine hq _ H hR ?_ hB
      rw [hO, ← ht, trimK_stop hlt h0]
      simp; omega
end
theorem tNorm_spec : ∀ (t : T), wfT t → G.Spec Tryz.prog 59 [tX t] (tX (norm t)) := by
  refine T.ind fun k w l ih hw => ?_
  have hw' := wfT_iff.1 hw
  have hwl := hw'.wl
  have hkl := hw'.kl
  simp at hwl hkl
  refine spec_of t_tree_Norm (by simp) fun w0 I0 => ?_
  unfold c_tree_Norm
  rw [norm_mk]
  by_cases h0 : k = 0
  · simp [h0]
    exact frz_T0
  · simp [h0]
    refine sc_call (clone_spec false w hwl).spec rfl ?_
    simp
    refine LoopC.le (le_blankC (d := [2]) 2 [4] 3 rfl rfl (by simp)) ?_
    simp
    refine tnorm_l1 (t := .mk k w l) (k := iv k) (w := uws w) (by simpa using hkl) (fun c hc => ih c hc (hw'.ks c hc)) l.length 0 1 _ (by simp) rfl rfl (by simp) (by simp) fun i' q u' H' hA hR hO hB => ?_
    by_cases h1 : k = 1
    · subst h1
      simp at hA hR hO hB
      simp [hA, hR, hO, hB]
      refine LoopC.le (le_list [(2, .pob [1] 1 0), (3, .pob [2] 1 0)] (by simp)) ?_
      refine tnorm_l2 hwl w.length _ (Nat.le_refl _) (by rw [List.take_of_length_le (Nat.le_refl _)]) hR (by rw [hO, List.take_of_length_le (Nat.le_refl _)]) hB fun q H2 hR2 hO2 hB2 => ?_
      simp
      refine tnorm_l3 hkl l.length _ (Nat.le_refl _) (by rw [List.take_of_length_le (Nat.le_refl _)]) hR2 hO2 hB2 fun q H3 hR3 hO3 hB3 => ?_
      simp [hO3, hR3, updF_app]
      refine frz_agg ?_
      simp
      rw [trimK_map]
      refine ⟨frz_bare rfl, frz_bare rfl, ?_⟩
      have := frz_rowT (H := updF H3 [1] ⟨1, .cells [iv 1, uws (trimW w), A.osl [4] u' 3 0 (trimK l).length]⟩) (o := [4]) (u := u') (sz := 3) (l := l) (f := tA ∘ norm) (by simp [updF_app, hB3]) (trimK_le l) (by simp)
      rw [← List.map_take]
      show Frz _ _ (A.sl false (((l.take (trimK l).length).map norm).map tA))
      rw [List.map_map]
      exact this
    · simp at hA hR hO hB
      simp [hA, hR, hO, hB, h1, updF_app]
      refine frz_agg ?_
      simp
      refine ⟨frz_bare rfl, frz_bare rfl, ?_⟩
      have := frz_row (H := updF H' [1] ⟨1, .cells [iv k, uws w, A.osl [4] u' 3 0 l.length]⟩) (o := [4]) (u := u') (sz := 3) (l := l) (f := tA ∘ norm) (by simp [updF_app, hB]) rfl (by simp)
      show Frz _ _ (A.sl false ((l.map norm).map tA))
      rw [List.map_map]
      exact this
/-! ### how many words -/
section
variable {n0 : Nat} {w0 : World} {I0 : Nat → Prop} {Q : Exit → Sta → Prop}
theorem tsize_l1 {l : List T} (hl : l.length * 56 ≤ 140737488355328) (ih : ∀ c, c ∈ l → G.Spec Tryz.prog 94 [tX c] (iv (i64w (sizeP c)))) : ∀ (m i : Nat) (x y : Int) (H : Hp), i + m = l.length → y = i64w x →
    (∀ i' q H', Q (.exit 1) ⟨lk [(3, iv (i64w (x + sizePC (l.drop i)))), (57, tKs l), (58, iv l.length), (59, iv i'), (60, bv q)], H'⟩) →
    LoopC (cx Tryz.prog w0 I0 n0) l1_tree_size Q ⟨lk [(3, iv y), (57, tKs l), (58, iv l.length), (59, iv i)], H⟩ := by
  intro m
  induction m with
  | zero =>
    intro i x y H hi hy hq
    have : i = l.length := by omega
    subst this hy
    refine loopC_once mixed l1_tree_size.eq_1 ?_
    simp
    simpa using hq l.length false H
  | succ m ihm =>
    intro i x y H hi hy hq
    subst hy
    have hlt : i < l.length := by omega
    have e : l.drop i = l[i] :: l.drop (i + 1) := List.drop_eq_getElem_cons hlt
    have ei : IntKind.i64.wrap ((i : Int) + 1) = ((i + 1 : Nat) : Int) := i64_same (by omega) (by omega)
    refine loopC_once mixed l1_tree_size.eq_1 ?_
    simp [hlt, updF_app]
    refine sc_call (ih _ (List.getElem_mem hlt)) rfl ?_
    simp [ei, updF_app, i64_add_l, i64_add_r, i64_sub_l]
    refine ihm (i + 1) (x + (sizeP l[i] - l[i].words.length - l[i].kids.length)) _ _ (by omega) rfl fun i' q H' => ?_
    have := hq i' q H'
    rw [e, sizePC_cons, ← Int.add_assoc] at this
    exact this
theorem tsize_l2 {l : List T} (hl : l.length * 56 ≤ 140737488355328) (ih : ∀ c, c ∈ l → G.Spec Tryz.prog 94 [tX c] (iv (i64w (sizeP c)))) : ∀ (m i : Nat) (x y : Int) (H : Hp), i + m = l.length → y = i64w x →
    (∀ i' q H', Q (.exit 3) ⟨lk [(3, iv (i64w (x + sizePL (l.drop i)))), (78, tKs l), (79, iv l.length), (80, iv i'), (81, bv q)], H'⟩) →
    LoopC (cx Tryz.prog w0 I0 n0) l2_tree_size Q ⟨lk [(3, iv y), (78, tKs l), (79, iv l.length), (80, iv i)], H⟩ := by
  intro m
  induction m with
  | zero =>
    intro i x y H hi hy hq
    have : i = l.length := by omega
    subst this hy
    refine loopC_once mixed l2_tree_size.eq_1 ?_
    simp
    simpa using hq l.length false H
  | succ m ihm =>
    intro i x y H hi hy hq
    subst hy
    have hlt : i < l.length := by omega
    have e : l.drop i = l[i] :: l.drop (i + 1) := List.drop_eq_getElem_cons hlt
    have ei : IntKind.i64.wrap ((i : Int) + 1) = ((i + 1 : Nat) : Int) := i64_same (by omega) (by omega)
    refine loopC_once mixed l2_tree_size.eq_1 ?_
    simp [hlt, updF_app]
    refine sc_call (ih _ (List.getElem_mem hlt)) rfl ?_
    simp [ei, i64_add_l, i64_add_r]
    refine ihm (i + 1) (x + sizeP l[i]) _ _ (by omega) rfl fun i' q H' => ?_
    have := hq i' q H'
    rw [e, sizePL_cons, ← Int.add_assoc] at this
    exact this
end
set_option maxRecDepth 8000 in
theorem tsize_spec : ∀ (t : T), wfT t → G.Spec Tryz.prog 94 [tX t] (iv (i64w (sizeP t))) := by
  refine T.ind fun k w l ih hw => ?_
  have hw' := wfT_iff.1 hw
  have hwl := hw'.wl
  have hkl := hw'.kl
  simp at hwl hkl
  have ih1 : ∀ c, c ∈ l → G.Spec Tryz.prog 94 [tX c] (iv (i64w (sizeP c))) := fun c hc => ih c hc (hw'.ks c hc)
  refine spec_of t_tree_size (by simp) fun w0 I0 => ?_
  unfold c_tree_size
  rw [sizeP_mk]
  have fin : ∀ (x y : Int) (H : Hp) (r : Int), y = i64w x → H [0] = ⟨1, .cells [iv k, uws w, tKs l]⟩ → r = x + sizePL l → WPC (cx Tryz.prog w0 I0 90) k1_tree_size (RetC Tryz.prog [.tmp 2] (iv (i64w r))) ⟨lk [(1, .pob [0] 1 0), (3, iv y)], H⟩ := fun x y H r hy hH hr => by
    subst hy
    rw [k1_tree_size.eq_1]
    simp [hH]
    refine tsize_l2 hkl ih1 l.length 0 x _ _ (by simp) rfl fun i' q H' => ?_
    simp [hr]
    exact frz_bare rfl
  have room : 2 ≤ k ∧ k ≤ 7 → i64w (roomZ (k - 2) l.length) = roomZ (k - 2) l.length := fun hk => by
    have : 0 ≤ roomZ (k - 2) l.length ∧ roomZ (k - 2) l.length ≤ 1099511627776 := by
      unfold roomZ bitsZ
      repeat' split
      all_goals omega
    exact i64_same (by omega) (by omega)
  by_cases h1 : k = 1
  · simp [h1]
    exact fin _ _ _ _ rfl (by simp [h1]) rfl
  by_cases h8 : k = 8
  · simp [h8]
    exact fin _ _ _ _ (i64_same (by omega) (by omega)).symm (by simp [h8]) rfl
  rw [if_neg h1, if_neg h8]
  by_cases h27 : 2 ≤ k ∧ k ≤ 7
  · have hd : isData k = true := by simp [isData, h27]
    have e2 : IntKind.i64.wrap (k - 2) = k - 2 := i64_same (by omega) (by omega)
    simp [h1, h8]
    refine sc_call (data_spec k) rfl ?_
    simp [hd, e2]
    refine sc_call (room_spec' _ _) rfl ?_
    simp
    rw [if_pos h27, room h27]
    exact frz_bare rfl
  · have hd : isData k = false := by simp [isData]; omega
    simp [h1, h8]
    refine sc_call (data_spec k) rfl ?_
    rw [if_neg h27]
    by_cases h9 : k = 9
    · subst h9
      simp [hd]
      refine sc_call (tFrame_spec (.mk 9 w l) (by simpa using hkl)) rfl ?_
      simp [i64_add_r, i64_mul_r]
      refine tsize_l1 hkl ih1 l.length 0 _ _ _ (by simp) rfl fun i' q H' => ?_
      simp
      exact frz_bare rfl
    · simp [hd, h9]
      exact fin 0 _ _ _ (by decide) (by simp) (by simp)
theorem tSize_spec (t : T) (h : wfT t) : G.Spec Tryz.prog 60 [tX t] (iv (i64w (sizeP (norm t)))) := by
  refine spec_of t_tree_Size (by simp) fun w0 I0 => ?_
  unfold c_tree_Size
  simp
  refine sc_call (tNorm_spec t h) rfl ?_
  simp
  refine sc_call (tsize_spec (norm t) (wf_norm t h)) rfl ?_
  simp
  exact frz_bare rfl
end Go.Proofs.YthfiijdbnkaabaaGreat

/-
  The document's edits: parts, lengths.
-/
namespace Go.Proofs.YthfiijdbnkaabaaGreat
set_option linter.unusedVariables false
set_option linter.unusedSimpArgs false
open Go Go.G Go.Proofs Go.PL
theorem none_spec (t : T) (hw : t.words.length * 8 ≤ 140737488355328) (hk : t.kids.length * 56 ≤ 140737488355328) : G.Spec Tryz.prog 49 [tX t] (bv (noneT t)) := by
  refine spec_of t_centoref20_none (by simp) fun w0 I0 => ?_
  unfold c_centoref20_none
  simp
  have e : IntKind.i64.wrap ((t.words.length : Int) + t.kids.length) = (t.words.length : Int) + t.kids.length := i64_same (by omega) (by omega)
  simp [e]
  refine frz_bool ?_
  rw [Bool.eq_iff_iff]
  simp [noneT, List.isEmpty_iff, ← List.length_eq_zero_iff]
  omega
theorem none_spec' {t : T} (h : wfT t) : G.Spec Tryz.prog 49 [tX t] (bv (noneT t)) := none_spec t (wfT_iff.1 h).wl (wfT_iff.1 h).kl
theorem bytesN_get : ∀ (m : Nat) (x : Int) (i : Nat), i < m → (bytesN m x).getD i 0 = x / 256 ^ i % 256
  | m + 1, x, 0, _ => by simp [bytesN]
  | m + 1, x, i + 1, h => by
    have := bytesN_get m (x / 256) i (by omega)
    simp only [bytesN, List.getD_cons_succ, this]
    rw [Int.ediv_ediv_of_nonneg (by decide), ← Int.pow_succ']
theorem ofZ_zero : ∀ (l : List Int), (∀ b, b ∈ l → 0 ≤ b ∧ b < 256) → (ofZ l = 0 ↔ ∀ b, b ∈ l → b = 0)
  | [], _ => by simp [ofZ]
  | b :: l, h => by
    have h1 := h b (by simp)
    have h2 := ofZ_range l fun x hx => h x (by simp [hx])
    have ih := ofZ_zero l fun x hx => h x (by simp [hx])
    simp only [ofZ, List.mem_cons, forall_eq_or_imp, ← ih]
    omega
theorem mix_zero (w mask : Int) : decide (mixZ w 0 mask = 0) = withinZ w mask := by
  rw [Bool.eq_iff_iff]
  unfold mixZ
  rw [decide_eq_true_eq, ofZ_zero _ mixL_range]
  have e : mixL (bytesZ w) (bytesZ 0) mask 8 = (List.range 8).map fun i => if namedZ mask i = true then (bytesZ 0).getD i 0 else (bytesZ w).getD i 0 := by
    unfold mixL
    rw [List.drop_of_length_le (by rw [bytesZ_length]; omega), List.append_nil]
  rw [e]
  simp only [withinZ, List.all_eq_true, List.mem_map, List.mem_range, Bool.or_eq_true, decide_eq_true_eq]
  have hz : ∀ i, i < 8 → (bytesZ 0).getD i 0 = 0 := fun i hi => by
    unfold bytesZ
    rw [bytesN_get 8 0 i hi]; simp
  constructor
  · intro h i hi
    by_cases hn : namedZ mask i = true
    · left; simpa [namedZ] using hn
    · right
      have := h _ ⟨i, hi, rfl⟩
      rw [if_neg hn] at this
      unfold bytesZ at this
      rwa [bytesN_get 8 w i hi] at this
  · rintro h b ⟨i, hi, rfl⟩
    by_cases hn : namedZ mask i = true
    · rw [if_pos hn]; exact hz i hi
    · rw [if_neg hn]
      rcases h i hi with h | h
      · exact absurd (by simpa [namedZ] using h) hn
      · unfold bytesZ
        rw [bytesN_get 8 w i hi]; exact h
theorem within_spec' {w mask : Int} (h : u64R w) (h0 : 0 ≤ mask) (h1 : mask < 256) : G.Spec Tryz.prog 50 [uv w, u8 mask] (bv (withinZ w mask)) := by
  refine spec_of t_centoref20_within (by simp) fun w0 I0 => ?_
  unfold c_centoref20_within
  simp
  refine sc_call (rMix_spec h ⟨by omega, by omega⟩ h0 h1) rfl ?_
  simp
  exact frz_bool (mix_zero w mask)
set_option maxRecDepth 8000 in
theorem same_spec {e : E} (h : WfE e) : G.Spec Tryz.prog 79 [eX e] (bv (sameE e)) := by
  have hwl := h.wl
  have hkl := h.kl
  have hol := h.ol
  refine spec_of t_centoref20_same (by simp) fun w0 I0 => ?_
  unfold c_centoref20_same
  simp
  refine sc_call_gt rfl (fun _ => none_spec' h.o) (fun e => by simp [e]) rfl ?_
  simp
  refine sc_call_gt rfl (fun _ => none_spec' h.n) (fun e => by simp at e; simp [e]) rfl ?_
  have e1 : IntKind.i64.wrap ((e.words.length : Int) + e.kids.length) = (e.words.length : Int) + e.kids.length := i64_same (by omega) (by omega)
  have e2 : IntKind.i64.wrap ((e.words.length : Int) + e.kids.length + e.ops.length) = (e.words.length : Int) + e.kids.length + e.ops.length := i64_same (by omega) (by omega)
  simp [e1, e2]
  refine frz_bool ?_
  rw [Bool.eq_iff_iff]
  simp [sameE, List.isEmpty_iff, ← List.length_eq_zero_iff]
  omega
/-! ### lengths -/
theorem sat_range {n : Int} (h : 0 ≤ n) : 0 ≤ sat n ∧ sat n ≤ 1048576 := by unfold sat; split <;> omega
section
variable {n0 : Nat} {w0 : World} {I0 : Nat → Prop} {Q : Exit → Sta → Prop}
theorem len_k1 {Q' : Exit → Sta → Prop} {p i : A} {x y : Int} {H : Hp} (h : ∀ l, Q' .normal ⟨lk ((1, p) :: (4, iv (sat x)) :: (5, iv (sat y)) :: (6, i) :: l), H⟩) : WPC (cx Tryz.prog w0 I0 n0) k1_centoref20_Lengths Q' ⟨lk [(1, p), (4, iv x), (5, iv y), (6, i)], H⟩ := by
  rw [k1_centoref20_Lengths.eq_1]
  have h0 := h []
  have h1 := h [(45, bv false)]
  by_cases hx : 1048576 < x <;> by_cases hy : 1048576 < y <;> simp [hx, hy] <;> first
    | (simpa [sat, hx, hy] using h0)
    | (simpa [sat, hx, hy] using h1)
theorem len_k3 {Q' : Exit → Sta → Prop} {p i : A} {a b z : Int} {H : Hp} {o : OP} {u : Nat} (hz : z = opLen o) (a0 : 0 ≤ a) (a1 : a ≤ 1048576) (b0 : 0 ≤ b) (b1 : b ≤ 1048576) (z0 : 0 ≤ z) (z1 : z < 100000000000000) (hO : H [1] = ⟨u, .cells (iv o.kind :: iv o.n :: tKs o.l :: eL o.e)⟩)
    (h : ∀ l, Q' .normal ⟨lk ((1, p) :: (4, iv (sat (if o.kind ≠ 2 then a + opLen o else a))) :: (5, iv (sat (if o.kind ≠ 1 then b + opLen o else b))) :: (6, i) :: l), H⟩) : WPC (cx Tryz.prog w0 I0 n0) k3_centoref20_Lengths Q' ⟨lk [(1, p), (4, iv a), (5, iv b), (6, i), (7, .pob [1] u 0), (8, iv z)], H⟩ := by
  subst hz
  rw [k3_centoref20_Lengths.eq_1]
  have ea : IntKind.i64.wrap (a + opLen o) = a + opLen o := i64_same (by omega) (by omega)
  have eb : IntKind.i64.wrap (b + opLen o) = b + opLen o := i64_same (by omega) (by omega)
  by_cases h2 : o.kind = 2
  · simp [hO, h2]
    rw [k2_centoref20_Lengths.eq_1]
    simp [hO, h2, eb]
    refine len_k1 fun l => ?_
    simpa [h2] using h l
  · by_cases h1 : o.kind = 1
    · simp [hO, h1, ea]
      rw [k2_centoref20_Lengths.eq_1]
      simp [hO, h1]
      refine len_k1 fun l => ?_
      simpa [h1] using h l
    · simp [hO, h2, ea]
      rw [k2_centoref20_Lengths.eq_1]
      simp [hO, h1, eb]
      refine len_k1 fun l => ?_
      simpa [h1, h2] using h l
theorem lengths_l1 {e : E} (hl : e.ops.length * 240 ≤ 140737488355328) (ho : ∀ x, x ∈ e.ops → 0 ≤ x.n ∧ x.n ≤ 1048576 ∧ x.l.length * 56 ≤ 140737488355328) : ∀ (m i : Nat) (a b : Int) (H : Hp), i + m = e.ops.length → H [0] = ⟨1, .cells (eL e)⟩ → 0 ≤ a → a ≤ 1048576 → 0 ≤ b → b ≤ 1048576 →
    (∀ i' q H', Q (.exit 0) ⟨lk [(1, .pob [0] 1 0), (4, iv (lengths a b (e.ops.drop i)).1), (5, iv (lengths a b (e.ops.drop i)).2), (6, iv i'), (13, bv q)], H'⟩) →
    LoopC (cx Tryz.prog w0 I0 n0) l1_centoref20_Lengths Q ⟨lk [(1, .pob [0] 1 0), (4, iv a), (5, iv b), (6, iv i)], H⟩ := by
  intro m
  induction m with
  | zero =>
    intro i a b H hi hA a0 a1 b0 b1 hq
    have : i = e.ops.length := by omega
    subst this
    refine loopC_once mixed l1_centoref20_Lengths.eq_1 ?_
    simp [hA]
    simpa [lengths] using hq e.ops.length false H
  | succ m ih =>
    intro i a b H hi hA a0 a1 b0 b1 hq
    have hlt : i < e.ops.length := by omega
    have ed : e.ops.drop i = e.ops[i] :: e.ops.drop (i + 1) := List.drop_eq_getElem_cons hlt
    have ei : IntKind.i64.wrap ((i : Int) + 1) = ((i + 1 : Nat) : Int) := i64_same (by omega) (by omega)
    obtain ⟨n1, n2, n3⟩ := ho _ (List.getElem_mem hlt)
    rw [ed] at hq
    generalize ho' : e.ops[i] = o at *
    have h0 : 0 ≤ opLen o ∧ opLen o < 100000000000000 := by unfold opLen; split <;> omega
    have next : ∀ (a' b' : Int) H', H' [0] = ⟨1, .cells (eL e)⟩ → a' = sat (if o.kind ≠ 2 then a + opLen o else a) → b' = sat (if o.kind ≠ 1 then b + opLen o else b) → LoopC (cx Tryz.prog w0 I0 n0) l1_centoref20_Lengths Q ⟨lk [(1, .pob [0] 1 0), (4, iv a'), (5, iv b'), (6, iv ((i + 1 : Nat) : Int))], H'⟩ := fun a' b' H' hA' ha hb => by
      have s1 := sat_range (n := if o.kind ≠ 2 then a + opLen o else a) (by split <;> omega)
      have s2 := sat_range (n := if o.kind ≠ 1 then b + opLen o else b) (by split <;> omega)
      refine ih (i + 1) a' b' H' (by omega) hA' (by omega) (by omega) (by omega) (by omega) fun i' q H2 => ?_
      have := hq i' q H2
      rw [lengths, ← ha, ← hb] at this
      exact this
    refine loopC_once mixed l1_centoref20_Lengths.eq_1 ?_
    have e1 : IntKind.i64.wrap (o.n + (o.l.length : Int)) = o.n + o.l.length := i64_same (by omega) (by omega)
    simp [hlt, hA, ho', updF_app, e1]
    refine ⟨fun h3 => ?_, fun h3 => ?_⟩
    · refine len_k3 (o := o) (u := (H [1]).u + 1) (z := 1) (by simp [opLen, h3]) (by omega) (by omega) (by omega) (by omega) (by omega) (by omega) (by simp [updF_app]) fun l => ?_
      simp [ei]
      exact next _ _ _ (by simp [updF_app, hA]) (by simp) (by simp)
    · refine len_k3 (o := o) (u := (H [1]).u + 1) (z := o.n + o.l.length) (by simp [opLen, h3]) (by omega) (by omega) (by omega) (by omega) (by omega) (by omega) (by simp [updF_app]) fun l => ?_
      simp [ei]
      exact next _ _ _ (by simp [updF_app, hA]) (by simp) (by simp)
end
theorem rLengths_spec {e : E} (hl : e.ops.length * 240 ≤ 140737488355328) (ho : ∀ x, x ∈ e.ops → 0 ≤ x.n ∧ x.n ≤ 1048576 ∧ x.l.length * 56 ≤ 140737488355328) : G.Spec Tryz.prog 52 [eX e] (.tup [iv (lengths 0 0 e.ops).1, iv (lengths 0 0 e.ops).2]) := by
  refine spec_of t_centoref20_Lengths (by simp) fun w0 I0 => ?_
  unfold c_centoref20_Lengths
  simp
  refine lengths_l1 hl ho e.ops.length 0 0 0 _ (by omega) (by simp) (by omega) (by omega) (by omega) (by omega) fun i' q H' => ?_
  simp
  exact frz_bare rfl
/-! ### how many parts -/
section
variable {n0 : Nat} {w0 : World} {I0 : Nat → Prop} {Q : Exit → Sta → Prop}
abbrev LeftS (e : E) : Prop := ∀ (d : Nat) (n : Int), d ≤ 1000 → 0 ≤ n → n ≤ 1000000 → G.Spec Tryz.prog 48 [eX e, iv d, iv n] (iv (leftE d n e))
mutual
theorem leftE_range : ∀ (e : E) (d : Nat) (n : Int), -1 ≤ leftE d n e ∧ (-1 ≤ n → leftE d n e ≤ n)
  | .mk k o nn ws ks l os, d, n => by
    rw [leftE_mk]
    split
    · omega
    · rw [left2_eq]
      have h1 := shallow_range o 80 (n - 1 - ws.length - os.length)
      have h2 := shallow_range nn 80 (shallow 80 (n - 1 - ws.length - os.length) o)
      have h3 : -1 ≤ (if shallow 80 (n - 1 - ws.length - os.length) o < 0 then shallow 80 (n - 1 - ws.length - os.length) o else shallow 80 (shallow 80 (n - 1 - ws.length - os.length) o) nn) ∧ (if shallow 80 (n - 1 - ws.length - os.length) o < 0 then shallow 80 (n - 1 - ws.length - os.length) o else shallow 80 (shallow 80 (n - 1 - ws.length - os.length) o) nn) ≤ n := by split <;> omega
      generalize (if shallow 80 (n - 1 - ws.length - os.length) o < 0 then shallow 80 (n - 1 - ws.length - os.length) o else shallow 80 (shallow 80 (n - 1 - ws.length - os.length) o) nn) = x at h3
      have h4 := leftKs_range ks (d - 1) x h3.1
      have h5 := leftOs_range os (d - 1) (leftKs (d - 1) x ks) h4.1
      omega
theorem leftKs_range : ∀ (l : List KE) (d : Nat) (n : Int), -1 ≤ n → -1 ≤ leftKs d n l ∧ leftKs d n l ≤ n
  | [], d, n, h => by simp; omega
  | .mk a e :: l, d, n, h => by
    rw [leftKs_cons]
    split
    · omega
    · have h1 := leftE_range e d n
      have h2 := leftKs_range l d (leftE d n e) h1.1
      simp only [KE.e_mk]
      omega
theorem leftOs_range : ∀ (l : List OP) (d : Nat) (n : Int), -1 ≤ n → -1 ≤ leftOs d n l ∧ leftOs d n l ≤ n
  | [], d, n, h => by simp; omega
  | .mk k m t e :: l, d, n, h => by
    rw [leftOs_cons]
    split
    · omega
    · simp only [OP.e_mk, OP.l_mk]
      have h0 := shallowL_range t 80 n h
      have h1 := leftE_range e d (shallowL 80 n t)
      have h3 : -1 ≤ (if shallowL 80 n t < 0 then shallowL 80 n t else leftE d (shallowL 80 n t) e) ∧ (if shallowL 80 n t < 0 then shallowL 80 n t else leftE d (shallowL 80 n t) e) ≤ n := by split <;> omega
      have h2 := leftOs_range l d _ h3.1
      exact ⟨h2.1, Int.le_trans h2.2 h3.2⟩
end
theorem leftKs_neg (l : List KE) (d : Nat) {n : Int} (h : n < 0) : leftKs d n l = n := by cases l <;> simp [h]
theorem leftOs_neg (l : List OP) (d : Nat) {n : Int} (h : n < 0) : leftOs d n l = n := by cases l <;> simp [h]
theorem left_l1 {e : E} {d : Nat} (hd : 1 ≤ d) (hd1 : d ≤ 1000) (hl : e.kids.length * 208 ≤ 140737488355328) (ih : ∀ c, c ∈ e.kids → LeftS c.e)
    {H : Hp} (hH : H [0] = ⟨1, .cells (eL e)⟩) : ∀ (m i : Nat) (n : Int), i + m = e.kids.length → -1 ≤ n → n ≤ 1000000 →
    (∀ i' q, Q (.exit 0) ⟨lk [(1, iv d), (2, iv (leftKs (d - 1) n (e.kids.drop i))), (3, .pob [0] 1 0), (7, iv i'), (44, bv q)], H⟩) →
    LoopC (cx Tryz.prog w0 I0 n0) l1_centoref20_left Q ⟨lk [(1, iv d), (2, iv n), (3, .pob [0] 1 0), (7, iv i)], H⟩ := by
  intro m
  induction m with
  | zero =>
    intro i n hi h1 h2 hq
    have : i = e.kids.length := by omega
    subst this
    refine loopC_once mixed l1_centoref20_left.eq_1 ?_
    simp [hH]
    simpa using hq _ false
  | succ m ihm =>
    intro i n hi h1 h2 hq
    have hlt : i < e.kids.length := by omega
    refine loopC_once mixed l1_centoref20_left.eq_1 ?_
    have ed : e.kids.drop i = e.kids[i] :: e.kids.drop (i + 1) := List.drop_eq_getElem_cons hlt
    by_cases hn : n < 0
    · simp [hH, hlt, show ¬ (0 : Int) ≤ n by omega]
      have := hq i false
      rwa [leftKs_neg _ _ hn] at this
    · have hn' : 0 ≤ n := by omega
      simp [hH, hlt, hn']
      have edd : IntKind.i64.wrap ((d : Int) - 1) = ((d - 1 : Nat) : Int) := by rw [i64_same (by omega) (by omega)]; omega
      rw [edd]
      refine sc_call (ih _ (List.getElem_mem hlt) (d - 1) n (by omega) hn' h2) rfl ?_
      simp
      have hr := leftE_range e.kids[i].e (d - 1) n
      rw [i64_same (by omega) (by omega)]
      refine ihm (i + 1) _ (by omega) hr.1 (by omega) fun i' q => ?_
      have := hq i' q
      rw [ed, leftKs_cons, if_neg (by omega)] at this
      exact this
theorem left_l2 {e : E} {d : Nat} {i : Nat} (hi : i < e.ops.length) (hl : e.ops[i].l.length * 56 ≤ 140737488355328) (hw : ∀ t, t ∈ e.ops[i].l → wfT t)
    {H : Hp} (hH : H [0] = ⟨1, .cells (eL e)⟩) : ∀ (m j : Nat) (n : Int), j + m = e.ops[i].l.length → -1 ≤ n → n ≤ 1000000 →
    (∀ i' q, Q (.exit 4) ⟨lk [(1, iv d), (2, iv (shallowL 80 n (e.ops[i].l.drop j))), (3, .pob [0] 1 0), (8, iv i), (9, iv i'), (80, bv q)], H⟩) →
    LoopC (cx Tryz.prog w0 I0 n0) l2_centoref20_left Q ⟨lk [(1, iv d), (2, iv n), (3, .pob [0] 1 0), (8, iv i), (9, iv j)], H⟩ := by
  intro m
  induction m with
  | zero =>
    intro j n hj h1 h2 hq
    have : j = e.ops[i].l.length := by omega
    subst this
    refine loopC_once mixed l2_centoref20_left.eq_1 ?_
    simp [hH, hi]
    simpa using hq _ false
  | succ m ihm =>
    intro j n hj h1 h2 hq
    have hlt : j < e.ops[i].l.length := by omega
    refine loopC_once mixed l2_centoref20_left.eq_1 ?_
    have ed : e.ops[i].l.drop j = e.ops[i].l[j] :: e.ops[i].l.drop (j + 1) := List.drop_eq_getElem_cons hlt
    by_cases hn : n < 0
    · simp [hH, hi, hlt, show ¬ (0 : Int) ≤ n by omega]
      have := hq j false
      rwa [shallowL_neg _ _ hn] at this
    · have hn' : 0 ≤ n := by omega
      simp [hH, hi, hlt, hn']
      refine sc_call (shallow_spec _ (hw _ (List.getElem_mem hlt)) 80 n (by omega) hn' h2) rfl ?_
      simp
      have hr := shallow_range e.ops[i].l[j] 80 n
      rw [i64_same (by omega) (by omega)]
      refine ihm (j + 1) _ (by omega) hr.1 (by omega) fun i' q => ?_
      have := hq i' q
      rw [ed, shallowL_cons, if_neg (by omega)] at this
      exact this
theorem left_l3 {e : E} {d : Nat} (hd : 1 ≤ d) (hd1 : d ≤ 1000) (hl : e.ops.length * 240 ≤ 140737488355328) (hw : ∀ x, x ∈ e.ops → WfO x) (ih : ∀ c, c ∈ e.ops → LeftS c.e)
    {H : Hp} (hH : H [0] = ⟨1, .cells (eL e)⟩) : ∀ (m i : Nat) (n : Int), i + m = e.ops.length → -1 ≤ n → n ≤ 1000000 →
    (∀ i' q, Q (.exit 2) ⟨lk [(1, iv d), (2, iv (leftOs (d - 1) n (e.ops.drop i))), (3, .pob [0] 1 0), (8, iv i'), (65, bv q)], H⟩) →
    LoopC (cx Tryz.prog w0 I0 n0) l3_centoref20_left Q ⟨lk [(1, iv d), (2, iv n), (3, .pob [0] 1 0), (8, iv i)], H⟩ := by
  intro m
  induction m with
  | zero =>
    intro i n hi h1 h2 hq
    have : i = e.ops.length := by omega
    subst this
    refine loopC_once mixed l3_centoref20_left.eq_1 ?_
    simp [hH]
    simpa using hq _ false
  | succ m ihm =>
    intro i n hi h1 h2 hq
    have hlt : i < e.ops.length := by omega
    refine loopC_once mixed l3_centoref20_left.eq_1 ?_
    have ed : e.ops.drop i = e.ops[i] :: e.ops.drop (i + 1) := List.drop_eq_getElem_cons hlt
    have hwo := hw _ (List.getElem_mem hlt)
    by_cases hn : n < 0
    · simp [hH, hlt, show ¬ (0 : Int) ≤ n by omega]
      have := hq i false
      rwa [leftOs_neg _ _ hn] at this
    · have hn' : 0 ≤ n := by omega
      have hs := shallowL_range e.ops[i].l 80 n h1
      have ei : IntKind.i64.wrap ((i : Int) + 1) = ((i + 1 : Nat) : Int) := i64_same (by omega) (by omega)
      simp [hH, hlt, hn']
      refine left_l2 hlt hwo.ll hwo.l hH e.ops[i].l.length 0 n (by omega) h1 h2 fun i' q => ?_
      by_cases hsn : shallowL 80 n e.ops[i].l < 0
      · simp [show ¬ (0 : Int) ≤ shallowL 80 n e.ops[i].l by omega, ei]
        refine ihm (i + 1) _ (by omega) hs.1 (by omega) fun i' q => ?_
        have := hq i' q
        rw [ed, leftOs_cons, if_neg (by omega), if_pos hsn] at this
        exact this
      · have hsn' : 0 ≤ shallowL 80 n e.ops[i].l := by omega
        simp [hsn', hH, hlt]
        have edd : IntKind.i64.wrap ((d : Int) - 1) = ((d - 1 : Nat) : Int) := by rw [i64_same (by omega) (by omega)]; omega
        rw [edd]
        refine sc_call (ih _ (List.getElem_mem hlt) (d - 1) _ (by omega) hsn' (by omega)) rfl ?_
        have hr := leftE_range e.ops[i].e (d - 1) (shallowL 80 n e.ops[i].l)
        simp [ei]
        refine ihm (i + 1) _ (by omega) hr.1 (by omega) fun i' q => ?_
        have := hq i' q
        rw [ed, leftOs_cons, if_neg (by omega), if_neg hsn] at this
        exact this
end
theorem left_spec : ∀ (e : E), wfE e → LeftS e := by
  refine E.ind fun k o nn ws ks l os ihk iho hw d n hd hn hn1 => ?_
  have h := wfE_iff.1 hw
  have hwl := h.wl
  have hkl := h.kl
  have hol := h.ol
  simp at hwl hkl hol
  refine spec_of t_centoref20_left (by simp) fun w0 I0 => ?_
  unfold c_centoref20_left
  have e1 : IntKind.i64.wrap (IntKind.i64.wrap (IntKind.i64.wrap (n - 1) - (ws.length : Int)) - (os.length : Int)) = n - 1 - ws.length - os.length := by
    rw [i64_same (n := n - 1) (by omega) (by omega), i64_same (n := n - 1 - ws.length) (by omega) (by omega), i64_same (by omega) (by omega)]
  rw [leftE_mk]
  by_cases hc : d = 0 ∨ n - 1 - (ws.length : Int) - (os.length : Int) < 0
  · have hd : (decide (d = 0) || decide (n - 1 - (ws.length : Int) - (os.length : Int) < 0)) = true := by simp; omega
    simp [e1, hd, hc]
    exact frz_bare rfl
  · have hd : (decide (d = 0) || decide (n - 1 - (ws.length : Int) - (os.length : Int) < 0)) = false := by simp; omega
    simp [e1, hd, hc]
    refine sc_call (shallow_spec o h.o 80 _ (by omega) (by omega) (by omega)) rfl ?_
    have hr := shallow_range o 80 (n - 1 - ws.length - os.length)
    have go : ∀ (x : Int), x = left2 n ws.length os.length o nn → -1 ≤ x → x ≤ 1000000 → WPC (cx Tryz.prog w0 I0 107) k1_centoref20_left (RetC Tryz.prog [.tmp 6] (iv (leftOs (d - 1) (leftKs (d - 1) (left2 n ws.length os.length o nn) ks) os))) ⟨lk [(1, iv d), (2, iv x), (3, .pob [0] 1 0)], lkH [([0], ⟨1, .cells (eL (.mk k o nn ws ks l os))⟩)]⟩ := fun x hx h1 h2 => by
      rw [k1_centoref20_left.eq_1, ← hx]
      simp
      refine left_l1 (e := .mk k o nn ws ks l os) (by omega) (by omega) (by simpa using hkl) (fun c hc => ihk c hc (h.ks c hc).2) (by simp) ks.length 0 x (by simp) h1 h2 fun i' q => ?_
      have hr2 := leftKs_range ks (d - 1) x h1
      simp
      refine left_l3 (e := .mk k o nn ws ks l os) (by omega) (by omega) (by simpa using hol) (fun c hc => h.os c hc) (fun c hc => iho c hc (h.os c hc).e) (by simp) os.length 0 _ (by simp) hr2.1 (by omega) fun i' q => ?_
      simp
      exact frz_bare rfl
    by_cases hs : shallow 80 (n - 1 - ws.length - os.length) o < 0
    · simp [show ¬ (0 : Int) ≤ shallow 80 (n - 1 - ws.length - os.length) o by omega]
      exact go _ (by rw [left2_eq, if_pos hs]) hr.1 (by omega)
    · simp [show (0 : Int) ≤ shallow 80 (n - 1 - ws.length - os.length) o by omega]
      refine sc_call (shallow_spec nn h.n 80 _ (by omega) (by omega) (by omega)) rfl ?_
      have hr2 := shallow_range nn 80 (shallow 80 (n - 1 - ws.length - os.length) o)
      simp
      exact go _ (by rw [left2_eq, if_neg hs]) hr2.1 (by omega)
def fewE (e : E) : Bool := decide (0 ≤ leftE 80 3000 e)
theorem fewE_spec {e : E} (h : wfE e) : G.Spec Tryz.prog 22 [eX e] (bv (fewE e)) := by
  refine spec_of t_centoref20_Few (by simp) fun w0 I0 => ?_
  unfold c_centoref20_Few
  simp
  refine sc_call (left_spec e h 80 3000 (by omega) (by omega) (by omega)) rfl ?_
  simp
  exact frz_bare rfl
end Go.Proofs.YthfiijdbnkaabaaGreat

/-
  Plain: a right edit takes as many words as the Norm of its tree, and one.
-/
namespace Go.PL
set_option linter.unusedVariables false
set_option linter.unusedSimpArgs false
theorem norm_null {t : T} (h : t.kind = 0) : norm t = T0 := by cases t; simp at h; rw [norm_mk, if_pos h]
theorem sizeL_trim (l : List T) (h : ∀ t, t ∈ l → t.kind = 0 → sizeT t = 0) : sizeL (trimK l) = sizeL l := by
  induction l using snocInd with
  | h0 => rfl
  | h1 l x ih =>
    rw [trimK_snoc]
    split
    · rename_i hx
      rw [ih fun t ht => h t (by simp [ht])]
      simp [h x (by simp) hx]
    · rfl
theorem sizeL_trimN (l : List T) : sizeL (trimK (l.map norm)) = sizeL (l.map norm) := sizeL_trim _ fun t ht h0 => by
  obtain ⟨u, hu, rfl⟩ := List.mem_map.1 ht
  rw [norm_kind] at h0
  rw [norm_null h0]; simp
theorem size_one {w : List Int} {l : List T} : sizeT (norm (.mk 1 w l)) = (trimW w).length + (trimK (l.map norm)).length + sizeL (l.map norm) := by
  rw [norm_mk]; simp; rw [sizeT_mk]; simp [sizeL_trimN]
theorem trimW_one {x : Int} (h : x ≠ 0) : trimW [x] = [x] := by simpa [h] using trimW_snoc [] x
theorem trimW_1 {x : Int} : trimW [x] = if x = 0 then [] else [x] := by simpa using trimW_snoc [] x
theorem trimK_1 {x : T} : trimK [x] = if x.kind = 0 then [] else [x] := by simpa using trimK_snoc [] x
theorem trimK_2 {x y : T} : trimK [x, y] = if y.kind = 0 then trimK [x] else [x, y] := by simpa using trimK_snoc [x] y
theorem trimW_3 {x y z : Int} (hx : x ≠ 0) : (trimW [x, y, z]).length = if z ≠ 0 then 3 else if y ≠ 0 then 2 else 1 := by
  have h1 : trimW [x, y, z] = if z = 0 then trimW [x, y] else [x, y, z] := by simpa using trimW_snoc [x, y] z
  have h2 : trimW [x, y] = if y = 0 then trimW [x] else [x, y] := by simpa using trimW_snoc [x] y
  rw [h1, h2, trimW_one hx]
  by_cases h : z = 0 <;> by_cases k : y = 0 <;> simp [h, k]
theorem row_norm (l : List T) (h : l ≠ []) : norm (rowT' l) = .mk 9 [] (l.map norm) := by
  cases l with
  | nil => exact absurd rfl h
  | cons t l => rw [rowT'_cons, norm_mk]; simp
theorem row_kind (l : List T) : (rowT' l).kind = if l = [] then 0 else 9 := by cases l <;> simp
theorem row_size (l : List T) : sizeT (norm (rowT' l)) = if l = [] then 0 else 1 + l.length * (frameW (l.map norm) + frameK (l.map norm)) + sizeLL (l.map norm) := by
  by_cases h : l = []
  · subst h; simp [norm_mk]
  · rw [row_norm l h, sizeT_mk, if_neg h]; simp
theorem wide_frame : ∀ (ws : List WE) (x : Int), 1 ≤ x → x ≤ 3 → (∀ w, w ∈ ws → u64m (w.at_ + 4294967296 * w.mask) ≠ 0) → wideW x ws = max x (frameW ((ws.map treeW).map norm))
  | [], x, _, _, _ => by simp [wideW, frameW]; omega
  | w :: ws, x, h1, h3, h => by
    have hw := h w (by simp)
    have hx : 1 ≤ (if w.new ≠ 0 then 3 else if w.old ≠ 0 then max x 2 else x) ∧ (if w.new ≠ 0 then 3 else if w.old ≠ 0 then max x 2 else x) ≤ 3 := by
      by_cases a : w.new = 0 <;> by_cases b : w.old = 0 <;> simp [a, b] <;> omega
    have ih := wide_frame ws _ hx.1 hx.2 fun v hv => h v (by simp [hv])
    rw [wideW, ih]
    simp only [List.map_cons, frameW]
    have e : (norm (treeW w)).words.length = if w.new ≠ 0 then 3 else if w.old ≠ 0 then 2 else 1 := by
      rw [treeW, norm_mk]; simp; simpa using trimW_3 hw
    rw [e]
    by_cases a : w.new = 0 <;> by_cases b : w.old = 0 <;> simp [a, b] <;> omega
theorem frameK_w (ws : List WE) : frameK ((ws.map treeW).map norm) = 0 := by
  induction ws with
  | nil => rfl
  | cons w ws ih => simp only [List.map_cons, frameK, ih]; rw [treeW, norm_mk]; simp
theorem sizeLL_w (ws : List WE) : sizeLL ((ws.map treeW).map norm) = 0 := by
  induction ws with
  | nil => rfl
  | cons w ws ih => simp only [List.map_cons, sizeLL_cons, ih]; rw [treeW, norm_mk]; simp
theorem frame_pos {ws : List WE} (h : ws ≠ []) (hx : ∀ w, w ∈ ws → u64m (w.at_ + 4294967296 * w.mask) ≠ 0) : 1 ≤ frameW ((ws.map treeW).map norm) := by
  cases ws with
  | nil => exact absurd rfl h
  | cons w ws =>
    have e : (norm (treeW w)).words.length = if w.new ≠ 0 then 3 else if w.old ≠ 0 then 2 else 1 := by
      rw [treeW, norm_mk]; simp; simpa using trimW_3 (hx w (by simp))
    simp only [List.map_cons, frameW, e]
    repeat' split
    all_goals omega
theorem treeE_kind (e : E) : (treeE e).kind = if e.kind = 0 then 0 else 1 := by
  cases e; rw [treeE_mk]
  repeat' split
  all_goals simp_all
theorem kids_at {d : Nat} : ∀ {ks : List KE} {last : Int}, rightKs d last ks = true → ∀ x, x ∈ ks → last < x.at_ ∧ x.at_ ≤ 65534 ∧ x.e.kind ≠ 0 ∧ rightE d x.e = true
  | y :: ks, last, h, x, hx => by
    simp at h
    obtain ⟨⟨⟨⟨h1, h2⟩, h3⟩, h4⟩, h5⟩ := h
    rcases List.mem_cons.1 hx with rfl | hx
    · exact ⟨h1, h2, h3, h4⟩
    · obtain ⟨a, b, c⟩ := kids_at h5 x hx
      exact ⟨by omega, b, c⟩
theorem norm_treeK {x : KE} (h0 : 0 ≤ x.at_) (h1 : x.at_ ≤ 65534) (h2 : x.e.kind ≠ 0) : norm (treeK x) = .mk 1 (if x.at_ = 0 then [] else [x.at_]) [norm (treeE x.e)] := by
  have e : u64m x.at_ = x.at_ := by unfold u64m; omega
  rw [treeK, norm_mk]; simp [e, trimW_1, trimK_1, treeE_kind, h2]
theorem kids_frame {d : Nat} : ∀ {ks : List KE} {last : Int}, rightKs d last ks = true → -1 ≤ last → ks ≠ [] → last < lastAt ks ∧ (frameW ((ks.map treeK).map norm) : Int) = (if lastAt ks = 0 then 0 else 1) ∧ frameK ((ks.map treeK).map norm) = 1
  | [x], last, h, hl, _ => by
    obtain ⟨a, b, c, _⟩ := kids_at h x (by simp)
    have hn := norm_treeK (by omega) b c
    simp only [lastAt, List.map_cons, List.map_nil, frameW, frameK, hn]
    refine ⟨a, ?_, by simp⟩
    by_cases h0 : x.at_ = 0 <;> simp [h0]
  | x :: y :: ks, last, h, hl, _ => by
    obtain ⟨a, b, c, _⟩ := kids_at h x (by simp)
    have h' := h
    simp only [rightKs_cons, Bool.and_eq_true] at h'
    have hr : rightKs d x.at_ (y :: ks) = true := by rw [rightKs_cons]; simp only [Bool.and_eq_true]; exact h'.2
    obtain ⟨i1, i2, i3⟩ := kids_frame hr (by omega) (by simp)
    have hn := norm_treeK (by omega) b c
    have hla : lastAt (x :: y :: ks) = lastAt (y :: ks) := rfl
    rw [hla]
    have h0 : ¬ lastAt (y :: ks) = 0 := by omega
    rw [if_neg h0] at i2 ⊢
    refine ⟨by omega, ?_, ?_⟩
    · rw [List.map_cons, List.map_cons, frameW, hn]
      have : (T.mk 1 (if x.at_ = 0 then [] else [x.at_]) [norm (treeE x.e)]).words.length ≤ 1 := by simp; split <;> simp
      omega
    · rw [List.map_cons, List.map_cons, frameK, hn, i3]; simp
theorem sizeLL_k : ∀ {ks : List KE}, (∀ x, x ∈ ks → 0 ≤ x.at_ ∧ x.at_ ≤ 65534 ∧ x.e.kind ≠ 0 ∧ nodeE x.e = sizeT (norm (treeE x.e))) → sizeLL ((ks.map treeK).map norm) = nodeKs ks
  | [], _ => rfl
  | x :: ks, h => by
    obtain ⟨a, b, c, e⟩ := h x (by simp)
    rw [List.map_cons, List.map_cons, sizeLL_cons, nodeKs_cons, sizeLL_k fun y hy => h y (by simp [hy]), norm_treeK a b c, e]
    simp
theorem noneT_eq {t : T} (h : noneT t = true) : t = T0 := by
  obtain ⟨k, w, l⟩ := t
  simp [noneT] at h
  obtain ⟨⟨h1, rfl⟩, rfl⟩ := h
  rw [of_decide_eq_true h1]
theorem headOk_spec {d : Nat} {k : Int} {o n : T} {nw nk : Nat} {l : Int} {no : Nat} (h : ¬ headOk d k o n nw nk l no = false) : d ≠ 0 ∧ 0 ≤ k ∧ k ≤ 3 ∧ (k ≠ 1 → o = T0 ∧ n = T0) ∧ (k ≠ 2 → nw = 0 ∧ nk = 0) ∧ (k ≠ 3 → l = 0 ∧ no = 0) := by
  have h : headOk d k o n nw nk l no = true := by simpa using h
  unfold headOk at h
  simp only [Bool.and_eq_true, Bool.not_eq_true', Bool.or_eq_false_iff, Bool.and_eq_false_iff, decide_eq_false_iff_not, decide_eq_true_eq, Bool.not_eq_false'] at h
  obtain ⟨⟨⟨a, b⟩, c⟩, ⟨d1, e⟩, f⟩ := h
  refine ⟨a, by omega, by omega, fun h1 => ?_, fun h2 => ?_, fun h3 => ?_⟩
  · rcases d1 with d1 | d1
    · exact absurd d1 h1
    · exact ⟨noneT_eq d1.1, noneT_eq d1.2⟩
  · rcases e with e | e
    · exact absurd e h2
    · omega
  · rcases f with f | f
    · exact absurd f h3
    · exact ⟨f.1, by omega⟩
/-- Each mask is a byte. -/
def masks (ws : List WE) : Prop := ∀ w, w ∈ ws → 0 ≤ w.mask ∧ w.mask < 256
mutual
def masksE : E → Prop
  | .mk _ _ _ ws ks _ os => masks ws ∧ masksK ks ∧ masksO os
def masksK : List KE → Prop
  | [] => True
  | .mk _ e :: l => masksE e ∧ masksK l
def masksO : List OP → Prop
  | [] => True
  | .mk _ _ _ e :: l => masksE e ∧ masksO l
end
theorem masksK_all : ∀ {l : List KE}, masksK l → ∀ x, x ∈ l → masksE x.e
  | .mk a e :: l, h, x, hx => by
    rw [masksK] at h
    rcases List.mem_cons.1 hx with rfl | hx
    · exact h.1
    · exact masksK_all h.2 x hx
theorem masksO_all : ∀ {l : List OP}, masksO l → ∀ x, x ∈ l → masksE x.e
  | .mk a n t e :: l, h, x, hx => by
    rw [masksO] at h
    rcases List.mem_cons.1 hx with rfl | hx
    · exact h.1
    · exact masksO_all h.2 x hx
theorem wordsOk_all : ∀ {ws : List WE} {last : Int}, wordsOk last ws = true → -1 ≤ last → masks ws → ∀ w, w ∈ ws → u64m (w.at_ + 4294967296 * w.mask) ≠ 0
  | y :: ws, last, h, hl, hm, w, hw => by
    rw [wordsOk, Bool.and_eq_true] at h
    have h1 := h.1
    simp [wordOk] at h1
    obtain ⟨⟨⟨⟨a, b⟩, c⟩, _⟩, _⟩ := h1
    rcases List.mem_cons.1 hw with rfl | hw
    · have := hm w (by simp)
      unfold u64m
      omega
    · exact wordsOk_all h.2 (by omega) (fun v hv => hm v (by simp [hv])) w hw
/-! ### lists -/
structure OpFacts (d : Nat) (list : Int) (o : OP) : Prop where
  k0 : 0 ≤ o.kind
  k3 : o.kind ≤ 3
  w : u64m (o.kind + 256 * o.n) ≠ 0
  e3 : o.kind = 3 → o.e.kind ≠ 0 ∧ rightE d o.e = true
  l12 : o.kind = 1 ∨ o.kind = 2 → ∀ t, t ∈ o.l → rightT 64 (.mk list [] [t]) = true
  l3 : o.kind = 3 → o.l = []
theorem op_facts {d : Nat} {list : Int} {o : OP} (h : rightO d list o = true) : OpFacts d list o := by
  rw [rightO_eq, Bool.and_eq_true] at h
  obtain ⟨h1, h2⟩ := h
  unfold opFlat at h1
  split at h1
  · rename_i hk
    simp at h1
    refine ⟨by omega, by omega, ?_, fun e => by omega, fun e => by omega, fun e => by omega⟩
    unfold u64m; omega
  · split at h1
    · cases h1
    · rename_i hk hc
      have hn : o.n = 0 ∧ 0 ≤ o.kind ∧ o.kind ≤ 3 := by omega
      refine ⟨hn.2.1, hn.2.2, ?_, fun e => ?_, fun e => ?_, fun e => ?_⟩
      · unfold u64m; omega
      · rw [if_pos e] at h2
        simp [opDeep] at h2
        exact ⟨h2.1.1.1.2, h2.1.2⟩
      · rw [if_pos (by omega)] at h1
        simp at h1
        exact h1.1.1
      · rw [if_pos e] at h2
        simp [opDeep] at h2
        exact h2.1.1.1.1
theorem op_sized {list : Int} {l : List T} (hl : 2 ≤ list ∧ list ≤ 9) (h : ∀ t, t ∈ l → rightT 64 (.mk list [] [t]) = true) : sizeP (norm (.mk list [] l)) = sizeT (norm (.mk list [] l)) := by
  have hk : ∀ t, t ∈ l → rightT 63 t = true ∧ kidOk list t = true := fun t ht => rightT_struct (h t ht) t (by simp)
  have ihl : ∀ t, t ∈ l.map norm → sizeP t = sizeT t := fun t ht => by
    obtain ⟨u, hu, rfl⟩ := List.mem_map.1 ht
    exact size_norm u _ (hk u hu).1
  rw [norm_mk, if_neg (by omega), if_neg (by omega), sizeP_mk, sizeT_mk, sizePL_eq ihl]
  by_cases h9 : list = 9
  · subst h9
    have : ∀ (m : List T), (∀ t, t ∈ m → sizeP t = sizeT t ∧ t.kind = 1) → sizePC m = sizeLL m := by
      intro m
      induction m with
      | nil => simp
      | cons t m ih =>
        intro hm
        obtain ⟨h1, h2⟩ := hm t (by simp)
        simp [ih fun u hu => hm u (by simp [hu]), h1]
        cases t; simp at h2; subst h2
        rw [sizeT_mk]; simp; omega
    have := this (l.map norm) fun t ht => ⟨ihl t ht, by
      obtain ⟨u, hu, rfl⟩ := List.mem_map.1 ht
      rw [norm_kind]
      exact kidOk_9 (hk u hu).2⟩
    simp [this]
  · simp [h9]
theorem norm_treeO {d : Nat} {list : Int} {o : OP} (hl : 2 ≤ list ∧ list ≤ 9) (h : OpFacts d list o) : norm (treeO list o) = .mk 1 [u64m (o.kind + 256 * o.n)] (if o.kind = 3 then [norm (treeE o.e)] else if o.kind > 0 then [norm (.mk list [] o.l)] else []) := by
  rw [treeO, norm_mk]
  simp only [trimW_one h.w, if_true]
  by_cases h3 : o.kind = 3
  · simp [h3, trimK_1, treeE_kind, (h.e3 h3).1]
  · by_cases h0 : o.kind > 0
    · have : ¬ list = 0 := by omega
      simp [h3, h0, trimK_1, this]
    · simp [h3, h0]
theorem ops_frame {d : Nat} {list : Int} (hl : 2 ≤ list ∧ list ≤ 9) : ∀ {os : List OP} (x : Int), 1 ≤ x → x ≤ 2 → (∀ o, o ∈ os → OpFacts d list o) → wideO x os = max x (1 + frameK ((os.map (treeO list)).map norm)) ∧ (os ≠ [] → frameW ((os.map (treeO list)).map norm) = 1)
  | [], x, h1, h2, _ => by simp [wideO, frameK]; omega
  | o :: os, x, h1, h2, h => by
    have ho := h o (by simp)
    obtain ⟨i1, i2⟩ := ops_frame hl (os := os) (if o.kind = 1 ∨ o.kind = 2 ∨ o.kind = 3 then 2 else x) (by split <;> omega) (by split <;> omega) fun p hp => h p (by simp [hp])
    have hn := norm_treeO hl ho
    have k0 := ho.k0
    have k3 := ho.k3
    constructor
    · rw [wideO, i1, List.map_cons, List.map_cons, frameK, hn]
      have e : (T.mk 1 [u64m (o.kind + 256 * o.n)] (if o.kind = 3 then [norm (treeE o.e)] else if o.kind > 0 then [norm (.mk list [] o.l)] else [])).kids.length = if o.kind = 1 ∨ o.kind = 2 ∨ o.kind = 3 then 1 else 0 := by
        simp only [T.kids_mk]
        by_cases a3 : o.kind = 3
        · simp [a3]
        · by_cases a0 : o.kind > 0
          · rw [if_neg a3, if_pos a0, if_pos (by omega)]; rfl
          · rw [if_neg a3, if_neg a0, if_neg (by omega)]; rfl
      rw [e]
      split <;> omega
    · intro _
      rw [List.map_cons, List.map_cons, frameW, hn]
      cases os with
      | nil => simp [frameW]
      | cons p os => rw [i2 (by simp)]; simp
theorem sizeLL_o {d : Nat} {list : Int} (hl : 2 ≤ list ∧ list ≤ 9) : ∀ {os : List OP}, (∀ o, o ∈ os → OpFacts d list o ∧ (o.kind = 3 → nodeE o.e = sizeT (norm (treeE o.e)))) → sizeLL ((os.map (treeO list)).map norm) = nodeOs list os
  | [], _ => by simp
  | o :: os, h => by
    obtain ⟨ho, he⟩ := h o (by simp)
    have k0 := ho.k0
    have k3 := ho.k3
    rw [List.map_cons, List.map_cons, sizeLL_cons, nodeOs_cons, sizeLL_o hl fun p hp => h p (by simp [hp]), norm_treeO hl ho]
    by_cases a3 : o.kind = 3
    · simp [a3, he a3]
    · by_cases a0 : o.kind > 0
      · have a12 : o.kind = 1 ∨ o.kind = 2 := by omega
        simp [a3, a0, a12, op_sized hl (ho.l12 a12)]
      · have a12 : ¬ (o.kind = 1 ∨ o.kind = 2) := by omega
        simp [a3, a0, a12]
theorem node_size : ∀ (e : E) (d : Nat), rightE d e = true → masksE e → nodeE e = sizeT (norm (treeE e)) := by
  refine E.ind fun k o n ws ks l os ihk iho d h hm => ?_
  rw [masksE] at hm
  obtain ⟨m1, m2, m3⟩ := hm
  rw [rightE_mk] at h
  split at h
  · cases h
  rename_i hh
  obtain ⟨d0, k0, k3, c1, c2, c3⟩ := headOk_spec hh
  rw [nodeE_mk, treeE_mk]
  by_cases h1 : k = 1
  · subst h1
    obtain ⟨rfl, _⟩ := c3 (by omega)
    simp at h
    obtain ⟨⟨⟨r1, r2⟩, _⟩, _⟩ := h
    simp
    rw [size_one, kids2, size_norm o _ r1, size_norm n _ r2]
    have e1 : u64m 1 = 1 := rfl
    simp [e1, trimW_1, trimK_2, trimK_1]
    by_cases a : o.kind = 0 <;> by_cases b : n.kind = 0 <;> simp [a, b] <;> omega
  rw [if_neg h1] at h
  by_cases h2 : k = 2
  · subst h2
    obtain ⟨rfl, _⟩ := c3 (by omega)
    split at h
    · cases h
    rename_i hw
    split at h
    · cases h
    rename_i hk
    simp only [Bool.not_eq_false] at hw hk
    have hw1 := wordsOk_all hw (by omega) m1
    have hk1 := kids_at hk
    simp
    rw [size_one]
    have e1 : u64m 2 = 2 := rfl
    have eW : sizeT (norm (rowT' (ws.map treeW))) = if ws = [] then 0 else 1 + ws.length * wideW 1 ws := by
      rw [row_size]
      by_cases e : ws = []
      · simp [e]
      · have hf := frame_pos e hw1
        rw [wide_frame ws 1 (by omega) (by omega) hw1, frameK_w, sizeLL_w, if_neg e, if_neg (by simpa using e)]
        rw [show (max 1 ((frameW ((ws.map treeW).map norm) : Nat) : Int)) = ((frameW ((ws.map treeW).map norm) : Nat) : Int) + ((0 : Nat) : Int) by omega]
        simp
    have eK : sizeT (norm (rowT' (treeKs ks))) = if ks = [] then 0 else 1 + ks.length * (if lastAt ks = 0 then 1 else 2) + nodeKs ks := by
      rw [row_size, treeKs_map]
      by_cases e : ks = []
      · simp [e]
      · obtain ⟨_, f1, f2⟩ := kids_frame hk (by omega) e
        rw [if_neg e, if_neg (by simpa using e), sizeLL_k fun x hx => ?_, f1, f2]
        · simp
          split <;> simp
        · obtain ⟨a, b, c, q⟩ := hk1 x hx
          exact ⟨by omega, b, c, ihk x hx _ q (masksK_all m2 x hx)⟩
    have kW : (rowT' (ws.map treeW)).kind = if ws = [] then 0 else 9 := by rw [row_kind]; simp
    have kK : (rowT' (treeKs ks)).kind = if ks = [] then 0 else 9 := by rw [row_kind, treeKs_map]; simp
    simp only [List.map_cons, List.map_nil, sizeL_cons, sizeL_nil, eW, eK, e1, trimW_one (x := 2) (by omega), trimK_2, trimK_1, norm_kind, kW, kK]
    by_cases a : ws = [] <;> by_cases b : ks = [] <;> simp [a, b] <;> omega
  by_cases h3 : k = 3
  · subst h3
    obtain ⟨w0, s0⟩ := c2 (by omega)
    have hws : ws = [] := List.eq_nil_of_length_eq_zero w0
    have hks : ks = [] := List.eq_nil_of_length_eq_zero s0
    subst hws hks
    split at h
    · cases h
    split at h
    · cases h
    split at h
    · cases h
    rename_i hl
    split at h
    · cases h
    rename_i ho
    simp only [Bool.not_eq_false] at ho
    have hl : 2 ≤ l ∧ l ≤ 9 := by omega
    have ho1 := rightOs_all.1 ho
    have hof : ∀ o, o ∈ os → OpFacts (d - 1) l o := fun o hx => op_facts (ho1 o hx)
    simp
    rw [size_one]
    have e1 : u64m (3 + 256 * l) ≠ 0 := by unfold u64m; omega
    have eO : sizeT (norm (rowT' (treeOs l os))) = if os = [] then 0 else 1 + os.length * wideO 1 os + nodeOs l os := by
      rw [row_size, treeOs_map]
      by_cases e : os = []
      · simp [e]
      · obtain ⟨f1, f2⟩ := ops_frame hl (os := os) 1 (by omega) (by omega) hof
        rw [if_neg e, if_neg (by simpa using e), sizeLL_o (d := d - 1) hl fun o hx => ⟨hof o hx, fun a3 => iho o hx _ ((hof o hx).e3 a3).2 (masksO_all m3 o hx)⟩, f1, f2 e]
        rw [show (max 1 (1 + ((frameK ((os.map (treeO l)).map norm) : Nat) : Int))) = ((1 : Nat) : Int) + ((frameK ((os.map (treeO l)).map norm) : Nat) : Int) by omega]
        simp
    have kO : (rowT' (treeOs l os)).kind = if os = [] then 0 else 9 := by rw [row_kind, treeOs_map]; simp
    simp only [List.map_cons, List.map_nil, sizeL_cons, sizeL_nil, eO, trimW_one e1, trimK_1, norm_kind, kO]
    by_cases b : os = [] <;> simp [b] <;> omega
  · have : k = 0 := by omega
    subst this
    simp [norm_mk]
end Go.PL

/-
  The document's edits: which ones are right, and light.
-/
namespace Go.Proofs.YthfiijdbnkaabaaGreat
set_option linter.unusedVariables false
set_option linter.unusedSimpArgs false
open Go Go.G Go.Proofs Go.PL
abbrev RightS (e : E) : Prop := ∀ d : Nat, d ≤ 1000 → G.Spec Tryz.prog 23 [eX e, iv d] (bv (rightE d e))
section
variable {n0 : Nat} {w0 : World} {I0 : Nat → Prop} {Q : Exit → Sta → Prop}
theorem op_l1 {o : OP} {list : Int} (hk : i64R list) (hl : o.l.length * 56 ≤ 140737488355328) (hw : ∀ t, t ∈ o.l → wfT t) {H : Hp} (hO : H [0] = ⟨1, .cells (iv o.kind :: iv o.n :: tKs o.l :: eL o.e)⟩) : ∀ (m i : Nat), i + m = o.l.length →
    (((o.l.drop i).all fun t => rightT 64 (.mk list [] [t])) = true → ∀ i' q, Q (.exit 0) ⟨lk [(0, iv list), (4, .pob [0] 1 0), (7, iv i'), (50, bv q)], H⟩) → (((o.l.drop i).all fun t => rightT 64 (.mk list [] [t])) = false → Q .ret ⟨lk [(6, bv false)], H⟩) →
    LoopC (cx Tryz.prog w0 I0 n0) l1_centoref20_op Q ⟨lk [(0, iv list), (4, .pob [0] 1 0), (7, iv i)], H⟩ := by
  intro m
  induction m with
  | zero =>
    intro i hi h1 h2
    have : i = o.l.length := by omega
    subst this
    refine loopC_once mixed l1_centoref20_op.eq_1 ?_
    simp [hO]
    exact h1 (by simp) _ _
  | succ m ihm =>
    intro i hi h1 h2
    have hlt : i < o.l.length := by omega
    have ed : o.l.drop i = o.l[i] :: o.l.drop (i + 1) := List.drop_eq_getElem_cons hlt
    have ei : IntKind.i64.wrap ((i : Int) + 1) = ((i + 1 : Nat) : Int) := i64_same (by omega) (by omega)
    have et : List.take 1 (List.drop i (o.l.map tA)) = [tX o.l[i]] := by rw [← List.map_drop, ed, List.map_cons, List.take_succ_cons, List.take_zero, tA_eq]
    have hwt : wfT (.mk list [] [o.l[i]]) := wfT_iff.2 ⟨hk, by simp, by simp, by simp, fun x hx => by simp at hx; rw [hx]; exact hw _ (List.getElem_mem hlt)⟩
    have h01 : (i : Int) ≤ (i : Int) + 1 := by omega
    have h02 : (i : Int) + 1 ≤ o.l.length := by omega
    rw [ed] at h1 h2
    refine loopC_once mixed l1_centoref20_op.eq_1 ?_
    have h03 : (0 : Int) ≤ (i : Int) + 1 := by omega
    simp [hO, hlt, ei, h01, h02, h03, et]
    refine sc_calle rfl ((rRight_spec (.mk list [] [o.l[i]]) hwt 64 (by omega)).soft (by simp [A.softL, A.soft, soft_uv, soft_tKs])) rfl ?_
    cases hr : rightT 64 (.mk list [] [o.l[i]]) with
    | false =>
      simp
      exact h2 (by simp only [List.all_cons, hr, Bool.false_and])
    | true =>
      simp [ei]
      exact ihm (i + 1) (by omega) (fun hh => h1 (by simp only [List.all_cons, hr, Bool.true_and]; exact hh)) (fun hh => h2 (by simp only [List.all_cons, hr, Bool.true_and]; exact hh))
end
set_option maxRecDepth 8000 in
theorem op_spec {list : Int} (hk : i64R list) {o : OP} (h : WfO o) (ih : RightS o.e) {d : Nat} (hd : d ≤ 1000) : G.Spec Tryz.prog 51 [iv list, oX o, iv d] (bv (rightO d list o)) := by
  have he := wfE_iff.1 h.e
  have hll := h.ll
  refine spec_of t_centoref20_op (by simp) fun w0 I0 => ?_
  unfold c_centoref20_op
  rw [rightO_eq]
  by_cases h0 : o.kind = 0
  · have h3 : ¬ o.kind = 3 := by omega
    simp [h0]
    refine sc_call_gt rfl (fun _ => same_spec he) (fun e => by simp at e; simp [e]) rfl ?_
    simp
    refine frz_bool ?_
    cases hl : o.l <;> simp [opFlat, h0, hl]
  · have h3n : (o.kind < 3 → ¬ o.kind = 3) := fun h => by omega
    simp [h0]
    refine ⟨fun hc => ?_, fun n0 k0 k3 => ⟨fun hlt => ?_, fun hge => ?_⟩⟩
    · have : opFlat list o = false := by
        unfold opFlat
        rw [if_neg h0, if_pos (by omega)]
      exact frz_bool (by simp [this])
    · have hk3 : ¬ o.kind = 3 := by omega
      have hf : opFlat list o = ((o.l.all fun t => rightT 64 (.mk list [] [t])) && !o.l.isEmpty && sameE o.e) := by
        unfold opFlat
        rw [if_neg h0, if_neg (by omega), if_pos hlt]
      refine op_l1 (o := o) hk hll h.l (by simp) o.l.length 0 (by omega) (fun hr i' q => ?_) (fun hr => ?_)
      · simp at hr
        simp
        refine sc_call_gt rfl (fun _ => same_spec he) (fun e => by simp at e; simp [e]) rfl ?_
        simp
        refine frz_bool ?_
        have hr' : (o.l.all fun t => rightT 64 (.mk list [] [t])) = true := by simpa using hr
        rw [hf, hr']
        cases hl : o.l <;> simp [hk3]
      · simp
        refine frz_bool ?_
        simp only [List.drop_zero] at hr
        rw [hf, hr]
        simp
    · have hk3 : o.kind = 3 := by omega
      have hf : opFlat list o = true := by
        unfold opFlat
        rw [if_neg h0, if_neg (by omega), if_neg (by omega)]
      refine sc_call_gf rfl (fun _ => ih d hd) (fun e => by simp at e; have := Int.not_le.2 e.2; simp [this, e.1.1, e.1.2]) rfl ?_
      have hop : opDeep list o = (!decide (0 < o.l.length) && !decide (o.e.kind = 0) && !decide (list ≤ 7)) := by
        cases hl : o.l <;> simp [opDeep, hl]
      simp
      refine ⟨fun hc => ?_, fun a b c hr => ?_⟩
      · refine frz_bool ?_
        rw [hop, hf]
        cases hr : rightE d o.e
        · simp [hk3]
        · simp only [hr, Bool.true_eq_false, or_false] at hc
          rcases hc with (hc | hc) | hc <;> simp [hk3, hc]
      · have hl0 : ¬ 0 < o.l.length := by simp [a]
        have hfit : Frz (lkH [([0], { u := 1, ob := Ob.cells (iv o.kind :: iv o.n :: tKs o.l :: eL o.e) })]) (bv (opFit list o)) (bv (opFlat list o && (!decide (o.kind = 3) || opDeep list o && rightE d o.e && opFit list o))) := by
          refine frz_bool ?_
          rw [hop, hf, hr]
          have c' := Int.not_le.2 c
          simp [hk3, hl0, b, c']
        by_cases l8 : list = 8
        · simp [l8]
          simpa [l8, opFit] using hfit
        · by_cases k2 : o.e.kind = 2
          · simp [l8, k2]
            simpa [l8, k2, opFit] using hfit
          · by_cases k1 : o.e.kind = 1
            · by_cases x1 : o.e.old.kind = 1
              · simp [l8, k2, k1, x1]
                simpa [l8, k2, k1, x1, opFit] using hfit
              · simp [l8, k2, k1, x1]
                simpa [l8, k2, k1, x1, opFit] using hfit
            · simp [l8, k2, k1]
              simpa [l8, k2, k1, opFit] using hfit
/-! ### an edit -/
section
variable {n0 : Nat} {w0 : World} {I0 : Nat → Prop} {Q : Exit → Sta → Prop}
theorem eright_l1 {e : E} {d : Nat} (hl : e.words.length * 32 ≤ 140737488355328) (hw : ∀ x, x ∈ e.words → WE.wf x) : ∀ (m i : Nat) (last : Int) (H : Hp), i + m = e.words.length → H [0] = ⟨1, .cells (eL e)⟩ →
    (wordsOk last (e.words.drop i) = true → ∀ i' z q H', H' [0] = ⟨1, .cells (eL e)⟩ → Q (.exit 0) ⟨lk [(1, iv d), (2, .pob [0] 1 0), (5, iv z), (6, iv i'), (97, bv q)], H'⟩) → (wordsOk last (e.words.drop i) = false → ∀ H', Q .ret ⟨lk [(4, bv false)], H'⟩) →
    LoopC (cx Tryz.prog w0 I0 n0) l1_centoref20_Right Q ⟨lk [(1, iv d), (2, .pob [0] 1 0), (5, iv last), (6, iv i)], H⟩ := by
  intro m
  induction m with
  | zero =>
    intro i last H hi hA h1 h2
    have : i = e.words.length := by omega
    subst this
    refine loopC_once mixed l1_centoref20_Right.eq_1 ?_
    simp [hA]
    exact h1 (by simp [wordsOk]) _ _ _ _ hA
  | succ m ihm =>
    intro i last H hi hA h1 h2
    have hlt : i < e.words.length := by omega
    have ed : e.words.drop i = e.words[i] :: e.words.drop (i + 1) := List.drop_eq_getElem_cons hlt
    have ei : IntKind.i64.wrap ((i : Int) + 1) = ((i + 1 : Nat) : Int) := i64_same (by omega) (by omega)
    obtain ⟨w1, w2, w3, w4⟩ := hw _ (List.getElem_mem hlt)
    rw [ed, wordsOk] at h1 h2
    generalize hx : e.words[i] = x at *
    refine loopC_once mixed l1_centoref20_Right.eq_1 ?_
    simp [hA, hlt, hx, updF_app]
    refine sc_call_gf rfl (fun _ => within_spec' w3 w2.1 w2.2) (fun e => by simp only [Bool.or_eq_false_iff] at e; simp [e]) rfl ?_
    simp
    refine sc_call_gf rfl (fun _ => within_spec' w4 w2.1 w2.2) (fun e => by simp only [Bool.or_eq_false_iff] at e; simp [e]) rfl ?_
    simp
    have hok : wordOk last x = !(decide (x.at_ ≤ last) || decide (65534 < x.at_) || decide (x.mask = 0) || !withinZ x.old x.mask || !withinZ x.new x.mask) := rfl
    refine ⟨fun hc => h2 ?_ _, fun a b c d e => ?_⟩
    · have : wordOk last x = false := by
        rw [hok]
        rcases hc with (((hc | hc) | hc) | hc) | hc <;> simp [hc]
      simp [this]
    · have : wordOk last x = true := by
        rw [hok]
        simp [c, d, e]
        omega
      simp [this] at h1 h2
      simp [ei, updF_app]
      exact ihm (i + 1) x.at_ _ (by omega) (by simp [updF_app, hA]) (fun hh i' z q H' hh' => by have := h1 hh i' z; cases q; exact this.1 H' hh'; exact this.2 H' hh') (fun hh => h2 hh)
theorem eright_l2 {e : E} {d : Nat} (hd : 1 ≤ d) (hd1 : d ≤ 1000) (hl : e.kids.length * 208 ≤ 140737488355328) (ih : ∀ x, x ∈ e.kids → RightS x.e) : ∀ (m i : Nat) (last : Int) (H : Hp), i + m = e.kids.length → H [0] = ⟨1, .cells (eL e)⟩ →
    (rightKs (d - 1) last (e.kids.drop i) = true → ∀ i' z q H', H' [0] = ⟨1, .cells (eL e)⟩ → Q (.exit 2) ⟨lk [(1, iv d), (2, .pob [0] 1 0), (5, iv z), (8, iv i'), (141, bv q)], H'⟩) → (rightKs (d - 1) last (e.kids.drop i) = false → ∀ H', Q .ret ⟨lk [(4, bv false)], H'⟩) →
    LoopC (cx Tryz.prog w0 I0 n0) l2_centoref20_Right Q ⟨lk [(1, iv d), (2, .pob [0] 1 0), (5, iv last), (8, iv i)], H⟩ := by
  intro m
  induction m with
  | zero =>
    intro i last H hi hA h1 h2
    have : i = e.kids.length := by omega
    subst this
    refine loopC_once mixed l2_centoref20_Right.eq_1 ?_
    simp [hA]
    exact h1 (by simp) _ _ _ _ hA
  | succ m ihm =>
    intro i last H hi hA h1 h2
    have hlt : i < e.kids.length := by omega
    have ed : e.kids.drop i = e.kids[i] :: e.kids.drop (i + 1) := List.drop_eq_getElem_cons hlt
    have ei : IntKind.i64.wrap ((i : Int) + 1) = ((i + 1 : Nat) : Int) := i64_same (by omega) (by omega)
    have edd : IntKind.i64.wrap ((d : Int) - 1) = ((d - 1 : Nat) : Int) := by rw [i64_same (by omega) (by omega)]; omega
    have ihx := ih _ (List.getElem_mem hlt) (d - 1) (by omega)
    rw [ed, rightKs_cons] at h1 h2
    generalize hx : e.kids[i] = x at *
    refine loopC_once mixed l2_centoref20_Right.eq_1 ?_
    simp [hA, hlt, hx, updF_app, edd]
    refine sc_call_gf rfl (fun _ => ihx) (fun e => by simp only [Bool.or_eq_false_iff] at e; simp [e]) rfl ?_
    simp
    refine ⟨fun hc => h2 ?_ _, fun a b c hr => ?_⟩
    · rcases hc with ((hc | hc) | hc) | hc <;> simp [hc]
    · have c' : ¬ x.e.kind = 0 := c
      have a' : ¬ x.at_ ≤ last := by omega
      have b' : ¬ 65534 < x.at_ := by omega
      simp [a', b', c', hr] at h1 h2
      simp [ei, updF_app]
      exact ihm (i + 1) x.at_ _ (by omega) (by simp [updF_app, hA]) (fun hh i' z q H' hh' => by have := h1 hh i' z; cases q; exact this.1 H' hh'; exact this.2 H' hh') (fun hh => h2 hh)
theorem eright_l3 {e : E} {d : Nat} (hd : 1 ≤ d) (hd1 : d ≤ 1000) (hl : e.ops.length * 240 ≤ 140737488355328) (hk : i64R e.list) (hw : ∀ x, x ∈ e.ops → WfO x) (ih : ∀ x, x ∈ e.ops → RightS x.e) {H : Hp} (hA : H [0] = ⟨1, .cells (eL e)⟩) : ∀ (m i : Nat), i + m = e.ops.length →
    (rightOs (d - 1) e.list (e.ops.drop i) = true → ∀ i' q, Q (.exit 4) ⟨lk [(1, iv d), (2, .pob [0] 1 0), (10, iv i'), (191, bv q)], H⟩) → (rightOs (d - 1) e.list (e.ops.drop i) = false → Q .ret ⟨lk [(4, bv false)], H⟩) →
    LoopC (cx Tryz.prog w0 I0 n0) l3_centoref20_Right Q ⟨lk [(1, iv d), (2, .pob [0] 1 0), (10, iv i)], H⟩ := by
  intro m
  induction m with
  | zero =>
    intro i hi h1 h2
    have : i = e.ops.length := by omega
    subst this
    refine loopC_once mixed l3_centoref20_Right.eq_1 ?_
    simp [hA]
    exact h1 (by simp) _ _
  | succ m ihm =>
    intro i hi h1 h2
    have hlt : i < e.ops.length := by omega
    have ed : e.ops.drop i = e.ops[i] :: e.ops.drop (i + 1) := List.drop_eq_getElem_cons hlt
    have ei : IntKind.i64.wrap ((i : Int) + 1) = ((i + 1 : Nat) : Int) := i64_same (by omega) (by omega)
    have edd : IntKind.i64.wrap ((d : Int) - 1) = ((d - 1 : Nat) : Int) := by rw [i64_same (by omega) (by omega)]; omega
    have hop := op_spec hk (hw _ (List.getElem_mem hlt)) (ih _ (List.getElem_mem hlt)) (d := d - 1) (by omega)
    rw [ed, rightOs_cons] at h1 h2
    refine loopC_once mixed l3_centoref20_Right.eq_1 ?_
    simp [hA, hlt, edd]
    refine sc_call hop rfl ?_
    cases hr : rightO (d - 1) e.list e.ops[i] with
    | false =>
      simp
      exact h2 (by simp [hr])
    | true =>
      simp [ei]
      exact ihm (i + 1) (by omega) (fun hh => h1 (by simp [hr, hh])) (fun hh => h2 (by simp [hh]))
end
theorem op_n {d : Nat} {list : Int} {o : OP} (h : rightO d list o = true) : 0 ≤ o.n ∧ o.n ≤ 1048576 := by
  rw [rightO_eq, Bool.and_eq_true] at h
  have h1 := h.1
  unfold opFlat at h1
  split at h1
  · simp at h1; omega
  · split at h1
    · cases h1
    · omega
theorem headOk_of {d : Nat} {k : Int} {o n : T} {nw nk : Nat} {l : Int} {no : Nat} (hd : ¬ d = 0) (k0 : 0 ≤ k) (k3 : k ≤ 3) (c1 : k ≠ 1 → noneT o = true ∧ noneT n = true) (c2 : k ≠ 2 → nw + nk = 0) (c3 : k ≠ 3 → l = 0 ∧ no = 0) : headOk d k o n nw nk l no = true := by
  unfold headOk
  have h1 : decide (d = 0) = false := by simpa using hd
  have h2 : decide (k < 0) = false := by simp; omega
  have h3 : decide (k > 3) = false := by simp; omega
  rw [h1, h2, h3]
  have a1 : (!decide (k = 1) && !(noneT o && noneT n)) = false := by
    by_cases e : k = 1
    · simp [e]
    · simp [c1 e]
  have a2 : (!decide (k = 2) && decide (nw + nk > 0)) = false := by
    by_cases e : k = 2
    · simp [e]
    · simp [c2 e]
  have a3 : (!decide (k = 3) && (!decide (l = 0) || decide (no > 0))) = false := by
    by_cases e : k = 3
    · simp [e]
    · simp [c3 e]
  rw [a1, a2, a3]; rfl
set_option maxRecDepth 10000 in
theorem eright_spec : ∀ (e : E), wfE e → RightS e := by
  refine E.ind fun k o nn ws ks l os ihk iho hw d hd => ?_
  have h := wfE_iff.1 hw
  have hwl := h.wl
  have hkl := h.kl
  have hol := h.ol
  simp at hwl hkl hol
  refine spec_of t_centoref20_Right (by simp) fun w0 I0 => ?_
  unfold c_centoref20_Right
  rw [rightE_mk]
  by_cases hd0 : d = 0 ∨ k < 0 ∨ 3 < k
  · have hb : (decide (d = 0) || decide (k < 0) || decide (3 < k)) = true := by simp; omega
    simp [hb]
    refine frz_bool ?_
    have : headOk d k o nn ws.length ks.length l os.length = false := by simp only [headOk, hb, gt_iff_lt, Bool.not_true, Bool.false_and]
    simp [this]
  have hb : (decide (d = 0) || decide (k < 0) || decide (3 < k)) = false := by simp; omega
  have e1 : IntKind.i64.wrap ((ws.length : Int) + ks.length) = (ws.length : Int) + ks.length := i64_same (by omega) (by omega)
  have hd00 : ¬ d = 0 := by omega
  have wz : IntKind.i64.wrap 0 = 0 := by decide
  have ihk' : ∀ x, x ∈ (E.mk k o nn ws ks l os).kids → RightS x.e := fun x hx => ihk x hx (h.ks x hx).2
  have iho' : ∀ x, x ∈ (E.mk k o nn ws ks l os).ops → RightS x.e := fun x hx => iho x hx (h.os x hx).e
  have fz : ∀ (b : Bool) (H : Hp), b = false → Frz H (.v (.bool false)) (bv b) := fun b H hb => frz_bool hb.symm
  cases hh : headOk d k o nn ws.length ks.length l os.length with
  | false =>
    rw [if_pos rfl]
    by_cases h1 : k = 1
    · subst h1
      simp [e1, hd00]
      refine sc_call_off rfl ?_
      simp
      refine sc_call_off rfl ?_
      by_cases a1 : (0 : Int) < (ws.length : Int) + ks.length
      · simp [e1, a1]; exact fz _ _ rfl
      · by_cases a2 : l = 0
        · by_cases a3 : 0 < os.length
          · simp [e1, a1, a2, a3]; exact fz _ _ rfl
          · have : headOk d 1 o nn ws.length ks.length l os.length = true := headOk_of hd00 (by omega) (by omega) (fun h => absurd rfl h) (fun _ => by omega) (fun _ => ⟨a2, by omega⟩)
            rw [hh] at this; cases this
        · simp [e1, a1, a2]; exact fz _ _ rfl
    · simp [hb, h1, e1]
      refine sc_call_gt rfl (fun _ => none_spec' h.o) (fun _ => rfl) rfl ?_
      simp [h1, e1]
      refine sc_call_gt rfl (fun _ => none_spec' h.n) (fun e => by simp [e]) rfl ?_
      cases n1 : noneT o with
      | false => cases n2 : noneT nn <;> (simp [n1, n2, e1]; exact fz _ _ rfl)
      | true =>
        cases n2 : noneT nn with
        | false => simp [n1, n2, e1]; exact fz _ _ rfl
        | true =>
          by_cases k2 : k = 2
          · subst k2
            by_cases a2 : l = 0
            · by_cases a3 : 0 < os.length
              · simp [e1, a2, a3]; exact fz _ _ rfl
              · have : headOk d 2 o nn ws.length ks.length l os.length = true := headOk_of hd00 (by omega) (by omega) (fun _ => ⟨n1, n2⟩) (fun h => absurd rfl h) (fun _ => ⟨a2, by omega⟩)
                rw [hh] at this; cases this
            · simp [e1, a2]; exact fz _ _ rfl
          · by_cases a1 : (0 : Int) < (ws.length : Int) + ks.length
            · simp [e1, k2, a1]; exact fz _ _ rfl
            · by_cases k3 : k = 3
              · have : headOk d k o nn ws.length ks.length l os.length = true := headOk_of hd00 (by omega) (by omega) (fun _ => ⟨n1, n2⟩) (fun _ => by omega) (fun h => absurd k3 h)
                rw [hh] at this; cases this
              · by_cases a2 : l = 0
                · by_cases a3 : 0 < os.length
                  · simp [e1, k2, k3, a1, a2, a3]; exact fz _ _ rfl
                  · have : headOk d k o nn ws.length ks.length l os.length = true := headOk_of hd00 (by omega) (by omega) (fun _ => ⟨n1, n2⟩) (fun _ => by omega) (fun _ => ⟨a2, by omega⟩)
                    rw [hh] at this; cases this
                · simp [e1, k2, k3, a1, a2]; exact fz _ _ rfl
  | true =>
    rw [if_neg (by simp)]
    obtain ⟨_, k0, k3, c1, c2, c3⟩ := headOk_spec (by rw [hh]; simp)
    by_cases h1 : k = 1
    · subst h1
      obtain ⟨w0', s0⟩ := c2 (by omega)
      obtain ⟨l0, o0⟩ := c3 (by omega)
      have hws : ws = [] := List.eq_nil_of_length_eq_zero w0'
      have hks : ks = [] := List.eq_nil_of_length_eq_zero s0
      have hos : os = [] := List.eq_nil_of_length_eq_zero o0
      subst hws hks hos l0
      simp [e1, hd00]
      refine sc_call_off rfl ?_
      simp
      refine sc_call_off rfl ?_
      simp [wz]
      refine sc_call (rRight_spec o h.o 64 (by omega)) rfl ?_
      simp
      refine sc_call_gt rfl (fun _ => rRight_spec nn h.n 64 (by omega)) (fun e => by simp [e]) rfl ?_
      simp
      exact frz_bool (by simp [Bool.and_assoc])
    · obtain ⟨rfl, rfl⟩ := c1 h1
      have nT : noneT T0 = true := rfl
      have cases3 : k = 2 ∧ l = 0 ∧ os = [] ∨ k = 3 ∧ ws = [] ∧ ks = [] ∨ k = 0 ∧ ws = [] ∧ ks = [] ∧ l = 0 ∧ os = [] := by
        by_cases k2 : k = 2
        · obtain ⟨l0, o0⟩ := c3 (by omega)
          exact .inl ⟨k2, l0, List.eq_nil_of_length_eq_zero o0⟩
        · obtain ⟨w0', s0⟩ := c2 k2
          by_cases k3 : k = 3
          · exact .inr (.inl ⟨k3, List.eq_nil_of_length_eq_zero w0', List.eq_nil_of_length_eq_zero s0⟩)
          · obtain ⟨l0, o0⟩ := c3 k3
            exact .inr (.inr ⟨by omega, List.eq_nil_of_length_eq_zero w0', List.eq_nil_of_length_eq_zero s0, l0, List.eq_nil_of_length_eq_zero o0⟩)
      rw [if_neg h1]
      clear c1 c2 c3 hh h1 k0 k3 ihk iho
      rcases cases3 with ⟨rfl, rfl, rfl⟩ | ⟨rfl, rfl, rfl⟩ | ⟨rfl, rfl, rfl, rfl, rfl⟩
      all_goals
        simp [hd00, e1]
        refine sc_call_gt rfl (fun _ => none_spec' h.o) (fun _ => rfl) rfl ?_
        simp [nT, e1]
        refine sc_call_gt rfl (fun _ => none_spec' h.n) (fun e => by simp [e]) rfl ?_
        simp [nT, e1, wz]
        refine eright_l1 (hl := h.wl) (hw := h.w) _ 0 (-1) _ (by simp; rfl) (by simp) (fun hr i' z q H' hA => ?_) (fun hr H' => ?_)
        rotate_left
        · first
            | (simp [wordsOk] at hr; done)
            | (simp at hr; simp; exact fz _ _ (by simp [hr]))
        simp at hr
        simp
        refine eright_l2 (by omega) hd (hl := h.kl) (ih := ihk') _ 0 (-1) _ (by simp; rfl) hA (fun hr2 i' z q H' hA => ?_) (fun hr2 H' => ?_)
        rotate_left
        · first
            | (simp at hr2; done)
            | (simp at hr2; simp; exact fz _ _ (by simp [hr2]))
        try simp at hr2
      · simp [hA]
        refine eright_l3 (by omega) hd (hl := h.ol) h.l h.os iho' hA _ 0 (by simp; rfl) (fun hr3 i' q => ?_) (fun hr3 => ?_)
        rotate_left
        · simp at hr3
        simp [hA]
        refine sc_call (rLengths_spec (e := .mk 2 T0 T0 ws ks 0 []) h.ol (fun x hx => by simp at hx)) rfl ?_
        simp
        refine frz_bool ?_
        simp [hr, hr2, lengths]
      · by_cases hl : l < 2 ∨ 9 < l
        · have hl' : (decide (l < 2) || decide (9 < l)) = true := by simpa using hl
          simp [hA, hl']
          exact fz _ _ (by simp [hr]; intro a b; omega)
        · have hl' : (decide (l < 2) || decide (9 < l)) = false := by simpa using hl
          simp [hA, hl']
          refine eright_l3 (by omega) hd (hl := h.ol) h.l h.os iho' hA _ 0 (by simp; rfl) (fun hr3 i' q => ?_) (fun hr3 => ?_)
          rotate_left
          · simp at hr3
            simp
            exact fz _ _ (by simp [hr3])
          simp at hr3
          simp [hA]
          refine sc_call (rLengths_spec (e := .mk 3 T0 T0 [] [] l os) h.ol (fun x hx => ⟨(op_n (rightOs_all.1 hr3 x hx)).1, (op_n (rightOs_all.1 hr3 x hx)).2, (h.os x hx).ll⟩)) rfl ?_
          simp
          refine frz_bool ?_
          have hl2 : ¬ (l < 2 ∨ l > 9) := hl
          simp [hr, hr3, hl2]
          intro _ _
          omega
      · simp [hA]
        refine eright_l3 (by omega) hd (hl := h.ol) h.l h.os iho' hA _ 0 (by simp; rfl) (fun hr3 i' q => ?_) (fun hr3 => ?_)
        rotate_left
        · simp at hr3
        simp [hA]
        refine sc_call (rLengths_spec (e := .mk 0 T0 T0 [] [] 0 []) h.ol (fun x hx => by simp at hx)) rfl ?_
        simp
        refine frz_bool ?_
        simp [wordsOk, lengths]
end Go.Proofs.YthfiijdbnkaabaaGreat

/-
  Chapter 1: words mixed byte by byte, by the program.
-/
namespace Go.Proofs.YthfiijdbnkaabaaGreat
set_option linter.unusedVariables false
set_option linter.unusedSimpArgs false
open Go Go.G Go.Proofs Go.PL
def mixN : Nat → Nat → Nat → Nat → Nat
  | 0, _, _, _ => 0
  | k + 1, a, b, m => (if m % 2 = 1 then b % 256 else a % 256) + 256 * mixN k (a / 256) (b / 256) (m / 2)
def wideN : Nat → Nat → Nat
  | 0, _ => 0
  | k + 1, m => (if m % 2 = 1 then 255 else 0) + 256 * wideN k (m / 2)
theorem wideN_lt : ∀ k m, wideN k m < 256 ^ k
  | 0, m => by simp [wideN]
  | k + 1, m => by
    have := wideN_lt k (m / 2)
    simp only [wideN, Nat.pow_succ]
    split <;> omega
theorem mixN_bits : ∀ k a b m, a < 256 ^ k → b < 256 ^ k → (a &&& (256 ^ k - 1 - wideN k m)) ||| (b &&& wideN k m) = mixN k a b m
  | 0, a, b, m, ha, hb => by
    simp at ha hb
    subst ha hb
    simp [mixN, wideN]
  | k + 1, a, b, m, ha, hb => by
    have hw := wideN_lt k (m / 2)
    rw [Nat.pow_succ] at ha hb
    have ih := mixN_bits k (a / 256) (b / 256) (m / 2) (by omega) (by omega)
    have p0 : 0 < 256 ^ k := Nat.pow_pos (by decide)
    generalize hx : (a &&& (256 ^ (k + 1) - 1 - wideN (k + 1) m)) ||| (b &&& wideN (k + 1) m) = x
    have d1 : wideN (k + 1) m / 256 = wideN k (m / 2) := by simp only [wideN]; split <;> omega
    have d2 : (256 ^ (k + 1) - 1 - wideN (k + 1) m) / 256 = 256 ^ k - 1 - wideN k (m / 2) := by simp only [wideN, Nat.pow_succ]; split <;> omega
    have m1 : wideN (k + 1) m % 256 = if m % 2 = 1 then 255 else 0 := by simp only [wideN]; split <;> omega
    have m2 : (256 ^ (k + 1) - 1 - wideN (k + 1) m) % 256 = if m % 2 = 1 then 0 else 255 := by simp only [wideN, Nat.pow_succ]; split <;> omega
    have e1 : x / 256 = mixN k (a / 256) (b / 256) (m / 2) := by
      have q1 := @Nat.or_div_two_pow (a &&& (256 ^ (k + 1) - 1 - wideN (k + 1) m)) (b &&& wideN (k + 1) m) 8
      have q2 := @Nat.and_div_two_pow a (256 ^ (k + 1) - 1 - wideN (k + 1) m) 8
      have q3 := @Nat.and_div_two_pow b (wideN (k + 1) m) 8
      have c : (2 : Nat) ^ 8 = 256 := rfl
      rw [q2, q3, c, d1, d2, hx] at q1
      rw [q1, ih]
    have e2 : x % 256 = if m % 2 = 1 then b % 256 else a % 256 := by
      have h : x % 2 ^ 8 = (a % 2 ^ 8 &&& (256 ^ (k + 1) - 1 - wideN (k + 1) m) % 2 ^ 8) ||| (b % 2 ^ 8 &&& wideN (k + 1) m % 2 ^ 8) := by
        rw [← hx, Nat.or_mod_two_pow, Nat.and_mod_two_pow, Nat.and_mod_two_pow]
      have c : (2 : Nat) ^ 8 = 256 := rfl
      rw [c, m1, m2] at h
      rw [h]
      have h255 : (255 : Nat) = 2 ^ 8 - 1 := rfl
      split
      · rw [h255, Nat.and_two_pow_sub_one_eq_mod]; simp
      · rw [h255, Nat.and_two_pow_sub_one_eq_mod]; simp
    simp only [mixN]
    omega
theorem mx_range : ∀ (k : Nat) (a b mask : Int), 0 ≤ a → 0 ≤ b → 0 ≤ mask → ofZ ((List.range k).map fun i => if namedZ mask i = true then (bytesN k b).getD i 0 else (bytesN k a).getD i 0) = (mixN k a.toNat b.toNat mask.toNat : Nat)
  | 0, a, b, mask, _, _, _ => by simp [ofZ, mixN]
  | k + 1, a, b, mask, ha, hb, hm => by
    have ih := mx_range k (a / 256) (b / 256) (mask / 2) (by omega) (by omega) (by omega)
    have e1 : (a / 256).toNat = a.toNat / 256 := by omega
    have e2 : (b / 256).toNat = b.toNat / 256 := by omega
    have e3 : (mask / 2).toNat = mask.toNat / 2 := by omega
    rw [e1, e2, e3] at ih
    rw [List.range_succ_eq_map, List.map_cons, List.map_map, ofZ]
    have h : (List.range k).map ((fun i => if namedZ mask i = true then (bytesN (k + 1) b).getD i 0 else (bytesN (k + 1) a).getD i 0) ∘ Nat.succ) = (List.range k).map fun i => if namedZ (mask / 2) i = true then (bytesN k (b / 256)).getD i 0 else (bytesN k (a / 256)).getD i 0 := by
      refine List.map_congr_left fun i _ => ?_
      have hn : namedZ mask (i + 1) = namedZ (mask / 2) i := by
        unfold namedZ
        have : mask / 2 ^ (i + 1) = mask / 2 / 2 ^ i := by
          rw [Int.ediv_ediv_of_nonneg (by decide), Int.pow_succ, Int.mul_comm]
        rw [this]
      simp [bytesN, hn]
    rw [h, ih]
    have h0 : (namedZ mask 0 = true) = (mask.toNat % 2 = 1) := by
      simp [namedZ]
      omega
    simp only [h0, mixN, bytesN, List.getD_cons_zero]
    split <;> omega
theorem mixZ_nat {a b mask : Int} (ha : u64R a) (hb : u64R b) (h0 : 0 ≤ mask) : mixZ a b mask = (mixN 8 a.toNat b.toNat mask.toNat : Nat) := by
  rw [← mx_range 8 a b mask ha.1 hb.1 h0]
  unfold mixZ mixL bytesZ
  rw [List.drop_eq_nil_of_le (by simp), List.append_nil]
def wS (mask : Int) : Nat → Int
  | 0 => 0
  | i + 1 => if bits .and .u8 (mask / 2 ^ min i 8) 1 = 1 then bits .or .u64 (wS mask i) (IntKind.u64.wrap (255 * 2 ^ min (8 * i) 64)) else wS mask i
theorem wS_all : ∀ m : Nat, m < 256 → wS m 8 = (wideN 8 m : Nat) := by decide +kernel
section
variable {n0 : Nat} {w0 : World} {I0 : Nat → Prop} {Q : Exit → Sta → Prop}
theorem mxwide_l1 {mask : Int} (hq : ∀ q, Q (.exit 0) ⟨lk [(0, u8 mask), (3, uv (wS mask 8)), (5, iv 8), (6, bv q)], lkH []⟩) :
    ∀ (j i : Nat), i + j = 8 → LoopC (cx Tryz.prog w0 I0 n0) l1_word_Wide Q ⟨lk [(0, u8 mask), (3, uv (wS mask i)), (5, iv i)], lkH []⟩ := by
  intro j
  induction j with
  | zero =>
    intro i hi
    have : i = 8 := by omega
    subst this
    refine loopC_once mixed l1_word_Wide.eq_1 ?_
    simp
    exact hq _
  | succ j ih =>
    intro i hi
    refine loopC_once mixed l1_word_Wide.eq_1 ?_
    have hlt : i < 8 := by omega
    have hlt2 : (i : Int) < 8 := by omega
    have e8 : IntKind.i64.wrap (8 * (i : Int)) = ((8 * i : Nat) : Int) := (i64_same (by omega) (by omega)).trans (by omega)
    have ei : IntKind.i64.wrap ((i : Int) + 1) = ((i + 1 : Nat) : Int) := i64_same (by omega) (by omega)
    have b8 : IntKind.u8.bits = 8 := rfl
    have b64 : IntKind.u64.bits = 64 := rfl
    have hs := ih (i + 1) (by omega)
    rw [wS] at hs
    have e9 : (8 * (i : Int)).toNat = 8 * i := by omega
    simp [hlt, hlt2, e8, ei, b8, b64, e9]
    refine ⟨fun hc => ⟨by omega, ?_⟩, fun hc => ?_⟩
    · rw [if_pos hc] at hs
      exact hs
    · rw [if_neg hc] at hs
      exact hs
end
theorem pWide_spec {mask : Int} (h0 : 0 ≤ mask) (h1 : mask < 256) : G.Spec Tryz.prog 146 [u8 mask] (uv (wideN 8 mask.toNat : Nat)) := by
  refine spec_of t_word_Wide (by simp) fun w0 I0 => ?_
  unfold c_word_Wide
  simp
  obtain ⟨m, rfl⟩ := Int.eq_ofNat_of_zero_le h0
  refine mxwide_l1 (fun q => ?_) 8 0 rfl
  simp
  rw [wS_all m (by omega)]
  exact frz_bare rfl
theorem mx_nat {x : Nat} (h : x < 2 ^ 64) : (BitVec.ofInt 64 (x : Int)).toNat = x := by
  rw [BitVec.toNat_ofInt]
  omega
theorem mx_and {x y : Nat} (hx : x < 2 ^ 64) (hy : y < 2 ^ 64) : bits .and .u64 x y = (x &&& y : Nat) := by
  have h := Nat.lt_of_le_of_lt (Nat.and_le_left (n := x) (m := y)) hx
  show IntKind.u64.wrap ((BitVec.ofInt 64 x &&& BitVec.ofInt 64 y).toNat : Nat) = _
  rw [BitVec.toNat_and, mx_nat hx, mx_nat hy]
  exact u64_same (by omega) (by omega)
theorem mx_or {x y : Nat} (hx : x < 2 ^ 64) (hy : y < 2 ^ 64) : bits .or .u64 x y = (x ||| y : Nat) := by
  have h := Nat.or_lt_two_pow hx hy
  show IntKind.u64.wrap ((BitVec.ofInt 64 x ||| BitVec.ofInt 64 y).toNat : Nat) = _
  rw [BitVec.toNat_or, mx_nat hx, mx_nat hy]
  exact u64_same (by omega) (by omega)
theorem mx_andN {x y : Nat} (hx : x < 2 ^ 64) (hy : y < 2 ^ 64) : bits .andNot .u64 x y = (x &&& (256 ^ 8 - 1 - y) : Nat) := by
  have h := Nat.lt_of_le_of_lt (Nat.and_le_left (n := x) (m := 256 ^ 8 - 1 - y)) hx
  show IntKind.u64.wrap ((BitVec.ofInt 64 x &&& ~~~ BitVec.ofInt 64 y).toNat : Nat) = _
  rw [BitVec.toNat_and, BitVec.toNat_not, mx_nat hx, mx_nat hy]
  have e : (2 : Nat) ^ 64 - 1 - y = 256 ^ 8 - 1 - y := rfl
  rw [e]
  exact u64_same (by omega) (by omega)
theorem pMix_spec {a b mask : Int} (ha : u64R a) (hb : u64R b) (h0 : 0 ≤ mask) (h1 : mask < 256) : G.Spec Tryz.prog 126 [uv a, uv b, u8 mask] (uv (mixZ a b mask)) := by
  refine spec_of t_word_Mix (by simp) fun w0 I0 => ?_
  unfold c_word_Mix
  simp
  refine sc_call (pWide_spec h0 h1) (by simp) ?_
  simp
  refine sc_call (pWide_spec h0 h1) (by simp) ?_
  simp
  refine frz_int ?_
  rw [mixZ_nat ha hb h0]
  obtain ⟨x, rfl⟩ := Int.eq_ofNat_of_zero_le ha.1
  obtain ⟨y, rfl⟩ := Int.eq_ofNat_of_zero_le hb.1
  have hx : x < 2 ^ 64 := by have := ha.2; omega
  have hy : y < 2 ^ 64 := by have := hb.2; omega
  have hw : wideN 8 mask.toNat < 2 ^ 64 := wideN_lt 8 _
  rw [mx_andN hx hw, mx_and hy hw, mx_or (Nat.lt_of_le_of_lt Nat.and_le_left hx) (Nat.lt_of_le_of_lt Nat.and_le_left hy)]
  have := mixN_bits 8 x y mask.toNat hx hy
  simp only [Int.toNat_natCast]
  rw [← this]
end Go.Proofs.YthfiijdbnkaabaaGreat
