/-
  The functions' text as data, and the facts on the types that they use: written by a program of ours (gen2.py) off the translation.
-/
import Derived.Test.YtigdcnlhgelkaaaProg
import Derived.Test.YtigdcnlhgelkaaaGSimp
import Derived.Test.YtigdcnlhgelkaaaGFnsA
import Derived.Test.YtigdcnlhgelkaaaGFns1
import Derived.Test.YtigdcnlhgelkaaaGFnsB
import Derived.Test.YtigdcnlhgelkaaaGFns7
import Derived.KernelRfl
namespace Go.Proofs.Ytigdcnlhgelkaaa
set_option linter.unusedVariables false
set_option linter.unusedSimpArgs false
set_option maxRecDepth 20000
open Go Go.G Go.Proofs

@[simp] theorem und_26 : Try.prog.underlying 26 = some (.slice 93) := by kernel_rfl
@[simp] theorem und_27 : Try.prog.underlying 27 = some (.slice 95) := by kernel_rfl
@[simp] theorem und_28 : Try.prog.underlying 28 = some (.slice 98) := by kernel_rfl
@[simp] theorem szT_26 : szT Try.prog 26 = some 1 := by kernel_rfl
@[simp] theorem szT_27 : szT Try.prog 27 = some 1 := by kernel_rfl
@[simp] theorem szT_28 : szT Try.prog 28 = some 1 := by kernel_rfl
@[simp] theorem szT_30 : szT Try.prog 30 = some 11 := by kernel_rfl
@[simp] theorem szT_93 : szT Try.prog 93 = some 4 := by kernel_rfl
@[simp] theorem szT_95 : szT Try.prog 95 = some 12 := by kernel_rfl
@[simp] theorem szT_98 : szT Try.prog 98 = some 14 := by kernel_rfl
@[simp] theorem aggT_26 : aggT Try.prog 26 = some false := by kernel_rfl
@[simp] theorem aggT_27 : aggT Try.prog 27 = some false := by kernel_rfl
@[simp] theorem aggT_28 : aggT Try.prog 28 = some false := by kernel_rfl
@[simp] theorem aggT_30 : aggT Try.prog 30 = some true := by kernel_rfl
@[simp] theorem aggT_93 : aggT Try.prog 93 = some true := by kernel_rfl
@[simp] theorem aggT_95 : aggT Try.prog 95 = some true := by kernel_rfl
@[simp] theorem aggT_98 : aggT Try.prog 98 = some true := by kernel_rfl
@[simp] theorem zeroT_93 : zeroT Try.prog 93 = some (Value.agg #[Value.int IntKind.i64 0, Value.int IntKind.u8 0, Value.int IntKind.u64 0, Value.int IntKind.u64 0]) := by kernel_rfl
@[simp] theorem zeroT_95 : zeroT Try.prog 95 = some (Value.agg #[Value.int IntKind.i64 0, Value.int IntKind.i64 0, Value.int IntKind.i64 0, Value.slice none 0 0, Value.slice none 0 0, Value.int IntKind.i64 0, Value.slice none 0 0, Value.slice none 0 0, Value.slice none 0 0, Value.slice none 0 0, Value.int IntKind.i64 0, Value.slice none 0 0]) := by kernel_rfl
@[simp] theorem zeroT_98 : zeroT Try.prog 98 = some (Value.agg #[Value.int IntKind.i64 0, Value.int IntKind.i64 0, Value.slice none 0 0, Value.int IntKind.i64 0, Value.int IntKind.i64 0, Value.slice none 0 0, Value.slice none 0 0, Value.int IntKind.i64 0, Value.slice none 0 0, Value.slice none 0 0, Value.slice none 0 0, Value.slice none 0 0, Value.int IntKind.i64 0, Value.slice none 0 0]) := by kernel_rfl
@[simp] theorem bytesT_93 : bytesT Try.prog 93 = some 32 := by kernel_rfl
@[simp] theorem bytesT_95 : bytesT Try.prog 95 = some 208 := by kernel_rfl
@[simp] theorem bytesT_98 : bytesT Try.prog 98 = some 240 := by kernel_rfl
@[simp] theorem fieldOffT_30_0 : fieldOffT Try.prog 30 0 = some 0 := by kernel_rfl
@[simp] theorem fieldOffT_30_1 : fieldOffT Try.prog 30 1 = some 1 := by kernel_rfl
@[simp] theorem fieldOffT_30_2 : fieldOffT Try.prog 30 2 = some 4 := by kernel_rfl
@[simp] theorem fieldOffT_30_3 : fieldOffT Try.prog 30 3 = some 7 := by kernel_rfl
@[simp] theorem fieldOffT_30_4 : fieldOffT Try.prog 30 4 = some 8 := by kernel_rfl
@[simp] theorem fieldOffT_30_5 : fieldOffT Try.prog 30 5 = some 9 := by kernel_rfl
@[simp] theorem fieldOffT_30_6 : fieldOffT Try.prog 30 6 = some 10 := by kernel_rfl
@[simp] theorem fieldOffT_93_0 : fieldOffT Try.prog 93 0 = some 0 := by kernel_rfl
@[simp] theorem fieldOffT_93_1 : fieldOffT Try.prog 93 1 = some 1 := by kernel_rfl
@[simp] theorem fieldOffT_93_2 : fieldOffT Try.prog 93 2 = some 2 := by kernel_rfl
@[simp] theorem fieldOffT_93_3 : fieldOffT Try.prog 93 3 = some 3 := by kernel_rfl
@[simp] theorem fieldOffT_95_0 : fieldOffT Try.prog 95 0 = some 0 := by kernel_rfl
@[simp] theorem fieldOffT_95_1 : fieldOffT Try.prog 95 1 = some 1 := by kernel_rfl
@[simp] theorem fieldOffT_98_0 : fieldOffT Try.prog 98 0 = some 0 := by kernel_rfl
@[simp] theorem fieldOffT_98_1 : fieldOffT Try.prog 98 1 = some 1 := by kernel_rfl
@[simp] theorem fieldOffT_98_2 : fieldOffT Try.prog 98 2 = some 2 := by kernel_rfl
@[simp] theorem fieldOffT_98_3 : fieldOffT Try.prog 98 3 = some 3 := by kernel_rfl
@[simp] theorem buildA_30 (ps : List (Nat × A)) : buildA Try.prog 30 ps = (fillA (fun i => ([(0, 1), (1, 3), (4, 3), (7, 1), (8, 1), (9, 1), (10, 1)] : List (Nat × Nat))[i]?) [A.v (Value.int IntKind.i64 0), A.v (Value.int IntKind.i64 0), A.sl true [], A.sl true [], A.v (Value.int IntKind.i64 0), A.sl true [], A.sl true [], A.sl true [], A.sl true [], A.v (Value.int IntKind.i64 0), A.sl true []] ps).map A.agg := by kernel_rfl


/-- cento/centoref20.none -/
def c_centoref20_none : CC :=
  .seq (.reg [cn (some 1) (.box 25 (.tmp 0)) none [0],
      co (some 2) (.assign (.const (.bool false))) none] [1])
  (.seq (.reg [co (some 3) (.fieldAddr 25 (.tmp 1) 0) none,
      co (some 4) (.load 3 (.tmp 3)) none,
      co (some 5) (.binOp .eql 3 (.tmp 4) (.const (.int .i64 0)) 3) none,
      co (some 6) (.move (.tmp 5)) none,
      co (some 7) (.fieldAddr 25 (.tmp 1) 1) (some (6, true)),
      co (some 8) (.load 22 (.tmp 7)) (some (6, true)),
      co (some 9) (.call { callee := (.builtin .len), args := #[(.tmp 8)], argTypes := #[22] }) (some (6, true)),
      co (some 10) (.fieldAddr 25 (.tmp 1) 2) (some (6, true)),
      co (some 11) (.load 23 (.tmp 10)) (some (6, true)),
      co (some 12) (.call { callee := (.builtin .len), args := #[(.tmp 11)], argTypes := #[23] }) (some (6, true)),
      co (some 13) (.binOp .add 3 (.tmp 9) (.tmp 12) 3) (some (6, true)),
      co (some 14) (.binOp .eql 3 (.tmp 13) (.const (.int .i64 0)) 3) (some (6, true)),
      co (some 15) (.pick (.tmp 6) (.tmp 14) (.const (.bool false))) none,
      co (some 2) (.assign (.tmp 15)) none] [2])
  (.ret))
theorem t_centoref20_none : Txt Try.prog 80 16 [(.tmp 2)] c_centoref20_none := txt_of (code := Try.f80.body.getD .ret) mixed (by kernel_rfl) Try.func80 (by kernel_rfl) Try.ntmps80 (by kernel_rfl) (ls := [([1], [(0, [0])]), ([], []), ([2], []), ([], [])]) (by kernel_rfl)


/-- cento/centoref20.within -/
def c_centoref20_within : CC :=
  .seq (.reg [co (some 4) (.assign (.const (.bool false))) none] [0, 1])
  (.seq (.reg [co (some 5) (.move (.tmp 0)) none,
      co (some 6) (.move (.tmp 1)) none,
      co (some 7) (.call { callee := (.value (.func 115)), args := #[(.tmp 5), (.const (.int .u64 0)), (.tmp 6)], argTypes := #[45, 45, 5] }) none,
      co (some 8) (.binOp .eql 45 (.tmp 7) (.const (.int .u64 0)) 45) none,
      co (some 4) (.assign (.tmp 8)) none] [4])
  (.ret))
theorem t_centoref20_within : Txt Try.prog 81 9 [(.tmp 4)] c_centoref20_within := txt_of (code := Try.f81.body.getD .ret) mixed (by kernel_rfl) Try.func81 (by kernel_rfl) Try.ntmps81 (by kernel_rfl) (ls := [([0, 1], []), ([], []), ([4], []), ([], [])]) (by kernel_rfl)


/-- cento/centoref20.same -/
def c_centoref20_same : CC :=
  .seq (.reg [cn (some 1) (.box 30 (.tmp 0)) none [0],
      co (some 2) (.assign (.const (.bool false))) none] [1])
  (.seq (.reg [co (some 3) (.fieldAddr 30 (.tmp 1) 0) none,
      co (some 4) (.load 3 (.tmp 3)) none,
      co (some 5) (.binOp .eql 3 (.tmp 4) (.const (.int .i64 0)) 3) none,
      co (some 6) (.move (.tmp 5)) none,
      co (some 7) (.fieldAddr 30 (.tmp 1) 1) (some (6, true)),
      co (some 8) (.load 25 (.tmp 7)) (some (6, true)),
      co (some 9) (.call { callee := (.value (.func 80)), args := #[(.tmp 8)], argTypes := #[25] }) (some (6, true)),
      co (some 10) (.pick (.tmp 6) (.tmp 9) (.const (.bool false))) none,
      co (some 11) (.move (.tmp 10)) none,
      co (some 12) (.fieldAddr 30 (.tmp 1) 2) (some (11, true)),
      co (some 13) (.load 25 (.tmp 12)) (some (11, true)),
      co (some 14) (.call { callee := (.value (.func 80)), args := #[(.tmp 13)], argTypes := #[25] }) (some (11, true)),
      co (some 15) (.pick (.tmp 11) (.tmp 14) (.const (.bool false))) none,
      co (some 16) (.move (.tmp 15)) none,
      co (some 17) (.fieldAddr 30 (.tmp 1) 3) (some (16, true)),
      co (some 18) (.load 26 (.tmp 17)) (some (16, true)),
      co (some 19) (.call { callee := (.builtin .len), args := #[(.tmp 18)], argTypes := #[26] }) (some (16, true)),
      co (some 20) (.fieldAddr 30 (.tmp 1) 4) (some (16, true)),
      co (some 21) (.load 27 (.tmp 20)) (some (16, true)),
      co (some 22) (.call { callee := (.builtin .len), args := #[(.tmp 21)], argTypes := #[27] }) (some (16, true)),
      co (some 23) (.binOp .add 3 (.tmp 19) (.tmp 22) 3) (some (16, true)),
      co (some 24) (.fieldAddr 30 (.tmp 1) 6) (some (16, true)),
      co (some 25) (.load 28 (.tmp 24)) (some (16, true)),
      co (some 26) (.call { callee := (.builtin .len), args := #[(.tmp 25)], argTypes := #[28] }) (some (16, true)),
      co (some 27) (.binOp .add 3 (.tmp 23) (.tmp 26) 3) (some (16, true)),
      co (some 28) (.binOp .eql 3 (.tmp 27) (.const (.int .i64 0)) 3) (some (16, true)),
      co (some 29) (.pick (.tmp 16) (.tmp 28) (.const (.bool false))) none,
      co (some 30) (.move (.tmp 29)) none,
      co (some 31) (.fieldAddr 30 (.tmp 1) 5) (some (30, true)),
      co (some 32) (.load 3 (.tmp 31)) (some (30, true)),
      co (some 33) (.binOp .eql 3 (.tmp 32) (.const (.int .i64 0)) 3) (some (30, true)),
      co (some 34) (.pick (.tmp 30) (.tmp 33) (.const (.bool false))) none,
      co (some 2) (.assign (.tmp 34)) none] [2])
  (.ret))
theorem t_centoref20_same : Txt Try.prog 116 35 [(.tmp 2)] c_centoref20_same := txt_of (code := Try.f116.body.getD .ret) mixed (by kernel_rfl) Try.func116 (by kernel_rfl) Try.ntmps116 (by kernel_rfl) (ls := [([1], [(0, [0])]), ([], []), ([2], []), ([], [])]) (by kernel_rfl)

def l1_centoref20_op : CC :=
  .seq (.seq (.reg [co (some 46) (.move (.tmp 7)) none,
        co (some 47) (.fieldAddr 98 (.tmp 4) 2) none,
        co (some 48) (.load 23 (.tmp 47)) none,
        co (some 49) (.call { callee := (.builtin .len), args := #[(.tmp 48)], argTypes := #[23] }) none,
        co (some 50) (.binOp .lss 3 (.tmp 46) (.tmp 49) 3) none] [0, 4, 7, 50])
    (.cond (.tmp 50)
      (.skip)
      (.exit 0)))
  (.keep [0, 4, 7] (.seq (.block 1
      (.seq (.reg [co (some 53) (.move (.tmp 0)) none,
          co (some 54) (.fieldAddr 98 (.tmp 4) 2) none,
          co (some 55) (.load 23 (.tmp 54)) none,
          co (some 56) (.move (.tmp 7)) none,
          co (some 57) (.move (.tmp 7)) none,
          co (some 58) (.binOp .add 3 (.tmp 57) (.const (.int .i64 1)) 3) none,
          co (some 59) (.slice 23 (.tmp 55) (some (.tmp 56)) (some (.tmp 58)) none) none,
          co (some 60) (.build 25 #[(0, (.tmp 53)), (2, (.tmp 59))]) none,
          co (some 61) (.call { callee := (.value (.func 15)), args := #[(.tmp 60), (.const (.int .i64 64))], argTypes := #[25, 3] }) none,
          co (some 62) (.unOp .not 4 (.tmp 61)) none] [0, 4, 7, 62])
      (.cond (.tmp 62)
        (.seq (.reg [co (some 6) (.assign (.const (.bool false))) none] [6])
        (.ret))
        (.skip))))
  (.keep [0, 4, 7] (.reg [co (some 51) (.move (.tmp 7)) none,
    co (some 52) (.binOp .add 3 (.tmp 51) (.const (.int .i64 1)) 3) none,
    co (some 7) (.assign (.tmp 52)) none] [0, 4, 7]))))

/-- cento/centoref20.op -/
def c_centoref20_op : CC :=
  .seq (.reg [cn (some 4) (.box 98 (.tmp 1)) none [0],
      co (some 6) (.assign (.const (.bool false))) none] [0, 2, 4])
  (.seq (.seq (.reg [co (some 8) (.fieldAddr 98 (.tmp 4) 0) none,
        co (some 9) (.load 3 (.tmp 8)) none,
        co (some 10) (.binOp .eql 3 (.tmp 9) (.const (.int .i64 0)) 3) none] [0, 2, 4, 10])
    (.cond (.tmp 10)
      (.seq (.reg [co (some 11) (.fieldAddr 98 (.tmp 4) 1) none,
          co (some 12) (.load 3 (.tmp 11)) none,
          co (some 13) (.binOp .geq 3 (.tmp 12) (.const (.int .i64 1)) 3) none,
          co (some 14) (.move (.tmp 13)) none,
          co (some 15) (.fieldAddr 98 (.tmp 4) 1) (some (14, true)),
          co (some 16) (.load 3 (.tmp 15)) (some (14, true)),
          co (some 17) (.binOp .leq 3 (.tmp 16) (.const (.int .i64 1048576)) 3) (some (14, true)),
          co (some 18) (.pick (.tmp 14) (.tmp 17) (.const (.bool false))) none,
          co (some 19) (.move (.tmp 18)) none,
          co (some 20) (.fieldAddr 98 (.tmp 4) 2) (some (19, true)),
          co (some 21) (.load 23 (.tmp 20)) (some (19, true)),
          co (some 22) (.call { callee := (.builtin .len), args := #[(.tmp 21)], argTypes := #[23] }) (some (19, true)),
          co (some 23) (.binOp .eql 3 (.tmp 22) (.const (.int .i64 0)) 3) (some (19, true)),
          co (some 24) (.pick (.tmp 19) (.tmp 23) (.const (.bool false))) none,
          co (some 25) (.move (.tmp 24)) none,
          co (some 26) (.fieldAddr 98 (.tmp 4) 3) (some (25, true)),
          co (some 27) (.load 30 (.tmp 26)) (some (25, true)),
          co (some 28) (.call { callee := (.value (.func 116)), args := #[(.tmp 27)], argTypes := #[30] }) (some (25, true)),
          co (some 29) (.pick (.tmp 25) (.tmp 28) (.const (.bool false))) none,
          co (some 6) (.assign (.tmp 29)) none] [6])
      (.ret))
      (.skip)))
  (.keep [0, 2, 4] (.seq (.seq (.reg [co (some 30) (.fieldAddr 98 (.tmp 4) 1) none,
        co (some 31) (.load 3 (.tmp 30)) none,
        co (some 32) (.binOp .neq 3 (.tmp 31) (.const (.int .i64 0)) 3) none,
        co (some 33) (.move (.tmp 32)) none,
        co (some 34) (.fieldAddr 98 (.tmp 4) 0) (some (33, false)),
        co (some 35) (.load 3 (.tmp 34)) (some (33, false)),
        co (some 36) (.binOp .lss 3 (.tmp 35) (.const (.int .i64 0)) 3) (some (33, false)),
        co (some 37) (.pick (.tmp 33) (.const (.bool true)) (.tmp 36)) none,
        co (some 38) (.move (.tmp 37)) none,
        co (some 39) (.fieldAddr 98 (.tmp 4) 0) (some (38, false)),
        co (some 40) (.load 3 (.tmp 39)) (some (38, false)),
        co (some 41) (.binOp .gtr 3 (.tmp 40) (.const (.int .i64 3)) 3) (some (38, false)),
        co (some 42) (.pick (.tmp 38) (.const (.bool true)) (.tmp 41)) none] [0, 2, 4, 42])
    (.cond (.tmp 42)
      (.seq (.reg [co (some 6) (.assign (.const (.bool false))) none] [6])
      (.ret))
      (.skip)))
  (.keep [0, 2, 4] (.seq (.seq (.reg [co (some 43) (.fieldAddr 98 (.tmp 4) 0) none,
        co (some 44) (.load 3 (.tmp 43)) none,
        co (some 45) (.binOp .lss 3 (.tmp 44) (.const (.int .i64 3)) 3) none] [0, 2, 4, 45])
    (.cond (.tmp 45)
      (.seq (.seq (.reg [co (some 7) (.assign (.const (.int .i64 0))) none] [0, 4, 7])
        (.block 0
          (.loop l1_centoref20_op)))
      (.keep [4] (.seq (.reg [co (some 63) (.fieldAddr 98 (.tmp 4) 2) none,
          co (some 64) (.load 23 (.tmp 63)) none,
          co (some 65) (.call { callee := (.builtin .len), args := #[(.tmp 64)], argTypes := #[23] }) none,
          co (some 66) (.binOp .gtr 3 (.tmp 65) (.const (.int .i64 0)) 3) none,
          co (some 67) (.move (.tmp 66)) none,
          co (some 68) (.fieldAddr 98 (.tmp 4) 3) (some (67, true)),
          co (some 69) (.load 30 (.tmp 68)) (some (67, true)),
          co (some 70) (.call { callee := (.value (.func 116)), args := #[(.tmp 69)], argTypes := #[30] }) (some (67, true)),
          co (some 71) (.pick (.tmp 67) (.tmp 70) (.const (.bool false))) none,
          co (some 6) (.assign (.tmp 71)) none] [6])
      (.ret))))
      (.skip)))
  (.keep [0, 2, 4] (.seq (.seq (.reg [co (some 72) (.fieldAddr 98 (.tmp 4) 2) none,
        co (some 73) (.load 23 (.tmp 72)) none,
        co (some 74) (.call { callee := (.builtin .len), args := #[(.tmp 73)], argTypes := #[23] }) none,
        co (some 75) (.binOp .gtr 3 (.tmp 74) (.const (.int .i64 0)) 3) none,
        co (some 76) (.move (.tmp 75)) none,
        co (some 77) (.fieldAddr 98 (.tmp 4) 3) (some (76, false)),
        co (some 78) (.fieldAddr 30 (.tmp 77) 0) (some (76, false)),
        co (some 79) (.load 3 (.tmp 78)) (some (76, false)),
        co (some 80) (.binOp .eql 3 (.tmp 79) (.const (.int .i64 0)) 3) (some (76, false)),
        co (some 81) (.pick (.tmp 76) (.const (.bool true)) (.tmp 80)) none,
        co (some 82) (.move (.tmp 81)) none,
        co (some 83) (.move (.tmp 0)) (some (82, false)),
        co (some 84) (.binOp .leq 3 (.tmp 83) (.const (.int .i64 7)) 3) (some (82, false)),
        co (some 85) (.pick (.tmp 82) (.const (.bool true)) (.tmp 84)) none,
        co (some 86) (.move (.tmp 85)) none,
        co (some 87) (.fieldAddr 98 (.tmp 4) 3) (some (86, false)),
        co (some 88) (.load 30 (.tmp 87)) (some (86, false)),
        co (some 89) (.move (.tmp 2)) (some (86, false)),
        co (some 90) (.call { callee := (.value (.func 47)), args := #[(.tmp 88), (.tmp 89)], argTypes := #[30, 3] }) (some (86, false)),
        co (some 91) (.unOp .not 4 (.tmp 90)) (some (86, false)),
        co (some 92) (.pick (.tmp 86) (.const (.bool true)) (.tmp 91)) none] [0, 4, 92])
    (.cond (.tmp 92)
      (.seq (.reg [co (some 6) (.assign (.const (.bool false))) none] [6])
      (.ret))
      (.skip)))
  (.keep [0, 4] (.seq (.reg [co (some 93) (.move (.tmp 0)) none,
      co (some 94) (.binOp .eql 3 (.tmp 93) (.const (.int .i64 8)) 3) none,
      co (some 95) (.move (.tmp 94)) none,
      co (some 96) (.fieldAddr 98 (.tmp 4) 3) (some (95, false)),
      co (some 97) (.fieldAddr 30 (.tmp 96) 0) (some (95, false)),
      co (some 98) (.load 3 (.tmp 97)) (some (95, false)),
      co (some 99) (.binOp .eql 3 (.tmp 98) (.const (.int .i64 2)) 3) (some (95, false)),
      co (some 100) (.pick (.tmp 95) (.const (.bool true)) (.tmp 99)) none,
      co (some 101) (.move (.tmp 100)) none,
      co (some 102) (.fieldAddr 98 (.tmp 4) 3) (some (101, false)),
      co (some 103) (.fieldAddr 30 (.tmp 102) 0) (some (101, false)),
      co (some 104) (.load 3 (.tmp 103)) (some (101, false)),
      co (some 105) (.binOp .eql 3 (.tmp 104) (.const (.int .i64 1)) 3) (some (101, false)),
      co (some 106) (.move (.tmp 105)) (some (101, false)),
      co (some 107) (.fieldAddr 98 (.tmp 4) 3) (some (106, true)),
      co (some 108) (.fieldAddr 30 (.tmp 107) 1) (some (106, true)),
      co (some 109) (.fieldAddr 25 (.tmp 108) 0) (some (106, true)),
      co (some 110) (.load 3 (.tmp 109)) (some (106, true)),
      co (some 111) (.binOp .eql 3 (.tmp 110) (.const (.int .i64 1)) 3) (some (106, true)),
      co (some 112) (.pick (.tmp 106) (.tmp 111) (.const (.bool false))) (some (101, false)),
      co (some 113) (.move (.tmp 112)) (some (101, false)),
      co (some 114) (.fieldAddr 98 (.tmp 4) 3) (some (113, true)),
      co (some 115) (.fieldAddr 30 (.tmp 114) 2) (some (113, true)),
      co (some 116) (.fieldAddr 25 (.tmp 115) 0) (some (113, true)),
      co (some 117) (.load 3 (.tmp 116)) (some (113, true)),
      co (some 118) (.binOp .eql 3 (.tmp 117) (.const (.int .i64 1)) 3) (some (113, true)),
      co (some 119) (.pick (.tmp 113) (.tmp 118) (.const (.bool false))) (some (101, false)),
      co (some 120) (.pick (.tmp 101) (.const (.bool true)) (.tmp 119)) none,
      co (some 6) (.assign (.tmp 120)) none] [6])
  (.ret))))))))))
theorem t_centoref20_op : Txt Try.prog 82 121 [(.tmp 6)] c_centoref20_op := txt_of (code := Try.f82.body.getD .ret) mixed (by kernel_rfl) Try.func82 (by kernel_rfl) Try.ntmps82 (by kernel_rfl) (ls := [([0, 2, 4], [(0, [0])]), ([], []), ([0, 2, 4, 10], []), ([], []), ([6], []), ([], []), ([999999, 0, 2, 4], []), ([0, 2, 4, 42], []), ([], []), ([6], []), ([], []), ([999999, 0, 2, 4], []), ([0, 2, 4, 45], []), ([], []), ([0, 4, 7], []), ([], []), ([0, 4, 7, 50], []), ([], []), ([999999, 0, 4, 7], []), ([0, 4, 7, 62], []), ([], []), ([6], []), ([], []), ([999999, 0, 4, 7], []), ([0, 4, 7], []), ([999999, 4], []), ([6], []), ([], []), ([999999, 0, 2, 4], []), ([0, 4, 92], []), ([], []), ([6], []), ([], []), ([999999, 0, 4], []), ([6], []), ([], [])]) (by kernel_rfl)

def l1_centoref20_Right : CC :=
  .seq (.seq (.reg [co (some 93) (.move (.tmp 6)) none,
        co (some 94) (.fieldAddr 30 (.tmp 2) 3) none,
        co (some 95) (.load 26 (.tmp 94)) none,
        co (some 96) (.call { callee := (.builtin .len), args := #[(.tmp 95)], argTypes := #[26] }) none,
        co (some 97) (.binOp .lss 3 (.tmp 93) (.tmp 96) 3) none] [1, 2, 5, 6, 97])
    (.cond (.tmp 97)
      (.skip)
      (.exit 0)))
  (.keep [1, 2, 5, 6] (.seq (.block 1
      (.seq (.reg [co (some 100) (.fieldAddr 30 (.tmp 2) 3) none,
          co (some 101) (.load 26 (.tmp 100)) none,
          co (some 102) (.move (.tmp 6)) none,
          co (some 103) (.indexAddr 26 (.tmp 101) (.tmp 102)) none,
          co (some 104) (.load 93 (.tmp 103)) none,
          cn (some 7) (.alloc 93) none [1],
          co none (.store 93 (.tmp 7) (.tmp 104)) none] [1, 2, 5, 6, 7])
      (.seq (.seq (.reg [co (some 105) (.fieldAddr 93 (.tmp 7) 0) none,
            co (some 106) (.load 3 (.tmp 105)) none,
            co (some 107) (.move (.tmp 5)) none,
            co (some 108) (.binOp .leq 3 (.tmp 106) (.tmp 107) 3) none,
            co (some 109) (.move (.tmp 108)) none,
            co (some 110) (.fieldAddr 93 (.tmp 7) 0) (some (109, false)),
            co (some 111) (.load 3 (.tmp 110)) (some (109, false)),
            co (some 112) (.binOp .gtr 3 (.tmp 111) (.const (.int .i64 65534)) 3) (some (109, false)),
            co (some 113) (.pick (.tmp 109) (.const (.bool true)) (.tmp 112)) none,
            co (some 114) (.move (.tmp 113)) none,
            co (some 115) (.fieldAddr 93 (.tmp 7) 1) (some (114, false)),
            co (some 116) (.load 5 (.tmp 115)) (some (114, false)),
            co (some 117) (.binOp .eql 5 (.tmp 116) (.const (.int .u8 0)) 5) (some (114, false)),
            co (some 118) (.pick (.tmp 114) (.const (.bool true)) (.tmp 117)) none,
            co (some 119) (.move (.tmp 118)) none,
            co (some 120) (.fieldAddr 93 (.tmp 7) 2) (some (119, false)),
            co (some 121) (.load 45 (.tmp 120)) (some (119, false)),
            co (some 122) (.fieldAddr 93 (.tmp 7) 1) (some (119, false)),
            co (some 123) (.load 5 (.tmp 122)) (some (119, false)),
            co (some 124) (.call { callee := (.value (.func 81)), args := #[(.tmp 121), (.tmp 123)], argTypes := #[45, 5] }) (some (119, false)),
            co (some 125) (.unOp .not 4 (.tmp 124)) (some (119, false)),
            co (some 126) (.pick (.tmp 119) (.const (.bool true)) (.tmp 125)) none,
            co (some 127) (.move (.tmp 126)) none,
            co (some 128) (.fieldAddr 93 (.tmp 7) 3) (some (127, false)),
            co (some 129) (.load 45 (.tmp 128)) (some (127, false)),
            co (some 130) (.fieldAddr 93 (.tmp 7) 1) (some (127, false)),
            co (some 131) (.load 5 (.tmp 130)) (some (127, false)),
            co (some 132) (.call { callee := (.value (.func 81)), args := #[(.tmp 129), (.tmp 131)], argTypes := #[45, 5] }) (some (127, false)),
            co (some 133) (.unOp .not 4 (.tmp 132)) (some (127, false)),
            co (some 134) (.pick (.tmp 127) (.const (.bool true)) (.tmp 133)) none] [1, 2, 6, 7, 134])
        (.cond (.tmp 134)
          (.seq (.reg [co (some 4) (.assign (.const (.bool false))) none] [4])
          (.ret))
          (.skip)))
      (.keep [1, 2, 6, 7] (.reg [co (some 135) (.fieldAddr 93 (.tmp 7) 0) none,
        co (some 136) (.load 3 (.tmp 135)) none,
        co (some 5) (.assign (.tmp 136)) none] [1, 2, 5, 6])))))
  (.keep [1, 2, 5, 6] (.reg [co (some 98) (.move (.tmp 6)) none,
    co (some 99) (.binOp .add 3 (.tmp 98) (.const (.int .i64 1)) 3) none,
    co (some 6) (.assign (.tmp 99)) none] [1, 2, 5, 6]))))
def l2_centoref20_Right : CC :=
  .seq (.seq (.reg [co (some 137) (.move (.tmp 8)) none,
        co (some 138) (.fieldAddr 30 (.tmp 2) 4) none,
        co (some 139) (.load 27 (.tmp 138)) none,
        co (some 140) (.call { callee := (.builtin .len), args := #[(.tmp 139)], argTypes := #[27] }) none,
        co (some 141) (.binOp .lss 3 (.tmp 137) (.tmp 140) 3) none] [1, 2, 5, 8, 141])
    (.cond (.tmp 141)
      (.skip)
      (.exit 2)))
  (.keep [1, 2, 5, 8] (.seq (.block 3
      (.seq (.reg [co (some 144) (.fieldAddr 30 (.tmp 2) 4) none,
          co (some 145) (.load 27 (.tmp 144)) none,
          co (some 146) (.move (.tmp 8)) none,
          co (some 147) (.indexAddr 27 (.tmp 145) (.tmp 146)) none,
          co (some 148) (.load 95 (.tmp 147)) none,
          cn (some 9) (.alloc 95) none [2],
          co none (.store 95 (.tmp 9) (.tmp 148)) none] [1, 2, 5, 8, 9])
      (.seq (.seq (.reg [co (some 149) (.fieldAddr 95 (.tmp 9) 0) none,
            co (some 150) (.load 3 (.tmp 149)) none,
            co (some 151) (.move (.tmp 5)) none,
            co (some 152) (.binOp .leq 3 (.tmp 150) (.tmp 151) 3) none,
            co (some 153) (.move (.tmp 152)) none,
            co (some 154) (.fieldAddr 95 (.tmp 9) 0) (some (153, false)),
            co (some 155) (.load 3 (.tmp 154)) (some (153, false)),
            co (some 156) (.binOp .gtr 3 (.tmp 155) (.const (.int .i64 65534)) 3) (some (153, false)),
            co (some 157) (.pick (.tmp 153) (.const (.bool true)) (.tmp 156)) none,
            co (some 158) (.move (.tmp 157)) none,
            co (some 159) (.fieldAddr 95 (.tmp 9) 1) (some (158, false)),
            co (some 160) (.fieldAddr 30 (.tmp 159) 0) (some (158, false)),
            co (some 161) (.load 3 (.tmp 160)) (some (158, false)),
            co (some 162) (.binOp .eql 3 (.tmp 161) (.const (.int .i64 0)) 3) (some (158, false)),
            co (some 163) (.pick (.tmp 158) (.const (.bool true)) (.tmp 162)) none,
            co (some 164) (.move (.tmp 163)) none,
            co (some 165) (.fieldAddr 95 (.tmp 9) 1) (some (164, false)),
            co (some 166) (.load 30 (.tmp 165)) (some (164, false)),
            co (some 167) (.move (.tmp 1)) (some (164, false)),
            co (some 168) (.binOp .sub 3 (.tmp 167) (.const (.int .i64 1)) 3) (some (164, false)),
            co (some 169) (.call { callee := (.value (.func 47)), args := #[(.tmp 166), (.tmp 168)], argTypes := #[30, 3] }) (some (164, false)),
            co (some 170) (.unOp .not 4 (.tmp 169)) (some (164, false)),
            co (some 171) (.pick (.tmp 164) (.const (.bool true)) (.tmp 170)) none] [1, 2, 8, 9, 171])
        (.cond (.tmp 171)
          (.seq (.reg [co (some 4) (.assign (.const (.bool false))) none] [4])
          (.ret))
          (.skip)))
      (.keep [1, 2, 8, 9] (.reg [co (some 172) (.fieldAddr 95 (.tmp 9) 0) none,
        co (some 173) (.load 3 (.tmp 172)) none,
        co (some 5) (.assign (.tmp 173)) none] [1, 2, 5, 8])))))
  (.keep [1, 2, 5, 8] (.reg [co (some 142) (.move (.tmp 8)) none,
    co (some 143) (.binOp .add 3 (.tmp 142) (.const (.int .i64 1)) 3) none,
    co (some 8) (.assign (.tmp 143)) none] [1, 2, 5, 8]))))
def l3_centoref20_Right : CC :=
  .seq (.seq (.reg [co (some 187) (.move (.tmp 10)) none,
        co (some 188) (.fieldAddr 30 (.tmp 2) 6) none,
        co (some 189) (.load 28 (.tmp 188)) none,
        co (some 190) (.call { callee := (.builtin .len), args := #[(.tmp 189)], argTypes := #[28] }) none,
        co (some 191) (.binOp .lss 3 (.tmp 187) (.tmp 190) 3) none] [1, 2, 10, 191])
    (.cond (.tmp 191)
      (.skip)
      (.exit 4)))
  (.keep [1, 2, 10] (.seq (.block 5
      (.seq (.reg [co (some 194) (.fieldAddr 30 (.tmp 2) 5) none,
          co (some 195) (.load 3 (.tmp 194)) none,
          co (some 196) (.fieldAddr 30 (.tmp 2) 6) none,
          co (some 197) (.load 28 (.tmp 196)) none,
          co (some 198) (.move (.tmp 10)) none,
          co (some 199) (.indexAddr 28 (.tmp 197) (.tmp 198)) none,
          co (some 200) (.load 98 (.tmp 199)) none,
          co (some 201) (.move (.tmp 1)) none,
          co (some 202) (.binOp .sub 3 (.tmp 201) (.const (.int .i64 1)) 3) none,
          co (some 203) (.call { callee := (.value (.func 82)), args := #[(.tmp 195), (.tmp 200), (.tmp 202)], argTypes := #[3, 98, 3] }) none,
          co (some 204) (.unOp .not 4 (.tmp 203)) none] [1, 2, 10, 204])
      (.cond (.tmp 204)
        (.seq (.reg [co (some 4) (.assign (.const (.bool false))) none] [4])
        (.ret))
        (.skip))))
  (.keep [1, 2, 10] (.reg [co (some 192) (.move (.tmp 10)) none,
    co (some 193) (.binOp .add 3 (.tmp 192) (.const (.int .i64 1)) 3) none,
    co (some 10) (.assign (.tmp 193)) none] [1, 2, 10]))))

/-- cento/centoref20.Right -/
def c_centoref20_Right : CC :=
  .seq (.reg [cn (some 2) (.box 30 (.tmp 0)) none [0],
      co (some 4) (.assign (.const (.bool false))) none] [1, 2])
  (.seq (.seq (.reg [co (some 13) (.move (.tmp 1)) none,
        co (some 14) (.binOp .eql 3 (.tmp 13) (.const (.int .i64 0)) 3) none,
        co (some 15) (.move (.tmp 14)) none,
        co (some 16) (.fieldAddr 30 (.tmp 2) 0) (some (15, false)),
        co (some 17) (.load 3 (.tmp 16)) (some (15, false)),
        co (some 18) (.binOp .lss 3 (.tmp 17) (.const (.int .i64 0)) 3) (some (15, false)),
        co (some 19) (.pick (.tmp 15) (.const (.bool true)) (.tmp 18)) none,
        co (some 20) (.move (.tmp 19)) none,
        co (some 21) (.fieldAddr 30 (.tmp 2) 0) (some (20, false)),
        co (some 22) (.load 3 (.tmp 21)) (some (20, false)),
        co (some 23) (.binOp .gtr 3 (.tmp 22) (.const (.int .i64 3)) 3) (some (20, false)),
        co (some 24) (.pick (.tmp 20) (.const (.bool true)) (.tmp 23)) none] [1, 2, 24])
    (.cond (.tmp 24)
      (.seq (.reg [co (some 4) (.assign (.const (.bool false))) none] [4])
      (.ret))
      (.skip)))
  (.keep [1, 2] (.seq (.seq (.reg [co (some 25) (.fieldAddr 30 (.tmp 2) 0) none,
        co (some 26) (.load 3 (.tmp 25)) none,
        co (some 27) (.binOp .neq 3 (.tmp 26) (.const (.int .i64 1)) 3) none,
        co (some 28) (.move (.tmp 27)) none,
        co (some 29) (.fieldAddr 30 (.tmp 2) 1) (some (28, true)),
        co (some 30) (.load 25 (.tmp 29)) (some (28, true)),
        co (some 31) (.call { callee := (.value (.func 80)), args := #[(.tmp 30)], argTypes := #[25] }) (some (28, true)),
        co (some 32) (.move (.tmp 31)) (some (28, true)),
        co (some 33) (.fieldAddr 30 (.tmp 2) 2) (some (32, true)),
        co (some 34) (.load 25 (.tmp 33)) (some (32, true)),
        co (some 35) (.call { callee := (.value (.func 80)), args := #[(.tmp 34)], argTypes := #[25] }) (some (32, true)),
        co (some 36) (.pick (.tmp 32) (.tmp 35) (.const (.bool false))) (some (28, true)),
        co (some 37) (.unOp .not 4 (.tmp 36)) (some (28, true)),
        co (some 38) (.pick (.tmp 28) (.tmp 37) (.const (.bool false))) none,
        co (some 39) (.move (.tmp 38)) none,
        co (some 40) (.fieldAddr 30 (.tmp 2) 0) (some (39, false)),
        co (some 41) (.load 3 (.tmp 40)) (some (39, false)),
        co (some 42) (.binOp .neq 3 (.tmp 41) (.const (.int .i64 2)) 3) (some (39, false)),
        co (some 43) (.move (.tmp 42)) (some (39, false)),
        co (some 44) (.fieldAddr 30 (.tmp 2) 3) (some (43, true)),
        co (some 45) (.load 26 (.tmp 44)) (some (43, true)),
        co (some 46) (.call { callee := (.builtin .len), args := #[(.tmp 45)], argTypes := #[26] }) (some (43, true)),
        co (some 47) (.fieldAddr 30 (.tmp 2) 4) (some (43, true)),
        co (some 48) (.load 27 (.tmp 47)) (some (43, true)),
        co (some 49) (.call { callee := (.builtin .len), args := #[(.tmp 48)], argTypes := #[27] }) (some (43, true)),
        co (some 50) (.binOp .add 3 (.tmp 46) (.tmp 49) 3) (some (43, true)),
        co (some 51) (.binOp .gtr 3 (.tmp 50) (.const (.int .i64 0)) 3) (some (43, true)),
        co (some 52) (.pick (.tmp 43) (.tmp 51) (.const (.bool false))) (some (39, false)),
        co (some 53) (.pick (.tmp 39) (.const (.bool true)) (.tmp 52)) none,
        co (some 54) (.move (.tmp 53)) none,
        co (some 55) (.fieldAddr 30 (.tmp 2) 0) (some (54, false)),
        co (some 56) (.load 3 (.tmp 55)) (some (54, false)),
        co (some 57) (.binOp .neq 3 (.tmp 56) (.const (.int .i64 3)) 3) (some (54, false)),
        co (some 58) (.move (.tmp 57)) (some (54, false)),
        co (some 59) (.fieldAddr 30 (.tmp 2) 5) (some (58, true)),
        co (some 60) (.load 3 (.tmp 59)) (some (58, true)),
        co (some 61) (.binOp .neq 3 (.tmp 60) (.const (.int .i64 0)) 3) (some (58, true)),
        co (some 62) (.move (.tmp 61)) (some (58, true)),
        co (some 63) (.fieldAddr 30 (.tmp 2) 6) (some (62, false)),
        co (some 64) (.load 28 (.tmp 63)) (some (62, false)),
        co (some 65) (.call { callee := (.builtin .len), args := #[(.tmp 64)], argTypes := #[28] }) (some (62, false)),
        co (some 66) (.binOp .gtr 3 (.tmp 65) (.const (.int .i64 0)) 3) (some (62, false)),
        co (some 67) (.pick (.tmp 62) (.const (.bool true)) (.tmp 66)) (some (58, true)),
        co (some 68) (.pick (.tmp 58) (.tmp 67) (.const (.bool false))) (some (54, false)),
        co (some 69) (.pick (.tmp 54) (.const (.bool true)) (.tmp 68)) none] [1, 2, 69])
    (.cond (.tmp 69)
      (.seq (.reg [co (some 4) (.assign (.const (.bool false))) none] [4])
      (.ret))
      (.skip)))
  (.keep [1, 2] (.seq (.seq (.reg [co (some 70) (.fieldAddr 30 (.tmp 2) 0) none,
        co (some 71) (.load 3 (.tmp 70)) none,
        co (some 72) (.binOp .eql 3 (.tmp 71) (.const (.int .i64 1)) 3) none] [1, 2, 72])
    (.cond (.tmp 72)
      (.seq (.reg [co (some 73) (.fieldAddr 30 (.tmp 2) 1) none,
          co (some 74) (.load 25 (.tmp 73)) none,
          co (some 75) (.call { callee := (.value (.func 15)), args := #[(.tmp 74), (.const (.int .i64 64))], argTypes := #[25, 3] }) none,
          co (some 76) (.move (.tmp 75)) none,
          co (some 77) (.fieldAddr 30 (.tmp 2) 2) (some (76, true)),
          co (some 78) (.load 25 (.tmp 77)) (some (76, true)),
          co (some 79) (.call { callee := (.value (.func 15)), args := #[(.tmp 78), (.const (.int .i64 64))], argTypes := #[25, 3] }) (some (76, true)),
          co (some 80) (.pick (.tmp 76) (.tmp 79) (.const (.bool false))) none,
          co (some 81) (.move (.tmp 80)) none,
          co (some 82) (.fieldAddr 30 (.tmp 2) 1) (some (81, true)),
          co (some 83) (.fieldAddr 25 (.tmp 82) 0) (some (81, true)),
          co (some 84) (.load 3 (.tmp 83)) (some (81, true)),
          co (some 85) (.binOp .neq 3 (.tmp 84) (.const (.int .i64 10)) 3) (some (81, true)),
          co (some 86) (.pick (.tmp 81) (.tmp 85) (.const (.bool false))) none,
          co (some 87) (.move (.tmp 86)) none,
          co (some 88) (.fieldAddr 30 (.tmp 2) 2) (some (87, true)),
          co (some 89) (.fieldAddr 25 (.tmp 88) 0) (some (87, true)),
          co (some 90) (.load 3 (.tmp 89)) (some (87, true)),
          co (some 91) (.binOp .neq 3 (.tmp 90) (.const (.int .i64 10)) 3) (some (87, true)),
          co (some 92) (.pick (.tmp 87) (.tmp 91) (.const (.bool false))) none,
          co (some 4) (.assign (.tmp 92)) none] [4])
      (.ret))
      (.skip)))
  (.keep [1, 2] (.seq (.reg [co (some 5) (.assign (.const (.int .i64 (-1)))) none] [1, 2, 5])
  (.seq (.seq (.reg [co (some 6) (.assign (.const (.int .i64 0))) none] [1, 2, 5, 6])
    (.block 0
      (.loop l1_centoref20_Right)))
  (.keep [1, 2] (.seq (.reg [co (some 5) (.assign (.const (.int .i64 (-1)))) none] [1, 2, 5])
  (.seq (.seq (.reg [co (some 8) (.assign (.const (.int .i64 0))) none] [1, 2, 5, 8])
    (.block 2
      (.loop l2_centoref20_Right)))
  (.keep [1, 2] (.seq (.seq (.reg [co (some 174) (.fieldAddr 30 (.tmp 2) 0) none,
        co (some 175) (.load 3 (.tmp 174)) none,
        co (some 176) (.binOp .eql 3 (.tmp 175) (.const (.int .i64 3)) 3) none,
        co (some 177) (.move (.tmp 176)) none,
        co (some 178) (.fieldAddr 30 (.tmp 2) 5) (some (177, true)),
        co (some 179) (.load 3 (.tmp 178)) (some (177, true)),
        co (some 180) (.binOp .lss 3 (.tmp 179) (.const (.int .i64 2)) 3) (some (177, true)),
        co (some 181) (.move (.tmp 180)) (some (177, true)),
        co (some 182) (.fieldAddr 30 (.tmp 2) 5) (some (181, false)),
        co (some 183) (.load 3 (.tmp 182)) (some (181, false)),
        co (some 184) (.binOp .gtr 3 (.tmp 183) (.const (.int .i64 9)) 3) (some (181, false)),
        co (some 185) (.pick (.tmp 181) (.const (.bool true)) (.tmp 184)) (some (177, true)),
        co (some 186) (.pick (.tmp 177) (.tmp 185) (.const (.bool false))) none] [1, 2, 186])
    (.cond (.tmp 186)
      (.seq (.reg [co (some 4) (.assign (.const (.bool false))) none] [4])
      (.ret))
      (.skip)))
  (.keep [1, 2] (.seq (.seq (.reg [co (some 10) (.assign (.const (.int .i64 0))) none] [1, 2, 10])
    (.block 4
      (.loop l3_centoref20_Right)))
  (.keep [2] (.seq (.reg [co (some 206) (.load 30 (.tmp 2)) none,
      co (some 207) (.call { callee := (.value (.func 83)), args := #[(.tmp 206)], argTypes := #[30] }) none,
      co (some 205) (.move (.tmp 207)) none,
      co (some 208) (.extract (.tmp 205) 0) none,
      co (some 209) (.extract (.tmp 205) 1) none,
      co (some 11) (.assign (.tmp 208)) none,
      co (some 12) (.assign (.tmp 209)) none] [11, 12])
  (.seq (.reg [co (some 210) (.move (.tmp 11)) none,
      co (some 211) (.binOp .lss 3 (.tmp 210) (.const (.int .i64 1048576)) 3) none,
      co (some 212) (.move (.tmp 211)) none,
      co (some 213) (.move (.tmp 12)) (some (212, true)),
      co (some 214) (.binOp .lss 3 (.tmp 213) (.const (.int .i64 1048576)) 3) (some (212, true)),
      co (some 215) (.pick (.tmp 212) (.tmp 214) (.const (.bool false))) none,
      co (some 4) (.assign (.tmp 215)) none] [4])
  (.ret)))))))))))))))))))
theorem t_centoref20_Right : Txt Try.prog 47 216 [(.tmp 4)] c_centoref20_Right := txt_of (code := Try.f47.body.getD .ret) mixed (by kernel_rfl) Try.func47 (by kernel_rfl) Try.ntmps47 (by kernel_rfl) (ls := [([1, 2], [(0, [0])]), ([], []), ([1, 2, 24], []), ([], []), ([4], []), ([], []), ([999999, 1, 2], []), ([1, 2, 69], []), ([], []), ([4], []), ([], []), ([999999, 1, 2], []), ([1, 2, 72], []), ([], []), ([4], []), ([], []), ([999999, 1, 2], []), ([1, 2, 5], []), ([], []), ([1, 2, 5, 6], []), ([], []), ([1, 2, 5, 6, 97], []), ([], []), ([999999, 1, 2, 5, 6], []), ([1, 2, 5, 6, 7], [(5, [1])]), ([], []), ([1, 2, 6, 7, 134], []), ([], []), ([4], []), ([], []), ([999999, 1, 2, 6, 7], []), ([1, 2, 5, 6], []), ([999999, 1, 2, 5, 6], []), ([1, 2, 5, 6], []), ([999999, 1, 2], []), ([1, 2, 5], []), ([], []), ([1, 2, 5, 8], []), ([], []), ([1, 2, 5, 8, 141], []), ([], []), ([999999, 1, 2, 5, 8], []), ([1, 2, 5, 8, 9], [(5, [2])]), ([], []), ([1, 2, 8, 9, 171], []), ([], []), ([4], []), ([], []), ([999999, 1, 2, 8, 9], []), ([1, 2, 5, 8], []), ([999999, 1, 2, 5, 8], []), ([1, 2, 5, 8], []), ([999999, 1, 2], []), ([1, 2, 186], []), ([], []), ([4], []), ([], []), ([999999, 1, 2], []), ([1, 2, 10], []), ([], []), ([1, 2, 10, 191], []), ([], []), ([999999, 1, 2, 10], []), ([1, 2, 10, 204], []), ([], []), ([4], []), ([], []), ([999999, 1, 2, 10], []), ([1, 2, 10], []), ([999999, 2], []), ([11, 12], []), ([], []), ([4], []), ([], [])]) (by kernel_rfl)

def k1_centoref20_Lengths : CC :=
  .seq (.seq (.reg [co (some 42) (.move (.tmp 4)) none,
        co (some 43) (.binOp .gtr 3 (.tmp 42) (.const (.int .i64 1048576)) 3) none] [1, 4, 5, 6, 43])
    (.cond (.tmp 43)
      (.reg [co (some 4) (.assign (.const (.int .i64 1048576))) none] [1, 4, 5, 6])
      (.skip)))
  (.keep [1, 4, 5, 6] (.seq (.reg [co (some 44) (.move (.tmp 5)) none,
      co (some 45) (.binOp .gtr 3 (.tmp 44) (.const (.int .i64 1048576)) 3) none] [1, 4, 5, 6, 45])
  (.cond (.tmp 45)
    (.reg [co (some 5) (.assign (.const (.int .i64 1048576))) none] [1, 4, 5, 6])
    (.skip))))
def k2_centoref20_Lengths : CC :=
  .seq (.seq (.reg [co (some 36) (.fieldAddr 98 (.tmp 7) 0) none,
        co (some 37) (.load 3 (.tmp 36)) none,
        co (some 38) (.binOp .neq 3 (.tmp 37) (.const (.int .i64 1)) 3) none] [1, 4, 5, 6, 8, 38])
    (.cond (.tmp 38)
      (.reg [co (some 39) (.move (.tmp 5)) none,
        co (some 40) (.move (.tmp 8)) none,
        co (some 41) (.binOp .add 3 (.tmp 39) (.tmp 40) 3) none,
        co (some 5) (.assign (.tmp 41)) none] [1, 4, 5, 6])
      (.skip)))
  (.keep [1, 4, 5, 6] k1_centoref20_Lengths)
def k3_centoref20_Lengths : CC :=
  .seq (.seq (.reg [co (some 30) (.fieldAddr 98 (.tmp 7) 0) none,
        co (some 31) (.load 3 (.tmp 30)) none,
        co (some 32) (.binOp .neq 3 (.tmp 31) (.const (.int .i64 2)) 3) none] [1, 4, 5, 6, 7, 8, 32])
    (.cond (.tmp 32)
      (.reg [co (some 33) (.move (.tmp 4)) none,
        co (some 34) (.move (.tmp 8)) none,
        co (some 35) (.binOp .add 3 (.tmp 33) (.tmp 34) 3) none,
        co (some 4) (.assign (.tmp 35)) none] [1, 4, 5, 6, 7, 8])
      (.skip)))
  (.keep [1, 4, 5, 6, 7, 8] k2_centoref20_Lengths)
def l1_centoref20_Lengths : CC :=
  .seq (.seq (.reg [co (some 9) (.move (.tmp 6)) none,
        co (some 10) (.fieldAddr 30 (.tmp 1) 6) none,
        co (some 11) (.load 28 (.tmp 10)) none,
        co (some 12) (.call { callee := (.builtin .len), args := #[(.tmp 11)], argTypes := #[28] }) none,
        co (some 13) (.binOp .lss 3 (.tmp 9) (.tmp 12) 3) none] [1, 4, 5, 6, 13])
    (.cond (.tmp 13)
      (.skip)
      (.exit 0)))
  (.keep [1, 4, 5, 6] (.seq (.block 1
      (.seq (.reg [co (some 16) (.fieldAddr 30 (.tmp 1) 6) none,
          co (some 17) (.load 28 (.tmp 16)) none,
          co (some 18) (.move (.tmp 6)) none,
          co (some 19) (.indexAddr 28 (.tmp 17) (.tmp 18)) none,
          co (some 20) (.load 98 (.tmp 19)) none,
          cn (some 7) (.alloc 98) none [1],
          co none (.store 98 (.tmp 7) (.tmp 20)) none] [1, 4, 5, 6, 7])
      (.seq (.reg [co (some 21) (.fieldAddr 98 (.tmp 7) 1) none,
          co (some 22) (.load 3 (.tmp 21)) none,
          co (some 23) (.fieldAddr 98 (.tmp 7) 2) none,
          co (some 24) (.load 23 (.tmp 23)) none,
          co (some 25) (.call { callee := (.builtin .len), args := #[(.tmp 24)], argTypes := #[23] }) none,
          co (some 26) (.binOp .add 3 (.tmp 22) (.tmp 25) 3) none,
          co (some 8) (.assign (.tmp 26)) none] [1, 4, 5, 6, 7, 8])
      (.seq (.seq (.reg [co (some 27) (.fieldAddr 98 (.tmp 7) 0) none,
            co (some 28) (.load 3 (.tmp 27)) none,
            co (some 29) (.binOp .eql 3 (.tmp 28) (.const (.int .i64 3)) 3) none] [1, 4, 5, 6, 7, 8, 29])
        (.cond (.tmp 29)
          (.reg [co (some 8) (.assign (.const (.int .i64 1))) none] [1, 4, 5, 6, 7, 8])
          (.skip)))
      (.keep [1, 4, 5, 6, 7, 8] k3_centoref20_Lengths)))))
  (.keep [1, 4, 5, 6] (.reg [co (some 14) (.move (.tmp 6)) none,
    co (some 15) (.binOp .add 3 (.tmp 14) (.const (.int .i64 1)) 3) none,
    co (some 6) (.assign (.tmp 15)) none] [1, 4, 5, 6]))))

/-- cento/centoref20.Lengths -/
def c_centoref20_Lengths : CC :=
  .seq (.reg [cn (some 1) (.box 30 (.tmp 0)) none [0],
      co (some 2) (.assign (.const (.int .i64 0))) none,
      co (some 3) (.assign (.const (.int .i64 0))) none] [1])
  (.seq (.reg [co (some 4) (.assign (.const (.int .i64 0))) none,
      co (some 5) (.assign (.const (.int .i64 0))) none] [1, 4, 5])
  (.seq (.seq (.reg [co (some 6) (.assign (.const (.int .i64 0))) none] [1, 4, 5, 6])
    (.block 0
      (.loop l1_centoref20_Lengths)))
  (.keep [4, 5] (.seq (.reg [co (some 46) (.move (.tmp 4)) none,
      co (some 47) (.move (.tmp 5)) none,
      co (some 2) (.assign (.tmp 46)) none,
      co (some 3) (.assign (.tmp 47)) none] [2, 3])
  (.ret)))))
theorem t_centoref20_Lengths : Txt Try.prog 83 48 [(.tmp 2), (.tmp 3)] c_centoref20_Lengths := txt_of (code := Try.f83.body.getD .ret) mixed (by kernel_rfl) Try.func83 (by kernel_rfl) Try.ntmps83 (by kernel_rfl) (ls := [([1], [(0, [0])]), ([], []), ([1, 4, 5], []), ([], []), ([1, 4, 5, 6], []), ([], []), ([1, 4, 5, 6, 13], []), ([], []), ([999999, 1, 4, 5, 6], []), ([1, 4, 5, 6, 7], [(5, [1])]), ([], []), ([1, 4, 5, 6, 7, 8], []), ([], []), ([1, 4, 5, 6, 7, 8, 29], []), ([], []), ([1, 4, 5, 6, 7, 8], []), ([999999, 1, 4, 5, 6, 7, 8], []), ([1, 4, 5, 6, 7, 8, 32], []), ([], []), ([1, 4, 5, 6, 7, 8], []), ([999999, 1, 4, 5, 6, 7, 8], []), ([1, 4, 5, 6, 8, 38], []), ([], []), ([1, 4, 5, 6], []), ([999999, 1, 4, 5, 6], []), ([1, 4, 5, 6, 43], []), ([], []), ([1, 4, 5, 6], []), ([999999, 1, 4, 5, 6], []), ([1, 4, 5, 6, 45], []), ([], []), ([1, 4, 5, 6], []), ([999999, 1, 4, 5, 6], []), ([1, 4, 5, 6], []), ([999999, 4, 5], []), ([2, 3], []), ([], [])]) (by kernel_rfl)

def l1_centoref20_left : CC :=
  .seq (.seq (.reg [co (some 36) (.move (.tmp 7)) none,
        co (some 37) (.fieldAddr 30 (.tmp 3) 4) none,
        co (some 38) (.load 27 (.tmp 37)) none,
        co (some 39) (.call { callee := (.builtin .len), args := #[(.tmp 38)], argTypes := #[27] }) none,
        co (some 40) (.binOp .lss 3 (.tmp 36) (.tmp 39) 3) none,
        co (some 41) (.move (.tmp 40)) none,
        co (some 42) (.move (.tmp 2)) (some (41, true)),
        co (some 43) (.binOp .geq 3 (.tmp 42) (.const (.int .i64 0)) 3) (some (41, true)),
        co (some 44) (.pick (.tmp 41) (.tmp 43) (.const (.bool false))) none] [1, 2, 3, 7, 44])
    (.cond (.tmp 44)
      (.skip)
      (.exit 0)))
  (.keep [1, 2, 3, 7] (.seq (.block 1
      (.reg [co (some 47) (.fieldAddr 30 (.tmp 3) 4) none,
        co (some 48) (.load 27 (.tmp 47)) none,
        co (some 49) (.move (.tmp 7)) none,
        co (some 50) (.indexAddr 27 (.tmp 48) (.tmp 49)) none,
        co (some 51) (.fieldAddr 95 (.tmp 50) 1) none,
        co (some 52) (.load 30 (.tmp 51)) none,
        co (some 53) (.move (.tmp 1)) none,
        co (some 54) (.binOp .sub 3 (.tmp 53) (.const (.int .i64 1)) 3) none,
        co (some 55) (.move (.tmp 2)) none,
        co (some 56) (.call { callee := (.value (.func 79)), args := #[(.tmp 52), (.tmp 54), (.tmp 55)], argTypes := #[30, 3, 3] }) none,
        co (some 2) (.assign (.tmp 56)) none] [1, 2, 3, 7]))
  (.reg [co (some 45) (.move (.tmp 7)) none,
    co (some 46) (.binOp .add 3 (.tmp 45) (.const (.int .i64 1)) 3) none,
    co (some 7) (.assign (.tmp 46)) none] [1, 2, 3, 7])))
def l2_centoref20_left : CC :=
  .seq (.seq (.reg [co (some 68) (.move (.tmp 9)) none,
        co (some 69) (.fieldAddr 30 (.tmp 3) 6) none,
        co (some 70) (.load 28 (.tmp 69)) none,
        co (some 71) (.move (.tmp 8)) none,
        co (some 72) (.indexAddr 28 (.tmp 70) (.tmp 71)) none,
        co (some 73) (.fieldAddr 98 (.tmp 72) 2) none,
        co (some 74) (.load 23 (.tmp 73)) none,
        co (some 75) (.call { callee := (.builtin .len), args := #[(.tmp 74)], argTypes := #[23] }) none,
        co (some 76) (.binOp .lss 3 (.tmp 68) (.tmp 75) 3) none,
        co (some 77) (.move (.tmp 76)) none,
        co (some 78) (.move (.tmp 2)) (some (77, true)),
        co (some 79) (.binOp .geq 3 (.tmp 78) (.const (.int .i64 0)) 3) (some (77, true)),
        co (some 80) (.pick (.tmp 77) (.tmp 79) (.const (.bool false))) none] [1, 2, 3, 8, 9, 80])
    (.cond (.tmp 80)
      (.skip)
      (.exit 4)))
  (.keep [1, 2, 3, 8, 9] (.seq (.block 5
      (.reg [co (some 83) (.fieldAddr 30 (.tmp 3) 6) none,
        co (some 84) (.load 28 (.tmp 83)) none,
        co (some 85) (.move (.tmp 8)) none,
        co (some 86) (.indexAddr 28 (.tmp 84) (.tmp 85)) none,
        co (some 87) (.fieldAddr 98 (.tmp 86) 2) none,
        co (some 88) (.load 23 (.tmp 87)) none,
        co (some 89) (.move (.tmp 9)) none,
        co (some 90) (.indexAddr 23 (.tmp 88) (.tmp 89)) none,
        co (some 91) (.load 25 (.tmp 90)) none,
        co (some 92) (.move (.tmp 2)) none,
        co (some 93) (.call { callee := (.value (.func 67)), args := #[(.tmp 91), (.const (.int .i64 80)), (.tmp 92)], argTypes := #[25, 3, 3] }) none,
        co (some 2) (.assign (.tmp 93)) none] [1, 2, 3, 8, 9]))
  (.reg [co (some 81) (.move (.tmp 9)) none,
    co (some 82) (.binOp .add 3 (.tmp 81) (.const (.int .i64 1)) 3) none,
    co (some 9) (.assign (.tmp 82)) none] [1, 2, 3, 8, 9])))
def l3_centoref20_left : CC :=
  .seq (.seq (.reg [co (some 57) (.move (.tmp 8)) none,
        co (some 58) (.fieldAddr 30 (.tmp 3) 6) none,
        co (some 59) (.load 28 (.tmp 58)) none,
        co (some 60) (.call { callee := (.builtin .len), args := #[(.tmp 59)], argTypes := #[28] }) none,
        co (some 61) (.binOp .lss 3 (.tmp 57) (.tmp 60) 3) none,
        co (some 62) (.move (.tmp 61)) none,
        co (some 63) (.move (.tmp 2)) (some (62, true)),
        co (some 64) (.binOp .geq 3 (.tmp 63) (.const (.int .i64 0)) 3) (some (62, true)),
        co (some 65) (.pick (.tmp 62) (.tmp 64) (.const (.bool false))) none] [1, 2, 3, 8, 65])
    (.cond (.tmp 65)
      (.skip)
      (.exit 2)))
  (.keep [1, 2, 3, 8] (.seq (.block 3
      (.seq (.seq (.reg [co (some 9) (.assign (.const (.int .i64 0))) none] [1, 2, 3, 8, 9])
        (.block 4
          (.loop l2_centoref20_left)))
      (.keep [1, 2, 3, 8] (.seq (.reg [co (some 94) (.move (.tmp 2)) none,
          co (some 95) (.binOp .geq 3 (.tmp 94) (.const (.int .i64 0)) 3) none] [1, 2, 3, 8, 95])
      (.cond (.tmp 95)
        (.reg [co (some 96) (.fieldAddr 30 (.tmp 3) 6) none,
          co (some 97) (.load 28 (.tmp 96)) none,
          co (some 98) (.move (.tmp 8)) none,
          co (some 99) (.indexAddr 28 (.tmp 97) (.tmp 98)) none,
          co (some 100) (.fieldAddr 98 (.tmp 99) 3) none,
          co (some 101) (.load 30 (.tmp 100)) none,
          co (some 102) (.move (.tmp 1)) none,
          co (some 103) (.binOp .sub 3 (.tmp 102) (.const (.int .i64 1)) 3) none,
          co (some 104) (.move (.tmp 2)) none,
          co (some 105) (.call { callee := (.value (.func 79)), args := #[(.tmp 101), (.tmp 103), (.tmp 104)], argTypes := #[30, 3, 3] }) none,
          co (some 2) (.assign (.tmp 105)) none] [1, 2, 3, 8])
        (.skip))))))
  (.keep [1, 2, 3, 8] (.reg [co (some 66) (.move (.tmp 8)) none,
    co (some 67) (.binOp .add 3 (.tmp 66) (.const (.int .i64 1)) 3) none,
    co (some 8) (.assign (.tmp 67)) none] [1, 2, 3, 8]))))
def k1_centoref20_left : CC :=
  .seq (.seq (.reg [co (some 7) (.assign (.const (.int .i64 0))) none] [1, 2, 3, 7])
    (.block 0
      (.loop l1_centoref20_left)))
  (.keep [1, 2, 3] (.seq (.seq (.reg [co (some 8) (.assign (.const (.int .i64 0))) none] [1, 2, 3, 8])
    (.block 2
      (.loop l3_centoref20_left)))
  (.keep [2] (.seq (.reg [co (some 106) (.move (.tmp 2)) none,
      co (some 6) (.assign (.tmp 106)) none] [6])
  (.ret)))))

/-- cento/centoref20.left -/
def c_centoref20_left : CC :=
  .seq (.reg [cn (some 3) (.box 30 (.tmp 0)) none [0],
      co (some 6) (.assign (.const (.int .i64 0))) none] [1, 2, 3])
  (.seq (.reg [co (some 10) (.move (.tmp 2)) none,
      co (some 11) (.binOp .sub 3 (.tmp 10) (.const (.int .i64 1)) 3) none,
      co (some 12) (.fieldAddr 30 (.tmp 3) 3) none,
      co (some 13) (.load 26 (.tmp 12)) none,
      co (some 14) (.call { callee := (.builtin .len), args := #[(.tmp 13)], argTypes := #[26] }) none,
      co (some 15) (.binOp .sub 3 (.tmp 11) (.tmp 14) 3) none,
      co (some 16) (.fieldAddr 30 (.tmp 3) 6) none,
      co (some 17) (.load 28 (.tmp 16)) none,
      co (some 18) (.call { callee := (.builtin .len), args := #[(.tmp 17)], argTypes := #[28] }) none,
      co (some 19) (.binOp .sub 3 (.tmp 15) (.tmp 18) 3) none,
      co (some 2) (.assign (.tmp 19)) none] [1, 2, 3])
  (.seq (.seq (.reg [co (some 20) (.move (.tmp 1)) none,
        co (some 21) (.binOp .eql 3 (.tmp 20) (.const (.int .i64 0)) 3) none,
        co (some 22) (.move (.tmp 21)) none,
        co (some 23) (.move (.tmp 2)) (some (22, false)),
        co (some 24) (.binOp .lss 3 (.tmp 23) (.const (.int .i64 0)) 3) (some (22, false)),
        co (some 25) (.pick (.tmp 22) (.const (.bool true)) (.tmp 24)) none] [1, 2, 3, 25])
    (.cond (.tmp 25)
      (.seq (.reg [co (some 6) (.assign (.const (.int .i64 (-1)))) none] [6])
      (.ret))
      (.skip)))
  (.keep [1, 2, 3] (.seq (.reg [co (some 26) (.fieldAddr 30 (.tmp 3) 1) none,
      co (some 27) (.load 25 (.tmp 26)) none,
      co (some 28) (.move (.tmp 2)) none,
      co (some 29) (.call { callee := (.value (.func 67)), args := #[(.tmp 27), (.const (.int .i64 80)), (.tmp 28)], argTypes := #[25, 3, 3] }) none,
      co (some 2) (.assign (.tmp 29)) none] [1, 2, 3])
  (.seq (.seq (.reg [co (some 30) (.move (.tmp 2)) none,
        co (some 31) (.binOp .geq 3 (.tmp 30) (.const (.int .i64 0)) 3) none] [1, 2, 3, 31])
    (.cond (.tmp 31)
      (.reg [co (some 32) (.fieldAddr 30 (.tmp 3) 2) none,
        co (some 33) (.load 25 (.tmp 32)) none,
        co (some 34) (.move (.tmp 2)) none,
        co (some 35) (.call { callee := (.value (.func 67)), args := #[(.tmp 33), (.const (.int .i64 80)), (.tmp 34)], argTypes := #[25, 3, 3] }) none,
        co (some 2) (.assign (.tmp 35)) none] [1, 2, 3])
      (.skip)))
  (.keep [1, 2, 3] k1_centoref20_left))))))
theorem t_centoref20_left : Txt Try.prog 79 107 [(.tmp 6)] c_centoref20_left := txt_of (code := Try.f79.body.getD .ret) mixed (by kernel_rfl) Try.func79 (by kernel_rfl) Try.ntmps79 (by kernel_rfl) (ls := [([1, 2, 3], [(0, [0])]), ([], []), ([1, 2, 3], []), ([], []), ([1, 2, 3, 25], []), ([], []), ([6], []), ([], []), ([999999, 1, 2, 3], []), ([1, 2, 3], []), ([], []), ([1, 2, 3, 31], []), ([], []), ([1, 2, 3], []), ([999999, 1, 2, 3], []), ([1, 2, 3, 7], []), ([], []), ([1, 2, 3, 7, 44], []), ([], []), ([999999, 1, 2, 3, 7], []), ([1, 2, 3, 7], []), ([], []), ([1, 2, 3, 7], []), ([999999, 1, 2, 3], []), ([1, 2, 3, 8], []), ([], []), ([1, 2, 3, 8, 65], []), ([], []), ([999999, 1, 2, 3, 8], []), ([1, 2, 3, 8, 9], []), ([], []), ([1, 2, 3, 8, 9, 80], []), ([], []), ([999999, 1, 2, 3, 8, 9], []), ([1, 2, 3, 8, 9], []), ([], []), ([1, 2, 3, 8, 9], []), ([999999, 1, 2, 3, 8], []), ([1, 2, 3, 8, 95], []), ([], []), ([1, 2, 3, 8], []), ([999999, 1, 2, 3, 8], []), ([1, 2, 3, 8], []), ([999999, 2], []), ([6], []), ([], [])]) (by kernel_rfl)


/-- cento/centoref20.Few -/
def c_centoref20_Few : CC :=
  .seq (.reg [cn (some 1) (.box 30 (.tmp 0)) none [0],
      co (some 2) (.assign (.const (.bool false))) none] [1])
  (.seq (.reg [co (some 3) (.load 30 (.tmp 1)) none,
      co (some 4) (.call { callee := (.value (.func 79)), args := #[(.tmp 3), (.const (.int .i64 80)), (.const (.int .i64 3000))], argTypes := #[30, 3, 3] }) none,
      co (some 5) (.binOp .geq 3 (.tmp 4) (.const (.int .i64 0)) 3) none,
      co (some 2) (.assign (.tmp 5)) none] [2])
  (.ret))
theorem t_centoref20_Few : Txt Try.prog 46 6 [(.tmp 2)] c_centoref20_Few := txt_of (code := Try.f46.body.getD .ret) mixed (by kernel_rfl) Try.func46 (by kernel_rfl) Try.ntmps46 (by kernel_rfl) (ls := [([1], [(0, [0])]), ([], []), ([2], []), ([], [])]) (by kernel_rfl)

def l1_centoref20_Light : CC :=
  .seq (.seq (.reg [co (some 18) (.move (.tmp 5)) none,
        co (some 19) (.fieldAddr 30 (.tmp 1) 4) none,
        co (some 20) (.load 27 (.tmp 19)) none,
        co (some 21) (.call { callee := (.builtin .len), args := #[(.tmp 20)], argTypes := #[27] }) none,
        co (some 22) (.binOp .lss 3 (.tmp 18) (.tmp 21) 3) none] [1, 5, 22])
    (.cond (.tmp 22)
      (.skip)
      (.exit 0)))
  (.keep [1, 5] (.seq (.block 1
      (.seq (.reg [co (some 25) (.fieldAddr 30 (.tmp 1) 4) none,
          co (some 26) (.load 27 (.tmp 25)) none,
          co (some 27) (.move (.tmp 5)) none,
          co (some 28) (.indexAddr 27 (.tmp 26) (.tmp 27)) none,
          co (some 29) (.fieldAddr 95 (.tmp 28) 1) none,
          co (some 30) (.load 30 (.tmp 29)) none,
          co (some 31) (.call { callee := (.value (.func 48)), args := #[(.tmp 30)], argTypes := #[30] }) none,
          co (some 32) (.unOp .not 4 (.tmp 31)) none] [1, 5, 32])
      (.cond (.tmp 32)
        (.seq (.reg [co (some 2) (.assign (.const (.bool false))) none] [2])
        (.ret))
        (.skip))))
  (.keep [1, 5] (.reg [co (some 23) (.move (.tmp 5)) none,
    co (some 24) (.binOp .add 3 (.tmp 23) (.const (.int .i64 1)) 3) none,
    co (some 5) (.assign (.tmp 24)) none] [1, 5]))))
def l2_centoref20_Light : CC :=
  .seq (.seq (.reg [co (some 33) (.move (.tmp 6)) none,
        co (some 34) (.fieldAddr 30 (.tmp 1) 6) none,
        co (some 35) (.load 28 (.tmp 34)) none,
        co (some 36) (.call { callee := (.builtin .len), args := #[(.tmp 35)], argTypes := #[28] }) none,
        co (some 37) (.binOp .lss 3 (.tmp 33) (.tmp 36) 3) none] [1, 6, 37])
    (.cond (.tmp 37)
      (.skip)
      (.exit 2)))
  (.keep [1, 6] (.seq (.block 3
      (.seq (.reg [co (some 40) (.fieldAddr 30 (.tmp 1) 6) none,
          co (some 41) (.load 28 (.tmp 40)) none,
          co (some 42) (.move (.tmp 6)) none,
          co (some 43) (.indexAddr 28 (.tmp 41) (.tmp 42)) none,
          co (some 44) (.fieldAddr 98 (.tmp 43) 3) none,
          co (some 45) (.load 30 (.tmp 44)) none,
          co (some 46) (.call { callee := (.value (.func 48)), args := #[(.tmp 45)], argTypes := #[30] }) none,
          co (some 47) (.unOp .not 4 (.tmp 46)) none] [1, 6, 47])
      (.cond (.tmp 47)
        (.seq (.reg [co (some 2) (.assign (.const (.bool false))) none] [2])
        (.ret))
        (.skip))))
  (.keep [1, 6] (.reg [co (some 38) (.move (.tmp 6)) none,
    co (some 39) (.binOp .add 3 (.tmp 38) (.const (.int .i64 1)) 3) none,
    co (some 6) (.assign (.tmp 39)) none] [1, 6]))))

/-- cento/centoref20.Light -/
def c_centoref20_Light : CC :=
  .seq (.reg [cn (some 1) (.box 30 (.tmp 0)) none [0],
      co (some 2) (.assign (.const (.bool false))) none] [1])
  (.seq (.reg [co (some 8) (.load 30 (.tmp 1)) none,
      co (some 9) (.call { callee := (.value (.func 83)), args := #[(.tmp 8)], argTypes := #[30] }) none,
      co (some 7) (.move (.tmp 9)) none,
      co (some 10) (.extract (.tmp 7) 0) none,
      co (some 11) (.extract (.tmp 7) 1) none,
      co (some 3) (.assign (.tmp 10)) none,
      co (some 4) (.assign (.tmp 11)) none] [1, 3, 4])
  (.seq (.seq (.reg [co (some 12) (.move (.tmp 3)) none,
        co (some 13) (.binOp .gtr 3 (.tmp 12) (.const (.int .i64 2000)) 3) none,
        co (some 14) (.move (.tmp 13)) none,
        co (some 15) (.move (.tmp 4)) (some (14, false)),
        co (some 16) (.binOp .gtr 3 (.tmp 15) (.const (.int .i64 2000)) 3) (some (14, false)),
        co (some 17) (.pick (.tmp 14) (.const (.bool true)) (.tmp 16)) none] [1, 17])
    (.cond (.tmp 17)
      (.seq (.reg [co (some 2) (.assign (.const (.bool false))) none] [2])
      (.ret))
      (.skip)))
  (.keep [1] (.seq (.seq (.reg [co (some 5) (.assign (.const (.int .i64 0))) none] [1, 5])
    (.block 0
      (.loop l1_centoref20_Light)))
  (.keep [1] (.seq (.seq (.reg [co (some 6) (.assign (.const (.int .i64 0))) none] [1, 6])
    (.block 2
      (.loop l2_centoref20_Light)))
  (.keep [] (.seq (.reg [co (some 2) (.assign (.const (.bool true))) none] [2])
  (.ret)))))))))
theorem t_centoref20_Light : Txt Try.prog 48 48 [(.tmp 2)] c_centoref20_Light := txt_of (code := Try.f48.body.getD .ret) mixed (by kernel_rfl) Try.func48 (by kernel_rfl) Try.ntmps48 (by kernel_rfl) (ls := [([1], [(0, [0])]), ([], []), ([1, 3, 4], []), ([], []), ([1, 17], []), ([], []), ([2], []), ([], []), ([999999, 1], []), ([1, 5], []), ([], []), ([1, 5, 22], []), ([], []), ([999999, 1, 5], []), ([1, 5, 32], []), ([], []), ([2], []), ([], []), ([999999, 1, 5], []), ([1, 5], []), ([999999, 1], []), ([1, 6], []), ([], []), ([1, 6, 37], []), ([], []), ([999999, 1, 6], []), ([1, 6, 47], []), ([], []), ([2], []), ([], []), ([999999, 1, 6], []), ([1, 6], []), ([999999], []), ([2], []), ([], [])]) (by kernel_rfl)


/-- cento/centoref20.Good -/
def c_centoref20_Good : CC :=
  .seq (.reg [cn (some 1) (.box 30 (.tmp 0)) none [0],
      co (some 2) (.assign (.const (.bool false))) none] [1])
  (.seq (.reg [co (some 3) (.load 30 (.tmp 1)) none,
      co (some 4) (.call { callee := (.value (.func 46)), args := #[(.tmp 3)], argTypes := #[30] }) none,
      co (some 5) (.move (.tmp 4)) none,
      co (some 6) (.load 30 (.tmp 1)) (some (5, true)),
      co (some 7) (.call { callee := (.value (.func 47)), args := #[(.tmp 6), (.const (.int .i64 64))], argTypes := #[30, 3] }) (some (5, true)),
      co (some 8) (.pick (.tmp 5) (.tmp 7) (.const (.bool false))) none,
      co (some 9) (.move (.tmp 8)) none,
      co (some 10) (.load 30 (.tmp 1)) (some (9, true)),
      co (some 11) (.call { callee := (.value (.func 48)), args := #[(.tmp 10)], argTypes := #[30] }) (some (9, true)),
      co (some 12) (.pick (.tmp 9) (.tmp 11) (.const (.bool false))) none,
      co (some 2) (.assign (.tmp 12)) none] [2])
  (.ret))
theorem t_centoref20_Good : Txt Try.prog 12 13 [(.tmp 2)] c_centoref20_Good := txt_of (code := Try.f12.body.getD .ret) mixed (by kernel_rfl) Try.func12 (by kernel_rfl) Try.ntmps12 (by kernel_rfl) (ls := [([1], [(0, [0])]), ([], []), ([2], []), ([], [])]) (by kernel_rfl)


/-- cento/centoref27.row -/
def c_centoref27_row : CC :=
  .seq (.reg [cn (some 2) (.alloc 25) none [0]] [0, 2])
  (.seq (.seq (.reg [co (some 3) (.move (.tmp 0)) none,
        co (some 4) (.call { callee := (.builtin .len), args := #[(.tmp 3)], argTypes := #[23] }) none,
        co (some 5) (.binOp .eql 3 (.tmp 4) (.const (.int .i64 0)) 3) none] [0, 2, 5])
    (.cond (.tmp 5)
      (.seq (.reg [co (some 6) (.build 25 #[]) none,
          co none (.store 25 (.tmp 2) (.tmp 6)) none] [2])
      (.ret))
      (.skip)))
  (.keep [0, 2] (.seq (.reg [co (some 7) (.move (.tmp 0)) none,
      co (some 8) (.build 25 #[(0, (.const (.int .i64 9))), (2, (.tmp 7))]) none,
      co none (.store 25 (.tmp 2) (.tmp 8)) none] [2])
  (.ret))))
theorem t_centoref27_row : Txt Try.prog 49 9 [(.cell 2 25)] c_centoref27_row := txt_of (code := Try.f49.body.getD .ret) mixed (by kernel_rfl) Try.func49 (by kernel_rfl) Try.ntmps49 (by kernel_rfl) (ls := [([0, 2], [(0, [0])]), ([], []), ([0, 2, 5], []), ([], []), ([2], []), ([], []), ([999999, 0, 2], []), ([2], []), ([], [])]) (by kernel_rfl)

def l1_centoref27_Tree : CC :=
  .seq (.seq (.reg [co (some 83) (.move (.tmp 6)) none,
        co (some 84) (.fieldAddr 30 (.tmp 1) 3) none,
        co (some 85) (.load 26 (.tmp 84)) none,
        co (some 86) (.call { callee := (.builtin .len), args := #[(.tmp 85)], argTypes := #[26] }) none,
        co (some 87) (.binOp .lss 3 (.tmp 83) (.tmp 86) 3) none] [1, 2, 3, 4, 5, 6, 87])
    (.cond (.tmp 87)
      (.skip)
      (.exit 3)))
  (.keep [1, 2, 3, 4, 5, 6] (.seq (.block 4
      (.seq (.reg [co (some 90) (.fieldAddr 30 (.tmp 1) 3) none,
          co (some 91) (.load 26 (.tmp 90)) none,
          co (some 92) (.move (.tmp 6)) none,
          co (some 93) (.indexAddr 26 (.tmp 91) (.tmp 92)) none,
          co (some 94) (.load 93 (.tmp 93)) none,
          cn (some 7) (.alloc 93) none [3],
          co none (.store 93 (.tmp 7) (.tmp 94)) none] [1, 2, 3, 4, 5, 6, 7])
      (.reg [co (some 95) (.move (.tmp 4)) none,
        co (some 96) (.fieldAddr 93 (.tmp 7) 0) none,
        co (some 97) (.load 3 (.tmp 96)) none,
        co (some 98) (.convert 3 45 (.tmp 97)) none,
        co (some 99) (.fieldAddr 93 (.tmp 7) 1) none,
        co (some 100) (.load 5 (.tmp 99)) none,
        co (some 101) (.convert 5 45 (.tmp 100)) none,
        co (some 102) (.binOp .mul 45 (.const (.int .u64 4294967296)) (.tmp 101) 45) none,
        co (some 103) (.binOp .add 45 (.tmp 98) (.tmp 102) 45) none,
        co (some 104) (.fieldAddr 93 (.tmp 7) 2) none,
        co (some 105) (.load 45 (.tmp 104)) none,
        co (some 106) (.fieldAddr 93 (.tmp 7) 3) none,
        co (some 107) (.load 45 (.tmp 106)) none,
        co (some 108) (.buildSlice 22 3 #[(0, (.tmp 103)), (1, (.tmp 105)), (2, (.tmp 107))]) none,
        co (some 109) (.build 25 #[(0, (.const (.int .i64 1))), (1, (.tmp 108))]) none,
        co (some 110) (.buildSlice 23 1 #[(0, (.tmp 109))]) none,
        cn (some 111) (.call { callee := (.builtin .append), args := #[(.tmp 95), (.tmp 110)], argTypes := #[23, 23] }) none [4],
        co (some 4) (.assign (.tmp 111)) none] [1, 2, 3, 4, 5, 6])))
  (.reg [co (some 88) (.move (.tmp 6)) none,
    co (some 89) (.binOp .add 3 (.tmp 88) (.const (.int .i64 1)) 3) none,
    co (some 6) (.assign (.tmp 89)) none] [1, 2, 3, 4, 5, 6])))
def l2_centoref27_Tree : CC :=
  .seq (.seq (.reg [co (some 112) (.move (.tmp 8)) none,
        co (some 113) (.fieldAddr 30 (.tmp 1) 4) none,
        co (some 114) (.load 27 (.tmp 113)) none,
        co (some 115) (.call { callee := (.builtin .len), args := #[(.tmp 114)], argTypes := #[27] }) none,
        co (some 116) (.binOp .lss 3 (.tmp 112) (.tmp 115) 3) none] [1, 2, 3, 4, 5, 8, 116])
    (.cond (.tmp 116)
      (.skip)
      (.exit 5)))
  (.keep [1, 2, 3, 4, 5, 8] (.seq (.block 6
      (.reg [co (some 119) (.move (.tmp 5)) none,
        co (some 120) (.fieldAddr 30 (.tmp 1) 4) none,
        ⟨some 121, (.load 27 (.tmp 120)), none, [], 2, [], true⟩,
        co (some 122) (.move (.tmp 8)) none,
        co (some 123) (.indexAddr 27 (.tmp 121) (.tmp 122)) none,
        co (some 124) (.fieldAddr 95 (.tmp 123) 0) none,
        ⟨some 125, (.load 3 (.tmp 124)), none, [], 6, [], true⟩,
        co (some 126) (.convert 3 45 (.tmp 125)) none,
        co (some 127) (.buildSlice 22 1 #[(0, (.tmp 126))]) none,
        co (some 128) (.fieldAddr 30 (.tmp 1) 4) none,
        co (some 129) (.load 27 (.tmp 128)) none,
        co (some 130) (.move (.tmp 8)) none,
        co (some 131) (.indexAddr 27 (.tmp 129) (.tmp 130)) none,
        co (some 132) (.fieldAddr 95 (.tmp 131) 1) none,
        co (some 133) (.load 30 (.tmp 132)) none,
        ⟨some 134, (.call { callee := (.value (.func 14)), args := #[(.tmp 133)], argTypes := #[30] }), none, [], 15, [2, 6], false⟩,
        co (some 135) (.buildSlice 23 1 #[(0, (.tmp 134))]) none,
        co (some 136) (.build 25 #[(0, (.const (.int .i64 1))), (1, (.tmp 127)), (2, (.tmp 135))]) none,
        co (some 137) (.buildSlice 23 1 #[(0, (.tmp 136))]) none,
        cn (some 138) (.call { callee := (.builtin .append), args := #[(.tmp 119), (.tmp 137)], argTypes := #[23, 23] }) none [5],
        co (some 5) (.assign (.tmp 138)) none] [1, 2, 3, 4, 5, 8]))
  (.reg [co (some 117) (.move (.tmp 8)) none,
    co (some 118) (.binOp .add 3 (.tmp 117) (.const (.int .i64 1)) 3) none,
    co (some 8) (.assign (.tmp 118)) none] [1, 2, 3, 4, 5, 8])))
def l3_centoref27_Tree : CC :=
  .seq (.seq (.reg [co (some 23) (.move (.tmp 9)) none,
        co (some 24) (.fieldAddr 30 (.tmp 1) 6) none,
        co (some 25) (.load 28 (.tmp 24)) none,
        co (some 26) (.call { callee := (.builtin .len), args := #[(.tmp 25)], argTypes := #[28] }) none,
        co (some 27) (.binOp .lss 3 (.tmp 23) (.tmp 26) 3) none] [1, 2, 3, 4, 9, 27])
    (.cond (.tmp 27)
      (.skip)
      (.exit 1)))
  (.keep [1, 2, 3, 4, 9] (.seq (.block 2
      (.seq (.reg [co (some 30) (.fieldAddr 30 (.tmp 1) 6) none,
          co (some 31) (.load 28 (.tmp 30)) none,
          co (some 32) (.move (.tmp 9)) none,
          co (some 33) (.indexAddr 28 (.tmp 31) (.tmp 32)) none,
          co (some 34) (.load 98 (.tmp 33)) none,
          cn (some 10) (.alloc 98) none [6],
          co none (.store 98 (.tmp 10) (.tmp 34)) none] [1, 2, 3, 4, 9, 10])
      (.seq (.reg [co (some 35) (.fieldAddr 98 (.tmp 10) 0) none,
          co (some 36) (.load 3 (.tmp 35)) none,
          co (some 37) (.fieldAddr 98 (.tmp 10) 1) none,
          co (some 38) (.load 3 (.tmp 37)) none,
          co (some 39) (.binOp .mul 3 (.const (.int .i64 256)) (.tmp 38) 3) none,
          co (some 40) (.binOp .add 3 (.tmp 36) (.tmp 39) 3) none,
          co (some 41) (.convert 3 45 (.tmp 40)) none,
          co (some 42) (.buildSlice 22 1 #[(0, (.tmp 41))]) none,
          co (some 43) (.build 25 #[(0, (.const (.int .i64 1))), (1, (.tmp 42))]) none,
          cn (some 11) (.alloc 25) none [7],
          co none (.store 25 (.tmp 11) (.tmp 43)) none] [1, 2, 3, 4, 9, 10, 11])
      (.seq (.seq (.reg [co (some 44) (.fieldAddr 98 (.tmp 10) 0) none,
            co (some 45) (.load 3 (.tmp 44)) none,
            co (some 46) (.binOp .eql 3 (.tmp 45) (.const (.int .i64 3)) 3) none] [1, 2, 3, 4, 9, 10, 11, 46])
        (.cond (.tmp 46)
          (.reg [co (some 47) (.fieldAddr 98 (.tmp 10) 3) none,
            co (some 48) (.load 30 (.tmp 47)) none,
            co (some 49) (.call { callee := (.value (.func 14)), args := #[(.tmp 48)], argTypes := #[30] }) none,
            co (some 50) (.buildSlice 23 1 #[(0, (.tmp 49))]) none,
            co (some 51) (.fieldAddr 25 (.tmp 11) 2) none,
            co none (.store 23 (.tmp 51) (.tmp 50)) none] [1, 2, 3, 4, 9, 11])
          (.seq (.reg [co (some 52) (.fieldAddr 98 (.tmp 10) 0) none,
              co (some 53) (.load 3 (.tmp 52)) none,
              co (some 54) (.binOp .gtr 3 (.tmp 53) (.const (.int .i64 0)) 3) none] [1, 2, 3, 4, 9, 10, 11, 54])
          (.cond (.tmp 54)
            (.reg [co (some 55) (.fieldAddr 30 (.tmp 1) 5) none,
              co (some 56) (.load 3 (.tmp 55)) none,
              co (some 57) (.fieldAddr 98 (.tmp 10) 2) none,
              co (some 58) (.load 23 (.tmp 57)) none,
              co (some 59) (.build 25 #[(0, (.tmp 56)), (2, (.tmp 58))]) none,
              co (some 60) (.buildSlice 23 1 #[(0, (.tmp 59))]) none,
              co (some 61) (.fieldAddr 25 (.tmp 11) 2) none,
              co none (.store 23 (.tmp 61) (.tmp 60)) none] [1, 2, 3, 4, 9, 11])
            (.skip)))))
      (.keep [1, 2, 3, 4, 9, 11] (.reg [co (some 62) (.move (.tmp 4)) none,
        co (some 63) (.load 25 (.tmp 11)) none,
        co (some 64) (.buildSlice 23 1 #[(0, (.tmp 63))]) none,
        cn (some 65) (.call { callee := (.builtin .append), args := #[(.tmp 62), (.tmp 64)], argTypes := #[23, 23] }) none [8],
        co (some 4) (.assign (.tmp 65)) none] [1, 2, 3, 4, 9]))))))
  (.keep [1, 2, 3, 4, 9] (.reg [co (some 28) (.move (.tmp 9)) none,
    co (some 29) (.binOp .add 3 (.tmp 28) (.const (.int .i64 1)) 3) none,
    co (some 9) (.assign (.tmp 29)) none] [1, 2, 3, 4, 9]))))

/-- cento/centoref27.Tree -/
def c_centoref27_Tree : CC :=
  .seq (.reg [cn (some 1) (.box 30 (.tmp 0)) none [0],
      cn (some 2) (.alloc 25) none [1]] [1, 2])
  (.seq (.reg [co (some 12) (.fieldAddr 30 (.tmp 1) 0) none,
      co (some 13) (.load 3 (.tmp 12)) none,
      co (some 14) (.fieldAddr 30 (.tmp 1) 5) none,
      co (some 15) (.load 3 (.tmp 14)) none,
      co (some 16) (.binOp .mul 3 (.const (.int .i64 256)) (.tmp 15) 3) none,
      co (some 17) (.binOp .add 3 (.tmp 13) (.tmp 16) 3) none,
      co (some 18) (.convert 3 45 (.tmp 17)) none,
      co (some 19) (.buildSlice 22 1 #[(0, (.tmp 18))]) none,
      co (some 20) (.build 25 #[(0, (.const (.int .i64 1))), (1, (.tmp 19))]) none,
      cn (some 3) (.alloc 25) none [2],
      co none (.store 25 (.tmp 3) (.tmp 20)) none] [1, 2, 3])
  (.seq (.reg [co (some 4) (.assign (.const (.slice none 0 0))) none,
      co (some 5) (.assign (.const (.slice none 0 0))) none] [1, 2, 3, 4, 5])
  (.seq (.seq (.reg [co (some 21) (.fieldAddr 30 (.tmp 1) 0) none,
        co (some 22) (.load 3 (.tmp 21)) none] [1, 2, 3, 4, 5, 22])
    (.block 0
      (.seq (.reg [co (some 71) (.binOp .eql 3 (.tmp 22) (.const (.int .i64 0)) 3) none,
          co (some 70) (.assign (.tmp 71)) none] [1, 2, 3, 4, 5, 22, 70])
      (.cond (.tmp 70)
        (.seq (.reg [co (some 72) (.build 25 #[]) none,
            co none (.store 25 (.tmp 2) (.tmp 72)) none] [2])
        (.ret))
        (.seq (.reg [co (some 74) (.binOp .eql 3 (.tmp 22) (.const (.int .i64 1)) 3) none,
            co (some 73) (.assign (.tmp 74)) none] [1, 2, 3, 4, 5, 22, 73])
        (.cond (.tmp 73)
          (.reg [co (some 75) (.fieldAddr 30 (.tmp 1) 1) none,
            co (some 76) (.load 25 (.tmp 75)) none,
            co (some 77) (.fieldAddr 30 (.tmp 1) 2) none,
            co (some 78) (.load 25 (.tmp 77)) none,
            co (some 79) (.buildSlice 23 2 #[(0, (.tmp 76)), (1, (.tmp 78))]) none,
            co (some 80) (.fieldAddr 25 (.tmp 3) 2) none,
            co none (.store 23 (.tmp 80) (.tmp 79)) none] [2, 3])
          (.seq (.reg [co (some 82) (.binOp .eql 3 (.tmp 22) (.const (.int .i64 2)) 3) none,
              co (some 81) (.assign (.tmp 82)) none] [1, 2, 3, 4, 5, 81])
          (.cond (.tmp 81)
            (.seq (.seq (.reg [co (some 6) (.assign (.const (.int .i64 0))) none] [1, 2, 3, 4, 5, 6])
              (.block 3
                (.loop l1_centoref27_Tree)))
            (.keep [1, 2, 3, 4, 5] (.seq (.seq (.reg [co (some 8) (.assign (.const (.int .i64 0))) none] [1, 2, 3, 4, 5, 8])
              (.block 5
                (.loop l2_centoref27_Tree)))
            (.keep [2, 3, 4, 5] (.stop (.reg [co (some 139) (.move (.tmp 4)) none,
              co (some 140) (.call { callee := (.value (.func 49)), args := #[(.tmp 139)], argTypes := #[23] }) none,
              co (some 141) (.move (.tmp 5)) none,
              co (some 142) (.call { callee := (.value (.func 49)), args := #[(.tmp 141)], argTypes := #[23] }) none,
              co (some 143) (.buildSlice 23 2 #[(0, (.tmp 140)), (1, (.tmp 142))]) none,
              co (some 144) (.fieldAddr 25 (.tmp 3) 2) none,
              co none (.store 23 (.tmp 144) (.tmp 143)) none] [2, 3]))))))
            (.seq (.seq (.reg [co (some 9) (.assign (.const (.int .i64 0))) none] [1, 2, 3, 4, 9])
              (.block 1
                (.loop l3_centoref27_Tree)))
            (.keep [2, 3, 4] (.stop (.reg [co (some 66) (.move (.tmp 4)) none,
              co (some 67) (.call { callee := (.value (.func 49)), args := #[(.tmp 66)], argTypes := #[23] }) none,
              co (some 68) (.buildSlice 23 1 #[(0, (.tmp 67))]) none,
              co (some 69) (.fieldAddr 25 (.tmp 3) 2) none,
              co none (.store 23 (.tmp 69) (.tmp 68)) none] [2, 3]))))))))))))
  (.keep [2, 3] (.seq (.reg [co (some 145) (.load 25 (.tmp 3)) none,
      co none (.store 25 (.tmp 2) (.tmp 145)) none] [2])
  (.ret))))))
theorem t_centoref27_Tree : Txt Try.prog 14 146 [(.cell 2 25)] c_centoref27_Tree := txt_of (code := Try.f14.body.getD .ret) mixed (by kernel_rfl) Try.func14 (by kernel_rfl) Try.ntmps14 (by kernel_rfl) (ls := [([1, 2], [(0, [0]), (1, [1])]), ([], []), ([1, 2, 3], [(9, [2])]), ([], []), ([1, 2, 3, 4, 5], []), ([], []), ([1, 2, 3, 4, 5, 22], []), ([], []), ([1, 2, 3, 4, 5, 22, 70], []), ([], []), ([2], []), ([], []), ([1, 2, 3, 4, 5, 22, 73], []), ([], []), ([2, 3], []), ([1, 2, 3, 4, 5, 81], []), ([], []), ([1, 2, 3, 4, 5, 6], []), ([], []), ([1, 2, 3, 4, 5, 6, 87], []), ([], []), ([999999, 1, 2, 3, 4, 5, 6], []), ([1, 2, 3, 4, 5, 6, 7], [(5, [3])]), ([], []), ([1, 2, 3, 4, 5, 6], [(16, [4])]), ([], []), ([1, 2, 3, 4, 5, 6], []), ([999999, 1, 2, 3, 4, 5], []), ([1, 2, 3, 4, 5, 8], []), ([], []), ([1, 2, 3, 4, 5, 8, 116], []), ([], []), ([999999, 1, 2, 3, 4, 5, 8], []), ([1, 2, 3, 4, 5, 8], [(19, [5])]), ([], []), ([1, 2, 3, 4, 5, 8], []), ([999997, 2, 3, 4, 5], []), ([2, 3], []), ([1, 2, 3, 4, 9], []), ([], []), ([1, 2, 3, 4, 9, 27], []), ([], []), ([999999, 1, 2, 3, 4, 9], []), ([1, 2, 3, 4, 9, 10], [(5, [6])]), ([], []), ([1, 2, 3, 4, 9, 10, 11], [(9, [7])]), ([], []), ([1, 2, 3, 4, 9, 10, 11, 46], []), ([], []), ([1, 2, 3, 4, 9, 11], []), ([1, 2, 3, 4, 9, 10, 11, 54], []), ([], []), ([1, 2, 3, 4, 9, 11], []), ([999999, 1, 2, 3, 4, 9, 11], []), ([1, 2, 3, 4, 9], [(3, [8])]), ([999999, 1, 2, 3, 4, 9], []), ([1, 2, 3, 4, 9], []), ([999997, 2, 3, 4], []), ([2, 3], []), ([999999, 2, 3], []), ([2], []), ([], [])]) (by kernel_rfl)

def l1_cost_pointers : CC :=
  .seq (.seq (.reg [co (some 6) (.move (.tmp 3)) none,
        co (some 7) (.binOp .gtr 3 (.tmp 6) (.const (.int .i64 0)) 3) none] [0, 3, 7])
    (.cond (.tmp 7)
      (.skip)
      (.exit 0)))
  (.keep [0, 3] (.seq (.block 1
      (.seq (.reg [co (some 10) (.move (.tmp 0)) none,
          co (some 11) (.move (.tmp 3)) none,
          co (some 12) (.binOp .sub 3 (.tmp 11) (.const (.int .i64 1)) 3) none,
          co (some 13) (.indexAddr 23 (.tmp 10) (.tmp 12)) none,
          co (some 14) (.fieldAddr 25 (.tmp 13) 0) none,
          co (some 15) (.load 3 (.tmp 14)) none,
          co (some 16) (.binOp .neq 3 (.tmp 15) (.const (.int .i64 0)) 3) none] [0, 3, 16])
      (.cond (.tmp 16)
        (.seq (.reg [co (some 17) (.move (.tmp 3)) none,
            co (some 2) (.assign (.tmp 17)) none] [2])
        (.ret))
        (.skip))))
  (.keep [0, 3] (.reg [co (some 8) (.move (.tmp 3)) none,
    co (some 9) (.binOp .sub 3 (.tmp 8) (.const (.int .i64 1)) 3) none,
    co (some 3) (.assign (.tmp 9)) none] [0, 3]))))

/-- cento/cost.pointers -/
def c_cost_pointers : CC :=
  .seq (.reg [co (some 2) (.assign (.const (.int .i64 0))) none] [0])
  (.seq (.seq (.reg [co (some 4) (.move (.tmp 0)) none,
        co (some 5) (.call { callee := (.builtin .len), args := #[(.tmp 4)], argTypes := #[23] }) none,
        co (some 3) (.assign (.tmp 5)) none] [0, 3])
    (.block 0
      (.loop l1_cost_pointers)))
  (.keep [] (.seq (.reg [co (some 2) (.assign (.const (.int .i64 0))) none] [2])
  (.ret))))
theorem t_cost_pointers : Txt Try.prog 118 18 [(.tmp 2)] c_cost_pointers := txt_of (code := Try.f118.body.getD .ret) mixed (by kernel_rfl) Try.func118 (by kernel_rfl) Try.ntmps118 (by kernel_rfl) (ls := [([0], []), ([], []), ([0, 3], []), ([], []), ([0, 3, 7], []), ([], []), ([999999, 0, 3], []), ([0, 3, 16], []), ([], []), ([2], []), ([], []), ([999999, 0, 3], []), ([0, 3], []), ([999999], []), ([2], []), ([], [])]) (by kernel_rfl)

def l1_cost_kids : CC :=
  .seq (.reg [co (some 9) (.binOp .lss 3 (.tmp 8) (.tmp 7) 3) none] [0, 3, 6, 7, 8, 9])
  (.seq (.cond (.tmp 9)
      (.skip)
      (.exit 0))
  (.keep [0, 3, 6, 7, 8] (.seq (.block 1
      (.seq (.reg [co (some 10) (.move (.tmp 8)) none,
          co (some 11) (.indexAddr 23 (.tmp 6) (.tmp 8)) none,
          co (some 12) (.load 25 (.tmp 11)) none,
          cn (some 5) (.alloc 25) none [0],
          co (some 4) (.assign (.tmp 10)) none,
          co none (.store 25 (.tmp 5) (.tmp 12)) none] [0, 3, 4, 5, 6, 7, 8])
      (.seq (.reg [co (some 13) (.move (.tmp 3)) none,
          co (some 14) (.load 25 (.tmp 5)) none,
          co (some 15) (.call { callee := (.value (.func 117)), args := #[(.tmp 14)], argTypes := #[25] }) none,
          co (some 16) (.binOp .add 3 (.tmp 13) (.tmp 15) 3) none,
          co (some 3) (.assign (.tmp 16)) none] [0, 3, 4, 5, 6, 7, 8])
      (.seq (.reg [co (some 17) (.fieldAddr 25 (.tmp 5) 0) none,
          co (some 18) (.load 3 (.tmp 17)) none,
          co (some 19) (.binOp .neq 3 (.tmp 18) (.const (.int .i64 0)) 3) none] [0, 3, 4, 6, 7, 8, 19])
      (.cond (.tmp 19)
        (.reg [co (some 20) (.move (.tmp 3)) none,
          co (some 21) (.move (.tmp 4)) none,
          co (some 22) (.binOp .add 3 (.tmp 21) (.const (.int .i64 1)) 3) none,
          co (some 23) (.move (.tmp 0)) none,
          co (some 24) (.move (.tmp 4)) none,
          co (some 25) (.slice 23 (.tmp 23) none (some (.tmp 24)) none) none,
          co (some 26) (.call { callee := (.value (.func 118)), args := #[(.tmp 25)], argTypes := #[23] }) none,
          co (some 27) (.binOp .sub 3 (.tmp 22) (.tmp 26) 3) none,
          co (some 28) (.binOp .add 3 (.tmp 20) (.tmp 27) 3) none,
          co (some 3) (.assign (.tmp 28)) none] [0, 3, 6, 7, 8])
        (.skip))))))
  (.keep [0, 3, 6, 7, 8] (.reg [co (some 29) (.binOp .add 3 (.tmp 8) (.const (.int .i64 1)) 3) none,
    co (some 8) (.move (.tmp 29)) none] [0, 3, 6, 7, 8])))))

/-- cento/cost.kids -/
def c_cost_kids : CC :=
  .seq (.reg [co (some 2) (.assign (.const (.int .i64 0))) none] [0])
  (.seq (.reg [co (some 3) (.assign (.const (.int .i64 0))) none] [0, 3])
  (.seq (.seq (.reg [co (some 6) (.move (.tmp 0)) none,
        co (some 7) (.call { callee := (.builtin .len), args := #[(.tmp 6)], argTypes := #[23] }) none,
        co (some 8) (.move (.const (.int .i64 0))) none] [0, 3, 6, 7, 8])
    (.block 0
      (.loop l1_cost_kids)))
  (.keep [3] (.seq (.reg [co (some 30) (.move (.tmp 3)) none,
      co (some 2) (.assign (.tmp 30)) none] [2])
  (.ret)))))
theorem t_cost_kids : Txt Try.prog 85 31 [(.tmp 2)] c_cost_kids := txt_of (code := Try.f85.body.getD .ret) mixed (by kernel_rfl) Try.func85 (by kernel_rfl) Try.ntmps85 (by kernel_rfl) (ls := [([0], []), ([], []), ([0, 3], []), ([], []), ([0, 3, 6, 7, 8], []), ([], []), ([0, 3, 6, 7, 8, 9], []), ([], []), ([999999, 0, 3, 6, 7, 8], []), ([0, 3, 4, 5, 6, 7, 8], [(3, [0])]), ([], []), ([0, 3, 4, 5, 6, 7, 8], []), ([], []), ([0, 3, 4, 6, 7, 8, 19], []), ([], []), ([0, 3, 6, 7, 8], []), ([999999, 0, 3, 6, 7, 8], []), ([0, 3, 6, 7, 8], []), ([999999, 3], []), ([2], []), ([], [])]) (by kernel_rfl)


/-- cento/cost.node -/
def c_cost_node : CC :=
  .seq (.reg [cn (some 1) (.box 30 (.tmp 0)) none [0],
      co (some 2) (.assign (.const (.int .i64 0))) none] [1])
  (.seq (.seq (.reg [co (some 3) (.fieldAddr 30 (.tmp 1) 0) none,
        co (some 4) (.load 3 (.tmp 3)) none] [1, 4])
    (.block 0
      (.seq (.reg [co (some 6) (.binOp .eql 3 (.tmp 4) (.const (.int .i64 1)) 3) none,
          co (some 5) (.assign (.tmp 6)) none] [1, 4, 5])
      (.cond (.tmp 5)
        (.seq (.reg [co (some 7) (.fieldAddr 30 (.tmp 1) 1) none,
            co (some 8) (.load 25 (.tmp 7)) none,
            co (some 9) (.fieldAddr 30 (.tmp 1) 2) none,
            co (some 10) (.load 25 (.tmp 9)) none,
            co (some 11) (.buildSlice 23 2 #[(0, (.tmp 8)), (1, (.tmp 10))]) none,
            co (some 12) (.call { callee := (.value (.func 85)), args := #[(.tmp 11)], argTypes := #[23] }) none,
            co (some 13) (.binOp .add 3 (.const (.int .i64 1)) (.tmp 12) 3) none,
            co (some 2) (.assign (.tmp 13)) none] [2])
        (.ret))
        (.seq (.reg [co (some 15) (.binOp .eql 3 (.tmp 4) (.const (.int .i64 2)) 3) none,
            co (some 14) (.assign (.tmp 15)) none] [1, 4, 14])
        (.cond (.tmp 14)
          (.seq (.reg [co (some 16) (.load 30 (.tmp 1)) none,
              co (some 17) (.call { callee := (.value (.func 86)), args := #[(.tmp 16)], argTypes := #[30] }) none,
              co (some 18) (.binOp .add 3 (.const (.int .i64 1)) (.tmp 17) 3) none,
              co (some 2) (.assign (.tmp 18)) none] [2])
          (.ret))
          (.seq (.reg [co (some 20) (.binOp .eql 3 (.tmp 4) (.const (.int .i64 3)) 3) none,
              co (some 19) (.assign (.tmp 20)) none] [1, 19])
          (.cond (.tmp 19)
            (.seq (.reg [co (some 21) (.load 30 (.tmp 1)) none,
                co (some 22) (.call { callee := (.value (.func 87)), args := #[(.tmp 21)], argTypes := #[30] }) none,
                co (some 23) (.binOp .add 3 (.const (.int .i64 1)) (.tmp 22) 3) none,
                co (some 2) (.assign (.tmp 23)) none] [2])
            (.ret))
            (.skip)))))))))
  (.keep [] (.seq (.reg [co (some 2) (.assign (.const (.int .i64 0))) none] [2])
  (.ret))))
theorem t_cost_node : Txt Try.prog 51 24 [(.tmp 2)] c_cost_node := txt_of (code := Try.f51.body.getD .ret) mixed (by kernel_rfl) Try.func51 (by kernel_rfl) Try.ntmps51 (by kernel_rfl) (ls := [([1], [(0, [0])]), ([], []), ([1, 4], []), ([], []), ([1, 4, 5], []), ([], []), ([2], []), ([], []), ([1, 4, 14], []), ([], []), ([2], []), ([], []), ([1, 19], []), ([], []), ([2], []), ([], []), ([999999], []), ([2], []), ([], [])]) (by kernel_rfl)

def l1_cost_structure : CC :=
  .seq (.reg [co (some 21) (.binOp .lss 3 (.tmp 20) (.tmp 19) 3) none] [1, 3, 4, 5, 18, 19, 20, 21])
  (.seq (.cond (.tmp 21)
      (.skip)
      (.exit 0))
  (.keep [1, 3, 4, 5, 18, 19, 20] (.seq (.block 1
      (.seq (.reg [co (some 22) (.indexAddr 26 (.tmp 18) (.tmp 20)) none,
          co (some 23) (.load 93 (.tmp 22)) none,
          cn (some 7) (.alloc 93) none [1],
          co none (.store 93 (.tmp 7) (.tmp 23)) none] [1, 3, 4, 5, 7, 18, 19, 20])
      (.block 2
        (.seq (.reg [co (some 25) (.fieldAddr 93 (.tmp 7) 3) none,
            co (some 26) (.load 45 (.tmp 25)) none,
            co (some 27) (.binOp .neq 45 (.tmp 26) (.const (.int .u64 0)) 45) none,
            co (some 24) (.assign (.tmp 27)) none] [1, 3, 4, 5, 7, 18, 19, 20, 24])
        (.cond (.tmp 24)
          (.reg [co (some 5) (.assign (.const (.int .i64 3))) none] [1, 3, 4, 5, 18, 19, 20])
          (.seq (.reg [co (some 29) (.fieldAddr 93 (.tmp 7) 2) none,
              co (some 30) (.load 45 (.tmp 29)) none,
              co (some 31) (.binOp .neq 45 (.tmp 30) (.const (.int .u64 0)) 45) none,
              co (some 28) (.assign (.tmp 31)) none] [1, 3, 4, 5, 18, 19, 20, 28])
          (.cond (.tmp 28)
            (.reg [co (some 32) (.move (.tmp 5)) none,
              co (some 33) (.call { callee := (.builtin .max), args := #[(.tmp 32), (.const (.int .i64 2))], argTypes := #[3, 3] }) none,
              co (some 5) (.assign (.tmp 33)) none] [1, 3, 4, 5, 18, 19, 20])
            (.skip))))))))
  (.keep [1, 3, 4, 5, 18, 19, 20] (.reg [co (some 34) (.binOp .add 3 (.tmp 20) (.const (.int .i64 1)) 3) none,
    co (some 20) (.move (.tmp 34)) none] [1, 3, 4, 5, 18, 19, 20])))))
def l2_cost_structure : CC :=
  .seq (.reg [co (some 70) (.binOp .lss 3 (.tmp 69) (.tmp 68) 3) none] [3, 67, 68, 69, 70])
  (.seq (.cond (.tmp 70)
      (.skip)
      (.exit 3))
  (.keep [3, 67, 68, 69] (.seq (.block 4
      (.seq (.reg [co (some 71) (.indexAddr 27 (.tmp 67) (.tmp 69)) none,
          co (some 72) (.load 95 (.tmp 71)) none,
          cn (some 11) (.alloc 95) none [2],
          co none (.store 95 (.tmp 11) (.tmp 72)) none] [3, 11, 67, 68, 69])
      (.reg [co (some 73) (.move (.tmp 3)) none,
        co (some 74) (.fieldAddr 95 (.tmp 11) 1) none,
        co (some 75) (.load 30 (.tmp 74)) none,
        co (some 76) (.call { callee := (.value (.func 51)), args := #[(.tmp 75)], argTypes := #[30] }) none,
        co (some 77) (.binOp .add 3 (.tmp 73) (.tmp 76) 3) none,
        co (some 3) (.assign (.tmp 77)) none] [3, 67, 68, 69])))
  (.reg [co (some 78) (.binOp .add 3 (.tmp 69) (.const (.int .i64 1)) 3) none,
    co (some 69) (.move (.tmp 78)) none] [3, 67, 68, 69]))))
def k1_cost_structure : CC :=
  .seq (.reg [co (some 66) (.fieldAddr 30 (.tmp 1) 4) none,
      co (some 67) (.load 27 (.tmp 66)) none,
      co (some 68) (.call { callee := (.builtin .len), args := #[(.tmp 67)], argTypes := #[27] }) none,
      co (some 69) (.move (.const (.int .i64 0))) none] [3, 67, 68, 69])
  (.block 3
    (.loop l2_cost_structure))
def k2_cost_structure : CC :=
  .seq (.reg [co (some 54) (.move (.tmp 3)) none,
      co (some 55) (.move (.tmp 8)) none,
      co (some 56) (.move (.tmp 9)) none,
      co (some 57) (.binOp .mul 3 (.tmp 55) (.tmp 56) 3) none,
      co (some 58) (.binOp .add 3 (.const (.int .i64 2)) (.tmp 57) 3) none,
      co (some 59) (.binOp .add 3 (.tmp 54) (.tmp 58) 3) none,
      co (some 3) (.assign (.tmp 59)) none] [1, 3])
  (.seq (.seq (.reg [co (some 60) (.fieldAddr 30 (.tmp 1) 3) none,
        co (some 61) (.load 26 (.tmp 60)) none,
        co (some 62) (.call { callee := (.builtin .len), args := #[(.tmp 61)], argTypes := #[26] }) none,
        co (some 63) (.binOp .eql 3 (.tmp 62) (.const (.int .i64 0)) 3) none] [1, 3, 63])
    (.cond (.tmp 63)
      (.reg [co (some 64) (.move (.tmp 3)) none,
        co (some 65) (.binOp .add 3 (.tmp 64) (.const (.int .i64 1)) 3) none,
        co (some 3) (.assign (.tmp 65)) none] [1, 3])
      (.skip)))
  (.keep [1, 3] k1_cost_structure))
def k3_cost_structure : CC :=
  .seq (.seq (.reg [co (some 41) (.fieldAddr 30 (.tmp 1) 4) none,
        co (some 42) (.load 27 (.tmp 41)) none,
        co (some 43) (.call { callee := (.builtin .len), args := #[(.tmp 42)], argTypes := #[27] }) none,
        co (some 8) (.assign (.tmp 43)) none] [1, 3, 8])
    (.seq (.reg [co (some 44) (.move (.tmp 8)) none,
        co (some 45) (.binOp .gtr 3 (.tmp 44) (.const (.int .i64 0)) 3) none] [1, 3, 8, 45])
    (.cond (.tmp 45)
      (.seq (.reg [co (some 9) (.assign (.const (.int .i64 2))) none] [1, 3, 8, 9])
      (.seq (.seq (.reg [co (some 46) (.fieldAddr 30 (.tmp 1) 4) none,
            co (some 47) (.load 27 (.tmp 46)) none,
            co (some 48) (.move (.tmp 8)) none,
            co (some 49) (.binOp .sub 3 (.tmp 48) (.const (.int .i64 1)) 3) none,
            co (some 50) (.indexAddr 27 (.tmp 47) (.tmp 49)) none,
            co (some 51) (.fieldAddr 95 (.tmp 50) 0) none,
            co (some 52) (.load 3 (.tmp 51)) none,
            co (some 53) (.binOp .eql 3 (.tmp 52) (.const (.int .i64 0)) 3) none] [1, 3, 8, 9, 53])
        (.cond (.tmp 53)
          (.reg [co (some 9) (.assign (.const (.int .i64 1))) none] [1, 3, 8, 9])
          (.skip)))
      (.keep [1, 3, 8, 9] k2_cost_structure)))
      (.skip))))
  (.keep [3] (.seq (.reg [co (some 79) (.move (.tmp 3)) none,
      co (some 2) (.assign (.tmp 79)) none] [2])
  (.ret)))

/-- cento/cost.structure -/
def c_cost_structure : CC :=
  .seq (.reg [cn (some 1) (.box 30 (.tmp 0)) none [0],
      co (some 2) (.assign (.const (.int .i64 0))) none] [1])
  (.seq (.reg [co (some 3) (.assign (.const (.int .i64 0))) none] [1, 3])
  (.seq (.seq (.reg [co (some 12) (.fieldAddr 30 (.tmp 1) 3) none,
        co (some 13) (.load 26 (.tmp 12)) none,
        co (some 14) (.call { callee := (.builtin .len), args := #[(.tmp 13)], argTypes := #[26] }) none,
        co (some 4) (.assign (.tmp 14)) none] [1, 3, 4])
    (.seq (.reg [co (some 15) (.move (.tmp 4)) none,
        co (some 16) (.binOp .gtr 3 (.tmp 15) (.const (.int .i64 0)) 3) none] [1, 3, 4, 16])
    (.cond (.tmp 16)
      (.seq (.reg [co (some 5) (.assign (.const (.int .i64 1))) none] [1, 3, 4, 5])
      (.seq (.seq (.reg [co (some 17) (.fieldAddr 30 (.tmp 1) 3) none,
            co (some 18) (.load 26 (.tmp 17)) none,
            co (some 19) (.call { callee := (.builtin .len), args := #[(.tmp 18)], argTypes := #[26] }) none,
            co (some 20) (.move (.const (.int .i64 0))) none] [1, 3, 4, 5, 18, 19, 20])
        (.block 0
          (.loop l1_cost_structure)))
      (.keep [1, 3, 4, 5] (.reg [co (some 35) (.move (.tmp 3)) none,
        co (some 36) (.move (.tmp 4)) none,
        co (some 37) (.move (.tmp 5)) none,
        co (some 38) (.binOp .mul 3 (.tmp 36) (.tmp 37) 3) none,
        co (some 39) (.binOp .add 3 (.const (.int .i64 2)) (.tmp 38) 3) none,
        co (some 40) (.binOp .add 3 (.tmp 35) (.tmp 39) 3) none,
        co (some 3) (.assign (.tmp 40)) none] [1, 3]))))
      (.skip))))
  (.keep [1, 3] k3_cost_structure)))
theorem t_cost_structure : Txt Try.prog 86 80 [(.tmp 2)] c_cost_structure := txt_of (code := Try.f86.body.getD .ret) mixed (by kernel_rfl) Try.func86 (by kernel_rfl) Try.ntmps86 (by kernel_rfl) (ls := [([1], [(0, [0])]), ([], []), ([1, 3], []), ([], []), ([1, 3, 4], []), ([], []), ([1, 3, 4, 16], []), ([], []), ([1, 3, 4, 5], []), ([], []), ([1, 3, 4, 5, 18, 19, 20], []), ([], []), ([1, 3, 4, 5, 18, 19, 20, 21], []), ([], []), ([999999, 1, 3, 4, 5, 18, 19, 20], []), ([1, 3, 4, 5, 7, 18, 19, 20], [(2, [1])]), ([], []), ([1, 3, 4, 5, 7, 18, 19, 20, 24], []), ([], []), ([1, 3, 4, 5, 18, 19, 20], []), ([1, 3, 4, 5, 18, 19, 20, 28], []), ([], []), ([1, 3, 4, 5, 18, 19, 20], []), ([999999, 1, 3, 4, 5, 18, 19, 20], []), ([1, 3, 4, 5, 18, 19, 20], []), ([999999, 1, 3, 4, 5], []), ([1, 3], []), ([999999, 1, 3], []), ([1, 3, 8], []), ([], []), ([1, 3, 8, 45], []), ([], []), ([1, 3, 8, 9], []), ([], []), ([1, 3, 8, 9, 53], []), ([], []), ([1, 3, 8, 9], []), ([999999, 1, 3, 8, 9], []), ([1, 3], []), ([], []), ([1, 3, 63], []), ([], []), ([1, 3], []), ([999999, 1, 3], []), ([3, 67, 68, 69], []), ([], []), ([3, 67, 68, 69, 70], []), ([], []), ([999999, 3, 67, 68, 69], []), ([3, 11, 67, 68, 69], [(2, [2])]), ([], []), ([3, 67, 68, 69], []), ([], []), ([3, 67, 68, 69], []), ([999999, 3], []), ([2], []), ([], [])]) (by kernel_rfl)

def k1_cost_list : CC :=
  .cond (.tmp 20)
    (.seq (.reg [co (some 3) (.assign (.const (.int .i64 2))) none] [1, 3, 4, 6, 12, 13, 14])
    (.reg [co (some 23) (.move (.tmp 4)) none,
      co (some 24) (.fieldAddr 30 (.tmp 1) 5) none,
      co (some 25) (.load 3 (.tmp 24)) none,
      co (some 26) (.fieldAddr 98 (.tmp 6) 2) none,
      co (some 27) (.load 23 (.tmp 26)) none,
      co (some 28) (.build 25 #[(0, (.tmp 25)), (2, (.tmp 27))]) none,
      co (some 29) (.call { callee := (.value (.func 117)), args := #[(.tmp 28)], argTypes := #[25] }) none,
      co (some 30) (.binOp .add 3 (.tmp 23) (.tmp 29) 3) none,
      co (some 4) (.assign (.tmp 30)) none] [1, 3, 4, 12, 13, 14]))
    (.seq (.reg [co (some 32) (.binOp .eql 3 (.tmp 19) (.const (.int .i64 3)) 3) none,
        co (some 31) (.assign (.tmp 32)) none] [1, 3, 4, 6, 12, 13, 14, 31])
    (.cond (.tmp 31)
      (.seq (.reg [co (some 3) (.assign (.const (.int .i64 2))) none] [1, 3, 4, 6, 12, 13, 14])
      (.reg [co (some 33) (.move (.tmp 4)) none,
        co (some 34) (.fieldAddr 98 (.tmp 6) 3) none,
        co (some 35) (.load 30 (.tmp 34)) none,
        co (some 36) (.call { callee := (.value (.func 51)), args := #[(.tmp 35)], argTypes := #[30] }) none,
        co (some 37) (.binOp .add 3 (.tmp 33) (.tmp 36) 3) none,
        co (some 4) (.assign (.tmp 37)) none] [1, 3, 4, 12, 13, 14]))
      (.skip)))
def l1_cost_list : CC :=
  .seq (.reg [co (some 15) (.binOp .lss 3 (.tmp 14) (.tmp 13) 3) none] [1, 3, 4, 12, 13, 14, 15])
  (.seq (.cond (.tmp 15)
      (.skip)
      (.exit 0))
  (.keep [1, 3, 4, 12, 13, 14] (.seq (.block 1
      (.seq (.reg [co (some 16) (.indexAddr 28 (.tmp 12) (.tmp 14)) none,
          co (some 17) (.load 98 (.tmp 16)) none,
          cn (some 6) (.alloc 98) none [1],
          co none (.store 98 (.tmp 6) (.tmp 17)) none] [1, 3, 4, 6, 12, 13, 14])
      (.seq (.reg [co (some 18) (.fieldAddr 98 (.tmp 6) 0) none,
          co (some 19) (.load 3 (.tmp 18)) none] [1, 3, 4, 6, 12, 13, 14, 19])
      (.block 2
        (.seq (.seq (.reg [co (some 21) (.binOp .eql 3 (.tmp 19) (.const (.int .i64 1)) 3) none,
              co (some 20) (.assign (.tmp 21)) none] [1, 3, 4, 6, 12, 13, 14, 19, 20])
          (.cond (.tmp 20)
            (.skip)
            (.reg [co (some 22) (.binOp .eql 3 (.tmp 19) (.const (.int .i64 2)) 3) none,
              co (some 20) (.assign (.tmp 22)) none] [1, 3, 4, 6, 12, 13, 14, 19, 20])))
        (.keep [1, 3, 4, 6, 12, 13, 14, 19, 20] k1_cost_list))))))
  (.keep [1, 3, 4, 12, 13, 14] (.reg [co (some 38) (.binOp .add 3 (.tmp 14) (.const (.int .i64 1)) 3) none,
    co (some 14) (.move (.tmp 38)) none] [1, 3, 4, 12, 13, 14])))))

/-- cento/cost.list -/
def c_cost_list : CC :=
  .seq (.reg [cn (some 1) (.box 30 (.tmp 0)) none [0],
      co (some 2) (.assign (.const (.int .i64 0))) none] [1])
  (.seq (.seq (.reg [co (some 7) (.fieldAddr 30 (.tmp 1) 6) none,
        co (some 8) (.load 28 (.tmp 7)) none,
        co (some 9) (.call { callee := (.builtin .len), args := #[(.tmp 8)], argTypes := #[28] }) none,
        co (some 10) (.binOp .eql 3 (.tmp 9) (.const (.int .i64 0)) 3) none] [1, 10])
    (.cond (.tmp 10)
      (.seq (.reg [co (some 2) (.assign (.const (.int .i64 0))) none] [2])
      (.ret))
      (.skip)))
  (.keep [1] (.seq (.reg [co (some 3) (.assign (.const (.int .i64 1))) none,
      co (some 4) (.assign (.const (.int .i64 0))) none] [1, 3, 4])
  (.seq (.seq (.reg [co (some 11) (.fieldAddr 30 (.tmp 1) 6) none,
        co (some 12) (.load 28 (.tmp 11)) none,
        co (some 13) (.call { callee := (.builtin .len), args := #[(.tmp 12)], argTypes := #[28] }) none,
        co (some 14) (.move (.const (.int .i64 0))) none] [1, 3, 4, 12, 13, 14])
    (.block 0
      (.loop l1_cost_list)))
  (.keep [1, 3, 4] (.seq (.reg [co (some 39) (.fieldAddr 30 (.tmp 1) 6) none,
      co (some 40) (.load 28 (.tmp 39)) none,
      co (some 41) (.call { callee := (.builtin .len), args := #[(.tmp 40)], argTypes := #[28] }) none,
      co (some 42) (.move (.tmp 3)) none,
      co (some 43) (.binOp .mul 3 (.tmp 41) (.tmp 42) 3) none,
      co (some 44) (.binOp .add 3 (.const (.int .i64 2)) (.tmp 43) 3) none,
      co (some 45) (.move (.tmp 4)) none,
      co (some 46) (.binOp .add 3 (.tmp 44) (.tmp 45) 3) none,
      co (some 2) (.assign (.tmp 46)) none] [2])
  (.ret)))))))
theorem t_cost_list : Txt Try.prog 87 47 [(.tmp 2)] c_cost_list := txt_of (code := Try.f87.body.getD .ret) mixed (by kernel_rfl) Try.func87 (by kernel_rfl) Try.ntmps87 (by kernel_rfl) (ls := [([1], [(0, [0])]), ([], []), ([1, 10], []), ([], []), ([2], []), ([], []), ([999999, 1], []), ([1, 3, 4], []), ([], []), ([1, 3, 4, 12, 13, 14], []), ([], []), ([1, 3, 4, 12, 13, 14, 15], []), ([], []), ([999999, 1, 3, 4, 12, 13, 14], []), ([1, 3, 4, 6, 12, 13, 14], [(2, [1])]), ([], []), ([1, 3, 4, 6, 12, 13, 14, 19], []), ([], []), ([1, 3, 4, 6, 12, 13, 14, 19, 20], []), ([], []), ([1, 3, 4, 6, 12, 13, 14, 19, 20], []), ([999999, 1, 3, 4, 6, 12, 13, 14, 19, 20], []), ([1, 3, 4, 6, 12, 13, 14], []), ([], []), ([1, 3, 4, 12, 13, 14], []), ([1, 3, 4, 6, 12, 13, 14, 31], []), ([], []), ([1, 3, 4, 6, 12, 13, 14], []), ([], []), ([1, 3, 4, 12, 13, 14], []), ([999999, 1, 3, 4, 12, 13, 14], []), ([1, 3, 4, 12, 13, 14], []), ([999999, 1, 3, 4], []), ([2], []), ([], [])]) (by kernel_rfl)


/-- cento/cost.Words -/
def c_cost_Words : CC :=
  .seq (.reg [cn (some 1) (.box 30 (.tmp 0)) none [0],
      co (some 2) (.assign (.const (.int .i64 0))) none] [1])
  (.seq (.reg [co (some 3) (.load 30 (.tmp 1)) none,
      co (some 4) (.call { callee := (.value (.func 51)), args := #[(.tmp 3)], argTypes := #[30] }) none,
      co (some 5) (.binOp .add 3 (.const (.int .i64 1)) (.tmp 4) 3) none,
      co (some 2) (.assign (.tmp 5)) none] [2])
  (.ret))
theorem t_cost_Words : Txt Try.prog 16 6 [(.tmp 2)] c_cost_Words := txt_of (code := Try.f16.body.getD .ret) mixed (by kernel_rfl) Try.func16 (by kernel_rfl) Try.ntmps16 (by kernel_rfl) (ls := [([1], [(0, [0])]), ([], []), ([2], []), ([], [])]) (by kernel_rfl)


/-- cento/centolaw39.awake -/
def c_centolaw39_awake : CC :=
  .seq (.reg [co (some 0) (.assign (.const (.bool false))) none] [])
  (.seq (.reg [co (some 1) (.build 30 #[]) none,
      co (some 2) (.call { callee := (.value (.func 16)), args := #[(.tmp 1)], argTypes := #[30] }) none,
      co (some 3) (.binOp .eql 3 (.tmp 2) (.const (.int .i64 1)) 3) none,
      co (some 4) (.move (.tmp 3)) none,
      co (some 5) (.build 30 #[(0, (.const (.int .i64 1)))]) (some (4, true)),
      co (some 6) (.call { callee := (.value (.func 16)), args := #[(.tmp 5)], argTypes := #[30] }) (some (4, true)),
      co (some 7) (.binOp .eql 3 (.tmp 6) (.const (.int .i64 2)) 3) (some (4, true)),
      co (some 8) (.pick (.tmp 4) (.tmp 7) (.const (.bool false))) none,
      co (some 0) (.assign (.tmp 8)) none] [0])
  (.ret))
theorem t_centolaw39_awake : Txt Try.prog 13 9 [(.tmp 0)] c_centolaw39_awake := txt_of (code := Try.f13.body.getD .ret) mixed (by kernel_rfl) Try.func13 (by kernel_rfl) Try.ntmps13 (by kernel_rfl) (ls := [([], []), ([], []), ([0], []), ([], [])]) (by kernel_rfl)


/-- cento/centolaw39.CostWords -/
def c_centolaw39_CostWords : CC :=
  .seq (.reg [cn (some 1) (.box 30 (.tmp 0)) none [0],
      co (some 2) (.assign (.const (.bool false))) none] [1])
  (.seq (.seq (.reg [co (some 4) (.load 30 (.tmp 1)) none,
        co (some 5) (.call { callee := (.value (.func 12)), args := #[(.tmp 4)], argTypes := #[30] }) none,
        co (some 6) (.unOp .not 4 (.tmp 5)) none] [1, 6])
    (.cond (.tmp 6)
      (.seq (.reg [co (some 7) (.call { callee := (.value (.func 13)), args := #[], argTypes := #[] }) none,
          co (some 2) (.assign (.tmp 7)) none] [2])
      (.ret))
      (.skip)))
  (.keep [1] (.seq (.reg [co (some 8) (.load 30 (.tmp 1)) none,
      co (some 9) (.call { callee := (.value (.func 14)), args := #[(.tmp 8)], argTypes := #[30] }) none,
      cn (some 3) (.alloc 25) none [1],
      co none (.store 25 (.tmp 3) (.tmp 9)) none] [1, 3])
  (.seq (.seq (.reg [co (some 10) (.load 25 (.tmp 3)) none,
        co (some 11) (.call { callee := (.value (.func 15)), args := #[(.tmp 10), (.const (.int .i64 64))], argTypes := #[25, 3] }) none,
        co (some 12) (.unOp .not 4 (.tmp 11)) none] [1, 3, 12])
    (.cond (.tmp 12)
      (.seq (.reg [co (some 13) (.call { callee := (.value (.func 13)), args := #[], argTypes := #[] }) none,
          co (some 2) (.assign (.tmp 13)) none] [2])
      (.ret))
      (.skip)))
  (.keep [1, 3] (.seq (.reg [co (some 14) (.load 30 (.tmp 1)) none,
      ⟨some 15, (.call { callee := (.value (.func 16)), args := #[(.tmp 14)], argTypes := #[30] }), none, [], 1, [], true⟩,
      ⟨some 16, (.load 25 (.tmp 3)), none, [], 2, [1], false⟩,
      co (some 17) (.call { callee := (.value (.func 18)), args := #[(.tmp 16)], argTypes := #[25] }) none,
      co (some 18) (.call { callee := (.value (.func 17)), args := #[(.tmp 17)], argTypes := #[25] }) none,
      co (some 19) (.binOp .add 3 (.tmp 18) (.const (.int .i64 1)) 3) none,
      co (some 20) (.binOp .eql 3 (.tmp 15) (.tmp 19) 3) none,
      co (some 21) (.move (.tmp 20)) none,
      co (some 22) (.call { callee := (.value (.func 13)), args := #[], argTypes := #[] }) (some (21, true)),
      co (some 23) (.pick (.tmp 21) (.tmp 22) (.const (.bool false))) none,
      co (some 2) (.assign (.tmp 23)) none] [2])
  (.ret)))))))
theorem t_centolaw39_CostWords : Txt Try.prog 3 24 [(.tmp 2)] c_centolaw39_CostWords := txt_of (code := Try.f3.body.getD .ret) mixed (by kernel_rfl) Try.func3 (by kernel_rfl) Try.ntmps3 (by kernel_rfl) (ls := [([1], [(0, [0])]), ([], []), ([1, 6], []), ([], []), ([2], []), ([], []), ([999999, 1], []), ([1, 3], [(2, [1])]), ([], []), ([1, 3, 12], []), ([], []), ([2], []), ([], []), ([999999, 1, 3], []), ([2], []), ([], [])]) (by kernel_rfl)
end Go.Proofs.Ytigdcnlhgelkaaa
