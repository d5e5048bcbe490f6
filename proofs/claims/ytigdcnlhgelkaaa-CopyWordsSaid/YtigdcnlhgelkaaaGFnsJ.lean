/-
  The functions' text as data, and the facts on the types that they use: written by a program of ours (gen2.py) off the translation.
-/
import Derived.Test.YtigdcnlhgelkaaaProg
import Derived.Test.YtigdcnlhgelkaaaGSimp
import Derived.Test.YtigdcnlhgelkaaaGFnsA
import Derived.Test.YtigdcnlhgelkaaaGFns1
import Derived.Test.YtigdcnlhgelkaaaGFnsB
import Derived.Test.YtigdcnlhgelkaaaGFns7
import Derived.Test.YtigdcnlhgelkaaaGFns9
import Derived.Test.YtigdcnlhgelkaaaGFnsH
import Derived.Test.YtigdcnlhgelkaaaGFnsI
import Derived.KernelRfl
namespace Go.Proofs.Ytigdcnlhgelkaaa
set_option linter.unusedVariables false
set_option linter.unusedSimpArgs false
set_option maxRecDepth 20000
open Go Go.G Go.Proofs

@[simp] theorem fieldOffT_136_0 : fieldOffT Try.prog 136 0 = some 0 := by kernel_rfl
@[simp] theorem fieldOffT_136_1 : fieldOffT Try.prog 136 1 = some 1 := by kernel_rfl
@[simp] theorem buildA_136 (ps : List (Nat × A)) : buildA Try.prog 136 ps = (fillA (fun i => ([(0, 1), (1, 1)] : List (Nat × Nat))[i]?) [A.sl true [], A.v (Value.int IntKind.i64 0)] ps).map A.agg := by kernel_rfl


/-- (*cento/copy.copier).give -/
def c_copy_copier_give : CC :=
  .seq (.reg [co (some 4) (.assign (.const (.int .i64 0))) none,
      co (some 5) (.assign (.const (.bool false))) none] [0, 1])
  (.seq (.seq (.reg [co (some 7) (.move (.tmp 1)) none,
        co (some 8) (.move (.tmp 0)) none,
        co (some 9) (.nilCheck (.tmp 8)) none,
        co (some 10) (.fieldAddr 136 (.tmp 9) 1) none,
        co (some 11) (.load 3 (.tmp 10)) none,
        co (some 12) (.move (.tmp 0)) none,
        co (some 13) (.nilCheck (.tmp 12)) none,
        co (some 14) (.fieldAddr 136 (.tmp 13) 0) none,
        co (some 15) (.load 22 (.tmp 14)) none,
        co (some 16) (.call { callee := (.builtin .len), args := #[(.tmp 15)], argTypes := #[22] }) none,
        co (some 17) (.binOp .sub 3 (.tmp 11) (.tmp 16) 3) none,
        co (some 18) (.binOp .gtr 3 (.tmp 7) (.tmp 17) 3) none] [0, 1, 18])
    (.cond (.tmp 18)
      (.seq (.reg [co (some 4) (.assign (.const (.int .i64 0))) none,
          co (some 5) (.assign (.const (.bool false))) none] [4, 5])
      (.ret))
      (.skip)))
  (.keep [0, 1] (.seq (.reg [co (some 19) (.move (.tmp 0)) none,
      co (some 20) (.nilCheck (.tmp 19)) none,
      co (some 21) (.fieldAddr 136 (.tmp 20) 0) none,
      co (some 22) (.load 22 (.tmp 21)) none,
      co (some 23) (.call { callee := (.builtin .len), args := #[(.tmp 22)], argTypes := #[22] }) none,
      co (some 6) (.assign (.tmp 23)) none] [0, 1, 6])
  (.seq (.reg [co (some 24) (.move (.tmp 0)) none,
      co (some 25) (.move (.tmp 0)) none,
      co (some 26) (.nilCheck (.tmp 25)) none,
      co (some 27) (.fieldAddr 136 (.tmp 26) 0) none,
      co (some 28) (.load 22 (.tmp 27)) none,
      co (some 29) (.move (.tmp 1)) none,
      cn (some 30) (.call { callee := (.builtin .append), args := #[(.tmp 28), (.tmp 29)], argTypes := #[22, 3] }) none [1],
      co (some 31) (.nilCheck (.tmp 24)) none,
      co (some 32) (.fieldAddr 136 (.tmp 31) 0) none,
      co none (.store 22 (.tmp 32) (.tmp 30)) none] [6])
  (.seq (.reg [co (some 33) (.move (.tmp 6)) none,
      co (some 4) (.assign (.tmp 33)) none,
      co (some 5) (.assign (.const (.bool true))) none] [4, 5])
  (.ret))))))
theorem t_copy_copier_give : Txt Try.prog 74 34 [(.tmp 4), (.tmp 5)] c_copy_copier_give := txt_of (code := Try.f74.body.getD .ret) mixed (by kernel_rfl) Try.func74 (by kernel_rfl) Try.ntmps74 (by kernel_rfl) (ls := [([0, 1], []), ([], []), ([0, 1, 18], []), ([], []), ([4, 5], []), ([], []), ([999999, 0, 1], []), ([0, 1, 6], []), ([], []), ([6], [(6, [1])]), ([], []), ([4, 5], []), ([], [])]) (by kernel_rfl)

def k1_copy_copier_point : CC :=
  .reg [co (some 26) (.move (.tmp 0)) none,
    co (some 27) (.nilCheck (.tmp 26)) none,
    co (some 28) (.fieldAddr 136 (.tmp 27) 0) none,
    ⟨some 29, (.load 22 (.tmp 28)), none, [], 3, [], true⟩,
    co (some 30) (.move (.tmp 1)) none,
    co (some 31) (.load 163 (.tmp 7)) none,
    ⟨some 32, (.call { callee := (.value (.func 134)), args := #[(.tmp 31)], argTypes := #[163] }), none, [], 6, [3], false⟩,
    co (some 25) (.move (.tmp 32)) none,
    co (some 33) (.extract (.tmp 25) 0) none,
    co (some 34) (.extract (.tmp 25) 1) none,
    co (some 35) (.indexAddr 22 (.tmp 29) (.tmp 30)) none,
    co none (.store 45 (.tmp 35) (.tmp 33)) none] []

/-- (*cento/copy.copier).point -/
def c_copy_copier_point : CC :=
  .seq (.reg [cn (some 7) (.box 163 (.tmp 3)) none [1]] [0, 1, 2, 7])
  (.seq (.reg [co (some 8) (.move (.tmp 2)) none,
      co (some 9) (.move (.tmp 1)) none,
      co (some 10) (.binOp .sub 3 (.tmp 8) (.tmp 9) 3) none,
      co (some 11) (.binOp .sub 3 (.tmp 10) (.const (.int .i64 1)) 3) none,
      co (some 12) (.fieldAddr 163 (.tmp 7) 1) none,
      co none (.store 3 (.tmp 12) (.tmp 11)) none] [0, 1, 7])
  (.seq (.seq (.reg [co (some 13) (.fieldAddr 163 (.tmp 7) 0) none,
        co (some 14) (.load 3 (.tmp 13)) none,
        co (some 15) (.binOp .eql 3 (.tmp 14) (.const (.int .i64 1)) 3) none,
        co (some 16) (.move (.tmp 15)) none,
        co (some 17) (.fieldAddr 163 (.tmp 7) 2) (some (16, true)),
        co (some 18) (.load 3 (.tmp 17)) (some (16, true)),
        co (some 19) (.fieldAddr 163 (.tmp 7) 3) (some (16, true)),
        co (some 20) (.load 3 (.tmp 19)) (some (16, true)),
        co (some 21) (.binOp .add 3 (.tmp 18) (.tmp 20) 3) (some (16, true)),
        co (some 22) (.binOp .eql 3 (.tmp 21) (.const (.int .i64 0)) 3) (some (16, true)),
        co (some 23) (.pick (.tmp 16) (.tmp 22) (.const (.bool false))) none] [0, 1, 7, 23])
    (.cond (.tmp 23)
      (.reg [co (some 24) (.fieldAddr 163 (.tmp 7) 1) none,
        co none (.store 3 (.tmp 24) (.const (.int .i64 (-1)))) none] [0, 1, 7])
      (.skip)))
  (.keep [0, 1, 7] k1_copy_copier_point)))
theorem t_copy_copier_point : Txt Try.prog 107 36 [] c_copy_copier_point := txt_of (code := Try.f107.body.getD .ret) mixed (by kernel_rfl) Try.func107 (by kernel_rfl) Try.ntmps107 (by kernel_rfl) (ls := [([0, 1, 2, 7], [(0, [1])]), ([], []), ([0, 1, 7], []), ([], []), ([0, 1, 7, 23], []), ([], []), ([0, 1, 7], []), ([999999, 0, 1, 7], []), ([], [])]) (by kernel_rfl)


/-- (*cento/copy.copier).value -/
def c_copy_copier_value : CC :=
  .seq (.reg [cn (some 5) (.box 47 (.tmp 2)) none [1],
      co (some 6) (.assign (.const (.int .i64 0))) none] [0, 1, 5])
  (.seq (.block 0
      (.seq (.reg [co (some 10) (.load 47 (.tmp 5)) none,
          co (some 11) (.call { callee := (.value (.func 60)), args := #[(.tmp 10)], argTypes := #[47] }) none,
          co (some 12) (.binOp .eql 3 (.tmp 11) (.const (.int .i64 0)) 3) none,
          co (some 9) (.assign (.tmp 12)) none] [0, 1, 5, 9])
      (.cond (.tmp 9)
        (.seq (.reg [co (some 6) (.assign (.const (.int .i64 0))) none] [6])
        (.ret))
        (.seq (.reg [co (some 14) (.load 47 (.tmp 5)) none,
            co (some 15) (.call { callee := (.value (.func 60)), args := #[(.tmp 14)], argTypes := #[47] }) none,
            co (some 16) (.binOp .eql 3 (.tmp 15) (.const (.int .i64 1)) 3) none,
            co (some 13) (.assign (.tmp 16)) none] [0, 1, 5, 13])
        (.cond (.tmp 13)
          (.seq (.reg [co (some 17) (.move (.tmp 0)) none,
              co (some 18) (.move (.tmp 1)) none,
              co (some 19) (.load 47 (.tmp 5)) none,
              co (some 20) (.call { callee := (.value (.func 105)), args := #[(.tmp 17), (.tmp 18), (.tmp 19)], argTypes := #[134, 3, 47] }) none,
              co (some 6) (.assign (.tmp 20)) none] [6])
          (.ret))
          (.seq (.reg [co (some 22) (.load 47 (.tmp 5)) none,
              co (some 23) (.call { callee := (.value (.func 60)), args := #[(.tmp 22)], argTypes := #[47] }) none,
              co (some 24) (.binOp .eql 3 (.tmp 23) (.const (.int .i64 9)) 3) none,
              co (some 21) (.assign (.tmp 24)) none] [0, 1, 5, 21])
          (.cond (.tmp 21)
            (.seq (.reg [co (some 25) (.move (.tmp 0)) none,
                co (some 26) (.move (.tmp 1)) none,
                co (some 27) (.load 47 (.tmp 5)) none,
                co (some 28) (.call { callee := (.value (.func 106)), args := #[(.tmp 25), (.tmp 26), (.tmp 27)], argTypes := #[134, 3, 47] }) none,
                co (some 6) (.assign (.tmp 28)) none] [6])
            (.ret))
            (.seq (.reg [co (some 30) (.load 47 (.tmp 5)) none,
                co (some 31) (.call { callee := (.value (.func 60)), args := #[(.tmp 30)], argTypes := #[47] }) none,
                co (some 32) (.binOp .eql 3 (.tmp 31) (.const (.int .i64 8)) 3) none,
                co (some 29) (.assign (.tmp 32)) none] [0, 1, 5, 29])
            (.cond (.tmp 29)
              (.seq (.reg [co (some 34) (.move (.tmp 0)) none,
                  co (some 35) (.load 47 (.tmp 5)) none,
                  co (some 36) (.call { callee := (.value (.func 71)), args := #[(.tmp 35)], argTypes := #[47] }) none,
                  co (some 37) (.call { callee := (.value (.func 74)), args := #[(.tmp 34), (.tmp 36)], argTypes := #[134, 3] }) none,
                  co (some 33) (.move (.tmp 37)) none,
                  co (some 38) (.extract (.tmp 33) 0) none,
                  co (some 39) (.extract (.tmp 33) 1) none,
                  co (some 7) (.assign (.tmp 38)) none,
                  co (some 8) (.assign (.tmp 39)) none] [0, 1, 5, 7, 8])
              (.seq (.seq (.reg [co (some 40) (.move (.tmp 8)) none,
                    co (some 41) (.unOp .not 4 (.tmp 40)) none] [0, 1, 5, 7, 41])
                (.cond (.tmp 41)
                  (.seq (.reg [co (some 6) (.assign (.const (.int .i64 3))) none] [6])
                  (.ret))
                  (.skip)))
              (.keep [0, 1, 5, 7] (.seq (.reg [co (some 42) (.move (.tmp 0)) none,
                  co (some 43) (.move (.tmp 1)) none,
                  co (some 44) (.move (.tmp 7)) none,
                  co (some 45) (.load 47 (.tmp 5)) none,
                  co (some 46) (.call { callee := (.value (.func 71)), args := #[(.tmp 45)], argTypes := #[47] }) none,
                  co (some 47) (.build 163 #[(0, (.const (.int .i64 2))), (4, (.const (.int .i64 6))), (5, (.tmp 46))]) none,
                  co (some 48) (.call { callee := (.value (.func 107)), args := #[(.tmp 42), (.tmp 43), (.tmp 44), (.tmp 47)], argTypes := #[134, 3, 3, 163] }) none] [0, 5, 7])
              (.seq (.reg [co (some 49) (.move (.tmp 0)) none,
                  co (some 50) (.move (.tmp 7)) none,
                  ⟨some 51, (.load 47 (.tmp 5)), none, [], 2, [], true⟩,
                  co (some 52) (.load 47 (.tmp 5)) none,
                  ⟨some 53, (.call { callee := (.value (.func 71)), args := #[(.tmp 52)], argTypes := #[47] }), none, [], 4, [2], false⟩,
                  co (some 54) (.call { callee := (.value (.func 108)), args := #[(.tmp 49), (.tmp 50), (.tmp 51), (.tmp 53)], argTypes := #[134, 3, 47, 3] }) none,
                  co (some 6) (.assign (.tmp 54)) none] [6])
              (.ret))))))
              (.skip))))))))))
  (.keep [0, 1, 5] (.seq (.reg [co (some 55) (.move (.tmp 0)) none,
      co (some 56) (.move (.tmp 1)) none,
      co (some 57) (.load 47 (.tmp 5)) none,
      co (some 58) (.call { callee := (.value (.func 109)), args := #[(.tmp 55), (.tmp 56), (.tmp 57)], argTypes := #[134, 3, 47] }) none,
      co (some 6) (.assign (.tmp 58)) none] [6])
  (.ret))))
theorem t_copy_copier_value : Txt Try.prog 75 59 [(.tmp 6)] c_copy_copier_value := txt_of (code := Try.f75.body.getD .ret) mixed (by kernel_rfl) Try.func75 (by kernel_rfl) Try.ntmps75 (by kernel_rfl) (ls := [([0, 1, 5], [(0, [1])]), ([], []), ([0, 1, 5, 9], []), ([], []), ([6], []), ([], []), ([0, 1, 5, 13], []), ([], []), ([6], []), ([], []), ([0, 1, 5, 21], []), ([], []), ([6], []), ([], []), ([0, 1, 5, 29], []), ([], []), ([0, 1, 5, 7, 8], []), ([], []), ([0, 1, 5, 7, 41], []), ([], []), ([6], []), ([], []), ([999999, 0, 1, 5, 7], []), ([0, 5, 7], []), ([], []), ([6], []), ([], []), ([999999, 0, 1, 5], []), ([6], []), ([], [])]) (by kernel_rfl)

def l1_copy_copier_kids : CC :=
  .seq (.reg [co (some 14) (.binOp .lss 3 (.tmp 13) (.tmp 12) 3) none] [0, 1, 6, 12, 13, 14])
  (.seq (.cond (.tmp 14)
      (.skip)
      (.exit 0))
  (.keep [0, 1, 6, 12, 13] (.seq (.block 1
      (.seq (.reg [co (some 15) (.move (.tmp 13)) none,
          co (some 9) (.assign (.tmp 15)) none] [0, 1, 6, 9, 12, 13])
      (.seq (.reg [co (some 17) (.load 47 (.tmp 6)) none,
          co (some 18) (.move (.tmp 9)) none,
          co (some 19) (.call { callee := (.value (.func 43)), args := #[(.tmp 17), (.tmp 18)], argTypes := #[47, 3] }) none,
          co (some 16) (.move (.tmp 19)) none,
          co (some 20) (.extract (.tmp 16) 0) none,
          co (some 21) (.extract (.tmp 16) 1) none,
          cn (some 10) (.alloc 47) none [2],
          co none (.store 47 (.tmp 10) (.tmp 20)) none,
          co (some 11) (.assign (.tmp 21)) none] [0, 1, 6, 9, 10, 11, 12, 13])
      (.seq (.seq (.reg [co (some 22) (.move (.tmp 11)) none,
            co (some 23) (.binOp .eql 49 (.tmp 22) (.const (.int .i64 0)) 49) none] [0, 1, 6, 9, 10, 11, 12, 13, 23])
        (.cond (.tmp 23)
          (.reg [co (some 24) (.move (.tmp 0)) none,
            co (some 25) (.move (.tmp 1)) none,
            co (some 26) (.move (.tmp 9)) none,
            co (some 27) (.binOp .add 3 (.tmp 25) (.tmp 26) 3) none,
            co (some 28) (.load 47 (.tmp 10)) none,
            co (some 29) (.call { callee := (.value (.func 75)), args := #[(.tmp 24), (.tmp 27), (.tmp 28)], argTypes := #[134, 3, 47] }) none,
            co (some 11) (.assign (.tmp 29)) none] [0, 1, 6, 11, 12, 13])
          (.skip)))
      (.keep [0, 1, 6, 11, 12, 13] (.seq (.reg [co (some 30) (.move (.tmp 11)) none,
          co (some 31) (.binOp .neq 49 (.tmp 30) (.const (.int .i64 0)) 49) none] [0, 1, 6, 11, 12, 13, 31])
      (.cond (.tmp 31)
        (.seq (.reg [co (some 32) (.move (.tmp 11)) none,
            co (some 8) (.assign (.tmp 32)) none] [8])
        (.ret))
        (.skip))))))))
  (.keep [0, 1, 6, 12, 13] (.reg [co (some 33) (.binOp .add 3 (.tmp 13) (.const (.int .i64 1)) 3) none,
    co (some 13) (.move (.tmp 33)) none] [0, 1, 6, 12, 13])))))

/-- (*cento/copy.copier).kids -/
def c_copy_copier_kids : CC :=
  .seq (.reg [cn (some 6) (.box 47 (.tmp 2)) none [1],
      co (some 8) (.assign (.const (.int .i64 0))) none] [0, 1, 3, 6])
  (.seq (.seq (.reg [co (some 12) (.move (.tmp 3)) none,
        co (some 13) (.move (.const (.int .i64 0))) none] [0, 1, 6, 12, 13])
    (.block 0
      (.loop l1_copy_copier_kids)))
  (.keep [] (.seq (.reg [co (some 8) (.assign (.const (.int .i64 0))) none] [8])
  (.ret))))
theorem t_copy_copier_kids : Txt Try.prog 108 34 [(.tmp 8)] c_copy_copier_kids := txt_of (code := Try.f108.body.getD .ret) mixed (by kernel_rfl) Try.func108 (by kernel_rfl) Try.ntmps108 (by kernel_rfl) (ls := [([0, 1, 3, 6], [(0, [1])]), ([], []), ([0, 1, 6, 12, 13], []), ([], []), ([0, 1, 6, 12, 13, 14], []), ([], []), ([999999, 0, 1, 6, 12, 13], []), ([0, 1, 6, 9, 12, 13], []), ([], []), ([0, 1, 6, 9, 10, 11, 12, 13], [(6, [2])]), ([], []), ([0, 1, 6, 9, 10, 11, 12, 13, 23], []), ([], []), ([0, 1, 6, 11, 12, 13], []), ([999999, 0, 1, 6, 11, 12, 13], []), ([0, 1, 6, 11, 12, 13, 31], []), ([], []), ([8], []), ([], []), ([999999, 0, 1, 6, 12, 13], []), ([0, 1, 6, 12, 13], []), ([999999], []), ([8], []), ([], [])]) (by kernel_rfl)

def l1_copy_copier_fill : CC :=
  .seq (.reg [co (some 17) (.binOp .lss 3 (.tmp 16) (.tmp 15) 3) none] [0, 1, 2, 7, 15, 16, 17])
  (.seq (.cond (.tmp 17)
      (.skip)
      (.exit 0))
  (.keep [0, 1, 2, 7, 15, 16] (.seq (.block 1
      (.seq (.reg [co (some 18) (.move (.tmp 16)) none,
          co (some 9) (.assign (.tmp 18)) none] [0, 1, 2, 7, 9, 15, 16])
      (.reg [co (some 19) (.move (.tmp 0)) none,
        co (some 20) (.nilCheck (.tmp 19)) none,
        co (some 21) (.fieldAddr 136 (.tmp 20) 0) none,
        ⟨some 22, (.load 22 (.tmp 21)), none, [], 3, [], true⟩,
        co (some 23) (.move (.tmp 1)) none,
        co (some 24) (.move (.tmp 9)) none,
        co (some 25) (.binOp .add 3 (.tmp 23) (.tmp 24) 3) none,
        co (some 26) (.load 47 (.tmp 7)) none,
        co (some 27) (.move (.tmp 9)) none,
        ⟨some 28, (.call { callee := (.value (.func 63)), args := #[(.tmp 26), (.tmp 27)], argTypes := #[47, 3] }), none, [], 9, [3], false⟩,
        co (some 29) (.indexAddr 22 (.tmp 22) (.tmp 25)) none,
        co none (.store 45 (.tmp 29) (.tmp 28)) none] [0, 1, 2, 7, 15, 16])))
  (.reg [co (some 30) (.binOp .add 3 (.tmp 16) (.const (.int .i64 1)) 3) none,
    co (some 16) (.move (.tmp 30)) none] [0, 1, 2, 7, 15, 16]))))

/-- (*cento/copy.copier).fill -/
def c_copy_copier_fill : CC :=
  .seq (.reg [cn (some 7) (.box 47 (.tmp 3)) none [1],
      co (some 8) (.assign (.const (.int .i64 0))) none] [0, 1, 2, 7])
  (.seq (.seq (.reg [co (some 12) (.move (.tmp 2)) none,
        co (some 13) (.load 47 (.tmp 7)) none,
        co (some 14) (.call { callee := (.value (.func 45)), args := #[(.tmp 13)], argTypes := #[47] }) none,
        co (some 15) (.call { callee := (.builtin .min), args := #[(.tmp 12), (.tmp 14)], argTypes := #[3, 3] }) none,
        co (some 16) (.move (.const (.int .i64 0))) none] [0, 1, 2, 7, 15, 16])
    (.block 0
      (.loop l1_copy_copier_fill)))
  (.keep [0, 1, 2, 7] (.seq (.reg [co (some 32) (.load 47 (.tmp 7)) none,
      co (some 33) (.call { callee := (.value (.func 44)), args := #[(.tmp 32)], argTypes := #[47] }) none,
      co (some 31) (.move (.tmp 33)) none,
      co (some 34) (.extract (.tmp 31) 0) none,
      co (some 35) (.extract (.tmp 31) 1) none,
      co (some 10) (.assign (.tmp 34)) none,
      co (some 11) (.assign (.tmp 35)) none] [0, 1, 2, 7, 10, 11])
  (.seq (.seq (.reg [co (some 36) (.move (.tmp 11)) none,
        co (some 37) (.binOp .neq 49 (.tmp 36) (.const (.int .i64 0)) 49) none] [0, 1, 2, 7, 10, 11, 37])
    (.cond (.tmp 37)
      (.seq (.reg [co (some 38) (.move (.tmp 11)) none,
          co (some 8) (.assign (.tmp 38)) none] [8])
      (.ret))
      (.skip)))
  (.keep [0, 1, 2, 7, 10] (.seq (.reg [co (some 39) (.move (.tmp 0)) none,
      co (some 40) (.move (.tmp 1)) none,
      co (some 41) (.move (.tmp 2)) none,
      co (some 42) (.binOp .add 3 (.tmp 40) (.tmp 41) 3) none,
      co (some 43) (.load 47 (.tmp 7)) none,
      co (some 44) (.move (.tmp 10)) none,
      co (some 45) (.call { callee := (.value (.func 108)), args := #[(.tmp 39), (.tmp 42), (.tmp 43), (.tmp 44)], argTypes := #[134, 3, 47, 3] }) none,
      co (some 8) (.assign (.tmp 45)) none] [8])
  (.ret)))))))
theorem t_copy_copier_fill : Txt Try.prog 132 46 [(.tmp 8)] c_copy_copier_fill := txt_of (code := Try.f132.body.getD .ret) mixed (by kernel_rfl) Try.func132 (by kernel_rfl) Try.ntmps132 (by kernel_rfl) (ls := [([0, 1, 2, 7], [(0, [1])]), ([], []), ([0, 1, 2, 7, 15, 16], []), ([], []), ([0, 1, 2, 7, 15, 16, 17], []), ([], []), ([999999, 0, 1, 2, 7, 15, 16], []), ([0, 1, 2, 7, 9, 15, 16], []), ([], []), ([0, 1, 2, 7, 15, 16], []), ([], []), ([0, 1, 2, 7, 15, 16], []), ([999999, 0, 1, 2, 7], []), ([0, 1, 2, 7, 10, 11], []), ([], []), ([0, 1, 2, 7, 10, 11, 37], []), ([], []), ([8], []), ([], []), ([999999, 0, 1, 2, 7, 10], []), ([8], []), ([], [])]) (by kernel_rfl)


/-- (*cento/copy.copier).structure -/
def c_copy_copier_structure : CC :=
  .seq (.reg [cn (some 5) (.box 47 (.tmp 2)) none [1],
      co (some 6) (.assign (.const (.int .i64 0))) none] [0, 1, 5])
  (.seq (.reg [co (some 12) (.load 47 (.tmp 5)) none,
      co (some 13) (.call { callee := (.value (.func 45)), args := #[(.tmp 12)], argTypes := #[47] }) none,
      co (some 7) (.assign (.tmp 13)) none] [0, 1, 5, 7])
  (.seq (.reg [co (some 15) (.load 47 (.tmp 5)) none,
      co (some 16) (.call { callee := (.value (.func 44)), args := #[(.tmp 15)], argTypes := #[47] }) none,
      co (some 14) (.move (.tmp 16)) none,
      co (some 17) (.extract (.tmp 14) 0) none,
      co (some 18) (.extract (.tmp 14) 1) none,
      co (some 8) (.assign (.tmp 17)) none,
      co (some 9) (.assign (.tmp 18)) none] [0, 1, 5, 7, 8, 9])
  (.seq (.seq (.reg [co (some 19) (.move (.tmp 9)) none,
        co (some 20) (.binOp .neq 49 (.tmp 19) (.const (.int .i64 0)) 49) none] [0, 1, 5, 7, 8, 9, 20])
    (.cond (.tmp 20)
      (.seq (.reg [co (some 21) (.move (.tmp 9)) none,
          co (some 6) (.assign (.tmp 21)) none] [6])
      (.ret))
      (.skip)))
  (.keep [0, 1, 5, 7, 8] (.seq (.reg [co (some 23) (.move (.tmp 0)) none,
      co (some 24) (.move (.tmp 7)) none,
      co (some 25) (.move (.tmp 8)) none,
      co (some 26) (.binOp .add 3 (.tmp 24) (.tmp 25) 3) none,
      co (some 27) (.call { callee := (.value (.func 74)), args := #[(.tmp 23), (.tmp 26)], argTypes := #[134, 3] }) none,
      co (some 22) (.move (.tmp 27)) none,
      co (some 28) (.extract (.tmp 22) 0) none,
      co (some 29) (.extract (.tmp 22) 1) none,
      co (some 10) (.assign (.tmp 28)) none,
      co (some 11) (.assign (.tmp 29)) none] [0, 1, 5, 7, 8, 10, 11])
  (.seq (.seq (.reg [co (some 30) (.move (.tmp 11)) none,
        co (some 31) (.unOp .not 4 (.tmp 30)) none] [0, 1, 5, 7, 8, 10, 31])
    (.cond (.tmp 31)
      (.seq (.reg [co (some 6) (.assign (.const (.int .i64 3))) none] [6])
      (.ret))
      (.skip)))
  (.keep [0, 1, 5, 7, 8, 10] (.seq (.reg [co (some 32) (.move (.tmp 0)) none,
      co (some 33) (.move (.tmp 1)) none,
      co (some 34) (.move (.tmp 10)) none,
      co (some 35) (.move (.tmp 7)) none,
      co (some 36) (.move (.tmp 8)) none,
      co (some 37) (.build 163 #[(0, (.const (.int .i64 1))), (2, (.tmp 35)), (3, (.tmp 36))]) none,
      co (some 38) (.call { callee := (.value (.func 107)), args := #[(.tmp 32), (.tmp 33), (.tmp 34), (.tmp 37)], argTypes := #[134, 3, 3, 163] }) none] [0, 5, 7, 10])
  (.seq (.reg [co (some 39) (.move (.tmp 0)) none,
      co (some 40) (.move (.tmp 10)) none,
      co (some 41) (.move (.tmp 7)) none,
      co (some 42) (.load 47 (.tmp 5)) none,
      co (some 43) (.call { callee := (.value (.func 132)), args := #[(.tmp 39), (.tmp 40), (.tmp 41), (.tmp 42)], argTypes := #[134, 3, 3, 47] }) none,
      co (some 6) (.assign (.tmp 43)) none] [6])
  (.ret))))))))))
theorem t_copy_copier_structure : Txt Try.prog 105 44 [(.tmp 6)] c_copy_copier_structure := txt_of (code := Try.f105.body.getD .ret) mixed (by kernel_rfl) Try.func105 (by kernel_rfl) Try.ntmps105 (by kernel_rfl) (ls := [([0, 1, 5], [(0, [1])]), ([], []), ([0, 1, 5, 7], []), ([], []), ([0, 1, 5, 7, 8, 9], []), ([], []), ([0, 1, 5, 7, 8, 9, 20], []), ([], []), ([6], []), ([], []), ([999999, 0, 1, 5, 7, 8], []), ([0, 1, 5, 7, 8, 10, 11], []), ([], []), ([0, 1, 5, 7, 8, 10, 31], []), ([], []), ([6], []), ([], []), ([999999, 0, 1, 5, 7, 8, 10], []), ([0, 5, 7, 10], []), ([], []), ([6], []), ([], [])]) (by kernel_rfl)

def l1_copy_copier_data : CC :=
  .seq (.reg [co (some 45) (.binOp .lss 3 (.tmp 44) (.tmp 43) 3) none] [0, 5, 8, 10, 43, 44, 45])
  (.seq (.cond (.tmp 45)
      (.skip)
      (.exit 0))
  (.keep [0, 5, 8, 10, 43, 44] (.seq (.block 1
      (.seq (.reg [co (some 46) (.move (.tmp 44)) none,
          co (some 12) (.assign (.tmp 46)) none] [0, 5, 8, 10, 12, 43, 44])
      (.seq (.seq (.reg [co (some 47) (.move (.tmp 10)) none,
            co (some 48) (.binOp .eql 3 (.tmp 47) (.const (.int .i64 0)) 3) none] [0, 5, 8, 10, 12, 43, 44, 48])
        (.cond (.tmp 48)
          (.exit 0)
          (.skip)))
      (.keep [0, 5, 8, 10, 12, 43, 44] (.seq (.reg [co (some 50) (.load 47 (.tmp 5)) none,
          co (some 51) (.move (.tmp 12)) none,
          co (some 52) (.call { callee := (.value (.func 43)), args := #[(.tmp 50), (.tmp 51)], argTypes := #[47, 3] }) none,
          co (some 49) (.move (.tmp 52)) none,
          co (some 53) (.extract (.tmp 49) 0) none,
          co (some 54) (.extract (.tmp 49) 1) none,
          cn (some 13) (.alloc 47) none [2],
          co none (.store 47 (.tmp 13) (.tmp 53)) none,
          co (some 14) (.assign (.tmp 54)) none] [0, 5, 8, 10, 12, 13, 14, 43, 44])
      (.seq (.seq (.reg [co (some 55) (.move (.tmp 14)) none,
            co (some 56) (.binOp .neq 49 (.tmp 55) (.const (.int .i64 0)) 49) none] [0, 5, 8, 10, 12, 13, 14, 43, 44, 56])
        (.cond (.tmp 56)
          (.seq (.reg [co (some 57) (.move (.tmp 14)) none,
              co (some 6) (.assign (.tmp 57)) none] [6])
          (.ret))
          (.skip)))
      (.keep [0, 5, 8, 10, 12, 13, 43, 44] (.reg [co (some 58) (.move (.tmp 0)) none,
        co (some 59) (.nilCheck (.tmp 58)) none,
        co (some 60) (.fieldAddr 136 (.tmp 59) 0) none,
        ⟨some 61, (.load 22 (.tmp 60)), none, [], 3, [], true⟩,
        co (some 62) (.move (.tmp 8)) none,
        co (some 63) (.move (.tmp 12)) none,
        co (some 64) (.move (.tmp 10)) none,
        co (some 65) (.binOp .mul 3 (.tmp 63) (.tmp 64) 3) none,
        co (some 66) (.binOp .quo 3 (.tmp 65) (.const (.int .i64 64)) 3) none,
        co (some 67) (.binOp .add 3 (.tmp 62) (.tmp 66) 3) none,
        co (some 68) (.indexAddr 22 (.tmp 61) (.tmp 67)) none,
        ⟨some 69, (.load 45 (.tmp 68)), none, [], 11, [], true⟩,
        co (some 70) (.load 47 (.tmp 13)) none,
        ⟨some 71, (.call { callee := (.value (.func 63)), args := #[(.tmp 70), (.const (.int .i64 0))], argTypes := #[47, 3] }), none, [], 13, [3, 11], false⟩,
        co (some 72) (.move (.tmp 12)) none,
        co (some 73) (.move (.tmp 10)) none,
        co (some 74) (.binOp .mul 3 (.tmp 72) (.tmp 73) 3) none,
        co (some 75) (.binOp .rem 3 (.tmp 74) (.const (.int .i64 64)) 3) none,
        co (some 76) (.binOp .shl 45 (.tmp 71) (.tmp 75) 3) none,
        co (some 77) (.binOp .or 45 (.tmp 69) (.tmp 76) 45) none,
        co (some 78) (.indexAddr 22 (.tmp 61) (.tmp 67)) none,
        co none (.store 45 (.tmp 78) (.tmp 77)) none] [0, 5, 8, 10, 43, 44]))))))))
  (.keep [0, 5, 8, 10, 43, 44] (.reg [co (some 79) (.binOp .add 3 (.tmp 44) (.const (.int .i64 1)) 3) none,
    co (some 44) (.move (.tmp 79)) none] [0, 5, 8, 10, 43, 44])))))

/-- (*cento/copy.copier).data -/
def c_copy_copier_data : CC :=
  .seq (.reg [cn (some 5) (.box 47 (.tmp 2)) none [1],
      co (some 6) (.assign (.const (.int .i64 0))) none] [0, 1, 5])
  (.seq (.reg [co (some 15) (.load 47 (.tmp 5)) none,
      co (some 16) (.call { callee := (.value (.func 60)), args := #[(.tmp 15)], argTypes := #[47] }) none,
      co (some 17) (.binOp .sub 3 (.tmp 16) (.const (.int .i64 2)) 3) none,
      co (some 7) (.assign (.tmp 17)) none] [0, 1, 5, 7])
  (.seq (.reg [co (some 19) (.move (.tmp 0)) none,
      co (some 20) (.move (.tmp 7)) none,
      co (some 21) (.load 47 (.tmp 5)) none,
      co (some 22) (.call { callee := (.value (.func 71)), args := #[(.tmp 21)], argTypes := #[47] }) none,
      co (some 23) (.call { callee := (.value (.func 135)), args := #[(.tmp 20), (.tmp 22)], argTypes := #[3, 3] }) none,
      co (some 24) (.call { callee := (.value (.func 74)), args := #[(.tmp 19), (.tmp 23)], argTypes := #[134, 3] }) none,
      co (some 18) (.move (.tmp 24)) none,
      co (some 25) (.extract (.tmp 18) 0) none,
      co (some 26) (.extract (.tmp 18) 1) none,
      co (some 8) (.assign (.tmp 25)) none,
      co (some 9) (.assign (.tmp 26)) none] [0, 1, 5, 7, 8, 9])
  (.seq (.seq (.reg [co (some 27) (.move (.tmp 9)) none,
        co (some 28) (.unOp .not 4 (.tmp 27)) none] [0, 1, 5, 7, 8, 28])
    (.cond (.tmp 28)
      (.seq (.reg [co (some 6) (.assign (.const (.int .i64 3))) none] [6])
      (.ret))
      (.skip)))
  (.keep [0, 1, 5, 7, 8] (.seq (.reg [co (some 30) (.move (.tmp 7)) none,
      co (some 31) (.call { callee := (.value (.func 113)), args := #[(.tmp 30)], argTypes := #[3] }) none,
      co (some 29) (.move (.tmp 31)) none,
      co (some 32) (.extract (.tmp 29) 0) none,
      co (some 33) (.extract (.tmp 29) 1) none,
      co (some 10) (.assign (.tmp 32)) none,
      co (some 11) (.assign (.tmp 33)) none] [0, 1, 5, 7, 8, 10])
  (.seq (.reg [co (some 34) (.move (.tmp 0)) none,
      co (some 35) (.move (.tmp 1)) none,
      co (some 36) (.move (.tmp 8)) none,
      co (some 37) (.move (.tmp 7)) none,
      co (some 38) (.load 47 (.tmp 5)) none,
      co (some 39) (.call { callee := (.value (.func 71)), args := #[(.tmp 38)], argTypes := #[47] }) none,
      co (some 40) (.build 163 #[(0, (.const (.int .i64 2))), (4, (.tmp 37)), (5, (.tmp 39))]) none,
      co (some 41) (.call { callee := (.value (.func 107)), args := #[(.tmp 34), (.tmp 35), (.tmp 36), (.tmp 40)], argTypes := #[134, 3, 3, 163] }) none] [0, 5, 8, 10])
  (.seq (.seq (.reg [co (some 42) (.load 47 (.tmp 5)) none,
        co (some 43) (.call { callee := (.value (.func 71)), args := #[(.tmp 42)], argTypes := #[47] }) none,
        co (some 44) (.move (.const (.int .i64 0))) none] [0, 5, 8, 10, 43, 44])
    (.block 0
      (.loop l1_copy_copier_data)))
  (.keep [] (.seq (.reg [co (some 6) (.assign (.const (.int .i64 0))) none] [6])
  (.ret))))))))))
theorem t_copy_copier_data : Txt Try.prog 109 80 [(.tmp 6)] c_copy_copier_data := txt_of (code := Try.f109.body.getD .ret) mixed (by kernel_rfl) Try.func109 (by kernel_rfl) Try.ntmps109 (by kernel_rfl) (ls := [([0, 1, 5], [(0, [1])]), ([], []), ([0, 1, 5, 7], []), ([], []), ([0, 1, 5, 7, 8, 9], []), ([], []), ([0, 1, 5, 7, 8, 28], []), ([], []), ([6], []), ([], []), ([999999, 0, 1, 5, 7, 8], []), ([0, 1, 5, 7, 8, 10], []), ([], []), ([0, 5, 8, 10], []), ([], []), ([0, 5, 8, 10, 43, 44], []), ([], []), ([0, 5, 8, 10, 43, 44, 45], []), ([], []), ([999999, 0, 5, 8, 10, 43, 44], []), ([0, 5, 8, 10, 12, 43, 44], []), ([], []), ([0, 5, 8, 10, 12, 43, 44, 48], []), ([], []), ([999999, 0, 5, 8, 10, 12, 43, 44], []), ([0, 5, 8, 10, 12, 13, 14, 43, 44], [(6, [2])]), ([], []), ([0, 5, 8, 10, 12, 13, 14, 43, 44, 56], []), ([], []), ([6], []), ([], []), ([999999, 0, 5, 8, 10, 12, 13, 43, 44], []), ([0, 5, 8, 10, 43, 44], []), ([999999, 0, 5, 8, 10, 43, 44], []), ([0, 5, 8, 10, 43, 44], []), ([999999], []), ([6], []), ([], [])]) (by kernel_rfl)

def l1_copy_frame : CC :=
  .seq (.reg [co (some 14) (.binOp .lss 3 (.tmp 13) (.tmp 12) 3) none] [1, 5, 6, 12, 13, 14])
  (.seq (.cond (.tmp 14)
      (.skip)
      (.exit 0))
  (.keep [1, 5, 6, 12, 13] (.seq (.block 1
      (.seq (.reg [co (some 15) (.move (.tmp 13)) none,
          co (some 7) (.assign (.tmp 15)) none] [1, 5, 6, 7, 12, 13])
      (.seq (.reg [co (some 17) (.load 47 (.tmp 1)) none,
          co (some 18) (.move (.tmp 7)) none,
          co (some 19) (.call { callee := (.value (.func 43)), args := #[(.tmp 17), (.tmp 18)], argTypes := #[47, 3] }) none,
          co (some 16) (.move (.tmp 19)) none,
          co (some 20) (.extract (.tmp 16) 0) none,
          co (some 21) (.extract (.tmp 16) 1) none,
          cn (some 8) (.alloc 47) none [1],
          co none (.store 47 (.tmp 8) (.tmp 20)) none,
          co (some 9) (.assign (.tmp 21)) none] [1, 5, 6, 8, 9, 12, 13])
      (.seq (.seq (.reg [co (some 22) (.move (.tmp 9)) none,
            co (some 23) (.binOp .neq 49 (.tmp 22) (.const (.int .i64 0)) 49) none] [1, 5, 6, 8, 9, 12, 13, 23])
        (.cond (.tmp 23)
          (.seq (.reg [co (some 24) (.move (.tmp 9)) none,
              co (some 2) (.assign (.const (.int .i64 0))) none,
              co (some 3) (.assign (.const (.int .i64 0))) none,
              co (some 4) (.assign (.tmp 24)) none] [2, 3, 4])
          (.ret))
          (.skip)))
      (.keep [1, 5, 6, 8, 12, 13] (.seq (.reg [co (some 26) (.load 47 (.tmp 8)) none,
          co (some 27) (.call { callee := (.value (.func 44)), args := #[(.tmp 26)], argTypes := #[47] }) none,
          co (some 25) (.move (.tmp 27)) none,
          co (some 28) (.extract (.tmp 25) 0) none,
          co (some 29) (.extract (.tmp 25) 1) none,
          co (some 10) (.assign (.tmp 28)) none,
          co (some 9) (.assign (.tmp 29)) none] [1, 5, 6, 8, 9, 10, 12, 13])
      (.seq (.seq (.reg [co (some 30) (.move (.tmp 9)) none,
            co (some 31) (.binOp .neq 49 (.tmp 30) (.const (.int .i64 0)) 49) none] [1, 5, 6, 8, 9, 10, 12, 13, 31])
        (.cond (.tmp 31)
          (.seq (.reg [co (some 32) (.move (.tmp 9)) none,
              co (some 2) (.assign (.const (.int .i64 0))) none,
              co (some 3) (.assign (.const (.int .i64 0))) none,
              co (some 4) (.assign (.tmp 32)) none] [2, 3, 4])
          (.ret))
          (.skip)))
      (.keep [1, 5, 6, 8, 10, 12, 13] (.reg [co (some 33) (.move (.tmp 5)) none,
        co (some 34) (.load 47 (.tmp 8)) none,
        co (some 35) (.call { callee := (.value (.func 45)), args := #[(.tmp 34)], argTypes := #[47] }) none,
        co (some 36) (.call { callee := (.builtin .max), args := #[(.tmp 33), (.tmp 35)], argTypes := #[3, 3] }) none,
        co (some 37) (.move (.tmp 6)) none,
        co (some 38) (.move (.tmp 10)) none,
        co (some 39) (.call { callee := (.builtin .max), args := #[(.tmp 37), (.tmp 38)], argTypes := #[3, 3] }) none,
        co (some 5) (.assign (.tmp 36)) none,
        co (some 6) (.assign (.tmp 39)) none] [1, 5, 6, 12, 13])))))))))
  (.keep [1, 5, 6, 12, 13] (.reg [co (some 40) (.binOp .add 3 (.tmp 13) (.const (.int .i64 1)) 3) none,
    co (some 13) (.move (.tmp 40)) none] [1, 5, 6, 12, 13])))))

/-- cento/copy.frame -/
def c_copy_frame : CC :=
  .seq (.reg [cn (some 1) (.box 47 (.tmp 0)) none [0],
      co (some 2) (.assign (.const (.int .i64 0))) none,
      co (some 3) (.assign (.const (.int .i64 0))) none,
      co (some 4) (.assign (.const (.int .i64 0))) none] [1])
  (.seq (.reg [co (some 5) (.assign (.const (.int .i64 0))) none,
      co (some 6) (.assign (.const (.int .i64 0))) none] [1, 5, 6])
  (.seq (.seq (.reg [co (some 11) (.load 47 (.tmp 1)) none,
        co (some 12) (.call { callee := (.value (.func 71)), args := #[(.tmp 11)], argTypes := #[47] }) none,
        co (some 13) (.move (.const (.int .i64 0))) none] [1, 5, 6, 12, 13])
    (.block 0
      (.loop l1_copy_frame)))
  (.keep [5, 6] (.seq (.reg [co (some 41) (.move (.tmp 5)) none,
      co (some 42) (.move (.tmp 6)) none,
      co (some 2) (.assign (.tmp 41)) none,
      co (some 3) (.assign (.tmp 42)) none,
      co (some 4) (.assign (.const (.int .i64 0))) none] [2, 3, 4])
  (.ret)))))
theorem t_copy_frame : Txt Try.prog 133 43 [(.tmp 2), (.tmp 3), (.tmp 4)] c_copy_frame := txt_of (code := Try.f133.body.getD .ret) mixed (by kernel_rfl) Try.func133 (by kernel_rfl) Try.ntmps133 (by kernel_rfl) (ls := [([1], [(0, [0])]), ([], []), ([1, 5, 6], []), ([], []), ([1, 5, 6, 12, 13], []), ([], []), ([1, 5, 6, 12, 13, 14], []), ([], []), ([999999, 1, 5, 6, 12, 13], []), ([1, 5, 6, 7, 12, 13], []), ([], []), ([1, 5, 6, 8, 9, 12, 13], [(6, [1])]), ([], []), ([1, 5, 6, 8, 9, 12, 13, 23], []), ([], []), ([2, 3, 4], []), ([], []), ([999999, 1, 5, 6, 8, 12, 13], []), ([1, 5, 6, 8, 9, 10, 12, 13], []), ([], []), ([1, 5, 6, 8, 9, 10, 12, 13, 31], []), ([], []), ([2, 3, 4], []), ([], []), ([999999, 1, 5, 6, 8, 10, 12, 13], []), ([1, 5, 6, 12, 13], []), ([999999, 1, 5, 6, 12, 13], []), ([1, 5, 6, 12, 13], []), ([999999, 5, 6], []), ([2, 3, 4], []), ([], [])]) (by kernel_rfl)

def l1_copy_copier_composite : CC :=
  .seq (.reg [co (some 67) (.binOp .lss 3 (.tmp 66) (.tmp 65) 3) none] [0, 5, 7, 10, 11, 65, 66, 67])
  (.seq (.cond (.tmp 67)
      (.skip)
      (.exit 0))
  (.keep [0, 5, 7, 10, 11, 65, 66] (.seq (.block 1
      (.seq (.reg [co (some 68) (.move (.tmp 66)) none,
          co (some 13) (.assign (.tmp 68)) none] [0, 5, 7, 10, 11, 13, 65, 66])
      (.seq (.reg [co (some 70) (.load 47 (.tmp 5)) none,
          co (some 71) (.move (.tmp 13)) none,
          co (some 72) (.call { callee := (.value (.func 43)), args := #[(.tmp 70), (.tmp 71)], argTypes := #[47, 3] }) none,
          co (some 69) (.move (.tmp 72)) none,
          co (some 73) (.extract (.tmp 69) 0) none,
          co (some 74) (.extract (.tmp 69) 1) none,
          cn (some 14) (.alloc 47) none [2],
          co none (.store 47 (.tmp 14) (.tmp 73)) none,
          co (some 15) (.assign (.tmp 74)) none] [0, 5, 7, 10, 11, 13, 14, 15, 65, 66])
      (.seq (.seq (.reg [co (some 75) (.move (.tmp 15)) none,
            co (some 76) (.binOp .eql 49 (.tmp 75) (.const (.int .i64 0)) 49) none] [0, 5, 7, 10, 11, 13, 14, 15, 65, 66, 76])
        (.cond (.tmp 76)
          (.reg [co (some 77) (.move (.tmp 0)) none,
            co (some 78) (.move (.tmp 11)) none,
            co (some 79) (.binOp .add 3 (.tmp 78) (.const (.int .i64 1)) 3) none,
            co (some 80) (.move (.tmp 13)) none,
            co (some 81) (.move (.tmp 10)) none,
            co (some 82) (.binOp .mul 3 (.tmp 80) (.tmp 81) 3) none,
            co (some 83) (.binOp .add 3 (.tmp 79) (.tmp 82) 3) none,
            co (some 84) (.move (.tmp 7)) none,
            co (some 85) (.load 47 (.tmp 14)) none,
            co (some 86) (.call { callee := (.value (.func 132)), args := #[(.tmp 77), (.tmp 83), (.tmp 84), (.tmp 85)], argTypes := #[134, 3, 3, 47] }) none,
            co (some 15) (.assign (.tmp 86)) none] [0, 5, 7, 10, 11, 15, 65, 66])
          (.skip)))
      (.keep [0, 5, 7, 10, 11, 15, 65, 66] (.seq (.reg [co (some 87) (.move (.tmp 15)) none,
          co (some 88) (.binOp .neq 49 (.tmp 87) (.const (.int .i64 0)) 49) none] [0, 5, 7, 10, 11, 15, 65, 66, 88])
      (.cond (.tmp 88)
        (.seq (.reg [co (some 89) (.move (.tmp 15)) none,
            co (some 6) (.assign (.tmp 89)) none] [6])
        (.ret))
        (.skip))))))))
  (.keep [0, 5, 7, 10, 11, 65, 66] (.reg [co (some 90) (.binOp .add 3 (.tmp 66) (.const (.int .i64 1)) 3) none,
    co (some 66) (.move (.tmp 90)) none] [0, 5, 7, 10, 11, 65, 66])))))

/-- (*cento/copy.copier).composite -/
def c_copy_copier_composite : CC :=
  .seq (.reg [cn (some 5) (.box 47 (.tmp 2)) none [1],
      co (some 6) (.assign (.const (.int .i64 0))) none] [0, 1, 5])
  (.seq (.reg [co (some 17) (.load 47 (.tmp 5)) none,
      co (some 18) (.call { callee := (.value (.func 133)), args := #[(.tmp 17)], argTypes := #[47] }) none,
      co (some 16) (.move (.tmp 18)) none,
      co (some 19) (.extract (.tmp 16) 0) none,
      co (some 20) (.extract (.tmp 16) 1) none,
      co (some 21) (.extract (.tmp 16) 2) none,
      co (some 7) (.assign (.tmp 19)) none,
      co (some 8) (.assign (.tmp 20)) none,
      co (some 9) (.assign (.tmp 21)) none] [0, 1, 5, 7, 8, 9])
  (.seq (.seq (.reg [co (some 22) (.move (.tmp 9)) none,
        co (some 23) (.binOp .neq 49 (.tmp 22) (.const (.int .i64 0)) 49) none] [0, 1, 5, 7, 8, 9, 23])
    (.cond (.tmp 23)
      (.seq (.reg [co (some 24) (.move (.tmp 9)) none,
          co (some 6) (.assign (.tmp 24)) none] [6])
      (.ret))
      (.skip)))
  (.keep [0, 1, 5, 7, 8] (.seq (.reg [co (some 25) (.move (.tmp 7)) none,
      co (some 26) (.move (.tmp 8)) none,
      co (some 27) (.binOp .add 3 (.tmp 25) (.tmp 26) 3) none,
      co (some 10) (.assign (.tmp 27)) none] [0, 1, 5, 7, 8, 10])
  (.seq (.reg [co (some 29) (.move (.tmp 0)) none,
      co (some 30) (.load 47 (.tmp 5)) none,
      co (some 31) (.call { callee := (.value (.func 71)), args := #[(.tmp 30)], argTypes := #[47] }) none,
      co (some 32) (.move (.tmp 10)) none,
      co (some 33) (.binOp .mul 3 (.tmp 31) (.tmp 32) 3) none,
      co (some 34) (.binOp .add 3 (.const (.int .i64 1)) (.tmp 33) 3) none,
      co (some 35) (.call { callee := (.value (.func 74)), args := #[(.tmp 29), (.tmp 34)], argTypes := #[134, 3] }) none,
      co (some 28) (.move (.tmp 35)) none,
      co (some 36) (.extract (.tmp 28) 0) none,
      co (some 37) (.extract (.tmp 28) 1) none,
      co (some 11) (.assign (.tmp 36)) none,
      co (some 12) (.assign (.tmp 37)) none] [0, 1, 5, 7, 8, 10, 11, 12])
  (.seq (.seq (.reg [co (some 38) (.move (.tmp 12)) none,
        co (some 39) (.unOp .not 4 (.tmp 38)) none] [0, 1, 5, 7, 8, 10, 11, 39])
    (.cond (.tmp 39)
      (.seq (.reg [co (some 6) (.assign (.const (.int .i64 3))) none] [6])
      (.ret))
      (.skip)))
  (.keep [0, 1, 5, 7, 8, 10, 11] (.seq (.reg [co (some 41) (.move (.tmp 0)) none,
      co (some 42) (.nilCheck (.tmp 41)) none,
      co (some 43) (.fieldAddr 136 (.tmp 42) 0) none,
      ⟨some 44, (.load 22 (.tmp 43)), none, [], 3, [], true⟩,
      co (some 45) (.move (.tmp 11)) none,
      co (some 46) (.load 47 (.tmp 5)) none,
      ⟨some 47, (.call { callee := (.value (.func 71)), args := #[(.tmp 46)], argTypes := #[47] }), none, [], 6, [3], false⟩,
      co (some 48) (.move (.tmp 7)) none,
      co (some 49) (.move (.tmp 8)) none,
      co (some 50) (.build 163 #[(0, (.const (.int .i64 1))), (1, (.tmp 47)), (2, (.tmp 48)), (3, (.tmp 49))]) none,
      ⟨some 51, (.call { callee := (.value (.func 134)), args := #[(.tmp 50)], argTypes := #[163] }), none, [], 10, [3], false⟩,
      co (some 40) (.move (.tmp 51)) none,
      co (some 52) (.extract (.tmp 40) 0) none,
      co (some 53) (.extract (.tmp 40) 1) none,
      co (some 54) (.indexAddr 22 (.tmp 44) (.tmp 45)) none,
      co none (.store 45 (.tmp 54) (.tmp 52)) none] [0, 1, 5, 7, 10, 11])
  (.seq (.reg [co (some 55) (.move (.tmp 0)) none,
      co (some 56) (.move (.tmp 1)) none,
      co (some 57) (.move (.tmp 11)) none,
      co (some 58) (.load 47 (.tmp 5)) none,
      co (some 59) (.call { callee := (.value (.func 71)), args := #[(.tmp 58)], argTypes := #[47] }) none,
      co (some 60) (.move (.tmp 10)) none,
      co (some 61) (.binOp .mul 3 (.tmp 59) (.tmp 60) 3) none,
      co (some 62) (.build 163 #[(0, (.const (.int .i64 2))), (4, (.const (.int .i64 7))), (5, (.tmp 61))]) none,
      co (some 63) (.call { callee := (.value (.func 107)), args := #[(.tmp 55), (.tmp 56), (.tmp 57), (.tmp 62)], argTypes := #[134, 3, 3, 163] }) none] [0, 5, 7, 10, 11])
  (.seq (.seq (.reg [co (some 64) (.load 47 (.tmp 5)) none,
        co (some 65) (.call { callee := (.value (.func 71)), args := #[(.tmp 64)], argTypes := #[47] }) none,
        co (some 66) (.move (.const (.int .i64 0))) none] [0, 5, 7, 10, 11, 65, 66])
    (.block 0
      (.loop l1_copy_copier_composite)))
  (.keep [] (.seq (.reg [co (some 6) (.assign (.const (.int .i64 0))) none] [6])
  (.ret)))))))))))))
theorem t_copy_copier_composite : Txt Try.prog 106 91 [(.tmp 6)] c_copy_copier_composite := txt_of (code := Try.f106.body.getD .ret) mixed (by kernel_rfl) Try.func106 (by kernel_rfl) Try.ntmps106 (by kernel_rfl) (ls := [([0, 1, 5], [(0, [1])]), ([], []), ([0, 1, 5, 7, 8, 9], []), ([], []), ([0, 1, 5, 7, 8, 9, 23], []), ([], []), ([6], []), ([], []), ([999999, 0, 1, 5, 7, 8], []), ([0, 1, 5, 7, 8, 10], []), ([], []), ([0, 1, 5, 7, 8, 10, 11, 12], []), ([], []), ([0, 1, 5, 7, 8, 10, 11, 39], []), ([], []), ([6], []), ([], []), ([999999, 0, 1, 5, 7, 8, 10, 11], []), ([0, 1, 5, 7, 10, 11], []), ([], []), ([0, 5, 7, 10, 11], []), ([], []), ([0, 5, 7, 10, 11, 65, 66], []), ([], []), ([0, 5, 7, 10, 11, 65, 66, 67], []), ([], []), ([999999, 0, 5, 7, 10, 11, 65, 66], []), ([0, 5, 7, 10, 11, 13, 65, 66], []), ([], []), ([0, 5, 7, 10, 11, 13, 14, 15, 65, 66], [(6, [2])]), ([], []), ([0, 5, 7, 10, 11, 13, 14, 15, 65, 66, 76], []), ([], []), ([0, 5, 7, 10, 11, 15, 65, 66], []), ([999999, 0, 5, 7, 10, 11, 15, 65, 66], []), ([0, 5, 7, 10, 11, 15, 65, 66, 88], []), ([], []), ([6], []), ([], []), ([999999, 0, 5, 7, 10, 11, 65, 66], []), ([0, 5, 7, 10, 11, 65, 66], []), ([999999], []), ([6], []), ([], [])]) (by kernel_rfl)


/-- cento/copy.Words -/
def c_copy_Words : CC :=
  .seq (.reg [cn (some 2) (.box 47 (.tmp 0)) none [0],
      co (some 4) (.assign (.const (.slice none 0 0))) none,
      co (some 5) (.assign (.const (.int .i64 0))) none] [1, 2])
  (.seq (.reg [co (some 10) (.move (.tmp 1)) none,
      co (some 11) (.call { callee := (.builtin .max), args := #[(.tmp 10), (.const (.int .i64 0))], argTypes := #[3, 3] }) none,
      co (some 12) (.call { callee := (.builtin .min), args := #[(.tmp 11), (.const (.int .i64 131072))], argTypes := #[3, 3] }) none,
      co (some 13) (.build 136 #[(1, (.tmp 12))]) none,
      cn (some 14) (.box 136 (.tmp 13)) none [1],
      co (some 6) (.assign (.tmp 14)) none] [2, 6])
  (.stop (.seq (.reg [co (some 16) (.move (.tmp 6)) none,
      co (some 17) (.call { callee := (.value (.func 74)), args := #[(.tmp 16), (.const (.int .i64 1))], argTypes := #[134, 3] }) none,
      co (some 15) (.move (.tmp 17)) none,
      co (some 18) (.extract (.tmp 15) 0) none,
      co (some 19) (.extract (.tmp 15) 1) none,
      co (some 7) (.assign (.tmp 18)) none,
      co (some 8) (.assign (.tmp 19)) none] [2, 6, 7, 8])
  (.seq (.block 0
      (.seq (.reg [co (some 21) (.load 47 (.tmp 2)) none,
          co (some 22) (.call { callee := (.value (.func 60)), args := #[(.tmp 21)], argTypes := #[47] }) none,
          co (some 23) (.binOp .eql 3 (.tmp 22) (.const (.int .i64 10)) 3) none,
          co (some 20) (.assign (.tmp 23)) none] [2, 6, 7, 8, 20])
      (.cond (.tmp 20)
        (.seq (.reg [co (some 4) (.assign (.const (.slice none 0 0))) none,
            co (some 5) (.assign (.const (.int .i64 10))) none] [4, 5])
        (.ret))
        (.seq (.reg [co (some 25) (.move (.tmp 8)) none,
            co (some 26) (.unOp .not 4 (.tmp 25)) none,
            co (some 24) (.assign (.tmp 26)) none] [2, 6, 7, 24])
        (.cond (.tmp 24)
          (.seq (.reg [co (some 4) (.assign (.const (.slice none 0 0))) none,
              co (some 5) (.assign (.const (.int .i64 3))) none] [4, 5])
          (.ret))
          (.skip))))))
  (.keep [2, 6, 7] (.seq (.seq (.reg [co (some 27) (.move (.tmp 6)) none,
        co (some 28) (.move (.tmp 7)) none,
        co (some 29) (.load 47 (.tmp 2)) none,
        co (some 30) (.call { callee := (.value (.func 75)), args := #[(.tmp 27), (.tmp 28), (.tmp 29)], argTypes := #[134, 3, 47] }) none,
        co (some 9) (.assign (.tmp 30)) none] [6, 9])
    (.seq (.reg [co (some 31) (.move (.tmp 9)) none,
        co (some 32) (.binOp .neq 49 (.tmp 31) (.const (.int .i64 0)) 49) none] [6, 9, 32])
    (.cond (.tmp 32)
      (.seq (.reg [co (some 33) (.move (.tmp 9)) none,
          co (some 4) (.assign (.const (.slice none 0 0))) none,
          co (some 5) (.assign (.tmp 33)) none] [4, 5])
      (.ret))
      (.skip))))
  (.keep [6] (.seq (.reg [co (some 34) (.move (.tmp 6)) none,
      co (some 35) (.nilCheck (.tmp 34)) none,
      co (some 36) (.fieldAddr 136 (.tmp 35) 0) none,
      co (some 37) (.load 22 (.tmp 36)) none,
      co (some 4) (.assign (.tmp 37)) none,
      co (some 5) (.assign (.const (.int .i64 0))) none] [4, 5])
  (.ret)))))))))
theorem t_copy_Words : Txt Try.prog 40 38 [(.tmp 4), (.tmp 5)] c_copy_Words := txt_of (code := Try.f40.body.getD .ret) mixed (by kernel_rfl) Try.func40 (by kernel_rfl) Try.ntmps40 (by kernel_rfl) (ls := [([1, 2], [(0, [0])]), ([], []), ([2, 6], [(4, [1])]), ([999998], []), ([2, 6, 7, 8], []), ([], []), ([2, 6, 7, 8, 20], []), ([], []), ([4, 5], []), ([], []), ([2, 6, 7, 24], []), ([], []), ([4, 5], []), ([], []), ([999999, 2, 6, 7], []), ([6, 9], []), ([], []), ([6, 9, 32], []), ([], []), ([4, 5], []), ([], []), ([999999, 6], []), ([4, 5], []), ([], [])]) (by kernel_rfl)

def k1_centoref12_pointer : CC :=
  .seq (.reg [co (some 18) (.move (.tmp 9)) none,
      co (some 19) (.binOp .mul 3 (.const (.int .i64 4)) (.tmp 18) 3) none,
      co (some 20) (.move (.tmp 2)) none,
      co (some 21) (.binOp .add 3 (.tmp 19) (.tmp 20) 3) none,
      co (some 22) (.convert 3 45 (.tmp 21)) none,
      co (some 23) (.move (.tmp 3)) none,
      co (some 24) (.binOp .mul 45 (.tmp 23) (.const (.int .u64 4294967296)) 45) none,
      co (some 25) (.binOp .add 45 (.tmp 22) (.tmp 24) 45) none,
      co (some 8) (.assign (.tmp 25)) none] [8])
  (.ret)

/-- cento/centoref12.pointer -/
def c_centoref12_pointer : CC :=
  .seq (.reg [co (some 8) (.assign (.const (.int .u64 0))) none] [0, 1, 2, 3])
  (.seq (.reg [co (some 10) (.move (.tmp 1)) none,
      co (some 11) (.move (.tmp 0)) none,
      co (some 12) (.binOp .sub 3 (.tmp 10) (.tmp 11) 3) none,
      co (some 13) (.binOp .sub 3 (.tmp 12) (.const (.int .i64 1)) 3) none,
      co (some 9) (.assign (.tmp 13)) none] [2, 3, 9])
  (.seq (.seq (.reg [co (some 14) (.move (.tmp 9)) none,
        co (some 15) (.binOp .lss 3 (.tmp 14) (.const (.int .i64 0)) 3) none] [2, 3, 9, 15])
    (.cond (.tmp 15)
      (.reg [co (some 16) (.move (.tmp 9)) none,
        co (some 17) (.binOp .add 3 (.tmp 16) (.const (.int .i64 1073741824)) 3) none,
        co (some 9) (.assign (.tmp 17)) none] [2, 3, 9])
      (.skip)))
  (.keep [2, 3, 9] k1_centoref12_pointer)))
theorem t_centoref12_pointer : Txt Try.prog 110 26 [(.tmp 8)] c_centoref12_pointer := txt_of (code := Try.f110.body.getD .ret) mixed (by kernel_rfl) Try.func110 (by kernel_rfl) Try.ntmps110 (by kernel_rfl) (ls := [([0, 1, 2, 3], []), ([], []), ([2, 3, 9], []), ([], []), ([2, 3, 9, 15], []), ([], []), ([2, 3, 9], []), ([999999, 2, 3, 9], []), ([8], []), ([], [])]) (by kernel_rfl)

def l1_centoref12_atoms : CC :=
  .seq (.seq (.reg [co (some 5) (.move (.tmp 4)) none,
        co (some 6) (.fieldAddr 25 (.tmp 1) 2) none,
        co (some 7) (.load 23 (.tmp 6)) none,
        co (some 8) (.call { callee := (.builtin .len), args := #[(.tmp 7)], argTypes := #[23] }) none,
        co (some 9) (.binOp .lss 3 (.tmp 5) (.tmp 8) 3) none] [1, 3, 4, 9])
    (.cond (.tmp 9)
      (.skip)
      (.exit 0)))
  (.keep [1, 3, 4] (.seq (.block 1
      (.reg [co (some 12) (.move (.tmp 3)) none,
        co (some 13) (.fieldAddr 25 (.tmp 1) 2) none,
        co (some 14) (.load 23 (.tmp 13)) none,
        co (some 15) (.move (.tmp 4)) none,
        co (some 16) (.indexAddr 23 (.tmp 14) (.tmp 15)) none,
        co (some 17) (.fieldAddr 25 (.tmp 16) 1) none,
        co (some 18) (.load 22 (.tmp 17)) none,
        co (some 19) (.indexAddr 22 (.tmp 18) (.const (.int .i64 0))) none,
        co (some 20) (.load 45 (.tmp 19)) none,
        co (some 21) (.buildSlice 22 1 #[(0, (.tmp 20))]) none,
        cn (some 22) (.call { callee := (.builtin .append), args := #[(.tmp 12), (.tmp 21)], argTypes := #[22, 22] }) none [1],
        co (some 3) (.assign (.tmp 22)) none] [1, 3, 4]))
  (.reg [co (some 10) (.move (.tmp 4)) none,
    co (some 11) (.binOp .add 3 (.tmp 10) (.const (.int .i64 1)) 3) none,
    co (some 4) (.assign (.tmp 11)) none] [1, 3, 4])))

/-- cento/centoref12.atoms -/
def c_centoref12_atoms : CC :=
  .seq (.reg [cn (some 1) (.box 25 (.tmp 0)) none [0],
      co (some 2) (.assign (.const (.slice none 0 0))) none] [1])
  (.seq (.reg [co (some 3) (.assign (.const (.slice none 0 0))) none] [1, 3])
  (.seq (.seq (.reg [co (some 4) (.assign (.const (.int .i64 0))) none] [1, 3, 4])
    (.block 0
      (.loop l1_centoref12_atoms)))
  (.keep [3] (.seq (.reg [co (some 23) (.move (.tmp 3)) none,
      co (some 2) (.assign (.tmp 23)) none] [2])
  (.ret)))))
theorem t_centoref12_atoms : Txt Try.prog 112 24 [(.tmp 2)] c_centoref12_atoms := txt_of (code := Try.f112.body.getD .ret) mixed (by kernel_rfl) Try.func112 (by kernel_rfl) Try.ntmps112 (by kernel_rfl) (ls := [([1], [(0, [0])]), ([], []), ([1, 3], []), ([], []), ([1, 3, 4], []), ([], []), ([1, 3, 4, 9], []), ([], []), ([999999, 1, 3, 4], []), ([1, 3, 4], [(10, [1])]), ([], []), ([1, 3, 4], []), ([999999, 3], []), ([2], []), ([], [])]) (by kernel_rfl)

def l1_centoref12_add : CC :=
  .seq (.seq (.reg [co (some 6) (.move (.tmp 5)) none,
        co (some 7) (.move (.tmp 1)) none,
        co (some 8) (.binOp .lss 3 (.tmp 6) (.tmp 7) 3) none] [0, 1, 5, 8])
    (.cond (.tmp 8)
      (.skip)
      (.exit 0)))
  (.keep [0, 1, 5] (.seq (.block 1
      (.reg [co (some 11) (.move (.tmp 0)) none,
        co (some 12) (.buildSlice 22 1 #[(0, (.const (.int .u64 0)))]) none,
        cn (some 13) (.call { callee := (.builtin .append), args := #[(.tmp 11), (.tmp 12)], argTypes := #[22, 22] }) none [1],
        co (some 0) (.assign (.tmp 13)) none] [0, 1, 5]))
  (.reg [co (some 9) (.move (.tmp 5)) none,
    co (some 10) (.binOp .add 3 (.tmp 9) (.const (.int .i64 1)) 3) none,
    co (some 5) (.assign (.tmp 10)) none] [0, 1, 5])))

/-- cento/centoref12.add -/
def c_centoref12_add : CC :=
  .seq (.reg [co (some 4) (.assign (.const (.slice none 0 0))) none] [0, 1])
  (.seq (.seq (.reg [co (some 5) (.assign (.const (.int .i64 0))) none] [0, 1, 5])
    (.block 0
      (.loop l1_centoref12_add)))
  (.keep [0] (.seq (.reg [co (some 14) (.move (.tmp 0)) none,
      co (some 4) (.assign (.tmp 14)) none] [4])
  (.ret))))
theorem t_centoref12_add : Txt Try.prog 111 15 [(.tmp 4)] c_centoref12_add := txt_of (code := Try.f111.body.getD .ret) mixed (by kernel_rfl) Try.func111 (by kernel_rfl) Try.ntmps111 (by kernel_rfl) (ls := [([0, 1], []), ([], []), ([0, 1, 5], []), ([], []), ([0, 1, 5, 8], []), ([], []), ([999999, 0, 1, 5], []), ([0, 1, 5], [(2, [1])]), ([], []), ([0, 1, 5], []), ([999999, 0], []), ([4], []), ([], [])]) (by kernel_rfl)

def l1_centoref12_Lay : CC :=
  .seq (.seq (.reg [co (some 61) (.move (.tmp 8)) none,
        co (some 62) (.fieldAddr 25 (.tmp 5) 2) none,
        co (some 63) (.load 23 (.tmp 62)) none,
        co (some 64) (.call { callee := (.builtin .len), args := #[(.tmp 63)], argTypes := #[23] }) none,
        co (some 65) (.binOp .lss 3 (.tmp 61) (.tmp 64) 3) none] [0, 5, 7, 8, 65])
    (.cond (.tmp 65)
      (.skip)
      (.exit 1)))
  (.keep [0, 5, 7, 8] (.seq (.block 2
      (.reg [co (some 68) (.move (.tmp 0)) none,
        co (some 69) (.move (.tmp 7)) none,
        co (some 70) (.fieldAddr 25 (.tmp 5) 1) none,
        co (some 71) (.load 22 (.tmp 70)) none,
        co (some 72) (.call { callee := (.builtin .len), args := #[(.tmp 71)], argTypes := #[22] }) none,
        co (some 73) (.binOp .add 3 (.tmp 69) (.tmp 72) 3) none,
        co (some 74) (.move (.tmp 8)) none,
        co (some 75) (.binOp .add 3 (.tmp 73) (.tmp 74) 3) none,
        co (some 76) (.fieldAddr 25 (.tmp 5) 2) none,
        co (some 77) (.load 23 (.tmp 76)) none,
        co (some 78) (.move (.tmp 8)) none,
        co (some 79) (.indexAddr 23 (.tmp 77) (.tmp 78)) none,
        co (some 80) (.load 25 (.tmp 79)) none,
        co (some 81) (.call { callee := (.value (.func 76)), args := #[(.tmp 68), (.tmp 75), (.tmp 80)], argTypes := #[22, 3, 25] }) none,
        co (some 0) (.assign (.tmp 81)) none] [0, 5, 7, 8]))
  (.reg [co (some 66) (.move (.tmp 8)) none,
    co (some 67) (.binOp .add 3 (.tmp 66) (.const (.int .i64 1)) 3) none,
    co (some 8) (.assign (.tmp 67)) none] [0, 5, 7, 8])))
def k1_centoref12_Lay : CC :=
  .seq (.reg [co (some 36) (.move (.tmp 0)) none,
      co (some 37) (.move (.tmp 1)) none,
      co (some 38) (.move (.tmp 1)) none,
      co (some 39) (.move (.tmp 7)) none,
      co (some 40) (.fieldAddr 25 (.tmp 5) 1) none,
      co (some 41) (.load 22 (.tmp 40)) none,
      co (some 42) (.call { callee := (.builtin .len), args := #[(.tmp 41)], argTypes := #[22] }) none,
      co (some 43) (.convert 3 45 (.tmp 42)) none,
      co (some 44) (.fieldAddr 25 (.tmp 5) 2) none,
      co (some 45) (.load 23 (.tmp 44)) none,
      co (some 46) (.call { callee := (.builtin .len), args := #[(.tmp 45)], argTypes := #[23] }) none,
      co (some 47) (.convert 3 45 (.tmp 46)) none,
      co (some 48) (.binOp .mul 45 (.const (.int .u64 65536)) (.tmp 47) 45) none,
      co (some 49) (.binOp .add 45 (.tmp 43) (.tmp 48) 45) none,
      co (some 50) (.call { callee := (.value (.func 110)), args := #[(.tmp 38), (.tmp 39), (.const (.int .i64 0)), (.tmp 49)], argTypes := #[3, 3, 3, 45] }) none,
      co (some 51) (.indexAddr 22 (.tmp 36) (.tmp 37)) none,
      co none (.store 45 (.tmp 51) (.tmp 50)) none] [0, 5, 7])
  (.seq (.reg [co (some 52) (.move (.tmp 0)) none,
      co (some 53) (.fieldAddr 25 (.tmp 5) 1) none,
      co (some 54) (.load 22 (.tmp 53)) none,
      cn (some 55) (.call { callee := (.builtin .append), args := #[(.tmp 52), (.tmp 54)], argTypes := #[22, 22] }) none [2],
      co (some 0) (.assign (.tmp 55)) none] [0, 5, 7])
  (.seq (.reg [co (some 56) (.move (.tmp 0)) none,
      co (some 57) (.fieldAddr 25 (.tmp 5) 2) none,
      co (some 58) (.load 23 (.tmp 57)) none,
      co (some 59) (.call { callee := (.builtin .len), args := #[(.tmp 58)], argTypes := #[23] }) none,
      co (some 60) (.call { callee := (.value (.func 111)), args := #[(.tmp 56), (.tmp 59)], argTypes := #[22, 3] }) none,
      co (some 0) (.assign (.tmp 60)) none] [0, 5, 7])
  (.seq (.seq (.reg [co (some 8) (.assign (.const (.int .i64 0))) none] [0, 5, 7, 8])
    (.block 1
      (.loop l1_centoref12_Lay)))
  (.keep [0] (.seq (.reg [co (some 82) (.move (.tmp 0)) none,
      co (some 6) (.assign (.tmp 82)) none] [6])
  (.ret))))))
def l2_centoref12_Lay : CC :=
  .seq (.seq (.reg [co (some 102) (.move (.tmp 9)) none,
        co (some 103) (.fieldAddr 25 (.tmp 5) 2) none,
        co (some 104) (.load 23 (.tmp 103)) none,
        co (some 105) (.call { callee := (.builtin .len), args := #[(.tmp 104)], argTypes := #[23] }) none,
        co (some 106) (.binOp .lss 3 (.tmp 102) (.tmp 105) 3) none] [0, 5, 7, 9, 106])
    (.cond (.tmp 106)
      (.skip)
      (.exit 3)))
  (.keep [0, 5, 7, 9] (.seq (.block 4
      (.reg [co (some 109) (.move (.tmp 0)) none,
        co (some 110) (.move (.tmp 7)) none,
        co (some 111) (.move (.tmp 9)) none,
        co (some 112) (.binOp .add 3 (.tmp 110) (.tmp 111) 3) none,
        co (some 113) (.fieldAddr 25 (.tmp 5) 2) none,
        co (some 114) (.load 23 (.tmp 113)) none,
        co (some 115) (.move (.tmp 9)) none,
        co (some 116) (.indexAddr 23 (.tmp 114) (.tmp 115)) none,
        co (some 117) (.load 25 (.tmp 116)) none,
        co (some 118) (.call { callee := (.value (.func 76)), args := #[(.tmp 109), (.tmp 112), (.tmp 117)], argTypes := #[22, 3, 25] }) none,
        co (some 0) (.assign (.tmp 118)) none] [0, 5, 7, 9]))
  (.reg [co (some 107) (.move (.tmp 9)) none,
    co (some 108) (.binOp .add 3 (.tmp 107) (.const (.int .i64 1)) 3) none,
    co (some 9) (.assign (.tmp 108)) none] [0, 5, 7, 9])))
def l3_centoref12_Lay : CC :=
  .seq (.seq (.reg [co (some 158) (.move (.tmp 13)) none,
        co (some 159) (.move (.tmp 12)) none,
        co (some 160) (.binOp .lss 3 (.tmp 158) (.tmp 159) 3) none] [0, 5, 7, 10, 11, 12, 13, 160])
    (.cond (.tmp 160)
      (.skip)
      (.exit 5)))
  (.keep [0, 5, 7, 10, 11, 12, 13] (.seq (.block 6
      (.seq (.reg [co (some 163) (.move (.tmp 0)) none,
          co (some 164) (.fieldAddr 25 (.tmp 5) 2) none,
          co (some 165) (.load 23 (.tmp 164)) none,
          co (some 166) (.move (.tmp 13)) none,
          co (some 167) (.indexAddr 23 (.tmp 165) (.tmp 166)) none,
          co (some 168) (.fieldAddr 25 (.tmp 167) 1) none,
          co (some 169) (.load 22 (.tmp 168)) none,
          cn (some 170) (.call { callee := (.builtin .append), args := #[(.tmp 163), (.tmp 169)], argTypes := #[22, 22] }) none [4],
          co (some 0) (.assign (.tmp 170)) none] [0, 5, 7, 10, 11, 12, 13])
      (.reg [co (some 171) (.move (.tmp 0)) none,
        co (some 172) (.move (.tmp 10)) none,
        co (some 173) (.move (.tmp 11)) none,
        co (some 174) (.binOp .add 3 (.tmp 172) (.tmp 173) 3) none,
        co (some 175) (.fieldAddr 25 (.tmp 5) 2) none,
        co (some 176) (.load 23 (.tmp 175)) none,
        co (some 177) (.move (.tmp 13)) none,
        co (some 178) (.indexAddr 23 (.tmp 176) (.tmp 177)) none,
        co (some 179) (.fieldAddr 25 (.tmp 178) 1) none,
        co (some 180) (.load 22 (.tmp 179)) none,
        co (some 181) (.call { callee := (.builtin .len), args := #[(.tmp 180)], argTypes := #[22] }) none,
        co (some 182) (.binOp .sub 3 (.tmp 174) (.tmp 181) 3) none,
        co (some 183) (.call { callee := (.value (.func 111)), args := #[(.tmp 171), (.tmp 182)], argTypes := #[22, 3] }) none,
        co (some 0) (.assign (.tmp 183)) none] [0, 5, 7, 10, 11, 12, 13])))
  (.reg [co (some 161) (.move (.tmp 13)) none,
    co (some 162) (.binOp .add 3 (.tmp 161) (.const (.int .i64 1)) 3) none,
    co (some 13) (.assign (.tmp 162)) none] [0, 5, 7, 10, 11, 12, 13])))
def l4_centoref12_Lay : CC :=
  .seq (.seq (.reg [co (some 189) (.move (.tmp 15)) none,
        co (some 190) (.fieldAddr 25 (.tmp 5) 2) none,
        co (some 191) (.load 23 (.tmp 190)) none,
        co (some 192) (.move (.tmp 14)) none,
        co (some 193) (.indexAddr 23 (.tmp 191) (.tmp 192)) none,
        co (some 194) (.fieldAddr 25 (.tmp 193) 2) none,
        co (some 195) (.load 23 (.tmp 194)) none,
        co (some 196) (.call { callee := (.builtin .len), args := #[(.tmp 195)], argTypes := #[23] }) none,
        co (some 197) (.binOp .lss 3 (.tmp 189) (.tmp 196) 3) none] [0, 5, 7, 10, 11, 12, 14, 15, 197])
    (.cond (.tmp 197)
      (.skip)
      (.exit 9)))
  (.keep [0, 5, 7, 10, 11, 12, 14, 15] (.seq (.block 10
      (.reg [co (some 200) (.move (.tmp 0)) none,
        co (some 201) (.move (.tmp 7)) none,
        co (some 202) (.binOp .add 3 (.tmp 201) (.const (.int .i64 1)) 3) none,
        co (some 203) (.move (.tmp 14)) none,
        co (some 204) (.move (.tmp 10)) none,
        co (some 205) (.move (.tmp 11)) none,
        co (some 206) (.binOp .add 3 (.tmp 204) (.tmp 205) 3) none,
        co (some 207) (.binOp .mul 3 (.tmp 203) (.tmp 206) 3) none,
        co (some 208) (.binOp .add 3 (.tmp 202) (.tmp 207) 3) none,
        co (some 209) (.move (.tmp 10)) none,
        co (some 210) (.binOp .add 3 (.tmp 208) (.tmp 209) 3) none,
        co (some 211) (.move (.tmp 15)) none,
        co (some 212) (.binOp .add 3 (.tmp 210) (.tmp 211) 3) none,
        co (some 213) (.fieldAddr 25 (.tmp 5) 2) none,
        co (some 214) (.load 23 (.tmp 213)) none,
        co (some 215) (.move (.tmp 14)) none,
        co (some 216) (.indexAddr 23 (.tmp 214) (.tmp 215)) none,
        co (some 217) (.fieldAddr 25 (.tmp 216) 2) none,
        co (some 218) (.load 23 (.tmp 217)) none,
        co (some 219) (.move (.tmp 15)) none,
        co (some 220) (.indexAddr 23 (.tmp 218) (.tmp 219)) none,
        co (some 221) (.load 25 (.tmp 220)) none,
        co (some 222) (.call { callee := (.value (.func 76)), args := #[(.tmp 200), (.tmp 212), (.tmp 221)], argTypes := #[22, 3, 25] }) none,
        co (some 0) (.assign (.tmp 222)) none] [0, 5, 7, 10, 11, 12, 14, 15]))
  (.reg [co (some 198) (.move (.tmp 15)) none,
    co (some 199) (.binOp .add 3 (.tmp 198) (.const (.int .i64 1)) 3) none,
    co (some 15) (.assign (.tmp 199)) none] [0, 5, 7, 10, 11, 12, 14, 15])))
def l5_centoref12_Lay : CC :=
  .seq (.seq (.reg [co (some 184) (.move (.tmp 14)) none,
        co (some 185) (.move (.tmp 12)) none,
        co (some 186) (.binOp .lss 3 (.tmp 184) (.tmp 185) 3) none] [0, 5, 7, 10, 11, 12, 14, 186])
    (.cond (.tmp 186)
      (.skip)
      (.exit 7)))
  (.keep [0, 5, 7, 10, 11, 12, 14] (.seq (.block 8
      (.seq (.reg [co (some 15) (.assign (.const (.int .i64 0))) none] [0, 5, 7, 10, 11, 12, 14, 15])
      (.block 9
        (.loop l4_centoref12_Lay))))
  (.keep [0, 5, 7, 10, 11, 12, 14] (.reg [co (some 187) (.move (.tmp 14)) none,
    co (some 188) (.binOp .add 3 (.tmp 187) (.const (.int .i64 1)) 3) none,
    co (some 14) (.assign (.tmp 188)) none] [0, 5, 7, 10, 11, 12, 14]))))

/-- cento/centoref12.Lay -/
def c_centoref12_Lay : CC :=
  .seq (.reg [cn (some 5) (.box 25 (.tmp 2)) none [1],
      co (some 6) (.assign (.const (.slice none 0 0))) none] [0, 1, 5])
  (.seq (.reg [co (some 18) (.move (.tmp 0)) none,
      co (some 19) (.call { callee := (.builtin .len), args := #[(.tmp 18)], argTypes := #[22] }) none,
      co (some 7) (.assign (.tmp 19)) none] [0, 1, 5, 7])
  (.seq (.seq (.reg [co (some 20) (.fieldAddr 25 (.tmp 5) 0) none,
        co (some 21) (.load 3 (.tmp 20)) none] [0, 1, 5, 7, 21])
    (.block 0
      (.seq (.reg [co (some 23) (.binOp .eql 3 (.tmp 21) (.const (.int .i64 0)) 3) none,
          co (some 22) (.assign (.tmp 23)) none] [0, 1, 5, 7, 21, 22])
      (.cond (.tmp 22)
        (.seq (.reg [co (some 24) (.move (.tmp 0)) none,
            co (some 6) (.assign (.tmp 24)) none] [6])
        (.ret))
        (.seq (.reg [co (some 26) (.binOp .eql 3 (.tmp 21) (.const (.int .i64 1)) 3) none,
            co (some 25) (.assign (.tmp 26)) none] [0, 1, 5, 7, 21, 25])
        (.cond (.tmp 25)
          (.seq (.seq (.reg [co (some 27) (.fieldAddr 25 (.tmp 5) 1) none,
                co (some 28) (.load 22 (.tmp 27)) none,
                co (some 29) (.call { callee := (.builtin .len), args := #[(.tmp 28)], argTypes := #[22] }) none,
                co (some 30) (.fieldAddr 25 (.tmp 5) 2) none,
                co (some 31) (.load 23 (.tmp 30)) none,
                co (some 32) (.call { callee := (.builtin .len), args := #[(.tmp 31)], argTypes := #[23] }) none,
                co (some 33) (.binOp .add 3 (.tmp 29) (.tmp 32) 3) none,
                co (some 34) (.binOp .eql 3 (.tmp 33) (.const (.int .i64 0)) 3) none] [0, 1, 5, 7, 34])
            (.cond (.tmp 34)
              (.reg [co (some 35) (.move (.tmp 1)) none,
                co (some 7) (.assign (.tmp 35)) none] [0, 1, 5, 7])
              (.skip)))
          (.keep [0, 1, 5, 7] k1_centoref12_Lay))
          (.seq (.reg [co (some 84) (.binOp .eql 3 (.tmp 21) (.const (.int .i64 8)) 3) none,
              co (some 83) (.assign (.tmp 84)) none] [0, 1, 5, 7, 21, 83])
          (.cond (.tmp 83)
            (.seq (.reg [co (some 85) (.move (.tmp 0)) none,
                co (some 86) (.move (.tmp 1)) none,
                co (some 87) (.move (.tmp 1)) none,
                co (some 88) (.move (.tmp 7)) none,
                co (some 89) (.fieldAddr 25 (.tmp 5) 2) none,
                co (some 90) (.load 23 (.tmp 89)) none,
                co (some 91) (.call { callee := (.builtin .len), args := #[(.tmp 90)], argTypes := #[23] }) none,
                co (some 92) (.convert 3 45 (.tmp 91)) none,
                co (some 93) (.binOp .mul 45 (.const (.int .u64 8)) (.tmp 92) 45) none,
                co (some 94) (.binOp .add 45 (.const (.int .u64 6)) (.tmp 93) 45) none,
                co (some 95) (.call { callee := (.value (.func 110)), args := #[(.tmp 87), (.tmp 88), (.const (.int .i64 1)), (.tmp 94)], argTypes := #[3, 3, 3, 45] }) none,
                co (some 96) (.indexAddr 22 (.tmp 85) (.tmp 86)) none,
                co none (.store 45 (.tmp 96) (.tmp 95)) none] [0, 5, 7])
            (.seq (.reg [co (some 97) (.move (.tmp 0)) none,
                co (some 98) (.fieldAddr 25 (.tmp 5) 2) none,
                co (some 99) (.load 23 (.tmp 98)) none,
                co (some 100) (.call { callee := (.builtin .len), args := #[(.tmp 99)], argTypes := #[23] }) none,
                co (some 101) (.call { callee := (.value (.func 111)), args := #[(.tmp 97), (.tmp 100)], argTypes := #[22, 3] }) none,
                co (some 0) (.assign (.tmp 101)) none] [0, 5, 7])
            (.seq (.seq (.reg [co (some 9) (.assign (.const (.int .i64 0))) none] [0, 5, 7, 9])
              (.block 3
                (.loop l2_centoref12_Lay)))
            (.keep [0] (.seq (.reg [co (some 119) (.move (.tmp 0)) none,
                co (some 6) (.assign (.tmp 119)) none] [6])
            (.ret))))))
            (.seq (.reg [co (some 121) (.binOp .eql 3 (.tmp 21) (.const (.int .i64 9)) 3) none,
                co (some 120) (.assign (.tmp 121)) none] [0, 1, 5, 7, 120])
            (.cond (.tmp 120)
              (.seq (.reg [co (some 123) (.load 25 (.tmp 5)) none,
                  co (some 124) (.call { callee := (.value (.func 53)), args := #[(.tmp 123)], argTypes := #[25] }) none,
                  co (some 122) (.move (.tmp 124)) none,
                  co (some 125) (.extract (.tmp 122) 0) none,
                  co (some 126) (.extract (.tmp 122) 1) none,
                  co (some 10) (.assign (.tmp 125)) none,
                  co (some 11) (.assign (.tmp 126)) none] [0, 1, 5, 7, 10, 11])
              (.seq (.reg [co (some 127) (.fieldAddr 25 (.tmp 5) 2) none,
                  co (some 128) (.load 23 (.tmp 127)) none,
                  co (some 129) (.call { callee := (.builtin .len), args := #[(.tmp 128)], argTypes := #[23] }) none,
                  co (some 12) (.assign (.tmp 129)) none] [0, 1, 5, 7, 10, 11, 12])
              (.seq (.reg [co (some 130) (.move (.tmp 0)) none,
                  co (some 131) (.move (.tmp 1)) none,
                  co (some 132) (.move (.tmp 1)) none,
                  co (some 133) (.move (.tmp 7)) none,
                  co (some 134) (.move (.tmp 12)) none,
                  co (some 135) (.move (.tmp 10)) none,
                  co (some 136) (.move (.tmp 11)) none,
                  co (some 137) (.binOp .add 3 (.tmp 135) (.tmp 136) 3) none,
                  co (some 138) (.binOp .mul 3 (.tmp 134) (.tmp 137) 3) none,
                  co (some 139) (.convert 3 45 (.tmp 138)) none,
                  co (some 140) (.binOp .mul 45 (.const (.int .u64 8)) (.tmp 139) 45) none,
                  co (some 141) (.binOp .add 45 (.const (.int .u64 7)) (.tmp 140) 45) none,
                  co (some 142) (.call { callee := (.value (.func 110)), args := #[(.tmp 132), (.tmp 133), (.const (.int .i64 1)), (.tmp 141)], argTypes := #[3, 3, 3, 45] }) none,
                  co (some 143) (.indexAddr 22 (.tmp 130) (.tmp 131)) none,
                  co none (.store 45 (.tmp 143) (.tmp 142)) none] [0, 5, 7, 10, 11, 12])
              (.seq (.reg [co (some 144) (.move (.tmp 0)) none,
                  co (some 145) (.move (.tmp 12)) none,
                  co (some 146) (.binOp .mul 3 (.const (.int .i64 4)) (.tmp 145) 3) none,
                  co (some 147) (.convert 3 45 (.tmp 146)) none,
                  co (some 148) (.move (.tmp 10)) none,
                  co (some 149) (.convert 3 45 (.tmp 148)) none,
                  co (some 150) (.move (.tmp 11)) none,
                  co (some 151) (.convert 3 45 (.tmp 150)) none,
                  co (some 152) (.binOp .mul 45 (.const (.int .u64 65536)) (.tmp 151) 45) none,
                  co (some 153) (.binOp .add 45 (.tmp 149) (.tmp 152) 45) none,
                  co (some 154) (.binOp .mul 45 (.const (.int .u64 4294967296)) (.tmp 153) 45) none,
                  co (some 155) (.binOp .add 45 (.tmp 147) (.tmp 154) 45) none,
                  co (some 156) (.buildSlice 22 1 #[(0, (.tmp 155))]) none,
                  cn (some 157) (.call { callee := (.builtin .append), args := #[(.tmp 144), (.tmp 156)], argTypes := #[22, 22] }) none [3],
                  co (some 0) (.assign (.tmp 157)) none] [0, 5, 7, 10, 11, 12])
              (.seq (.seq (.reg [co (some 13) (.assign (.const (.int .i64 0))) none] [0, 5, 7, 10, 11, 12, 13])
                (.block 5
                  (.loop l3_centoref12_Lay)))
              (.keep [0, 5, 7, 10, 11, 12] (.seq (.seq (.reg [co (some 14) (.assign (.const (.int .i64 0))) none] [0, 5, 7, 10, 11, 12, 14])
                (.block 7
                  (.loop l5_centoref12_Lay)))
              (.keep [0] (.seq (.reg [co (some 223) (.move (.tmp 0)) none,
                  co (some 6) (.assign (.tmp 223)) none] [6])
              (.ret))))))))))
              (.skip)))))))))))
  (.keep [0, 1, 5, 7] (.seq (.reg [co (some 225) (.fieldAddr 25 (.tmp 5) 0) none,
      ⟨some 226, (.load 3 (.tmp 225)), none, [], 1, [], true⟩,
      co (some 227) (.binOp .sub 3 (.tmp 226) (.const (.int .i64 2)) 3) none,
      co (some 228) (.load 25 (.tmp 5)) none,
      ⟨some 229, (.call { callee := (.value (.func 112)), args := #[(.tmp 228)], argTypes := #[25] }), none, [], 4, [1], false⟩,
      co (some 230) (.call { callee := (.value (.func 102)), args := #[(.tmp 227), (.tmp 229)], argTypes := #[3, 22] }) none,
      co (some 224) (.move (.tmp 230)) none,
      co (some 231) (.extract (.tmp 224) 0) none,
      co (some 232) (.extract (.tmp 224) 1) none,
      co (some 16) (.assign (.tmp 231)) none,
      co (some 17) (.assign (.tmp 232)) none] [0, 1, 5, 7, 16])
  (.seq (.reg [co (some 233) (.move (.tmp 0)) none,
      co (some 234) (.move (.tmp 1)) none,
      co (some 235) (.move (.tmp 1)) none,
      co (some 236) (.move (.tmp 7)) none,
      co (some 237) (.fieldAddr 25 (.tmp 5) 0) none,
      co (some 238) (.load 3 (.tmp 237)) none,
      co (some 239) (.binOp .sub 3 (.tmp 238) (.const (.int .i64 2)) 3) none,
      co (some 240) (.convert 3 45 (.tmp 239)) none,
      co (some 241) (.fieldAddr 25 (.tmp 5) 2) none,
      co (some 242) (.load 23 (.tmp 241)) none,
      co (some 243) (.call { callee := (.builtin .len), args := #[(.tmp 242)], argTypes := #[23] }) none,
      co (some 244) (.convert 3 45 (.tmp 243)) none,
      co (some 245) (.binOp .mul 45 (.const (.int .u64 8)) (.tmp 244) 45) none,
      co (some 246) (.binOp .add 45 (.tmp 240) (.tmp 245) 45) none,
      co (some 247) (.call { callee := (.value (.func 110)), args := #[(.tmp 235), (.tmp 236), (.const (.int .i64 1)), (.tmp 246)], argTypes := #[3, 3, 3, 45] }) none,
      co (some 248) (.indexAddr 22 (.tmp 233) (.tmp 234)) none,
      co none (.store 45 (.tmp 248) (.tmp 247)) none] [0, 16])
  (.seq (.reg [co (some 249) (.move (.tmp 0)) none,
      co (some 250) (.move (.tmp 16)) none,
      cn (some 251) (.call { callee := (.builtin .append), args := #[(.tmp 249), (.tmp 250)], argTypes := #[22, 22] }) none [5],
      co (some 6) (.assign (.tmp 251)) none] [6])
  (.ret)))))))
theorem t_centoref12_Lay : Txt Try.prog 76 252 [(.tmp 6)] c_centoref12_Lay := txt_of (code := Try.f76.body.getD .ret) mixed (by kernel_rfl) Try.func76 (by kernel_rfl) Try.ntmps76 (by kernel_rfl) (ls := [([0, 1, 5], [(0, [1])]), ([], []), ([0, 1, 5, 7], []), ([], []), ([0, 1, 5, 7, 21], []), ([], []), ([0, 1, 5, 7, 21, 22], []), ([], []), ([6], []), ([], []), ([0, 1, 5, 7, 21, 25], []), ([], []), ([0, 1, 5, 7, 34], []), ([], []), ([0, 1, 5, 7], []), ([999999, 0, 1, 5, 7], []), ([0, 5, 7], []), ([], []), ([0, 5, 7], [(3, [2])]), ([], []), ([0, 5, 7], []), ([], []), ([0, 5, 7, 8], []), ([], []), ([0, 5, 7, 8, 65], []), ([], []), ([999999, 0, 5, 7, 8], []), ([0, 5, 7, 8], []), ([], []), ([0, 5, 7, 8], []), ([999999, 0], []), ([6], []), ([], []), ([0, 1, 5, 7, 21, 83], []), ([], []), ([0, 5, 7], []), ([], []), ([0, 5, 7], []), ([], []), ([0, 5, 7, 9], []), ([], []), ([0, 5, 7, 9, 106], []), ([], []), ([999999, 0, 5, 7, 9], []), ([0, 5, 7, 9], []), ([], []), ([0, 5, 7, 9], []), ([999999, 0], []), ([6], []), ([], []), ([0, 1, 5, 7, 120], []), ([], []), ([0, 1, 5, 7, 10, 11], []), ([], []), ([0, 1, 5, 7, 10, 11, 12], []), ([], []), ([0, 5, 7, 10, 11, 12], []), ([], []), ([0, 5, 7, 10, 11, 12], [(13, [3])]), ([], []), ([0, 5, 7, 10, 11, 12, 13], []), ([], []), ([0, 5, 7, 10, 11, 12, 13, 160], []), ([], []), ([999999, 0, 5, 7, 10, 11, 12, 13], []), ([0, 5, 7, 10, 11, 12, 13], [(7, [4])]), ([], []), ([0, 5, 7, 10, 11, 12, 13], []), ([], []), ([0, 5, 7, 10, 11, 12, 13], []), ([999999, 0, 5, 7, 10, 11, 12], []), ([0, 5, 7, 10, 11, 12, 14], []), ([], []), ([0, 5, 7, 10, 11, 12, 14, 186], []), ([], []), ([999999, 0, 5, 7, 10, 11, 12, 14], []), ([0, 5, 7, 10, 11, 12, 14, 15], []), ([], []), ([0, 5, 7, 10, 11, 12, 14, 15, 197], []), ([], []), ([999999, 0, 5, 7, 10, 11, 12, 14, 15], []), ([0, 5, 7, 10, 11, 12, 14, 15], []), ([], []), ([0, 5, 7, 10, 11, 12, 14, 15], []), ([999999, 0, 5, 7, 10, 11, 12, 14], []), ([0, 5, 7, 10, 11, 12, 14], []), ([999999, 0], []), ([6], []), ([], []), ([999999, 0, 1, 5, 7], []), ([0, 1, 5, 7, 16], []), ([], []), ([0, 16], []), ([], []), ([6], [(2, [5])]), ([], [])]) (by kernel_rfl)


/-- cento/centoref12.Encode -/
def c_centoref12_Encode : CC :=
  .seq (.reg [cn (some 2) (.box 25 (.tmp 0)) none [0],
      co (some 4) (.assign (.const (.slice none 0 0))) none,
      co (some 5) (.assign (.const (.bool false))) none] [1, 2])
  (.seq (.seq (.reg [co (some 6) (.load 25 (.tmp 2)) none,
        co (some 7) (.call { callee := (.value (.func 15)), args := #[(.tmp 6), (.const (.int .i64 64))], argTypes := #[25, 3] }) none,
        co (some 8) (.unOp .not 4 (.tmp 7)) none,
        co (some 9) (.move (.tmp 8)) none,
        co (some 10) (.fieldAddr 25 (.tmp 2) 0) (some (9, false)),
        co (some 11) (.load 3 (.tmp 10)) (some (9, false)),
        co (some 12) (.binOp .eql 3 (.tmp 11) (.const (.int .i64 10)) 3) (some (9, false)),
        co (some 13) (.pick (.tmp 9) (.const (.bool true)) (.tmp 12)) none] [1, 2, 13])
    (.cond (.tmp 13)
      (.seq (.reg [co (some 4) (.assign (.const (.slice none 0 0))) none,
          co (some 5) (.assign (.const (.bool false))) none] [4, 5])
      (.ret))
      (.skip)))
  (.keep [1, 2] (.seq (.reg [co (some 14) (.load 25 (.tmp 2)) none,
      co (some 15) (.call { callee := (.value (.func 18)), args := #[(.tmp 14)], argTypes := #[25] }) none,
      co none (.store 25 (.tmp 2) (.tmp 15)) none] [1, 2])
  (.seq (.seq (.reg [co (some 16) (.load 25 (.tmp 2)) none,
        co (some 17) (.call { callee := (.value (.func 17)), args := #[(.tmp 16)], argTypes := #[25] }) none,
        co (some 18) (.move (.tmp 1)) none,
        co (some 19) (.binOp .geq 3 (.tmp 17) (.tmp 18) 3) none,
        co (some 20) (.move (.tmp 19)) none,
        co (some 21) (.load 25 (.tmp 2)) (some (20, false)),
        co (some 22) (.call { callee := (.value (.func 17)), args := #[(.tmp 21)], argTypes := #[25] }) (some (20, false)),
        co (some 23) (.binOp .geq 3 (.tmp 22) (.const (.int .i64 131072)) 3) (some (20, false)),
        co (some 24) (.pick (.tmp 20) (.const (.bool true)) (.tmp 23)) none] [2, 24])
    (.cond (.tmp 24)
      (.seq (.reg [co (some 4) (.assign (.const (.slice none 0 0))) none,
          co (some 5) (.assign (.const (.bool false))) none] [4, 5])
      (.ret))
      (.skip)))
  (.keep [2] (.seq (.reg [cn (some 25) (.buildSlice 22 1 #[(0, (.const (.int .u64 0)))]) none [5],
      co (some 26) (.load 25 (.tmp 2)) none,
      co (some 27) (.call { callee := (.value (.func 76)), args := #[(.tmp 25), (.const (.int .i64 0)), (.tmp 26)], argTypes := #[22, 3, 25] }) none,
      co (some 4) (.assign (.tmp 27)) none,
      co (some 5) (.assign (.const (.bool true))) none] [4, 5])
  (.ret)))))))
theorem t_centoref12_Encode : Txt Try.prog 41 28 [(.tmp 4), (.tmp 5)] c_centoref12_Encode := txt_of (code := Try.f41.body.getD .ret) mixed (by kernel_rfl) Try.func41 (by kernel_rfl) Try.ntmps41 (by kernel_rfl) (ls := [([1, 2], [(0, [0])]), ([], []), ([1, 2, 13], []), ([], []), ([4, 5], []), ([], []), ([999999, 1, 2], []), ([1, 2], []), ([], []), ([2, 24], []), ([], []), ([4, 5], []), ([], []), ([999999, 2], []), ([4, 5], [(0, [5])]), ([], [])]) (by kernel_rfl)

def l1_centoref01_Put : CC :=
  .seq (.seq (.reg [co (some 34) (.move (.tmp 10)) none,
        co (some 35) (.move (.tmp 8)) none,
        co (some 36) (.move (.tmp 6)) none,
        co (some 37) (.binOp .mul 3 (.tmp 35) (.tmp 36) 3) none,
        co (some 38) (.binOp .rem 3 (.tmp 37) (.const (.int .i64 64)) 3) none,
        co (some 39) (.binOp .lss 3 (.tmp 34) (.tmp 38) 3) none] [0, 1, 6, 7, 8, 9, 10, 39])
    (.cond (.tmp 39)
      (.skip)
      (.exit 2)))
  (.keep [0, 1, 6, 7, 8, 9, 10] (.seq (.block 3
      (.reg [co (some 42) (.move (.tmp 9)) none,
        co (some 43) (.binOp .mul 45 (.tmp 42) (.const (.int .u64 2)) 45) none,
        co (some 9) (.assign (.tmp 43)) none] [0, 1, 6, 7, 8, 9, 10]))
  (.reg [co (some 40) (.move (.tmp 10)) none,
    co (some 41) (.binOp .add 3 (.tmp 40) (.const (.int .i64 1)) 3) none,
    co (some 10) (.assign (.tmp 41)) none] [0, 1, 6, 7, 8, 9, 10])))
def l2_centoref01_Put : CC :=
  .seq (.seq (.reg [co (some 20) (.move (.tmp 8)) none,
        co (some 21) (.move (.tmp 1)) none,
        co (some 22) (.call { callee := (.builtin .len), args := #[(.tmp 21)], argTypes := #[22] }) none,
        co (some 23) (.binOp .lss 3 (.tmp 20) (.tmp 22) 3) none] [0, 1, 6, 7, 8, 23])
    (.cond (.tmp 23)
      (.skip)
      (.exit 0)))
  (.keep [0, 1, 6, 7, 8] (.seq (.block 1
      (.seq (.reg [co (some 26) (.move (.tmp 1)) none,
          co (some 27) (.move (.tmp 8)) none,
          co (some 28) (.indexAddr 22 (.tmp 26) (.tmp 27)) none,
          co (some 29) (.load 45 (.tmp 28)) none,
          co (some 9) (.assign (.tmp 29)) none] [0, 1, 6, 7, 8, 9])
      (.seq (.seq (.reg [co (some 30) (.move (.tmp 0)) none,
            co (some 31) (.move (.tmp 9)) none,
            co (some 32) (.call { callee := (.value (.func 50)), args := #[(.tmp 30), (.tmp 31)], argTypes := #[3, 45] }) none,
            co (some 33) (.unOp .not 4 (.tmp 32)) none] [0, 1, 6, 7, 8, 9, 33])
        (.cond (.tmp 33)
          (.seq (.reg [co (some 4) (.assign (.const (.slice none 0 0))) none,
              co (some 5) (.assign (.const (.bool false))) none] [4, 5])
          (.ret))
          (.skip)))
      (.keep [0, 1, 6, 7, 8, 9] (.seq (.seq (.reg [co (some 10) (.assign (.const (.int .i64 0))) none] [0, 1, 6, 7, 8, 9, 10])
        (.block 2
          (.loop l1_centoref01_Put)))
      (.keep [0, 1, 6, 7, 8, 9] (.seq (.reg [co (some 44) (.move (.tmp 6)) none,
          co (some 45) (.binOp .gtr 3 (.tmp 44) (.const (.int .i64 0)) 3) none] [0, 1, 6, 7, 8, 9, 45])
      (.cond (.tmp 45)
        (.reg [co (some 46) (.move (.tmp 7)) none,
          co (some 47) (.move (.tmp 8)) none,
          co (some 48) (.move (.tmp 6)) none,
          co (some 49) (.binOp .mul 3 (.tmp 47) (.tmp 48) 3) none,
          co (some 50) (.binOp .quo 3 (.tmp 49) (.const (.int .i64 64)) 3) none,
          co (some 51) (.move (.tmp 7)) none,
          co (some 52) (.move (.tmp 8)) none,
          co (some 53) (.move (.tmp 6)) none,
          co (some 54) (.binOp .mul 3 (.tmp 52) (.tmp 53) 3) none,
          co (some 55) (.binOp .quo 3 (.tmp 54) (.const (.int .i64 64)) 3) none,
          co (some 56) (.indexAddr 22 (.tmp 51) (.tmp 55)) none,
          co (some 57) (.load 45 (.tmp 56)) none,
          co (some 58) (.move (.tmp 9)) none,
          co (some 59) (.binOp .add 45 (.tmp 57) (.tmp 58) 45) none,
          co (some 60) (.indexAddr 22 (.tmp 46) (.tmp 50)) none,
          co none (.store 45 (.tmp 60) (.tmp 59)) none] [0, 1, 6, 7, 8])
        (.skip)))))))))
  (.keep [0, 1, 6, 7, 8] (.reg [co (some 24) (.move (.tmp 8)) none,
    co (some 25) (.binOp .add 3 (.tmp 24) (.const (.int .i64 1)) 3) none,
    co (some 8) (.assign (.tmp 25)) none] [0, 1, 6, 7, 8]))))

/-- cento/centoref01.Put -/
def c_centoref01_Put : CC :=
  .seq (.reg [co (some 4) (.assign (.const (.slice none 0 0))) none,
      co (some 5) (.assign (.const (.bool false))) none] [0, 1])
  (.seq (.reg [co (some 11) (.move (.tmp 0)) none,
      co (some 12) (.call { callee := (.value (.func 84)), args := #[(.tmp 11)], argTypes := #[3] }) none,
      co (some 6) (.assign (.tmp 12)) none] [0, 1, 6])
  (.seq (.seq (.reg [co (some 13) (.move (.tmp 6)) none,
        co (some 14) (.binOp .lss 3 (.tmp 13) (.const (.int .i64 0)) 3) none] [0, 1, 6, 14])
    (.cond (.tmp 14)
      (.seq (.reg [co (some 4) (.assign (.const (.slice none 0 0))) none,
          co (some 5) (.assign (.const (.bool false))) none] [4, 5])
      (.ret))
      (.skip)))
  (.keep [0, 1, 6] (.seq (.reg [co (some 15) (.move (.tmp 0)) none,
      co (some 16) (.move (.tmp 1)) none,
      co (some 17) (.call { callee := (.builtin .len), args := #[(.tmp 16)], argTypes := #[22] }) none,
      co (some 18) (.call { callee := (.value (.func 52)), args := #[(.tmp 15), (.tmp 17)], argTypes := #[3, 3] }) none,
      cn (some 19) (.makeSlice 22 (.tmp 18) (.tmp 18)) none [0],
      co (some 7) (.assign (.tmp 19)) none] [0, 1, 6, 7])
  (.seq (.seq (.reg [co (some 8) (.assign (.const (.int .i64 0))) none] [0, 1, 6, 7, 8])
    (.block 0
      (.loop l2_centoref01_Put)))
  (.keep [7] (.seq (.reg [co (some 61) (.move (.tmp 7)) none,
      co (some 4) (.assign (.tmp 61)) none,
      co (some 5) (.assign (.const (.bool true))) none] [4, 5])
  (.ret))))))))
theorem t_centoref01_Put : Txt Try.prog 102 62 [(.tmp 4), (.tmp 5)] c_centoref01_Put := txt_of (code := Try.f102.body.getD .ret) mixed (by kernel_rfl) Try.func102 (by kernel_rfl) Try.ntmps102 (by kernel_rfl) (ls := [([0, 1], []), ([], []), ([0, 1, 6], []), ([], []), ([0, 1, 6, 14], []), ([], []), ([4, 5], []), ([], []), ([999999, 0, 1, 6], []), ([0, 1, 6, 7], [(4, [0])]), ([], []), ([0, 1, 6, 7, 8], []), ([], []), ([0, 1, 6, 7, 8, 23], []), ([], []), ([999999, 0, 1, 6, 7, 8], []), ([0, 1, 6, 7, 8, 9], []), ([], []), ([0, 1, 6, 7, 8, 9, 33], []), ([], []), ([4, 5], []), ([], []), ([999999, 0, 1, 6, 7, 8, 9], []), ([0, 1, 6, 7, 8, 9, 10], []), ([], []), ([0, 1, 6, 7, 8, 9, 10, 39], []), ([], []), ([999999, 0, 1, 6, 7, 8, 9, 10], []), ([0, 1, 6, 7, 8, 9, 10], []), ([], []), ([0, 1, 6, 7, 8, 9, 10], []), ([999999, 0, 1, 6, 7, 8, 9], []), ([0, 1, 6, 7, 8, 9, 45], []), ([], []), ([0, 1, 6, 7, 8], []), ([999999, 0, 1, 6, 7, 8], []), ([0, 1, 6, 7, 8], []), ([999999, 7], []), ([4, 5], []), ([], [])]) (by kernel_rfl)


/-- cento/centolaw14.awake -/
def c_centolaw14_awake : CC :=
  .seq (.reg [co (some 0) (.assign (.const (.bool false))) none] [])
  (.seq (.reg [co (some 6) (.buildSlice 22 3 #[(0, (.const (.int .u64 8589934592))), (1, (.const (.int .u64 7))), (2, (.const (.int .u64 0)))]) none,
      co (some 7) (.buildSlice 38 1 #[(0, (.tmp 6))]) none,
      co (some 8) (.call { callee := (.value (.func 39)), args := #[(.tmp 7)], argTypes := #[38] }) none,
      co (some 9) (.call { callee := (.value (.func 38)), args := #[(.tmp 8)], argTypes := #[44] }) none,
      co (some 5) (.move (.tmp 9)) none,
      co (some 10) (.extract (.tmp 5) 0) none,
      co (some 11) (.extract (.tmp 5) 1) none,
      cn (some 1) (.alloc 47) none [0],
      co none (.store 47 (.tmp 1) (.tmp 10)) none,
      co (some 2) (.assign (.tmp 11)) none] [1, 2])
  (.seq (.reg [co (some 13) (.load 47 (.tmp 1)) none,
      co (some 14) (.call { callee := (.value (.func 40)), args := #[(.tmp 13), (.const (.int .i64 2))], argTypes := #[47, 3] }) none,
      co (some 12) (.move (.tmp 14)) none,
      co (some 15) (.extract (.tmp 12) 0) none,
      co (some 16) (.extract (.tmp 12) 1) none,
      co (some 3) (.assign (.tmp 15)) none,
      co (some 4) (.assign (.tmp 16)) none] [1, 2, 3, 4])
  (.seq (.reg [co (some 17) (.move (.tmp 2)) none,
      co (some 18) (.binOp .eql 49 (.tmp 17) (.const (.int .i64 0)) 49) none,
      co (some 19) (.move (.tmp 18)) none,
      co (some 20) (.move (.tmp 4)) (some (19, true)),
      co (some 21) (.binOp .eql 49 (.tmp 20) (.const (.int .i64 0)) 49) (some (19, true)),
      co (some 22) (.pick (.tmp 19) (.tmp 21) (.const (.bool false))) none,
      co (some 23) (.move (.tmp 22)) none,
      co (some 24) (.move (.tmp 3)) (some (23, true)),
      co (some 25) (.buildSlice 22 2 #[(0, (.const (.int .u64 4294967296))), (1, (.const (.int .u64 7)))]) (some (23, true)),
      co (some 26) (.call { callee := (.value (.func 42)), args := #[(.tmp 24), (.tmp 25)], argTypes := #[22, 22] }) (some (23, true)),
      co (some 27) (.pick (.tmp 23) (.tmp 26) (.const (.bool false))) none,
      co (some 28) (.move (.tmp 27)) none,
      co (some 29) (.load 47 (.tmp 1)) (some (28, true)),
      co (some 30) (.call { callee := (.value (.func 45)), args := #[(.tmp 29)], argTypes := #[47] }) (some (28, true)),
      co (some 31) (.binOp .eql 3 (.tmp 30) (.const (.int .i64 1)) 3) (some (28, true)),
      co (some 32) (.pick (.tmp 28) (.tmp 31) (.const (.bool false))) none,
      co (some 0) (.assign (.tmp 32)) none] [0])
  (.ret))))
theorem t_centolaw14_awake : Txt Try.prog 37 33 [(.tmp 0)] c_centolaw14_awake := txt_of (code := Try.f37.body.getD .ret) mixed (by kernel_rfl) Try.func37 (by kernel_rfl) Try.ntmps37 (by kernel_rfl) (ls := [([], []), ([], []), ([1, 2], [(7, [0])]), ([], []), ([1, 2, 3, 4], []), ([], []), ([0], []), ([], [])]) (by kernel_rfl)


/-- cento/centolaw14.CopyWords -/
def c_centolaw14_CopyWords : CC :=
  .seq (.reg [cn (some 4) (.box 40 (.tmp 1)) none [0],
      co (some 6) (.assign (.const (.bool false))) none] [0, 2, 4])
  (.seq (.reg [co (some 16) (.load 40 (.tmp 4)) none,
      co (some 17) (.call { callee := (.value (.func 19)), args := #[(.tmp 16)], argTypes := #[40] }) none,
      co none (.store 40 (.tmp 4) (.tmp 17)) none] [0, 2, 4])
  (.seq (.reg [co (some 19) (.move (.tmp 0)) none,
      co (some 20) (.load 40 (.tmp 4)) none,
      co (some 21) (.call { callee := (.value (.func 20)), args := #[(.tmp 19), (.tmp 20)], argTypes := #[38, 40] }) none,
      co (some 18) (.move (.tmp 21)) none,
      co (some 22) (.extract (.tmp 18) 0) none,
      co (some 23) (.extract (.tmp 18) 1) none,
      co (some 24) (.extract (.tmp 18) 2) none,
      cn (some 7) (.alloc 25) none [1],
      co none (.store 25 (.tmp 7) (.tmp 22)) none,
      co (some 8) (.assign (.tmp 23)) none,
      co (some 9) (.assign (.tmp 24)) none] [0, 2, 7, 9])
  (.seq (.seq (.reg [co (some 25) (.move (.tmp 9)) none,
        co (some 26) (.binOp .neq 3 (.tmp 25) (.const (.int .i64 0)) 3) none] [0, 2, 7, 26])
    (.cond (.tmp 26)
      (.seq (.reg [co (some 27) (.call { callee := (.value (.func 37)), args := #[], argTypes := #[] }) none,
          co (some 6) (.assign (.tmp 27)) none] [6])
      (.ret))
      (.skip)))
  (.keep [0, 2, 7] (.seq (.reg [co (some 29) (.move (.tmp 0)) none,
      co (some 30) (.call { callee := (.value (.func 39)), args := #[(.tmp 29)], argTypes := #[38] }) none,
      co (some 31) (.call { callee := (.value (.func 38)), args := #[(.tmp 30)], argTypes := #[44] }) none,
      co (some 28) (.move (.tmp 31)) none,
      co (some 32) (.extract (.tmp 28) 0) none,
      co (some 33) (.extract (.tmp 28) 1) none,
      cn (some 10) (.alloc 47) none [2],
      co none (.store 47 (.tmp 10) (.tmp 32)) none,
      co (some 11) (.assign (.tmp 33)) none] [2, 7, 10, 11])
  (.seq (.reg [co (some 35) (.load 47 (.tmp 10)) none,
      co (some 36) (.move (.tmp 2)) none,
      co (some 37) (.call { callee := (.value (.func 40)), args := #[(.tmp 35), (.tmp 36)], argTypes := #[47, 3] }) none,
      co (some 34) (.move (.tmp 37)) none,
      co (some 38) (.extract (.tmp 34) 0) none,
      co (some 39) (.extract (.tmp 34) 1) none,
      co (some 12) (.assign (.tmp 38)) none,
      co (some 13) (.assign (.tmp 39)) none] [2, 7, 11, 12, 13])
  (.seq (.reg [co (some 41) (.load 25 (.tmp 7)) none,
      co (some 42) (.move (.tmp 2)) none,
      co (some 43) (.call { callee := (.value (.func 41)), args := #[(.tmp 41), (.tmp 42)], argTypes := #[25, 3] }) none,
      co (some 40) (.move (.tmp 43)) none,
      co (some 44) (.extract (.tmp 40) 0) none,
      co (some 45) (.extract (.tmp 40) 1) none,
      co (some 14) (.assign (.tmp 44)) none,
      co (some 15) (.assign (.tmp 45)) none] [11, 12, 13, 14, 15])
  (.seq (.seq (.reg [co (some 46) (.move (.tmp 11)) none,
        co (some 47) (.binOp .neq 49 (.tmp 46) (.const (.int .i64 0)) 49) none,
        co (some 48) (.move (.tmp 47)) none,
        co (some 49) (.move (.tmp 15)) (some (48, false)),
        co (some 50) (.move (.tmp 13)) (some (48, false)),
        co (some 51) (.binOp .eql 49 (.tmp 50) (.const (.int .i64 0)) 49) (some (48, false)),
        co (some 52) (.binOp .neq 4 (.tmp 49) (.tmp 51) 4) (some (48, false)),
        co (some 53) (.pick (.tmp 48) (.const (.bool true)) (.tmp 52)) none,
        co (some 54) (.move (.tmp 53)) none,
        co (some 55) (.move (.tmp 15)) (some (54, false)),
        co (some 56) (.unOp .not 4 (.tmp 55)) (some (54, false)),
        co (some 57) (.move (.tmp 56)) (some (54, false)),
        co (some 58) (.move (.tmp 13)) (some (57, true)),
        co (some 59) (.binOp .neq 49 (.tmp 58) (.const (.int .i64 3)) 49) (some (57, true)),
        co (some 60) (.pick (.tmp 57) (.tmp 59) (.const (.bool false))) (some (54, false)),
        co (some 61) (.pick (.tmp 54) (.const (.bool true)) (.tmp 60)) none] [12, 14, 61])
    (.cond (.tmp 61)
      (.seq (.reg [co (some 6) (.assign (.const (.bool false))) none] [6])
      (.ret))
      (.skip)))
  (.keep [12, 14] (.seq (.reg [co (some 62) (.move (.tmp 12)) none,
      co (some 63) (.move (.tmp 14)) none,
      co (some 64) (.call { callee := (.value (.func 42)), args := #[(.tmp 62), (.tmp 63)], argTypes := #[22, 22] }) none,
      co (some 65) (.move (.tmp 64)) none,
      co (some 66) (.call { callee := (.value (.func 37)), args := #[], argTypes := #[] }) (some (65, true)),
      co (some 67) (.pick (.tmp 65) (.tmp 66) (.const (.bool false))) none,
      co (some 6) (.assign (.tmp 67)) none] [6])
  (.ret)))))))))))
theorem t_centolaw14_CopyWords : Txt Try.prog 10 68 [(.tmp 6)] c_centolaw14_CopyWords := txt_of (code := Try.f10.body.getD .ret) mixed (by kernel_rfl) Try.func10 (by kernel_rfl) Try.ntmps10 (by kernel_rfl) (ls := [([0, 2, 4], [(0, [0])]), ([], []), ([0, 2, 4], []), ([], []), ([0, 2, 7, 9], [(7, [1])]), ([], []), ([0, 2, 7, 26], []), ([], []), ([6], []), ([], []), ([999999, 0, 2, 7], []), ([2, 7, 10, 11], [(6, [2])]), ([], []), ([2, 7, 11, 12, 13], []), ([], []), ([11, 12, 13, 14, 15], []), ([], []), ([12, 14, 61], []), ([], []), ([6], []), ([], []), ([999999, 12, 14], []), ([6], []), ([], [])]) (by kernel_rfl)
end Go.Proofs.Ytigdcnlhgelkaaa
