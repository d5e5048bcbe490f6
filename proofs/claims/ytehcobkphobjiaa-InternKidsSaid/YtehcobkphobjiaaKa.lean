/-
  Texts, merged, without what is not reached.
-/
import Derived.Test.YtehcobkphobjiaaProg
import Derived.Test.YtehcobkphobjiaaGSimp
import Derived.KernelRfl
import Derived.Laws.BitsLemmas
import Derived.Laws.Bits64
import Derived.Laws.Bits64b
import Derived.Test.YtehcobkphobjiaaGLe
import Derived.Test.YtehcobkphobjiaaGCall2
import Derived.Test.YtehcobkphobjiaaGLo
import Derived.Test.YtehcobkphobjiaaGCall3
import Derived.Test.YtehcobkphobjiaaGFam
import Derived.Test.YtehcobkphobjiaaGOpen
/-
  The functions' text as data, and the facts on the types that they use: written by a program of ours (gen2.py) off the translation.
-/
namespace Go.Proofs.Ytehcobkphobjiaa
set_option linter.unusedVariables false
set_option linter.unusedSimpArgs false
set_option maxRecDepth 20000
open Go Go.G Go.Proofs
theorem mixed : Try.prog.follows .mixedOrders = true := by kernel_rfl
@[simp] theorem und_3 : Try.prog.underlying 3 = some (.int .i64) := by kernel_rfl
@[simp] theorem und_21 : Try.prog.underlying 21 = some (.int .i32) := by kernel_rfl
@[simp] theorem und_26 : Try.prog.underlying 26 = some (.int .u64) := by kernel_rfl
@[simp] theorem und_255 : Try.prog.underlying 255 = some (.int .u32) := by kernel_rfl
@[simp] theorem szT_3 : szT Try.prog 3 = some 1 := by kernel_rfl
@[simp] theorem szT_4 : szT Try.prog 4 = some 1 := by kernel_rfl
@[simp] theorem szT_170 : szT Try.prog 170 = some 8 := by kernel_rfl
@[simp] theorem szT_183 : szT Try.prog 183 = some 8 := by kernel_rfl
@[simp] theorem aggT_3 : aggT Try.prog 3 = some false := by kernel_rfl
@[simp] theorem aggT_4 : aggT Try.prog 4 = some false := by kernel_rfl
@[simp] theorem aggT_170 : aggT Try.prog 170 = some true := by kernel_rfl
@[simp] theorem aggT_183 : aggT Try.prog 183 = some true := by kernel_rfl
@[simp] theorem zeroT_170 : zeroT Try.prog 170 = some (Value.agg #[Value.int IntKind.i64 0, Value.int IntKind.i64 0, Value.int IntKind.i64 0, Value.int IntKind.i64 0, Value.int IntKind.i64 0, Value.int IntKind.i64 0, Value.int IntKind.i64 0, Value.bool false]) := by kernel_rfl
@[simp] theorem zeroT_183 : zeroT Try.prog 183 = some (Value.agg #[Value.int IntKind.i64 0, Value.int IntKind.i64 0, Value.int IntKind.i64 0, Value.int IntKind.i64 0, Value.int IntKind.i64 0, Value.int IntKind.i64 0, Value.int IntKind.i64 0, Value.bool false]) := by kernel_rfl
@[simp] theorem fieldOffT_183_0 : fieldOffT Try.prog 183 0 = some 0 := by kernel_rfl
@[simp] theorem fieldOffT_183_1 : fieldOffT Try.prog 183 1 = some 1 := by kernel_rfl
@[simp] theorem fieldOffT_183_2 : fieldOffT Try.prog 183 2 = some 2 := by kernel_rfl
@[simp] theorem fieldOffT_183_3 : fieldOffT Try.prog 183 3 = some 3 := by kernel_rfl
@[simp] theorem fieldOffT_183_4 : fieldOffT Try.prog 183 4 = some 4 := by kernel_rfl
@[simp] theorem fieldOffT_183_5 : fieldOffT Try.prog 183 5 = some 5 := by kernel_rfl
@[simp] theorem fieldOffT_183_6 : fieldOffT Try.prog 183 6 = some 6 := by kernel_rfl
@[simp] theorem fieldOffT_183_7 : fieldOffT Try.prog 183 7 = some 7 := by kernel_rfl
@[simp] theorem buildA_170 (ps : List (Nat × A)) : buildA Try.prog 170 ps = (fillA (fun i => ([(0, 1), (1, 1), (2, 1), (3, 1), (4, 1), (5, 1), (6, 1), (7, 1)] : List (Nat × Nat))[i]?) [A.v (Value.int IntKind.i64 0), A.v (Value.int IntKind.i64 0), A.v (Value.int IntKind.i64 0), A.v (Value.int IntKind.i64 0), A.v (Value.int IntKind.i64 0), A.v (Value.int IntKind.i64 0), A.v (Value.int IntKind.i64 0), A.v (Value.bool false)] ps).map A.agg := by kernel_rfl
@[simp] theorem buildA_183 (ps : List (Nat × A)) : buildA Try.prog 183 ps = (fillA (fun i => ([(0, 1), (1, 1), (2, 1), (3, 1), (4, 1), (5, 1), (6, 1), (7, 1)] : List (Nat × Nat))[i]?) [A.v (Value.int IntKind.i64 0), A.v (Value.int IntKind.i64 0), A.v (Value.int IntKind.i64 0), A.v (Value.int IntKind.i64 0), A.v (Value.int IntKind.i64 0), A.v (Value.int IntKind.i64 0), A.v (Value.int IntKind.i64 0), A.v (Value.bool false)] ps).map A.agg := by kernel_rfl
@[simp] theorem eqA_183 (x0 y0 : Int) (x1 y1 : Int) (x2 y2 : Int) (x3 y3 : Int) (x4 y4 : Int) (x5 y5 : Int) (x6 y6 : Int) (x7 y7 : Bool) : eqA Try.prog 100 183 (.agg [A.v (.int .i64 x0), A.v (.int .i64 x1), A.v (.int .i64 x2), A.v (.int .i64 x3), A.v (.int .i64 x4), A.v (.int .i64 x5), A.v (.int .i64 x6), A.v (.bool x7)]) (.agg [A.v (.int .i64 y0), A.v (.int .i64 y1), A.v (.int .i64 y2), A.v (.int .i64 y3), A.v (.int .i64 y4), A.v (.int .i64 y5), A.v (.int .i64 y6), A.v (.bool y7)]) = some (((x0 == y0) && ((x1 == y1) && ((x2 == y2) && ((x3 == y3) && ((x4 == y4) && ((x5 == y5) && ((x6 == y6) && ((x7 == y7) && (true)))))))))) := by kernel_rfl
@[simp] theorem eqG_183 : Try.prog.eqGuardType Try.prog.depth 183 = false := by kernel_rfl
/-- cento/ptr.within -/
def c_ptr_within : CC :=
  .seq (.reg [co (some 4) (.assign (.const (.bool false))) none] [0, 1])
  (.seq (.reg [co (some 5) (.move (.tmp 0)) none,
      co (some 6) (.binOp .geq 3 (.tmp 5) (.const (.int .i64 0)) 3) none,
      co (some 7) (.move (.tmp 6)) none,
      co (some 8) (.move (.tmp 0)) (some (7, true)),
      co (some 9) (.move (.tmp 1)) (some (7, true)),
      co (some 10) (.binOp .leq 3 (.tmp 8) (.tmp 9) 3) (some (7, true)),
      co (some 11) (.pick (.tmp 7) (.tmp 10) (.const (.bool false))) none,
      co (some 4) (.assign (.tmp 11)) none] [4])
  (.ret))
theorem t_ptr_within : Txt Try.prog 203 12 [(.tmp 4)] c_ptr_within := txt_of (code := Try.f203.body.getD .ret) mixed (by kernel_rfl) Try.func203 (by kernel_rfl) Try.ntmps203 (by kernel_rfl) (ls := [([0, 1], []), ([], []), ([4], []), ([], [])]) (by kernel_rfl)
/-- cento/ptr.Decode -/
def c_ptr_Decode : CC :=
  .seq (.reg [cn (some 2) (.alloc 183) none [0]] [0, 2])
  (.seq (.reg [co (some 4) (.move (.tmp 0)) none,
      co (some 5) (.convert 26 255 (.tmp 4)) none,
      co (some 6) (.convert 255 21 (.tmp 5)) none,
      co (some 7) (.convert 21 3 (.tmp 6)) none,
      co (some 8) (.binOp .shr 3 (.tmp 7) (.const (.int .u64 2)) 74) none,
      co (some 3) (.assign (.tmp 8)) none] [0, 2, 3])
  (.seq (.block 0
      (.seq (.reg [co (some 10) (.move (.tmp 0)) none,
          co (some 11) (.binOp .eql 26 (.tmp 10) (.const (.int .u64 0)) 26) none,
          co (some 9) (.assign (.tmp 11)) none] [0, 2, 3, 9])
      (.cond (.tmp 9)
        (.seq (.reg [co (some 12) (.build 183 #[]) none,
            co none (.store 183 (.tmp 2) (.tmp 12)) none] [2])
        (.ret))
        (.seq (.reg [co (some 14) (.move (.tmp 0)) none,
            co (some 15) (.binOp .and 26 (.tmp 14) (.const (.int .u64 3)) 26) none,
            co (some 16) (.binOp .eql 26 (.tmp 15) (.const (.int .u64 0)) 26) none,
            co (some 13) (.assign (.tmp 16)) none] [0, 2, 3, 13])
        (.cond (.tmp 13)
          (.seq (.reg [co (some 17) (.move (.tmp 3)) none,
              co (some 18) (.move (.tmp 0)) none,
              co (some 19) (.binOp .shr 26 (.tmp 18) (.const (.int .u64 32)) 74) none,
              co (some 20) (.binOp .and 26 (.tmp 19) (.const (.int .u64 65535)) 26) none,
              co (some 21) (.convert 26 3 (.tmp 20)) none,
              co (some 22) (.move (.tmp 0)) none,
              co (some 23) (.binOp .shr 26 (.tmp 22) (.const (.int .u64 48)) 74) none,
              co (some 24) (.convert 26 3 (.tmp 23)) none,
              co (some 25) (.build 183 #[(0, (.const (.int .i64 1))), (1, (.tmp 17)), (2, (.tmp 21)), (3, (.tmp 24))]) none,
              co none (.store 183 (.tmp 2) (.tmp 25)) none] [2])
          (.ret))
          (.seq (.reg [co (some 27) (.move (.tmp 0)) none,
              co (some 28) (.binOp .and 26 (.tmp 27) (.const (.int .u64 3)) 26) none,
              co (some 29) (.binOp .eql 26 (.tmp 28) (.const (.int .u64 1)) 26) none,
              co (some 26) (.assign (.tmp 29)) none] [0, 2, 3, 26])
          (.cond (.tmp 26)
            (.seq (.reg [co (some 30) (.move (.tmp 3)) none,
                co (some 31) (.move (.tmp 0)) none,
                co (some 32) (.binOp .shr 26 (.tmp 31) (.const (.int .u64 32)) 74) none,
                co (some 33) (.binOp .and 26 (.tmp 32) (.const (.int .u64 7)) 26) none,
                co (some 34) (.convert 26 3 (.tmp 33)) none,
                co (some 35) (.move (.tmp 0)) none,
                co (some 36) (.binOp .shr 26 (.tmp 35) (.const (.int .u64 35)) 74) none,
                co (some 37) (.convert 26 3 (.tmp 36)) none,
                co (some 38) (.build 183 #[(0, (.const (.int .i64 2))), (1, (.tmp 30)), (4, (.tmp 34)), (5, (.tmp 37))]) none,
                co none (.store 183 (.tmp 2) (.tmp 38)) none] [2])
            (.ret))
            (.seq (.reg [co (some 40) (.move (.tmp 0)) none,
                co (some 41) (.binOp .and 26 (.tmp 40) (.const (.int .u64 3)) 26) none,
                co (some 42) (.binOp .eql 26 (.tmp 41) (.const (.int .u64 2)) 26) none,
                co (some 39) (.assign (.tmp 42)) none] [0, 2, 39])
            (.cond (.tmp 39)
              (.seq (.reg [co (some 43) (.move (.tmp 0)) none,
                  co (some 44) (.binOp .shr 26 (.tmp 43) (.const (.int .u64 3)) 74) none,
                  co (some 45) (.binOp .and 26 (.tmp 44) (.const (.int .u64 536870911)) 26) none,
                  co (some 46) (.convert 26 3 (.tmp 45)) none,
                  co (some 47) (.move (.tmp 0)) none,
                  co (some 48) (.binOp .shr 26 (.tmp 47) (.const (.int .u64 32)) 74) none,
                  co (some 49) (.convert 26 3 (.tmp 48)) none,
                  co (some 50) (.move (.tmp 0)) none,
                  co (some 51) (.binOp .and 26 (.tmp 50) (.const (.int .u64 4)) 26) none,
                  co (some 52) (.binOp .neq 26 (.tmp 51) (.const (.int .u64 0)) 26) none,
                  co (some 53) (.build 183 #[(0, (.const (.int .i64 3))), (1, (.tmp 46)), (6, (.tmp 49)), (7, (.tmp 52))]) none,
                  co none (.store 183 (.tmp 2) (.tmp 53)) none] [2])
              (.ret))
              (.skip))))))))))
  (.keep [2] (.seq (.reg [co (some 54) (.build 183 #[(0, (.const (.int .i64 4)))]) none,
      co none (.store 183 (.tmp 2) (.tmp 54)) none] [2])
  (.ret)))))
theorem t_ptr_Decode : Txt Try.prog 172 55 [(.cell 2 183)] c_ptr_Decode := txt_of (code := Try.f172.body.getD .ret) mixed (by kernel_rfl) Try.func172 (by kernel_rfl) Try.ntmps172 (by kernel_rfl) (ls := [([0, 2], [(0, [0])]), ([], []), ([0, 2, 3], []), ([], []), ([0, 2, 3, 9], []), ([], []), ([2], []), ([], []), ([0, 2, 3, 13], []), ([], []), ([2], []), ([], []), ([0, 2, 3, 26], []), ([], []), ([2], []), ([], []), ([0, 2, 39], []), ([], []), ([2], []), ([], []), ([999999, 2], []), ([2], []), ([], [])]) (by kernel_rfl)
def l1_centoref04_field : CC :=
  .seq (.seq (.reg [co (some 11) (.move (.tmp 7)) none,
        co (some 12) (.move (.tmp 1)) none,
        co (some 13) (.binOp .lss 3 (.tmp 11) (.tmp 12) 3) none] [0, 1, 2, 7, 13])
    (.cond (.tmp 13)
      (.skip)
      (.exit 0)))
  (.keep [0, 1, 2, 7] (.seq (.block 1
      (.reg [co (some 16) (.move (.tmp 0)) none,
        co (some 17) (.binOp .quo 26 (.tmp 16) (.const (.int .u64 2)) 26) none,
        co (some 0) (.assign (.tmp 17)) none] [0, 1, 2, 7]))
  (.reg [co (some 14) (.move (.tmp 7)) none,
    co (some 15) (.binOp .add 3 (.tmp 14) (.const (.int .i64 1)) 3) none,
    co (some 7) (.assign (.tmp 15)) none] [0, 1, 2, 7])))
def l2_centoref04_field : CC :=
  .seq (.seq (.reg [co (some 18) (.move (.tmp 10)) none,
        co (some 19) (.move (.tmp 2)) none,
        co (some 20) (.binOp .lss 3 (.tmp 18) (.tmp 19) 3) none] [0, 2, 8, 9, 10, 20])
    (.cond (.tmp 20)
      (.skip)
      (.exit 2)))
  (.keep [0, 2, 8, 9, 10] (.seq (.block 3
      (.seq (.seq (.reg [co (some 23) (.move (.tmp 0)) none,
            co (some 24) (.binOp .rem 26 (.tmp 23) (.const (.int .u64 2)) 26) none,
            co (some 25) (.binOp .eql 26 (.tmp 24) (.const (.int .u64 1)) 26) none] [0, 2, 8, 9, 10, 25])
        (.cond (.tmp 25)
          (.reg [co (some 26) (.move (.tmp 8)) none,
            co (some 27) (.move (.tmp 9)) none,
            co (some 28) (.binOp .add 3 (.tmp 26) (.tmp 27) 3) none,
            co (some 8) (.assign (.tmp 28)) none] [0, 2, 8, 9, 10])
          (.skip)))
      (.keep [0, 2, 8, 9, 10] (.seq (.reg [co (some 29) (.move (.tmp 0)) none,
          co (some 30) (.binOp .quo 26 (.tmp 29) (.const (.int .u64 2)) 26) none,
          co (some 0) (.assign (.tmp 30)) none] [0, 2, 8, 9, 10])
      (.reg [co (some 31) (.move (.tmp 9)) none,
        co (some 32) (.binOp .mul 3 (.const (.int .i64 2)) (.tmp 31) 3) none,
        co (some 9) (.assign (.tmp 32)) none] [0, 2, 8, 9, 10])))))
  (.keep [0, 2, 8, 9, 10] (.reg [co (some 21) (.move (.tmp 10)) none,
    co (some 22) (.binOp .add 3 (.tmp 21) (.const (.int .i64 1)) 3) none,
    co (some 10) (.assign (.tmp 22)) none] [0, 2, 8, 9, 10]))))
/-- cento/centoref04.field -/
def c_centoref04_field : CC :=
  .seq (.reg [co (some 6) (.assign (.const (.int .i64 0))) none] [0, 1, 2])
  (.seq (.seq (.reg [co (some 7) (.assign (.const (.int .i64 0))) none] [0, 1, 2, 7])
    (.block 0
      (.loop l1_centoref04_field)))
  (.keep [0, 2] (.seq (.reg [co (some 8) (.assign (.const (.int .i64 0))) none,
      co (some 9) (.assign (.const (.int .i64 1))) none] [0, 2, 8, 9])
  (.seq (.seq (.reg [co (some 10) (.assign (.const (.int .i64 0))) none] [0, 2, 8, 9, 10])
    (.block 2
      (.loop l2_centoref04_field)))
  (.keep [8] (.seq (.reg [co (some 33) (.move (.tmp 8)) none,
      co (some 6) (.assign (.tmp 33)) none] [6])
  (.ret)))))))
theorem t_centoref04_field : Txt Try.prog 165 34 [(.tmp 6)] c_centoref04_field := txt_of (code := Try.f165.body.getD .ret) mixed (by kernel_rfl) Try.func165 (by kernel_rfl) Try.ntmps165 (by kernel_rfl) (ls := [([0, 1, 2], []), ([], []), ([0, 1, 2, 7], []), ([], []), ([0, 1, 2, 7, 13], []), ([], []), ([999999, 0, 1, 2, 7], []), ([0, 1, 2, 7], []), ([], []), ([0, 1, 2, 7], []), ([999999, 0, 2], []), ([0, 2, 8, 9], []), ([], []), ([0, 2, 8, 9, 10], []), ([], []), ([0, 2, 8, 9, 10, 20], []), ([], []), ([999999, 0, 2, 8, 9, 10], []), ([0, 2, 8, 9, 10, 25], []), ([], []), ([0, 2, 8, 9, 10], []), ([999999, 0, 2, 8, 9, 10], []), ([0, 2, 8, 9, 10], []), ([], []), ([0, 2, 8, 9, 10], []), ([999999, 0, 2, 8, 9, 10], []), ([0, 2, 8, 9, 10], []), ([999999, 8], []), ([6], []), ([], [])]) (by kernel_rfl)
def k1_centoref04_Decode : CC :=
  .seq (.seq (.reg [co (some 13) (.move (.tmp 0)) none,
        co (some 14) (.call { callee := (.value (.func 165)), args := #[(.tmp 13), (.const (.int .i64 0)), (.const (.int .i64 2))], argTypes := #[26, 3, 3] }) none] [0, 2, 3, 14])
    (.block 0
      (.seq (.reg [co (some 16) (.binOp .eql 3 (.tmp 14) (.const (.int .i64 0)) 3) none,
          co (some 15) (.assign (.tmp 16)) none] [0, 2, 3, 14, 15])
      (.cond (.tmp 15)
        (.seq (.reg [co (some 17) (.move (.tmp 3)) none,
            co (some 18) (.move (.tmp 0)) none,
            co (some 19) (.call { callee := (.value (.func 165)), args := #[(.tmp 18), (.const (.int .i64 32)), (.const (.int .i64 16))], argTypes := #[26, 3, 3] }) none,
            co (some 20) (.move (.tmp 0)) none,
            co (some 21) (.call { callee := (.value (.func 165)), args := #[(.tmp 20), (.const (.int .i64 48)), (.const (.int .i64 16))], argTypes := #[26, 3, 3] }) none,
            co (some 22) (.build 170 #[(0, (.const (.int .i64 1))), (1, (.tmp 17)), (2, (.tmp 19)), (3, (.tmp 21))]) none,
            co none (.store 170 (.tmp 2) (.tmp 22)) none] [2])
        (.ret))
        (.seq (.reg [co (some 24) (.binOp .eql 3 (.tmp 14) (.const (.int .i64 1)) 3) none,
            co (some 23) (.assign (.tmp 24)) none] [0, 2, 3, 14, 23])
        (.cond (.tmp 23)
          (.seq (.reg [co (some 25) (.move (.tmp 3)) none,
              co (some 26) (.move (.tmp 0)) none,
              co (some 27) (.call { callee := (.value (.func 165)), args := #[(.tmp 26), (.const (.int .i64 32)), (.const (.int .i64 3))], argTypes := #[26, 3, 3] }) none,
              co (some 28) (.move (.tmp 0)) none,
              co (some 29) (.call { callee := (.value (.func 165)), args := #[(.tmp 28), (.const (.int .i64 35)), (.const (.int .i64 29))], argTypes := #[26, 3, 3] }) none,
              co (some 30) (.build 170 #[(0, (.const (.int .i64 2))), (1, (.tmp 25)), (4, (.tmp 27)), (5, (.tmp 29))]) none,
              co none (.store 170 (.tmp 2) (.tmp 30)) none] [2])
          (.ret))
          (.seq (.reg [co (some 32) (.binOp .eql 3 (.tmp 14) (.const (.int .i64 2)) 3) none,
              co (some 31) (.assign (.tmp 32)) none] [0, 2, 31])
          (.cond (.tmp 31)
            (.seq (.reg [co (some 33) (.move (.tmp 0)) none,
                co (some 34) (.call { callee := (.value (.func 165)), args := #[(.tmp 33), (.const (.int .i64 3)), (.const (.int .i64 29))], argTypes := #[26, 3, 3] }) none,
                co (some 35) (.move (.tmp 0)) none,
                co (some 36) (.call { callee := (.value (.func 165)), args := #[(.tmp 35), (.const (.int .i64 32)), (.const (.int .i64 32))], argTypes := #[26, 3, 3] }) none,
                co (some 37) (.move (.tmp 0)) none,
                co (some 38) (.call { callee := (.value (.func 165)), args := #[(.tmp 37), (.const (.int .i64 2)), (.const (.int .i64 1))], argTypes := #[26, 3, 3] }) none,
                co (some 39) (.binOp .eql 3 (.tmp 38) (.const (.int .i64 1)) 3) none,
                co (some 40) (.build 170 #[(0, (.const (.int .i64 3))), (1, (.tmp 34)), (6, (.tmp 36)), (7, (.tmp 39))]) none,
                co none (.store 170 (.tmp 2) (.tmp 40)) none] [2])
            (.ret))
            (.skip)))))))))
  (.keep [2] (.seq (.reg [co (some 41) (.build 170 #[(0, (.const (.int .i64 4)))]) none,
      co none (.store 170 (.tmp 2) (.tmp 41)) none] [2])
  (.ret)))
/-- cento/centoref04.Decode -/
def c_centoref04_Decode : CC :=
  .seq (.reg [cn (some 2) (.alloc 170) none [0]] [0, 2])
  (.seq (.seq (.reg [co (some 4) (.move (.tmp 0)) none,
        co (some 5) (.binOp .eql 26 (.tmp 4) (.const (.int .u64 0)) 26) none] [0, 2, 5])
    (.cond (.tmp 5)
      (.seq (.reg [co (some 6) (.build 170 #[]) none,
          co none (.store 170 (.tmp 2) (.tmp 6)) none] [2])
      (.ret))
      (.skip)))
  (.keep [0, 2] (.seq (.reg [co (some 7) (.move (.tmp 0)) none,
      co (some 8) (.call { callee := (.value (.func 165)), args := #[(.tmp 7), (.const (.int .i64 2)), (.const (.int .i64 30))], argTypes := #[26, 3, 3] }) none,
      co (some 3) (.assign (.tmp 8)) none] [0, 2, 3])
  (.seq (.seq (.reg [co (some 9) (.move (.tmp 3)) none,
        co (some 10) (.binOp .geq 3 (.tmp 9) (.const (.int .i64 536870912)) 3) none] [0, 2, 3, 10])
    (.cond (.tmp 10)
      (.reg [co (some 11) (.move (.tmp 3)) none,
        co (some 12) (.binOp .sub 3 (.tmp 11) (.const (.int .i64 1073741824)) 3) none,
        co (some 3) (.assign (.tmp 12)) none] [0, 2, 3])
      (.skip)))
  (.keep [0, 2, 3] k1_centoref04_Decode)))))
theorem t_centoref04_Decode : Txt Try.prog 116 42 [(.cell 2 170)] c_centoref04_Decode := txt_of (code := Try.f116.body.getD .ret) mixed (by kernel_rfl) Try.func116 (by kernel_rfl) Try.ntmps116 (by kernel_rfl) (ls := [([0, 2], [(0, [0])]), ([], []), ([0, 2, 5], []), ([], []), ([2], []), ([], []), ([999999, 0, 2], []), ([0, 2, 3], []), ([], []), ([0, 2, 3, 10], []), ([], []), ([0, 2, 3], []), ([999999, 0, 2, 3], []), ([0, 2, 3, 14], []), ([], []), ([0, 2, 3, 14, 15], []), ([], []), ([2], []), ([], []), ([0, 2, 3, 14, 23], []), ([], []), ([2], []), ([], []), ([0, 2, 31], []), ([], []), ([2], []), ([], []), ([999999, 2], []), ([2], []), ([], [])]) (by kernel_rfl)
end Go.Proofs.Ytehcobkphobjiaa

/-
  Chapter 4's functions: what each answers.
-/
namespace Go.Proofs.Ytehcobkphobjiaa
set_option linter.unusedVariables false
set_option linter.unusedSimpArgs false
open Go Go.G Go.Proofs
abbrev iv (n : Int) : A := .v (.int .i64 n)
abbrev uv (n : Int) : A := .v (.int .u64 n)
abbrev bv (b : Bool) : A := .v (.bool b)
theorem within_spec (a b : Int) : G.Spec Try.prog 203 [iv a, iv b] (bv (decide (0 ≤ a) && decide (a ≤ b))) := by
  refine spec_of t_ptr_within (by simp) fun w0 I0 => ?_
  unfold c_ptr_within
  simp
  exact frz_bare rfl
theorem pow_half (w : Int) (m : Nat) : w / 2 / 2 ^ m = w / 2 ^ (m + 1) := by
  rw [Int.ediv_ediv_of_nonneg (by decide), Int.pow_succ, Int.mul_comm]
theorem i64_same {n : Int} (h0 : -9223372036854775808 ≤ n) (h1 : n < 9223372036854775808) : IntKind.i64.wrap n = n := by rw [IntKind.wrap_i64]; omega
theorem u64_same {n : Int} (h0 : 0 ≤ n) (h1 : n < 18446744073709551616) : IntKind.u64.wrap n = n := by rw [IntKind.wrap_u64]; omega
theorem field_l1 {n : Nat} {w0 : World} {I0 : Nat → Prop} {Q : Exit → Sta → Prop} {b k : Int} (hb : b < 1000) : ∀ (m : Nat) (w i : Int), 0 ≤ w → w < 18446744073709551616 → 0 ≤ i → i + m = b →
    Q (.exit 0) ⟨lk [(0, uv (w / 2 ^ m)), (1, iv b), (2, iv k), (7, iv b), (13, bv false)], lkH []⟩ →
    LoopC (cx Try.prog w0 I0 n) l1_centoref04_field Q ⟨lk [(0, uv w), (1, iv b), (2, iv k), (7, iv i)], lkH []⟩ := by
  intro m
  induction m with
  | zero =>
    intro w i h0 h1 h2 h3 hq
    have : i = b := by simpa using h3
    subst this
    refine loopC_once mixed l1_centoref04_field.eq_1 ?_
    simp
    simpa using hq
  | succ m ih =>
    intro w i h0 h1 h2 h3 hq
    refine loopC_once mixed l1_centoref04_field.eq_1 ?_
    have hi : i < b := by omega
    simp [hi]
    rw [i64_same (by omega) (by omega), Int.tdiv_eq_ediv_of_nonneg h0, u64_same (by omega) (by omega)]
    exact ih _ _ (by omega) (by omega) (by omega) (by omega) (by rw [pow_half]; exact hq)
theorem mod_half {w : Int} (m : Nat) (h0 : 0 ≤ w) : w % 2 ^ (m + 1) = w % 2 + 2 * (w / 2 % 2 ^ m) := by
  have hp : (0 : Int) < 2 ^ m := Int.pow_pos (by decide)
  have h1 : w / 2 % 2 ^ m = w / 2 - 2 ^ m * (w / 2 / 2 ^ m) := Int.emod_def ..
  have h2 : w % 2 ^ (m + 1) = w - 2 ^ (m + 1) * (w / 2 ^ (m + 1)) := Int.emod_def ..
  rw [h1, h2, pow_half, Int.pow_succ]
  have h3 : (2 : Int) ^ m * 2 * (w / (2 ^ m * 2)) = 2 * (2 ^ m * (w / (2 ^ m * 2))) := by rw [Int.mul_comm (2 ^ m) 2, Int.mul_assoc]
  rw [h3]
  omega
theorem field_l2 {n : Nat} {w0 : World} {I0 : Nat → Prop} {Q : Exit → Sta → Prop} {k : Int} (hb : k < 1000) : ∀ (m : Nat) (w i a p : Int), 0 ≤ w → w < 18446744073709551616 → 0 ≤ i → i + m = k →
    0 ≤ a → 0 < p → a < p → p * 2 ^ m ≤ 4611686018427387904 →
    (∀ w' p', Q (.exit 2) ⟨lk [(0, uv w'), (2, iv k), (8, iv (a + p * (w % 2 ^ m))), (9, iv p'), (10, iv k), (20, bv false)], lkH []⟩) →
    LoopC (cx Try.prog w0 I0 n) l2_centoref04_field Q ⟨lk [(0, uv w), (2, iv k), (8, iv a), (9, iv p), (10, iv i)], lkH []⟩ := by
  intro m
  induction m with
  | zero =>
    intro w i a p h0 h1 h2 h3 h4 h5 h6 h7 hq
    have : i = k := by simpa using h3
    subst this
    refine loopC_once mixed l2_centoref04_field.eq_1 ?_
    simp
    simpa using hq w p
  | succ m ih =>
    intro w i a p h0 h1 h2 h3 h4 h5 h6 h7 hq
    have hp : (0 : Int) < 2 ^ m := Int.pow_pos (by decide)
    have h8 : p * 2 ≤ 4611686018427387904 := by
      refine Int.le_trans ?_ h7
      refine Int.mul_le_mul_of_nonneg_left ?_ (by omega)
      rw [Int.pow_succ]; omega
    have h9 : 2 * p * 2 ^ m ≤ 4611686018427387904 := by
      have : 2 * p * 2 ^ m = p * 2 ^ (m + 1) := by rw [Int.pow_succ, Int.mul_comm 2 p, Int.mul_assoc, Int.mul_comm 2]
      omega
    refine loopC_once mixed l2_centoref04_field.eq_1 ?_
    have hi : i < k := by omega
    simp [hi]
    rw [i64_same (n := i + 1) (by omega) (by omega), Int.tdiv_eq_ediv_of_nonneg h0, Int.tmod_eq_emod_of_nonneg h0, u64_same (n := w / 2) (by omega) (by omega), i64_same (n := a + p) (by omega) (by omega), i64_same (n := 2 * p) (by omega) (by omega)]
    constructor
    · intro hw
      refine ih _ _ _ _ (by omega) (by omega) (by omega) (by omega) (by omega) (by omega) (by omega) h9 (fun w' p' => ?_)
      have := hq w' p'
      rw [mod_half m h0, hw, Int.mul_add, ← Int.mul_assoc, Int.mul_comm p 2, Int.mul_one, ← Int.add_assoc] at this
      exact this
    · intro hw
      have hw : w % 2 = 0 := by omega
      refine ih _ _ _ _ (by omega) (by omega) (by omega) (by omega) (by omega) (by omega) (by omega) h9 (fun w' p' => ?_)
      have := hq w' p'
      rw [mod_half m h0, hw, Int.mul_add, ← Int.mul_assoc, Int.mul_comm p 2, Int.mul_zero, Int.zero_add] at this
      exact this
theorem field_spec {w : Int} (h0 : 0 ≤ w) (h1 : w < 18446744073709551616) (b k : Nat) (hb : b < 100) (hk : k ≤ 32) : G.Spec Try.prog 165 [uv w, iv b, iv k] (iv (w / 2 ^ b % 2 ^ k)) := by
  refine spec_of t_centoref04_field (by simp) fun w0 I0 => ?_
  have hp : (0 : Int) < 2 ^ b := Int.pow_pos (by decide)
  have hq : (2 : Int) ^ k ≤ 4294967296 := by
    have h2 := Int.ofNat_le.2 (Nat.pow_le_pow_right (n := 2) (by decide) hk)
    rw [Int.natCast_pow] at h2
    exact h2
  unfold c_centoref04_field
  simp
  refine field_l1 (b := b) (k := k) (by omega) b w 0 h0 h1 (by omega) (by omega) ?_
  simp
  refine field_l2 (k := k) (by omega) k _ 0 0 1 (Int.ediv_nonneg h0 (by omega)) ?_ (by omega) (by omega) (by omega) (by omega) (by omega) (by omega) (fun w' p' => ?_)
  · exact Int.lt_of_le_of_lt (Int.ediv_le_self _ h0) h1
  simp
  exact frz_bare rfl
/-- A pointer, as numbers. -/
structure Pt where
  (kind off data ptrs code count seg : Int)
  dbl : Bool
deriving DecidableEq
@[simp] def Pt.a (p : Pt) : A := .agg [iv p.kind, iv p.off, iv p.data, iv p.ptrs, iv p.code, iv p.count, iv p.seg, bv p.dbl]
/-- The offset in a word's lower half. -/
def offs (w : Int) : Int := if w / 4 % 1073741824 < 536870912 then w / 4 % 1073741824 else w / 4 % 1073741824 - 1073741824
/-- A word's pointer. -/
def dec (w : Int) : Pt :=
  if w = 0 then ⟨0, 0, 0, 0, 0, 0, 0, false⟩
  else if w % 4 = 0 then ⟨1, offs w, w / 4294967296 % 65536, w / 281474976710656, 0, 0, 0, false⟩
  else if w % 4 = 1 then ⟨2, offs w, 0, 0, w / 4294967296 % 8, w / 34359738368, 0, false⟩
  else if w % 4 = 2 then ⟨3, w / 8 % 536870912, 0, 0, 0, 0, w / 4294967296, decide (w / 4 % 2 = 1)⟩
  else ⟨4, 0, 0, 0, 0, 0, 0, false⟩
theorem refDecode_spec {w : Int} (h0 : 0 ≤ w) (h1 : w < 18446744073709551616) : G.Spec Try.prog 116 [uv w] (dec w).a := by
  refine spec_of t_centoref04_Decode (by simp) fun w0 I0 => ?_
  unfold c_centoref04_Decode
  simp
  refine ⟨fun hw => ?_, fun hw => ?_⟩
  · subst hw; exact frz_bare rfl
  refine sc_call (field_spec h0 h1 2 30 (by decide) (by decide)) rfl ?_
  simp
  have hd : dec w = if w % 4 = 0 then ⟨1, offs w, w / 4294967296 % 65536, w / 281474976710656, 0, 0, 0, false⟩
    else if w % 4 = 1 then ⟨2, offs w, 0, 0, w / 4294967296 % 8, w / 34359738368, 0, false⟩
    else if w % 4 = 2 then ⟨3, w / 8 % 536870912, 0, 0, 0, 0, w / 4294967296, decide (w / 4 % 2 = 1)⟩
    else ⟨4, 0, 0, 0, 0, 0, 0, false⟩ := by rw [dec, if_neg hw]
  have ho : IntKind.i64.wrap (w / 4 % 1073741824 - 1073741824) = w / 4 % 1073741824 - 1073741824 := i64_same (by omega) (by omega)
  rw [ho]
  have hk : ∀ z : Int, w / 2 ^ 0 % 2 ^ 2 = z ↔ w % 4 = z := fun z => by simp
  have e32 : w / 2 ^ 32 % 2 ^ 16 = w / 4294967296 % 65536 := rfl
  have e48 : w / 2 ^ 48 % 2 ^ 16 = w / 281474976710656 := by show w / 281474976710656 % 65536 = _; omega
  have e35 : w / 2 ^ 35 % 2 ^ 29 = w / 34359738368 := by show w / 34359738368 % 536870912 = _; omega
  have e33 : w / 2 ^ 32 % 2 ^ 32 = w / 4294967296 := by show w / 4294967296 % 4294967296 = _; omega
  refine ⟨fun h => ?_, fun h => ?_⟩
  all_goals
    first
      | rw [← show offs w = w / 4 % 1073741824 - 1073741824 from if_neg (by omega)]
      | rw [← show offs w = w / 4 % 1073741824 from if_pos (by omega)]
    rw [k1_centoref04_Decode.eq_1]
    simp
    refine sc_call (field_spec h0 h1 0 2 (by decide) (by decide)) rfl ?_
    simp
    refine ⟨fun h => ?_, fun h => ?_⟩
    · refine sc_call (field_spec h0 h1 32 16 (by decide) (by decide)) rfl ?_
      simp
      refine sc_call (field_spec h0 h1 48 16 (by decide) (by decide)) rfl ?_
      rw [e48]
      simp
      rw [hd, if_pos h]
      exact frz_bare rfl
    refine ⟨fun h => ?_, fun h => ?_⟩
    · refine sc_call (field_spec h0 h1 32 3 (by decide) (by decide)) rfl ?_
      simp
      refine sc_call (field_spec h0 h1 35 29 (by decide) (by decide)) rfl ?_
      rw [e35]
      simp
      rw [hd, if_neg (by omega), if_pos h]
      exact frz_bare rfl
    refine ⟨fun h => ?_, fun h => ?_⟩
    · refine sc_call (field_spec h0 h1 3 29 (by decide) (by decide)) rfl ?_
      simp
      refine sc_call (field_spec h0 h1 32 32 (by decide) (by decide)) rfl ?_
      rw [e33]
      simp
      refine sc_call (field_spec h0 h1 2 1 (by decide) (by decide)) rfl ?_
      simp
      rw [hd, if_neg (by omega), if_neg (by omega), if_pos h]
      exact frz_bare rfl
    · rw [hd, if_neg (by omega), if_neg (by omega), if_neg (by omega)]
      exact frz_bare rfl
end Go.Proofs.Ytehcobkphobjiaa

/-
  Chapter 4's functions: the program's own.
-/
namespace Go.Proofs.Ytehcobkphobjiaa
set_option linter.unusedVariables false
set_option linter.unusedSimpArgs false
open Go Go.G Go.Proofs
theorem u64_mask (i : Nat) (hi : i ≤ 64) {x : Int} (h0 : 0 ≤ x) (h1 : x < 18446744073709551616) : bits .and .u64 x (2 ^ i - 1) = x % 2 ^ i :=
  bits_mask .u64 64 (by decide) (fun n a b => u64_same a b) i hi x h0 h1
theorem u64_and4 {x : Int} (h0 : 0 ≤ x) (h1 : x < 18446744073709551616) : (bits .and .u64 x 4 = 0) ↔ x / 4 % 2 = 0 := by
  obtain ⟨a, rfl⟩ := Int.eq_ofNat_of_zero_le h0
  have h2 := bits_and_u64_nat a 4 (by omega) (by omega)
  have h3 : bits .and .u64 (a : Int) 4 = ((a &&& 4 : Nat) : Int) := h2
  rw [h3]
  have h4 : a &&& 4 = 4 * (a / 4 % 2) := by
    have e : a &&& 4 = (a % 8) &&& 4 := by
      rw [show a % 8 = a &&& 7 from (Nat.and_two_pow_sub_one_eq_mod a 3).symm, Nat.and_assoc]; rfl
    have d : ∀ r, r < 8 → r &&& 4 = 4 * (r / 4 % 2) := by decide
    rw [e, d _ (by omega)]
    omega
  rw [h4]
  omega
theorem i32_shr2 {w : Int} : (IntKind.i32.wrap (IntKind.u32.wrap w)) / 4 = offs w := by
  rw [IntKind.wrap_i32, IntKind.wrap_u32, offs]
  split <;> omega
theorem Decode_spec {w : Int} (h0 : 0 ≤ w) (h1 : w < 18446744073709551616) : G.Spec Try.prog 172 [uv w] (dec w).a := by
  refine spec_of t_ptr_Decode (by simp) fun w0 I0 => ?_
  unfold c_ptr_Decode
  simp [convA_int]
  have e3 : bits .and .u64 w 3 = w % 4 := u64_mask 2 (by decide) h0 h1
  have e1 : IntKind.i64.wrap (bits .and .u64 (w / 2 ^ min 32 IntKind.u64.bits) 65535) = w / 4294967296 % 65536 := by
    rw [show w / 2 ^ min 32 IntKind.u64.bits = w / 4294967296 from rfl, show bits .and .u64 (w / 4294967296) 65535 = w / 4294967296 % 65536 from u64_mask 16 (by decide) (by omega) (by omega)]
    exact i64_same (by omega) (by omega)
  have e2 : IntKind.i64.wrap (w / 2 ^ min 48 IntKind.u64.bits) = w / 281474976710656 := by
    rw [show w / 2 ^ min 48 IntKind.u64.bits = w / 281474976710656 from rfl]
    exact i64_same (by omega) (by omega)
  have e4 : IntKind.i64.wrap (bits .and .u64 (w / 2 ^ min 32 IntKind.u64.bits) 7) = w / 4294967296 % 8 := by
    rw [show w / 2 ^ min 32 IntKind.u64.bits = w / 4294967296 from rfl, show bits .and .u64 (w / 4294967296) 7 = w / 4294967296 % 8 from u64_mask 3 (by decide) (by omega) (by omega)]
    exact i64_same (by omega) (by omega)
  have e5 : IntKind.i64.wrap (w / 2 ^ min 35 IntKind.u64.bits) = w / 34359738368 := by
    rw [show w / 2 ^ min 35 IntKind.u64.bits = w / 34359738368 from rfl]
    exact i64_same (by omega) (by omega)
  have e6 : IntKind.i64.wrap (bits .and .u64 (w / 2 ^ min 3 IntKind.u64.bits) 536870911) = w / 8 % 536870912 := by
    rw [show w / 2 ^ min 3 IntKind.u64.bits = w / 8 from rfl, show bits .and .u64 (w / 8) 536870911 = w / 8 % 536870912 from u64_mask 29 (by decide) (by omega) (by omega)]
    exact i64_same (by omega) (by omega)
  have e7 : IntKind.i64.wrap (w / 2 ^ min 32 IntKind.u64.bits) = w / 4294967296 := by
    rw [show w / 2 ^ min 32 IntKind.u64.bits = w / 4294967296 from rfl]
    exact i64_same (by omega) (by omega)
  have e8 : (!decide (bits .and .u64 w 4 = 0)) = decide (w / 4 % 2 = 1) := by
    have := u64_and4 h0 h1
    by_cases h : w / 4 % 2 = 1
    · rw [decide_eq_true h, decide_eq_false (by rw [this]; omega)]; rfl
    · rw [decide_eq_false h, decide_eq_true (by rw [this]; omega)]; rfl
  have e9 : IntKind.i64.wrap (IntKind.i32.wrap (IntKind.u32.wrap w)) / 2 ^ min 2 IntKind.i64.bits = offs w := by
    rw [← i32_shr2, IntKind.wrap_i32, i64_same (by omega) (by omega)]
    rfl
  rw [e1, e2, e3, e4, e5, e6, e7, e8, e9]
  refine ⟨fun h => ?_, fun h => ⟨fun h2 => ?_, fun h2 => ⟨fun h3 => ?_, fun h3 => ⟨fun h4 => ?_, fun h4 => ?_⟩⟩⟩⟩
  · subst h; exact frz_bare rfl
  · rw [show dec w = _ from (if_neg h).trans (if_pos h2)]; exact frz_bare rfl
  · rw [show dec w = _ from (if_neg h).trans ((if_neg h2).trans (if_pos h3))]; exact frz_bare rfl
  · rw [show dec w = _ from (if_neg h).trans ((if_neg h2).trans ((if_neg h3).trans (if_pos h4)))]; exact frz_bare rfl
  · rw [show dec w = _ from (if_neg h).trans ((if_neg h2).trans ((if_neg h3).trans (if_neg h4)))]; exact frz_bare rfl
theorem offs_in (w : Int) : -536870912 ≤ offs w ∧ offs w < 536870912 ∧ offs w * 4 % 4294967296 = w / 4 % 1073741824 * 4 := by
  unfold offs
  split <;> omega
end Go.Proofs.Ytehcobkphobjiaa

/-
  The functions' text as data, and the facts on the types that they use: written by a program of ours (gen2.py) off the translation.
-/
namespace Go.Proofs.Ytehcobkphobjiaa
set_option linter.unusedVariables false
set_option linter.unusedSimpArgs false
set_option maxRecDepth 20000
open Go Go.G Go.Proofs
@[simp] theorem und_23 : Try.prog.underlying 23 = some (.slice 26) := by kernel_rfl
@[simp] theorem und_242 : Try.prog.underlying 242 = some (.array 8 5) := by kernel_rfl
@[simp] theorem und_246 : Try.prog.underlying 246 = some (.slice 5) := by kernel_rfl
@[simp] theorem und_262 : Try.prog.underlying 262 = some (.array 6 3) := by kernel_rfl
@[simp] theorem szT_5 : szT Try.prog 5 = some 1 := by kernel_rfl
@[simp] theorem szT_26 : szT Try.prog 26 = some 1 := by kernel_rfl
@[simp] theorem szT_242 : szT Try.prog 242 = some 8 := by kernel_rfl
@[simp] theorem szT_262 : szT Try.prog 262 = some 6 := by kernel_rfl
@[simp] theorem aggT_5 : aggT Try.prog 5 = some false := by kernel_rfl
@[simp] theorem aggT_26 : aggT Try.prog 26 = some false := by kernel_rfl
@[simp] theorem aggT_242 : aggT Try.prog 242 = some true := by kernel_rfl
@[simp] theorem zeroT_26 : zeroT Try.prog 26 = some (Value.int IntKind.u64 0) := by kernel_rfl
@[simp] theorem zeroT_262 : zeroT Try.prog 262 = some (Value.agg #[Value.int IntKind.i64 0, Value.int IntKind.i64 0, Value.int IntKind.i64 0, Value.int IntKind.i64 0, Value.int IntKind.i64 0, Value.int IntKind.i64 0]) := by kernel_rfl
@[simp] theorem bytesT_26 : bytesT Try.prog 26 = some 8 := by kernel_rfl
@[simp] theorem buildA_262 (ps : List (Nat × A)) : buildA Try.prog 262 ps = (fillA (fun i => some (i * 1, 1)) [A.v (Value.int IntKind.i64 0), A.v (Value.int IntKind.i64 0), A.v (Value.int IntKind.i64 0), A.v (Value.int IntKind.i64 0), A.v (Value.int IntKind.i64 0), A.v (Value.int IntKind.i64 0)] ps).map A.agg := by kernel_rfl
/-- cento/centoref01.Width -/
def c_centoref01_Width : CC :=
  .seq (.reg [co (some 2) (.assign (.const (.int .i64 0))) none] [0])
  (.seq (.seq (.reg [co (some 3) (.move (.tmp 0)) none] [3])
    (.block 0
      (.seq (.reg [co (some 5) (.binOp .eql 3 (.tmp 3) (.const (.int .i64 0)) 3) none,
          co (some 4) (.assign (.tmp 5)) none] [3, 4])
      (.cond (.tmp 4)
        (.seq (.reg [co (some 2) (.assign (.const (.int .i64 0))) none] [2])
        (.ret))
        (.seq (.reg [co (some 7) (.binOp .eql 3 (.tmp 3) (.const (.int .i64 1)) 3) none,
            co (some 6) (.assign (.tmp 7)) none] [3, 6])
        (.cond (.tmp 6)
          (.seq (.reg [co (some 2) (.assign (.const (.int .i64 1))) none] [2])
          (.ret))
          (.seq (.reg [co (some 9) (.binOp .eql 3 (.tmp 3) (.const (.int .i64 2)) 3) none,
              co (some 8) (.assign (.tmp 9)) none] [3, 8])
          (.cond (.tmp 8)
            (.seq (.reg [co (some 2) (.assign (.const (.int .i64 8))) none] [2])
            (.ret))
            (.seq (.reg [co (some 11) (.binOp .eql 3 (.tmp 3) (.const (.int .i64 3)) 3) none,
                co (some 10) (.assign (.tmp 11)) none] [3, 10])
            (.cond (.tmp 10)
              (.seq (.reg [co (some 2) (.assign (.const (.int .i64 16))) none] [2])
              (.ret))
              (.seq (.reg [co (some 13) (.binOp .eql 3 (.tmp 3) (.const (.int .i64 4)) 3) none,
                  co (some 12) (.assign (.tmp 13)) none] [3, 12])
              (.cond (.tmp 12)
                (.seq (.reg [co (some 2) (.assign (.const (.int .i64 32))) none] [2])
                (.ret))
                (.seq (.reg [co (some 15) (.binOp .eql 3 (.tmp 3) (.const (.int .i64 5)) 3) none,
                    co (some 14) (.assign (.tmp 15)) none] [14])
                (.cond (.tmp 14)
                  (.seq (.reg [co (some 2) (.assign (.const (.int .i64 64))) none] [2])
                  (.ret))
                  (.skip)))))))))))))))
  (.keep [] (.seq (.reg [co (some 2) (.assign (.const (.int .i64 (-1)))) none] [2])
  (.ret))))
theorem t_centoref01_Width : Txt Try.prog 160 16 [(.tmp 2)] c_centoref01_Width := txt_of (code := Try.f160.body.getD .ret) mixed (by kernel_rfl) Try.func160 (by kernel_rfl) Try.ntmps160 (by kernel_rfl) (ls := [([0], []), ([], []), ([3], []), ([], []), ([3, 4], []), ([], []), ([2], []), ([], []), ([3, 6], []), ([], []), ([2], []), ([], []), ([3, 8], []), ([], []), ([2], []), ([], []), ([3, 10], []), ([], []), ([2], []), ([], []), ([3, 12], []), ([], []), ([2], []), ([], []), ([14], []), ([], []), ([2], []), ([], []), ([999999], []), ([2], []), ([], [])]) (by kernel_rfl)
def l1_centoref01_Fits : CC :=
  .seq (.seq (.reg [co (some 11) (.move (.tmp 6)) none,
        co (some 12) (.move (.tmp 5)) none,
        co (some 13) (.binOp .lss 3 (.tmp 11) (.tmp 12) 3) none] [1, 5, 6, 13])
    (.cond (.tmp 13)
      (.skip)
      (.exit 0)))
  (.keep [1, 5, 6] (.seq (.block 1
      (.reg [co (some 16) (.move (.tmp 1)) none,
        co (some 17) (.binOp .quo 26 (.tmp 16) (.const (.int .u64 2)) 26) none,
        co (some 1) (.assign (.tmp 17)) none] [1, 5, 6]))
  (.reg [co (some 14) (.move (.tmp 6)) none,
    co (some 15) (.binOp .add 3 (.tmp 14) (.const (.int .i64 1)) 3) none,
    co (some 6) (.assign (.tmp 15)) none] [1, 5, 6])))
/-- cento/centoref01.Fits -/
def c_centoref01_Fits : CC :=
  .seq (.reg [co (some 4) (.assign (.const (.bool false))) none] [0, 1])
  (.seq (.reg [co (some 7) (.move (.tmp 0)) none,
      co (some 8) (.call { callee := (.value (.func 160)), args := #[(.tmp 7)], argTypes := #[3] }) none,
      co (some 5) (.assign (.tmp 8)) none] [1, 5])
  (.seq (.seq (.reg [co (some 9) (.move (.tmp 5)) none,
        co (some 10) (.binOp .lss 3 (.tmp 9) (.const (.int .i64 0)) 3) none] [1, 5, 10])
    (.cond (.tmp 10)
      (.seq (.reg [co (some 4) (.assign (.const (.bool false))) none] [4])
      (.ret))
      (.skip)))
  (.keep [1, 5] (.seq (.seq (.reg [co (some 6) (.assign (.const (.int .i64 0))) none] [1, 5, 6])
    (.block 0
      (.loop l1_centoref01_Fits)))
  (.keep [1] (.seq (.reg [co (some 18) (.move (.tmp 1)) none,
      co (some 19) (.binOp .eql 26 (.tmp 18) (.const (.int .u64 0)) 26) none,
      co (some 4) (.assign (.tmp 19)) none] [4])
  (.ret)))))))
theorem t_centoref01_Fits : Txt Try.prog 107 20 [(.tmp 4)] c_centoref01_Fits := txt_of (code := Try.f107.body.getD .ret) mixed (by kernel_rfl) Try.func107 (by kernel_rfl) Try.ntmps107 (by kernel_rfl) (ls := [([0, 1], []), ([], []), ([1, 5], []), ([], []), ([1, 5, 10], []), ([], []), ([4], []), ([], []), ([999999, 1, 5], []), ([1, 5, 6], []), ([], []), ([1, 5, 6, 13], []), ([], []), ([999999, 1, 5, 6], []), ([1, 5, 6], []), ([], []), ([1, 5, 6], []), ([999999, 1], []), ([4], []), ([], [])]) (by kernel_rfl)
/-- cento/centoref01.Room -/
def c_centoref01_Room : CC :=
  .seq (.reg [co (some 4) (.assign (.const (.int .i64 0))) none] [0, 1])
  (.seq (.seq (.reg [co (some 6) (.move (.tmp 0)) none,
        co (some 7) (.call { callee := (.value (.func 160)), args := #[(.tmp 6)], argTypes := #[3] }) none,
        co (some 8) (.binOp .lss 3 (.tmp 7) (.const (.int .i64 1)) 3) none,
        co (some 9) (.move (.tmp 8)) none,
        co (some 10) (.move (.tmp 1)) (some (9, false)),
        co (some 11) (.binOp .lss 3 (.tmp 10) (.const (.int .i64 0)) 3) (some (9, false)),
        co (some 12) (.pick (.tmp 9) (.const (.bool true)) (.tmp 11)) none,
        co (some 13) (.move (.tmp 12)) none,
        co (some 14) (.move (.tmp 1)) (some (13, false)),
        co (some 15) (.binOp .gtr 3 (.tmp 14) (.const (.int .i64 1099511627776)) 3) (some (13, false)),
        co (some 16) (.pick (.tmp 13) (.const (.bool true)) (.tmp 15)) none] [0, 1, 16])
    (.cond (.tmp 16)
      (.seq (.reg [co (some 4) (.assign (.const (.int .i64 0))) none] [4])
      (.ret))
      (.skip)))
  (.keep [0, 1] (.seq (.reg [co (some 17) (.move (.tmp 0)) none,
      co (some 18) (.call { callee := (.value (.func 160)), args := #[(.tmp 17)], argTypes := #[3] }) none,
      co (some 19) (.binOp .quo 3 (.const (.int .i64 64)) (.tmp 18) 3) none,
      co (some 5) (.assign (.tmp 19)) none] [1, 5])
  (.seq (.seq (.reg [co (some 20) (.move (.tmp 1)) none,
        co (some 21) (.move (.tmp 5)) none,
        co (some 22) (.binOp .rem 3 (.tmp 20) (.tmp 21) 3) none,
        co (some 23) (.binOp .gtr 3 (.tmp 22) (.const (.int .i64 0)) 3) none] [1, 5, 23])
    (.cond (.tmp 23)
      (.seq (.reg [co (some 24) (.move (.tmp 1)) none,
          co (some 25) (.move (.tmp 5)) none,
          co (some 26) (.binOp .quo 3 (.tmp 24) (.tmp 25) 3) none,
          co (some 27) (.binOp .add 3 (.tmp 26) (.const (.int .i64 1)) 3) none,
          co (some 4) (.assign (.tmp 27)) none] [4])
      (.ret))
      (.skip)))
  (.keep [1, 5] (.seq (.reg [co (some 28) (.move (.tmp 1)) none,
      co (some 29) (.move (.tmp 5)) none,
      co (some 30) (.binOp .quo 3 (.tmp 28) (.tmp 29) 3) none,
      co (some 4) (.assign (.tmp 30)) none] [4])
  (.ret)))))))
theorem t_centoref01_Room : Txt Try.prog 131 31 [(.tmp 4)] c_centoref01_Room := txt_of (code := Try.f131.body.getD .ret) mixed (by kernel_rfl) Try.func131 (by kernel_rfl) Try.ntmps131 (by kernel_rfl) (ls := [([0, 1], []), ([], []), ([0, 1, 16], []), ([], []), ([4], []), ([], []), ([999999, 0, 1], []), ([1, 5], []), ([], []), ([1, 5, 23], []), ([], []), ([4], []), ([], []), ([999999, 1, 5], []), ([4], []), ([], [])]) (by kernel_rfl)
def l1_centoref01_Same : CC :=
  .seq (.seq (.reg [co (some 11) (.move (.tmp 5)) none,
        co (some 12) (.move (.tmp 0)) none,
        co (some 13) (.call { callee := (.builtin .len), args := #[(.tmp 12)], argTypes := #[23] }) none,
        co (some 14) (.binOp .lss 3 (.tmp 11) (.tmp 13) 3) none] [0, 1, 5, 14])
    (.cond (.tmp 14)
      (.skip)
      (.exit 0)))
  (.keep [0, 1, 5] (.seq (.block 1
      (.seq (.reg [co (some 17) (.move (.tmp 0)) none,
          co (some 18) (.move (.tmp 5)) none,
          co (some 19) (.indexAddr 23 (.tmp 17) (.tmp 18)) none,
          co (some 20) (.load 26 (.tmp 19)) none,
          co (some 21) (.move (.tmp 1)) none,
          co (some 22) (.move (.tmp 5)) none,
          co (some 23) (.indexAddr 23 (.tmp 21) (.tmp 22)) none,
          co (some 24) (.load 26 (.tmp 23)) none,
          co (some 25) (.binOp .neq 26 (.tmp 20) (.tmp 24) 26) none] [0, 1, 5, 25])
      (.cond (.tmp 25)
        (.seq (.reg [co (some 4) (.assign (.const (.bool false))) none] [4])
        (.ret))
        (.skip))))
  (.keep [0, 1, 5] (.reg [co (some 15) (.move (.tmp 5)) none,
    co (some 16) (.binOp .add 3 (.tmp 15) (.const (.int .i64 1)) 3) none,
    co (some 5) (.assign (.tmp 16)) none] [0, 1, 5]))))
/-- cento/centoref01.Same -/
def c_centoref01_Same : CC :=
  .seq (.reg [co (some 4) (.assign (.const (.bool false))) none] [0, 1])
  (.seq (.seq (.reg [co (some 6) (.move (.tmp 0)) none,
        co (some 7) (.call { callee := (.builtin .len), args := #[(.tmp 6)], argTypes := #[23] }) none,
        co (some 8) (.move (.tmp 1)) none,
        co (some 9) (.call { callee := (.builtin .len), args := #[(.tmp 8)], argTypes := #[23] }) none,
        co (some 10) (.binOp .neq 3 (.tmp 7) (.tmp 9) 3) none] [0, 1, 10])
    (.cond (.tmp 10)
      (.seq (.reg [co (some 4) (.assign (.const (.bool false))) none] [4])
      (.ret))
      (.skip)))
  (.keep [0, 1] (.seq (.seq (.reg [co (some 5) (.assign (.const (.int .i64 0))) none] [0, 1, 5])
    (.block 0
      (.loop l1_centoref01_Same)))
  (.keep [] (.seq (.reg [co (some 4) (.assign (.const (.bool true))) none] [4])
  (.ret))))))
theorem t_centoref01_Same : Txt Try.prog 43 26 [(.tmp 4)] c_centoref01_Same := txt_of (code := Try.f43.body.getD .ret) mixed (by kernel_rfl) Try.func43 (by kernel_rfl) Try.ntmps43 (by kernel_rfl) (ls := [([0, 1], []), ([], []), ([0, 1, 10], []), ([], []), ([4], []), ([], []), ([999999, 0, 1], []), ([0, 1, 5], []), ([], []), ([0, 1, 5, 14], []), ([], []), ([999999, 0, 1, 5], []), ([0, 1, 5, 25], []), ([], []), ([4], []), ([], []), ([999999, 0, 1, 5], []), ([0, 1, 5], []), ([999999], []), ([4], []), ([], [])]) (by kernel_rfl)
def l1_centoref01_Bit : CC :=
  .seq (.seq (.reg [co (some 21) (.move (.tmp 6)) none,
        co (some 22) (.move (.tmp 1)) none,
        co (some 23) (.binOp .rem 3 (.tmp 22) (.const (.int .i64 64)) 3) none,
        co (some 24) (.binOp .lss 3 (.tmp 21) (.tmp 23) 3) none] [1, 5, 6, 24])
    (.cond (.tmp 24)
      (.skip)
      (.exit 0)))
  (.keep [1, 5, 6] (.seq (.block 1
      (.reg [co (some 27) (.move (.tmp 5)) none,
        co (some 28) (.binOp .quo 26 (.tmp 27) (.const (.int .u64 2)) 26) none,
        co (some 5) (.assign (.tmp 28)) none] [1, 5, 6]))
  (.reg [co (some 25) (.move (.tmp 6)) none,
    co (some 26) (.binOp .add 3 (.tmp 25) (.const (.int .i64 1)) 3) none,
    co (some 6) (.assign (.tmp 26)) none] [1, 5, 6])))
/-- cento/centoref01.Bit -/
def c_centoref01_Bit : CC :=
  .seq (.reg [co (some 4) (.assign (.const (.int .u64 0))) none] [0, 1])
  (.seq (.seq (.reg [co (some 7) (.move (.tmp 1)) none,
        co (some 8) (.binOp .lss 3 (.tmp 7) (.const (.int .i64 0)) 3) none,
        co (some 9) (.move (.tmp 8)) none,
        co (some 10) (.move (.tmp 1)) (some (9, false)),
        co (some 11) (.binOp .quo 3 (.tmp 10) (.const (.int .i64 64)) 3) (some (9, false)),
        co (some 12) (.move (.tmp 0)) (some (9, false)),
        co (some 13) (.call { callee := (.builtin .len), args := #[(.tmp 12)], argTypes := #[23] }) (some (9, false)),
        co (some 14) (.binOp .geq 3 (.tmp 11) (.tmp 13) 3) (some (9, false)),
        co (some 15) (.pick (.tmp 9) (.const (.bool true)) (.tmp 14)) none] [0, 1, 15])
    (.cond (.tmp 15)
      (.seq (.reg [co (some 4) (.assign (.const (.int .u64 0))) none] [4])
      (.ret))
      (.skip)))
  (.keep [0, 1] (.seq (.reg [co (some 16) (.move (.tmp 0)) none,
      co (some 17) (.move (.tmp 1)) none,
      co (some 18) (.binOp .quo 3 (.tmp 17) (.const (.int .i64 64)) 3) none,
      co (some 19) (.indexAddr 23 (.tmp 16) (.tmp 18)) none,
      co (some 20) (.load 26 (.tmp 19)) none,
      co (some 5) (.assign (.tmp 20)) none] [1, 5])
  (.seq (.seq (.reg [co (some 6) (.assign (.const (.int .i64 0))) none] [1, 5, 6])
    (.block 0
      (.loop l1_centoref01_Bit)))
  (.keep [5] (.seq (.reg [co (some 29) (.move (.tmp 5)) none,
      co (some 30) (.binOp .rem 26 (.tmp 29) (.const (.int .u64 2)) 26) none,
      co (some 4) (.assign (.tmp 30)) none] [4])
  (.ret)))))))
theorem t_centoref01_Bit : Txt Try.prog 199 31 [(.tmp 4)] c_centoref01_Bit := txt_of (code := Try.f199.body.getD .ret) mixed (by kernel_rfl) Try.func199 (by kernel_rfl) Try.ntmps199 (by kernel_rfl) (ls := [([0, 1], []), ([], []), ([0, 1, 15], []), ([], []), ([4], []), ([], []), ([999999, 0, 1], []), ([1, 5], []), ([], []), ([1, 5, 6], []), ([], []), ([1, 5, 6, 24], []), ([], []), ([999999, 1, 5, 6], []), ([1, 5, 6], []), ([], []), ([1, 5, 6], []), ([999999, 5], []), ([4], []), ([], [])]) (by kernel_rfl)
def l1_centoref01_Get : CC :=
  .seq (.seq (.reg [co (some 24) (.move (.tmp 9)) none,
        co (some 25) (.binOp .geq 3 (.tmp 24) (.const (.int .i64 0)) 3) none] [0, 2, 7, 8, 9, 25])
    (.cond (.tmp 25)
      (.skip)
      (.exit 0)))
  (.keep [0, 2, 7, 8, 9] (.seq (.block 1
      (.reg [co (some 28) (.move (.tmp 8)) none,
        co (some 29) (.binOp .mul 26 (.tmp 28) (.const (.int .u64 2)) 26) none,
        co (some 30) (.move (.tmp 0)) none,
        co (some 31) (.move (.tmp 2)) none,
        co (some 32) (.move (.tmp 7)) none,
        co (some 33) (.binOp .mul 3 (.tmp 31) (.tmp 32) 3) none,
        co (some 34) (.move (.tmp 9)) none,
        co (some 35) (.binOp .add 3 (.tmp 33) (.tmp 34) 3) none,
        co (some 36) (.call { callee := (.value (.func 199)), args := #[(.tmp 30), (.tmp 35)], argTypes := #[23, 3] }) none,
        co (some 37) (.binOp .add 26 (.tmp 29) (.tmp 36) 26) none,
        co (some 8) (.assign (.tmp 37)) none] [0, 2, 7, 8, 9]))
  (.reg [co (some 26) (.move (.tmp 9)) none,
    co (some 27) (.binOp .sub 3 (.tmp 26) (.const (.int .i64 1)) 3) none,
    co (some 9) (.assign (.tmp 27)) none] [0, 2, 7, 8, 9])))
/-- cento/centoref01.Get -/
def c_centoref01_Get : CC :=
  .seq (.reg [co (some 6) (.assign (.const (.int .u64 0))) none] [0, 1, 2])
  (.seq (.reg [co (some 10) (.move (.tmp 1)) none,
      co (some 11) (.call { callee := (.value (.func 160)), args := #[(.tmp 10)], argTypes := #[3] }) none,
      co (some 7) (.assign (.tmp 11)) none] [0, 2, 7])
  (.seq (.seq (.reg [co (some 12) (.move (.tmp 7)) none,
        co (some 13) (.binOp .lss 3 (.tmp 12) (.const (.int .i64 1)) 3) none,
        co (some 14) (.move (.tmp 13)) none,
        co (some 15) (.move (.tmp 2)) (some (14, false)),
        co (some 16) (.binOp .lss 3 (.tmp 15) (.const (.int .i64 0)) 3) (some (14, false)),
        co (some 17) (.pick (.tmp 14) (.const (.bool true)) (.tmp 16)) none,
        co (some 18) (.move (.tmp 17)) none,
        co (some 19) (.move (.tmp 2)) (some (18, false)),
        co (some 20) (.binOp .gtr 3 (.tmp 19) (.const (.int .i64 1099511627776)) 3) (some (18, false)),
        co (some 21) (.pick (.tmp 18) (.const (.bool true)) (.tmp 20)) none] [0, 2, 7, 21])
    (.cond (.tmp 21)
      (.seq (.reg [co (some 6) (.assign (.const (.int .u64 0))) none] [6])
      (.ret))
      (.skip)))
  (.keep [0, 2, 7] (.seq (.reg [co (some 8) (.assign (.const (.int .u64 0))) none] [0, 2, 7, 8])
  (.seq (.seq (.reg [co (some 22) (.move (.tmp 7)) none,
        co (some 23) (.binOp .sub 3 (.tmp 22) (.const (.int .i64 1)) 3) none,
        co (some 9) (.assign (.tmp 23)) none] [0, 2, 7, 8, 9])
    (.block 0
      (.loop l1_centoref01_Get)))
  (.keep [8] (.seq (.reg [co (some 38) (.move (.tmp 8)) none,
      co (some 6) (.assign (.tmp 38)) none] [6])
  (.ret))))))))
theorem t_centoref01_Get : Txt Try.prog 166 39 [(.tmp 6)] c_centoref01_Get := txt_of (code := Try.f166.body.getD .ret) mixed (by kernel_rfl) Try.func166 (by kernel_rfl) Try.ntmps166 (by kernel_rfl) (ls := [([0, 1, 2], []), ([], []), ([0, 2, 7], []), ([], []), ([0, 2, 7, 21], []), ([], []), ([6], []), ([], []), ([999999, 0, 2, 7], []), ([0, 2, 7, 8], []), ([], []), ([0, 2, 7, 8, 9], []), ([], []), ([0, 2, 7, 8, 9, 25], []), ([], []), ([999999, 0, 2, 7, 8, 9], []), ([0, 2, 7, 8, 9], []), ([], []), ([0, 2, 7, 8, 9], []), ([999999, 8], []), ([6], []), ([], [])]) (by kernel_rfl)
/-- cento/word.width -/
def c_word_width : CC :=
  .seq (.reg [co (some 2) (.assign (.const (.int .i64 0))) none,
      co (some 3) (.assign (.const (.bool false))) none] [0])
  (.seq (.reg [co (some 5) (.build 262 #[(0, (.const (.int .i64 0))), (1, (.const (.int .i64 1))), (2, (.const (.int .i64 8))), (3, (.const (.int .i64 16))), (4, (.const (.int .i64 32))), (5, (.const (.int .i64 64)))]) none,
      cn (some 4) (.alloc 262) none [0],
      co none (.store 262 (.tmp 4) (.tmp 5)) none] [0, 4])
  (.seq (.seq (.reg [co (some 6) (.move (.tmp 0)) none,
        co (some 7) (.binOp .lss 3 (.tmp 6) (.const (.int .i64 0)) 3) none,
        co (some 8) (.move (.tmp 7)) none,
        co (some 9) (.move (.tmp 0)) (some (8, false)),
        co (some 10) (.binOp .geq 3 (.tmp 9) (.const (.int .i64 6)) 3) (some (8, false)),
        co (some 11) (.pick (.tmp 8) (.const (.bool true)) (.tmp 10)) none] [0, 4, 11])
    (.cond (.tmp 11)
      (.seq (.reg [co (some 2) (.assign (.const (.int .i64 0))) none,
          co (some 3) (.assign (.const (.bool false))) none] [2, 3])
      (.ret))
      (.skip)))
  (.keep [0, 4] (.seq (.reg [co (some 12) (.move (.tmp 0)) none,
      co (some 13) (.indexAddr 262 (.tmp 4) (.tmp 12)) none,
      co (some 14) (.load 3 (.tmp 13)) none,
      co (some 2) (.assign (.tmp 14)) none,
      co (some 3) (.assign (.const (.bool true))) none] [2, 3])
  (.ret)))))
theorem t_word_width : Txt Try.prog 179 15 [(.tmp 2), (.tmp 3)] c_word_width := txt_of (code := Try.f179.body.getD .ret) mixed (by kernel_rfl) Try.func179 (by kernel_rfl) Try.ntmps179 (by kernel_rfl) (ls := [([0], []), ([], []), ([0, 4], [(1, [0])]), ([], []), ([0, 4, 11], []), ([], []), ([2, 3], []), ([], []), ([999999, 0, 4], []), ([2, 3], []), ([], [])]) (by kernel_rfl)
/-- cento/word.Width -/
def c_word_Width : CC :=
  .seq (.reg [co (some 2) (.assign (.const (.int .i64 0))) none,
      co (some 3) (.assign (.const (.bool false))) none] [0])
  (.seq (.reg [co (some 4) (.move (.tmp 0)) none,
      co (some 5) (.call { callee := (.value (.func 179)), args := #[(.tmp 4)], argTypes := #[3] }) none,
      co (some 6) (.extract (.tmp 5) 0) none,
      co (some 7) (.extract (.tmp 5) 1) none,
      co (some 2) (.assign (.tmp 6)) none,
      co (some 3) (.assign (.tmp 7)) none] [2, 3])
  (.ret))
theorem t_word_Width : Txt Try.prog 135 8 [(.tmp 2), (.tmp 3)] c_word_Width := txt_of (code := Try.f135.body.getD .ret) mixed (by kernel_rfl) Try.func135 (by kernel_rfl) Try.ntmps135 (by kernel_rfl) (ls := [([0], []), ([], []), ([2, 3], []), ([], [])]) (by kernel_rfl)
/-- cento/word.Get -/
def c_word_Get : CC :=
  .seq (.reg [co (some 6) (.assign (.const (.int .u64 0))) none] [0, 1, 2])
  (.seq (.reg [co (some 11) (.move (.tmp 1)) none,
      co (some 12) (.call { callee := (.value (.func 179)), args := #[(.tmp 11)], argTypes := #[3] }) none,
      co (some 10) (.move (.tmp 12)) none,
      co (some 13) (.extract (.tmp 10) 0) none,
      co (some 14) (.extract (.tmp 10) 1) none,
      co (some 7) (.assign (.tmp 13)) none,
      co (some 8) (.assign (.tmp 14)) none] [0, 2, 7, 8])
  (.seq (.seq (.reg [co (some 15) (.move (.tmp 8)) none,
        co (some 16) (.unOp .not 4 (.tmp 15)) none,
        co (some 17) (.move (.tmp 16)) none,
        co (some 18) (.move (.tmp 7)) (some (17, false)),
        co (some 19) (.binOp .eql 3 (.tmp 18) (.const (.int .i64 0)) 3) (some (17, false)),
        co (some 20) (.pick (.tmp 17) (.const (.bool true)) (.tmp 19)) none,
        co (some 21) (.move (.tmp 20)) none,
        co (some 22) (.move (.tmp 2)) (some (21, false)),
        co (some 23) (.binOp .lss 3 (.tmp 22) (.const (.int .i64 0)) 3) (some (21, false)),
        co (some 24) (.pick (.tmp 21) (.const (.bool true)) (.tmp 23)) none,
        co (some 25) (.move (.tmp 24)) none,
        co (some 26) (.move (.tmp 2)) (some (25, false)),
        co (some 27) (.binOp .gtr 3 (.tmp 26) (.const (.int .i64 1099511627776)) 3) (some (25, false)),
        co (some 28) (.pick (.tmp 25) (.const (.bool true)) (.tmp 27)) none,
        co (some 29) (.move (.tmp 28)) none,
        co (some 30) (.move (.tmp 2)) (some (29, false)),
        co (some 31) (.move (.tmp 7)) (some (29, false)),
        co (some 32) (.binOp .mul 3 (.tmp 30) (.tmp 31) 3) (some (29, false)),
        co (some 33) (.binOp .quo 3 (.tmp 32) (.const (.int .i64 64)) 3) (some (29, false)),
        co (some 34) (.move (.tmp 0)) (some (29, false)),
        co (some 35) (.call { callee := (.builtin .len), args := #[(.tmp 34)], argTypes := #[23] }) (some (29, false)),
        co (some 36) (.binOp .geq 3 (.tmp 33) (.tmp 35) 3) (some (29, false)),
        co (some 37) (.pick (.tmp 29) (.const (.bool true)) (.tmp 36)) none] [0, 2, 7, 37])
    (.cond (.tmp 37)
      (.seq (.reg [co (some 6) (.assign (.const (.int .u64 0))) none] [6])
      (.ret))
      (.skip)))
  (.keep [0, 2, 7] (.seq (.reg [co (some 38) (.move (.tmp 0)) none,
      co (some 39) (.move (.tmp 2)) none,
      co (some 40) (.move (.tmp 7)) none,
      co (some 41) (.binOp .mul 3 (.tmp 39) (.tmp 40) 3) none,
      co (some 42) (.binOp .quo 3 (.tmp 41) (.const (.int .i64 64)) 3) none,
      co (some 43) (.indexAddr 23 (.tmp 38) (.tmp 42)) none,
      co (some 44) (.load 26 (.tmp 43)) none,
      co (some 45) (.move (.tmp 2)) none,
      co (some 46) (.move (.tmp 7)) none,
      co (some 47) (.binOp .mul 3 (.tmp 45) (.tmp 46) 3) none,
      co (some 48) (.binOp .rem 3 (.tmp 47) (.const (.int .i64 64)) 3) none,
      co (some 49) (.binOp .shr 26 (.tmp 44) (.tmp 48) 3) none,
      co (some 9) (.assign (.tmp 49)) none] [7, 9])
  (.seq (.seq (.reg [co (some 50) (.move (.tmp 7)) none,
        co (some 51) (.binOp .eql 3 (.tmp 50) (.const (.int .i64 64)) 3) none] [7, 9, 51])
    (.cond (.tmp 51)
      (.seq (.reg [co (some 52) (.move (.tmp 9)) none,
          co (some 6) (.assign (.tmp 52)) none] [6])
      (.ret))
      (.skip)))
  (.keep [7, 9] (.seq (.reg [co (some 53) (.move (.tmp 9)) none,
      co (some 54) (.move (.tmp 7)) none,
      co (some 55) (.binOp .shl 26 (.const (.int .u64 1)) (.tmp 54) 3) none,
      co (some 56) (.binOp .sub 26 (.tmp 55) (.const (.int .u64 1)) 26) none,
      co (some 57) (.binOp .and 26 (.tmp 53) (.tmp 56) 26) none,
      co (some 6) (.assign (.tmp 57)) none] [6])
  (.ret))))))))
theorem t_word_Get : Txt Try.prog 136 58 [(.tmp 6)] c_word_Get := txt_of (code := Try.f136.body.getD .ret) mixed (by kernel_rfl) Try.func136 (by kernel_rfl) Try.ntmps136 (by kernel_rfl) (ls := [([0, 1, 2], []), ([], []), ([0, 2, 7, 8], []), ([], []), ([0, 2, 7, 37], []), ([], []), ([6], []), ([], []), ([999999, 0, 2, 7], []), ([7, 9], []), ([], []), ([7, 9, 51], []), ([], []), ([6], []), ([], []), ([999999, 7, 9], []), ([6], []), ([], [])]) (by kernel_rfl)
def l1_centoref07_Trim : CC :=
  .seq (.seq (.reg [co (some 7) (.move (.tmp 3)) none,
        co (some 8) (.binOp .gtr 3 (.tmp 7) (.const (.int .i64 0)) 3) none,
        co (some 9) (.move (.tmp 8)) none,
        co (some 10) (.move (.tmp 0)) (some (9, true)),
        co (some 11) (.move (.tmp 3)) (some (9, true)),
        co (some 12) (.binOp .sub 3 (.tmp 11) (.const (.int .i64 1)) 3) (some (9, true)),
        co (some 13) (.indexAddr 23 (.tmp 10) (.tmp 12)) (some (9, true)),
        co (some 14) (.load 26 (.tmp 13)) (some (9, true)),
        co (some 15) (.binOp .eql 26 (.tmp 14) (.const (.int .u64 0)) 26) (some (9, true)),
        co (some 16) (.pick (.tmp 9) (.tmp 15) (.const (.bool false))) none] [0, 3, 16])
    (.cond (.tmp 16)
      (.skip)
      (.exit 0)))
  (.keep [0, 3] (.block 1
    (.reg [co (some 17) (.move (.tmp 3)) none,
      co (some 18) (.binOp .sub 3 (.tmp 17) (.const (.int .i64 1)) 3) none,
      co (some 3) (.assign (.tmp 18)) none] [0, 3])))
/-- cento/centoref07.Trim -/
def c_centoref07_Trim : CC :=
  .seq (.reg [co (some 2) (.assign (.const (.slice none 0 0))) none] [0])
  (.seq (.reg [co (some 5) (.move (.tmp 0)) none,
      co (some 6) (.call { callee := (.builtin .len), args := #[(.tmp 5)], argTypes := #[23] }) none,
      co (some 3) (.assign (.tmp 6)) none] [0, 3])
  (.seq (.block 0
      (.loop l1_centoref07_Trim))
  (.keep [0, 3] (.seq (.reg [co (some 4) (.assign (.const (.slice none 0 0))) none] [0, 3, 4])
  (.seq (.reg [co (some 19) (.move (.tmp 4)) none,
      co (some 20) (.move (.tmp 0)) none,
      co (some 21) (.move (.tmp 3)) none,
      co (some 22) (.slice 23 (.tmp 20) none (some (.tmp 21)) none) none,
      cn (some 23) (.call { callee := (.builtin .append), args := #[(.tmp 19), (.tmp 22)], argTypes := #[23, 23] }) none [0],
      co (some 2) (.assign (.tmp 23)) none] [2])
  (.ret))))))
theorem t_centoref07_Trim : Txt Try.prog 87 24 [(.tmp 2)] c_centoref07_Trim := txt_of (code := Try.f87.body.getD .ret) mixed (by kernel_rfl) Try.func87 (by kernel_rfl) Try.ntmps87 (by kernel_rfl) (ls := [([0], []), ([], []), ([0, 3], []), ([], []), ([0, 3, 16], []), ([], []), ([999999, 0, 3], []), ([0, 3], []), ([999999, 0, 3], []), ([0, 3, 4], []), ([], []), ([2], [(4, [0])]), ([], [])]) (by kernel_rfl)
end Go.Proofs.Ytehcobkphobjiaa

/-
  The functions' text as data, and the facts on the types that they use: written by a program of ours (gen2.py) off the translation.
-/
namespace Go.Proofs.Ytehcobkphobjiaa
set_option linter.unusedVariables false
set_option linter.unusedSimpArgs false
set_option maxRecDepth 20000
open Go Go.G Go.Proofs
@[simp] theorem und_22 : Try.prog.underlying 22 = some (.slice 23) := by kernel_rfl
@[simp] theorem und_24 : Try.prog.underlying 24 = some (.pointer 113) := by kernel_rfl
@[simp] theorem und_274 : Try.prog.underlying 274 = some (.array 7 3) := by kernel_rfl
@[simp] theorem szT_22 : szT Try.prog 22 = some 1 := by kernel_rfl
@[simp] theorem szT_23 : szT Try.prog 23 = some 1 := by kernel_rfl
@[simp] theorem szT_172 : szT Try.prog 172 = some 10 := by kernel_rfl
@[simp] theorem szT_185 : szT Try.prog 185 = some 10 := by kernel_rfl
@[simp] theorem szT_274 : szT Try.prog 274 = some 7 := by kernel_rfl
@[simp] theorem aggT_22 : aggT Try.prog 22 = some false := by kernel_rfl
@[simp] theorem aggT_23 : aggT Try.prog 23 = some false := by kernel_rfl
@[simp] theorem aggT_172 : aggT Try.prog 172 = some true := by kernel_rfl
@[simp] theorem aggT_185 : aggT Try.prog 185 = some true := by kernel_rfl
@[simp] theorem zeroT_23 : zeroT Try.prog 23 = some (Value.slice none 0 0) := by kernel_rfl
@[simp] theorem zeroT_172 : zeroT Try.prog 172 = some (Value.agg #[Value.int IntKind.i64 0, Value.int IntKind.i64 0, Value.int IntKind.i64 0, Value.int IntKind.i64 0, Value.int IntKind.i64 0, Value.int IntKind.i64 0, Value.int IntKind.i64 0, Value.bool false, Value.int IntKind.i64 0, Value.int IntKind.i64 0]) := by kernel_rfl
@[simp] theorem zeroT_185 : zeroT Try.prog 185 = some (Value.agg #[Value.int IntKind.i64 0, Value.int IntKind.i64 0, Value.int IntKind.i64 0, Value.int IntKind.i64 0, Value.int IntKind.i64 0, Value.int IntKind.i64 0, Value.int IntKind.i64 0, Value.bool false, Value.int IntKind.i64 0, Value.int IntKind.i64 0]) := by kernel_rfl
@[simp] theorem zeroT_274 : zeroT Try.prog 274 = some (Value.agg #[Value.int IntKind.i64 0, Value.int IntKind.i64 0, Value.int IntKind.i64 0, Value.int IntKind.i64 0, Value.int IntKind.i64 0, Value.int IntKind.i64 0, Value.int IntKind.i64 0]) := by kernel_rfl
@[simp] theorem bytesT_23 : bytesT Try.prog 23 = some 24 := by kernel_rfl
@[simp] theorem fieldOffT_113_0 : fieldOffT Try.prog 113 0 = some 0 := by kernel_rfl
@[simp] theorem fieldOffT_170_0 : fieldOffT Try.prog 170 0 = some 0 := by kernel_rfl
@[simp] theorem fieldOffT_170_1 : fieldOffT Try.prog 170 1 = some 1 := by kernel_rfl
@[simp] theorem fieldOffT_170_2 : fieldOffT Try.prog 170 2 = some 2 := by kernel_rfl
@[simp] theorem fieldOffT_170_3 : fieldOffT Try.prog 170 3 = some 3 := by kernel_rfl
@[simp] theorem fieldOffT_170_4 : fieldOffT Try.prog 170 4 = some 4 := by kernel_rfl
@[simp] theorem fieldOffT_170_5 : fieldOffT Try.prog 170 5 = some 5 := by kernel_rfl
@[simp] theorem fieldOffT_170_6 : fieldOffT Try.prog 170 6 = some 6 := by kernel_rfl
@[simp] theorem fieldOffT_170_7 : fieldOffT Try.prog 170 7 = some 7 := by kernel_rfl
@[simp] theorem fieldOffT_172_0 : fieldOffT Try.prog 172 0 = some 0 := by kernel_rfl
@[simp] theorem fieldOffT_172_1 : fieldOffT Try.prog 172 1 = some 8 := by kernel_rfl
@[simp] theorem fieldOffT_172_2 : fieldOffT Try.prog 172 2 = some 9 := by kernel_rfl
@[simp] theorem fieldOffT_185_0 : fieldOffT Try.prog 185 0 = some 0 := by kernel_rfl
@[simp] theorem fieldOffT_185_1 : fieldOffT Try.prog 185 1 = some 8 := by kernel_rfl
@[simp] theorem fieldOffT_185_2 : fieldOffT Try.prog 185 2 = some 9 := by kernel_rfl
@[simp] theorem buildA_113 (ps : List (Nat × A)) : buildA Try.prog 113 ps = (fillA (fun i => ([(0, 1), (1, 1), (2, 1), (3, 1)] : List (Nat × Nat))[i]?) [A.sl true [], A.v (Value.int IntKind.i64 0), A.v (Value.int IntKind.i64 0), A.v (Value.int IntKind.i64 0)] ps).map A.agg := by kernel_rfl
@[simp] theorem buildA_172 (ps : List (Nat × A)) : buildA Try.prog 172 ps = (fillA (fun i => ([(0, 8), (8, 1), (9, 1)] : List (Nat × Nat))[i]?) [A.v (Value.int IntKind.i64 0), A.v (Value.int IntKind.i64 0), A.v (Value.int IntKind.i64 0), A.v (Value.int IntKind.i64 0), A.v (Value.int IntKind.i64 0), A.v (Value.int IntKind.i64 0), A.v (Value.int IntKind.i64 0), A.v (Value.bool false), A.v (Value.int IntKind.i64 0), A.v (Value.int IntKind.i64 0)] ps).map A.agg := by kernel_rfl
@[simp] theorem buildA_185 (ps : List (Nat × A)) : buildA Try.prog 185 ps = (fillA (fun i => ([(0, 8), (8, 1), (9, 1)] : List (Nat × Nat))[i]?) [A.v (Value.int IntKind.i64 0), A.v (Value.int IntKind.i64 0), A.v (Value.int IntKind.i64 0), A.v (Value.int IntKind.i64 0), A.v (Value.int IntKind.i64 0), A.v (Value.int IntKind.i64 0), A.v (Value.int IntKind.i64 0), A.v (Value.bool false), A.v (Value.int IntKind.i64 0), A.v (Value.int IntKind.i64 0)] ps).map A.agg := by kernel_rfl
@[simp] theorem buildA_274 (ps : List (Nat × A)) : buildA Try.prog 274 ps = (fillA (fun i => some (i * 1, 1)) [A.v (Value.int IntKind.i64 0), A.v (Value.int IntKind.i64 0), A.v (Value.int IntKind.i64 0), A.v (Value.int IntKind.i64 0), A.v (Value.int IntKind.i64 0), A.v (Value.int IntKind.i64 0), A.v (Value.int IntKind.i64 0)] ps).map A.agg := by kernel_rfl
/-- slices.Clone[[]uint64,uint64] -/
def c_slices_Clone_uint64_uint64 : CC :=
  .seq (.reg [co (some 2) (.assign (.const (.slice none 0 0))) none] [0])
  (.seq (.seq (.reg [co (some 3) (.move (.tmp 0)) none,
        co (some 4) (.binOp .eql 23 (.tmp 3) (.const (.slice none 0 0)) 23) none] [0, 4])
    (.cond (.tmp 4)
      (.seq (.reg [co (some 2) (.assign (.const (.slice none 0 0))) none] [2])
      (.ret))
      (.skip)))
  (.keep [0] (.seq (.reg [co (some 5) (.buildSlice 23 0 #[]) none,
      co (some 6) (.move (.tmp 0)) none,
      cn (some 7) (.call { callee := (.builtin .append), args := #[(.tmp 5), (.tmp 6)], argTypes := #[23, 23] }) none [0],
      co (some 2) (.assign (.tmp 7)) none] [2])
  (.ret))))
theorem t_slices_Clone_uint64_uint64 : Txt Try.prog 60 8 [(.tmp 2)] c_slices_Clone_uint64_uint64 := txt_of (code := Try.f60.body.getD .ret) mixed (by kernel_rfl) Try.func60 (by kernel_rfl) Try.ntmps60 (by kernel_rfl) (ls := [([0], []), ([], []), ([0, 4], []), ([], []), ([2], []), ([], []), ([999999, 0], []), ([2], [(2, [0])]), ([], [])]) (by kernel_rfl)
def l1_arena_Of : CC :=
  .seq (.reg [co (some 11) (.binOp .lss 3 (.tmp 10) (.tmp 9) 3) none] [3, 8, 9, 10, 11])
  (.seq (.cond (.tmp 11)
      (.skip)
      (.exit 0))
  (.keep [3, 8, 9, 10] (.seq (.block 1
      (.seq (.reg [co (some 12) (.indexAddr 22 (.tmp 8) (.tmp 10)) none,
          co (some 13) (.load 23 (.tmp 12)) none,
          co (some 5) (.assign (.tmp 13)) none] [3, 5, 8, 9, 10])
      (.reg [co (some 14) (.move (.tmp 3)) none,
        co (some 15) (.move (.tmp 3)) none,
        co (some 16) (.nilCheck (.tmp 15)) none,
        co (some 17) (.fieldAddr 113 (.tmp 16) 0) none,
        ⟨some 18, (.load 22 (.tmp 17)), none, [], 4, [], true⟩,
        co (some 19) (.move (.tmp 5)) none,
        ⟨some 20, (.call { callee := (.value (.func 60)), args := #[(.tmp 19)], argTypes := #[23] }), none, [], 6, [4], false⟩,
        ⟨some 21, (.buildSlice 22 1 #[(0, (.tmp 20))]), none, [], 7, [4], false⟩,
        cn (some 22) (.call { callee := (.builtin .append), args := #[(.tmp 18), (.tmp 21)], argTypes := #[22, 22] }) none [1],
        co (some 23) (.nilCheck (.tmp 14)) none,
        co (some 24) (.fieldAddr 113 (.tmp 23) 0) none,
        co none (.store 22 (.tmp 24) (.tmp 22)) none] [3, 8, 9, 10])))
  (.reg [co (some 25) (.binOp .add 3 (.tmp 10) (.const (.int .i64 1)) 3) none,
    co (some 10) (.move (.tmp 25)) none] [3, 8, 9, 10]))))
/-- cento/arena.Of -/
def c_arena_Of : CC :=
  .seq (.reg [co (some 2) (.assign (.const (.pointer none))) none] [0])
  (.seq (.reg [co (some 6) (.build 113 #[]) none,
      cn (some 7) (.box 113 (.tmp 6)) none [0],
      co (some 3) (.assign (.tmp 7)) none] [0, 3])
  (.seq (.seq (.reg [co (some 8) (.move (.tmp 0)) none,
        co (some 9) (.call { callee := (.builtin .len), args := #[(.tmp 8)], argTypes := #[22] }) none,
        co (some 10) (.move (.const (.int .i64 0))) none] [3, 8, 9, 10])
    (.block 0
      (.loop l1_arena_Of)))
  (.keep [3] (.seq (.reg [co (some 26) (.move (.tmp 3)) none,
      co (some 2) (.assign (.tmp 26)) none] [2])
  (.ret)))))
theorem t_arena_Of : Txt Try.prog 13 27 [(.tmp 2)] c_arena_Of := txt_of (code := Try.f13.body.getD .ret) mixed (by kernel_rfl) Try.func13 (by kernel_rfl) Try.ntmps13 (by kernel_rfl) (ls := [([0], []), ([], []), ([0, 3], [(1, [0])]), ([], []), ([3, 8, 9, 10], []), ([], []), ([3, 8, 9, 10, 11], []), ([], []), ([999999, 3, 8, 9, 10], []), ([3, 5, 8, 9, 10], []), ([], []), ([3, 8, 9, 10], [(8, [1])]), ([], []), ([3, 8, 9, 10], []), ([999999, 3], []), ([2], []), ([], [])]) (by kernel_rfl)
/-- (*cento/arena.Arena).Len -/
def c_arena_Arena_Len : CC :=
  .seq (.reg [co (some 2) (.assign (.const (.int .i64 0))) none] [0])
  (.seq (.seq (.reg [co (some 3) (.move (.tmp 0)) none,
        co (some 4) (.binOp .eql 24 (.tmp 3) (.const (.pointer none)) 24) none] [0, 4])
    (.cond (.tmp 4)
      (.seq (.reg [co (some 2) (.assign (.const (.int .i64 0))) none] [2])
      (.ret))
      (.skip)))
  (.keep [0] (.seq (.reg [co (some 5) (.move (.tmp 0)) none,
      co (some 6) (.nilCheck (.tmp 5)) none,
      co (some 7) (.fieldAddr 113 (.tmp 6) 0) none,
      co (some 8) (.load 22 (.tmp 7)) none,
      co (some 9) (.call { callee := (.builtin .len), args := #[(.tmp 8)], argTypes := #[22] }) none,
      co (some 2) (.assign (.tmp 9)) none] [2])
  (.ret))))
theorem t_arena_Arena_Len : Txt Try.prog 23 10 [(.tmp 2)] c_arena_Arena_Len := txt_of (code := Try.f23.body.getD .ret) mixed (by kernel_rfl) Try.func23 (by kernel_rfl) Try.ntmps23 (by kernel_rfl) (ls := [([0], []), ([], []), ([0, 4], []), ([], []), ([2], []), ([], []), ([999999, 0], []), ([2], []), ([], [])]) (by kernel_rfl)
/-- (*cento/arena.Arena).Size -/
def c_arena_Arena_Size : CC :=
  .seq (.reg [co (some 4) (.assign (.const (.int .i64 0))) none] [0, 1])
  (.seq (.seq (.reg [co (some 5) (.move (.tmp 1)) none,
        co (some 6) (.binOp .lss 3 (.tmp 5) (.const (.int .i64 0)) 3) none,
        co (some 7) (.move (.tmp 6)) none,
        co (some 8) (.move (.tmp 1)) (some (7, false)),
        co (some 9) (.move (.tmp 0)) (some (7, false)),
        co (some 10) (.call { callee := (.value (.func 23)), args := #[(.tmp 9)], argTypes := #[24] }) (some (7, false)),
        co (some 11) (.binOp .geq 3 (.tmp 8) (.tmp 10) 3) (some (7, false)),
        co (some 12) (.pick (.tmp 7) (.const (.bool true)) (.tmp 11)) none] [0, 1, 12])
    (.cond (.tmp 12)
      (.seq (.reg [co (some 4) (.assign (.const (.int .i64 0))) none] [4])
      (.ret))
      (.skip)))
  (.keep [0, 1] (.seq (.reg [co (some 13) (.move (.tmp 0)) none,
      co (some 14) (.nilCheck (.tmp 13)) none,
      co (some 15) (.fieldAddr 113 (.tmp 14) 0) none,
      co (some 16) (.load 22 (.tmp 15)) none,
      co (some 17) (.move (.tmp 1)) none,
      co (some 18) (.indexAddr 22 (.tmp 16) (.tmp 17)) none,
      co (some 19) (.load 23 (.tmp 18)) none,
      co (some 20) (.call { callee := (.builtin .len), args := #[(.tmp 19)], argTypes := #[23] }) none,
      co (some 4) (.assign (.tmp 20)) none] [4])
  (.ret))))
theorem t_arena_Arena_Size : Txt Try.prog 66 21 [(.tmp 4)] c_arena_Arena_Size := txt_of (code := Try.f66.body.getD .ret) mixed (by kernel_rfl) Try.func66 (by kernel_rfl) Try.ntmps66 (by kernel_rfl) (ls := [([0, 1], []), ([], []), ([0, 1, 12], []), ([], []), ([4], []), ([], []), ([999999, 0, 1], []), ([4], []), ([], [])]) (by kernel_rfl)
/-- (*cento/arena.Arena).Has -/
def c_arena_Arena_Has : CC :=
  .seq (.reg [co (some 8) (.assign (.const (.bool false))) none] [0, 1, 2, 3])
  (.seq (.reg [co (some 10) (.move (.tmp 0)) none,
      co (some 11) (.move (.tmp 1)) none,
      co (some 12) (.call { callee := (.value (.func 66)), args := #[(.tmp 10), (.tmp 11)], argTypes := #[24, 3] }) none,
      co (some 9) (.assign (.tmp 12)) none] [0, 1, 2, 3, 9])
  (.seq (.reg [co (some 13) (.move (.tmp 1)) none,
      co (some 14) (.binOp .geq 3 (.tmp 13) (.const (.int .i64 0)) 3) none,
      co (some 15) (.move (.tmp 14)) none,
      co (some 16) (.move (.tmp 1)) (some (15, true)),
      co (some 17) (.move (.tmp 0)) (some (15, true)),
      co (some 18) (.call { callee := (.value (.func 23)), args := #[(.tmp 17)], argTypes := #[24] }) (some (15, true)),
      co (some 19) (.binOp .lss 3 (.tmp 16) (.tmp 18) 3) (some (15, true)),
      co (some 20) (.pick (.tmp 15) (.tmp 19) (.const (.bool false))) none,
      co (some 21) (.move (.tmp 20)) none,
      co (some 22) (.move (.tmp 2)) (some (21, true)),
      co (some 23) (.binOp .geq 3 (.tmp 22) (.const (.int .i64 0)) 3) (some (21, true)),
      co (some 24) (.pick (.tmp 21) (.tmp 23) (.const (.bool false))) none,
      co (some 25) (.move (.tmp 24)) none,
      co (some 26) (.move (.tmp 3)) (some (25, true)),
      co (some 27) (.binOp .geq 3 (.tmp 26) (.const (.int .i64 0)) 3) (some (25, true)),
      co (some 28) (.pick (.tmp 25) (.tmp 27) (.const (.bool false))) none,
      co (some 29) (.move (.tmp 28)) none,
      co (some 30) (.move (.tmp 3)) (some (29, true)),
      co (some 31) (.move (.tmp 9)) (some (29, true)),
      co (some 32) (.binOp .leq 3 (.tmp 30) (.tmp 31) 3) (some (29, true)),
      co (some 33) (.pick (.tmp 29) (.tmp 32) (.const (.bool false))) none,
      co (some 34) (.move (.tmp 33)) none,
      co (some 35) (.move (.tmp 2)) (some (34, true)),
      co (some 36) (.move (.tmp 9)) (some (34, true)),
      co (some 37) (.move (.tmp 3)) (some (34, true)),
      co (some 38) (.binOp .sub 3 (.tmp 36) (.tmp 37) 3) (some (34, true)),
      co (some 39) (.binOp .leq 3 (.tmp 35) (.tmp 38) 3) (some (34, true)),
      co (some 40) (.pick (.tmp 34) (.tmp 39) (.const (.bool false))) none,
      co (some 8) (.assign (.tmp 40)) none] [8])
  (.ret)))
theorem t_arena_Arena_Has : Txt Try.prog 24 41 [(.tmp 8)] c_arena_Arena_Has := txt_of (code := Try.f24.body.getD .ret) mixed (by kernel_rfl) Try.func24 (by kernel_rfl) Try.ntmps24 (by kernel_rfl) (ls := [([0, 1, 2, 3], []), ([], []), ([0, 1, 2, 3, 9], []), ([], []), ([8], []), ([], [])]) (by kernel_rfl)
/-- (*cento/arena.Arena).Get -/
def c_arena_Arena_Get : CC :=
  .seq (.reg [co (some 6) (.assign (.const (.int .u64 0))) none,
      co (some 7) (.assign (.const (.bool false))) none] [0, 1, 2])
  (.seq (.seq (.reg [co (some 8) (.move (.tmp 0)) none,
        co (some 9) (.move (.tmp 1)) none,
        co (some 10) (.move (.tmp 2)) none,
        co (some 11) (.call { callee := (.value (.func 24)), args := #[(.tmp 8), (.tmp 9), (.tmp 10), (.const (.int .i64 1))], argTypes := #[24, 3, 3, 3] }) none,
        co (some 12) (.unOp .not 4 (.tmp 11)) none] [0, 1, 2, 12])
    (.cond (.tmp 12)
      (.seq (.reg [co (some 6) (.assign (.const (.int .u64 0))) none,
          co (some 7) (.assign (.const (.bool false))) none] [6, 7])
      (.ret))
      (.skip)))
  (.keep [0, 1, 2] (.seq (.reg [co (some 13) (.move (.tmp 0)) none,
      co (some 14) (.nilCheck (.tmp 13)) none,
      co (some 15) (.fieldAddr 113 (.tmp 14) 0) none,
      co (some 16) (.load 22 (.tmp 15)) none,
      co (some 17) (.move (.tmp 1)) none,
      co (some 18) (.indexAddr 22 (.tmp 16) (.tmp 17)) none,
      co (some 19) (.load 23 (.tmp 18)) none,
      co (some 20) (.move (.tmp 2)) none,
      co (some 21) (.indexAddr 23 (.tmp 19) (.tmp 20)) none,
      co (some 22) (.load 26 (.tmp 21)) none,
      co (some 6) (.assign (.tmp 22)) none,
      co (some 7) (.assign (.const (.bool true))) none] [6, 7])
  (.ret))))
theorem t_arena_Arena_Get : Txt Try.prog 26 23 [(.tmp 6), (.tmp 7)] c_arena_Arena_Get := txt_of (code := Try.f26.body.getD .ret) mixed (by kernel_rfl) Try.func26 (by kernel_rfl) Try.ntmps26 (by kernel_rfl) (ls := [([0, 1, 2], []), ([], []), ([0, 1, 2, 12], []), ([], []), ([6, 7], []), ([], []), ([999999, 0, 1, 2], []), ([6, 7], []), ([], [])]) (by kernel_rfl)
/-- (*cento/arena.Arena).Part -/
def c_arena_Arena_Part : CC :=
  .seq (.reg [co (some 8) (.assign (.const (.slice none 0 0))) none,
      co (some 9) (.assign (.const (.bool false))) none] [0, 1, 2, 3])
  (.seq (.seq (.reg [co (some 10) (.move (.tmp 0)) none,
        co (some 11) (.move (.tmp 1)) none,
        co (some 12) (.move (.tmp 2)) none,
        co (some 13) (.move (.tmp 3)) none,
        co (some 14) (.call { callee := (.value (.func 24)), args := #[(.tmp 10), (.tmp 11), (.tmp 12), (.tmp 13)], argTypes := #[24, 3, 3, 3] }) none,
        co (some 15) (.unOp .not 4 (.tmp 14)) none] [0, 1, 2, 3, 15])
    (.cond (.tmp 15)
      (.seq (.reg [co (some 8) (.assign (.const (.slice none 0 0))) none,
          co (some 9) (.assign (.const (.bool false))) none] [8, 9])
      (.ret))
      (.skip)))
  (.keep [0, 1, 2, 3] (.seq (.reg [co (some 16) (.move (.tmp 0)) none,
      co (some 17) (.nilCheck (.tmp 16)) none,
      co (some 18) (.fieldAddr 113 (.tmp 17) 0) none,
      co (some 19) (.load 22 (.tmp 18)) none,
      co (some 20) (.move (.tmp 1)) none,
      co (some 21) (.indexAddr 22 (.tmp 19) (.tmp 20)) none,
      co (some 22) (.load 23 (.tmp 21)) none,
      co (some 23) (.move (.tmp 2)) none,
      co (some 24) (.move (.tmp 2)) none,
      co (some 25) (.move (.tmp 3)) none,
      co (some 26) (.binOp .add 3 (.tmp 24) (.tmp 25) 3) none,
      co (some 27) (.slice 23 (.tmp 22) (some (.tmp 23)) (some (.tmp 26)) none) none,
      co (some 28) (.call { callee := (.value (.func 60)), args := #[(.tmp 27)], argTypes := #[23] }) none,
      co (some 8) (.assign (.tmp 28)) none,
      co (some 9) (.assign (.const (.bool true))) none] [8, 9])
  (.ret))))
theorem t_arena_Arena_Part : Txt Try.prog 27 29 [(.tmp 8), (.tmp 9)] c_arena_Arena_Part := txt_of (code := Try.f27.body.getD .ret) mixed (by kernel_rfl) Try.func27 (by kernel_rfl) Try.ntmps27 (by kernel_rfl) (ls := [([0, 1, 2, 3], []), ([], []), ([0, 1, 2, 3, 15], []), ([], []), ([8, 9], []), ([], []), ([999999, 0, 1, 2, 3], []), ([8, 9], []), ([], [])]) (by kernel_rfl)
/-- (cento/ptr.Ptr).Words -/
def c_ptr_Ptr_Words : CC :=
  .seq (.reg [cn (some 1) (.box 183 (.tmp 0)) none [0],
      co (some 2) (.assign (.const (.int .i64 0))) none,
      co (some 3) (.assign (.const (.bool false))) none] [1])
  (.seq (.reg [co (some 5) (.build 274 #[(0, (.const (.int .i64 0))), (1, (.const (.int .i64 1))), (2, (.const (.int .i64 8))), (3, (.const (.int .i64 16))), (4, (.const (.int .i64 32))), (5, (.const (.int .i64 64))), (6, (.const (.int .i64 64)))]) none,
      cn (some 4) (.alloc 274) none [1],
      co none (.store 274 (.tmp 4) (.tmp 5)) none] [1, 4])
  (.seq (.block 0
      (.seq (.reg [co (some 7) (.fieldAddr 183 (.tmp 1) 0) none,
          co (some 8) (.load 3 (.tmp 7)) none,
          co (some 9) (.binOp .eql 3 (.tmp 8) (.const (.int .i64 1)) 3) none,
          co (some 6) (.assign (.tmp 9)) none] [1, 4, 6])
      (.cond (.tmp 6)
        (.seq (.reg [co (some 10) (.fieldAddr 183 (.tmp 1) 2) none,
            co (some 11) (.load 3 (.tmp 10)) none,
            co (some 12) (.fieldAddr 183 (.tmp 1) 3) none,
            co (some 13) (.load 3 (.tmp 12)) none,
            co (some 14) (.binOp .add 3 (.tmp 11) (.tmp 13) 3) none,
            co (some 2) (.assign (.tmp 14)) none,
            co (some 3) (.assign (.const (.bool true))) none] [2, 3])
        (.ret))
        (.seq (.reg [co (some 16) (.fieldAddr 183 (.tmp 1) 0) none,
            co (some 17) (.load 3 (.tmp 16)) none,
            co (some 18) (.binOp .eql 3 (.tmp 17) (.const (.int .i64 2)) 3) none,
            co (some 19) (.move (.tmp 18)) none,
            co (some 20) (.fieldAddr 183 (.tmp 1) 4) (some (19, true)),
            co (some 21) (.load 3 (.tmp 20)) (some (19, true)),
            co (some 22) (.binOp .eql 3 (.tmp 21) (.const (.int .i64 7)) 3) (some (19, true)),
            co (some 23) (.pick (.tmp 19) (.tmp 22) (.const (.bool false))) none,
            co (some 15) (.assign (.tmp 23)) none] [1, 4, 15])
        (.cond (.tmp 15)
          (.seq (.reg [co (some 24) (.fieldAddr 183 (.tmp 1) 5) none,
              co (some 25) (.load 3 (.tmp 24)) none,
              co (some 26) (.binOp .add 3 (.tmp 25) (.const (.int .i64 1)) 3) none,
              co (some 2) (.assign (.tmp 26)) none,
              co (some 3) (.assign (.const (.bool true))) none] [2, 3])
          (.ret))
          (.seq (.reg [co (some 28) (.fieldAddr 183 (.tmp 1) 0) none,
              co (some 29) (.load 3 (.tmp 28)) none,
              co (some 30) (.binOp .eql 3 (.tmp 29) (.const (.int .i64 2)) 3) none,
              co (some 31) (.move (.tmp 30)) none,
              co (some 32) (.fieldAddr 183 (.tmp 1) 4) (some (31, true)),
              co (some 33) (.load 3 (.tmp 32)) (some (31, true)),
              co (some 34) (.call { callee := (.value (.func 203)), args := #[(.tmp 33), (.const (.int .i64 6))], argTypes := #[3, 3] }) (some (31, true)),
              co (some 35) (.pick (.tmp 31) (.tmp 34) (.const (.bool false))) none,
              co (some 36) (.move (.tmp 35)) none,
              co (some 37) (.fieldAddr 183 (.tmp 1) 5) (some (36, true)),
              co (some 38) (.load 3 (.tmp 37)) (some (36, true)),
              co (some 39) (.call { callee := (.value (.func 203)), args := #[(.tmp 38), (.const (.int .i64 536870911))], argTypes := #[3, 3] }) (some (36, true)),
              co (some 40) (.pick (.tmp 36) (.tmp 39) (.const (.bool false))) none,
              co (some 27) (.assign (.tmp 40)) none] [1, 4, 27])
          (.cond (.tmp 27)
            (.seq (.reg [co (some 41) (.fieldAddr 183 (.tmp 1) 5) none,
                co (some 42) (.load 3 (.tmp 41)) none,
                co (some 43) (.fieldAddr 183 (.tmp 1) 4) none,
                co (some 44) (.load 3 (.tmp 43)) none,
                co (some 45) (.indexAddr 274 (.tmp 4) (.tmp 44)) none,
                co (some 46) (.load 3 (.tmp 45)) none,
                co (some 47) (.binOp .mul 3 (.tmp 42) (.tmp 46) 3) none,
                co (some 48) (.binOp .add 3 (.tmp 47) (.const (.int .i64 63)) 3) none,
                co (some 49) (.binOp .quo 3 (.tmp 48) (.const (.int .i64 64)) 3) none,
                co (some 2) (.assign (.tmp 49)) none,
                co (some 3) (.assign (.const (.bool true))) none] [2, 3])
            (.ret))
            (.skip))))))))
  (.keep [] (.seq (.reg [co (some 2) (.assign (.const (.int .i64 0))) none,
      co (some 3) (.assign (.const (.bool false))) none] [2, 3])
  (.ret)))))
theorem t_ptr_Ptr_Words : Txt Try.prog 211 50 [(.tmp 2), (.tmp 3)] c_ptr_Ptr_Words := txt_of (code := Try.f211.body.getD .ret) mixed (by kernel_rfl) Try.func211 (by kernel_rfl) Try.ntmps211 (by kernel_rfl) (ls := [([1], [(0, [0])]), ([], []), ([1, 4], [(1, [1])]), ([], []), ([1, 4, 6], []), ([], []), ([2, 3], []), ([], []), ([1, 4, 15], []), ([], []), ([2, 3], []), ([], []), ([1, 4, 27], []), ([], []), ([2, 3], []), ([], []), ([999999], []), ([2, 3], []), ([], [])]) (by kernel_rfl)
/-- cento/far.inside -/
def c_far_inside : CC :=
  .seq (.reg [cn (some 3) (.box 185 (.tmp 1)) none [0],
      cn (some 4) (.alloc 185) none [1],
      co (some 5) (.assign (.const (.int .i64 0))) none] [0, 3, 4])
  (.seq (.reg [co (some 9) (.fieldAddr 185 (.tmp 3) 0) none,
      co (some 10) (.load 183 (.tmp 9)) none,
      co (some 11) (.call { callee := (.value (.func 211)), args := #[(.tmp 10)], argTypes := #[183] }) none,
      co (some 8) (.move (.tmp 11)) none,
      co (some 12) (.extract (.tmp 8) 0) none,
      co (some 13) (.extract (.tmp 8) 1) none,
      co (some 6) (.assign (.tmp 12)) none,
      co (some 7) (.assign (.tmp 13)) none] [0, 3, 4, 6])
  (.seq (.seq (.reg [co (some 14) (.move (.tmp 0)) none,
        co (some 15) (.fieldAddr 185 (.tmp 3) 1) none,
        co (some 16) (.load 3 (.tmp 15)) none,
        co (some 17) (.fieldAddr 185 (.tmp 3) 2) none,
        co (some 18) (.load 3 (.tmp 17)) none,
        co (some 19) (.move (.tmp 6)) none,
        co (some 20) (.call { callee := (.value (.func 24)), args := #[(.tmp 14), (.tmp 16), (.tmp 18), (.tmp 19)], argTypes := #[24, 3, 3, 3] }) none,
        co (some 21) (.unOp .not 4 (.tmp 20)) none] [3, 4, 21])
    (.cond (.tmp 21)
      (.seq (.reg [co (some 22) (.build 185 #[]) none,
          co none (.store 185 (.tmp 4) (.tmp 22)) none,
          co (some 5) (.assign (.const (.int .i64 7))) none] [4, 5])
      (.ret))
      (.skip)))
  (.keep [3, 4] (.seq (.reg [co (some 23) (.fieldAddr 185 (.tmp 3) 0) none,
      co (some 24) (.fieldAddr 183 (.tmp 23) 1) none,
      co none (.store 3 (.tmp 24) (.const (.int .i64 0))) none] [3, 4])
  (.seq (.reg [co (some 25) (.load 185 (.tmp 3)) none,
      co none (.store 185 (.tmp 4) (.tmp 25)) none,
      co (some 5) (.assign (.const (.int .i64 0))) none] [4, 5])
  (.ret))))))
theorem t_far_inside : Txt Try.prog 201 26 [(.cell 4 185), (.tmp 5)] c_far_inside := txt_of (code := Try.f201.body.getD .ret) mixed (by kernel_rfl) Try.func201 (by kernel_rfl) Try.ntmps201 (by kernel_rfl) (ls := [([0, 3, 4], [(0, [0]), (1, [1])]), ([], []), ([0, 3, 4, 6], []), ([], []), ([3, 4, 21], []), ([], []), ([4, 5], []), ([], []), ([999999, 3, 4], []), ([3, 4], []), ([], []), ([4, 5], []), ([], [])]) (by kernel_rfl)
def k1_far_near : CC :=
  .cond (.tmp 12)
    (.seq (.reg [co (some 15) (.move (.tmp 0)) none,
        co (some 16) (.load 183 (.tmp 5)) none,
        co (some 17) (.move (.tmp 2)) none,
        co (some 18) (.move (.tmp 3)) none,
        co (some 19) (.binOp .add 3 (.tmp 18) (.const (.int .i64 1)) 3) none,
        co (some 20) (.fieldAddr 183 (.tmp 5) 1) none,
        co (some 21) (.load 3 (.tmp 20)) none,
        co (some 22) (.binOp .add 3 (.tmp 19) (.tmp 21) 3) none,
        co (some 23) (.build 185 #[(0, (.tmp 16)), (1, (.tmp 17)), (2, (.tmp 22))]) none,
        co (some 24) (.call { callee := (.value (.func 201)), args := #[(.tmp 15), (.tmp 23)], argTypes := #[24, 185] }) none,
        co (some 25) (.extract (.tmp 24) 0) none,
        co (some 26) (.extract (.tmp 24) 1) none,
        co none (.store 185 (.tmp 8) (.tmp 25)) none,
        co (some 9) (.assign (.tmp 26)) none] [8, 9])
    (.ret))
    (.seq (.reg [co (some 28) (.binOp .eql 3 (.tmp 11) (.const (.int .i64 4)) 3) none,
        co (some 27) (.assign (.tmp 28)) none] [8, 27])
    (.cond (.tmp 27)
      (.seq (.reg [co (some 29) (.build 185 #[]) none,
          co none (.store 185 (.tmp 8) (.tmp 29)) none,
          co (some 9) (.assign (.const (.int .i64 9))) none] [8, 9])
      (.ret))
      (.skip)))
/-- cento/far.near -/
def c_far_near : CC :=
  .seq (.reg [cn (some 5) (.box 183 (.tmp 1)) none [0],
      cn (some 8) (.alloc 185) none [1],
      co (some 9) (.assign (.const (.int .i64 0))) none] [0, 2, 3, 5, 8])
  (.seq (.seq (.reg [co (some 10) (.fieldAddr 183 (.tmp 5) 0) none,
        co (some 11) (.load 3 (.tmp 10)) none] [0, 2, 3, 5, 8, 11])
    (.block 0
      (.seq (.seq (.reg [co (some 13) (.binOp .eql 3 (.tmp 11) (.const (.int .i64 1)) 3) none,
            co (some 12) (.assign (.tmp 13)) none] [0, 2, 3, 5, 8, 11, 12])
        (.cond (.tmp 12)
          (.skip)
          (.reg [co (some 14) (.binOp .eql 3 (.tmp 11) (.const (.int .i64 2)) 3) none,
            co (some 12) (.assign (.tmp 14)) none] [0, 2, 3, 5, 8, 11, 12])))
      (.keep [0, 2, 3, 5, 8, 11, 12] k1_far_near))))
  (.keep [8] (.seq (.reg [co (some 30) (.build 185 #[]) none,
      co none (.store 185 (.tmp 8) (.tmp 30)) none,
      co (some 9) (.assign (.const (.int .i64 8))) none] [8, 9])
  (.ret))))
theorem t_far_near : Txt Try.prog 173 31 [(.cell 8 185), (.tmp 9)] c_far_near := txt_of (code := Try.f173.body.getD .ret) mixed (by kernel_rfl) Try.func173 (by kernel_rfl) Try.ntmps173 (by kernel_rfl) (ls := [([0, 2, 3, 5, 8], [(0, [0]), (1, [1])]), ([], []), ([0, 2, 3, 5, 8, 11], []), ([], []), ([0, 2, 3, 5, 8, 11, 12], []), ([], []), ([0, 2, 3, 5, 8, 11, 12], []), ([999999, 0, 2, 3, 5, 8, 11, 12], []), ([8, 9], []), ([], []), ([8, 27], []), ([], []), ([8, 9], []), ([], []), ([999999, 8], []), ([8, 9], []), ([], [])]) (by kernel_rfl)
/-- cento/far.double -/
def c_far_double : CC :=
  .seq (.reg [cn (some 6) (.alloc 185) none [0],
      co (some 7) (.assign (.const (.int .i64 0))) none] [0, 1, 2, 6])
  (.seq (.reg [co (some 13) (.move (.tmp 0)) none,
      co (some 14) (.move (.tmp 1)) none,
      co (some 15) (.move (.tmp 2)) none,
      co (some 16) (.call { callee := (.value (.func 27)), args := #[(.tmp 13), (.tmp 14), (.tmp 15), (.const (.int .i64 2))], argTypes := #[24, 3, 3, 3] }) none,
      co (some 12) (.move (.tmp 16)) none,
      co (some 17) (.extract (.tmp 12) 0) none,
      co (some 18) (.extract (.tmp 12) 1) none,
      co (some 8) (.assign (.tmp 17)) none,
      co (some 9) (.assign (.tmp 18)) none] [0, 6, 8, 9])
  (.seq (.seq (.reg [co (some 19) (.move (.tmp 9)) none,
        co (some 20) (.unOp .not 4 (.tmp 19)) none] [0, 6, 8, 20])
    (.cond (.tmp 20)
      (.seq (.reg [co (some 21) (.build 185 #[]) none,
          co none (.store 185 (.tmp 6) (.tmp 21)) none,
          co (some 7) (.assign (.const (.int .i64 7))) none] [6, 7])
      (.ret))
      (.skip)))
  (.keep [0, 6, 8] (.seq (.reg [co (some 22) (.move (.tmp 8)) none,
      co (some 23) (.indexAddr 23 (.tmp 22) (.const (.int .i64 0))) none,
      ⟨some 24, (.load 26 (.tmp 23)), none, [], 2, [], true⟩,
      ⟨some 25, (.call { callee := (.value (.func 172)), args := #[(.tmp 24)], argTypes := #[26] }), none, [], 3, [], true⟩,
      co (some 26) (.move (.tmp 8)) none,
      co (some 27) (.indexAddr 23 (.tmp 26) (.const (.int .i64 1))) none,
      ⟨some 28, (.load 26 (.tmp 27)), none, [], 6, [3], true⟩,
      ⟨some 29, (.call { callee := (.value (.func 172)), args := #[(.tmp 28)], argTypes := #[26] }), none, [], 7, [], true⟩,
      ⟨some 10, (.alloc 183), none, [1], 8, [2, 3, 6, 7], true⟩,
      ⟨some 11, (.alloc 183), none, [2], 9, [2, 3, 6, 7, 8], false⟩,
      co none (.store 183 (.tmp 10) (.tmp 25)) none,
      co none (.store 183 (.tmp 11) (.tmp 29)) none] [0, 6, 10, 11])
  (.seq (.block 0
      (.seq (.reg [co (some 31) (.fieldAddr 183 (.tmp 10) 0) none,
          co (some 32) (.load 3 (.tmp 31)) none,
          co (some 33) (.binOp .neq 3 (.tmp 32) (.const (.int .i64 3)) 3) none,
          co (some 34) (.move (.tmp 33)) none,
          co (some 35) (.fieldAddr 183 (.tmp 10) 7) (some (34, false)),
          co (some 36) (.load 4 (.tmp 35)) (some (34, false)),
          co (some 37) (.pick (.tmp 34) (.const (.bool true)) (.tmp 36)) none,
          co (some 30) (.assign (.tmp 37)) none] [0, 6, 10, 11, 30])
      (.cond (.tmp 30)
        (.seq (.reg [co (some 38) (.build 185 #[]) none,
            co none (.store 185 (.tmp 6) (.tmp 38)) none,
            co (some 7) (.assign (.const (.int .i64 8))) none] [6, 7])
        (.ret))
        (.seq (.reg [co (some 40) (.fieldAddr 183 (.tmp 11) 0) none,
            co (some 41) (.load 3 (.tmp 40)) none,
            co (some 42) (.binOp .eql 3 (.tmp 41) (.const (.int .i64 4)) 3) none,
            co (some 39) (.assign (.tmp 42)) none] [0, 6, 10, 11, 39])
        (.cond (.tmp 39)
          (.seq (.reg [co (some 43) (.build 185 #[]) none,
              co none (.store 185 (.tmp 6) (.tmp 43)) none,
              co (some 7) (.assign (.const (.int .i64 9))) none] [6, 7])
          (.ret))
          (.seq (.reg [co (some 45) (.fieldAddr 183 (.tmp 11) 0) none,
              co (some 46) (.load 3 (.tmp 45)) none,
              co (some 47) (.binOp .neq 3 (.tmp 46) (.const (.int .i64 1)) 3) none,
              co (some 48) (.move (.tmp 47)) none,
              co (some 49) (.fieldAddr 183 (.tmp 11) 0) (some (48, true)),
              co (some 50) (.load 3 (.tmp 49)) (some (48, true)),
              co (some 51) (.binOp .neq 3 (.tmp 50) (.const (.int .i64 2)) 3) (some (48, true)),
              co (some 52) (.pick (.tmp 48) (.tmp 51) (.const (.bool false))) none,
              co (some 53) (.move (.tmp 52)) none,
              co (some 54) (.fieldAddr 183 (.tmp 11) 1) (some (53, false)),
              co (some 55) (.load 3 (.tmp 54)) (some (53, false)),
              co (some 56) (.binOp .neq 3 (.tmp 55) (.const (.int .i64 0)) 3) (some (53, false)),
              co (some 57) (.pick (.tmp 53) (.const (.bool true)) (.tmp 56)) none,
              co (some 44) (.assign (.tmp 57)) none] [0, 6, 10, 11, 44])
          (.cond (.tmp 44)
            (.seq (.reg [co (some 58) (.build 185 #[]) none,
                co none (.store 185 (.tmp 6) (.tmp 58)) none,
                co (some 7) (.assign (.const (.int .i64 8))) none] [6, 7])
            (.ret))
            (.skip))))))))
  (.keep [0, 6, 10, 11] (.seq (.reg [co (some 59) (.move (.tmp 0)) none,
      co (some 60) (.load 183 (.tmp 11)) none,
      co (some 61) (.fieldAddr 183 (.tmp 10) 6) none,
      co (some 62) (.load 3 (.tmp 61)) none,
      co (some 63) (.fieldAddr 183 (.tmp 10) 1) none,
      co (some 64) (.load 3 (.tmp 63)) none,
      co (some 65) (.build 185 #[(0, (.tmp 60)), (1, (.tmp 62)), (2, (.tmp 64))]) none,
      co (some 66) (.call { callee := (.value (.func 201)), args := #[(.tmp 59), (.tmp 65)], argTypes := #[24, 185] }) none,
      co (some 67) (.extract (.tmp 66) 0) none,
      co (some 68) (.extract (.tmp 66) 1) none,
      co none (.store 185 (.tmp 6) (.tmp 67)) none,
      co (some 7) (.assign (.tmp 68)) none] [6, 7])
  (.ret))))))))
theorem t_far_double : Txt Try.prog 174 69 [(.cell 6 185), (.tmp 7)] c_far_double := txt_of (code := Try.f174.body.getD .ret) mixed (by kernel_rfl) Try.func174 (by kernel_rfl) Try.ntmps174 (by kernel_rfl) (ls := [([0, 1, 2, 6], [(0, [0])]), ([], []), ([0, 6, 8, 9], []), ([], []), ([0, 6, 8, 20], []), ([], []), ([6, 7], []), ([], []), ([999999, 0, 6, 8], []), ([0, 6, 10, 11], [(8, [1]), (9, [2])]), ([], []), ([0, 6, 10, 11, 30], []), ([], []), ([6, 7], []), ([], []), ([0, 6, 10, 11, 39], []), ([], []), ([6, 7], []), ([], []), ([0, 6, 10, 11, 44], []), ([], []), ([6, 7], []), ([], []), ([999999, 0, 6, 10, 11], []), ([6, 7], []), ([], [])]) (by kernel_rfl)
/-- cento/far.Follow -/
def c_far_Follow : CC :=
  .seq (.reg [cn (some 6) (.alloc 185) none [0],
      co (some 7) (.assign (.const (.int .i64 0))) none] [0, 1, 2, 6])
  (.seq (.reg [co (some 13) (.move (.tmp 0)) none,
      co (some 14) (.move (.tmp 1)) none,
      co (some 15) (.move (.tmp 2)) none,
      co (some 16) (.call { callee := (.value (.func 26)), args := #[(.tmp 13), (.tmp 14), (.tmp 15)], argTypes := #[24, 3, 3] }) none,
      co (some 12) (.move (.tmp 16)) none,
      co (some 17) (.extract (.tmp 12) 0) none,
      co (some 18) (.extract (.tmp 12) 1) none,
      co (some 8) (.assign (.tmp 17)) none,
      co (some 9) (.assign (.tmp 18)) none] [0, 1, 2, 6, 8, 9])
  (.seq (.seq (.reg [co (some 19) (.move (.tmp 9)) none,
        co (some 20) (.unOp .not 4 (.tmp 19)) none] [0, 1, 2, 6, 8, 20])
    (.cond (.tmp 20)
      (.seq (.reg [co (some 21) (.build 185 #[]) none,
          co none (.store 185 (.tmp 6) (.tmp 21)) none,
          co (some 7) (.assign (.const (.int .i64 7))) none] [6, 7])
      (.ret))
      (.skip)))
  (.keep [0, 1, 2, 6, 8] (.seq (.reg [co (some 22) (.move (.tmp 8)) none,
      co (some 23) (.call { callee := (.value (.func 172)), args := #[(.tmp 22)], argTypes := #[26] }) none,
      cn (some 10) (.alloc 183) none [1],
      co none (.store 183 (.tmp 10) (.tmp 23)) none] [0, 1, 2, 6, 10])
  (.seq (.block 0
      (.seq (.reg [co (some 25) (.fieldAddr 183 (.tmp 10) 0) none,
          co (some 26) (.load 3 (.tmp 25)) none,
          co (some 27) (.binOp .eql 3 (.tmp 26) (.const (.int .i64 0)) 3) none,
          co (some 24) (.assign (.tmp 27)) none] [0, 1, 2, 6, 10, 24])
      (.cond (.tmp 24)
        (.seq (.reg [co (some 28) (.build 185 #[]) none,
            co none (.store 185 (.tmp 6) (.tmp 28)) none,
            co (some 7) (.assign (.const (.int .i64 0))) none] [6, 7])
        (.ret))
        (.seq (.reg [co (some 30) (.fieldAddr 183 (.tmp 10) 0) none,
            co (some 31) (.load 3 (.tmp 30)) none,
            co (some 32) (.binOp .neq 3 (.tmp 31) (.const (.int .i64 3)) 3) none,
            co (some 29) (.assign (.tmp 32)) none] [0, 1, 2, 6, 10, 29])
        (.cond (.tmp 29)
          (.seq (.reg [co (some 33) (.move (.tmp 0)) none,
              co (some 34) (.load 183 (.tmp 10)) none,
              co (some 35) (.move (.tmp 1)) none,
              co (some 36) (.move (.tmp 2)) none,
              co (some 37) (.call { callee := (.value (.func 173)), args := #[(.tmp 33), (.tmp 34), (.tmp 35), (.tmp 36)], argTypes := #[24, 183, 3, 3] }) none,
              co (some 38) (.extract (.tmp 37) 0) none,
              co (some 39) (.extract (.tmp 37) 1) none,
              co none (.store 185 (.tmp 6) (.tmp 38)) none,
              co (some 7) (.assign (.tmp 39)) none] [6, 7])
          (.ret))
          (.seq (.reg [co (some 41) (.fieldAddr 183 (.tmp 10) 7) none,
              co (some 42) (.load 4 (.tmp 41)) none,
              co (some 40) (.assign (.tmp 42)) none] [0, 6, 10, 40])
          (.cond (.tmp 40)
            (.seq (.reg [co (some 43) (.move (.tmp 0)) none,
                co (some 44) (.fieldAddr 183 (.tmp 10) 6) none,
                co (some 45) (.load 3 (.tmp 44)) none,
                co (some 46) (.fieldAddr 183 (.tmp 10) 1) none,
                co (some 47) (.load 3 (.tmp 46)) none,
                co (some 48) (.call { callee := (.value (.func 174)), args := #[(.tmp 43), (.tmp 45), (.tmp 47)], argTypes := #[24, 3, 3] }) none,
                co (some 49) (.extract (.tmp 48) 0) none,
                co (some 50) (.extract (.tmp 48) 1) none,
                co none (.store 185 (.tmp 6) (.tmp 49)) none,
                co (some 7) (.assign (.tmp 50)) none] [6, 7])
            (.ret))
            (.skip))))))))
  (.keep [0, 6, 10] (.seq (.reg [co (some 52) (.move (.tmp 0)) none,
      co (some 53) (.fieldAddr 183 (.tmp 10) 6) none,
      co (some 54) (.load 3 (.tmp 53)) none,
      co (some 55) (.fieldAddr 183 (.tmp 10) 1) none,
      co (some 56) (.load 3 (.tmp 55)) none,
      co (some 57) (.call { callee := (.value (.func 26)), args := #[(.tmp 52), (.tmp 54), (.tmp 56)], argTypes := #[24, 3, 3] }) none,
      co (some 51) (.move (.tmp 57)) none,
      co (some 58) (.extract (.tmp 51) 0) none,
      co (some 59) (.extract (.tmp 51) 1) none,
      co (some 11) (.assign (.tmp 58)) none,
      co (some 9) (.assign (.tmp 59)) none] [0, 6, 9, 10, 11])
  (.seq (.seq (.reg [co (some 60) (.move (.tmp 9)) none,
        co (some 61) (.unOp .not 4 (.tmp 60)) none] [0, 6, 10, 11, 61])
    (.cond (.tmp 61)
      (.seq (.reg [co (some 62) (.build 185 #[]) none,
          co none (.store 185 (.tmp 6) (.tmp 62)) none,
          co (some 7) (.assign (.const (.int .i64 7))) none] [6, 7])
      (.ret))
      (.skip)))
  (.keep [0, 6, 10, 11] (.seq (.reg [co (some 63) (.move (.tmp 0)) none,
      co (some 64) (.move (.tmp 11)) none,
      ⟨some 65, (.call { callee := (.value (.func 172)), args := #[(.tmp 64)], argTypes := #[26] }), none, [], 2, [], true⟩,
      co (some 66) (.fieldAddr 183 (.tmp 10) 6) none,
      ⟨some 67, (.load 3 (.tmp 66)), none, [], 4, [2], false⟩,
      co (some 68) (.fieldAddr 183 (.tmp 10) 1) none,
      ⟨some 69, (.load 3 (.tmp 68)), none, [], 6, [2], false⟩,
      co (some 70) (.call { callee := (.value (.func 173)), args := #[(.tmp 63), (.tmp 65), (.tmp 67), (.tmp 69)], argTypes := #[24, 183, 3, 3] }) none,
      co (some 71) (.extract (.tmp 70) 0) none,
      co (some 72) (.extract (.tmp 70) 1) none,
      co none (.store 185 (.tmp 6) (.tmp 71)) none,
      co (some 7) (.assign (.tmp 72)) none] [6, 7])
  (.ret)))))))))))
theorem t_far_Follow : Txt Try.prog 124 73 [(.cell 6 185), (.tmp 7)] c_far_Follow := txt_of (code := Try.f124.body.getD .ret) mixed (by kernel_rfl) Try.func124 (by kernel_rfl) Try.ntmps124 (by kernel_rfl) (ls := [([0, 1, 2, 6], [(0, [0])]), ([], []), ([0, 1, 2, 6, 8, 9], []), ([], []), ([0, 1, 2, 6, 8, 20], []), ([], []), ([6, 7], []), ([], []), ([999999, 0, 1, 2, 6, 8], []), ([0, 1, 2, 6, 10], [(2, [1])]), ([], []), ([0, 1, 2, 6, 10, 24], []), ([], []), ([6, 7], []), ([], []), ([0, 1, 2, 6, 10, 29], []), ([], []), ([6, 7], []), ([], []), ([0, 6, 10, 40], []), ([], []), ([6, 7], []), ([], []), ([999999, 0, 6, 10], []), ([0, 6, 9, 10, 11], []), ([], []), ([0, 6, 10, 11, 61], []), ([], []), ([6, 7], []), ([], []), ([999999, 0, 6, 10, 11], []), ([6, 7], []), ([], [])]) (by kernel_rfl)
def k1_centoref04_Words : CC :=
  .seq (.seq (.reg [co (some 51) (.fieldAddr 170 (.tmp 1) 5) none,
        co (some 52) (.load 3 (.tmp 51)) none,
        co (some 53) (.move (.tmp 3)) none,
        co (some 54) (.binOp .rem 3 (.tmp 52) (.tmp 53) 3) none,
        co (some 55) (.binOp .gtr 3 (.tmp 54) (.const (.int .i64 0)) 3) none] [1, 3, 55])
    (.cond (.tmp 55)
      (.seq (.reg [co (some 56) (.fieldAddr 170 (.tmp 1) 5) none,
          co (some 57) (.load 3 (.tmp 56)) none,
          co (some 58) (.move (.tmp 3)) none,
          co (some 59) (.binOp .quo 3 (.tmp 57) (.tmp 58) 3) none,
          co (some 60) (.binOp .add 3 (.tmp 59) (.const (.int .i64 1)) 3) none,
          co (some 2) (.assign (.tmp 60)) none] [2])
      (.ret))
      (.skip)))
  (.keep [1, 3] (.seq (.reg [co (some 61) (.fieldAddr 170 (.tmp 1) 5) none,
      co (some 62) (.load 3 (.tmp 61)) none,
      co (some 63) (.move (.tmp 3)) none,
      co (some 64) (.binOp .quo 3 (.tmp 62) (.tmp 63) 3) none,
      co (some 2) (.assign (.tmp 64)) none] [2])
  (.ret)))
/-- cento/centoref04.Words -/
def c_centoref04_Words : CC :=
  .seq (.reg [cn (some 1) (.box 170 (.tmp 0)) none [0],
      co (some 2) (.assign (.const (.int .i64 0))) none] [1])
  (.seq (.seq (.reg [co (some 4) (.fieldAddr 170 (.tmp 1) 0) none,
        co (some 5) (.load 3 (.tmp 4)) none,
        co (some 6) (.binOp .eql 3 (.tmp 5) (.const (.int .i64 1)) 3) none] [1, 6])
    (.cond (.tmp 6)
      (.seq (.reg [co (some 7) (.fieldAddr 170 (.tmp 1) 2) none,
          co (some 8) (.load 3 (.tmp 7)) none,
          co (some 9) (.fieldAddr 170 (.tmp 1) 3) none,
          co (some 10) (.load 3 (.tmp 9)) none,
          co (some 11) (.binOp .add 3 (.tmp 8) (.tmp 10) 3) none,
          co (some 2) (.assign (.tmp 11)) none] [2])
      (.ret))
      (.skip)))
  (.keep [1] (.seq (.seq (.reg [co (some 12) (.fieldAddr 170 (.tmp 1) 0) none,
        co (some 13) (.load 3 (.tmp 12)) none,
        co (some 14) (.binOp .neq 3 (.tmp 13) (.const (.int .i64 2)) 3) none] [1, 14])
    (.cond (.tmp 14)
      (.seq (.reg [co (some 2) (.assign (.const (.int .i64 (-1)))) none] [2])
      (.ret))
      (.skip)))
  (.keep [1] (.seq (.seq (.reg [co (some 15) (.fieldAddr 170 (.tmp 1) 4) none,
        co (some 16) (.load 3 (.tmp 15)) none,
        co (some 17) (.binOp .eql 3 (.tmp 16) (.const (.int .i64 7)) 3) none] [1, 17])
    (.cond (.tmp 17)
      (.seq (.reg [co (some 18) (.fieldAddr 170 (.tmp 1) 5) none,
          co (some 19) (.load 3 (.tmp 18)) none,
          co (some 20) (.binOp .add 3 (.tmp 19) (.const (.int .i64 1)) 3) none,
          co (some 2) (.assign (.tmp 20)) none] [2])
      (.ret))
      (.skip)))
  (.keep [1] (.seq (.seq (.reg [co (some 21) (.fieldAddr 170 (.tmp 1) 4) none,
        co (some 22) (.load 3 (.tmp 21)) none,
        co (some 23) (.binOp .lss 3 (.tmp 22) (.const (.int .i64 0)) 3) none,
        co (some 24) (.move (.tmp 23)) none,
        co (some 25) (.fieldAddr 170 (.tmp 1) 4) (some (24, false)),
        co (some 26) (.load 3 (.tmp 25)) (some (24, false)),
        co (some 27) (.binOp .gtr 3 (.tmp 26) (.const (.int .i64 6)) 3) (some (24, false)),
        co (some 28) (.pick (.tmp 24) (.const (.bool true)) (.tmp 27)) none,
        co (some 29) (.move (.tmp 28)) none,
        co (some 30) (.fieldAddr 170 (.tmp 1) 5) (some (29, false)),
        co (some 31) (.load 3 (.tmp 30)) (some (29, false)),
        co (some 32) (.binOp .lss 3 (.tmp 31) (.const (.int .i64 0)) 3) (some (29, false)),
        co (some 33) (.pick (.tmp 29) (.const (.bool true)) (.tmp 32)) none,
        co (some 34) (.move (.tmp 33)) none,
        co (some 35) (.fieldAddr 170 (.tmp 1) 5) (some (34, false)),
        co (some 36) (.load 3 (.tmp 35)) (some (34, false)),
        co (some 37) (.binOp .geq 3 (.tmp 36) (.const (.int .i64 536870912)) 3) (some (34, false)),
        co (some 38) (.pick (.tmp 34) (.const (.bool true)) (.tmp 37)) none] [1, 38])
    (.cond (.tmp 38)
      (.seq (.reg [co (some 2) (.assign (.const (.int .i64 (-1)))) none] [2])
      (.ret))
      (.skip)))
  (.keep [1] (.seq (.reg [co (some 3) (.assign (.const (.int .i64 1))) none] [1, 3])
  (.seq (.seq (.reg [co (some 39) (.fieldAddr 170 (.tmp 1) 4) none,
        co (some 40) (.load 3 (.tmp 39)) none] [1, 3, 40])
    (.block 0
      (.seq (.reg [co (some 42) (.binOp .eql 3 (.tmp 40) (.const (.int .i64 0)) 3) none,
          co (some 41) (.assign (.tmp 42)) none] [1, 3, 40, 41])
      (.cond (.tmp 41)
        (.seq (.reg [co (some 2) (.assign (.const (.int .i64 0))) none] [2])
        (.ret))
        (.seq (.reg [co (some 44) (.binOp .eql 3 (.tmp 40) (.const (.int .i64 1)) 3) none,
            co (some 43) (.assign (.tmp 44)) none] [1, 3, 40, 43])
        (.cond (.tmp 43)
          (.reg [co (some 3) (.assign (.const (.int .i64 64))) none] [1, 3])
          (.seq (.reg [co (some 46) (.binOp .eql 3 (.tmp 40) (.const (.int .i64 2)) 3) none,
              co (some 45) (.assign (.tmp 46)) none] [1, 3, 40, 45])
          (.cond (.tmp 45)
            (.reg [co (some 3) (.assign (.const (.int .i64 8))) none] [1, 3])
            (.seq (.reg [co (some 48) (.binOp .eql 3 (.tmp 40) (.const (.int .i64 3)) 3) none,
                co (some 47) (.assign (.tmp 48)) none] [1, 3, 40, 47])
            (.cond (.tmp 47)
              (.reg [co (some 3) (.assign (.const (.int .i64 4))) none] [1, 3])
              (.seq (.reg [co (some 50) (.binOp .eql 3 (.tmp 40) (.const (.int .i64 4)) 3) none,
                  co (some 49) (.assign (.tmp 50)) none] [1, 3, 49])
              (.cond (.tmp 49)
                (.reg [co (some 3) (.assign (.const (.int .i64 2))) none] [1, 3])
                (.skip)))))))))))))
  (.keep [1, 3] k1_centoref04_Words)))))))))))
theorem t_centoref04_Words : Txt Try.prog 198 65 [(.tmp 2)] c_centoref04_Words := txt_of (code := Try.f198.body.getD .ret) mixed (by kernel_rfl) Try.func198 (by kernel_rfl) Try.ntmps198 (by kernel_rfl) (ls := [([1], [(0, [0])]), ([], []), ([1, 6], []), ([], []), ([2], []), ([], []), ([999999, 1], []), ([1, 14], []), ([], []), ([2], []), ([], []), ([999999, 1], []), ([1, 17], []), ([], []), ([2], []), ([], []), ([999999, 1], []), ([1, 38], []), ([], []), ([2], []), ([], []), ([999999, 1], []), ([1, 3], []), ([], []), ([1, 3, 40], []), ([], []), ([1, 3, 40, 41], []), ([], []), ([2], []), ([], []), ([1, 3, 40, 43], []), ([], []), ([1, 3], []), ([1, 3, 40, 45], []), ([], []), ([1, 3], []), ([1, 3, 40, 47], []), ([], []), ([1, 3], []), ([1, 3, 49], []), ([], []), ([1, 3], []), ([999999, 1, 3], []), ([1, 3, 55], []), ([], []), ([2], []), ([], []), ([999999, 1, 3], []), ([2], []), ([], [])]) (by kernel_rfl)
/-- cento/centoref06.has -/
def c_centoref06_has : CC :=
  .seq (.reg [co (some 6) (.assign (.const (.bool false))) none] [0, 1, 2])
  (.seq (.reg [co (some 7) (.move (.tmp 1)) none,
      co (some 8) (.binOp .geq 3 (.tmp 7) (.const (.int .i64 0)) 3) none,
      co (some 9) (.move (.tmp 8)) none,
      co (some 10) (.move (.tmp 1)) (some (9, true)),
      co (some 11) (.move (.tmp 0)) (some (9, true)),
      co (some 12) (.call { callee := (.builtin .len), args := #[(.tmp 11)], argTypes := #[22] }) (some (9, true)),
      co (some 13) (.binOp .lss 3 (.tmp 10) (.tmp 12) 3) (some (9, true)),
      co (some 14) (.pick (.tmp 9) (.tmp 13) (.const (.bool false))) none,
      co (some 15) (.move (.tmp 14)) none,
      co (some 16) (.move (.tmp 2)) (some (15, true)),
      co (some 17) (.binOp .geq 3 (.tmp 16) (.const (.int .i64 0)) 3) (some (15, true)),
      co (some 18) (.pick (.tmp 15) (.tmp 17) (.const (.bool false))) none,
      co (some 19) (.move (.tmp 18)) none,
      co (some 20) (.move (.tmp 2)) (some (19, true)),
      co (some 21) (.move (.tmp 0)) (some (19, true)),
      co (some 22) (.move (.tmp 1)) (some (19, true)),
      co (some 23) (.indexAddr 22 (.tmp 21) (.tmp 22)) (some (19, true)),
      co (some 24) (.load 23 (.tmp 23)) (some (19, true)),
      co (some 25) (.call { callee := (.builtin .len), args := #[(.tmp 24)], argTypes := #[23] }) (some (19, true)),
      co (some 26) (.binOp .lss 3 (.tmp 20) (.tmp 25) 3) (some (19, true)),
      co (some 27) (.pick (.tmp 19) (.tmp 26) (.const (.bool false))) none,
      co (some 6) (.assign (.tmp 27)) none] [6])
  (.ret))
theorem t_centoref06_has : Txt Try.prog 162 28 [(.tmp 6)] c_centoref06_has := txt_of (code := Try.f162.body.getD .ret) mixed (by kernel_rfl) Try.func162 (by kernel_rfl) Try.ntmps162 (by kernel_rfl) (ls := [([0, 1, 2], []), ([], []), ([6], []), ([], [])]) (by kernel_rfl)
/-- cento/centoref06.whole -/
def c_centoref06_whole : CC :=
  .seq (.reg [cn (some 3) (.box 172 (.tmp 1)) none [0],
      cn (some 4) (.alloc 172) none [1],
      co (some 5) (.assign (.const (.int .i64 0))) none] [0, 3, 4])
  (.seq (.reg [co (some 7) (.fieldAddr 172 (.tmp 3) 0) none,
      co (some 8) (.load 170 (.tmp 7)) none,
      co (some 9) (.call { callee := (.value (.func 198)), args := #[(.tmp 8)], argTypes := #[170] }) none,
      co (some 6) (.assign (.tmp 9)) none] [0, 3, 4, 6])
  (.seq (.seq (.reg [co (some 10) (.fieldAddr 172 (.tmp 3) 1) none,
        co (some 11) (.load 3 (.tmp 10)) none,
        co (some 12) (.binOp .lss 3 (.tmp 11) (.const (.int .i64 0)) 3) none,
        co (some 13) (.move (.tmp 12)) none,
        co (some 14) (.fieldAddr 172 (.tmp 3) 1) (some (13, false)),
        co (some 15) (.load 3 (.tmp 14)) (some (13, false)),
        co (some 16) (.move (.tmp 0)) (some (13, false)),
        co (some 17) (.call { callee := (.builtin .len), args := #[(.tmp 16)], argTypes := #[22] }) (some (13, false)),
        co (some 18) (.binOp .geq 3 (.tmp 15) (.tmp 17) 3) (some (13, false)),
        co (some 19) (.pick (.tmp 13) (.const (.bool true)) (.tmp 18)) none,
        co (some 20) (.move (.tmp 19)) none,
        co (some 21) (.fieldAddr 172 (.tmp 3) 2) (some (20, false)),
        co (some 22) (.load 3 (.tmp 21)) (some (20, false)),
        co (some 23) (.binOp .lss 3 (.tmp 22) (.const (.int .i64 0)) 3) (some (20, false)),
        co (some 24) (.pick (.tmp 20) (.const (.bool true)) (.tmp 23)) none,
        co (some 25) (.move (.tmp 24)) none,
        co (some 26) (.fieldAddr 172 (.tmp 3) 2) (some (25, false)),
        co (some 27) (.load 3 (.tmp 26)) (some (25, false)),
        co (some 28) (.move (.tmp 0)) (some (25, false)),
        co (some 29) (.fieldAddr 172 (.tmp 3) 1) (some (25, false)),
        co (some 30) (.load 3 (.tmp 29)) (some (25, false)),
        co (some 31) (.indexAddr 22 (.tmp 28) (.tmp 30)) (some (25, false)),
        co (some 32) (.load 23 (.tmp 31)) (some (25, false)),
        co (some 33) (.call { callee := (.builtin .len), args := #[(.tmp 32)], argTypes := #[23] }) (some (25, false)),
        co (some 34) (.binOp .gtr 3 (.tmp 27) (.tmp 33) 3) (some (25, false)),
        co (some 35) (.pick (.tmp 25) (.const (.bool true)) (.tmp 34)) none,
        co (some 36) (.move (.tmp 35)) none,
        co (some 37) (.move (.tmp 6)) (some (36, false)),
        co (some 38) (.move (.tmp 0)) (some (36, false)),
        co (some 39) (.fieldAddr 172 (.tmp 3) 1) (some (36, false)),
        co (some 40) (.load 3 (.tmp 39)) (some (36, false)),
        co (some 41) (.indexAddr 22 (.tmp 38) (.tmp 40)) (some (36, false)),
        co (some 42) (.load 23 (.tmp 41)) (some (36, false)),
        co (some 43) (.call { callee := (.builtin .len), args := #[(.tmp 42)], argTypes := #[23] }) (some (36, false)),
        co (some 44) (.fieldAddr 172 (.tmp 3) 2) (some (36, false)),
        co (some 45) (.load 3 (.tmp 44)) (some (36, false)),
        co (some 46) (.binOp .sub 3 (.tmp 43) (.tmp 45) 3) (some (36, false)),
        co (some 47) (.binOp .gtr 3 (.tmp 37) (.tmp 46) 3) (some (36, false)),
        co (some 48) (.pick (.tmp 36) (.const (.bool true)) (.tmp 47)) none] [3, 4, 48])
    (.cond (.tmp 48)
      (.seq (.reg [co (some 49) (.build 172 #[]) none,
          co none (.store 172 (.tmp 4) (.tmp 49)) none,
          co (some 5) (.assign (.const (.int .i64 7))) none] [4, 5])
      (.ret))
      (.skip)))
  (.keep [3, 4] (.seq (.reg [co (some 50) (.fieldAddr 172 (.tmp 3) 0) none,
      co (some 51) (.fieldAddr 170 (.tmp 50) 1) none,
      co none (.store 3 (.tmp 51) (.const (.int .i64 0))) none] [3, 4])
  (.seq (.reg [co (some 52) (.load 172 (.tmp 3)) none,
      co none (.store 172 (.tmp 4) (.tmp 52)) none,
      co (some 5) (.assign (.const (.int .i64 0))) none] [4, 5])
  (.ret))))))
theorem t_centoref06_whole : Txt Try.prog 164 53 [(.cell 4 172), (.tmp 5)] c_centoref06_whole := txt_of (code := Try.f164.body.getD .ret) mixed (by kernel_rfl) Try.func164 (by kernel_rfl) Try.ntmps164 (by kernel_rfl) (ls := [([0, 3, 4], [(0, [0]), (1, [1])]), ([], []), ([0, 3, 4, 6], []), ([], []), ([3, 4, 48], []), ([], []), ([4, 5], []), ([], []), ([999999, 3, 4], []), ([3, 4], []), ([], []), ([4, 5], []), ([], [])]) (by kernel_rfl)
/-- cento/centoref06.shape -/
def c_centoref06_shape : CC :=
  .seq (.reg [cn (some 1) (.box 170 (.tmp 0)) none [0],
      co (some 2) (.assign (.const (.int .i64 0))) none] [1])
  (.seq (.seq (.reg [co (some 3) (.fieldAddr 170 (.tmp 1) 0) none,
        co (some 4) (.load 3 (.tmp 3)) none,
        co (some 5) (.binOp .eql 3 (.tmp 4) (.const (.int .i64 4)) 3) none] [1, 5])
    (.cond (.tmp 5)
      (.seq (.reg [co (some 2) (.assign (.const (.int .i64 9))) none] [2])
      (.ret))
      (.skip)))
  (.keep [1] (.seq (.seq (.reg [co (some 6) (.fieldAddr 170 (.tmp 1) 0) none,
        co (some 7) (.load 3 (.tmp 6)) none,
        co (some 8) (.binOp .neq 3 (.tmp 7) (.const (.int .i64 1)) 3) none,
        co (some 9) (.move (.tmp 8)) none,
        co (some 10) (.fieldAddr 170 (.tmp 1) 0) (some (9, true)),
        co (some 11) (.load 3 (.tmp 10)) (some (9, true)),
        co (some 12) (.binOp .neq 3 (.tmp 11) (.const (.int .i64 2)) 3) (some (9, true)),
        co (some 13) (.pick (.tmp 9) (.tmp 12) (.const (.bool false))) none] [13])
    (.cond (.tmp 13)
      (.seq (.reg [co (some 2) (.assign (.const (.int .i64 8))) none] [2])
      (.ret))
      (.skip)))
  (.keep [] (.seq (.reg [co (some 2) (.assign (.const (.int .i64 0))) none] [2])
  (.ret))))))
theorem t_centoref06_shape : Txt Try.prog 163 14 [(.tmp 2)] c_centoref06_shape := txt_of (code := Try.f163.body.getD .ret) mixed (by kernel_rfl) Try.func163 (by kernel_rfl) Try.ntmps163 (by kernel_rfl) (ls := [([1], [(0, [0])]), ([], []), ([1, 5], []), ([], []), ([2], []), ([], []), ([999999, 1], []), ([13], []), ([], []), ([2], []), ([], []), ([999999], []), ([2], []), ([], [])]) (by kernel_rfl)
def k1_centoref06_Follow : CC :=
  .seq (.seq (.reg [co (some 94) (.move (.tmp 11)) none,
        co (some 95) (.binOp .neq 3 (.tmp 94) (.const (.int .i64 0)) 3) none] [0, 6, 9, 10, 11, 95])
    (.cond (.tmp 95)
      (.seq (.reg [co (some 96) (.build 172 #[]) none,
          co (some 97) (.move (.tmp 11)) none,
          co none (.store 172 (.tmp 6) (.tmp 96)) none,
          co (some 7) (.assign (.tmp 97)) none] [6, 7])
      (.ret))
      (.skip)))
  (.keep [0, 6, 9, 10] (.seq (.reg [co (some 98) (.move (.tmp 0)) none,
      co (some 99) (.load 170 (.tmp 10)) none,
      co (some 100) (.fieldAddr 170 (.tmp 9) 6) none,
      co (some 101) (.load 3 (.tmp 100)) none,
      co (some 102) (.fieldAddr 170 (.tmp 9) 1) none,
      co (some 103) (.load 3 (.tmp 102)) none,
      co (some 104) (.build 172 #[(0, (.tmp 99)), (1, (.tmp 101)), (2, (.tmp 103))]) none,
      co (some 105) (.call { callee := (.value (.func 164)), args := #[(.tmp 98), (.tmp 104)], argTypes := #[22, 172] }) none,
      co (some 106) (.extract (.tmp 105) 0) none,
      co (some 107) (.extract (.tmp 105) 1) none,
      co none (.store 172 (.tmp 6) (.tmp 106)) none,
      co (some 7) (.assign (.tmp 107)) none] [6, 7])
  (.ret)))
def k2_centoref06_Follow : CC :=
  .seq (.reg [co (some 129) (.load 170 (.tmp 8)) none,
      co (some 130) (.call { callee := (.value (.func 163)), args := #[(.tmp 129)], argTypes := #[170] }) none,
      co (some 12) (.assign (.tmp 130)) none] [0, 1, 2, 6, 8, 12])
  (.seq (.seq (.reg [co (some 131) (.move (.tmp 12)) none,
        co (some 132) (.binOp .neq 3 (.tmp 131) (.const (.int .i64 0)) 3) none] [0, 1, 2, 6, 8, 12, 132])
    (.cond (.tmp 132)
      (.seq (.reg [co (some 133) (.build 172 #[]) none,
          co (some 134) (.move (.tmp 12)) none,
          co none (.store 172 (.tmp 6) (.tmp 133)) none,
          co (some 7) (.assign (.tmp 134)) none] [6, 7])
      (.ret))
      (.skip)))
  (.keep [0, 1, 2, 6, 8] (.seq (.reg [co (some 135) (.move (.tmp 0)) none,
      co (some 136) (.load 170 (.tmp 8)) none,
      co (some 137) (.move (.tmp 1)) none,
      co (some 138) (.move (.tmp 2)) none,
      co (some 139) (.binOp .add 3 (.tmp 138) (.const (.int .i64 1)) 3) none,
      co (some 140) (.fieldAddr 170 (.tmp 8) 1) none,
      co (some 141) (.load 3 (.tmp 140)) none,
      co (some 142) (.binOp .add 3 (.tmp 139) (.tmp 141) 3) none,
      co (some 143) (.build 172 #[(0, (.tmp 136)), (1, (.tmp 137)), (2, (.tmp 142))]) none,
      co (some 144) (.call { callee := (.value (.func 164)), args := #[(.tmp 135), (.tmp 143)], argTypes := #[22, 172] }) none,
      co (some 145) (.extract (.tmp 144) 0) none,
      co (some 146) (.extract (.tmp 144) 1) none,
      co none (.store 172 (.tmp 6) (.tmp 145)) none,
      co (some 7) (.assign (.tmp 146)) none] [6, 7])
  (.ret))))
/-- cento/centoref06.Follow -/
def c_centoref06_Follow : CC :=
  .seq (.reg [cn (some 6) (.alloc 172) none [0],
      co (some 7) (.assign (.const (.int .i64 0))) none] [0, 1, 2, 6])
  (.seq (.seq (.reg [co (some 13) (.move (.tmp 0)) none,
        co (some 14) (.move (.tmp 1)) none,
        co (some 15) (.move (.tmp 2)) none,
        co (some 16) (.call { callee := (.value (.func 162)), args := #[(.tmp 13), (.tmp 14), (.tmp 15)], argTypes := #[22, 3, 3] }) none,
        co (some 17) (.unOp .not 4 (.tmp 16)) none] [0, 1, 2, 6, 17])
    (.cond (.tmp 17)
      (.seq (.reg [co (some 18) (.build 172 #[]) none,
          co none (.store 172 (.tmp 6) (.tmp 18)) none,
          co (some 7) (.assign (.const (.int .i64 7))) none] [6, 7])
      (.ret))
      (.skip)))
  (.keep [0, 1, 2, 6] (.seq (.reg [co (some 19) (.move (.tmp 0)) none,
      co (some 20) (.move (.tmp 1)) none,
      co (some 21) (.indexAddr 22 (.tmp 19) (.tmp 20)) none,
      co (some 22) (.load 23 (.tmp 21)) none,
      co (some 23) (.move (.tmp 2)) none,
      co (some 24) (.indexAddr 23 (.tmp 22) (.tmp 23)) none,
      co (some 25) (.load 26 (.tmp 24)) none,
      co (some 26) (.call { callee := (.value (.func 116)), args := #[(.tmp 25)], argTypes := #[26] }) none,
      cn (some 8) (.alloc 170) none [1],
      co none (.store 170 (.tmp 8) (.tmp 26)) none] [0, 1, 2, 6, 8])
  (.seq (.seq (.reg [co (some 27) (.fieldAddr 170 (.tmp 8) 0) none,
        co (some 28) (.load 3 (.tmp 27)) none,
        co (some 29) (.binOp .eql 3 (.tmp 28) (.const (.int .i64 0)) 3) none] [0, 1, 2, 6, 8, 29])
    (.cond (.tmp 29)
      (.seq (.reg [co (some 30) (.build 172 #[]) none,
          co none (.store 172 (.tmp 6) (.tmp 30)) none,
          co (some 7) (.assign (.const (.int .i64 0))) none] [6, 7])
      (.ret))
      (.skip)))
  (.keep [0, 1, 2, 6, 8] (.seq (.seq (.reg [co (some 31) (.fieldAddr 170 (.tmp 8) 0) none,
        co (some 32) (.load 3 (.tmp 31)) none,
        co (some 33) (.binOp .eql 3 (.tmp 32) (.const (.int .i64 3)) 3) none,
        co (some 34) (.move (.tmp 33)) none,
        co (some 35) (.fieldAddr 170 (.tmp 8) 7) (some (34, true)),
        co (some 36) (.load 4 (.tmp 35)) (some (34, true)),
        co (some 37) (.pick (.tmp 34) (.tmp 36) (.const (.bool false))) none] [0, 1, 2, 6, 8, 37])
    (.cond (.tmp 37)
      (.seq (.seq (.reg [co (some 38) (.move (.tmp 0)) none,
            co (some 39) (.fieldAddr 170 (.tmp 8) 6) none,
            co (some 40) (.load 3 (.tmp 39)) none,
            co (some 41) (.fieldAddr 170 (.tmp 8) 1) none,
            co (some 42) (.load 3 (.tmp 41)) none,
            co (some 43) (.call { callee := (.value (.func 162)), args := #[(.tmp 38), (.tmp 40), (.tmp 42)], argTypes := #[22, 3, 3] }) none,
            co (some 44) (.unOp .not 4 (.tmp 43)) none,
            co (some 45) (.move (.tmp 44)) none,
            co (some 46) (.move (.tmp 0)) (some (45, false)),
            co (some 47) (.fieldAddr 170 (.tmp 8) 6) (some (45, false)),
            co (some 48) (.load 3 (.tmp 47)) (some (45, false)),
            co (some 49) (.fieldAddr 170 (.tmp 8) 1) (some (45, false)),
            co (some 50) (.load 3 (.tmp 49)) (some (45, false)),
            co (some 51) (.binOp .add 3 (.tmp 50) (.const (.int .i64 1)) 3) (some (45, false)),
            co (some 52) (.call { callee := (.value (.func 162)), args := #[(.tmp 46), (.tmp 48), (.tmp 51)], argTypes := #[22, 3, 3] }) (some (45, false)),
            co (some 53) (.unOp .not 4 (.tmp 52)) (some (45, false)),
            co (some 54) (.pick (.tmp 45) (.const (.bool true)) (.tmp 53)) none] [0, 6, 8, 54])
        (.cond (.tmp 54)
          (.seq (.reg [co (some 55) (.build 172 #[]) none,
              co none (.store 172 (.tmp 6) (.tmp 55)) none,
              co (some 7) (.assign (.const (.int .i64 7))) none] [6, 7])
          (.ret))
          (.skip)))
      (.keep [0, 6, 8] (.seq (.reg [co (some 56) (.move (.tmp 0)) none,
          co (some 57) (.fieldAddr 170 (.tmp 8) 6) none,
          ⟨some 58, (.load 3 (.tmp 57)), none, [], 2, [], true⟩,
          co (some 59) (.indexAddr 22 (.tmp 56) (.tmp 58)) none,
          ⟨some 60, (.load 23 (.tmp 59)), none, [], 4, [], true⟩,
          co (some 61) (.fieldAddr 170 (.tmp 8) 1) none,
          ⟨some 62, (.load 3 (.tmp 61)), none, [], 6, [], true⟩,
          co (some 63) (.indexAddr 23 (.tmp 60) (.tmp 62)) none,
          ⟨some 64, (.load 26 (.tmp 63)), none, [], 8, [], true⟩,
          ⟨some 65, (.call { callee := (.value (.func 116)), args := #[(.tmp 64)], argTypes := #[26] }), none, [], 9, [], true⟩,
          co (some 66) (.move (.tmp 0)) none,
          co (some 67) (.fieldAddr 170 (.tmp 8) 6) none,
          ⟨some 68, (.load 3 (.tmp 67)), none, [], 12, [9], true⟩,
          co (some 69) (.indexAddr 22 (.tmp 66) (.tmp 68)) none,
          ⟨some 70, (.load 23 (.tmp 69)), none, [], 14, [9], true⟩,
          co (some 71) (.fieldAddr 170 (.tmp 8) 1) none,
          ⟨some 72, (.load 3 (.tmp 71)), none, [], 16, [9], true⟩,
          co (some 73) (.binOp .add 3 (.tmp 72) (.const (.int .i64 1)) 3) none,
          co (some 74) (.indexAddr 23 (.tmp 70) (.tmp 73)) none,
          ⟨some 75, (.load 26 (.tmp 74)), none, [], 19, [9], true⟩,
          ⟨some 76, (.call { callee := (.value (.func 116)), args := #[(.tmp 75)], argTypes := #[26] }), none, [], 20, [], true⟩,
          ⟨some 9, (.alloc 170), none, [2], 21, [2, 4, 6, 8, 9, 12, 14, 16, 19, 20], true⟩,
          ⟨some 10, (.alloc 170), none, [3], 22, [2, 4, 6, 8, 9, 12, 14, 16, 19, 20, 21], false⟩,
          co none (.store 170 (.tmp 9) (.tmp 65)) none,
          co none (.store 170 (.tmp 10) (.tmp 76)) none] [0, 6, 9, 10])
      (.seq (.seq (.reg [co (some 77) (.fieldAddr 170 (.tmp 9) 0) none,
            co (some 78) (.load 3 (.tmp 77)) none,
            co (some 79) (.binOp .neq 3 (.tmp 78) (.const (.int .i64 3)) 3) none,
            co (some 80) (.move (.tmp 79)) none,
            co (some 81) (.fieldAddr 170 (.tmp 9) 7) (some (80, false)),
            co (some 82) (.load 4 (.tmp 81)) (some (80, false)),
            co (some 83) (.pick (.tmp 80) (.const (.bool true)) (.tmp 82)) none] [0, 6, 9, 10, 83])
        (.cond (.tmp 83)
          (.seq (.reg [co (some 84) (.build 172 #[]) none,
              co none (.store 172 (.tmp 6) (.tmp 84)) none,
              co (some 7) (.assign (.const (.int .i64 8))) none] [6, 7])
          (.ret))
          (.skip)))
      (.keep [0, 6, 9, 10] (.seq (.reg [co (some 85) (.load 170 (.tmp 10)) none,
          co (some 86) (.call { callee := (.value (.func 163)), args := #[(.tmp 85)], argTypes := #[170] }) none,
          co (some 11) (.assign (.tmp 86)) none] [0, 6, 9, 10, 11])
      (.seq (.seq (.reg [co (some 87) (.move (.tmp 11)) none,
            co (some 88) (.binOp .eql 3 (.tmp 87) (.const (.int .i64 0)) 3) none,
            co (some 89) (.move (.tmp 88)) none,
            co (some 90) (.fieldAddr 170 (.tmp 10) 1) (some (89, true)),
            co (some 91) (.load 3 (.tmp 90)) (some (89, true)),
            co (some 92) (.binOp .neq 3 (.tmp 91) (.const (.int .i64 0)) 3) (some (89, true)),
            co (some 93) (.pick (.tmp 89) (.tmp 92) (.const (.bool false))) none] [0, 6, 9, 10, 11, 93])
        (.cond (.tmp 93)
          (.reg [co (some 11) (.assign (.const (.int .i64 8))) none] [0, 6, 9, 10, 11])
          (.skip)))
      (.keep [0, 6, 9, 10, 11] k1_centoref06_Follow))))))))
      (.skip)))
  (.keep [0, 1, 2, 6, 8] (.seq (.seq (.reg [co (some 108) (.fieldAddr 170 (.tmp 8) 0) none,
        co (some 109) (.load 3 (.tmp 108)) none,
        co (some 110) (.binOp .eql 3 (.tmp 109) (.const (.int .i64 3)) 3) none] [0, 1, 2, 6, 8, 110])
    (.cond (.tmp 110)
      (.seq (.reg [co (some 111) (.fieldAddr 170 (.tmp 8) 6) none,
          co (some 112) (.load 3 (.tmp 111)) none,
          co (some 1) (.assign (.tmp 112)) none] [0, 1, 6, 8])
      (.seq (.reg [co (some 113) (.fieldAddr 170 (.tmp 8) 1) none,
          co (some 114) (.load 3 (.tmp 113)) none,
          co (some 2) (.assign (.tmp 114)) none] [0, 1, 2, 6, 8])
      (.seq (.seq (.reg [co (some 115) (.move (.tmp 0)) none,
            co (some 116) (.move (.tmp 1)) none,
            co (some 117) (.move (.tmp 2)) none,
            co (some 118) (.call { callee := (.value (.func 162)), args := #[(.tmp 115), (.tmp 116), (.tmp 117)], argTypes := #[22, 3, 3] }) none,
            co (some 119) (.unOp .not 4 (.tmp 118)) none] [0, 1, 2, 6, 8, 119])
        (.cond (.tmp 119)
          (.seq (.reg [co (some 120) (.build 172 #[]) none,
              co none (.store 172 (.tmp 6) (.tmp 120)) none,
              co (some 7) (.assign (.const (.int .i64 7))) none] [6, 7])
          (.ret))
          (.skip)))
      (.keep [0, 1, 2, 6, 8] (.reg [co (some 121) (.move (.tmp 0)) none,
        co (some 122) (.move (.tmp 1)) none,
        co (some 123) (.indexAddr 22 (.tmp 121) (.tmp 122)) none,
        co (some 124) (.load 23 (.tmp 123)) none,
        co (some 125) (.move (.tmp 2)) none,
        co (some 126) (.indexAddr 23 (.tmp 124) (.tmp 125)) none,
        co (some 127) (.load 26 (.tmp 126)) none,
        co (some 128) (.call { callee := (.value (.func 116)), args := #[(.tmp 127)], argTypes := #[26] }) none,
        co none (.store 170 (.tmp 8) (.tmp 128)) none] [0, 1, 2, 6, 8])))))
      (.skip)))
  (.keep [0, 1, 2, 6, 8] k2_centoref06_Follow)))))))))
theorem t_centoref06_Follow : Txt Try.prog 115 147 [(.cell 6 172), (.tmp 7)] c_centoref06_Follow := txt_of (code := Try.f115.body.getD .ret) mixed (by kernel_rfl) Try.func115 (by kernel_rfl) Try.ntmps115 (by kernel_rfl) (ls := [([0, 1, 2, 6], [(0, [0])]), ([], []), ([0, 1, 2, 6, 17], []), ([], []), ([6, 7], []), ([], []), ([999999, 0, 1, 2, 6], []), ([0, 1, 2, 6, 8], [(8, [1])]), ([], []), ([0, 1, 2, 6, 8, 29], []), ([], []), ([6, 7], []), ([], []), ([999999, 0, 1, 2, 6, 8], []), ([0, 1, 2, 6, 8, 37], []), ([], []), ([0, 6, 8, 54], []), ([], []), ([6, 7], []), ([], []), ([999999, 0, 6, 8], []), ([0, 6, 9, 10], [(21, [2]), (22, [3])]), ([], []), ([0, 6, 9, 10, 83], []), ([], []), ([6, 7], []), ([], []), ([999999, 0, 6, 9, 10], []), ([0, 6, 9, 10, 11], []), ([], []), ([0, 6, 9, 10, 11, 93], []), ([], []), ([0, 6, 9, 10, 11], []), ([999999, 0, 6, 9, 10, 11], []), ([0, 6, 9, 10, 11, 95], []), ([], []), ([6, 7], []), ([], []), ([999999, 0, 6, 9, 10], []), ([6, 7], []), ([], []), ([999999, 0, 1, 2, 6, 8], []), ([0, 1, 2, 6, 8, 110], []), ([], []), ([0, 1, 6, 8], []), ([], []), ([0, 1, 2, 6, 8], []), ([], []), ([0, 1, 2, 6, 8, 119], []), ([], []), ([6, 7], []), ([], []), ([999999, 0, 1, 2, 6, 8], []), ([0, 1, 2, 6, 8], []), ([999999, 0, 1, 2, 6, 8], []), ([0, 1, 2, 6, 8, 12], []), ([], []), ([0, 1, 2, 6, 8, 12, 132], []), ([], []), ([6, 7], []), ([], []), ([999999, 0, 1, 2, 6, 8], []), ([6, 7], []), ([], [])]) (by kernel_rfl)
end Go.Proofs.Ytehcobkphobjiaa

/-
  Chapter 6's functions: arenas that are only read.
-/
namespace Go.Proofs.Ytehcobkphobjiaa
set_option linter.unusedVariables false
set_option linter.unusedSimpArgs false
open Go Go.G Go.Proofs
abbrev ws (l : List Int) : A := .sl false (l.map uv)
abbrev sgs (l : List (List Int)) : A := .sl false (l.map ws)
@[simp] theorem lens_uv (l : List Int) : lens 1 (l.map uv) = true := by simp [lens]
@[simp] theorem lens_ws (l : List (List Int)) : lens 1 (l.map ws) = true := by simp [lens]
theorem clone_spec (f : Bool) (l : List Int) (h : l.length * 8 ≤ 140737488355328) : SpecB Try.prog 60 [.sl f (l.map uv)] (ws l) := by
  cases l with
  | nil =>
    refine specB_nil (fun cap => ?_) (fun a cap => ?_)
    · refine specB_of t_slices_Clone_uint64_uint64 (by simp) fun w0 I0 => ?_
      unfold c_slices_Clone_uint64_uint64
      simp
      exact frzN_nil
    · refine specB_of t_slices_Clone_uint64_uint64 (by simp) fun w0 I0 => ?_
      unfold c_slices_Clone_uint64_uint64
      simp
      exact frzN_osl (sz := 1) (xs := []) (by simp) (by simp) (by simp)
  | cons x l =>
    refine specB_of t_slices_Clone_uint64_uint64 (by simp) fun w0 I0 => ?_
    unfold c_slices_Clone_uint64_uint64
    simp at h ⊢
    refine ⟨h, ?_⟩
    have := frzN_osl (H := lkH [([0], { u := 1, ob := Ob.arr 1 (uv x :: l.map uv) })]) (o := [0]) (u := 1) (off := 0) (len := l.length + 1) (sz := 1) (xs := uv x :: l.map uv) (by simp) (by simp) (by simp [A.flat1, List.take_of_length_le])
    simp [List.take_of_length_le] at this
    exact this
theorem of_loop {n : Nat} {w0 : World} {I0 : Nat → Prop} {Q : Exit → Sta → Prop} {l : List (List Int)} (hl : l.length * 24 ≤ 140737488355328) (hb : ∀ x, x ∈ l → x.length * 8 ≤ 140737488355328) : ∀ (k i u : Nat), i + k = l.length →
    (∀ u', Q (.exit 0) ⟨lk [(3, .pob [0] 1 0), (8, sgs l), (9, iv l.length), (10, iv l.length), (11, bv false)], lkH [([0], ⟨1, .cells [.osl [1] u' 1 0 l.length, iv 0, iv 0, iv 0]⟩), ([1], ⟨u', .arr 1 (l.map ws)⟩)]⟩) →
    LoopC (cx Try.prog w0 I0 n) l1_arena_Of Q ⟨lk [(3, .pob [0] 1 0), (8, sgs l), (9, iv l.length), (10, iv i)], lkH [([0], ⟨1, .cells [.osl [1] u 1 0 i, iv 0, iv 0, iv 0]⟩), ([1], ⟨u, .arr 1 ((l.map ws).take i)⟩)]⟩ := by
  intro k
  induction k with
  | zero =>
    intro i u hi hq
    have : i = l.length := by omega
    subst this
    refine loopC_once mixed l1_arena_Of.eq_1 ?_
    simp
    simpa [List.take_of_length_le] using hq u
  | succ k ih =>
    intro i u hi hq
    have hlt : i < l.length := by omega
    refine loopC_once mixed l1_arena_Of.eq_1 ?_
    simp [hlt]
    refine sc_call (clone_spec false _ (hb _ (List.getElem_mem _))).spec rfl ?_
    simp
    have h24 : (i + 1) * 24 ≤ 140737488355328 := by omega
    refine ⟨⟨by omega, h24⟩, ?_⟩
    rw [i64_same (by omega) (by omega)]
    have := ih (i + 1) (u + 1) (by omega) hq
    rw [List.take_succ_eq_append_getElem (by simpa using hlt)] at this
    simpa [List.take_take] using this
/-- An arena that is only read. -/
abbrev arX (l : List (List Int)) (z m u : Int) : A := .pim [sgs l, iv z, iv m, iv u]
abbrev arn (l : List (List Int)) : A := arX l 0 0 0
theorem frz_sgs {H : Hp} {o : Nm} {u n : Nat} {l : List (List Int)} (h : vr (H o) u = some (1, l.map ws)) (hn : n = l.length) : Frz H (.osl o u 1 0 n) (sgs l) := by
  subst hn
  have := frz_osl (H := H) (o := o) (u := u) (off := 0) (len := l.length) (sz := 1) (xs := l.map ws) (by simpa using h) (by simp) (by simp [List.take_of_length_le])
  simp [List.take_of_length_le] at this
  exact this
theorem of_spec (l : List (List Int)) (hl : l.length * 24 ≤ 140737488355328) (hb : ∀ x, x ∈ l → x.length * 8 ≤ 140737488355328) : G.Spec Try.prog 13 [sgs l] (arn l) := by
  refine spec_of t_arena_Of (by simp) fun w0 I0 => ?_
  unfold c_arena_Of
  simp
  refine LoopC.le (le_blankC (d := [0]) 0 [1] 1 rfl rfl (by simp)) ?_
  simp
  refine of_loop hl hb l.length 0 1 (by omega) (fun u' => ?_)
  simp
  refine frz_pob (by simp; rfl) ?_ (by simp)
  simp
  exact ⟨frz_sgs (by simp) rfl, frz_bare rfl⟩
theorem len_spec {z m u : Int} (l : List (List Int)) : G.Spec Try.prog 23 [arX l z m u] (iv l.length) := by
  refine spec_of t_arena_Arena_Len (by simp) fun w0 I0 => ?_
  unfold c_arena_Arena_Len
  simp
  exact frz_bare rfl
/-- A segment; its length. -/
def seg (l : List (List Int)) (s : Int) : Option (List Int) := if 0 ≤ s then l[s.toNat]? else none
def szAt (l : List (List Int)) (s : Int) : Nat := ((seg l s).map List.length).getD 0
theorem seg_in {l : List (List Int)} {s : Int} (h0 : 0 ≤ s) (h1 : s < l.length) : ∃ h : s.toNat < l.length, seg l s = some l[s.toNat] := by
  have : s.toNat < l.length := by omega
  exact ⟨this, by simp [seg, h0, this]⟩
theorem seg_out {l : List (List Int)} {s : Int} (h : s < 0 ∨ l.length ≤ s) : seg l s = none := by
  unfold seg
  split
  · rw [List.getElem?_eq_none_iff]; omega
  · rfl
theorem seg_some {l : List (List Int)} {s : Int} {g : List Int} (h : seg l s = some g) : 0 ≤ s ∧ s < l.length ∧ ∃ h : s.toNat < l.length, g = l[s.toNat] := by
  unfold seg at h
  split at h
  · obtain ⟨h1, h2⟩ := List.getElem?_eq_some_iff.1 h
    exact ⟨by assumption, by omega, h1, h2.symm⟩
  · cases h
theorem size_spec {z m u : Int} (l : List (List Int)) (s : Int) : G.Spec Try.prog 66 [arX l z m u, iv s] (iv (szAt l s)) := by
  refine spec_of t_arena_Arena_Size (by simp) fun w0 I0 => ?_
  unfold c_arena_Arena_Size
  simp
  refine sc_call_gf rfl (fun _ => len_spec (z := z) (m := m) (u := u) l) (fun e => by simp [e]) rfl ?_
  simp
  refine ⟨fun h => ?_, fun h0 h1 => ?_⟩
  · rw [szAt, seg_out h]
    exact frz_bare rfl
  · obtain ⟨h2, e1⟩ := seg_in h0 h1
    simp [h0, h1, h2]
    rw [szAt, e1]
    exact frz_int rfl
/-- Are so many words, from one on, in a segment? -/
def hasW (l : List (List Int)) (s a n : Int) : Bool := decide (0 ≤ s ∧ s < l.length ∧ 0 ≤ a ∧ 0 ≤ n ∧ a + n ≤ szAt l s)
theorem has_spec {z m u : Int} (l : List (List Int)) (hb : ∀ x, x ∈ l → x.length * 8 ≤ 140737488355328) (s a n : Int) : G.Spec Try.prog 24 [arX l z m u, iv s, iv a, iv n] (bv (hasW l s a n)) := by
  have hz : szAt l s * 8 ≤ 140737488355328 := by
    unfold szAt
    cases h : seg l s with
    | none => simp
    | some g =>
      obtain ⟨_, _, h2, rfl⟩ := seg_some h
      simpa using hb _ (List.getElem_mem h2)
  refine spec_of t_arena_Arena_Has (by simp) fun w0 I0 => ?_
  unfold c_arena_Arena_Has
  simp
  refine sc_call (size_spec l s) rfl ?_
  simp
  refine sc_call_gt rfl (fun _ => len_spec (z := z) (m := m) (u := u) l) (fun e => by simp [e]) rfl ?_
  simp
  refine frz_bool ?_
  rw [Bool.eq_iff_iff]
  simp only [Bool.and_eq_true, decide_eq_true_eq, hasW]
  constructor
  · rintro ⟨⟨⟨⟨⟨h1, h2⟩, h3⟩, h4⟩, h5⟩, h6⟩
    rw [i64_same (by omega) (by omega)] at h6
    omega
  · rintro ⟨h1, h2, h3, h4, h5⟩
    rw [i64_same (by omega) (by omega)]
    omega
/-- A word. -/
def word (l : List (List Int)) (s a : Int) : Option Int := if 0 ≤ a then (seg l s).bind fun g => g[a.toNat]? else none
theorem hasW_one {l : List (List Int)} {s a : Int} : hasW l s a 1 = (word l s a).isSome := by
  rw [Bool.eq_iff_iff]
  simp only [hasW, decide_eq_true_eq]
  simp only [word, szAt]
  constructor
  · rintro ⟨h1, h2, h3, h4, h5⟩
    obtain ⟨h6, e1⟩ := seg_in h1 h2
    rw [e1] at h5
    simp at h5
    simp [h3, e1]
    omega
  · intro h
    split at h
    · rename_i h3
      cases e : seg l s with
      | none => simp [e] at h
      | some g =>
        obtain ⟨k1, k2, _⟩ := seg_some e
        simp [e] at h
        simp
        omega
    · simp at h
theorem word_some {l : List (List Int)} {s a x : Int} (h : word l s a = some x) : 0 ≤ s ∧ s < l.length ∧ 0 ≤ a ∧ ∃ (h1 : s.toNat < l.length) (h2 : a.toNat < l[s.toNat].length), x = l[s.toNat][a.toNat] := by
  unfold word at h
  split at h
  · rename_i h3
    cases e : seg l s with
    | none => simp [e] at h
    | some g =>
      obtain ⟨k1, k2, k3, rfl⟩ := seg_some e
      simp only [e, Option.bind_some] at h
      obtain ⟨h1, h2⟩ := List.getElem?_eq_some_iff.1 h
      exact ⟨k1, k2, h3, k3, h1, h2.symm⟩
  · cases h
theorem get_spec {z m u : Int} (l : List (List Int)) (hb : ∀ x, x ∈ l → x.length * 8 ≤ 140737488355328) (s a : Int) : G.Spec Try.prog 26 [arX l z m u, iv s, iv a] (.tup [uv ((word l s a).getD 0), bv (word l s a).isSome]) := by
  refine spec_of t_arena_Arena_Get (by simp) fun w0 I0 => ?_
  unfold c_arena_Arena_Get
  simp
  refine sc_call (has_spec l hb s a 1) rfl ?_
  simp [hasW_one]
  cases h : word l s a with
  | none =>
    simp
    exact frz_bare rfl
  | some x =>
    obtain ⟨k1, k2, k3, k4, k5, rfl⟩ := word_some h
    have k6 : a < l[s.toNat].length := by omega
    simp [k1, k2, k3, k4, k5, k6]
    exact frz_bare rfl
/-- Words. -/
def part (l : List (List Int)) (s a n : Int) : List Int := (((seg l s).getD []).drop a.toNat).take n.toNat
theorem hasW_in {l : List (List Int)} {s a n : Int} (h : hasW l s a n = true) : 0 ≤ s ∧ s < l.length ∧ 0 ≤ a ∧ 0 ≤ n ∧ ∃ h : s.toNat < l.length, seg l s = some l[s.toNat] ∧ a + n ≤ l[s.toNat].length := by
  simp only [hasW, decide_eq_true_eq] at h
  obtain ⟨h1, h2, h3, h4, h5⟩ := h
  obtain ⟨h6, e1⟩ := seg_in h1 h2
  rw [szAt, e1] at h5
  exact ⟨h1, h2, h3, h4, h6, e1, h5⟩
theorem part_spec {z m u : Int} (l : List (List Int)) (hb : ∀ x, x ∈ l → x.length * 8 ≤ 140737488355328) (s a n : Int) : G.Spec Try.prog 27 [arX l z m u, iv s, iv a, iv n] (if hasW l s a n = true then .tup [ws (part l s a n), bv true] else .tup [ws [], bv false]) := by
  refine spec_of t_arena_Arena_Part (by simp) fun w0 I0 => ?_
  unfold c_arena_Arena_Part
  simp
  refine sc_call (has_spec l hb s a n) rfl ?_
  cases h : hasW l s a n with
  | false =>
    simp
    refine frz_tup ?_
    simp
    exact ⟨frz_sl, frz_bare rfl⟩
  | true =>
    obtain ⟨h1, h2, h3, h4, h5, e1, h6⟩ := hasW_in h
    have hg := hb _ (List.getElem_mem h5)
    simp [h1, h2, h5]
    rw [i64_same (by omega) (by omega)]
    have h7 : 0 ≤ a + n := by omega
    have h8 : a ≤ max (a + n) 0 := by omega
    simp [h3, h6, h7, h4, h8]
    have e : List.take ((a + n).toNat - a.toNat) (List.drop a.toNat (List.map uv l[s.toNat])) = (part l s a n).map uv := by
      rw [part, e1, show (a + n).toNat - a.toNat = n.toNat from by omega]
      simp
    rw [e]
    have hl : (part l s a n).length * 8 ≤ 140737488355328 := by
      rw [part, e1]
      simp
      omega
    refine sc_call (clone_spec _ _ hl).spec rfl ?_
    simp
    exact frz_bare rfl
end Go.Proofs.Ytehcobkphobjiaa

/-
  Chapter 6: far pointers are followed, by the program and by the document.
-/
namespace Go.Proofs.Ytehcobkphobjiaa
set_option linter.unusedVariables false
set_option linter.unusedSimpArgs false
open Go Go.G Go.Proofs
/-- How many bits each kid has. -/
def bitsOf (c : Int) : Int := if c = 0 then 0 else if c = 1 then 1 else if c = 2 then 8 else if c = 3 then 16 else if c = 4 then 32 else 64
/-- How many words what is pointed to takes. -/
def wordsP (p : Pt) : Option Int :=
  if p.kind = 1 then some (p.data + p.ptrs)
  else if p.kind = 2 ∧ p.code = 7 then some (p.count + 1)
  else if p.kind = 2 ∧ 0 ≤ p.code ∧ p.code ≤ 6 ∧ 0 ≤ p.count ∧ p.count ≤ 536870911 then some ((p.count * bitsOf p.code + 63) / 64)
  else none
/-- Its sums do not turn round. -/
def Sums (p : Pt) : Prop := -9223372036854775808 ≤ p.data + p.ptrs ∧ p.data + p.ptrs < 9223372036854775808 ∧ -9223372036854775808 ≤ p.count + 1 ∧ p.count + 1 < 9223372036854775808
set_option maxRecDepth 8000 in
theorem words_spec (p : Pt) (hs : Sums p) : G.Spec Try.prog 211 [p.a] (.tup [iv ((wordsP p).getD 0), bv (wordsP p).isSome]) := by
  obtain ⟨s1, s2, s3, s4⟩ := hs
  refine spec_of t_ptr_Ptr_Words (by simp) fun w0 I0 => ?_
  unfold c_ptr_Ptr_Words
  simp
  refine ⟨fun h => ?_, fun h => ⟨fun h2 h3 => ?_, fun h2 => ?_⟩⟩
  · rw [i64_same s1 s2]
    refine frz_is rfl ?_
    simp [wordsP, h]
  · rw [i64_same s3 s4]
    refine frz_is rfl ?_
    simp [wordsP, h, h2, h3]
  · refine sc_call_gt rfl (fun _ => within_spec p.code 6) (fun e => by simp [e]) rfl ?_
    simp
    refine sc_call_gt rfl (fun _ => within_spec p.count 536870911) (fun e => by simp [e]) rfl ?_
    simp
    refine ⟨fun a1 a2 a3 a4 a5 => ?_, fun hn => ?_⟩
    · obtain ⟨k, o, d, q, co, n, sg, b⟩ := p
      simp only at *
      have hc : co = 0 ∨ co = 1 ∨ co = 2 ∨ co = 3 ∨ co = 4 ∨ co = 5 ∨ co = 6 := by omega
      rcases hc with rfl | rfl | rfl | rfl | rfl | rfl | rfl
      all_goals
        simp
        simp (disch := omega) only [i64_same, Int.tdiv_eq_ediv_of_nonneg]
        refine frz_is rfl ?_
        simp [wordsP, a1, a4, a5, bitsOf]
    · refine frz_is rfl ?_
      have e : wordsP p = none := by
        rw [wordsP, if_neg h, if_neg (fun ⟨h3, h4⟩ => h2 h3 h4), if_neg (fun ⟨b1, b2, b3, b4, b5⟩ => by have := hn b1 b2 b3 b4; omega)]
      simp [e]
/-- What a pointer points to. -/
structure Lc where
  p : Pt
  s : Int
  at_ : Int
deriving DecidableEq
def Pt.l (p : Pt) : List A := [iv p.kind, iv p.off, iv p.data, iv p.ptrs, iv p.code, iv p.count, iv p.seg, bv p.dbl]
@[simp] theorem Pt.l_eq (p : Pt) : p.l = [iv p.kind, iv p.off, iv p.data, iv p.ptrs, iv p.code, iv p.count, iv p.seg, bv p.dbl] := rfl
def Pt.zero : Pt := ⟨0, 0, 0, 0, 0, 0, 0, false⟩
def Lc.zero : Lc := ⟨Pt.zero, 0, 0⟩
abbrev Lc.a (x : Lc) : A := .agg [iv x.p.kind, iv x.p.off, iv x.p.data, iv x.p.ptrs, iv x.p.code, iv x.p.count, iv x.p.seg, bv x.p.dbl, iv x.s, iv x.at_]
/-- All of it in its segment? -/
def insideP (l : List (List Int)) (x : Lc) : Lc × Int := if hasW l x.s x.at_ ((wordsP x.p).getD 0) = true then (⟨{ x.p with off := 0 }, x.s, x.at_⟩, 0) else (Lc.zero, 7)
theorem inside_spec (l : List (List Int)) (hb : ∀ x, x ∈ l → x.length * 8 ≤ 140737488355328) (x : Lc) (hs : Sums x.p) : G.Spec Try.prog 201 [arn l, x.a] (.tup [(insideP l x).1.a, iv (insideP l x).2]) := by
  refine spec_of t_far_inside (by simp) fun w0 I0 => ?_
  unfold c_far_inside
  simp
  refine sc_call (words_spec x.p hs) rfl ?_
  simp
  refine sc_call (has_spec l hb _ _ _) rfl ?_
  simp
  refine ⟨fun h => ?_, fun h => ?_⟩
  · refine frz_is rfl ?_
    simp [insideP, h]
  · refine frz_is rfl ?_
    simp [insideP, h, Lc.zero, Pt.zero]
def nearP (l : List (List Int)) (p : Pt) (s a : Int) : Lc × Int :=
  if p.kind = 1 ∨ p.kind = 2 then insideP l ⟨p, s, a + 1 + p.off⟩ else if p.kind = 4 then (Lc.zero, 9) else (Lc.zero, 8)
theorem far_near_spec (l : List (List Int)) (hb : ∀ x, x ∈ l → x.length * 8 ≤ 140737488355328) (p : Pt) (s a : Int) (hs : Sums p) (h1 : -1000000000000000000 ≤ a) (h2 : a ≤ 1000000000000000000) (h3 : -1000000000000000000 ≤ p.off) (h4 : p.off ≤ 1000000000000000000) :
    G.Spec Try.prog 173 [arn l, p.a, iv s, iv a] (.tup [(nearP l p s a).1.a, iv (nearP l p s a).2]) := by
  refine spec_of t_far_near (by simp) fun w0 I0 => ?_
  unfold c_far_near
  simp
  have go : p.kind = 1 ∨ p.kind = 2 → nearP l p s a = insideP l ⟨p, s, a + 1 + p.off⟩ := fun h => by rw [nearP, if_pos h]
  refine ⟨fun h => ?_, fun h => ?_⟩
  · have hd : decide (p.kind = 1) = true := by simp [h]
    rw [k1_far_near.eq_1]
    simp [hd]
    simp (disch := omega) only [i64_same]
    refine sc_call (inside_spec l hb ⟨p, s, a + 1 + p.off⟩ hs) rfl ?_
    simp
    rw [go (.inl h)]
    exact frz_bare rfl
  · rw [k1_far_near.eq_1]
    simp
    refine ⟨fun h2 => ?_, fun h2 => ⟨fun h4 => ?_, fun h4 => ?_⟩⟩
    · simp (disch := omega) only [i64_same]
      refine sc_call (inside_spec l hb ⟨p, s, a + 1 + p.off⟩ hs) rfl ?_
      simp
      rw [go (.inr h2)]
      exact frz_bare rfl
    · refine frz_is rfl ?_
      simp [nearP, h4, Lc.zero, Pt.zero]
    · refine frz_is rfl ?_
      simp [nearP, h, h2, h4, Lc.zero, Pt.zero]
/-- All of it are words. -/
def Wds (l : List (List Int)) : Prop := ∀ x, x ∈ l → ∀ y, y ∈ x → 0 ≤ y ∧ y < 18446744073709551616
theorem dec_sums {w : Int} (h0 : 0 ≤ w) (h1 : w < 18446744073709551616) : Sums (dec w) := by
  unfold Sums dec
  repeat' split
  all_goals simp only
  all_goals omega
theorem dec_off {w : Int} (h0 : 0 ≤ w) (h1 : w < 18446744073709551616) : -536870912 ≤ (dec w).off ∧ (dec w).off ≤ 536870912 ∧ 0 ≤ (dec w).seg ∧ (dec w).seg < 4294967296 := by
  obtain ⟨o1, o2, _⟩ := offs_in w
  unfold dec
  repeat' split
  all_goals simp only
  all_goals omega
theorem word_in {l : List (List Int)} (hw : Wds l) {s a x : Int} (h : word l s a = some x) : 0 ≤ x ∧ x < 18446744073709551616 := by
  obtain ⟨_, _, _, h1, h2, rfl⟩ := word_some h
  exact hw _ (List.getElem_mem h1) _ (List.getElem_mem h2)
/-- Two words: a far pointer to what is meant, and its shape. -/
def doubleP (l : List (List Int)) (s a : Int) : Lc × Int :=
  match word l s a, word l s (a + 1) with
  | some v, some w =>
    if (dec v).kind ≠ 3 ∨ (dec v).dbl = true then (Lc.zero, 8)
    else if (dec w).kind = 4 then (Lc.zero, 9)
    else if ((dec w).kind ≠ 1 ∧ (dec w).kind ≠ 2) ∨ (dec w).off ≠ 0 then (Lc.zero, 8)
    else insideP l ⟨dec w, (dec v).seg, (dec v).off⟩
  | _, _ => (Lc.zero, 7)
theorem hasW_two {l : List (List Int)} {s a : Int} : hasW l s a 2 = ((word l s a).isSome && (word l s (a + 1)).isSome) := by
  rw [← hasW_one, ← hasW_one, Bool.eq_iff_iff]
  simp only [hasW, Bool.and_eq_true, decide_eq_true_eq]
  omega
theorem part_two {l : List (List Int)} {s a v w : Int} (h1 : word l s a = some v) (h2 : word l s (a + 1) = some w) : part l s a 2 = [v, w] := by
  obtain ⟨k1, k2, k3, k4, k5, rfl⟩ := word_some h1
  obtain ⟨_, _, k6, _, k7, rfl⟩ := word_some h2
  obtain ⟨_, e⟩ := seg_in k1 k2
  have e1 : (a + 1).toNat = a.toNat + 1 := by omega
  simp only [e1] at k7
  rw [part, e]
  simp only [Option.getD_some, e1]
  rw [List.drop_eq_getElem_cons k5, List.drop_eq_getElem_cons k7]
  rfl
theorem double_spec (l : List (List Int)) (hb : ∀ x, x ∈ l → x.length * 8 ≤ 140737488355328) (hw : Wds l) (s a : Int) :
    G.Spec Try.prog 174 [arn l, iv s, iv a] (.tup [(doubleP l s a).1.a, iv (doubleP l s a).2]) := by
  refine spec_of t_far_double (by simp) fun w0 I0 => ?_
  unfold c_far_double
  simp
  refine sc_call (part_spec l hb s a 2) rfl ?_
  rw [hasW_two]
  cases h1 : word l s a with
  | none =>
    simp
    refine frz_is rfl ?_
    simp [doubleP, h1, Lc.zero, Pt.zero]
  | some v =>
    cases h2 : word l s (a + 1) with
    | none =>
      simp
      refine frz_is rfl ?_
      simp [doubleP, h1, h2, Lc.zero, Pt.zero]
    | some w =>
      obtain ⟨v0, v1⟩ := word_in hw h1
      obtain ⟨w0', w1⟩ := word_in hw h2
      rw [part_two h1 h2]
      simp
      refine sc_call (Decode_spec v0 v1) rfl ?_
      simp
      refine sc_call (Decode_spec w0' w1) rfl ?_
      simp
      have hs := dec_sums w0' w1
      generalize hv : dec v = p
      generalize hq : dec w = q at hs
      have e : doubleP l s a = if p.kind ≠ 3 ∨ p.dbl = true then (Lc.zero, 8) else if q.kind = 4 then (Lc.zero, 9) else if (q.kind ≠ 1 ∧ q.kind ≠ 2) ∨ q.off ≠ 0 then (Lc.zero, 8) else insideP l ⟨q, p.seg, p.off⟩ := by
        simp only [doubleP, h1, h2, hv, hq]
      refine ⟨fun h => ?_, fun a1 a2 => ⟨fun h3 => ?_, fun h3 => ⟨fun h4 => ?_, fun h4 h5 => ?_⟩⟩⟩
      · rw [e, if_pos h]
        exact frz_bare rfl
      · rw [e, if_neg (by simp [a1, a2]), if_pos h3]
        exact frz_bare rfl
      · rw [e, if_neg (by simp [a1, a2]), if_neg h3, if_pos (by simpa using h4)]
        exact frz_bare rfl
      · refine sc_call (inside_spec l hb ⟨q, p.seg, p.off⟩ hs) rfl ?_
        simp
        rw [e, if_neg (by simp [a1, a2]), if_neg h3, if_neg (by simp [h5]; omega)]
        exact frz_bare rfl
/-- What the pointer points to that stands in a word. -/
def followP (l : List (List Int)) (s a : Int) : Lc × Int :=
  match word l s a with
  | none => (Lc.zero, 7)
  | some w =>
    if (dec w).kind = 0 then (Lc.zero, 0)
    else if (dec w).kind ≠ 3 then nearP l (dec w) s a
    else if (dec w).dbl = true then doubleP l (dec w).seg (dec w).off
    else match word l (dec w).seg (dec w).off with
      | none => (Lc.zero, 7)
      | some v => nearP l (dec v) (dec w).seg (dec w).off
theorem follow_spec (l : List (List Int)) (hb : ∀ x, x ∈ l → x.length * 8 ≤ 140737488355328) (hw : Wds l) (s a : Int) :
    G.Spec Try.prog 124 [arn l, iv s, iv a] (.tup [(followP l s a).1.a, iv (followP l s a).2]) := by
  refine spec_of t_far_Follow (by simp) fun w0 I0 => ?_
  unfold c_far_Follow
  simp
  refine sc_call (get_spec l hb s a) rfl ?_
  simp
  cases h1 : word l s a with
  | none =>
    simp
    refine frz_is rfl ?_
    simp [followP, h1, Lc.zero, Pt.zero]
  | some w =>
    obtain ⟨k1, k2, k3, k4, k5, _⟩ := word_some h1
    have hla := hb _ (List.getElem_mem k4)
    obtain ⟨v0, v1⟩ := word_in hw h1
    simp
    refine sc_call (Decode_spec v0 v1) rfl ?_
    simp
    have hs := dec_sums v0 v1
    obtain ⟨o1, o2, o3, o4⟩ := dec_off v0 v1
    generalize hv : dec w = p at *
    have e : followP l s a = if p.kind = 0 then (Lc.zero, 0) else if p.kind ≠ 3 then nearP l p s a else if p.dbl = true then doubleP l p.seg p.off else match word l p.seg p.off with | none => (Lc.zero, 7) | some v => nearP l (dec v) p.seg p.off := by
      simp only [followP, h1, hv]
    refine ⟨fun h0 => ?_, fun h0 => ⟨fun h3 => ⟨fun hd => ?_, fun hd => ?_⟩, fun h3 => ?_⟩⟩
    · rw [e, if_pos h0]
      exact frz_bare rfl
    · refine sc_call (double_spec l hb hw p.seg p.off) rfl ?_
      simp
      rw [e, if_neg h0, if_neg (by simp [h3]), if_pos hd]
      exact frz_bare rfl
    · rw [if_neg h0, if_neg (by simp [h3]), if_neg (by simp [hd])] at e
      refine sc_call (get_spec l hb p.seg p.off) rfl ?_
      simp
      cases h2 : word l p.seg p.off with
      | none =>
        simp [h2] at e
        simp
        rw [e]
        exact frz_bare rfl
      | some v =>
        simp [h2] at e
        simp
        obtain ⟨j0, j1⟩ := word_in hw h2
        obtain ⟨q1, q2, q3, q4⟩ := dec_off j0 j1
        refine sc_call (Decode_spec j0 j1) rfl ?_
        simp
        refine sc_call (far_near_spec l hb (dec v) p.seg p.off (dec_sums j0 j1) (by omega) (by omega) (by omega) (by omega)) rfl ?_
        simp
        rw [e]
        exact frz_bare rfl
    · refine sc_call (far_near_spec l hb p s a hs (by omega) (by omega) (by omega) (by omega)) rfl ?_
      simp
      rw [e, if_neg h0, if_pos (by simpa using h3)]
      exact frz_bare rfl
end Go.Proofs.Ytehcobkphobjiaa

/-
  The functions' text as data, and the facts on the types that they use: written by a program of ours (gen2.py) off the translation.
-/
namespace Go.Proofs.Ytehcobkphobjiaa
set_option linter.unusedVariables false
set_option linter.unusedSimpArgs false
set_option maxRecDepth 20000
open Go Go.G Go.Proofs
@[simp] theorem und_4 : Try.prog.underlying 4 = some .bool := by kernel_rfl
@[simp] theorem und_51 : Try.prog.underlying 51 = some (.slice 53) := by kernel_rfl
@[simp] theorem szT_51 : szT Try.prog 51 = some 1 := by kernel_rfl
@[simp] theorem szT_53 : szT Try.prog 53 = some 3 := by kernel_rfl
@[simp] theorem aggT_51 : aggT Try.prog 51 = some false := by kernel_rfl
@[simp] theorem aggT_53 : aggT Try.prog 53 = some true := by kernel_rfl
@[simp] theorem zeroT_53 : zeroT Try.prog 53 = some (Value.agg #[Value.int IntKind.i64 0, Value.slice none 0 0, Value.slice none 0 0]) := by kernel_rfl
@[simp] theorem bytesT_53 : bytesT Try.prog 53 = some 56 := by kernel_rfl
@[simp] theorem fieldOffT_53_0 : fieldOffT Try.prog 53 0 = some 0 := by kernel_rfl
@[simp] theorem fieldOffT_53_1 : fieldOffT Try.prog 53 1 = some 1 := by kernel_rfl
@[simp] theorem fieldOffT_53_2 : fieldOffT Try.prog 53 2 = some 2 := by kernel_rfl
@[simp] theorem buildA_53 (ps : List (Nat × A)) : buildA Try.prog 53 ps = (fillA (fun i => ([(0, 1), (1, 1), (2, 1)] : List (Nat × Nat))[i]?) [A.v (Value.int IntKind.i64 0), A.sl true [], A.sl true []] ps).map A.agg := by kernel_rfl
def l1_centoref07_Right : CC :=
  .seq (.seq (.reg [co (some 78) (.move (.tmp 5)) none,
        co (some 79) (.fieldAddr 53 (.tmp 2) 2) none,
        co (some 80) (.load 51 (.tmp 79)) none,
        co (some 81) (.call { callee := (.builtin .len), args := #[(.tmp 80)], argTypes := #[51] }) none,
        co (some 82) (.binOp .lss 3 (.tmp 78) (.tmp 81) 3) none] [1, 2, 5, 82])
    (.cond (.tmp 82)
      (.skip)
      (.exit 0)))
  (.keep [1, 2, 5] (.seq (.block 1
      (.seq (.reg [co (some 85) (.fieldAddr 53 (.tmp 2) 2) none,
          co (some 86) (.load 51 (.tmp 85)) none,
          co (some 87) (.move (.tmp 5)) none,
          co (some 88) (.indexAddr 51 (.tmp 86) (.tmp 87)) none,
          co (some 89) (.load 53 (.tmp 88)) none,
          cn (some 6) (.alloc 53) none [1],
          co none (.store 53 (.tmp 6) (.tmp 89)) none] [1, 2, 5, 6])
      (.seq (.seq (.reg [co (some 90) (.load 53 (.tmp 6)) none,
            co (some 91) (.move (.tmp 1)) none,
            co (some 92) (.binOp .sub 3 (.tmp 91) (.const (.int .i64 1)) 3) none,
            co (some 93) (.call { callee := (.value (.func 69)), args := #[(.tmp 90), (.tmp 92)], argTypes := #[53, 3] }) none,
            co (some 94) (.unOp .not 4 (.tmp 93)) none] [1, 2, 5, 6, 94])
        (.cond (.tmp 94)
          (.seq (.reg [co (some 4) (.assign (.const (.bool false))) none] [4])
          (.ret))
          (.skip)))
      (.keep [1, 2, 5, 6] (.seq (.reg [co (some 95) (.fieldAddr 53 (.tmp 2) 0) none,
          co (some 96) (.load 3 (.tmp 95)) none,
          co (some 97) (.binOp .geq 3 (.tmp 96) (.const (.int .i64 2)) 3) none,
          co (some 98) (.move (.tmp 97)) none,
          co (some 99) (.fieldAddr 53 (.tmp 2) 0) (some (98, true)),
          co (some 100) (.load 3 (.tmp 99)) (some (98, true)),
          co (some 101) (.binOp .leq 3 (.tmp 100) (.const (.int .i64 7)) 3) (some (98, true)),
          co (some 102) (.pick (.tmp 98) (.tmp 101) (.const (.bool false))) none,
          co (some 7) (.assign (.tmp 102)) none] [1, 2, 5, 6, 7])
      (.seq (.reg [co (some 103) (.move (.tmp 7)) none,
          co (some 104) (.fieldAddr 53 (.tmp 6) 0) none,
          co (some 105) (.load 3 (.tmp 104)) none,
          co (some 106) (.binOp .eql 3 (.tmp 105) (.const (.int .i64 10)) 3) none,
          co (some 107) (.binOp .neq 4 (.tmp 103) (.tmp 106) 4) none,
          co (some 108) (.move (.tmp 107)) none,
          co (some 109) (.fieldAddr 53 (.tmp 2) 0) (some (108, false)),
          co (some 110) (.load 3 (.tmp 109)) (some (108, false)),
          co (some 111) (.binOp .eql 3 (.tmp 110) (.const (.int .i64 9)) 3) (some (108, false)),
          co (some 112) (.move (.tmp 111)) (some (108, false)),
          co (some 113) (.fieldAddr 53 (.tmp 6) 0) (some (112, true)),
          co (some 114) (.load 3 (.tmp 113)) (some (112, true)),
          co (some 115) (.binOp .neq 3 (.tmp 114) (.const (.int .i64 1)) 3) (some (112, true)),
          co (some 116) (.pick (.tmp 112) (.tmp 115) (.const (.bool false))) (some (108, false)),
          co (some 117) (.pick (.tmp 108) (.const (.bool true)) (.tmp 116)) none,
          co (some 118) (.move (.tmp 117)) none,
          co (some 119) (.move (.tmp 7)) (some (118, false)),
          co (some 120) (.move (.tmp 119)) (some (118, false)),
          co (some 121) (.fieldAddr 53 (.tmp 2) 0) (some (120, true)),
          co (some 122) (.load 3 (.tmp 121)) (some (120, true)),
          co (some 123) (.binOp .sub 3 (.tmp 122) (.const (.int .i64 2)) 3) (some (120, true)),
          co (some 124) (.fieldAddr 53 (.tmp 6) 1) (some (120, true)),
          co (some 125) (.load 23 (.tmp 124)) (some (120, true)),
          co (some 126) (.indexAddr 23 (.tmp 125) (.const (.int .i64 0))) (some (120, true)),
          co (some 127) (.load 26 (.tmp 126)) (some (120, true)),
          co (some 128) (.call { callee := (.value (.func 107)), args := #[(.tmp 123), (.tmp 127)], argTypes := #[3, 26] }) (some (120, true)),
          co (some 129) (.unOp .not 4 (.tmp 128)) (some (120, true)),
          co (some 130) (.pick (.tmp 120) (.tmp 129) (.const (.bool false))) (some (118, false)),
          co (some 131) (.pick (.tmp 118) (.const (.bool true)) (.tmp 130)) none] [1, 2, 5, 131])
      (.cond (.tmp 131)
        (.seq (.reg [co (some 4) (.assign (.const (.bool false))) none] [4])
        (.ret))
        (.skip))))))))
  (.keep [1, 2, 5] (.reg [co (some 83) (.move (.tmp 5)) none,
    co (some 84) (.binOp .add 3 (.tmp 83) (.const (.int .i64 1)) 3) none,
    co (some 5) (.assign (.tmp 84)) none] [1, 2, 5]))))
/-- cento/centoref07.Right -/
def c_centoref07_Right : CC :=
  .seq (.reg [cn (some 2) (.box 53 (.tmp 0)) none [0],
      co (some 4) (.assign (.const (.bool false))) none] [1, 2])
  (.seq (.seq (.reg [co (some 8) (.fieldAddr 53 (.tmp 2) 0) none,
        co (some 9) (.load 3 (.tmp 8)) none,
        co (some 10) (.binOp .eql 3 (.tmp 9) (.const (.int .i64 0)) 3) none] [1, 2, 10])
    (.cond (.tmp 10)
      (.seq (.reg [co (some 11) (.fieldAddr 53 (.tmp 2) 1) none,
          co (some 12) (.load 23 (.tmp 11)) none,
          co (some 13) (.call { callee := (.builtin .len), args := #[(.tmp 12)], argTypes := #[23] }) none,
          co (some 14) (.binOp .eql 3 (.tmp 13) (.const (.int .i64 0)) 3) none,
          co (some 15) (.move (.tmp 14)) none,
          co (some 16) (.fieldAddr 53 (.tmp 2) 2) (some (15, true)),
          co (some 17) (.load 51 (.tmp 16)) (some (15, true)),
          co (some 18) (.call { callee := (.builtin .len), args := #[(.tmp 17)], argTypes := #[51] }) (some (15, true)),
          co (some 19) (.binOp .eql 3 (.tmp 18) (.const (.int .i64 0)) 3) (some (15, true)),
          co (some 20) (.pick (.tmp 15) (.tmp 19) (.const (.bool false))) none,
          co (some 4) (.assign (.tmp 20)) none] [4])
      (.ret))
      (.skip)))
  (.keep [1, 2] (.seq (.seq (.reg [co (some 21) (.fieldAddr 53 (.tmp 2) 0) none,
        co (some 22) (.load 3 (.tmp 21)) none,
        co (some 23) (.binOp .eql 3 (.tmp 22) (.const (.int .i64 10)) 3) none] [1, 2, 23])
    (.cond (.tmp 23)
      (.seq (.reg [co (some 24) (.fieldAddr 53 (.tmp 2) 1) none,
          co (some 25) (.load 23 (.tmp 24)) none,
          co (some 26) (.call { callee := (.builtin .len), args := #[(.tmp 25)], argTypes := #[23] }) none,
          co (some 27) (.binOp .eql 3 (.tmp 26) (.const (.int .i64 1)) 3) none,
          co (some 28) (.move (.tmp 27)) none,
          co (some 29) (.fieldAddr 53 (.tmp 2) 2) (some (28, true)),
          co (some 30) (.load 51 (.tmp 29)) (some (28, true)),
          co (some 31) (.call { callee := (.builtin .len), args := #[(.tmp 30)], argTypes := #[51] }) (some (28, true)),
          co (some 32) (.binOp .eql 3 (.tmp 31) (.const (.int .i64 0)) 3) (some (28, true)),
          co (some 33) (.pick (.tmp 28) (.tmp 32) (.const (.bool false))) none,
          co (some 4) (.assign (.tmp 33)) none] [4])
      (.ret))
      (.skip)))
  (.keep [1, 2] (.seq (.seq (.reg [co (some 34) (.fieldAddr 53 (.tmp 2) 0) none,
        co (some 35) (.load 3 (.tmp 34)) none,
        co (some 36) (.binOp .lss 3 (.tmp 35) (.const (.int .i64 0)) 3) none,
        co (some 37) (.move (.tmp 36)) none,
        co (some 38) (.fieldAddr 53 (.tmp 2) 0) (some (37, false)),
        co (some 39) (.load 3 (.tmp 38)) (some (37, false)),
        co (some 40) (.binOp .gtr 3 (.tmp 39) (.const (.int .i64 10)) 3) (some (37, false)),
        co (some 41) (.pick (.tmp 37) (.const (.bool true)) (.tmp 40)) none,
        co (some 42) (.move (.tmp 41)) none,
        co (some 43) (.move (.tmp 1)) (some (42, false)),
        co (some 44) (.binOp .eql 3 (.tmp 43) (.const (.int .i64 0)) 3) (some (42, false)),
        co (some 45) (.pick (.tmp 42) (.const (.bool true)) (.tmp 44)) none,
        co (some 46) (.move (.tmp 45)) none,
        co (some 47) (.fieldAddr 53 (.tmp 2) 1) (some (46, false)),
        co (some 48) (.load 23 (.tmp 47)) (some (46, false)),
        co (some 49) (.call { callee := (.builtin .len), args := #[(.tmp 48)], argTypes := #[23] }) (some (46, false)),
        co (some 50) (.binOp .geq 3 (.tmp 49) (.const (.int .i64 65536)) 3) (some (46, false)),
        co (some 51) (.pick (.tmp 46) (.const (.bool true)) (.tmp 50)) none,
        co (some 52) (.move (.tmp 51)) none,
        co (some 53) (.fieldAddr 53 (.tmp 2) 0) (some (52, false)),
        co (some 54) (.load 3 (.tmp 53)) (some (52, false)),
        co (some 55) (.binOp .eql 3 (.tmp 54) (.const (.int .i64 1)) 3) (some (52, false)),
        co (some 56) (.move (.tmp 55)) (some (52, false)),
        co (some 57) (.fieldAddr 53 (.tmp 2) 2) (some (56, true)),
        co (some 58) (.load 51 (.tmp 57)) (some (56, true)),
        co (some 59) (.call { callee := (.builtin .len), args := #[(.tmp 58)], argTypes := #[51] }) (some (56, true)),
        co (some 60) (.binOp .geq 3 (.tmp 59) (.const (.int .i64 65536)) 3) (some (56, true)),
        co (some 61) (.pick (.tmp 56) (.tmp 60) (.const (.bool false))) (some (52, false)),
        co (some 62) (.pick (.tmp 52) (.const (.bool true)) (.tmp 61)) none,
        co (some 63) (.move (.tmp 62)) none,
        co (some 64) (.fieldAddr 53 (.tmp 2) 2) (some (63, false)),
        co (some 65) (.load 51 (.tmp 64)) (some (63, false)),
        co (some 66) (.call { callee := (.builtin .len), args := #[(.tmp 65)], argTypes := #[51] }) (some (63, false)),
        co (some 67) (.binOp .geq 3 (.tmp 66) (.const (.int .i64 1048576)) 3) (some (63, false)),
        co (some 68) (.pick (.tmp 63) (.const (.bool true)) (.tmp 67)) none] [1, 2, 68])
    (.cond (.tmp 68)
      (.seq (.reg [co (some 4) (.assign (.const (.bool false))) none] [4])
      (.ret))
      (.skip)))
  (.keep [1, 2] (.seq (.seq (.reg [co (some 69) (.fieldAddr 53 (.tmp 2) 0) none,
        co (some 70) (.load 3 (.tmp 69)) none,
        co (some 71) (.binOp .gtr 3 (.tmp 70) (.const (.int .i64 1)) 3) none,
        co (some 72) (.move (.tmp 71)) none,
        co (some 73) (.fieldAddr 53 (.tmp 2) 1) (some (72, true)),
        co (some 74) (.load 23 (.tmp 73)) (some (72, true)),
        co (some 75) (.call { callee := (.builtin .len), args := #[(.tmp 74)], argTypes := #[23] }) (some (72, true)),
        co (some 76) (.binOp .gtr 3 (.tmp 75) (.const (.int .i64 0)) 3) (some (72, true)),
        co (some 77) (.pick (.tmp 72) (.tmp 76) (.const (.bool false))) none] [1, 2, 77])
    (.cond (.tmp 77)
      (.seq (.reg [co (some 4) (.assign (.const (.bool false))) none] [4])
      (.ret))
      (.skip)))
  (.keep [1, 2] (.seq (.seq (.reg [co (some 5) (.assign (.const (.int .i64 0))) none] [1, 2, 5])
    (.block 0
      (.loop l1_centoref07_Right)))
  (.keep [] (.seq (.reg [co (some 4) (.assign (.const (.bool true))) none] [4])
  (.ret))))))))))))
theorem t_centoref07_Right : Txt Try.prog 69 132 [(.tmp 4)] c_centoref07_Right := txt_of (code := Try.f69.body.getD .ret) mixed (by kernel_rfl) Try.func69 (by kernel_rfl) Try.ntmps69 (by kernel_rfl) (ls := [([1, 2], [(0, [0])]), ([], []), ([1, 2, 10], []), ([], []), ([4], []), ([], []), ([999999, 1, 2], []), ([1, 2, 23], []), ([], []), ([4], []), ([], []), ([999999, 1, 2], []), ([1, 2, 68], []), ([], []), ([4], []), ([], []), ([999999, 1, 2], []), ([1, 2, 77], []), ([], []), ([4], []), ([], []), ([999999, 1, 2], []), ([1, 2, 5], []), ([], []), ([1, 2, 5, 82], []), ([], []), ([999999, 1, 2, 5], []), ([1, 2, 5, 6], [(5, [1])]), ([], []), ([1, 2, 5, 6, 94], []), ([], []), ([4], []), ([], []), ([999999, 1, 2, 5, 6], []), ([1, 2, 5, 6, 7], []), ([], []), ([1, 2, 5, 131], []), ([], []), ([4], []), ([], []), ([999999, 1, 2, 5], []), ([1, 2, 5], []), ([999999], []), ([4], []), ([], [])]) (by kernel_rfl)
def l1_centoref07_Norm : CC :=
  .seq (.seq (.reg [co (some 12) (.move (.tmp 5)) none,
        co (some 13) (.fieldAddr 53 (.tmp 1) 2) none,
        co (some 14) (.load 51 (.tmp 13)) none,
        co (some 15) (.call { callee := (.builtin .len), args := #[(.tmp 14)], argTypes := #[51] }) none,
        co (some 16) (.binOp .lss 3 (.tmp 12) (.tmp 15) 3) none] [1, 2, 3, 4, 5, 16])
    (.cond (.tmp 16)
      (.skip)
      (.exit 0)))
  (.keep [1, 2, 3, 4, 5] (.seq (.block 1
      (.seq (.reg [co (some 19) (.fieldAddr 53 (.tmp 1) 2) none,
          co (some 20) (.load 51 (.tmp 19)) none,
          co (some 21) (.move (.tmp 5)) none,
          co (some 22) (.indexAddr 51 (.tmp 20) (.tmp 21)) none,
          co (some 23) (.load 53 (.tmp 22)) none,
          co (some 24) (.call { callee := (.value (.func 47)), args := #[(.tmp 23)], argTypes := #[53] }) none,
          cn (some 6) (.alloc 53) none [2],
          co none (.store 53 (.tmp 6) (.tmp 24)) none] [1, 2, 3, 4, 5, 6])
      (.seq (.reg [co (some 25) (.move (.tmp 3)) none,
          co (some 26) (.load 53 (.tmp 6)) none,
          co (some 27) (.buildSlice 51 1 #[(0, (.tmp 26))]) none,
          cn (some 28) (.call { callee := (.builtin .append), args := #[(.tmp 25), (.tmp 27)], argTypes := #[51, 51] }) none [3],
          co (some 3) (.assign (.tmp 28)) none] [1, 2, 3, 4, 5, 6])
      (.seq (.reg [co (some 29) (.fieldAddr 53 (.tmp 6) 0) none,
          co (some 30) (.load 3 (.tmp 29)) none,
          co (some 31) (.binOp .neq 3 (.tmp 30) (.const (.int .i64 0)) 3) none] [1, 2, 3, 4, 5, 31])
      (.cond (.tmp 31)
        (.reg [co (some 32) (.move (.tmp 5)) none,
          co (some 33) (.binOp .add 3 (.tmp 32) (.const (.int .i64 1)) 3) none,
          co (some 4) (.assign (.tmp 33)) none] [1, 2, 3, 4, 5])
        (.skip))))))
  (.keep [1, 2, 3, 4, 5] (.reg [co (some 17) (.move (.tmp 5)) none,
    co (some 18) (.binOp .add 3 (.tmp 17) (.const (.int .i64 1)) 3) none,
    co (some 5) (.assign (.tmp 18)) none] [1, 2, 3, 4, 5]))))
/-- cento/centoref07.Norm -/
def c_centoref07_Norm : CC :=
  .seq (.reg [cn (some 1) (.box 53 (.tmp 0)) none [0],
      cn (some 2) (.alloc 53) none [1]] [1, 2])
  (.seq (.seq (.reg [co (some 8) (.fieldAddr 53 (.tmp 1) 0) none,
        co (some 9) (.load 3 (.tmp 8)) none,
        co (some 10) (.binOp .eql 3 (.tmp 9) (.const (.int .i64 0)) 3) none] [1, 2, 10])
    (.cond (.tmp 10)
      (.seq (.reg [co (some 11) (.build 53 #[]) none,
          co none (.store 53 (.tmp 2) (.tmp 11)) none] [2])
      (.ret))
      (.skip)))
  (.keep [1, 2] (.seq (.reg [co (some 3) (.assign (.const (.slice none 0 0))) none] [1, 2, 3])
  (.seq (.reg [co (some 4) (.assign (.const (.int .i64 0))) none] [1, 2, 3, 4])
  (.seq (.seq (.reg [co (some 5) (.assign (.const (.int .i64 0))) none] [1, 2, 3, 4, 5])
    (.block 0
      (.loop l1_centoref07_Norm)))
  (.keep [1, 2, 3, 4] (.seq (.seq (.reg [co (some 34) (.fieldAddr 53 (.tmp 1) 0) none,
        co (some 35) (.load 3 (.tmp 34)) none,
        co (some 36) (.binOp .eql 3 (.tmp 35) (.const (.int .i64 1)) 3) none] [1, 2, 3, 4, 36])
    (.cond (.tmp 36)
      (.seq (.reg [co (some 37) (.fieldAddr 53 (.tmp 1) 1) none,
          co (some 38) (.load 23 (.tmp 37)) none,
          co (some 39) (.call { callee := (.value (.func 87)), args := #[(.tmp 38)], argTypes := #[23] }) none,
          co (some 40) (.move (.tmp 3)) none,
          co (some 41) (.move (.tmp 4)) none,
          co (some 42) (.slice 51 (.tmp 40) none (some (.tmp 41)) none) none,
          co (some 43) (.build 53 #[(0, (.const (.int .i64 1))), (1, (.tmp 39)), (2, (.tmp 42))]) none,
          co none (.store 53 (.tmp 2) (.tmp 43)) none] [2])
      (.ret))
      (.skip)))
  (.keep [1, 2, 3] (.seq (.reg [co (some 7) (.assign (.const (.slice none 0 0))) none] [1, 2, 3, 7])
  (.seq (.reg [co (some 44) (.move (.tmp 7)) none,
      co (some 45) (.fieldAddr 53 (.tmp 1) 1) none,
      co (some 46) (.load 23 (.tmp 45)) none,
      cn (some 47) (.call { callee := (.builtin .append), args := #[(.tmp 44), (.tmp 46)], argTypes := #[23, 23] }) none [4],
      co (some 7) (.assign (.tmp 47)) none] [1, 2, 3, 7])
  (.seq (.reg [co (some 48) (.fieldAddr 53 (.tmp 1) 0) none,
      co (some 49) (.load 3 (.tmp 48)) none,
      co (some 50) (.move (.tmp 7)) none,
      co (some 51) (.move (.tmp 3)) none,
      co (some 52) (.build 53 #[(0, (.tmp 49)), (1, (.tmp 50)), (2, (.tmp 51))]) none,
      co none (.store 53 (.tmp 2) (.tmp 52)) none] [2])
  (.ret))))))))))))
theorem t_centoref07_Norm : Txt Try.prog 47 53 [(.cell 2 53)] c_centoref07_Norm := txt_of (code := Try.f47.body.getD .ret) mixed (by kernel_rfl) Try.func47 (by kernel_rfl) Try.ntmps47 (by kernel_rfl) (ls := [([1, 2], [(0, [0]), (1, [1])]), ([], []), ([1, 2, 10], []), ([], []), ([2], []), ([], []), ([999999, 1, 2], []), ([1, 2, 3], []), ([], []), ([1, 2, 3, 4], []), ([], []), ([1, 2, 3, 4, 5], []), ([], []), ([1, 2, 3, 4, 5, 16], []), ([], []), ([999999, 1, 2, 3, 4, 5], []), ([1, 2, 3, 4, 5, 6], [(6, [2])]), ([], []), ([1, 2, 3, 4, 5, 6], [(3, [3])]), ([], []), ([1, 2, 3, 4, 5, 31], []), ([], []), ([1, 2, 3, 4, 5], []), ([999999, 1, 2, 3, 4, 5], []), ([1, 2, 3, 4, 5], []), ([999999, 1, 2, 3, 4], []), ([1, 2, 3, 4, 36], []), ([], []), ([2], []), ([], []), ([999999, 1, 2, 3], []), ([1, 2, 3, 7], []), ([], []), ([1, 2, 3, 7], [(3, [4])]), ([], []), ([2], []), ([], [])]) (by kernel_rfl)
def k1_centoref07_Frame : CC :=
  .seq (.reg [co (some 30) (.fieldAddr 53 (.tmp 1) 2) none,
      co (some 31) (.load 51 (.tmp 30)) none,
      co (some 32) (.move (.tmp 6)) none,
      co (some 33) (.indexAddr 51 (.tmp 31) (.tmp 32)) none,
      co (some 34) (.fieldAddr 53 (.tmp 33) 2) none,
      co (some 35) (.load 51 (.tmp 34)) none,
      co (some 36) (.call { callee := (.builtin .len), args := #[(.tmp 35)], argTypes := #[51] }) none,
      co (some 37) (.move (.tmp 5)) none,
      co (some 38) (.binOp .gtr 3 (.tmp 36) (.tmp 37) 3) none] [1, 4, 5, 6, 38])
  (.cond (.tmp 38)
    (.reg [co (some 39) (.fieldAddr 53 (.tmp 1) 2) none,
      co (some 40) (.load 51 (.tmp 39)) none,
      co (some 41) (.move (.tmp 6)) none,
      co (some 42) (.indexAddr 51 (.tmp 40) (.tmp 41)) none,
      co (some 43) (.fieldAddr 53 (.tmp 42) 2) none,
      co (some 44) (.load 51 (.tmp 43)) none,
      co (some 45) (.call { callee := (.builtin .len), args := #[(.tmp 44)], argTypes := #[51] }) none,
      co (some 5) (.assign (.tmp 45)) none] [1, 4, 5, 6])
    (.skip))
def l1_centoref07_Frame : CC :=
  .seq (.seq (.reg [co (some 7) (.move (.tmp 6)) none,
        co (some 8) (.fieldAddr 53 (.tmp 1) 2) none,
        co (some 9) (.load 51 (.tmp 8)) none,
        co (some 10) (.call { callee := (.builtin .len), args := #[(.tmp 9)], argTypes := #[51] }) none,
        co (some 11) (.binOp .lss 3 (.tmp 7) (.tmp 10) 3) none] [1, 4, 5, 6, 11])
    (.cond (.tmp 11)
      (.skip)
      (.exit 0)))
  (.keep [1, 4, 5, 6] (.seq (.block 1
      (.seq (.seq (.reg [co (some 14) (.fieldAddr 53 (.tmp 1) 2) none,
            co (some 15) (.load 51 (.tmp 14)) none,
            co (some 16) (.move (.tmp 6)) none,
            co (some 17) (.indexAddr 51 (.tmp 15) (.tmp 16)) none,
            co (some 18) (.fieldAddr 53 (.tmp 17) 1) none,
            co (some 19) (.load 23 (.tmp 18)) none,
            co (some 20) (.call { callee := (.builtin .len), args := #[(.tmp 19)], argTypes := #[23] }) none,
            co (some 21) (.move (.tmp 4)) none,
            co (some 22) (.binOp .gtr 3 (.tmp 20) (.tmp 21) 3) none] [1, 4, 5, 6, 22])
        (.cond (.tmp 22)
          (.reg [co (some 23) (.fieldAddr 53 (.tmp 1) 2) none,
            co (some 24) (.load 51 (.tmp 23)) none,
            co (some 25) (.move (.tmp 6)) none,
            co (some 26) (.indexAddr 51 (.tmp 24) (.tmp 25)) none,
            co (some 27) (.fieldAddr 53 (.tmp 26) 1) none,
            co (some 28) (.load 23 (.tmp 27)) none,
            co (some 29) (.call { callee := (.builtin .len), args := #[(.tmp 28)], argTypes := #[23] }) none,
            co (some 4) (.assign (.tmp 29)) none] [1, 4, 5, 6])
          (.skip)))
      (.keep [1, 4, 5, 6] k1_centoref07_Frame)))
  (.keep [1, 4, 5, 6] (.reg [co (some 12) (.move (.tmp 6)) none,
    co (some 13) (.binOp .add 3 (.tmp 12) (.const (.int .i64 1)) 3) none,
    co (some 6) (.assign (.tmp 13)) none] [1, 4, 5, 6]))))
/-- cento/centoref07.Frame -/
def c_centoref07_Frame : CC :=
  .seq (.reg [cn (some 1) (.box 53 (.tmp 0)) none [0],
      co (some 2) (.assign (.const (.int .i64 0))) none,
      co (some 3) (.assign (.const (.int .i64 0))) none] [1])
  (.seq (.reg [co (some 4) (.assign (.const (.int .i64 0))) none,
      co (some 5) (.assign (.const (.int .i64 0))) none] [1, 4, 5])
  (.seq (.seq (.reg [co (some 6) (.assign (.const (.int .i64 0))) none] [1, 4, 5, 6])
    (.block 0
      (.loop l1_centoref07_Frame)))
  (.keep [4, 5] (.seq (.reg [co (some 46) (.move (.tmp 4)) none,
      co (some 47) (.move (.tmp 5)) none,
      co (some 2) (.assign (.tmp 46)) none,
      co (some 3) (.assign (.tmp 47)) none] [2, 3])
  (.ret)))))
theorem t_centoref07_Frame : Txt Try.prog 111 48 [(.tmp 2), (.tmp 3)] c_centoref07_Frame := txt_of (code := Try.f111.body.getD .ret) mixed (by kernel_rfl) Try.func111 (by kernel_rfl) Try.ntmps111 (by kernel_rfl) (ls := [([1], [(0, [0])]), ([], []), ([1, 4, 5], []), ([], []), ([1, 4, 5, 6], []), ([], []), ([1, 4, 5, 6, 11], []), ([], []), ([999999, 1, 4, 5, 6], []), ([1, 4, 5, 6, 22], []), ([], []), ([1, 4, 5, 6], []), ([999999, 1, 4, 5, 6], []), ([1, 4, 5, 6, 38], []), ([], []), ([1, 4, 5, 6], []), ([999999, 1, 4, 5, 6], []), ([1, 4, 5, 6], []), ([999999, 4, 5], []), ([2, 3], []), ([], [])]) (by kernel_rfl)
def l1_centoref07_Shallow : CC :=
  .seq (.seq (.reg [co (some 20) (.move (.tmp 7)) none,
        co (some 21) (.fieldAddr 53 (.tmp 3) 2) none,
        co (some 22) (.load 51 (.tmp 21)) none,
        co (some 23) (.call { callee := (.builtin .len), args := #[(.tmp 22)], argTypes := #[51] }) none,
        co (some 24) (.binOp .lss 3 (.tmp 20) (.tmp 23) 3) none,
        co (some 25) (.move (.tmp 24)) none,
        co (some 26) (.move (.tmp 2)) (some (25, true)),
        co (some 27) (.binOp .geq 3 (.tmp 26) (.const (.int .i64 0)) 3) (some (25, true)),
        co (some 28) (.pick (.tmp 25) (.tmp 27) (.const (.bool false))) none] [1, 2, 3, 7, 28])
    (.cond (.tmp 28)
      (.skip)
      (.exit 0)))
  (.keep [1, 2, 3, 7] (.seq (.block 1
      (.reg [co (some 31) (.fieldAddr 53 (.tmp 3) 2) none,
        co (some 32) (.load 51 (.tmp 31)) none,
        co (some 33) (.move (.tmp 7)) none,
        co (some 34) (.indexAddr 51 (.tmp 32) (.tmp 33)) none,
        co (some 35) (.load 53 (.tmp 34)) none,
        co (some 36) (.move (.tmp 1)) none,
        co (some 37) (.binOp .sub 3 (.tmp 36) (.const (.int .i64 1)) 3) none,
        co (some 38) (.move (.tmp 2)) none,
        co (some 39) (.call { callee := (.value (.func 68)), args := #[(.tmp 35), (.tmp 37), (.tmp 38)], argTypes := #[53, 3, 3] }) none,
        co (some 2) (.assign (.tmp 39)) none] [1, 2, 3, 7]))
  (.reg [co (some 29) (.move (.tmp 7)) none,
    co (some 30) (.binOp .add 3 (.tmp 29) (.const (.int .i64 1)) 3) none,
    co (some 7) (.assign (.tmp 30)) none] [1, 2, 3, 7])))
/-- cento/centoref07.Shallow -/
def c_centoref07_Shallow : CC :=
  .seq (.reg [cn (some 3) (.box 53 (.tmp 0)) none [0],
      co (some 6) (.assign (.const (.int .i64 0))) none] [1, 2, 3])
  (.seq (.reg [co (some 8) (.move (.tmp 2)) none,
      co (some 9) (.binOp .sub 3 (.tmp 8) (.const (.int .i64 1)) 3) none,
      co (some 10) (.fieldAddr 53 (.tmp 3) 1) none,
      co (some 11) (.load 23 (.tmp 10)) none,
      co (some 12) (.call { callee := (.builtin .len), args := #[(.tmp 11)], argTypes := #[23] }) none,
      co (some 13) (.binOp .sub 3 (.tmp 9) (.tmp 12) 3) none,
      co (some 2) (.assign (.tmp 13)) none] [1, 2, 3])
  (.seq (.seq (.reg [co (some 14) (.move (.tmp 1)) none,
        co (some 15) (.binOp .eql 3 (.tmp 14) (.const (.int .i64 0)) 3) none,
        co (some 16) (.move (.tmp 15)) none,
        co (some 17) (.move (.tmp 2)) (some (16, false)),
        co (some 18) (.binOp .lss 3 (.tmp 17) (.const (.int .i64 0)) 3) (some (16, false)),
        co (some 19) (.pick (.tmp 16) (.const (.bool true)) (.tmp 18)) none] [1, 2, 3, 19])
    (.cond (.tmp 19)
      (.seq (.reg [co (some 6) (.assign (.const (.int .i64 (-1)))) none] [6])
      (.ret))
      (.skip)))
  (.keep [1, 2, 3] (.seq (.seq (.reg [co (some 7) (.assign (.const (.int .i64 0))) none] [1, 2, 3, 7])
    (.block 0
      (.loop l1_centoref07_Shallow)))
  (.keep [2] (.seq (.reg [co (some 40) (.move (.tmp 2)) none,
      co (some 6) (.assign (.tmp 40)) none] [6])
  (.ret)))))))
theorem t_centoref07_Shallow : Txt Try.prog 68 41 [(.tmp 6)] c_centoref07_Shallow := txt_of (code := Try.f68.body.getD .ret) mixed (by kernel_rfl) Try.func68 (by kernel_rfl) Try.ntmps68 (by kernel_rfl) (ls := [([1, 2, 3], [(0, [0])]), ([], []), ([1, 2, 3], []), ([], []), ([1, 2, 3, 19], []), ([], []), ([6], []), ([], []), ([999999, 1, 2, 3], []), ([1, 2, 3, 7], []), ([], []), ([1, 2, 3, 7, 28], []), ([], []), ([999999, 1, 2, 3, 7], []), ([1, 2, 3, 7], []), ([], []), ([1, 2, 3, 7], []), ([999999, 2], []), ([6], []), ([], [])]) (by kernel_rfl)
/-- cento/centoref07.Few -/
def c_centoref07_Few : CC :=
  .seq (.reg [cn (some 1) (.box 53 (.tmp 0)) none [0],
      co (some 2) (.assign (.const (.bool false))) none] [1])
  (.seq (.reg [co (some 3) (.load 53 (.tmp 1)) none,
      co (some 4) (.call { callee := (.value (.func 68)), args := #[(.tmp 3), (.const (.int .i64 80)), (.const (.int .i64 3000))], argTypes := #[53, 3, 3] }) none,
      co (some 5) (.binOp .geq 3 (.tmp 4) (.const (.int .i64 0)) 3) none,
      co (some 2) (.assign (.tmp 5)) none] [2])
  (.ret))
theorem t_centoref07_Few : Txt Try.prog 28 6 [(.tmp 2)] c_centoref07_Few := txt_of (code := Try.f28.body.getD .ret) mixed (by kernel_rfl) Try.func28 (by kernel_rfl) Try.ntmps28 (by kernel_rfl) (ls := [([1], [(0, [0])]), ([], []), ([2], []), ([], [])]) (by kernel_rfl)
def l1_centoref07_Same : CC :=
  .seq (.seq (.reg [co (some 28) (.move (.tmp 5)) none,
        co (some 29) (.fieldAddr 53 (.tmp 2) 2) none,
        co (some 30) (.load 51 (.tmp 29)) none,
        co (some 31) (.call { callee := (.builtin .len), args := #[(.tmp 30)], argTypes := #[51] }) none,
        co (some 32) (.binOp .lss 3 (.tmp 28) (.tmp 31) 3) none] [2, 3, 5, 32])
    (.cond (.tmp 32)
      (.skip)
      (.exit 0)))
  (.keep [2, 3, 5] (.seq (.block 1
      (.seq (.reg [co (some 35) (.fieldAddr 53 (.tmp 2) 2) none,
          co (some 36) (.load 51 (.tmp 35)) none,
          co (some 37) (.move (.tmp 5)) none,
          co (some 38) (.indexAddr 51 (.tmp 36) (.tmp 37)) none,
          co (some 39) (.load 53 (.tmp 38)) none,
          co (some 40) (.fieldAddr 53 (.tmp 3) 2) none,
          co (some 41) (.load 51 (.tmp 40)) none,
          co (some 42) (.move (.tmp 5)) none,
          co (some 43) (.indexAddr 51 (.tmp 41) (.tmp 42)) none,
          co (some 44) (.load 53 (.tmp 43)) none,
          co (some 45) (.call { callee := (.value (.func 53)), args := #[(.tmp 39), (.tmp 44)], argTypes := #[53, 53] }) none,
          co (some 46) (.unOp .not 4 (.tmp 45)) none] [2, 3, 5, 46])
      (.cond (.tmp 46)
        (.seq (.reg [co (some 4) (.assign (.const (.bool false))) none] [4])
        (.ret))
        (.skip))))
  (.keep [2, 3, 5] (.reg [co (some 33) (.move (.tmp 5)) none,
    co (some 34) (.binOp .add 3 (.tmp 33) (.const (.int .i64 1)) 3) none,
    co (some 5) (.assign (.tmp 34)) none] [2, 3, 5]))))
/-- cento/centoref07.Same -/
def c_centoref07_Same : CC :=
  .seq (.reg [cn (some 2) (.box 53 (.tmp 0)) none [0],
      cn (some 3) (.box 53 (.tmp 1)) none [1],
      co (some 4) (.assign (.const (.bool false))) none] [2, 3])
  (.seq (.seq (.reg [co (some 6) (.fieldAddr 53 (.tmp 2) 0) none,
        co (some 7) (.load 3 (.tmp 6)) none,
        co (some 8) (.fieldAddr 53 (.tmp 3) 0) none,
        co (some 9) (.load 3 (.tmp 8)) none,
        co (some 10) (.binOp .neq 3 (.tmp 7) (.tmp 9) 3) none,
        co (some 11) (.move (.tmp 10)) none,
        co (some 12) (.fieldAddr 53 (.tmp 2) 1) (some (11, false)),
        co (some 13) (.load 23 (.tmp 12)) (some (11, false)),
        co (some 14) (.fieldAddr 53 (.tmp 3) 1) (some (11, false)),
        co (some 15) (.load 23 (.tmp 14)) (some (11, false)),
        co (some 16) (.call { callee := (.value (.func 43)), args := #[(.tmp 13), (.tmp 15)], argTypes := #[23, 23] }) (some (11, false)),
        co (some 17) (.unOp .not 4 (.tmp 16)) (some (11, false)),
        co (some 18) (.pick (.tmp 11) (.const (.bool true)) (.tmp 17)) none,
        co (some 19) (.move (.tmp 18)) none,
        co (some 20) (.fieldAddr 53 (.tmp 2) 2) (some (19, false)),
        co (some 21) (.load 51 (.tmp 20)) (some (19, false)),
        co (some 22) (.call { callee := (.builtin .len), args := #[(.tmp 21)], argTypes := #[51] }) (some (19, false)),
        co (some 23) (.fieldAddr 53 (.tmp 3) 2) (some (19, false)),
        co (some 24) (.load 51 (.tmp 23)) (some (19, false)),
        co (some 25) (.call { callee := (.builtin .len), args := #[(.tmp 24)], argTypes := #[51] }) (some (19, false)),
        co (some 26) (.binOp .neq 3 (.tmp 22) (.tmp 25) 3) (some (19, false)),
        co (some 27) (.pick (.tmp 19) (.const (.bool true)) (.tmp 26)) none] [2, 3, 27])
    (.cond (.tmp 27)
      (.seq (.reg [co (some 4) (.assign (.const (.bool false))) none] [4])
      (.ret))
      (.skip)))
  (.keep [2, 3] (.seq (.seq (.reg [co (some 5) (.assign (.const (.int .i64 0))) none] [2, 3, 5])
    (.block 0
      (.loop l1_centoref07_Same)))
  (.keep [] (.seq (.reg [co (some 4) (.assign (.const (.bool true))) none] [4])
  (.ret))))))
theorem t_centoref07_Same : Txt Try.prog 53 47 [(.tmp 4)] c_centoref07_Same := txt_of (code := Try.f53.body.getD .ret) mixed (by kernel_rfl) Try.func53 (by kernel_rfl) Try.ntmps53 (by kernel_rfl) (ls := [([2, 3], [(0, [0]), (1, [1])]), ([], []), ([2, 3, 27], []), ([], []), ([4], []), ([], []), ([999999, 2, 3], []), ([2, 3, 5], []), ([], []), ([2, 3, 5, 32], []), ([], []), ([999999, 2, 3, 5], []), ([2, 3, 5, 46], []), ([], []), ([4], []), ([], []), ([999999, 2, 3, 5], []), ([2, 3, 5], []), ([999999], []), ([4], []), ([], [])]) (by kernel_rfl)
end Go.Proofs.Ytehcobkphobjiaa
