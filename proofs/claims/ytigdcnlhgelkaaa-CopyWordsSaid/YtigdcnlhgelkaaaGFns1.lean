/-
  The functions' text as data, and the facts on the types that they use: written by a program of ours (gen2.py) off the translation.
-/
import Derived.Test.YtigdcnlhgelkaaaProg
import Derived.Test.YtigdcnlhgelkaaaGSimp
import Derived.Test.YtigdcnlhgelkaaaGFnsA
import Derived.KernelRfl
namespace Go.Proofs.Ytigdcnlhgelkaaa
set_option linter.unusedVariables false
set_option linter.unusedSimpArgs false
set_option maxRecDepth 20000
open Go Go.G Go.Proofs

@[simp] theorem und_5 : Try.prog.underlying 5 = some (.int .u8) := by kernel_rfl
@[simp] theorem und_22 : Try.prog.underlying 22 = some (.slice 45) := by kernel_rfl
@[simp] theorem und_188 : Try.prog.underlying 188 = some (.array 8 5) := by kernel_rfl
@[simp] theorem und_192 : Try.prog.underlying 192 = some (.slice 5) := by kernel_rfl
@[simp] theorem und_200 : Try.prog.underlying 200 = some (.array 6 3) := by kernel_rfl
@[simp] theorem szT_5 : szT Try.prog 5 = some 1 := by kernel_rfl
@[simp] theorem szT_45 : szT Try.prog 45 = some 1 := by kernel_rfl
@[simp] theorem szT_188 : szT Try.prog 188 = some 8 := by kernel_rfl
@[simp] theorem szT_200 : szT Try.prog 200 = some 6 := by kernel_rfl
@[simp] theorem aggT_5 : aggT Try.prog 5 = some false := by kernel_rfl
@[simp] theorem aggT_45 : aggT Try.prog 45 = some false := by kernel_rfl
@[simp] theorem aggT_188 : aggT Try.prog 188 = some true := by kernel_rfl
@[simp] theorem zeroT_45 : zeroT Try.prog 45 = some (Value.int IntKind.u64 0) := by kernel_rfl
@[simp] theorem zeroT_188 : zeroT Try.prog 188 = some (Value.agg #[Value.int IntKind.u8 0, Value.int IntKind.u8 0, Value.int IntKind.u8 0, Value.int IntKind.u8 0, Value.int IntKind.u8 0, Value.int IntKind.u8 0, Value.int IntKind.u8 0, Value.int IntKind.u8 0]) := by kernel_rfl
@[simp] theorem zeroT_200 : zeroT Try.prog 200 = some (Value.agg #[Value.int IntKind.i64 0, Value.int IntKind.i64 0, Value.int IntKind.i64 0, Value.int IntKind.i64 0, Value.int IntKind.i64 0, Value.int IntKind.i64 0]) := by kernel_rfl
@[simp] theorem bytesT_45 : bytesT Try.prog 45 = some 8 := by kernel_rfl
@[simp] theorem buildA_188 (ps : List (Nat × A)) : buildA Try.prog 188 ps = (fillA (fun i => some (i * 1, 1)) [A.v (Value.int IntKind.u8 0), A.v (Value.int IntKind.u8 0), A.v (Value.int IntKind.u8 0), A.v (Value.int IntKind.u8 0), A.v (Value.int IntKind.u8 0), A.v (Value.int IntKind.u8 0), A.v (Value.int IntKind.u8 0), A.v (Value.int IntKind.u8 0)] ps).map A.agg := by kernel_rfl
@[simp] theorem buildA_200 (ps : List (Nat × A)) : buildA Try.prog 200 ps = (fillA (fun i => some (i * 1, 1)) [A.v (Value.int IntKind.i64 0), A.v (Value.int IntKind.i64 0), A.v (Value.int IntKind.i64 0), A.v (Value.int IntKind.i64 0), A.v (Value.int IntKind.i64 0), A.v (Value.int IntKind.i64 0)] ps).map A.agg := by kernel_rfl


/-- cento/centoref01.Width -/
def c_centoref01_Width : CC :=
  .seq (.reg [co (some 2) (.assign (.const (.int .i64 0))) none] [0])
  (.seq (.seq (.reg [co (some 3) (.move (.tmp 0)) none] [3])
    (.block 0
      (.seq (.reg [co (some 5) (.binOp .eql 3 (.tmp 3) (.const (.int .i64 0)) 3) none,
          co (some 4) (.assign (.tmp 5)) none] [3, 4])
      (.cond (.tmp 4)
        (.seq (.reg [co (some 2) (.assign (.const (.int .i64 0))) none] [2])
        (.ret))
        (.seq (.reg [co (some 7) (.binOp .eql 3 (.tmp 3) (.const (.int .i64 1)) 3) none,
            co (some 6) (.assign (.tmp 7)) none] [3, 6])
        (.cond (.tmp 6)
          (.seq (.reg [co (some 2) (.assign (.const (.int .i64 1))) none] [2])
          (.ret))
          (.seq (.reg [co (some 9) (.binOp .eql 3 (.tmp 3) (.const (.int .i64 2)) 3) none,
              co (some 8) (.assign (.tmp 9)) none] [3, 8])
          (.cond (.tmp 8)
            (.seq (.reg [co (some 2) (.assign (.const (.int .i64 8))) none] [2])
            (.ret))
            (.seq (.reg [co (some 11) (.binOp .eql 3 (.tmp 3) (.const (.int .i64 3)) 3) none,
                co (some 10) (.assign (.tmp 11)) none] [3, 10])
            (.cond (.tmp 10)
              (.seq (.reg [co (some 2) (.assign (.const (.int .i64 16))) none] [2])
              (.ret))
              (.seq (.reg [co (some 13) (.binOp .eql 3 (.tmp 3) (.const (.int .i64 4)) 3) none,
                  co (some 12) (.assign (.tmp 13)) none] [3, 12])
              (.cond (.tmp 12)
                (.seq (.reg [co (some 2) (.assign (.const (.int .i64 32))) none] [2])
                (.ret))
                (.seq (.reg [co (some 15) (.binOp .eql 3 (.tmp 3) (.const (.int .i64 5)) 3) none,
                    co (some 14) (.assign (.tmp 15)) none] [14])
                (.cond (.tmp 14)
                  (.seq (.reg [co (some 2) (.assign (.const (.int .i64 64))) none] [2])
                  (.ret))
                  (.skip)))))))))))))))
  (.keep [] (.seq (.reg [co (some 2) (.assign (.const (.int .i64 (-1)))) none] [2])
  (.ret))))
theorem t_centoref01_Width : Txt Try.prog 84 16 [(.tmp 2)] c_centoref01_Width := txt_of (code := Try.f84.body.getD .ret) mixed (by kernel_rfl) Try.func84 (by kernel_rfl) Try.ntmps84 (by kernel_rfl) (ls := [([0], []), ([], []), ([3], []), ([], []), ([3, 4], []), ([], []), ([2], []), ([], []), ([3, 6], []), ([], []), ([2], []), ([], []), ([3, 8], []), ([], []), ([2], []), ([], []), ([3, 10], []), ([], []), ([2], []), ([], []), ([3, 12], []), ([], []), ([2], []), ([], []), ([14], []), ([], []), ([2], []), ([], []), ([999999], []), ([2], []), ([], [])]) (by kernel_rfl)

def l1_centoref01_Fits : CC :=
  .seq (.seq (.reg [co (some 11) (.move (.tmp 6)) none,
        co (some 12) (.move (.tmp 5)) none,
        co (some 13) (.binOp .lss 3 (.tmp 11) (.tmp 12) 3) none] [1, 5, 6, 13])
    (.cond (.tmp 13)
      (.skip)
      (.exit 0)))
  (.keep [1, 5, 6] (.seq (.block 1
      (.reg [co (some 16) (.move (.tmp 1)) none,
        co (some 17) (.binOp .quo 45 (.tmp 16) (.const (.int .u64 2)) 45) none,
        co (some 1) (.assign (.tmp 17)) none] [1, 5, 6]))
  (.reg [co (some 14) (.move (.tmp 6)) none,
    co (some 15) (.binOp .add 3 (.tmp 14) (.const (.int .i64 1)) 3) none,
    co (some 6) (.assign (.tmp 15)) none] [1, 5, 6])))

/-- cento/centoref01.Fits -/
def c_centoref01_Fits : CC :=
  .seq (.reg [co (some 4) (.assign (.const (.bool false))) none] [0, 1])
  (.seq (.reg [co (some 7) (.move (.tmp 0)) none,
      co (some 8) (.call { callee := (.value (.func 84)), args := #[(.tmp 7)], argTypes := #[3] }) none,
      co (some 5) (.assign (.tmp 8)) none] [1, 5])
  (.seq (.seq (.reg [co (some 9) (.move (.tmp 5)) none,
        co (some 10) (.binOp .lss 3 (.tmp 9) (.const (.int .i64 0)) 3) none] [1, 5, 10])
    (.cond (.tmp 10)
      (.seq (.reg [co (some 4) (.assign (.const (.bool false))) none] [4])
      (.ret))
      (.skip)))
  (.keep [1, 5] (.seq (.seq (.reg [co (some 6) (.assign (.const (.int .i64 0))) none] [1, 5, 6])
    (.block 0
      (.loop l1_centoref01_Fits)))
  (.keep [1] (.seq (.reg [co (some 18) (.move (.tmp 1)) none,
      co (some 19) (.binOp .eql 45 (.tmp 18) (.const (.int .u64 0)) 45) none,
      co (some 4) (.assign (.tmp 19)) none] [4])
  (.ret)))))))
theorem t_centoref01_Fits : Txt Try.prog 50 20 [(.tmp 4)] c_centoref01_Fits := txt_of (code := Try.f50.body.getD .ret) mixed (by kernel_rfl) Try.func50 (by kernel_rfl) Try.ntmps50 (by kernel_rfl) (ls := [([0, 1], []), ([], []), ([1, 5], []), ([], []), ([1, 5, 10], []), ([], []), ([4], []), ([], []), ([999999, 1, 5], []), ([1, 5, 6], []), ([], []), ([1, 5, 6, 13], []), ([], []), ([999999, 1, 5, 6], []), ([1, 5, 6], []), ([], []), ([1, 5, 6], []), ([999999, 1], []), ([4], []), ([], [])]) (by kernel_rfl)


/-- cento/centoref01.Room -/
def c_centoref01_Room : CC :=
  .seq (.reg [co (some 4) (.assign (.const (.int .i64 0))) none] [0, 1])
  (.seq (.seq (.reg [co (some 6) (.move (.tmp 0)) none,
        co (some 7) (.call { callee := (.value (.func 84)), args := #[(.tmp 6)], argTypes := #[3] }) none,
        co (some 8) (.binOp .lss 3 (.tmp 7) (.const (.int .i64 1)) 3) none,
        co (some 9) (.move (.tmp 8)) none,
        co (some 10) (.move (.tmp 1)) (some (9, false)),
        co (some 11) (.binOp .lss 3 (.tmp 10) (.const (.int .i64 0)) 3) (some (9, false)),
        co (some 12) (.pick (.tmp 9) (.const (.bool true)) (.tmp 11)) none,
        co (some 13) (.move (.tmp 12)) none,
        co (some 14) (.move (.tmp 1)) (some (13, false)),
        co (some 15) (.binOp .gtr 3 (.tmp 14) (.const (.int .i64 1099511627776)) 3) (some (13, false)),
        co (some 16) (.pick (.tmp 13) (.const (.bool true)) (.tmp 15)) none] [0, 1, 16])
    (.cond (.tmp 16)
      (.seq (.reg [co (some 4) (.assign (.const (.int .i64 0))) none] [4])
      (.ret))
      (.skip)))
  (.keep [0, 1] (.seq (.reg [co (some 17) (.move (.tmp 0)) none,
      co (some 18) (.call { callee := (.value (.func 84)), args := #[(.tmp 17)], argTypes := #[3] }) none,
      co (some 19) (.binOp .quo 3 (.const (.int .i64 64)) (.tmp 18) 3) none,
      co (some 5) (.assign (.tmp 19)) none] [1, 5])
  (.seq (.seq (.reg [co (some 20) (.move (.tmp 1)) none,
        co (some 21) (.move (.tmp 5)) none,
        co (some 22) (.binOp .rem 3 (.tmp 20) (.tmp 21) 3) none,
        co (some 23) (.binOp .gtr 3 (.tmp 22) (.const (.int .i64 0)) 3) none] [1, 5, 23])
    (.cond (.tmp 23)
      (.seq (.reg [co (some 24) (.move (.tmp 1)) none,
          co (some 25) (.move (.tmp 5)) none,
          co (some 26) (.binOp .quo 3 (.tmp 24) (.tmp 25) 3) none,
          co (some 27) (.binOp .add 3 (.tmp 26) (.const (.int .i64 1)) 3) none,
          co (some 4) (.assign (.tmp 27)) none] [4])
      (.ret))
      (.skip)))
  (.keep [1, 5] (.seq (.reg [co (some 28) (.move (.tmp 1)) none,
      co (some 29) (.move (.tmp 5)) none,
      co (some 30) (.binOp .quo 3 (.tmp 28) (.tmp 29) 3) none,
      co (some 4) (.assign (.tmp 30)) none] [4])
  (.ret)))))))
theorem t_centoref01_Room : Txt Try.prog 52 31 [(.tmp 4)] c_centoref01_Room := txt_of (code := Try.f52.body.getD .ret) mixed (by kernel_rfl) Try.func52 (by kernel_rfl) Try.ntmps52 (by kernel_rfl) (ls := [([0, 1], []), ([], []), ([0, 1, 16], []), ([], []), ([4], []), ([], []), ([999999, 0, 1], []), ([1, 5], []), ([], []), ([1, 5, 23], []), ([], []), ([4], []), ([], []), ([999999, 1, 5], []), ([4], []), ([], [])]) (by kernel_rfl)

def l1_centoref01_Same : CC :=
  .seq (.seq (.reg [co (some 11) (.move (.tmp 5)) none,
        co (some 12) (.move (.tmp 0)) none,
        co (some 13) (.call { callee := (.builtin .len), args := #[(.tmp 12)], argTypes := #[22] }) none,
        co (some 14) (.binOp .lss 3 (.tmp 11) (.tmp 13) 3) none] [0, 1, 5, 14])
    (.cond (.tmp 14)
      (.skip)
      (.exit 0)))
  (.keep [0, 1, 5] (.seq (.block 1
      (.seq (.reg [co (some 17) (.move (.tmp 0)) none,
          co (some 18) (.move (.tmp 5)) none,
          co (some 19) (.indexAddr 22 (.tmp 17) (.tmp 18)) none,
          co (some 20) (.load 45 (.tmp 19)) none,
          co (some 21) (.move (.tmp 1)) none,
          co (some 22) (.move (.tmp 5)) none,
          co (some 23) (.indexAddr 22 (.tmp 21) (.tmp 22)) none,
          co (some 24) (.load 45 (.tmp 23)) none,
          co (some 25) (.binOp .neq 45 (.tmp 20) (.tmp 24) 45) none] [0, 1, 5, 25])
      (.cond (.tmp 25)
        (.seq (.reg [co (some 4) (.assign (.const (.bool false))) none] [4])
        (.ret))
        (.skip))))
  (.keep [0, 1, 5] (.reg [co (some 15) (.move (.tmp 5)) none,
    co (some 16) (.binOp .add 3 (.tmp 15) (.const (.int .i64 1)) 3) none,
    co (some 5) (.assign (.tmp 16)) none] [0, 1, 5]))))

/-- cento/centoref01.Same -/
def c_centoref01_Same : CC :=
  .seq (.reg [co (some 4) (.assign (.const (.bool false))) none] [0, 1])
  (.seq (.seq (.reg [co (some 6) (.move (.tmp 0)) none,
        co (some 7) (.call { callee := (.builtin .len), args := #[(.tmp 6)], argTypes := #[22] }) none,
        co (some 8) (.move (.tmp 1)) none,
        co (some 9) (.call { callee := (.builtin .len), args := #[(.tmp 8)], argTypes := #[22] }) none,
        co (some 10) (.binOp .neq 3 (.tmp 7) (.tmp 9) 3) none] [0, 1, 10])
    (.cond (.tmp 10)
      (.seq (.reg [co (some 4) (.assign (.const (.bool false))) none] [4])
      (.ret))
      (.skip)))
  (.keep [0, 1] (.seq (.seq (.reg [co (some 5) (.assign (.const (.int .i64 0))) none] [0, 1, 5])
    (.block 0
      (.loop l1_centoref01_Same)))
  (.keep [] (.seq (.reg [co (some 4) (.assign (.const (.bool true))) none] [4])
  (.ret))))))
theorem t_centoref01_Same : Txt Try.prog 42 26 [(.tmp 4)] c_centoref01_Same := txt_of (code := Try.f42.body.getD .ret) mixed (by kernel_rfl) Try.func42 (by kernel_rfl) Try.ntmps42 (by kernel_rfl) (ls := [([0, 1], []), ([], []), ([0, 1, 10], []), ([], []), ([4], []), ([], []), ([999999, 0, 1], []), ([0, 1, 5], []), ([], []), ([0, 1, 5, 14], []), ([], []), ([999999, 0, 1, 5], []), ([0, 1, 5, 25], []), ([], []), ([4], []), ([], []), ([999999, 0, 1, 5], []), ([0, 1, 5], []), ([999999], []), ([4], []), ([], [])]) (by kernel_rfl)

def l1_centoref01_Bytes : CC :=
  .seq (.seq (.reg [co (some 6) (.move (.tmp 4)) none,
        co (some 7) (.binOp .lss 3 (.tmp 6) (.const (.int .i64 8)) 3) none] [0, 2, 3, 4, 7])
    (.cond (.tmp 7)
      (.skip)
      (.exit 0)))
  (.keep [0, 2, 3, 4] (.seq (.block 1
      (.seq (.reg [co (some 10) (.move (.tmp 4)) none,
          co (some 11) (.move (.tmp 0)) none,
          co (some 12) (.binOp .rem 45 (.tmp 11) (.const (.int .u64 256)) 45) none,
          co (some 13) (.convert 45 5 (.tmp 12)) none,
          co (some 14) (.indexAddr 188 (.tmp 3) (.tmp 10)) none,
          co none (.store 5 (.tmp 14) (.tmp 13)) none] [0, 2, 3, 4])
      (.reg [co (some 15) (.move (.tmp 0)) none,
        co (some 16) (.binOp .quo 45 (.tmp 15) (.const (.int .u64 256)) 45) none,
        co (some 0) (.assign (.tmp 16)) none] [0, 2, 3, 4])))
  (.reg [co (some 8) (.move (.tmp 4)) none,
    co (some 9) (.binOp .add 3 (.tmp 8) (.const (.int .i64 1)) 3) none,
    co (some 4) (.assign (.tmp 9)) none] [0, 2, 3, 4])))

/-- cento/centoref01.Bytes -/
def c_centoref01_Bytes : CC :=
  .seq (.reg [cn (some 2) (.alloc 188) none [0]] [0, 2])
  (.seq (.reg [co (some 5) (.build 188 #[]) none,
      cn (some 3) (.alloc 188) none [1],
      co none (.store 188 (.tmp 3) (.tmp 5)) none] [0, 2, 3])
  (.seq (.seq (.reg [co (some 4) (.assign (.const (.int .i64 0))) none] [0, 2, 3, 4])
    (.block 0
      (.loop l1_centoref01_Bytes)))
  (.keep [2, 3] (.seq (.reg [co (some 17) (.load 188 (.tmp 3)) none,
      co none (.store 188 (.tmp 2) (.tmp 17)) none] [2])
  (.ret)))))
theorem t_centoref01_Bytes : Txt Try.prog 137 18 [(.cell 2 188)] c_centoref01_Bytes := txt_of (code := Try.f137.body.getD .ret) mixed (by kernel_rfl) Try.func137 (by kernel_rfl) Try.ntmps137 (by kernel_rfl) (ls := [([0, 2], [(0, [0])]), ([], []), ([0, 2, 3], [(1, [1])]), ([], []), ([0, 2, 3, 4], []), ([], []), ([0, 2, 3, 4, 7], []), ([], []), ([999999, 0, 2, 3, 4], []), ([0, 2, 3, 4], []), ([], []), ([0, 2, 3, 4], []), ([], []), ([0, 2, 3, 4], []), ([999999, 2, 3], []), ([2], []), ([], [])]) (by kernel_rfl)

def l1_centoref01_Named : CC :=
  .seq (.seq (.reg [co (some 6) (.move (.tmp 5)) none,
        co (some 7) (.move (.tmp 1)) none,
        co (some 8) (.binOp .lss 3 (.tmp 6) (.tmp 7) 3) none] [0, 1, 5, 8])
    (.cond (.tmp 8)
      (.skip)
      (.exit 0)))
  (.keep [0, 1, 5] (.seq (.block 1
      (.reg [co (some 11) (.move (.tmp 0)) none,
        co (some 12) (.binOp .quo 5 (.tmp 11) (.const (.int .u8 2)) 5) none,
        co (some 0) (.assign (.tmp 12)) none] [0, 1, 5]))
  (.reg [co (some 9) (.move (.tmp 5)) none,
    co (some 10) (.binOp .add 3 (.tmp 9) (.const (.int .i64 1)) 3) none,
    co (some 5) (.assign (.tmp 10)) none] [0, 1, 5])))

/-- cento/centoref01.Named -/
def c_centoref01_Named : CC :=
  .seq (.reg [co (some 4) (.assign (.const (.bool false))) none] [0, 1])
  (.seq (.seq (.reg [co (some 5) (.assign (.const (.int .i64 0))) none] [0, 1, 5])
    (.block 0
      (.loop l1_centoref01_Named)))
  (.keep [0] (.seq (.reg [co (some 13) (.move (.tmp 0)) none,
      co (some 14) (.binOp .rem 5 (.tmp 13) (.const (.int .u8 2)) 5) none,
      co (some 15) (.binOp .eql 5 (.tmp 14) (.const (.int .u8 1)) 5) none,
      co (some 4) (.assign (.tmp 15)) none] [4])
  (.ret))))
theorem t_centoref01_Named : Txt Try.prog 138 16 [(.tmp 4)] c_centoref01_Named := txt_of (code := Try.f138.body.getD .ret) mixed (by kernel_rfl) Try.func138 (by kernel_rfl) Try.ntmps138 (by kernel_rfl) (ls := [([0, 1], []), ([], []), ([0, 1, 5], []), ([], []), ([0, 1, 5, 8], []), ([], []), ([999999, 0, 1, 5], []), ([0, 1, 5], []), ([], []), ([0, 1, 5], []), ([999999, 0], []), ([4], []), ([], [])]) (by kernel_rfl)

def l1_centoref01_Of : CC :=
  .seq (.seq (.reg [co (some 7) (.move (.tmp 6)) none,
        co (some 8) (.binOp .geq 3 (.tmp 7) (.const (.int .i64 0)) 3) none] [0, 1, 5, 6, 8])
    (.cond (.tmp 8)
      (.skip)
      (.exit 0)))
  (.keep [0, 1, 5, 6] (.seq (.block 1
      (.reg [co (some 11) (.move (.tmp 5)) none,
        co (some 12) (.binOp .mul 45 (.tmp 11) (.const (.int .u64 256)) 45) none,
        co (some 13) (.move (.tmp 0)) none,
        co (some 14) (.move (.tmp 1)) none,
        co (some 15) (.move (.tmp 6)) none,
        co (some 16) (.binOp .add 3 (.tmp 14) (.tmp 15) 3) none,
        co (some 17) (.indexAddr 192 (.tmp 13) (.tmp 16)) none,
        co (some 18) (.load 5 (.tmp 17)) none,
        co (some 19) (.convert 5 45 (.tmp 18)) none,
        co (some 20) (.binOp .add 45 (.tmp 12) (.tmp 19) 45) none,
        co (some 5) (.assign (.tmp 20)) none] [0, 1, 5, 6]))
  (.reg [co (some 9) (.move (.tmp 6)) none,
    co (some 10) (.binOp .sub 3 (.tmp 9) (.const (.int .i64 1)) 3) none,
    co (some 6) (.assign (.tmp 10)) none] [0, 1, 5, 6])))

/-- cento/centoref01.Of -/
def c_centoref01_Of : CC :=
  .seq (.reg [co (some 4) (.assign (.const (.int .u64 0))) none] [0, 1])
  (.seq (.reg [co (some 5) (.assign (.const (.int .u64 0))) none] [0, 1, 5])
  (.seq (.seq (.reg [co (some 6) (.assign (.const (.int .i64 7))) none] [0, 1, 5, 6])
    (.block 0
      (.loop l1_centoref01_Of)))
  (.keep [5] (.seq (.reg [co (some 21) (.move (.tmp 5)) none,
      co (some 4) (.assign (.tmp 21)) none] [4])
  (.ret)))))
theorem t_centoref01_Of : Txt Try.prog 139 22 [(.tmp 4)] c_centoref01_Of := txt_of (code := Try.f139.body.getD .ret) mixed (by kernel_rfl) Try.func139 (by kernel_rfl) Try.ntmps139 (by kernel_rfl) (ls := [([0, 1], []), ([], []), ([0, 1, 5], []), ([], []), ([0, 1, 5, 6], []), ([], []), ([0, 1, 5, 6, 8], []), ([], []), ([999999, 0, 1, 5, 6], []), ([0, 1, 5, 6], []), ([], []), ([0, 1, 5, 6], []), ([999999, 5], []), ([4], []), ([], [])]) (by kernel_rfl)

def l1_centoref01_Mix : CC :=
  .seq (.seq (.reg [co (some 14) (.move (.tmp 9)) none,
        co (some 15) (.binOp .lss 3 (.tmp 14) (.const (.int .i64 8)) 3) none] [2, 7, 8, 9, 15])
    (.cond (.tmp 15)
      (.skip)
      (.exit 0)))
  (.keep [2, 7, 8, 9] (.seq (.block 1
      (.seq (.reg [co (some 18) (.move (.tmp 2)) none,
          co (some 19) (.move (.tmp 9)) none,
          co (some 20) (.call { callee := (.value (.func 138)), args := #[(.tmp 18), (.tmp 19)], argTypes := #[5, 3] }) none] [2, 7, 8, 9, 20])
      (.cond (.tmp 20)
        (.reg [co (some 21) (.move (.tmp 9)) none,
          co (some 22) (.move (.tmp 9)) none,
          co (some 23) (.indexAddr 188 (.tmp 8) (.tmp 22)) none,
          co (some 24) (.load 5 (.tmp 23)) none,
          co (some 25) (.indexAddr 188 (.tmp 7) (.tmp 21)) none,
          co none (.store 5 (.tmp 25) (.tmp 24)) none] [2, 7, 8, 9])
        (.skip))))
  (.keep [2, 7, 8, 9] (.reg [co (some 16) (.move (.tmp 9)) none,
    co (some 17) (.binOp .add 3 (.tmp 16) (.const (.int .i64 1)) 3) none,
    co (some 9) (.assign (.tmp 17)) none] [2, 7, 8, 9]))))

/-- cento/centoref01.Mix -/
def c_centoref01_Mix : CC :=
  .seq (.reg [co (some 6) (.assign (.const (.int .u64 0))) none] [0, 1, 2])
  (.seq (.reg [co (some 10) (.move (.tmp 0)) none,
      co (some 11) (.call { callee := (.value (.func 137)), args := #[(.tmp 10)], argTypes := #[45] }) none,
      co (some 12) (.move (.tmp 1)) none,
      co (some 13) (.call { callee := (.value (.func 137)), args := #[(.tmp 12)], argTypes := #[45] }) none,
      cn (some 7) (.alloc 188) none [0],
      cn (some 8) (.alloc 188) none [1],
      co none (.store 188 (.tmp 7) (.tmp 11)) none,
      co none (.store 188 (.tmp 8) (.tmp 13)) none] [2, 7, 8])
  (.seq (.seq (.reg [co (some 9) (.assign (.const (.int .i64 0))) none] [2, 7, 8, 9])
    (.block 0
      (.loop l1_centoref01_Mix)))
  (.keep [7] (.stop (.seq (.reg [co (some 26) (.slice 188 (.tmp 7) none none none) none,
      co (some 27) (.call { callee := (.value (.func 139)), args := #[(.tmp 26), (.const (.int .i64 0))], argTypes := #[192, 3] }) none,
      co (some 6) (.assign (.tmp 27)) none] [6])
  (.ret))))))
theorem t_centoref01_Mix : Txt Try.prog 115 28 [(.tmp 6)] c_centoref01_Mix := txt_of (code := Try.f115.body.getD .ret) mixed (by kernel_rfl) Try.func115 (by kernel_rfl) Try.ntmps115 (by kernel_rfl) (ls := [([0, 1, 2], []), ([], []), ([2, 7, 8], [(4, [0]), (5, [1])]), ([], []), ([2, 7, 8, 9], []), ([], []), ([2, 7, 8, 9, 15], []), ([], []), ([999999, 2, 7, 8, 9], []), ([2, 7, 8, 9, 20], []), ([], []), ([2, 7, 8, 9], []), ([999999, 2, 7, 8, 9], []), ([2, 7, 8, 9], []), ([999997, 7], []), ([6], []), ([], [])]) (by kernel_rfl)

def l1_centoref01_Bit : CC :=
  .seq (.seq (.reg [co (some 21) (.move (.tmp 6)) none,
        co (some 22) (.move (.tmp 1)) none,
        co (some 23) (.binOp .rem 3 (.tmp 22) (.const (.int .i64 64)) 3) none,
        co (some 24) (.binOp .lss 3 (.tmp 21) (.tmp 23) 3) none] [1, 5, 6, 24])
    (.cond (.tmp 24)
      (.skip)
      (.exit 0)))
  (.keep [1, 5, 6] (.seq (.block 1
      (.reg [co (some 27) (.move (.tmp 5)) none,
        co (some 28) (.binOp .quo 45 (.tmp 27) (.const (.int .u64 2)) 45) none,
        co (some 5) (.assign (.tmp 28)) none] [1, 5, 6]))
  (.reg [co (some 25) (.move (.tmp 6)) none,
    co (some 26) (.binOp .add 3 (.tmp 25) (.const (.int .i64 1)) 3) none,
    co (some 6) (.assign (.tmp 26)) none] [1, 5, 6])))

/-- cento/centoref01.Bit -/
def c_centoref01_Bit : CC :=
  .seq (.reg [co (some 4) (.assign (.const (.int .u64 0))) none] [0, 1])
  (.seq (.seq (.reg [co (some 7) (.move (.tmp 1)) none,
        co (some 8) (.binOp .lss 3 (.tmp 7) (.const (.int .i64 0)) 3) none,
        co (some 9) (.move (.tmp 8)) none,
        co (some 10) (.move (.tmp 1)) (some (9, false)),
        co (some 11) (.binOp .quo 3 (.tmp 10) (.const (.int .i64 64)) 3) (some (9, false)),
        co (some 12) (.move (.tmp 0)) (some (9, false)),
        co (some 13) (.call { callee := (.builtin .len), args := #[(.tmp 12)], argTypes := #[22] }) (some (9, false)),
        co (some 14) (.binOp .geq 3 (.tmp 11) (.tmp 13) 3) (some (9, false)),
        co (some 15) (.pick (.tmp 9) (.const (.bool true)) (.tmp 14)) none] [0, 1, 15])
    (.cond (.tmp 15)
      (.seq (.reg [co (some 4) (.assign (.const (.int .u64 0))) none] [4])
      (.ret))
      (.skip)))
  (.keep [0, 1] (.seq (.reg [co (some 16) (.move (.tmp 0)) none,
      co (some 17) (.move (.tmp 1)) none,
      co (some 18) (.binOp .quo 3 (.tmp 17) (.const (.int .i64 64)) 3) none,
      co (some 19) (.indexAddr 22 (.tmp 16) (.tmp 18)) none,
      co (some 20) (.load 45 (.tmp 19)) none,
      co (some 5) (.assign (.tmp 20)) none] [1, 5])
  (.seq (.seq (.reg [co (some 6) (.assign (.const (.int .i64 0))) none] [1, 5, 6])
    (.block 0
      (.loop l1_centoref01_Bit)))
  (.keep [5] (.seq (.reg [co (some 29) (.move (.tmp 5)) none,
      co (some 30) (.binOp .rem 45 (.tmp 29) (.const (.int .u64 2)) 45) none,
      co (some 4) (.assign (.tmp 30)) none] [4])
  (.ret)))))))
theorem t_centoref01_Bit : Txt Try.prog 143 31 [(.tmp 4)] c_centoref01_Bit := txt_of (code := Try.f143.body.getD .ret) mixed (by kernel_rfl) Try.func143 (by kernel_rfl) Try.ntmps143 (by kernel_rfl) (ls := [([0, 1], []), ([], []), ([0, 1, 15], []), ([], []), ([4], []), ([], []), ([999999, 0, 1], []), ([1, 5], []), ([], []), ([1, 5, 6], []), ([], []), ([1, 5, 6, 24], []), ([], []), ([999999, 1, 5, 6], []), ([1, 5, 6], []), ([], []), ([1, 5, 6], []), ([999999, 5], []), ([4], []), ([], [])]) (by kernel_rfl)

def l1_centoref01_Get : CC :=
  .seq (.seq (.reg [co (some 24) (.move (.tmp 9)) none,
        co (some 25) (.binOp .geq 3 (.tmp 24) (.const (.int .i64 0)) 3) none] [0, 2, 7, 8, 9, 25])
    (.cond (.tmp 25)
      (.skip)
      (.exit 0)))
  (.keep [0, 2, 7, 8, 9] (.seq (.block 1
      (.reg [co (some 28) (.move (.tmp 8)) none,
        co (some 29) (.binOp .mul 45 (.tmp 28) (.const (.int .u64 2)) 45) none,
        co (some 30) (.move (.tmp 0)) none,
        co (some 31) (.move (.tmp 2)) none,
        co (some 32) (.move (.tmp 7)) none,
        co (some 33) (.binOp .mul 3 (.tmp 31) (.tmp 32) 3) none,
        co (some 34) (.move (.tmp 9)) none,
        co (some 35) (.binOp .add 3 (.tmp 33) (.tmp 34) 3) none,
        co (some 36) (.call { callee := (.value (.func 143)), args := #[(.tmp 30), (.tmp 35)], argTypes := #[22, 3] }) none,
        co (some 37) (.binOp .add 45 (.tmp 29) (.tmp 36) 45) none,
        co (some 8) (.assign (.tmp 37)) none] [0, 2, 7, 8, 9]))
  (.reg [co (some 26) (.move (.tmp 9)) none,
    co (some 27) (.binOp .sub 3 (.tmp 26) (.const (.int .i64 1)) 3) none,
    co (some 9) (.assign (.tmp 27)) none] [0, 2, 7, 8, 9])))

/-- cento/centoref01.Get -/
def c_centoref01_Get : CC :=
  .seq (.reg [co (some 6) (.assign (.const (.int .u64 0))) none] [0, 1, 2])
  (.seq (.reg [co (some 10) (.move (.tmp 1)) none,
      co (some 11) (.call { callee := (.value (.func 84)), args := #[(.tmp 10)], argTypes := #[3] }) none,
      co (some 7) (.assign (.tmp 11)) none] [0, 2, 7])
  (.seq (.seq (.reg [co (some 12) (.move (.tmp 7)) none,
        co (some 13) (.binOp .lss 3 (.tmp 12) (.const (.int .i64 1)) 3) none,
        co (some 14) (.move (.tmp 13)) none,
        co (some 15) (.move (.tmp 2)) (some (14, false)),
        co (some 16) (.binOp .lss 3 (.tmp 15) (.const (.int .i64 0)) 3) (some (14, false)),
        co (some 17) (.pick (.tmp 14) (.const (.bool true)) (.tmp 16)) none,
        co (some 18) (.move (.tmp 17)) none,
        co (some 19) (.move (.tmp 2)) (some (18, false)),
        co (some 20) (.binOp .gtr 3 (.tmp 19) (.const (.int .i64 1099511627776)) 3) (some (18, false)),
        co (some 21) (.pick (.tmp 18) (.const (.bool true)) (.tmp 20)) none] [0, 2, 7, 21])
    (.cond (.tmp 21)
      (.seq (.reg [co (some 6) (.assign (.const (.int .u64 0))) none] [6])
      (.ret))
      (.skip)))
  (.keep [0, 2, 7] (.seq (.reg [co (some 8) (.assign (.const (.int .u64 0))) none] [0, 2, 7, 8])
  (.seq (.seq (.reg [co (some 22) (.move (.tmp 7)) none,
        co (some 23) (.binOp .sub 3 (.tmp 22) (.const (.int .i64 1)) 3) none,
        co (some 9) (.assign (.tmp 23)) none] [0, 2, 7, 8, 9])
    (.block 0
      (.loop l1_centoref01_Get)))
  (.keep [8] (.seq (.reg [co (some 38) (.move (.tmp 8)) none,
      co (some 6) (.assign (.tmp 38)) none] [6])
  (.ret))))))))
theorem t_centoref01_Get : Txt Try.prog 123 39 [(.tmp 6)] c_centoref01_Get := txt_of (code := Try.f123.body.getD .ret) mixed (by kernel_rfl) Try.func123 (by kernel_rfl) Try.ntmps123 (by kernel_rfl) (ls := [([0, 1, 2], []), ([], []), ([0, 2, 7], []), ([], []), ([0, 2, 7, 21], []), ([], []), ([6], []), ([], []), ([999999, 0, 2, 7], []), ([0, 2, 7, 8], []), ([], []), ([0, 2, 7, 8, 9], []), ([], []), ([0, 2, 7, 8, 9, 25], []), ([], []), ([999999, 0, 2, 7, 8, 9], []), ([0, 2, 7, 8, 9], []), ([], []), ([0, 2, 7, 8, 9], []), ([999999, 8], []), ([6], []), ([], [])]) (by kernel_rfl)


/-- cento/word.width -/
def c_word_width : CC :=
  .seq (.reg [co (some 2) (.assign (.const (.int .i64 0))) none,
      co (some 3) (.assign (.const (.bool false))) none] [0])
  (.seq (.reg [co (some 5) (.build 200 #[(0, (.const (.int .i64 0))), (1, (.const (.int .i64 1))), (2, (.const (.int .i64 8))), (3, (.const (.int .i64 16))), (4, (.const (.int .i64 32))), (5, (.const (.int .i64 64)))]) none,
      cn (some 4) (.alloc 200) none [0],
      co none (.store 200 (.tmp 4) (.tmp 5)) none] [0, 4])
  (.seq (.seq (.reg [co (some 6) (.move (.tmp 0)) none,
        co (some 7) (.binOp .lss 3 (.tmp 6) (.const (.int .i64 0)) 3) none,
        co (some 8) (.move (.tmp 7)) none,
        co (some 9) (.move (.tmp 0)) (some (8, false)),
        co (some 10) (.binOp .geq 3 (.tmp 9) (.const (.int .i64 6)) 3) (some (8, false)),
        co (some 11) (.pick (.tmp 8) (.const (.bool true)) (.tmp 10)) none] [0, 4, 11])
    (.cond (.tmp 11)
      (.seq (.reg [co (some 2) (.assign (.const (.int .i64 0))) none,
          co (some 3) (.assign (.const (.bool false))) none] [2, 3])
      (.ret))
      (.skip)))
  (.keep [0, 4] (.seq (.reg [co (some 12) (.move (.tmp 0)) none,
      co (some 13) (.indexAddr 200 (.tmp 4) (.tmp 12)) none,
      co (some 14) (.load 3 (.tmp 13)) none,
      co (some 2) (.assign (.tmp 14)) none,
      co (some 3) (.assign (.const (.bool true))) none] [2, 3])
  (.ret)))))
theorem t_word_width : Txt Try.prog 136 15 [(.tmp 2), (.tmp 3)] c_word_width := txt_of (code := Try.f136.body.getD .ret) mixed (by kernel_rfl) Try.func136 (by kernel_rfl) Try.ntmps136 (by kernel_rfl) (ls := [([0], []), ([], []), ([0, 4], [(1, [0])]), ([], []), ([0, 4, 11], []), ([], []), ([2, 3], []), ([], []), ([999999, 0, 4], []), ([2, 3], []), ([], [])]) (by kernel_rfl)


/-- cento/word.Width -/
def c_word_Width : CC :=
  .seq (.reg [co (some 2) (.assign (.const (.int .i64 0))) none,
      co (some 3) (.assign (.const (.bool false))) none] [0])
  (.seq (.reg [co (some 4) (.move (.tmp 0)) none,
      co (some 5) (.call { callee := (.value (.func 136)), args := #[(.tmp 4)], argTypes := #[3] }) none,
      co (some 6) (.extract (.tmp 5) 0) none,
      co (some 7) (.extract (.tmp 5) 1) none,
      co (some 2) (.assign (.tmp 6)) none,
      co (some 3) (.assign (.tmp 7)) none] [2, 3])
  (.ret))
theorem t_word_Width : Txt Try.prog 113 8 [(.tmp 2), (.tmp 3)] c_word_Width := txt_of (code := Try.f113.body.getD .ret) mixed (by kernel_rfl) Try.func113 (by kernel_rfl) Try.ntmps113 (by kernel_rfl) (ls := [([0], []), ([], []), ([2, 3], []), ([], [])]) (by kernel_rfl)


/-- cento/word.Room -/
def c_word_Room : CC :=
  .seq (.reg [co (some 4) (.assign (.const (.int .i64 0))) none] [0, 1])
  (.seq (.reg [co (some 8) (.move (.tmp 0)) none,
      co (some 9) (.call { callee := (.value (.func 136)), args := #[(.tmp 8)], argTypes := #[3] }) none,
      co (some 7) (.move (.tmp 9)) none,
      co (some 10) (.extract (.tmp 7) 0) none,
      co (some 11) (.extract (.tmp 7) 1) none,
      co (some 5) (.assign (.tmp 10)) none,
      co (some 6) (.assign (.tmp 11)) none] [1, 5, 6])
  (.seq (.seq (.reg [co (some 12) (.move (.tmp 6)) none,
        co (some 13) (.unOp .not 4 (.tmp 12)) none,
        co (some 14) (.move (.tmp 13)) none,
        co (some 15) (.move (.tmp 1)) (some (14, false)),
        co (some 16) (.binOp .lss 3 (.tmp 15) (.const (.int .i64 0)) 3) (some (14, false)),
        co (some 17) (.pick (.tmp 14) (.const (.bool true)) (.tmp 16)) none,
        co (some 18) (.move (.tmp 17)) none,
        co (some 19) (.move (.tmp 1)) (some (18, false)),
        co (some 20) (.binOp .gtr 3 (.tmp 19) (.const (.int .i64 1099511627776)) 3) (some (18, false)),
        co (some 21) (.pick (.tmp 18) (.const (.bool true)) (.tmp 20)) none] [1, 5, 21])
    (.cond (.tmp 21)
      (.seq (.reg [co (some 4) (.assign (.const (.int .i64 0))) none] [4])
      (.ret))
      (.skip)))
  (.keep [1, 5] (.seq (.reg [co (some 22) (.move (.tmp 1)) none,
      co (some 23) (.move (.tmp 5)) none,
      co (some 24) (.binOp .mul 3 (.tmp 22) (.tmp 23) 3) none,
      co (some 25) (.binOp .add 3 (.tmp 24) (.const (.int .i64 63)) 3) none,
      co (some 26) (.binOp .quo 3 (.tmp 25) (.const (.int .i64 64)) 3) none,
      co (some 4) (.assign (.tmp 26)) none] [4])
  (.ret)))))
theorem t_word_Room : Txt Try.prog 135 27 [(.tmp 4)] c_word_Room := txt_of (code := Try.f135.body.getD .ret) mixed (by kernel_rfl) Try.func135 (by kernel_rfl) Try.ntmps135 (by kernel_rfl) (ls := [([0, 1], []), ([], []), ([1, 5, 6], []), ([], []), ([1, 5, 21], []), ([], []), ([4], []), ([], []), ([999999, 1, 5], []), ([4], []), ([], [])]) (by kernel_rfl)


/-- cento/word.Get -/
def c_word_Get : CC :=
  .seq (.reg [co (some 6) (.assign (.const (.int .u64 0))) none] [0, 1, 2])
  (.seq (.reg [co (some 11) (.move (.tmp 1)) none,
      co (some 12) (.call { callee := (.value (.func 136)), args := #[(.tmp 11)], argTypes := #[3] }) none,
      co (some 10) (.move (.tmp 12)) none,
      co (some 13) (.extract (.tmp 10) 0) none,
      co (some 14) (.extract (.tmp 10) 1) none,
      co (some 7) (.assign (.tmp 13)) none,
      co (some 8) (.assign (.tmp 14)) none] [0, 2, 7, 8])
  (.seq (.seq (.reg [co (some 15) (.move (.tmp 8)) none,
        co (some 16) (.unOp .not 4 (.tmp 15)) none,
        co (some 17) (.move (.tmp 16)) none,
        co (some 18) (.move (.tmp 7)) (some (17, false)),
        co (some 19) (.binOp .eql 3 (.tmp 18) (.const (.int .i64 0)) 3) (some (17, false)),
        co (some 20) (.pick (.tmp 17) (.const (.bool true)) (.tmp 19)) none,
        co (some 21) (.move (.tmp 20)) none,
        co (some 22) (.move (.tmp 2)) (some (21, false)),
        co (some 23) (.binOp .lss 3 (.tmp 22) (.const (.int .i64 0)) 3) (some (21, false)),
        co (some 24) (.pick (.tmp 21) (.const (.bool true)) (.tmp 23)) none,
        co (some 25) (.move (.tmp 24)) none,
        co (some 26) (.move (.tmp 2)) (some (25, false)),
        co (some 27) (.binOp .gtr 3 (.tmp 26) (.const (.int .i64 1099511627776)) 3) (some (25, false)),
        co (some 28) (.pick (.tmp 25) (.const (.bool true)) (.tmp 27)) none,
        co (some 29) (.move (.tmp 28)) none,
        co (some 30) (.move (.tmp 2)) (some (29, false)),
        co (some 31) (.move (.tmp 7)) (some (29, false)),
        co (some 32) (.binOp .mul 3 (.tmp 30) (.tmp 31) 3) (some (29, false)),
        co (some 33) (.binOp .quo 3 (.tmp 32) (.const (.int .i64 64)) 3) (some (29, false)),
        co (some 34) (.move (.tmp 0)) (some (29, false)),
        co (some 35) (.call { callee := (.builtin .len), args := #[(.tmp 34)], argTypes := #[22] }) (some (29, false)),
        co (some 36) (.binOp .geq 3 (.tmp 33) (.tmp 35) 3) (some (29, false)),
        co (some 37) (.pick (.tmp 29) (.const (.bool true)) (.tmp 36)) none] [0, 2, 7, 37])
    (.cond (.tmp 37)
      (.seq (.reg [co (some 6) (.assign (.const (.int .u64 0))) none] [6])
      (.ret))
      (.skip)))
  (.keep [0, 2, 7] (.seq (.reg [co (some 38) (.move (.tmp 0)) none,
      co (some 39) (.move (.tmp 2)) none,
      co (some 40) (.move (.tmp 7)) none,
      co (some 41) (.binOp .mul 3 (.tmp 39) (.tmp 40) 3) none,
      co (some 42) (.binOp .quo 3 (.tmp 41) (.const (.int .i64 64)) 3) none,
      co (some 43) (.indexAddr 22 (.tmp 38) (.tmp 42)) none,
      co (some 44) (.load 45 (.tmp 43)) none,
      co (some 45) (.move (.tmp 2)) none,
      co (some 46) (.move (.tmp 7)) none,
      co (some 47) (.binOp .mul 3 (.tmp 45) (.tmp 46) 3) none,
      co (some 48) (.binOp .rem 3 (.tmp 47) (.const (.int .i64 64)) 3) none,
      co (some 49) (.binOp .shr 45 (.tmp 44) (.tmp 48) 3) none,
      co (some 9) (.assign (.tmp 49)) none] [7, 9])
  (.seq (.seq (.reg [co (some 50) (.move (.tmp 7)) none,
        co (some 51) (.binOp .eql 3 (.tmp 50) (.const (.int .i64 64)) 3) none] [7, 9, 51])
    (.cond (.tmp 51)
      (.seq (.reg [co (some 52) (.move (.tmp 9)) none,
          co (some 6) (.assign (.tmp 52)) none] [6])
      (.ret))
      (.skip)))
  (.keep [7, 9] (.seq (.reg [co (some 53) (.move (.tmp 9)) none,
      co (some 54) (.move (.tmp 7)) none,
      co (some 55) (.binOp .shl 45 (.const (.int .u64 1)) (.tmp 54) 3) none,
      co (some 56) (.binOp .sub 45 (.tmp 55) (.const (.int .u64 1)) 45) none,
      co (some 57) (.binOp .and 45 (.tmp 53) (.tmp 56) 45) none,
      co (some 6) (.assign (.tmp 57)) none] [6])
  (.ret))))))))
theorem t_word_Get : Txt Try.prog 114 58 [(.tmp 6)] c_word_Get := txt_of (code := Try.f114.body.getD .ret) mixed (by kernel_rfl) Try.func114 (by kernel_rfl) Try.ntmps114 (by kernel_rfl) (ls := [([0, 1, 2], []), ([], []), ([0, 2, 7, 8], []), ([], []), ([0, 2, 7, 37], []), ([], []), ([6], []), ([], []), ([999999, 0, 2, 7], []), ([7, 9], []), ([], []), ([7, 9, 51], []), ([], []), ([6], []), ([], []), ([999999, 7, 9], []), ([6], []), ([], [])]) (by kernel_rfl)


/-- cento/tree.Data -/
def c_tree_Data : CC :=
  .seq (.reg [co (some 2) (.assign (.const (.bool false))) none] [0])
  (.seq (.reg [co (some 3) (.move (.tmp 0)) none,
      co (some 4) (.binOp .geq 3 (.tmp 3) (.const (.int .i64 2)) 3) none,
      co (some 5) (.move (.tmp 4)) none,
      co (some 6) (.move (.tmp 0)) (some (5, true)),
      co (some 7) (.binOp .leq 3 (.tmp 6) (.const (.int .i64 7)) 3) (some (5, true)),
      co (some 8) (.pick (.tmp 5) (.tmp 7) (.const (.bool false))) none,
      co (some 2) (.assign (.tmp 8)) none] [2])
  (.ret))
theorem t_tree_Data : Txt Try.prog 151 9 [(.tmp 2)] c_tree_Data := txt_of (code := Try.f151.body.getD .ret) mixed (by kernel_rfl) Try.func151 (by kernel_rfl) Try.ntmps151 (by kernel_rfl) (ls := [([0], []), ([], []), ([2], []), ([], [])]) (by kernel_rfl)

def l1_centoref07_Trim : CC :=
  .seq (.seq (.reg [co (some 7) (.move (.tmp 3)) none,
        co (some 8) (.binOp .gtr 3 (.tmp 7) (.const (.int .i64 0)) 3) none,
        co (some 9) (.move (.tmp 8)) none,
        co (some 10) (.move (.tmp 0)) (some (9, true)),
        co (some 11) (.move (.tmp 3)) (some (9, true)),
        co (some 12) (.binOp .sub 3 (.tmp 11) (.const (.int .i64 1)) 3) (some (9, true)),
        co (some 13) (.indexAddr 22 (.tmp 10) (.tmp 12)) (some (9, true)),
        co (some 14) (.load 45 (.tmp 13)) (some (9, true)),
        co (some 15) (.binOp .eql 45 (.tmp 14) (.const (.int .u64 0)) 45) (some (9, true)),
        co (some 16) (.pick (.tmp 9) (.tmp 15) (.const (.bool false))) none] [0, 3, 16])
    (.cond (.tmp 16)
      (.skip)
      (.exit 0)))
  (.keep [0, 3] (.block 1
    (.reg [co (some 17) (.move (.tmp 3)) none,
      co (some 18) (.binOp .sub 3 (.tmp 17) (.const (.int .i64 1)) 3) none,
      co (some 3) (.assign (.tmp 18)) none] [0, 3])))

/-- cento/centoref07.Trim -/
def c_centoref07_Trim : CC :=
  .seq (.reg [co (some 2) (.assign (.const (.slice none 0 0))) none] [0])
  (.seq (.reg [co (some 5) (.move (.tmp 0)) none,
      co (some 6) (.call { callee := (.builtin .len), args := #[(.tmp 5)], argTypes := #[22] }) none,
      co (some 3) (.assign (.tmp 6)) none] [0, 3])
  (.seq (.block 0
      (.loop l1_centoref07_Trim))
  (.keep [0, 3] (.seq (.reg [co (some 4) (.assign (.const (.slice none 0 0))) none] [0, 3, 4])
  (.seq (.reg [co (some 19) (.move (.tmp 4)) none,
      co (some 20) (.move (.tmp 0)) none,
      co (some 21) (.move (.tmp 3)) none,
      co (some 22) (.slice 22 (.tmp 20) none (some (.tmp 21)) none) none,
      cn (some 23) (.call { callee := (.builtin .append), args := #[(.tmp 19), (.tmp 22)], argTypes := #[22, 22] }) none [0],
      co (some 2) (.assign (.tmp 23)) none] [2])
  (.ret))))))
theorem t_centoref07_Trim : Txt Try.prog 54 24 [(.tmp 2)] c_centoref07_Trim := txt_of (code := Try.f54.body.getD .ret) mixed (by kernel_rfl) Try.func54 (by kernel_rfl) Try.ntmps54 (by kernel_rfl) (ls := [([0], []), ([], []), ([0, 3], []), ([], []), ([0, 3, 16], []), ([], []), ([999999, 0, 3], []), ([0, 3], []), ([999999, 0, 3], []), ([0, 3, 4], []), ([], []), ([2], [(4, [0])]), ([], [])]) (by kernel_rfl)
end Go.Proofs.Ytigdcnlhgelkaaa
