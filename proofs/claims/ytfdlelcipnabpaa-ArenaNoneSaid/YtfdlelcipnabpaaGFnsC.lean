/-
  The functions' text as data, and the facts on the types that they use: written by a program of ours (gen2.py) off the translation.
-/
import Derived.Test.YtfdlelcipnabpaaProg
import Derived.Test.YtfdlelcipnabpaaGSimp
import Derived.Test.YtfdlelcipnabpaaGFnsA
import Derived.Test.YtfdlelcipnabpaaGFnsB
import Derived.KernelRfl
namespace Go.Proofs.Ytfdlelcipnabpaa
set_option linter.unusedVariables false
set_option linter.unusedSimpArgs false
set_option maxRecDepth 20000
open Go Go.G Go.Proofs

@[simp] theorem und_34 : Try.prog.underlying 34 = some (.slice 3) := by kernel_rfl
@[simp] theorem und_37 : Try.prog.underlying 37 = some (.slice 40) := by kernel_rfl
@[simp] theorem und_40 : Try.prog.underlying 40 = some (.array 3 3) := by kernel_rfl
@[simp] theorem und_52 : Try.prog.underlying 52 = some (.slice 56) := by kernel_rfl
@[simp] theorem szT_40 : szT Try.prog 40 = some 3 := by kernel_rfl
@[simp] theorem szT_56 : szT Try.prog 56 = some 5 := by kernel_rfl
@[simp] theorem aggT_40 : aggT Try.prog 40 = some true := by kernel_rfl
@[simp] theorem aggT_56 : aggT Try.prog 56 = some true := by kernel_rfl
@[simp] theorem zeroT_3 : zeroT Try.prog 3 = some (Value.int IntKind.i64 0) := by kernel_rfl
@[simp] theorem zeroT_40 : zeroT Try.prog 40 = some (Value.agg #[Value.int IntKind.i64 0, Value.int IntKind.i64 0, Value.int IntKind.i64 0]) := by kernel_rfl
@[simp] theorem zeroT_56 : zeroT Try.prog 56 = some (Value.agg #[Value.int IntKind.i64 0, Value.int IntKind.i64 0, Value.int IntKind.i64 0, Value.int IntKind.i64 0, Value.int IntKind.u64 0]) := by kernel_rfl
@[simp] theorem bytesT_3 : bytesT Try.prog 3 = some 8 := by kernel_rfl
@[simp] theorem bytesT_40 : bytesT Try.prog 40 = some 24 := by kernel_rfl
@[simp] theorem bytesT_56 : bytesT Try.prog 56 = some 40 := by kernel_rfl
@[simp] theorem fieldOffT_56_0 : fieldOffT Try.prog 56 0 = some 0 := by kernel_rfl
@[simp] theorem fieldOffT_56_1 : fieldOffT Try.prog 56 1 = some 1 := by kernel_rfl
@[simp] theorem fieldOffT_56_2 : fieldOffT Try.prog 56 2 = some 2 := by kernel_rfl
@[simp] theorem fieldOffT_56_3 : fieldOffT Try.prog 56 3 = some 3 := by kernel_rfl
@[simp] theorem fieldOffT_56_4 : fieldOffT Try.prog 56 4 = some 4 := by kernel_rfl
@[simp] theorem fieldOffT_59_0 : fieldOffT Try.prog 59 0 = some 0 := by kernel_rfl
@[simp] theorem fieldOffT_59_1 : fieldOffT Try.prog 59 1 = some 1 := by kernel_rfl
@[simp] theorem fieldOffT_59_2 : fieldOffT Try.prog 59 2 = some 2 := by kernel_rfl
@[simp] theorem fieldOffT_59_3 : fieldOffT Try.prog 59 3 = some 3 := by kernel_rfl
@[simp] theorem fieldOffT_88_1 : fieldOffT Try.prog 88 1 = some 1 := by kernel_rfl
@[simp] theorem fieldOffT_88_2 : fieldOffT Try.prog 88 2 = some 2 := by kernel_rfl
@[simp] theorem fieldOffT_88_3 : fieldOffT Try.prog 88 3 = some 3 := by kernel_rfl
@[simp] theorem buildA_40 (ps : List (Nat × A)) : buildA Try.prog 40 ps = (fillA (fun i => some (i * 1, 1)) [A.v (Value.int IntKind.i64 0), A.v (Value.int IntKind.i64 0), A.v (Value.int IntKind.i64 0)] ps).map A.agg := by kernel_rfl
@[simp] theorem buildA_59 (ps : List (Nat × A)) : buildA Try.prog 59 ps = (fillA (fun i => ([(0, 1), (1, 1), (2, 1), (3, 1)] : List (Nat × Nat))[i]?) [A.sl true [], A.v (Value.int IntKind.i64 0), A.v (Value.int IntKind.i64 0), A.v (Value.int IntKind.i64 0)] ps).map A.agg := by kernel_rfl


/-- cento/arena.New -/
def c_arena_New : CC :=
  .seq (.reg [co (some 4) (.assign (.const (.pointer none))) none] [0, 1])
  (.seq (.reg [co (some 5) (.move (.tmp 0)) none,
      co (some 6) (.call { callee := (.builtin .max), args := #[(.tmp 5), (.const (.int .i64 1))], argTypes := #[3, 3] }) none,
      co (some 7) (.move (.tmp 1)) none,
      co (some 8) (.call { callee := (.builtin .max), args := #[(.tmp 7), (.const (.int .i64 0))], argTypes := #[3, 3] }) none,
      co (some 9) (.call { callee := (.builtin .min), args := #[(.tmp 8), (.const (.int .i64 131072))], argTypes := #[3, 3] }) none,
      co (some 10) (.build 88 #[(1, (.tmp 6)), (2, (.tmp 9))]) none,
      cn (some 11) (.box 88 (.tmp 10)) none [0],
      co (some 4) (.assign (.tmp 11)) none] [4])
  (.ret))
theorem t_arena_New : Txt Try.prog 18 12 [(.tmp 4)] c_arena_New := txt_of (code := Try.f18.body.getD .ret) mixed (by kernel_rfl) Try.func18 (by kernel_rfl) Try.ntmps18 (by kernel_rfl) (ls := [([0, 1], []), ([], []), ([4], [(6, [0])]), ([], [])]) (by kernel_rfl)


/-- (*cento/arena.Arena).Left -/
def c_arena_Arena_Left : CC :=
  .seq (.reg [co (some 2) (.assign (.const (.int .i64 0))) none] [0])
  (.seq (.seq (.reg [co (some 3) (.move (.tmp 0)) none,
        co (some 4) (.binOp .eql 35 (.tmp 3) (.const (.pointer none)) 35) none] [0, 4])
    (.cond (.tmp 4)
      (.seq (.reg [co (some 2) (.assign (.const (.int .i64 0))) none] [2])
      (.ret))
      (.skip)))
  (.keep [0] (.seq (.reg [co (some 5) (.move (.tmp 0)) none,
      co (some 6) (.nilCheck (.tmp 5)) none,
      co (some 7) (.fieldAddr 88 (.tmp 6) 2) none,
      co (some 8) (.load 3 (.tmp 7)) none,
      co (some 9) (.move (.tmp 0)) none,
      co (some 10) (.nilCheck (.tmp 9)) none,
      co (some 11) (.fieldAddr 88 (.tmp 10) 3) none,
      co (some 12) (.load 3 (.tmp 11)) none,
      co (some 13) (.binOp .sub 3 (.tmp 8) (.tmp 12) 3) none,
      co (some 2) (.assign (.tmp 13)) none] [2])
  (.ret))))
theorem t_arena_Arena_Left : Txt Try.prog 27 14 [(.tmp 2)] c_arena_Arena_Left := txt_of (code := Try.f27.body.getD .ret) mixed (by kernel_rfl) Try.func27 (by kernel_rfl) Try.ntmps27 (by kernel_rfl) (ls := [([0], []), ([], []), ([0, 4], []), ([], []), ([2], []), ([], []), ([999999, 0], []), ([2], []), ([], [])]) (by kernel_rfl)


/-- (*cento/arena.Arena).room -/
def c_arena_Arena_room : CC :=
  .seq (.reg [co (some 6) (.assign (.const (.bool false))) none] [0, 1, 2])
  (.seq (.reg [co (some 7) (.move (.tmp 0)) none,
      co (some 8) (.nilCheck (.tmp 7)) none,
      co (some 9) (.fieldAddr 88 (.tmp 8) 1) none,
      ⟨some 10, (.load 3 (.tmp 9)), none, [], 3, [], true⟩,
      co (some 11) (.move (.tmp 0)) none,
      co (some 12) (.move (.tmp 1)) none,
      ⟨some 13, (.call { callee := (.value (.func 34)), args := #[(.tmp 11), (.tmp 12)], argTypes := #[35, 3] }), none, [], 6, [3], false⟩,
      co (some 14) (.binOp .sub 3 (.tmp 10) (.tmp 13) 3) none,
      co (some 15) (.move (.tmp 2)) none,
      co (some 16) (.binOp .geq 3 (.tmp 14) (.tmp 15) 3) none,
      co (some 6) (.assign (.tmp 16)) none] [6])
  (.ret))
theorem t_arena_Arena_room : Txt Try.prog 45 17 [(.tmp 6)] c_arena_Arena_room := txt_of (code := Try.f45.body.getD .ret) mixed (by kernel_rfl) Try.func45 (by kernel_rfl) Try.ntmps45 (by kernel_rfl) (ls := [([0, 1, 2], []), ([], []), ([6], []), ([], [])]) (by kernel_rfl)


/-- (*cento/arena.Arena).grow -/
def c_arena_Arena_grow : CC :=
  .seq (.reg [co (some 6) (.assign (.const (.int .i64 0))) none] [0, 1, 2])
  (.seq (.reg [co (some 8) (.move (.tmp 0)) none,
      co (some 9) (.nilCheck (.tmp 8)) none,
      co (some 10) (.fieldAddr 88 (.tmp 9) 0) none,
      co (some 11) (.load 44 (.tmp 10)) none,
      co (some 12) (.move (.tmp 1)) none,
      co (some 13) (.indexAddr 44 (.tmp 11) (.tmp 12)) none,
      co (some 14) (.load 45 (.tmp 13)) none,
      co (some 15) (.call { callee := (.builtin .len), args := #[(.tmp 14)], argTypes := #[45] }) none,
      co (some 7) (.assign (.tmp 15)) none] [0, 1, 2, 7])
  (.seq (.reg [co (some 16) (.move (.tmp 0)) none,
      co (some 17) (.nilCheck (.tmp 16)) none,
      co (some 18) (.fieldAddr 88 (.tmp 17) 0) none,
      ⟨some 19, (.load 44 (.tmp 18)), none, [], 3, [], true⟩,
      co (some 20) (.move (.tmp 1)) none,
      co (some 21) (.move (.tmp 0)) none,
      co (some 22) (.nilCheck (.tmp 21)) none,
      co (some 23) (.fieldAddr 88 (.tmp 22) 0) none,
      co (some 24) (.load 44 (.tmp 23)) none,
      co (some 25) (.move (.tmp 1)) none,
      co (some 26) (.indexAddr 44 (.tmp 24) (.tmp 25)) none,
      co (some 27) (.load 45 (.tmp 26)) none,
      co (some 28) (.move (.tmp 2)) none,
      ⟨some 29, (.call { callee := (.builtin .append), args := #[(.tmp 27), (.tmp 28)], argTypes := #[45, 3] }), none, [1], 13, [3], false⟩,
      co (some 30) (.indexAddr 44 (.tmp 19) (.tmp 20)) none,
      co none (.store 45 (.tmp 30) (.tmp 29)) none] [0, 2, 7])
  (.seq (.reg [co (some 31) (.move (.tmp 0)) none,
      co (some 32) (.nilCheck (.tmp 31)) none,
      co (some 33) (.fieldAddr 88 (.tmp 32) 3) none,
      co (some 34) (.load 3 (.tmp 33)) none,
      co (some 35) (.move (.tmp 2)) none,
      co (some 36) (.binOp .add 3 (.tmp 34) (.tmp 35) 3) none,
      co (some 37) (.nilCheck (.tmp 31)) none,
      co (some 38) (.fieldAddr 88 (.tmp 37) 3) none,
      co none (.store 3 (.tmp 38) (.tmp 36)) none] [7])
  (.seq (.reg [co (some 39) (.move (.tmp 7)) none,
      co (some 6) (.assign (.tmp 39)) none] [6])
  (.ret)))))
theorem t_arena_Arena_grow : Txt Try.prog 46 40 [(.tmp 6)] c_arena_Arena_grow := txt_of (code := Try.f46.body.getD .ret) mixed (by kernel_rfl) Try.func46 (by kernel_rfl) Try.ntmps46 (by kernel_rfl) (ls := [([0, 1, 2], []), ([], []), ([0, 1, 2, 7], []), ([], []), ([0, 2, 7], [(13, [1])]), ([], []), ([7], []), ([], []), ([6], []), ([], [])]) (by kernel_rfl)


/-- (*cento/arena.Arena).In -/
def c_arena_Arena_In : CC :=
  .seq (.reg [co (some 6) (.assign (.const (.int .i64 0))) none,
      co (some 7) (.assign (.const (.bool false))) none] [0, 1, 2])
  (.seq (.seq (.reg [co (some 8) (.move (.tmp 1)) none,
        co (some 9) (.binOp .lss 3 (.tmp 8) (.const (.int .i64 0)) 3) none,
        co (some 10) (.move (.tmp 9)) none,
        co (some 11) (.move (.tmp 1)) (some (10, false)),
        co (some 12) (.move (.tmp 0)) (some (10, false)),
        co (some 13) (.call { callee := (.value (.func 21)), args := #[(.tmp 12)], argTypes := #[35] }) (some (10, false)),
        co (some 14) (.binOp .geq 3 (.tmp 11) (.tmp 13) 3) (some (10, false)),
        co (some 15) (.pick (.tmp 10) (.const (.bool true)) (.tmp 14)) none,
        co (some 16) (.move (.tmp 15)) none,
        co (some 17) (.move (.tmp 2)) (some (16, false)),
        co (some 18) (.binOp .lss 3 (.tmp 17) (.const (.int .i64 0)) 3) (some (16, false)),
        co (some 19) (.pick (.tmp 16) (.const (.bool true)) (.tmp 18)) none,
        co (some 20) (.move (.tmp 19)) none,
        co (some 21) (.move (.tmp 2)) (some (20, false)),
        co (some 22) (.move (.tmp 0)) (some (20, false)),
        co (some 23) (.call { callee := (.value (.func 27)), args := #[(.tmp 22)], argTypes := #[35] }) (some (20, false)),
        co (some 24) (.binOp .gtr 3 (.tmp 21) (.tmp 23) 3) (some (20, false)),
        co (some 25) (.pick (.tmp 20) (.const (.bool true)) (.tmp 24)) none,
        co (some 26) (.move (.tmp 25)) none,
        co (some 27) (.move (.tmp 0)) (some (26, false)),
        co (some 28) (.move (.tmp 1)) (some (26, false)),
        co (some 29) (.move (.tmp 2)) (some (26, false)),
        co (some 30) (.call { callee := (.value (.func 45)), args := #[(.tmp 27), (.tmp 28), (.tmp 29)], argTypes := #[35, 3, 3] }) (some (26, false)),
        co (some 31) (.unOp .not 4 (.tmp 30)) (some (26, false)),
        co (some 32) (.pick (.tmp 26) (.const (.bool true)) (.tmp 31)) none] [0, 1, 2, 32])
    (.cond (.tmp 32)
      (.seq (.reg [co (some 6) (.assign (.const (.int .i64 0))) none,
          co (some 7) (.assign (.const (.bool false))) none] [6, 7])
      (.ret))
      (.skip)))
  (.keep [0, 1, 2] (.seq (.reg [co (some 33) (.move (.tmp 0)) none,
      co (some 34) (.move (.tmp 1)) none,
      co (some 35) (.move (.tmp 2)) none,
      co (some 36) (.call { callee := (.value (.func 46)), args := #[(.tmp 33), (.tmp 34), (.tmp 35)], argTypes := #[35, 3, 3] }) none,
      co (some 6) (.assign (.tmp 36)) none,
      co (some 7) (.assign (.const (.bool true))) none] [6, 7])
  (.ret))))
theorem t_arena_Arena_In : Txt Try.prog 26 37 [(.tmp 6), (.tmp 7)] c_arena_Arena_In := txt_of (code := Try.f26.body.getD .ret) mixed (by kernel_rfl) Try.func26 (by kernel_rfl) Try.ntmps26 (by kernel_rfl) (ls := [([0, 1, 2], []), ([], []), ([0, 1, 2, 32], []), ([], []), ([6, 7], []), ([], []), ([999999, 0, 1, 2], []), ([6, 7], []), ([], [])]) (by kernel_rfl)

def k1_arena_Arena_Give : CC :=
  .seq (.reg [co (some 54) (.move (.tmp 7)) none,
      co (some 55) (.move (.tmp 0)) none,
      co (some 56) (.move (.tmp 7)) none,
      co (some 57) (.move (.tmp 1)) none,
      co (some 58) (.call { callee := (.value (.func 46)), args := #[(.tmp 55), (.tmp 56), (.tmp 57)], argTypes := #[35, 3, 3] }) none,
      co (some 4) (.assign (.tmp 54)) none,
      co (some 5) (.assign (.tmp 58)) none,
      co (some 6) (.assign (.const (.bool true))) none] [4, 5, 6])
  (.ret)

/-- (*cento/arena.Arena).Give -/
def c_arena_Arena_Give : CC :=
  .seq (.reg [co (some 4) (.assign (.const (.int .i64 0))) none,
      co (some 5) (.assign (.const (.int .i64 0))) none,
      co (some 6) (.assign (.const (.bool false))) none] [0, 1])
  (.seq (.seq (.reg [co (some 8) (.move (.tmp 0)) none,
        co (some 9) (.binOp .eql 35 (.tmp 8) (.const (.pointer none)) 35) none,
        co (some 10) (.move (.tmp 9)) none,
        co (some 11) (.move (.tmp 1)) (some (10, false)),
        co (some 12) (.binOp .lss 3 (.tmp 11) (.const (.int .i64 0)) 3) (some (10, false)),
        co (some 13) (.pick (.tmp 10) (.const (.bool true)) (.tmp 12)) none,
        co (some 14) (.move (.tmp 13)) none,
        co (some 15) (.move (.tmp 1)) (some (14, false)),
        co (some 16) (.move (.tmp 0)) (some (14, false)),
        co (some 17) (.call { callee := (.value (.func 27)), args := #[(.tmp 16)], argTypes := #[35] }) (some (14, false)),
        co (some 18) (.binOp .gtr 3 (.tmp 15) (.tmp 17) 3) (some (14, false)),
        co (some 19) (.pick (.tmp 14) (.const (.bool true)) (.tmp 18)) none] [0, 1, 19])
    (.cond (.tmp 19)
      (.seq (.reg [co (some 4) (.assign (.const (.int .i64 0))) none,
          co (some 5) (.assign (.const (.int .i64 0))) none,
          co (some 6) (.assign (.const (.bool false))) none] [4, 5, 6])
      (.ret))
      (.skip)))
  (.keep [0, 1] (.seq (.reg [co (some 20) (.move (.tmp 0)) none,
      co (some 21) (.nilCheck (.tmp 20)) none,
      co (some 22) (.fieldAddr 88 (.tmp 21) 0) none,
      co (some 23) (.load 44 (.tmp 22)) none,
      co (some 24) (.call { callee := (.builtin .len), args := #[(.tmp 23)], argTypes := #[44] }) none,
      co (some 25) (.binOp .sub 3 (.tmp 24) (.const (.int .i64 1)) 3) none,
      co (some 7) (.assign (.tmp 25)) none] [0, 1, 7])
  (.seq (.seq (.reg [co (some 26) (.move (.tmp 7)) none,
        co (some 27) (.binOp .lss 3 (.tmp 26) (.const (.int .i64 0)) 3) none,
        co (some 28) (.move (.tmp 27)) none,
        co (some 29) (.move (.tmp 0)) (some (28, false)),
        co (some 30) (.move (.tmp 7)) (some (28, false)),
        co (some 31) (.move (.tmp 1)) (some (28, false)),
        co (some 32) (.call { callee := (.value (.func 45)), args := #[(.tmp 29), (.tmp 30), (.tmp 31)], argTypes := #[35, 3, 3] }) (some (28, false)),
        co (some 33) (.unOp .not 4 (.tmp 32)) (some (28, false)),
        co (some 34) (.move (.tmp 33)) (some (28, false)),
        co (some 35) (.move (.tmp 0)) (some (34, true)),
        co (some 36) (.nilCheck (.tmp 35)) (some (34, true)),
        co (some 37) (.fieldAddr 88 (.tmp 36) 0) (some (34, true)),
        co (some 38) (.load 44 (.tmp 37)) (some (34, true)),
        co (some 39) (.call { callee := (.builtin .len), args := #[(.tmp 38)], argTypes := #[44] }) (some (34, true)),
        co (some 40) (.binOp .lss 3 (.tmp 39) (.const (.int .i64 16)) 3) (some (34, true)),
        co (some 41) (.pick (.tmp 34) (.tmp 40) (.const (.bool false))) (some (28, false)),
        co (some 42) (.pick (.tmp 28) (.const (.bool true)) (.tmp 41)) none] [0, 1, 7, 42])
    (.cond (.tmp 42)
      (.seq (.reg [co (some 43) (.move (.tmp 0)) none,
          co (some 44) (.move (.tmp 0)) none,
          co (some 45) (.nilCheck (.tmp 44)) none,
          co (some 46) (.fieldAddr 88 (.tmp 45) 0) none,
          co (some 47) (.load 44 (.tmp 46)) none,
          co (some 48) (.buildSlice 44 1 #[(0, (.const (.slice none 0 0)))]) none,
          cn (some 49) (.call { callee := (.builtin .append), args := #[(.tmp 47), (.tmp 48)], argTypes := #[44, 44] }) none [1],
          co (some 50) (.nilCheck (.tmp 43)) none,
          co (some 51) (.fieldAddr 88 (.tmp 50) 0) none,
          co none (.store 44 (.tmp 51) (.tmp 49)) none] [0, 1, 7])
      (.reg [co (some 52) (.move (.tmp 7)) none,
        co (some 53) (.binOp .add 3 (.tmp 52) (.const (.int .i64 1)) 3) none,
        co (some 7) (.assign (.tmp 53)) none] [0, 1, 7]))
      (.skip)))
  (.keep [0, 1, 7] (.stop k1_arena_Arena_Give))))))
theorem t_arena_Arena_Give : Txt Try.prog 19 59 [(.tmp 4), (.tmp 5), (.tmp 6)] c_arena_Arena_Give := txt_of (code := Try.f19.body.getD .ret) mixed (by kernel_rfl) Try.func19 (by kernel_rfl) Try.ntmps19 (by kernel_rfl) (ls := [([0, 1], []), ([], []), ([0, 1, 19], []), ([], []), ([4, 5, 6], []), ([], []), ([999999, 0, 1], []), ([0, 1, 7], []), ([], []), ([0, 1, 7, 42], []), ([], []), ([0, 1, 7], [(6, [1])]), ([], []), ([0, 1, 7], []), ([999997, 0, 1, 7], []), ([4, 5, 6], []), ([], [])]) (by kernel_rfl)


/-- (*cento/arena.Arena).Put -/
def c_arena_Arena_Put : CC :=
  .seq (.reg [co (some 8) (.assign (.const (.bool false))) none] [0, 1, 2, 3])
  (.seq (.seq (.reg [co (some 9) (.move (.tmp 0)) none,
        co (some 10) (.move (.tmp 1)) none,
        co (some 11) (.move (.tmp 2)) none,
        co (some 12) (.call { callee := (.value (.func 20)), args := #[(.tmp 9), (.tmp 10), (.tmp 11), (.const (.int .i64 1))], argTypes := #[35, 3, 3, 3] }) none,
        co (some 13) (.unOp .not 4 (.tmp 12)) none] [0, 1, 2, 3, 13])
    (.cond (.tmp 13)
      (.seq (.reg [co (some 8) (.assign (.const (.bool false))) none] [8])
      (.ret))
      (.skip)))
  (.keep [0, 1, 2, 3] (.seq (.reg [co (some 14) (.move (.tmp 0)) none,
      co (some 15) (.nilCheck (.tmp 14)) none,
      co (some 16) (.fieldAddr 88 (.tmp 15) 0) none,
      co (some 17) (.load 44 (.tmp 16)) none,
      co (some 18) (.move (.tmp 1)) none,
      co (some 19) (.indexAddr 44 (.tmp 17) (.tmp 18)) none,
      co (some 20) (.load 45 (.tmp 19)) none,
      co (some 21) (.move (.tmp 2)) none,
      co (some 22) (.move (.tmp 3)) none,
      co (some 23) (.indexAddr 45 (.tmp 20) (.tmp 21)) none,
      co none (.store 22 (.tmp 23) (.tmp 22)) none] [])
  (.seq (.reg [co (some 8) (.assign (.const (.bool true))) none] [8])
  (.ret)))))
theorem t_arena_Arena_Put : Txt Try.prog 33 24 [(.tmp 8)] c_arena_Arena_Put := txt_of (code := Try.f33.body.getD .ret) mixed (by kernel_rfl) Try.func33 (by kernel_rfl) Try.ntmps33 (by kernel_rfl) (ls := [([0, 1, 2, 3], []), ([], []), ([0, 1, 2, 3, 13], []), ([], []), ([8], []), ([], []), ([999999, 0, 1, 2, 3], []), ([], []), ([], []), ([8], []), ([], [])]) (by kernel_rfl)


/-- (*cento/arena.Arena).Segments -/
def c_arena_Arena_Segments : CC :=
  .seq (.reg [co (some 2) (.assign (.const (.slice none 0 0))) none] [0])
  (.seq (.seq (.reg [co (some 3) (.move (.tmp 0)) none,
        co (some 4) (.binOp .eql 35 (.tmp 3) (.const (.pointer none)) 35) none] [0, 4])
    (.cond (.tmp 4)
      (.seq (.reg [co (some 2) (.assign (.const (.slice none 0 0))) none] [2])
      (.ret))
      (.skip)))
  (.keep [0] (.seq (.reg [co (some 5) (.move (.tmp 0)) none,
      co (some 6) (.nilCheck (.tmp 5)) none,
      co (some 7) (.fieldAddr 88 (.tmp 6) 0) none,
      co (some 8) (.load 44 (.tmp 7)) none,
      co (some 9) (.call { callee := (.value (.func 23)), args := #[(.tmp 8)], argTypes := #[44] }) none,
      co (some 10) (.nilCheck (.tmp 9)) none,
      co (some 11) (.fieldAddr 88 (.tmp 10) 0) none,
      co (some 12) (.load 44 (.tmp 11)) none,
      co (some 2) (.assign (.tmp 12)) none] [2])
  (.ret))))
theorem t_arena_Arena_Segments : Txt Try.prog 25 13 [(.tmp 2)] c_arena_Arena_Segments := txt_of (code := Try.f25.body.getD .ret) mixed (by kernel_rfl) Try.func25 (by kernel_rfl) Try.ntmps25 (by kernel_rfl) (ls := [([0], []), ([], []), ([0, 4], []), ([], []), ([2], []), ([], []), ([999999, 0], []), ([2], []), ([], [])]) (by kernel_rfl)

def k1_centoref05_New : CC :=
  .seq (.seq (.reg [co (some 9) (.move (.tmp 1)) none,
        co (some 10) (.binOp .gtr 3 (.tmp 9) (.const (.int .i64 131072)) 3) none] [0, 1, 10])
    (.cond (.tmp 10)
      (.reg [co (some 1) (.assign (.const (.int .i64 131072))) none] [0, 1])
      (.skip)))
  (.keep [0, 1] (.seq (.reg [co (some 11) (.move (.tmp 0)) none,
      co (some 12) (.move (.tmp 1)) none,
      co (some 13) (.build 59 #[(1, (.tmp 11)), (2, (.tmp 12))]) none,
      cn (some 14) (.box 59 (.tmp 13)) none [0],
      co (some 4) (.assign (.tmp 14)) none] [4])
  (.ret)))
def k2_centoref05_New : CC :=
  .seq (.seq (.reg [co (some 7) (.move (.tmp 1)) none,
        co (some 8) (.binOp .lss 3 (.tmp 7) (.const (.int .i64 0)) 3) none] [0, 1, 8])
    (.cond (.tmp 8)
      (.reg [co (some 1) (.assign (.const (.int .i64 0))) none] [0, 1])
      (.skip)))
  (.keep [0, 1] k1_centoref05_New)

/-- cento/centoref05.New -/
def c_centoref05_New : CC :=
  .seq (.reg [co (some 4) (.assign (.const (.pointer none))) none] [0, 1])
  (.seq (.seq (.reg [co (some 5) (.move (.tmp 0)) none,
        co (some 6) (.binOp .lss 3 (.tmp 5) (.const (.int .i64 1)) 3) none] [0, 1, 6])
    (.cond (.tmp 6)
      (.reg [co (some 0) (.assign (.const (.int .i64 1))) none] [0, 1])
      (.skip)))
  (.keep [0, 1] k2_centoref05_New))
theorem t_centoref05_New : Txt Try.prog 28 15 [(.tmp 4)] c_centoref05_New := txt_of (code := Try.f28.body.getD .ret) mixed (by kernel_rfl) Try.func28 (by kernel_rfl) Try.ntmps28 (by kernel_rfl) (ls := [([0, 1], []), ([], []), ([0, 1, 6], []), ([], []), ([0, 1], []), ([999999, 0, 1], []), ([0, 1, 8], []), ([], []), ([0, 1], []), ([999999, 0, 1], []), ([0, 1, 10], []), ([], []), ([0, 1], []), ([999999, 0, 1], []), ([4], [(3, [0])]), ([], [])]) (by kernel_rfl)


/-- (*cento/centoref05.Arena).Long -/
def c_centoref05_Arena_Long : CC :=
  .seq (.reg [co (some 4) (.assign (.const (.int .i64 0))) none] [0, 1])
  (.seq (.seq (.reg [co (some 5) (.move (.tmp 1)) none,
        co (some 6) (.binOp .lss 3 (.tmp 5) (.const (.int .i64 0)) 3) none,
        co (some 7) (.move (.tmp 6)) none,
        co (some 8) (.move (.tmp 1)) (some (7, false)),
        co (some 9) (.move (.tmp 0)) (some (7, false)),
        co (some 10) (.nilCheck (.tmp 9)) (some (7, false)),
        co (some 11) (.fieldAddr 59 (.tmp 10) 0) (some (7, false)),
        co (some 12) (.load 44 (.tmp 11)) (some (7, false)),
        co (some 13) (.call { callee := (.builtin .len), args := #[(.tmp 12)], argTypes := #[44] }) (some (7, false)),
        co (some 14) (.binOp .geq 3 (.tmp 8) (.tmp 13) 3) (some (7, false)),
        co (some 15) (.pick (.tmp 7) (.const (.bool true)) (.tmp 14)) none] [0, 1, 15])
    (.cond (.tmp 15)
      (.seq (.reg [co (some 4) (.assign (.const (.int .i64 (-1)))) none] [4])
      (.ret))
      (.skip)))
  (.keep [0, 1] (.seq (.reg [co (some 16) (.move (.tmp 0)) none,
      co (some 17) (.nilCheck (.tmp 16)) none,
      co (some 18) (.fieldAddr 59 (.tmp 17) 0) none,
      co (some 19) (.load 44 (.tmp 18)) none,
      co (some 20) (.move (.tmp 1)) none,
      co (some 21) (.indexAddr 44 (.tmp 19) (.tmp 20)) none,
      co (some 22) (.load 45 (.tmp 21)) none,
      co (some 23) (.call { callee := (.builtin .len), args := #[(.tmp 22)], argTypes := #[45] }) none,
      co (some 4) (.assign (.tmp 23)) none] [4])
  (.ret))))
theorem t_centoref05_Arena_Long : Txt Try.prog 51 24 [(.tmp 4)] c_centoref05_Arena_Long := txt_of (code := Try.f51.body.getD .ret) mixed (by kernel_rfl) Try.func51 (by kernel_rfl) Try.ntmps51 (by kernel_rfl) (ls := [([0, 1], []), ([], []), ([0, 1, 15], []), ([], []), ([4], []), ([], []), ([999999, 0, 1], []), ([4], []), ([], [])]) (by kernel_rfl)


/-- (*cento/centoref05.Arena).Has -/
def c_centoref05_Arena_Has : CC :=
  .seq (.reg [co (some 8) (.assign (.const (.bool false))) none] [0, 1, 2, 3])
  (.seq (.reg [co (some 10) (.move (.tmp 0)) none,
      co (some 11) (.move (.tmp 1)) none,
      co (some 12) (.call { callee := (.value (.func 51)), args := #[(.tmp 10), (.tmp 11)], argTypes := #[53, 3] }) none,
      co (some 9) (.assign (.tmp 12)) none] [2, 3, 9])
  (.seq (.reg [co (some 13) (.move (.tmp 9)) none,
      co (some 14) (.binOp .geq 3 (.tmp 13) (.const (.int .i64 0)) 3) none,
      co (some 15) (.move (.tmp 14)) none,
      co (some 16) (.move (.tmp 2)) (some (15, true)),
      co (some 17) (.binOp .geq 3 (.tmp 16) (.const (.int .i64 0)) 3) (some (15, true)),
      co (some 18) (.pick (.tmp 15) (.tmp 17) (.const (.bool false))) none,
      co (some 19) (.move (.tmp 18)) none,
      co (some 20) (.move (.tmp 3)) (some (19, true)),
      co (some 21) (.binOp .geq 3 (.tmp 20) (.const (.int .i64 0)) 3) (some (19, true)),
      co (some 22) (.pick (.tmp 19) (.tmp 21) (.const (.bool false))) none,
      co (some 23) (.move (.tmp 22)) none,
      co (some 24) (.move (.tmp 2)) (some (23, true)),
      co (some 25) (.move (.tmp 9)) (some (23, true)),
      co (some 26) (.binOp .leq 3 (.tmp 24) (.tmp 25) 3) (some (23, true)),
      co (some 27) (.pick (.tmp 23) (.tmp 26) (.const (.bool false))) none,
      co (some 28) (.move (.tmp 27)) none,
      co (some 29) (.move (.tmp 3)) (some (28, true)),
      co (some 30) (.move (.tmp 9)) (some (28, true)),
      co (some 31) (.move (.tmp 2)) (some (28, true)),
      co (some 32) (.binOp .sub 3 (.tmp 30) (.tmp 31) 3) (some (28, true)),
      co (some 33) (.binOp .leq 3 (.tmp 29) (.tmp 32) 3) (some (28, true)),
      co (some 34) (.pick (.tmp 28) (.tmp 33) (.const (.bool false))) none,
      co (some 8) (.assign (.tmp 34)) none] [8])
  (.ret)))
theorem t_centoref05_Arena_Has : Txt Try.prog 30 35 [(.tmp 8)] c_centoref05_Arena_Has := txt_of (code := Try.f30.body.getD .ret) mixed (by kernel_rfl) Try.func30 (by kernel_rfl) Try.ntmps30 (by kernel_rfl) (ls := [([0, 1, 2, 3], []), ([], []), ([2, 3, 9], []), ([], []), ([8], []), ([], [])]) (by kernel_rfl)

def l1_centoref05_Arena_add : CC :=
  .seq (.seq (.reg [co (some 17) (.move (.tmp 8)) none,
        co (some 18) (.move (.tmp 2)) none,
        co (some 19) (.binOp .lss 3 (.tmp 17) (.tmp 18) 3) none] [0, 1, 2, 7, 8, 19])
    (.cond (.tmp 19)
      (.skip)
      (.exit 0)))
  (.keep [0, 1, 2, 7, 8] (.seq (.block 1
      (.reg [co (some 22) (.move (.tmp 0)) none,
        co (some 23) (.nilCheck (.tmp 22)) none,
        co (some 24) (.fieldAddr 59 (.tmp 23) 0) none,
        ⟨some 25, (.load 44 (.tmp 24)), none, [], 3, [], true⟩,
        co (some 26) (.move (.tmp 1)) none,
        co (some 27) (.move (.tmp 0)) none,
        co (some 28) (.nilCheck (.tmp 27)) none,
        co (some 29) (.fieldAddr 59 (.tmp 28) 0) none,
        co (some 30) (.load 44 (.tmp 29)) none,
        co (some 31) (.move (.tmp 1)) none,
        co (some 32) (.indexAddr 44 (.tmp 30) (.tmp 31)) none,
        co (some 33) (.load 45 (.tmp 32)) none,
        co (some 34) (.buildSlice 45 1 #[(0, (.const (.int .u64 0)))]) none,
        ⟨some 35, (.call { callee := (.builtin .append), args := #[(.tmp 33), (.tmp 34)], argTypes := #[45, 45] }), none, [1], 13, [3], false⟩,
        co (some 36) (.indexAddr 44 (.tmp 25) (.tmp 26)) none,
        co none (.store 45 (.tmp 36) (.tmp 35)) none] [0, 1, 2, 7, 8]))
  (.reg [co (some 20) (.move (.tmp 8)) none,
    co (some 21) (.binOp .add 3 (.tmp 20) (.const (.int .i64 1)) 3) none,
    co (some 8) (.assign (.tmp 21)) none] [0, 1, 2, 7, 8])))

/-- (*cento/centoref05.Arena).add -/
def c_centoref05_Arena_add : CC :=
  .seq (.reg [co (some 6) (.assign (.const (.int .i64 0))) none] [0, 1, 2])
  (.seq (.reg [co (some 9) (.move (.tmp 0)) none,
      co (some 10) (.nilCheck (.tmp 9)) none,
      co (some 11) (.fieldAddr 59 (.tmp 10) 0) none,
      co (some 12) (.load 44 (.tmp 11)) none,
      co (some 13) (.move (.tmp 1)) none,
      co (some 14) (.indexAddr 44 (.tmp 12) (.tmp 13)) none,
      co (some 15) (.load 45 (.tmp 14)) none,
      co (some 16) (.call { callee := (.builtin .len), args := #[(.tmp 15)], argTypes := #[45] }) none,
      co (some 7) (.assign (.tmp 16)) none] [0, 1, 2, 7])
  (.seq (.seq (.reg [co (some 8) (.assign (.const (.int .i64 0))) none] [0, 1, 2, 7, 8])
    (.block 0
      (.loop l1_centoref05_Arena_add)))
  (.keep [0, 2, 7] (.seq (.reg [co (some 37) (.move (.tmp 0)) none,
      co (some 38) (.move (.tmp 0)) none,
      co (some 39) (.nilCheck (.tmp 38)) none,
      co (some 40) (.fieldAddr 59 (.tmp 39) 3) none,
      co (some 41) (.load 3 (.tmp 40)) none,
      co (some 42) (.move (.tmp 2)) none,
      co (some 43) (.binOp .add 3 (.tmp 41) (.tmp 42) 3) none,
      co (some 44) (.nilCheck (.tmp 37)) none,
      co (some 45) (.fieldAddr 59 (.tmp 44) 3) none,
      co none (.store 3 (.tmp 45) (.tmp 43)) none] [7])
  (.seq (.reg [co (some 46) (.move (.tmp 7)) none,
      co (some 6) (.assign (.tmp 46)) none] [6])
  (.ret))))))
theorem t_centoref05_Arena_add : Txt Try.prog 57 47 [(.tmp 6)] c_centoref05_Arena_add := txt_of (code := Try.f57.body.getD .ret) mixed (by kernel_rfl) Try.func57 (by kernel_rfl) Try.ntmps57 (by kernel_rfl) (ls := [([0, 1, 2], []), ([], []), ([0, 1, 2, 7], []), ([], []), ([0, 1, 2, 7, 8], []), ([], []), ([0, 1, 2, 7, 8, 19], []), ([], []), ([999999, 0, 1, 2, 7, 8], []), ([0, 1, 2, 7, 8], [(13, [1])]), ([], []), ([0, 1, 2, 7, 8], []), ([999999, 0, 2, 7], []), ([7], []), ([], []), ([6], []), ([], [])]) (by kernel_rfl)


/-- (*cento/centoref05.Arena).In -/
def c_centoref05_Arena_In : CC :=
  .seq (.reg [co (some 6) (.assign (.const (.int .i64 0))) none] [0, 1, 2])
  (.seq (.seq (.reg [co (some 7) (.move (.tmp 0)) none,
        co (some 8) (.move (.tmp 1)) none,
        co (some 9) (.call { callee := (.value (.func 51)), args := #[(.tmp 7), (.tmp 8)], argTypes := #[53, 3] }) none,
        co (some 10) (.binOp .lss 3 (.tmp 9) (.const (.int .i64 0)) 3) none,
        co (some 11) (.move (.tmp 10)) none,
        co (some 12) (.move (.tmp 2)) (some (11, false)),
        co (some 13) (.binOp .lss 3 (.tmp 12) (.const (.int .i64 0)) 3) (some (11, false)),
        co (some 14) (.pick (.tmp 11) (.const (.bool true)) (.tmp 13)) none,
        co (some 15) (.move (.tmp 14)) none,
        co (some 16) (.move (.tmp 2)) (some (15, false)),
        co (some 17) (.move (.tmp 0)) (some (15, false)),
        co (some 18) (.nilCheck (.tmp 17)) (some (15, false)),
        co (some 19) (.fieldAddr 59 (.tmp 18) 2) (some (15, false)),
        co (some 20) (.load 3 (.tmp 19)) (some (15, false)),
        co (some 21) (.move (.tmp 0)) (some (15, false)),
        co (some 22) (.nilCheck (.tmp 21)) (some (15, false)),
        co (some 23) (.fieldAddr 59 (.tmp 22) 3) (some (15, false)),
        co (some 24) (.load 3 (.tmp 23)) (some (15, false)),
        co (some 25) (.binOp .sub 3 (.tmp 20) (.tmp 24) 3) (some (15, false)),
        co (some 26) (.binOp .gtr 3 (.tmp 16) (.tmp 25) 3) (some (15, false)),
        co (some 27) (.pick (.tmp 15) (.const (.bool true)) (.tmp 26)) none,
        co (some 28) (.move (.tmp 27)) none,
        co (some 29) (.move (.tmp 2)) (some (28, false)),
        co (some 30) (.move (.tmp 0)) (some (28, false)),
        co (some 31) (.nilCheck (.tmp 30)) (some (28, false)),
        co (some 32) (.fieldAddr 59 (.tmp 31) 1) (some (28, false)),
        ⟨some 33, (.load 3 (.tmp 32)), (some (28, false)), [], 26, [], true⟩,
        co (some 34) (.move (.tmp 0)) (some (28, false)),
        co (some 35) (.move (.tmp 1)) (some (28, false)),
        ⟨some 36, (.call { callee := (.value (.func 51)), args := #[(.tmp 34), (.tmp 35)], argTypes := #[53, 3] }), (some (28, false)), [], 29, [26], false⟩,
        co (some 37) (.binOp .sub 3 (.tmp 33) (.tmp 36) 3) (some (28, false)),
        co (some 38) (.binOp .gtr 3 (.tmp 29) (.tmp 37) 3) (some (28, false)),
        co (some 39) (.pick (.tmp 28) (.const (.bool true)) (.tmp 38)) none] [0, 1, 2, 39])
    (.cond (.tmp 39)
      (.seq (.reg [co (some 6) (.assign (.const (.int .i64 (-1)))) none] [6])
      (.ret))
      (.skip)))
  (.keep [0, 1, 2] (.seq (.reg [co (some 40) (.move (.tmp 0)) none,
      co (some 41) (.move (.tmp 1)) none,
      co (some 42) (.move (.tmp 2)) none,
      co (some 43) (.call { callee := (.value (.func 57)), args := #[(.tmp 40), (.tmp 41), (.tmp 42)], argTypes := #[53, 3, 3] }) none,
      co (some 6) (.assign (.tmp 43)) none] [6])
  (.ret))))
theorem t_centoref05_Arena_In : Txt Try.prog 50 44 [(.tmp 6)] c_centoref05_Arena_In := txt_of (code := Try.f50.body.getD .ret) mixed (by kernel_rfl) Try.func50 (by kernel_rfl) Try.ntmps50 (by kernel_rfl) (ls := [([0, 1, 2], []), ([], []), ([0, 1, 2, 39], []), ([], []), ([6], []), ([], []), ([999999, 0, 1, 2], []), ([6], []), ([], [])]) (by kernel_rfl)

def k1_centoref05_Arena_Give : CC :=
  .seq (.reg [co (some 57) (.move (.tmp 6)) none,
      co (some 58) (.binOp .sub 3 (.tmp 57) (.const (.int .i64 1)) 3) none,
      co (some 59) (.move (.tmp 0)) none,
      co (some 60) (.move (.tmp 6)) none,
      co (some 61) (.binOp .sub 3 (.tmp 60) (.const (.int .i64 1)) 3) none,
      co (some 62) (.move (.tmp 1)) none,
      co (some 63) (.call { callee := (.value (.func 57)), args := #[(.tmp 59), (.tmp 61), (.tmp 62)], argTypes := #[53, 3, 3] }) none,
      co (some 4) (.assign (.tmp 58)) none,
      co (some 5) (.assign (.tmp 63)) none] [4, 5])
  (.ret)

/-- (*cento/centoref05.Arena).Give -/
def c_centoref05_Arena_Give : CC :=
  .seq (.reg [co (some 4) (.assign (.const (.int .i64 0))) none,
      co (some 5) (.assign (.const (.int .i64 0))) none] [0, 1])
  (.seq (.seq (.reg [co (some 7) (.move (.tmp 1)) none,
        co (some 8) (.binOp .lss 3 (.tmp 7) (.const (.int .i64 0)) 3) none,
        co (some 9) (.move (.tmp 8)) none,
        co (some 10) (.move (.tmp 1)) (some (9, false)),
        co (some 11) (.move (.tmp 0)) (some (9, false)),
        co (some 12) (.nilCheck (.tmp 11)) (some (9, false)),
        co (some 13) (.fieldAddr 59 (.tmp 12) 2) (some (9, false)),
        co (some 14) (.load 3 (.tmp 13)) (some (9, false)),
        co (some 15) (.move (.tmp 0)) (some (9, false)),
        co (some 16) (.nilCheck (.tmp 15)) (some (9, false)),
        co (some 17) (.fieldAddr 59 (.tmp 16) 3) (some (9, false)),
        co (some 18) (.load 3 (.tmp 17)) (some (9, false)),
        co (some 19) (.binOp .sub 3 (.tmp 14) (.tmp 18) 3) (some (9, false)),
        co (some 20) (.binOp .gtr 3 (.tmp 10) (.tmp 19) 3) (some (9, false)),
        co (some 21) (.pick (.tmp 9) (.const (.bool true)) (.tmp 20)) none] [0, 1, 21])
    (.cond (.tmp 21)
      (.seq (.reg [co (some 4) (.assign (.const (.int .i64 (-1)))) none,
          co (some 5) (.assign (.const (.int .i64 (-1)))) none] [4, 5])
      (.ret))
      (.skip)))
  (.keep [0, 1] (.seq (.reg [co (some 22) (.move (.tmp 0)) none,
      co (some 23) (.nilCheck (.tmp 22)) none,
      co (some 24) (.fieldAddr 59 (.tmp 23) 0) none,
      co (some 25) (.load 44 (.tmp 24)) none,
      co (some 26) (.call { callee := (.builtin .len), args := #[(.tmp 25)], argTypes := #[44] }) none,
      co (some 6) (.assign (.tmp 26)) none] [0, 1, 6])
  (.seq (.seq (.reg [co (some 27) (.move (.tmp 6)) none,
        co (some 28) (.binOp .eql 3 (.tmp 27) (.const (.int .i64 0)) 3) none,
        co (some 29) (.move (.tmp 28)) none,
        co (some 30) (.move (.tmp 1)) (some (29, false)),
        co (some 31) (.move (.tmp 0)) (some (29, false)),
        co (some 32) (.nilCheck (.tmp 31)) (some (29, false)),
        co (some 33) (.fieldAddr 59 (.tmp 32) 1) (some (29, false)),
        ⟨some 34, (.load 3 (.tmp 33)), (some (29, false)), [], 7, [], true⟩,
        co (some 35) (.move (.tmp 0)) (some (29, false)),
        co (some 36) (.move (.tmp 6)) (some (29, false)),
        co (some 37) (.binOp .sub 3 (.tmp 36) (.const (.int .i64 1)) 3) (some (29, false)),
        ⟨some 38, (.call { callee := (.value (.func 51)), args := #[(.tmp 35), (.tmp 37)], argTypes := #[53, 3] }), (some (29, false)), [], 11, [7], false⟩,
        co (some 39) (.binOp .sub 3 (.tmp 34) (.tmp 38) 3) (some (29, false)),
        co (some 40) (.binOp .gtr 3 (.tmp 30) (.tmp 39) 3) (some (29, false)),
        co (some 41) (.move (.tmp 40)) (some (29, false)),
        co (some 42) (.move (.tmp 6)) (some (41, true)),
        co (some 43) (.binOp .lss 3 (.tmp 42) (.const (.int .i64 16)) 3) (some (41, true)),
        co (some 44) (.pick (.tmp 41) (.tmp 43) (.const (.bool false))) (some (29, false)),
        co (some 45) (.pick (.tmp 29) (.const (.bool true)) (.tmp 44)) none] [0, 1, 6, 45])
    (.cond (.tmp 45)
      (.seq (.reg [co (some 46) (.move (.tmp 0)) none,
          co (some 47) (.move (.tmp 0)) none,
          co (some 48) (.nilCheck (.tmp 47)) none,
          co (some 49) (.fieldAddr 59 (.tmp 48) 0) none,
          co (some 50) (.load 44 (.tmp 49)) none,
          co (some 51) (.buildSlice 44 1 #[(0, (.const (.slice none 0 0)))]) none,
          cn (some 52) (.call { callee := (.builtin .append), args := #[(.tmp 50), (.tmp 51)], argTypes := #[44, 44] }) none [1],
          co (some 53) (.nilCheck (.tmp 46)) none,
          co (some 54) (.fieldAddr 59 (.tmp 53) 0) none,
          co none (.store 44 (.tmp 54) (.tmp 52)) none] [0, 1, 6])
      (.reg [co (some 55) (.move (.tmp 6)) none,
        co (some 56) (.binOp .add 3 (.tmp 55) (.const (.int .i64 1)) 3) none,
        co (some 6) (.assign (.tmp 56)) none] [0, 1, 6]))
      (.skip)))
  (.keep [0, 1, 6] k1_centoref05_Arena_Give)))))
theorem t_centoref05_Arena_Give : Txt Try.prog 49 64 [(.tmp 4), (.tmp 5)] c_centoref05_Arena_Give := txt_of (code := Try.f49.body.getD .ret) mixed (by kernel_rfl) Try.func49 (by kernel_rfl) Try.ntmps49 (by kernel_rfl) (ls := [([0, 1], []), ([], []), ([0, 1, 21], []), ([], []), ([4, 5], []), ([], []), ([999999, 0, 1], []), ([0, 1, 6], []), ([], []), ([0, 1, 6, 45], []), ([], []), ([0, 1, 6], [(6, [1])]), ([], []), ([0, 1, 6], []), ([999999, 0, 1, 6], []), ([4, 5], []), ([], [])]) (by kernel_rfl)

def l1_centoref03_Same : CC :=
  .seq (.seq (.reg [co (some 11) (.move (.tmp 5)) none,
        co (some 12) (.move (.tmp 0)) none,
        co (some 13) (.call { callee := (.builtin .len), args := #[(.tmp 12)], argTypes := #[44] }) none,
        co (some 14) (.binOp .lss 3 (.tmp 11) (.tmp 13) 3) none] [0, 1, 5, 14])
    (.cond (.tmp 14)
      (.skip)
      (.exit 0)))
  (.keep [0, 1, 5] (.seq (.block 1
      (.seq (.reg [co (some 17) (.move (.tmp 0)) none,
          co (some 18) (.move (.tmp 5)) none,
          co (some 19) (.indexAddr 44 (.tmp 17) (.tmp 18)) none,
          co (some 20) (.load 45 (.tmp 19)) none,
          co (some 21) (.move (.tmp 1)) none,
          co (some 22) (.move (.tmp 5)) none,
          co (some 23) (.indexAddr 44 (.tmp 21) (.tmp 22)) none,
          co (some 24) (.load 45 (.tmp 23)) none,
          co (some 25) (.call { callee := (.value (.func 48)), args := #[(.tmp 20), (.tmp 24)], argTypes := #[45, 45] }) none,
          co (some 26) (.unOp .not 4 (.tmp 25)) none] [0, 1, 5, 26])
      (.cond (.tmp 26)
        (.seq (.reg [co (some 4) (.assign (.const (.bool false))) none] [4])
        (.ret))
        (.skip))))
  (.keep [0, 1, 5] (.reg [co (some 15) (.move (.tmp 5)) none,
    co (some 16) (.binOp .add 3 (.tmp 15) (.const (.int .i64 1)) 3) none,
    co (some 5) (.assign (.tmp 16)) none] [0, 1, 5]))))

/-- cento/centoref03.Same -/
def c_centoref03_Same : CC :=
  .seq (.reg [co (some 4) (.assign (.const (.bool false))) none] [0, 1])
  (.seq (.seq (.reg [co (some 6) (.move (.tmp 0)) none,
        co (some 7) (.call { callee := (.builtin .len), args := #[(.tmp 6)], argTypes := #[44] }) none,
        co (some 8) (.move (.tmp 1)) none,
        co (some 9) (.call { callee := (.builtin .len), args := #[(.tmp 8)], argTypes := #[44] }) none,
        co (some 10) (.binOp .neq 3 (.tmp 7) (.tmp 9) 3) none] [0, 1, 10])
    (.cond (.tmp 10)
      (.seq (.reg [co (some 4) (.assign (.const (.bool false))) none] [4])
      (.ret))
      (.skip)))
  (.keep [0, 1] (.seq (.seq (.reg [co (some 5) (.assign (.const (.int .i64 0))) none] [0, 1, 5])
    (.block 0
      (.loop l1_centoref03_Same)))
  (.keep [] (.seq (.reg [co (some 4) (.assign (.const (.bool true))) none] [4])
  (.ret))))))
theorem t_centoref03_Same : Txt Try.prog 24 27 [(.tmp 4)] c_centoref03_Same := txt_of (code := Try.f24.body.getD .ret) mixed (by kernel_rfl) Try.func24 (by kernel_rfl) Try.ntmps24 (by kernel_rfl) (ls := [([0, 1], []), ([], []), ([0, 1, 10], []), ([], []), ([4], []), ([], []), ([999999, 0, 1], []), ([0, 1, 5], []), ([], []), ([0, 1, 5, 14], []), ([], []), ([999999, 0, 1, 5], []), ([0, 1, 5, 26], []), ([], []), ([4], []), ([], []), ([999999, 0, 1, 5], []), ([0, 1, 5], []), ([999999], []), ([4], []), ([], [])]) (by kernel_rfl)


/-- cento/centolaw05.awake -/
def c_centolaw05_awake : CC :=
  .seq (.reg [co (some 0) (.assign (.const (.bool false))) none] [])
  (.seq (.reg [co (some 11) (.call { callee := (.value (.func 18)), args := #[(.const (.int .i64 4)), (.const (.int .i64 9))], argTypes := #[3, 3] }) none,
      co (some 1) (.assign (.tmp 11)) none] [1])
  (.seq (.reg [co (some 13) (.move (.tmp 1)) none,
      co (some 14) (.call { callee := (.value (.func 19)), args := #[(.tmp 13), (.const (.int .i64 3))], argTypes := #[35, 3] }) none,
      co (some 12) (.move (.tmp 14)) none,
      co (some 15) (.extract (.tmp 12) 0) none,
      co (some 16) (.extract (.tmp 12) 1) none,
      co (some 17) (.extract (.tmp 12) 2) none,
      co (some 2) (.assign (.tmp 15)) none,
      co (some 3) (.assign (.tmp 16)) none,
      co (some 4) (.assign (.tmp 17)) none] [1, 2, 3, 4])
  (.seq (.reg [co (some 19) (.move (.tmp 1)) none,
      co (some 20) (.call { callee := (.value (.func 19)), args := #[(.tmp 19), (.const (.int .i64 2))], argTypes := #[35, 3] }) none,
      co (some 18) (.move (.tmp 20)) none,
      co (some 21) (.extract (.tmp 18) 0) none,
      co (some 22) (.extract (.tmp 18) 1) none,
      co (some 23) (.extract (.tmp 18) 2) none,
      co (some 5) (.assign (.tmp 21)) none,
      co (some 6) (.assign (.tmp 22)) none,
      co (some 7) (.assign (.tmp 23)) none] [1, 2, 3, 4, 5, 6, 7])
  (.seq (.reg [co (some 25) (.move (.tmp 1)) none,
      co (some 26) (.call { callee := (.value (.func 19)), args := #[(.tmp 25), (.const (.int .i64 5))], argTypes := #[35, 3] }) none,
      co (some 24) (.move (.tmp 26)) none,
      co (some 27) (.extract (.tmp 24) 0) none,
      co (some 28) (.extract (.tmp 24) 1) none,
      co (some 29) (.extract (.tmp 24) 2) none,
      co (some 8) (.assign (.tmp 27)) none,
      co (some 9) (.assign (.tmp 28)) none,
      co (some 10) (.assign (.tmp 29)) none] [2, 3, 4, 5, 6, 7, 10])
  (.seq (.reg [co (some 30) (.move (.tmp 2)) none,
      co (some 31) (.binOp .eql 3 (.tmp 30) (.const (.int .i64 0)) 3) none,
      co (some 32) (.move (.tmp 31)) none,
      co (some 33) (.move (.tmp 3)) (some (32, true)),
      co (some 34) (.binOp .eql 3 (.tmp 33) (.const (.int .i64 0)) 3) (some (32, true)),
      co (some 35) (.pick (.tmp 32) (.tmp 34) (.const (.bool false))) none,
      co (some 36) (.move (.tmp 35)) none,
      co (some 37) (.move (.tmp 4)) (some (36, true)),
      co (some 38) (.pick (.tmp 36) (.tmp 37) (.const (.bool false))) none,
      co (some 39) (.move (.tmp 38)) none,
      co (some 40) (.move (.tmp 5)) (some (39, true)),
      co (some 41) (.binOp .eql 3 (.tmp 40) (.const (.int .i64 1)) 3) (some (39, true)),
      co (some 42) (.pick (.tmp 39) (.tmp 41) (.const (.bool false))) none,
      co (some 43) (.move (.tmp 42)) none,
      co (some 44) (.move (.tmp 6)) (some (43, true)),
      co (some 45) (.binOp .eql 3 (.tmp 44) (.const (.int .i64 0)) 3) (some (43, true)),
      co (some 46) (.pick (.tmp 43) (.tmp 45) (.const (.bool false))) none,
      co (some 47) (.move (.tmp 46)) none,
      co (some 48) (.move (.tmp 7)) (some (47, true)),
      co (some 49) (.pick (.tmp 47) (.tmp 48) (.const (.bool false))) none,
      co (some 50) (.move (.tmp 49)) none,
      co (some 51) (.move (.tmp 10)) (some (50, true)),
      co (some 52) (.unOp .not 4 (.tmp 51)) (some (50, true)),
      co (some 53) (.pick (.tmp 50) (.tmp 52) (.const (.bool false))) none,
      co (some 0) (.assign (.tmp 53)) none] [0])
  (.ret))))))
theorem t_centolaw05_awake : Txt Try.prog 22 54 [(.tmp 0)] c_centolaw05_awake := txt_of (code := Try.f22.body.getD .ret) mixed (by kernel_rfl) Try.func22 (by kernel_rfl) Try.ntmps22 (by kernel_rfl) (ls := [([], []), ([], []), ([1], []), ([], []), ([1, 2, 3, 4], []), ([], []), ([1, 2, 3, 4, 5, 6, 7], []), ([], []), ([2, 3, 4, 5, 6, 7, 10], []), ([], []), ([0], []), ([], [])]) (by kernel_rfl)

def k1_centolaw05_does : CC :=
  .seq (.reg [co (some 132) (.move (.tmp 0)) none,
      co (some 133) (.fieldAddr 56 (.tmp 5) 1) none,
      co (some 134) (.load 3 (.tmp 133)) none,
      co (some 135) (.fieldAddr 56 (.tmp 5) 2) none,
      co (some 136) (.load 3 (.tmp 135)) none,
      co (some 137) (.fieldAddr 56 (.tmp 5) 4) none,
      co (some 138) (.load 22 (.tmp 137)) none,
      co (some 139) (.call { callee := (.value (.func 33)), args := #[(.tmp 132), (.tmp 134), (.tmp 136), (.tmp 138)], argTypes := #[35, 3, 3, 22] }) none,
      co (some 140) (.move (.tmp 16)) none,
      co (some 141) (.binOp .eql 4 (.tmp 139) (.tmp 140) 4) none,
      co (some 6) (.assign (.tmp 141)) none] [6])
  (.ret)
def k2_centolaw05_does : CC :=
  .cond (.tmp 108)
    (.seq (.reg [co (some 112) (.move (.tmp 1)) none,
        co (some 113) (.fieldAddr 56 (.tmp 5) 1) none,
        co (some 114) (.load 3 (.tmp 113)) none,
        co (some 115) (.fieldAddr 56 (.tmp 5) 2) none,
        co (some 116) (.load 3 (.tmp 115)) none,
        co (some 117) (.call { callee := (.value (.func 30)), args := #[(.tmp 112), (.tmp 114), (.tmp 116), (.const (.int .i64 1))], argTypes := #[53, 3, 3, 3] }) none,
        co (some 16) (.assign (.tmp 117)) none] [0, 1, 5, 16])
    (.seq (.seq (.reg [co (some 118) (.move (.tmp 16)) none] [0, 1, 5, 16, 118])
      (.cond (.tmp 118)
        (.reg [co (some 119) (.move (.tmp 1)) none,
          co (some 120) (.nilCheck (.tmp 119)) none,
          co (some 121) (.fieldAddr 59 (.tmp 120) 0) none,
          co (some 122) (.load 44 (.tmp 121)) none,
          co (some 123) (.fieldAddr 56 (.tmp 5) 1) none,
          co (some 124) (.load 3 (.tmp 123)) none,
          co (some 125) (.indexAddr 44 (.tmp 122) (.tmp 124)) none,
          co (some 126) (.load 45 (.tmp 125)) none,
          co (some 127) (.fieldAddr 56 (.tmp 5) 2) none,
          co (some 128) (.load 3 (.tmp 127)) none,
          co (some 129) (.fieldAddr 56 (.tmp 5) 4) none,
          co (some 130) (.load 22 (.tmp 129)) none,
          co (some 131) (.indexAddr 45 (.tmp 126) (.tmp 128)) none,
          co none (.store 22 (.tmp 131) (.tmp 130)) none] [0, 5, 16])
        (.skip)))
    (.keep [0, 5, 16] k1_centolaw05_does)))
    (.seq (.reg [co (some 6) (.assign (.const (.bool true))) none] [6])
    (.ret))
def k3_centolaw05_does : CC :=
  .cond (.tmp 72)
    (.seq (.reg [co (some 76) (.move (.tmp 0)) none,
        co (some 77) (.fieldAddr 56 (.tmp 5) 1) none,
        co (some 78) (.load 3 (.tmp 77)) none,
        co (some 79) (.move (.tmp 7)) none,
        co (some 80) (.call { callee := (.value (.func 26)), args := #[(.tmp 76), (.tmp 78), (.tmp 79)], argTypes := #[35, 3, 3] }) none,
        co (some 75) (.move (.tmp 80)) none,
        co (some 81) (.extract (.tmp 75) 0) none,
        co (some 82) (.extract (.tmp 75) 1) none,
        co (some 13) (.assign (.tmp 81)) none,
        co (some 14) (.assign (.tmp 82)) none] [1, 5, 7, 13, 14])
    (.seq (.reg [co (some 83) (.move (.tmp 1)) none,
        co (some 84) (.fieldAddr 56 (.tmp 5) 1) none,
        co (some 85) (.load 3 (.tmp 84)) none,
        co (some 86) (.move (.tmp 7)) none,
        co (some 87) (.call { callee := (.value (.func 50)), args := #[(.tmp 83), (.tmp 85), (.tmp 86)], argTypes := #[53, 3, 3] }) none,
        co (some 15) (.assign (.tmp 87)) none] [13, 14, 15])
    (.seq (.reg [co (some 88) (.move (.tmp 14)) none,
        co (some 89) (.move (.tmp 15)) none,
        co (some 90) (.binOp .geq 3 (.tmp 89) (.const (.int .i64 0)) 3) none,
        co (some 91) (.binOp .eql 4 (.tmp 88) (.tmp 90) 4) none,
        co (some 92) (.move (.tmp 91)) none,
        co (some 93) (.move (.tmp 14)) (some (92, true)),
        co (some 94) (.move (.tmp 93)) (some (92, true)),
        co (some 95) (.move (.tmp 13)) (some (94, true)),
        co (some 96) (.move (.tmp 15)) (some (94, true)),
        co (some 97) (.binOp .eql 3 (.tmp 95) (.tmp 96) 3) (some (94, true)),
        co (some 98) (.pick (.tmp 94) (.tmp 97) (.const (.bool false))) (some (92, true)),
        co (some 99) (.move (.tmp 98)) (some (92, true)),
        co (some 100) (.move (.tmp 14)) (some (99, false)),
        co (some 101) (.unOp .not 4 (.tmp 100)) (some (99, false)),
        co (some 102) (.move (.tmp 101)) (some (99, false)),
        co (some 103) (.move (.tmp 13)) (some (102, true)),
        co (some 104) (.binOp .eql 3 (.tmp 103) (.const (.int .i64 0)) 3) (some (102, true)),
        co (some 105) (.pick (.tmp 102) (.tmp 104) (.const (.bool false))) (some (99, false)),
        co (some 106) (.pick (.tmp 99) (.const (.bool true)) (.tmp 105)) (some (92, true)),
        co (some 107) (.pick (.tmp 92) (.tmp 106) (.const (.bool false))) none,
        co (some 6) (.assign (.tmp 107)) none] [6])
    (.ret))))
    (.seq (.seq (.reg [co (some 109) (.binOp .eql 3 (.tmp 26) (.const (.int .i64 6)) 3) none,
          co (some 108) (.assign (.tmp 109)) none] [0, 1, 5, 26, 108])
      (.cond (.tmp 108)
        (.skip)
        (.seq (.reg [co (some 110) (.binOp .eql 3 (.tmp 26) (.const (.int .i64 7)) 3) none,
            co (some 108) (.assign (.tmp 110)) none] [0, 1, 5, 26, 108])
        (.cond (.tmp 108)
          (.skip)
          (.reg [co (some 111) (.binOp .eql 3 (.tmp 26) (.const (.int .i64 8)) 3) none,
            co (some 108) (.assign (.tmp 111)) none] [0, 1, 5, 108])))))
    (.keep [0, 1, 5, 108] k2_centolaw05_does))
def k4_centolaw05_does : CC :=
  .cond (.tmp 27)
    (.seq (.reg [co (some 33) (.move (.tmp 0)) none,
        co (some 34) (.move (.tmp 7)) none,
        co (some 35) (.call { callee := (.value (.func 19)), args := #[(.tmp 33), (.tmp 34)], argTypes := #[35, 3] }) none,
        co (some 32) (.move (.tmp 35)) none,
        co (some 36) (.extract (.tmp 32) 0) none,
        co (some 37) (.extract (.tmp 32) 1) none,
        co (some 38) (.extract (.tmp 32) 2) none,
        co (some 8) (.assign (.tmp 36)) none,
        co (some 9) (.assign (.tmp 37)) none,
        co (some 10) (.assign (.tmp 38)) none] [1, 7, 8, 9, 10])
    (.seq (.reg [co (some 40) (.move (.tmp 1)) none,
        co (some 41) (.move (.tmp 7)) none,
        co (some 42) (.call { callee := (.value (.func 49)), args := #[(.tmp 40), (.tmp 41)], argTypes := #[53, 3] }) none,
        co (some 39) (.move (.tmp 42)) none,
        co (some 43) (.extract (.tmp 39) 0) none,
        co (some 44) (.extract (.tmp 39) 1) none,
        co (some 11) (.assign (.tmp 43)) none,
        co (some 12) (.assign (.tmp 44)) none] [8, 9, 10, 11, 12])
    (.seq (.reg [co (some 45) (.move (.tmp 10)) none,
        co (some 46) (.move (.tmp 11)) none,
        co (some 47) (.binOp .geq 3 (.tmp 46) (.const (.int .i64 0)) 3) none,
        co (some 48) (.binOp .eql 4 (.tmp 45) (.tmp 47) 4) none,
        co (some 49) (.move (.tmp 48)) none,
        co (some 50) (.move (.tmp 10)) (some (49, true)),
        co (some 51) (.move (.tmp 50)) (some (49, true)),
        co (some 52) (.move (.tmp 8)) (some (51, true)),
        co (some 53) (.move (.tmp 11)) (some (51, true)),
        co (some 54) (.binOp .eql 3 (.tmp 52) (.tmp 53) 3) (some (51, true)),
        co (some 55) (.pick (.tmp 51) (.tmp 54) (.const (.bool false))) (some (49, true)),
        co (some 56) (.move (.tmp 55)) (some (49, true)),
        co (some 57) (.move (.tmp 9)) (some (56, true)),
        co (some 58) (.move (.tmp 12)) (some (56, true)),
        co (some 59) (.binOp .eql 3 (.tmp 57) (.tmp 58) 3) (some (56, true)),
        co (some 60) (.pick (.tmp 56) (.tmp 59) (.const (.bool false))) (some (49, true)),
        co (some 61) (.move (.tmp 60)) (some (49, true)),
        co (some 62) (.move (.tmp 10)) (some (61, false)),
        co (some 63) (.unOp .not 4 (.tmp 62)) (some (61, false)),
        co (some 64) (.move (.tmp 63)) (some (61, false)),
        co (some 65) (.move (.tmp 8)) (some (64, true)),
        co (some 66) (.move (.tmp 9)) (some (64, true)),
        co (some 67) (.binOp .add 3 (.tmp 65) (.tmp 66) 3) (some (64, true)),
        co (some 68) (.binOp .eql 3 (.tmp 67) (.const (.int .i64 0)) 3) (some (64, true)),
        co (some 69) (.pick (.tmp 64) (.tmp 68) (.const (.bool false))) (some (61, false)),
        co (some 70) (.pick (.tmp 61) (.const (.bool true)) (.tmp 69)) (some (49, true)),
        co (some 71) (.pick (.tmp 49) (.tmp 70) (.const (.bool false))) none,
        co (some 6) (.assign (.tmp 71)) none] [6])
    (.ret))))
    (.seq (.seq (.reg [co (some 73) (.binOp .eql 3 (.tmp 26) (.const (.int .i64 4)) 3) none,
          co (some 72) (.assign (.tmp 73)) none] [0, 1, 5, 7, 26, 72])
      (.cond (.tmp 72)
        (.skip)
        (.reg [co (some 74) (.binOp .eql 3 (.tmp 26) (.const (.int .i64 5)) 3) none,
          co (some 72) (.assign (.tmp 74)) none] [0, 1, 5, 7, 26, 72])))
    (.keep [0, 1, 5, 7, 26, 72] k3_centolaw05_does))
def k5_centolaw05_does : CC :=
  .seq (.reg [co (some 25) (.fieldAddr 56 (.tmp 5) 0) none,
      co (some 26) (.load 3 (.tmp 25)) none] [0, 1, 5, 7, 26])
  (.block 0
    (.seq (.seq (.reg [co (some 28) (.binOp .eql 3 (.tmp 26) (.const (.int .i64 0)) 3) none,
          co (some 27) (.assign (.tmp 28)) none] [0, 1, 5, 7, 26, 27])
      (.cond (.tmp 27)
        (.skip)
        (.seq (.reg [co (some 29) (.binOp .eql 3 (.tmp 26) (.const (.int .i64 1)) 3) none,
            co (some 27) (.assign (.tmp 29)) none] [0, 1, 5, 7, 26, 27])
        (.cond (.tmp 27)
          (.skip)
          (.seq (.reg [co (some 30) (.binOp .eql 3 (.tmp 26) (.const (.int .i64 2)) 3) none,
              co (some 27) (.assign (.tmp 30)) none] [0, 1, 5, 7, 26, 27])
          (.cond (.tmp 27)
            (.skip)
            (.reg [co (some 31) (.binOp .eql 3 (.tmp 26) (.const (.int .i64 3)) 3) none,
              co (some 27) (.assign (.tmp 31)) none] [0, 1, 5, 7, 26, 27])))))))
    (.keep [0, 1, 5, 7, 26, 27] k4_centolaw05_does)))

/-- cento/centolaw05.does -/
def c_centolaw05_does : CC :=
  .seq (.reg [cn (some 5) (.box 56 (.tmp 2)) none [0],
      co (some 6) (.assign (.const (.bool false))) none] [0, 1, 5])
  (.seq (.reg [co (some 17) (.fieldAddr 56 (.tmp 5) 3) none,
      co (some 18) (.load 3 (.tmp 17)) none,
      co (some 7) (.assign (.tmp 18)) none] [0, 1, 5, 7])
  (.seq (.seq (.reg [co (some 19) (.move (.tmp 7)) none,
        co (some 20) (.binOp .gtr 3 (.tmp 19) (.const (.int .i64 300)) 3) none,
        co (some 21) (.move (.tmp 20)) none,
        co (some 22) (.move (.tmp 7)) (some (21, true)),
        co (some 23) (.binOp .lss 3 (.tmp 22) (.const (.int .i64 200000)) 3) (some (21, true)),
        co (some 24) (.pick (.tmp 21) (.tmp 23) (.const (.bool false))) none] [0, 1, 5, 7, 24])
    (.cond (.tmp 24)
      (.reg [co (some 7) (.assign (.const (.int .i64 300))) none] [0, 1, 5, 7])
      (.skip)))
  (.keep [0, 1, 5, 7] k5_centolaw05_does)))
theorem t_centolaw05_does : Txt Try.prog 29 142 [(.tmp 6)] c_centolaw05_does := txt_of (code := Try.f29.body.getD .ret) mixed (by kernel_rfl) Try.func29 (by kernel_rfl) Try.ntmps29 (by kernel_rfl) (ls := [([0, 1, 5], [(0, [0])]), ([], []), ([0, 1, 5, 7], []), ([], []), ([0, 1, 5, 7, 24], []), ([], []), ([0, 1, 5, 7], []), ([999999, 0, 1, 5, 7], []), ([0, 1, 5, 7, 26], []), ([], []), ([0, 1, 5, 7, 26, 27], []), ([], []), ([0, 1, 5, 7, 26, 27], []), ([], []), ([0, 1, 5, 7, 26, 27], []), ([], []), ([0, 1, 5, 7, 26, 27], []), ([999999, 0, 1, 5, 7, 26, 27], []), ([1, 7, 8, 9, 10], []), ([], []), ([8, 9, 10, 11, 12], []), ([], []), ([6], []), ([], []), ([0, 1, 5, 7, 26, 72], []), ([], []), ([0, 1, 5, 7, 26, 72], []), ([999999, 0, 1, 5, 7, 26, 72], []), ([1, 5, 7, 13, 14], []), ([], []), ([13, 14, 15], []), ([], []), ([6], []), ([], []), ([0, 1, 5, 26, 108], []), ([], []), ([0, 1, 5, 26, 108], []), ([], []), ([0, 1, 5, 108], []), ([999999, 0, 1, 5, 108], []), ([0, 1, 5, 16], []), ([], []), ([0, 1, 5, 16, 118], []), ([], []), ([0, 5, 16], []), ([999999, 0, 5, 16], []), ([6], []), ([], []), ([6], []), ([], [])]) (by kernel_rfl)

def l1_centolaw05_ArenaApart : CC :=
  .seq (.seq (.reg [co (some 43) (.move (.tmp 14)) none,
        co (some 44) (.move (.tmp 8)) none,
        co (some 45) (.call { callee := (.builtin .len), args := #[(.tmp 44)], argTypes := #[37] }) none,
        co (some 46) (.binOp .lss 3 (.tmp 43) (.tmp 45) 3) none] [2, 7, 8, 9, 10, 11, 12, 14, 46])
    (.cond (.tmp 46)
      (.skip)
      (.exit 2)))
  (.keep [2, 7, 8, 9, 10, 11, 12, 14] (.seq (.block 3
      (.seq (.reg [co (some 49) (.move (.tmp 8)) none,
          co (some 50) (.move (.tmp 14)) none,
          co (some 51) (.indexAddr 37 (.tmp 49) (.tmp 50)) none,
          co (some 52) (.load 40 (.tmp 51)) none,
          cn (some 15) (.alloc 40) none [0],
          co none (.store 40 (.tmp 15) (.tmp 52)) none] [2, 7, 8, 9, 10, 11, 12, 14, 15])
      (.seq (.reg [co (some 53) (.indexAddr 40 (.tmp 15) (.const (.int .i64 0))) none,
          co (some 54) (.load 3 (.tmp 53)) none,
          co (some 55) (.move (.tmp 11)) none,
          co (some 56) (.binOp .eql 3 (.tmp 54) (.tmp 55) 3) none,
          co (some 57) (.move (.tmp 56)) none,
          co (some 58) (.move (.tmp 10)) (some (57, true)),
          co (some 59) (.binOp .gtr 3 (.tmp 58) (.const (.int .i64 0)) 3) (some (57, true)),
          co (some 60) (.pick (.tmp 57) (.tmp 59) (.const (.bool false))) none,
          co (some 61) (.move (.tmp 60)) none,
          co (some 62) (.indexAddr 40 (.tmp 15) (.const (.int .i64 2))) (some (61, true)),
          co (some 63) (.load 3 (.tmp 62)) (some (61, true)),
          co (some 64) (.binOp .gtr 3 (.tmp 63) (.const (.int .i64 0)) 3) (some (61, true)),
          co (some 65) (.pick (.tmp 61) (.tmp 64) (.const (.bool false))) none,
          co (some 66) (.move (.tmp 65)) none,
          co (some 67) (.move (.tmp 12)) (some (66, true)),
          co (some 68) (.indexAddr 40 (.tmp 15) (.const (.int .i64 1))) (some (66, true)),
          co (some 69) (.load 3 (.tmp 68)) (some (66, true)),
          co (some 70) (.indexAddr 40 (.tmp 15) (.const (.int .i64 2))) (some (66, true)),
          co (some 71) (.load 3 (.tmp 70)) (some (66, true)),
          co (some 72) (.binOp .add 3 (.tmp 69) (.tmp 71) 3) (some (66, true)),
          co (some 73) (.binOp .lss 3 (.tmp 67) (.tmp 72) 3) (some (66, true)),
          co (some 74) (.pick (.tmp 66) (.tmp 73) (.const (.bool false))) none,
          co (some 75) (.move (.tmp 74)) none,
          co (some 76) (.indexAddr 40 (.tmp 15) (.const (.int .i64 1))) (some (75, true)),
          co (some 77) (.load 3 (.tmp 76)) (some (75, true)),
          co (some 78) (.move (.tmp 12)) (some (75, true)),
          co (some 79) (.move (.tmp 10)) (some (75, true)),
          co (some 80) (.binOp .add 3 (.tmp 78) (.tmp 79) 3) (some (75, true)),
          co (some 81) (.binOp .lss 3 (.tmp 77) (.tmp 80) 3) (some (75, true)),
          co (some 82) (.pick (.tmp 75) (.tmp 81) (.const (.bool false))) none] [2, 7, 8, 9, 10, 11, 12, 14, 82])
      (.cond (.tmp 82)
        (.seq (.reg [co (some 6) (.assign (.const (.bool false))) none] [6])
        (.ret))
        (.skip)))))
  (.keep [2, 7, 8, 9, 10, 11, 12, 14] (.reg [co (some 47) (.move (.tmp 14)) none,
    co (some 48) (.binOp .add 3 (.tmp 47) (.const (.int .i64 1)) 3) none,
    co (some 14) (.assign (.tmp 48)) none] [2, 7, 8, 9, 10, 11, 12, 14]))))
def l2_centolaw05_ArenaApart : CC :=
  .seq (.seq (.reg [co (some 19) (.move (.tmp 9)) none,
        co (some 20) (.move (.tmp 2)) none,
        co (some 21) (.call { callee := (.builtin .len), args := #[(.tmp 20)], argTypes := #[34] }) none,
        co (some 22) (.binOp .lss 3 (.tmp 19) (.tmp 21) 3) none,
        co (some 23) (.move (.tmp 22)) none,
        co (some 24) (.move (.tmp 9)) (some (23, true)),
        co (some 25) (.binOp .lss 3 (.tmp 24) (.const (.int .i64 60)) 3) (some (23, true)),
        co (some 26) (.pick (.tmp 23) (.tmp 25) (.const (.bool false))) none] [2, 7, 8, 9, 26])
    (.cond (.tmp 26)
      (.skip)
      (.exit 0)))
  (.keep [2, 7, 8, 9] (.seq (.block 1
      (.seq (.reg [co (some 29) (.move (.tmp 2)) none,
          co (some 30) (.move (.tmp 9)) none,
          co (some 31) (.indexAddr 34 (.tmp 29) (.tmp 30)) none,
          co (some 32) (.load 3 (.tmp 31)) none,
          co (some 33) (.binOp .and 3 (.tmp 32) (.const (.int .i64 31)) 3) none,
          co (some 10) (.assign (.tmp 33)) none] [2, 7, 8, 9, 10])
      (.seq (.reg [co (some 35) (.move (.tmp 7)) none,
          co (some 36) (.move (.tmp 10)) none,
          co (some 37) (.call { callee := (.value (.func 19)), args := #[(.tmp 35), (.tmp 36)], argTypes := #[35, 3] }) none,
          co (some 34) (.move (.tmp 37)) none,
          co (some 38) (.extract (.tmp 34) 0) none,
          co (some 39) (.extract (.tmp 34) 1) none,
          co (some 40) (.extract (.tmp 34) 2) none,
          co (some 11) (.assign (.tmp 38)) none,
          co (some 12) (.assign (.tmp 39)) none,
          co (some 13) (.assign (.tmp 40)) none] [2, 7, 8, 9, 10, 11, 12, 13])
      (.seq (.seq (.reg [co (some 41) (.move (.tmp 13)) none,
            co (some 42) (.unOp .not 4 (.tmp 41)) none] [2, 7, 8, 9, 10, 11, 12, 42])
        (.cond (.tmp 42)
          (.exit 1)
          (.skip)))
      (.keep [2, 7, 8, 9, 10, 11, 12] (.seq (.seq (.reg [co (some 14) (.assign (.const (.int .i64 0))) none] [2, 7, 8, 9, 10, 11, 12, 14])
        (.block 2
          (.loop l1_centolaw05_ArenaApart)))
      (.keep [2, 7, 8, 9, 10, 11, 12] (.seq (.seq (.reg [co (some 83) (.move (.tmp 7)) none,
            co (some 84) (.move (.tmp 11)) none,
            co (some 85) (.move (.tmp 12)) none,
            co (some 86) (.move (.tmp 10)) none,
            co (some 87) (.call { callee := (.value (.func 20)), args := #[(.tmp 83), (.tmp 84), (.tmp 85), (.tmp 86)], argTypes := #[35, 3, 3, 3] }) none,
            co (some 88) (.unOp .not 4 (.tmp 87)) none,
            co (some 89) (.move (.tmp 88)) none,
            co (some 90) (.move (.tmp 7)) (some (89, false)),
            co (some 91) (.call { callee := (.value (.func 21)), args := #[(.tmp 90)], argTypes := #[35] }) (some (89, false)),
            co (some 92) (.binOp .gtr 3 (.tmp 91) (.const (.int .i64 16)) 3) (some (89, false)),
            co (some 93) (.pick (.tmp 89) (.const (.bool true)) (.tmp 92)) none] [2, 7, 8, 9, 10, 11, 12, 93])
        (.cond (.tmp 93)
          (.seq (.reg [co (some 6) (.assign (.const (.bool false))) none] [6])
          (.ret))
          (.skip)))
      (.keep [2, 7, 8, 9, 10, 11, 12] (.reg [co (some 94) (.move (.tmp 8)) none,
        co (some 95) (.move (.tmp 11)) none,
        co (some 96) (.move (.tmp 12)) none,
        co (some 97) (.move (.tmp 10)) none,
        co (some 98) (.build 40 #[(0, (.tmp 95)), (1, (.tmp 96)), (2, (.tmp 97))]) none,
        co (some 99) (.buildSlice 37 1 #[(0, (.tmp 98))]) none,
        cn (some 100) (.call { callee := (.builtin .append), args := #[(.tmp 94), (.tmp 99)], argTypes := #[37, 37] }) none [1],
        co (some 8) (.assign (.tmp 100)) none] [2, 7, 8, 9]))))))))))
  (.keep [2, 7, 8, 9] (.reg [co (some 27) (.move (.tmp 9)) none,
    co (some 28) (.binOp .add 3 (.tmp 27) (.const (.int .i64 1)) 3) none,
    co (some 9) (.assign (.tmp 28)) none] [2, 7, 8, 9]))))

/-- cento/centolaw05.ArenaApart -/
def c_centolaw05_ArenaApart : CC :=
  .seq (.reg [co (some 6) (.assign (.const (.bool false))) none] [0, 1, 2])
  (.seq (.reg [co (some 16) (.move (.tmp 0)) none,
      co (some 17) (.move (.tmp 1)) none,
      co (some 18) (.call { callee := (.value (.func 18)), args := #[(.tmp 16), (.tmp 17)], argTypes := #[3, 3] }) none,
      co (some 7) (.assign (.tmp 18)) none] [2, 7])
  (.seq (.reg [co (some 8) (.assign (.const (.slice none 0 0))) none] [2, 7, 8])
  (.seq (.seq (.reg [co (some 9) (.assign (.const (.int .i64 0))) none] [2, 7, 8, 9])
    (.block 0
      (.loop l2_centolaw05_ArenaApart)))
  (.keep [] (.seq (.reg [co (some 101) (.call { callee := (.value (.func 22)), args := #[], argTypes := #[] }) none,
      co (some 6) (.assign (.tmp 101)) none] [6])
  (.ret))))))
theorem t_centolaw05_ArenaApart : Txt Try.prog 5 102 [(.tmp 6)] c_centolaw05_ArenaApart := txt_of (code := Try.f5.body.getD .ret) mixed (by kernel_rfl) Try.func5 (by kernel_rfl) Try.ntmps5 (by kernel_rfl) (ls := [([0, 1, 2], []), ([], []), ([2, 7], []), ([], []), ([2, 7, 8], []), ([], []), ([2, 7, 8, 9], []), ([], []), ([2, 7, 8, 9, 26], []), ([], []), ([999999, 2, 7, 8, 9], []), ([2, 7, 8, 9, 10], []), ([], []), ([2, 7, 8, 9, 10, 11, 12, 13], []), ([], []), ([2, 7, 8, 9, 10, 11, 12, 42], []), ([], []), ([999999, 2, 7, 8, 9, 10, 11, 12], []), ([2, 7, 8, 9, 10, 11, 12, 14], []), ([], []), ([2, 7, 8, 9, 10, 11, 12, 14, 46], []), ([], []), ([999999, 2, 7, 8, 9, 10, 11, 12, 14], []), ([2, 7, 8, 9, 10, 11, 12, 14, 15], [(4, [0])]), ([], []), ([2, 7, 8, 9, 10, 11, 12, 14, 82], []), ([], []), ([6], []), ([], []), ([999999, 2, 7, 8, 9, 10, 11, 12, 14], []), ([2, 7, 8, 9, 10, 11, 12, 14], []), ([999999, 2, 7, 8, 9, 10, 11, 12], []), ([2, 7, 8, 9, 10, 11, 12, 93], []), ([], []), ([6], []), ([], []), ([999999, 2, 7, 8, 9, 10, 11, 12], []), ([2, 7, 8, 9], [(6, [1])]), ([999999, 2, 7, 8, 9], []), ([2, 7, 8, 9], []), ([999999], []), ([6], []), ([], [])]) (by kernel_rfl)

def l1_centolaw05_ArenaOf : CC :=
  .seq (.seq (.reg [co (some 18) (.move (.tmp 10)) none,
        co (some 19) (.move (.tmp 0)) none,
        co (some 20) (.call { callee := (.builtin .len), args := #[(.tmp 19)], argTypes := #[44] }) none,
        co (some 21) (.binOp .lss 3 (.tmp 18) (.tmp 20) 3) none] [0, 1, 2, 3, 9, 10, 21])
    (.cond (.tmp 21)
      (.skip)
      (.exit 0)))
  (.keep [0, 1, 2, 3, 9, 10] (.seq (.block 1
      (.reg [co (some 24) (.move (.tmp 9)) none,
        co (some 25) (.buildSlice 45 0 #[]) none,
        co (some 26) (.move (.tmp 0)) none,
        co (some 27) (.move (.tmp 10)) none,
        co (some 28) (.indexAddr 44 (.tmp 26) (.tmp 27)) none,
        co (some 29) (.load 45 (.tmp 28)) none,
        cn (some 30) (.call { callee := (.builtin .append), args := #[(.tmp 25), (.tmp 29)], argTypes := #[45, 45] }) none [0],
        co (some 31) (.buildSlice 44 1 #[(0, (.tmp 30))]) none,
        cn (some 32) (.call { callee := (.builtin .append), args := #[(.tmp 24), (.tmp 31)], argTypes := #[44, 44] }) none [1],
        co (some 9) (.assign (.tmp 32)) none] [0, 1, 2, 3, 9, 10]))
  (.reg [co (some 22) (.move (.tmp 10)) none,
    co (some 23) (.binOp .add 3 (.tmp 22) (.const (.int .i64 1)) 3) none,
    co (some 10) (.assign (.tmp 23)) none] [0, 1, 2, 3, 9, 10])))
def k1_centolaw05_ArenaOf : CC :=
  .seq (.reg [co (some 70) (.move (.tmp 11)) none,
      co (some 71) (.call { callee := (.value (.func 25)), args := #[(.tmp 70)], argTypes := #[35] }) none,
      co (some 72) (.move (.tmp 0)) none,
      co (some 73) (.call { callee := (.value (.func 24)), args := #[(.tmp 71), (.tmp 72)], argTypes := #[44, 44] }) none,
      co (some 12) (.assign (.tmp 73)) none] [1, 3, 11, 12])
  (.seq (.reg [co (some 75) (.move (.tmp 11)) none,
      co (some 76) (.move (.tmp 3)) none,
      co (some 77) (.call { callee := (.value (.func 19)), args := #[(.tmp 75), (.tmp 76)], argTypes := #[35, 3] }) none,
      co (some 74) (.move (.tmp 77)) none,
      co (some 78) (.extract (.tmp 74) 0) none,
      co (some 79) (.extract (.tmp 74) 1) none,
      co (some 80) (.extract (.tmp 74) 2) none,
      co (some 13) (.assign (.tmp 78)) none,
      co (some 14) (.assign (.tmp 79)) none,
      co (some 15) (.assign (.tmp 80)) none] [1, 3, 11, 12, 15])
  (.seq (.reg [co (some 82) (.move (.tmp 11)) none,
      co (some 83) (.move (.tmp 1)) none,
      co (some 84) (.move (.tmp 3)) none,
      co (some 85) (.call { callee := (.value (.func 26)), args := #[(.tmp 82), (.tmp 83), (.tmp 84)], argTypes := #[35, 3, 3] }) none,
      co (some 81) (.move (.tmp 85)) none,
      co (some 86) (.extract (.tmp 81) 0) none,
      co (some 87) (.extract (.tmp 81) 1) none,
      co (some 16) (.assign (.tmp 86)) none,
      co (some 17) (.assign (.tmp 87)) none] [3, 11, 12, 15, 17])
  (.seq (.reg [co (some 88) (.move (.tmp 12)) none,
      co (some 89) (.move (.tmp 88)) none,
      co (some 90) (.move (.tmp 11)) (some (89, true)),
      co (some 91) (.call { callee := (.value (.func 27)), args := #[(.tmp 90)], argTypes := #[35] }) (some (89, true)),
      co (some 92) (.binOp .eql 3 (.tmp 91) (.const (.int .i64 0)) 3) (some (89, true)),
      co (some 93) (.pick (.tmp 89) (.tmp 92) (.const (.bool false))) none,
      co (some 94) (.move (.tmp 93)) none,
      co (some 95) (.move (.tmp 15)) (some (94, true)),
      co (some 96) (.unOp .not 4 (.tmp 95)) (some (94, true)),
      co (some 97) (.move (.tmp 96)) (some (94, true)),
      co (some 98) (.move (.tmp 3)) (some (97, false)),
      co (some 99) (.binOp .eql 3 (.tmp 98) (.const (.int .i64 0)) 3) (some (97, false)),
      co (some 100) (.pick (.tmp 97) (.const (.bool true)) (.tmp 99)) (some (94, true)),
      co (some 101) (.pick (.tmp 94) (.tmp 100) (.const (.bool false))) none,
      co (some 102) (.move (.tmp 101)) none,
      co (some 103) (.move (.tmp 17)) (some (102, true)),
      co (some 104) (.unOp .not 4 (.tmp 103)) (some (102, true)),
      co (some 105) (.move (.tmp 104)) (some (102, true)),
      co (some 106) (.move (.tmp 3)) (some (105, false)),
      co (some 107) (.binOp .eql 3 (.tmp 106) (.const (.int .i64 0)) 3) (some (105, false)),
      co (some 108) (.pick (.tmp 105) (.const (.bool true)) (.tmp 107)) (some (102, true)),
      co (some 109) (.pick (.tmp 102) (.tmp 108) (.const (.bool false))) none,
      co (some 110) (.move (.tmp 109)) none,
      co (some 111) (.call { callee := (.value (.func 22)), args := #[], argTypes := #[] }) (some (110, true)),
      co (some 112) (.pick (.tmp 110) (.tmp 111) (.const (.bool false))) none,
      co (some 8) (.assign (.tmp 112)) none] [8])
  (.ret))))

/-- cento/centolaw05.ArenaOf -/
def c_centolaw05_ArenaOf : CC :=
  .seq (.reg [co (some 8) (.assign (.const (.bool false))) none] [0, 1, 2, 3])
  (.seq (.reg [co (some 9) (.assign (.const (.slice none 0 0))) none] [0, 1, 2, 3, 9])
  (.seq (.seq (.reg [co (some 10) (.assign (.const (.int .i64 0))) none] [0, 1, 2, 3, 9, 10])
    (.block 0
      (.loop l1_centolaw05_ArenaOf)))
  (.keep [0, 1, 2, 3, 9] (.seq (.reg [co (some 33) (.move (.tmp 9)) none,
      co (some 34) (.call { callee := (.value (.func 23)), args := #[(.tmp 33)], argTypes := #[44] }) none,
      co (some 11) (.assign (.tmp 34)) none] [0, 1, 2, 3, 9, 11])
  (.seq (.seq (.reg [co (some 35) (.move (.tmp 1)) none,
        co (some 36) (.binOp .geq 3 (.tmp 35) (.const (.int .i64 0)) 3) none,
        co (some 37) (.move (.tmp 36)) none,
        co (some 38) (.move (.tmp 1)) (some (37, true)),
        co (some 39) (.move (.tmp 9)) (some (37, true)),
        co (some 40) (.call { callee := (.builtin .len), args := #[(.tmp 39)], argTypes := #[44] }) (some (37, true)),
        co (some 41) (.binOp .lss 3 (.tmp 38) (.tmp 40) 3) (some (37, true)),
        co (some 42) (.pick (.tmp 37) (.tmp 41) (.const (.bool false))) none,
        co (some 43) (.move (.tmp 42)) none,
        co (some 44) (.move (.tmp 2)) (some (43, true)),
        co (some 45) (.binOp .geq 3 (.tmp 44) (.const (.int .i64 0)) 3) (some (43, true)),
        co (some 46) (.pick (.tmp 43) (.tmp 45) (.const (.bool false))) none,
        co (some 47) (.move (.tmp 46)) none,
        co (some 48) (.move (.tmp 2)) (some (47, true)),
        co (some 49) (.move (.tmp 9)) (some (47, true)),
        co (some 50) (.move (.tmp 1)) (some (47, true)),
        co (some 51) (.indexAddr 44 (.tmp 49) (.tmp 50)) (some (47, true)),
        co (some 52) (.load 45 (.tmp 51)) (some (47, true)),
        co (some 53) (.call { callee := (.builtin .len), args := #[(.tmp 52)], argTypes := #[45] }) (some (47, true)),
        co (some 54) (.binOp .lss 3 (.tmp 48) (.tmp 53) 3) (some (47, true)),
        co (some 55) (.pick (.tmp 47) (.tmp 54) (.const (.bool false))) none] [0, 1, 2, 3, 9, 11, 55])
    (.cond (.tmp 55)
      (.reg [co (some 56) (.move (.tmp 9)) none,
        co (some 57) (.move (.tmp 1)) none,
        co (some 58) (.indexAddr 44 (.tmp 56) (.tmp 57)) none,
        co (some 59) (.load 45 (.tmp 58)) none,
        co (some 60) (.move (.tmp 2)) none,
        co (some 61) (.move (.tmp 9)) none,
        co (some 62) (.move (.tmp 1)) none,
        co (some 63) (.indexAddr 44 (.tmp 61) (.tmp 62)) none,
        co (some 64) (.load 45 (.tmp 63)) none,
        co (some 65) (.move (.tmp 2)) none,
        co (some 66) (.indexAddr 45 (.tmp 64) (.tmp 65)) none,
        co (some 67) (.load 22 (.tmp 66)) none,
        co (some 68) (.binOp .add 22 (.tmp 67) (.const (.int .u64 1)) 22) none,
        co (some 69) (.indexAddr 45 (.tmp 59) (.tmp 60)) none,
        co none (.store 22 (.tmp 69) (.tmp 68)) none] [0, 1, 3, 11])
      (.skip)))
  (.keep [0, 1, 3, 11] k1_centolaw05_ArenaOf))))))
theorem t_centolaw05_ArenaOf : Txt Try.prog 6 113 [(.tmp 8)] c_centolaw05_ArenaOf := txt_of (code := Try.f6.body.getD .ret) mixed (by kernel_rfl) Try.func6 (by kernel_rfl) Try.ntmps6 (by kernel_rfl) (ls := [([0, 1, 2, 3], []), ([], []), ([0, 1, 2, 3, 9], []), ([], []), ([0, 1, 2, 3, 9, 10], []), ([], []), ([0, 1, 2, 3, 9, 10, 21], []), ([], []), ([999999, 0, 1, 2, 3, 9, 10], []), ([0, 1, 2, 3, 9, 10], [(6, [0]), (8, [1])]), ([], []), ([0, 1, 2, 3, 9, 10], []), ([999999, 0, 1, 2, 3, 9], []), ([0, 1, 2, 3, 9, 11], []), ([], []), ([0, 1, 2, 3, 9, 11, 55], []), ([], []), ([0, 1, 3, 11], []), ([999999, 0, 1, 3, 11], []), ([1, 3, 11, 12], []), ([], []), ([1, 3, 11, 12, 15], []), ([], []), ([3, 11, 12, 15, 17], []), ([], []), ([8], []), ([], [])]) (by kernel_rfl)

def l1_centolaw05_ArenaPlays : CC :=
  .seq (.seq (.reg [co (some 21) (.move (.tmp 9)) none,
        co (some 22) (.move (.tmp 2)) none,
        co (some 23) (.call { callee := (.builtin .len), args := #[(.tmp 22)], argTypes := #[52] }) none,
        co (some 24) (.binOp .lss 3 (.tmp 21) (.tmp 23) 3) none,
        co (some 25) (.move (.tmp 24)) none,
        co (some 26) (.move (.tmp 9)) (some (25, true)),
        co (some 27) (.binOp .lss 3 (.tmp 26) (.const (.int .i64 40)) 3) (some (25, true)),
        co (some 28) (.pick (.tmp 25) (.tmp 27) (.const (.bool false))) none] [2, 7, 8, 9, 28])
    (.cond (.tmp 28)
      (.skip)
      (.exit 0)))
  (.keep [2, 7, 8, 9] (.seq (.block 1
      (.seq (.reg [co (some 31) (.move (.tmp 2)) none,
          co (some 32) (.move (.tmp 9)) none,
          co (some 33) (.indexAddr 52 (.tmp 31) (.tmp 32)) none,
          co (some 34) (.load 56 (.tmp 33)) none,
          cn (some 10) (.alloc 56) none [0],
          co none (.store 56 (.tmp 10) (.tmp 34)) none] [2, 7, 8, 9, 10])
      (.seq (.seq (.reg [co (some 35) (.move (.tmp 7)) none,
            co (some 36) (.move (.tmp 8)) none,
            co (some 37) (.load 56 (.tmp 10)) none,
            co (some 38) (.call { callee := (.value (.func 29)), args := #[(.tmp 35), (.tmp 36), (.tmp 37)], argTypes := #[35, 53, 56] }) none,
            co (some 39) (.unOp .not 4 (.tmp 38)) none,
            co (some 40) (.move (.tmp 39)) none,
            co (some 41) (.move (.tmp 7)) (some (40, false)),
            ⟨some 42, (.call { callee := (.value (.func 27)), args := #[(.tmp 41)], argTypes := #[35] }), (some (40, false)), [], 7, [], true⟩,
            co (some 43) (.move (.tmp 8)) (some (40, false)),
            co (some 44) (.nilCheck (.tmp 43)) (some (40, false)),
            co (some 45) (.fieldAddr 59 (.tmp 44) 2) (some (40, false)),
            ⟨some 46, (.load 3 (.tmp 45)), (some (40, false)), [], 11, [7], false⟩,
            co (some 47) (.move (.tmp 8)) (some (40, false)),
            co (some 48) (.nilCheck (.tmp 47)) (some (40, false)),
            co (some 49) (.fieldAddr 59 (.tmp 48) 3) (some (40, false)),
            ⟨some 50, (.load 3 (.tmp 49)), (some (40, false)), [], 15, [7], false⟩,
            co (some 51) (.binOp .sub 3 (.tmp 46) (.tmp 50) 3) (some (40, false)),
            co (some 52) (.binOp .neq 3 (.tmp 42) (.tmp 51) 3) (some (40, false)),
            co (some 53) (.pick (.tmp 40) (.const (.bool true)) (.tmp 52)) none,
            co (some 54) (.move (.tmp 53)) none,
            co (some 55) (.move (.tmp 7)) (some (54, false)),
            ⟨some 56, (.call { callee := (.value (.func 21)), args := #[(.tmp 55)], argTypes := #[35] }), (some (54, false)), [], 21, [], true⟩,
            co (some 57) (.move (.tmp 8)) (some (54, false)),
            co (some 58) (.nilCheck (.tmp 57)) (some (54, false)),
            co (some 59) (.fieldAddr 59 (.tmp 58) 0) (some (54, false)),
            ⟨some 60, (.load 44 (.tmp 59)), (some (54, false)), [], 25, [21], false⟩,
            co (some 61) (.call { callee := (.builtin .len), args := #[(.tmp 60)], argTypes := #[44] }) (some (54, false)),
            co (some 62) (.binOp .neq 3 (.tmp 56) (.tmp 61) 3) (some (54, false)),
            co (some 63) (.pick (.tmp 54) (.const (.bool true)) (.tmp 62)) none,
            co (some 64) (.move (.tmp 63)) none,
            co (some 65) (.move (.tmp 7)) (some (64, false)),
            ⟨some 66, (.call { callee := (.value (.func 25)), args := #[(.tmp 65)], argTypes := #[35] }), (some (64, false)), [], 31, [], true⟩,
            co (some 67) (.move (.tmp 8)) (some (64, false)),
            co (some 68) (.nilCheck (.tmp 67)) (some (64, false)),
            co (some 69) (.fieldAddr 59 (.tmp 68) 0) (some (64, false)),
            ⟨some 70, (.load 44 (.tmp 69)), (some (64, false)), [], 35, [31], false⟩,
            co (some 71) (.call { callee := (.value (.func 24)), args := #[(.tmp 66), (.tmp 70)], argTypes := #[44, 44] }) (some (64, false)),
            co (some 72) (.unOp .not 4 (.tmp 71)) (some (64, false)),
            co (some 73) (.pick (.tmp 64) (.const (.bool true)) (.tmp 72)) none] [2, 7, 8, 9, 10, 73])
        (.cond (.tmp 73)
          (.seq (.reg [co (some 6) (.assign (.const (.bool false))) none] [6])
          (.ret))
          (.skip)))
      (.keep [2, 7, 8, 9, 10] (.seq (.seq (.reg [co (some 74) (.move (.tmp 7)) none,
            co (some 75) (.fieldAddr 56 (.tmp 10) 1) none,
            co (some 76) (.load 3 (.tmp 75)) none,
            co (some 77) (.fieldAddr 56 (.tmp 10) 2) none,
            co (some 78) (.load 3 (.tmp 77)) none,
            co (some 79) (.fieldAddr 56 (.tmp 10) 3) none,
            co (some 80) (.load 3 (.tmp 79)) none,
            ⟨some 81, (.call { callee := (.value (.func 20)), args := #[(.tmp 74), (.tmp 76), (.tmp 78), (.tmp 80)], argTypes := #[35, 3, 3, 3] }), none, [], 7, [], true⟩,
            co (some 82) (.move (.tmp 8)) none,
            co (some 83) (.fieldAddr 56 (.tmp 10) 1) none,
            ⟨some 84, (.load 3 (.tmp 83)), none, [], 10, [7], false⟩,
            co (some 85) (.fieldAddr 56 (.tmp 10) 2) none,
            ⟨some 86, (.load 3 (.tmp 85)), none, [], 12, [7], false⟩,
            co (some 87) (.fieldAddr 56 (.tmp 10) 3) none,
            ⟨some 88, (.load 3 (.tmp 87)), none, [], 14, [7], false⟩,
            co (some 89) (.call { callee := (.value (.func 30)), args := #[(.tmp 82), (.tmp 84), (.tmp 86), (.tmp 88)], argTypes := #[53, 3, 3, 3] }) none,
            co (some 90) (.binOp .neq 4 (.tmp 81) (.tmp 89) 4) none] [2, 7, 8, 9, 10, 90])
        (.cond (.tmp 90)
          (.seq (.reg [co (some 6) (.assign (.const (.bool false))) none] [6])
          (.ret))
          (.skip)))
      (.keep [2, 7, 8, 9, 10] (.seq (.reg [co (some 92) (.move (.tmp 7)) none,
          co (some 93) (.fieldAddr 56 (.tmp 10) 1) none,
          co (some 94) (.load 3 (.tmp 93)) none,
          co (some 95) (.fieldAddr 56 (.tmp 10) 2) none,
          co (some 96) (.load 3 (.tmp 95)) none,
          co (some 97) (.call { callee := (.value (.func 31)), args := #[(.tmp 92), (.tmp 94), (.tmp 96)], argTypes := #[35, 3, 3] }) none,
          co (some 91) (.move (.tmp 97)) none,
          co (some 98) (.extract (.tmp 91) 0) none,
          co (some 99) (.extract (.tmp 91) 1) none,
          co (some 11) (.assign (.tmp 98)) none,
          co (some 12) (.assign (.tmp 99)) none] [2, 7, 8, 9, 10, 11, 12])
      (.seq (.reg [co (some 101) (.move (.tmp 7)) none,
          co (some 102) (.fieldAddr 56 (.tmp 10) 1) none,
          co (some 103) (.load 3 (.tmp 102)) none,
          co (some 104) (.fieldAddr 56 (.tmp 10) 2) none,
          co (some 105) (.load 3 (.tmp 104)) none,
          co (some 106) (.fieldAddr 56 (.tmp 10) 3) none,
          co (some 107) (.load 3 (.tmp 106)) none,
          co (some 108) (.call { callee := (.value (.func 32)), args := #[(.tmp 101), (.tmp 103), (.tmp 105), (.tmp 107)], argTypes := #[35, 3, 3, 3] }) none,
          co (some 100) (.move (.tmp 108)) none,
          co (some 109) (.extract (.tmp 100) 0) none,
          co (some 110) (.extract (.tmp 100) 1) none,
          co (some 13) (.assign (.tmp 109)) none,
          co (some 14) (.assign (.tmp 110)) none] [2, 7, 8, 9, 10, 11, 12, 13, 14])
      (.seq (.seq (.reg [co (some 111) (.move (.tmp 12)) none,
            co (some 112) (.move (.tmp 8)) none,
            co (some 113) (.fieldAddr 56 (.tmp 10) 1) none,
            co (some 114) (.load 3 (.tmp 113)) none,
            co (some 115) (.fieldAddr 56 (.tmp 10) 2) none,
            co (some 116) (.load 3 (.tmp 115)) none,
            co (some 117) (.call { callee := (.value (.func 30)), args := #[(.tmp 112), (.tmp 114), (.tmp 116), (.const (.int .i64 1))], argTypes := #[53, 3, 3, 3] }) none,
            co (some 118) (.binOp .neq 4 (.tmp 111) (.tmp 117) 4) none,
            co (some 119) (.move (.tmp 118)) none,
            co (some 120) (.move (.tmp 12)) (some (119, false)),
            co (some 121) (.move (.tmp 120)) (some (119, false)),
            co (some 122) (.move (.tmp 11)) (some (121, true)),
            co (some 123) (.move (.tmp 8)) (some (121, true)),
            co (some 124) (.nilCheck (.tmp 123)) (some (121, true)),
            co (some 125) (.fieldAddr 59 (.tmp 124) 0) (some (121, true)),
            co (some 126) (.load 44 (.tmp 125)) (some (121, true)),
            co (some 127) (.fieldAddr 56 (.tmp 10) 1) (some (121, true)),
            co (some 128) (.load 3 (.tmp 127)) (some (121, true)),
            co (some 129) (.indexAddr 44 (.tmp 126) (.tmp 128)) (some (121, true)),
            co (some 130) (.load 45 (.tmp 129)) (some (121, true)),
            co (some 131) (.fieldAddr 56 (.tmp 10) 2) (some (121, true)),
            co (some 132) (.load 3 (.tmp 131)) (some (121, true)),
            co (some 133) (.indexAddr 45 (.tmp 130) (.tmp 132)) (some (121, true)),
            co (some 134) (.load 22 (.tmp 133)) (some (121, true)),
            co (some 135) (.binOp .neq 22 (.tmp 122) (.tmp 134) 22) (some (121, true)),
            co (some 136) (.pick (.tmp 121) (.tmp 135) (.const (.bool false))) (some (119, false)),
            co (some 137) (.pick (.tmp 119) (.const (.bool true)) (.tmp 136)) none,
            co (some 138) (.move (.tmp 137)) none,
            co (some 139) (.move (.tmp 12)) (some (138, false)),
            co (some 140) (.unOp .not 4 (.tmp 139)) (some (138, false)),
            co (some 141) (.move (.tmp 140)) (some (138, false)),
            co (some 142) (.move (.tmp 11)) (some (141, true)),
            co (some 143) (.binOp .neq 22 (.tmp 142) (.const (.int .u64 0)) 22) (some (141, true)),
            co (some 144) (.pick (.tmp 141) (.tmp 143) (.const (.bool false))) (some (138, false)),
            co (some 145) (.pick (.tmp 138) (.const (.bool true)) (.tmp 144)) none,
            co (some 146) (.move (.tmp 145)) none,
            co (some 147) (.move (.tmp 14)) (some (146, false)),
            co (some 148) (.move (.tmp 8)) (some (146, false)),
            co (some 149) (.fieldAddr 56 (.tmp 10) 1) (some (146, false)),
            co (some 150) (.load 3 (.tmp 149)) (some (146, false)),
            co (some 151) (.fieldAddr 56 (.tmp 10) 2) (some (146, false)),
            co (some 152) (.load 3 (.tmp 151)) (some (146, false)),
            co (some 153) (.fieldAddr 56 (.tmp 10) 3) (some (146, false)),
            co (some 154) (.load 3 (.tmp 153)) (some (146, false)),
            co (some 155) (.call { callee := (.value (.func 30)), args := #[(.tmp 148), (.tmp 150), (.tmp 152), (.tmp 154)], argTypes := #[53, 3, 3, 3] }) (some (146, false)),
            co (some 156) (.binOp .neq 4 (.tmp 147) (.tmp 155) 4) (some (146, false)),
            co (some 157) (.pick (.tmp 146) (.const (.bool true)) (.tmp 156)) none] [2, 7, 8, 9, 10, 13, 14, 157])
        (.cond (.tmp 157)
          (.seq (.reg [co (some 6) (.assign (.const (.bool false))) none] [6])
          (.ret))
          (.skip)))
      (.keep [2, 7, 8, 9, 10, 13, 14] (.seq (.reg [co (some 158) (.move (.tmp 14)) none,
          co (some 159) (.move (.tmp 158)) none,
          co (some 160) (.move (.tmp 13)) (some (159, true)),
          co (some 161) (.buildSlice 44 1 #[(0, (.tmp 160))]) (some (159, true)),
          co (some 162) (.move (.tmp 8)) (some (159, true)),
          co (some 163) (.nilCheck (.tmp 162)) (some (159, true)),
          co (some 164) (.fieldAddr 59 (.tmp 163) 0) (some (159, true)),
          co (some 165) (.load 44 (.tmp 164)) (some (159, true)),
          co (some 166) (.fieldAddr 56 (.tmp 10) 1) (some (159, true)),
          co (some 167) (.load 3 (.tmp 166)) (some (159, true)),
          co (some 168) (.indexAddr 44 (.tmp 165) (.tmp 167)) (some (159, true)),
          co (some 169) (.load 45 (.tmp 168)) (some (159, true)),
          co (some 170) (.fieldAddr 56 (.tmp 10) 2) (some (159, true)),
          co (some 171) (.load 3 (.tmp 170)) (some (159, true)),
          co (some 172) (.fieldAddr 56 (.tmp 10) 2) (some (159, true)),
          co (some 173) (.load 3 (.tmp 172)) (some (159, true)),
          co (some 174) (.fieldAddr 56 (.tmp 10) 3) (some (159, true)),
          co (some 175) (.load 3 (.tmp 174)) (some (159, true)),
          co (some 176) (.binOp .add 3 (.tmp 173) (.tmp 175) 3) (some (159, true)),
          co (some 177) (.slice 45 (.tmp 169) (some (.tmp 171)) (some (.tmp 176)) none) (some (159, true)),
          co (some 178) (.buildSlice 44 1 #[(0, (.tmp 177))]) (some (159, true)),
          co (some 179) (.call { callee := (.value (.func 24)), args := #[(.tmp 161), (.tmp 178)], argTypes := #[44, 44] }) (some (159, true)),
          co (some 180) (.unOp .not 4 (.tmp 179)) (some (159, true)),
          co (some 181) (.pick (.tmp 159) (.tmp 180) (.const (.bool false))) none] [2, 7, 8, 9, 181])
      (.cond (.tmp 181)
        (.seq (.reg [co (some 6) (.assign (.const (.bool false))) none] [6])
        (.ret))
        (.skip)))))))))))))
  (.keep [2, 7, 8, 9] (.reg [co (some 29) (.move (.tmp 9)) none,
    co (some 30) (.binOp .add 3 (.tmp 29) (.const (.int .i64 1)) 3) none,
    co (some 9) (.assign (.tmp 30)) none] [2, 7, 8, 9]))))

/-- cento/centolaw05.ArenaPlays -/
def c_centolaw05_ArenaPlays : CC :=
  .seq (.reg [co (some 6) (.assign (.const (.bool false))) none] [0, 1, 2])
  (.seq (.reg [co (some 15) (.move (.tmp 0)) none,
      co (some 16) (.move (.tmp 1)) none,
      co (some 17) (.call { callee := (.value (.func 18)), args := #[(.tmp 15), (.tmp 16)], argTypes := #[3, 3] }) none,
      co (some 7) (.assign (.tmp 17)) none] [0, 1, 2, 7])
  (.seq (.reg [co (some 18) (.move (.tmp 0)) none,
      co (some 19) (.move (.tmp 1)) none,
      co (some 20) (.call { callee := (.value (.func 28)), args := #[(.tmp 18), (.tmp 19)], argTypes := #[3, 3] }) none,
      co (some 8) (.assign (.tmp 20)) none] [2, 7, 8])
  (.seq (.seq (.reg [co (some 9) (.assign (.const (.int .i64 0))) none] [2, 7, 8, 9])
    (.block 0
      (.loop l1_centolaw05_ArenaPlays)))
  (.keep [] (.seq (.reg [co (some 182) (.call { callee := (.value (.func 22)), args := #[], argTypes := #[] }) none,
      co (some 6) (.assign (.tmp 182)) none] [6])
  (.ret))))))
theorem t_centolaw05_ArenaPlays : Txt Try.prog 7 183 [(.tmp 6)] c_centolaw05_ArenaPlays := txt_of (code := Try.f7.body.getD .ret) mixed (by kernel_rfl) Try.func7 (by kernel_rfl) Try.ntmps7 (by kernel_rfl) (ls := [([0, 1, 2], []), ([], []), ([0, 1, 2, 7], []), ([], []), ([2, 7, 8], []), ([], []), ([2, 7, 8, 9], []), ([], []), ([2, 7, 8, 9, 28], []), ([], []), ([999999, 2, 7, 8, 9], []), ([2, 7, 8, 9, 10], [(4, [0])]), ([], []), ([2, 7, 8, 9, 10, 73], []), ([], []), ([6], []), ([], []), ([999999, 2, 7, 8, 9, 10], []), ([2, 7, 8, 9, 10, 90], []), ([], []), ([6], []), ([], []), ([999999, 2, 7, 8, 9, 10], []), ([2, 7, 8, 9, 10, 11, 12], []), ([], []), ([2, 7, 8, 9, 10, 11, 12, 13, 14], []), ([], []), ([2, 7, 8, 9, 10, 13, 14, 157], []), ([], []), ([6], []), ([], []), ([999999, 2, 7, 8, 9, 10, 13, 14], []), ([2, 7, 8, 9, 181], []), ([], []), ([6], []), ([], []), ([999999, 2, 7, 8, 9], []), ([2, 7, 8, 9], []), ([999999], []), ([6], []), ([], [])]) (by kernel_rfl)


/-- cento/centolaw05.ArenaNone -/
def c_centolaw05_ArenaNone : CC :=
  .seq (.reg [cn (some 1) (.box 56 (.tmp 0)) none [0],
      co (some 2) (.assign (.const (.bool false))) none] [1])
  (.seq (.reg [co (some 3) (.assign (.const (.pointer none))) none] [1, 3])
  (.seq (.reg [co (some 14) (.move (.tmp 3)) none,
      co (some 15) (.fieldAddr 56 (.tmp 1) 1) none,
      co (some 16) (.load 3 (.tmp 15)) none,
      co (some 17) (.fieldAddr 56 (.tmp 1) 2) none,
      co (some 18) (.load 3 (.tmp 17)) none,
      co (some 19) (.call { callee := (.value (.func 31)), args := #[(.tmp 14), (.tmp 16), (.tmp 18)], argTypes := #[35, 3, 3] }) none,
      co (some 13) (.move (.tmp 19)) none,
      co (some 20) (.extract (.tmp 13) 0) none,
      co (some 21) (.extract (.tmp 13) 1) none,
      co (some 4) (.assign (.tmp 20)) none,
      co (some 5) (.assign (.tmp 21)) none] [1, 3, 5])
  (.seq (.reg [co (some 23) (.move (.tmp 3)) none,
      co (some 24) (.fieldAddr 56 (.tmp 1) 1) none,
      co (some 25) (.load 3 (.tmp 24)) none,
      co (some 26) (.fieldAddr 56 (.tmp 1) 2) none,
      co (some 27) (.load 3 (.tmp 26)) none,
      co (some 28) (.fieldAddr 56 (.tmp 1) 3) none,
      co (some 29) (.load 3 (.tmp 28)) none,
      co (some 30) (.call { callee := (.value (.func 32)), args := #[(.tmp 23), (.tmp 25), (.tmp 27), (.tmp 29)], argTypes := #[35, 3, 3, 3] }) none,
      co (some 22) (.move (.tmp 30)) none,
      co (some 31) (.extract (.tmp 22) 0) none,
      co (some 32) (.extract (.tmp 22) 1) none,
      co (some 6) (.assign (.tmp 31)) none,
      co (some 7) (.assign (.tmp 32)) none] [1, 3, 5, 7])
  (.seq (.reg [co (some 34) (.move (.tmp 3)) none,
      co (some 35) (.fieldAddr 56 (.tmp 1) 1) none,
      co (some 36) (.load 3 (.tmp 35)) none,
      co (some 37) (.fieldAddr 56 (.tmp 1) 3) none,
      co (some 38) (.load 3 (.tmp 37)) none,
      co (some 39) (.call { callee := (.value (.func 26)), args := #[(.tmp 34), (.tmp 36), (.tmp 38)], argTypes := #[35, 3, 3] }) none,
      co (some 33) (.move (.tmp 39)) none,
      co (some 40) (.extract (.tmp 33) 0) none,
      co (some 41) (.extract (.tmp 33) 1) none,
      co (some 8) (.assign (.tmp 40)) none,
      co (some 9) (.assign (.tmp 41)) none] [1, 3, 5, 7, 9])
  (.seq (.reg [co (some 43) (.move (.tmp 3)) none,
      co (some 44) (.fieldAddr 56 (.tmp 1) 3) none,
      co (some 45) (.load 3 (.tmp 44)) none,
      co (some 46) (.call { callee := (.value (.func 19)), args := #[(.tmp 43), (.tmp 45)], argTypes := #[35, 3] }) none,
      co (some 42) (.move (.tmp 46)) none,
      co (some 47) (.extract (.tmp 42) 0) none,
      co (some 48) (.extract (.tmp 42) 1) none,
      co (some 49) (.extract (.tmp 42) 2) none,
      co (some 10) (.assign (.tmp 47)) none,
      co (some 11) (.assign (.tmp 48)) none,
      co (some 12) (.assign (.tmp 49)) none] [1, 3, 5, 7, 9, 12])
  (.seq (.reg [co (some 50) (.move (.tmp 5)) none,
      co (some 51) (.unOp .not 4 (.tmp 50)) none,
      co (some 52) (.move (.tmp 51)) none,
      co (some 53) (.move (.tmp 7)) (some (52, true)),
      co (some 54) (.unOp .not 4 (.tmp 53)) (some (52, true)),
      co (some 55) (.pick (.tmp 52) (.tmp 54) (.const (.bool false))) none,
      co (some 56) (.move (.tmp 55)) none,
      co (some 57) (.move (.tmp 9)) (some (56, true)),
      co (some 58) (.unOp .not 4 (.tmp 57)) (some (56, true)),
      co (some 59) (.pick (.tmp 56) (.tmp 58) (.const (.bool false))) none,
      co (some 60) (.move (.tmp 59)) none,
      co (some 61) (.move (.tmp 12)) (some (60, true)),
      co (some 62) (.unOp .not 4 (.tmp 61)) (some (60, true)),
      co (some 63) (.pick (.tmp 60) (.tmp 62) (.const (.bool false))) none,
      co (some 64) (.move (.tmp 63)) none,
      co (some 65) (.move (.tmp 3)) (some (64, true)),
      co (some 66) (.fieldAddr 56 (.tmp 1) 1) (some (64, true)),
      co (some 67) (.load 3 (.tmp 66)) (some (64, true)),
      co (some 68) (.fieldAddr 56 (.tmp 1) 2) (some (64, true)),
      co (some 69) (.load 3 (.tmp 68)) (some (64, true)),
      co (some 70) (.fieldAddr 56 (.tmp 1) 4) (some (64, true)),
      co (some 71) (.load 22 (.tmp 70)) (some (64, true)),
      co (some 72) (.call { callee := (.value (.func 33)), args := #[(.tmp 65), (.tmp 67), (.tmp 69), (.tmp 71)], argTypes := #[35, 3, 3, 22] }) (some (64, true)),
      co (some 73) (.unOp .not 4 (.tmp 72)) (some (64, true)),
      co (some 74) (.pick (.tmp 64) (.tmp 73) (.const (.bool false))) none,
      co (some 75) (.move (.tmp 74)) none,
      co (some 76) (.move (.tmp 3)) (some (75, true)),
      co (some 77) (.fieldAddr 56 (.tmp 1) 1) (some (75, true)),
      co (some 78) (.load 3 (.tmp 77)) (some (75, true)),
      co (some 79) (.fieldAddr 56 (.tmp 1) 2) (some (75, true)),
      co (some 80) (.load 3 (.tmp 79)) (some (75, true)),
      co (some 81) (.fieldAddr 56 (.tmp 1) 3) (some (75, true)),
      co (some 82) (.load 3 (.tmp 81)) (some (75, true)),
      co (some 83) (.call { callee := (.value (.func 20)), args := #[(.tmp 76), (.tmp 78), (.tmp 80), (.tmp 82)], argTypes := #[35, 3, 3, 3] }) (some (75, true)),
      co (some 84) (.unOp .not 4 (.tmp 83)) (some (75, true)),
      co (some 85) (.pick (.tmp 75) (.tmp 84) (.const (.bool false))) none,
      co (some 86) (.move (.tmp 85)) none,
      co (some 87) (.move (.tmp 3)) (some (86, true)),
      ⟨some 88, (.call { callee := (.value (.func 21)), args := #[(.tmp 87)], argTypes := #[35] }), (some (86, true)), [], 38, [], true⟩,
      co (some 89) (.move (.tmp 3)) (some (86, true)),
      co (some 90) (.fieldAddr 56 (.tmp 1) 1) (some (86, true)),
      ⟨some 91, (.load 3 (.tmp 90)), (some (86, true)), [], 41, [38], false⟩,
      co (some 92) (.call { callee := (.value (.func 34)), args := #[(.tmp 89), (.tmp 91)], argTypes := #[35, 3] }) (some (86, true)),
      co (some 93) (.binOp .add 3 (.tmp 88) (.tmp 92) 3) (some (86, true)),
      co (some 94) (.move (.tmp 3)) (some (86, true)),
      co (some 95) (.call { callee := (.value (.func 27)), args := #[(.tmp 94)], argTypes := #[35] }) (some (86, true)),
      co (some 96) (.binOp .add 3 (.tmp 93) (.tmp 95) 3) (some (86, true)),
      co (some 97) (.move (.tmp 3)) (some (86, true)),
      co (some 98) (.call { callee := (.value (.func 25)), args := #[(.tmp 97)], argTypes := #[35] }) (some (86, true)),
      co (some 99) (.call { callee := (.builtin .len), args := #[(.tmp 98)], argTypes := #[44] }) (some (86, true)),
      co (some 100) (.binOp .add 3 (.tmp 96) (.tmp 99) 3) (some (86, true)),
      co (some 101) (.binOp .eql 3 (.tmp 100) (.const (.int .i64 0)) 3) (some (86, true)),
      co (some 102) (.pick (.tmp 86) (.tmp 101) (.const (.bool false))) none,
      co (some 103) (.move (.tmp 102)) none,
      co (some 104) (.call { callee := (.value (.func 22)), args := #[], argTypes := #[] }) (some (103, true)),
      co (some 105) (.pick (.tmp 103) (.tmp 104) (.const (.bool false))) none,
      co (some 2) (.assign (.tmp 105)) none] [2])
  (.ret)))))))
theorem t_centolaw05_ArenaNone : Txt Try.prog 8 106 [(.tmp 2)] c_centolaw05_ArenaNone := txt_of (code := Try.f8.body.getD .ret) mixed (by kernel_rfl) Try.func8 (by kernel_rfl) Try.ntmps8 (by kernel_rfl) (ls := [([1], [(0, [0])]), ([], []), ([1, 3], []), ([], []), ([1, 3, 5], []), ([], []), ([1, 3, 5, 7], []), ([], []), ([1, 3, 5, 7, 9], []), ([], []), ([1, 3, 5, 7, 9, 12], []), ([], []), ([2], []), ([], [])]) (by kernel_rfl)
end Go.Proofs.Ytfdlelcipnabpaa
