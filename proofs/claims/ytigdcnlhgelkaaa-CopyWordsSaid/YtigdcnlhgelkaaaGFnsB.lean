/-
  The functions' text as data, and the facts on the types that they use: written by a program of ours (gen2.py) off the translation.
-/
import Derived.Test.YtigdcnlhgelkaaaProg
import Derived.Test.YtigdcnlhgelkaaaGSimp
import Derived.Test.YtigdcnlhgelkaaaGFnsA
import Derived.Test.YtigdcnlhgelkaaaGFns1
import Derived.KernelRfl
namespace Go.Proofs.Ytigdcnlhgelkaaa
set_option linter.unusedVariables false
set_option linter.unusedSimpArgs false
set_option maxRecDepth 20000
open Go Go.G Go.Proofs

@[simp] theorem und_38 : Try.prog.underlying 38 = some (.slice 22) := by kernel_rfl
@[simp] theorem und_44 : Try.prog.underlying 44 = some (.pointer 133) := by kernel_rfl
@[simp] theorem und_202 : Try.prog.underlying 202 = some (.array 7 3) := by kernel_rfl
@[simp] theorem szT_22 : szT Try.prog 22 = some 1 := by kernel_rfl
@[simp] theorem szT_38 : szT Try.prog 38 = some 1 := by kernel_rfl
@[simp] theorem szT_150 : szT Try.prog 150 = some 10 := by kernel_rfl
@[simp] theorem szT_165 : szT Try.prog 165 = some 10 := by kernel_rfl
@[simp] theorem szT_202 : szT Try.prog 202 = some 7 := by kernel_rfl
@[simp] theorem aggT_22 : aggT Try.prog 22 = some false := by kernel_rfl
@[simp] theorem aggT_38 : aggT Try.prog 38 = some false := by kernel_rfl
@[simp] theorem aggT_150 : aggT Try.prog 150 = some true := by kernel_rfl
@[simp] theorem aggT_165 : aggT Try.prog 165 = some true := by kernel_rfl
@[simp] theorem zeroT_22 : zeroT Try.prog 22 = some (Value.slice none 0 0) := by kernel_rfl
@[simp] theorem zeroT_150 : zeroT Try.prog 150 = some (Value.agg #[Value.int IntKind.i64 0, Value.int IntKind.i64 0, Value.int IntKind.i64 0, Value.int IntKind.i64 0, Value.int IntKind.i64 0, Value.int IntKind.i64 0, Value.int IntKind.i64 0, Value.bool false, Value.int IntKind.i64 0, Value.int IntKind.i64 0]) := by kernel_rfl
@[simp] theorem zeroT_165 : zeroT Try.prog 165 = some (Value.agg #[Value.int IntKind.i64 0, Value.int IntKind.i64 0, Value.int IntKind.i64 0, Value.int IntKind.i64 0, Value.int IntKind.i64 0, Value.int IntKind.i64 0, Value.int IntKind.i64 0, Value.bool false, Value.int IntKind.i64 0, Value.int IntKind.i64 0]) := by kernel_rfl
@[simp] theorem zeroT_202 : zeroT Try.prog 202 = some (Value.agg #[Value.int IntKind.i64 0, Value.int IntKind.i64 0, Value.int IntKind.i64 0, Value.int IntKind.i64 0, Value.int IntKind.i64 0, Value.int IntKind.i64 0, Value.int IntKind.i64 0]) := by kernel_rfl
@[simp] theorem bytesT_22 : bytesT Try.prog 22 = some 24 := by kernel_rfl
@[simp] theorem fieldOffT_133_0 : fieldOffT Try.prog 133 0 = some 0 := by kernel_rfl
@[simp] theorem fieldOffT_148_0 : fieldOffT Try.prog 148 0 = some 0 := by kernel_rfl
@[simp] theorem fieldOffT_148_1 : fieldOffT Try.prog 148 1 = some 1 := by kernel_rfl
@[simp] theorem fieldOffT_148_2 : fieldOffT Try.prog 148 2 = some 2 := by kernel_rfl
@[simp] theorem fieldOffT_148_3 : fieldOffT Try.prog 148 3 = some 3 := by kernel_rfl
@[simp] theorem fieldOffT_148_4 : fieldOffT Try.prog 148 4 = some 4 := by kernel_rfl
@[simp] theorem fieldOffT_148_5 : fieldOffT Try.prog 148 5 = some 5 := by kernel_rfl
@[simp] theorem fieldOffT_148_6 : fieldOffT Try.prog 148 6 = some 6 := by kernel_rfl
@[simp] theorem fieldOffT_148_7 : fieldOffT Try.prog 148 7 = some 7 := by kernel_rfl
@[simp] theorem fieldOffT_150_0 : fieldOffT Try.prog 150 0 = some 0 := by kernel_rfl
@[simp] theorem fieldOffT_150_1 : fieldOffT Try.prog 150 1 = some 8 := by kernel_rfl
@[simp] theorem fieldOffT_150_2 : fieldOffT Try.prog 150 2 = some 9 := by kernel_rfl
@[simp] theorem fieldOffT_165_0 : fieldOffT Try.prog 165 0 = some 0 := by kernel_rfl
@[simp] theorem fieldOffT_165_1 : fieldOffT Try.prog 165 1 = some 8 := by kernel_rfl
@[simp] theorem fieldOffT_165_2 : fieldOffT Try.prog 165 2 = some 9 := by kernel_rfl
@[simp] theorem buildA_133 (ps : List (Nat × A)) : buildA Try.prog 133 ps = (fillA (fun i => ([(0, 1), (1, 1), (2, 1), (3, 1)] : List (Nat × Nat))[i]?) [A.sl true [], A.v (Value.int IntKind.i64 0), A.v (Value.int IntKind.i64 0), A.v (Value.int IntKind.i64 0)] ps).map A.agg := by kernel_rfl
@[simp] theorem buildA_150 (ps : List (Nat × A)) : buildA Try.prog 150 ps = (fillA (fun i => ([(0, 8), (8, 1), (9, 1)] : List (Nat × Nat))[i]?) [A.v (Value.int IntKind.i64 0), A.v (Value.int IntKind.i64 0), A.v (Value.int IntKind.i64 0), A.v (Value.int IntKind.i64 0), A.v (Value.int IntKind.i64 0), A.v (Value.int IntKind.i64 0), A.v (Value.int IntKind.i64 0), A.v (Value.bool false), A.v (Value.int IntKind.i64 0), A.v (Value.int IntKind.i64 0)] ps).map A.agg := by kernel_rfl
@[simp] theorem buildA_165 (ps : List (Nat × A)) : buildA Try.prog 165 ps = (fillA (fun i => ([(0, 8), (8, 1), (9, 1)] : List (Nat × Nat))[i]?) [A.v (Value.int IntKind.i64 0), A.v (Value.int IntKind.i64 0), A.v (Value.int IntKind.i64 0), A.v (Value.int IntKind.i64 0), A.v (Value.int IntKind.i64 0), A.v (Value.int IntKind.i64 0), A.v (Value.int IntKind.i64 0), A.v (Value.bool false), A.v (Value.int IntKind.i64 0), A.v (Value.int IntKind.i64 0)] ps).map A.agg := by kernel_rfl
@[simp] theorem buildA_202 (ps : List (Nat × A)) : buildA Try.prog 202 ps = (fillA (fun i => some (i * 1, 1)) [A.v (Value.int IntKind.i64 0), A.v (Value.int IntKind.i64 0), A.v (Value.int IntKind.i64 0), A.v (Value.int IntKind.i64 0), A.v (Value.int IntKind.i64 0), A.v (Value.int IntKind.i64 0), A.v (Value.int IntKind.i64 0)] ps).map A.agg := by kernel_rfl


/-- slices.Clone[[]uint64,uint64] -/
def c_slices_Clone_uint64_uint64 : CC :=
  .seq (.reg [co (some 2) (.assign (.const (.slice none 0 0))) none] [0])
  (.seq (.seq (.reg [co (some 3) (.move (.tmp 0)) none,
        co (some 4) (.binOp .eql 22 (.tmp 3) (.const (.slice none 0 0)) 22) none] [0, 4])
    (.cond (.tmp 4)
      (.seq (.reg [co (some 2) (.assign (.const (.slice none 0 0))) none] [2])
      (.ret))
      (.skip)))
  (.keep [0] (.seq (.reg [co (some 5) (.buildSlice 22 0 #[]) none,
      co (some 6) (.move (.tmp 0)) none,
      cn (some 7) (.call { callee := (.builtin .append), args := #[(.tmp 5), (.tmp 6)], argTypes := #[22, 22] }) none [0],
      co (some 2) (.assign (.tmp 7)) none] [2])
  (.ret))))
theorem t_slices_Clone_uint64_uint64 : Txt Try.prog 73 8 [(.tmp 2)] c_slices_Clone_uint64_uint64 := txt_of (code := Try.f73.body.getD .ret) mixed (by kernel_rfl) Try.func73 (by kernel_rfl) Try.ntmps73 (by kernel_rfl) (ls := [([0], []), ([], []), ([0, 4], []), ([], []), ([2], []), ([], []), ([999999, 0], []), ([2], [(2, [0])]), ([], [])]) (by kernel_rfl)

def l1_arena_Of : CC :=
  .seq (.reg [co (some 11) (.binOp .lss 3 (.tmp 10) (.tmp 9) 3) none] [3, 8, 9, 10, 11])
  (.seq (.cond (.tmp 11)
      (.skip)
      (.exit 0))
  (.keep [3, 8, 9, 10] (.seq (.block 1
      (.seq (.reg [co (some 12) (.indexAddr 38 (.tmp 8) (.tmp 10)) none,
          co (some 13) (.load 22 (.tmp 12)) none,
          co (some 5) (.assign (.tmp 13)) none] [3, 5, 8, 9, 10])
      (.reg [co (some 14) (.move (.tmp 3)) none,
        co (some 15) (.move (.tmp 3)) none,
        co (some 16) (.nilCheck (.tmp 15)) none,
        co (some 17) (.fieldAddr 133 (.tmp 16) 0) none,
        ⟨some 18, (.load 38 (.tmp 17)), none, [], 4, [], true⟩,
        co (some 19) (.move (.tmp 5)) none,
        ⟨some 20, (.call { callee := (.value (.func 73)), args := #[(.tmp 19)], argTypes := #[22] }), none, [], 6, [4], false⟩,
        ⟨some 21, (.buildSlice 38 1 #[(0, (.tmp 20))]), none, [], 7, [4], false⟩,
        cn (some 22) (.call { callee := (.builtin .append), args := #[(.tmp 18), (.tmp 21)], argTypes := #[38, 38] }) none [1],
        co (some 23) (.nilCheck (.tmp 14)) none,
        co (some 24) (.fieldAddr 133 (.tmp 23) 0) none,
        co none (.store 38 (.tmp 24) (.tmp 22)) none] [3, 8, 9, 10])))
  (.reg [co (some 25) (.binOp .add 3 (.tmp 10) (.const (.int .i64 1)) 3) none,
    co (some 10) (.move (.tmp 25)) none] [3, 8, 9, 10]))))

/-- cento/arena.Of -/
def c_arena_Of : CC :=
  .seq (.reg [co (some 2) (.assign (.const (.pointer none))) none] [0])
  (.seq (.reg [co (some 6) (.build 133 #[]) none,
      cn (some 7) (.box 133 (.tmp 6)) none [0],
      co (some 3) (.assign (.tmp 7)) none] [0, 3])
  (.seq (.seq (.reg [co (some 8) (.move (.tmp 0)) none,
        co (some 9) (.call { callee := (.builtin .len), args := #[(.tmp 8)], argTypes := #[38] }) none,
        co (some 10) (.move (.const (.int .i64 0))) none] [3, 8, 9, 10])
    (.block 0
      (.loop l1_arena_Of)))
  (.keep [3] (.seq (.reg [co (some 26) (.move (.tmp 3)) none,
      co (some 2) (.assign (.tmp 26)) none] [2])
  (.ret)))))
theorem t_arena_Of : Txt Try.prog 39 27 [(.tmp 2)] c_arena_Of := txt_of (code := Try.f39.body.getD .ret) mixed (by kernel_rfl) Try.func39 (by kernel_rfl) Try.ntmps39 (by kernel_rfl) (ls := [([0], []), ([], []), ([0, 3], [(1, [0])]), ([], []), ([3, 8, 9, 10], []), ([], []), ([3, 8, 9, 10, 11], []), ([], []), ([999999, 3, 8, 9, 10], []), ([3, 5, 8, 9, 10], []), ([], []), ([3, 8, 9, 10], [(8, [1])]), ([], []), ([3, 8, 9, 10], []), ([999999, 3], []), ([2], []), ([], [])]) (by kernel_rfl)


/-- (*cento/arena.Arena).Len -/
def c_arena_Arena_Len : CC :=
  .seq (.reg [co (some 2) (.assign (.const (.int .i64 0))) none] [0])
  (.seq (.seq (.reg [co (some 3) (.move (.tmp 0)) none,
        co (some 4) (.binOp .eql 44 (.tmp 3) (.const (.pointer none)) 44) none] [0, 4])
    (.cond (.tmp 4)
      (.seq (.reg [co (some 2) (.assign (.const (.int .i64 0))) none] [2])
      (.ret))
      (.skip)))
  (.keep [0] (.seq (.reg [co (some 5) (.move (.tmp 0)) none,
      co (some 6) (.nilCheck (.tmp 5)) none,
      co (some 7) (.fieldAddr 133 (.tmp 6) 0) none,
      co (some 8) (.load 38 (.tmp 7)) none,
      co (some 9) (.call { callee := (.builtin .len), args := #[(.tmp 8)], argTypes := #[38] }) none,
      co (some 2) (.assign (.tmp 9)) none] [2])
  (.ret))))
theorem t_arena_Arena_Len : Txt Try.prog 145 10 [(.tmp 2)] c_arena_Arena_Len := txt_of (code := Try.f145.body.getD .ret) mixed (by kernel_rfl) Try.func145 (by kernel_rfl) Try.ntmps145 (by kernel_rfl) (ls := [([0], []), ([], []), ([0, 4], []), ([], []), ([2], []), ([], []), ([999999, 0], []), ([2], []), ([], [])]) (by kernel_rfl)


/-- (*cento/arena.Arena).Size -/
def c_arena_Arena_Size : CC :=
  .seq (.reg [co (some 4) (.assign (.const (.int .i64 0))) none] [0, 1])
  (.seq (.seq (.reg [co (some 5) (.move (.tmp 1)) none,
        co (some 6) (.binOp .lss 3 (.tmp 5) (.const (.int .i64 0)) 3) none,
        co (some 7) (.move (.tmp 6)) none,
        co (some 8) (.move (.tmp 1)) (some (7, false)),
        co (some 9) (.move (.tmp 0)) (some (7, false)),
        co (some 10) (.call { callee := (.value (.func 145)), args := #[(.tmp 9)], argTypes := #[44] }) (some (7, false)),
        co (some 11) (.binOp .geq 3 (.tmp 8) (.tmp 10) 3) (some (7, false)),
        co (some 12) (.pick (.tmp 7) (.const (.bool true)) (.tmp 11)) none] [0, 1, 12])
    (.cond (.tmp 12)
      (.seq (.reg [co (some 4) (.assign (.const (.int .i64 0))) none] [4])
      (.ret))
      (.skip)))
  (.keep [0, 1] (.seq (.reg [co (some 13) (.move (.tmp 0)) none,
      co (some 14) (.nilCheck (.tmp 13)) none,
      co (some 15) (.fieldAddr 133 (.tmp 14) 0) none,
      co (some 16) (.load 38 (.tmp 15)) none,
      co (some 17) (.move (.tmp 1)) none,
      co (some 18) (.indexAddr 38 (.tmp 16) (.tmp 17)) none,
      co (some 19) (.load 22 (.tmp 18)) none,
      co (some 20) (.call { callee := (.builtin .len), args := #[(.tmp 19)], argTypes := #[22] }) none,
      co (some 4) (.assign (.tmp 20)) none] [4])
  (.ret))))
theorem t_arena_Arena_Size : Txt Try.prog 144 21 [(.tmp 4)] c_arena_Arena_Size := txt_of (code := Try.f144.body.getD .ret) mixed (by kernel_rfl) Try.func144 (by kernel_rfl) Try.ntmps144 (by kernel_rfl) (ls := [([0, 1], []), ([], []), ([0, 1, 12], []), ([], []), ([4], []), ([], []), ([999999, 0, 1], []), ([4], []), ([], [])]) (by kernel_rfl)


/-- (*cento/arena.Arena).Has -/
def c_arena_Arena_Has : CC :=
  .seq (.reg [co (some 8) (.assign (.const (.bool false))) none] [0, 1, 2, 3])
  (.seq (.reg [co (some 10) (.move (.tmp 0)) none,
      co (some 11) (.move (.tmp 1)) none,
      co (some 12) (.call { callee := (.value (.func 144)), args := #[(.tmp 10), (.tmp 11)], argTypes := #[44, 3] }) none,
      co (some 9) (.assign (.tmp 12)) none] [0, 1, 2, 3, 9])
  (.seq (.reg [co (some 13) (.move (.tmp 1)) none,
      co (some 14) (.binOp .geq 3 (.tmp 13) (.const (.int .i64 0)) 3) none,
      co (some 15) (.move (.tmp 14)) none,
      co (some 16) (.move (.tmp 1)) (some (15, true)),
      co (some 17) (.move (.tmp 0)) (some (15, true)),
      co (some 18) (.call { callee := (.value (.func 145)), args := #[(.tmp 17)], argTypes := #[44] }) (some (15, true)),
      co (some 19) (.binOp .lss 3 (.tmp 16) (.tmp 18) 3) (some (15, true)),
      co (some 20) (.pick (.tmp 15) (.tmp 19) (.const (.bool false))) none,
      co (some 21) (.move (.tmp 20)) none,
      co (some 22) (.move (.tmp 2)) (some (21, true)),
      co (some 23) (.binOp .geq 3 (.tmp 22) (.const (.int .i64 0)) 3) (some (21, true)),
      co (some 24) (.pick (.tmp 21) (.tmp 23) (.const (.bool false))) none,
      co (some 25) (.move (.tmp 24)) none,
      co (some 26) (.move (.tmp 3)) (some (25, true)),
      co (some 27) (.binOp .geq 3 (.tmp 26) (.const (.int .i64 0)) 3) (some (25, true)),
      co (some 28) (.pick (.tmp 25) (.tmp 27) (.const (.bool false))) none,
      co (some 29) (.move (.tmp 28)) none,
      co (some 30) (.move (.tmp 3)) (some (29, true)),
      co (some 31) (.move (.tmp 9)) (some (29, true)),
      co (some 32) (.binOp .leq 3 (.tmp 30) (.tmp 31) 3) (some (29, true)),
      co (some 33) (.pick (.tmp 29) (.tmp 32) (.const (.bool false))) none,
      co (some 34) (.move (.tmp 33)) none,
      co (some 35) (.move (.tmp 2)) (some (34, true)),
      co (some 36) (.move (.tmp 9)) (some (34, true)),
      co (some 37) (.move (.tmp 3)) (some (34, true)),
      co (some 38) (.binOp .sub 3 (.tmp 36) (.tmp 37) 3) (some (34, true)),
      co (some 39) (.binOp .leq 3 (.tmp 35) (.tmp 38) 3) (some (34, true)),
      co (some 40) (.pick (.tmp 34) (.tmp 39) (.const (.bool false))) none,
      co (some 8) (.assign (.tmp 40)) none] [8])
  (.ret)))
theorem t_arena_Arena_Has : Txt Try.prog 124 41 [(.tmp 8)] c_arena_Arena_Has := txt_of (code := Try.f124.body.getD .ret) mixed (by kernel_rfl) Try.func124 (by kernel_rfl) Try.ntmps124 (by kernel_rfl) (ls := [([0, 1, 2, 3], []), ([], []), ([0, 1, 2, 3, 9], []), ([], []), ([8], []), ([], [])]) (by kernel_rfl)


/-- (*cento/arena.Arena).Get -/
def c_arena_Arena_Get : CC :=
  .seq (.reg [co (some 6) (.assign (.const (.int .u64 0))) none,
      co (some 7) (.assign (.const (.bool false))) none] [0, 1, 2])
  (.seq (.seq (.reg [co (some 8) (.move (.tmp 0)) none,
        co (some 9) (.move (.tmp 1)) none,
        co (some 10) (.move (.tmp 2)) none,
        co (some 11) (.call { callee := (.value (.func 124)), args := #[(.tmp 8), (.tmp 9), (.tmp 10), (.const (.int .i64 1))], argTypes := #[44, 3, 3, 3] }) none,
        co (some 12) (.unOp .not 4 (.tmp 11)) none] [0, 1, 2, 12])
    (.cond (.tmp 12)
      (.seq (.reg [co (some 6) (.assign (.const (.int .u64 0))) none,
          co (some 7) (.assign (.const (.bool false))) none] [6, 7])
      (.ret))
      (.skip)))
  (.keep [0, 1, 2] (.seq (.reg [co (some 13) (.move (.tmp 0)) none,
      co (some 14) (.nilCheck (.tmp 13)) none,
      co (some 15) (.fieldAddr 133 (.tmp 14) 0) none,
      co (some 16) (.load 38 (.tmp 15)) none,
      co (some 17) (.move (.tmp 1)) none,
      co (some 18) (.indexAddr 38 (.tmp 16) (.tmp 17)) none,
      co (some 19) (.load 22 (.tmp 18)) none,
      co (some 20) (.move (.tmp 2)) none,
      co (some 21) (.indexAddr 22 (.tmp 19) (.tmp 20)) none,
      co (some 22) (.load 45 (.tmp 21)) none,
      co (some 6) (.assign (.tmp 22)) none,
      co (some 7) (.assign (.const (.bool true))) none] [6, 7])
  (.ret))))
theorem t_arena_Arena_Get : Txt Try.prog 95 23 [(.tmp 6), (.tmp 7)] c_arena_Arena_Get := txt_of (code := Try.f95.body.getD .ret) mixed (by kernel_rfl) Try.func95 (by kernel_rfl) Try.ntmps95 (by kernel_rfl) (ls := [([0, 1, 2], []), ([], []), ([0, 1, 2, 12], []), ([], []), ([6, 7], []), ([], []), ([999999, 0, 1, 2], []), ([6, 7], []), ([], [])]) (by kernel_rfl)


/-- (*cento/arena.Arena).Part -/
def c_arena_Arena_Part : CC :=
  .seq (.reg [co (some 8) (.assign (.const (.slice none 0 0))) none,
      co (some 9) (.assign (.const (.bool false))) none] [0, 1, 2, 3])
  (.seq (.seq (.reg [co (some 10) (.move (.tmp 0)) none,
        co (some 11) (.move (.tmp 1)) none,
        co (some 12) (.move (.tmp 2)) none,
        co (some 13) (.move (.tmp 3)) none,
        co (some 14) (.call { callee := (.value (.func 124)), args := #[(.tmp 10), (.tmp 11), (.tmp 12), (.tmp 13)], argTypes := #[44, 3, 3, 3] }) none,
        co (some 15) (.unOp .not 4 (.tmp 14)) none] [0, 1, 2, 3, 15])
    (.cond (.tmp 15)
      (.seq (.reg [co (some 8) (.assign (.const (.slice none 0 0))) none,
          co (some 9) (.assign (.const (.bool false))) none] [8, 9])
      (.ret))
      (.skip)))
  (.keep [0, 1, 2, 3] (.seq (.reg [co (some 16) (.move (.tmp 0)) none,
      co (some 17) (.nilCheck (.tmp 16)) none,
      co (some 18) (.fieldAddr 133 (.tmp 17) 0) none,
      co (some 19) (.load 38 (.tmp 18)) none,
      co (some 20) (.move (.tmp 1)) none,
      co (some 21) (.indexAddr 38 (.tmp 19) (.tmp 20)) none,
      co (some 22) (.load 22 (.tmp 21)) none,
      co (some 23) (.move (.tmp 2)) none,
      co (some 24) (.move (.tmp 2)) none,
      co (some 25) (.move (.tmp 3)) none,
      co (some 26) (.binOp .add 3 (.tmp 24) (.tmp 25) 3) none,
      co (some 27) (.slice 22 (.tmp 22) (some (.tmp 23)) (some (.tmp 26)) none) none,
      co (some 28) (.call { callee := (.value (.func 73)), args := #[(.tmp 27)], argTypes := #[22] }) none,
      co (some 8) (.assign (.tmp 28)) none,
      co (some 9) (.assign (.const (.bool true))) none] [8, 9])
  (.ret))))
theorem t_arena_Arena_Part : Txt Try.prog 147 29 [(.tmp 8), (.tmp 9)] c_arena_Arena_Part := txt_of (code := Try.f147.body.getD .ret) mixed (by kernel_rfl) Try.func147 (by kernel_rfl) Try.ntmps147 (by kernel_rfl) (ls := [([0, 1, 2, 3], []), ([], []), ([0, 1, 2, 3, 15], []), ([], []), ([8, 9], []), ([], []), ([999999, 0, 1, 2, 3], []), ([8, 9], []), ([], [])]) (by kernel_rfl)


/-- (cento/ptr.Ptr).Words -/
def c_ptr_Ptr_Words : CC :=
  .seq (.reg [cn (some 1) (.box 163 (.tmp 0)) none [0],
      co (some 2) (.assign (.const (.int .i64 0))) none,
      co (some 3) (.assign (.const (.bool false))) none] [1])
  (.seq (.reg [co (some 5) (.build 202 #[(0, (.const (.int .i64 0))), (1, (.const (.int .i64 1))), (2, (.const (.int .i64 8))), (3, (.const (.int .i64 16))), (4, (.const (.int .i64 32))), (5, (.const (.int .i64 64))), (6, (.const (.int .i64 64)))]) none,
      cn (some 4) (.alloc 202) none [1],
      co none (.store 202 (.tmp 4) (.tmp 5)) none] [1, 4])
  (.seq (.block 0
      (.seq (.reg [co (some 7) (.fieldAddr 163 (.tmp 1) 0) none,
          co (some 8) (.load 3 (.tmp 7)) none,
          co (some 9) (.binOp .eql 3 (.tmp 8) (.const (.int .i64 1)) 3) none,
          co (some 6) (.assign (.tmp 9)) none] [1, 4, 6])
      (.cond (.tmp 6)
        (.seq (.reg [co (some 10) (.fieldAddr 163 (.tmp 1) 2) none,
            co (some 11) (.load 3 (.tmp 10)) none,
            co (some 12) (.fieldAddr 163 (.tmp 1) 3) none,
            co (some 13) (.load 3 (.tmp 12)) none,
            co (some 14) (.binOp .add 3 (.tmp 11) (.tmp 13) 3) none,
            co (some 2) (.assign (.tmp 14)) none,
            co (some 3) (.assign (.const (.bool true))) none] [2, 3])
        (.ret))
        (.seq (.reg [co (some 16) (.fieldAddr 163 (.tmp 1) 0) none,
            co (some 17) (.load 3 (.tmp 16)) none,
            co (some 18) (.binOp .eql 3 (.tmp 17) (.const (.int .i64 2)) 3) none,
            co (some 19) (.move (.tmp 18)) none,
            co (some 20) (.fieldAddr 163 (.tmp 1) 4) (some (19, true)),
            co (some 21) (.load 3 (.tmp 20)) (some (19, true)),
            co (some 22) (.binOp .eql 3 (.tmp 21) (.const (.int .i64 7)) 3) (some (19, true)),
            co (some 23) (.pick (.tmp 19) (.tmp 22) (.const (.bool false))) none,
            co (some 15) (.assign (.tmp 23)) none] [1, 4, 15])
        (.cond (.tmp 15)
          (.seq (.reg [co (some 24) (.fieldAddr 163 (.tmp 1) 5) none,
              co (some 25) (.load 3 (.tmp 24)) none,
              co (some 26) (.binOp .add 3 (.tmp 25) (.const (.int .i64 1)) 3) none,
              co (some 2) (.assign (.tmp 26)) none,
              co (some 3) (.assign (.const (.bool true))) none] [2, 3])
          (.ret))
          (.seq (.reg [co (some 28) (.fieldAddr 163 (.tmp 1) 0) none,
              co (some 29) (.load 3 (.tmp 28)) none,
              co (some 30) (.binOp .eql 3 (.tmp 29) (.const (.int .i64 2)) 3) none,
              co (some 31) (.move (.tmp 30)) none,
              co (some 32) (.fieldAddr 163 (.tmp 1) 4) (some (31, true)),
              co (some 33) (.load 3 (.tmp 32)) (some (31, true)),
              co (some 34) (.call { callee := (.value (.func 149)), args := #[(.tmp 33), (.const (.int .i64 6))], argTypes := #[3, 3] }) (some (31, true)),
              co (some 35) (.pick (.tmp 31) (.tmp 34) (.const (.bool false))) none,
              co (some 36) (.move (.tmp 35)) none,
              co (some 37) (.fieldAddr 163 (.tmp 1) 5) (some (36, true)),
              co (some 38) (.load 3 (.tmp 37)) (some (36, true)),
              co (some 39) (.call { callee := (.value (.func 149)), args := #[(.tmp 38), (.const (.int .i64 536870911))], argTypes := #[3, 3] }) (some (36, true)),
              co (some 40) (.pick (.tmp 36) (.tmp 39) (.const (.bool false))) none,
              co (some 27) (.assign (.tmp 40)) none] [1, 4, 27])
          (.cond (.tmp 27)
            (.seq (.reg [co (some 41) (.fieldAddr 163 (.tmp 1) 5) none,
                co (some 42) (.load 3 (.tmp 41)) none,
                co (some 43) (.fieldAddr 163 (.tmp 1) 4) none,
                co (some 44) (.load 3 (.tmp 43)) none,
                co (some 45) (.indexAddr 202 (.tmp 4) (.tmp 44)) none,
                co (some 46) (.load 3 (.tmp 45)) none,
                co (some 47) (.binOp .mul 3 (.tmp 42) (.tmp 46) 3) none,
                co (some 48) (.binOp .add 3 (.tmp 47) (.const (.int .i64 63)) 3) none,
                co (some 49) (.binOp .quo 3 (.tmp 48) (.const (.int .i64 64)) 3) none,
                co (some 2) (.assign (.tmp 49)) none,
                co (some 3) (.assign (.const (.bool true))) none] [2, 3])
            (.ret))
            (.skip))))))))
  (.keep [] (.seq (.reg [co (some 2) (.assign (.const (.int .i64 0))) none,
      co (some 3) (.assign (.const (.bool false))) none] [2, 3])
  (.ret)))))
theorem t_ptr_Ptr_Words : Txt Try.prog 153 50 [(.tmp 2), (.tmp 3)] c_ptr_Ptr_Words := txt_of (code := Try.f153.body.getD .ret) mixed (by kernel_rfl) Try.func153 (by kernel_rfl) Try.ntmps153 (by kernel_rfl) (ls := [([1], [(0, [0])]), ([], []), ([1, 4], [(1, [1])]), ([], []), ([1, 4, 6], []), ([], []), ([2, 3], []), ([], []), ([1, 4, 15], []), ([], []), ([2, 3], []), ([], []), ([1, 4, 27], []), ([], []), ([2, 3], []), ([], []), ([999999], []), ([2, 3], []), ([], [])]) (by kernel_rfl)


/-- cento/far.inside -/
def c_far_inside : CC :=
  .seq (.reg [cn (some 3) (.box 165 (.tmp 1)) none [0],
      cn (some 4) (.alloc 165) none [1],
      co (some 5) (.assign (.const (.int .i64 0))) none] [0, 3, 4])
  (.seq (.reg [co (some 9) (.fieldAddr 165 (.tmp 3) 0) none,
      co (some 10) (.load 163 (.tmp 9)) none,
      co (some 11) (.call { callee := (.value (.func 153)), args := #[(.tmp 10)], argTypes := #[163] }) none,
      co (some 8) (.move (.tmp 11)) none,
      co (some 12) (.extract (.tmp 8) 0) none,
      co (some 13) (.extract (.tmp 8) 1) none,
      co (some 6) (.assign (.tmp 12)) none,
      co (some 7) (.assign (.tmp 13)) none] [0, 3, 4, 6])
  (.seq (.seq (.reg [co (some 14) (.move (.tmp 0)) none,
        co (some 15) (.fieldAddr 165 (.tmp 3) 1) none,
        co (some 16) (.load 3 (.tmp 15)) none,
        co (some 17) (.fieldAddr 165 (.tmp 3) 2) none,
        co (some 18) (.load 3 (.tmp 17)) none,
        co (some 19) (.move (.tmp 6)) none,
        co (some 20) (.call { callee := (.value (.func 124)), args := #[(.tmp 14), (.tmp 16), (.tmp 18), (.tmp 19)], argTypes := #[44, 3, 3, 3] }) none,
        co (some 21) (.unOp .not 4 (.tmp 20)) none] [3, 4, 21])
    (.cond (.tmp 21)
      (.seq (.reg [co (some 22) (.build 165 #[]) none,
          co none (.store 165 (.tmp 4) (.tmp 22)) none,
          co (some 5) (.assign (.const (.int .i64 7))) none] [4, 5])
      (.ret))
      (.skip)))
  (.keep [3, 4] (.seq (.reg [co (some 23) (.fieldAddr 165 (.tmp 3) 0) none,
      co (some 24) (.fieldAddr 163 (.tmp 23) 1) none,
      co none (.store 3 (.tmp 24) (.const (.int .i64 0))) none] [3, 4])
  (.seq (.reg [co (some 25) (.load 165 (.tmp 3)) none,
      co none (.store 165 (.tmp 4) (.tmp 25)) none,
      co (some 5) (.assign (.const (.int .i64 0))) none] [4, 5])
  (.ret))))))
theorem t_far_inside : Txt Try.prog 146 26 [(.cell 4 165), (.tmp 5)] c_far_inside := txt_of (code := Try.f146.body.getD .ret) mixed (by kernel_rfl) Try.func146 (by kernel_rfl) Try.ntmps146 (by kernel_rfl) (ls := [([0, 3, 4], [(0, [0]), (1, [1])]), ([], []), ([0, 3, 4, 6], []), ([], []), ([3, 4, 21], []), ([], []), ([4, 5], []), ([], []), ([999999, 3, 4], []), ([3, 4], []), ([], []), ([4, 5], []), ([], [])]) (by kernel_rfl)

def k1_far_near : CC :=
  .cond (.tmp 12)
    (.seq (.reg [co (some 15) (.move (.tmp 0)) none,
        co (some 16) (.load 163 (.tmp 5)) none,
        co (some 17) (.move (.tmp 2)) none,
        co (some 18) (.move (.tmp 3)) none,
        co (some 19) (.binOp .add 3 (.tmp 18) (.const (.int .i64 1)) 3) none,
        co (some 20) (.fieldAddr 163 (.tmp 5) 1) none,
        co (some 21) (.load 3 (.tmp 20)) none,
        co (some 22) (.binOp .add 3 (.tmp 19) (.tmp 21) 3) none,
        co (some 23) (.build 165 #[(0, (.tmp 16)), (1, (.tmp 17)), (2, (.tmp 22))]) none,
        co (some 24) (.call { callee := (.value (.func 146)), args := #[(.tmp 15), (.tmp 23)], argTypes := #[44, 165] }) none,
        co (some 25) (.extract (.tmp 24) 0) none,
        co (some 26) (.extract (.tmp 24) 1) none,
        co none (.store 165 (.tmp 8) (.tmp 25)) none,
        co (some 9) (.assign (.tmp 26)) none] [8, 9])
    (.ret))
    (.seq (.reg [co (some 28) (.binOp .eql 3 (.tmp 11) (.const (.int .i64 4)) 3) none,
        co (some 27) (.assign (.tmp 28)) none] [8, 27])
    (.cond (.tmp 27)
      (.seq (.reg [co (some 29) (.build 165 #[]) none,
          co none (.store 165 (.tmp 8) (.tmp 29)) none,
          co (some 9) (.assign (.const (.int .i64 9))) none] [8, 9])
      (.ret))
      (.skip)))

/-- cento/far.near -/
def c_far_near : CC :=
  .seq (.reg [cn (some 5) (.box 163 (.tmp 1)) none [0],
      cn (some 8) (.alloc 165) none [1],
      co (some 9) (.assign (.const (.int .i64 0))) none] [0, 2, 3, 5, 8])
  (.seq (.seq (.reg [co (some 10) (.fieldAddr 163 (.tmp 5) 0) none,
        co (some 11) (.load 3 (.tmp 10)) none] [0, 2, 3, 5, 8, 11])
    (.block 0
      (.seq (.seq (.reg [co (some 13) (.binOp .eql 3 (.tmp 11) (.const (.int .i64 1)) 3) none,
            co (some 12) (.assign (.tmp 13)) none] [0, 2, 3, 5, 8, 11, 12])
        (.cond (.tmp 12)
          (.skip)
          (.reg [co (some 14) (.binOp .eql 3 (.tmp 11) (.const (.int .i64 2)) 3) none,
            co (some 12) (.assign (.tmp 14)) none] [0, 2, 3, 5, 8, 11, 12])))
      (.keep [0, 2, 3, 5, 8, 11, 12] k1_far_near))))
  (.keep [8] (.seq (.reg [co (some 30) (.build 165 #[]) none,
      co none (.store 165 (.tmp 8) (.tmp 30)) none,
      co (some 9) (.assign (.const (.int .i64 8))) none] [8, 9])
  (.ret))))
theorem t_far_near : Txt Try.prog 130 31 [(.cell 8 165), (.tmp 9)] c_far_near := txt_of (code := Try.f130.body.getD .ret) mixed (by kernel_rfl) Try.func130 (by kernel_rfl) Try.ntmps130 (by kernel_rfl) (ls := [([0, 2, 3, 5, 8], [(0, [0]), (1, [1])]), ([], []), ([0, 2, 3, 5, 8, 11], []), ([], []), ([0, 2, 3, 5, 8, 11, 12], []), ([], []), ([0, 2, 3, 5, 8, 11, 12], []), ([999999, 0, 2, 3, 5, 8, 11, 12], []), ([8, 9], []), ([], []), ([8, 27], []), ([], []), ([8, 9], []), ([], []), ([999999, 8], []), ([8, 9], []), ([], [])]) (by kernel_rfl)


/-- cento/far.double -/
def c_far_double : CC :=
  .seq (.reg [cn (some 6) (.alloc 165) none [0],
      co (some 7) (.assign (.const (.int .i64 0))) none] [0, 1, 2, 6])
  (.seq (.reg [co (some 13) (.move (.tmp 0)) none,
      co (some 14) (.move (.tmp 1)) none,
      co (some 15) (.move (.tmp 2)) none,
      co (some 16) (.call { callee := (.value (.func 147)), args := #[(.tmp 13), (.tmp 14), (.tmp 15), (.const (.int .i64 2))], argTypes := #[44, 3, 3, 3] }) none,
      co (some 12) (.move (.tmp 16)) none,
      co (some 17) (.extract (.tmp 12) 0) none,
      co (some 18) (.extract (.tmp 12) 1) none,
      co (some 8) (.assign (.tmp 17)) none,
      co (some 9) (.assign (.tmp 18)) none] [0, 6, 8, 9])
  (.seq (.seq (.reg [co (some 19) (.move (.tmp 9)) none,
        co (some 20) (.unOp .not 4 (.tmp 19)) none] [0, 6, 8, 20])
    (.cond (.tmp 20)
      (.seq (.reg [co (some 21) (.build 165 #[]) none,
          co none (.store 165 (.tmp 6) (.tmp 21)) none,
          co (some 7) (.assign (.const (.int .i64 7))) none] [6, 7])
      (.ret))
      (.skip)))
  (.keep [0, 6, 8] (.seq (.reg [co (some 22) (.move (.tmp 8)) none,
      co (some 23) (.indexAddr 22 (.tmp 22) (.const (.int .i64 0))) none,
      ⟨some 24, (.load 45 (.tmp 23)), none, [], 2, [], true⟩,
      ⟨some 25, (.call { callee := (.value (.func 129)), args := #[(.tmp 24)], argTypes := #[45] }), none, [], 3, [], true⟩,
      co (some 26) (.move (.tmp 8)) none,
      co (some 27) (.indexAddr 22 (.tmp 26) (.const (.int .i64 1))) none,
      ⟨some 28, (.load 45 (.tmp 27)), none, [], 6, [3], true⟩,
      ⟨some 29, (.call { callee := (.value (.func 129)), args := #[(.tmp 28)], argTypes := #[45] }), none, [], 7, [], true⟩,
      ⟨some 10, (.alloc 163), none, [1], 8, [2, 3, 6, 7], true⟩,
      ⟨some 11, (.alloc 163), none, [2], 9, [2, 3, 6, 7, 8], false⟩,
      co none (.store 163 (.tmp 10) (.tmp 25)) none,
      co none (.store 163 (.tmp 11) (.tmp 29)) none] [0, 6, 10, 11])
  (.seq (.block 0
      (.seq (.reg [co (some 31) (.fieldAddr 163 (.tmp 10) 0) none,
          co (some 32) (.load 3 (.tmp 31)) none,
          co (some 33) (.binOp .neq 3 (.tmp 32) (.const (.int .i64 3)) 3) none,
          co (some 34) (.move (.tmp 33)) none,
          co (some 35) (.fieldAddr 163 (.tmp 10) 7) (some (34, false)),
          co (some 36) (.load 4 (.tmp 35)) (some (34, false)),
          co (some 37) (.pick (.tmp 34) (.const (.bool true)) (.tmp 36)) none,
          co (some 30) (.assign (.tmp 37)) none] [0, 6, 10, 11, 30])
      (.cond (.tmp 30)
        (.seq (.reg [co (some 38) (.build 165 #[]) none,
            co none (.store 165 (.tmp 6) (.tmp 38)) none,
            co (some 7) (.assign (.const (.int .i64 8))) none] [6, 7])
        (.ret))
        (.seq (.reg [co (some 40) (.fieldAddr 163 (.tmp 11) 0) none,
            co (some 41) (.load 3 (.tmp 40)) none,
            co (some 42) (.binOp .eql 3 (.tmp 41) (.const (.int .i64 4)) 3) none,
            co (some 39) (.assign (.tmp 42)) none] [0, 6, 10, 11, 39])
        (.cond (.tmp 39)
          (.seq (.reg [co (some 43) (.build 165 #[]) none,
              co none (.store 165 (.tmp 6) (.tmp 43)) none,
              co (some 7) (.assign (.const (.int .i64 9))) none] [6, 7])
          (.ret))
          (.seq (.reg [co (some 45) (.fieldAddr 163 (.tmp 11) 0) none,
              co (some 46) (.load 3 (.tmp 45)) none,
              co (some 47) (.binOp .neq 3 (.tmp 46) (.const (.int .i64 1)) 3) none,
              co (some 48) (.move (.tmp 47)) none,
              co (some 49) (.fieldAddr 163 (.tmp 11) 0) (some (48, true)),
              co (some 50) (.load 3 (.tmp 49)) (some (48, true)),
              co (some 51) (.binOp .neq 3 (.tmp 50) (.const (.int .i64 2)) 3) (some (48, true)),
              co (some 52) (.pick (.tmp 48) (.tmp 51) (.const (.bool false))) none,
              co (some 53) (.move (.tmp 52)) none,
              co (some 54) (.fieldAddr 163 (.tmp 11) 1) (some (53, false)),
              co (some 55) (.load 3 (.tmp 54)) (some (53, false)),
              co (some 56) (.binOp .neq 3 (.tmp 55) (.const (.int .i64 0)) 3) (some (53, false)),
              co (some 57) (.pick (.tmp 53) (.const (.bool true)) (.tmp 56)) none,
              co (some 44) (.assign (.tmp 57)) none] [0, 6, 10, 11, 44])
          (.cond (.tmp 44)
            (.seq (.reg [co (some 58) (.build 165 #[]) none,
                co none (.store 165 (.tmp 6) (.tmp 58)) none,
                co (some 7) (.assign (.const (.int .i64 8))) none] [6, 7])
            (.ret))
            (.skip))))))))
  (.keep [0, 6, 10, 11] (.seq (.reg [co (some 59) (.move (.tmp 0)) none,
      co (some 60) (.load 163 (.tmp 11)) none,
      co (some 61) (.fieldAddr 163 (.tmp 10) 6) none,
      co (some 62) (.load 3 (.tmp 61)) none,
      co (some 63) (.fieldAddr 163 (.tmp 10) 1) none,
      co (some 64) (.load 3 (.tmp 63)) none,
      co (some 65) (.build 165 #[(0, (.tmp 60)), (1, (.tmp 62)), (2, (.tmp 64))]) none,
      co (some 66) (.call { callee := (.value (.func 146)), args := #[(.tmp 59), (.tmp 65)], argTypes := #[44, 165] }) none,
      co (some 67) (.extract (.tmp 66) 0) none,
      co (some 68) (.extract (.tmp 66) 1) none,
      co none (.store 165 (.tmp 6) (.tmp 67)) none,
      co (some 7) (.assign (.tmp 68)) none] [6, 7])
  (.ret))))))))
theorem t_far_double : Txt Try.prog 131 69 [(.cell 6 165), (.tmp 7)] c_far_double := txt_of (code := Try.f131.body.getD .ret) mixed (by kernel_rfl) Try.func131 (by kernel_rfl) Try.ntmps131 (by kernel_rfl) (ls := [([0, 1, 2, 6], [(0, [0])]), ([], []), ([0, 6, 8, 9], []), ([], []), ([0, 6, 8, 20], []), ([], []), ([6, 7], []), ([], []), ([999999, 0, 6, 8], []), ([0, 6, 10, 11], [(8, [1]), (9, [2])]), ([], []), ([0, 6, 10, 11, 30], []), ([], []), ([6, 7], []), ([], []), ([0, 6, 10, 11, 39], []), ([], []), ([6, 7], []), ([], []), ([0, 6, 10, 11, 44], []), ([], []), ([6, 7], []), ([], []), ([999999, 0, 6, 10, 11], []), ([6, 7], []), ([], [])]) (by kernel_rfl)


/-- cento/far.Follow -/
def c_far_Follow : CC :=
  .seq (.reg [cn (some 6) (.alloc 165) none [0],
      co (some 7) (.assign (.const (.int .i64 0))) none] [0, 1, 2, 6])
  (.seq (.reg [co (some 13) (.move (.tmp 0)) none,
      co (some 14) (.move (.tmp 1)) none,
      co (some 15) (.move (.tmp 2)) none,
      co (some 16) (.call { callee := (.value (.func 95)), args := #[(.tmp 13), (.tmp 14), (.tmp 15)], argTypes := #[44, 3, 3] }) none,
      co (some 12) (.move (.tmp 16)) none,
      co (some 17) (.extract (.tmp 12) 0) none,
      co (some 18) (.extract (.tmp 12) 1) none,
      co (some 8) (.assign (.tmp 17)) none,
      co (some 9) (.assign (.tmp 18)) none] [0, 1, 2, 6, 8, 9])
  (.seq (.seq (.reg [co (some 19) (.move (.tmp 9)) none,
        co (some 20) (.unOp .not 4 (.tmp 19)) none] [0, 1, 2, 6, 8, 20])
    (.cond (.tmp 20)
      (.seq (.reg [co (some 21) (.build 165 #[]) none,
          co none (.store 165 (.tmp 6) (.tmp 21)) none,
          co (some 7) (.assign (.const (.int .i64 7))) none] [6, 7])
      (.ret))
      (.skip)))
  (.keep [0, 1, 2, 6, 8] (.seq (.reg [co (some 22) (.move (.tmp 8)) none,
      co (some 23) (.call { callee := (.value (.func 129)), args := #[(.tmp 22)], argTypes := #[45] }) none,
      cn (some 10) (.alloc 163) none [1],
      co none (.store 163 (.tmp 10) (.tmp 23)) none] [0, 1, 2, 6, 10])
  (.seq (.block 0
      (.seq (.reg [co (some 25) (.fieldAddr 163 (.tmp 10) 0) none,
          co (some 26) (.load 3 (.tmp 25)) none,
          co (some 27) (.binOp .eql 3 (.tmp 26) (.const (.int .i64 0)) 3) none,
          co (some 24) (.assign (.tmp 27)) none] [0, 1, 2, 6, 10, 24])
      (.cond (.tmp 24)
        (.seq (.reg [co (some 28) (.build 165 #[]) none,
            co none (.store 165 (.tmp 6) (.tmp 28)) none,
            co (some 7) (.assign (.const (.int .i64 0))) none] [6, 7])
        (.ret))
        (.seq (.reg [co (some 30) (.fieldAddr 163 (.tmp 10) 0) none,
            co (some 31) (.load 3 (.tmp 30)) none,
            co (some 32) (.binOp .neq 3 (.tmp 31) (.const (.int .i64 3)) 3) none,
            co (some 29) (.assign (.tmp 32)) none] [0, 1, 2, 6, 10, 29])
        (.cond (.tmp 29)
          (.seq (.reg [co (some 33) (.move (.tmp 0)) none,
              co (some 34) (.load 163 (.tmp 10)) none,
              co (some 35) (.move (.tmp 1)) none,
              co (some 36) (.move (.tmp 2)) none,
              co (some 37) (.call { callee := (.value (.func 130)), args := #[(.tmp 33), (.tmp 34), (.tmp 35), (.tmp 36)], argTypes := #[44, 163, 3, 3] }) none,
              co (some 38) (.extract (.tmp 37) 0) none,
              co (some 39) (.extract (.tmp 37) 1) none,
              co none (.store 165 (.tmp 6) (.tmp 38)) none,
              co (some 7) (.assign (.tmp 39)) none] [6, 7])
          (.ret))
          (.seq (.reg [co (some 41) (.fieldAddr 163 (.tmp 10) 7) none,
              co (some 42) (.load 4 (.tmp 41)) none,
              co (some 40) (.assign (.tmp 42)) none] [0, 6, 10, 40])
          (.cond (.tmp 40)
            (.seq (.reg [co (some 43) (.move (.tmp 0)) none,
                co (some 44) (.fieldAddr 163 (.tmp 10) 6) none,
                co (some 45) (.load 3 (.tmp 44)) none,
                co (some 46) (.fieldAddr 163 (.tmp 10) 1) none,
                co (some 47) (.load 3 (.tmp 46)) none,
                co (some 48) (.call { callee := (.value (.func 131)), args := #[(.tmp 43), (.tmp 45), (.tmp 47)], argTypes := #[44, 3, 3] }) none,
                co (some 49) (.extract (.tmp 48) 0) none,
                co (some 50) (.extract (.tmp 48) 1) none,
                co none (.store 165 (.tmp 6) (.tmp 49)) none,
                co (some 7) (.assign (.tmp 50)) none] [6, 7])
            (.ret))
            (.skip))))))))
  (.keep [0, 6, 10] (.seq (.reg [co (some 52) (.move (.tmp 0)) none,
      co (some 53) (.fieldAddr 163 (.tmp 10) 6) none,
      co (some 54) (.load 3 (.tmp 53)) none,
      co (some 55) (.fieldAddr 163 (.tmp 10) 1) none,
      co (some 56) (.load 3 (.tmp 55)) none,
      co (some 57) (.call { callee := (.value (.func 95)), args := #[(.tmp 52), (.tmp 54), (.tmp 56)], argTypes := #[44, 3, 3] }) none,
      co (some 51) (.move (.tmp 57)) none,
      co (some 58) (.extract (.tmp 51) 0) none,
      co (some 59) (.extract (.tmp 51) 1) none,
      co (some 11) (.assign (.tmp 58)) none,
      co (some 9) (.assign (.tmp 59)) none] [0, 6, 9, 10, 11])
  (.seq (.seq (.reg [co (some 60) (.move (.tmp 9)) none,
        co (some 61) (.unOp .not 4 (.tmp 60)) none] [0, 6, 10, 11, 61])
    (.cond (.tmp 61)
      (.seq (.reg [co (some 62) (.build 165 #[]) none,
          co none (.store 165 (.tmp 6) (.tmp 62)) none,
          co (some 7) (.assign (.const (.int .i64 7))) none] [6, 7])
      (.ret))
      (.skip)))
  (.keep [0, 6, 10, 11] (.seq (.reg [co (some 63) (.move (.tmp 0)) none,
      co (some 64) (.move (.tmp 11)) none,
      ⟨some 65, (.call { callee := (.value (.func 129)), args := #[(.tmp 64)], argTypes := #[45] }), none, [], 2, [], true⟩,
      co (some 66) (.fieldAddr 163 (.tmp 10) 6) none,
      ⟨some 67, (.load 3 (.tmp 66)), none, [], 4, [2], false⟩,
      co (some 68) (.fieldAddr 163 (.tmp 10) 1) none,
      ⟨some 69, (.load 3 (.tmp 68)), none, [], 6, [2], false⟩,
      co (some 70) (.call { callee := (.value (.func 130)), args := #[(.tmp 63), (.tmp 65), (.tmp 67), (.tmp 69)], argTypes := #[44, 163, 3, 3] }) none,
      co (some 71) (.extract (.tmp 70) 0) none,
      co (some 72) (.extract (.tmp 70) 1) none,
      co none (.store 165 (.tmp 6) (.tmp 71)) none,
      co (some 7) (.assign (.tmp 72)) none] [6, 7])
  (.ret)))))))))))
theorem t_far_Follow : Txt Try.prog 103 73 [(.cell 6 165), (.tmp 7)] c_far_Follow := txt_of (code := Try.f103.body.getD .ret) mixed (by kernel_rfl) Try.func103 (by kernel_rfl) Try.ntmps103 (by kernel_rfl) (ls := [([0, 1, 2, 6], [(0, [0])]), ([], []), ([0, 1, 2, 6, 8, 9], []), ([], []), ([0, 1, 2, 6, 8, 20], []), ([], []), ([6, 7], []), ([], []), ([999999, 0, 1, 2, 6, 8], []), ([0, 1, 2, 6, 10], [(2, [1])]), ([], []), ([0, 1, 2, 6, 10, 24], []), ([], []), ([6, 7], []), ([], []), ([0, 1, 2, 6, 10, 29], []), ([], []), ([6, 7], []), ([], []), ([0, 6, 10, 40], []), ([], []), ([6, 7], []), ([], []), ([999999, 0, 6, 10], []), ([0, 6, 9, 10, 11], []), ([], []), ([0, 6, 10, 11, 61], []), ([], []), ([6, 7], []), ([], []), ([999999, 0, 6, 10, 11], []), ([6, 7], []), ([], [])]) (by kernel_rfl)

def k1_centoref04_Words : CC :=
  .seq (.seq (.reg [co (some 51) (.fieldAddr 148 (.tmp 1) 5) none,
        co (some 52) (.load 3 (.tmp 51)) none,
        co (some 53) (.move (.tmp 3)) none,
        co (some 54) (.binOp .rem 3 (.tmp 52) (.tmp 53) 3) none,
        co (some 55) (.binOp .gtr 3 (.tmp 54) (.const (.int .i64 0)) 3) none] [1, 3, 55])
    (.cond (.tmp 55)
      (.seq (.reg [co (some 56) (.fieldAddr 148 (.tmp 1) 5) none,
          co (some 57) (.load 3 (.tmp 56)) none,
          co (some 58) (.move (.tmp 3)) none,
          co (some 59) (.binOp .quo 3 (.tmp 57) (.tmp 58) 3) none,
          co (some 60) (.binOp .add 3 (.tmp 59) (.const (.int .i64 1)) 3) none,
          co (some 2) (.assign (.tmp 60)) none] [2])
      (.ret))
      (.skip)))
  (.keep [1, 3] (.seq (.reg [co (some 61) (.fieldAddr 148 (.tmp 1) 5) none,
      co (some 62) (.load 3 (.tmp 61)) none,
      co (some 63) (.move (.tmp 3)) none,
      co (some 64) (.binOp .quo 3 (.tmp 62) (.tmp 63) 3) none,
      co (some 2) (.assign (.tmp 64)) none] [2])
  (.ret)))

/-- cento/centoref04.Words -/
def c_centoref04_Words : CC :=
  .seq (.reg [cn (some 1) (.box 148 (.tmp 0)) none [0],
      co (some 2) (.assign (.const (.int .i64 0))) none] [1])
  (.seq (.seq (.reg [co (some 4) (.fieldAddr 148 (.tmp 1) 0) none,
        co (some 5) (.load 3 (.tmp 4)) none,
        co (some 6) (.binOp .eql 3 (.tmp 5) (.const (.int .i64 1)) 3) none] [1, 6])
    (.cond (.tmp 6)
      (.seq (.reg [co (some 7) (.fieldAddr 148 (.tmp 1) 2) none,
          co (some 8) (.load 3 (.tmp 7)) none,
          co (some 9) (.fieldAddr 148 (.tmp 1) 3) none,
          co (some 10) (.load 3 (.tmp 9)) none,
          co (some 11) (.binOp .add 3 (.tmp 8) (.tmp 10) 3) none,
          co (some 2) (.assign (.tmp 11)) none] [2])
      (.ret))
      (.skip)))
  (.keep [1] (.seq (.seq (.reg [co (some 12) (.fieldAddr 148 (.tmp 1) 0) none,
        co (some 13) (.load 3 (.tmp 12)) none,
        co (some 14) (.binOp .neq 3 (.tmp 13) (.const (.int .i64 2)) 3) none] [1, 14])
    (.cond (.tmp 14)
      (.seq (.reg [co (some 2) (.assign (.const (.int .i64 (-1)))) none] [2])
      (.ret))
      (.skip)))
  (.keep [1] (.seq (.seq (.reg [co (some 15) (.fieldAddr 148 (.tmp 1) 4) none,
        co (some 16) (.load 3 (.tmp 15)) none,
        co (some 17) (.binOp .eql 3 (.tmp 16) (.const (.int .i64 7)) 3) none] [1, 17])
    (.cond (.tmp 17)
      (.seq (.reg [co (some 18) (.fieldAddr 148 (.tmp 1) 5) none,
          co (some 19) (.load 3 (.tmp 18)) none,
          co (some 20) (.binOp .add 3 (.tmp 19) (.const (.int .i64 1)) 3) none,
          co (some 2) (.assign (.tmp 20)) none] [2])
      (.ret))
      (.skip)))
  (.keep [1] (.seq (.seq (.reg [co (some 21) (.fieldAddr 148 (.tmp 1) 4) none,
        co (some 22) (.load 3 (.tmp 21)) none,
        co (some 23) (.binOp .lss 3 (.tmp 22) (.const (.int .i64 0)) 3) none,
        co (some 24) (.move (.tmp 23)) none,
        co (some 25) (.fieldAddr 148 (.tmp 1) 4) (some (24, false)),
        co (some 26) (.load 3 (.tmp 25)) (some (24, false)),
        co (some 27) (.binOp .gtr 3 (.tmp 26) (.const (.int .i64 6)) 3) (some (24, false)),
        co (some 28) (.pick (.tmp 24) (.const (.bool true)) (.tmp 27)) none,
        co (some 29) (.move (.tmp 28)) none,
        co (some 30) (.fieldAddr 148 (.tmp 1) 5) (some (29, false)),
        co (some 31) (.load 3 (.tmp 30)) (some (29, false)),
        co (some 32) (.binOp .lss 3 (.tmp 31) (.const (.int .i64 0)) 3) (some (29, false)),
        co (some 33) (.pick (.tmp 29) (.const (.bool true)) (.tmp 32)) none,
        co (some 34) (.move (.tmp 33)) none,
        co (some 35) (.fieldAddr 148 (.tmp 1) 5) (some (34, false)),
        co (some 36) (.load 3 (.tmp 35)) (some (34, false)),
        co (some 37) (.binOp .geq 3 (.tmp 36) (.const (.int .i64 536870912)) 3) (some (34, false)),
        co (some 38) (.pick (.tmp 34) (.const (.bool true)) (.tmp 37)) none] [1, 38])
    (.cond (.tmp 38)
      (.seq (.reg [co (some 2) (.assign (.const (.int .i64 (-1)))) none] [2])
      (.ret))
      (.skip)))
  (.keep [1] (.seq (.reg [co (some 3) (.assign (.const (.int .i64 1))) none] [1, 3])
  (.seq (.seq (.reg [co (some 39) (.fieldAddr 148 (.tmp 1) 4) none,
        co (some 40) (.load 3 (.tmp 39)) none] [1, 3, 40])
    (.block 0
      (.seq (.reg [co (some 42) (.binOp .eql 3 (.tmp 40) (.const (.int .i64 0)) 3) none,
          co (some 41) (.assign (.tmp 42)) none] [1, 3, 40, 41])
      (.cond (.tmp 41)
        (.seq (.reg [co (some 2) (.assign (.const (.int .i64 0))) none] [2])
        (.ret))
        (.seq (.reg [co (some 44) (.binOp .eql 3 (.tmp 40) (.const (.int .i64 1)) 3) none,
            co (some 43) (.assign (.tmp 44)) none] [1, 3, 40, 43])
        (.cond (.tmp 43)
          (.reg [co (some 3) (.assign (.const (.int .i64 64))) none] [1, 3])
          (.seq (.reg [co (some 46) (.binOp .eql 3 (.tmp 40) (.const (.int .i64 2)) 3) none,
              co (some 45) (.assign (.tmp 46)) none] [1, 3, 40, 45])
          (.cond (.tmp 45)
            (.reg [co (some 3) (.assign (.const (.int .i64 8))) none] [1, 3])
            (.seq (.reg [co (some 48) (.binOp .eql 3 (.tmp 40) (.const (.int .i64 3)) 3) none,
                co (some 47) (.assign (.tmp 48)) none] [1, 3, 40, 47])
            (.cond (.tmp 47)
              (.reg [co (some 3) (.assign (.const (.int .i64 4))) none] [1, 3])
              (.seq (.reg [co (some 50) (.binOp .eql 3 (.tmp 40) (.const (.int .i64 4)) 3) none,
                  co (some 49) (.assign (.tmp 50)) none] [1, 3, 49])
              (.cond (.tmp 49)
                (.reg [co (some 3) (.assign (.const (.int .i64 2))) none] [1, 3])
                (.skip)))))))))))))
  (.keep [1, 3] k1_centoref04_Words)))))))))))
theorem t_centoref04_Words : Txt Try.prog 142 65 [(.tmp 2)] c_centoref04_Words := txt_of (code := Try.f142.body.getD .ret) mixed (by kernel_rfl) Try.func142 (by kernel_rfl) Try.ntmps142 (by kernel_rfl) (ls := [([1], [(0, [0])]), ([], []), ([1, 6], []), ([], []), ([2], []), ([], []), ([999999, 1], []), ([1, 14], []), ([], []), ([2], []), ([], []), ([999999, 1], []), ([1, 17], []), ([], []), ([2], []), ([], []), ([999999, 1], []), ([1, 38], []), ([], []), ([2], []), ([], []), ([999999, 1], []), ([1, 3], []), ([], []), ([1, 3, 40], []), ([], []), ([1, 3, 40, 41], []), ([], []), ([2], []), ([], []), ([1, 3, 40, 43], []), ([], []), ([1, 3], []), ([1, 3, 40, 45], []), ([], []), ([1, 3], []), ([1, 3, 40, 47], []), ([], []), ([1, 3], []), ([1, 3, 49], []), ([], []), ([1, 3], []), ([999999, 1, 3], []), ([1, 3, 55], []), ([], []), ([2], []), ([], []), ([999999, 1, 3], []), ([2], []), ([], [])]) (by kernel_rfl)


/-- cento/centoref06.has -/
def c_centoref06_has : CC :=
  .seq (.reg [co (some 6) (.assign (.const (.bool false))) none] [0, 1, 2])
  (.seq (.reg [co (some 7) (.move (.tmp 1)) none,
      co (some 8) (.binOp .geq 3 (.tmp 7) (.const (.int .i64 0)) 3) none,
      co (some 9) (.move (.tmp 8)) none,
      co (some 10) (.move (.tmp 1)) (some (9, true)),
      co (some 11) (.move (.tmp 0)) (some (9, true)),
      co (some 12) (.call { callee := (.builtin .len), args := #[(.tmp 11)], argTypes := #[38] }) (some (9, true)),
      co (some 13) (.binOp .lss 3 (.tmp 10) (.tmp 12) 3) (some (9, true)),
      co (some 14) (.pick (.tmp 9) (.tmp 13) (.const (.bool false))) none,
      co (some 15) (.move (.tmp 14)) none,
      co (some 16) (.move (.tmp 2)) (some (15, true)),
      co (some 17) (.binOp .geq 3 (.tmp 16) (.const (.int .i64 0)) 3) (some (15, true)),
      co (some 18) (.pick (.tmp 15) (.tmp 17) (.const (.bool false))) none,
      co (some 19) (.move (.tmp 18)) none,
      co (some 20) (.move (.tmp 2)) (some (19, true)),
      co (some 21) (.move (.tmp 0)) (some (19, true)),
      co (some 22) (.move (.tmp 1)) (some (19, true)),
      co (some 23) (.indexAddr 38 (.tmp 21) (.tmp 22)) (some (19, true)),
      co (some 24) (.load 22 (.tmp 23)) (some (19, true)),
      co (some 25) (.call { callee := (.builtin .len), args := #[(.tmp 24)], argTypes := #[22] }) (some (19, true)),
      co (some 26) (.binOp .lss 3 (.tmp 20) (.tmp 25) 3) (some (19, true)),
      co (some 27) (.pick (.tmp 19) (.tmp 26) (.const (.bool false))) none,
      co (some 6) (.assign (.tmp 27)) none] [6])
  (.ret))
theorem t_centoref06_has : Txt Try.prog 119 28 [(.tmp 6)] c_centoref06_has := txt_of (code := Try.f119.body.getD .ret) mixed (by kernel_rfl) Try.func119 (by kernel_rfl) Try.ntmps119 (by kernel_rfl) (ls := [([0, 1, 2], []), ([], []), ([6], []), ([], [])]) (by kernel_rfl)


/-- cento/centoref06.whole -/
def c_centoref06_whole : CC :=
  .seq (.reg [cn (some 3) (.box 150 (.tmp 1)) none [0],
      cn (some 4) (.alloc 150) none [1],
      co (some 5) (.assign (.const (.int .i64 0))) none] [0, 3, 4])
  (.seq (.reg [co (some 7) (.fieldAddr 150 (.tmp 3) 0) none,
      co (some 8) (.load 148 (.tmp 7)) none,
      co (some 9) (.call { callee := (.value (.func 142)), args := #[(.tmp 8)], argTypes := #[148] }) none,
      co (some 6) (.assign (.tmp 9)) none] [0, 3, 4, 6])
  (.seq (.seq (.reg [co (some 10) (.fieldAddr 150 (.tmp 3) 1) none,
        co (some 11) (.load 3 (.tmp 10)) none,
        co (some 12) (.binOp .lss 3 (.tmp 11) (.const (.int .i64 0)) 3) none,
        co (some 13) (.move (.tmp 12)) none,
        co (some 14) (.fieldAddr 150 (.tmp 3) 1) (some (13, false)),
        co (some 15) (.load 3 (.tmp 14)) (some (13, false)),
        co (some 16) (.move (.tmp 0)) (some (13, false)),
        co (some 17) (.call { callee := (.builtin .len), args := #[(.tmp 16)], argTypes := #[38] }) (some (13, false)),
        co (some 18) (.binOp .geq 3 (.tmp 15) (.tmp 17) 3) (some (13, false)),
        co (some 19) (.pick (.tmp 13) (.const (.bool true)) (.tmp 18)) none,
        co (some 20) (.move (.tmp 19)) none,
        co (some 21) (.fieldAddr 150 (.tmp 3) 2) (some (20, false)),
        co (some 22) (.load 3 (.tmp 21)) (some (20, false)),
        co (some 23) (.binOp .lss 3 (.tmp 22) (.const (.int .i64 0)) 3) (some (20, false)),
        co (some 24) (.pick (.tmp 20) (.const (.bool true)) (.tmp 23)) none,
        co (some 25) (.move (.tmp 24)) none,
        co (some 26) (.fieldAddr 150 (.tmp 3) 2) (some (25, false)),
        co (some 27) (.load 3 (.tmp 26)) (some (25, false)),
        co (some 28) (.move (.tmp 0)) (some (25, false)),
        co (some 29) (.fieldAddr 150 (.tmp 3) 1) (some (25, false)),
        co (some 30) (.load 3 (.tmp 29)) (some (25, false)),
        co (some 31) (.indexAddr 38 (.tmp 28) (.tmp 30)) (some (25, false)),
        co (some 32) (.load 22 (.tmp 31)) (some (25, false)),
        co (some 33) (.call { callee := (.builtin .len), args := #[(.tmp 32)], argTypes := #[22] }) (some (25, false)),
        co (some 34) (.binOp .gtr 3 (.tmp 27) (.tmp 33) 3) (some (25, false)),
        co (some 35) (.pick (.tmp 25) (.const (.bool true)) (.tmp 34)) none,
        co (some 36) (.move (.tmp 35)) none,
        co (some 37) (.move (.tmp 6)) (some (36, false)),
        co (some 38) (.move (.tmp 0)) (some (36, false)),
        co (some 39) (.fieldAddr 150 (.tmp 3) 1) (some (36, false)),
        co (some 40) (.load 3 (.tmp 39)) (some (36, false)),
        co (some 41) (.indexAddr 38 (.tmp 38) (.tmp 40)) (some (36, false)),
        co (some 42) (.load 22 (.tmp 41)) (some (36, false)),
        co (some 43) (.call { callee := (.builtin .len), args := #[(.tmp 42)], argTypes := #[22] }) (some (36, false)),
        co (some 44) (.fieldAddr 150 (.tmp 3) 2) (some (36, false)),
        co (some 45) (.load 3 (.tmp 44)) (some (36, false)),
        co (some 46) (.binOp .sub 3 (.tmp 43) (.tmp 45) 3) (some (36, false)),
        co (some 47) (.binOp .gtr 3 (.tmp 37) (.tmp 46) 3) (some (36, false)),
        co (some 48) (.pick (.tmp 36) (.const (.bool true)) (.tmp 47)) none] [3, 4, 48])
    (.cond (.tmp 48)
      (.seq (.reg [co (some 49) (.build 150 #[]) none,
          co none (.store 150 (.tmp 4) (.tmp 49)) none,
          co (some 5) (.assign (.const (.int .i64 7))) none] [4, 5])
      (.ret))
      (.skip)))
  (.keep [3, 4] (.seq (.reg [co (some 50) (.fieldAddr 150 (.tmp 3) 0) none,
      co (some 51) (.fieldAddr 148 (.tmp 50) 1) none,
      co none (.store 3 (.tmp 51) (.const (.int .i64 0))) none] [3, 4])
  (.seq (.reg [co (some 52) (.load 150 (.tmp 3)) none,
      co none (.store 150 (.tmp 4) (.tmp 52)) none,
      co (some 5) (.assign (.const (.int .i64 0))) none] [4, 5])
  (.ret))))))
theorem t_centoref06_whole : Txt Try.prog 121 53 [(.cell 4 150), (.tmp 5)] c_centoref06_whole := txt_of (code := Try.f121.body.getD .ret) mixed (by kernel_rfl) Try.func121 (by kernel_rfl) Try.ntmps121 (by kernel_rfl) (ls := [([0, 3, 4], [(0, [0]), (1, [1])]), ([], []), ([0, 3, 4, 6], []), ([], []), ([3, 4, 48], []), ([], []), ([4, 5], []), ([], []), ([999999, 3, 4], []), ([3, 4], []), ([], []), ([4, 5], []), ([], [])]) (by kernel_rfl)


/-- cento/centoref06.shape -/
def c_centoref06_shape : CC :=
  .seq (.reg [cn (some 1) (.box 148 (.tmp 0)) none [0],
      co (some 2) (.assign (.const (.int .i64 0))) none] [1])
  (.seq (.seq (.reg [co (some 3) (.fieldAddr 148 (.tmp 1) 0) none,
        co (some 4) (.load 3 (.tmp 3)) none,
        co (some 5) (.binOp .eql 3 (.tmp 4) (.const (.int .i64 4)) 3) none] [1, 5])
    (.cond (.tmp 5)
      (.seq (.reg [co (some 2) (.assign (.const (.int .i64 9))) none] [2])
      (.ret))
      (.skip)))
  (.keep [1] (.seq (.seq (.reg [co (some 6) (.fieldAddr 148 (.tmp 1) 0) none,
        co (some 7) (.load 3 (.tmp 6)) none,
        co (some 8) (.binOp .neq 3 (.tmp 7) (.const (.int .i64 1)) 3) none,
        co (some 9) (.move (.tmp 8)) none,
        co (some 10) (.fieldAddr 148 (.tmp 1) 0) (some (9, true)),
        co (some 11) (.load 3 (.tmp 10)) (some (9, true)),
        co (some 12) (.binOp .neq 3 (.tmp 11) (.const (.int .i64 2)) 3) (some (9, true)),
        co (some 13) (.pick (.tmp 9) (.tmp 12) (.const (.bool false))) none] [13])
    (.cond (.tmp 13)
      (.seq (.reg [co (some 2) (.assign (.const (.int .i64 8))) none] [2])
      (.ret))
      (.skip)))
  (.keep [] (.seq (.reg [co (some 2) (.assign (.const (.int .i64 0))) none] [2])
  (.ret))))))
theorem t_centoref06_shape : Txt Try.prog 120 14 [(.tmp 2)] c_centoref06_shape := txt_of (code := Try.f120.body.getD .ret) mixed (by kernel_rfl) Try.func120 (by kernel_rfl) Try.ntmps120 (by kernel_rfl) (ls := [([1], [(0, [0])]), ([], []), ([1, 5], []), ([], []), ([2], []), ([], []), ([999999, 1], []), ([13], []), ([], []), ([2], []), ([], []), ([999999], []), ([2], []), ([], [])]) (by kernel_rfl)

def k1_centoref06_Follow : CC :=
  .seq (.seq (.reg [co (some 94) (.move (.tmp 11)) none,
        co (some 95) (.binOp .neq 3 (.tmp 94) (.const (.int .i64 0)) 3) none] [0, 6, 9, 10, 11, 95])
    (.cond (.tmp 95)
      (.seq (.reg [co (some 96) (.build 150 #[]) none,
          co (some 97) (.move (.tmp 11)) none,
          co none (.store 150 (.tmp 6) (.tmp 96)) none,
          co (some 7) (.assign (.tmp 97)) none] [6, 7])
      (.ret))
      (.skip)))
  (.keep [0, 6, 9, 10] (.seq (.reg [co (some 98) (.move (.tmp 0)) none,
      co (some 99) (.load 148 (.tmp 10)) none,
      co (some 100) (.fieldAddr 148 (.tmp 9) 6) none,
      co (some 101) (.load 3 (.tmp 100)) none,
      co (some 102) (.fieldAddr 148 (.tmp 9) 1) none,
      co (some 103) (.load 3 (.tmp 102)) none,
      co (some 104) (.build 150 #[(0, (.tmp 99)), (1, (.tmp 101)), (2, (.tmp 103))]) none,
      co (some 105) (.call { callee := (.value (.func 121)), args := #[(.tmp 98), (.tmp 104)], argTypes := #[38, 150] }) none,
      co (some 106) (.extract (.tmp 105) 0) none,
      co (some 107) (.extract (.tmp 105) 1) none,
      co none (.store 150 (.tmp 6) (.tmp 106)) none,
      co (some 7) (.assign (.tmp 107)) none] [6, 7])
  (.ret)))
def k2_centoref06_Follow : CC :=
  .seq (.reg [co (some 129) (.load 148 (.tmp 8)) none,
      co (some 130) (.call { callee := (.value (.func 120)), args := #[(.tmp 129)], argTypes := #[148] }) none,
      co (some 12) (.assign (.tmp 130)) none] [0, 1, 2, 6, 8, 12])
  (.seq (.seq (.reg [co (some 131) (.move (.tmp 12)) none,
        co (some 132) (.binOp .neq 3 (.tmp 131) (.const (.int .i64 0)) 3) none] [0, 1, 2, 6, 8, 12, 132])
    (.cond (.tmp 132)
      (.seq (.reg [co (some 133) (.build 150 #[]) none,
          co (some 134) (.move (.tmp 12)) none,
          co none (.store 150 (.tmp 6) (.tmp 133)) none,
          co (some 7) (.assign (.tmp 134)) none] [6, 7])
      (.ret))
      (.skip)))
  (.keep [0, 1, 2, 6, 8] (.seq (.reg [co (some 135) (.move (.tmp 0)) none,
      co (some 136) (.load 148 (.tmp 8)) none,
      co (some 137) (.move (.tmp 1)) none,
      co (some 138) (.move (.tmp 2)) none,
      co (some 139) (.binOp .add 3 (.tmp 138) (.const (.int .i64 1)) 3) none,
      co (some 140) (.fieldAddr 148 (.tmp 8) 1) none,
      co (some 141) (.load 3 (.tmp 140)) none,
      co (some 142) (.binOp .add 3 (.tmp 139) (.tmp 141) 3) none,
      co (some 143) (.build 150 #[(0, (.tmp 136)), (1, (.tmp 137)), (2, (.tmp 142))]) none,
      co (some 144) (.call { callee := (.value (.func 121)), args := #[(.tmp 135), (.tmp 143)], argTypes := #[38, 150] }) none,
      co (some 145) (.extract (.tmp 144) 0) none,
      co (some 146) (.extract (.tmp 144) 1) none,
      co none (.store 150 (.tmp 6) (.tmp 145)) none,
      co (some 7) (.assign (.tmp 146)) none] [6, 7])
  (.ret))))

/-- cento/centoref06.Follow -/
def c_centoref06_Follow : CC :=
  .seq (.reg [cn (some 6) (.alloc 150) none [0],
      co (some 7) (.assign (.const (.int .i64 0))) none] [0, 1, 2, 6])
  (.seq (.seq (.reg [co (some 13) (.move (.tmp 0)) none,
        co (some 14) (.move (.tmp 1)) none,
        co (some 15) (.move (.tmp 2)) none,
        co (some 16) (.call { callee := (.value (.func 119)), args := #[(.tmp 13), (.tmp 14), (.tmp 15)], argTypes := #[38, 3, 3] }) none,
        co (some 17) (.unOp .not 4 (.tmp 16)) none] [0, 1, 2, 6, 17])
    (.cond (.tmp 17)
      (.seq (.reg [co (some 18) (.build 150 #[]) none,
          co none (.store 150 (.tmp 6) (.tmp 18)) none,
          co (some 7) (.assign (.const (.int .i64 7))) none] [6, 7])
      (.ret))
      (.skip)))
  (.keep [0, 1, 2, 6] (.seq (.reg [co (some 19) (.move (.tmp 0)) none,
      co (some 20) (.move (.tmp 1)) none,
      co (some 21) (.indexAddr 38 (.tmp 19) (.tmp 20)) none,
      co (some 22) (.load 22 (.tmp 21)) none,
      co (some 23) (.move (.tmp 2)) none,
      co (some 24) (.indexAddr 22 (.tmp 22) (.tmp 23)) none,
      co (some 25) (.load 45 (.tmp 24)) none,
      co (some 26) (.call { callee := (.value (.func 90)), args := #[(.tmp 25)], argTypes := #[45] }) none,
      cn (some 8) (.alloc 148) none [1],
      co none (.store 148 (.tmp 8) (.tmp 26)) none] [0, 1, 2, 6, 8])
  (.seq (.seq (.reg [co (some 27) (.fieldAddr 148 (.tmp 8) 0) none,
        co (some 28) (.load 3 (.tmp 27)) none,
        co (some 29) (.binOp .eql 3 (.tmp 28) (.const (.int .i64 0)) 3) none] [0, 1, 2, 6, 8, 29])
    (.cond (.tmp 29)
      (.seq (.reg [co (some 30) (.build 150 #[]) none,
          co none (.store 150 (.tmp 6) (.tmp 30)) none,
          co (some 7) (.assign (.const (.int .i64 0))) none] [6, 7])
      (.ret))
      (.skip)))
  (.keep [0, 1, 2, 6, 8] (.seq (.seq (.reg [co (some 31) (.fieldAddr 148 (.tmp 8) 0) none,
        co (some 32) (.load 3 (.tmp 31)) none,
        co (some 33) (.binOp .eql 3 (.tmp 32) (.const (.int .i64 3)) 3) none,
        co (some 34) (.move (.tmp 33)) none,
        co (some 35) (.fieldAddr 148 (.tmp 8) 7) (some (34, true)),
        co (some 36) (.load 4 (.tmp 35)) (some (34, true)),
        co (some 37) (.pick (.tmp 34) (.tmp 36) (.const (.bool false))) none] [0, 1, 2, 6, 8, 37])
    (.cond (.tmp 37)
      (.seq (.seq (.reg [co (some 38) (.move (.tmp 0)) none,
            co (some 39) (.fieldAddr 148 (.tmp 8) 6) none,
            co (some 40) (.load 3 (.tmp 39)) none,
            co (some 41) (.fieldAddr 148 (.tmp 8) 1) none,
            co (some 42) (.load 3 (.tmp 41)) none,
            co (some 43) (.call { callee := (.value (.func 119)), args := #[(.tmp 38), (.tmp 40), (.tmp 42)], argTypes := #[38, 3, 3] }) none,
            co (some 44) (.unOp .not 4 (.tmp 43)) none,
            co (some 45) (.move (.tmp 44)) none,
            co (some 46) (.move (.tmp 0)) (some (45, false)),
            co (some 47) (.fieldAddr 148 (.tmp 8) 6) (some (45, false)),
            co (some 48) (.load 3 (.tmp 47)) (some (45, false)),
            co (some 49) (.fieldAddr 148 (.tmp 8) 1) (some (45, false)),
            co (some 50) (.load 3 (.tmp 49)) (some (45, false)),
            co (some 51) (.binOp .add 3 (.tmp 50) (.const (.int .i64 1)) 3) (some (45, false)),
            co (some 52) (.call { callee := (.value (.func 119)), args := #[(.tmp 46), (.tmp 48), (.tmp 51)], argTypes := #[38, 3, 3] }) (some (45, false)),
            co (some 53) (.unOp .not 4 (.tmp 52)) (some (45, false)),
            co (some 54) (.pick (.tmp 45) (.const (.bool true)) (.tmp 53)) none] [0, 6, 8, 54])
        (.cond (.tmp 54)
          (.seq (.reg [co (some 55) (.build 150 #[]) none,
              co none (.store 150 (.tmp 6) (.tmp 55)) none,
              co (some 7) (.assign (.const (.int .i64 7))) none] [6, 7])
          (.ret))
          (.skip)))
      (.keep [0, 6, 8] (.seq (.reg [co (some 56) (.move (.tmp 0)) none,
          co (some 57) (.fieldAddr 148 (.tmp 8) 6) none,
          ⟨some 58, (.load 3 (.tmp 57)), none, [], 2, [], true⟩,
          co (some 59) (.indexAddr 38 (.tmp 56) (.tmp 58)) none,
          ⟨some 60, (.load 22 (.tmp 59)), none, [], 4, [], true⟩,
          co (some 61) (.fieldAddr 148 (.tmp 8) 1) none,
          ⟨some 62, (.load 3 (.tmp 61)), none, [], 6, [], true⟩,
          co (some 63) (.indexAddr 22 (.tmp 60) (.tmp 62)) none,
          ⟨some 64, (.load 45 (.tmp 63)), none, [], 8, [], true⟩,
          ⟨some 65, (.call { callee := (.value (.func 90)), args := #[(.tmp 64)], argTypes := #[45] }), none, [], 9, [], true⟩,
          co (some 66) (.move (.tmp 0)) none,
          co (some 67) (.fieldAddr 148 (.tmp 8) 6) none,
          ⟨some 68, (.load 3 (.tmp 67)), none, [], 12, [9], true⟩,
          co (some 69) (.indexAddr 38 (.tmp 66) (.tmp 68)) none,
          ⟨some 70, (.load 22 (.tmp 69)), none, [], 14, [9], true⟩,
          co (some 71) (.fieldAddr 148 (.tmp 8) 1) none,
          ⟨some 72, (.load 3 (.tmp 71)), none, [], 16, [9], true⟩,
          co (some 73) (.binOp .add 3 (.tmp 72) (.const (.int .i64 1)) 3) none,
          co (some 74) (.indexAddr 22 (.tmp 70) (.tmp 73)) none,
          ⟨some 75, (.load 45 (.tmp 74)), none, [], 19, [9], true⟩,
          ⟨some 76, (.call { callee := (.value (.func 90)), args := #[(.tmp 75)], argTypes := #[45] }), none, [], 20, [], true⟩,
          ⟨some 9, (.alloc 148), none, [2], 21, [2, 4, 6, 8, 9, 12, 14, 16, 19, 20], true⟩,
          ⟨some 10, (.alloc 148), none, [3], 22, [2, 4, 6, 8, 9, 12, 14, 16, 19, 20, 21], false⟩,
          co none (.store 148 (.tmp 9) (.tmp 65)) none,
          co none (.store 148 (.tmp 10) (.tmp 76)) none] [0, 6, 9, 10])
      (.seq (.seq (.reg [co (some 77) (.fieldAddr 148 (.tmp 9) 0) none,
            co (some 78) (.load 3 (.tmp 77)) none,
            co (some 79) (.binOp .neq 3 (.tmp 78) (.const (.int .i64 3)) 3) none,
            co (some 80) (.move (.tmp 79)) none,
            co (some 81) (.fieldAddr 148 (.tmp 9) 7) (some (80, false)),
            co (some 82) (.load 4 (.tmp 81)) (some (80, false)),
            co (some 83) (.pick (.tmp 80) (.const (.bool true)) (.tmp 82)) none] [0, 6, 9, 10, 83])
        (.cond (.tmp 83)
          (.seq (.reg [co (some 84) (.build 150 #[]) none,
              co none (.store 150 (.tmp 6) (.tmp 84)) none,
              co (some 7) (.assign (.const (.int .i64 8))) none] [6, 7])
          (.ret))
          (.skip)))
      (.keep [0, 6, 9, 10] (.seq (.reg [co (some 85) (.load 148 (.tmp 10)) none,
          co (some 86) (.call { callee := (.value (.func 120)), args := #[(.tmp 85)], argTypes := #[148] }) none,
          co (some 11) (.assign (.tmp 86)) none] [0, 6, 9, 10, 11])
      (.seq (.seq (.reg [co (some 87) (.move (.tmp 11)) none,
            co (some 88) (.binOp .eql 3 (.tmp 87) (.const (.int .i64 0)) 3) none,
            co (some 89) (.move (.tmp 88)) none,
            co (some 90) (.fieldAddr 148 (.tmp 10) 1) (some (89, true)),
            co (some 91) (.load 3 (.tmp 90)) (some (89, true)),
            co (some 92) (.binOp .neq 3 (.tmp 91) (.const (.int .i64 0)) 3) (some (89, true)),
            co (some 93) (.pick (.tmp 89) (.tmp 92) (.const (.bool false))) none] [0, 6, 9, 10, 11, 93])
        (.cond (.tmp 93)
          (.reg [co (some 11) (.assign (.const (.int .i64 8))) none] [0, 6, 9, 10, 11])
          (.skip)))
      (.keep [0, 6, 9, 10, 11] k1_centoref06_Follow))))))))
      (.skip)))
  (.keep [0, 1, 2, 6, 8] (.seq (.seq (.reg [co (some 108) (.fieldAddr 148 (.tmp 8) 0) none,
        co (some 109) (.load 3 (.tmp 108)) none,
        co (some 110) (.binOp .eql 3 (.tmp 109) (.const (.int .i64 3)) 3) none] [0, 1, 2, 6, 8, 110])
    (.cond (.tmp 110)
      (.seq (.reg [co (some 111) (.fieldAddr 148 (.tmp 8) 6) none,
          co (some 112) (.load 3 (.tmp 111)) none,
          co (some 1) (.assign (.tmp 112)) none] [0, 1, 6, 8])
      (.seq (.reg [co (some 113) (.fieldAddr 148 (.tmp 8) 1) none,
          co (some 114) (.load 3 (.tmp 113)) none,
          co (some 2) (.assign (.tmp 114)) none] [0, 1, 2, 6, 8])
      (.seq (.seq (.reg [co (some 115) (.move (.tmp 0)) none,
            co (some 116) (.move (.tmp 1)) none,
            co (some 117) (.move (.tmp 2)) none,
            co (some 118) (.call { callee := (.value (.func 119)), args := #[(.tmp 115), (.tmp 116), (.tmp 117)], argTypes := #[38, 3, 3] }) none,
            co (some 119) (.unOp .not 4 (.tmp 118)) none] [0, 1, 2, 6, 8, 119])
        (.cond (.tmp 119)
          (.seq (.reg [co (some 120) (.build 150 #[]) none,
              co none (.store 150 (.tmp 6) (.tmp 120)) none,
              co (some 7) (.assign (.const (.int .i64 7))) none] [6, 7])
          (.ret))
          (.skip)))
      (.keep [0, 1, 2, 6, 8] (.reg [co (some 121) (.move (.tmp 0)) none,
        co (some 122) (.move (.tmp 1)) none,
        co (some 123) (.indexAddr 38 (.tmp 121) (.tmp 122)) none,
        co (some 124) (.load 22 (.tmp 123)) none,
        co (some 125) (.move (.tmp 2)) none,
        co (some 126) (.indexAddr 22 (.tmp 124) (.tmp 125)) none,
        co (some 127) (.load 45 (.tmp 126)) none,
        co (some 128) (.call { callee := (.value (.func 90)), args := #[(.tmp 127)], argTypes := #[45] }) none,
        co none (.store 148 (.tmp 8) (.tmp 128)) none] [0, 1, 2, 6, 8])))))
      (.skip)))
  (.keep [0, 1, 2, 6, 8] k2_centoref06_Follow)))))))))
theorem t_centoref06_Follow : Txt Try.prog 89 147 [(.cell 6 150), (.tmp 7)] c_centoref06_Follow := txt_of (code := Try.f89.body.getD .ret) mixed (by kernel_rfl) Try.func89 (by kernel_rfl) Try.ntmps89 (by kernel_rfl) (ls := [([0, 1, 2, 6], [(0, [0])]), ([], []), ([0, 1, 2, 6, 17], []), ([], []), ([6, 7], []), ([], []), ([999999, 0, 1, 2, 6], []), ([0, 1, 2, 6, 8], [(8, [1])]), ([], []), ([0, 1, 2, 6, 8, 29], []), ([], []), ([6, 7], []), ([], []), ([999999, 0, 1, 2, 6, 8], []), ([0, 1, 2, 6, 8, 37], []), ([], []), ([0, 6, 8, 54], []), ([], []), ([6, 7], []), ([], []), ([999999, 0, 6, 8], []), ([0, 6, 9, 10], [(21, [2]), (22, [3])]), ([], []), ([0, 6, 9, 10, 83], []), ([], []), ([6, 7], []), ([], []), ([999999, 0, 6, 9, 10], []), ([0, 6, 9, 10, 11], []), ([], []), ([0, 6, 9, 10, 11, 93], []), ([], []), ([0, 6, 9, 10, 11], []), ([999999, 0, 6, 9, 10, 11], []), ([0, 6, 9, 10, 11, 95], []), ([], []), ([6, 7], []), ([], []), ([999999, 0, 6, 9, 10], []), ([6, 7], []), ([], []), ([999999, 0, 1, 2, 6, 8], []), ([0, 1, 2, 6, 8, 110], []), ([], []), ([0, 1, 6, 8], []), ([], []), ([0, 1, 2, 6, 8], []), ([], []), ([0, 1, 2, 6, 8, 119], []), ([], []), ([6, 7], []), ([], []), ([999999, 0, 1, 2, 6, 8], []), ([0, 1, 2, 6, 8], []), ([999999, 0, 1, 2, 6, 8], []), ([0, 1, 2, 6, 8, 12], []), ([], []), ([0, 1, 2, 6, 8, 12, 132], []), ([], []), ([6, 7], []), ([], []), ([999999, 0, 1, 2, 6, 8], []), ([6, 7], []), ([], [])]) (by kernel_rfl)
end Go.Proofs.Ytigdcnlhgelkaaa
