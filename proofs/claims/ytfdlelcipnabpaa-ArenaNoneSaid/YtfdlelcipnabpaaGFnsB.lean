/-
  The functions' text as data, and the facts on the types that they use: written by a program of ours (gen2.py) off the translation.
-/
import Derived.Test.YtfdlelcipnabpaaProg
import Derived.Test.YtfdlelcipnabpaaGSimp
import Derived.Test.YtfdlelcipnabpaaGFnsA
import Derived.KernelRfl
namespace Go.Proofs.Ytfdlelcipnabpaa
set_option linter.unusedVariables false
set_option linter.unusedSimpArgs false
set_option maxRecDepth 20000
open Go Go.G Go.Proofs

@[simp] theorem und_35 : Try.prog.underlying 35 = some (.pointer 88) := by kernel_rfl
@[simp] theorem und_44 : Try.prog.underlying 44 = some (.slice 45) := by kernel_rfl
@[simp] theorem und_45 : Try.prog.underlying 45 = some (.slice 22) := by kernel_rfl
@[simp] theorem und_69 : Try.prog.underlying 69 = some (.int .i64) := by kernel_rfl
@[simp] theorem und_96 : Try.prog.underlying 96 = some (.array 7 3) := by kernel_rfl
@[simp] theorem szT_22 : szT Try.prog 22 = some 1 := by kernel_rfl
@[simp] theorem szT_44 : szT Try.prog 44 = some 1 := by kernel_rfl
@[simp] theorem szT_45 : szT Try.prog 45 = some 1 := by kernel_rfl
@[simp] theorem szT_68 : szT Try.prog 68 = some 10 := by kernel_rfl
@[simp] theorem szT_73 : szT Try.prog 73 = some 10 := by kernel_rfl
@[simp] theorem szT_96 : szT Try.prog 96 = some 7 := by kernel_rfl
@[simp] theorem aggT_22 : aggT Try.prog 22 = some false := by kernel_rfl
@[simp] theorem aggT_44 : aggT Try.prog 44 = some false := by kernel_rfl
@[simp] theorem aggT_45 : aggT Try.prog 45 = some false := by kernel_rfl
@[simp] theorem aggT_68 : aggT Try.prog 68 = some true := by kernel_rfl
@[simp] theorem aggT_73 : aggT Try.prog 73 = some true := by kernel_rfl
@[simp] theorem zeroT_22 : zeroT Try.prog 22 = some (Value.int IntKind.u64 0) := by kernel_rfl
@[simp] theorem zeroT_45 : zeroT Try.prog 45 = some (Value.slice none 0 0) := by kernel_rfl
@[simp] theorem zeroT_68 : zeroT Try.prog 68 = some (Value.agg #[Value.int IntKind.i64 0, Value.int IntKind.i64 0, Value.int IntKind.i64 0, Value.int IntKind.i64 0, Value.int IntKind.i64 0, Value.int IntKind.i64 0, Value.int IntKind.i64 0, Value.bool false, Value.int IntKind.i64 0, Value.int IntKind.i64 0]) := by kernel_rfl
@[simp] theorem zeroT_73 : zeroT Try.prog 73 = some (Value.agg #[Value.int IntKind.i64 0, Value.int IntKind.i64 0, Value.int IntKind.i64 0, Value.int IntKind.i64 0, Value.int IntKind.i64 0, Value.int IntKind.i64 0, Value.int IntKind.i64 0, Value.bool false, Value.int IntKind.i64 0, Value.int IntKind.i64 0]) := by kernel_rfl
@[simp] theorem zeroT_96 : zeroT Try.prog 96 = some (Value.agg #[Value.int IntKind.i64 0, Value.int IntKind.i64 0, Value.int IntKind.i64 0, Value.int IntKind.i64 0, Value.int IntKind.i64 0, Value.int IntKind.i64 0, Value.int IntKind.i64 0]) := by kernel_rfl
@[simp] theorem bytesT_22 : bytesT Try.prog 22 = some 8 := by kernel_rfl
@[simp] theorem bytesT_45 : bytesT Try.prog 45 = some 24 := by kernel_rfl
@[simp] theorem fieldOffT_68_0 : fieldOffT Try.prog 68 0 = some 0 := by kernel_rfl
@[simp] theorem fieldOffT_68_1 : fieldOffT Try.prog 68 1 = some 8 := by kernel_rfl
@[simp] theorem fieldOffT_68_2 : fieldOffT Try.prog 68 2 = some 9 := by kernel_rfl
@[simp] theorem fieldOffT_73_0 : fieldOffT Try.prog 73 0 = some 0 := by kernel_rfl
@[simp] theorem fieldOffT_73_1 : fieldOffT Try.prog 73 1 = some 8 := by kernel_rfl
@[simp] theorem fieldOffT_73_2 : fieldOffT Try.prog 73 2 = some 9 := by kernel_rfl
@[simp] theorem fieldOffT_88_0 : fieldOffT Try.prog 88 0 = some 0 := by kernel_rfl
@[simp] theorem buildA_68 (ps : List (Nat × A)) : buildA Try.prog 68 ps = (fillA (fun i => ([(0, 8), (8, 1), (9, 1)] : List (Nat × Nat))[i]?) [A.v (Value.int IntKind.i64 0), A.v (Value.int IntKind.i64 0), A.v (Value.int IntKind.i64 0), A.v (Value.int IntKind.i64 0), A.v (Value.int IntKind.i64 0), A.v (Value.int IntKind.i64 0), A.v (Value.int IntKind.i64 0), A.v (Value.bool false), A.v (Value.int IntKind.i64 0), A.v (Value.int IntKind.i64 0)] ps).map A.agg := by kernel_rfl
@[simp] theorem buildA_73 (ps : List (Nat × A)) : buildA Try.prog 73 ps = (fillA (fun i => ([(0, 8), (8, 1), (9, 1)] : List (Nat × Nat))[i]?) [A.v (Value.int IntKind.i64 0), A.v (Value.int IntKind.i64 0), A.v (Value.int IntKind.i64 0), A.v (Value.int IntKind.i64 0), A.v (Value.int IntKind.i64 0), A.v (Value.int IntKind.i64 0), A.v (Value.int IntKind.i64 0), A.v (Value.bool false), A.v (Value.int IntKind.i64 0), A.v (Value.int IntKind.i64 0)] ps).map A.agg := by kernel_rfl
@[simp] theorem buildA_88 (ps : List (Nat × A)) : buildA Try.prog 88 ps = (fillA (fun i => ([(0, 1), (1, 1), (2, 1), (3, 1)] : List (Nat × Nat))[i]?) [A.sl true [], A.v (Value.int IntKind.i64 0), A.v (Value.int IntKind.i64 0), A.v (Value.int IntKind.i64 0)] ps).map A.agg := by kernel_rfl
@[simp] theorem buildA_96 (ps : List (Nat × A)) : buildA Try.prog 96 ps = (fillA (fun i => some (i * 1, 1)) [A.v (Value.int IntKind.i64 0), A.v (Value.int IntKind.i64 0), A.v (Value.int IntKind.i64 0), A.v (Value.int IntKind.i64 0), A.v (Value.int IntKind.i64 0), A.v (Value.int IntKind.i64 0), A.v (Value.int IntKind.i64 0)] ps).map A.agg := by kernel_rfl
@[simp] theorem eqA_68 (x0 y0 : Int) (x1 y1 : Int) (x2 y2 : Int) (x3 y3 : Int) (x4 y4 : Int) (x5 y5 : Int) (x6 y6 : Int) (x7 y7 : Bool) (x8 y8 : Int) (x9 y9 : Int) : eqA Try.prog 100 68 (.agg [A.v (.int .i64 x0), A.v (.int .i64 x1), A.v (.int .i64 x2), A.v (.int .i64 x3), A.v (.int .i64 x4), A.v (.int .i64 x5), A.v (.int .i64 x6), A.v (.bool x7), A.v (.int .i64 x8), A.v (.int .i64 x9)]) (.agg [A.v (.int .i64 y0), A.v (.int .i64 y1), A.v (.int .i64 y2), A.v (.int .i64 y3), A.v (.int .i64 y4), A.v (.int .i64 y5), A.v (.int .i64 y6), A.v (.bool y7), A.v (.int .i64 y8), A.v (.int .i64 y9)]) = some ((((x0 == y0) && ((x1 == y1) && ((x2 == y2) && ((x3 == y3) && ((x4 == y4) && ((x5 == y5) && ((x6 == y6) && ((x7 == y7) && (true))))))))) && ((x8 == y8) && ((x9 == y9) && (true))))) := by kernel_rfl
@[simp] theorem eqG_68 : Try.prog.eqGuardType Try.prog.depth 68 = false := by kernel_rfl
@[simp] theorem fieldT_68_0 : fieldT Try.prog 68 0 = some (24, 0) := by kernel_rfl


/-- slices.Clone[[]uint64,uint64] -/
def c_slices_Clone_uint64_uint64 : CC :=
  .seq (.reg [co (some 2) (.assign (.const (.slice none 0 0))) none] [0])
  (.seq (.seq (.reg [co (some 3) (.move (.tmp 0)) none,
        co (some 4) (.binOp .eql 45 (.tmp 3) (.const (.slice none 0 0)) 45) none] [0, 4])
    (.cond (.tmp 4)
      (.seq (.reg [co (some 2) (.assign (.const (.slice none 0 0))) none] [2])
      (.ret))
      (.skip)))
  (.keep [0] (.seq (.reg [co (some 5) (.buildSlice 45 0 #[]) none,
      co (some 6) (.move (.tmp 0)) none,
      cn (some 7) (.call { callee := (.builtin .append), args := #[(.tmp 5), (.tmp 6)], argTypes := #[45, 45] }) none [0],
      co (some 2) (.assign (.tmp 7)) none] [2])
  (.ret))))
theorem t_slices_Clone_uint64_uint64 : Txt Try.prog 47 8 [(.tmp 2)] c_slices_Clone_uint64_uint64 := txt_of (code := Try.f47.body.getD .ret) mixed (by kernel_rfl) Try.func47 (by kernel_rfl) Try.ntmps47 (by kernel_rfl) (ls := [([0], []), ([], []), ([0, 4], []), ([], []), ([2], []), ([], []), ([999999, 0], []), ([2], [(2, [0])]), ([], [])]) (by kernel_rfl)

def l1_arena_Of : CC :=
  .seq (.reg [co (some 11) (.binOp .lss 3 (.tmp 10) (.tmp 9) 3) none] [3, 8, 9, 10, 11])
  (.seq (.cond (.tmp 11)
      (.skip)
      (.exit 0))
  (.keep [3, 8, 9, 10] (.seq (.block 1
      (.seq (.reg [co (some 12) (.indexAddr 44 (.tmp 8) (.tmp 10)) none,
          co (some 13) (.load 45 (.tmp 12)) none,
          co (some 5) (.assign (.tmp 13)) none] [3, 5, 8, 9, 10])
      (.reg [co (some 14) (.move (.tmp 3)) none,
        co (some 15) (.move (.tmp 3)) none,
        co (some 16) (.nilCheck (.tmp 15)) none,
        co (some 17) (.fieldAddr 88 (.tmp 16) 0) none,
        ⟨some 18, (.load 44 (.tmp 17)), none, [], 4, [], true⟩,
        co (some 19) (.move (.tmp 5)) none,
        ⟨some 20, (.call { callee := (.value (.func 47)), args := #[(.tmp 19)], argTypes := #[45] }), none, [], 6, [4], false⟩,
        co (some 21) (.buildSlice 44 1 #[(0, (.tmp 20))]) none,
        cn (some 22) (.call { callee := (.builtin .append), args := #[(.tmp 18), (.tmp 21)], argTypes := #[44, 44] }) none [1],
        co (some 23) (.nilCheck (.tmp 14)) none,
        co (some 24) (.fieldAddr 88 (.tmp 23) 0) none,
        co none (.store 44 (.tmp 24) (.tmp 22)) none] [3, 8, 9, 10])))
  (.reg [co (some 25) (.binOp .add 3 (.tmp 10) (.const (.int .i64 1)) 3) none,
    co (some 10) (.move (.tmp 25)) none] [3, 8, 9, 10]))))

/-- cento/arena.Of -/
def c_arena_Of : CC :=
  .seq (.reg [co (some 2) (.assign (.const (.pointer none))) none] [0])
  (.seq (.reg [co (some 6) (.build 88 #[]) none,
      cn (some 7) (.box 88 (.tmp 6)) none [0],
      co (some 3) (.assign (.tmp 7)) none] [0, 3])
  (.seq (.seq (.reg [co (some 8) (.move (.tmp 0)) none,
        co (some 9) (.call { callee := (.builtin .len), args := #[(.tmp 8)], argTypes := #[44] }) none,
        co (some 10) (.move (.const (.int .i64 0))) none] [3, 8, 9, 10])
    (.block 0
      (.loop l1_arena_Of)))
  (.keep [3] (.seq (.reg [co (some 26) (.move (.tmp 3)) none,
      co (some 2) (.assign (.tmp 26)) none] [2])
  (.ret)))))
theorem t_arena_Of : Txt Try.prog 23 27 [(.tmp 2)] c_arena_Of := txt_of (code := Try.f23.body.getD .ret) mixed (by kernel_rfl) Try.func23 (by kernel_rfl) Try.ntmps23 (by kernel_rfl) (ls := [([0], []), ([], []), ([0, 3], [(1, [0])]), ([], []), ([3, 8, 9, 10], []), ([], []), ([3, 8, 9, 10, 11], []), ([], []), ([999999, 3, 8, 9, 10], []), ([3, 5, 8, 9, 10], []), ([], []), ([3, 8, 9, 10], [(8, [1])]), ([], []), ([3, 8, 9, 10], []), ([999999, 3], []), ([2], []), ([], [])]) (by kernel_rfl)


/-- (*cento/arena.Arena).Len -/
def c_arena_Arena_Len : CC :=
  .seq (.reg [co (some 2) (.assign (.const (.int .i64 0))) none] [0])
  (.seq (.seq (.reg [co (some 3) (.move (.tmp 0)) none,
        co (some 4) (.binOp .eql 35 (.tmp 3) (.const (.pointer none)) 35) none] [0, 4])
    (.cond (.tmp 4)
      (.seq (.reg [co (some 2) (.assign (.const (.int .i64 0))) none] [2])
      (.ret))
      (.skip)))
  (.keep [0] (.seq (.reg [co (some 5) (.move (.tmp 0)) none,
      co (some 6) (.nilCheck (.tmp 5)) none,
      co (some 7) (.fieldAddr 88 (.tmp 6) 0) none,
      co (some 8) (.load 44 (.tmp 7)) none,
      co (some 9) (.call { callee := (.builtin .len), args := #[(.tmp 8)], argTypes := #[44] }) none,
      co (some 2) (.assign (.tmp 9)) none] [2])
  (.ret))))
theorem t_arena_Arena_Len : Txt Try.prog 21 10 [(.tmp 2)] c_arena_Arena_Len := txt_of (code := Try.f21.body.getD .ret) mixed (by kernel_rfl) Try.func21 (by kernel_rfl) Try.ntmps21 (by kernel_rfl) (ls := [([0], []), ([], []), ([0, 4], []), ([], []), ([2], []), ([], []), ([999999, 0], []), ([2], []), ([], [])]) (by kernel_rfl)


/-- (*cento/arena.Arena).Size -/
def c_arena_Arena_Size : CC :=
  .seq (.reg [co (some 4) (.assign (.const (.int .i64 0))) none] [0, 1])
  (.seq (.seq (.reg [co (some 5) (.move (.tmp 1)) none,
        co (some 6) (.binOp .lss 3 (.tmp 5) (.const (.int .i64 0)) 3) none,
        co (some 7) (.move (.tmp 6)) none,
        co (some 8) (.move (.tmp 1)) (some (7, false)),
        co (some 9) (.move (.tmp 0)) (some (7, false)),
        co (some 10) (.call { callee := (.value (.func 21)), args := #[(.tmp 9)], argTypes := #[35] }) (some (7, false)),
        co (some 11) (.binOp .geq 3 (.tmp 8) (.tmp 10) 3) (some (7, false)),
        co (some 12) (.pick (.tmp 7) (.const (.bool true)) (.tmp 11)) none] [0, 1, 12])
    (.cond (.tmp 12)
      (.seq (.reg [co (some 4) (.assign (.const (.int .i64 0))) none] [4])
      (.ret))
      (.skip)))
  (.keep [0, 1] (.seq (.reg [co (some 13) (.move (.tmp 0)) none,
      co (some 14) (.nilCheck (.tmp 13)) none,
      co (some 15) (.fieldAddr 88 (.tmp 14) 0) none,
      co (some 16) (.load 44 (.tmp 15)) none,
      co (some 17) (.move (.tmp 1)) none,
      co (some 18) (.indexAddr 44 (.tmp 16) (.tmp 17)) none,
      co (some 19) (.load 45 (.tmp 18)) none,
      co (some 20) (.call { callee := (.builtin .len), args := #[(.tmp 19)], argTypes := #[45] }) none,
      co (some 4) (.assign (.tmp 20)) none] [4])
  (.ret))))
theorem t_arena_Arena_Size : Txt Try.prog 34 21 [(.tmp 4)] c_arena_Arena_Size := txt_of (code := Try.f34.body.getD .ret) mixed (by kernel_rfl) Try.func34 (by kernel_rfl) Try.ntmps34 (by kernel_rfl) (ls := [([0, 1], []), ([], []), ([0, 1, 12], []), ([], []), ([4], []), ([], []), ([999999, 0, 1], []), ([4], []), ([], [])]) (by kernel_rfl)


/-- (*cento/arena.Arena).Has -/
def c_arena_Arena_Has : CC :=
  .seq (.reg [co (some 8) (.assign (.const (.bool false))) none] [0, 1, 2, 3])
  (.seq (.reg [co (some 10) (.move (.tmp 0)) none,
      co (some 11) (.move (.tmp 1)) none,
      co (some 12) (.call { callee := (.value (.func 34)), args := #[(.tmp 10), (.tmp 11)], argTypes := #[35, 3] }) none,
      co (some 9) (.assign (.tmp 12)) none] [0, 1, 2, 3, 9])
  (.seq (.reg [co (some 13) (.move (.tmp 1)) none,
      co (some 14) (.binOp .geq 3 (.tmp 13) (.const (.int .i64 0)) 3) none,
      co (some 15) (.move (.tmp 14)) none,
      co (some 16) (.move (.tmp 1)) (some (15, true)),
      co (some 17) (.move (.tmp 0)) (some (15, true)),
      co (some 18) (.call { callee := (.value (.func 21)), args := #[(.tmp 17)], argTypes := #[35] }) (some (15, true)),
      co (some 19) (.binOp .lss 3 (.tmp 16) (.tmp 18) 3) (some (15, true)),
      co (some 20) (.pick (.tmp 15) (.tmp 19) (.const (.bool false))) none,
      co (some 21) (.move (.tmp 20)) none,
      co (some 22) (.move (.tmp 2)) (some (21, true)),
      co (some 23) (.binOp .geq 3 (.tmp 22) (.const (.int .i64 0)) 3) (some (21, true)),
      co (some 24) (.pick (.tmp 21) (.tmp 23) (.const (.bool false))) none,
      co (some 25) (.move (.tmp 24)) none,
      co (some 26) (.move (.tmp 3)) (some (25, true)),
      co (some 27) (.binOp .geq 3 (.tmp 26) (.const (.int .i64 0)) 3) (some (25, true)),
      co (some 28) (.pick (.tmp 25) (.tmp 27) (.const (.bool false))) none,
      co (some 29) (.move (.tmp 28)) none,
      co (some 30) (.move (.tmp 3)) (some (29, true)),
      co (some 31) (.move (.tmp 9)) (some (29, true)),
      co (some 32) (.binOp .leq 3 (.tmp 30) (.tmp 31) 3) (some (29, true)),
      co (some 33) (.pick (.tmp 29) (.tmp 32) (.const (.bool false))) none,
      co (some 34) (.move (.tmp 33)) none,
      co (some 35) (.move (.tmp 2)) (some (34, true)),
      co (some 36) (.move (.tmp 9)) (some (34, true)),
      co (some 37) (.move (.tmp 3)) (some (34, true)),
      co (some 38) (.binOp .sub 3 (.tmp 36) (.tmp 37) 3) (some (34, true)),
      co (some 39) (.binOp .leq 3 (.tmp 35) (.tmp 38) 3) (some (34, true)),
      co (some 40) (.pick (.tmp 34) (.tmp 39) (.const (.bool false))) none,
      co (some 8) (.assign (.tmp 40)) none] [8])
  (.ret)))
theorem t_arena_Arena_Has : Txt Try.prog 20 41 [(.tmp 8)] c_arena_Arena_Has := txt_of (code := Try.f20.body.getD .ret) mixed (by kernel_rfl) Try.func20 (by kernel_rfl) Try.ntmps20 (by kernel_rfl) (ls := [([0, 1, 2, 3], []), ([], []), ([0, 1, 2, 3, 9], []), ([], []), ([8], []), ([], [])]) (by kernel_rfl)


/-- (*cento/arena.Arena).Get -/
def c_arena_Arena_Get : CC :=
  .seq (.reg [co (some 6) (.assign (.const (.int .u64 0))) none,
      co (some 7) (.assign (.const (.bool false))) none] [0, 1, 2])
  (.seq (.seq (.reg [co (some 8) (.move (.tmp 0)) none,
        co (some 9) (.move (.tmp 1)) none,
        co (some 10) (.move (.tmp 2)) none,
        co (some 11) (.call { callee := (.value (.func 20)), args := #[(.tmp 8), (.tmp 9), (.tmp 10), (.const (.int .i64 1))], argTypes := #[35, 3, 3, 3] }) none,
        co (some 12) (.unOp .not 4 (.tmp 11)) none] [0, 1, 2, 12])
    (.cond (.tmp 12)
      (.seq (.reg [co (some 6) (.assign (.const (.int .u64 0))) none,
          co (some 7) (.assign (.const (.bool false))) none] [6, 7])
      (.ret))
      (.skip)))
  (.keep [0, 1, 2] (.seq (.reg [co (some 13) (.move (.tmp 0)) none,
      co (some 14) (.nilCheck (.tmp 13)) none,
      co (some 15) (.fieldAddr 88 (.tmp 14) 0) none,
      co (some 16) (.load 44 (.tmp 15)) none,
      co (some 17) (.move (.tmp 1)) none,
      co (some 18) (.indexAddr 44 (.tmp 16) (.tmp 17)) none,
      co (some 19) (.load 45 (.tmp 18)) none,
      co (some 20) (.move (.tmp 2)) none,
      co (some 21) (.indexAddr 45 (.tmp 19) (.tmp 20)) none,
      co (some 22) (.load 22 (.tmp 21)) none,
      co (some 6) (.assign (.tmp 22)) none,
      co (some 7) (.assign (.const (.bool true))) none] [6, 7])
  (.ret))))
theorem t_arena_Arena_Get : Txt Try.prog 31 23 [(.tmp 6), (.tmp 7)] c_arena_Arena_Get := txt_of (code := Try.f31.body.getD .ret) mixed (by kernel_rfl) Try.func31 (by kernel_rfl) Try.ntmps31 (by kernel_rfl) (ls := [([0, 1, 2], []), ([], []), ([0, 1, 2, 12], []), ([], []), ([6, 7], []), ([], []), ([999999, 0, 1, 2], []), ([6, 7], []), ([], [])]) (by kernel_rfl)


/-- (*cento/arena.Arena).Part -/
def c_arena_Arena_Part : CC :=
  .seq (.reg [co (some 8) (.assign (.const (.slice none 0 0))) none,
      co (some 9) (.assign (.const (.bool false))) none] [0, 1, 2, 3])
  (.seq (.seq (.reg [co (some 10) (.move (.tmp 0)) none,
        co (some 11) (.move (.tmp 1)) none,
        co (some 12) (.move (.tmp 2)) none,
        co (some 13) (.move (.tmp 3)) none,
        co (some 14) (.call { callee := (.value (.func 20)), args := #[(.tmp 10), (.tmp 11), (.tmp 12), (.tmp 13)], argTypes := #[35, 3, 3, 3] }) none,
        co (some 15) (.unOp .not 4 (.tmp 14)) none] [0, 1, 2, 3, 15])
    (.cond (.tmp 15)
      (.seq (.reg [co (some 8) (.assign (.const (.slice none 0 0))) none,
          co (some 9) (.assign (.const (.bool false))) none] [8, 9])
      (.ret))
      (.skip)))
  (.keep [0, 1, 2, 3] (.seq (.reg [co (some 16) (.move (.tmp 0)) none,
      co (some 17) (.nilCheck (.tmp 16)) none,
      co (some 18) (.fieldAddr 88 (.tmp 17) 0) none,
      co (some 19) (.load 44 (.tmp 18)) none,
      co (some 20) (.move (.tmp 1)) none,
      co (some 21) (.indexAddr 44 (.tmp 19) (.tmp 20)) none,
      co (some 22) (.load 45 (.tmp 21)) none,
      co (some 23) (.move (.tmp 2)) none,
      co (some 24) (.move (.tmp 2)) none,
      co (some 25) (.move (.tmp 3)) none,
      co (some 26) (.binOp .add 3 (.tmp 24) (.tmp 25) 3) none,
      co (some 27) (.slice 45 (.tmp 22) (some (.tmp 23)) (some (.tmp 26)) none) none,
      co (some 28) (.call { callee := (.value (.func 47)), args := #[(.tmp 27)], argTypes := #[45] }) none,
      co (some 8) (.assign (.tmp 28)) none,
      co (some 9) (.assign (.const (.bool true))) none] [8, 9])
  (.ret))))
theorem t_arena_Arena_Part : Txt Try.prog 32 29 [(.tmp 8), (.tmp 9)] c_arena_Arena_Part := txt_of (code := Try.f32.body.getD .ret) mixed (by kernel_rfl) Try.func32 (by kernel_rfl) Try.ntmps32 (by kernel_rfl) (ls := [([0, 1, 2, 3], []), ([], []), ([0, 1, 2, 3, 15], []), ([], []), ([8, 9], []), ([], []), ([999999, 0, 1, 2, 3], []), ([8, 9], []), ([], [])]) (by kernel_rfl)


/-- (cento/ptr.Ptr).Words -/
def c_ptr_Ptr_Words : CC :=
  .seq (.reg [cn (some 1) (.box 24 (.tmp 0)) none [0],
      co (some 2) (.assign (.const (.int .i64 0))) none,
      co (some 3) (.assign (.const (.bool false))) none] [1])
  (.seq (.reg [co (some 5) (.build 96 #[(0, (.const (.int .i64 0))), (1, (.const (.int .i64 1))), (2, (.const (.int .i64 8))), (3, (.const (.int .i64 16))), (4, (.const (.int .i64 32))), (5, (.const (.int .i64 64))), (6, (.const (.int .i64 64)))]) none,
      cn (some 4) (.alloc 96) none [1],
      co none (.store 96 (.tmp 4) (.tmp 5)) none] [1, 4])
  (.seq (.block 0
      (.seq (.reg [co (some 7) (.fieldAddr 24 (.tmp 1) 0) none,
          co (some 8) (.load 3 (.tmp 7)) none,
          co (some 9) (.binOp .eql 3 (.tmp 8) (.const (.int .i64 1)) 3) none,
          co (some 6) (.assign (.tmp 9)) none] [1, 4, 6])
      (.cond (.tmp 6)
        (.seq (.reg [co (some 10) (.fieldAddr 24 (.tmp 1) 2) none,
            co (some 11) (.load 3 (.tmp 10)) none,
            co (some 12) (.fieldAddr 24 (.tmp 1) 3) none,
            co (some 13) (.load 3 (.tmp 12)) none,
            co (some 14) (.binOp .add 3 (.tmp 11) (.tmp 13) 3) none,
            co (some 2) (.assign (.tmp 14)) none,
            co (some 3) (.assign (.const (.bool true))) none] [2, 3])
        (.ret))
        (.seq (.reg [co (some 16) (.fieldAddr 24 (.tmp 1) 0) none,
            co (some 17) (.load 3 (.tmp 16)) none,
            co (some 18) (.binOp .eql 3 (.tmp 17) (.const (.int .i64 2)) 3) none,
            co (some 19) (.move (.tmp 18)) none,
            co (some 20) (.fieldAddr 24 (.tmp 1) 4) (some (19, true)),
            co (some 21) (.load 3 (.tmp 20)) (some (19, true)),
            co (some 22) (.binOp .eql 3 (.tmp 21) (.const (.int .i64 7)) 3) (some (19, true)),
            co (some 23) (.pick (.tmp 19) (.tmp 22) (.const (.bool false))) none,
            co (some 15) (.assign (.tmp 23)) none] [1, 4, 15])
        (.cond (.tmp 15)
          (.seq (.reg [co (some 24) (.fieldAddr 24 (.tmp 1) 5) none,
              co (some 25) (.load 3 (.tmp 24)) none,
              co (some 26) (.binOp .add 3 (.tmp 25) (.const (.int .i64 1)) 3) none,
              co (some 2) (.assign (.tmp 26)) none,
              co (some 3) (.assign (.const (.bool true))) none] [2, 3])
          (.ret))
          (.seq (.reg [co (some 28) (.fieldAddr 24 (.tmp 1) 0) none,
              co (some 29) (.load 3 (.tmp 28)) none,
              co (some 30) (.binOp .eql 3 (.tmp 29) (.const (.int .i64 2)) 3) none,
              co (some 31) (.move (.tmp 30)) none,
              co (some 32) (.fieldAddr 24 (.tmp 1) 4) (some (31, true)),
              co (some 33) (.load 3 (.tmp 32)) (some (31, true)),
              co (some 34) (.call { callee := (.value (.func 43)), args := #[(.tmp 33), (.const (.int .i64 6))], argTypes := #[3, 3] }) (some (31, true)),
              co (some 35) (.pick (.tmp 31) (.tmp 34) (.const (.bool false))) none,
              co (some 36) (.move (.tmp 35)) none,
              co (some 37) (.fieldAddr 24 (.tmp 1) 5) (some (36, true)),
              co (some 38) (.load 3 (.tmp 37)) (some (36, true)),
              co (some 39) (.call { callee := (.value (.func 43)), args := #[(.tmp 38), (.const (.int .i64 536870911))], argTypes := #[3, 3] }) (some (36, true)),
              co (some 40) (.pick (.tmp 36) (.tmp 39) (.const (.bool false))) none,
              co (some 27) (.assign (.tmp 40)) none] [1, 4, 27])
          (.cond (.tmp 27)
            (.seq (.reg [co (some 41) (.fieldAddr 24 (.tmp 1) 5) none,
                co (some 42) (.load 3 (.tmp 41)) none,
                co (some 43) (.fieldAddr 24 (.tmp 1) 4) none,
                co (some 44) (.load 3 (.tmp 43)) none,
                co (some 45) (.indexAddr 96 (.tmp 4) (.tmp 44)) none,
                co (some 46) (.load 3 (.tmp 45)) none,
                co (some 47) (.binOp .mul 3 (.tmp 42) (.tmp 46) 3) none,
                co (some 48) (.binOp .add 3 (.tmp 47) (.const (.int .i64 63)) 3) none,
                co (some 49) (.binOp .quo 3 (.tmp 48) (.const (.int .i64 64)) 3) none,
                co (some 2) (.assign (.tmp 49)) none,
                co (some 3) (.assign (.const (.bool true))) none] [2, 3])
            (.ret))
            (.skip))))))))
  (.keep [] (.seq (.reg [co (some 2) (.assign (.const (.int .i64 0))) none,
      co (some 3) (.assign (.const (.bool false))) none] [2, 3])
  (.ret)))))
theorem t_ptr_Ptr_Words : Txt Try.prog 39 50 [(.tmp 2), (.tmp 3)] c_ptr_Ptr_Words := txt_of (code := Try.f39.body.getD .ret) mixed (by kernel_rfl) Try.func39 (by kernel_rfl) Try.ntmps39 (by kernel_rfl) (ls := [([1], [(0, [0])]), ([], []), ([1, 4], [(1, [1])]), ([], []), ([1, 4, 6], []), ([], []), ([2, 3], []), ([], []), ([1, 4, 15], []), ([], []), ([2, 3], []), ([], []), ([1, 4, 27], []), ([], []), ([2, 3], []), ([], []), ([999999], []), ([2, 3], []), ([], [])]) (by kernel_rfl)


/-- cento/far.inside -/
def c_far_inside : CC :=
  .seq (.reg [cn (some 3) (.box 68 (.tmp 1)) none [0],
      cn (some 4) (.alloc 68) none [1],
      co (some 5) (.assign (.const (.int .i64 0))) none] [0, 3, 4])
  (.seq (.reg [co (some 9) (.fieldAddr 68 (.tmp 3) 0) none,
      co (some 10) (.load 24 (.tmp 9)) none,
      co (some 11) (.call { callee := (.value (.func 39)), args := #[(.tmp 10)], argTypes := #[24] }) none,
      co (some 8) (.move (.tmp 11)) none,
      co (some 12) (.extract (.tmp 8) 0) none,
      co (some 13) (.extract (.tmp 8) 1) none,
      co (some 6) (.assign (.tmp 12)) none,
      co (some 7) (.assign (.tmp 13)) none] [0, 3, 4, 6])
  (.seq (.seq (.reg [co (some 14) (.move (.tmp 0)) none,
        co (some 15) (.fieldAddr 68 (.tmp 3) 1) none,
        co (some 16) (.load 3 (.tmp 15)) none,
        co (some 17) (.fieldAddr 68 (.tmp 3) 2) none,
        co (some 18) (.load 3 (.tmp 17)) none,
        co (some 19) (.move (.tmp 6)) none,
        co (some 20) (.call { callee := (.value (.func 20)), args := #[(.tmp 14), (.tmp 16), (.tmp 18), (.tmp 19)], argTypes := #[35, 3, 3, 3] }) none,
        co (some 21) (.unOp .not 4 (.tmp 20)) none] [3, 4, 21])
    (.cond (.tmp 21)
      (.seq (.reg [co (some 22) (.build 68 #[]) none,
          co none (.store 68 (.tmp 4) (.tmp 22)) none,
          co (some 5) (.assign (.const (.int .i64 7))) none] [4, 5])
      (.ret))
      (.skip)))
  (.keep [3, 4] (.seq (.reg [co (some 23) (.fieldAddr 68 (.tmp 3) 0) none,
      co (some 24) (.fieldAddr 24 (.tmp 23) 1) none,
      co none (.store 3 (.tmp 24) (.const (.int .i64 0))) none] [3, 4])
  (.seq (.reg [co (some 25) (.load 68 (.tmp 3)) none,
      co none (.store 68 (.tmp 4) (.tmp 25)) none,
      co (some 5) (.assign (.const (.int .i64 0))) none] [4, 5])
  (.ret))))))
theorem t_far_inside : Txt Try.prog 58 26 [(.cell 4 68), (.tmp 5)] c_far_inside := txt_of (code := Try.f58.body.getD .ret) mixed (by kernel_rfl) Try.func58 (by kernel_rfl) Try.ntmps58 (by kernel_rfl) (ls := [([0, 3, 4], [(0, [0]), (1, [1])]), ([], []), ([0, 3, 4, 6], []), ([], []), ([3, 4, 21], []), ([], []), ([4, 5], []), ([], []), ([999999, 3, 4], []), ([3, 4], []), ([], []), ([4, 5], []), ([], [])]) (by kernel_rfl)

def k1_far_near : CC :=
  .cond (.tmp 12)
    (.seq (.reg [co (some 15) (.move (.tmp 0)) none,
        co (some 16) (.load 24 (.tmp 5)) none,
        co (some 17) (.move (.tmp 2)) none,
        co (some 18) (.move (.tmp 3)) none,
        co (some 19) (.binOp .add 3 (.tmp 18) (.const (.int .i64 1)) 3) none,
        co (some 20) (.fieldAddr 24 (.tmp 5) 1) none,
        co (some 21) (.load 3 (.tmp 20)) none,
        co (some 22) (.binOp .add 3 (.tmp 19) (.tmp 21) 3) none,
        co (some 23) (.build 68 #[(0, (.tmp 16)), (1, (.tmp 17)), (2, (.tmp 22))]) none,
        co (some 24) (.call { callee := (.value (.func 58)), args := #[(.tmp 15), (.tmp 23)], argTypes := #[35, 68] }) none,
        co (some 25) (.extract (.tmp 24) 0) none,
        co (some 26) (.extract (.tmp 24) 1) none,
        co none (.store 68 (.tmp 8) (.tmp 25)) none,
        co (some 9) (.assign (.tmp 26)) none] [8, 9])
    (.ret))
    (.seq (.reg [co (some 28) (.binOp .eql 3 (.tmp 11) (.const (.int .i64 4)) 3) none,
        co (some 27) (.assign (.tmp 28)) none] [8, 27])
    (.cond (.tmp 27)
      (.seq (.reg [co (some 29) (.build 68 #[]) none,
          co none (.store 68 (.tmp 8) (.tmp 29)) none,
          co (some 9) (.assign (.const (.int .i64 9))) none] [8, 9])
      (.ret))
      (.skip)))

/-- cento/far.near -/
def c_far_near : CC :=
  .seq (.reg [cn (some 5) (.box 24 (.tmp 1)) none [0],
      cn (some 8) (.alloc 68) none [1],
      co (some 9) (.assign (.const (.int .i64 0))) none] [0, 2, 3, 5, 8])
  (.seq (.seq (.reg [co (some 10) (.fieldAddr 24 (.tmp 5) 0) none,
        co (some 11) (.load 3 (.tmp 10)) none] [0, 2, 3, 5, 8, 11])
    (.block 0
      (.seq (.seq (.reg [co (some 13) (.binOp .eql 3 (.tmp 11) (.const (.int .i64 1)) 3) none,
            co (some 12) (.assign (.tmp 13)) none] [0, 2, 3, 5, 8, 11, 12])
        (.cond (.tmp 12)
          (.skip)
          (.reg [co (some 14) (.binOp .eql 3 (.tmp 11) (.const (.int .i64 2)) 3) none,
            co (some 12) (.assign (.tmp 14)) none] [0, 2, 3, 5, 8, 11, 12])))
      (.keep [0, 2, 3, 5, 8, 11, 12] k1_far_near))))
  (.keep [8] (.seq (.reg [co (some 30) (.build 68 #[]) none,
      co none (.store 68 (.tmp 8) (.tmp 30)) none,
      co (some 9) (.assign (.const (.int .i64 8))) none] [8, 9])
  (.ret))))
theorem t_far_near : Txt Try.prog 52 31 [(.cell 8 68), (.tmp 9)] c_far_near := txt_of (code := Try.f52.body.getD .ret) mixed (by kernel_rfl) Try.func52 (by kernel_rfl) Try.ntmps52 (by kernel_rfl) (ls := [([0, 2, 3, 5, 8], [(0, [0]), (1, [1])]), ([], []), ([0, 2, 3, 5, 8, 11], []), ([], []), ([0, 2, 3, 5, 8, 11, 12], []), ([], []), ([0, 2, 3, 5, 8, 11, 12], []), ([999999, 0, 2, 3, 5, 8, 11, 12], []), ([8, 9], []), ([], []), ([8, 27], []), ([], []), ([8, 9], []), ([], []), ([999999, 8], []), ([8, 9], []), ([], [])]) (by kernel_rfl)


/-- cento/far.double -/
def c_far_double : CC :=
  .seq (.reg [cn (some 6) (.alloc 68) none [0],
      co (some 7) (.assign (.const (.int .i64 0))) none] [0, 1, 2, 6])
  (.seq (.reg [co (some 13) (.move (.tmp 0)) none,
      co (some 14) (.move (.tmp 1)) none,
      co (some 15) (.move (.tmp 2)) none,
      co (some 16) (.call { callee := (.value (.func 32)), args := #[(.tmp 13), (.tmp 14), (.tmp 15), (.const (.int .i64 2))], argTypes := #[35, 3, 3, 3] }) none,
      co (some 12) (.move (.tmp 16)) none,
      co (some 17) (.extract (.tmp 12) 0) none,
      co (some 18) (.extract (.tmp 12) 1) none,
      co (some 8) (.assign (.tmp 17)) none,
      co (some 9) (.assign (.tmp 18)) none] [0, 6, 8, 9])
  (.seq (.seq (.reg [co (some 19) (.move (.tmp 9)) none,
        co (some 20) (.unOp .not 4 (.tmp 19)) none] [0, 6, 8, 20])
    (.cond (.tmp 20)
      (.seq (.reg [co (some 21) (.build 68 #[]) none,
          co none (.store 68 (.tmp 6) (.tmp 21)) none,
          co (some 7) (.assign (.const (.int .i64 7))) none] [6, 7])
      (.ret))
      (.skip)))
  (.keep [0, 6, 8] (.seq (.reg [co (some 22) (.move (.tmp 8)) none,
      co (some 23) (.indexAddr 45 (.tmp 22) (.const (.int .i64 0))) none,
      ⟨some 24, (.load 22 (.tmp 23)), none, [], 2, [], true⟩,
      ⟨some 25, (.call { callee := (.value (.func 12)), args := #[(.tmp 24)], argTypes := #[22] }), none, [], 3, [], true⟩,
      co (some 26) (.move (.tmp 8)) none,
      co (some 27) (.indexAddr 45 (.tmp 26) (.const (.int .i64 1))) none,
      ⟨some 28, (.load 22 (.tmp 27)), none, [], 6, [3], true⟩,
      ⟨some 29, (.call { callee := (.value (.func 12)), args := #[(.tmp 28)], argTypes := #[22] }), none, [], 7, [], true⟩,
      ⟨some 10, (.alloc 24), none, [1], 8, [2, 3, 6, 7], true⟩,
      ⟨some 11, (.alloc 24), none, [2], 9, [2, 3, 6, 7, 8], false⟩,
      co none (.store 24 (.tmp 10) (.tmp 25)) none,
      co none (.store 24 (.tmp 11) (.tmp 29)) none] [0, 6, 10, 11])
  (.seq (.block 0
      (.seq (.reg [co (some 31) (.fieldAddr 24 (.tmp 10) 0) none,
          co (some 32) (.load 3 (.tmp 31)) none,
          co (some 33) (.binOp .neq 3 (.tmp 32) (.const (.int .i64 3)) 3) none,
          co (some 34) (.move (.tmp 33)) none,
          co (some 35) (.fieldAddr 24 (.tmp 10) 7) (some (34, false)),
          co (some 36) (.load 4 (.tmp 35)) (some (34, false)),
          co (some 37) (.pick (.tmp 34) (.const (.bool true)) (.tmp 36)) none,
          co (some 30) (.assign (.tmp 37)) none] [0, 6, 10, 11, 30])
      (.cond (.tmp 30)
        (.seq (.reg [co (some 38) (.build 68 #[]) none,
            co none (.store 68 (.tmp 6) (.tmp 38)) none,
            co (some 7) (.assign (.const (.int .i64 8))) none] [6, 7])
        (.ret))
        (.seq (.reg [co (some 40) (.fieldAddr 24 (.tmp 11) 0) none,
            co (some 41) (.load 3 (.tmp 40)) none,
            co (some 42) (.binOp .eql 3 (.tmp 41) (.const (.int .i64 4)) 3) none,
            co (some 39) (.assign (.tmp 42)) none] [0, 6, 10, 11, 39])
        (.cond (.tmp 39)
          (.seq (.reg [co (some 43) (.build 68 #[]) none,
              co none (.store 68 (.tmp 6) (.tmp 43)) none,
              co (some 7) (.assign (.const (.int .i64 9))) none] [6, 7])
          (.ret))
          (.seq (.reg [co (some 45) (.fieldAddr 24 (.tmp 11) 0) none,
              co (some 46) (.load 3 (.tmp 45)) none,
              co (some 47) (.binOp .neq 3 (.tmp 46) (.const (.int .i64 1)) 3) none,
              co (some 48) (.move (.tmp 47)) none,
              co (some 49) (.fieldAddr 24 (.tmp 11) 0) (some (48, true)),
              co (some 50) (.load 3 (.tmp 49)) (some (48, true)),
              co (some 51) (.binOp .neq 3 (.tmp 50) (.const (.int .i64 2)) 3) (some (48, true)),
              co (some 52) (.pick (.tmp 48) (.tmp 51) (.const (.bool false))) none,
              co (some 53) (.move (.tmp 52)) none,
              co (some 54) (.fieldAddr 24 (.tmp 11) 1) (some (53, false)),
              co (some 55) (.load 3 (.tmp 54)) (some (53, false)),
              co (some 56) (.binOp .neq 3 (.tmp 55) (.const (.int .i64 0)) 3) (some (53, false)),
              co (some 57) (.pick (.tmp 53) (.const (.bool true)) (.tmp 56)) none,
              co (some 44) (.assign (.tmp 57)) none] [0, 6, 10, 11, 44])
          (.cond (.tmp 44)
            (.seq (.reg [co (some 58) (.build 68 #[]) none,
                co none (.store 68 (.tmp 6) (.tmp 58)) none,
                co (some 7) (.assign (.const (.int .i64 8))) none] [6, 7])
            (.ret))
            (.skip))))))))
  (.keep [0, 6, 10, 11] (.seq (.reg [co (some 59) (.move (.tmp 0)) none,
      co (some 60) (.load 24 (.tmp 11)) none,
      co (some 61) (.fieldAddr 24 (.tmp 10) 6) none,
      co (some 62) (.load 3 (.tmp 61)) none,
      co (some 63) (.fieldAddr 24 (.tmp 10) 1) none,
      co (some 64) (.load 3 (.tmp 63)) none,
      co (some 65) (.build 68 #[(0, (.tmp 60)), (1, (.tmp 62)), (2, (.tmp 64))]) none,
      co (some 66) (.call { callee := (.value (.func 58)), args := #[(.tmp 59), (.tmp 65)], argTypes := #[35, 68] }) none,
      co (some 67) (.extract (.tmp 66) 0) none,
      co (some 68) (.extract (.tmp 66) 1) none,
      co none (.store 68 (.tmp 6) (.tmp 67)) none,
      co (some 7) (.assign (.tmp 68)) none] [6, 7])
  (.ret))))))))
theorem t_far_double : Txt Try.prog 53 69 [(.cell 6 68), (.tmp 7)] c_far_double := txt_of (code := Try.f53.body.getD .ret) mixed (by kernel_rfl) Try.func53 (by kernel_rfl) Try.ntmps53 (by kernel_rfl) (ls := [([0, 1, 2, 6], [(0, [0])]), ([], []), ([0, 6, 8, 9], []), ([], []), ([0, 6, 8, 20], []), ([], []), ([6, 7], []), ([], []), ([999999, 0, 6, 8], []), ([0, 6, 10, 11], [(8, [1]), (9, [2])]), ([], []), ([0, 6, 10, 11, 30], []), ([], []), ([6, 7], []), ([], []), ([0, 6, 10, 11, 39], []), ([], []), ([6, 7], []), ([], []), ([0, 6, 10, 11, 44], []), ([], []), ([6, 7], []), ([], []), ([999999, 0, 6, 10, 11], []), ([6, 7], []), ([], [])]) (by kernel_rfl)


/-- cento/far.Follow -/
def c_far_Follow : CC :=
  .seq (.reg [cn (some 6) (.alloc 68) none [0],
      co (some 7) (.assign (.const (.int .i64 0))) none] [0, 1, 2, 6])
  (.seq (.reg [co (some 13) (.move (.tmp 0)) none,
      co (some 14) (.move (.tmp 1)) none,
      co (some 15) (.move (.tmp 2)) none,
      co (some 16) (.call { callee := (.value (.func 31)), args := #[(.tmp 13), (.tmp 14), (.tmp 15)], argTypes := #[35, 3, 3] }) none,
      co (some 12) (.move (.tmp 16)) none,
      co (some 17) (.extract (.tmp 12) 0) none,
      co (some 18) (.extract (.tmp 12) 1) none,
      co (some 8) (.assign (.tmp 17)) none,
      co (some 9) (.assign (.tmp 18)) none] [0, 1, 2, 6, 8, 9])
  (.seq (.seq (.reg [co (some 19) (.move (.tmp 9)) none,
        co (some 20) (.unOp .not 4 (.tmp 19)) none] [0, 1, 2, 6, 8, 20])
    (.cond (.tmp 20)
      (.seq (.reg [co (some 21) (.build 68 #[]) none,
          co none (.store 68 (.tmp 6) (.tmp 21)) none,
          co (some 7) (.assign (.const (.int .i64 7))) none] [6, 7])
      (.ret))
      (.skip)))
  (.keep [0, 1, 2, 6, 8] (.seq (.reg [co (some 22) (.move (.tmp 8)) none,
      co (some 23) (.call { callee := (.value (.func 12)), args := #[(.tmp 22)], argTypes := #[22] }) none,
      cn (some 10) (.alloc 24) none [1],
      co none (.store 24 (.tmp 10) (.tmp 23)) none] [0, 1, 2, 6, 10])
  (.seq (.block 0
      (.seq (.reg [co (some 25) (.fieldAddr 24 (.tmp 10) 0) none,
          co (some 26) (.load 3 (.tmp 25)) none,
          co (some 27) (.binOp .eql 3 (.tmp 26) (.const (.int .i64 0)) 3) none,
          co (some 24) (.assign (.tmp 27)) none] [0, 1, 2, 6, 10, 24])
      (.cond (.tmp 24)
        (.seq (.reg [co (some 28) (.build 68 #[]) none,
            co none (.store 68 (.tmp 6) (.tmp 28)) none,
            co (some 7) (.assign (.const (.int .i64 0))) none] [6, 7])
        (.ret))
        (.seq (.reg [co (some 30) (.fieldAddr 24 (.tmp 10) 0) none,
            co (some 31) (.load 3 (.tmp 30)) none,
            co (some 32) (.binOp .neq 3 (.tmp 31) (.const (.int .i64 3)) 3) none,
            co (some 29) (.assign (.tmp 32)) none] [0, 1, 2, 6, 10, 29])
        (.cond (.tmp 29)
          (.seq (.reg [co (some 33) (.move (.tmp 0)) none,
              co (some 34) (.load 24 (.tmp 10)) none,
              co (some 35) (.move (.tmp 1)) none,
              co (some 36) (.move (.tmp 2)) none,
              co (some 37) (.call { callee := (.value (.func 52)), args := #[(.tmp 33), (.tmp 34), (.tmp 35), (.tmp 36)], argTypes := #[35, 24, 3, 3] }) none,
              co (some 38) (.extract (.tmp 37) 0) none,
              co (some 39) (.extract (.tmp 37) 1) none,
              co none (.store 68 (.tmp 6) (.tmp 38)) none,
              co (some 7) (.assign (.tmp 39)) none] [6, 7])
          (.ret))
          (.seq (.reg [co (some 41) (.fieldAddr 24 (.tmp 10) 7) none,
              co (some 42) (.load 4 (.tmp 41)) none,
              co (some 40) (.assign (.tmp 42)) none] [0, 6, 10, 40])
          (.cond (.tmp 40)
            (.seq (.reg [co (some 43) (.move (.tmp 0)) none,
                co (some 44) (.fieldAddr 24 (.tmp 10) 6) none,
                co (some 45) (.load 3 (.tmp 44)) none,
                co (some 46) (.fieldAddr 24 (.tmp 10) 1) none,
                co (some 47) (.load 3 (.tmp 46)) none,
                co (some 48) (.call { callee := (.value (.func 53)), args := #[(.tmp 43), (.tmp 45), (.tmp 47)], argTypes := #[35, 3, 3] }) none,
                co (some 49) (.extract (.tmp 48) 0) none,
                co (some 50) (.extract (.tmp 48) 1) none,
                co none (.store 68 (.tmp 6) (.tmp 49)) none,
                co (some 7) (.assign (.tmp 50)) none] [6, 7])
            (.ret))
            (.skip))))))))
  (.keep [0, 6, 10] (.seq (.reg [co (some 52) (.move (.tmp 0)) none,
      co (some 53) (.fieldAddr 24 (.tmp 10) 6) none,
      co (some 54) (.load 3 (.tmp 53)) none,
      co (some 55) (.fieldAddr 24 (.tmp 10) 1) none,
      co (some 56) (.load 3 (.tmp 55)) none,
      co (some 57) (.call { callee := (.value (.func 31)), args := #[(.tmp 52), (.tmp 54), (.tmp 56)], argTypes := #[35, 3, 3] }) none,
      co (some 51) (.move (.tmp 57)) none,
      co (some 58) (.extract (.tmp 51) 0) none,
      co (some 59) (.extract (.tmp 51) 1) none,
      co (some 11) (.assign (.tmp 58)) none,
      co (some 9) (.assign (.tmp 59)) none] [0, 6, 9, 10, 11])
  (.seq (.seq (.reg [co (some 60) (.move (.tmp 9)) none,
        co (some 61) (.unOp .not 4 (.tmp 60)) none] [0, 6, 10, 11, 61])
    (.cond (.tmp 61)
      (.seq (.reg [co (some 62) (.build 68 #[]) none,
          co none (.store 68 (.tmp 6) (.tmp 62)) none,
          co (some 7) (.assign (.const (.int .i64 7))) none] [6, 7])
      (.ret))
      (.skip)))
  (.keep [0, 6, 10, 11] (.seq (.reg [co (some 63) (.move (.tmp 0)) none,
      co (some 64) (.move (.tmp 11)) none,
      ⟨some 65, (.call { callee := (.value (.func 12)), args := #[(.tmp 64)], argTypes := #[22] }), none, [], 2, [], true⟩,
      co (some 66) (.fieldAddr 24 (.tmp 10) 6) none,
      ⟨some 67, (.load 3 (.tmp 66)), none, [], 4, [2], false⟩,
      co (some 68) (.fieldAddr 24 (.tmp 10) 1) none,
      ⟨some 69, (.load 3 (.tmp 68)), none, [], 6, [2], false⟩,
      co (some 70) (.call { callee := (.value (.func 52)), args := #[(.tmp 63), (.tmp 65), (.tmp 67), (.tmp 69)], argTypes := #[35, 24, 3, 3] }) none,
      co (some 71) (.extract (.tmp 70) 0) none,
      co (some 72) (.extract (.tmp 70) 1) none,
      co none (.store 68 (.tmp 6) (.tmp 71)) none,
      co (some 7) (.assign (.tmp 72)) none] [6, 7])
  (.ret)))))))))))
theorem t_far_Follow : Txt Try.prog 35 73 [(.cell 6 68), (.tmp 7)] c_far_Follow := txt_of (code := Try.f35.body.getD .ret) mixed (by kernel_rfl) Try.func35 (by kernel_rfl) Try.ntmps35 (by kernel_rfl) (ls := [([0, 1, 2, 6], [(0, [0])]), ([], []), ([0, 1, 2, 6, 8, 9], []), ([], []), ([0, 1, 2, 6, 8, 20], []), ([], []), ([6, 7], []), ([], []), ([999999, 0, 1, 2, 6, 8], []), ([0, 1, 2, 6, 10], [(2, [1])]), ([], []), ([0, 1, 2, 6, 10, 24], []), ([], []), ([6, 7], []), ([], []), ([0, 1, 2, 6, 10, 29], []), ([], []), ([6, 7], []), ([], []), ([0, 6, 10, 40], []), ([], []), ([6, 7], []), ([], []), ([999999, 0, 6, 10], []), ([0, 6, 9, 10, 11], []), ([], []), ([0, 6, 10, 11, 61], []), ([], []), ([6, 7], []), ([], []), ([999999, 0, 6, 10, 11], []), ([6, 7], []), ([], [])]) (by kernel_rfl)

def k1_centoref04_Words : CC :=
  .seq (.seq (.reg [co (some 51) (.fieldAddr 27 (.tmp 1) 5) none,
        co (some 52) (.load 3 (.tmp 51)) none,
        co (some 53) (.move (.tmp 3)) none,
        co (some 54) (.binOp .rem 3 (.tmp 52) (.tmp 53) 3) none,
        co (some 55) (.binOp .gtr 3 (.tmp 54) (.const (.int .i64 0)) 3) none] [1, 3, 55])
    (.cond (.tmp 55)
      (.seq (.reg [co (some 56) (.fieldAddr 27 (.tmp 1) 5) none,
          co (some 57) (.load 3 (.tmp 56)) none,
          co (some 58) (.move (.tmp 3)) none,
          co (some 59) (.binOp .quo 3 (.tmp 57) (.tmp 58) 3) none,
          co (some 60) (.binOp .add 3 (.tmp 59) (.const (.int .i64 1)) 3) none,
          co (some 2) (.assign (.tmp 60)) none] [2])
      (.ret))
      (.skip)))
  (.keep [1, 3] (.seq (.reg [co (some 61) (.fieldAddr 27 (.tmp 1) 5) none,
      co (some 62) (.load 3 (.tmp 61)) none,
      co (some 63) (.move (.tmp 3)) none,
      co (some 64) (.binOp .quo 3 (.tmp 62) (.tmp 63) 3) none,
      co (some 2) (.assign (.tmp 64)) none] [2])
  (.ret)))

/-- cento/centoref04.Words -/
def c_centoref04_Words : CC :=
  .seq (.reg [cn (some 1) (.box 27 (.tmp 0)) none [0],
      co (some 2) (.assign (.const (.int .i64 0))) none] [1])
  (.seq (.seq (.reg [co (some 4) (.fieldAddr 27 (.tmp 1) 0) none,
        co (some 5) (.load 3 (.tmp 4)) none,
        co (some 6) (.binOp .eql 3 (.tmp 5) (.const (.int .i64 1)) 3) none] [1, 6])
    (.cond (.tmp 6)
      (.seq (.reg [co (some 7) (.fieldAddr 27 (.tmp 1) 2) none,
          co (some 8) (.load 3 (.tmp 7)) none,
          co (some 9) (.fieldAddr 27 (.tmp 1) 3) none,
          co (some 10) (.load 3 (.tmp 9)) none,
          co (some 11) (.binOp .add 3 (.tmp 8) (.tmp 10) 3) none,
          co (some 2) (.assign (.tmp 11)) none] [2])
      (.ret))
      (.skip)))
  (.keep [1] (.seq (.seq (.reg [co (some 12) (.fieldAddr 27 (.tmp 1) 0) none,
        co (some 13) (.load 3 (.tmp 12)) none,
        co (some 14) (.binOp .neq 3 (.tmp 13) (.const (.int .i64 2)) 3) none] [1, 14])
    (.cond (.tmp 14)
      (.seq (.reg [co (some 2) (.assign (.const (.int .i64 (-1)))) none] [2])
      (.ret))
      (.skip)))
  (.keep [1] (.seq (.seq (.reg [co (some 15) (.fieldAddr 27 (.tmp 1) 4) none,
        co (some 16) (.load 3 (.tmp 15)) none,
        co (some 17) (.binOp .eql 3 (.tmp 16) (.const (.int .i64 7)) 3) none] [1, 17])
    (.cond (.tmp 17)
      (.seq (.reg [co (some 18) (.fieldAddr 27 (.tmp 1) 5) none,
          co (some 19) (.load 3 (.tmp 18)) none,
          co (some 20) (.binOp .add 3 (.tmp 19) (.const (.int .i64 1)) 3) none,
          co (some 2) (.assign (.tmp 20)) none] [2])
      (.ret))
      (.skip)))
  (.keep [1] (.seq (.seq (.reg [co (some 21) (.fieldAddr 27 (.tmp 1) 4) none,
        co (some 22) (.load 3 (.tmp 21)) none,
        co (some 23) (.binOp .lss 3 (.tmp 22) (.const (.int .i64 0)) 3) none,
        co (some 24) (.move (.tmp 23)) none,
        co (some 25) (.fieldAddr 27 (.tmp 1) 4) (some (24, false)),
        co (some 26) (.load 3 (.tmp 25)) (some (24, false)),
        co (some 27) (.binOp .gtr 3 (.tmp 26) (.const (.int .i64 6)) 3) (some (24, false)),
        co (some 28) (.pick (.tmp 24) (.const (.bool true)) (.tmp 27)) none,
        co (some 29) (.move (.tmp 28)) none,
        co (some 30) (.fieldAddr 27 (.tmp 1) 5) (some (29, false)),
        co (some 31) (.load 3 (.tmp 30)) (some (29, false)),
        co (some 32) (.binOp .lss 3 (.tmp 31) (.const (.int .i64 0)) 3) (some (29, false)),
        co (some 33) (.pick (.tmp 29) (.const (.bool true)) (.tmp 32)) none,
        co (some 34) (.move (.tmp 33)) none,
        co (some 35) (.fieldAddr 27 (.tmp 1) 5) (some (34, false)),
        co (some 36) (.load 3 (.tmp 35)) (some (34, false)),
        co (some 37) (.binOp .geq 3 (.tmp 36) (.const (.int .i64 536870912)) 3) (some (34, false)),
        co (some 38) (.pick (.tmp 34) (.const (.bool true)) (.tmp 37)) none] [1, 38])
    (.cond (.tmp 38)
      (.seq (.reg [co (some 2) (.assign (.const (.int .i64 (-1)))) none] [2])
      (.ret))
      (.skip)))
  (.keep [1] (.seq (.reg [co (some 3) (.assign (.const (.int .i64 1))) none] [1, 3])
  (.seq (.seq (.reg [co (some 39) (.fieldAddr 27 (.tmp 1) 4) none,
        co (some 40) (.load 3 (.tmp 39)) none] [1, 3, 40])
    (.block 0
      (.seq (.reg [co (some 42) (.binOp .eql 3 (.tmp 40) (.const (.int .i64 0)) 3) none,
          co (some 41) (.assign (.tmp 42)) none] [1, 3, 40, 41])
      (.cond (.tmp 41)
        (.seq (.reg [co (some 2) (.assign (.const (.int .i64 0))) none] [2])
        (.ret))
        (.seq (.reg [co (some 44) (.binOp .eql 3 (.tmp 40) (.const (.int .i64 1)) 3) none,
            co (some 43) (.assign (.tmp 44)) none] [1, 3, 40, 43])
        (.cond (.tmp 43)
          (.reg [co (some 3) (.assign (.const (.int .i64 64))) none] [1, 3])
          (.seq (.reg [co (some 46) (.binOp .eql 3 (.tmp 40) (.const (.int .i64 2)) 3) none,
              co (some 45) (.assign (.tmp 46)) none] [1, 3, 40, 45])
          (.cond (.tmp 45)
            (.reg [co (some 3) (.assign (.const (.int .i64 8))) none] [1, 3])
            (.seq (.reg [co (some 48) (.binOp .eql 3 (.tmp 40) (.const (.int .i64 3)) 3) none,
                co (some 47) (.assign (.tmp 48)) none] [1, 3, 40, 47])
            (.cond (.tmp 47)
              (.reg [co (some 3) (.assign (.const (.int .i64 4))) none] [1, 3])
              (.seq (.reg [co (some 50) (.binOp .eql 3 (.tmp 40) (.const (.int .i64 4)) 3) none,
                  co (some 49) (.assign (.tmp 50)) none] [1, 3, 49])
              (.cond (.tmp 49)
                (.reg [co (some 3) (.assign (.const (.int .i64 2))) none] [1, 3])
                (.skip)))))))))))))
  (.keep [1, 3] k1_centoref04_Words)))))))))))
theorem t_centoref04_Words : Txt Try.prog 40 65 [(.tmp 2)] c_centoref04_Words := txt_of (code := Try.f40.body.getD .ret) mixed (by kernel_rfl) Try.func40 (by kernel_rfl) Try.ntmps40 (by kernel_rfl) (ls := [([1], [(0, [0])]), ([], []), ([1, 6], []), ([], []), ([2], []), ([], []), ([999999, 1], []), ([1, 14], []), ([], []), ([2], []), ([], []), ([999999, 1], []), ([1, 17], []), ([], []), ([2], []), ([], []), ([999999, 1], []), ([1, 38], []), ([], []), ([2], []), ([], []), ([999999, 1], []), ([1, 3], []), ([], []), ([1, 3, 40], []), ([], []), ([1, 3, 40, 41], []), ([], []), ([2], []), ([], []), ([1, 3, 40, 43], []), ([], []), ([1, 3], []), ([1, 3, 40, 45], []), ([], []), ([1, 3], []), ([1, 3, 40, 47], []), ([], []), ([1, 3], []), ([1, 3, 49], []), ([], []), ([1, 3], []), ([999999, 1, 3], []), ([1, 3, 55], []), ([], []), ([2], []), ([], []), ([999999, 1, 3], []), ([2], []), ([], [])]) (by kernel_rfl)


/-- cento/centoref06.has -/
def c_centoref06_has : CC :=
  .seq (.reg [co (some 6) (.assign (.const (.bool false))) none] [0, 1, 2])
  (.seq (.reg [co (some 7) (.move (.tmp 1)) none,
      co (some 8) (.binOp .geq 3 (.tmp 7) (.const (.int .i64 0)) 3) none,
      co (some 9) (.move (.tmp 8)) none,
      co (some 10) (.move (.tmp 1)) (some (9, true)),
      co (some 11) (.move (.tmp 0)) (some (9, true)),
      co (some 12) (.call { callee := (.builtin .len), args := #[(.tmp 11)], argTypes := #[44] }) (some (9, true)),
      co (some 13) (.binOp .lss 3 (.tmp 10) (.tmp 12) 3) (some (9, true)),
      co (some 14) (.pick (.tmp 9) (.tmp 13) (.const (.bool false))) none,
      co (some 15) (.move (.tmp 14)) none,
      co (some 16) (.move (.tmp 2)) (some (15, true)),
      co (some 17) (.binOp .geq 3 (.tmp 16) (.const (.int .i64 0)) 3) (some (15, true)),
      co (some 18) (.pick (.tmp 15) (.tmp 17) (.const (.bool false))) none,
      co (some 19) (.move (.tmp 18)) none,
      co (some 20) (.move (.tmp 2)) (some (19, true)),
      co (some 21) (.move (.tmp 0)) (some (19, true)),
      co (some 22) (.move (.tmp 1)) (some (19, true)),
      co (some 23) (.indexAddr 44 (.tmp 21) (.tmp 22)) (some (19, true)),
      co (some 24) (.load 45 (.tmp 23)) (some (19, true)),
      co (some 25) (.call { callee := (.builtin .len), args := #[(.tmp 24)], argTypes := #[45] }) (some (19, true)),
      co (some 26) (.binOp .lss 3 (.tmp 20) (.tmp 25) 3) (some (19, true)),
      co (some 27) (.pick (.tmp 19) (.tmp 26) (.const (.bool false))) none,
      co (some 6) (.assign (.tmp 27)) none] [6])
  (.ret))
theorem t_centoref06_has : Txt Try.prog 54 28 [(.tmp 6)] c_centoref06_has := txt_of (code := Try.f54.body.getD .ret) mixed (by kernel_rfl) Try.func54 (by kernel_rfl) Try.ntmps54 (by kernel_rfl) (ls := [([0, 1, 2], []), ([], []), ([6], []), ([], [])]) (by kernel_rfl)


/-- cento/centoref06.whole -/
def c_centoref06_whole : CC :=
  .seq (.reg [cn (some 3) (.box 73 (.tmp 1)) none [0],
      cn (some 4) (.alloc 73) none [1],
      co (some 5) (.assign (.const (.int .i64 0))) none] [0, 3, 4])
  (.seq (.reg [co (some 7) (.fieldAddr 73 (.tmp 3) 0) none,
      co (some 8) (.load 27 (.tmp 7)) none,
      co (some 9) (.call { callee := (.value (.func 40)), args := #[(.tmp 8)], argTypes := #[27] }) none,
      co (some 6) (.assign (.tmp 9)) none] [0, 3, 4, 6])
  (.seq (.seq (.reg [co (some 10) (.fieldAddr 73 (.tmp 3) 1) none,
        co (some 11) (.load 3 (.tmp 10)) none,
        co (some 12) (.binOp .lss 3 (.tmp 11) (.const (.int .i64 0)) 3) none,
        co (some 13) (.move (.tmp 12)) none,
        co (some 14) (.fieldAddr 73 (.tmp 3) 1) (some (13, false)),
        co (some 15) (.load 3 (.tmp 14)) (some (13, false)),
        co (some 16) (.move (.tmp 0)) (some (13, false)),
        co (some 17) (.call { callee := (.builtin .len), args := #[(.tmp 16)], argTypes := #[44] }) (some (13, false)),
        co (some 18) (.binOp .geq 3 (.tmp 15) (.tmp 17) 3) (some (13, false)),
        co (some 19) (.pick (.tmp 13) (.const (.bool true)) (.tmp 18)) none,
        co (some 20) (.move (.tmp 19)) none,
        co (some 21) (.fieldAddr 73 (.tmp 3) 2) (some (20, false)),
        co (some 22) (.load 3 (.tmp 21)) (some (20, false)),
        co (some 23) (.binOp .lss 3 (.tmp 22) (.const (.int .i64 0)) 3) (some (20, false)),
        co (some 24) (.pick (.tmp 20) (.const (.bool true)) (.tmp 23)) none,
        co (some 25) (.move (.tmp 24)) none,
        co (some 26) (.fieldAddr 73 (.tmp 3) 2) (some (25, false)),
        co (some 27) (.load 3 (.tmp 26)) (some (25, false)),
        co (some 28) (.move (.tmp 0)) (some (25, false)),
        co (some 29) (.fieldAddr 73 (.tmp 3) 1) (some (25, false)),
        co (some 30) (.load 3 (.tmp 29)) (some (25, false)),
        co (some 31) (.indexAddr 44 (.tmp 28) (.tmp 30)) (some (25, false)),
        co (some 32) (.load 45 (.tmp 31)) (some (25, false)),
        co (some 33) (.call { callee := (.builtin .len), args := #[(.tmp 32)], argTypes := #[45] }) (some (25, false)),
        co (some 34) (.binOp .gtr 3 (.tmp 27) (.tmp 33) 3) (some (25, false)),
        co (some 35) (.pick (.tmp 25) (.const (.bool true)) (.tmp 34)) none,
        co (some 36) (.move (.tmp 35)) none,
        co (some 37) (.move (.tmp 6)) (some (36, false)),
        co (some 38) (.move (.tmp 0)) (some (36, false)),
        co (some 39) (.fieldAddr 73 (.tmp 3) 1) (some (36, false)),
        co (some 40) (.load 3 (.tmp 39)) (some (36, false)),
        co (some 41) (.indexAddr 44 (.tmp 38) (.tmp 40)) (some (36, false)),
        co (some 42) (.load 45 (.tmp 41)) (some (36, false)),
        co (some 43) (.call { callee := (.builtin .len), args := #[(.tmp 42)], argTypes := #[45] }) (some (36, false)),
        co (some 44) (.fieldAddr 73 (.tmp 3) 2) (some (36, false)),
        co (some 45) (.load 3 (.tmp 44)) (some (36, false)),
        co (some 46) (.binOp .sub 3 (.tmp 43) (.tmp 45) 3) (some (36, false)),
        co (some 47) (.binOp .gtr 3 (.tmp 37) (.tmp 46) 3) (some (36, false)),
        co (some 48) (.pick (.tmp 36) (.const (.bool true)) (.tmp 47)) none] [3, 4, 48])
    (.cond (.tmp 48)
      (.seq (.reg [co (some 49) (.build 73 #[]) none,
          co none (.store 73 (.tmp 4) (.tmp 49)) none,
          co (some 5) (.assign (.const (.int .i64 7))) none] [4, 5])
      (.ret))
      (.skip)))
  (.keep [3, 4] (.seq (.reg [co (some 50) (.fieldAddr 73 (.tmp 3) 0) none,
      co (some 51) (.fieldAddr 27 (.tmp 50) 1) none,
      co none (.store 3 (.tmp 51) (.const (.int .i64 0))) none] [3, 4])
  (.seq (.reg [co (some 52) (.load 73 (.tmp 3)) none,
      co none (.store 73 (.tmp 4) (.tmp 52)) none,
      co (some 5) (.assign (.const (.int .i64 0))) none] [4, 5])
  (.ret))))))
theorem t_centoref06_whole : Txt Try.prog 56 53 [(.cell 4 73), (.tmp 5)] c_centoref06_whole := txt_of (code := Try.f56.body.getD .ret) mixed (by kernel_rfl) Try.func56 (by kernel_rfl) Try.ntmps56 (by kernel_rfl) (ls := [([0, 3, 4], [(0, [0]), (1, [1])]), ([], []), ([0, 3, 4, 6], []), ([], []), ([3, 4, 48], []), ([], []), ([4, 5], []), ([], []), ([999999, 3, 4], []), ([3, 4], []), ([], []), ([4, 5], []), ([], [])]) (by kernel_rfl)


/-- cento/centoref06.shape -/
def c_centoref06_shape : CC :=
  .seq (.reg [cn (some 1) (.box 27 (.tmp 0)) none [0],
      co (some 2) (.assign (.const (.int .i64 0))) none] [1])
  (.seq (.seq (.reg [co (some 3) (.fieldAddr 27 (.tmp 1) 0) none,
        co (some 4) (.load 3 (.tmp 3)) none,
        co (some 5) (.binOp .eql 3 (.tmp 4) (.const (.int .i64 4)) 3) none] [1, 5])
    (.cond (.tmp 5)
      (.seq (.reg [co (some 2) (.assign (.const (.int .i64 9))) none] [2])
      (.ret))
      (.skip)))
  (.keep [1] (.seq (.seq (.reg [co (some 6) (.fieldAddr 27 (.tmp 1) 0) none,
        co (some 7) (.load 3 (.tmp 6)) none,
        co (some 8) (.binOp .neq 3 (.tmp 7) (.const (.int .i64 1)) 3) none,
        co (some 9) (.move (.tmp 8)) none,
        co (some 10) (.fieldAddr 27 (.tmp 1) 0) (some (9, true)),
        co (some 11) (.load 3 (.tmp 10)) (some (9, true)),
        co (some 12) (.binOp .neq 3 (.tmp 11) (.const (.int .i64 2)) 3) (some (9, true)),
        co (some 13) (.pick (.tmp 9) (.tmp 12) (.const (.bool false))) none] [13])
    (.cond (.tmp 13)
      (.seq (.reg [co (some 2) (.assign (.const (.int .i64 8))) none] [2])
      (.ret))
      (.skip)))
  (.keep [] (.seq (.reg [co (some 2) (.assign (.const (.int .i64 0))) none] [2])
  (.ret))))))
theorem t_centoref06_shape : Txt Try.prog 55 14 [(.tmp 2)] c_centoref06_shape := txt_of (code := Try.f55.body.getD .ret) mixed (by kernel_rfl) Try.func55 (by kernel_rfl) Try.ntmps55 (by kernel_rfl) (ls := [([1], [(0, [0])]), ([], []), ([1, 5], []), ([], []), ([2], []), ([], []), ([999999, 1], []), ([13], []), ([], []), ([2], []), ([], []), ([999999], []), ([2], []), ([], [])]) (by kernel_rfl)

def k1_centoref06_Follow : CC :=
  .seq (.seq (.reg [co (some 94) (.move (.tmp 11)) none,
        co (some 95) (.binOp .neq 3 (.tmp 94) (.const (.int .i64 0)) 3) none] [0, 6, 9, 10, 11, 95])
    (.cond (.tmp 95)
      (.seq (.reg [co (some 96) (.build 73 #[]) none,
          co (some 97) (.move (.tmp 11)) none,
          co none (.store 73 (.tmp 6) (.tmp 96)) none,
          co (some 7) (.assign (.tmp 97)) none] [6, 7])
      (.ret))
      (.skip)))
  (.keep [0, 6, 9, 10] (.seq (.reg [co (some 98) (.move (.tmp 0)) none,
      co (some 99) (.load 27 (.tmp 10)) none,
      co (some 100) (.fieldAddr 27 (.tmp 9) 6) none,
      co (some 101) (.load 3 (.tmp 100)) none,
      co (some 102) (.fieldAddr 27 (.tmp 9) 1) none,
      co (some 103) (.load 3 (.tmp 102)) none,
      co (some 104) (.build 73 #[(0, (.tmp 99)), (1, (.tmp 101)), (2, (.tmp 103))]) none,
      co (some 105) (.call { callee := (.value (.func 56)), args := #[(.tmp 98), (.tmp 104)], argTypes := #[44, 73] }) none,
      co (some 106) (.extract (.tmp 105) 0) none,
      co (some 107) (.extract (.tmp 105) 1) none,
      co none (.store 73 (.tmp 6) (.tmp 106)) none,
      co (some 7) (.assign (.tmp 107)) none] [6, 7])
  (.ret)))
def k2_centoref06_Follow : CC :=
  .seq (.reg [co (some 129) (.load 27 (.tmp 8)) none,
      co (some 130) (.call { callee := (.value (.func 55)), args := #[(.tmp 129)], argTypes := #[27] }) none,
      co (some 12) (.assign (.tmp 130)) none] [0, 1, 2, 6, 8, 12])
  (.seq (.seq (.reg [co (some 131) (.move (.tmp 12)) none,
        co (some 132) (.binOp .neq 3 (.tmp 131) (.const (.int .i64 0)) 3) none] [0, 1, 2, 6, 8, 12, 132])
    (.cond (.tmp 132)
      (.seq (.reg [co (some 133) (.build 73 #[]) none,
          co (some 134) (.move (.tmp 12)) none,
          co none (.store 73 (.tmp 6) (.tmp 133)) none,
          co (some 7) (.assign (.tmp 134)) none] [6, 7])
      (.ret))
      (.skip)))
  (.keep [0, 1, 2, 6, 8] (.seq (.reg [co (some 135) (.move (.tmp 0)) none,
      co (some 136) (.load 27 (.tmp 8)) none,
      co (some 137) (.move (.tmp 1)) none,
      co (some 138) (.move (.tmp 2)) none,
      co (some 139) (.binOp .add 3 (.tmp 138) (.const (.int .i64 1)) 3) none,
      co (some 140) (.fieldAddr 27 (.tmp 8) 1) none,
      co (some 141) (.load 3 (.tmp 140)) none,
      co (some 142) (.binOp .add 3 (.tmp 139) (.tmp 141) 3) none,
      co (some 143) (.build 73 #[(0, (.tmp 136)), (1, (.tmp 137)), (2, (.tmp 142))]) none,
      co (some 144) (.call { callee := (.value (.func 56)), args := #[(.tmp 135), (.tmp 143)], argTypes := #[44, 73] }) none,
      co (some 145) (.extract (.tmp 144) 0) none,
      co (some 146) (.extract (.tmp 144) 1) none,
      co none (.store 73 (.tmp 6) (.tmp 145)) none,
      co (some 7) (.assign (.tmp 146)) none] [6, 7])
  (.ret))))

/-- cento/centoref06.Follow -/
def c_centoref06_Follow : CC :=
  .seq (.reg [cn (some 6) (.alloc 73) none [0],
      co (some 7) (.assign (.const (.int .i64 0))) none] [0, 1, 2, 6])
  (.seq (.seq (.reg [co (some 13) (.move (.tmp 0)) none,
        co (some 14) (.move (.tmp 1)) none,
        co (some 15) (.move (.tmp 2)) none,
        co (some 16) (.call { callee := (.value (.func 54)), args := #[(.tmp 13), (.tmp 14), (.tmp 15)], argTypes := #[44, 3, 3] }) none,
        co (some 17) (.unOp .not 4 (.tmp 16)) none] [0, 1, 2, 6, 17])
    (.cond (.tmp 17)
      (.seq (.reg [co (some 18) (.build 73 #[]) none,
          co none (.store 73 (.tmp 6) (.tmp 18)) none,
          co (some 7) (.assign (.const (.int .i64 7))) none] [6, 7])
      (.ret))
      (.skip)))
  (.keep [0, 1, 2, 6] (.seq (.reg [co (some 19) (.move (.tmp 0)) none,
      co (some 20) (.move (.tmp 1)) none,
      co (some 21) (.indexAddr 44 (.tmp 19) (.tmp 20)) none,
      co (some 22) (.load 45 (.tmp 21)) none,
      co (some 23) (.move (.tmp 2)) none,
      co (some 24) (.indexAddr 45 (.tmp 22) (.tmp 23)) none,
      co (some 25) (.load 22 (.tmp 24)) none,
      co (some 26) (.call { callee := (.value (.func 14)), args := #[(.tmp 25)], argTypes := #[22] }) none,
      cn (some 8) (.alloc 27) none [1],
      co none (.store 27 (.tmp 8) (.tmp 26)) none] [0, 1, 2, 6, 8])
  (.seq (.seq (.reg [co (some 27) (.fieldAddr 27 (.tmp 8) 0) none,
        co (some 28) (.load 3 (.tmp 27)) none,
        co (some 29) (.binOp .eql 3 (.tmp 28) (.const (.int .i64 0)) 3) none] [0, 1, 2, 6, 8, 29])
    (.cond (.tmp 29)
      (.seq (.reg [co (some 30) (.build 73 #[]) none,
          co none (.store 73 (.tmp 6) (.tmp 30)) none,
          co (some 7) (.assign (.const (.int .i64 0))) none] [6, 7])
      (.ret))
      (.skip)))
  (.keep [0, 1, 2, 6, 8] (.seq (.seq (.reg [co (some 31) (.fieldAddr 27 (.tmp 8) 0) none,
        co (some 32) (.load 3 (.tmp 31)) none,
        co (some 33) (.binOp .eql 3 (.tmp 32) (.const (.int .i64 3)) 3) none,
        co (some 34) (.move (.tmp 33)) none,
        co (some 35) (.fieldAddr 27 (.tmp 8) 7) (some (34, true)),
        co (some 36) (.load 4 (.tmp 35)) (some (34, true)),
        co (some 37) (.pick (.tmp 34) (.tmp 36) (.const (.bool false))) none] [0, 1, 2, 6, 8, 37])
    (.cond (.tmp 37)
      (.seq (.seq (.reg [co (some 38) (.move (.tmp 0)) none,
            co (some 39) (.fieldAddr 27 (.tmp 8) 6) none,
            co (some 40) (.load 3 (.tmp 39)) none,
            co (some 41) (.fieldAddr 27 (.tmp 8) 1) none,
            co (some 42) (.load 3 (.tmp 41)) none,
            co (some 43) (.call { callee := (.value (.func 54)), args := #[(.tmp 38), (.tmp 40), (.tmp 42)], argTypes := #[44, 3, 3] }) none,
            co (some 44) (.unOp .not 4 (.tmp 43)) none,
            co (some 45) (.move (.tmp 44)) none,
            co (some 46) (.move (.tmp 0)) (some (45, false)),
            co (some 47) (.fieldAddr 27 (.tmp 8) 6) (some (45, false)),
            co (some 48) (.load 3 (.tmp 47)) (some (45, false)),
            co (some 49) (.fieldAddr 27 (.tmp 8) 1) (some (45, false)),
            co (some 50) (.load 3 (.tmp 49)) (some (45, false)),
            co (some 51) (.binOp .add 3 (.tmp 50) (.const (.int .i64 1)) 3) (some (45, false)),
            co (some 52) (.call { callee := (.value (.func 54)), args := #[(.tmp 46), (.tmp 48), (.tmp 51)], argTypes := #[44, 3, 3] }) (some (45, false)),
            co (some 53) (.unOp .not 4 (.tmp 52)) (some (45, false)),
            co (some 54) (.pick (.tmp 45) (.const (.bool true)) (.tmp 53)) none] [0, 6, 8, 54])
        (.cond (.tmp 54)
          (.seq (.reg [co (some 55) (.build 73 #[]) none,
              co none (.store 73 (.tmp 6) (.tmp 55)) none,
              co (some 7) (.assign (.const (.int .i64 7))) none] [6, 7])
          (.ret))
          (.skip)))
      (.keep [0, 6, 8] (.seq (.reg [co (some 56) (.move (.tmp 0)) none,
          co (some 57) (.fieldAddr 27 (.tmp 8) 6) none,
          ⟨some 58, (.load 3 (.tmp 57)), none, [], 2, [], true⟩,
          co (some 59) (.indexAddr 44 (.tmp 56) (.tmp 58)) none,
          ⟨some 60, (.load 45 (.tmp 59)), none, [], 4, [], true⟩,
          co (some 61) (.fieldAddr 27 (.tmp 8) 1) none,
          ⟨some 62, (.load 3 (.tmp 61)), none, [], 6, [], true⟩,
          co (some 63) (.indexAddr 45 (.tmp 60) (.tmp 62)) none,
          ⟨some 64, (.load 22 (.tmp 63)), none, [], 8, [], true⟩,
          ⟨some 65, (.call { callee := (.value (.func 14)), args := #[(.tmp 64)], argTypes := #[22] }), none, [], 9, [], true⟩,
          co (some 66) (.move (.tmp 0)) none,
          co (some 67) (.fieldAddr 27 (.tmp 8) 6) none,
          ⟨some 68, (.load 3 (.tmp 67)), none, [], 12, [9], true⟩,
          co (some 69) (.indexAddr 44 (.tmp 66) (.tmp 68)) none,
          ⟨some 70, (.load 45 (.tmp 69)), none, [], 14, [9], true⟩,
          co (some 71) (.fieldAddr 27 (.tmp 8) 1) none,
          ⟨some 72, (.load 3 (.tmp 71)), none, [], 16, [9], true⟩,
          co (some 73) (.binOp .add 3 (.tmp 72) (.const (.int .i64 1)) 3) none,
          co (some 74) (.indexAddr 45 (.tmp 70) (.tmp 73)) none,
          ⟨some 75, (.load 22 (.tmp 74)), none, [], 19, [9], true⟩,
          ⟨some 76, (.call { callee := (.value (.func 14)), args := #[(.tmp 75)], argTypes := #[22] }), none, [], 20, [], true⟩,
          ⟨some 9, (.alloc 27), none, [2], 21, [2, 4, 6, 8, 9, 12, 14, 16, 19, 20], true⟩,
          ⟨some 10, (.alloc 27), none, [3], 22, [2, 4, 6, 8, 9, 12, 14, 16, 19, 20, 21], false⟩,
          co none (.store 27 (.tmp 9) (.tmp 65)) none,
          co none (.store 27 (.tmp 10) (.tmp 76)) none] [0, 6, 9, 10])
      (.seq (.seq (.reg [co (some 77) (.fieldAddr 27 (.tmp 9) 0) none,
            co (some 78) (.load 3 (.tmp 77)) none,
            co (some 79) (.binOp .neq 3 (.tmp 78) (.const (.int .i64 3)) 3) none,
            co (some 80) (.move (.tmp 79)) none,
            co (some 81) (.fieldAddr 27 (.tmp 9) 7) (some (80, false)),
            co (some 82) (.load 4 (.tmp 81)) (some (80, false)),
            co (some 83) (.pick (.tmp 80) (.const (.bool true)) (.tmp 82)) none] [0, 6, 9, 10, 83])
        (.cond (.tmp 83)
          (.seq (.reg [co (some 84) (.build 73 #[]) none,
              co none (.store 73 (.tmp 6) (.tmp 84)) none,
              co (some 7) (.assign (.const (.int .i64 8))) none] [6, 7])
          (.ret))
          (.skip)))
      (.keep [0, 6, 9, 10] (.seq (.reg [co (some 85) (.load 27 (.tmp 10)) none,
          co (some 86) (.call { callee := (.value (.func 55)), args := #[(.tmp 85)], argTypes := #[27] }) none,
          co (some 11) (.assign (.tmp 86)) none] [0, 6, 9, 10, 11])
      (.seq (.seq (.reg [co (some 87) (.move (.tmp 11)) none,
            co (some 88) (.binOp .eql 3 (.tmp 87) (.const (.int .i64 0)) 3) none,
            co (some 89) (.move (.tmp 88)) none,
            co (some 90) (.fieldAddr 27 (.tmp 10) 1) (some (89, true)),
            co (some 91) (.load 3 (.tmp 90)) (some (89, true)),
            co (some 92) (.binOp .neq 3 (.tmp 91) (.const (.int .i64 0)) 3) (some (89, true)),
            co (some 93) (.pick (.tmp 89) (.tmp 92) (.const (.bool false))) none] [0, 6, 9, 10, 11, 93])
        (.cond (.tmp 93)
          (.reg [co (some 11) (.assign (.const (.int .i64 8))) none] [0, 6, 9, 10, 11])
          (.skip)))
      (.keep [0, 6, 9, 10, 11] k1_centoref06_Follow))))))))
      (.skip)))
  (.keep [0, 1, 2, 6, 8] (.seq (.seq (.reg [co (some 108) (.fieldAddr 27 (.tmp 8) 0) none,
        co (some 109) (.load 3 (.tmp 108)) none,
        co (some 110) (.binOp .eql 3 (.tmp 109) (.const (.int .i64 3)) 3) none] [0, 1, 2, 6, 8, 110])
    (.cond (.tmp 110)
      (.seq (.reg [co (some 111) (.fieldAddr 27 (.tmp 8) 6) none,
          co (some 112) (.load 3 (.tmp 111)) none,
          co (some 1) (.assign (.tmp 112)) none] [0, 1, 6, 8])
      (.seq (.reg [co (some 113) (.fieldAddr 27 (.tmp 8) 1) none,
          co (some 114) (.load 3 (.tmp 113)) none,
          co (some 2) (.assign (.tmp 114)) none] [0, 1, 2, 6, 8])
      (.seq (.seq (.reg [co (some 115) (.move (.tmp 0)) none,
            co (some 116) (.move (.tmp 1)) none,
            co (some 117) (.move (.tmp 2)) none,
            co (some 118) (.call { callee := (.value (.func 54)), args := #[(.tmp 115), (.tmp 116), (.tmp 117)], argTypes := #[44, 3, 3] }) none,
            co (some 119) (.unOp .not 4 (.tmp 118)) none] [0, 1, 2, 6, 8, 119])
        (.cond (.tmp 119)
          (.seq (.reg [co (some 120) (.build 73 #[]) none,
              co none (.store 73 (.tmp 6) (.tmp 120)) none,
              co (some 7) (.assign (.const (.int .i64 7))) none] [6, 7])
          (.ret))
          (.skip)))
      (.keep [0, 1, 2, 6, 8] (.reg [co (some 121) (.move (.tmp 0)) none,
        co (some 122) (.move (.tmp 1)) none,
        co (some 123) (.indexAddr 44 (.tmp 121) (.tmp 122)) none,
        co (some 124) (.load 45 (.tmp 123)) none,
        co (some 125) (.move (.tmp 2)) none,
        co (some 126) (.indexAddr 45 (.tmp 124) (.tmp 125)) none,
        co (some 127) (.load 22 (.tmp 126)) none,
        co (some 128) (.call { callee := (.value (.func 14)), args := #[(.tmp 127)], argTypes := #[22] }) none,
        co none (.store 27 (.tmp 8) (.tmp 128)) none] [0, 1, 2, 6, 8])))))
      (.skip)))
  (.keep [0, 1, 2, 6, 8] k2_centoref06_Follow)))))))))
theorem t_centoref06_Follow : Txt Try.prog 36 147 [(.cell 6 73), (.tmp 7)] c_centoref06_Follow := txt_of (code := Try.f36.body.getD .ret) mixed (by kernel_rfl) Try.func36 (by kernel_rfl) Try.ntmps36 (by kernel_rfl) (ls := [([0, 1, 2, 6], [(0, [0])]), ([], []), ([0, 1, 2, 6, 17], []), ([], []), ([6, 7], []), ([], []), ([999999, 0, 1, 2, 6], []), ([0, 1, 2, 6, 8], [(8, [1])]), ([], []), ([0, 1, 2, 6, 8, 29], []), ([], []), ([6, 7], []), ([], []), ([999999, 0, 1, 2, 6, 8], []), ([0, 1, 2, 6, 8, 37], []), ([], []), ([0, 6, 8, 54], []), ([], []), ([6, 7], []), ([], []), ([999999, 0, 6, 8], []), ([0, 6, 9, 10], [(21, [2]), (22, [3])]), ([], []), ([0, 6, 9, 10, 83], []), ([], []), ([6, 7], []), ([], []), ([999999, 0, 6, 9, 10], []), ([0, 6, 9, 10, 11], []), ([], []), ([0, 6, 9, 10, 11, 93], []), ([], []), ([0, 6, 9, 10, 11], []), ([999999, 0, 6, 9, 10, 11], []), ([0, 6, 9, 10, 11, 95], []), ([], []), ([6, 7], []), ([], []), ([999999, 0, 6, 9, 10], []), ([6, 7], []), ([], []), ([999999, 0, 1, 2, 6, 8], []), ([0, 1, 2, 6, 8, 110], []), ([], []), ([0, 1, 6, 8], []), ([], []), ([0, 1, 2, 6, 8], []), ([], []), ([0, 1, 2, 6, 8, 119], []), ([], []), ([6, 7], []), ([], []), ([999999, 0, 1, 2, 6, 8], []), ([0, 1, 2, 6, 8], []), ([999999, 0, 1, 2, 6, 8], []), ([0, 1, 2, 6, 8, 12], []), ([], []), ([0, 1, 2, 6, 8, 12, 132], []), ([], []), ([6, 7], []), ([], []), ([999999, 0, 1, 2, 6, 8], []), ([6, 7], []), ([], [])]) (by kernel_rfl)


/-- cento/centolaw06.Mine -/
def c_centolaw06_Mine : CC :=
  .seq (.reg [cn (some 1) (.box 73 (.tmp 0)) none [0],
      cn (some 2) (.alloc 68) none [1]] [1, 2])
  (.seq (.reg [co (some 4) (.fieldAddr 73 (.tmp 1) 0) none,
      co (some 5) (.load 27 (.tmp 4)) none,
      cn (some 3) (.alloc 27) none [2],
      co none (.store 27 (.tmp 3) (.tmp 5)) none] [1, 2, 3])
  (.seq (.reg [co (some 6) (.fieldAddr 27 (.tmp 3) 0) none,
      co (some 7) (.load 3 (.tmp 6)) none,
      co (some 8) (.fieldAddr 27 (.tmp 3) 1) none,
      co (some 9) (.load 3 (.tmp 8)) none,
      co (some 10) (.fieldAddr 27 (.tmp 3) 2) none,
      co (some 11) (.load 3 (.tmp 10)) none,
      co (some 12) (.fieldAddr 27 (.tmp 3) 3) none,
      co (some 13) (.load 3 (.tmp 12)) none,
      co (some 14) (.fieldAddr 27 (.tmp 3) 4) none,
      co (some 15) (.load 3 (.tmp 14)) none,
      co (some 16) (.fieldAddr 27 (.tmp 3) 5) none,
      co (some 17) (.load 3 (.tmp 16)) none,
      co (some 18) (.fieldAddr 27 (.tmp 3) 6) none,
      co (some 19) (.load 3 (.tmp 18)) none,
      co (some 20) (.fieldAddr 27 (.tmp 3) 7) none,
      co (some 21) (.load 4 (.tmp 20)) none,
      co (some 22) (.build 24 #[(0, (.tmp 7)), (1, (.tmp 9)), (2, (.tmp 11)), (3, (.tmp 13)), (4, (.tmp 15)), (5, (.tmp 17)), (6, (.tmp 19)), (7, (.tmp 21))]) none,
      co (some 23) (.fieldAddr 73 (.tmp 1) 1) none,
      co (some 24) (.load 3 (.tmp 23)) none,
      co (some 25) (.fieldAddr 73 (.tmp 1) 2) none,
      co (some 26) (.load 3 (.tmp 25)) none,
      co (some 27) (.build 68 #[(0, (.tmp 22)), (1, (.tmp 24)), (2, (.tmp 26))]) none,
      co none (.store 68 (.tmp 2) (.tmp 27)) none] [2])
  (.ret)))
theorem t_centolaw06_Mine : Txt Try.prog 37 28 [(.cell 2 68)] c_centolaw06_Mine := txt_of (code := Try.f37.body.getD .ret) mixed (by kernel_rfl) Try.func37 (by kernel_rfl) Try.ntmps37 (by kernel_rfl) (ls := [([1, 2], [(0, [0]), (1, [1])]), ([], []), ([1, 2, 3], [(2, [2])]), ([], []), ([2], []), ([], [])]) (by kernel_rfl)


/-- cento/centolaw06.awake -/
def c_centolaw06_awake : CC :=
  .seq (.reg [co (some 0) (.assign (.const (.bool false))) none] [])
  (.seq (.reg [co (some 4) (.buildSlice 45 2 #[(0, (.const (.int .u64 4294967296))), (1, (.const (.int .u64 7)))]) none,
      co (some 5) (.buildSlice 44 1 #[(0, (.tmp 4))]) none,
      co (some 6) (.call { callee := (.value (.func 23)), args := #[(.tmp 5)], argTypes := #[44] }) none,
      co (some 7) (.call { callee := (.value (.func 35)), args := #[(.tmp 6), (.const (.int .i64 0)), (.const (.int .i64 0))], argTypes := #[35, 3, 3] }) none,
      co (some 3) (.move (.tmp 7)) none,
      co (some 8) (.extract (.tmp 3) 0) none,
      co (some 9) (.extract (.tmp 3) 1) none,
      cn (some 1) (.alloc 68) none [0],
      co none (.store 68 (.tmp 1) (.tmp 8)) none,
      co (some 2) (.assign (.tmp 9)) none] [1, 2])
  (.seq (.reg [co (some 10) (.move (.tmp 2)) none,
      co (some 11) (.binOp .eql 69 (.tmp 10) (.const (.int .i64 0)) 69) none,
      co (some 12) (.move (.tmp 11)) none,
      co (some 13) (.load 68 (.tmp 1)) (some (12, true)),
      co (some 14) (.build 24 #[(0, (.const (.int .i64 1))), (2, (.const (.int .i64 1)))]) (some (12, true)),
      co (some 15) (.build 68 #[(0, (.tmp 14)), (2, (.const (.int .i64 1)))]) (some (12, true)),
      co (some 16) (.binOp .eql 68 (.tmp 13) (.tmp 15) 68) (some (12, true)),
      co (some 17) (.pick (.tmp 12) (.tmp 16) (.const (.bool false))) none,
      co (some 0) (.assign (.tmp 17)) none] [0])
  (.ret)))
theorem t_centolaw06_awake : Txt Try.prog 38 18 [(.tmp 0)] c_centolaw06_awake := txt_of (code := Try.f38.body.getD .ret) mixed (by kernel_rfl) Try.func38 (by kernel_rfl) Try.ntmps38 (by kernel_rfl) (ls := [([], []), ([], []), ([1, 2], [(7, [0])]), ([], []), ([0], []), ([], [])]) (by kernel_rfl)


/-- cento/centolaw06.FarFollows -/
def c_centolaw06_FarFollows : CC :=
  .seq (.reg [co (some 6) (.assign (.const (.bool false))) none] [0, 1, 2])
  (.seq (.reg [co (some 12) (.move (.tmp 0)) none,
      co (some 13) (.call { callee := (.value (.func 23)), args := #[(.tmp 12)], argTypes := #[44] }) none,
      co (some 14) (.move (.tmp 1)) none,
      co (some 15) (.move (.tmp 2)) none,
      co (some 16) (.call { callee := (.value (.func 35)), args := #[(.tmp 13), (.tmp 14), (.tmp 15)], argTypes := #[35, 3, 3] }) none,
      co (some 11) (.move (.tmp 16)) none,
      co (some 17) (.extract (.tmp 11) 0) none,
      co (some 18) (.extract (.tmp 11) 1) none,
      cn (some 7) (.alloc 68) none [0],
      co none (.store 68 (.tmp 7) (.tmp 17)) none,
      co (some 8) (.assign (.tmp 18)) none] [0, 1, 2, 7, 8])
  (.seq (.reg [co (some 20) (.move (.tmp 0)) none,
      co (some 21) (.move (.tmp 1)) none,
      co (some 22) (.move (.tmp 2)) none,
      co (some 23) (.call { callee := (.value (.func 36)), args := #[(.tmp 20), (.tmp 21), (.tmp 22)], argTypes := #[44, 3, 3] }) none,
      co (some 19) (.move (.tmp 23)) none,
      co (some 24) (.extract (.tmp 19) 0) none,
      co (some 25) (.extract (.tmp 19) 1) none,
      cn (some 9) (.alloc 73) none [1],
      co none (.store 73 (.tmp 9) (.tmp 24)) none,
      co (some 10) (.assign (.tmp 25)) none] [7, 8, 9, 10])
  (.seq (.reg [⟨some 26, (.load 68 (.tmp 7)), none, [], 0, [], true⟩,
      co (some 27) (.load 73 (.tmp 9)) none,
      ⟨some 28, (.call { callee := (.value (.func 37)), args := #[(.tmp 27)], argTypes := #[73] }), none, [], 2, [0], false⟩,
      co (some 29) (.binOp .eql 68 (.tmp 26) (.tmp 28) 68) none,
      co (some 30) (.move (.tmp 29)) none,
      co (some 31) (.move (.tmp 8)) (some (30, true)),
      co (some 32) (.move (.tmp 10)) (some (30, true)),
      co (some 33) (.binOp .eql 3 (.tmp 31) (.tmp 32) 3) (some (30, true)),
      co (some 34) (.pick (.tmp 30) (.tmp 33) (.const (.bool false))) none,
      co (some 35) (.move (.tmp 34)) none,
      co (some 36) (.call { callee := (.value (.func 38)), args := #[], argTypes := #[] }) (some (35, true)),
      co (some 37) (.pick (.tmp 35) (.tmp 36) (.const (.bool false))) none,
      co (some 6) (.assign (.tmp 37)) none] [6])
  (.ret))))
theorem t_centolaw06_FarFollows : Txt Try.prog 9 38 [(.tmp 6)] c_centolaw06_FarFollows := txt_of (code := Try.f9.body.getD .ret) mixed (by kernel_rfl) Try.func9 (by kernel_rfl) Try.ntmps9 (by kernel_rfl) (ls := [([0, 1, 2], []), ([], []), ([0, 1, 2, 7, 8], [(8, [0])]), ([], []), ([7, 8, 9, 10], [(7, [1])]), ([], []), ([6], []), ([], [])]) (by kernel_rfl)


/-- cento/centolaw06.FarWithin -/
def c_centolaw06_FarWithin : CC :=
  .seq (.reg [co (some 6) (.assign (.const (.bool false))) none] [0, 1, 2])
  (.seq (.reg [co (some 12) (.move (.tmp 0)) none,
      co (some 13) (.call { callee := (.value (.func 23)), args := #[(.tmp 12)], argTypes := #[44] }) none,
      co (some 7) (.assign (.tmp 13)) none] [1, 2, 7])
  (.seq (.reg [co (some 15) (.move (.tmp 7)) none,
      co (some 16) (.move (.tmp 1)) none,
      co (some 17) (.move (.tmp 2)) none,
      co (some 18) (.call { callee := (.value (.func 35)), args := #[(.tmp 15), (.tmp 16), (.tmp 17)], argTypes := #[35, 3, 3] }) none,
      co (some 14) (.move (.tmp 18)) none,
      co (some 19) (.extract (.tmp 14) 0) none,
      co (some 20) (.extract (.tmp 14) 1) none,
      cn (some 8) (.alloc 68) none [0],
      co none (.store 68 (.tmp 8) (.tmp 19)) none,
      co (some 9) (.assign (.tmp 20)) none] [7, 8, 9])
  (.seq (.seq (.reg [co (some 21) (.move (.tmp 9)) none,
        co (some 22) (.binOp .neq 69 (.tmp 21) (.const (.int .i64 0)) 69) none,
        co (some 23) (.move (.tmp 22)) none,
        co (some 24) (.load 68 (.tmp 8)) (some (23, false)),
        co (some 25) (.build 68 #[]) (some (23, false)),
        co (some 26) (.binOp .eql 68 (.tmp 24) (.tmp 25) 68) (some (23, false)),
        co (some 27) (.pick (.tmp 23) (.const (.bool true)) (.tmp 26)) none] [7, 8, 27])
    (.cond (.tmp 27)
      (.seq (.reg [co (some 28) (.load 68 (.tmp 8)) none,
          co (some 29) (.build 68 #[]) none,
          co (some 30) (.binOp .eql 68 (.tmp 28) (.tmp 29) 68) none,
          co (some 31) (.move (.tmp 30)) none,
          co (some 32) (.call { callee := (.value (.func 38)), args := #[], argTypes := #[] }) (some (31, true)),
          co (some 33) (.pick (.tmp 31) (.tmp 32) (.const (.bool false))) none,
          co (some 6) (.assign (.tmp 33)) none] [6])
      (.ret))
      (.skip)))
  (.keep [7, 8] (.seq (.reg [co (some 35) (.fieldAddr 68 (.tmp 8) 0) none,
      co (some 36) (.load 24 (.tmp 35)) none,
      co (some 37) (.call { callee := (.value (.func 39)), args := #[(.tmp 36)], argTypes := #[24] }) none,
      co (some 34) (.move (.tmp 37)) none,
      co (some 38) (.extract (.tmp 34) 0) none,
      co (some 39) (.extract (.tmp 34) 1) none,
      co (some 10) (.assign (.tmp 38)) none,
      co (some 11) (.assign (.tmp 39)) none] [7, 8, 10, 11])
  (.seq (.reg [co (some 40) (.move (.tmp 11)) none,
      co (some 41) (.move (.tmp 40)) none,
      co (some 42) (.fieldAddr 68 (.tmp 8) 0) (some (41, true)),
      co (some 43) (.fieldAddr 24 (.tmp 42) 1) (some (41, true)),
      co (some 44) (.load 3 (.tmp 43)) (some (41, true)),
      co (some 45) (.binOp .eql 3 (.tmp 44) (.const (.int .i64 0)) 3) (some (41, true)),
      co (some 46) (.pick (.tmp 41) (.tmp 45) (.const (.bool false))) none,
      co (some 47) (.move (.tmp 46)) none,
      co (some 48) (.move (.tmp 7)) (some (47, true)),
      co (some 49) (.fieldAddr 68 (.tmp 8) 1) (some (47, true)),
      co (some 50) (.load 3 (.tmp 49)) (some (47, true)),
      co (some 51) (.fieldAddr 68 (.tmp 8) 2) (some (47, true)),
      co (some 52) (.load 3 (.tmp 51)) (some (47, true)),
      co (some 53) (.move (.tmp 10)) (some (47, true)),
      co (some 54) (.call { callee := (.value (.func 20)), args := #[(.tmp 48), (.tmp 50), (.tmp 52), (.tmp 53)], argTypes := #[35, 3, 3, 3] }) (some (47, true)),
      co (some 55) (.pick (.tmp 47) (.tmp 54) (.const (.bool false))) none,
      co (some 56) (.move (.tmp 55)) none,
      co (some 57) (.call { callee := (.value (.func 38)), args := #[], argTypes := #[] }) (some (56, true)),
      co (some 58) (.pick (.tmp 56) (.tmp 57) (.const (.bool false))) none,
      co (some 6) (.assign (.tmp 58)) none] [6])
  (.ret)))))))
theorem t_centolaw06_FarWithin : Txt Try.prog 10 59 [(.tmp 6)] c_centolaw06_FarWithin := txt_of (code := Try.f10.body.getD .ret) mixed (by kernel_rfl) Try.func10 (by kernel_rfl) Try.ntmps10 (by kernel_rfl) (ls := [([0, 1, 2], []), ([], []), ([1, 2, 7], []), ([], []), ([7, 8, 9], [(7, [0])]), ([], []), ([7, 8, 27], []), ([], []), ([6], []), ([], []), ([999999, 7, 8], []), ([7, 8, 10, 11], []), ([], []), ([6], []), ([], [])]) (by kernel_rfl)


/-- cento/centolaw06.FarPads -/
def c_centolaw06_FarPads : CC :=
  .seq (.reg [cn (some 2) (.box 27 (.tmp 0)) none [0],
      co (some 4) (.assign (.const (.bool false))) none] [1, 2])
  (.seq (.reg [co (some 19) (.move (.tmp 1)) none,
      co (some 20) (.binOp .and 3 (.tmp 19) (.const (.int .i64 7)) 3) none,
      co (some 1) (.assign (.tmp 20)) none] [1, 2])
  (.seq (.seq (.reg [co (some 21) (.fieldAddr 27 (.tmp 2) 0) none,
        co (some 22) (.load 3 (.tmp 21)) none,
        co (some 23) (.binOp .neq 3 (.tmp 22) (.const (.int .i64 1)) 3) none,
        co (some 24) (.move (.tmp 23)) none,
        co (some 25) (.fieldAddr 27 (.tmp 2) 0) (some (24, true)),
        co (some 26) (.load 3 (.tmp 25)) (some (24, true)),
        co (some 27) (.binOp .neq 3 (.tmp 26) (.const (.int .i64 2)) 3) (some (24, true)),
        co (some 28) (.pick (.tmp 24) (.tmp 27) (.const (.bool false))) none,
        co (some 29) (.move (.tmp 28)) none,
        co (some 30) (.load 27 (.tmp 2)) (some (29, false)),
        co (some 31) (.call { callee := (.value (.func 17)), args := #[(.tmp 30)], argTypes := #[27] }) (some (29, false)),
        co (some 32) (.unOp .not 4 (.tmp 31)) (some (29, false)),
        co (some 33) (.pick (.tmp 29) (.const (.bool true)) (.tmp 32)) none,
        co (some 34) (.move (.tmp 33)) none,
        co (some 35) (.load 27 (.tmp 2)) (some (34, false)),
        co (some 36) (.call { callee := (.value (.func 40)), args := #[(.tmp 35)], argTypes := #[27] }) (some (34, false)),
        co (some 37) (.binOp .gtr 3 (.tmp 36) (.const (.int .i64 40)) 3) (some (34, false)),
        co (some 38) (.pick (.tmp 34) (.const (.bool true)) (.tmp 37)) none] [1, 2, 38])
    (.cond (.tmp 38)
      (.seq (.reg [co (some 39) (.call { callee := (.value (.func 38)), args := #[], argTypes := #[] }) none,
          co (some 4) (.assign (.tmp 39)) none] [4])
      (.ret))
      (.skip)))
  (.keep [1, 2] (.seq (.reg [co (some 40) (.move (.tmp 1)) none,
      co (some 41) (.fieldAddr 27 (.tmp 2) 1) none,
      co none (.store 3 (.tmp 41) (.tmp 40)) none] [1, 2])
  (.seq (.reg [co (some 43) (.load 27 (.tmp 2)) none,
      co (some 44) (.build 73 #[(0, (.tmp 43))]) none,
      co (some 45) (.call { callee := (.value (.func 37)), args := #[(.tmp 44)], argTypes := #[73] }) none,
      co (some 46) (.field 68 (.tmp 45) 0) none,
      co (some 47) (.call { callee := (.value (.func 15)), args := #[(.tmp 46)], argTypes := #[24] }) none,
      co (some 42) (.move (.tmp 47)) none,
      co (some 48) (.extract (.tmp 42) 0) none,
      co (some 49) (.extract (.tmp 42) 1) none,
      co (some 5) (.assign (.tmp 48)) none,
      co (some 6) (.assign (.tmp 49)) none] [1, 2, 5, 6])
  (.seq (.seq (.reg [co (some 50) (.move (.tmp 6)) none,
        co (some 51) (.unOp .not 4 (.tmp 50)) none] [1, 2, 5, 51])
    (.cond (.tmp 51)
      (.seq (.reg [co (some 52) (.load 27 (.tmp 2)) none,
          co (some 53) (.build 27 #[(0, (.const (.int .i64 1)))]) none,
          co (some 54) (.binOp .eql 27 (.tmp 52) (.tmp 53) 27) none,
          co (some 55) (.move (.tmp 54)) none,
          co (some 56) (.call { callee := (.value (.func 38)), args := #[], argTypes := #[] }) (some (55, true)),
          co (some 57) (.pick (.tmp 55) (.tmp 56) (.const (.bool false))) none,
          co (some 4) (.assign (.tmp 57)) none] [4])
      (.ret))
      (.skip)))
  (.keep [1, 2, 5] (.seq (.reg [co (some 58) (.fieldAddr 27 (.tmp 2) 1) none,
      co none (.store 3 (.tmp 58) (.const (.int .i64 0))) none] [1, 2, 5])
  (.seq (.reg [co (some 60) (.load 27 (.tmp 2)) none,
      co (some 61) (.build 73 #[(0, (.tmp 60))]) none,
      co (some 62) (.call { callee := (.value (.func 37)), args := #[(.tmp 61)], argTypes := #[73] }) none,
      co (some 63) (.field 68 (.tmp 62) 0) none,
      co (some 64) (.call { callee := (.value (.func 15)), args := #[(.tmp 63)], argTypes := #[24] }) none,
      co (some 59) (.move (.tmp 64)) none,
      co (some 65) (.extract (.tmp 59) 0) none,
      co (some 66) (.extract (.tmp 59) 1) none,
      co (some 7) (.assign (.tmp 65)) none,
      co (some 8) (.assign (.tmp 66)) none] [1, 2, 5, 7, 8])
  (.seq (.reg [co (some 67) (.move (.tmp 1)) none,
      co (some 68) (.binOp .add 3 (.const (.int .i64 1)) (.tmp 67) 3) none,
      co (some 69) (.load 27 (.tmp 2)) none,
      co (some 70) (.call { callee := (.value (.func 40)), args := #[(.tmp 69)], argTypes := #[27] }) none,
      co (some 71) (.binOp .add 3 (.tmp 68) (.tmp 70) 3) none,
      cn (some 72) (.makeSlice 45 (.tmp 71) (.tmp 71)) none [1],
      co (some 9) (.assign (.tmp 72)) none] [1, 5, 7, 8, 9])
  (.seq (.reg [co (some 73) (.move (.tmp 9)) none,
      co (some 74) (.move (.tmp 5)) none,
      co (some 75) (.indexAddr 45 (.tmp 73) (.const (.int .i64 0))) none,
      co none (.store 22 (.tmp 75) (.tmp 74)) none] [1, 7, 8, 9])
  (.seq (.reg [co (some 10) (.assign (.const (.int .u64 2))) none] [1, 7, 8, 9, 10])
  (.seq (.reg [co (some 76) (.move (.tmp 1)) none,
      co (some 77) (.binOp .add 3 (.const (.int .i64 1)) (.tmp 76) 3) none,
      co (some 78) (.binOp .shl 3 (.tmp 77) (.const (.int .u64 3)) 80) none,
      co (some 79) (.binOp .or 3 (.const (.int .i64 2)) (.tmp 78) 3) none,
      co (some 80) (.convert 3 22 (.tmp 79)) none,
      co (some 11) (.assign (.tmp 80)) none] [1, 7, 8, 9, 10, 11])
  (.stop (.seq (.reg [co (some 81) (.move (.tmp 9)) none,
      co (some 82) (.move (.tmp 10)) none,
      co (some 83) (.buildSlice 45 1 #[(0, (.tmp 82))]) none,
      co (some 84) (.buildSlice 45 1 #[(0, (.const (.int .u64 12884901894)))]) none,
      co (some 85) (.move (.tmp 11)) none,
      co (some 86) (.move (.tmp 7)) none,
      co (some 87) (.buildSlice 45 2 #[(0, (.tmp 85)), (1, (.tmp 86))]) none,
      co (some 88) (.buildSlice 44 4 #[(0, (.tmp 81)), (1, (.tmp 83)), (2, (.tmp 84)), (3, (.tmp 87))]) none,
      co (some 89) (.call { callee := (.value (.func 23)), args := #[(.tmp 88)], argTypes := #[44] }) none,
      co (some 12) (.assign (.tmp 89)) none] [1, 8, 12])
  (.seq (.reg [co (some 91) (.move (.tmp 12)) none,
      co (some 92) (.call { callee := (.value (.func 35)), args := #[(.tmp 91), (.const (.int .i64 0)), (.const (.int .i64 0))], argTypes := #[35, 3, 3] }) none,
      co (some 90) (.move (.tmp 92)) none,
      co (some 93) (.extract (.tmp 90) 0) none,
      co (some 94) (.extract (.tmp 90) 1) none,
      cn (some 13) (.alloc 68) none [2],
      co none (.store 68 (.tmp 13) (.tmp 93)) none,
      co (some 14) (.assign (.tmp 94)) none] [1, 8, 12, 13, 14])
  (.seq (.reg [co (some 96) (.move (.tmp 12)) none,
      co (some 97) (.call { callee := (.value (.func 35)), args := #[(.tmp 96), (.const (.int .i64 1)), (.const (.int .i64 0))], argTypes := #[35, 3, 3] }) none,
      co (some 95) (.move (.tmp 97)) none,
      co (some 98) (.extract (.tmp 95) 0) none,
      co (some 99) (.extract (.tmp 95) 1) none,
      cn (some 15) (.alloc 68) none [3],
      co none (.store 68 (.tmp 15) (.tmp 98)) none,
      co (some 16) (.assign (.tmp 99)) none] [1, 8, 12, 13, 14, 15, 16])
  (.seq (.reg [co (some 101) (.move (.tmp 12)) none,
      co (some 102) (.call { callee := (.value (.func 35)), args := #[(.tmp 101), (.const (.int .i64 2)), (.const (.int .i64 0))], argTypes := #[35, 3, 3] }) none,
      co (some 100) (.move (.tmp 102)) none,
      co (some 103) (.extract (.tmp 100) 0) none,
      co (some 104) (.extract (.tmp 100) 1) none,
      cn (some 17) (.alloc 68) none [4],
      co none (.store 68 (.tmp 17) (.tmp 103)) none,
      co (some 18) (.assign (.tmp 104)) none] [1, 8, 13, 14, 15, 16, 17, 18])
  (.seq (.seq (.reg [co (some 105) (.move (.tmp 8)) none,
        co (some 106) (.unOp .not 4 (.tmp 105)) none] [1, 13, 14, 15, 16, 17, 18, 106])
    (.cond (.tmp 106)
      (.seq (.reg [co (some 107) (.move (.tmp 14)) none,
          co (some 108) (.binOp .eql 69 (.tmp 107) (.const (.int .i64 0)) 69) none,
          co (some 109) (.move (.tmp 108)) none,
          co (some 110) (.move (.tmp 16)) (some (109, true)),
          co (some 111) (.binOp .eql 69 (.tmp 110) (.const (.int .i64 0)) 69) (some (109, true)),
          co (some 112) (.pick (.tmp 109) (.tmp 111) (.const (.bool false))) none,
          co (some 113) (.move (.tmp 112)) none,
          co (some 114) (.load 68 (.tmp 13)) (some (113, true)),
          co (some 115) (.load 68 (.tmp 15)) (some (113, true)),
          co (some 116) (.binOp .eql 68 (.tmp 114) (.tmp 115) 68) (some (113, true)),
          co (some 117) (.pick (.tmp 113) (.tmp 116) (.const (.bool false))) none,
          co (some 118) (.move (.tmp 117)) none,
          co (some 119) (.call { callee := (.value (.func 38)), args := #[], argTypes := #[] }) (some (118, true)),
          co (some 120) (.pick (.tmp 118) (.tmp 119) (.const (.bool false))) none,
          co (some 4) (.assign (.tmp 120)) none] [4])
      (.ret))
      (.skip)))
  (.keep [1, 13, 14, 15, 16, 17, 18] (.seq (.reg [co (some 121) (.move (.tmp 14)) none,
      co (some 122) (.binOp .eql 69 (.tmp 121) (.const (.int .i64 0)) 69) none,
      co (some 123) (.move (.tmp 122)) none,
      co (some 124) (.move (.tmp 16)) (some (123, true)),
      co (some 125) (.binOp .eql 69 (.tmp 124) (.const (.int .i64 0)) 69) (some (123, true)),
      co (some 126) (.pick (.tmp 123) (.tmp 125) (.const (.bool false))) none,
      co (some 127) (.move (.tmp 126)) none,
      co (some 128) (.move (.tmp 18)) (some (127, true)),
      co (some 129) (.binOp .eql 69 (.tmp 128) (.const (.int .i64 0)) 69) (some (127, true)),
      co (some 130) (.pick (.tmp 127) (.tmp 129) (.const (.bool false))) none,
      co (some 131) (.move (.tmp 130)) none,
      co (some 132) (.load 68 (.tmp 13)) (some (131, true)),
      co (some 133) (.load 68 (.tmp 15)) (some (131, true)),
      co (some 134) (.binOp .eql 68 (.tmp 132) (.tmp 133) 68) (some (131, true)),
      co (some 135) (.pick (.tmp 131) (.tmp 134) (.const (.bool false))) none,
      co (some 136) (.move (.tmp 135)) none,
      co (some 137) (.load 68 (.tmp 15)) (some (136, true)),
      co (some 138) (.load 68 (.tmp 17)) (some (136, true)),
      co (some 139) (.binOp .eql 68 (.tmp 137) (.tmp 138) 68) (some (136, true)),
      co (some 140) (.pick (.tmp 136) (.tmp 139) (.const (.bool false))) none,
      co (some 141) (.move (.tmp 140)) none,
      co (some 142) (.fieldAddr 68 (.tmp 13) 2) (some (141, true)),
      co (some 143) (.load 3 (.tmp 142)) (some (141, true)),
      co (some 144) (.move (.tmp 1)) (some (141, true)),
      co (some 145) (.binOp .add 3 (.const (.int .i64 1)) (.tmp 144) 3) (some (141, true)),
      co (some 146) (.binOp .eql 3 (.tmp 143) (.tmp 145) 3) (some (141, true)),
      co (some 147) (.pick (.tmp 141) (.tmp 146) (.const (.bool false))) none,
      co (some 148) (.move (.tmp 147)) none,
      co (some 149) (.call { callee := (.value (.func 38)), args := #[], argTypes := #[] }) (some (148, true)),
      co (some 150) (.pick (.tmp 148) (.tmp 149) (.const (.bool false))) none,
      co (some 4) (.assign (.tmp 150)) none] [4])
  (.ret))))))))))))))))))))))
theorem t_centolaw06_FarPads : Txt Try.prog 11 151 [(.tmp 4)] c_centolaw06_FarPads := txt_of (code := Try.f11.body.getD .ret) mixed (by kernel_rfl) Try.func11 (by kernel_rfl) Try.ntmps11 (by kernel_rfl) (ls := [([1, 2], [(0, [0])]), ([], []), ([1, 2], []), ([], []), ([1, 2, 38], []), ([], []), ([4], []), ([], []), ([999999, 1, 2], []), ([1, 2], []), ([], []), ([1, 2, 5, 6], []), ([], []), ([1, 2, 5, 51], []), ([], []), ([4], []), ([], []), ([999999, 1, 2, 5], []), ([1, 2, 5], []), ([], []), ([1, 2, 5, 7, 8], []), ([], []), ([1, 5, 7, 8, 9], [(5, [1])]), ([], []), ([1, 7, 8, 9], []), ([], []), ([1, 7, 8, 9, 10], []), ([], []), ([1, 7, 8, 9, 10, 11], []), ([999998], []), ([1, 8, 12], []), ([], []), ([1, 8, 12, 13, 14], [(5, [2])]), ([], []), ([1, 8, 12, 13, 14, 15, 16], [(5, [3])]), ([], []), ([1, 8, 13, 14, 15, 16, 17, 18], [(5, [4])]), ([], []), ([1, 13, 14, 15, 16, 17, 18, 106], []), ([], []), ([4], []), ([], []), ([999999, 1, 13, 14, 15, 16, 17, 18], []), ([4], []), ([], [])]) (by kernel_rfl)
end Go.Proofs.Ytfdlelcipnabpaa
