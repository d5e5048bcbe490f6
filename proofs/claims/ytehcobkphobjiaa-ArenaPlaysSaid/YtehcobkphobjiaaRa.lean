/-
  Texts, merged, without what is not reached.
-/
import Derived.Test.YtehcobkphobjiaaProg
import Derived.Test.YtehcobkphobjiaaGSimp
import Derived.KernelRfl
import Derived.Laws.BitsLemmas
import Derived.Laws.Bits64
import Derived.Laws.Bits64b
import Derived.Test.YtehcobkphobjiaaGLe
import Derived.Test.YtehcobkphobjiaaGCall2
import Derived.Test.YtehcobkphobjiaaGMove
import Derived.Test.YtehcobkphobjiaaGLo
import Derived.Test.YtehcobkphobjiaaGCall3
import Derived.Test.YtehcobkphobjiaaGFam
import Derived.Test.YtehcobkphobjiaaGOpen
/-
  The functions' text as data, and the facts on the types that they use: written by a program of ours (gen2.py) off the translation.
-/
namespace Go.Proofs.Ytehcobkphobjiaa
set_option linter.unusedVariables false
set_option linter.unusedSimpArgs false
set_option maxRecDepth 20000
open Go Go.G Go.Proofs
theorem mixed : Try.prog.follows .mixedOrders = true := by kernel_rfl
@[simp] theorem und_3 : Try.prog.underlying 3 = some (.int .i64) := by kernel_rfl
@[simp] theorem und_21 : Try.prog.underlying 21 = some (.int .i32) := by kernel_rfl
@[simp] theorem und_26 : Try.prog.underlying 26 = some (.int .u64) := by kernel_rfl
@[simp] theorem und_255 : Try.prog.underlying 255 = some (.int .u32) := by kernel_rfl
@[simp] theorem szT_3 : szT Try.prog 3 = some 1 := by kernel_rfl
@[simp] theorem szT_4 : szT Try.prog 4 = some 1 := by kernel_rfl
@[simp] theorem szT_170 : szT Try.prog 170 = some 8 := by kernel_rfl
@[simp] theorem szT_183 : szT Try.prog 183 = some 8 := by kernel_rfl
@[simp] theorem aggT_3 : aggT Try.prog 3 = some false := by kernel_rfl
@[simp] theorem aggT_4 : aggT Try.prog 4 = some false := by kernel_rfl
@[simp] theorem aggT_170 : aggT Try.prog 170 = some true := by kernel_rfl
@[simp] theorem aggT_183 : aggT Try.prog 183 = some true := by kernel_rfl
@[simp] theorem zeroT_170 : zeroT Try.prog 170 = some (Value.agg #[Value.int IntKind.i64 0, Value.int IntKind.i64 0, Value.int IntKind.i64 0, Value.int IntKind.i64 0, Value.int IntKind.i64 0, Value.int IntKind.i64 0, Value.int IntKind.i64 0, Value.bool false]) := by kernel_rfl
@[simp] theorem zeroT_183 : zeroT Try.prog 183 = some (Value.agg #[Value.int IntKind.i64 0, Value.int IntKind.i64 0, Value.int IntKind.i64 0, Value.int IntKind.i64 0, Value.int IntKind.i64 0, Value.int IntKind.i64 0, Value.int IntKind.i64 0, Value.bool false]) := by kernel_rfl
@[simp] theorem fieldOffT_183_0 : fieldOffT Try.prog 183 0 = some 0 := by kernel_rfl
@[simp] theorem fieldOffT_183_1 : fieldOffT Try.prog 183 1 = some 1 := by kernel_rfl
@[simp] theorem fieldOffT_183_2 : fieldOffT Try.prog 183 2 = some 2 := by kernel_rfl
@[simp] theorem fieldOffT_183_3 : fieldOffT Try.prog 183 3 = some 3 := by kernel_rfl
@[simp] theorem fieldOffT_183_4 : fieldOffT Try.prog 183 4 = some 4 := by kernel_rfl
@[simp] theorem fieldOffT_183_5 : fieldOffT Try.prog 183 5 = some 5 := by kernel_rfl
@[simp] theorem fieldOffT_183_6 : fieldOffT Try.prog 183 6 = some 6 := by kernel_rfl
@[simp] theorem fieldOffT_183_7 : fieldOffT Try.prog 183 7 = some 7 := by kernel_rfl
@[simp] theorem buildA_170 (ps : List (Nat × A)) : buildA Try.prog 170 ps = (fillA (fun i => ([(0, 1), (1, 1), (2, 1), (3, 1), (4, 1), (5, 1), (6, 1), (7, 1)] : List (Nat × Nat))[i]?) [A.v (Value.int IntKind.i64 0), A.v (Value.int IntKind.i64 0), A.v (Value.int IntKind.i64 0), A.v (Value.int IntKind.i64 0), A.v (Value.int IntKind.i64 0), A.v (Value.int IntKind.i64 0), A.v (Value.int IntKind.i64 0), A.v (Value.bool false)] ps).map A.agg := by kernel_rfl
@[simp] theorem buildA_183 (ps : List (Nat × A)) : buildA Try.prog 183 ps = (fillA (fun i => ([(0, 1), (1, 1), (2, 1), (3, 1), (4, 1), (5, 1), (6, 1), (7, 1)] : List (Nat × Nat))[i]?) [A.v (Value.int IntKind.i64 0), A.v (Value.int IntKind.i64 0), A.v (Value.int IntKind.i64 0), A.v (Value.int IntKind.i64 0), A.v (Value.int IntKind.i64 0), A.v (Value.int IntKind.i64 0), A.v (Value.int IntKind.i64 0), A.v (Value.bool false)] ps).map A.agg := by kernel_rfl
@[simp] theorem eqA_183 (x0 y0 : Int) (x1 y1 : Int) (x2 y2 : Int) (x3 y3 : Int) (x4 y4 : Int) (x5 y5 : Int) (x6 y6 : Int) (x7 y7 : Bool) : eqA Try.prog 100 183 (.agg [A.v (.int .i64 x0), A.v (.int .i64 x1), A.v (.int .i64 x2), A.v (.int .i64 x3), A.v (.int .i64 x4), A.v (.int .i64 x5), A.v (.int .i64 x6), A.v (.bool x7)]) (.agg [A.v (.int .i64 y0), A.v (.int .i64 y1), A.v (.int .i64 y2), A.v (.int .i64 y3), A.v (.int .i64 y4), A.v (.int .i64 y5), A.v (.int .i64 y6), A.v (.bool y7)]) = some (((x0 == y0) && ((x1 == y1) && ((x2 == y2) && ((x3 == y3) && ((x4 == y4) && ((x5 == y5) && ((x6 == y6) && ((x7 == y7) && (true)))))))))) := by kernel_rfl
@[simp] theorem eqG_183 : Try.prog.eqGuardType Try.prog.depth 183 = false := by kernel_rfl
end Go.Proofs.Ytehcobkphobjiaa

/-
  Chapter 4's functions: what each answers.
-/
namespace Go.Proofs.Ytehcobkphobjiaa
set_option linter.unusedVariables false
set_option linter.unusedSimpArgs false
open Go Go.G Go.Proofs
abbrev iv (n : Int) : A := .v (.int .i64 n)
abbrev uv (n : Int) : A := .v (.int .u64 n)
abbrev bv (b : Bool) : A := .v (.bool b)
theorem i64_same {n : Int} (h0 : -9223372036854775808 ≤ n) (h1 : n < 9223372036854775808) : IntKind.i64.wrap n = n := by rw [IntKind.wrap_i64]; omega
/-- A pointer, as numbers. -/
structure Pt where
  (kind off data ptrs code count seg : Int)
  dbl : Bool
deriving DecidableEq
@[simp] def Pt.a (p : Pt) : A := .agg [iv p.kind, iv p.off, iv p.data, iv p.ptrs, iv p.code, iv p.count, iv p.seg, bv p.dbl]
/-- The offset in a word's lower half. -/
def offs (w : Int) : Int := if w / 4 % 1073741824 < 536870912 then w / 4 % 1073741824 else w / 4 % 1073741824 - 1073741824
/-- A word's pointer. -/
def dec (w : Int) : Pt :=
  if w = 0 then ⟨0, 0, 0, 0, 0, 0, 0, false⟩
  else if w % 4 = 0 then ⟨1, offs w, w / 4294967296 % 65536, w / 281474976710656, 0, 0, 0, false⟩
  else if w % 4 = 1 then ⟨2, offs w, 0, 0, w / 4294967296 % 8, w / 34359738368, 0, false⟩
  else if w % 4 = 2 then ⟨3, w / 8 % 536870912, 0, 0, 0, 0, w / 4294967296, decide (w / 4 % 2 = 1)⟩
  else ⟨4, 0, 0, 0, 0, 0, 0, false⟩
end Go.Proofs.Ytehcobkphobjiaa

/-
  The functions' text as data, and the facts on the types that they use: written by a program of ours (gen2.py) off the translation.
-/
namespace Go.Proofs.Ytehcobkphobjiaa
set_option linter.unusedVariables false
set_option linter.unusedSimpArgs false
set_option maxRecDepth 20000
open Go Go.G Go.Proofs
@[simp] theorem und_23 : Try.prog.underlying 23 = some (.slice 26) := by kernel_rfl
@[simp] theorem und_242 : Try.prog.underlying 242 = some (.array 8 5) := by kernel_rfl
@[simp] theorem und_246 : Try.prog.underlying 246 = some (.slice 5) := by kernel_rfl
@[simp] theorem und_262 : Try.prog.underlying 262 = some (.array 6 3) := by kernel_rfl
@[simp] theorem szT_5 : szT Try.prog 5 = some 1 := by kernel_rfl
@[simp] theorem szT_26 : szT Try.prog 26 = some 1 := by kernel_rfl
@[simp] theorem szT_242 : szT Try.prog 242 = some 8 := by kernel_rfl
@[simp] theorem szT_262 : szT Try.prog 262 = some 6 := by kernel_rfl
@[simp] theorem aggT_5 : aggT Try.prog 5 = some false := by kernel_rfl
@[simp] theorem aggT_26 : aggT Try.prog 26 = some false := by kernel_rfl
@[simp] theorem aggT_242 : aggT Try.prog 242 = some true := by kernel_rfl
@[simp] theorem zeroT_26 : zeroT Try.prog 26 = some (Value.int IntKind.u64 0) := by kernel_rfl
@[simp] theorem zeroT_262 : zeroT Try.prog 262 = some (Value.agg #[Value.int IntKind.i64 0, Value.int IntKind.i64 0, Value.int IntKind.i64 0, Value.int IntKind.i64 0, Value.int IntKind.i64 0, Value.int IntKind.i64 0]) := by kernel_rfl
@[simp] theorem bytesT_26 : bytesT Try.prog 26 = some 8 := by kernel_rfl
@[simp] theorem buildA_262 (ps : List (Nat × A)) : buildA Try.prog 262 ps = (fillA (fun i => some (i * 1, 1)) [A.v (Value.int IntKind.i64 0), A.v (Value.int IntKind.i64 0), A.v (Value.int IntKind.i64 0), A.v (Value.int IntKind.i64 0), A.v (Value.int IntKind.i64 0), A.v (Value.int IntKind.i64 0)] ps).map A.agg := by kernel_rfl
def l1_centoref01_Same : CC :=
  .seq (.seq (.reg [co (some 11) (.move (.tmp 5)) none,
        co (some 12) (.move (.tmp 0)) none,
        co (some 13) (.call { callee := (.builtin .len), args := #[(.tmp 12)], argTypes := #[23] }) none,
        co (some 14) (.binOp .lss 3 (.tmp 11) (.tmp 13) 3) none] [0, 1, 5, 14])
    (.cond (.tmp 14)
      (.skip)
      (.exit 0)))
  (.keep [0, 1, 5] (.seq (.block 1
      (.seq (.reg [co (some 17) (.move (.tmp 0)) none,
          co (some 18) (.move (.tmp 5)) none,
          co (some 19) (.indexAddr 23 (.tmp 17) (.tmp 18)) none,
          co (some 20) (.load 26 (.tmp 19)) none,
          co (some 21) (.move (.tmp 1)) none,
          co (some 22) (.move (.tmp 5)) none,
          co (some 23) (.indexAddr 23 (.tmp 21) (.tmp 22)) none,
          co (some 24) (.load 26 (.tmp 23)) none,
          co (some 25) (.binOp .neq 26 (.tmp 20) (.tmp 24) 26) none] [0, 1, 5, 25])
      (.cond (.tmp 25)
        (.seq (.reg [co (some 4) (.assign (.const (.bool false))) none] [4])
        (.ret))
        (.skip))))
  (.keep [0, 1, 5] (.reg [co (some 15) (.move (.tmp 5)) none,
    co (some 16) (.binOp .add 3 (.tmp 15) (.const (.int .i64 1)) 3) none,
    co (some 5) (.assign (.tmp 16)) none] [0, 1, 5]))))
/-- cento/centoref01.Same -/
def c_centoref01_Same : CC :=
  .seq (.reg [co (some 4) (.assign (.const (.bool false))) none] [0, 1])
  (.seq (.seq (.reg [co (some 6) (.move (.tmp 0)) none,
        co (some 7) (.call { callee := (.builtin .len), args := #[(.tmp 6)], argTypes := #[23] }) none,
        co (some 8) (.move (.tmp 1)) none,
        co (some 9) (.call { callee := (.builtin .len), args := #[(.tmp 8)], argTypes := #[23] }) none,
        co (some 10) (.binOp .neq 3 (.tmp 7) (.tmp 9) 3) none] [0, 1, 10])
    (.cond (.tmp 10)
      (.seq (.reg [co (some 4) (.assign (.const (.bool false))) none] [4])
      (.ret))
      (.skip)))
  (.keep [0, 1] (.seq (.seq (.reg [co (some 5) (.assign (.const (.int .i64 0))) none] [0, 1, 5])
    (.block 0
      (.loop l1_centoref01_Same)))
  (.keep [] (.seq (.reg [co (some 4) (.assign (.const (.bool true))) none] [4])
  (.ret))))))
theorem t_centoref01_Same : Txt Try.prog 43 26 [(.tmp 4)] c_centoref01_Same := txt_of (code := Try.f43.body.getD .ret) mixed (by kernel_rfl) Try.func43 (by kernel_rfl) Try.ntmps43 (by kernel_rfl) (ls := [([0, 1], []), ([], []), ([0, 1, 10], []), ([], []), ([4], []), ([], []), ([999999, 0, 1], []), ([0, 1, 5], []), ([], []), ([0, 1, 5, 14], []), ([], []), ([999999, 0, 1, 5], []), ([0, 1, 5, 25], []), ([], []), ([4], []), ([], []), ([999999, 0, 1, 5], []), ([0, 1, 5], []), ([999999], []), ([4], []), ([], [])]) (by kernel_rfl)
end Go.Proofs.Ytehcobkphobjiaa

/-
  The functions' text as data, and the facts on the types that they use: written by a program of ours (gen2.py) off the translation.
-/
namespace Go.Proofs.Ytehcobkphobjiaa
set_option linter.unusedVariables false
set_option linter.unusedSimpArgs false
set_option maxRecDepth 20000
open Go Go.G Go.Proofs
@[simp] theorem und_22 : Try.prog.underlying 22 = some (.slice 23) := by kernel_rfl
@[simp] theorem und_24 : Try.prog.underlying 24 = some (.pointer 113) := by kernel_rfl
@[simp] theorem und_274 : Try.prog.underlying 274 = some (.array 7 3) := by kernel_rfl
@[simp] theorem szT_22 : szT Try.prog 22 = some 1 := by kernel_rfl
@[simp] theorem szT_23 : szT Try.prog 23 = some 1 := by kernel_rfl
@[simp] theorem szT_172 : szT Try.prog 172 = some 10 := by kernel_rfl
@[simp] theorem szT_185 : szT Try.prog 185 = some 10 := by kernel_rfl
@[simp] theorem szT_274 : szT Try.prog 274 = some 7 := by kernel_rfl
@[simp] theorem aggT_22 : aggT Try.prog 22 = some false := by kernel_rfl
@[simp] theorem aggT_23 : aggT Try.prog 23 = some false := by kernel_rfl
@[simp] theorem aggT_172 : aggT Try.prog 172 = some true := by kernel_rfl
@[simp] theorem aggT_185 : aggT Try.prog 185 = some true := by kernel_rfl
@[simp] theorem zeroT_23 : zeroT Try.prog 23 = some (Value.slice none 0 0) := by kernel_rfl
@[simp] theorem zeroT_172 : zeroT Try.prog 172 = some (Value.agg #[Value.int IntKind.i64 0, Value.int IntKind.i64 0, Value.int IntKind.i64 0, Value.int IntKind.i64 0, Value.int IntKind.i64 0, Value.int IntKind.i64 0, Value.int IntKind.i64 0, Value.bool false, Value.int IntKind.i64 0, Value.int IntKind.i64 0]) := by kernel_rfl
@[simp] theorem zeroT_185 : zeroT Try.prog 185 = some (Value.agg #[Value.int IntKind.i64 0, Value.int IntKind.i64 0, Value.int IntKind.i64 0, Value.int IntKind.i64 0, Value.int IntKind.i64 0, Value.int IntKind.i64 0, Value.int IntKind.i64 0, Value.bool false, Value.int IntKind.i64 0, Value.int IntKind.i64 0]) := by kernel_rfl
@[simp] theorem zeroT_274 : zeroT Try.prog 274 = some (Value.agg #[Value.int IntKind.i64 0, Value.int IntKind.i64 0, Value.int IntKind.i64 0, Value.int IntKind.i64 0, Value.int IntKind.i64 0, Value.int IntKind.i64 0, Value.int IntKind.i64 0]) := by kernel_rfl
@[simp] theorem bytesT_23 : bytesT Try.prog 23 = some 24 := by kernel_rfl
@[simp] theorem fieldOffT_113_0 : fieldOffT Try.prog 113 0 = some 0 := by kernel_rfl
@[simp] theorem fieldOffT_170_0 : fieldOffT Try.prog 170 0 = some 0 := by kernel_rfl
@[simp] theorem fieldOffT_170_1 : fieldOffT Try.prog 170 1 = some 1 := by kernel_rfl
@[simp] theorem fieldOffT_170_2 : fieldOffT Try.prog 170 2 = some 2 := by kernel_rfl
@[simp] theorem fieldOffT_170_3 : fieldOffT Try.prog 170 3 = some 3 := by kernel_rfl
@[simp] theorem fieldOffT_170_4 : fieldOffT Try.prog 170 4 = some 4 := by kernel_rfl
@[simp] theorem fieldOffT_170_5 : fieldOffT Try.prog 170 5 = some 5 := by kernel_rfl
@[simp] theorem fieldOffT_170_6 : fieldOffT Try.prog 170 6 = some 6 := by kernel_rfl
@[simp] theorem fieldOffT_170_7 : fieldOffT Try.prog 170 7 = some 7 := by kernel_rfl
@[simp] theorem fieldOffT_172_0 : fieldOffT Try.prog 172 0 = some 0 := by kernel_rfl
@[simp] theorem fieldOffT_172_1 : fieldOffT Try.prog 172 1 = some 8 := by kernel_rfl
@[simp] theorem fieldOffT_172_2 : fieldOffT Try.prog 172 2 = some 9 := by kernel_rfl
@[simp] theorem fieldOffT_185_0 : fieldOffT Try.prog 185 0 = some 0 := by kernel_rfl
@[simp] theorem fieldOffT_185_1 : fieldOffT Try.prog 185 1 = some 8 := by kernel_rfl
@[simp] theorem fieldOffT_185_2 : fieldOffT Try.prog 185 2 = some 9 := by kernel_rfl
@[simp] theorem buildA_113 (ps : List (Nat × A)) : buildA Try.prog 113 ps = (fillA (fun i => ([(0, 1), (1, 1), (2, 1), (3, 1)] : List (Nat × Nat))[i]?) [A.sl true [], A.v (Value.int IntKind.i64 0), A.v (Value.int IntKind.i64 0), A.v (Value.int IntKind.i64 0)] ps).map A.agg := by kernel_rfl
@[simp] theorem buildA_172 (ps : List (Nat × A)) : buildA Try.prog 172 ps = (fillA (fun i => ([(0, 8), (8, 1), (9, 1)] : List (Nat × Nat))[i]?) [A.v (Value.int IntKind.i64 0), A.v (Value.int IntKind.i64 0), A.v (Value.int IntKind.i64 0), A.v (Value.int IntKind.i64 0), A.v (Value.int IntKind.i64 0), A.v (Value.int IntKind.i64 0), A.v (Value.int IntKind.i64 0), A.v (Value.bool false), A.v (Value.int IntKind.i64 0), A.v (Value.int IntKind.i64 0)] ps).map A.agg := by kernel_rfl
@[simp] theorem buildA_185 (ps : List (Nat × A)) : buildA Try.prog 185 ps = (fillA (fun i => ([(0, 8), (8, 1), (9, 1)] : List (Nat × Nat))[i]?) [A.v (Value.int IntKind.i64 0), A.v (Value.int IntKind.i64 0), A.v (Value.int IntKind.i64 0), A.v (Value.int IntKind.i64 0), A.v (Value.int IntKind.i64 0), A.v (Value.int IntKind.i64 0), A.v (Value.int IntKind.i64 0), A.v (Value.bool false), A.v (Value.int IntKind.i64 0), A.v (Value.int IntKind.i64 0)] ps).map A.agg := by kernel_rfl
@[simp] theorem buildA_274 (ps : List (Nat × A)) : buildA Try.prog 274 ps = (fillA (fun i => some (i * 1, 1)) [A.v (Value.int IntKind.i64 0), A.v (Value.int IntKind.i64 0), A.v (Value.int IntKind.i64 0), A.v (Value.int IntKind.i64 0), A.v (Value.int IntKind.i64 0), A.v (Value.int IntKind.i64 0), A.v (Value.int IntKind.i64 0)] ps).map A.agg := by kernel_rfl
/-- slices.Clone[[]uint64,uint64] -/
def c_slices_Clone_uint64_uint64 : CC :=
  .seq (.reg [co (some 2) (.assign (.const (.slice none 0 0))) none] [0])
  (.seq (.seq (.reg [co (some 3) (.move (.tmp 0)) none,
        co (some 4) (.binOp .eql 23 (.tmp 3) (.const (.slice none 0 0)) 23) none] [0, 4])
    (.cond (.tmp 4)
      (.seq (.reg [co (some 2) (.assign (.const (.slice none 0 0))) none] [2])
      (.ret))
      (.skip)))
  (.keep [0] (.seq (.reg [co (some 5) (.buildSlice 23 0 #[]) none,
      co (some 6) (.move (.tmp 0)) none,
      cn (some 7) (.call { callee := (.builtin .append), args := #[(.tmp 5), (.tmp 6)], argTypes := #[23, 23] }) none [0],
      co (some 2) (.assign (.tmp 7)) none] [2])
  (.ret))))
theorem t_slices_Clone_uint64_uint64 : Txt Try.prog 60 8 [(.tmp 2)] c_slices_Clone_uint64_uint64 := txt_of (code := Try.f60.body.getD .ret) mixed (by kernel_rfl) Try.func60 (by kernel_rfl) Try.ntmps60 (by kernel_rfl) (ls := [([0], []), ([], []), ([0, 4], []), ([], []), ([2], []), ([], []), ([999999, 0], []), ([2], [(2, [0])]), ([], [])]) (by kernel_rfl)
/-- (*cento/arena.Arena).Len -/
def c_arena_Arena_Len : CC :=
  .seq (.reg [co (some 2) (.assign (.const (.int .i64 0))) none] [0])
  (.seq (.seq (.reg [co (some 3) (.move (.tmp 0)) none,
        co (some 4) (.binOp .eql 24 (.tmp 3) (.const (.pointer none)) 24) none] [0, 4])
    (.cond (.tmp 4)
      (.seq (.reg [co (some 2) (.assign (.const (.int .i64 0))) none] [2])
      (.ret))
      (.skip)))
  (.keep [0] (.seq (.reg [co (some 5) (.move (.tmp 0)) none,
      co (some 6) (.nilCheck (.tmp 5)) none,
      co (some 7) (.fieldAddr 113 (.tmp 6) 0) none,
      co (some 8) (.load 22 (.tmp 7)) none,
      co (some 9) (.call { callee := (.builtin .len), args := #[(.tmp 8)], argTypes := #[22] }) none,
      co (some 2) (.assign (.tmp 9)) none] [2])
  (.ret))))
theorem t_arena_Arena_Len : Txt Try.prog 23 10 [(.tmp 2)] c_arena_Arena_Len := txt_of (code := Try.f23.body.getD .ret) mixed (by kernel_rfl) Try.func23 (by kernel_rfl) Try.ntmps23 (by kernel_rfl) (ls := [([0], []), ([], []), ([0, 4], []), ([], []), ([2], []), ([], []), ([999999, 0], []), ([2], []), ([], [])]) (by kernel_rfl)
/-- (*cento/arena.Arena).Size -/
def c_arena_Arena_Size : CC :=
  .seq (.reg [co (some 4) (.assign (.const (.int .i64 0))) none] [0, 1])
  (.seq (.seq (.reg [co (some 5) (.move (.tmp 1)) none,
        co (some 6) (.binOp .lss 3 (.tmp 5) (.const (.int .i64 0)) 3) none,
        co (some 7) (.move (.tmp 6)) none,
        co (some 8) (.move (.tmp 1)) (some (7, false)),
        co (some 9) (.move (.tmp 0)) (some (7, false)),
        co (some 10) (.call { callee := (.value (.func 23)), args := #[(.tmp 9)], argTypes := #[24] }) (some (7, false)),
        co (some 11) (.binOp .geq 3 (.tmp 8) (.tmp 10) 3) (some (7, false)),
        co (some 12) (.pick (.tmp 7) (.const (.bool true)) (.tmp 11)) none] [0, 1, 12])
    (.cond (.tmp 12)
      (.seq (.reg [co (some 4) (.assign (.const (.int .i64 0))) none] [4])
      (.ret))
      (.skip)))
  (.keep [0, 1] (.seq (.reg [co (some 13) (.move (.tmp 0)) none,
      co (some 14) (.nilCheck (.tmp 13)) none,
      co (some 15) (.fieldAddr 113 (.tmp 14) 0) none,
      co (some 16) (.load 22 (.tmp 15)) none,
      co (some 17) (.move (.tmp 1)) none,
      co (some 18) (.indexAddr 22 (.tmp 16) (.tmp 17)) none,
      co (some 19) (.load 23 (.tmp 18)) none,
      co (some 20) (.call { callee := (.builtin .len), args := #[(.tmp 19)], argTypes := #[23] }) none,
      co (some 4) (.assign (.tmp 20)) none] [4])
  (.ret))))
theorem t_arena_Arena_Size : Txt Try.prog 66 21 [(.tmp 4)] c_arena_Arena_Size := txt_of (code := Try.f66.body.getD .ret) mixed (by kernel_rfl) Try.func66 (by kernel_rfl) Try.ntmps66 (by kernel_rfl) (ls := [([0, 1], []), ([], []), ([0, 1, 12], []), ([], []), ([4], []), ([], []), ([999999, 0, 1], []), ([4], []), ([], [])]) (by kernel_rfl)
/-- (*cento/arena.Arena).Has -/
def c_arena_Arena_Has : CC :=
  .seq (.reg [co (some 8) (.assign (.const (.bool false))) none] [0, 1, 2, 3])
  (.seq (.reg [co (some 10) (.move (.tmp 0)) none,
      co (some 11) (.move (.tmp 1)) none,
      co (some 12) (.call { callee := (.value (.func 66)), args := #[(.tmp 10), (.tmp 11)], argTypes := #[24, 3] }) none,
      co (some 9) (.assign (.tmp 12)) none] [0, 1, 2, 3, 9])
  (.seq (.reg [co (some 13) (.move (.tmp 1)) none,
      co (some 14) (.binOp .geq 3 (.tmp 13) (.const (.int .i64 0)) 3) none,
      co (some 15) (.move (.tmp 14)) none,
      co (some 16) (.move (.tmp 1)) (some (15, true)),
      co (some 17) (.move (.tmp 0)) (some (15, true)),
      co (some 18) (.call { callee := (.value (.func 23)), args := #[(.tmp 17)], argTypes := #[24] }) (some (15, true)),
      co (some 19) (.binOp .lss 3 (.tmp 16) (.tmp 18) 3) (some (15, true)),
      co (some 20) (.pick (.tmp 15) (.tmp 19) (.const (.bool false))) none,
      co (some 21) (.move (.tmp 20)) none,
      co (some 22) (.move (.tmp 2)) (some (21, true)),
      co (some 23) (.binOp .geq 3 (.tmp 22) (.const (.int .i64 0)) 3) (some (21, true)),
      co (some 24) (.pick (.tmp 21) (.tmp 23) (.const (.bool false))) none,
      co (some 25) (.move (.tmp 24)) none,
      co (some 26) (.move (.tmp 3)) (some (25, true)),
      co (some 27) (.binOp .geq 3 (.tmp 26) (.const (.int .i64 0)) 3) (some (25, true)),
      co (some 28) (.pick (.tmp 25) (.tmp 27) (.const (.bool false))) none,
      co (some 29) (.move (.tmp 28)) none,
      co (some 30) (.move (.tmp 3)) (some (29, true)),
      co (some 31) (.move (.tmp 9)) (some (29, true)),
      co (some 32) (.binOp .leq 3 (.tmp 30) (.tmp 31) 3) (some (29, true)),
      co (some 33) (.pick (.tmp 29) (.tmp 32) (.const (.bool false))) none,
      co (some 34) (.move (.tmp 33)) none,
      co (some 35) (.move (.tmp 2)) (some (34, true)),
      co (some 36) (.move (.tmp 9)) (some (34, true)),
      co (some 37) (.move (.tmp 3)) (some (34, true)),
      co (some 38) (.binOp .sub 3 (.tmp 36) (.tmp 37) 3) (some (34, true)),
      co (some 39) (.binOp .leq 3 (.tmp 35) (.tmp 38) 3) (some (34, true)),
      co (some 40) (.pick (.tmp 34) (.tmp 39) (.const (.bool false))) none,
      co (some 8) (.assign (.tmp 40)) none] [8])
  (.ret)))
theorem t_arena_Arena_Has : Txt Try.prog 24 41 [(.tmp 8)] c_arena_Arena_Has := txt_of (code := Try.f24.body.getD .ret) mixed (by kernel_rfl) Try.func24 (by kernel_rfl) Try.ntmps24 (by kernel_rfl) (ls := [([0, 1, 2, 3], []), ([], []), ([0, 1, 2, 3, 9], []), ([], []), ([8], []), ([], [])]) (by kernel_rfl)
/-- (*cento/arena.Arena).Get -/
def c_arena_Arena_Get : CC :=
  .seq (.reg [co (some 6) (.assign (.const (.int .u64 0))) none,
      co (some 7) (.assign (.const (.bool false))) none] [0, 1, 2])
  (.seq (.seq (.reg [co (some 8) (.move (.tmp 0)) none,
        co (some 9) (.move (.tmp 1)) none,
        co (some 10) (.move (.tmp 2)) none,
        co (some 11) (.call { callee := (.value (.func 24)), args := #[(.tmp 8), (.tmp 9), (.tmp 10), (.const (.int .i64 1))], argTypes := #[24, 3, 3, 3] }) none,
        co (some 12) (.unOp .not 4 (.tmp 11)) none] [0, 1, 2, 12])
    (.cond (.tmp 12)
      (.seq (.reg [co (some 6) (.assign (.const (.int .u64 0))) none,
          co (some 7) (.assign (.const (.bool false))) none] [6, 7])
      (.ret))
      (.skip)))
  (.keep [0, 1, 2] (.seq (.reg [co (some 13) (.move (.tmp 0)) none,
      co (some 14) (.nilCheck (.tmp 13)) none,
      co (some 15) (.fieldAddr 113 (.tmp 14) 0) none,
      co (some 16) (.load 22 (.tmp 15)) none,
      co (some 17) (.move (.tmp 1)) none,
      co (some 18) (.indexAddr 22 (.tmp 16) (.tmp 17)) none,
      co (some 19) (.load 23 (.tmp 18)) none,
      co (some 20) (.move (.tmp 2)) none,
      co (some 21) (.indexAddr 23 (.tmp 19) (.tmp 20)) none,
      co (some 22) (.load 26 (.tmp 21)) none,
      co (some 6) (.assign (.tmp 22)) none,
      co (some 7) (.assign (.const (.bool true))) none] [6, 7])
  (.ret))))
theorem t_arena_Arena_Get : Txt Try.prog 26 23 [(.tmp 6), (.tmp 7)] c_arena_Arena_Get := txt_of (code := Try.f26.body.getD .ret) mixed (by kernel_rfl) Try.func26 (by kernel_rfl) Try.ntmps26 (by kernel_rfl) (ls := [([0, 1, 2], []), ([], []), ([0, 1, 2, 12], []), ([], []), ([6, 7], []), ([], []), ([999999, 0, 1, 2], []), ([6, 7], []), ([], [])]) (by kernel_rfl)
/-- (*cento/arena.Arena).Part -/
def c_arena_Arena_Part : CC :=
  .seq (.reg [co (some 8) (.assign (.const (.slice none 0 0))) none,
      co (some 9) (.assign (.const (.bool false))) none] [0, 1, 2, 3])
  (.seq (.seq (.reg [co (some 10) (.move (.tmp 0)) none,
        co (some 11) (.move (.tmp 1)) none,
        co (some 12) (.move (.tmp 2)) none,
        co (some 13) (.move (.tmp 3)) none,
        co (some 14) (.call { callee := (.value (.func 24)), args := #[(.tmp 10), (.tmp 11), (.tmp 12), (.tmp 13)], argTypes := #[24, 3, 3, 3] }) none,
        co (some 15) (.unOp .not 4 (.tmp 14)) none] [0, 1, 2, 3, 15])
    (.cond (.tmp 15)
      (.seq (.reg [co (some 8) (.assign (.const (.slice none 0 0))) none,
          co (some 9) (.assign (.const (.bool false))) none] [8, 9])
      (.ret))
      (.skip)))
  (.keep [0, 1, 2, 3] (.seq (.reg [co (some 16) (.move (.tmp 0)) none,
      co (some 17) (.nilCheck (.tmp 16)) none,
      co (some 18) (.fieldAddr 113 (.tmp 17) 0) none,
      co (some 19) (.load 22 (.tmp 18)) none,
      co (some 20) (.move (.tmp 1)) none,
      co (some 21) (.indexAddr 22 (.tmp 19) (.tmp 20)) none,
      co (some 22) (.load 23 (.tmp 21)) none,
      co (some 23) (.move (.tmp 2)) none,
      co (some 24) (.move (.tmp 2)) none,
      co (some 25) (.move (.tmp 3)) none,
      co (some 26) (.binOp .add 3 (.tmp 24) (.tmp 25) 3) none,
      co (some 27) (.slice 23 (.tmp 22) (some (.tmp 23)) (some (.tmp 26)) none) none,
      co (some 28) (.call { callee := (.value (.func 60)), args := #[(.tmp 27)], argTypes := #[23] }) none,
      co (some 8) (.assign (.tmp 28)) none,
      co (some 9) (.assign (.const (.bool true))) none] [8, 9])
  (.ret))))
theorem t_arena_Arena_Part : Txt Try.prog 27 29 [(.tmp 8), (.tmp 9)] c_arena_Arena_Part := txt_of (code := Try.f27.body.getD .ret) mixed (by kernel_rfl) Try.func27 (by kernel_rfl) Try.ntmps27 (by kernel_rfl) (ls := [([0, 1, 2, 3], []), ([], []), ([0, 1, 2, 3, 15], []), ([], []), ([8, 9], []), ([], []), ([999999, 0, 1, 2, 3], []), ([8, 9], []), ([], [])]) (by kernel_rfl)
end Go.Proofs.Ytehcobkphobjiaa

/-
  Chapter 6's functions: arenas that are only read.
-/
namespace Go.Proofs.Ytehcobkphobjiaa
set_option linter.unusedVariables false
set_option linter.unusedSimpArgs false
open Go Go.G Go.Proofs
abbrev ws (l : List Int) : A := .sl false (l.map uv)
abbrev sgs (l : List (List Int)) : A := .sl false (l.map ws)
@[simp] theorem lens_uv (l : List Int) : lens 1 (l.map uv) = true := by simp [lens]
@[simp] theorem lens_ws (l : List (List Int)) : lens 1 (l.map ws) = true := by simp [lens]
theorem clone_spec (f : Bool) (l : List Int) (h : l.length * 8 ≤ 140737488355328) : SpecB Try.prog 60 [.sl f (l.map uv)] (ws l) := by
  cases l with
  | nil =>
    refine specB_nil (fun cap => ?_) (fun a cap => ?_)
    · refine specB_of t_slices_Clone_uint64_uint64 (by simp) fun w0 I0 => ?_
      unfold c_slices_Clone_uint64_uint64
      simp
      exact frzN_nil
    · refine specB_of t_slices_Clone_uint64_uint64 (by simp) fun w0 I0 => ?_
      unfold c_slices_Clone_uint64_uint64
      simp
      exact frzN_osl (sz := 1) (xs := []) (by simp) (by simp) (by simp)
  | cons x l =>
    refine specB_of t_slices_Clone_uint64_uint64 (by simp) fun w0 I0 => ?_
    unfold c_slices_Clone_uint64_uint64
    simp at h ⊢
    refine ⟨h, ?_⟩
    have := frzN_osl (H := lkH [([0], { u := 1, ob := Ob.arr 1 (uv x :: l.map uv) })]) (o := [0]) (u := 1) (off := 0) (len := l.length + 1) (sz := 1) (xs := uv x :: l.map uv) (by simp) (by simp) (by simp [A.flat1, List.take_of_length_le])
    simp [List.take_of_length_le] at this
    exact this
/-- An arena that is only read. -/
abbrev arX (l : List (List Int)) (z m u : Int) : A := .pim [sgs l, iv z, iv m, iv u]
abbrev arn (l : List (List Int)) : A := arX l 0 0 0
theorem frz_sgs {H : Hp} {o : Nm} {u n : Nat} {l : List (List Int)} (h : vr (H o) u = some (1, l.map ws)) (hn : n = l.length) : Frz H (.osl o u 1 0 n) (sgs l) := by
  subst hn
  have := frz_osl (H := H) (o := o) (u := u) (off := 0) (len := l.length) (sz := 1) (xs := l.map ws) (by simpa using h) (by simp) (by simp [List.take_of_length_le])
  simp [List.take_of_length_le] at this
  exact this
theorem len_spec {z m u : Int} (l : List (List Int)) : G.Spec Try.prog 23 [arX l z m u] (iv l.length) := by
  refine spec_of t_arena_Arena_Len (by simp) fun w0 I0 => ?_
  unfold c_arena_Arena_Len
  simp
  exact frz_bare rfl
/-- A segment; its length. -/
def seg (l : List (List Int)) (s : Int) : Option (List Int) := if 0 ≤ s then l[s.toNat]? else none
def szAt (l : List (List Int)) (s : Int) : Nat := ((seg l s).map List.length).getD 0
theorem seg_in {l : List (List Int)} {s : Int} (h0 : 0 ≤ s) (h1 : s < l.length) : ∃ h : s.toNat < l.length, seg l s = some l[s.toNat] := by
  have : s.toNat < l.length := by omega
  exact ⟨this, by simp [seg, h0, this]⟩
theorem seg_out {l : List (List Int)} {s : Int} (h : s < 0 ∨ l.length ≤ s) : seg l s = none := by
  unfold seg
  split
  · rw [List.getElem?_eq_none_iff]; omega
  · rfl
theorem seg_some {l : List (List Int)} {s : Int} {g : List Int} (h : seg l s = some g) : 0 ≤ s ∧ s < l.length ∧ ∃ h : s.toNat < l.length, g = l[s.toNat] := by
  unfold seg at h
  split at h
  · obtain ⟨h1, h2⟩ := List.getElem?_eq_some_iff.1 h
    exact ⟨by assumption, by omega, h1, h2.symm⟩
  · cases h
theorem size_spec {z m u : Int} (l : List (List Int)) (s : Int) : G.Spec Try.prog 66 [arX l z m u, iv s] (iv (szAt l s)) := by
  refine spec_of t_arena_Arena_Size (by simp) fun w0 I0 => ?_
  unfold c_arena_Arena_Size
  simp
  refine sc_call_gf rfl (fun _ => len_spec (z := z) (m := m) (u := u) l) (fun e => by simp [e]) rfl ?_
  simp
  refine ⟨fun h => ?_, fun h0 h1 => ?_⟩
  · rw [szAt, seg_out h]
    exact frz_bare rfl
  · obtain ⟨h2, e1⟩ := seg_in h0 h1
    simp [h0, h1, h2]
    rw [szAt, e1]
    exact frz_int rfl
/-- Are so many words, from one on, in a segment? -/
def hasW (l : List (List Int)) (s a n : Int) : Bool := decide (0 ≤ s ∧ s < l.length ∧ 0 ≤ a ∧ 0 ≤ n ∧ a + n ≤ szAt l s)
theorem has_spec {z m u : Int} (l : List (List Int)) (hb : ∀ x, x ∈ l → x.length * 8 ≤ 140737488355328) (s a n : Int) : G.Spec Try.prog 24 [arX l z m u, iv s, iv a, iv n] (bv (hasW l s a n)) := by
  have hz : szAt l s * 8 ≤ 140737488355328 := by
    unfold szAt
    cases h : seg l s with
    | none => simp
    | some g =>
      obtain ⟨_, _, h2, rfl⟩ := seg_some h
      simpa using hb _ (List.getElem_mem h2)
  refine spec_of t_arena_Arena_Has (by simp) fun w0 I0 => ?_
  unfold c_arena_Arena_Has
  simp
  refine sc_call (size_spec l s) rfl ?_
  simp
  refine sc_call_gt rfl (fun _ => len_spec (z := z) (m := m) (u := u) l) (fun e => by simp [e]) rfl ?_
  simp
  refine frz_bool ?_
  rw [Bool.eq_iff_iff]
  simp only [Bool.and_eq_true, decide_eq_true_eq, hasW]
  constructor
  · rintro ⟨⟨⟨⟨⟨h1, h2⟩, h3⟩, h4⟩, h5⟩, h6⟩
    rw [i64_same (by omega) (by omega)] at h6
    omega
  · rintro ⟨h1, h2, h3, h4, h5⟩
    rw [i64_same (by omega) (by omega)]
    omega
/-- A word. -/
def word (l : List (List Int)) (s a : Int) : Option Int := if 0 ≤ a then (seg l s).bind fun g => g[a.toNat]? else none
theorem hasW_one {l : List (List Int)} {s a : Int} : hasW l s a 1 = (word l s a).isSome := by
  rw [Bool.eq_iff_iff]
  simp only [hasW, decide_eq_true_eq]
  simp only [word, szAt]
  constructor
  · rintro ⟨h1, h2, h3, h4, h5⟩
    obtain ⟨h6, e1⟩ := seg_in h1 h2
    rw [e1] at h5
    simp at h5
    simp [h3, e1]
    omega
  · intro h
    split at h
    · rename_i h3
      cases e : seg l s with
      | none => simp [e] at h
      | some g =>
        obtain ⟨k1, k2, _⟩ := seg_some e
        simp [e] at h
        simp
        omega
    · simp at h
theorem word_some {l : List (List Int)} {s a x : Int} (h : word l s a = some x) : 0 ≤ s ∧ s < l.length ∧ 0 ≤ a ∧ ∃ (h1 : s.toNat < l.length) (h2 : a.toNat < l[s.toNat].length), x = l[s.toNat][a.toNat] := by
  unfold word at h
  split at h
  · rename_i h3
    cases e : seg l s with
    | none => simp [e] at h
    | some g =>
      obtain ⟨k1, k2, k3, rfl⟩ := seg_some e
      simp only [e, Option.bind_some] at h
      obtain ⟨h1, h2⟩ := List.getElem?_eq_some_iff.1 h
      exact ⟨k1, k2, h3, k3, h1, h2.symm⟩
  · cases h
theorem get_spec {z m u : Int} (l : List (List Int)) (hb : ∀ x, x ∈ l → x.length * 8 ≤ 140737488355328) (s a : Int) : G.Spec Try.prog 26 [arX l z m u, iv s, iv a] (.tup [uv ((word l s a).getD 0), bv (word l s a).isSome]) := by
  refine spec_of t_arena_Arena_Get (by simp) fun w0 I0 => ?_
  unfold c_arena_Arena_Get
  simp
  refine sc_call (has_spec l hb s a 1) rfl ?_
  simp [hasW_one]
  cases h : word l s a with
  | none =>
    simp
    exact frz_bare rfl
  | some x =>
    obtain ⟨k1, k2, k3, k4, k5, rfl⟩ := word_some h
    have k6 : a < l[s.toNat].length := by omega
    simp [k1, k2, k3, k4, k5, k6]
    exact frz_bare rfl
/-- Words. -/
def part (l : List (List Int)) (s a n : Int) : List Int := (((seg l s).getD []).drop a.toNat).take n.toNat
theorem hasW_in {l : List (List Int)} {s a n : Int} (h : hasW l s a n = true) : 0 ≤ s ∧ s < l.length ∧ 0 ≤ a ∧ 0 ≤ n ∧ ∃ h : s.toNat < l.length, seg l s = some l[s.toNat] ∧ a + n ≤ l[s.toNat].length := by
  simp only [hasW, decide_eq_true_eq] at h
  obtain ⟨h1, h2, h3, h4, h5⟩ := h
  obtain ⟨h6, e1⟩ := seg_in h1 h2
  rw [szAt, e1] at h5
  exact ⟨h1, h2, h3, h4, h6, e1, h5⟩
end Go.Proofs.Ytehcobkphobjiaa

/-
  Chapter 6: far pointers are followed, by the program and by the document.
-/
namespace Go.Proofs.Ytehcobkphobjiaa
set_option linter.unusedVariables false
set_option linter.unusedSimpArgs false
open Go Go.G Go.Proofs
/-- How many bits each kid has. -/
def bitsOf (c : Int) : Int := if c = 0 then 0 else if c = 1 then 1 else if c = 2 then 8 else if c = 3 then 16 else if c = 4 then 32 else 64
/-- How many words what is pointed to takes. -/
def wordsP (p : Pt) : Option Int :=
  if p.kind = 1 then some (p.data + p.ptrs)
  else if p.kind = 2 ∧ p.code = 7 then some (p.count + 1)
  else if p.kind = 2 ∧ 0 ≤ p.code ∧ p.code ≤ 6 ∧ 0 ≤ p.count ∧ p.count ≤ 536870911 then some ((p.count * bitsOf p.code + 63) / 64)
  else none
/-- What a pointer points to. -/
structure Lc where
  p : Pt
  s : Int
  at_ : Int
deriving DecidableEq
def Pt.l (p : Pt) : List A := [iv p.kind, iv p.off, iv p.data, iv p.ptrs, iv p.code, iv p.count, iv p.seg, bv p.dbl]
@[simp] theorem Pt.l_eq (p : Pt) : p.l = [iv p.kind, iv p.off, iv p.data, iv p.ptrs, iv p.code, iv p.count, iv p.seg, bv p.dbl] := rfl
def Pt.zero : Pt := ⟨0, 0, 0, 0, 0, 0, 0, false⟩
def Lc.zero : Lc := ⟨Pt.zero, 0, 0⟩
abbrev Lc.a (x : Lc) : A := .agg [iv x.p.kind, iv x.p.off, iv x.p.data, iv x.p.ptrs, iv x.p.code, iv x.p.count, iv x.p.seg, bv x.p.dbl, iv x.s, iv x.at_]
/-- All of it in its segment? -/
def insideP (l : List (List Int)) (x : Lc) : Lc × Int := if hasW l x.s x.at_ ((wordsP x.p).getD 0) = true then (⟨{ x.p with off := 0 }, x.s, x.at_⟩, 0) else (Lc.zero, 7)
def nearP (l : List (List Int)) (p : Pt) (s a : Int) : Lc × Int :=
  if p.kind = 1 ∨ p.kind = 2 then insideP l ⟨p, s, a + 1 + p.off⟩ else if p.kind = 4 then (Lc.zero, 9) else (Lc.zero, 8)
/-- All of it are words. -/
def Wds (l : List (List Int)) : Prop := ∀ x, x ∈ l → ∀ y, y ∈ x → 0 ≤ y ∧ y < 18446744073709551616
/-- Two words: a far pointer to what is meant, and its shape. -/
def doubleP (l : List (List Int)) (s a : Int) : Lc × Int :=
  match word l s a, word l s (a + 1) with
  | some v, some w =>
    if (dec v).kind ≠ 3 ∨ (dec v).dbl = true then (Lc.zero, 8)
    else if (dec w).kind = 4 then (Lc.zero, 9)
    else if ((dec w).kind ≠ 1 ∧ (dec w).kind ≠ 2) ∨ (dec w).off ≠ 0 then (Lc.zero, 8)
    else insideP l ⟨dec w, (dec v).seg, (dec v).off⟩
  | _, _ => (Lc.zero, 7)
/-- What the pointer points to that stands in a word. -/
def followP (l : List (List Int)) (s a : Int) : Lc × Int :=
  match word l s a with
  | none => (Lc.zero, 7)
  | some w =>
    if (dec w).kind = 0 then (Lc.zero, 0)
    else if (dec w).kind ≠ 3 then nearP l (dec w) s a
    else if (dec w).dbl = true then doubleP l (dec w).seg (dec w).off
    else match word l (dec w).seg (dec w).off with
      | none => (Lc.zero, 7)
      | some v => nearP l (dec v) (dec w).seg (dec w).off
end Go.Proofs.Ytehcobkphobjiaa

/-
  The functions' text as data, and the facts on the types that they use: written by a program of ours (gen2.py) off the translation.
-/
namespace Go.Proofs.Ytehcobkphobjiaa
set_option linter.unusedVariables false
set_option linter.unusedSimpArgs false
set_option maxRecDepth 20000
open Go Go.G Go.Proofs
@[simp] theorem und_4 : Try.prog.underlying 4 = some .bool := by kernel_rfl
@[simp] theorem und_51 : Try.prog.underlying 51 = some (.slice 53) := by kernel_rfl
@[simp] theorem szT_51 : szT Try.prog 51 = some 1 := by kernel_rfl
@[simp] theorem szT_53 : szT Try.prog 53 = some 3 := by kernel_rfl
@[simp] theorem aggT_51 : aggT Try.prog 51 = some false := by kernel_rfl
@[simp] theorem aggT_53 : aggT Try.prog 53 = some true := by kernel_rfl
@[simp] theorem zeroT_53 : zeroT Try.prog 53 = some (Value.agg #[Value.int IntKind.i64 0, Value.slice none 0 0, Value.slice none 0 0]) := by kernel_rfl
@[simp] theorem bytesT_53 : bytesT Try.prog 53 = some 56 := by kernel_rfl
@[simp] theorem fieldOffT_53_0 : fieldOffT Try.prog 53 0 = some 0 := by kernel_rfl
@[simp] theorem fieldOffT_53_1 : fieldOffT Try.prog 53 1 = some 1 := by kernel_rfl
@[simp] theorem fieldOffT_53_2 : fieldOffT Try.prog 53 2 = some 2 := by kernel_rfl
@[simp] theorem buildA_53 (ps : List (Nat × A)) : buildA Try.prog 53 ps = (fillA (fun i => ([(0, 1), (1, 1), (2, 1)] : List (Nat × Nat))[i]?) [A.v (Value.int IntKind.i64 0), A.sl true [], A.sl true []] ps).map A.agg := by kernel_rfl
end Go.Proofs.Ytehcobkphobjiaa

/-
  The functions' text as data, and the facts on the types that they use: written by a program of ours (gen2.py) off the translation.
-/
namespace Go.Proofs.Ytehcobkphobjiaa
set_option linter.unusedVariables false
set_option linter.unusedSimpArgs false
set_option maxRecDepth 20000
open Go Go.G Go.Proofs
@[simp] theorem und_64 : Try.prog.underlying 64 = some (.int .i64) := by kernel_rfl
@[simp] theorem szT_24 : szT Try.prog 24 = some 1 := by kernel_rfl
@[simp] theorem szT_60 : szT Try.prog 60 = some 4 := by kernel_rfl
@[simp] theorem szT_68 : szT Try.prog 68 = some 8 := by kernel_rfl
@[simp] theorem szT_128 : szT Try.prog 128 = some 7 := by kernel_rfl
@[simp] theorem aggT_24 : aggT Try.prog 24 = some false := by kernel_rfl
@[simp] theorem aggT_60 : aggT Try.prog 60 = some true := by kernel_rfl
@[simp] theorem aggT_68 : aggT Try.prog 68 = some true := by kernel_rfl
@[simp] theorem aggT_128 : aggT Try.prog 128 = some true := by kernel_rfl
@[simp] theorem zeroT_60 : zeroT Try.prog 60 = some (Value.agg #[Value.int IntKind.i64 0, Value.int IntKind.i64 0, Value.int IntKind.i64 0, Value.int IntKind.i64 0]) := by kernel_rfl
@[simp] theorem zeroT_68 : zeroT Try.prog 68 = some (Value.agg #[Value.pointer none, Value.int IntKind.i64 0, Value.int IntKind.i64 0, Value.int IntKind.i64 0, Value.int IntKind.i64 0, Value.int IntKind.i64 0, Value.int IntKind.i64 0, Value.int IntKind.u64 0]) := by kernel_rfl
@[simp] theorem zeroT_128 : zeroT Try.prog 128 = some (Value.agg #[Value.int IntKind.i64 0, Value.int IntKind.i64 0, Value.int IntKind.i64 0, Value.int IntKind.i64 0, Value.int IntKind.i64 0, Value.int IntKind.i64 0, Value.int IntKind.u64 0]) := by kernel_rfl
@[simp] theorem fieldOffT_60_0 : fieldOffT Try.prog 60 0 = some 0 := by kernel_rfl
@[simp] theorem fieldOffT_60_1 : fieldOffT Try.prog 60 1 = some 1 := by kernel_rfl
@[simp] theorem fieldOffT_60_2 : fieldOffT Try.prog 60 2 = some 2 := by kernel_rfl
@[simp] theorem fieldOffT_60_3 : fieldOffT Try.prog 60 3 = some 3 := by kernel_rfl
@[simp] theorem fieldOffT_68_0 : fieldOffT Try.prog 68 0 = some 0 := by kernel_rfl
@[simp] theorem fieldOffT_68_1 : fieldOffT Try.prog 68 1 = some 1 := by kernel_rfl
@[simp] theorem fieldOffT_68_2 : fieldOffT Try.prog 68 2 = some 2 := by kernel_rfl
@[simp] theorem fieldOffT_68_3 : fieldOffT Try.prog 68 3 = some 3 := by kernel_rfl
@[simp] theorem fieldOffT_68_4 : fieldOffT Try.prog 68 4 = some 4 := by kernel_rfl
@[simp] theorem fieldOffT_68_5 : fieldOffT Try.prog 68 5 = some 5 := by kernel_rfl
@[simp] theorem fieldOffT_68_6 : fieldOffT Try.prog 68 6 = some 6 := by kernel_rfl
@[simp] theorem fieldOffT_68_7 : fieldOffT Try.prog 68 7 = some 7 := by kernel_rfl
@[simp] theorem fieldOffT_128_0 : fieldOffT Try.prog 128 0 = some 0 := by kernel_rfl
@[simp] theorem fieldOffT_128_1 : fieldOffT Try.prog 128 1 = some 1 := by kernel_rfl
@[simp] theorem fieldOffT_128_2 : fieldOffT Try.prog 128 2 = some 2 := by kernel_rfl
@[simp] theorem fieldOffT_128_3 : fieldOffT Try.prog 128 3 = some 3 := by kernel_rfl
@[simp] theorem fieldOffT_128_4 : fieldOffT Try.prog 128 4 = some 4 := by kernel_rfl
@[simp] theorem fieldOffT_128_5 : fieldOffT Try.prog 128 5 = some 5 := by kernel_rfl
@[simp] theorem fieldOffT_128_6 : fieldOffT Try.prog 128 6 = some 6 := by kernel_rfl
@[simp] theorem buildA_60 (ps : List (Nat × A)) : buildA Try.prog 60 ps = (fillA (fun i => ([(0, 1), (1, 1), (2, 1), (3, 1)] : List (Nat × Nat))[i]?) [A.v (Value.int IntKind.i64 0), A.v (Value.int IntKind.i64 0), A.v (Value.int IntKind.i64 0), A.v (Value.int IntKind.i64 0)] ps).map A.agg := by kernel_rfl
@[simp] theorem buildA_68 (ps : List (Nat × A)) : buildA Try.prog 68 ps = (fillA (fun i => ([(0, 1), (1, 1), (2, 1), (3, 1), (4, 1), (5, 1), (6, 1), (7, 1)] : List (Nat × Nat))[i]?) [A.v (Value.pointer none), A.v (Value.int IntKind.i64 0), A.v (Value.int IntKind.i64 0), A.v (Value.int IntKind.i64 0), A.v (Value.int IntKind.i64 0), A.v (Value.int IntKind.i64 0), A.v (Value.int IntKind.i64 0), A.v (Value.int IntKind.u64 0)] ps).map A.agg := by kernel_rfl
@[simp] theorem buildA_128 (ps : List (Nat × A)) : buildA Try.prog 128 ps = (fillA (fun i => ([(0, 1), (1, 1), (2, 1), (3, 1), (4, 1), (5, 1), (6, 1)] : List (Nat × Nat))[i]?) [A.v (Value.int IntKind.i64 0), A.v (Value.int IntKind.i64 0), A.v (Value.int IntKind.i64 0), A.v (Value.int IntKind.i64 0), A.v (Value.int IntKind.i64 0), A.v (Value.int IntKind.i64 0), A.v (Value.int IntKind.u64 0)] ps).map A.agg := by kernel_rfl
end Go.Proofs.Ytehcobkphobjiaa

/-
  The functions' text as data, and the facts on the types that they use: written by a program of ours (gen2.py) off the translation.
-/
namespace Go.Proofs.Ytehcobkphobjiaa
set_option linter.unusedVariables false
set_option linter.unusedSimpArgs false
set_option maxRecDepth 20000
open Go Go.G Go.Proofs
@[simp] theorem fieldOffT_229_0 : fieldOffT Try.prog 229 0 = some 0 := by kernel_rfl
@[simp] theorem buildA_229 (ps : List (Nat × A)) : buildA Try.prog 229 ps = (fillA (fun i => ([(0, 1)] : List (Nat × Nat))[i]?) [A.v (Value.int IntKind.u64 0)] ps).map A.agg := by kernel_rfl
end Go.Proofs.Ytehcobkphobjiaa

/-
  The functions' text as data, and the facts on the types that they use: written by a program of ours (gen2.py) off the translation.
-/
namespace Go.Proofs.Ytehcobkphobjiaa
set_option linter.unusedVariables false
set_option linter.unusedSimpArgs false
set_option maxRecDepth 20000
open Go Go.G Go.Proofs
@[simp] theorem und_61 : Try.prog.underlying 61 = some (.pointer 134) := by kernel_rfl
@[simp] theorem und_63 : Try.prog.underlying 63 = some (.slice 3) := by kernel_rfl
@[simp] theorem und_132 : Try.prog.underlying 132 = some (.slice 182) := by kernel_rfl
@[simp] theorem szT_63 : szT Try.prog 63 = some 1 := by kernel_rfl
@[simp] theorem szT_132 : szT Try.prog 132 = some 1 := by kernel_rfl
@[simp] theorem szT_182 : szT Try.prog 182 = some 9 := by kernel_rfl
@[simp] theorem aggT_63 : aggT Try.prog 63 = some false := by kernel_rfl
@[simp] theorem aggT_132 : aggT Try.prog 132 = some false := by kernel_rfl
@[simp] theorem aggT_182 : aggT Try.prog 182 = some true := by kernel_rfl
@[simp] theorem zeroT_3 : zeroT Try.prog 3 = some (Value.int IntKind.i64 0) := by kernel_rfl
@[simp] theorem zeroT_182 : zeroT Try.prog 182 = some (Value.agg #[Value.int IntKind.u64 0, Value.pointer none, Value.int IntKind.i64 0, Value.int IntKind.i64 0, Value.int IntKind.i64 0, Value.int IntKind.i64 0, Value.int IntKind.i64 0, Value.int IntKind.i64 0, Value.int IntKind.u64 0]) := by kernel_rfl
@[simp] theorem bytesT_3 : bytesT Try.prog 3 = some 8 := by kernel_rfl
@[simp] theorem bytesT_182 : bytesT Try.prog 182 = some 72 := by kernel_rfl
@[simp] theorem fieldOffT_134_0 : fieldOffT Try.prog 134 0 = some 0 := by kernel_rfl
@[simp] theorem fieldOffT_134_1 : fieldOffT Try.prog 134 1 = some 1 := by kernel_rfl
@[simp] theorem fieldOffT_182_0 : fieldOffT Try.prog 182 0 = some 0 := by kernel_rfl
@[simp] theorem fieldOffT_182_1 : fieldOffT Try.prog 182 1 = some 1 := by kernel_rfl
@[simp] theorem buildA_134 (ps : List (Nat × A)) : buildA Try.prog 134 ps = (fillA (fun i => ([(0, 1), (1, 1)] : List (Nat × Nat))[i]?) [A.sl true [], A.sl true []] ps).map A.agg := by kernel_rfl
@[simp] theorem buildA_182 (ps : List (Nat × A)) : buildA Try.prog 182 ps = (fillA (fun i => ([(0, 1), (1, 8)] : List (Nat × Nat))[i]?) [A.v (Value.int IntKind.u64 0), A.v (Value.pointer none), A.v (Value.int IntKind.i64 0), A.v (Value.int IntKind.i64 0), A.v (Value.int IntKind.i64 0), A.v (Value.int IntKind.i64 0), A.v (Value.int IntKind.i64 0), A.v (Value.int IntKind.i64 0), A.v (Value.int IntKind.u64 0)] ps).map A.agg := by kernel_rfl
end Go.Proofs.Ytehcobkphobjiaa

/-
  The functions' text as data, and the facts on the types that they use: written by a program of ours (gen2.py) off the translation.
-/
namespace Go.Proofs.Ytehcobkphobjiaa
set_option linter.unusedVariables false
set_option linter.unusedSimpArgs false
set_option maxRecDepth 20000
open Go Go.G Go.Proofs
@[simp] theorem fieldOffT_140_0 : fieldOffT Try.prog 140 0 = some 0 := by kernel_rfl
@[simp] theorem fieldOffT_140_1 : fieldOffT Try.prog 140 1 = some 1 := by kernel_rfl
@[simp] theorem buildA_140 (ps : List (Nat × A)) : buildA Try.prog 140 ps = (fillA (fun i => ([(0, 1), (1, 1)] : List (Nat × Nat))[i]?) [A.sl true [], A.v (Value.int IntKind.i64 0)] ps).map A.agg := by kernel_rfl
@[simp] theorem fieldT_53_1 : fieldT Try.prog 53 1 = some (23, 1) := by kernel_rfl
@[simp] theorem fieldT_53_2 : fieldT Try.prog 53 2 = some (51, 2) := by kernel_rfl
end Go.Proofs.Ytehcobkphobjiaa

/-
  The functions' text as data, and the facts on the types that they use: written by a program of ours (gen2.py) off the translation.
-/
namespace Go.Proofs.Ytehcobkphobjiaa
set_option linter.unusedVariables false
set_option linter.unusedSimpArgs false
set_option maxRecDepth 20000
open Go Go.G Go.Proofs
@[simp] theorem und_36 : Try.prog.underlying 36 = some (.slice 41) := by kernel_rfl
@[simp] theorem szT_41 : szT Try.prog 41 = some 5 := by kernel_rfl
@[simp] theorem aggT_41 : aggT Try.prog 41 = some true := by kernel_rfl
@[simp] theorem zeroT_41 : zeroT Try.prog 41 = some (Value.agg #[Value.int IntKind.i64 0, Value.int IntKind.i64 0, Value.int IntKind.i64 0, Value.int IntKind.i64 0, Value.int IntKind.u64 0]) := by kernel_rfl
@[simp] theorem bytesT_41 : bytesT Try.prog 41 = some 40 := by kernel_rfl
@[simp] theorem fieldOffT_41_0 : fieldOffT Try.prog 41 0 = some 0 := by kernel_rfl
@[simp] theorem fieldOffT_41_1 : fieldOffT Try.prog 41 1 = some 1 := by kernel_rfl
@[simp] theorem fieldOffT_41_2 : fieldOffT Try.prog 41 2 = some 2 := by kernel_rfl
@[simp] theorem fieldOffT_41_3 : fieldOffT Try.prog 41 3 = some 3 := by kernel_rfl
@[simp] theorem fieldOffT_41_4 : fieldOffT Try.prog 41 4 = some 4 := by kernel_rfl
@[simp] theorem fieldOffT_44_0 : fieldOffT Try.prog 44 0 = some 0 := by kernel_rfl
@[simp] theorem fieldOffT_44_1 : fieldOffT Try.prog 44 1 = some 1 := by kernel_rfl
@[simp] theorem fieldOffT_44_2 : fieldOffT Try.prog 44 2 = some 2 := by kernel_rfl
@[simp] theorem fieldOffT_44_3 : fieldOffT Try.prog 44 3 = some 3 := by kernel_rfl
@[simp] theorem fieldOffT_113_1 : fieldOffT Try.prog 113 1 = some 1 := by kernel_rfl
@[simp] theorem fieldOffT_113_2 : fieldOffT Try.prog 113 2 = some 2 := by kernel_rfl
@[simp] theorem fieldOffT_113_3 : fieldOffT Try.prog 113 3 = some 3 := by kernel_rfl
@[simp] theorem buildA_44 (ps : List (Nat × A)) : buildA Try.prog 44 ps = (fillA (fun i => ([(0, 1), (1, 1), (2, 1), (3, 1)] : List (Nat × Nat))[i]?) [A.sl true [], A.v (Value.int IntKind.i64 0), A.v (Value.int IntKind.i64 0), A.v (Value.int IntKind.i64 0)] ps).map A.agg := by kernel_rfl
/-- cento/arena.New -/
def c_arena_New : CC :=
  .seq (.reg [co (some 4) (.assign (.const (.pointer none))) none] [0, 1])
  (.seq (.reg [co (some 5) (.move (.tmp 0)) none,
      co (some 6) (.call { callee := (.builtin .max), args := #[(.tmp 5), (.const (.int .i64 1))], argTypes := #[3, 3] }) none,
      co (some 7) (.move (.tmp 1)) none,
      co (some 8) (.call { callee := (.builtin .max), args := #[(.tmp 7), (.const (.int .i64 0))], argTypes := #[3, 3] }) none,
      co (some 9) (.call { callee := (.builtin .min), args := #[(.tmp 8), (.const (.int .i64 131072))], argTypes := #[3, 3] }) none,
      co (some 10) (.build 113 #[(1, (.tmp 6)), (2, (.tmp 9))]) none,
      cn (some 11) (.box 113 (.tmp 10)) none [0],
      co (some 4) (.assign (.tmp 11)) none] [4])
  (.ret))
theorem t_arena_New : Txt Try.prog 20 12 [(.tmp 4)] c_arena_New := txt_of (code := Try.f20.body.getD .ret) mixed (by kernel_rfl) Try.func20 (by kernel_rfl) Try.ntmps20 (by kernel_rfl) (ls := [([0, 1], []), ([], []), ([4], [(6, [0])]), ([], [])]) (by kernel_rfl)
def l1_arena_OfN : CC :=
  .seq (.reg [co (some 11) (.binOp .lss 3 (.tmp 10) (.tmp 9) 3) none] [3, 8, 9, 10, 11])
  (.seq (.cond (.tmp 11)
      (.skip)
      (.exit 0))
  (.keep [3, 8, 9, 10] (.seq (.block 1
      (.seq (.reg [co (some 12) (.indexAddr 22 (.tmp 8) (.tmp 10)) none,
          co (some 13) (.load 23 (.tmp 12)) none,
          co (some 5) (.assign (.tmp 13)) none] [3, 5, 8, 9, 10])
      (.reg [co (some 14) (.move (.tmp 3)) none,
        co (some 15) (.move (.tmp 3)) none,
        co (some 16) (.nilCheck (.tmp 15)) none,
        co (some 17) (.fieldAddr 113 (.tmp 16) 0) none,
        ⟨some 18, (.load 22 (.tmp 17)), none, [], 4, [], true⟩,
        co (some 19) (.move (.tmp 5)) none,
        ⟨some 20, (.call { callee := (.value (.func 60)), args := #[(.tmp 19)], argTypes := #[23] }), none, [], 6, [4], false⟩,
        ⟨some 21, (.buildSlice 22 1 #[(0, (.tmp 20))]), none, [], 7, [4], false⟩,
        cn (some 22) (.call { callee := (.builtin .append), args := #[(.tmp 18), (.tmp 21)], argTypes := #[22, 22] }) none [1, 0],
        co (some 23) (.nilCheck (.tmp 14)) none,
        co (some 24) (.fieldAddr 113 (.tmp 23) 0) none,
        co none (.store 22 (.tmp 24) (.tmp 22)) none] [3, 8, 9, 10])))
  (.reg [co (some 25) (.binOp .add 3 (.tmp 10) (.const (.int .i64 1)) 3) none,
    co (some 10) (.move (.tmp 25)) none] [3, 8, 9, 10]))))
/-- cento/arena.Of -/
def c_arena_OfN : CC :=
  .seq (.reg [co (some 2) (.assign (.const (.pointer none))) none] [0])
  (.seq (.reg [co (some 6) (.build 113 #[]) none,
      cn (some 7) (.box 113 (.tmp 6)) none [1],
      co (some 3) (.assign (.tmp 7)) none] [0, 3])
  (.seq (.seq (.reg [co (some 8) (.move (.tmp 0)) none,
        co (some 9) (.call { callee := (.builtin .len), args := #[(.tmp 8)], argTypes := #[22] }) none,
        co (some 10) (.move (.const (.int .i64 0))) none] [3, 8, 9, 10])
    (.block 0
      (.loop l1_arena_OfN)))
  (.keep [3] (.seq (.reg [co (some 26) (.move (.tmp 3)) none,
      co (some 2) (.assign (.tmp 26)) none] [2])
  (.ret)))))
theorem t_arena_OfN : Txt Try.prog 13 27 [(.tmp 2)] c_arena_OfN := txt_of (code := Try.f13.body.getD .ret) mixed (by kernel_rfl) Try.func13 (by kernel_rfl) Try.ntmps13 (by kernel_rfl) (ls := [([0], []), ([], []), ([0, 3], [(1, [1])]), ([], []), ([3, 8, 9, 10], []), ([], []), ([3, 8, 9, 10, 11], []), ([], []), ([999999, 3, 8, 9, 10], []), ([3, 5, 8, 9, 10], []), ([], []), ([3, 8, 9, 10], [(8, [1, 0])]), ([], []), ([3, 8, 9, 10], []), ([999999, 3], []), ([2], []), ([], [])]) (by kernel_rfl)
/-- (*cento/arena.Arena).Left -/
def c_arena_Arena_Left : CC :=
  .seq (.reg [co (some 2) (.assign (.const (.int .i64 0))) none] [0])
  (.seq (.seq (.reg [co (some 3) (.move (.tmp 0)) none,
        co (some 4) (.binOp .eql 24 (.tmp 3) (.const (.pointer none)) 24) none] [0, 4])
    (.cond (.tmp 4)
      (.seq (.reg [co (some 2) (.assign (.const (.int .i64 0))) none] [2])
      (.ret))
      (.skip)))
  (.keep [0] (.seq (.reg [co (some 5) (.move (.tmp 0)) none,
      co (some 6) (.nilCheck (.tmp 5)) none,
      co (some 7) (.fieldAddr 113 (.tmp 6) 2) none,
      co (some 8) (.load 3 (.tmp 7)) none,
      co (some 9) (.move (.tmp 0)) none,
      co (some 10) (.nilCheck (.tmp 9)) none,
      co (some 11) (.fieldAddr 113 (.tmp 10) 3) none,
      co (some 12) (.load 3 (.tmp 11)) none,
      co (some 13) (.binOp .sub 3 (.tmp 8) (.tmp 12) 3) none,
      co (some 2) (.assign (.tmp 13)) none] [2])
  (.ret))))
theorem t_arena_Arena_Left : Txt Try.prog 18 14 [(.tmp 2)] c_arena_Arena_Left := txt_of (code := Try.f18.body.getD .ret) mixed (by kernel_rfl) Try.func18 (by kernel_rfl) Try.ntmps18 (by kernel_rfl) (ls := [([0], []), ([], []), ([0, 4], []), ([], []), ([2], []), ([], []), ([999999, 0], []), ([2], []), ([], [])]) (by kernel_rfl)
/-- (*cento/arena.Arena).room -/
def c_arena_Arena_room : CC :=
  .seq (.reg [co (some 6) (.assign (.const (.bool false))) none] [0, 1, 2])
  (.seq (.reg [co (some 7) (.move (.tmp 0)) none,
      co (some 8) (.nilCheck (.tmp 7)) none,
      co (some 9) (.fieldAddr 113 (.tmp 8) 1) none,
      ⟨some 10, (.load 3 (.tmp 9)), none, [], 3, [], true⟩,
      co (some 11) (.move (.tmp 0)) none,
      co (some 12) (.move (.tmp 1)) none,
      ⟨some 13, (.call { callee := (.value (.func 66)), args := #[(.tmp 11), (.tmp 12)], argTypes := #[24, 3] }), none, [], 6, [3], false⟩,
      co (some 14) (.binOp .sub 3 (.tmp 10) (.tmp 13) 3) none,
      co (some 15) (.move (.tmp 2)) none,
      co (some 16) (.binOp .geq 3 (.tmp 14) (.tmp 15) 3) none,
      co (some 6) (.assign (.tmp 16)) none] [6])
  (.ret))
theorem t_arena_Arena_room : Txt Try.prog 61 17 [(.tmp 6)] c_arena_Arena_room := txt_of (code := Try.f61.body.getD .ret) mixed (by kernel_rfl) Try.func61 (by kernel_rfl) Try.ntmps61 (by kernel_rfl) (ls := [([0, 1, 2], []), ([], []), ([6], []), ([], [])]) (by kernel_rfl)
/-- (*cento/arena.Arena).grow -/
def c_arena_Arena_grow : CC :=
  .seq (.reg [co (some 6) (.assign (.const (.int .i64 0))) none] [0, 1, 2])
  (.seq (.reg [co (some 8) (.move (.tmp 0)) none,
      co (some 9) (.nilCheck (.tmp 8)) none,
      co (some 10) (.fieldAddr 113 (.tmp 9) 0) none,
      co (some 11) (.load 22 (.tmp 10)) none,
      co (some 12) (.move (.tmp 1)) none,
      co (some 13) (.indexAddr 22 (.tmp 11) (.tmp 12)) none,
      co (some 14) (.load 23 (.tmp 13)) none,
      co (some 15) (.call { callee := (.builtin .len), args := #[(.tmp 14)], argTypes := #[23] }) none,
      co (some 7) (.assign (.tmp 15)) none] [0, 1, 2, 7])
  (.seq (.reg [co (some 16) (.move (.tmp 0)) none,
      co (some 17) (.nilCheck (.tmp 16)) none,
      co (some 18) (.fieldAddr 113 (.tmp 17) 0) none,
      ⟨some 19, (.load 22 (.tmp 18)), none, [], 3, [], true⟩,
      co (some 20) (.move (.tmp 1)) none,
      co (some 21) (.move (.tmp 0)) none,
      co (some 22) (.nilCheck (.tmp 21)) none,
      co (some 23) (.fieldAddr 113 (.tmp 22) 0) none,
      co (some 24) (.load 22 (.tmp 23)) none,
      co (some 25) (.move (.tmp 1)) none,
      co (some 26) (.indexAddr 22 (.tmp 24) (.tmp 25)) none,
      co (some 27) (.load 23 (.tmp 26)) none,
      co (some 28) (.move (.tmp 2)) none,
      ⟨some 29, (.call { callee := (.builtin .append), args := #[(.tmp 27), (.tmp 28)], argTypes := #[23, 3] }), none, [1], 13, [3], false⟩,
      co (some 30) (.indexAddr 22 (.tmp 19) (.tmp 20)) none,
      co none (.store 23 (.tmp 30) (.tmp 29)) none] [0, 2, 7])
  (.seq (.reg [co (some 31) (.move (.tmp 0)) none,
      co (some 32) (.nilCheck (.tmp 31)) none,
      co (some 33) (.fieldAddr 113 (.tmp 32) 3) none,
      co (some 34) (.load 3 (.tmp 33)) none,
      co (some 35) (.move (.tmp 2)) none,
      co (some 36) (.binOp .add 3 (.tmp 34) (.tmp 35) 3) none,
      co (some 37) (.nilCheck (.tmp 31)) none,
      co (some 38) (.fieldAddr 113 (.tmp 37) 3) none,
      co none (.store 3 (.tmp 38) (.tmp 36)) none] [7])
  (.seq (.reg [co (some 39) (.move (.tmp 7)) none,
      co (some 6) (.assign (.tmp 39)) none] [6])
  (.ret)))))
theorem t_arena_Arena_grow : Txt Try.prog 62 40 [(.tmp 6)] c_arena_Arena_grow := txt_of (code := Try.f62.body.getD .ret) mixed (by kernel_rfl) Try.func62 (by kernel_rfl) Try.ntmps62 (by kernel_rfl) (ls := [([0, 1, 2], []), ([], []), ([0, 1, 2, 7], []), ([], []), ([0, 2, 7], [(13, [1])]), ([], []), ([7], []), ([], []), ([6], []), ([], [])]) (by kernel_rfl)
/-- (*cento/arena.Arena).In -/
def c_arena_Arena_In : CC :=
  .seq (.reg [co (some 6) (.assign (.const (.int .i64 0))) none,
      co (some 7) (.assign (.const (.bool false))) none] [0, 1, 2])
  (.seq (.seq (.reg [co (some 8) (.move (.tmp 1)) none,
        co (some 9) (.binOp .lss 3 (.tmp 8) (.const (.int .i64 0)) 3) none,
        co (some 10) (.move (.tmp 9)) none,
        co (some 11) (.move (.tmp 1)) (some (10, false)),
        co (some 12) (.move (.tmp 0)) (some (10, false)),
        co (some 13) (.call { callee := (.value (.func 23)), args := #[(.tmp 12)], argTypes := #[24] }) (some (10, false)),
        co (some 14) (.binOp .geq 3 (.tmp 11) (.tmp 13) 3) (some (10, false)),
        co (some 15) (.pick (.tmp 10) (.const (.bool true)) (.tmp 14)) none,
        co (some 16) (.move (.tmp 15)) none,
        co (some 17) (.move (.tmp 2)) (some (16, false)),
        co (some 18) (.binOp .lss 3 (.tmp 17) (.const (.int .i64 0)) 3) (some (16, false)),
        co (some 19) (.pick (.tmp 16) (.const (.bool true)) (.tmp 18)) none,
        co (some 20) (.move (.tmp 19)) none,
        co (some 21) (.move (.tmp 2)) (some (20, false)),
        co (some 22) (.move (.tmp 0)) (some (20, false)),
        co (some 23) (.call { callee := (.value (.func 18)), args := #[(.tmp 22)], argTypes := #[24] }) (some (20, false)),
        co (some 24) (.binOp .gtr 3 (.tmp 21) (.tmp 23) 3) (some (20, false)),
        co (some 25) (.pick (.tmp 20) (.const (.bool true)) (.tmp 24)) none,
        co (some 26) (.move (.tmp 25)) none,
        co (some 27) (.move (.tmp 0)) (some (26, false)),
        co (some 28) (.move (.tmp 1)) (some (26, false)),
        co (some 29) (.move (.tmp 2)) (some (26, false)),
        co (some 30) (.call { callee := (.value (.func 61)), args := #[(.tmp 27), (.tmp 28), (.tmp 29)], argTypes := #[24, 3, 3] }) (some (26, false)),
        co (some 31) (.unOp .not 4 (.tmp 30)) (some (26, false)),
        co (some 32) (.pick (.tmp 26) (.const (.bool true)) (.tmp 31)) none] [0, 1, 2, 32])
    (.cond (.tmp 32)
      (.seq (.reg [co (some 6) (.assign (.const (.int .i64 0))) none,
          co (some 7) (.assign (.const (.bool false))) none] [6, 7])
      (.ret))
      (.skip)))
  (.keep [0, 1, 2] (.seq (.reg [co (some 33) (.move (.tmp 0)) none,
      co (some 34) (.move (.tmp 1)) none,
      co (some 35) (.move (.tmp 2)) none,
      co (some 36) (.call { callee := (.value (.func 62)), args := #[(.tmp 33), (.tmp 34), (.tmp 35)], argTypes := #[24, 3, 3] }) none,
      co (some 6) (.assign (.tmp 36)) none,
      co (some 7) (.assign (.const (.bool true))) none] [6, 7])
  (.ret))))
theorem t_arena_Arena_In : Txt Try.prog 17 37 [(.tmp 6), (.tmp 7)] c_arena_Arena_In := txt_of (code := Try.f17.body.getD .ret) mixed (by kernel_rfl) Try.func17 (by kernel_rfl) Try.ntmps17 (by kernel_rfl) (ls := [([0, 1, 2], []), ([], []), ([0, 1, 2, 32], []), ([], []), ([6, 7], []), ([], []), ([999999, 0, 1, 2], []), ([6, 7], []), ([], [])]) (by kernel_rfl)
def k1_arena_Arena_Give : CC :=
  .seq (.reg [co (some 54) (.move (.tmp 7)) none,
      co (some 55) (.move (.tmp 0)) none,
      co (some 56) (.move (.tmp 7)) none,
      co (some 57) (.move (.tmp 1)) none,
      co (some 58) (.call { callee := (.value (.func 62)), args := #[(.tmp 55), (.tmp 56), (.tmp 57)], argTypes := #[24, 3, 3] }) none,
      co (some 4) (.assign (.tmp 54)) none,
      co (some 5) (.assign (.tmp 58)) none,
      co (some 6) (.assign (.const (.bool true))) none] [4, 5, 6])
  (.ret)
/-- (*cento/arena.Arena).Give -/
def c_arena_Arena_Give : CC :=
  .seq (.reg [co (some 4) (.assign (.const (.int .i64 0))) none,
      co (some 5) (.assign (.const (.int .i64 0))) none,
      co (some 6) (.assign (.const (.bool false))) none] [0, 1])
  (.seq (.seq (.reg [co (some 8) (.move (.tmp 0)) none,
        co (some 9) (.binOp .eql 24 (.tmp 8) (.const (.pointer none)) 24) none,
        co (some 10) (.move (.tmp 9)) none,
        co (some 11) (.move (.tmp 1)) (some (10, false)),
        co (some 12) (.binOp .lss 3 (.tmp 11) (.const (.int .i64 0)) 3) (some (10, false)),
        co (some 13) (.pick (.tmp 10) (.const (.bool true)) (.tmp 12)) none,
        co (some 14) (.move (.tmp 13)) none,
        co (some 15) (.move (.tmp 1)) (some (14, false)),
        co (some 16) (.move (.tmp 0)) (some (14, false)),
        co (some 17) (.call { callee := (.value (.func 18)), args := #[(.tmp 16)], argTypes := #[24] }) (some (14, false)),
        co (some 18) (.binOp .gtr 3 (.tmp 15) (.tmp 17) 3) (some (14, false)),
        co (some 19) (.pick (.tmp 14) (.const (.bool true)) (.tmp 18)) none] [0, 1, 19])
    (.cond (.tmp 19)
      (.seq (.reg [co (some 4) (.assign (.const (.int .i64 0))) none,
          co (some 5) (.assign (.const (.int .i64 0))) none,
          co (some 6) (.assign (.const (.bool false))) none] [4, 5, 6])
      (.ret))
      (.skip)))
  (.keep [0, 1] (.seq (.reg [co (some 20) (.move (.tmp 0)) none,
      co (some 21) (.nilCheck (.tmp 20)) none,
      co (some 22) (.fieldAddr 113 (.tmp 21) 0) none,
      co (some 23) (.load 22 (.tmp 22)) none,
      co (some 24) (.call { callee := (.builtin .len), args := #[(.tmp 23)], argTypes := #[22] }) none,
      co (some 25) (.binOp .sub 3 (.tmp 24) (.const (.int .i64 1)) 3) none,
      co (some 7) (.assign (.tmp 25)) none] [0, 1, 7])
  (.seq (.seq (.reg [co (some 26) (.move (.tmp 7)) none,
        co (some 27) (.binOp .lss 3 (.tmp 26) (.const (.int .i64 0)) 3) none,
        co (some 28) (.move (.tmp 27)) none,
        co (some 29) (.move (.tmp 0)) (some (28, false)),
        co (some 30) (.move (.tmp 7)) (some (28, false)),
        co (some 31) (.move (.tmp 1)) (some (28, false)),
        co (some 32) (.call { callee := (.value (.func 61)), args := #[(.tmp 29), (.tmp 30), (.tmp 31)], argTypes := #[24, 3, 3] }) (some (28, false)),
        co (some 33) (.unOp .not 4 (.tmp 32)) (some (28, false)),
        co (some 34) (.move (.tmp 33)) (some (28, false)),
        co (some 35) (.move (.tmp 0)) (some (34, true)),
        co (some 36) (.nilCheck (.tmp 35)) (some (34, true)),
        co (some 37) (.fieldAddr 113 (.tmp 36) 0) (some (34, true)),
        co (some 38) (.load 22 (.tmp 37)) (some (34, true)),
        co (some 39) (.call { callee := (.builtin .len), args := #[(.tmp 38)], argTypes := #[22] }) (some (34, true)),
        co (some 40) (.binOp .lss 3 (.tmp 39) (.const (.int .i64 16)) 3) (some (34, true)),
        co (some 41) (.pick (.tmp 34) (.tmp 40) (.const (.bool false))) (some (28, false)),
        co (some 42) (.pick (.tmp 28) (.const (.bool true)) (.tmp 41)) none] [0, 1, 7, 42])
    (.cond (.tmp 42)
      (.seq (.reg [co (some 43) (.move (.tmp 0)) none,
          co (some 44) (.move (.tmp 0)) none,
          co (some 45) (.nilCheck (.tmp 44)) none,
          co (some 46) (.fieldAddr 113 (.tmp 45) 0) none,
          co (some 47) (.load 22 (.tmp 46)) none,
          co (some 48) (.buildSlice 22 1 #[(0, (.const (.slice none 0 0)))]) none,
          cn (some 49) (.call { callee := (.builtin .append), args := #[(.tmp 47), (.tmp 48)], argTypes := #[22, 22] }) none [1],
          co (some 50) (.nilCheck (.tmp 43)) none,
          co (some 51) (.fieldAddr 113 (.tmp 50) 0) none,
          co none (.store 22 (.tmp 51) (.tmp 49)) none] [0, 1, 7])
      (.reg [co (some 52) (.move (.tmp 7)) none,
        co (some 53) (.binOp .add 3 (.tmp 52) (.const (.int .i64 1)) 3) none,
        co (some 7) (.assign (.tmp 53)) none] [0, 1, 7]))
      (.skip)))
  (.keep [0, 1, 7] (.stop k1_arena_Arena_Give))))))
theorem t_arena_Arena_Give : Txt Try.prog 16 59 [(.tmp 4), (.tmp 5), (.tmp 6)] c_arena_Arena_Give := txt_of (code := Try.f16.body.getD .ret) mixed (by kernel_rfl) Try.func16 (by kernel_rfl) Try.ntmps16 (by kernel_rfl) (ls := [([0, 1], []), ([], []), ([0, 1, 19], []), ([], []), ([4, 5, 6], []), ([], []), ([999999, 0, 1], []), ([0, 1, 7], []), ([], []), ([0, 1, 7, 42], []), ([], []), ([0, 1, 7], [(6, [1])]), ([], []), ([0, 1, 7], []), ([999997, 0, 1, 7], []), ([4, 5, 6], []), ([], [])]) (by kernel_rfl)
/-- (*cento/arena.Arena).Put -/
def c_arena_Arena_Put : CC :=
  .seq (.reg [co (some 8) (.assign (.const (.bool false))) none] [0, 1, 2, 3])
  (.seq (.seq (.reg [co (some 9) (.move (.tmp 0)) none,
        co (some 10) (.move (.tmp 1)) none,
        co (some 11) (.move (.tmp 2)) none,
        co (some 12) (.call { callee := (.value (.func 24)), args := #[(.tmp 9), (.tmp 10), (.tmp 11), (.const (.int .i64 1))], argTypes := #[24, 3, 3, 3] }) none,
        co (some 13) (.unOp .not 4 (.tmp 12)) none] [0, 1, 2, 3, 13])
    (.cond (.tmp 13)
      (.seq (.reg [co (some 8) (.assign (.const (.bool false))) none] [8])
      (.ret))
      (.skip)))
  (.keep [0, 1, 2, 3] (.seq (.reg [co (some 14) (.move (.tmp 0)) none,
      co (some 15) (.nilCheck (.tmp 14)) none,
      co (some 16) (.fieldAddr 113 (.tmp 15) 0) none,
      co (some 17) (.load 22 (.tmp 16)) none,
      co (some 18) (.move (.tmp 1)) none,
      co (some 19) (.indexAddr 22 (.tmp 17) (.tmp 18)) none,
      co (some 20) (.load 23 (.tmp 19)) none,
      co (some 21) (.move (.tmp 2)) none,
      co (some 22) (.move (.tmp 3)) none,
      co (some 23) (.indexAddr 23 (.tmp 20) (.tmp 21)) none,
      co none (.store 26 (.tmp 23) (.tmp 22)) none] [])
  (.seq (.reg [co (some 8) (.assign (.const (.bool true))) none] [8])
  (.ret)))))
theorem t_arena_Arena_Put : Txt Try.prog 65 24 [(.tmp 8)] c_arena_Arena_Put := txt_of (code := Try.f65.body.getD .ret) mixed (by kernel_rfl) Try.func65 (by kernel_rfl) Try.ntmps65 (by kernel_rfl) (ls := [([0, 1, 2, 3], []), ([], []), ([0, 1, 2, 3, 13], []), ([], []), ([8], []), ([], []), ([999999, 0, 1, 2, 3], []), ([], []), ([], []), ([8], []), ([], [])]) (by kernel_rfl)
/-- (*cento/arena.Arena).Segments -/
def c_arena_Arena_Segments : CC :=
  .seq (.reg [co (some 2) (.assign (.const (.slice none 0 0))) none] [0])
  (.seq (.seq (.reg [co (some 3) (.move (.tmp 0)) none,
        co (some 4) (.binOp .eql 24 (.tmp 3) (.const (.pointer none)) 24) none] [0, 4])
    (.cond (.tmp 4)
      (.seq (.reg [co (some 2) (.assign (.const (.slice none 0 0))) none] [2])
      (.ret))
      (.skip)))
  (.keep [0] (.seq (.reg [co (some 5) (.move (.tmp 0)) none,
      co (some 6) (.nilCheck (.tmp 5)) none,
      co (some 7) (.fieldAddr 113 (.tmp 6) 0) none,
      co (some 8) (.load 22 (.tmp 7)) none,
      co (some 9) (.call { callee := (.value (.func 13)), args := #[(.tmp 8)], argTypes := #[22] }) none,
      co (some 10) (.nilCheck (.tmp 9)) none,
      co (some 11) (.fieldAddr 113 (.tmp 10) 0) none,
      co (some 12) (.load 22 (.tmp 11)) none,
      co (some 2) (.assign (.tmp 12)) none] [2])
  (.ret))))
theorem t_arena_Arena_Segments : Txt Try.prog 15 13 [(.tmp 2)] c_arena_Arena_Segments := txt_of (code := Try.f15.body.getD .ret) mixed (by kernel_rfl) Try.func15 (by kernel_rfl) Try.ntmps15 (by kernel_rfl) (ls := [([0], []), ([], []), ([0, 4], []), ([], []), ([2], []), ([], []), ([999999, 0], []), ([2], []), ([], [])]) (by kernel_rfl)
def k1_centoref05_New : CC :=
  .seq (.seq (.reg [co (some 9) (.move (.tmp 1)) none,
        co (some 10) (.binOp .gtr 3 (.tmp 9) (.const (.int .i64 131072)) 3) none] [0, 1, 10])
    (.cond (.tmp 10)
      (.reg [co (some 1) (.assign (.const (.int .i64 131072))) none] [0, 1])
      (.skip)))
  (.keep [0, 1] (.seq (.reg [co (some 11) (.move (.tmp 0)) none,
      co (some 12) (.move (.tmp 1)) none,
      co (some 13) (.build 44 #[(1, (.tmp 11)), (2, (.tmp 12))]) none,
      cn (some 14) (.box 44 (.tmp 13)) none [0],
      co (some 4) (.assign (.tmp 14)) none] [4])
  (.ret)))
def k2_centoref05_New : CC :=
  .seq (.seq (.reg [co (some 7) (.move (.tmp 1)) none,
        co (some 8) (.binOp .lss 3 (.tmp 7) (.const (.int .i64 0)) 3) none] [0, 1, 8])
    (.cond (.tmp 8)
      (.reg [co (some 1) (.assign (.const (.int .i64 0))) none] [0, 1])
      (.skip)))
  (.keep [0, 1] k1_centoref05_New)
/-- cento/centoref05.New -/
def c_centoref05_New : CC :=
  .seq (.reg [co (some 4) (.assign (.const (.pointer none))) none] [0, 1])
  (.seq (.seq (.reg [co (some 5) (.move (.tmp 0)) none,
        co (some 6) (.binOp .lss 3 (.tmp 5) (.const (.int .i64 1)) 3) none] [0, 1, 6])
    (.cond (.tmp 6)
      (.reg [co (some 0) (.assign (.const (.int .i64 1))) none] [0, 1])
      (.skip)))
  (.keep [0, 1] k2_centoref05_New))
theorem t_centoref05_New : Txt Try.prog 21 15 [(.tmp 4)] c_centoref05_New := txt_of (code := Try.f21.body.getD .ret) mixed (by kernel_rfl) Try.func21 (by kernel_rfl) Try.ntmps21 (by kernel_rfl) (ls := [([0, 1], []), ([], []), ([0, 1, 6], []), ([], []), ([0, 1], []), ([999999, 0, 1], []), ([0, 1, 8], []), ([], []), ([0, 1], []), ([999999, 0, 1], []), ([0, 1, 10], []), ([], []), ([0, 1], []), ([999999, 0, 1], []), ([4], [(3, [0])]), ([], [])]) (by kernel_rfl)
/-- (*cento/centoref05.Arena).Long -/
def c_centoref05_Arena_Long : CC :=
  .seq (.reg [co (some 4) (.assign (.const (.int .i64 0))) none] [0, 1])
  (.seq (.seq (.reg [co (some 5) (.move (.tmp 1)) none,
        co (some 6) (.binOp .lss 3 (.tmp 5) (.const (.int .i64 0)) 3) none,
        co (some 7) (.move (.tmp 6)) none,
        co (some 8) (.move (.tmp 1)) (some (7, false)),
        co (some 9) (.move (.tmp 0)) (some (7, false)),
        co (some 10) (.nilCheck (.tmp 9)) (some (7, false)),
        co (some 11) (.fieldAddr 44 (.tmp 10) 0) (some (7, false)),
        co (some 12) (.load 22 (.tmp 11)) (some (7, false)),
        co (some 13) (.call { callee := (.builtin .len), args := #[(.tmp 12)], argTypes := #[22] }) (some (7, false)),
        co (some 14) (.binOp .geq 3 (.tmp 8) (.tmp 13) 3) (some (7, false)),
        co (some 15) (.pick (.tmp 7) (.const (.bool true)) (.tmp 14)) none] [0, 1, 15])
    (.cond (.tmp 15)
      (.seq (.reg [co (some 4) (.assign (.const (.int .i64 (-1)))) none] [4])
      (.ret))
      (.skip)))
  (.keep [0, 1] (.seq (.reg [co (some 16) (.move (.tmp 0)) none,
      co (some 17) (.nilCheck (.tmp 16)) none,
      co (some 18) (.fieldAddr 44 (.tmp 17) 0) none,
      co (some 19) (.load 22 (.tmp 18)) none,
      co (some 20) (.move (.tmp 1)) none,
      co (some 21) (.indexAddr 22 (.tmp 19) (.tmp 20)) none,
      co (some 22) (.load 23 (.tmp 21)) none,
      co (some 23) (.call { callee := (.builtin .len), args := #[(.tmp 22)], argTypes := #[23] }) none,
      co (some 4) (.assign (.tmp 23)) none] [4])
  (.ret))))
theorem t_centoref05_Arena_Long : Txt Try.prog 67 24 [(.tmp 4)] c_centoref05_Arena_Long := txt_of (code := Try.f67.body.getD .ret) mixed (by kernel_rfl) Try.func67 (by kernel_rfl) Try.ntmps67 (by kernel_rfl) (ls := [([0, 1], []), ([], []), ([0, 1, 15], []), ([], []), ([4], []), ([], []), ([999999, 0, 1], []), ([4], []), ([], [])]) (by kernel_rfl)
/-- (*cento/centoref05.Arena).Has -/
def c_centoref05_Arena_Has : CC :=
  .seq (.reg [co (some 8) (.assign (.const (.bool false))) none] [0, 1, 2, 3])
  (.seq (.reg [co (some 10) (.move (.tmp 0)) none,
      co (some 11) (.move (.tmp 1)) none,
      co (some 12) (.call { callee := (.value (.func 67)), args := #[(.tmp 10), (.tmp 11)], argTypes := #[38, 3] }) none,
      co (some 9) (.assign (.tmp 12)) none] [2, 3, 9])
  (.seq (.reg [co (some 13) (.move (.tmp 9)) none,
      co (some 14) (.binOp .geq 3 (.tmp 13) (.const (.int .i64 0)) 3) none,
      co (some 15) (.move (.tmp 14)) none,
      co (some 16) (.move (.tmp 2)) (some (15, true)),
      co (some 17) (.binOp .geq 3 (.tmp 16) (.const (.int .i64 0)) 3) (some (15, true)),
      co (some 18) (.pick (.tmp 15) (.tmp 17) (.const (.bool false))) none,
      co (some 19) (.move (.tmp 18)) none,
      co (some 20) (.move (.tmp 3)) (some (19, true)),
      co (some 21) (.binOp .geq 3 (.tmp 20) (.const (.int .i64 0)) 3) (some (19, true)),
      co (some 22) (.pick (.tmp 19) (.tmp 21) (.const (.bool false))) none,
      co (some 23) (.move (.tmp 22)) none,
      co (some 24) (.move (.tmp 2)) (some (23, true)),
      co (some 25) (.move (.tmp 9)) (some (23, true)),
      co (some 26) (.binOp .leq 3 (.tmp 24) (.tmp 25) 3) (some (23, true)),
      co (some 27) (.pick (.tmp 23) (.tmp 26) (.const (.bool false))) none,
      co (some 28) (.move (.tmp 27)) none,
      co (some 29) (.move (.tmp 3)) (some (28, true)),
      co (some 30) (.move (.tmp 9)) (some (28, true)),
      co (some 31) (.move (.tmp 2)) (some (28, true)),
      co (some 32) (.binOp .sub 3 (.tmp 30) (.tmp 31) 3) (some (28, true)),
      co (some 33) (.binOp .leq 3 (.tmp 29) (.tmp 32) 3) (some (28, true)),
      co (some 34) (.pick (.tmp 28) (.tmp 33) (.const (.bool false))) none,
      co (some 8) (.assign (.tmp 34)) none] [8])
  (.ret)))
theorem t_centoref05_Arena_Has : Txt Try.prog 25 35 [(.tmp 8)] c_centoref05_Arena_Has := txt_of (code := Try.f25.body.getD .ret) mixed (by kernel_rfl) Try.func25 (by kernel_rfl) Try.ntmps25 (by kernel_rfl) (ls := [([0, 1, 2, 3], []), ([], []), ([2, 3, 9], []), ([], []), ([8], []), ([], [])]) (by kernel_rfl)
def l1_centoref05_Arena_add : CC :=
  .seq (.seq (.reg [co (some 17) (.move (.tmp 8)) none,
        co (some 18) (.move (.tmp 2)) none,
        co (some 19) (.binOp .lss 3 (.tmp 17) (.tmp 18) 3) none] [0, 1, 2, 7, 8, 19])
    (.cond (.tmp 19)
      (.skip)
      (.exit 0)))
  (.keep [0, 1, 2, 7, 8] (.seq (.block 1
      (.reg [co (some 22) (.move (.tmp 0)) none,
        co (some 23) (.nilCheck (.tmp 22)) none,
        co (some 24) (.fieldAddr 44 (.tmp 23) 0) none,
        ⟨some 25, (.load 22 (.tmp 24)), none, [], 3, [], true⟩,
        co (some 26) (.move (.tmp 1)) none,
        co (some 27) (.move (.tmp 0)) none,
        co (some 28) (.nilCheck (.tmp 27)) none,
        co (some 29) (.fieldAddr 44 (.tmp 28) 0) none,
        ⟨some 30, (.load 22 (.tmp 29)), none, [], 8, [], true⟩,
        co (some 31) (.move (.tmp 1)) none,
        co (some 32) (.indexAddr 22 (.tmp 30) (.tmp 31)) none,
        ⟨some 33, (.load 23 (.tmp 32)), none, [], 11, [], true⟩,
        ⟨some 34, (.buildSlice 23 1 #[(0, (.const (.int .u64 0)))]), none, [], 12, [3, 8, 11], false⟩,
        ⟨some 35, (.call { callee := (.builtin .append), args := #[(.tmp 33), (.tmp 34)], argTypes := #[23, 23] }), none, [1], 13, [3], false⟩,
        co (some 36) (.indexAddr 22 (.tmp 25) (.tmp 26)) none,
        co none (.store 23 (.tmp 36) (.tmp 35)) none] [0, 1, 2, 7, 8]))
  (.reg [co (some 20) (.move (.tmp 8)) none,
    co (some 21) (.binOp .add 3 (.tmp 20) (.const (.int .i64 1)) 3) none,
    co (some 8) (.assign (.tmp 21)) none] [0, 1, 2, 7, 8])))
/-- (*cento/centoref05.Arena).add -/
def c_centoref05_Arena_add : CC :=
  .seq (.reg [co (some 6) (.assign (.const (.int .i64 0))) none] [0, 1, 2])
  (.seq (.reg [co (some 9) (.move (.tmp 0)) none,
      co (some 10) (.nilCheck (.tmp 9)) none,
      co (some 11) (.fieldAddr 44 (.tmp 10) 0) none,
      co (some 12) (.load 22 (.tmp 11)) none,
      co (some 13) (.move (.tmp 1)) none,
      co (some 14) (.indexAddr 22 (.tmp 12) (.tmp 13)) none,
      co (some 15) (.load 23 (.tmp 14)) none,
      co (some 16) (.call { callee := (.builtin .len), args := #[(.tmp 15)], argTypes := #[23] }) none,
      co (some 7) (.assign (.tmp 16)) none] [0, 1, 2, 7])
  (.seq (.seq (.reg [co (some 8) (.assign (.const (.int .i64 0))) none] [0, 1, 2, 7, 8])
    (.block 0
      (.loop l1_centoref05_Arena_add)))
  (.keep [0, 2, 7] (.seq (.reg [co (some 37) (.move (.tmp 0)) none,
      co (some 38) (.move (.tmp 0)) none,
      co (some 39) (.nilCheck (.tmp 38)) none,
      co (some 40) (.fieldAddr 44 (.tmp 39) 3) none,
      co (some 41) (.load 3 (.tmp 40)) none,
      co (some 42) (.move (.tmp 2)) none,
      co (some 43) (.binOp .add 3 (.tmp 41) (.tmp 42) 3) none,
      co (some 44) (.nilCheck (.tmp 37)) none,
      co (some 45) (.fieldAddr 44 (.tmp 44) 3) none,
      co none (.store 3 (.tmp 45) (.tmp 43)) none] [7])
  (.seq (.reg [co (some 46) (.move (.tmp 7)) none,
      co (some 6) (.assign (.tmp 46)) none] [6])
  (.ret))))))
theorem t_centoref05_Arena_add : Txt Try.prog 106 47 [(.tmp 6)] c_centoref05_Arena_add := txt_of (code := Try.f106.body.getD .ret) mixed (by kernel_rfl) Try.func106 (by kernel_rfl) Try.ntmps106 (by kernel_rfl) (ls := [([0, 1, 2], []), ([], []), ([0, 1, 2, 7], []), ([], []), ([0, 1, 2, 7, 8], []), ([], []), ([0, 1, 2, 7, 8, 19], []), ([], []), ([999999, 0, 1, 2, 7, 8], []), ([0, 1, 2, 7, 8], [(13, [1])]), ([], []), ([0, 1, 2, 7, 8], []), ([999999, 0, 2, 7], []), ([7], []), ([], []), ([6], []), ([], [])]) (by kernel_rfl)
/-- (*cento/centoref05.Arena).In -/
def c_centoref05_Arena_In : CC :=
  .seq (.reg [co (some 6) (.assign (.const (.int .i64 0))) none] [0, 1, 2])
  (.seq (.seq (.reg [co (some 7) (.move (.tmp 0)) none,
        co (some 8) (.move (.tmp 1)) none,
        co (some 9) (.call { callee := (.value (.func 67)), args := #[(.tmp 7), (.tmp 8)], argTypes := #[38, 3] }) none,
        co (some 10) (.binOp .lss 3 (.tmp 9) (.const (.int .i64 0)) 3) none,
        co (some 11) (.move (.tmp 10)) none,
        co (some 12) (.move (.tmp 2)) (some (11, false)),
        co (some 13) (.binOp .lss 3 (.tmp 12) (.const (.int .i64 0)) 3) (some (11, false)),
        co (some 14) (.pick (.tmp 11) (.const (.bool true)) (.tmp 13)) none,
        co (some 15) (.move (.tmp 14)) none,
        co (some 16) (.move (.tmp 2)) (some (15, false)),
        co (some 17) (.move (.tmp 0)) (some (15, false)),
        co (some 18) (.nilCheck (.tmp 17)) (some (15, false)),
        co (some 19) (.fieldAddr 44 (.tmp 18) 2) (some (15, false)),
        co (some 20) (.load 3 (.tmp 19)) (some (15, false)),
        co (some 21) (.move (.tmp 0)) (some (15, false)),
        co (some 22) (.nilCheck (.tmp 21)) (some (15, false)),
        co (some 23) (.fieldAddr 44 (.tmp 22) 3) (some (15, false)),
        co (some 24) (.load 3 (.tmp 23)) (some (15, false)),
        co (some 25) (.binOp .sub 3 (.tmp 20) (.tmp 24) 3) (some (15, false)),
        co (some 26) (.binOp .gtr 3 (.tmp 16) (.tmp 25) 3) (some (15, false)),
        co (some 27) (.pick (.tmp 15) (.const (.bool true)) (.tmp 26)) none,
        co (some 28) (.move (.tmp 27)) none,
        co (some 29) (.move (.tmp 2)) (some (28, false)),
        co (some 30) (.move (.tmp 0)) (some (28, false)),
        co (some 31) (.nilCheck (.tmp 30)) (some (28, false)),
        co (some 32) (.fieldAddr 44 (.tmp 31) 1) (some (28, false)),
        ⟨some 33, (.load 3 (.tmp 32)), (some (28, false)), [], 26, [], true⟩,
        co (some 34) (.move (.tmp 0)) (some (28, false)),
        co (some 35) (.move (.tmp 1)) (some (28, false)),
        ⟨some 36, (.call { callee := (.value (.func 67)), args := #[(.tmp 34), (.tmp 35)], argTypes := #[38, 3] }), (some (28, false)), [], 29, [26], false⟩,
        co (some 37) (.binOp .sub 3 (.tmp 33) (.tmp 36) 3) (some (28, false)),
        co (some 38) (.binOp .gtr 3 (.tmp 29) (.tmp 37) 3) (some (28, false)),
        co (some 39) (.pick (.tmp 28) (.const (.bool true)) (.tmp 38)) none] [0, 1, 2, 39])
    (.cond (.tmp 39)
      (.seq (.reg [co (some 6) (.assign (.const (.int .i64 (-1)))) none] [6])
      (.ret))
      (.skip)))
  (.keep [0, 1, 2] (.seq (.reg [co (some 40) (.move (.tmp 0)) none,
      co (some 41) (.move (.tmp 1)) none,
      co (some 42) (.move (.tmp 2)) none,
      co (some 43) (.call { callee := (.value (.func 106)), args := #[(.tmp 40), (.tmp 41), (.tmp 42)], argTypes := #[38, 3, 3] }) none,
      co (some 6) (.assign (.tmp 43)) none] [6])
  (.ret))))
theorem t_centoref05_Arena_In : Txt Try.prog 64 44 [(.tmp 6)] c_centoref05_Arena_In := txt_of (code := Try.f64.body.getD .ret) mixed (by kernel_rfl) Try.func64 (by kernel_rfl) Try.ntmps64 (by kernel_rfl) (ls := [([0, 1, 2], []), ([], []), ([0, 1, 2, 39], []), ([], []), ([6], []), ([], []), ([999999, 0, 1, 2], []), ([6], []), ([], [])]) (by kernel_rfl)
def k1_centoref05_Arena_Give : CC :=
  .seq (.reg [co (some 57) (.move (.tmp 6)) none,
      co (some 58) (.binOp .sub 3 (.tmp 57) (.const (.int .i64 1)) 3) none,
      co (some 59) (.move (.tmp 0)) none,
      co (some 60) (.move (.tmp 6)) none,
      co (some 61) (.binOp .sub 3 (.tmp 60) (.const (.int .i64 1)) 3) none,
      co (some 62) (.move (.tmp 1)) none,
      co (some 63) (.call { callee := (.value (.func 106)), args := #[(.tmp 59), (.tmp 61), (.tmp 62)], argTypes := #[38, 3, 3] }) none,
      co (some 4) (.assign (.tmp 58)) none,
      co (some 5) (.assign (.tmp 63)) none] [4, 5])
  (.ret)
/-- (*cento/centoref05.Arena).Give -/
def c_centoref05_Arena_Give : CC :=
  .seq (.reg [co (some 4) (.assign (.const (.int .i64 0))) none,
      co (some 5) (.assign (.const (.int .i64 0))) none] [0, 1])
  (.seq (.seq (.reg [co (some 7) (.move (.tmp 1)) none,
        co (some 8) (.binOp .lss 3 (.tmp 7) (.const (.int .i64 0)) 3) none,
        co (some 9) (.move (.tmp 8)) none,
        co (some 10) (.move (.tmp 1)) (some (9, false)),
        co (some 11) (.move (.tmp 0)) (some (9, false)),
        co (some 12) (.nilCheck (.tmp 11)) (some (9, false)),
        co (some 13) (.fieldAddr 44 (.tmp 12) 2) (some (9, false)),
        co (some 14) (.load 3 (.tmp 13)) (some (9, false)),
        co (some 15) (.move (.tmp 0)) (some (9, false)),
        co (some 16) (.nilCheck (.tmp 15)) (some (9, false)),
        co (some 17) (.fieldAddr 44 (.tmp 16) 3) (some (9, false)),
        co (some 18) (.load 3 (.tmp 17)) (some (9, false)),
        co (some 19) (.binOp .sub 3 (.tmp 14) (.tmp 18) 3) (some (9, false)),
        co (some 20) (.binOp .gtr 3 (.tmp 10) (.tmp 19) 3) (some (9, false)),
        co (some 21) (.pick (.tmp 9) (.const (.bool true)) (.tmp 20)) none] [0, 1, 21])
    (.cond (.tmp 21)
      (.seq (.reg [co (some 4) (.assign (.const (.int .i64 (-1)))) none,
          co (some 5) (.assign (.const (.int .i64 (-1)))) none] [4, 5])
      (.ret))
      (.skip)))
  (.keep [0, 1] (.seq (.reg [co (some 22) (.move (.tmp 0)) none,
      co (some 23) (.nilCheck (.tmp 22)) none,
      co (some 24) (.fieldAddr 44 (.tmp 23) 0) none,
      co (some 25) (.load 22 (.tmp 24)) none,
      co (some 26) (.call { callee := (.builtin .len), args := #[(.tmp 25)], argTypes := #[22] }) none,
      co (some 6) (.assign (.tmp 26)) none] [0, 1, 6])
  (.seq (.seq (.reg [co (some 27) (.move (.tmp 6)) none,
        co (some 28) (.binOp .eql 3 (.tmp 27) (.const (.int .i64 0)) 3) none,
        co (some 29) (.move (.tmp 28)) none,
        co (some 30) (.move (.tmp 1)) (some (29, false)),
        co (some 31) (.move (.tmp 0)) (some (29, false)),
        co (some 32) (.nilCheck (.tmp 31)) (some (29, false)),
        co (some 33) (.fieldAddr 44 (.tmp 32) 1) (some (29, false)),
        ⟨some 34, (.load 3 (.tmp 33)), (some (29, false)), [], 7, [], true⟩,
        co (some 35) (.move (.tmp 0)) (some (29, false)),
        co (some 36) (.move (.tmp 6)) (some (29, false)),
        co (some 37) (.binOp .sub 3 (.tmp 36) (.const (.int .i64 1)) 3) (some (29, false)),
        ⟨some 38, (.call { callee := (.value (.func 67)), args := #[(.tmp 35), (.tmp 37)], argTypes := #[38, 3] }), (some (29, false)), [], 11, [7], false⟩,
        co (some 39) (.binOp .sub 3 (.tmp 34) (.tmp 38) 3) (some (29, false)),
        co (some 40) (.binOp .gtr 3 (.tmp 30) (.tmp 39) 3) (some (29, false)),
        co (some 41) (.move (.tmp 40)) (some (29, false)),
        co (some 42) (.move (.tmp 6)) (some (41, true)),
        co (some 43) (.binOp .lss 3 (.tmp 42) (.const (.int .i64 16)) 3) (some (41, true)),
        co (some 44) (.pick (.tmp 41) (.tmp 43) (.const (.bool false))) (some (29, false)),
        co (some 45) (.pick (.tmp 29) (.const (.bool true)) (.tmp 44)) none] [0, 1, 6, 45])
    (.cond (.tmp 45)
      (.seq (.reg [co (some 46) (.move (.tmp 0)) none,
          co (some 47) (.move (.tmp 0)) none,
          co (some 48) (.nilCheck (.tmp 47)) none,
          co (some 49) (.fieldAddr 44 (.tmp 48) 0) none,
          co (some 50) (.load 22 (.tmp 49)) none,
          co (some 51) (.buildSlice 22 1 #[(0, (.const (.slice none 0 0)))]) none,
          cn (some 52) (.call { callee := (.builtin .append), args := #[(.tmp 50), (.tmp 51)], argTypes := #[22, 22] }) none [1],
          co (some 53) (.nilCheck (.tmp 46)) none,
          co (some 54) (.fieldAddr 44 (.tmp 53) 0) none,
          co none (.store 22 (.tmp 54) (.tmp 52)) none] [0, 1, 6])
      (.reg [co (some 55) (.move (.tmp 6)) none,
        co (some 56) (.binOp .add 3 (.tmp 55) (.const (.int .i64 1)) 3) none,
        co (some 6) (.assign (.tmp 56)) none] [0, 1, 6]))
      (.skip)))
  (.keep [0, 1, 6] (.stop k1_centoref05_Arena_Give))))))
theorem t_centoref05_Arena_Give : Txt Try.prog 63 64 [(.tmp 4), (.tmp 5)] c_centoref05_Arena_Give := txt_of (code := Try.f63.body.getD .ret) mixed (by kernel_rfl) Try.func63 (by kernel_rfl) Try.ntmps63 (by kernel_rfl) (ls := [([0, 1], []), ([], []), ([0, 1, 21], []), ([], []), ([4, 5], []), ([], []), ([999999, 0, 1], []), ([0, 1, 6], []), ([], []), ([0, 1, 6, 45], []), ([], []), ([0, 1, 6], [(6, [1])]), ([], []), ([0, 1, 6], []), ([999997, 0, 1, 6], []), ([4, 5], []), ([], [])]) (by kernel_rfl)
def l1_centoref03_Same : CC :=
  .seq (.seq (.reg [co (some 11) (.move (.tmp 5)) none,
        co (some 12) (.move (.tmp 0)) none,
        co (some 13) (.call { callee := (.builtin .len), args := #[(.tmp 12)], argTypes := #[22] }) none,
        co (some 14) (.binOp .lss 3 (.tmp 11) (.tmp 13) 3) none] [0, 1, 5, 14])
    (.cond (.tmp 14)
      (.skip)
      (.exit 0)))
  (.keep [0, 1, 5] (.seq (.block 1
      (.seq (.reg [co (some 17) (.move (.tmp 0)) none,
          co (some 18) (.move (.tmp 5)) none,
          co (some 19) (.indexAddr 22 (.tmp 17) (.tmp 18)) none,
          co (some 20) (.load 23 (.tmp 19)) none,
          co (some 21) (.move (.tmp 1)) none,
          co (some 22) (.move (.tmp 5)) none,
          co (some 23) (.indexAddr 22 (.tmp 21) (.tmp 22)) none,
          co (some 24) (.load 23 (.tmp 23)) none,
          co (some 25) (.call { callee := (.value (.func 43)), args := #[(.tmp 20), (.tmp 24)], argTypes := #[23, 23] }) none,
          co (some 26) (.unOp .not 4 (.tmp 25)) none] [0, 1, 5, 26])
      (.cond (.tmp 26)
        (.seq (.reg [co (some 4) (.assign (.const (.bool false))) none] [4])
        (.ret))
        (.skip))))
  (.keep [0, 1, 5] (.reg [co (some 15) (.move (.tmp 5)) none,
    co (some 16) (.binOp .add 3 (.tmp 15) (.const (.int .i64 1)) 3) none,
    co (some 5) (.assign (.tmp 16)) none] [0, 1, 5]))))
/-- cento/centoref03.Same -/
def c_centoref03_Same : CC :=
  .seq (.reg [co (some 4) (.assign (.const (.bool false))) none] [0, 1])
  (.seq (.seq (.reg [co (some 6) (.move (.tmp 0)) none,
        co (some 7) (.call { callee := (.builtin .len), args := #[(.tmp 6)], argTypes := #[22] }) none,
        co (some 8) (.move (.tmp 1)) none,
        co (some 9) (.call { callee := (.builtin .len), args := #[(.tmp 8)], argTypes := #[22] }) none,
        co (some 10) (.binOp .neq 3 (.tmp 7) (.tmp 9) 3) none] [0, 1, 10])
    (.cond (.tmp 10)
      (.seq (.reg [co (some 4) (.assign (.const (.bool false))) none] [4])
      (.ret))
      (.skip)))
  (.keep [0, 1] (.seq (.seq (.reg [co (some 5) (.assign (.const (.int .i64 0))) none] [0, 1, 5])
    (.block 0
      (.loop l1_centoref03_Same)))
  (.keep [] (.seq (.reg [co (some 4) (.assign (.const (.bool true))) none] [4])
  (.ret))))))
theorem t_centoref03_Same : Txt Try.prog 14 27 [(.tmp 4)] c_centoref03_Same := txt_of (code := Try.f14.body.getD .ret) mixed (by kernel_rfl) Try.func14 (by kernel_rfl) Try.ntmps14 (by kernel_rfl) (ls := [([0, 1], []), ([], []), ([0, 1, 10], []), ([], []), ([4], []), ([], []), ([999999, 0, 1], []), ([0, 1, 5], []), ([], []), ([0, 1, 5, 14], []), ([], []), ([999999, 0, 1, 5], []), ([0, 1, 5, 26], []), ([], []), ([4], []), ([], []), ([999999, 0, 1, 5], []), ([0, 1, 5], []), ([999999], []), ([4], []), ([], [])]) (by kernel_rfl)
/-- cento/centolaw05.awake -/
def c_centolaw05_awake : CC :=
  .seq (.reg [co (some 0) (.assign (.const (.bool false))) none] [])
  (.seq (.reg [co (some 11) (.call { callee := (.value (.func 20)), args := #[(.const (.int .i64 4)), (.const (.int .i64 9))], argTypes := #[3, 3] }) none,
      co (some 1) (.assign (.tmp 11)) none] [1])
  (.seq (.reg [co (some 13) (.move (.tmp 1)) none,
      co (some 14) (.call { callee := (.value (.func 16)), args := #[(.tmp 13), (.const (.int .i64 3))], argTypes := #[24, 3] }) none,
      co (some 12) (.move (.tmp 14)) none,
      co (some 15) (.extract (.tmp 12) 0) none,
      co (some 16) (.extract (.tmp 12) 1) none,
      co (some 17) (.extract (.tmp 12) 2) none,
      co (some 2) (.assign (.tmp 15)) none,
      co (some 3) (.assign (.tmp 16)) none,
      co (some 4) (.assign (.tmp 17)) none] [1, 2, 3, 4])
  (.seq (.reg [co (some 19) (.move (.tmp 1)) none,
      co (some 20) (.call { callee := (.value (.func 16)), args := #[(.tmp 19), (.const (.int .i64 2))], argTypes := #[24, 3] }) none,
      co (some 18) (.move (.tmp 20)) none,
      co (some 21) (.extract (.tmp 18) 0) none,
      co (some 22) (.extract (.tmp 18) 1) none,
      co (some 23) (.extract (.tmp 18) 2) none,
      co (some 5) (.assign (.tmp 21)) none,
      co (some 6) (.assign (.tmp 22)) none,
      co (some 7) (.assign (.tmp 23)) none] [1, 2, 3, 4, 5, 6, 7])
  (.seq (.reg [co (some 25) (.move (.tmp 1)) none,
      co (some 26) (.call { callee := (.value (.func 16)), args := #[(.tmp 25), (.const (.int .i64 5))], argTypes := #[24, 3] }) none,
      co (some 24) (.move (.tmp 26)) none,
      co (some 27) (.extract (.tmp 24) 0) none,
      co (some 28) (.extract (.tmp 24) 1) none,
      co (some 29) (.extract (.tmp 24) 2) none,
      co (some 8) (.assign (.tmp 27)) none,
      co (some 9) (.assign (.tmp 28)) none,
      co (some 10) (.assign (.tmp 29)) none] [2, 3, 4, 5, 6, 7, 10])
  (.seq (.reg [co (some 30) (.move (.tmp 2)) none,
      co (some 31) (.binOp .eql 3 (.tmp 30) (.const (.int .i64 0)) 3) none,
      co (some 32) (.move (.tmp 31)) none,
      co (some 33) (.move (.tmp 3)) (some (32, true)),
      co (some 34) (.binOp .eql 3 (.tmp 33) (.const (.int .i64 0)) 3) (some (32, true)),
      co (some 35) (.pick (.tmp 32) (.tmp 34) (.const (.bool false))) none,
      co (some 36) (.move (.tmp 35)) none,
      co (some 37) (.move (.tmp 4)) (some (36, true)),
      co (some 38) (.pick (.tmp 36) (.tmp 37) (.const (.bool false))) none,
      co (some 39) (.move (.tmp 38)) none,
      co (some 40) (.move (.tmp 5)) (some (39, true)),
      co (some 41) (.binOp .eql 3 (.tmp 40) (.const (.int .i64 1)) 3) (some (39, true)),
      co (some 42) (.pick (.tmp 39) (.tmp 41) (.const (.bool false))) none,
      co (some 43) (.move (.tmp 42)) none,
      co (some 44) (.move (.tmp 6)) (some (43, true)),
      co (some 45) (.binOp .eql 3 (.tmp 44) (.const (.int .i64 0)) 3) (some (43, true)),
      co (some 46) (.pick (.tmp 43) (.tmp 45) (.const (.bool false))) none,
      co (some 47) (.move (.tmp 46)) none,
      co (some 48) (.move (.tmp 7)) (some (47, true)),
      co (some 49) (.pick (.tmp 47) (.tmp 48) (.const (.bool false))) none,
      co (some 50) (.move (.tmp 49)) none,
      co (some 51) (.move (.tmp 10)) (some (50, true)),
      co (some 52) (.unOp .not 4 (.tmp 51)) (some (50, true)),
      co (some 53) (.pick (.tmp 50) (.tmp 52) (.const (.bool false))) none,
      co (some 0) (.assign (.tmp 53)) none] [0])
  (.ret))))))
theorem t_centolaw05_awake : Txt Try.prog 19 54 [(.tmp 0)] c_centolaw05_awake := txt_of (code := Try.f19.body.getD .ret) mixed (by kernel_rfl) Try.func19 (by kernel_rfl) Try.ntmps19 (by kernel_rfl) (ls := [([], []), ([], []), ([1], []), ([], []), ([1, 2, 3, 4], []), ([], []), ([1, 2, 3, 4, 5, 6, 7], []), ([], []), ([2, 3, 4, 5, 6, 7, 10], []), ([], []), ([0], []), ([], [])]) (by kernel_rfl)
def k1_centolaw05_does : CC :=
  .seq (.reg [co (some 132) (.move (.tmp 0)) none,
      co (some 133) (.fieldAddr 41 (.tmp 5) 1) none,
      co (some 134) (.load 3 (.tmp 133)) none,
      co (some 135) (.fieldAddr 41 (.tmp 5) 2) none,
      co (some 136) (.load 3 (.tmp 135)) none,
      co (some 137) (.fieldAddr 41 (.tmp 5) 4) none,
      co (some 138) (.load 26 (.tmp 137)) none,
      co (some 139) (.call { callee := (.value (.func 65)), args := #[(.tmp 132), (.tmp 134), (.tmp 136), (.tmp 138)], argTypes := #[24, 3, 3, 26] }) none,
      co (some 140) (.move (.tmp 16)) none,
      co (some 141) (.binOp .eql 4 (.tmp 139) (.tmp 140) 4) none,
      co (some 6) (.assign (.tmp 141)) none] [6])
  (.ret)
def k2_centolaw05_does : CC :=
  .cond (.tmp 108)
    (.seq (.reg [co (some 112) (.move (.tmp 1)) none,
        co (some 113) (.fieldAddr 41 (.tmp 5) 1) none,
        co (some 114) (.load 3 (.tmp 113)) none,
        co (some 115) (.fieldAddr 41 (.tmp 5) 2) none,
        co (some 116) (.load 3 (.tmp 115)) none,
        co (some 117) (.call { callee := (.value (.func 25)), args := #[(.tmp 112), (.tmp 114), (.tmp 116), (.const (.int .i64 1))], argTypes := #[38, 3, 3, 3] }) none,
        co (some 16) (.assign (.tmp 117)) none] [0, 1, 5, 16])
    (.seq (.seq (.reg [co (some 118) (.move (.tmp 16)) none] [0, 1, 5, 16, 118])
      (.cond (.tmp 118)
        (.reg [co (some 119) (.move (.tmp 1)) none,
          co (some 120) (.nilCheck (.tmp 119)) none,
          co (some 121) (.fieldAddr 44 (.tmp 120) 0) none,
          co (some 122) (.load 22 (.tmp 121)) none,
          co (some 123) (.fieldAddr 41 (.tmp 5) 1) none,
          co (some 124) (.load 3 (.tmp 123)) none,
          co (some 125) (.indexAddr 22 (.tmp 122) (.tmp 124)) none,
          co (some 126) (.load 23 (.tmp 125)) none,
          co (some 127) (.fieldAddr 41 (.tmp 5) 2) none,
          co (some 128) (.load 3 (.tmp 127)) none,
          co (some 129) (.fieldAddr 41 (.tmp 5) 4) none,
          co (some 130) (.load 26 (.tmp 129)) none,
          co (some 131) (.indexAddr 23 (.tmp 126) (.tmp 128)) none,
          co none (.store 26 (.tmp 131) (.tmp 130)) none] [0, 5, 16])
        (.skip)))
    (.keep [0, 5, 16] k1_centolaw05_does)))
    (.seq (.reg [co (some 6) (.assign (.const (.bool true))) none] [6])
    (.ret))
def k3_centolaw05_does : CC :=
  .cond (.tmp 72)
    (.seq (.reg [co (some 76) (.move (.tmp 0)) none,
        co (some 77) (.fieldAddr 41 (.tmp 5) 1) none,
        co (some 78) (.load 3 (.tmp 77)) none,
        co (some 79) (.move (.tmp 7)) none,
        co (some 80) (.call { callee := (.value (.func 17)), args := #[(.tmp 76), (.tmp 78), (.tmp 79)], argTypes := #[24, 3, 3] }) none,
        co (some 75) (.move (.tmp 80)) none,
        co (some 81) (.extract (.tmp 75) 0) none,
        co (some 82) (.extract (.tmp 75) 1) none,
        co (some 13) (.assign (.tmp 81)) none,
        co (some 14) (.assign (.tmp 82)) none] [1, 5, 7, 13, 14])
    (.seq (.reg [co (some 83) (.move (.tmp 1)) none,
        co (some 84) (.fieldAddr 41 (.tmp 5) 1) none,
        co (some 85) (.load 3 (.tmp 84)) none,
        co (some 86) (.move (.tmp 7)) none,
        co (some 87) (.call { callee := (.value (.func 64)), args := #[(.tmp 83), (.tmp 85), (.tmp 86)], argTypes := #[38, 3, 3] }) none,
        co (some 15) (.assign (.tmp 87)) none] [13, 14, 15])
    (.seq (.reg [co (some 88) (.move (.tmp 14)) none,
        co (some 89) (.move (.tmp 15)) none,
        co (some 90) (.binOp .geq 3 (.tmp 89) (.const (.int .i64 0)) 3) none,
        co (some 91) (.binOp .eql 4 (.tmp 88) (.tmp 90) 4) none,
        co (some 92) (.move (.tmp 91)) none,
        co (some 93) (.move (.tmp 14)) (some (92, true)),
        co (some 94) (.move (.tmp 93)) (some (92, true)),
        co (some 95) (.move (.tmp 13)) (some (94, true)),
        co (some 96) (.move (.tmp 15)) (some (94, true)),
        co (some 97) (.binOp .eql 3 (.tmp 95) (.tmp 96) 3) (some (94, true)),
        co (some 98) (.pick (.tmp 94) (.tmp 97) (.const (.bool false))) (some (92, true)),
        co (some 99) (.move (.tmp 98)) (some (92, true)),
        co (some 100) (.move (.tmp 14)) (some (99, false)),
        co (some 101) (.unOp .not 4 (.tmp 100)) (some (99, false)),
        co (some 102) (.move (.tmp 101)) (some (99, false)),
        co (some 103) (.move (.tmp 13)) (some (102, true)),
        co (some 104) (.binOp .eql 3 (.tmp 103) (.const (.int .i64 0)) 3) (some (102, true)),
        co (some 105) (.pick (.tmp 102) (.tmp 104) (.const (.bool false))) (some (99, false)),
        co (some 106) (.pick (.tmp 99) (.const (.bool true)) (.tmp 105)) (some (92, true)),
        co (some 107) (.pick (.tmp 92) (.tmp 106) (.const (.bool false))) none,
        co (some 6) (.assign (.tmp 107)) none] [6])
    (.ret))))
    (.seq (.seq (.reg [co (some 109) (.binOp .eql 3 (.tmp 26) (.const (.int .i64 6)) 3) none,
          co (some 108) (.assign (.tmp 109)) none] [0, 1, 5, 26, 108])
      (.cond (.tmp 108)
        (.skip)
        (.seq (.reg [co (some 110) (.binOp .eql 3 (.tmp 26) (.const (.int .i64 7)) 3) none,
            co (some 108) (.assign (.tmp 110)) none] [0, 1, 5, 26, 108])
        (.cond (.tmp 108)
          (.skip)
          (.reg [co (some 111) (.binOp .eql 3 (.tmp 26) (.const (.int .i64 8)) 3) none,
            co (some 108) (.assign (.tmp 111)) none] [0, 1, 5, 108])))))
    (.keep [0, 1, 5, 108] k2_centolaw05_does))
def k4_centolaw05_does : CC :=
  .cond (.tmp 27)
    (.seq (.reg [co (some 33) (.move (.tmp 0)) none,
        co (some 34) (.move (.tmp 7)) none,
        co (some 35) (.call { callee := (.value (.func 16)), args := #[(.tmp 33), (.tmp 34)], argTypes := #[24, 3] }) none,
        co (some 32) (.move (.tmp 35)) none,
        co (some 36) (.extract (.tmp 32) 0) none,
        co (some 37) (.extract (.tmp 32) 1) none,
        co (some 38) (.extract (.tmp 32) 2) none,
        co (some 8) (.assign (.tmp 36)) none,
        co (some 9) (.assign (.tmp 37)) none,
        co (some 10) (.assign (.tmp 38)) none] [1, 7, 8, 9, 10])
    (.seq (.reg [co (some 40) (.move (.tmp 1)) none,
        co (some 41) (.move (.tmp 7)) none,
        co (some 42) (.call { callee := (.value (.func 63)), args := #[(.tmp 40), (.tmp 41)], argTypes := #[38, 3] }) none,
        co (some 39) (.move (.tmp 42)) none,
        co (some 43) (.extract (.tmp 39) 0) none,
        co (some 44) (.extract (.tmp 39) 1) none,
        co (some 11) (.assign (.tmp 43)) none,
        co (some 12) (.assign (.tmp 44)) none] [8, 9, 10, 11, 12])
    (.seq (.reg [co (some 45) (.move (.tmp 10)) none,
        co (some 46) (.move (.tmp 11)) none,
        co (some 47) (.binOp .geq 3 (.tmp 46) (.const (.int .i64 0)) 3) none,
        co (some 48) (.binOp .eql 4 (.tmp 45) (.tmp 47) 4) none,
        co (some 49) (.move (.tmp 48)) none,
        co (some 50) (.move (.tmp 10)) (some (49, true)),
        co (some 51) (.move (.tmp 50)) (some (49, true)),
        co (some 52) (.move (.tmp 8)) (some (51, true)),
        co (some 53) (.move (.tmp 11)) (some (51, true)),
        co (some 54) (.binOp .eql 3 (.tmp 52) (.tmp 53) 3) (some (51, true)),
        co (some 55) (.pick (.tmp 51) (.tmp 54) (.const (.bool false))) (some (49, true)),
        co (some 56) (.move (.tmp 55)) (some (49, true)),
        co (some 57) (.move (.tmp 9)) (some (56, true)),
        co (some 58) (.move (.tmp 12)) (some (56, true)),
        co (some 59) (.binOp .eql 3 (.tmp 57) (.tmp 58) 3) (some (56, true)),
        co (some 60) (.pick (.tmp 56) (.tmp 59) (.const (.bool false))) (some (49, true)),
        co (some 61) (.move (.tmp 60)) (some (49, true)),
        co (some 62) (.move (.tmp 10)) (some (61, false)),
        co (some 63) (.unOp .not 4 (.tmp 62)) (some (61, false)),
        co (some 64) (.move (.tmp 63)) (some (61, false)),
        co (some 65) (.move (.tmp 8)) (some (64, true)),
        co (some 66) (.move (.tmp 9)) (some (64, true)),
        co (some 67) (.binOp .add 3 (.tmp 65) (.tmp 66) 3) (some (64, true)),
        co (some 68) (.binOp .eql 3 (.tmp 67) (.const (.int .i64 0)) 3) (some (64, true)),
        co (some 69) (.pick (.tmp 64) (.tmp 68) (.const (.bool false))) (some (61, false)),
        co (some 70) (.pick (.tmp 61) (.const (.bool true)) (.tmp 69)) (some (49, true)),
        co (some 71) (.pick (.tmp 49) (.tmp 70) (.const (.bool false))) none,
        co (some 6) (.assign (.tmp 71)) none] [6])
    (.ret))))
    (.seq (.seq (.reg [co (some 73) (.binOp .eql 3 (.tmp 26) (.const (.int .i64 4)) 3) none,
          co (some 72) (.assign (.tmp 73)) none] [0, 1, 5, 7, 26, 72])
      (.cond (.tmp 72)
        (.skip)
        (.reg [co (some 74) (.binOp .eql 3 (.tmp 26) (.const (.int .i64 5)) 3) none,
          co (some 72) (.assign (.tmp 74)) none] [0, 1, 5, 7, 26, 72])))
    (.keep [0, 1, 5, 7, 26, 72] k3_centolaw05_does))
def k5_centolaw05_does : CC :=
  .seq (.reg [co (some 25) (.fieldAddr 41 (.tmp 5) 0) none,
      co (some 26) (.load 3 (.tmp 25)) none] [0, 1, 5, 7, 26])
  (.block 0
    (.seq (.seq (.reg [co (some 28) (.binOp .eql 3 (.tmp 26) (.const (.int .i64 0)) 3) none,
          co (some 27) (.assign (.tmp 28)) none] [0, 1, 5, 7, 26, 27])
      (.cond (.tmp 27)
        (.skip)
        (.seq (.reg [co (some 29) (.binOp .eql 3 (.tmp 26) (.const (.int .i64 1)) 3) none,
            co (some 27) (.assign (.tmp 29)) none] [0, 1, 5, 7, 26, 27])
        (.cond (.tmp 27)
          (.skip)
          (.seq (.reg [co (some 30) (.binOp .eql 3 (.tmp 26) (.const (.int .i64 2)) 3) none,
              co (some 27) (.assign (.tmp 30)) none] [0, 1, 5, 7, 26, 27])
          (.cond (.tmp 27)
            (.skip)
            (.reg [co (some 31) (.binOp .eql 3 (.tmp 26) (.const (.int .i64 3)) 3) none,
              co (some 27) (.assign (.tmp 31)) none] [0, 1, 5, 7, 26, 27])))))))
    (.keep [0, 1, 5, 7, 26, 27] k4_centolaw05_does)))
/-- cento/centolaw05.does -/
def c_centolaw05_does : CC :=
  .seq (.reg [cn (some 5) (.box 41 (.tmp 2)) none [2],
      co (some 6) (.assign (.const (.bool false))) none] [0, 1, 5])
  (.seq (.reg [co (some 17) (.fieldAddr 41 (.tmp 5) 3) none,
      co (some 18) (.load 3 (.tmp 17)) none,
      co (some 7) (.assign (.tmp 18)) none] [0, 1, 5, 7])
  (.seq (.seq (.reg [co (some 19) (.move (.tmp 7)) none,
        co (some 20) (.binOp .gtr 3 (.tmp 19) (.const (.int .i64 300)) 3) none,
        co (some 21) (.move (.tmp 20)) none,
        co (some 22) (.move (.tmp 7)) (some (21, true)),
        co (some 23) (.binOp .lss 3 (.tmp 22) (.const (.int .i64 200000)) 3) (some (21, true)),
        co (some 24) (.pick (.tmp 21) (.tmp 23) (.const (.bool false))) none] [0, 1, 5, 7, 24])
    (.cond (.tmp 24)
      (.reg [co (some 7) (.assign (.const (.int .i64 300))) none] [0, 1, 5, 7])
      (.skip)))
  (.keep [0, 1, 5, 7] k5_centolaw05_does)))
theorem t_centolaw05_does : Txt Try.prog 22 142 [(.tmp 6)] c_centolaw05_does := txt_of (code := Try.f22.body.getD .ret) mixed (by kernel_rfl) Try.func22 (by kernel_rfl) Try.ntmps22 (by kernel_rfl) (ls := [([0, 1, 5], [(0, [2])]), ([], []), ([0, 1, 5, 7], []), ([], []), ([0, 1, 5, 7, 24], []), ([], []), ([0, 1, 5, 7], []), ([999999, 0, 1, 5, 7], []), ([0, 1, 5, 7, 26], []), ([], []), ([0, 1, 5, 7, 26, 27], []), ([], []), ([0, 1, 5, 7, 26, 27], []), ([], []), ([0, 1, 5, 7, 26, 27], []), ([], []), ([0, 1, 5, 7, 26, 27], []), ([999999, 0, 1, 5, 7, 26, 27], []), ([1, 7, 8, 9, 10], []), ([], []), ([8, 9, 10, 11, 12], []), ([], []), ([6], []), ([], []), ([0, 1, 5, 7, 26, 72], []), ([], []), ([0, 1, 5, 7, 26, 72], []), ([999999, 0, 1, 5, 7, 26, 72], []), ([1, 5, 7, 13, 14], []), ([], []), ([13, 14, 15], []), ([], []), ([6], []), ([], []), ([0, 1, 5, 26, 108], []), ([], []), ([0, 1, 5, 26, 108], []), ([], []), ([0, 1, 5, 108], []), ([999999, 0, 1, 5, 108], []), ([0, 1, 5, 16], []), ([], []), ([0, 1, 5, 16, 118], []), ([], []), ([0, 5, 16], []), ([999999, 0, 5, 16], []), ([6], []), ([], []), ([6], []), ([], [])]) (by kernel_rfl)
def l1_centolaw05_ArenaPlays : CC :=
  .seq (.seq (.reg [co (some 21) (.move (.tmp 9)) none,
        co (some 22) (.move (.tmp 2)) none,
        co (some 23) (.call { callee := (.builtin .len), args := #[(.tmp 22)], argTypes := #[36] }) none,
        co (some 24) (.binOp .lss 3 (.tmp 21) (.tmp 23) 3) none,
        co (some 25) (.move (.tmp 24)) none,
        co (some 26) (.move (.tmp 9)) (some (25, true)),
        co (some 27) (.binOp .lss 3 (.tmp 26) (.const (.int .i64 40)) 3) (some (25, true)),
        co (some 28) (.pick (.tmp 25) (.tmp 27) (.const (.bool false))) none] [2, 7, 8, 9, 28])
    (.cond (.tmp 28)
      (.skip)
      (.exit 0)))
  (.keep [2, 7, 8, 9] (.seq (.block 1
      (.seq (.reg [co (some 31) (.move (.tmp 2)) none,
          co (some 32) (.move (.tmp 9)) none,
          co (some 33) (.indexAddr 36 (.tmp 31) (.tmp 32)) none,
          co (some 34) (.load 41 (.tmp 33)) none,
          cn (some 10) (.alloc 41) none [0],
          co none (.store 41 (.tmp 10) (.tmp 34)) none] [2, 7, 8, 9, 10])
      (.seq (.seq (.reg [co (some 35) (.move (.tmp 7)) none,
            co (some 36) (.move (.tmp 8)) none,
            co (some 37) (.load 41 (.tmp 10)) none,
            co (some 38) (.call { callee := (.value (.func 22)), args := #[(.tmp 35), (.tmp 36), (.tmp 37)], argTypes := #[24, 38, 41] }) none,
            co (some 39) (.unOp .not 4 (.tmp 38)) none,
            co (some 40) (.move (.tmp 39)) none,
            co (some 41) (.move (.tmp 7)) (some (40, false)),
            ⟨some 42, (.call { callee := (.value (.func 18)), args := #[(.tmp 41)], argTypes := #[24] }), (some (40, false)), [], 7, [], true⟩,
            co (some 43) (.move (.tmp 8)) (some (40, false)),
            co (some 44) (.nilCheck (.tmp 43)) (some (40, false)),
            co (some 45) (.fieldAddr 44 (.tmp 44) 2) (some (40, false)),
            ⟨some 46, (.load 3 (.tmp 45)), (some (40, false)), [], 11, [7], false⟩,
            co (some 47) (.move (.tmp 8)) (some (40, false)),
            co (some 48) (.nilCheck (.tmp 47)) (some (40, false)),
            co (some 49) (.fieldAddr 44 (.tmp 48) 3) (some (40, false)),
            ⟨some 50, (.load 3 (.tmp 49)), (some (40, false)), [], 15, [7], false⟩,
            co (some 51) (.binOp .sub 3 (.tmp 46) (.tmp 50) 3) (some (40, false)),
            co (some 52) (.binOp .neq 3 (.tmp 42) (.tmp 51) 3) (some (40, false)),
            co (some 53) (.pick (.tmp 40) (.const (.bool true)) (.tmp 52)) none,
            co (some 54) (.move (.tmp 53)) none,
            co (some 55) (.move (.tmp 7)) (some (54, false)),
            ⟨some 56, (.call { callee := (.value (.func 23)), args := #[(.tmp 55)], argTypes := #[24] }), (some (54, false)), [], 21, [], true⟩,
            co (some 57) (.move (.tmp 8)) (some (54, false)),
            co (some 58) (.nilCheck (.tmp 57)) (some (54, false)),
            co (some 59) (.fieldAddr 44 (.tmp 58) 0) (some (54, false)),
            ⟨some 60, (.load 22 (.tmp 59)), (some (54, false)), [], 25, [21], false⟩,
            co (some 61) (.call { callee := (.builtin .len), args := #[(.tmp 60)], argTypes := #[22] }) (some (54, false)),
            co (some 62) (.binOp .neq 3 (.tmp 56) (.tmp 61) 3) (some (54, false)),
            co (some 63) (.pick (.tmp 54) (.const (.bool true)) (.tmp 62)) none,
            co (some 64) (.move (.tmp 63)) none,
            co (some 65) (.move (.tmp 7)) (some (64, false)),
            ⟨some 66, (.call { callee := (.value (.func 15)), args := #[(.tmp 65)], argTypes := #[24] }), (some (64, false)), [], 31, [], true⟩,
            co (some 67) (.move (.tmp 8)) (some (64, false)),
            co (some 68) (.nilCheck (.tmp 67)) (some (64, false)),
            co (some 69) (.fieldAddr 44 (.tmp 68) 0) (some (64, false)),
            ⟨some 70, (.load 22 (.tmp 69)), (some (64, false)), [], 35, [31], false⟩,
            co (some 71) (.call { callee := (.value (.func 14)), args := #[(.tmp 66), (.tmp 70)], argTypes := #[22, 22] }) (some (64, false)),
            co (some 72) (.unOp .not 4 (.tmp 71)) (some (64, false)),
            co (some 73) (.pick (.tmp 64) (.const (.bool true)) (.tmp 72)) none] [2, 7, 8, 9, 10, 73])
        (.cond (.tmp 73)
          (.seq (.reg [co (some 6) (.assign (.const (.bool false))) none] [6])
          (.ret))
          (.skip)))
      (.keep [2, 7, 8, 9, 10] (.seq (.seq (.reg [co (some 74) (.move (.tmp 7)) none,
            co (some 75) (.fieldAddr 41 (.tmp 10) 1) none,
            co (some 76) (.load 3 (.tmp 75)) none,
            co (some 77) (.fieldAddr 41 (.tmp 10) 2) none,
            co (some 78) (.load 3 (.tmp 77)) none,
            co (some 79) (.fieldAddr 41 (.tmp 10) 3) none,
            co (some 80) (.load 3 (.tmp 79)) none,
            ⟨some 81, (.call { callee := (.value (.func 24)), args := #[(.tmp 74), (.tmp 76), (.tmp 78), (.tmp 80)], argTypes := #[24, 3, 3, 3] }), none, [], 7, [], true⟩,
            co (some 82) (.move (.tmp 8)) none,
            co (some 83) (.fieldAddr 41 (.tmp 10) 1) none,
            ⟨some 84, (.load 3 (.tmp 83)), none, [], 10, [7], false⟩,
            co (some 85) (.fieldAddr 41 (.tmp 10) 2) none,
            ⟨some 86, (.load 3 (.tmp 85)), none, [], 12, [7], false⟩,
            co (some 87) (.fieldAddr 41 (.tmp 10) 3) none,
            ⟨some 88, (.load 3 (.tmp 87)), none, [], 14, [7], false⟩,
            co (some 89) (.call { callee := (.value (.func 25)), args := #[(.tmp 82), (.tmp 84), (.tmp 86), (.tmp 88)], argTypes := #[38, 3, 3, 3] }) none,
            co (some 90) (.binOp .neq 4 (.tmp 81) (.tmp 89) 4) none] [2, 7, 8, 9, 10, 90])
        (.cond (.tmp 90)
          (.seq (.reg [co (some 6) (.assign (.const (.bool false))) none] [6])
          (.ret))
          (.skip)))
      (.keep [2, 7, 8, 9, 10] (.seq (.reg [co (some 92) (.move (.tmp 7)) none,
          co (some 93) (.fieldAddr 41 (.tmp 10) 1) none,
          co (some 94) (.load 3 (.tmp 93)) none,
          co (some 95) (.fieldAddr 41 (.tmp 10) 2) none,
          co (some 96) (.load 3 (.tmp 95)) none,
          co (some 97) (.call { callee := (.value (.func 26)), args := #[(.tmp 92), (.tmp 94), (.tmp 96)], argTypes := #[24, 3, 3] }) none,
          co (some 91) (.move (.tmp 97)) none,
          co (some 98) (.extract (.tmp 91) 0) none,
          co (some 99) (.extract (.tmp 91) 1) none,
          co (some 11) (.assign (.tmp 98)) none,
          co (some 12) (.assign (.tmp 99)) none] [2, 7, 8, 9, 10, 11, 12])
      (.seq (.reg [co (some 101) (.move (.tmp 7)) none,
          co (some 102) (.fieldAddr 41 (.tmp 10) 1) none,
          co (some 103) (.load 3 (.tmp 102)) none,
          co (some 104) (.fieldAddr 41 (.tmp 10) 2) none,
          co (some 105) (.load 3 (.tmp 104)) none,
          co (some 106) (.fieldAddr 41 (.tmp 10) 3) none,
          co (some 107) (.load 3 (.tmp 106)) none,
          co (some 108) (.call { callee := (.value (.func 27)), args := #[(.tmp 101), (.tmp 103), (.tmp 105), (.tmp 107)], argTypes := #[24, 3, 3, 3] }) none,
          co (some 100) (.move (.tmp 108)) none,
          co (some 109) (.extract (.tmp 100) 0) none,
          co (some 110) (.extract (.tmp 100) 1) none,
          co (some 13) (.assign (.tmp 109)) none,
          co (some 14) (.assign (.tmp 110)) none] [2, 7, 8, 9, 10, 11, 12, 13, 14])
      (.seq (.seq (.reg [co (some 111) (.move (.tmp 12)) none,
            co (some 112) (.move (.tmp 8)) none,
            co (some 113) (.fieldAddr 41 (.tmp 10) 1) none,
            co (some 114) (.load 3 (.tmp 113)) none,
            co (some 115) (.fieldAddr 41 (.tmp 10) 2) none,
            co (some 116) (.load 3 (.tmp 115)) none,
            co (some 117) (.call { callee := (.value (.func 25)), args := #[(.tmp 112), (.tmp 114), (.tmp 116), (.const (.int .i64 1))], argTypes := #[38, 3, 3, 3] }) none,
            co (some 118) (.binOp .neq 4 (.tmp 111) (.tmp 117) 4) none,
            co (some 119) (.move (.tmp 118)) none,
            co (some 120) (.move (.tmp 12)) (some (119, false)),
            co (some 121) (.move (.tmp 120)) (some (119, false)),
            co (some 122) (.move (.tmp 11)) (some (121, true)),
            co (some 123) (.move (.tmp 8)) (some (121, true)),
            co (some 124) (.nilCheck (.tmp 123)) (some (121, true)),
            co (some 125) (.fieldAddr 44 (.tmp 124) 0) (some (121, true)),
            co (some 126) (.load 22 (.tmp 125)) (some (121, true)),
            co (some 127) (.fieldAddr 41 (.tmp 10) 1) (some (121, true)),
            co (some 128) (.load 3 (.tmp 127)) (some (121, true)),
            co (some 129) (.indexAddr 22 (.tmp 126) (.tmp 128)) (some (121, true)),
            co (some 130) (.load 23 (.tmp 129)) (some (121, true)),
            co (some 131) (.fieldAddr 41 (.tmp 10) 2) (some (121, true)),
            co (some 132) (.load 3 (.tmp 131)) (some (121, true)),
            co (some 133) (.indexAddr 23 (.tmp 130) (.tmp 132)) (some (121, true)),
            co (some 134) (.load 26 (.tmp 133)) (some (121, true)),
            co (some 135) (.binOp .neq 26 (.tmp 122) (.tmp 134) 26) (some (121, true)),
            co (some 136) (.pick (.tmp 121) (.tmp 135) (.const (.bool false))) (some (119, false)),
            co (some 137) (.pick (.tmp 119) (.const (.bool true)) (.tmp 136)) none,
            co (some 138) (.move (.tmp 137)) none,
            co (some 139) (.move (.tmp 12)) (some (138, false)),
            co (some 140) (.unOp .not 4 (.tmp 139)) (some (138, false)),
            co (some 141) (.move (.tmp 140)) (some (138, false)),
            co (some 142) (.move (.tmp 11)) (some (141, true)),
            co (some 143) (.binOp .neq 26 (.tmp 142) (.const (.int .u64 0)) 26) (some (141, true)),
            co (some 144) (.pick (.tmp 141) (.tmp 143) (.const (.bool false))) (some (138, false)),
            co (some 145) (.pick (.tmp 138) (.const (.bool true)) (.tmp 144)) none,
            co (some 146) (.move (.tmp 145)) none,
            co (some 147) (.move (.tmp 14)) (some (146, false)),
            co (some 148) (.move (.tmp 8)) (some (146, false)),
            co (some 149) (.fieldAddr 41 (.tmp 10) 1) (some (146, false)),
            co (some 150) (.load 3 (.tmp 149)) (some (146, false)),
            co (some 151) (.fieldAddr 41 (.tmp 10) 2) (some (146, false)),
            co (some 152) (.load 3 (.tmp 151)) (some (146, false)),
            co (some 153) (.fieldAddr 41 (.tmp 10) 3) (some (146, false)),
            co (some 154) (.load 3 (.tmp 153)) (some (146, false)),
            co (some 155) (.call { callee := (.value (.func 25)), args := #[(.tmp 148), (.tmp 150), (.tmp 152), (.tmp 154)], argTypes := #[38, 3, 3, 3] }) (some (146, false)),
            co (some 156) (.binOp .neq 4 (.tmp 147) (.tmp 155) 4) (some (146, false)),
            co (some 157) (.pick (.tmp 146) (.const (.bool true)) (.tmp 156)) none] [2, 7, 8, 9, 10, 13, 14, 157])
        (.cond (.tmp 157)
          (.seq (.reg [co (some 6) (.assign (.const (.bool false))) none] [6])
          (.ret))
          (.skip)))
      (.keep [2, 7, 8, 9, 10, 13, 14] (.seq (.reg [co (some 158) (.move (.tmp 14)) none,
          co (some 159) (.move (.tmp 158)) none,
          co (some 160) (.move (.tmp 13)) (some (159, true)),
          ⟨some 161, (.buildSlice 22 1 #[(0, (.tmp 160))]), (some (159, true)), [], 3, [], true⟩,
          co (some 162) (.move (.tmp 8)) (some (159, true)),
          co (some 163) (.nilCheck (.tmp 162)) (some (159, true)),
          co (some 164) (.fieldAddr 44 (.tmp 163) 0) (some (159, true)),
          ⟨some 165, (.load 22 (.tmp 164)), (some (159, true)), [], 7, [3], false⟩,
          co (some 166) (.fieldAddr 41 (.tmp 10) 1) (some (159, true)),
          ⟨some 167, (.load 3 (.tmp 166)), (some (159, true)), [], 9, [3], false⟩,
          co (some 168) (.indexAddr 22 (.tmp 165) (.tmp 167)) (some (159, true)),
          ⟨some 169, (.load 23 (.tmp 168)), (some (159, true)), [], 11, [3], false⟩,
          co (some 170) (.fieldAddr 41 (.tmp 10) 2) (some (159, true)),
          ⟨some 171, (.load 3 (.tmp 170)), (some (159, true)), [], 13, [3], false⟩,
          co (some 172) (.fieldAddr 41 (.tmp 10) 2) (some (159, true)),
          ⟨some 173, (.load 3 (.tmp 172)), (some (159, true)), [], 15, [3], false⟩,
          co (some 174) (.fieldAddr 41 (.tmp 10) 3) (some (159, true)),
          ⟨some 175, (.load 3 (.tmp 174)), (some (159, true)), [], 17, [3], false⟩,
          co (some 176) (.binOp .add 3 (.tmp 173) (.tmp 175) 3) (some (159, true)),
          co (some 177) (.slice 23 (.tmp 169) (some (.tmp 171)) (some (.tmp 176)) none) (some (159, true)),
          ⟨some 178, (.buildSlice 22 1 #[(0, (.tmp 177))]), (some (159, true)), [4], 20, [3], false⟩,
          co (some 179) (.call { callee := (.value (.func 14)), args := #[(.tmp 161), (.tmp 178)], argTypes := #[22, 22] }) (some (159, true)),
          co (some 180) (.unOp .not 4 (.tmp 179)) (some (159, true)),
          co (some 181) (.pick (.tmp 159) (.tmp 180) (.const (.bool false))) none] [2, 7, 8, 9, 181])
      (.cond (.tmp 181)
        (.seq (.reg [co (some 6) (.assign (.const (.bool false))) none] [6])
        (.ret))
        (.skip)))))))))))))
  (.keep [2, 7, 8, 9] (.reg [co (some 29) (.move (.tmp 9)) none,
    co (some 30) (.binOp .add 3 (.tmp 29) (.const (.int .i64 1)) 3) none,
    co (some 9) (.assign (.tmp 30)) none] [2, 7, 8, 9]))))
/-- cento/centolaw05.ArenaPlays -/
def c_centolaw05_ArenaPlays : CC :=
  .seq (.reg [co (some 6) (.assign (.const (.bool false))) none] [0, 1, 2])
  (.seq (.reg [co (some 15) (.move (.tmp 0)) none,
      co (some 16) (.move (.tmp 1)) none,
      co (some 17) (.call { callee := (.value (.func 20)), args := #[(.tmp 15), (.tmp 16)], argTypes := #[3, 3] }) none,
      co (some 7) (.assign (.tmp 17)) none] [0, 1, 2, 7])
  (.seq (.reg [co (some 18) (.move (.tmp 0)) none,
      co (some 19) (.move (.tmp 1)) none,
      co (some 20) (.call { callee := (.value (.func 21)), args := #[(.tmp 18), (.tmp 19)], argTypes := #[3, 3] }) none,
      co (some 8) (.assign (.tmp 20)) none] [2, 7, 8])
  (.seq (.seq (.reg [co (some 9) (.assign (.const (.int .i64 0))) none] [2, 7, 8, 9])
    (.block 0
      (.loop l1_centolaw05_ArenaPlays)))
  (.keep [] (.seq (.reg [co (some 182) (.call { callee := (.value (.func 19)), args := #[], argTypes := #[] }) none,
      co (some 6) (.assign (.tmp 182)) none] [6])
  (.ret))))))
theorem t_centolaw05_ArenaPlays : Txt Try.prog 4 183 [(.tmp 6)] c_centolaw05_ArenaPlays := txt_of (code := Try.f4.body.getD .ret) mixed (by kernel_rfl) Try.func4 (by kernel_rfl) Try.ntmps4 (by kernel_rfl) (ls := [([0, 1, 2], []), ([], []), ([0, 1, 2, 7], []), ([], []), ([2, 7, 8], []), ([], []), ([2, 7, 8, 9], []), ([], []), ([2, 7, 8, 9, 28], []), ([], []), ([999999, 2, 7, 8, 9], []), ([2, 7, 8, 9, 10], [(4, [0])]), ([], []), ([2, 7, 8, 9, 10, 73], []), ([], []), ([6], []), ([], []), ([999999, 2, 7, 8, 9, 10], []), ([2, 7, 8, 9, 10, 90], []), ([], []), ([6], []), ([], []), ([999999, 2, 7, 8, 9, 10], []), ([2, 7, 8, 9, 10, 11, 12], []), ([], []), ([2, 7, 8, 9, 10, 11, 12, 13, 14], []), ([], []), ([2, 7, 8, 9, 10, 13, 14, 157], []), ([], []), ([6], []), ([], []), ([999999, 2, 7, 8, 9, 10, 13, 14], []), ([2, 7, 8, 9, 181], [(20, [4])]), ([], []), ([6], []), ([], []), ([999999, 2, 7, 8, 9], []), ([2, 7, 8, 9], []), ([999999], []), ([6], []), ([], [])]) (by kernel_rfl)
end Go.Proofs.Ytehcobkphobjiaa

/-
  Chapter 5's functions: arenas out of which words are given.
-/
namespace Go.Proofs.Ytehcobkphobjiaa
set_option linter.unusedVariables false
set_option linter.unusedSimpArgs false
open Go Go.G Go.Proofs
/-- An arena: its segments, each with its row's version; the versions of its cells and of the row of segments; its numbers. -/
structure Ar where
  l : List (Nat × List Int)
  u : Nat
  ur : Nat
  size : Int
  most : Int
  used : Int
def rowS (r : Nat) (l : List (Nat × List Int)) : List A := l.mapIdx fun i e => .osl [r, 0, i] e.1 1 0 e.2.length
/-- Its objects. -/
def arF (r : Nat) (S : Ar) : Nm → VOb
  | [] => ⟨S.u, .cells [.osl [r, 0] S.ur 1 0 S.l.length, iv S.size, iv S.most, iv S.used]⟩
  | [0] => ⟨S.ur, .arr 1 (rowS r S.l)⟩
  | [0, i] => match S.l[i]? with
    | some e => ⟨e.1, .arr 1 (e.2.map uv)⟩
    | none => ⟨0, .none⟩
  | _ => ⟨0, .none⟩
@[simp] theorem arF_nil {r : Nat} {S : Ar} : arF r S [] = ⟨S.u, .cells [.osl [r, 0] S.ur 1 0 S.l.length, iv S.size, iv S.most, iv S.used]⟩ := rfl
@[simp] theorem arF_row {r : Nat} {S : Ar} : arF r S [0] = ⟨S.ur, .arr 1 (rowS r S.l)⟩ := rfl
@[simp] theorem arF_seg {r i : Nat} {S : Ar} : arF r S [0, i] = match S.l[i]? with
    | some e => ⟨e.1, .arr 1 (e.2.map uv)⟩
    | none => ⟨0, .none⟩ := rfl
@[simp] theorem rowS_length {r : Nat} {l : List (Nat × List Int)} : (rowS r l).length = l.length := by simp [rowS]
@[simp] theorem rowS_get? {r i : Nat} {l : List (Nat × List Int)} : (rowS r l)[i]? = (l[i]?).map fun e => .osl [r, 0, i] e.1 1 0 e.2.length := by simp [rowS]
@[simp] theorem rowS_get {r i : Nat} {l : List (Nat × List Int)} (h : i < (rowS r l).length) : (rowS r l)[i] = .osl [r, 0, i] (l[i]'(by simpa using h)).1 1 0 (l[i]'(by simpa using h)).2.length := by simp [rowS]
theorem rowS_modify {r k : Nat} {l : List (Nat × List Int)} {f : Nat × List Int → Nat × List Int} (h : k < l.length) : rowS r (l.modify k f) = (rowS r l).set k (.osl [r, 0, k] (f l[k]).1 1 0 (f l[k]).2.length) := by
  apply List.ext_getElem
  · simp
  · intro i h1 h2
    simp only [rowS_get, List.getElem_set, List.getElem_modify]
    by_cases e : k = i
    · subst e; simp
    · simp [e]
/-- But for cells and row, segment by segment. -/
theorem arF_but {r : Nat} {S S' : Ar} {p : Nm} (h1 : p ≠ []) (h2 : p ≠ [0]) (h : ∀ j, p = [0, j] → S.l[j]? = S'.l[j]?) : arF r S p = arF r S' p := by
  match p, h1, h2, h with
  | [], h1, _, _ => exact absurd rfl h1
  | [0], _, h2, _ => exact absurd rfl h2
  | [0, j], _, _, h => simp [h j rfl]
  | (a + 1) :: q, _, _, _ => rfl
  | 0 :: a :: b :: q, _, _, _ => rfl
def growS (S : Ar) (k n : Nat) : Ar := { S with l := S.l.modify k fun e => (e.1 + 1, e.2 ++ List.replicate n 0), used := S.used + n }
theorem grow_spec (S : Ar) (k n : Nat) (e : Nat × List Int) (hk : S.l[k]? = some e) (hn : (e.2.length + n) * 8 ≤ 140737488355328) (h0 : 0 ≤ S.used) (h1 : S.used + n < 9223372036854775808) :
    SpecH Try.prog 62 1 [.pob [0] S.u 0, iv k, iv n] (ov 0 (arF 0 S) (lkH [])) (iv e.2.length) (ov 0 (arF 0 (growS S k n)) (lkH [])) := by
  refine specH_of t_arena_Arena_grow (by simp) fun w0 I0 M0 m0 => ?_
  unfold c_arena_Arena_grow
  have hlt : k < S.l.length := (List.getElem?_eq_some_iff.1 hk).1
  have he : S.l[k] = e := (List.getElem?_eq_some_iff.1 hk).2
  have hn1 : (n : Int) * 8 ≤ 140737488355328 := by omega
  simp [hk, hlt, he, hn1, hn, updF_app]
  refine reth_ret rfl rfl (fun i p hi => ?_)
  have hi0 : i = 0 := by omega
  subst hi0
  simp only [ov_cons, if_true]
  refine updF_is ?_ (fun h1 => updF_is ?_ (fun h2 => updF_is ?_ (fun h3 => ?_)))
  · simp [growS, i64_same (n := S.used + n) (by omega) h1]
  · simp [growS, rowS_modify hlt, he]
  · simp [growS, List.getElem?_modify, hk, List.take_of_length_le]
  · refine arF_but h1 h2 fun j hj => ?_
    have : j ≠ k := fun e => h3 (by rw [hj, e])
    simp [growS, List.getElem?_modify, Ne.symm this]
theorem flat_ones : ∀ {l : List A}, (∀ x, x ∈ l → x.cells = [x]) → l.flatMap A.cells = l
  | [], _ => rfl
  | x :: l, h => by rw [List.flatMap_cons, h x (by simp), flat_ones fun y hy => h y (by simp [hy])]; rfl
theorem frzL_intro {H : Hp} : ∀ {l l' : List A}, l.length = l'.length → (∀ (k : Nat) (a a' : A), l[k]? = some a → l'[k]? = some a' → Frz H a a') → FrzL H l l'
  | [], [], _, _ => trivial
  | a :: l, a' :: l', h, k => ⟨k 0 a a' rfl rfl, frzL_intro (by simpa using h) fun i x x' hx hx' => k (i + 1) x x' (by simpa using hx) (by simpa using hx')⟩
/-- As it is read. -/
def Ar.w (S : Ar) : List (List Int) := S.l.map Prod.snd
abbrev Ar.a (S : Ar) : A := arX S.w S.size S.most S.used
theorem frz_ar {r : Nat} {S : Ar} {H : Hp} : Frz (ov r (arF r S) H) (.pob [r] S.u 0) S.a := by
  refine frz_pob (cs := [.osl [r, 0] S.ur 1 0 S.l.length, iv S.size, iv S.most, iv S.used]) (by simp) ?_ (by simp)
  simp
  refine ⟨?_, frz_bare rfl, frz_bare rfl, frz_bare rfl⟩
  have := frz_osl' (H := ov r (arF r S) H) (o := [r, 0]) (u := S.ur) (off := 0) (len := S.l.length) (sz := 1) (xs := rowS r S.l) (ys := S.w.map ws) (by simp) (by simp) (by simp [Ar.w]) (by simp) (by simp [A.ones]) ?_
  · exact this
  · have e1 : List.flatMap A.cells (List.take S.l.length (List.drop 0 (rowS r S.l))) = rowS r S.l := by
      rw [List.drop_zero, List.take_of_length_le (by simp)]
      exact flat_ones fun x hx => by
        obtain ⟨i, hi, rfl⟩ := List.mem_mapIdx.1 hx
        rfl
    have e2 : List.flatMap A.cells (List.map ws S.w) = List.map ws S.w := flat_ones fun x hx => by
      obtain ⟨i, hi, rfl⟩ := List.mem_map.1 hx
      rfl
    rw [e1, e2]
    refine frzL_intro (by simp [Ar.w]) fun k a a' ha ha' => ?_
    simp at ha ha'
    obtain ⟨p, q, hk, rfl⟩ := ha
    obtain ⟨g, hg, rfl⟩ := ha'
    simp [Ar.w, hk] at hg
    subst hg
    have := frz_osl (H := ov r (arF r S) H) (o := [r, 0, k]) (u := p) (off := 0) (len := q.length) (sz := 1) (xs := q.map uv) (by simp [hk]) (by simp) (by simp [List.take_of_length_le])
    simpa [List.take_of_length_le] using this
theorem left_spec (l : List (List Int)) (z m u : Int) (h0 : -9223372036854775808 ≤ m - u) (h1 : m - u < 9223372036854775808) : G.Spec Try.prog 18 [arX l z m u] (iv (m - u)) := by
  refine spec_of t_arena_Arena_Left (by simp) fun w0 I0 => ?_
  unfold c_arena_Arena_Left
  simp
  rw [i64_same h0 h1]
  exact frz_bare rfl
theorem room_spec (l : List (List Int)) (z m u s n : Int) (h0 : -9223372036854775808 ≤ z - szAt l s) (h1 : z - szAt l s < 9223372036854775808) : G.Spec Try.prog 61 [arX l z m u, iv s, iv n] (bv (decide (n ≤ z - szAt l s))) := by
  refine spec_of t_arena_Arena_room (by simp) fun w0 I0 => ?_
  unfold c_arena_Arena_room
  simp
  refine sc_call (size_spec l s) rfl ?_
  simp
  rw [i64_same h0 h1]
  exact frz_bare rfl
end Go.Proofs.Ytehcobkphobjiaa

/-
  Chapter 5: calls that turn an arena.
-/
namespace Go.Proofs.Ytehcobkphobjiaa
set_option linter.unusedVariables false
set_option linter.unusedSimpArgs false
open Go Go.G Go.Proofs
theorem rowS_ren {g : Nm → Nm} {δ : Nm → Nat} {r r' : Nat} (hg : ∀ p, g (r :: p) = r' :: p) (hd : ∀ p, δ (r :: p) = 0) (l : List (Nat × List Int)) : A.renL g δ (rowS r l) = rowS r' l := by
  rw [renL_map]
  apply List.ext_getElem
  · simp
  · intro i h1 h2
    simp [A.ren, hg, hd]
theorem arF_ren {g : Nm → Nm} {δ : Nm → Nat} {r r' : Nat} (hg : ∀ p, g (r :: p) = r' :: p) (hd : ∀ p, δ (r :: p) = 0) (S : Ar) (p : Nm) : (arF r S p).ren g δ 0 = arF r' S p := by
  match p with
  | [] => simp [VOb.ren, Ob.ren, A.renL, A.ren, hg, hd]
  | [0] => simp [VOb.ren, Ob.ren, rowS_ren hg hd]
  | [0, i] =>
    simp only [arF_seg]
    cases S.l[i]? with
    | none => rfl
    | some e =>
      simp only [VOb.ren, Ob.ren, renL_map, List.map_map, Nat.add_zero]
      rfl
  | (a + 1) :: q => rfl
  | 0 :: a :: b :: q => rfl
theorem arF_refs {D : Nm → Prop} {r : Nat} (hD : ∀ p, D (r :: p)) (S : Ar) (p : Nm) : (arF r S p).ob.refs D := by
  match p with
  | [] => simp [Ob.refs, A.refsL, A.refs, hD]
  | [0] =>
    refine refsL_iff.2 fun x hx => ?_
    obtain ⟨i, hi, rfl⟩ := List.mem_mapIdx.1 hx
    simp [A.refs, hD]
  | [0, i] =>
    simp only [arF_seg]
    cases S.l[i]? with
    | none => trivial
    | some e =>
      refine refsL_iff.2 fun x hx => ?_
      obtain ⟨y, _, rfl⟩ := List.mem_map.1 hx
      trivial
  | (a + 1) :: q => trivial
  | 0 :: a :: b :: q => trivial
/-- A root's family is another one. -/
def stR (r : Nat) (F : Nm → VOb) (H : Hp) : Hp := ov r F H
@[simp] theorem stR_ov {r r' : Nat} {F F' : Nm → VOb} {H : Hp} : stR r F (ov r' F' H) = if r' = r then ov r F H else ov r' F' (stR r F H) := by
  unfold stR
  funext o
  cases o with
  | nil => split <;> rfl
  | cons j p =>
    by_cases h : r' = r
    · subst h
      rw [if_pos rfl]
      by_cases hj : j = r' <;> simp [hj]
    · rw [if_neg h]
      by_cases hj : j = r
      · subst hj; simp [Ne.symm h]
      · simp [hj]
@[simp] theorem stR_lkH {r : Nat} {F : Nm → VOb} {l : List (Nm × VOb)} : stR r F (lkH l) = ov r F (lkH l) := rfl
theorem sc_ar {P : Program} {K : Sta → Prop} {rest : List CO} {s : Nat → A} {H : Hp} {dd : Option Nat} {nm : Nm} {ix : Nat} {un : List Nat} {l : Bool} {lg : Lg} {g : FuncId} {aa : Array Operand} {ts : Array TypeId}
    {r : Nat} {S S' : Ar} {as0 : List A} {x : A} (hS : SpecH P g 1 (.pob [0] S.u 0 :: as0) (ov 0 (arF 0 S) (lkH [])) x (ov 0 (arF 0 S') (lkH []))) (hF : ∀ p, H (r :: p) = arF r S p)
    (ha : aa.toList.map (evs s) = .pob [r] S.u 0 :: as0) (h0 : ∀ g δ, A.renL g δ as0 = as0) (h1 : ∀ D, A.refsL D as0) (hx : ∀ g δ, x.ren g δ = x) (hx1 : ∀ D, x.refs D) (hck : Ck un lg ⟨[], [([r], true)]⟩)
    (h : SeqC P K rest (addL l ix ⟨[], [([r], true)]⟩ lg) (Sta.put ⟨s, H⟩ dd x (stR r (arF r S') H))) :
    SeqC P K (⟨dd, .call { callee := .value (.func g), args := aa, argTypes := ts }, none, nm, ix, un, l⟩ :: rest) lg ⟨s, H⟩ := by
  have hd : ∀ p, dlt [r] 1 H (0 :: p) = 0 := fun p => rfl
  refine sc_callH [r] 1 hS (by simp) (by simp) ?_ ?_ ?_ ?_ (hx1 _) ?_ (fun i p h1 h2 => by simp at h2; omega) (hx _ _) ?_ hck h
  · rw [ha]
    simp [A.renL, A.ren, dnN, h0]
  · rw [ha]
    exact ⟨by simp [A.refs, inS], h1 _⟩
  · funext o
    cases o with
    | nil => rfl
    | cons i p =>
      by_cases hi : i < 1
      · have : i = 0 := by omega
        subst this
        simp only [inHp, if_pos hi, ov_cons, if_true]
        show (H (r :: p)).ren _ _ 0 = _
        rw [hF]
        exact arF_ren (fun q => by simp [dnN]) (fun _ => rfl) S p
      · simp only [inHp, if_neg hi, ov_cons]
        rw [if_neg (by omega)]
        rfl
  · intro j p hj
    have hjr : j = r := by
      have := (idx_mem (rs := [r])).1 (by simpa using hj)
      simpa using this
    rw [hjr, hF]
    exact arF_refs (fun q => by simp [inS]) S p
  · intro i p hi
    have : i = 0 := by simp at hi; omega
    subst this
    simp only [ov_cons, if_true]
    exact arF_refs (fun q => by simp [outS]) S' p
  · funext o
    cases o with
    | nil => rfl
    | cons j p =>
      by_cases hj : j = r
      · subst hj
        simp only [outG, stR, ov_cons, if_true]
        rw [if_pos (by simp)]
        have : [j].idxOf j = 0 := by simp
        rw [this, if_pos rfl, hd]
        exact arF_ren (fun q => by simp [upN]) hd S' p
      · have : ¬ [r].contains j = true := by simpa using hj
        simp only [outG, if_neg this, stR, ov_cons, if_neg hj]
/-- It is as arenas are. -/
structure Ar.Ok (S : Ar) : Prop where
  used0 : 0 ≤ S.used
  used1 : S.used ≤ S.most
  most1 : S.most ≤ 131072
  size0 : 1 ≤ S.size
  size1 : S.size < 9223372036854775808
  len : S.l.length ≤ 16
  seg : ∀ e, e ∈ S.l → (e.2.length : Int) ≤ S.used
theorem Ar.Ok.szAt {S : Ar} (h : S.Ok) (s : Int) : 0 ≤ (Go.Proofs.Ytehcobkphobjiaa.szAt S.w s : Int) ∧ (Go.Proofs.Ytehcobkphobjiaa.szAt S.w s : Int) ≤ S.used := by
  refine ⟨by omega, ?_⟩
  unfold Go.Proofs.Ytehcobkphobjiaa.szAt
  cases e : Go.Proofs.Ytehcobkphobjiaa.seg S.w s with
  | none => exact h.used0
  | some g =>
    obtain ⟨_, _, h2, rfl⟩ := seg_some e
    simp only [Option.map_some, Option.getD_some]
    simp only [Ar.w, List.getElem_map]
    exact h.seg _ (List.getElem_mem _)
theorem szAt_get {S : Ar} {k : Nat} (h : k < S.l.length) : (Go.Proofs.Ytehcobkphobjiaa.szAt S.w k : Int) = S.l[k].2.length := by
  simp [Go.Proofs.Ytehcobkphobjiaa.szAt, Go.Proofs.Ytehcobkphobjiaa.seg, Ar.w, h]
/-- Is so much given out of a segment? -/
def okIn (S : Ar) (s n : Int) : Bool := decide (0 ≤ s ∧ s < S.l.length ∧ 0 ≤ n ∧ n ≤ S.most - S.used ∧ n ≤ S.size - szAt S.w s)
def inS' (S : Ar) (s n : Int) : Ar := if okIn S s n = true then growS S s.toNat n.toNat else S
theorem In_spec (S : Ar) (h : S.Ok) (s n : Int) : SpecH Try.prog 17 1 [.pob [0] S.u 0, iv s, iv n] (ov 0 (arF 0 S) (lkH [])) (.tup [iv (if okIn S s n = true then szAt S.w s else 0), bv (okIn S s n)]) (ov 0 (arF 0 (inS' S s n)) (lkH [])) := by
  refine specH_of t_arena_Arena_In (by simp) fun w0 I0 M0 m0 => ?_
  unfold c_arena_Arena_In
  simp
  refine sc_callb_gf [S.a] rfl (fun _ => (len_spec S.w).toB rfl) (fun e => by simp [e]; exact frz_ar) (by simp) ?_
  simp
  have o1 := h.used0
  have o2 := h.used1
  have o3 := h.most1
  refine sc_callb_gf [S.a] rfl (fun _ => (left_spec S.w S.size S.most S.used (by omega) (by omega)).toB rfl) (fun e => by simp [e]; exact frz_ar) (by simp) ?_
  simp
  have oz := h.szAt s
  have oz0 := h.size0
  have oz1 := h.size1
  refine sc_callb_gf [S.a, iv s, iv n] rfl (fun _ => (room_spec S.w S.size S.most S.used s n (by omega) (by omega)).toB rfl) (fun e => by simp only [Bool.or_eq_false_iff] at e; simp [e]; exact ⟨frz_ar, frz_bare rfl, frz_bare rfl⟩) (by simp) ?_
  simp
  refine ⟨fun hc => ?_, fun a1 a2 a3 a4 a5 => ?_⟩
  · have hk : okIn S s n = false := by
      simp only [okIn, decide_eq_false_iff_not]
      simp [Ar.w] at hc ⊢
      omega
    refine reth_ret rfl ?_ (fun i p hi => ?_)
    · simp [hk]
    · simp [inS', hk]
  · have hk : okIn S s n = true := by
      simp only [okIn, decide_eq_true_eq]
      simp [Ar.w] at a2
      exact ⟨a1, a2, a3, a4, a5⟩
    obtain ⟨k, rfl⟩ := Int.eq_ofNat_of_zero_le a1
    obtain ⟨m, rfl⟩ := Int.eq_ofNat_of_zero_le a3
    have hlt : k < S.l.length := by simp [Ar.w] at a2; exact a2
    have hz : (Go.Proofs.Ytehcobkphobjiaa.szAt S.w k : Int) = S.l[k].2.length := szAt_get hlt
    refine sc_ar (r := 0) (grow_spec S k m S.l[k] (List.getElem?_eq_getElem hlt) (by omega) o1 (by omega)) (fun p => rfl) rfl (fun _ _ => rfl) (fun _ => ⟨trivial, trivial, trivial⟩) (fun _ _ => rfl) (fun _ => trivial) (by simp) ?_
    simp
    refine reth_ret rfl ?_ (fun i p hi => ?_)
    · simp [hk, hz]
    · simp [inS', hk]
end Go.Proofs.Ytehcobkphobjiaa

/-
  Chapter 5: words are given.
-/
namespace Go.Proofs.Ytehcobkphobjiaa
set_option linter.unusedVariables false
set_option linter.unusedSimpArgs false
open Go Go.G Go.Proofs
/-- A new segment is wanted; it is there; so much is given. -/
def newSeg (S : Ar) (n : Int) : Bool := decide (S.l.length = 0) || (!decide (n ≤ S.size - szAt S.w ((S.l.length : Int) - 1)) && decide (S.l.length < 16))
def moreS (S : Ar) : Ar := { S with l := S.l ++ [(1, [])], ur := S.ur + 1 }
def okGive (S : Ar) (n : Int) : Bool := decide (0 ≤ n ∧ n ≤ S.most - S.used)
def atS (S : Ar) (n : Int) : Ar := if newSeg S n = true then moreS S else S
def giveS (S : Ar) (n : Int) : Ar := if okGive S n = true then growS (atS S n) ((atS S n).l.length - 1) n.toNat else S
theorem rowS_append {r : Nat} {l : List (Nat × List Int)} {e : Nat × List Int} : rowS r (l ++ [e]) = rowS r l ++ [.osl [r, 0, l.length] e.1 1 0 e.2.length] := by simp [rowS, List.mapIdx_append]
theorem le_more {c : Cx} {s : Nat → A} {S : Ar} : ∃ G : Hp, Le c ⟨s, ov 0 (updF (updF (arF 0 S) [0] ⟨S.ur + 1, .arr 1 (List.take S.l.length (rowS 0 S.l) ++ [A.sl true []])⟩) [] ⟨S.u, .cells [A.osl [0, 0] (S.ur + 1) 1 0 (S.l.length + 1), iv S.size, iv S.most, iv S.used]⟩) (lkH [])⟩ ⟨s, G⟩ ∧
    ∀ o, G o = ov 0 (arF 0 (moreS S)) (lkH []) o := by
  refine ⟨_, le_blankR (d := [0, 0]) (u := S.ur + 1) (xs := List.take S.l.length (rowS 0 S.l) ++ [A.sl true []]) S.l.length [0, 0, S.l.length] 1 (by simp [updF_app]) (by simp) (by simp), fun o => ?_⟩
  rw [updF_ov, if_pos rfl, updF_ov, if_pos rfl]
  cases o with
  | nil => rfl
  | cons j p =>
    by_cases hj : j = 0
    · subst hj
      simp only [ov_cons, if_true]
      refine updF_is ?_ (fun h1 => updF_is ?_ (fun h2 => updF_is ?_ (fun h3 => ?_)))
      · simp [moreS, rowS_append, List.take_of_length_le, updF_app]
      · simp [moreS, updF_app]
      · simp [moreS]
      · rw [updF_ne h1]
        refine arF_but h3 h1 fun i hi => ?_
        have : i ≠ S.l.length := fun e => h2 (by rw [hi, e])
        simp only [moreS, List.getElem?_append]
        split
        · rfl
        · rw [List.getElem?_eq_none (by omega), List.getElem?_eq_none (by simp; omega)]
    · simp [hj]
theorem Give_k1 {n : Nat} {w0 : World} {I0 M0 : Nat → Prop} {m0 : Mu} {S : Ar} {k m : Nat} (hk : k < S.l.length) (h0 : 0 ≤ S.used) (h1 : S.used + m ≤ 131072) (h2 : (S.l[k].2.length : Int) ≤ S.used) {r : A} {Hr : Hp}
    {G : Hp} (hG : ∀ o, G o = ov 0 (arF 0 S) (lkH []) o) (hr : r = .tup [iv k, iv S.l[k].2.length, bv true]) (hH : Hr = ov 0 (arF 0 (growS S k m)) (lkH [])) :
    WPC (cxh Try.prog w0 I0 M0 n m0) k1_arena_Arena_Give (RetH (cxh Try.prog w0 I0 M0 n m0) [.tmp 4, .tmp 5, .tmp 6] 1 r Hr) ⟨lk [(0, .pob [0] S.u 0), (1, iv m), (7, iv k)], G⟩ := by
  have hG := funext hG
  subst hr hH hG
  unfold k1_arena_Arena_Give
  simp
  refine sc_ar (r := 0) (grow_spec S k m S.l[k] (List.getElem?_eq_getElem hk) (by omega) h0 (by omega)) (fun p => rfl) rfl (fun _ _ => rfl) (fun _ => ⟨trivial, trivial, trivial⟩) (fun _ _ => rfl) (fun _ => trivial) (by simp) ?_
  simp
  exact reth_ret rfl rfl (fun i p hi => rfl)
set_option pp.deepTerms true in
set_option pp.maxSteps 1000000 in
theorem Give_spec (S : Ar) (h : S.Ok) (n : Int) : SpecH Try.prog 16 1 [.pob [0] S.u 0, iv n] (ov 0 (arF 0 S) (lkH []))
    (.tup [iv (if okGive S n = true then ((atS S n).l.length : Int) - 1 else 0), iv (if okGive S n = true then (szAt (atS S n).w (((atS S n).l.length : Int) - 1) : Int) else 0), bv (okGive S n)]) (ov 0 (arF 0 (giveS S n)) (lkH [])) := by
  refine specH_of t_arena_Arena_Give (by simp) fun w0 I0 M0 m0 => ?_
  unfold c_arena_Arena_Give
  simp
  have o1 := h.used0
  have o2 := h.used1
  have o3 := h.most1
  refine sc_callb_gf [S.a] rfl (fun _ => (left_spec S.w S.size S.most S.used (by omega) (by omega)).toB rfl) (fun e => by simp [e]; exact frz_ar) (by simp) ?_
  simp
  have o4 := h.len
  have oz0 := h.size0
  have oz1 := h.size1
  have oz := h.szAt ((S.l.length : Int) - 1)
  refine ⟨fun hc => ?_, fun a1 a2 => ?_⟩
  · have hk : okGive S n = false := by simp only [okGive, decide_eq_false_iff_not]; omega
    refine reth_ret rfl ?_ (fun i p hi => ?_)
    · simp [hk]
    · simp [giveS, hk]
  have hk : okGive S n = true := by simp only [okGive, decide_eq_true_eq]; omega
  rw [i64_same (n := (S.l.length : Int) - 1) (by omega) (by omega)]
  refine sc_callb_gf [S.a, iv ((S.l.length : Int) - 1), iv n] rfl (fun _ => (room_spec S.w S.size S.most S.used ((S.l.length : Int) - 1) n (by omega) (by omega)).toB rfl) (fun e => by simp only [decide_eq_false_iff_not] at e; simp [e]; exact ⟨frz_ar, frz_bare rfl, frz_bare rfl⟩) (by simp) ?_
  obtain ⟨m, rfl⟩ := Int.eq_ofNat_of_zero_le a1
  have e7 : IntKind.i64.wrap S.l.length = S.l.length := i64_same (by omega) (by omega)
  have e8 : IntKind.i64.wrap ((S.l.length : Int) - 1 + 1) = S.l.length := i64_same (n := (S.l.length : Int) - 1 + 1) (by omega) (by omega) |>.trans (by omega)
  have hmm : ((m : Int)).toNat = m := by omega
  have new : newSeg S m = true → ∀ G : Hp, (∀ o, G o = ov 0 (arF 0 (moreS S)) (lkH []) o) → WPC (cxh Try.prog w0 I0 M0 59 m0) k1_arena_Arena_Give (RetH (cxh Try.prog w0 I0 M0 59 m0) [.tmp 4, .tmp 5, .tmp 6] 1 (A.tup
          [iv (if okGive S m = true then ((atS S m).l.length : Int) - 1 else 0), iv (if okGive S m = true then (szAt (atS S m).w (((atS S m).l.length : Int) - 1) : Int) else 0), bv (okGive S m)]) (ov 0 (arF 0 (giveS S m)) (lkH []))) ⟨lk [(0, .pob [0] S.u 0), (1, iv m), (7, iv (S.l.length : Int))], G⟩ := fun hs G hG => by
    have hat : atS S m = moreS S := by simp [atS, hs]
    have hl : (moreS S).l.length = S.l.length + 1 := by simp [moreS]
    have hlt : S.l.length < (moreS S).l.length := by omega
    have hg : (moreS S).l[S.l.length].2 = [] := by simp [moreS]
    refine Give_k1 (S := moreS S) (k := S.l.length) (m := m) hlt (by simpa [moreS] using o1) (by simp only [moreS]; omega) (by rw [hg]; simpa [moreS] using o1) hG ?_ ?_
    · have hz := szAt_get hlt
      rw [hat, hk, hl]
      simp only [if_true]
      rw [show ((S.l.length + 1 : Nat) : Int) - 1 = (S.l.length : Int) from by omega, hz]
    · rw [giveS, hk, if_pos rfl, hat, hl, hmm]
      rfl
  have old : newSeg S m = false → WPC (cxh Try.prog w0 I0 M0 59 m0) k1_arena_Arena_Give (RetH (cxh Try.prog w0 I0 M0 59 m0) [.tmp 4, .tmp 5, .tmp 6] 1 (A.tup
          [iv (if okGive S m = true then ((atS S m).l.length : Int) - 1 else 0), iv (if okGive S m = true then (szAt (atS S m).w (((atS S m).l.length : Int) - 1) : Int) else 0), bv (okGive S m)]) (ov 0 (arF 0 (giveS S m)) (lkH []))) ⟨lk [(0, .pob [0] S.u 0), (1, iv m), (7, iv ((S.l.length : Int) - 1))], ov 0 (arF 0 S) (lkH [])⟩ := fun hs => by
    have hat : atS S m = S := by simp [atS, hs]
    have h0 : S.l.length ≠ 0 := fun e => by simp [newSeg, e] at hs
    have ec : (S.l.length : Int) - 1 = ((S.l.length - 1 : Nat) : Int) := by omega
    have hlt : S.l.length - 1 < S.l.length := by omega
    rw [hat, hk, ec]
    refine Give_k1 (S := S) (k := S.l.length - 1) (m := m) hlt o1 (by omega) (h.seg _ (List.getElem_mem _)) (fun o => rfl) ?_ ?_
    · simp only [if_true]
      rw [szAt_get hlt]
    · rw [giveS, hk, if_pos rfl, hat, hmm]
  have step : (if (4 : Nat) = 4 then True else False) := trivial
  by_cases h0 : S.l.length = 0
  · have hd : ((S.l.length : Int) - 1 < 0) := by omega
    have hs : newSeg S m = true := by simp [newSeg, h0]
    simp [hd, e7, e8, updF_app]
    refine ⟨by omega, ?_⟩
    obtain ⟨G, g1, g2⟩ := le_more (c := cxh Try.prog w0 I0 M0 59 m0) (s := lk [(0, .pob [0] S.u 0), (1, iv m), (7, iv (S.l.length : Int))]) (S := S)
    exact stop_le g1 (stop_go (new hs G g2))
  · have hd : ¬ ((S.l.length : Int) - 1 < 0) := by omega
    by_cases hr : (m : Int) ≤ S.size - szAt S.w ((S.l.length : Int) - 1)
    · have hs : newSeg S m = false := by simp [newSeg, h0, hr]
      simp [hd, hr, e7, e8, updF_app]
      exact stop_go (old hs)
    · by_cases h16 : S.l.length < 16
      · have hs : newSeg S m = true := by simp [newSeg, h0, hr, h16]
        have h16' : (S.l.length : Int) < 16 := by omega
        simp [hd, hr, h16', e7, e8, updF_app]
        refine ⟨by omega, ?_⟩
        obtain ⟨G, g1, g2⟩ := le_more (c := cxh Try.prog w0 I0 M0 59 m0) (s := lk [(0, .pob [0] S.u 0), (1, iv m), (7, iv (S.l.length : Int))]) (S := S)
        exact stop_le g1 (stop_go (new hs G g2))
      · have hs : newSeg S m = false := by simp [newSeg, h0, hr, h16]
        have h16' : ¬ (S.l.length : Int) < 16 := by omega
        simp [hd, hr, h16', e7, e8, updF_app]
        exact stop_go (old hs)
end Go.Proofs.Ytehcobkphobjiaa

/-
  Chapter 5: new arenas; words are put.
-/
namespace Go.Proofs.Ytehcobkphobjiaa
set_option linter.unusedVariables false
set_option linter.unusedSimpArgs false
open Go Go.G Go.Proofs
def newAr (z m : Int) : Ar := ⟨[], 1, 1, max z 1, min (max m 0) 131072, 0⟩
theorem New_spec (z m : Int) : SpecH Try.prog 20 1 [iv z, iv m] (lkH []) (.pob [0] 1 0) (ov 0 (arF 0 (newAr z m)) (lkH [])) := by
  refine specH_of t_arena_New (by simp) fun w0 I0 M0 m0 => ?_
  unfold c_arena_New
  simp
  refine reth_le (le_blankC (d := [0]) 0 [0, 0] 1 rfl rfl (by simp)) ?_
  simp
  refine reth_ret rfl rfl (fun i p hi => ?_)
  have hi0 : i = 0 := by omega
  subst hi0
  simp only [lkH_cons, lkH_nil, ov_cons, if_true]
  match p with
  | [] => rfl
  | [0] => rfl
  | [0, i] => rfl
  | (a + 1) :: q => rfl
  | 0 :: a :: b :: q => rfl
theorem sc_new {P : Program} {K : Sta → Prop} {rest : List CO} {s : Nat → A} {H : Hp} {dd : Option Nat} {nm : Nm} {ix : Nat} {un : List Nat} {l : Bool} {lg : Lg} {g : FuncId} {aa : Array Operand} {ts : Array TypeId}
    (r : Nat) {S' : Ar} {as0 : List A} (hu : S'.u = 1) (hS : SpecH P g 1 as0 (lkH []) (.pob [0] 1 0) (ov 0 (arF 0 S') (lkH []))) (hF : ∀ p, (H (r :: p)).u = 0)
    (ha : aa.toList.map (evs s) = as0) (h0 : ∀ g δ, A.renL g δ as0 = as0) (h1 : ∀ D, A.refsL D as0) (hv : ∀ p, (arF 0 S' p).ob = .none ∨ 1 ≤ (arF 0 S' p).u) (hck : Ck un lg ⟨[], [([r], true)]⟩)
    (h : SeqC P K rest (addL l ix ⟨[], [([r], true)]⟩ lg) (Sta.put ⟨s, H⟩ dd (.pob [r] 1 0) (stR r (arF r S') H))) :
    SeqC P K (⟨dd, .call { callee := .value (.func g), args := aa, argTypes := ts }, none, nm, ix, un, l⟩ :: rest) lg ⟨s, H⟩ := by
  have hd : ∀ p, dlt [r] 0 H (0 :: p) = 0 := fun p => by
    simp only [dlt]
    rw [if_neg (by omega), if_pos (by simp)]
    exact hF p
  refine sc_callH [r] 0 hS (by simp) (by simp) ?_ ?_ ?_ ?_ (by simp [A.refs, outS]) ?_ ?_ ?_ ?_ hck h
  · rw [ha]; exact h0 _ _
  · rw [ha]; exact h1 _
  · funext o
    cases o with
    | nil => rfl
    | cons i p => simp [inHp]
  · intro j p hj
    omega
  · intro i p hi
    have : i = 0 := by simp at hi; omega
    subst this
    simp only [ov_cons, if_true]
    exact arF_refs (fun q => by simp [outS]) S' p
  · intro i p _ hi
    have : i = 0 := by simp at hi; omega
    subst this
    simp only [ov_cons, if_true]
    exact hv p
  · simp [A.ren, upN, hd]
  · funext o
    cases o with
    | nil => rfl
    | cons j p =>
      by_cases hj : j = r
      · subst hj
        simp only [outG, stR, ov_cons, if_true]
        rw [if_pos (by simp)]
        have : [j].idxOf j = 0 := by simp
        rw [this, if_pos rfl, hd]
        exact arF_ren (fun q => by simp [upN]) hd S' p
      · have : ¬ [r].contains j = true := by simpa using hj
        simp only [outG, if_neg this, stR, ov_cons, if_neg hj]
def putS (S : Ar) (s a : Int) (w : Int) : Ar := if hasW S.w s a 1 = true then { S with l := S.l.modify s.toNat fun e => (e.1, e.2.set a.toNat w) } else S
theorem Put_spec (S : Ar) (hb : ∀ x, x ∈ S.w → x.length * 8 ≤ 140737488355328) (s a w : Int) : SpecH Try.prog 65 1 [.pob [0] S.u 0, iv s, iv a, uv w] (ov 0 (arF 0 S) (lkH [])) (bv (hasW S.w s a 1)) (ov 0 (arF 0 (putS S s a w)) (lkH [])) := by
  refine specH_of t_arena_Arena_Put (by simp) fun w0 I0 M0 m0 => ?_
  unfold c_arena_Arena_Put
  simp
  refine sc_callb [S.a, iv s, iv a, iv 1] ((has_spec S.w hb s a 1).toB rfl) (by simp; exact ⟨frz_ar, frz_bare rfl, frz_bare rfl, frz_bare rfl⟩) (by simp) ?_
  cases hh : hasW S.w s a 1 with
  | false =>
    simp
    refine reth_ret rfl rfl (fun i p hi => ?_)
    simp [putS, hh]
  | true =>
    obtain ⟨h1, h2, h3, h4, h5, e1, h6⟩ := hasW_in hh
    obtain ⟨k, rfl⟩ := Int.eq_ofNat_of_zero_le h1
    obtain ⟨b, rfl⟩ := Int.eq_ofNat_of_zero_le h3
    have hk : k < S.l.length := by simpa [Ar.w] using h2
    have hb' : b < S.l[k].2.length := by simp [Ar.w] at h6; omega
    have hb2 : (b : Int) < S.l[k].2.length := by omega
    simp [hk, hb', hb2]
    refine reth_ret rfl rfl (fun i p hi => ?_)
    have hi0 : i = 0 := by omega
    subst hi0
    simp only [ov_cons, if_true]
    have hput : putS S k b w = { S with l := S.l.modify k fun e => (e.1, e.2.set b w) } := by simp [putS, hh]
    rw [hput]
    refine updF_is ?_ (fun h1 => ?_)
    · simp [List.getElem?_modify, hk]
    · match p, h1 with
      | [], _ => simp
      | [0], _ =>
        have e : rowS 0 (S.l.modify k fun e => (e.1, e.2.set b w)) = rowS 0 S.l := by
          apply List.ext_getElem
          · simp
          · intro i g1 g2
            simp only [rowS_get, List.getElem_modify]
            by_cases e : k = i
            · subst e; simp
            · simp [e]
        simp [e]
      | [0, i], h1 =>
        have : k ≠ i := fun e => h1 (by rw [e])
        simp [List.getElem?_modify, this]
      | (a + 1) :: q, _ => rfl
      | 0 :: a :: b :: q, _ => rfl
end Go.Proofs.Ytehcobkphobjiaa

/-
  Chapter 5: the laws.
-/
namespace Go.Proofs.Ytehcobkphobjiaa
set_option linter.unusedVariables false
set_option linter.unusedSimpArgs false
open Go Go.G Go.Proofs
theorem newAr_ok {z m : Int} (h : z < 9223372036854775808) : (newAr z m).Ok := by
  refine ⟨by simp [newAr], ?_, ?_, ?_, ?_, by simp [newAr], by simp [newAr]⟩
  all_goals
    simp only [newAr]
    omega
theorem newAr_fam {z m : Int} (p : Nm) : (arF 0 (newAr z m) p).ob = .none ∨ 1 ≤ (arF 0 (newAr z m) p).u := by
  match p with
  | [] => exact .inr (Nat.le_refl _)
  | [0] => exact .inr (Nat.le_refl _)
  | [0, i] => exact .inl rfl
  | (a + 1) :: q => exact .inl rfl
  | 0 :: a :: b :: q => exact .inl rfl
theorem growS_ok {S : Ar} (h : S.Ok) {k n : Nat} (h1 : S.used + n ≤ S.most) : (growS S k n).Ok := by
  refine ⟨?_, h1, h.most1, h.size0, h.size1, by simpa [growS] using h.len, fun e he => ?_⟩
  · have := h.used0; simp only [growS]; omega
  · simp only [growS] at he ⊢
    obtain ⟨i, hi, rfl⟩ := List.getElem_of_mem he
    simp only [List.getElem_modify]
    simp at hi
    have := h.seg _ (List.getElem_mem hi)
    split
    · simp; omega
    · omega
theorem atS_ok {S : Ar} (h : S.Ok) (n : Int) : (atS S n).Ok := by
  unfold atS
  split
  · rename_i hn
    refine ⟨h.used0, h.used1, h.most1, h.size0, h.size1, ?_, fun e he => ?_⟩
    · simp only [moreS, List.length_append, List.length_singleton]
      simp [newSeg] at hn
      have := h.len
      rcases hn with e | e
      · simp [e]
      · omega
    · simp only [moreS, List.mem_append, List.mem_singleton] at he
      rcases he with he | rfl
      · exact h.seg e he
      · exact h.used0
  · exact h
theorem giveS_ok {S : Ar} (h : S.Ok) (n : Int) : (giveS S n).Ok := by
  unfold giveS
  split
  · rename_i hg
    simp [okGive] at hg
    have hu : (atS S n).used = S.used ∧ (atS S n).most = S.most := by unfold atS; split <;> exact ⟨rfl, rfl⟩
    refine growS_ok (atS_ok h n) ?_
    rw [hu.1, hu.2]
    omega
  · exact h
theorem inS_ok {S : Ar} (h : S.Ok) (s n : Int) : (inS' S s n).Ok := by
  unfold inS'
  split
  · rename_i hg
    simp [okIn] at hg
    exact growS_ok h (by omega)
  · exact h
theorem awake5_spec : G.Spec Try.prog 19 [] (bv true) := by
  refine spec_of t_centolaw05_awake (by simp) fun w0 I0 => ?_
  unfold c_centolaw05_awake
  simp
  refine sc_new 0 rfl (New_spec 4 9) (fun p => rfl) rfl (fun _ _ => rfl) (fun _ => ⟨trivial, trivial, trivial⟩) newAr_fam (by simp) ?_
  simp
  have k0 : (newAr 4 9).Ok := newAr_ok (by decide)
  have k1 := giveS_ok k0 3
  have k2 := giveS_ok k1 2
  refine sc_ar (r := 0) (Give_spec (newAr 4 9) k0 3) (fun p => rfl) rfl (fun _ _ => rfl) (fun _ => ⟨trivial, trivial⟩) (fun _ _ => rfl) (fun _ => ⟨trivial, trivial, trivial, trivial⟩) (by simp) ?_
  simp
  refine sc_ar (r := 0) (Give_spec (giveS (newAr 4 9) 3) k1 2) (fun p => rfl) rfl (fun _ _ => rfl) (fun _ => ⟨trivial, trivial⟩) (fun _ _ => rfl) (fun _ => ⟨trivial, trivial, trivial, trivial⟩) (by simp) ?_
  simp
  refine sc_ar (r := 0) (Give_spec (giveS (giveS (newAr 4 9) 3) 2) k2 5) (fun p => rfl) rfl (fun _ _ => rfl) (fun _ => ⟨trivial, trivial⟩) (fun _ _ => rfl) (fun _ => ⟨trivial, trivial, trivial, trivial⟩) (by simp) ?_
  have a1 : okGive (newAr 4 9) 3 = true := by decide +kernel
  have a2 : (atS (newAr 4 9) 3).l.length = 1 := by decide +kernel
  have a3 : szAt (atS (newAr 4 9) 3).w 0 = 0 := by decide +kernel
  have b1 : okGive (giveS (newAr 4 9) 3) 2 = true := by decide +kernel
  have b2 : (atS (giveS (newAr 4 9) 3) 2).l.length = 2 := by decide +kernel
  have b3 : szAt (atS (giveS (newAr 4 9) 3) 2).w 1 = 0 := by decide +kernel
  have c1 : okGive (giveS (giveS (newAr 4 9) 3) 2) 5 = false := by decide +kernel
  simp [a1, a2, a3, b1, b2, b3, c1]
  exact frz_bare rfl
end Go.Proofs.Ytehcobkphobjiaa

/-
  Chapter 5: arenas of given segments, as objects of the caller's own.
-/
namespace Go.Proofs.Ytehcobkphobjiaa
set_option linter.unusedVariables false
set_option linter.unusedSimpArgs false
open Go Go.G Go.Proofs
/-- An arena that gives nothing; its segments are written no more. -/
def aoF (v : Nat) (l : List (List Int)) (r : Nat) : Nm → VOb
  | [] => ⟨1, .cells [.osl [r, 0] v 1 0 l.length, iv 0, iv 0, iv 0]⟩
  | [0] => ⟨v, .arr 1 (l.map ws)⟩
  | _ => ⟨0, .none⟩
@[simp] theorem aoF_nil {v r : Nat} {l : List (List Int)} : aoF v l r [] = ⟨1, .cells [.osl [r, 0] v 1 0 l.length, iv 0, iv 0, iv 0]⟩ := rfl
@[simp] theorem aoF_row {v r : Nat} {l : List (List Int)} : aoF v l r [0] = ⟨v, .arr 1 (l.map ws)⟩ := rfl
theorem aoF_is {v r : Nat} {l : List (List Int)} {F : Nm → VOb} (h0 : F [] = aoF v l r []) (h1 : F [0] = aoF v l r [0]) (h2 : ∀ p, p ≠ [] → p ≠ [0] → F p = ⟨0, .none⟩) : ∀ p, F p = aoF v l r p := fun p => by
  match p with
  | [] => exact h0
  | [0] => exact h1
  | (a + 1) :: q => exact h2 _ (by simp) (by simp)
  | 0 :: a :: q => exact h2 _ (by simp) (by simp)
def aoM (v : Nat) (l : List (List Int)) : Fam := ⟨fun r => aoF v l r, fun {g δ r r'} hg hd p => by
    match p with
    | [] => exact Fam.cells_ren (by simp [A.renL, A.ren, hg, hd])
    | [0] =>
      refine Fam.arr_ren ?_
      exact (FamL.all (l := l.map ws) fun x hx => by obtain ⟨y, _, rfl⟩ := List.mem_map.1 hx; exact famA_sl).ren hg hd
    | (a + 1) :: q => rfl
    | 0 :: a :: q => rfl, fun {D r} hD p => by
    match p with
    | [] => simp [Ob.refs, A.refsL, A.refs, hD]
    | [0] => exact (FamL.all (l := l.map ws) fun x hx => by obtain ⟨y, _, rfl⟩ := List.mem_map.1 hx; exact famA_sl).refs hD
    | (a + 1) :: q => trivial
    | 0 :: a :: q => trivial⟩
@[simp] theorem aoM_F {v r : Nat} {l : List (List Int)} : (aoM v l).F r = aoF v l r := rfl
/-! ### an arena of segments -/
section
variable {n : Nat} {w0 : World} {I0 M0 : Nat → Prop} {m0 : Mu} {Q : Exit → Sta → Prop}
theorem ofN_l1 {l : List (List Int)} {u : Nat} {xs : List A} {F : Nm → VOb} (hl : l.length * 24 ≤ 140737488355328) (hb : ∀ x, x ∈ l → x.length * 8 ≤ 140737488355328) (hlen : xs.length = l.length) (hF : F [0] = ⟨u, .arr 1 xs⟩) (hc : ∀ x, x ∈ xs → x.cells = [x])
    (hx : ∀ (i : Nat) (h : i < l.length) (H : Hp), (∀ p, H (0 :: p) = F p) → Frz H (xs[i]'(by omega)) (ws l[i]))
    (hq : ∀ (q : Bool) (H : Hp), (∀ p, H (0 :: p) = F p) → (∀ p, H (1 :: p) = aoF (l.length + 1) l 1 p) → Q (.exit 0) ⟨lk [(3, .pob [1] 1 0), (8, .osl [0, 0] u 1 0 l.length), (9, iv l.length), (10, iv l.length), (11, bv q)], H⟩) :
    ∀ (j i : Nat) (H : Hp), i + j = l.length → (∀ p, H (0 :: p) = F p) → (∀ p, H (1 :: p) = aoF (i + 1) (l.take i) 1 p) →
    LoopC (cxh Try.prog w0 I0 M0 n m0) l1_arena_OfN Q ⟨lk [(3, .pob [1] 1 0), (8, .osl [0, 0] u 1 0 l.length), (9, iv l.length), (10, iv i)], H⟩ := by
  intro j
  induction j with
  | zero =>
    intro i H hi h0 h1
    have : i = l.length := by omega
    subst this
    rw [List.take_of_length_le (Nat.le_refl _)] at h1
    refine loopC_once mixed l1_arena_OfN.eq_1 ?_
    simp
    exact hq _ H h0 h1
  | succ j ih =>
    intro i H hi h0 h1
    have hlt : i < l.length := by omega
    have hlx : i < xs.length := by omega
    have hr : H [0, 0] = ⟨u, .arr 1 xs⟩ := by rw [h0, hF]
    have g0 := h1 []
    have g1 := h1 [0]
    have ht : (l.take i).length = i := by simp; omega
    simp [ht] at g0
    simp at g1
    have hcl := hc _ (List.getElem_mem hlx)
    have ei : IntKind.i64.wrap ((i : Int) + 1) = ((i + 1 : Nat) : Int) := i64_same (by omega) (by omega)
    refine loopC_once mixed l1_arena_OfN.eq_1 ?_
    simp [hlt, hr, hlx, hcl, g0]
    refine sc_callb [ws l[i]] (clone_spec false l[i] (hb _ (List.getElem_mem hlt))) (by simp; exact hx i hlt H h0) (by simp) ?_
    have h24 : (i + 1) * 24 ≤ 140737488355328 := by omega
    simp [g0, g1, h24, ei, ht, updF_app]
    refine ⟨by omega, ?_⟩
    have ht2 : (l.take (i + 1)).length = i + 1 := by simp; omega
    have htk : (l.take (i + 1)).map ws = (l.map ws).take i ++ [ws l[i]] := by rw [List.map_take, List.take_succ_eq_append_getElem (by simpa using hlt)]; simp
    refine ih (i + 1) _ (by omega) (fun p => ?_) (aoF_is ?_ ?_ fun p p0 p1 => ?_)
    · rw [updF_ne (by simp), updF_ne (by simp)]; exact h0 p
    · simp [updF_app, ht2]
    · rw [aoF_row, htk]
      simp [updF_app, List.take_take]
    · rw [updF_ne (by simpa using p0), updF_ne (by simpa using p1)]
      rw [h1]
      match p with
      | [] => exact absurd rfl p0
      | [0] => exact absurd rfl p1
      | (a + 1) :: q => rfl
      | 0 :: a :: q => rfl
end
theorem aoF_u {v : Nat} {l : List (List Int)} (hv : 1 ≤ v) (p : Nm) : (aoF v l 1 p).ob = .none ∨ 1 ≤ (aoF v l 1 p).u := by
  match p with
  | [] => exact .inr (Nat.le_refl _)
  | [0] => exact .inr hv
  | (a + 1) :: q => exact .inl rfl
  | 0 :: a :: q => exact .inl rfl
theorem OfN_gen {l : List (List Int)} {u : Nat} {F : Fam} {xs : List A} (hl : l.length * 24 ≤ 140737488355328) (hb : ∀ x, x ∈ l → x.length * 8 ≤ 140737488355328) (hlen : xs.length = l.length) (hF : F.F 0 [0] = ⟨u, .arr 1 xs⟩) (hc : ∀ x, x ∈ xs → x.cells = [x])
    (hx : ∀ (i : Nat) (h : i < l.length) (H : Hp), (∀ p, H (0 :: p) = F.F 0 p) → Frz H (xs[i]'(by omega)) (ws l[i])) :
    SpecN Try.prog 13 (fun r => [.osl [r, 0] u 1 0 l.length]) F (fun _ q => .pob [q] 1 0) F (aoM (l.length + 1) l) := by
  refine specN_of t_arena_OfN (by simp) (famL_cons famA_osl famL_nil) (famA2_r famA_pob) (fun p => aoF_u (by omega) p) fun w0 I0 M0 m0 => ?_
  unfold c_arena_OfN
  simp
  refine LoopC.le (le_blankC (d := [1]) 0 [1, 0] 1 rfl rfl (by simp)) ?_
  simp
  refine ofN_l1 hl hb hlen hF hc hx (fun q H h0 h1 => ?_) l.length 0 _ (by omega) (fun p => ?_) (aoF_is ?_ ?_ fun p p0 p1 => ?_)
  · simp
    exact reth_fam2 rfl rfl h0 h1
  · simp
  · simp
  · simp
  · simp [Ne.symm p0, Ne.symm p1]
theorem szAt_le {l : List (List Int)} (hb : ∀ x, x ∈ l → x.length * 8 ≤ 140737488355328) (s : Int) : Go.Proofs.Ytehcobkphobjiaa.szAt l s * 8 ≤ 140737488355328 := by
  unfold szAt
  cases e : seg l s with
  | none => simp
  | some g =>
    obtain ⟨_, _, h, rfl⟩ := seg_some e
    exact hb _ (List.getElem_mem h)
section
variable {n0 : Nat} {w0 : World} {I0 M0 : Nat → Prop} {m0 : Mu}
end
end Go.Proofs.Ytehcobkphobjiaa

/-
  Plain: trees, and what the document says of them.
-/
namespace Go.PL
set_option linter.unusedVariables false
set_option linter.unusedSimpArgs false
inductive T where
  | mk (kind : Int) (words : List Int) (kids : List T)
  deriving Inhabited
namespace T
def kind : T → Int | mk k _ _ => k
def words : T → List Int | mk _ w _ => w
def kids : T → List T | mk _ _ l => l
@[simp] theorem kind_mk {k : Int} {w : List Int} {l : List T} : (mk k w l).kind = k := rfl
@[simp] theorem words_mk {k : Int} {w : List Int} {l : List T} : (mk k w l).words = w := rfl
@[simp] theorem kids_mk {k : Int} {w : List Int} {l : List T} : (mk k w l).kids = l := rfl
end T
abbrev T0 : T := .mk 0 [] []
/-! ### the Norm -/
/-- Without what is nothing at the end. -/
def trimW (l : List Int) : List Int := (l.reverse.dropWhile (fun x => x == 0)).reverse
def trimK (l : List T) : List T := (l.reverse.dropWhile (fun x => x.kind == 0)).reverse
mutual
def norm : T → T
  | .mk k w l => if k = 0 then T0 else if k = 1 then .mk 1 (trimW w) (trimK (normL l)) else .mk k w (normL l)
def normL : List T → List T
  | [] => []
  | t :: l => norm t :: normL l
end
@[simp] theorem normL_map : ∀ l, normL l = l.map norm
  | [] => by simp [normL]
  | t :: l => by simp [normL, normL_map l]
theorem norm_mk (k : Int) (w : List Int) (l : List T) : norm (.mk k w l) = if k = 0 then T0 else if k = 1 then .mk 1 (trimW w) (trimK (l.map norm)) else .mk k w (l.map norm) := by simp [norm]
@[simp] theorem norm_kind (t : T) : (norm t).kind = t.kind := by
  cases t; rw [norm_mk]; split
  · rename_i h; rw [h]; rfl
  · split
    · rename_i h; rw [h]; rfl
    · rfl
@[simp] theorem trimW_nil : trimW [] = [] := rfl
@[simp] theorem trimK_nil : trimK [] = [] := rfl
/-! ### how many words a tree takes -/
/- As the program counts it. -/
/-! ### which trees may be -/
def widthZ (c : Int) : Int := if c = 0 then 0 else if c = 1 then 1 else if c = 2 then 8 else if c = 3 then 16 else if c = 4 then 32 else if c = 5 then 64 else -1
/- No deeper, and no more parts: what is left. -/
/-! ### the program's size is the document's, of a right tree's Norm -/
end Go.PL

/-
  Plain: edits, which ones are right, their trees, and how many words they take.
-/
namespace Go.PL
set_option linter.unusedVariables false
set_option linter.unusedSimpArgs false
structure WE where
  at_ : Int
  mask : Int
  old : Int
  new : Int
mutual
inductive E where
  | mk (kind : Int) (old new : T) (words : List WE) (kids : List KE) (list : Int) (ops : List OP)
inductive KE where
  | mk (at_ : Int) (e : E)
inductive OP where
  | mk (kind n : Int) (l : List T) (e : E)
end
namespace E
def kind : E → Int | mk k _ _ _ _ _ _ => k
def old : E → T | mk _ o _ _ _ _ _ => o
def new : E → T | mk _ _ n _ _ _ _ => n
def words : E → List WE | mk _ _ _ w _ _ _ => w
def kids : E → List KE | mk _ _ _ _ k _ _ => k
def list : E → Int | mk _ _ _ _ _ l _ => l
def ops : E → List OP | mk _ _ _ _ _ _ o => o
variable {k l : Int} {o n : T} {w : List WE} {ks : List KE} {os : List OP}
@[simp] theorem kind_mk : (mk k o n w ks l os).kind = k := rfl
@[simp] theorem old_mk : (mk k o n w ks l os).old = o := rfl
@[simp] theorem new_mk : (mk k o n w ks l os).new = n := rfl
@[simp] theorem words_mk : (mk k o n w ks l os).words = w := rfl
@[simp] theorem kids_mk : (mk k o n w ks l os).kids = ks := rfl
@[simp] theorem list_mk : (mk k o n w ks l os).list = l := rfl
@[simp] theorem ops_mk : (mk k o n w ks l os).ops = os := rfl
end E
namespace KE
def at_ : KE → Int | mk a _ => a
def e : KE → E | mk _ e => e
@[simp] theorem at_mk {a : Int} {e : E} : (mk a e).at_ = a := rfl
@[simp] theorem e_mk {a : Int} {e : E} : (mk a e).e = e := rfl
end KE
namespace OP
def kind : OP → Int | mk k _ _ _ => k
def n : OP → Int | mk _ n _ _ => n
def l : OP → List T | mk _ _ l _ => l
def e : OP → E | mk _ _ _ e => e
variable {k m : Int} {t : List T} {x : E}
@[simp] theorem kind_mk : (mk k m t x).kind = k := rfl
@[simp] theorem n_mk : (mk k m t x).n = m := rfl
@[simp] theorem l_mk : (mk k m t x).l = t := rfl
@[simp] theorem e_mk : (mk k m t x).e = x := rfl
end OP
/-! ### which edits are right -/
/- How many parts are left behind an edit; below 0: it has more, or is deeper. -/
/-! ### the tree of an edit -/
/-! ### how many words an edit takes -/
end Go.PL

/-
  Trees and edits as the program's values.
-/
namespace Go.Proofs.Ytehcobkphobjiaa
set_option linter.unusedVariables false
set_option linter.unusedSimpArgs false
open Go Go.G Go.Proofs Go.PL
/-- A call that is not made. -/
theorem sc_call_off {P : Program} {K : Sta → Prop} {rest : List CO} {s : Nat → A} {H : Hp} {dd : Option Nat} {k : Nat} {f : Bool} {nm : Nm} {ix : Nat} {un : List Nat} {l : Bool} {lg : Lg} {g : FuncId} {aa : Array Operand} {ts : Array TypeId}
    (hq : wantA (s k) f = some false) (h : SeqC P K rest (addL l ix ⟨[], []⟩ lg) (Sta.put ⟨s, H⟩ dd (.v undef) H)) :
    SeqC P K (⟨dd, .call { callee := .value (.func g), args := aa, argTypes := ts }, some (k, f), nm, ix, un, l⟩ :: rest) lg ⟨s, H⟩ :=
  sc_call_g (q := false) (x := .any) hq (fun e => by cases e) h
abbrev uws (l : List Int) : A := .sl false (l.map uv)
@[simp] theorem lens_iv (l : List Int) : lens 1 (l.map iv) = true := by simp [lens]
theorem lens_all {n : Nat} {l : List A} : lens n l = true ↔ ∀ x, x ∈ l → x.cells.length = n := by simp [lens]
@[simp] theorem lens_take {n k : Nat} {l : List A} (h : lens n l = true) : lens n (l.take k) = true := by
  rw [lens_all] at h ⊢
  exact fun x hx => h x (List.mem_of_mem_take hx)
@[simp] theorem lens_drop {n k : Nat} {l : List A} (h : lens n l = true) : lens n (l.drop k) = true := by
  rw [lens_all] at h ⊢
  exact fun x hx => h x (List.mem_of_mem_drop hx)
/-! ### sums, whatever is turned round -/
/-! ### sizes that memory has -/
def i64R (n : Int) : Prop := -9223372036854775808 ≤ n ∧ n < 9223372036854775808
def u64R (n : Int) : Prop := 0 ≤ n ∧ n < 18446744073709551616
def WE.wf (w : WE) : Prop := i64R w.at_ ∧ (0 ≤ w.mask ∧ w.mask < 256) ∧ u64R w.old ∧ u64R w.new
end Go.Proofs.Ytehcobkphobjiaa

/-
  The document's words: bytes, masks, small numbers.
-/
namespace Go.Proofs.Ytehcobkphobjiaa
set_option linter.unusedVariables false
set_option linter.unusedSimpArgs false
open Go Go.G Go.Proofs Go.PL
section
variable {n0 : Nat} {w0 : World} {I0 : Nat → Prop} {Q : Exit → Sta → Prop} {H : Hp}
end
section
variable {n0 : Nat} {w0 : World} {I0 : Nat → Prop} {Q : Exit → Sta → Prop} {H : Hp}
theorem rSame_l1 {a b : List Int} (hl : a.length = b.length) (hb : a.length * 8 ≤ 140737488355328) : ∀ (m i : Nat), i + m = a.length → a.take i = b.take i → (a = b → ∀ i q, Q (.exit 0) ⟨lk [(0, uws a), (1, uws b), (5, iv i), (14, bv q)], H⟩) → (a ≠ b → Q .ret ⟨lk [(4, bv false)], H⟩) →
    LoopC (cx Try.prog w0 I0 n0) l1_centoref01_Same Q ⟨lk [(0, uws a), (1, uws b), (5, iv i)], H⟩ := by
  intro m
  induction m with
  | zero =>
    intro i hi ht h1 h2
    have : i = a.length := by omega
    subst this
    refine loopC_once mixed l1_centoref01_Same.eq_1 ?_
    simp
    refine h1 ?_ _ _
    rw [List.take_of_length_le (Nat.le_refl _), List.take_of_length_le (by omega)] at ht
    exact ht
  | succ m ih =>
    intro i hi ht h1 h2
    have hlt : i < a.length := by omega
    have hlt' : i < b.length := by omega
    refine loopC_once mixed l1_centoref01_Same.eq_1 ?_
    simp [hlt, hlt']
    refine ⟨fun he => ?_, fun hne => h2 fun e => hne (by subst e; rfl)⟩
    rw [i64_same (by omega) (by omega)]
    refine ih (i + 1) (by omega) ?_ h1 h2
    rw [List.take_succ_eq_append_getElem hlt, List.take_succ_eq_append_getElem hlt', ht, he]
end
theorem rSame_spec (a b : List Int) (hb : a.length * 8 ≤ 140737488355328) : G.Spec Try.prog 43 [uws a, uws b] (bv (decide (a = b))) := by
  refine spec_of t_centoref01_Same (by simp) fun w0 I0 => ?_
  unfold c_centoref01_Same
  simp
  refine ⟨fun h => ?_, fun h => ?_⟩
  · refine rSame_l1 (by omega) hb a.length 0 (by omega) rfl (fun e i q => ?_) (fun e => ?_)
    · simp
      refine frz_bool ?_
      simp [e]
    · simp
      refine frz_bool ?_
      simp [e]
  · refine frz_bool ?_
    have : ¬ a = b := fun e => h (by rw [e])
    simp [this]
/-! ### the program's widths -/
/-! ### without noughts at the end -/
section
variable {n0 : Nat} {w0 : World} {I0 : Nat → Prop} {Q : Exit → Sta → Prop} {H : Hp}
end
/-! ### bytes -/
section
variable {n0 : Nat} {w0 : World} {I0 : Nat → Prop} {Q : Exit → Sta → Prop}
end
section
variable {n0 : Nat} {w0 : World} {I0 : Nat → Prop} {Q : Exit → Sta → Prop} {H : Hp}
end
section
variable {n0 : Nat} {w0 : World} {I0 : Nat → Prop} {Q : Exit → Sta → Prop} {H : Hp}
end
section
variable {n0 : Nat} {w0 : World} {I0 : Nat → Prop} {Q : Exit → Sta → Prop}
end
end Go.Proofs.Ytehcobkphobjiaa

/-
  Chapter 5: the law ArenaOf.
-/
namespace Go.Proofs.Ytehcobkphobjiaa
set_option linter.unusedVariables false
set_option linter.unusedSimpArgs false
open Go Go.G Go.Proofs
section
variable {n0 : Nat} {w0 : World} {I0 : Nat → Prop} {Q : Exit → Sta → Prop} {H : Hp}
theorem same03_l1 {a b : List (List Int)} (hl : a.length = b.length) (ha : a.length * 24 ≤ 140737488355328) (hb : ∀ x, x ∈ a → x.length * 8 ≤ 140737488355328) : ∀ (m i : Nat), i + m = a.length → a.take i = b.take i → (a = b → ∀ i q, Q (.exit 0) ⟨lk [(0, sgs a), (1, sgs b), (5, iv i), (14, bv q)], H⟩) → (a ≠ b → Q .ret ⟨lk [(4, bv false)], H⟩) →
    LoopC (cx Try.prog w0 I0 n0) l1_centoref03_Same Q ⟨lk [(0, sgs a), (1, sgs b), (5, iv i)], H⟩ := by
  intro m
  induction m with
  | zero =>
    intro i hi ht h1 h2
    have : i = a.length := by omega
    subst this
    refine loopC_once mixed l1_centoref03_Same.eq_1 ?_
    simp
    refine h1 ?_ _ _
    rw [List.take_of_length_le (Nat.le_refl _), List.take_of_length_le (by omega)] at ht
    exact ht
  | succ m ih =>
    intro i hi ht h1 h2
    have hlt : i < a.length := by omega
    have hlt' : i < b.length := by omega
    refine loopC_once mixed l1_centoref03_Same.eq_1 ?_
    simp [hlt, hlt']
    refine sc_call (rSame_spec a[i] b[i] (hb _ (List.getElem_mem hlt))) (by simp) ?_
    simp
    refine ⟨fun he => ?_, fun hne => h2 fun e => hne (by subst e; rfl)⟩
    rw [i64_same (by omega) (by omega)]
    refine ih (i + 1) (by omega) ?_ h1 h2
    rw [List.take_succ_eq_append_getElem hlt, List.take_succ_eq_append_getElem hlt', ht, he]
end
theorem same03_spec (a b : List (List Int)) (ha : a.length * 24 ≤ 140737488355328) (hb : ∀ x, x ∈ a → x.length * 8 ≤ 140737488355328) : G.Spec Try.prog 14 [sgs a, sgs b] (bv (decide (a = b))) := by
  refine spec_of t_centoref03_Same (by simp) fun w0 I0 => ?_
  unfold c_centoref03_Same
  simp
  refine ⟨fun h => ?_, fun h => ?_⟩
  · refine same03_l1 (by omega) ha hb a.length 0 (by omega) rfl (fun e i q => ?_) (fun e => ?_)
    · simp
      refine frz_bool ?_
      simp [e]
    · simp
      refine frz_bool ?_
      simp [e]
  · refine frz_bool ?_
    have : ¬ a = b := fun e => h (by rw [e])
    simp [this]
section
variable {n0 : Nat} {w0 : World} {I0 : Nat → Prop} {Q : Exit → Sta → Prop}
end
section
variable {n0 : Nat} {w0 : World} {I0 : Nat → Prop}
end
end Go.Proofs.Ytehcobkphobjiaa

/-
  Chapter 5's definition: arenas that grow word by word.
-/
namespace Go.Proofs.Ytehcobkphobjiaa
set_option linter.unusedVariables false
set_option linter.unusedSimpArgs false
open Go Go.G Go.Proofs
/-- How long a segment is; -1: there is none. -/
def lenZ (l : List (List Int)) (s : Int) : Int := if 0 ≤ s ∧ s < l.length then (szAt l s : Int) else -1
theorem rLong_spec (l : List (List Int)) (z m u s : Int) : G.Spec Try.prog 67 [arX l z m u, iv s] (iv (lenZ l s)) := by
  refine spec_of t_centoref05_Arena_Long (by simp) fun w0 I0 => ?_
  unfold c_centoref05_Arena_Long
  by_cases h : 0 ≤ s ∧ s < l.length
  · obtain ⟨h2, e1⟩ := seg_in h.1 h.2
    have h3 : ¬ s < 0 := by omega
    have h4 : ¬ (l.length : Int) ≤ s := by omega
    simp [h.1, h.2, h2, h3, h4, lenZ]
    rw [szAt, e1]
    exact frz_int rfl
  · have h3 : s < 0 ∨ (l.length : Int) ≤ s := by omega
    by_cases h5 : s < 0
    · simp [h5, lenZ, h]
      exact frz_bare rfl
    · have h6 : (l.length : Int) ≤ s := by omega
      simp [h5, h6, lenZ, h]
      exact frz_bare rfl
/-- So many noughts behind a segment, one by one. -/
def segS (S : Ar) (k i : Nat) : Ar := { S with l := S.l.modify k fun e => (e.1 + i, e.2 ++ List.replicate i 0) }
def addS (S : Ar) (k n : Nat) : Ar := { segS S k n with used := S.used + n }
@[simp] theorem segS_u {S : Ar} {k i : Nat} : (segS S k i).u = S.u := rfl
@[simp] theorem segS_ur {S : Ar} {k i : Nat} : (segS S k i).ur = S.ur := rfl
@[simp] theorem segS_size {S : Ar} {k i : Nat} : (segS S k i).size = S.size := rfl
@[simp] theorem segS_most {S : Ar} {k i : Nat} : (segS S k i).most = S.most := rfl
@[simp] theorem segS_used {S : Ar} {k i : Nat} : (segS S k i).used = S.used := rfl
@[simp] theorem segS_len {S : Ar} {k i : Nat} : (segS S k i).l.length = S.l.length := by simp [segS]
@[simp] theorem segS_len' {S : Ar} {k i : Nat} {f : Nat × List Int → Nat × List Int} : (S.l.modify k f).length = S.l.length := by simp
theorem segS_get {S : Ar} {k i : Nat} {e : Nat × List Int} (h : S.l[k]? = some e) : (segS S k i).l[k]? = some (e.1 + i, e.2 ++ List.replicate i 0) := by simp [segS, List.getElem?_modify, h]
theorem segS_zero {S : Ar} {k : Nat} : segS S k 0 = S := by
  cases S
  simp only [segS, Ar.mk.injEq, and_true, true_and]
  apply List.ext_getElem
  · simp
  · intro j h1 h2
    simp only [List.getElem_modify]
    by_cases e : k = j <;> simp [e]
theorem segS_one_more {S : Ar} {k j : Nat} : segS (segS S k 1) k j = segS S k (j + 1) := by
  simp only [segS, Ar.mk.injEq, and_true, true_and]
  apply List.ext_getElem
  · simp
  · intro i h1 h2
    simp only [List.getElem_modify]
    by_cases e : k = i
    · simp [e, List.replicate_succ]; omega
    · simp [e]
/-- Alike but for the cells. -/
theorem arF_but' {r : Nat} {S S' : Ar} {p : Nm} (h1 : p ≠ []) (hl : S.l = S'.l) (hu : S.ur = S'.ur) : arF r S p = arF r S' p := by
  by_cases h2 : p = [0]
  · subst h2; simp [hl, hu]
  · exact arF_but h1 h2 fun j _ => by rw [hl]
/-- A word behind a segment. -/
theorem seg_one {S : Ar} {k : Nat} {e : Nat × List Int} (hk : S.l[k]? = some e) :
    updF (updF (arF 0 S) [0, k] ⟨e.1 + 1, .arr 1 (List.take e.2.length (e.2.map uv) ++ [uv 0])⟩) [0] ⟨S.ur, .arr 1 ((rowS 0 S.l).set k (.osl [0, 0, k] (e.1 + 1) 1 0 (e.2.length + 1)))⟩ = arF 0 (segS S k 1) := by
  have hlt : k < S.l.length := (List.getElem?_eq_some_iff.1 hk).1
  have he : S.l[k] = e := (List.getElem?_eq_some_iff.1 hk).2
  funext p
  refine updF_is ?_ (fun h1 => updF_is ?_ (fun h2 => ?_))
  · simp [segS, rowS_modify hlt, he]
  · simp [segS, List.getElem?_modify, hk, List.take_of_length_le]
  · by_cases h0 : p = []
    · subst h0
      simp [segS]
    · refine arF_but h0 h1 fun j hj => ?_
      have : j ≠ k := fun e => h2 (by rw [hj, e])
      simp [segS, List.getElem?_modify, Ne.symm this]
section
theorem dAdd_l1 {n : Nat} {w0 : World} {I0 M0 : Nat → Prop} {m0 : Mu} {k m : Nat} {a : Int} {Q : Exit → Sta → Prop} (hm : m ≤ 200000) :
    ∀ (j i : Nat) (S : Ar) (e : Nat × List Int), S.l[k]? = some e → i + j = m → (e.2.length + j) * 8 ≤ 140737488355328 →
      Q (.exit 0) ⟨lk [(0, .pob [0] S.u 0), (1, iv k), (2, iv m), (7, iv a), (8, iv m), (19, bv false)], ov 0 (arF 0 (segS S k j)) (lkH [])⟩ →
    LoopC (cxh Try.prog w0 I0 M0 n m0) l1_centoref05_Arena_add Q ⟨lk [(0, .pob [0] S.u 0), (1, iv k), (2, iv m), (7, iv a), (8, iv i)], ov 0 (arF 0 S) (lkH [])⟩ := by
  intro j
  induction j with
  | zero =>
    intro i S e hk hi hn q
    have : i = m := by omega
    subst this
    refine loopC_once mixed l1_centoref05_Arena_add.eq_1 ?_
    rw [segS_zero] at q
    simp
    exact q
  | succ j ih =>
    intro i S e hk hi hn q
    refine loopC_once mixed l1_centoref05_Arena_add.eq_1 ?_
    have hlt : k < S.l.length := (List.getElem?_eq_some_iff.1 hk).1
    have hge : S.l[k] = e := (List.getElem?_eq_some_iff.1 hk).2
    have hlt2 : (i : Int) < m := by omega
    have hn1 : (e.2.length + 1) * 8 ≤ 140737488355328 := by omega
    have hn2 : (e.2.length : Int) * 8 ≤ 140737488355328 := by omega
    simp [hk, hlt, hge, hlt2, hn1, updF_app]
    rw [i64_same (n := (i : Int) + 1) (by omega) (by omega), show A.v (Value.int IntKind.u64 0) = uv 0 from rfl, seg_one hk]
    refine ih (i + 1) (segS S k 1) (e.1 + 1, e.2 ++ List.replicate 1 0) (segS_get hk) (by omega) (by simp; omega) ?_
    rw [segS_one_more]
    exact q
end
theorem dAdd_spec (S : Ar) (k n : Nat) (e : Nat × List Int) (hk : S.l[k]? = some e) (hn : (e.2.length + n) * 8 ≤ 140737488355328) (hm : n ≤ 200000) (h0 : 0 ≤ S.used) (h1 : S.used + n < 9223372036854775808) :
    SpecH Try.prog 106 1 [.pob [0] S.u 0, iv k, iv n] (ov 0 (arF 0 S) (lkH [])) (iv e.2.length) (ov 0 (arF 0 (addS S k n)) (lkH [])) := by
  refine specH_of t_centoref05_Arena_add (by simp) fun w0 I0 M0 m0 => ?_
  unfold c_centoref05_Arena_add
  have hlt : k < S.l.length := (List.getElem?_eq_some_iff.1 hk).1
  have he : S.l[k] = e := (List.getElem?_eq_some_iff.1 hk).2
  simp [hk, hlt, he]
  refine dAdd_l1 (k := k) (m := n) hm n 0 S e hk (by omega) hn ?_
  simp [updF_app]
  refine reth_ret rfl rfl (fun i p hi => ?_)
  have hi0 : i = 0 := by omega
  subst hi0
  simp only [ov_cons, if_true]
  refine updF_is ?_ (fun h1 => ?_)
  · have e1 : S.used = (segS S k n).used := rfl
    simp [addS, i64_same (n := S.used + n) (by omega) h1]
  · exact arF_but' h1 rfl rfl
def rinS (S : Ar) (s n : Int) : Ar := if okIn S s n = true then addS S s.toNat n.toNat else S
theorem lenZ_le {S : Ar} (h : S.Ok) (s : Int) : -1 ≤ lenZ S.w s ∧ lenZ S.w s ≤ S.used := by
  have := h.szAt s
  have := h.used0
  unfold lenZ
  split <;> omega
theorem rIn_spec (S : Ar) (h : S.Ok) (s n : Int) : SpecH Try.prog 64 1 [.pob [0] S.u 0, iv s, iv n] (ov 0 (arF 0 S) (lkH [])) (iv (if okIn S s n = true then szAt S.w s else -1)) (ov 0 (arF 0 (rinS S s n)) (lkH [])) := by
  refine specH_of t_centoref05_Arena_In (by simp) fun w0 I0 M0 m0 => ?_
  unfold c_centoref05_Arena_In
  simp
  have o1 := h.used0
  have o2 := h.used1
  have o3 := h.most1
  have oz0 := h.size0
  have oz1 := h.size1
  have oz := lenZ_le h s
  refine sc_callb [S.a, iv s] ((rLong_spec S.w S.size S.most S.used s).toB rfl) (by simp; exact ⟨frz_ar, frz_bare rfl⟩) (by simp) ?_
  simp
  have off : (decide (lenZ S.w s < 0) || decide (n < 0)) = true ∨ S.most - S.used < n → okIn S s n = false := fun hd => by
    simp only [okIn, decide_eq_false_iff_not]
    simp [lenZ, Ar.w] at hd ⊢
    split at hd <;> omega
  by_cases hd : (decide (lenZ S.w s < 0) || decide (n < 0)) = true
  · have hk := off (.inl hd)
    have hc : 0 ≤ lenZ S.w s → n < 0 := fun h0 => by simp at hd; omega
    simp [hd]
    refine ⟨hc, ?_⟩
    refine sc_call_off rfl ?_
    simp
    exact reth_ret rfl (by simp [hk]) (fun i p hi => by simp [rinS, hk])
  · have hd := Bool.eq_false_iff.2 hd
    by_cases h2 : S.most - S.used < n
    · have hk := off (.inr h2)
      simp [hd, h2, i64_same (n := S.most - S.used) (by omega) (by omega)]
      refine sc_call_off rfl ?_
      simp
      exact reth_ret rfl (by simp [hk]) (fun i p hi => by simp [rinS, hk])
    · simp [hd, h2, i64_same (n := S.most - S.used) (by omega) (by omega)]
      refine sc_callb_gf [S.a, iv s] rfl (fun _ => (rLong_spec S.w S.size S.most S.used s).toB rfl) (fun _ => by simp; exact ⟨frz_ar, frz_bare rfl⟩) (by simp) ?_
      have hd' : 0 ≤ lenZ S.w s ∧ 0 ≤ n := by simp at hd; exact hd
      have hin : 0 ≤ s ∧ s < S.w.length := by
        refine Decidable.byContradiction fun e => ?_
        have := hd'.1
        simp [lenZ, e] at this
      have hz : lenZ S.w s = szAt S.w s := by simp [lenZ, hin]
      simp [i64_same (n := S.size - lenZ S.w s) (by omega) (by omega)]
      refine ⟨fun hc => ?_, fun hc => ?_⟩
      · have hk : okIn S s n = false := by simp only [okIn, decide_eq_false_iff_not]; omega
        exact reth_ret rfl (by simp [hk]) (fun i p hi => by simp [rinS, hk])
      · have hlt0 : s < S.l.length := by simpa [Ar.w] using hin.2
        have hk : okIn S s n = true := by simp only [okIn, decide_eq_true_eq]; exact ⟨hin.1, hlt0, hd'.2, by omega, by omega⟩
        obtain ⟨k, rfl⟩ := Int.eq_ofNat_of_zero_le hin.1
        obtain ⟨m, rfl⟩ := Int.eq_ofNat_of_zero_le hd'.2
        have hlt : k < S.l.length := by omega
        have hz2 : (Go.Proofs.Ytehcobkphobjiaa.szAt S.w k : Int) = S.l[k].2.length := szAt_get hlt
        refine sc_ar (r := 0) (dAdd_spec S k m S.l[k] (List.getElem?_eq_getElem hlt) (by omega) (by omega) o1 (by omega)) (fun p => rfl) rfl (fun _ _ => rfl) (fun _ => ⟨trivial, trivial, trivial⟩) (fun _ _ => rfl) (fun _ => trivial) (by simp) ?_
        simp
        refine reth_ret rfl ?_ (fun i p hi => ?_)
        · simp [hk, hz2]
        · simp [rinS, hk]
def rgiveS (S : Ar) (n : Int) : Ar := if okGive S n = true then addS (atS S n) ((atS S n).l.length - 1) n.toNat else S
theorem rGive_k1 {n : Nat} {w0 : World} {I0 M0 : Nat → Prop} {m0 : Mu} {S : Ar} {k m : Nat} (hk : k < S.l.length) (h0 : 0 ≤ S.used) (h1 : S.used + m ≤ 131072) (h2 : (S.l[k].2.length : Int) ≤ S.used) (hl : S.l.length ≤ 16) {r : A} {Hr : Hp} {z : Int} (hz : z = (k : Int) + 1)
    {G : Hp} (hG : ∀ o, G o = ov 0 (arF 0 S) (lkH []) o) (hr : r = .tup [iv k, iv S.l[k].2.length]) (hH : Hr = ov 0 (arF 0 (addS S k m)) (lkH [])) :
    WPC (cxh Try.prog w0 I0 M0 n m0) k1_centoref05_Arena_Give (RetH (cxh Try.prog w0 I0 M0 n m0) [.tmp 4, .tmp 5] 1 r Hr) ⟨lk [(0, .pob [0] S.u 0), (1, iv m), (6, iv z)], G⟩ := by
  have hG := funext hG
  subst hr hH hG
  unfold k1_centoref05_Arena_Give
  have e1 : IntKind.i64.wrap (z - 1) = (k : Int) := (i64_same (n := z - 1) (by omega) (by omega)).trans (by omega)
  simp [e1]
  refine sc_ar (r := 0) (dAdd_spec S k m S.l[k] (List.getElem?_eq_getElem hk) (by omega) (by omega) h0 (by omega)) (fun p => rfl) rfl (fun _ _ => rfl) (fun _ => ⟨trivial, trivial, trivial⟩) (fun _ _ => rfl) (fun _ => trivial) (by simp) ?_
  simp [e1]
  exact reth_ret rfl rfl (fun i p hi => rfl)
set_option pp.deepTerms true in
set_option pp.maxSteps 1000000 in
theorem rGive_spec (S : Ar) (h : S.Ok) (n : Int) : SpecH Try.prog 63 1 [.pob [0] S.u 0, iv n] (ov 0 (arF 0 S) (lkH []))
    (.tup [iv (if okGive S n = true then ((atS S n).l.length : Int) - 1 else -1), iv (if okGive S n = true then (szAt (atS S n).w (((atS S n).l.length : Int) - 1) : Int) else -1)]) (ov 0 (arF 0 (rgiveS S n)) (lkH [])) := by
  refine specH_of t_centoref05_Arena_Give (by simp) fun w0 I0 M0 m0 => ?_
  unfold c_centoref05_Arena_Give
  have o1 := h.used0
  have o2 := h.used1
  have o3 := h.most1
  have o4 := h.len
  have oz0 := h.size0
  have oz1 := h.size1
  have oz := h.szAt ((S.l.length : Int) - 1)
  by_cases hn : n < 0
  · have hk : okGive S n = false := by simp only [okGive, decide_eq_false_iff_not]; omega
    simp [hn]
    exact reth_ret rfl (by simp [hk]) (fun i p hi => by simp [rgiveS, hk])
  by_cases hu : S.most - S.used < n
  · have hk : okGive S n = false := by simp only [okGive, decide_eq_false_iff_not]; omega
    simp [hn, hu, i64_same (n := S.most - S.used) (by omega) (by omega)]
    exact reth_ret rfl (by simp [hk]) (fun i p hi => by simp [rgiveS, hk])
  have hk : okGive S n = true := by simp only [okGive, decide_eq_true_eq]; omega
  obtain ⟨m, rfl⟩ := Int.eq_ofNat_of_zero_le (show 0 ≤ n by omega)
  have hmm : ((m : Int)).toNat = m := by omega
  have new : newSeg S m = true → ∀ G : Hp, (∀ o, G o = ov 0 (arF 0 (moreS S)) (lkH []) o) → WPC (cxh Try.prog w0 I0 M0 64 m0) k1_centoref05_Arena_Give (RetH (cxh Try.prog w0 I0 M0 64 m0) [.tmp 4, .tmp 5] 1 (A.tup
          [iv (if okGive S m = true then ((atS S m).l.length : Int) - 1 else -1), iv (if okGive S m = true then (szAt (atS S m).w (((atS S m).l.length : Int) - 1) : Int) else -1)]) (ov 0 (arF 0 (rgiveS S m)) (lkH []))) ⟨lk [(0, .pob [0] S.u 0), (1, iv m), (6, iv ((S.l.length : Int) + 1))], G⟩ := fun hs G hG => by
    have hat : atS S m = moreS S := by simp [atS, hs]
    have hl : (moreS S).l.length = S.l.length + 1 := by simp [moreS]
    have hlt : S.l.length < (moreS S).l.length := by omega
    have hg : (moreS S).l[S.l.length].2 = [] := by simp [moreS]
    have hx : (moreS S).l.length ≤ 16 := by
      have := (atS_ok h m).len
      rwa [hat] at this
    refine rGive_k1 (S := moreS S) (k := S.l.length) (m := m) hlt (by simpa [moreS] using o1) (by simp only [moreS]; omega) (by rw [hg]; simpa [moreS] using o1) hx rfl hG ?_ ?_
    · have hz := szAt_get hlt
      rw [hat, hk, hl]
      simp only [if_true]
      rw [show ((S.l.length + 1 : Nat) : Int) - 1 = (S.l.length : Int) from by omega, hz]
    · rw [rgiveS, hk, if_pos rfl, hat, hl, hmm]
      rfl
  have old : newSeg S m = false → WPC (cxh Try.prog w0 I0 M0 64 m0) k1_centoref05_Arena_Give (RetH (cxh Try.prog w0 I0 M0 64 m0) [.tmp 4, .tmp 5] 1 (A.tup
          [iv (if okGive S m = true then ((atS S m).l.length : Int) - 1 else -1), iv (if okGive S m = true then (szAt (atS S m).w (((atS S m).l.length : Int) - 1) : Int) else -1)]) (ov 0 (arF 0 (rgiveS S m)) (lkH []))) ⟨lk [(0, .pob [0] S.u 0), (1, iv m), (6, iv (S.l.length : Int))], ov 0 (arF 0 S) (lkH [])⟩ := fun hs => by
    have hat : atS S m = S := by simp [atS, hs]
    have h0 : S.l.length ≠ 0 := fun e => by simp [newSeg, e] at hs
    have ec : (S.l.length : Int) - 1 = ((S.l.length - 1 : Nat) : Int) := by omega
    have hlt : S.l.length - 1 < S.l.length := by omega
    rw [hat, hk, ec]
    refine rGive_k1 (S := S) (k := S.l.length - 1) (m := m) hlt o1 (by omega) (h.seg _ (List.getElem_mem _)) o4 (by omega) (fun o => rfl) ?_ ?_
    · simp only [if_true]
      rw [szAt_get hlt]
    · rw [rgiveS, hk, if_pos rfl, hat, hmm]
  have e7 : IntKind.i64.wrap S.l.length = S.l.length := i64_same (by omega) (by omega)
  have e8 : IntKind.i64.wrap ((S.l.length : Int) + 1) = (S.l.length : Int) + 1 := i64_same (by omega) (by omega)
  have e9 : IntKind.i64.wrap ((S.l.length : Int) - 1) = (S.l.length : Int) - 1 := i64_same (by omega) (by omega)
  have e10 : IntKind.i64.wrap (S.most - S.used) = S.most - S.used := i64_same (by omega) (by omega)
  have hm0 : decide ((m : Int) < 0) = false := by simp
  have hu' : ¬ S.most - S.used < (m : Int) := hu
  by_cases h0 : S.l.length = 0
  · have hs : newSeg S m = true := by simp [newSeg, h0]
    simp [hm0, hu', e10, h0]
    refine sc_call_off rfl ?_
    simp [updF_app]
    refine ⟨by omega, ?_⟩
    have e12 : A.v (Value.int IntKind.i64 (IntKind.i64.wrap 1)) = iv ((S.l.length : Int) + 1) := by
      rw [h0]
      rfl
    rw [e12]
    obtain ⟨G, g1, g2⟩ := le_more (c := cxh Try.prog w0 I0 M0 64 m0) (s := lk [(0, .pob [0] S.u 0), (1, iv m), (6, iv ((S.l.length : Int) + 1))]) (S := S)
    exact stop_le g1 (stop_go (new hs G g2))
  · have hz : lenZ S.w ((S.l.length : Int) - 1) = szAt S.w ((S.l.length : Int) - 1) := by simp [lenZ, Ar.w]; omega
    simp [hm0, hu', e10, h0, e9]
    refine sc_callb_gf [S.a, iv ((S.l.length : Int) - 1)] rfl (fun _ => (rLong_spec S.w S.size S.most S.used _).toB rfl) (fun _ => by simp; exact ⟨frz_ar, frz_bare rfl⟩) (by simp) ?_
    rw [hz]
    have e11 : IntKind.i64.wrap (S.size - szAt S.w ((S.l.length : Int) - 1)) = S.size - szAt S.w ((S.l.length : Int) - 1) := i64_same (by omega) (by omega)
    by_cases hr : (m : Int) ≤ S.size - szAt S.w ((S.l.length : Int) - 1)
    · have hs : newSeg S m = false := by simp [newSeg, h0, hr]
      have hr' : ¬ S.size - szAt S.w ((S.l.length : Int) - 1) < (m : Int) := by omega
      simp [e11, hr']
      exact stop_go (old hs)
    · have hr' : S.size - szAt S.w ((S.l.length : Int) - 1) < (m : Int) := by omega
      by_cases h16 : S.l.length < 16
      · have hs : newSeg S m = true := by simp [newSeg, h0, hr, h16]
        have h16' : (S.l.length : Int) < 16 := by omega
        simp [e11, hr', h16', updF_app, e8]
        refine ⟨by omega, ?_⟩
        obtain ⟨G, g1, g2⟩ := le_more (c := cxh Try.prog w0 I0 M0 64 m0) (s := lk [(0, .pob [0] S.u 0), (1, iv m), (6, iv ((S.l.length : Int) + 1))]) (S := S)
        exact stop_le g1 (stop_go (new hs G g2))
      · have hs : newSeg S m = false := by simp [newSeg, h0, hr, h16]
        have h16' : ¬ (S.l.length : Int) < 16 := by omega
        simp [e11, hr', h16']
        exact stop_go (old hs)
theorem rNew_spec (z m : Int) : SpecH Try.prog 21 1 [iv z, iv m] (lkH []) (.pob [0] 1 0) (ov 0 (arF 0 (newAr z m)) (lkH [])) := by
  refine specH_of t_centoref05_New (by simp) fun w0 I0 M0 m0 => ?_
  unfold c_centoref05_New
  have key : ∀ a b : Int, a = max z 1 → b = min (max m 0) 131072 → RetH (cxh Try.prog w0 I0 M0 15 m0) [.tmp 4] 1 (.pob [0] 1 0) (ov 0 (arF 0 (newAr z m)) (lkH [])) .ret ⟨lk [(4, .pob [0] 1 0)], lkH [([0], ⟨1, .cells [.sl true [], iv a, iv b, iv 0]⟩)]⟩ := by
    rintro a b rfl rfl
    refine reth_le (le_blankC (d := [0]) 0 [0, 0] 1 rfl rfl (by simp)) ?_
    simp
    refine reth_ret rfl rfl (fun i p hi => ?_)
    have hi0 : i = 0 := by omega
    subst hi0
    simp only [lkH_cons, lkH_nil, ov_cons, if_true]
    match p with
    | [] => rfl
    | [0] => rfl
    | [0, i] => rfl
    | (a + 1) :: q => rfl
    | 0 :: a :: b :: q => rfl
  by_cases h1 : z < 1
  · simp [h1]
    rw [k2_centoref05_New.eq_1]
    by_cases h2 : m < 0
    · simp [h2]
      rw [k1_centoref05_New.eq_1]
      simp
      exact key 1 0 (by omega) (by omega)
    · simp [h2]
      rw [k1_centoref05_New.eq_1]
      by_cases h3 : 131072 < m
      · simp [h3]
        exact key 1 131072 (by omega) (by omega)
      · simp [h3]
        exact key 1 m (by omega) (by omega)
  · simp [h1]
    rw [k2_centoref05_New.eq_1]
    by_cases h2 : m < 0
    · simp [h2]
      rw [k1_centoref05_New.eq_1]
      simp
      exact key z 0 (by omega) (by omega)
    · simp [h2]
      rw [k1_centoref05_New.eq_1]
      by_cases h3 : 131072 < m
      · simp [h3]
        exact key z 131072 (by omega) (by omega)
      · simp [h3]
        exact key z m (by omega) (by omega)
end Go.Proofs.Ytehcobkphobjiaa

/-
  Chapters 9 and 10, plain: values where they lie, and what they mean.
-/
namespace Go.Proofs.Ytehcobkphobjiaa
set_option linter.unusedVariables false
set_option linter.unusedSimpArgs false
open Go Go.G Go.Proofs Go.PL
/-- A value where it lies. -/
structure Rf where
  kind : Int
  s : Int
  at_ : Int
  data : Int
  kids : Int
  count : Int
  n : Int
def Rf.zero : Rf := ⟨0, 0, 0, 0, 0, 0, 0⟩
def nk (r : Rf) : Int := if r.kind = 1 then r.kids else r.count
def compP (l : List (List Int)) (s a m : Int) : Rf × Int :=
  if ((word l s a).getD 0 ≠ 0 ∧ (dec ((word l s a).getD 0)).kind ≠ 1) ∨ (dec ((word l s a).getD 0)).off < 0 ∨ m < (dec ((word l s a).getD 0)).off * ((dec ((word l s a).getD 0)).data + (dec ((word l s a).getD 0)).ptrs) then (Rf.zero, 8)
  else (⟨9, s, a + 1, (dec ((word l s a).getD 0)).data, (dec ((word l s a).getD 0)).ptrs, (dec ((word l s a).getD 0)).off, 0⟩, 0)
/-- What a shape at a place is. -/
def refP (l : List (List Int)) (x : Lc) : Rf × Int :=
  if x.p.kind = 1 then (⟨1, x.s, x.at_, x.p.data, x.p.ptrs, 0, 0⟩, 0)
  else if x.p.code < 7 then (⟨2 + x.p.code, x.s, x.at_, 0, 0, x.p.count, 0⟩, 0)
  else compP l x.s x.at_ x.p.count
def atP (l : List (List Int)) (s a : Int) : Rf × Int :=
  if (followP l s a).2 ≠ 0 ∨ (followP l s a).1.p.kind = 0 then (Rf.zero, (followP l s a).2) else refP l (followP l s a).1
def getZ (g : List Int) (c i : Int) : Int :=
  if widthZ c < 1 ∨ i < 0 ∨ 1099511627776 < i then 0 else ((g[(i * widthZ c / 64).toNat]?).getD 0) / 2 ^ (i * widthZ c % 64).toNat % 2 ^ (widthZ c).toNat
def atomZ (l : List (List Int)) (r : Rf) (i : Int) : Int := getZ (((seg l r.s).getD []).drop r.at_.toNat) (r.kind - 2) i
def kidP (l : List (List Int)) (r : Rf) (i : Int) : Rf × Int :=
  if i < 0 ∨ nk r ≤ i then (Rf.zero, 0)
  else if r.kind = 1 then atP l r.s (r.at_ + r.data + i)
  else if r.kind = 8 then atP l r.s (r.at_ + i)
  else if r.kind = 9 then (⟨1, r.s, r.at_ + i * (r.data + r.kids), r.data, r.kids, 0, 0⟩, 0)
  else (⟨10, 0, 0, 0, 0, 0, atomZ l r i⟩, 0)
def wordsR (l : List (List Int)) (r : Rf) : List Int := if r.kind = 10 then [r.n] else if r.kind ≠ 1 then [] else part l r.s r.at_ r.data
/-- It lies in its segment. -/
inductive RfOk (l : List (List Int)) : Rf → Prop
  | zero : RfOk l Rf.zero
  | str (s a d k : Int) : 0 ≤ d → d < 65536 → 0 ≤ k → k < 65536 → hasW l s a (d + k) = true → RfOk l ⟨1, s, a, d, k, 0, 0⟩
  | dat (c s a n : Int) : 0 ≤ c → c < 6 → 0 ≤ n → n < 536870912 → hasW l s a ((n * bitsOf c + 63) / 64) = true → RfOk l ⟨2 + c, s, a, 0, 0, n, 0⟩
  | ptrs (s a n : Int) : 0 ≤ n → n < 536870912 → hasW l s a n = true → RfOk l ⟨8, s, a, 0, 0, n, 0⟩
  | comp (s a d k n : Int) : 0 ≤ d → d < 65536 → 0 ≤ k → k < 65536 → 0 ≤ n → n < 536870912 → hasW l s a (n * (d + k)) = true → RfOk l ⟨9, s, a, d, k, n, 0⟩
  | atom (n : Int) : 0 ≤ n → n < 18446744073709551616 → RfOk l ⟨10, 0, 0, 0, 0, 0, n⟩
/-! ### what is followed lies in its segment -/
/-! ### what it means -/
inductive Means (l : List (List Int)) : Rf → T → Prop
  | mk (r : Rf) (t : T) : RfOk l r → r.kind = t.kind → wordsR l r = t.words → nk r = t.kids.length → (∀ (i : Nat) (h : i < t.kids.length), (kidP l r i).2 = 0) → (∀ (i : Nat) (h : i < t.kids.length), Means l (kidP l r i).1 t.kids[i]) → Means l r t
end Go.Proofs.Ytehcobkphobjiaa

/-
  Trees and edits as arguments, whatever the room of their slices; operations under a guard.
-/
namespace Go.Proofs.Ytehcobkphobjiaa
set_option linter.unusedVariables false
set_option linter.unusedSimpArgs false
open Go Go.G Go.Proofs Go.PL
@[simp] theorem GtG_shift {q : Bool} {n : Nat} {y : A} {K : A → Prop} : GtG q (A.shift n (gd q y)) K = GtG q (A.shift n y) K := GtG_same fun h => by rw [h]; rfl
/-! ### slices of any room -/
end Go.Proofs.Ytehcobkphobjiaa

/-
  Chapter 9: values are read where they lie, by the program.
-/
namespace Go.Proofs.Ytehcobkphobjiaa
set_option linter.unusedVariables false
set_option linter.unusedSimpArgs false
open Go Go.G Go.Proofs Go.PL
/-- Segments that memory can hold. -/
structure Sg (l : List (List Int)) : Prop where
  b : ∀ x, x ∈ l → x.length * 8 ≤ 140737488355328
  w : Wds l
def arO (l : List (List Int)) (r : Rf) : A := if r.kind = 0 then .v (.pointer none) else arn l
@[simp] theorem arO_cells (l : List (List Int)) (r : Rf) : (arO l r).cells = [arO l r] := by unfold arO; split <;> rfl
@[simp] theorem arO_one (l : List (List Int)) (r : Rf) : (arO l r).one = true := by unfold arO; split <;> rfl
@[simp] theorem arO_bare (l : List (List Int)) (r : Rf) : (arO l r).bare = true := by unfold arO; split <;> rfl
@[simp] theorem arO_bare1 (l : List (List Int)) (r : Rf) : (arO l r).bare1 = true := by unfold arO; split <;> rfl
@[simp] theorem arO_bare2 (l : List (List Int)) (r : Rf) : (arO l r).bare2 = true := by unfold arO; split <;> rfl
abbrev paL (l : List (List Int)) (r : Rf) : List A := [arO l r, iv r.kind, iv r.s, iv r.at_, iv r.data, iv r.kids, iv r.count, uv r.n]
/-! ### small numbers -/
/-! ### a value -/
end Go.Proofs.Ytehcobkphobjiaa

/-
  Chapter 15: the hash.
-/
namespace Go.Proofs.Ytehcobkphobjiaa
set_option linter.unusedVariables false
set_option linter.unusedSimpArgs false
open Go Go.G Go.Proofs Go.PL
def mixG (h x : Int) : Int := IntKind.u64.wrap (bits .xor .u64 h x * 1099511628211)
def mixH (h x : Int) : Int := bits .xor .u64 (mixG h x) (mixG h x / 2 ^ min 29 IntKind.u64.bits)
mutual
def hashN : T → Int
  | .mk k w l => hashL (w.foldl mixH (mixH (mixH 14695981039346656037 (IntKind.u64.wrap k)) (IntKind.u64.wrap w.length))) l
def hashL : Int → List T → Int
  | h, [] => h
  | h, t :: l => hashL (mixH h (hashN t)) l
end
end Go.Proofs.Ytehcobkphobjiaa

/-
  Chapter 16, plain: places that are hashed by hand.
-/
namespace Go.PL
set_option linter.unusedVariables false
set_option linter.unusedSimpArgs false
/-- Places of so many classes, by their numbers. -/
structure Pl (hs : List Nat) (pl : List Nat) : Prop where
  cnt : pl.countP (fun v => v != 0) = hs.length
  vals : ∀ v, v ∈ pl → v ≤ hs.length
  reach : ∀ (c : Nat) (hc : c < hs.length), ∃ d, pl[(hs[c] + d) % pl.length]? = some (c + 1) ∧ ∀ e, e < d → pl.getD ((hs[c] + e) % pl.length) 0 ≠ 0
theorem Pl.nil (m : Nat) : Pl [] (List.replicate m 0) := by
  refine ⟨?_, fun v hv => ?_, fun c hc => ?_⟩
  · simp [List.countP_replicate]
  · simp at hv; omega
  · simp at hc
end Go.PL

/-
  Chapter 16: tables of classes.
-/
namespace Go.Proofs.Ytehcobkphobjiaa
set_option linter.unusedVariables false
set_option linter.unusedSimpArgs false
open Go Go.G Go.Proofs Go.PL
/-- A class: its number of what it means; where its value lies, and what it means. -/
structure Cl where
  l : List (List Int)
  r : Rf
  t : T
noncomputable def Cl.h (c : Cl) : Int := hashN (norm c.t)
noncomputable def Cl.hn (c : Cl) : Nat := c.h.toNat
abbrev clL (h : Int) (l : List (List Int)) (r : Rf) : List A := uv h :: paL l r
noncomputable def Cl.a (c : Cl) : A := .agg (clL c.h c.l c.r)
/-- A table: versions, classes, places. -/
structure Tb where
  u : Nat
  uc : Nat
  up : Nat
  cl : List Cl
  pl : List Nat
structure Tb.Ok (S : Tb) : Prop where
  p8 : 8 ≤ S.pl.length
  half : 2 * S.cl.length ≤ S.pl.length
  most : S.pl.length ≤ 8 + 4 * S.cl.length
  pl : Pl (S.cl.map Cl.hn) S.pl
  means : ∀ c, c ∈ S.cl → Sg c.l ∧ Means c.l c.r c.t
  nd : (S.cl.map fun c => norm c.t).Nodup
noncomputable def Tb.ks (S : Tb) : List T := S.cl.map fun c => norm c.t
@[simp] theorem Tb.ks_length (S : Tb) : S.ks.length = S.cl.length := by simp [Tb.ks]
/-- But for its room. -/
structure Tb.Ok1 (S : Tb) : Prop where
  p8 : 8 ≤ S.pl.length
  half : 2 * S.cl.length ≤ S.pl.length + 2
  most : S.pl.length ≤ 8 + 4 * S.cl.length
  pl : Pl (S.cl.map Cl.hn) S.pl
  means : ∀ c, c ∈ S.cl → Sg c.l ∧ Means c.l c.r c.t
  nd : (S.cl.map fun c => norm c.t).Nodup
theorem Tb.Ok1.ok {S : Tb} (h : S.Ok1) (hf : ¬ S.pl.length < 2 * S.cl.length) : S.Ok := ⟨h.p8, by omega, h.most, h.pl, h.means, h.nd⟩
section
variable {n0 : Nat} {w0 : World} {I0 : Nat → Prop} {Q : Exit → Sta → Prop}
end
end Go.Proofs.Ytehcobkphobjiaa

/-
  The functions' text as data, and the facts on the types that they use: written by a program of ours (gen2.py) off the translation.
-/
namespace Go.Proofs.Ytehcobkphobjiaa
set_option linter.unusedVariables false
set_option linter.unusedSimpArgs false
set_option maxRecDepth 20000
open Go Go.G Go.Proofs
@[simp] theorem szT_38 : szT Try.prog 38 = some 1 := by kernel_rfl
@[simp] theorem aggT_38 : aggT Try.prog 38 = some false := by kernel_rfl
@[simp] theorem fieldOffT_125_0 : fieldOffT Try.prog 125 0 = some 0 := by kernel_rfl
@[simp] theorem fieldOffT_125_1 : fieldOffT Try.prog 125 1 = some 1 := by kernel_rfl
@[simp] theorem buildA_125 (ps : List (Nat × A)) : buildA Try.prog 125 ps = (fillA (fun i => ([(0, 1), (1, 1)] : List (Nat × Nat))[i]?) [A.v (Value.pointer none), A.v (Value.bool false)] ps).map A.agg := by kernel_rfl
end Go.Proofs.Ytehcobkphobjiaa

/-
  Chapter 13's definition: a builder over an arena.
-/
namespace Go.Proofs.Ytehcobkphobjiaa
set_option linter.unusedVariables false
set_option linter.unusedSimpArgs false
open Go Go.G Go.Proofs
/-- How many words a segment holds. -/
def wl (S : Ar) (k : Nat) : Nat := ((S.l[k]?).map fun e => e.2.length).getD 0
/-- All its words are words. -/
def Wd (S : Ar) : Prop := ∀ e, e ∈ S.l → ∀ x, x ∈ e.2 → u64R x
/-- It is good, and holds no less. -/
structure Gr (S S' : Ar) : Prop where
  ok : S'.Ok
  wd : Wd S'
  wl : ∀ k, Go.Proofs.Ytehcobkphobjiaa.wl S k ≤ Go.Proofs.Ytehcobkphobjiaa.wl S' k
theorem Gr.trans {S S' S2 : Ar} (h : Gr S S') (k : Gr S' S2) : Gr S S2 := ⟨k.ok, k.wd, fun i => Nat.le_trans (h.wl i) (k.wl i)⟩
theorem atS_pos (S : Ar) (n : Int) : 1 ≤ (atS S n).l.length := by
  unfold atS
  split
  · simp [moreS]
  · rename_i h
    simp [newSeg] at h
    cases e : S.l with
    | nil => simp [e] at h
    | cons a l => simp
theorem rgiveS_u (S : Ar) (n : Int) : (rgiveS S n).u = S.u := by
  have : (atS S n).u = S.u := by unfold atS; split <;> rfl
  unfold rgiveS
  split
  · exact this
  · rfl
theorem rinS_u (S : Ar) (s n : Int) : (rinS S s n).u = S.u := by
  unfold rinS
  split <;> rfl
/-- A word is written. -/
def wrS (S : Ar) (k b : Nat) (w : Int) : Ar := { S with l := S.l.modify k fun e => (e.1, e.2.set b w) }
/-- Alike but for one segment's words. -/
theorem arF_wr {r : Nat} {S : Ar} {k b : Nat} {w : Int} (hk : k < S.l.length) : updF (arF r S) [0, k] ⟨S.l[k].1, .arr 1 ((S.l[k].2.map uv).set b (uv w))⟩ = arF r (wrS S k b w) := by
  funext p
  refine updF_is ?_ (fun h1 => ?_)
  · simp [wrS, List.getElem?_modify, hk]
  · match p, h1 with
    | [], _ => simp [wrS]
    | [0], _ =>
      have e : rowS r (S.l.modify k fun e => (e.1, e.2.set b w)) = rowS r S.l := by
        apply List.ext_getElem
        · simp
        · intro i g1 g2
          simp only [rowS_get, List.getElem_modify]
          by_cases e : k = i
          · subst e; simp
          · simp [e]
      simp [e, wrS]
    | [0, i], h1 =>
      have : k ≠ i := fun e => h1 (by rw [e])
      simp [List.getElem?_modify, this, wrS]
    | (a + 1) :: q, _ => rfl
    | 0 :: a :: b :: q, _ => rfl
end Go.Proofs.Ytehcobkphobjiaa

/-
  Chapter 5: what is given and put, in both arenas at once.
-/
namespace Go.Proofs.Ytehcobkphobjiaa
set_option linter.unusedVariables false
set_option linter.unusedSimpArgs false
open Go Go.G Go.Proofs
def arM (S : Ar) : Fam := ⟨fun r => arF r S, fun h1 h2 p => arF_ren h1 h2 S p, fun h p => arF_refs h S p⟩
@[simp] theorem arM_F {S : Ar} {r : Nat} : (arM S).F r = arF r S := rfl
theorem frz_arH {r : Nat} {S : Ar} {H : Hp} (h : ∀ p, H (r :: p) = arF r S p) : Frz H (.pob [r] S.u 0) S.a := by
  have : H = ov r (arF r S) H := by
    funext o
    cases o with
    | nil => rfl
    | cons j p =>
      by_cases hj : j = r
      · subst hj; simp [h]
      · simp [hj]
  rw [this]
  exact frz_ar
/-- An arena's segments, as they are read. -/
theorem frz_arS {r : Nat} {S : Ar} {H : Hp} (hH : ∀ p, H (r :: p) = arF r S p) : Frz H (.osl [r, 0] S.ur 1 0 S.l.length) (sgs S.w) := by
  have h0 := hH [0]
  refine frz_osl' (o := [r, 0]) (u := S.ur) (off := 0) (len := S.l.length) (sz := 1) (xs := rowS r S.l) (ys := S.w.map ws) (by simp [h0]) (by simp) (by simp [Ar.w]) (by simp) (by simp [A.ones]) ?_
  have e1 : List.flatMap A.cells (List.take S.l.length (List.drop 0 (rowS r S.l))) = rowS r S.l := by
    rw [List.drop_zero, List.take_of_length_le (by simp)]
    exact flat_ones fun x hx => by
      obtain ⟨i, hi, rfl⟩ := List.mem_mapIdx.1 hx
      rfl
  have e2 : List.flatMap A.cells (List.map ws S.w) = List.map ws S.w := flat_ones fun x hx => by
    obtain ⟨i, hi, rfl⟩ := List.mem_map.1 hx
    rfl
  rw [e1, e2]
  refine frzL_intro (by simp [Ar.w]) fun k a a' ha ha' => ?_
  simp at ha ha'
  obtain ⟨p, q, hk, rfl⟩ := ha
  obtain ⟨g, hg, rfl⟩ := ha'
  simp [Ar.w, hk] at hg
  subst hg
  have := frz_osl (H := H) (o := [r, 0, k]) (u := p) (off := 0) (len := q.length) (sz := 1) (xs := q.map uv) (by simp [hH, hk]) (by simp) (by simp [List.take_of_length_le])
  simpa [List.take_of_length_le] using this
theorem ar_b {S : Ar} (h : S.Ok) : ∀ x, x ∈ S.w → x.length * 8 ≤ 140737488355328 := fun x hx => by
  obtain ⟨e, he, rfl⟩ := List.mem_map.1 hx
  have := h.seg e he
  have := h.used1
  have := h.most1
  omega
theorem Of_ar {S : Ar} (h : S.Ok) : SpecN Try.prog 13 (fun r => [.osl [r, 0] S.ur 1 0 S.l.length]) (arM S) (fun _ q => .pob [q] 1 0) (arM S) (aoM (S.l.length + 1) S.w) := by
  have hw : S.w.length = S.l.length := by simp [Ar.w]
  have h16 := h.len
  have := OfN_gen (l := S.w) (u := S.ur) (F := arM S) (xs := rowS 0 S.l) (by omega) (ar_b h) (by simp [Ar.w]) rfl (fun x hx => by
    obtain ⟨i, hi, rfl⟩ := List.mem_mapIdx.1 hx
    rfl) fun i hi H hH => by
    have hi' : i < S.l.length := by omega
    rw [rowS_get]
    have hr : H [0, 0, i] = ⟨S.l[i].1, .arr 1 (S.l[i].2.map uv)⟩ := by rw [hH]; simp [hi']
    have := frz_osl (H := H) (o := [0, 0, i]) (u := S.l[i].1) (off := 0) (len := S.l[i].2.length) (sz := 1) (xs := S.l[i].2.map uv) (by simp [hr]) (by simp) (by simp [List.take_of_length_le])
    simpa [List.take_of_length_le, Ar.w] using this
  rw [hw] at this
  exact this
theorem Segs_ar {S : Ar} (h : S.Ok) : SpecN Try.prog 15 (fun r => [.pob [r] S.u 0]) (arM S) (fun _ q => .osl [q, 0] (S.l.length + 1) 1 0 S.l.length) (arM S) (aoM (S.l.length + 1) S.w) := by
  have hw : S.w.length = S.l.length := by simp [Ar.w]
  refine specN_of t_arena_Arena_Segments (by simp) (famL_cons famA_pob famL_nil) (famA2_r famA_osl) (fun p => aoF_u (by omega) p) fun w0 I0 M0 m0 => ?_
  unfold c_arena_Arena_Segments
  simp
  refine sc_famN 0 1 (by decide) (Of_ar h) (fun p => by simp) (fun p => by simp) (by simp) (by simp) ?_
  simp [hw]
  exact reth_fam2 rfl rfl (fun p => by simp) (fun p => by simp)
theorem le_soft5 {c : Cx} {s : Nat → A} {H : Hp} (t : Nat) : Le c ⟨s, H⟩ ⟨upd s t (A.soft (s t)), H⟩ := fun a w I μ hs =>
  ⟨I, μ, hs.sim, hs.size, hs.defers, fun k => by
    show Rel w I μ (upd s t (A.soft (s t)) k) _
    unfold upd
    split
    · rename_i e
      subst e
      exact (hs.rel _).soft
    · exact hs.rel k⟩
theorem Part_ar {S : Ar} (h : S.Ok) (s a n : Int) : SpecF Try.prog 27 (fun r => [.pob [r] S.u 0, iv s, iv a, iv n]) (arM S) (fun _ => .tup [ws (if hasW S.w s a n = true then part S.w s a n else []), bv (hasW S.w s a n)]) (arM S) := by
  refine specF_of t_arena_Arena_Part (by simp) (famL_cons famA_pob (famL_cons famA_v (famL_cons famA_v (famL_cons famA_v famL_nil)))) (famA_tup (famL_cons famA_sl (famL_cons famA_v famL_nil))) fun w0 I0 M0 m0 => ?_
  unfold c_arena_Arena_Part
  simp
  refine sc_callb [S.a, iv s, iv a, iv n] ((has_spec S.w (ar_b h) s a n).toB rfl) (by simp; exact ⟨frz_ar, frz_bare rfl, frz_bare rfl, frz_bare rfl⟩) (by simp) ?_
  cases hh : hasW S.w s a n with
  | false =>
    simp
    refine reth_le (le_soft5 8) ?_
    exact reth_fam rfl (by simp [upd, A.soft, A.softL]) (fun p => by simp)
  | true =>
    obtain ⟨h1, h2, h3, h4, h5, e1, h6⟩ := hasW_in hh
    obtain ⟨k, rfl⟩ := Int.eq_ofNat_of_zero_le h1
    obtain ⟨b, rfl⟩ := Int.eq_ofNat_of_zero_le h3
    obtain ⟨m, rfl⟩ := Int.eq_ofNat_of_zero_le h4
    have hk : k < S.l.length := by simpa [Ar.w] using h2
    have hwk : S.w[k]'(by simpa [Ar.w] using hk) = S.l[k].2 := by simp [Ar.w]
    have hbk := ar_b h _ (List.getElem_mem (show k < S.w.length by simpa [Ar.w] using hk))
    simp only [Int.toNat_natCast] at h6 e1
    rw [hwk] at h6 e1 hbk
    have e7 : IntKind.i64.wrap ((b : Int) + m) = ((b + m : Nat) : Int) := (i64_same (n := (b : Int) + m) (by omega) (by omega)).trans (by omega)
    have h7 : b + m ≤ S.l[k].2.length := by omega
    have h8 : (b : Int) + m ≤ S.l[k].2.length := by omega
    have h9 : ((b : Int) + m).toNat = b + m := by omega
    have h10 : 0 ≤ (b : Int) + m := by omega
    have h11 : (b : Int) ≤ (b : Int) + m := by omega
    have hp : part S.w k b m = (S.l[k].2.drop b).take m := by simp [part, e1]
    simp [hk, e7, h7, h8, h9, h10, h11]
    rw [hp]
    have hf := frz_osl (H := ov 0 (arF 0 S) (lkH [])) (o := [0, 0, k]) (u := S.l[k].1) (off := b) (len := m) (sz := 1) (xs := S.l[k].2.map uv) (by simp [hk]) (by simpa using h7) (by rw [← List.map_drop, ← List.map_take, List.all_eq_true]; intro x hx; obtain ⟨y, _, rfl⟩ := List.mem_map.1 hx; rfl)
    rw [← List.map_drop, ← List.map_take] at hf
    refine sc_callb [ws ((S.l[k].2.drop b).take m)] (clone_spec false _ (by simp; omega)) (by simp; exact hf) (by simp) ?_
    simp
    exact reth_fam rfl rfl (fun p => by simp)
/-- The definition's answer: are so many words in a segment? -/
theorem rHas_spec {z m u : Int} (l : List (List Int)) (hb : ∀ x, x ∈ l → x.length * 8 ≤ 140737488355328) (s a n : Int) : G.Spec Try.prog 25 [arX l z m u, iv s, iv a, iv n] (bv (hasW l s a n)) := by
  refine spec_of t_centoref05_Arena_Has (by simp) fun w0 I0 => ?_
  unfold c_centoref05_Arena_Has
  simp
  refine sc_call (rLong_spec l z m u s) rfl ?_
  have oz := szAt_le hb s
  simp
  refine frz_bool ?_
  unfold lenZ hasW
  by_cases h1 : 0 ≤ s ∧ s < l.length
  · rw [if_pos h1]
    by_cases h2 : 0 ≤ a ∧ a ≤ (Go.Proofs.Ytehcobkphobjiaa.szAt l s : Int)
    · rw [i64_same (by omega) (by omega)]
      rw [Bool.eq_iff_iff]
      simp
      omega
    · rw [Bool.eq_iff_iff]
      simp
      omega
  · rw [if_neg h1, Bool.eq_iff_iff]
    simp
    omega
/-! ### both at once -/
structure Eqv (S X : Ar) : Prop where
  w : S.w = X.w
  size : S.size = X.size
  most : S.most = X.most
  used : S.used = X.used
theorem Eqv.len {S X : Ar} (h : Eqv S X) : S.l.length = X.l.length := by
  have := congrArg List.length h.w
  simpa [Ar.w] using this
theorem Eqv.ok {S X : Ar} (h : Eqv S X) (k : S.Ok) : X.Ok := by
  refine ⟨by rw [← h.used]; exact k.used0, by rw [← h.used, ← h.most]; exact k.used1, by rw [← h.most]; exact k.most1, by rw [← h.size]; exact k.size0, by rw [← h.size]; exact k.size1, by rw [← h.len]; exact k.len, fun e he => ?_⟩
  have : e.2 ∈ S.w := by rw [h.w]; exact List.mem_map_of_mem he
  obtain ⟨e', he', e2⟩ := List.mem_map.1 this
  rw [← e2, ← h.used]
  exact k.seg e' he'
theorem map_mod {l : List (Nat × List Int)} {k : Nat} {f : Nat × List Int → Nat × List Int} {g : List Int → List Int} (h : ∀ e, (f e).2 = g e.2) : (l.modify k f).map Prod.snd = (l.map Prod.snd).modify k g := by
  apply List.ext_getElem
  · simp
  · intro i h1 h2
    simp only [List.getElem_map, List.getElem_modify]
    split
    · exact h _
    · rfl
theorem grow_w (S : Ar) (k n : Nat) : (growS S k n).w = S.w.modify k fun x => x ++ List.replicate n 0 := map_mod fun e => rfl
theorem add_w (S : Ar) (k n : Nat) : (addS S k n).w = S.w.modify k fun x => x ++ List.replicate n 0 := map_mod fun e => rfl
theorem Eqv.at {S X : Ar} (h : Eqv S X) (n : Int) : Eqv (atS S n) (atS X n) := by
  have hn : newSeg S n = newSeg X n := by simp only [newSeg, h.len, h.w, h.size]
  unfold atS
  rw [hn]
  split
  · exact ⟨by simp only [moreS, Ar.w, List.map_append]; have := h.w; simp only [Ar.w] at this; rw [this], h.size, h.most, h.used⟩
  · exact h
theorem Eqv.give {S X : Ar} (h : Eqv S X) (n : Int) : Eqv (giveS S n) (rgiveS X n) := by
  have hk : okGive S n = okGive X n := by simp only [okGive, h.most, h.used]
  have ha := h.at n
  unfold giveS rgiveS
  rw [hk, ha.len]
  split
  · exact ⟨by rw [grow_w, add_w, ha.w], ha.size, ha.most, by simp only [growS, addS, ha.used]⟩
  · exact h
theorem Eqv.inn {S X : Ar} (h : Eqv S X) (s n : Int) : Eqv (inS' S s n) (rinS X s n) := by
  have hk : okIn S s n = okIn X s n := by simp only [okIn, h.most, h.used, h.len, h.w, h.size]
  unfold inS' rinS
  rw [hk]
  split
  · exact ⟨by rw [grow_w, add_w, h.w], h.size, h.most, by simp only [growS, addS, h.used]⟩
  · exact h
def rputS (X : Ar) (s a : Int) (w : Int) : Ar := if hasW X.w s a 1 = true then wrS X s.toNat a.toNat w else X
theorem Eqv.put {S X : Ar} (h : Eqv S X) (s a w : Int) : Eqv (putS S s a w) (rputS X s a w) := by
  unfold putS rputS
  rw [h.w]
  split
  · refine ⟨?_, h.size, h.most, h.used⟩
    have e1 : (S.l.modify s.toNat fun e => (e.1, e.2.set a.toNat w)).map Prod.snd = (S.l.map Prod.snd).modify s.toNat fun x => x.set a.toNat w := map_mod fun e => rfl
    have e2 : (X.l.modify s.toNat fun e => (e.1, e.2.set a.toNat w)).map Prod.snd = (X.l.map Prod.snd).modify s.toNat fun x => x.set a.toNat w := map_mod fun e => rfl
    have := h.w
    simp only [Ar.w, wrS] at this ⊢
    rw [e1, e2, this]
  · exact h
theorem giveS_u (S : Ar) (n : Int) : (giveS S n).u = S.u := by
  have : (atS S n).u = S.u := by unfold atS; split <;> rfl
  unfold giveS
  split
  · exact this
  · rfl
theorem inS_u (S : Ar) (s n : Int) : (inS' S s n).u = S.u := by
  unfold inS'
  split <;> rfl
theorem putS_u (S : Ar) (s a w : Int) : (putS S s a w).u = S.u := by
  unfold putS
  split <;> rfl
theorem rputS_u (S : Ar) (s a w : Int) : (rputS S s a w).u = S.u := by
  unfold rputS
  split <;> rfl
theorem putS_ok {S : Ar} (h : S.Ok) (s a w : Int) : (putS S s a w).Ok := by
  unfold putS
  split
  · refine ⟨h.used0, h.used1, h.most1, h.size0, h.size1, by simpa using h.len, fun e he => ?_⟩
    obtain ⟨i, hi, rfl⟩ := List.getElem_of_mem he
    simp only [List.getElem_modify]
    simp at hi
    have := h.seg _ (List.getElem_mem hi)
    split
    · simpa using this
    · exact this
  · exact h
/-! ### one deed -/
structure Dd where
  k : Int
  s : Int
  a : Int
  n : Int
  w : Int
abbrev Dd.c (d : Dd) : List A := [iv d.k, iv d.s, iv d.a, iv d.n, uv d.w]
abbrev Dd.x (d : Dd) : A := .agg d.c
def nZ (n : Int) : Int := if 300 < n ∧ n < 200000 then 300 else n
abbrev dH (S X : Ar) (d : Dd) : Hp := ov 0 (arF 0 S) (ov 1 (arF 1 X) (lkH [([2], ⟨1, .cells d.c⟩)]))
section
variable {n0 : Nat} {w0 : World} {I0 M0 : Nat → Prop} {m0 : Mu} {Q : Exit → Sta → Prop}
theorem does_pre {S X : Ar} {d : Dd} (h : WPC (cxh Try.prog w0 I0 M0 n0 m0) k5_centolaw05_does Q ⟨lk [(0, .pob [0] S.u 0), (1, .pob [1] X.u 0), (5, .pob [2] 1 0), (7, iv (nZ d.n))], dH S X d⟩) :
    WPC (cxh Try.prog w0 I0 M0 n0 m0) c_centolaw05_does Q ⟨argS [.pob [0] S.u 0, .pob [1] X.u 0, d.x], ov 0 (arF 0 S) (ov 1 (arF 1 X) (lkH []))⟩ := by
  unfold c_centolaw05_does
  unfold nZ at h
  by_cases h1 : 300 < d.n
  · by_cases h2 : d.n < 200000
    · rw [if_pos ⟨h1, h2⟩] at h
      simp [h1, h2]
      exact h
    · rw [if_neg (fun e => h2 e.2)] at h
      simp [h1, h2]
      exact h
  · rw [if_neg (fun e => h1 e.1)] at h
    simp [h1]
    exact h
theorem does_k5 {S X : Ar} {d : Dd} {z : Int} (h : WPC (cxh Try.prog w0 I0 M0 n0 m0) k4_centolaw05_does (InBlock 0 Q) ⟨lk [(0, .pob [0] S.u 0), (1, .pob [1] X.u 0), (5, .pob [2] 1 0), (7, iv z), (26, iv d.k), (27, bv (decide (d.k = 0 ∨ d.k = 1 ∨ d.k = 2 ∨ d.k = 3)))], dH S X d⟩) :
    WPC (cxh Try.prog w0 I0 M0 n0 m0) k5_centolaw05_does Q ⟨lk [(0, .pob [0] S.u 0), (1, .pob [1] X.u 0), (5, .pob [2] 1 0), (7, iv z)], dH S X d⟩ := by
  unfold k5_centolaw05_does
  by_cases h0 : d.k = 0
  · simp [h0] at h ⊢
    exact h
  by_cases h1 : d.k = 1
  · simp [h1] at h ⊢
    exact h
  by_cases h2 : d.k = 2
  · simp [h2] at h ⊢
    exact h
  simp [h0, h1, h2] at h ⊢
  exact h
theorem does_give {S X : Ar} (hS : S.Ok) (hX : X.Ok) (he : Eqv S X) {d : Dd} {z : Int} :
    WPC (cxh Try.prog w0 I0 M0 n0 m0) k4_centolaw05_does (InBlock 0 (RetH (cxh Try.prog w0 I0 M0 n0 m0) [.tmp 6] 2 (bv true) (ov 0 (arF 0 (giveS S z)) (ov 1 (arF 1 (rgiveS X z)) (lkH []))))) ⟨lk [(0, .pob [0] S.u 0), (1, .pob [1] X.u 0), (5, .pob [2] 1 0), (7, iv z), (26, iv d.k), (27, bv true)], dH S X d⟩ := by
  have hg := Give_spec S hS z
  have hr := rGive_spec X hX z
  have hk : okGive X z = okGive S z := by simp only [okGive, he.most, he.used]
  have ha := he.at z
  have hp := atS_pos S z
  rw [hk, ← ha.len, ← ha.w] at hr
  generalize hm : ((atS S z).l.length : Int) - 1 = m at hg hr
  have hm0 : 0 ≤ m := by omega
  generalize (Go.Proofs.Ytehcobkphobjiaa.szAt (atS S z).w m : Int) = y at hg hr
  unfold k4_centolaw05_does
  simp
  refine sc_ar (r := 0) hg (fun p => by simp) rfl (fun _ _ => rfl) (fun _ => ⟨trivial, trivial⟩) (fun _ _ => rfl) (fun _ => ⟨trivial, trivial, trivial, trivial⟩) (by simp) ?_
  simp
  refine sc_ar (r := 1) hr (fun p => by simp) rfl (fun _ _ => rfl) (fun _ => ⟨trivial, trivial⟩) (fun _ _ => rfl) (fun _ => ⟨trivial, trivial, trivial⟩) (by simp) ?_
  cases hok : okGive S z with
  | true =>
    simp [hm0]
    exact reth_fam2 rfl rfl (fun p => by simp) (fun p => by simp)
  | false =>
    simp
    exact reth_fam2 rfl rfl (fun p => by simp) (fun p => by simp)
theorem does_in {S X : Ar} (hS : S.Ok) (hX : X.Ok) (he : Eqv S X) {d : Dd} {z : Int} (hd : d.k = 4 ∨ d.k = 5) :
    WPC (cxh Try.prog w0 I0 M0 n0 m0) k4_centolaw05_does (InBlock 0 (RetH (cxh Try.prog w0 I0 M0 n0 m0) [.tmp 6] 2 (bv true) (ov 0 (arF 0 (inS' S d.s z)) (ov 1 (arF 1 (rinS X d.s z)) (lkH []))))) ⟨lk [(0, .pob [0] S.u 0), (1, .pob [1] X.u 0), (5, .pob [2] 1 0), (7, iv z), (26, iv d.k), (27, bv false)], dH S X d⟩ := by
  have hg := In_spec S hS d.s z
  have hr := rIn_spec X hX d.s z
  have hk : okIn X d.s z = okIn S d.s z := by simp only [okIn, he.most, he.used, he.len, he.w, he.size]
  rw [hk, ← he.w] at hr
  generalize hy : (Go.Proofs.Ytehcobkphobjiaa.szAt S.w d.s : Int) = y at hg hr
  have hy0 : 0 ≤ y := by omega
  have fin : WPC (cxh Try.prog w0 I0 M0 n0 m0) k3_centolaw05_does (InBlock 0 (RetH (cxh Try.prog w0 I0 M0 n0 m0) [.tmp 6] 2 (bv true) (ov 0 (arF 0 (inS' S d.s z)) (ov 1 (arF 1 (rinS X d.s z)) (lkH []))))) ⟨lk [(0, .pob [0] S.u 0), (1, .pob [1] X.u 0), (5, .pob [2] 1 0), (7, iv z), (26, iv d.k), (72, bv true)], dH S X d⟩ := by
    unfold k3_centolaw05_does
    simp
    refine sc_ar (r := 0) hg (fun p => by simp) rfl (fun _ _ => rfl) (fun _ => ⟨trivial, trivial, trivial⟩) (fun _ _ => rfl) (fun _ => ⟨trivial, trivial, trivial⟩) (by simp) ?_
    simp
    refine sc_ar (r := 1) hr (fun p => by simp) rfl (fun _ _ => rfl) (fun _ => ⟨trivial, trivial, trivial⟩) (fun _ _ => rfl) (fun _ => trivial) (by simp) ?_
    cases hok : okIn S d.s z with
    | true =>
      simp [hy0]
      exact reth_fam2 rfl rfl (fun p => by simp) (fun p => by simp)
    | false =>
      simp
      exact reth_fam2 rfl rfl (fun p => by simp) (fun p => by simp)
  unfold k4_centolaw05_does
  rcases hd with h | h
  · simp [h] at fin ⊢
    exact fin
  · simp [h] at fin ⊢
    exact fin
theorem does_put {S X : Ar} (hS : S.Ok) (hX : X.Ok) (he : Eqv S X) {d : Dd} {z : Int} (hd : d.k = 6 ∨ d.k = 7 ∨ d.k = 8) :
    WPC (cxh Try.prog w0 I0 M0 n0 m0) k4_centolaw05_does (InBlock 0 (RetH (cxh Try.prog w0 I0 M0 n0 m0) [.tmp 6] 2 (bv true) (ov 0 (arF 0 (putS S d.s d.a d.w)) (ov 1 (arF 1 (rputS X d.s d.a d.w)) (lkH []))))) ⟨lk [(0, .pob [0] S.u 0), (1, .pob [1] X.u 0), (5, .pob [2] 1 0), (7, iv z), (26, iv d.k), (27, bv false)], dH S X d⟩ := by
  obtain ⟨dk, ds, da, dn, dw⟩ := d
  simp only at hd ⊢
  have hg := Put_spec S (ar_b hS) ds da dw
  have hr := rHas_spec (z := X.size) (m := X.most) (u := X.used) X.w (ar_b hX) ds da 1
  rw [he.w] at hg
  have fin : WPC (cxh Try.prog w0 I0 M0 n0 m0) k2_centolaw05_does (InBlock 0 (RetH (cxh Try.prog w0 I0 M0 n0 m0) [.tmp 6] 2 (bv true) (ov 0 (arF 0 (putS S ds da dw)) (ov 1 (arF 1 (rputS X ds da dw)) (lkH []))))) ⟨lk [(0, .pob [0] S.u 0), (1, .pob [1] X.u 0), (5, .pob [2] 1 0), (108, bv true)], dH S X ⟨dk, ds, da, dn, dw⟩⟩ := by
    unfold k2_centolaw05_does
    simp
    refine sc_callb [X.a, iv ds, iv da, iv 1] (hr.toB rfl) (by simp; exact ⟨frz_arH (r := 1) (fun p => by simp), frz_bare rfl, frz_bare rfl, frz_bare rfl⟩) (by simp) ?_
    simp
    cases hh : hasW X.w ds da 1 with
    | false =>
      have e1 : rputS X ds da dw = X := by simp [rputS, hh]
      simp
      unfold k1_centolaw05_does
      simp
      refine sc_ar (r := 0) hg (fun p => by simp) rfl (fun _ _ => rfl) (fun _ => ⟨trivial, trivial, trivial, trivial⟩) (fun _ _ => rfl) (fun _ => trivial) (by simp) ?_
      rw [hh, e1]
      simp
      exact reth_fam2 rfl rfl (fun p => by simp) (fun p => by simp)
    | true =>
      have e1 : rputS X ds da dw = wrS X ds.toNat da.toNat dw := by simp [rputS, hh]
      obtain ⟨h1, h2, h3, h4, h5, e2, h6⟩ := hasW_in hh
      rw [hh] at hg
      rw [e1]
      obtain ⟨k, rfl⟩ := Int.eq_ofNat_of_zero_le h1
      obtain ⟨b, rfl⟩ := Int.eq_ofNat_of_zero_le h3
      have hk : k < X.l.length := by simpa [Ar.w] using h2
      have hb' : b < X.l[k].2.length := by simp [Ar.w] at h6; omega
      simp [hk, hb']
      rw [arF_wr hk]
      unfold k1_centolaw05_does
      simp
      refine sc_ar (r := 0) hg (fun p => by simp) rfl (fun _ _ => rfl) (fun _ => ⟨trivial, trivial, trivial, trivial⟩) (fun _ _ => rfl) (fun _ => trivial) (by simp) ?_
      simp
      exact reth_fam2 rfl rfl (fun p => by simp) (fun p => by simp)
  unfold k4_centolaw05_does
  rcases hd with h | h | h
  · simp [h] at fin ⊢
    rw [k3_centolaw05_does.eq_1]
    simp
    exact fin
  · simp [h] at fin ⊢
    rw [k3_centolaw05_does.eq_1]
    simp
    exact fin
  · simp [h] at fin ⊢
    rw [k3_centolaw05_does.eq_1]
    simp
    exact fin
end
theorem does_spec {S X : Ar} (hS : S.Ok) (he : Eqv S X) (d : Dd) : ∃ S' X' : Ar, S'.Ok ∧ Eqv S' X' ∧ S'.u = S.u ∧ X'.u = X.u ∧ SpecF2 Try.prog 22 (fun r q => [.pob [r] S.u 0, .pob [q] X.u 0, d.x]) ((arM S).two (arM X)) (fun _ _ => bv true) ((arM S').two (arM X')) := by
  have hX := he.ok hS
  have fA : FamL2 (fun r q => [.pob [r] S.u 0, .pob [q] X.u 0, d.x]) := famL2_cons (famA2_l famA_pob) (famL2_cons (famA2_r famA_pob) (famL2_cons (famA2_l (famA_bare (cs := d.c) rfl fun x hx => by
    simp at hx
    rcases hx with rfl | rfl | rfl | rfl | rfl <;> rfl)) famL2_nil))
  have mk : ∀ S' X' : Ar, (∀ w0 I0 M0 m0, WPC (cxh Try.prog w0 I0 M0 142 m0) k4_centolaw05_does (InBlock 0 (RetH (cxh Try.prog w0 I0 M0 142 m0) [.tmp 6] 2 (bv true) (ov 0 (arF 0 S') (ov 1 (arF 1 X') (lkH []))))) ⟨lk [(0, .pob [0] S.u 0), (1, .pob [1] X.u 0), (5, .pob [2] 1 0), (7, iv (nZ d.n)), (26, iv d.k), (27, bv (decide (d.k = 0 ∨ d.k = 1 ∨ d.k = 2 ∨ d.k = 3)))], dH S X d⟩) →
      SpecF2 Try.prog 22 (fun r q => [.pob [r] S.u 0, .pob [q] X.u 0, d.x]) ((arM S).two (arM X)) (fun _ _ => bv true) ((arM S').two (arM X')) := fun S' X' h =>
    specF2_of t_centolaw05_does (by simp) fA (famA2_l famA_v) fun w0 I0 M0 m0 => does_pre (does_k5 (h w0 I0 M0 m0))
  by_cases h0 : d.k = 0 ∨ d.k = 1 ∨ d.k = 2 ∨ d.k = 3
  · exact ⟨giveS S (nZ d.n), rgiveS X (nZ d.n), giveS_ok hS _, he.give _, giveS_u _ _, rgiveS_u _ _, mk _ _ fun w0 I0 M0 m0 => by rw [decide_eq_true h0]; exact does_give hS hX he⟩
  by_cases h4 : d.k = 4 ∨ d.k = 5
  · exact ⟨inS' S d.s (nZ d.n), rinS X d.s (nZ d.n), inS_ok hS _ _, he.inn _ _, inS_u _ _ _, rinS_u _ _ _, mk _ _ fun w0 I0 M0 m0 => by rw [decide_eq_false h0]; exact does_in hS hX he h4⟩
  by_cases h6 : d.k = 6 ∨ d.k = 7 ∨ d.k = 8
  · exact ⟨putS S d.s d.a d.w, rputS X d.s d.a d.w, putS_ok hS _ _ _, he.put _ _ _, putS_u _ _ _ _, rputS_u _ _ _ _, mk _ _ fun w0 I0 M0 m0 => by rw [decide_eq_false h0]; exact does_put hS hX he h6⟩
  refine ⟨S, X, hS, he, rfl, rfl, mk _ _ fun w0 I0 M0 m0 => ?_⟩
  rw [decide_eq_false h0]
  simp only [not_or] at h4 h6
  unfold k4_centolaw05_does
  simp [h4]
  rw [k3_centolaw05_does.eq_1]
  simp [h6]
  rw [k2_centolaw05_does.eq_1]
  simp
  exact reth_fam2 rfl rfl (fun p => by simp) (fun p => by simp)
end Go.Proofs.Ytehcobkphobjiaa

/-
  Chapter 5: the law ArenaPlays.
-/
namespace Go.Proofs.Ytehcobkphobjiaa
set_option linter.unusedVariables false
set_option linter.unusedSimpArgs false
open Go Go.G Go.Proofs
section
variable {n0 : Nat} {w0 : World} {I0 : Nat → Prop} {Q : Exit → Sta → Prop}
theorem plays_l1 {L : List Dd} {f : Bool} (hL : L.length * 40 ≤ 140737488355328)
    (hq : ∀ (i : Nat) (q : Bool) (H : Hp), Q (.exit 0) ⟨lk [(2, .sl f (L.map Dd.x)), (7, .pob [1] 1 0), (8, .pob [2] 1 0), (9, iv i), (28, bv q)], H⟩) :
    ∀ (j i : Nat) (S X : Ar) (H : Hp), i + j = L.length → i ≤ 40 → S.Ok → Eqv S X → S.u = 1 → X.u = 1 → (∀ p, H (1 :: p) = arF 1 S p) → (∀ p, H (2 :: p) = arF 2 X p) → (∀ r p, 5 + i ≤ r → H (r :: p) = ⟨0, .none⟩) →
    LoopC (cx Try.prog w0 I0 n0) l1_centolaw05_ArenaPlays Q ⟨lk [(2, .sl f (L.map Dd.x)), (7, .pob [1] 1 0), (8, .pob [2] 1 0), (9, iv i)], H⟩ := by
  intro j
  induction j with
  | zero =>
    intro i S X H hi h40 hS he hu hv h1 h2 h5
    have : i = L.length := by omega
    subst this
    refine loopC_once mixed l1_centolaw05_ArenaPlays.eq_1 ?_
    simp
    exact hq _ _ _
  | succ j ih =>
    intro i S X H hi h40 hS he hu hv h1 h2 h5
    have hlt : i < L.length := by omega
    refine loopC_once mixed l1_centolaw05_ArenaPlays.eq_1 ?_
    by_cases hi40 : i = 40
    · subst hi40
      simp [hlt]
      exact hq _ _ _
    have hi4 : (i : Int) < 40 := by omega
    obtain ⟨S1, X1, k1, k2, k3, k4, hd⟩ := does_spec hS he L[i]
    rw [hu, hv] at hd
    rw [hu] at k3
    rw [hv] at k4
    have ei : IntKind.i64.wrap ((i : Int) + 1) = ((i + 1 : Nat) : Int) := i64_same (by omega) (by omega)
    simp [hlt, hi4, updF_app]
    generalize L[i] = d at hd
    obtain ⟨dk, ds, da, dn, dw⟩ := d
    simp only at hd ⊢
    refine sc_fam2 1 2 (by decide) hd (fun p => by simp [updF_app, h1]) (fun p => by simp [updF_app, h2]) (by simp) (by simp) ?_
    have fa : ∀ H' : Hp, (∀ p, H' (1 :: p) = arF 1 S1 p) → Frz H' (.pob [1] 1 0) S1.a := fun H' h => by have := frz_arH h; rwa [k3] at this
    have fx : ∀ H' : Hp, (∀ p, H' (2 :: p) = arF 2 X1 p) → Frz H' (.pob [2] 1 0) X1.a := fun H' h => by have := frz_arH h; rwa [k4] at this
    have u0 := k1.used0
    have u1 := k1.used1
    have u2 := k1.most1
    have u3 := k1.len
    have hX1 := k2.ok k1
    have ew : IntKind.i64.wrap (X1.most - X1.used) = S1.most - S1.used := by rw [k2.most, k2.used]; exact i64_same (by rw [← k2.most, ← k2.used]; omega) (by rw [← k2.most, ← k2.used]; omega)
    have el : X1.l.length = S1.l.length := k2.len.symm
    have hwl : S1.w.length = S1.l.length := by simp [Ar.w]
    have n15 : ¬ (1 = 5 + i) := by omega
    have n25 : ¬ (2 = 5 + i) := by omega
    have n05 : ¬ (0 = 5 + i) := by omega
    have n45 : ¬ (4 = 5 + i) := by omega
    have m51 : ¬ (5 + i = 1) := by omega
    have m52 : ¬ (5 + i = 2) := by omega
    have m50 : ¬ (5 + i = 0) := by omega
    have m54 : ¬ (5 + i = 4) := by omega
    simp [updF_app]
    refine sc_callb_gf (q := false) [S1.a] rfl (fun _ => (left_spec S1.w S1.size S1.most S1.used (by omega) (by omega)).toB rfl) (fun e => ?_) ?_ ?_
    · simp; exact fa _ (fun p => by simp)
    · simp
    simp [ew, k4]
    refine sc_callb_gf [S1.a] rfl (fun _ => (len_spec S1.w).toB rfl) (fun e => by simp; exact fa _ (fun p => by simp)) (by simp) ?_
    simp [el, hwl, k4]
    rw [sc_guard]
    simp
    have hSg := Segs_ar k1
    rw [k3] at hSg
    have fs : ∀ H' : Hp, (∀ p, H' (2 :: p) = arF 2 X1 p) → Frz H' (.osl [2, 0] X1.ur 1 0 S1.l.length) (sgs S1.w) := fun H' h => by have := frz_arS h; rwa [el, ← k2.w] at this
    refine sc_famN 1 (5 + i) (by omega) hSg (fun p => by simp) (fun p => by simp [h5, m51, m52, m50, updF_app]) (by simp) (by simp) ?_
    simp [k4, el, n15, n25, m51, m52]
    refine ⟨⟨by decide, by simp [List.isPrefixOf, m52]⟩, ?_⟩
    refine sc_callb_gf (q := false) [sgs S1.w, sgs S1.w] rfl (fun _ => (same03_spec S1.w S1.w (by omega) (ar_b k1)).toB rfl) (fun e => ?_) ?_ ?_
    · simp
      exact ⟨frz_sgs (by simp [m51]) hwl.symm, fs _ (fun p => by simp [n25])⟩
    · simp
    simp
    have hrh : ∀ n : Int, G.Spec Try.prog 25 [X1.a, iv ds, iv da, iv n] (bv (hasW S1.w ds da n)) := fun n => by
      have := rHas_spec (z := X1.size) (m := X1.most) (u := X1.used) X1.w (ar_b hX1) ds da n
      rw [k2.w]
      exact this
    have hPt := Part_ar k1 ds da dn
    rw [k3] at hPt
    simp [n05, updF_app]
    refine sc_callb [S1.a, iv ds, iv da, iv dn] ((has_spec S1.w (ar_b k1) ds da dn).toB rfl) (by simp; exact ⟨fa _ (fun p => by simp), frz_bare rfl, frz_bare rfl, frz_bare rfl⟩) (by simp) ?_
    simp [n05, updF_app]
    refine sc_callb [X1.a, iv ds, iv da, iv dn] ((hrh dn).toB rfl) (by simp; exact ⟨fx _ (fun p => by simp [n25]), frz_bare rfl, frz_bare rfl, frz_bare rfl⟩) (by simp) ?_
    simp [n05, updF_app]
    refine sc_callb [S1.a, iv ds, iv da] ((get_spec S1.w (ar_b k1) ds da).toB rfl) (by simp; exact ⟨fa _ (fun p => by simp), frz_bare rfl, frz_bare rfl⟩) (by simp) ?_
    simp [n05, updF_app]
    refine sc_fam 1 hPt (fun p => by simp) (by simp) (by simp) ?_
    simp [n05, updF_app]
    refine sc_callb [X1.a, iv ds, iv da, iv 1] ((hrh 1).toB rfl) (by simp; exact ⟨fx _ (fun p => by simp [n25]), frz_bare rfl, frz_bare rfl, frz_bare rfl⟩) (by simp) ?_
    rw [hasW_one]
    have final : ∀ H' : Hp, (∀ p, H' (1 :: p) = arF 1 S1 p) → (∀ p, H' (2 :: p) = arF 2 X1 p) → (∀ r p, 5 + (i + 1) ≤ r → H' (r :: p) = ⟨0, .none⟩) → LoopC (cx Try.prog w0 I0 n0) l1_centolaw05_ArenaPlays Q ⟨lk [(2, .sl f (L.map Dd.x)), (7, .pob [1] 1 0), (8, .pob [2] 1 0), (9, iv ((i + 1 : Nat) : Int))], H'⟩ :=
      fun H' g1 g2 g5 => ih (i + 1) S1 X1 H' (by omega) (by omega) k1 k2 k3 k4 g1 g2 g5
    have hxw : ∀ k : Nat, k < S1.l.length → ∀ (h1 : k < X1.l.length) (h2 : k < S1.w.length), X1.l[k].2 = S1.w[k] := fun k hk h1 h2 => by
      have e : S1.w = X1.w := k2.w
      have : X1.w[k]'(by rw [← e]; exact h2) = X1.l[k].2 := by simp [Ar.w]
      rw [← this]
      simp only [e]
    cases hh : hasW S1.w ds da dn with
    | false =>
      cases hw : word S1.w ds da with
      | none =>
        simp [n05, updF_app, ei]
        refine sc_callb_gf (q := false) [X1.a, iv ds, iv da, iv dn] rfl (fun _ => (hrh dn).toB rfl) (fun e => ?_) ?_ ?_
        · simp; exact ⟨fx _ (fun p => by simp [n25]), frz_bare rfl, frz_bare rfl, frz_bare rfl⟩
        · simp
        simp [hh, n05, updF_app, ei]
        refine sc_call_off rfl ?_
        simp [ei]
        refine final _ (fun p => by simp) (fun p => by simp [n25]) (fun r p hr => ?_)
        have r1 : ¬ r = 1 := by omega
        have r2 : ¬ r = 2 := by omega
        have r3 : ¬ r = 5 + i := by omega
        have r0 : ¬ r = 0 := by omega
        have r4 : ¬ r = 4 := by omega
        simp [r1, r2, r3, updF_app, r0, r4]
        exact h5 r p (by omega)
      | some x =>
        obtain ⟨w1, w2, w3, w4, w5, rfl⟩ := word_some hw
        obtain ⟨k, rfl⟩ := Int.eq_ofNat_of_zero_le w1
        obtain ⟨b, rfl⟩ := Int.eq_ofNat_of_zero_le w3
        have hkS : k < S1.l.length := by omega
        have hkX : k < X1.l.length := by omega
        have hx := hxw k hkS hkX w4
        simp only [Int.toNat_natCast] at w5 ⊢
        have hb : b < X1.l[k].2.length := by rw [hx]; exact w5
        simp [n05, n25, updF_app, ei, hkS, hkX, hb, hx, k4, w5]
        refine sc_callb_gf (q := false) [X1.a, iv k, iv b, iv dn] rfl (fun _ => (hrh dn).toB rfl) (fun e => ?_) ?_ ?_
        · simp; exact ⟨fx _ (fun p => by simp [n25]), frz_bare rfl, frz_bare rfl, frz_bare rfl⟩
        · simp
        simp [hh, n05, updF_app, ei]
        refine sc_call_off rfl ?_
        simp [ei]
        refine final _ (fun p => by simp) (fun p => by simp [n25]) (fun r p hr => ?_)
        have r1 : ¬ r = 1 := by omega
        have r2 : ¬ r = 2 := by omega
        have r3 : ¬ r = 5 + i := by omega
        have r0 : ¬ r = 0 := by omega
        have r4 : ¬ r = 4 := by omega
        simp [r1, r2, r3, updF_app, r0, r4]
        exact h5 r p (by omega)
    | true =>
      obtain ⟨q1, q2, q3, q4, q5, q6, q7⟩ := hasW_in hh
      obtain ⟨k, rfl⟩ := Int.eq_ofNat_of_zero_le q1
      obtain ⟨b, rfl⟩ := Int.eq_ofNat_of_zero_le q3
      obtain ⟨m, rfl⟩ := Int.eq_ofNat_of_zero_le q4
      simp only [Int.toNat_natCast] at q5 q6 q7
      have hkS' : k < S1.l.length := by omega
      have hkX' : k < X1.l.length := by omega
      have hx' := hxw k hkS' hkX' q5
      have hb8 := ar_b k1 _ (List.getElem_mem q5)
      have e7 : IntKind.i64.wrap ((b : Int) + m) = ((b + m : Nat) : Int) := (i64_same (n := (b : Int) + m) (by omega) (by omega)).trans (by omega)
      have h7 : b + m ≤ S1.w[k].length := by omega
      have h8 : (b : Int) + m ≤ S1.w[k].length := by omega
      have h9 : ((b : Int) + m).toNat = b + m := by omega
      have h10 : 0 ≤ (b : Int) + m := by omega
      have h11 : (b : Int) ≤ (b : Int) + m := by omega
      have hp : part S1.w k b m = (S1.w[k].drop b).take m := by simp [part, q6]
      have hPl : ∀ x, x ∈ [part S1.w k b m] → x.length * 8 ≤ 140737488355328 := fun x hx => by
        rw [List.mem_singleton.1 hx, hp]
        simp
        omega
      have f4 : ∀ (H' : Hp) (v : Nat), (∀ p, H' (2 :: p) = arF 2 X1 p) → vr (H' [4]) v = some (1, [.osl [2, 0, k] X1.l[k].1 1 b m]) → Frz H' (.osl [4] v 1 0 1) (sgs [part S1.w k b m]) := fun H' v g2 g4 => by
        refine frz_osl' (xs := [.osl [2, 0, k] X1.l[k].1 1 b m]) (ys := [ws (part S1.w k b m)]) (by simpa using g4) (by simp) rfl (by simp) (by simp [A.ones]) ?_
        rw [hp, ← hx']
        have hf := frz_osl (H := H') (o := [2, 0, k]) (u := X1.l[k].1) (off := b) (len := m) (sz := 1) (xs := X1.l[k].2.map uv) (by simp [g2, hkX']) (by simp [hx']; exact h7) (by rw [← List.map_drop, ← List.map_take, List.all_eq_true]; intro x hx; obtain ⟨y, _, rfl⟩ := List.mem_map.1 hx; rfl)
        rw [← List.map_drop, ← List.map_take] at hf
        exact ⟨hf, trivial⟩
      cases hw : word S1.w k b with
      | none =>
        simp [n05, updF_app, ei]
        refine sc_callb_gf (q := false) [X1.a, iv k, iv b, iv m] rfl (fun _ => (hrh m).toB rfl) (fun e => ?_) ?_ ?_
        · simp; exact ⟨fx _ (fun p => by simp [n25]), frz_bare rfl, frz_bare rfl, frz_bare rfl⟩
        · simp
        simp [hh, n05, n25, n45, updF_app, ei, k4, hkX', hx', e7, h7, h8, h9, h10, h11]
        refine sc_callb_gt (q := true) [sgs [part S1.w k b m], sgs [part S1.w k b m]] rfl (fun _ => (same03_spec _ _ (by simp) hPl).toB rfl) (fun e => ?_) ?_ ?_
        · simp
          exact ⟨frz_sl, f4 _ _ (fun p => by simp [n25]) (by simp [n45, updF_app])⟩
        · simp
        simp [ei]
        refine final _ (fun p => by simp) (fun p => by simp [n25]) (fun r p hr => ?_)
        have r1 : ¬ r = 1 := by omega
        have r2 : ¬ r = 2 := by omega
        have r3 : ¬ r = 5 + i := by omega
        have r0 : ¬ r = 0 := by omega
        have r4 : ¬ r = 4 := by omega
        simp [r1, r2, r3, updF_app, r0, r4]
        exact h5 r p (by omega)
      | some x =>
        obtain ⟨w1, w2, w3, w4, w5, rfl⟩ := word_some hw
        simp only [Int.toNat_natCast] at w5 ⊢
        simp [n05, n25, updF_app, ei, hkS', hkX', hx', k4, w5]
        refine sc_callb_gf (q := false) [X1.a, iv k, iv b, iv m] rfl (fun _ => (hrh m).toB rfl) (fun e => ?_) ?_ ?_
        · simp; exact ⟨fx _ (fun p => by simp [n25]), frz_bare rfl, frz_bare rfl, frz_bare rfl⟩
        · simp
        simp [hh, n05, n25, n45, updF_app, ei, k4, hkX', hx', e7, h7, h8, h9, h10, h11]
        refine sc_callb_gt (q := true) [sgs [part S1.w k b m], sgs [part S1.w k b m]] rfl (fun _ => (same03_spec _ _ (by simp) hPl).toB rfl) (fun e => ?_) ?_ ?_
        · simp
          exact ⟨frz_sl, f4 _ _ (fun p => by simp [n25]) (by simp [n45, updF_app])⟩
        · simp
        simp [ei]
        refine final _ (fun p => by simp) (fun p => by simp [n25]) (fun r p hr => ?_)
        have r1 : ¬ r = 1 := by omega
        have r2 : ¬ r = 2 := by omega
        have r3 : ¬ r = 5 + i := by omega
        have r0 : ¬ r = 0 := by omega
        have r4 : ¬ r = 4 := by omega
        simp [r1, r2, r3, updF_app, r0, r4]
        exact h5 r p (by omega)
end
theorem ArenaPlays_spec {L : List Dd} {f : Bool} (hL : L.length * 40 ≤ 140737488355328) (z m : Int) (hz : z < 9223372036854775808) : G.Spec Try.prog 4 [iv z, iv m, .sl f (L.map Dd.x)] (bv true) := by
  refine spec_of t_centolaw05_ArenaPlays (by simp) fun w0 I0 => ?_
  unfold c_centolaw05_ArenaPlays
  simp
  refine sc_new 1 rfl (New_spec z m) (fun p => rfl) rfl (fun _ _ => rfl) (fun _ => ⟨trivial, trivial, trivial⟩) newAr_fam (by simp) ?_
  simp
  refine sc_new 2 rfl (rNew_spec z m) (fun p => rfl) rfl (fun _ _ => rfl) (fun _ => ⟨trivial, trivial, trivial⟩) newAr_fam (by simp) ?_
  simp
  refine plays_l1 hL (fun i q H => ?_) L.length 0 (newAr z m) (newAr z m) _ (by omega) (by omega) (newAr_ok hz) ⟨rfl, rfl, rfl, rfl⟩ rfl rfl (fun p => by simp) (fun p => by simp) (fun r p hr => ?_)
  rotate_left
  · have r1 : ¬ r = 1 := by omega
    have r2 : ¬ r = 2 := by omega
    simp [r1, r2]
  simp
  refine sc_call awake5_spec rfl ?_
  simp
  exact frz_bare rfl
end Go.Proofs.Ytehcobkphobjiaa

/-
  What an argument holds: trees and edits out of readings.
-/
namespace Go.Proofs.Ytehcobkphobjiaa
set_option linter.unusedVariables false
set_option linter.unusedSimpArgs false
open Go Go.G Go.Proofs Go.PL Go.RowKit
theorem lit_i64 {m : Int} (h : (Lit.int .i64 m).wf = true) : i64R m := by
  simp [Lit.wf, IntKind.min, IntKind.max, IntKind.bits, IntKind.signed] at h
  unfold i64R; omega
theorem lit_u64 {m : Int} (h : (Lit.int .u64 m).wf = true) : u64R m := by
  simp [Lit.wf, IntKind.min, IntKind.max, IntKind.bits, IntKind.signed] at h
  unfold u64R; omega
theorem und_int' : Try.prog.underlying 3 = some (.int .i64) := by kernel_rfl
theorem und_u64' : Try.prog.underlying 26 = some (.int .u64) := by kernel_rfl
theorem hasI {n : Nat} {b : List A} (h : Has Try.prog n 3 b) : ∃ m, i64R m ∧ b = [iv m] := by
  cases n with
  | zero => exact h.elim
  | succ n =>
    unfold Has at h
    rw [und_int'] at h
    obtain ⟨m, hm, rfl⟩ := h
    exact ⟨m, lit_i64 hm, rfl⟩
theorem hasU {n : Nat} {b : List A} (h : Has Try.prog n 26 b) : ∃ m, u64R m ∧ b = [uv m] := by
  cases n with
  | zero => exact h.elim
  | succ n =>
    unfold Has at h
    rw [und_u64'] at h
    obtain ⟨m, hm, rfl⟩ := h
    exact ⟨m, lit_u64 hm, rfl⟩
theorem rowOf {α : Type} {xs : List A} {g : α → A} {R : α → Prop} (h : ∀ x, x ∈ xs → ∃ y, R y ∧ x.soft = g y) : ∃ l : List α, A.softL xs = l.map g ∧ l.length = xs.length ∧ ∀ y, y ∈ l → R y := by
  induction xs with
  | nil => exact ⟨[], rfl, rfl, fun y h => nomatch h⟩
  | cons x xs ih =>
    obtain ⟨y, hy, e⟩ := h x (by simp)
    obtain ⟨l, e2, e3, hl⟩ := ih fun z hz => h z (by simp [hz])
    refine ⟨y :: l, by simp [A.softL, e, e2], by simp [e3], fun z hz => ?_⟩
    rcases List.mem_cons.1 hz with rfl | hz
    · exact hy
    · exact hl z hz
theorem hasSl {P : Program} {t e : TypeId} {m : Nat} (u : P.underlying t = some (.slice e)) (hb : P.bytesOf e = m) {n : Nat} {b : List A} (h : Has P n t b) {α : Type} {g : α → A} {R : α → Prop} (hx : ∀ k b, k < n → Has P k e b → ∃ y, R y ∧ (mk P e b).soft = g y) :
    ∃ (f : Bool) (xs : List A) (l : List α), b = [.sl f xs] ∧ A.softL xs = l.map g ∧ l.length * m ≤ 140737488355328 ∧ ∀ y, y ∈ l → R y := by
  cases n with
  | zero => exact h.elim
  | succ n =>
    unfold Has at h
    rw [u] at h
    obtain ⟨f, xs, rfl, _, hz, hf, hx'⟩ := h
    rw [hb] at hz
    obtain ⟨l, e1, e2, hl⟩ := rowOf (g := g) (R := R) (xs := xs) fun x hxx => by
      obtain ⟨b, hb', rfl⟩ := hx' x hxx
      exact hx n b (by omega) hb'
    exact ⟨f, xs, l, rfl, e1, by rw [e2]; exact Nat.le_trans hz (by decide), hl⟩
end Go.Proofs.Ytehcobkphobjiaa

/-
  Chapter 15: each law, whatever its arguments hold.
-/
namespace Go.Proofs.Ytehcobkphobjiaa
set_option linter.unusedVariables false
set_option linter.unusedSimpArgs false
open Go Go.G Go.Proofs Go.RowKit
theorem lit15_i {m : Int} (h : (Lit.int .i64 m).wf = true) : -9223372036854775808 ≤ m ∧ m < 9223372036854775808 := by
  simp [Lit.wf, IntKind.min, IntKind.max, IntKind.bits, IntKind.signed] at h
  omega
theorem und15_i : Try.prog.underlying 3 = some (.int .i64) := by kernel_rfl
end Go.Proofs.Ytehcobkphobjiaa

/-
  Chapter 16: InternMany, whatever its arguments hold.
-/
namespace Go.Proofs.Ytehcobkphobjiaa
set_option linter.unusedVariables false
set_option linter.unusedSimpArgs false
open Go Go.G Go.Proofs Go.RowKit
theorem has16_i64 {n : Nat} {b : List A} (h : Has Try.prog n 3 b) : ∃ m, -9223372036854775808 ≤ m ∧ m < 9223372036854775808 ∧ mk Try.prog 3 b = iv m := by
  cases n with
  | zero => exact h.elim
  | succ n =>
    simp only [Has, und15_i] at h
    obtain ⟨m, hm, rfl⟩ := h
    obtain ⟨h1, h2⟩ := lit15_i hm
    exact ⟨m, h1, h2, by simp [mk, und15_i]⟩
end Go.Proofs.Ytehcobkphobjiaa

/-
  Chapter 5: ArenaPlays, whatever its arguments hold.
-/
namespace Go.Proofs.Ytehcobkphobjiaa
set_option linter.unusedVariables false
set_option linter.unusedSimpArgs false
open Go Go.G Go.Proofs Go.RowKit
theorem has_dd {n : Nat} {b : List A} (hb : Has Try.prog n 41 b) : ∃ d : Dd, mk Try.prog 41 b = d.x := by
  cases n with
  | zero => exact hb.elim
  | succ n =>
    have u : Try.prog.underlying 41 = some (.struct ((Try.prog.fieldsOf 41))) := by kernel_rfl
    unfold Has at hb
    rw [u] at hb
    have e : (Try.prog.fieldsOf 41).toList.map Field.type = [3, 3, 3, 3, 26] := by kernel_rfl
    simp only at hb
    rw [hasL_types, e] at hb
    obtain ⟨_, _, rfl, h1, _, _, rfl, h2, _, _, rfl, h3, _, _, rfl, h4, _, _, rfl, h5, rfl⟩ := hb
    obtain ⟨k1, _, rfl⟩ := hasI h1
    obtain ⟨k2, _, rfl⟩ := hasI h2
    obtain ⟨k3, _, rfl⟩ := hasI h3
    obtain ⟨k4, _, rfl⟩ := hasI h4
    obtain ⟨k5, _, rfl⟩ := hasU h5
    exact ⟨⟨k1, k2, k3, k4, k5⟩, by simp [mk, u]⟩
set_option maxRecDepth 100000 in
theorem said_arenaPlays (xs : List A) (h : ArgsHas Try.prog Try.f4.params.toList xs) : G.Spec Try.prog 4 xs (.v (.bool true)) := by
  have h : ArgsHas Try.prog [3, 3, 36] xs := h
  match xs, h with
  | [a, b, c], ⟨⟨n, x, h1, h2⟩, ⟨n2, x2, h12, h22⟩, ⟨n3, x3, h13, h23⟩, _⟩ =>
    obtain ⟨z, _, hz, ez⟩ := has16_i64 h1
    obtain ⟨m, _, _, em⟩ := has16_i64 h12
    obtain ⟨f, xs, l, e1, e2, e3, _⟩ := hasSl (m := 40) (e := 41) (g := Dd.x) (R := fun _ => True) (by kernel_rfl) (by kernel_rfl) h13 fun j b hj hb => by
      obtain ⟨d, e⟩ := has_dd hb
      exact ⟨d, trivial, by rw [e]; rfl⟩
    have u : Try.prog.underlying 36 = some (.slice 41) := by kernel_rfl
    have es : mk Try.prog 36 x3 = .sl f xs := by rw [e1]; simp [mk, u]
    rw [h2, h22, h23, ez, em, es]
    exact (ArenaPlays_spec (f := false) e3 z m hz).soft (by simp only [A.softL, A.soft, e2])
end Go.Proofs.Ytehcobkphobjiaa
