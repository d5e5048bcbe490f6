/-
  Texts, merged, without what is not reached.
-/
import Derived.Test.YtehcobkphobjiaaProg
import Derived.Test.YtehcobkphobjiaaGSimp
import Derived.KernelRfl
import Derived.Laws.BitsLemmas
import Derived.Laws.Bits64
import Derived.Laws.Bits64b
import Derived.Test.YtehcobkphobjiaaGLe
import Derived.Test.YtehcobkphobjiaaGCall2
import Derived.Test.YtehcobkphobjiaaGMove
import Derived.Test.YtehcobkphobjiaaGLo
import Derived.Test.YtehcobkphobjiaaGOpen
import Derived.Test.YtehcobkphobjiaaGCall3
import Derived.Test.YtehcobkphobjiaaGFam
/-
  The functions' text as data, and the facts on the types that they use: written by a program of ours (gen2.py) off the translation.
-/
namespace Go.Proofs.Ytehcobkphobjiaa
set_option linter.unusedVariables false
set_option linter.unusedSimpArgs false
set_option maxRecDepth 20000
open Go Go.G Go.Proofs
theorem mixed : Try.prog.follows .mixedOrders = true := by kernel_rfl
@[simp] theorem und_3 : Try.prog.underlying 3 = some (.int .i64) := by kernel_rfl
@[simp] theorem und_21 : Try.prog.underlying 21 = some (.int .i32) := by kernel_rfl
@[simp] theorem und_26 : Try.prog.underlying 26 = some (.int .u64) := by kernel_rfl
@[simp] theorem und_255 : Try.prog.underlying 255 = some (.int .u32) := by kernel_rfl
@[simp] theorem szT_3 : szT Try.prog 3 = some 1 := by kernel_rfl
@[simp] theorem szT_4 : szT Try.prog 4 = some 1 := by kernel_rfl
@[simp] theorem szT_170 : szT Try.prog 170 = some 8 := by kernel_rfl
@[simp] theorem szT_183 : szT Try.prog 183 = some 8 := by kernel_rfl
@[simp] theorem aggT_3 : aggT Try.prog 3 = some false := by kernel_rfl
@[simp] theorem aggT_4 : aggT Try.prog 4 = some false := by kernel_rfl
@[simp] theorem aggT_170 : aggT Try.prog 170 = some true := by kernel_rfl
@[simp] theorem aggT_183 : aggT Try.prog 183 = some true := by kernel_rfl
@[simp] theorem zeroT_170 : zeroT Try.prog 170 = some (Value.agg #[Value.int IntKind.i64 0, Value.int IntKind.i64 0, Value.int IntKind.i64 0, Value.int IntKind.i64 0, Value.int IntKind.i64 0, Value.int IntKind.i64 0, Value.int IntKind.i64 0, Value.bool false]) := by kernel_rfl
@[simp] theorem zeroT_183 : zeroT Try.prog 183 = some (Value.agg #[Value.int IntKind.i64 0, Value.int IntKind.i64 0, Value.int IntKind.i64 0, Value.int IntKind.i64 0, Value.int IntKind.i64 0, Value.int IntKind.i64 0, Value.int IntKind.i64 0, Value.bool false]) := by kernel_rfl
@[simp] theorem fieldOffT_183_0 : fieldOffT Try.prog 183 0 = some 0 := by kernel_rfl
@[simp] theorem fieldOffT_183_1 : fieldOffT Try.prog 183 1 = some 1 := by kernel_rfl
@[simp] theorem fieldOffT_183_2 : fieldOffT Try.prog 183 2 = some 2 := by kernel_rfl
@[simp] theorem fieldOffT_183_3 : fieldOffT Try.prog 183 3 = some 3 := by kernel_rfl
@[simp] theorem fieldOffT_183_4 : fieldOffT Try.prog 183 4 = some 4 := by kernel_rfl
@[simp] theorem fieldOffT_183_5 : fieldOffT Try.prog 183 5 = some 5 := by kernel_rfl
@[simp] theorem fieldOffT_183_6 : fieldOffT Try.prog 183 6 = some 6 := by kernel_rfl
@[simp] theorem fieldOffT_183_7 : fieldOffT Try.prog 183 7 = some 7 := by kernel_rfl
@[simp] theorem buildA_170 (ps : List (Nat × A)) : buildA Try.prog 170 ps = (fillA (fun i => ([(0, 1), (1, 1), (2, 1), (3, 1), (4, 1), (5, 1), (6, 1), (7, 1)] : List (Nat × Nat))[i]?) [A.v (Value.int IntKind.i64 0), A.v (Value.int IntKind.i64 0), A.v (Value.int IntKind.i64 0), A.v (Value.int IntKind.i64 0), A.v (Value.int IntKind.i64 0), A.v (Value.int IntKind.i64 0), A.v (Value.int IntKind.i64 0), A.v (Value.bool false)] ps).map A.agg := by kernel_rfl
@[simp] theorem buildA_183 (ps : List (Nat × A)) : buildA Try.prog 183 ps = (fillA (fun i => ([(0, 1), (1, 1), (2, 1), (3, 1), (4, 1), (5, 1), (6, 1), (7, 1)] : List (Nat × Nat))[i]?) [A.v (Value.int IntKind.i64 0), A.v (Value.int IntKind.i64 0), A.v (Value.int IntKind.i64 0), A.v (Value.int IntKind.i64 0), A.v (Value.int IntKind.i64 0), A.v (Value.int IntKind.i64 0), A.v (Value.int IntKind.i64 0), A.v (Value.bool false)] ps).map A.agg := by kernel_rfl
@[simp] theorem eqA_183 (x0 y0 : Int) (x1 y1 : Int) (x2 y2 : Int) (x3 y3 : Int) (x4 y4 : Int) (x5 y5 : Int) (x6 y6 : Int) (x7 y7 : Bool) : eqA Try.prog 100 183 (.agg [A.v (.int .i64 x0), A.v (.int .i64 x1), A.v (.int .i64 x2), A.v (.int .i64 x3), A.v (.int .i64 x4), A.v (.int .i64 x5), A.v (.int .i64 x6), A.v (.bool x7)]) (.agg [A.v (.int .i64 y0), A.v (.int .i64 y1), A.v (.int .i64 y2), A.v (.int .i64 y3), A.v (.int .i64 y4), A.v (.int .i64 y5), A.v (.int .i64 y6), A.v (.bool y7)]) = some (((x0 == y0) && ((x1 == y1) && ((x2 == y2) && ((x3 == y3) && ((x4 == y4) && ((x5 == y5) && ((x6 == y6) && ((x7 == y7) && (true)))))))))) := by kernel_rfl
@[simp] theorem eqG_183 : Try.prog.eqGuardType Try.prog.depth 183 = false := by kernel_rfl
end Go.Proofs.Ytehcobkphobjiaa

/-
  Chapter 4's functions: what each answers.
-/
namespace Go.Proofs.Ytehcobkphobjiaa
set_option linter.unusedVariables false
set_option linter.unusedSimpArgs false
open Go Go.G Go.Proofs
abbrev iv (n : Int) : A := .v (.int .i64 n)
abbrev uv (n : Int) : A := .v (.int .u64 n)
abbrev bv (b : Bool) : A := .v (.bool b)
theorem i64_same {n : Int} (h0 : -9223372036854775808 ≤ n) (h1 : n < 9223372036854775808) : IntKind.i64.wrap n = n := by rw [IntKind.wrap_i64]; omega
/-- A pointer, as numbers. -/
structure Pt where
  (kind off data ptrs code count seg : Int)
  dbl : Bool
deriving DecidableEq
@[simp] def Pt.a (p : Pt) : A := .agg [iv p.kind, iv p.off, iv p.data, iv p.ptrs, iv p.code, iv p.count, iv p.seg, bv p.dbl]
/-- The offset in a word's lower half. -/
def offs (w : Int) : Int := if w / 4 % 1073741824 < 536870912 then w / 4 % 1073741824 else w / 4 % 1073741824 - 1073741824
/-- A word's pointer. -/
def dec (w : Int) : Pt :=
  if w = 0 then ⟨0, 0, 0, 0, 0, 0, 0, false⟩
  else if w % 4 = 0 then ⟨1, offs w, w / 4294967296 % 65536, w / 281474976710656, 0, 0, 0, false⟩
  else if w % 4 = 1 then ⟨2, offs w, 0, 0, w / 4294967296 % 8, w / 34359738368, 0, false⟩
  else if w % 4 = 2 then ⟨3, w / 8 % 536870912, 0, 0, 0, 0, w / 4294967296, decide (w / 4 % 2 = 1)⟩
  else ⟨4, 0, 0, 0, 0, 0, 0, false⟩
end Go.Proofs.Ytehcobkphobjiaa

/-
  The functions' text as data, and the facts on the types that they use: written by a program of ours (gen2.py) off the translation.
-/
namespace Go.Proofs.Ytehcobkphobjiaa
set_option linter.unusedVariables false
set_option linter.unusedSimpArgs false
set_option maxRecDepth 20000
open Go Go.G Go.Proofs
@[simp] theorem und_23 : Try.prog.underlying 23 = some (.slice 26) := by kernel_rfl
@[simp] theorem und_242 : Try.prog.underlying 242 = some (.array 8 5) := by kernel_rfl
@[simp] theorem und_246 : Try.prog.underlying 246 = some (.slice 5) := by kernel_rfl
@[simp] theorem und_262 : Try.prog.underlying 262 = some (.array 6 3) := by kernel_rfl
@[simp] theorem szT_5 : szT Try.prog 5 = some 1 := by kernel_rfl
@[simp] theorem szT_26 : szT Try.prog 26 = some 1 := by kernel_rfl
@[simp] theorem szT_242 : szT Try.prog 242 = some 8 := by kernel_rfl
@[simp] theorem szT_262 : szT Try.prog 262 = some 6 := by kernel_rfl
@[simp] theorem aggT_5 : aggT Try.prog 5 = some false := by kernel_rfl
@[simp] theorem aggT_26 : aggT Try.prog 26 = some false := by kernel_rfl
@[simp] theorem aggT_242 : aggT Try.prog 242 = some true := by kernel_rfl
@[simp] theorem zeroT_26 : zeroT Try.prog 26 = some (Value.int IntKind.u64 0) := by kernel_rfl
@[simp] theorem zeroT_262 : zeroT Try.prog 262 = some (Value.agg #[Value.int IntKind.i64 0, Value.int IntKind.i64 0, Value.int IntKind.i64 0, Value.int IntKind.i64 0, Value.int IntKind.i64 0, Value.int IntKind.i64 0]) := by kernel_rfl
@[simp] theorem bytesT_26 : bytesT Try.prog 26 = some 8 := by kernel_rfl
@[simp] theorem buildA_262 (ps : List (Nat × A)) : buildA Try.prog 262 ps = (fillA (fun i => some (i * 1, 1)) [A.v (Value.int IntKind.i64 0), A.v (Value.int IntKind.i64 0), A.v (Value.int IntKind.i64 0), A.v (Value.int IntKind.i64 0), A.v (Value.int IntKind.i64 0), A.v (Value.int IntKind.i64 0)] ps).map A.agg := by kernel_rfl
def l1_centoref01_Same : CC :=
  .seq (.seq (.reg [co (some 11) (.move (.tmp 5)) none,
        co (some 12) (.move (.tmp 0)) none,
        co (some 13) (.call { callee := (.builtin .len), args := #[(.tmp 12)], argTypes := #[23] }) none,
        co (some 14) (.binOp .lss 3 (.tmp 11) (.tmp 13) 3) none] [0, 1, 5, 14])
    (.cond (.tmp 14)
      (.skip)
      (.exit 0)))
  (.keep [0, 1, 5] (.seq (.block 1
      (.seq (.reg [co (some 17) (.move (.tmp 0)) none,
          co (some 18) (.move (.tmp 5)) none,
          co (some 19) (.indexAddr 23 (.tmp 17) (.tmp 18)) none,
          co (some 20) (.load 26 (.tmp 19)) none,
          co (some 21) (.move (.tmp 1)) none,
          co (some 22) (.move (.tmp 5)) none,
          co (some 23) (.indexAddr 23 (.tmp 21) (.tmp 22)) none,
          co (some 24) (.load 26 (.tmp 23)) none,
          co (some 25) (.binOp .neq 26 (.tmp 20) (.tmp 24) 26) none] [0, 1, 5, 25])
      (.cond (.tmp 25)
        (.seq (.reg [co (some 4) (.assign (.const (.bool false))) none] [4])
        (.ret))
        (.skip))))
  (.keep [0, 1, 5] (.reg [co (some 15) (.move (.tmp 5)) none,
    co (some 16) (.binOp .add 3 (.tmp 15) (.const (.int .i64 1)) 3) none,
    co (some 5) (.assign (.tmp 16)) none] [0, 1, 5]))))
/-- cento/centoref01.Same -/
def c_centoref01_Same : CC :=
  .seq (.reg [co (some 4) (.assign (.const (.bool false))) none] [0, 1])
  (.seq (.seq (.reg [co (some 6) (.move (.tmp 0)) none,
        co (some 7) (.call { callee := (.builtin .len), args := #[(.tmp 6)], argTypes := #[23] }) none,
        co (some 8) (.move (.tmp 1)) none,
        co (some 9) (.call { callee := (.builtin .len), args := #[(.tmp 8)], argTypes := #[23] }) none,
        co (some 10) (.binOp .neq 3 (.tmp 7) (.tmp 9) 3) none] [0, 1, 10])
    (.cond (.tmp 10)
      (.seq (.reg [co (some 4) (.assign (.const (.bool false))) none] [4])
      (.ret))
      (.skip)))
  (.keep [0, 1] (.seq (.seq (.reg [co (some 5) (.assign (.const (.int .i64 0))) none] [0, 1, 5])
    (.block 0
      (.loop l1_centoref01_Same)))
  (.keep [] (.seq (.reg [co (some 4) (.assign (.const (.bool true))) none] [4])
  (.ret))))))
theorem t_centoref01_Same : Txt Try.prog 43 26 [(.tmp 4)] c_centoref01_Same := txt_of (code := Try.f43.body.getD .ret) mixed (by kernel_rfl) Try.func43 (by kernel_rfl) Try.ntmps43 (by kernel_rfl) (ls := [([0, 1], []), ([], []), ([0, 1, 10], []), ([], []), ([4], []), ([], []), ([999999, 0, 1], []), ([0, 1, 5], []), ([], []), ([0, 1, 5, 14], []), ([], []), ([999999, 0, 1, 5], []), ([0, 1, 5, 25], []), ([], []), ([4], []), ([], []), ([999999, 0, 1, 5], []), ([0, 1, 5], []), ([999999], []), ([4], []), ([], [])]) (by kernel_rfl)
end Go.Proofs.Ytehcobkphobjiaa

/-
  The functions' text as data, and the facts on the types that they use: written by a program of ours (gen2.py) off the translation.
-/
namespace Go.Proofs.Ytehcobkphobjiaa
set_option linter.unusedVariables false
set_option linter.unusedSimpArgs false
set_option maxRecDepth 20000
open Go Go.G Go.Proofs
@[simp] theorem und_22 : Try.prog.underlying 22 = some (.slice 23) := by kernel_rfl
@[simp] theorem und_24 : Try.prog.underlying 24 = some (.pointer 113) := by kernel_rfl
@[simp] theorem und_274 : Try.prog.underlying 274 = some (.array 7 3) := by kernel_rfl
@[simp] theorem szT_22 : szT Try.prog 22 = some 1 := by kernel_rfl
@[simp] theorem szT_23 : szT Try.prog 23 = some 1 := by kernel_rfl
@[simp] theorem szT_172 : szT Try.prog 172 = some 10 := by kernel_rfl
@[simp] theorem szT_185 : szT Try.prog 185 = some 10 := by kernel_rfl
@[simp] theorem szT_274 : szT Try.prog 274 = some 7 := by kernel_rfl
@[simp] theorem aggT_22 : aggT Try.prog 22 = some false := by kernel_rfl
@[simp] theorem aggT_23 : aggT Try.prog 23 = some false := by kernel_rfl
@[simp] theorem aggT_172 : aggT Try.prog 172 = some true := by kernel_rfl
@[simp] theorem aggT_185 : aggT Try.prog 185 = some true := by kernel_rfl
@[simp] theorem zeroT_23 : zeroT Try.prog 23 = some (Value.slice none 0 0) := by kernel_rfl
@[simp] theorem zeroT_172 : zeroT Try.prog 172 = some (Value.agg #[Value.int IntKind.i64 0, Value.int IntKind.i64 0, Value.int IntKind.i64 0, Value.int IntKind.i64 0, Value.int IntKind.i64 0, Value.int IntKind.i64 0, Value.int IntKind.i64 0, Value.bool false, Value.int IntKind.i64 0, Value.int IntKind.i64 0]) := by kernel_rfl
@[simp] theorem zeroT_185 : zeroT Try.prog 185 = some (Value.agg #[Value.int IntKind.i64 0, Value.int IntKind.i64 0, Value.int IntKind.i64 0, Value.int IntKind.i64 0, Value.int IntKind.i64 0, Value.int IntKind.i64 0, Value.int IntKind.i64 0, Value.bool false, Value.int IntKind.i64 0, Value.int IntKind.i64 0]) := by kernel_rfl
@[simp] theorem zeroT_274 : zeroT Try.prog 274 = some (Value.agg #[Value.int IntKind.i64 0, Value.int IntKind.i64 0, Value.int IntKind.i64 0, Value.int IntKind.i64 0, Value.int IntKind.i64 0, Value.int IntKind.i64 0, Value.int IntKind.i64 0]) := by kernel_rfl
@[simp] theorem bytesT_23 : bytesT Try.prog 23 = some 24 := by kernel_rfl
@[simp] theorem fieldOffT_113_0 : fieldOffT Try.prog 113 0 = some 0 := by kernel_rfl
@[simp] theorem fieldOffT_170_0 : fieldOffT Try.prog 170 0 = some 0 := by kernel_rfl
@[simp] theorem fieldOffT_170_1 : fieldOffT Try.prog 170 1 = some 1 := by kernel_rfl
@[simp] theorem fieldOffT_170_2 : fieldOffT Try.prog 170 2 = some 2 := by kernel_rfl
@[simp] theorem fieldOffT_170_3 : fieldOffT Try.prog 170 3 = some 3 := by kernel_rfl
@[simp] theorem fieldOffT_170_4 : fieldOffT Try.prog 170 4 = some 4 := by kernel_rfl
@[simp] theorem fieldOffT_170_5 : fieldOffT Try.prog 170 5 = some 5 := by kernel_rfl
@[simp] theorem fieldOffT_170_6 : fieldOffT Try.prog 170 6 = some 6 := by kernel_rfl
@[simp] theorem fieldOffT_170_7 : fieldOffT Try.prog 170 7 = some 7 := by kernel_rfl
@[simp] theorem fieldOffT_172_0 : fieldOffT Try.prog 172 0 = some 0 := by kernel_rfl
@[simp] theorem fieldOffT_172_1 : fieldOffT Try.prog 172 1 = some 8 := by kernel_rfl
@[simp] theorem fieldOffT_172_2 : fieldOffT Try.prog 172 2 = some 9 := by kernel_rfl
@[simp] theorem fieldOffT_185_0 : fieldOffT Try.prog 185 0 = some 0 := by kernel_rfl
@[simp] theorem fieldOffT_185_1 : fieldOffT Try.prog 185 1 = some 8 := by kernel_rfl
@[simp] theorem fieldOffT_185_2 : fieldOffT Try.prog 185 2 = some 9 := by kernel_rfl
@[simp] theorem buildA_113 (ps : List (Nat × A)) : buildA Try.prog 113 ps = (fillA (fun i => ([(0, 1), (1, 1), (2, 1), (3, 1)] : List (Nat × Nat))[i]?) [A.sl true [], A.v (Value.int IntKind.i64 0), A.v (Value.int IntKind.i64 0), A.v (Value.int IntKind.i64 0)] ps).map A.agg := by kernel_rfl
@[simp] theorem buildA_172 (ps : List (Nat × A)) : buildA Try.prog 172 ps = (fillA (fun i => ([(0, 8), (8, 1), (9, 1)] : List (Nat × Nat))[i]?) [A.v (Value.int IntKind.i64 0), A.v (Value.int IntKind.i64 0), A.v (Value.int IntKind.i64 0), A.v (Value.int IntKind.i64 0), A.v (Value.int IntKind.i64 0), A.v (Value.int IntKind.i64 0), A.v (Value.int IntKind.i64 0), A.v (Value.bool false), A.v (Value.int IntKind.i64 0), A.v (Value.int IntKind.i64 0)] ps).map A.agg := by kernel_rfl
@[simp] theorem buildA_185 (ps : List (Nat × A)) : buildA Try.prog 185 ps = (fillA (fun i => ([(0, 8), (8, 1), (9, 1)] : List (Nat × Nat))[i]?) [A.v (Value.int IntKind.i64 0), A.v (Value.int IntKind.i64 0), A.v (Value.int IntKind.i64 0), A.v (Value.int IntKind.i64 0), A.v (Value.int IntKind.i64 0), A.v (Value.int IntKind.i64 0), A.v (Value.int IntKind.i64 0), A.v (Value.bool false), A.v (Value.int IntKind.i64 0), A.v (Value.int IntKind.i64 0)] ps).map A.agg := by kernel_rfl
@[simp] theorem buildA_274 (ps : List (Nat × A)) : buildA Try.prog 274 ps = (fillA (fun i => some (i * 1, 1)) [A.v (Value.int IntKind.i64 0), A.v (Value.int IntKind.i64 0), A.v (Value.int IntKind.i64 0), A.v (Value.int IntKind.i64 0), A.v (Value.int IntKind.i64 0), A.v (Value.int IntKind.i64 0), A.v (Value.int IntKind.i64 0)] ps).map A.agg := by kernel_rfl
/-- slices.Clone[[]uint64,uint64] -/
def c_slices_Clone_uint64_uint64 : CC :=
  .seq (.reg [co (some 2) (.assign (.const (.slice none 0 0))) none] [0])
  (.seq (.seq (.reg [co (some 3) (.move (.tmp 0)) none,
        co (some 4) (.binOp .eql 23 (.tmp 3) (.const (.slice none 0 0)) 23) none] [0, 4])
    (.cond (.tmp 4)
      (.seq (.reg [co (some 2) (.assign (.const (.slice none 0 0))) none] [2])
      (.ret))
      (.skip)))
  (.keep [0] (.seq (.reg [co (some 5) (.buildSlice 23 0 #[]) none,
      co (some 6) (.move (.tmp 0)) none,
      cn (some 7) (.call { callee := (.builtin .append), args := #[(.tmp 5), (.tmp 6)], argTypes := #[23, 23] }) none [0],
      co (some 2) (.assign (.tmp 7)) none] [2])
  (.ret))))
theorem t_slices_Clone_uint64_uint64 : Txt Try.prog 60 8 [(.tmp 2)] c_slices_Clone_uint64_uint64 := txt_of (code := Try.f60.body.getD .ret) mixed (by kernel_rfl) Try.func60 (by kernel_rfl) Try.ntmps60 (by kernel_rfl) (ls := [([0], []), ([], []), ([0, 4], []), ([], []), ([2], []), ([], []), ([999999, 0], []), ([2], [(2, [0])]), ([], [])]) (by kernel_rfl)
/-- (*cento/arena.Arena).Len -/
def c_arena_Arena_Len : CC :=
  .seq (.reg [co (some 2) (.assign (.const (.int .i64 0))) none] [0])
  (.seq (.seq (.reg [co (some 3) (.move (.tmp 0)) none,
        co (some 4) (.binOp .eql 24 (.tmp 3) (.const (.pointer none)) 24) none] [0, 4])
    (.cond (.tmp 4)
      (.seq (.reg [co (some 2) (.assign (.const (.int .i64 0))) none] [2])
      (.ret))
      (.skip)))
  (.keep [0] (.seq (.reg [co (some 5) (.move (.tmp 0)) none,
      co (some 6) (.nilCheck (.tmp 5)) none,
      co (some 7) (.fieldAddr 113 (.tmp 6) 0) none,
      co (some 8) (.load 22 (.tmp 7)) none,
      co (some 9) (.call { callee := (.builtin .len), args := #[(.tmp 8)], argTypes := #[22] }) none,
      co (some 2) (.assign (.tmp 9)) none] [2])
  (.ret))))
theorem t_arena_Arena_Len : Txt Try.prog 23 10 [(.tmp 2)] c_arena_Arena_Len := txt_of (code := Try.f23.body.getD .ret) mixed (by kernel_rfl) Try.func23 (by kernel_rfl) Try.ntmps23 (by kernel_rfl) (ls := [([0], []), ([], []), ([0, 4], []), ([], []), ([2], []), ([], []), ([999999, 0], []), ([2], []), ([], [])]) (by kernel_rfl)
/-- (*cento/arena.Arena).Size -/
def c_arena_Arena_Size : CC :=
  .seq (.reg [co (some 4) (.assign (.const (.int .i64 0))) none] [0, 1])
  (.seq (.seq (.reg [co (some 5) (.move (.tmp 1)) none,
        co (some 6) (.binOp .lss 3 (.tmp 5) (.const (.int .i64 0)) 3) none,
        co (some 7) (.move (.tmp 6)) none,
        co (some 8) (.move (.tmp 1)) (some (7, false)),
        co (some 9) (.move (.tmp 0)) (some (7, false)),
        co (some 10) (.call { callee := (.value (.func 23)), args := #[(.tmp 9)], argTypes := #[24] }) (some (7, false)),
        co (some 11) (.binOp .geq 3 (.tmp 8) (.tmp 10) 3) (some (7, false)),
        co (some 12) (.pick (.tmp 7) (.const (.bool true)) (.tmp 11)) none] [0, 1, 12])
    (.cond (.tmp 12)
      (.seq (.reg [co (some 4) (.assign (.const (.int .i64 0))) none] [4])
      (.ret))
      (.skip)))
  (.keep [0, 1] (.seq (.reg [co (some 13) (.move (.tmp 0)) none,
      co (some 14) (.nilCheck (.tmp 13)) none,
      co (some 15) (.fieldAddr 113 (.tmp 14) 0) none,
      co (some 16) (.load 22 (.tmp 15)) none,
      co (some 17) (.move (.tmp 1)) none,
      co (some 18) (.indexAddr 22 (.tmp 16) (.tmp 17)) none,
      co (some 19) (.load 23 (.tmp 18)) none,
      co (some 20) (.call { callee := (.builtin .len), args := #[(.tmp 19)], argTypes := #[23] }) none,
      co (some 4) (.assign (.tmp 20)) none] [4])
  (.ret))))
theorem t_arena_Arena_Size : Txt Try.prog 66 21 [(.tmp 4)] c_arena_Arena_Size := txt_of (code := Try.f66.body.getD .ret) mixed (by kernel_rfl) Try.func66 (by kernel_rfl) Try.ntmps66 (by kernel_rfl) (ls := [([0, 1], []), ([], []), ([0, 1, 12], []), ([], []), ([4], []), ([], []), ([999999, 0, 1], []), ([4], []), ([], [])]) (by kernel_rfl)
end Go.Proofs.Ytehcobkphobjiaa

/-
  Chapter 6's functions: arenas that are only read.
-/
namespace Go.Proofs.Ytehcobkphobjiaa
set_option linter.unusedVariables false
set_option linter.unusedSimpArgs false
open Go Go.G Go.Proofs
abbrev ws (l : List Int) : A := .sl false (l.map uv)
abbrev sgs (l : List (List Int)) : A := .sl false (l.map ws)
@[simp] theorem lens_uv (l : List Int) : lens 1 (l.map uv) = true := by simp [lens]
@[simp] theorem lens_ws (l : List (List Int)) : lens 1 (l.map ws) = true := by simp [lens]
theorem clone_spec (f : Bool) (l : List Int) (h : l.length * 8 ≤ 140737488355328) : SpecB Try.prog 60 [.sl f (l.map uv)] (ws l) := by
  cases l with
  | nil =>
    refine specB_nil (fun cap => ?_) (fun a cap => ?_)
    · refine specB_of t_slices_Clone_uint64_uint64 (by simp) fun w0 I0 => ?_
      unfold c_slices_Clone_uint64_uint64
      simp
      exact frzN_nil
    · refine specB_of t_slices_Clone_uint64_uint64 (by simp) fun w0 I0 => ?_
      unfold c_slices_Clone_uint64_uint64
      simp
      exact frzN_osl (sz := 1) (xs := []) (by simp) (by simp) (by simp)
  | cons x l =>
    refine specB_of t_slices_Clone_uint64_uint64 (by simp) fun w0 I0 => ?_
    unfold c_slices_Clone_uint64_uint64
    simp at h ⊢
    refine ⟨h, ?_⟩
    have := frzN_osl (H := lkH [([0], { u := 1, ob := Ob.arr 1 (uv x :: l.map uv) })]) (o := [0]) (u := 1) (off := 0) (len := l.length + 1) (sz := 1) (xs := uv x :: l.map uv) (by simp) (by simp) (by simp [A.flat1, List.take_of_length_le])
    simp [List.take_of_length_le] at this
    exact this
/-- An arena that is only read. -/
abbrev arX (l : List (List Int)) (z m u : Int) : A := .pim [sgs l, iv z, iv m, iv u]
abbrev arn (l : List (List Int)) : A := arX l 0 0 0
theorem frz_sgs {H : Hp} {o : Nm} {u n : Nat} {l : List (List Int)} (h : vr (H o) u = some (1, l.map ws)) (hn : n = l.length) : Frz H (.osl o u 1 0 n) (sgs l) := by
  subst hn
  have := frz_osl (H := H) (o := o) (u := u) (off := 0) (len := l.length) (sz := 1) (xs := l.map ws) (by simpa using h) (by simp) (by simp [List.take_of_length_le])
  simp [List.take_of_length_le] at this
  exact this
theorem len_spec {z m u : Int} (l : List (List Int)) : G.Spec Try.prog 23 [arX l z m u] (iv l.length) := by
  refine spec_of t_arena_Arena_Len (by simp) fun w0 I0 => ?_
  unfold c_arena_Arena_Len
  simp
  exact frz_bare rfl
/-- A segment; its length. -/
def seg (l : List (List Int)) (s : Int) : Option (List Int) := if 0 ≤ s then l[s.toNat]? else none
def szAt (l : List (List Int)) (s : Int) : Nat := ((seg l s).map List.length).getD 0
theorem seg_in {l : List (List Int)} {s : Int} (h0 : 0 ≤ s) (h1 : s < l.length) : ∃ h : s.toNat < l.length, seg l s = some l[s.toNat] := by
  have : s.toNat < l.length := by omega
  exact ⟨this, by simp [seg, h0, this]⟩
theorem seg_out {l : List (List Int)} {s : Int} (h : s < 0 ∨ l.length ≤ s) : seg l s = none := by
  unfold seg
  split
  · rw [List.getElem?_eq_none_iff]; omega
  · rfl
theorem seg_some {l : List (List Int)} {s : Int} {g : List Int} (h : seg l s = some g) : 0 ≤ s ∧ s < l.length ∧ ∃ h : s.toNat < l.length, g = l[s.toNat] := by
  unfold seg at h
  split at h
  · obtain ⟨h1, h2⟩ := List.getElem?_eq_some_iff.1 h
    exact ⟨by assumption, by omega, h1, h2.symm⟩
  · cases h
theorem size_spec {z m u : Int} (l : List (List Int)) (s : Int) : G.Spec Try.prog 66 [arX l z m u, iv s] (iv (szAt l s)) := by
  refine spec_of t_arena_Arena_Size (by simp) fun w0 I0 => ?_
  unfold c_arena_Arena_Size
  simp
  refine sc_call_gf rfl (fun _ => len_spec (z := z) (m := m) (u := u) l) (fun e => by simp [e]) rfl ?_
  simp
  refine ⟨fun h => ?_, fun h0 h1 => ?_⟩
  · rw [szAt, seg_out h]
    exact frz_bare rfl
  · obtain ⟨h2, e1⟩ := seg_in h0 h1
    simp [h0, h1, h2]
    rw [szAt, e1]
    exact frz_int rfl
/-- Are so many words, from one on, in a segment? -/
def hasW (l : List (List Int)) (s a n : Int) : Bool := decide (0 ≤ s ∧ s < l.length ∧ 0 ≤ a ∧ 0 ≤ n ∧ a + n ≤ szAt l s)
/-- A word. -/
def word (l : List (List Int)) (s a : Int) : Option Int := if 0 ≤ a then (seg l s).bind fun g => g[a.toNat]? else none
/-- Words. -/
def part (l : List (List Int)) (s a n : Int) : List Int := (((seg l s).getD []).drop a.toNat).take n.toNat
end Go.Proofs.Ytehcobkphobjiaa

/-
  Chapter 6: far pointers are followed, by the program and by the document.
-/
namespace Go.Proofs.Ytehcobkphobjiaa
set_option linter.unusedVariables false
set_option linter.unusedSimpArgs false
open Go Go.G Go.Proofs
/-- How many bits each kid has. -/
def bitsOf (c : Int) : Int := if c = 0 then 0 else if c = 1 then 1 else if c = 2 then 8 else if c = 3 then 16 else if c = 4 then 32 else 64
/-- How many words what is pointed to takes. -/
def wordsP (p : Pt) : Option Int :=
  if p.kind = 1 then some (p.data + p.ptrs)
  else if p.kind = 2 ∧ p.code = 7 then some (p.count + 1)
  else if p.kind = 2 ∧ 0 ≤ p.code ∧ p.code ≤ 6 ∧ 0 ≤ p.count ∧ p.count ≤ 536870911 then some ((p.count * bitsOf p.code + 63) / 64)
  else none
/-- What a pointer points to. -/
structure Lc where
  p : Pt
  s : Int
  at_ : Int
deriving DecidableEq
def Pt.l (p : Pt) : List A := [iv p.kind, iv p.off, iv p.data, iv p.ptrs, iv p.code, iv p.count, iv p.seg, bv p.dbl]
@[simp] theorem Pt.l_eq (p : Pt) : p.l = [iv p.kind, iv p.off, iv p.data, iv p.ptrs, iv p.code, iv p.count, iv p.seg, bv p.dbl] := rfl
def Pt.zero : Pt := ⟨0, 0, 0, 0, 0, 0, 0, false⟩
def Lc.zero : Lc := ⟨Pt.zero, 0, 0⟩
abbrev Lc.a (x : Lc) : A := .agg [iv x.p.kind, iv x.p.off, iv x.p.data, iv x.p.ptrs, iv x.p.code, iv x.p.count, iv x.p.seg, bv x.p.dbl, iv x.s, iv x.at_]
/-- All of it in its segment? -/
def insideP (l : List (List Int)) (x : Lc) : Lc × Int := if hasW l x.s x.at_ ((wordsP x.p).getD 0) = true then (⟨{ x.p with off := 0 }, x.s, x.at_⟩, 0) else (Lc.zero, 7)
def nearP (l : List (List Int)) (p : Pt) (s a : Int) : Lc × Int :=
  if p.kind = 1 ∨ p.kind = 2 then insideP l ⟨p, s, a + 1 + p.off⟩ else if p.kind = 4 then (Lc.zero, 9) else (Lc.zero, 8)
/-- All of it are words. -/
def Wds (l : List (List Int)) : Prop := ∀ x, x ∈ l → ∀ y, y ∈ x → 0 ≤ y ∧ y < 18446744073709551616
/-- Two words: a far pointer to what is meant, and its shape. -/
def doubleP (l : List (List Int)) (s a : Int) : Lc × Int :=
  match word l s a, word l s (a + 1) with
  | some v, some w =>
    if (dec v).kind ≠ 3 ∨ (dec v).dbl = true then (Lc.zero, 8)
    else if (dec w).kind = 4 then (Lc.zero, 9)
    else if ((dec w).kind ≠ 1 ∧ (dec w).kind ≠ 2) ∨ (dec w).off ≠ 0 then (Lc.zero, 8)
    else insideP l ⟨dec w, (dec v).seg, (dec v).off⟩
  | _, _ => (Lc.zero, 7)
/-- What the pointer points to that stands in a word. -/
def followP (l : List (List Int)) (s a : Int) : Lc × Int :=
  match word l s a with
  | none => (Lc.zero, 7)
  | some w =>
    if (dec w).kind = 0 then (Lc.zero, 0)
    else if (dec w).kind ≠ 3 then nearP l (dec w) s a
    else if (dec w).dbl = true then doubleP l (dec w).seg (dec w).off
    else match word l (dec w).seg (dec w).off with
      | none => (Lc.zero, 7)
      | some v => nearP l (dec v) (dec w).seg (dec w).off
end Go.Proofs.Ytehcobkphobjiaa

/-
  The functions' text as data, and the facts on the types that they use: written by a program of ours (gen2.py) off the translation.
-/
namespace Go.Proofs.Ytehcobkphobjiaa
set_option linter.unusedVariables false
set_option linter.unusedSimpArgs false
set_option maxRecDepth 20000
open Go Go.G Go.Proofs
@[simp] theorem und_4 : Try.prog.underlying 4 = some .bool := by kernel_rfl
@[simp] theorem und_51 : Try.prog.underlying 51 = some (.slice 53) := by kernel_rfl
@[simp] theorem szT_51 : szT Try.prog 51 = some 1 := by kernel_rfl
@[simp] theorem szT_53 : szT Try.prog 53 = some 3 := by kernel_rfl
@[simp] theorem aggT_51 : aggT Try.prog 51 = some false := by kernel_rfl
@[simp] theorem aggT_53 : aggT Try.prog 53 = some true := by kernel_rfl
@[simp] theorem zeroT_53 : zeroT Try.prog 53 = some (Value.agg #[Value.int IntKind.i64 0, Value.slice none 0 0, Value.slice none 0 0]) := by kernel_rfl
@[simp] theorem bytesT_53 : bytesT Try.prog 53 = some 56 := by kernel_rfl
@[simp] theorem fieldOffT_53_0 : fieldOffT Try.prog 53 0 = some 0 := by kernel_rfl
@[simp] theorem fieldOffT_53_1 : fieldOffT Try.prog 53 1 = some 1 := by kernel_rfl
@[simp] theorem fieldOffT_53_2 : fieldOffT Try.prog 53 2 = some 2 := by kernel_rfl
@[simp] theorem buildA_53 (ps : List (Nat × A)) : buildA Try.prog 53 ps = (fillA (fun i => ([(0, 1), (1, 1), (2, 1)] : List (Nat × Nat))[i]?) [A.v (Value.int IntKind.i64 0), A.sl true [], A.sl true []] ps).map A.agg := by kernel_rfl
end Go.Proofs.Ytehcobkphobjiaa

/-
  The functions' text as data, and the facts on the types that they use: written by a program of ours (gen2.py) off the translation.
-/
namespace Go.Proofs.Ytehcobkphobjiaa
set_option linter.unusedVariables false
set_option linter.unusedSimpArgs false
set_option maxRecDepth 20000
open Go Go.G Go.Proofs
@[simp] theorem und_64 : Try.prog.underlying 64 = some (.int .i64) := by kernel_rfl
@[simp] theorem szT_24 : szT Try.prog 24 = some 1 := by kernel_rfl
@[simp] theorem szT_60 : szT Try.prog 60 = some 4 := by kernel_rfl
@[simp] theorem szT_68 : szT Try.prog 68 = some 8 := by kernel_rfl
@[simp] theorem szT_128 : szT Try.prog 128 = some 7 := by kernel_rfl
@[simp] theorem aggT_24 : aggT Try.prog 24 = some false := by kernel_rfl
@[simp] theorem aggT_60 : aggT Try.prog 60 = some true := by kernel_rfl
@[simp] theorem aggT_68 : aggT Try.prog 68 = some true := by kernel_rfl
@[simp] theorem aggT_128 : aggT Try.prog 128 = some true := by kernel_rfl
@[simp] theorem zeroT_60 : zeroT Try.prog 60 = some (Value.agg #[Value.int IntKind.i64 0, Value.int IntKind.i64 0, Value.int IntKind.i64 0, Value.int IntKind.i64 0]) := by kernel_rfl
@[simp] theorem zeroT_68 : zeroT Try.prog 68 = some (Value.agg #[Value.pointer none, Value.int IntKind.i64 0, Value.int IntKind.i64 0, Value.int IntKind.i64 0, Value.int IntKind.i64 0, Value.int IntKind.i64 0, Value.int IntKind.i64 0, Value.int IntKind.u64 0]) := by kernel_rfl
@[simp] theorem zeroT_128 : zeroT Try.prog 128 = some (Value.agg #[Value.int IntKind.i64 0, Value.int IntKind.i64 0, Value.int IntKind.i64 0, Value.int IntKind.i64 0, Value.int IntKind.i64 0, Value.int IntKind.i64 0, Value.int IntKind.u64 0]) := by kernel_rfl
@[simp] theorem fieldOffT_60_0 : fieldOffT Try.prog 60 0 = some 0 := by kernel_rfl
@[simp] theorem fieldOffT_60_1 : fieldOffT Try.prog 60 1 = some 1 := by kernel_rfl
@[simp] theorem fieldOffT_60_2 : fieldOffT Try.prog 60 2 = some 2 := by kernel_rfl
@[simp] theorem fieldOffT_60_3 : fieldOffT Try.prog 60 3 = some 3 := by kernel_rfl
@[simp] theorem fieldOffT_68_0 : fieldOffT Try.prog 68 0 = some 0 := by kernel_rfl
@[simp] theorem fieldOffT_68_1 : fieldOffT Try.prog 68 1 = some 1 := by kernel_rfl
@[simp] theorem fieldOffT_68_2 : fieldOffT Try.prog 68 2 = some 2 := by kernel_rfl
@[simp] theorem fieldOffT_68_3 : fieldOffT Try.prog 68 3 = some 3 := by kernel_rfl
@[simp] theorem fieldOffT_68_4 : fieldOffT Try.prog 68 4 = some 4 := by kernel_rfl
@[simp] theorem fieldOffT_68_5 : fieldOffT Try.prog 68 5 = some 5 := by kernel_rfl
@[simp] theorem fieldOffT_68_6 : fieldOffT Try.prog 68 6 = some 6 := by kernel_rfl
@[simp] theorem fieldOffT_68_7 : fieldOffT Try.prog 68 7 = some 7 := by kernel_rfl
@[simp] theorem fieldOffT_128_0 : fieldOffT Try.prog 128 0 = some 0 := by kernel_rfl
@[simp] theorem fieldOffT_128_1 : fieldOffT Try.prog 128 1 = some 1 := by kernel_rfl
@[simp] theorem fieldOffT_128_2 : fieldOffT Try.prog 128 2 = some 2 := by kernel_rfl
@[simp] theorem fieldOffT_128_3 : fieldOffT Try.prog 128 3 = some 3 := by kernel_rfl
@[simp] theorem fieldOffT_128_4 : fieldOffT Try.prog 128 4 = some 4 := by kernel_rfl
@[simp] theorem fieldOffT_128_5 : fieldOffT Try.prog 128 5 = some 5 := by kernel_rfl
@[simp] theorem fieldOffT_128_6 : fieldOffT Try.prog 128 6 = some 6 := by kernel_rfl
@[simp] theorem buildA_60 (ps : List (Nat × A)) : buildA Try.prog 60 ps = (fillA (fun i => ([(0, 1), (1, 1), (2, 1), (3, 1)] : List (Nat × Nat))[i]?) [A.v (Value.int IntKind.i64 0), A.v (Value.int IntKind.i64 0), A.v (Value.int IntKind.i64 0), A.v (Value.int IntKind.i64 0)] ps).map A.agg := by kernel_rfl
@[simp] theorem buildA_68 (ps : List (Nat × A)) : buildA Try.prog 68 ps = (fillA (fun i => ([(0, 1), (1, 1), (2, 1), (3, 1), (4, 1), (5, 1), (6, 1), (7, 1)] : List (Nat × Nat))[i]?) [A.v (Value.pointer none), A.v (Value.int IntKind.i64 0), A.v (Value.int IntKind.i64 0), A.v (Value.int IntKind.i64 0), A.v (Value.int IntKind.i64 0), A.v (Value.int IntKind.i64 0), A.v (Value.int IntKind.i64 0), A.v (Value.int IntKind.u64 0)] ps).map A.agg := by kernel_rfl
@[simp] theorem buildA_128 (ps : List (Nat × A)) : buildA Try.prog 128 ps = (fillA (fun i => ([(0, 1), (1, 1), (2, 1), (3, 1), (4, 1), (5, 1), (6, 1)] : List (Nat × Nat))[i]?) [A.v (Value.int IntKind.i64 0), A.v (Value.int IntKind.i64 0), A.v (Value.int IntKind.i64 0), A.v (Value.int IntKind.i64 0), A.v (Value.int IntKind.i64 0), A.v (Value.int IntKind.i64 0), A.v (Value.int IntKind.u64 0)] ps).map A.agg := by kernel_rfl
end Go.Proofs.Ytehcobkphobjiaa

/-
  The functions' text as data, and the facts on the types that they use: written by a program of ours (gen2.py) off the translation.
-/
namespace Go.Proofs.Ytehcobkphobjiaa
set_option linter.unusedVariables false
set_option linter.unusedSimpArgs false
set_option maxRecDepth 20000
open Go Go.G Go.Proofs
@[simp] theorem fieldOffT_229_0 : fieldOffT Try.prog 229 0 = some 0 := by kernel_rfl
@[simp] theorem buildA_229 (ps : List (Nat × A)) : buildA Try.prog 229 ps = (fillA (fun i => ([(0, 1)] : List (Nat × Nat))[i]?) [A.v (Value.int IntKind.u64 0)] ps).map A.agg := by kernel_rfl
end Go.Proofs.Ytehcobkphobjiaa

/-
  The functions' text as data, and the facts on the types that they use: written by a program of ours (gen2.py) off the translation.
-/
namespace Go.Proofs.Ytehcobkphobjiaa
set_option linter.unusedVariables false
set_option linter.unusedSimpArgs false
set_option maxRecDepth 20000
open Go Go.G Go.Proofs
@[simp] theorem und_61 : Try.prog.underlying 61 = some (.pointer 134) := by kernel_rfl
@[simp] theorem und_63 : Try.prog.underlying 63 = some (.slice 3) := by kernel_rfl
@[simp] theorem und_132 : Try.prog.underlying 132 = some (.slice 182) := by kernel_rfl
@[simp] theorem szT_63 : szT Try.prog 63 = some 1 := by kernel_rfl
@[simp] theorem szT_132 : szT Try.prog 132 = some 1 := by kernel_rfl
@[simp] theorem szT_182 : szT Try.prog 182 = some 9 := by kernel_rfl
@[simp] theorem aggT_63 : aggT Try.prog 63 = some false := by kernel_rfl
@[simp] theorem aggT_132 : aggT Try.prog 132 = some false := by kernel_rfl
@[simp] theorem aggT_182 : aggT Try.prog 182 = some true := by kernel_rfl
@[simp] theorem zeroT_3 : zeroT Try.prog 3 = some (Value.int IntKind.i64 0) := by kernel_rfl
@[simp] theorem zeroT_182 : zeroT Try.prog 182 = some (Value.agg #[Value.int IntKind.u64 0, Value.pointer none, Value.int IntKind.i64 0, Value.int IntKind.i64 0, Value.int IntKind.i64 0, Value.int IntKind.i64 0, Value.int IntKind.i64 0, Value.int IntKind.i64 0, Value.int IntKind.u64 0]) := by kernel_rfl
@[simp] theorem bytesT_3 : bytesT Try.prog 3 = some 8 := by kernel_rfl
@[simp] theorem bytesT_182 : bytesT Try.prog 182 = some 72 := by kernel_rfl
@[simp] theorem fieldOffT_134_0 : fieldOffT Try.prog 134 0 = some 0 := by kernel_rfl
@[simp] theorem fieldOffT_134_1 : fieldOffT Try.prog 134 1 = some 1 := by kernel_rfl
@[simp] theorem fieldOffT_182_0 : fieldOffT Try.prog 182 0 = some 0 := by kernel_rfl
@[simp] theorem fieldOffT_182_1 : fieldOffT Try.prog 182 1 = some 1 := by kernel_rfl
@[simp] theorem buildA_134 (ps : List (Nat × A)) : buildA Try.prog 134 ps = (fillA (fun i => ([(0, 1), (1, 1)] : List (Nat × Nat))[i]?) [A.sl true [], A.sl true []] ps).map A.agg := by kernel_rfl
@[simp] theorem buildA_182 (ps : List (Nat × A)) : buildA Try.prog 182 ps = (fillA (fun i => ([(0, 1), (1, 8)] : List (Nat × Nat))[i]?) [A.v (Value.int IntKind.u64 0), A.v (Value.pointer none), A.v (Value.int IntKind.i64 0), A.v (Value.int IntKind.i64 0), A.v (Value.int IntKind.i64 0), A.v (Value.int IntKind.i64 0), A.v (Value.int IntKind.i64 0), A.v (Value.int IntKind.i64 0), A.v (Value.int IntKind.u64 0)] ps).map A.agg := by kernel_rfl
end Go.Proofs.Ytehcobkphobjiaa

/-
  The functions' text as data, and the facts on the types that they use: written by a program of ours (gen2.py) off the translation.
-/
namespace Go.Proofs.Ytehcobkphobjiaa
set_option linter.unusedVariables false
set_option linter.unusedSimpArgs false
set_option maxRecDepth 20000
open Go Go.G Go.Proofs
@[simp] theorem fieldOffT_140_0 : fieldOffT Try.prog 140 0 = some 0 := by kernel_rfl
@[simp] theorem fieldOffT_140_1 : fieldOffT Try.prog 140 1 = some 1 := by kernel_rfl
@[simp] theorem buildA_140 (ps : List (Nat × A)) : buildA Try.prog 140 ps = (fillA (fun i => ([(0, 1), (1, 1)] : List (Nat × Nat))[i]?) [A.sl true [], A.v (Value.int IntKind.i64 0)] ps).map A.agg := by kernel_rfl
@[simp] theorem fieldT_53_1 : fieldT Try.prog 53 1 = some (23, 1) := by kernel_rfl
@[simp] theorem fieldT_53_2 : fieldT Try.prog 53 2 = some (51, 2) := by kernel_rfl
end Go.Proofs.Ytehcobkphobjiaa

/-
  The functions' text as data, and the facts on the types that they use: written by a program of ours (gen2.py) off the translation.
-/
namespace Go.Proofs.Ytehcobkphobjiaa
set_option linter.unusedVariables false
set_option linter.unusedSimpArgs false
set_option maxRecDepth 20000
open Go Go.G Go.Proofs
@[simp] theorem und_36 : Try.prog.underlying 36 = some (.slice 41) := by kernel_rfl
@[simp] theorem szT_41 : szT Try.prog 41 = some 5 := by kernel_rfl
@[simp] theorem aggT_41 : aggT Try.prog 41 = some true := by kernel_rfl
@[simp] theorem zeroT_41 : zeroT Try.prog 41 = some (Value.agg #[Value.int IntKind.i64 0, Value.int IntKind.i64 0, Value.int IntKind.i64 0, Value.int IntKind.i64 0, Value.int IntKind.u64 0]) := by kernel_rfl
@[simp] theorem bytesT_41 : bytesT Try.prog 41 = some 40 := by kernel_rfl
@[simp] theorem fieldOffT_41_0 : fieldOffT Try.prog 41 0 = some 0 := by kernel_rfl
@[simp] theorem fieldOffT_41_1 : fieldOffT Try.prog 41 1 = some 1 := by kernel_rfl
@[simp] theorem fieldOffT_41_2 : fieldOffT Try.prog 41 2 = some 2 := by kernel_rfl
@[simp] theorem fieldOffT_41_3 : fieldOffT Try.prog 41 3 = some 3 := by kernel_rfl
@[simp] theorem fieldOffT_41_4 : fieldOffT Try.prog 41 4 = some 4 := by kernel_rfl
@[simp] theorem fieldOffT_44_0 : fieldOffT Try.prog 44 0 = some 0 := by kernel_rfl
@[simp] theorem fieldOffT_44_1 : fieldOffT Try.prog 44 1 = some 1 := by kernel_rfl
@[simp] theorem fieldOffT_44_2 : fieldOffT Try.prog 44 2 = some 2 := by kernel_rfl
@[simp] theorem fieldOffT_44_3 : fieldOffT Try.prog 44 3 = some 3 := by kernel_rfl
@[simp] theorem fieldOffT_113_1 : fieldOffT Try.prog 113 1 = some 1 := by kernel_rfl
@[simp] theorem fieldOffT_113_2 : fieldOffT Try.prog 113 2 = some 2 := by kernel_rfl
@[simp] theorem fieldOffT_113_3 : fieldOffT Try.prog 113 3 = some 3 := by kernel_rfl
@[simp] theorem buildA_44 (ps : List (Nat × A)) : buildA Try.prog 44 ps = (fillA (fun i => ([(0, 1), (1, 1), (2, 1), (3, 1)] : List (Nat × Nat))[i]?) [A.sl true [], A.v (Value.int IntKind.i64 0), A.v (Value.int IntKind.i64 0), A.v (Value.int IntKind.i64 0)] ps).map A.agg := by kernel_rfl
/-- cento/arena.New -/
def c_arena_New : CC :=
  .seq (.reg [co (some 4) (.assign (.const (.pointer none))) none] [0, 1])
  (.seq (.reg [co (some 5) (.move (.tmp 0)) none,
      co (some 6) (.call { callee := (.builtin .max), args := #[(.tmp 5), (.const (.int .i64 1))], argTypes := #[3, 3] }) none,
      co (some 7) (.move (.tmp 1)) none,
      co (some 8) (.call { callee := (.builtin .max), args := #[(.tmp 7), (.const (.int .i64 0))], argTypes := #[3, 3] }) none,
      co (some 9) (.call { callee := (.builtin .min), args := #[(.tmp 8), (.const (.int .i64 131072))], argTypes := #[3, 3] }) none,
      co (some 10) (.build 113 #[(1, (.tmp 6)), (2, (.tmp 9))]) none,
      cn (some 11) (.box 113 (.tmp 10)) none [0],
      co (some 4) (.assign (.tmp 11)) none] [4])
  (.ret))
theorem t_arena_New : Txt Try.prog 20 12 [(.tmp 4)] c_arena_New := txt_of (code := Try.f20.body.getD .ret) mixed (by kernel_rfl) Try.func20 (by kernel_rfl) Try.ntmps20 (by kernel_rfl) (ls := [([0, 1], []), ([], []), ([4], [(6, [0])]), ([], [])]) (by kernel_rfl)
def l1_arena_OfN : CC :=
  .seq (.reg [co (some 11) (.binOp .lss 3 (.tmp 10) (.tmp 9) 3) none] [3, 8, 9, 10, 11])
  (.seq (.cond (.tmp 11)
      (.skip)
      (.exit 0))
  (.keep [3, 8, 9, 10] (.seq (.block 1
      (.seq (.reg [co (some 12) (.indexAddr 22 (.tmp 8) (.tmp 10)) none,
          co (some 13) (.load 23 (.tmp 12)) none,
          co (some 5) (.assign (.tmp 13)) none] [3, 5, 8, 9, 10])
      (.reg [co (some 14) (.move (.tmp 3)) none,
        co (some 15) (.move (.tmp 3)) none,
        co (some 16) (.nilCheck (.tmp 15)) none,
        co (some 17) (.fieldAddr 113 (.tmp 16) 0) none,
        ⟨some 18, (.load 22 (.tmp 17)), none, [], 4, [], true⟩,
        co (some 19) (.move (.tmp 5)) none,
        ⟨some 20, (.call { callee := (.value (.func 60)), args := #[(.tmp 19)], argTypes := #[23] }), none, [], 6, [4], false⟩,
        ⟨some 21, (.buildSlice 22 1 #[(0, (.tmp 20))]), none, [], 7, [4], false⟩,
        cn (some 22) (.call { callee := (.builtin .append), args := #[(.tmp 18), (.tmp 21)], argTypes := #[22, 22] }) none [1, 0],
        co (some 23) (.nilCheck (.tmp 14)) none,
        co (some 24) (.fieldAddr 113 (.tmp 23) 0) none,
        co none (.store 22 (.tmp 24) (.tmp 22)) none] [3, 8, 9, 10])))
  (.reg [co (some 25) (.binOp .add 3 (.tmp 10) (.const (.int .i64 1)) 3) none,
    co (some 10) (.move (.tmp 25)) none] [3, 8, 9, 10]))))
/-- cento/arena.Of -/
def c_arena_OfN : CC :=
  .seq (.reg [co (some 2) (.assign (.const (.pointer none))) none] [0])
  (.seq (.reg [co (some 6) (.build 113 #[]) none,
      cn (some 7) (.box 113 (.tmp 6)) none [1],
      co (some 3) (.assign (.tmp 7)) none] [0, 3])
  (.seq (.seq (.reg [co (some 8) (.move (.tmp 0)) none,
        co (some 9) (.call { callee := (.builtin .len), args := #[(.tmp 8)], argTypes := #[22] }) none,
        co (some 10) (.move (.const (.int .i64 0))) none] [3, 8, 9, 10])
    (.block 0
      (.loop l1_arena_OfN)))
  (.keep [3] (.seq (.reg [co (some 26) (.move (.tmp 3)) none,
      co (some 2) (.assign (.tmp 26)) none] [2])
  (.ret)))))
theorem t_arena_OfN : Txt Try.prog 13 27 [(.tmp 2)] c_arena_OfN := txt_of (code := Try.f13.body.getD .ret) mixed (by kernel_rfl) Try.func13 (by kernel_rfl) Try.ntmps13 (by kernel_rfl) (ls := [([0], []), ([], []), ([0, 3], [(1, [1])]), ([], []), ([3, 8, 9, 10], []), ([], []), ([3, 8, 9, 10, 11], []), ([], []), ([999999, 3, 8, 9, 10], []), ([3, 5, 8, 9, 10], []), ([], []), ([3, 8, 9, 10], [(8, [1, 0])]), ([], []), ([3, 8, 9, 10], []), ([999999, 3], []), ([2], []), ([], [])]) (by kernel_rfl)
/-- (*cento/arena.Arena).Left -/
def c_arena_Arena_Left : CC :=
  .seq (.reg [co (some 2) (.assign (.const (.int .i64 0))) none] [0])
  (.seq (.seq (.reg [co (some 3) (.move (.tmp 0)) none,
        co (some 4) (.binOp .eql 24 (.tmp 3) (.const (.pointer none)) 24) none] [0, 4])
    (.cond (.tmp 4)
      (.seq (.reg [co (some 2) (.assign (.const (.int .i64 0))) none] [2])
      (.ret))
      (.skip)))
  (.keep [0] (.seq (.reg [co (some 5) (.move (.tmp 0)) none,
      co (some 6) (.nilCheck (.tmp 5)) none,
      co (some 7) (.fieldAddr 113 (.tmp 6) 2) none,
      co (some 8) (.load 3 (.tmp 7)) none,
      co (some 9) (.move (.tmp 0)) none,
      co (some 10) (.nilCheck (.tmp 9)) none,
      co (some 11) (.fieldAddr 113 (.tmp 10) 3) none,
      co (some 12) (.load 3 (.tmp 11)) none,
      co (some 13) (.binOp .sub 3 (.tmp 8) (.tmp 12) 3) none,
      co (some 2) (.assign (.tmp 13)) none] [2])
  (.ret))))
theorem t_arena_Arena_Left : Txt Try.prog 18 14 [(.tmp 2)] c_arena_Arena_Left := txt_of (code := Try.f18.body.getD .ret) mixed (by kernel_rfl) Try.func18 (by kernel_rfl) Try.ntmps18 (by kernel_rfl) (ls := [([0], []), ([], []), ([0, 4], []), ([], []), ([2], []), ([], []), ([999999, 0], []), ([2], []), ([], [])]) (by kernel_rfl)
/-- (*cento/arena.Arena).room -/
def c_arena_Arena_room : CC :=
  .seq (.reg [co (some 6) (.assign (.const (.bool false))) none] [0, 1, 2])
  (.seq (.reg [co (some 7) (.move (.tmp 0)) none,
      co (some 8) (.nilCheck (.tmp 7)) none,
      co (some 9) (.fieldAddr 113 (.tmp 8) 1) none,
      ⟨some 10, (.load 3 (.tmp 9)), none, [], 3, [], true⟩,
      co (some 11) (.move (.tmp 0)) none,
      co (some 12) (.move (.tmp 1)) none,
      ⟨some 13, (.call { callee := (.value (.func 66)), args := #[(.tmp 11), (.tmp 12)], argTypes := #[24, 3] }), none, [], 6, [3], false⟩,
      co (some 14) (.binOp .sub 3 (.tmp 10) (.tmp 13) 3) none,
      co (some 15) (.move (.tmp 2)) none,
      co (some 16) (.binOp .geq 3 (.tmp 14) (.tmp 15) 3) none,
      co (some 6) (.assign (.tmp 16)) none] [6])
  (.ret))
theorem t_arena_Arena_room : Txt Try.prog 61 17 [(.tmp 6)] c_arena_Arena_room := txt_of (code := Try.f61.body.getD .ret) mixed (by kernel_rfl) Try.func61 (by kernel_rfl) Try.ntmps61 (by kernel_rfl) (ls := [([0, 1, 2], []), ([], []), ([6], []), ([], [])]) (by kernel_rfl)
/-- (*cento/arena.Arena).grow -/
def c_arena_Arena_grow : CC :=
  .seq (.reg [co (some 6) (.assign (.const (.int .i64 0))) none] [0, 1, 2])
  (.seq (.reg [co (some 8) (.move (.tmp 0)) none,
      co (some 9) (.nilCheck (.tmp 8)) none,
      co (some 10) (.fieldAddr 113 (.tmp 9) 0) none,
      co (some 11) (.load 22 (.tmp 10)) none,
      co (some 12) (.move (.tmp 1)) none,
      co (some 13) (.indexAddr 22 (.tmp 11) (.tmp 12)) none,
      co (some 14) (.load 23 (.tmp 13)) none,
      co (some 15) (.call { callee := (.builtin .len), args := #[(.tmp 14)], argTypes := #[23] }) none,
      co (some 7) (.assign (.tmp 15)) none] [0, 1, 2, 7])
  (.seq (.reg [co (some 16) (.move (.tmp 0)) none,
      co (some 17) (.nilCheck (.tmp 16)) none,
      co (some 18) (.fieldAddr 113 (.tmp 17) 0) none,
      ⟨some 19, (.load 22 (.tmp 18)), none, [], 3, [], true⟩,
      co (some 20) (.move (.tmp 1)) none,
      co (some 21) (.move (.tmp 0)) none,
      co (some 22) (.nilCheck (.tmp 21)) none,
      co (some 23) (.fieldAddr 113 (.tmp 22) 0) none,
      co (some 24) (.load 22 (.tmp 23)) none,
      co (some 25) (.move (.tmp 1)) none,
      co (some 26) (.indexAddr 22 (.tmp 24) (.tmp 25)) none,
      co (some 27) (.load 23 (.tmp 26)) none,
      co (some 28) (.move (.tmp 2)) none,
      ⟨some 29, (.call { callee := (.builtin .append), args := #[(.tmp 27), (.tmp 28)], argTypes := #[23, 3] }), none, [1], 13, [3], false⟩,
      co (some 30) (.indexAddr 22 (.tmp 19) (.tmp 20)) none,
      co none (.store 23 (.tmp 30) (.tmp 29)) none] [0, 2, 7])
  (.seq (.reg [co (some 31) (.move (.tmp 0)) none,
      co (some 32) (.nilCheck (.tmp 31)) none,
      co (some 33) (.fieldAddr 113 (.tmp 32) 3) none,
      co (some 34) (.load 3 (.tmp 33)) none,
      co (some 35) (.move (.tmp 2)) none,
      co (some 36) (.binOp .add 3 (.tmp 34) (.tmp 35) 3) none,
      co (some 37) (.nilCheck (.tmp 31)) none,
      co (some 38) (.fieldAddr 113 (.tmp 37) 3) none,
      co none (.store 3 (.tmp 38) (.tmp 36)) none] [7])
  (.seq (.reg [co (some 39) (.move (.tmp 7)) none,
      co (some 6) (.assign (.tmp 39)) none] [6])
  (.ret)))))
theorem t_arena_Arena_grow : Txt Try.prog 62 40 [(.tmp 6)] c_arena_Arena_grow := txt_of (code := Try.f62.body.getD .ret) mixed (by kernel_rfl) Try.func62 (by kernel_rfl) Try.ntmps62 (by kernel_rfl) (ls := [([0, 1, 2], []), ([], []), ([0, 1, 2, 7], []), ([], []), ([0, 2, 7], [(13, [1])]), ([], []), ([7], []), ([], []), ([6], []), ([], [])]) (by kernel_rfl)
/-- (*cento/arena.Arena).In -/
def c_arena_Arena_In : CC :=
  .seq (.reg [co (some 6) (.assign (.const (.int .i64 0))) none,
      co (some 7) (.assign (.const (.bool false))) none] [0, 1, 2])
  (.seq (.seq (.reg [co (some 8) (.move (.tmp 1)) none,
        co (some 9) (.binOp .lss 3 (.tmp 8) (.const (.int .i64 0)) 3) none,
        co (some 10) (.move (.tmp 9)) none,
        co (some 11) (.move (.tmp 1)) (some (10, false)),
        co (some 12) (.move (.tmp 0)) (some (10, false)),
        co (some 13) (.call { callee := (.value (.func 23)), args := #[(.tmp 12)], argTypes := #[24] }) (some (10, false)),
        co (some 14) (.binOp .geq 3 (.tmp 11) (.tmp 13) 3) (some (10, false)),
        co (some 15) (.pick (.tmp 10) (.const (.bool true)) (.tmp 14)) none,
        co (some 16) (.move (.tmp 15)) none,
        co (some 17) (.move (.tmp 2)) (some (16, false)),
        co (some 18) (.binOp .lss 3 (.tmp 17) (.const (.int .i64 0)) 3) (some (16, false)),
        co (some 19) (.pick (.tmp 16) (.const (.bool true)) (.tmp 18)) none,
        co (some 20) (.move (.tmp 19)) none,
        co (some 21) (.move (.tmp 2)) (some (20, false)),
        co (some 22) (.move (.tmp 0)) (some (20, false)),
        co (some 23) (.call { callee := (.value (.func 18)), args := #[(.tmp 22)], argTypes := #[24] }) (some (20, false)),
        co (some 24) (.binOp .gtr 3 (.tmp 21) (.tmp 23) 3) (some (20, false)),
        co (some 25) (.pick (.tmp 20) (.const (.bool true)) (.tmp 24)) none,
        co (some 26) (.move (.tmp 25)) none,
        co (some 27) (.move (.tmp 0)) (some (26, false)),
        co (some 28) (.move (.tmp 1)) (some (26, false)),
        co (some 29) (.move (.tmp 2)) (some (26, false)),
        co (some 30) (.call { callee := (.value (.func 61)), args := #[(.tmp 27), (.tmp 28), (.tmp 29)], argTypes := #[24, 3, 3] }) (some (26, false)),
        co (some 31) (.unOp .not 4 (.tmp 30)) (some (26, false)),
        co (some 32) (.pick (.tmp 26) (.const (.bool true)) (.tmp 31)) none] [0, 1, 2, 32])
    (.cond (.tmp 32)
      (.seq (.reg [co (some 6) (.assign (.const (.int .i64 0))) none,
          co (some 7) (.assign (.const (.bool false))) none] [6, 7])
      (.ret))
      (.skip)))
  (.keep [0, 1, 2] (.seq (.reg [co (some 33) (.move (.tmp 0)) none,
      co (some 34) (.move (.tmp 1)) none,
      co (some 35) (.move (.tmp 2)) none,
      co (some 36) (.call { callee := (.value (.func 62)), args := #[(.tmp 33), (.tmp 34), (.tmp 35)], argTypes := #[24, 3, 3] }) none,
      co (some 6) (.assign (.tmp 36)) none,
      co (some 7) (.assign (.const (.bool true))) none] [6, 7])
  (.ret))))
theorem t_arena_Arena_In : Txt Try.prog 17 37 [(.tmp 6), (.tmp 7)] c_arena_Arena_In := txt_of (code := Try.f17.body.getD .ret) mixed (by kernel_rfl) Try.func17 (by kernel_rfl) Try.ntmps17 (by kernel_rfl) (ls := [([0, 1, 2], []), ([], []), ([0, 1, 2, 32], []), ([], []), ([6, 7], []), ([], []), ([999999, 0, 1, 2], []), ([6, 7], []), ([], [])]) (by kernel_rfl)
def k1_arena_Arena_Give : CC :=
  .seq (.reg [co (some 54) (.move (.tmp 7)) none,
      co (some 55) (.move (.tmp 0)) none,
      co (some 56) (.move (.tmp 7)) none,
      co (some 57) (.move (.tmp 1)) none,
      co (some 58) (.call { callee := (.value (.func 62)), args := #[(.tmp 55), (.tmp 56), (.tmp 57)], argTypes := #[24, 3, 3] }) none,
      co (some 4) (.assign (.tmp 54)) none,
      co (some 5) (.assign (.tmp 58)) none,
      co (some 6) (.assign (.const (.bool true))) none] [4, 5, 6])
  (.ret)
/-- (*cento/arena.Arena).Give -/
def c_arena_Arena_Give : CC :=
  .seq (.reg [co (some 4) (.assign (.const (.int .i64 0))) none,
      co (some 5) (.assign (.const (.int .i64 0))) none,
      co (some 6) (.assign (.const (.bool false))) none] [0, 1])
  (.seq (.seq (.reg [co (some 8) (.move (.tmp 0)) none,
        co (some 9) (.binOp .eql 24 (.tmp 8) (.const (.pointer none)) 24) none,
        co (some 10) (.move (.tmp 9)) none,
        co (some 11) (.move (.tmp 1)) (some (10, false)),
        co (some 12) (.binOp .lss 3 (.tmp 11) (.const (.int .i64 0)) 3) (some (10, false)),
        co (some 13) (.pick (.tmp 10) (.const (.bool true)) (.tmp 12)) none,
        co (some 14) (.move (.tmp 13)) none,
        co (some 15) (.move (.tmp 1)) (some (14, false)),
        co (some 16) (.move (.tmp 0)) (some (14, false)),
        co (some 17) (.call { callee := (.value (.func 18)), args := #[(.tmp 16)], argTypes := #[24] }) (some (14, false)),
        co (some 18) (.binOp .gtr 3 (.tmp 15) (.tmp 17) 3) (some (14, false)),
        co (some 19) (.pick (.tmp 14) (.const (.bool true)) (.tmp 18)) none] [0, 1, 19])
    (.cond (.tmp 19)
      (.seq (.reg [co (some 4) (.assign (.const (.int .i64 0))) none,
          co (some 5) (.assign (.const (.int .i64 0))) none,
          co (some 6) (.assign (.const (.bool false))) none] [4, 5, 6])
      (.ret))
      (.skip)))
  (.keep [0, 1] (.seq (.reg [co (some 20) (.move (.tmp 0)) none,
      co (some 21) (.nilCheck (.tmp 20)) none,
      co (some 22) (.fieldAddr 113 (.tmp 21) 0) none,
      co (some 23) (.load 22 (.tmp 22)) none,
      co (some 24) (.call { callee := (.builtin .len), args := #[(.tmp 23)], argTypes := #[22] }) none,
      co (some 25) (.binOp .sub 3 (.tmp 24) (.const (.int .i64 1)) 3) none,
      co (some 7) (.assign (.tmp 25)) none] [0, 1, 7])
  (.seq (.seq (.reg [co (some 26) (.move (.tmp 7)) none,
        co (some 27) (.binOp .lss 3 (.tmp 26) (.const (.int .i64 0)) 3) none,
        co (some 28) (.move (.tmp 27)) none,
        co (some 29) (.move (.tmp 0)) (some (28, false)),
        co (some 30) (.move (.tmp 7)) (some (28, false)),
        co (some 31) (.move (.tmp 1)) (some (28, false)),
        co (some 32) (.call { callee := (.value (.func 61)), args := #[(.tmp 29), (.tmp 30), (.tmp 31)], argTypes := #[24, 3, 3] }) (some (28, false)),
        co (some 33) (.unOp .not 4 (.tmp 32)) (some (28, false)),
        co (some 34) (.move (.tmp 33)) (some (28, false)),
        co (some 35) (.move (.tmp 0)) (some (34, true)),
        co (some 36) (.nilCheck (.tmp 35)) (some (34, true)),
        co (some 37) (.fieldAddr 113 (.tmp 36) 0) (some (34, true)),
        co (some 38) (.load 22 (.tmp 37)) (some (34, true)),
        co (some 39) (.call { callee := (.builtin .len), args := #[(.tmp 38)], argTypes := #[22] }) (some (34, true)),
        co (some 40) (.binOp .lss 3 (.tmp 39) (.const (.int .i64 16)) 3) (some (34, true)),
        co (some 41) (.pick (.tmp 34) (.tmp 40) (.const (.bool false))) (some (28, false)),
        co (some 42) (.pick (.tmp 28) (.const (.bool true)) (.tmp 41)) none] [0, 1, 7, 42])
    (.cond (.tmp 42)
      (.seq (.reg [co (some 43) (.move (.tmp 0)) none,
          co (some 44) (.move (.tmp 0)) none,
          co (some 45) (.nilCheck (.tmp 44)) none,
          co (some 46) (.fieldAddr 113 (.tmp 45) 0) none,
          co (some 47) (.load 22 (.tmp 46)) none,
          co (some 48) (.buildSlice 22 1 #[(0, (.const (.slice none 0 0)))]) none,
          cn (some 49) (.call { callee := (.builtin .append), args := #[(.tmp 47), (.tmp 48)], argTypes := #[22, 22] }) none [1],
          co (some 50) (.nilCheck (.tmp 43)) none,
          co (some 51) (.fieldAddr 113 (.tmp 50) 0) none,
          co none (.store 22 (.tmp 51) (.tmp 49)) none] [0, 1, 7])
      (.reg [co (some 52) (.move (.tmp 7)) none,
        co (some 53) (.binOp .add 3 (.tmp 52) (.const (.int .i64 1)) 3) none,
        co (some 7) (.assign (.tmp 53)) none] [0, 1, 7]))
      (.skip)))
  (.keep [0, 1, 7] (.stop k1_arena_Arena_Give))))))
theorem t_arena_Arena_Give : Txt Try.prog 16 59 [(.tmp 4), (.tmp 5), (.tmp 6)] c_arena_Arena_Give := txt_of (code := Try.f16.body.getD .ret) mixed (by kernel_rfl) Try.func16 (by kernel_rfl) Try.ntmps16 (by kernel_rfl) (ls := [([0, 1], []), ([], []), ([0, 1, 19], []), ([], []), ([4, 5, 6], []), ([], []), ([999999, 0, 1], []), ([0, 1, 7], []), ([], []), ([0, 1, 7, 42], []), ([], []), ([0, 1, 7], [(6, [1])]), ([], []), ([0, 1, 7], []), ([999997, 0, 1, 7], []), ([4, 5, 6], []), ([], [])]) (by kernel_rfl)
/-- (*cento/arena.Arena).Segments -/
def c_arena_Arena_Segments : CC :=
  .seq (.reg [co (some 2) (.assign (.const (.slice none 0 0))) none] [0])
  (.seq (.seq (.reg [co (some 3) (.move (.tmp 0)) none,
        co (some 4) (.binOp .eql 24 (.tmp 3) (.const (.pointer none)) 24) none] [0, 4])
    (.cond (.tmp 4)
      (.seq (.reg [co (some 2) (.assign (.const (.slice none 0 0))) none] [2])
      (.ret))
      (.skip)))
  (.keep [0] (.seq (.reg [co (some 5) (.move (.tmp 0)) none,
      co (some 6) (.nilCheck (.tmp 5)) none,
      co (some 7) (.fieldAddr 113 (.tmp 6) 0) none,
      co (some 8) (.load 22 (.tmp 7)) none,
      co (some 9) (.call { callee := (.value (.func 13)), args := #[(.tmp 8)], argTypes := #[22] }) none,
      co (some 10) (.nilCheck (.tmp 9)) none,
      co (some 11) (.fieldAddr 113 (.tmp 10) 0) none,
      co (some 12) (.load 22 (.tmp 11)) none,
      co (some 2) (.assign (.tmp 12)) none] [2])
  (.ret))))
theorem t_arena_Arena_Segments : Txt Try.prog 15 13 [(.tmp 2)] c_arena_Arena_Segments := txt_of (code := Try.f15.body.getD .ret) mixed (by kernel_rfl) Try.func15 (by kernel_rfl) Try.ntmps15 (by kernel_rfl) (ls := [([0], []), ([], []), ([0, 4], []), ([], []), ([2], []), ([], []), ([999999, 0], []), ([2], []), ([], [])]) (by kernel_rfl)
def l1_centoref03_Same : CC :=
  .seq (.seq (.reg [co (some 11) (.move (.tmp 5)) none,
        co (some 12) (.move (.tmp 0)) none,
        co (some 13) (.call { callee := (.builtin .len), args := #[(.tmp 12)], argTypes := #[22] }) none,
        co (some 14) (.binOp .lss 3 (.tmp 11) (.tmp 13) 3) none] [0, 1, 5, 14])
    (.cond (.tmp 14)
      (.skip)
      (.exit 0)))
  (.keep [0, 1, 5] (.seq (.block 1
      (.seq (.reg [co (some 17) (.move (.tmp 0)) none,
          co (some 18) (.move (.tmp 5)) none,
          co (some 19) (.indexAddr 22 (.tmp 17) (.tmp 18)) none,
          co (some 20) (.load 23 (.tmp 19)) none,
          co (some 21) (.move (.tmp 1)) none,
          co (some 22) (.move (.tmp 5)) none,
          co (some 23) (.indexAddr 22 (.tmp 21) (.tmp 22)) none,
          co (some 24) (.load 23 (.tmp 23)) none,
          co (some 25) (.call { callee := (.value (.func 43)), args := #[(.tmp 20), (.tmp 24)], argTypes := #[23, 23] }) none,
          co (some 26) (.unOp .not 4 (.tmp 25)) none] [0, 1, 5, 26])
      (.cond (.tmp 26)
        (.seq (.reg [co (some 4) (.assign (.const (.bool false))) none] [4])
        (.ret))
        (.skip))))
  (.keep [0, 1, 5] (.reg [co (some 15) (.move (.tmp 5)) none,
    co (some 16) (.binOp .add 3 (.tmp 15) (.const (.int .i64 1)) 3) none,
    co (some 5) (.assign (.tmp 16)) none] [0, 1, 5]))))
/-- cento/centoref03.Same -/
def c_centoref03_Same : CC :=
  .seq (.reg [co (some 4) (.assign (.const (.bool false))) none] [0, 1])
  (.seq (.seq (.reg [co (some 6) (.move (.tmp 0)) none,
        co (some 7) (.call { callee := (.builtin .len), args := #[(.tmp 6)], argTypes := #[22] }) none,
        co (some 8) (.move (.tmp 1)) none,
        co (some 9) (.call { callee := (.builtin .len), args := #[(.tmp 8)], argTypes := #[22] }) none,
        co (some 10) (.binOp .neq 3 (.tmp 7) (.tmp 9) 3) none] [0, 1, 10])
    (.cond (.tmp 10)
      (.seq (.reg [co (some 4) (.assign (.const (.bool false))) none] [4])
      (.ret))
      (.skip)))
  (.keep [0, 1] (.seq (.seq (.reg [co (some 5) (.assign (.const (.int .i64 0))) none] [0, 1, 5])
    (.block 0
      (.loop l1_centoref03_Same)))
  (.keep [] (.seq (.reg [co (some 4) (.assign (.const (.bool true))) none] [4])
  (.ret))))))
theorem t_centoref03_Same : Txt Try.prog 14 27 [(.tmp 4)] c_centoref03_Same := txt_of (code := Try.f14.body.getD .ret) mixed (by kernel_rfl) Try.func14 (by kernel_rfl) Try.ntmps14 (by kernel_rfl) (ls := [([0, 1], []), ([], []), ([0, 1, 10], []), ([], []), ([4], []), ([], []), ([999999, 0, 1], []), ([0, 1, 5], []), ([], []), ([0, 1, 5, 14], []), ([], []), ([999999, 0, 1, 5], []), ([0, 1, 5, 26], []), ([], []), ([4], []), ([], []), ([999999, 0, 1, 5], []), ([0, 1, 5], []), ([999999], []), ([4], []), ([], [])]) (by kernel_rfl)
/-- cento/centolaw05.awake -/
def c_centolaw05_awake : CC :=
  .seq (.reg [co (some 0) (.assign (.const (.bool false))) none] [])
  (.seq (.reg [co (some 11) (.call { callee := (.value (.func 20)), args := #[(.const (.int .i64 4)), (.const (.int .i64 9))], argTypes := #[3, 3] }) none,
      co (some 1) (.assign (.tmp 11)) none] [1])
  (.seq (.reg [co (some 13) (.move (.tmp 1)) none,
      co (some 14) (.call { callee := (.value (.func 16)), args := #[(.tmp 13), (.const (.int .i64 3))], argTypes := #[24, 3] }) none,
      co (some 12) (.move (.tmp 14)) none,
      co (some 15) (.extract (.tmp 12) 0) none,
      co (some 16) (.extract (.tmp 12) 1) none,
      co (some 17) (.extract (.tmp 12) 2) none,
      co (some 2) (.assign (.tmp 15)) none,
      co (some 3) (.assign (.tmp 16)) none,
      co (some 4) (.assign (.tmp 17)) none] [1, 2, 3, 4])
  (.seq (.reg [co (some 19) (.move (.tmp 1)) none,
      co (some 20) (.call { callee := (.value (.func 16)), args := #[(.tmp 19), (.const (.int .i64 2))], argTypes := #[24, 3] }) none,
      co (some 18) (.move (.tmp 20)) none,
      co (some 21) (.extract (.tmp 18) 0) none,
      co (some 22) (.extract (.tmp 18) 1) none,
      co (some 23) (.extract (.tmp 18) 2) none,
      co (some 5) (.assign (.tmp 21)) none,
      co (some 6) (.assign (.tmp 22)) none,
      co (some 7) (.assign (.tmp 23)) none] [1, 2, 3, 4, 5, 6, 7])
  (.seq (.reg [co (some 25) (.move (.tmp 1)) none,
      co (some 26) (.call { callee := (.value (.func 16)), args := #[(.tmp 25), (.const (.int .i64 5))], argTypes := #[24, 3] }) none,
      co (some 24) (.move (.tmp 26)) none,
      co (some 27) (.extract (.tmp 24) 0) none,
      co (some 28) (.extract (.tmp 24) 1) none,
      co (some 29) (.extract (.tmp 24) 2) none,
      co (some 8) (.assign (.tmp 27)) none,
      co (some 9) (.assign (.tmp 28)) none,
      co (some 10) (.assign (.tmp 29)) none] [2, 3, 4, 5, 6, 7, 10])
  (.seq (.reg [co (some 30) (.move (.tmp 2)) none,
      co (some 31) (.binOp .eql 3 (.tmp 30) (.const (.int .i64 0)) 3) none,
      co (some 32) (.move (.tmp 31)) none,
      co (some 33) (.move (.tmp 3)) (some (32, true)),
      co (some 34) (.binOp .eql 3 (.tmp 33) (.const (.int .i64 0)) 3) (some (32, true)),
      co (some 35) (.pick (.tmp 32) (.tmp 34) (.const (.bool false))) none,
      co (some 36) (.move (.tmp 35)) none,
      co (some 37) (.move (.tmp 4)) (some (36, true)),
      co (some 38) (.pick (.tmp 36) (.tmp 37) (.const (.bool false))) none,
      co (some 39) (.move (.tmp 38)) none,
      co (some 40) (.move (.tmp 5)) (some (39, true)),
      co (some 41) (.binOp .eql 3 (.tmp 40) (.const (.int .i64 1)) 3) (some (39, true)),
      co (some 42) (.pick (.tmp 39) (.tmp 41) (.const (.bool false))) none,
      co (some 43) (.move (.tmp 42)) none,
      co (some 44) (.move (.tmp 6)) (some (43, true)),
      co (some 45) (.binOp .eql 3 (.tmp 44) (.const (.int .i64 0)) 3) (some (43, true)),
      co (some 46) (.pick (.tmp 43) (.tmp 45) (.const (.bool false))) none,
      co (some 47) (.move (.tmp 46)) none,
      co (some 48) (.move (.tmp 7)) (some (47, true)),
      co (some 49) (.pick (.tmp 47) (.tmp 48) (.const (.bool false))) none,
      co (some 50) (.move (.tmp 49)) none,
      co (some 51) (.move (.tmp 10)) (some (50, true)),
      co (some 52) (.unOp .not 4 (.tmp 51)) (some (50, true)),
      co (some 53) (.pick (.tmp 50) (.tmp 52) (.const (.bool false))) none,
      co (some 0) (.assign (.tmp 53)) none] [0])
  (.ret))))))
theorem t_centolaw05_awake : Txt Try.prog 19 54 [(.tmp 0)] c_centolaw05_awake := txt_of (code := Try.f19.body.getD .ret) mixed (by kernel_rfl) Try.func19 (by kernel_rfl) Try.ntmps19 (by kernel_rfl) (ls := [([], []), ([], []), ([1], []), ([], []), ([1, 2, 3, 4], []), ([], []), ([1, 2, 3, 4, 5, 6, 7], []), ([], []), ([2, 3, 4, 5, 6, 7, 10], []), ([], []), ([0], []), ([], [])]) (by kernel_rfl)
def l1_centolaw05_ArenaOf : CC :=
  .seq (.seq (.reg [co (some 18) (.move (.tmp 10)) none,
        co (some 19) (.move (.tmp 0)) none,
        co (some 20) (.call { callee := (.builtin .len), args := #[(.tmp 19)], argTypes := #[22] }) none,
        co (some 21) (.binOp .lss 3 (.tmp 18) (.tmp 20) 3) none] [0, 1, 2, 3, 9, 10, 21])
    (.cond (.tmp 21)
      (.skip)
      (.exit 0)))
  (.keep [0, 1, 2, 3, 9, 10] (.seq (.block 1
      (.reg [co (some 24) (.move (.tmp 9)) none,
        co (some 25) (.buildSlice 23 0 #[]) none,
        co (some 26) (.move (.tmp 0)) none,
        co (some 27) (.move (.tmp 10)) none,
        co (some 28) (.indexAddr 22 (.tmp 26) (.tmp 27)) none,
        co (some 29) (.load 23 (.tmp 28)) none,
        cn (some 30) (.call { callee := (.builtin .append), args := #[(.tmp 25), (.tmp 29)], argTypes := #[23, 23] }) none [0],
        cn (some 31) (.buildSlice 22 1 #[(0, (.tmp 30))]) none [2],
        cn (some 32) (.call { callee := (.builtin .append), args := #[(.tmp 24), (.tmp 31)], argTypes := #[22, 22] }) none [4, 0],
        co (some 9) (.assign (.tmp 32)) none] [0, 1, 2, 3, 9, 10]))
  (.stop (.reg [co (some 22) (.move (.tmp 10)) none,
    co (some 23) (.binOp .add 3 (.tmp 22) (.const (.int .i64 1)) 3) none,
    co (some 10) (.assign (.tmp 23)) none] [0, 1, 2, 3, 9, 10]))))
def k1_centolaw05_ArenaOf : CC :=
  .seq (.reg [co (some 70) (.move (.tmp 11)) none,
      co (some 71) (.call { callee := (.value (.func 15)), args := #[(.tmp 70)], argTypes := #[24] }) none,
      co (some 72) (.move (.tmp 0)) none,
      co (some 73) (.call { callee := (.value (.func 14)), args := #[(.tmp 71), (.tmp 72)], argTypes := #[22, 22] }) none,
      co (some 12) (.assign (.tmp 73)) none] [1, 3, 11, 12])
  (.seq (.reg [co (some 75) (.move (.tmp 11)) none,
      co (some 76) (.move (.tmp 3)) none,
      co (some 77) (.call { callee := (.value (.func 16)), args := #[(.tmp 75), (.tmp 76)], argTypes := #[24, 3] }) none,
      co (some 74) (.move (.tmp 77)) none,
      co (some 78) (.extract (.tmp 74) 0) none,
      co (some 79) (.extract (.tmp 74) 1) none,
      co (some 80) (.extract (.tmp 74) 2) none,
      co (some 13) (.assign (.tmp 78)) none,
      co (some 14) (.assign (.tmp 79)) none,
      co (some 15) (.assign (.tmp 80)) none] [1, 3, 11, 12, 15])
  (.seq (.reg [co (some 82) (.move (.tmp 11)) none,
      co (some 83) (.move (.tmp 1)) none,
      co (some 84) (.move (.tmp 3)) none,
      co (some 85) (.call { callee := (.value (.func 17)), args := #[(.tmp 82), (.tmp 83), (.tmp 84)], argTypes := #[24, 3, 3] }) none,
      co (some 81) (.move (.tmp 85)) none,
      co (some 86) (.extract (.tmp 81) 0) none,
      co (some 87) (.extract (.tmp 81) 1) none,
      co (some 16) (.assign (.tmp 86)) none,
      co (some 17) (.assign (.tmp 87)) none] [3, 11, 12, 15, 17])
  (.seq (.reg [co (some 88) (.move (.tmp 12)) none,
      co (some 89) (.move (.tmp 88)) none,
      co (some 90) (.move (.tmp 11)) (some (89, true)),
      co (some 91) (.call { callee := (.value (.func 18)), args := #[(.tmp 90)], argTypes := #[24] }) (some (89, true)),
      co (some 92) (.binOp .eql 3 (.tmp 91) (.const (.int .i64 0)) 3) (some (89, true)),
      co (some 93) (.pick (.tmp 89) (.tmp 92) (.const (.bool false))) none,
      co (some 94) (.move (.tmp 93)) none,
      co (some 95) (.move (.tmp 15)) (some (94, true)),
      co (some 96) (.unOp .not 4 (.tmp 95)) (some (94, true)),
      co (some 97) (.move (.tmp 96)) (some (94, true)),
      co (some 98) (.move (.tmp 3)) (some (97, false)),
      co (some 99) (.binOp .eql 3 (.tmp 98) (.const (.int .i64 0)) 3) (some (97, false)),
      co (some 100) (.pick (.tmp 97) (.const (.bool true)) (.tmp 99)) (some (94, true)),
      co (some 101) (.pick (.tmp 94) (.tmp 100) (.const (.bool false))) none,
      co (some 102) (.move (.tmp 101)) none,
      co (some 103) (.move (.tmp 17)) (some (102, true)),
      co (some 104) (.unOp .not 4 (.tmp 103)) (some (102, true)),
      co (some 105) (.move (.tmp 104)) (some (102, true)),
      co (some 106) (.move (.tmp 3)) (some (105, false)),
      co (some 107) (.binOp .eql 3 (.tmp 106) (.const (.int .i64 0)) 3) (some (105, false)),
      co (some 108) (.pick (.tmp 105) (.const (.bool true)) (.tmp 107)) (some (102, true)),
      co (some 109) (.pick (.tmp 102) (.tmp 108) (.const (.bool false))) none,
      co (some 110) (.move (.tmp 109)) none,
      co (some 111) (.call { callee := (.value (.func 19)), args := #[], argTypes := #[] }) (some (110, true)),
      co (some 112) (.pick (.tmp 110) (.tmp 111) (.const (.bool false))) none,
      co (some 8) (.assign (.tmp 112)) none] [8])
  (.ret))))
/-- cento/centolaw05.ArenaOf -/
def c_centolaw05_ArenaOf : CC :=
  .seq (.reg [co (some 8) (.assign (.const (.bool false))) none] [0, 1, 2, 3])
  (.seq (.reg [co (some 9) (.assign (.const (.slice none 0 0))) none] [0, 1, 2, 3, 9])
  (.stop (.seq (.seq (.reg [co (some 10) (.assign (.const (.int .i64 0))) none] [0, 1, 2, 3, 9, 10])
    (.block 0
      (.loop l1_centolaw05_ArenaOf)))
  (.keep [0, 1, 2, 3, 9] (.seq (.reg [co (some 33) (.move (.tmp 9)) none,
      co (some 34) (.call { callee := (.value (.func 13)), args := #[(.tmp 33)], argTypes := #[22] }) none,
      co (some 11) (.assign (.tmp 34)) none] [0, 1, 2, 3, 9, 11])
  (.seq (.seq (.reg [co (some 35) (.move (.tmp 1)) none,
        co (some 36) (.binOp .geq 3 (.tmp 35) (.const (.int .i64 0)) 3) none,
        co (some 37) (.move (.tmp 36)) none,
        co (some 38) (.move (.tmp 1)) (some (37, true)),
        co (some 39) (.move (.tmp 9)) (some (37, true)),
        co (some 40) (.call { callee := (.builtin .len), args := #[(.tmp 39)], argTypes := #[22] }) (some (37, true)),
        co (some 41) (.binOp .lss 3 (.tmp 38) (.tmp 40) 3) (some (37, true)),
        co (some 42) (.pick (.tmp 37) (.tmp 41) (.const (.bool false))) none,
        co (some 43) (.move (.tmp 42)) none,
        co (some 44) (.move (.tmp 2)) (some (43, true)),
        co (some 45) (.binOp .geq 3 (.tmp 44) (.const (.int .i64 0)) 3) (some (43, true)),
        co (some 46) (.pick (.tmp 43) (.tmp 45) (.const (.bool false))) none,
        co (some 47) (.move (.tmp 46)) none,
        co (some 48) (.move (.tmp 2)) (some (47, true)),
        co (some 49) (.move (.tmp 9)) (some (47, true)),
        co (some 50) (.move (.tmp 1)) (some (47, true)),
        co (some 51) (.indexAddr 22 (.tmp 49) (.tmp 50)) (some (47, true)),
        co (some 52) (.load 23 (.tmp 51)) (some (47, true)),
        co (some 53) (.call { callee := (.builtin .len), args := #[(.tmp 52)], argTypes := #[23] }) (some (47, true)),
        co (some 54) (.binOp .lss 3 (.tmp 48) (.tmp 53) 3) (some (47, true)),
        co (some 55) (.pick (.tmp 47) (.tmp 54) (.const (.bool false))) none] [0, 1, 2, 3, 9, 11, 55])
    (.cond (.tmp 55)
      (.reg [co (some 56) (.move (.tmp 9)) none,
        co (some 57) (.move (.tmp 1)) none,
        co (some 58) (.indexAddr 22 (.tmp 56) (.tmp 57)) none,
        co (some 59) (.load 23 (.tmp 58)) none,
        co (some 60) (.move (.tmp 2)) none,
        co (some 61) (.move (.tmp 9)) none,
        co (some 62) (.move (.tmp 1)) none,
        co (some 63) (.indexAddr 22 (.tmp 61) (.tmp 62)) none,
        co (some 64) (.load 23 (.tmp 63)) none,
        co (some 65) (.move (.tmp 2)) none,
        co (some 66) (.indexAddr 23 (.tmp 64) (.tmp 65)) none,
        co (some 67) (.load 26 (.tmp 66)) none,
        co (some 68) (.binOp .add 26 (.tmp 67) (.const (.int .u64 1)) 26) none,
        co (some 69) (.indexAddr 23 (.tmp 59) (.tmp 60)) none,
        co none (.store 26 (.tmp 69) (.tmp 68)) none] [0, 1, 3, 11])
      (.skip)))
  (.keep [0, 1, 3, 11] k1_centolaw05_ArenaOf)))))))
theorem t_centolaw05_ArenaOf : Txt Try.prog 3 113 [(.tmp 8)] c_centolaw05_ArenaOf := txt_of (code := Try.f3.body.getD .ret) mixed (by kernel_rfl) Try.func3 (by kernel_rfl) Try.ntmps3 (by kernel_rfl) (ls := [([0, 1, 2, 3], []), ([], []), ([0, 1, 2, 3, 9], []), ([999998], []), ([0, 1, 2, 3, 9, 10], []), ([], []), ([0, 1, 2, 3, 9, 10, 21], []), ([], []), ([999999, 0, 1, 2, 3, 9, 10], []), ([0, 1, 2, 3, 9, 10], [(6, [0]), (7, [2]), (8, [4, 0])]), ([999998], []), ([0, 1, 2, 3, 9, 10], []), ([999999, 0, 1, 2, 3, 9], []), ([0, 1, 2, 3, 9, 11], []), ([], []), ([0, 1, 2, 3, 9, 11, 55], []), ([], []), ([0, 1, 3, 11], []), ([999999, 0, 1, 3, 11], []), ([1, 3, 11, 12], []), ([], []), ([1, 3, 11, 12, 15], []), ([], []), ([3, 11, 12, 15, 17], []), ([], []), ([8], []), ([], [])]) (by kernel_rfl)
end Go.Proofs.Ytehcobkphobjiaa

/-
  Chapter 5's functions: arenas out of which words are given.
-/
namespace Go.Proofs.Ytehcobkphobjiaa
set_option linter.unusedVariables false
set_option linter.unusedSimpArgs false
open Go Go.G Go.Proofs
/-- An arena: its segments, each with its row's version; the versions of its cells and of the row of segments; its numbers. -/
structure Ar where
  l : List (Nat × List Int)
  u : Nat
  ur : Nat
  size : Int
  most : Int
  used : Int
def rowS (r : Nat) (l : List (Nat × List Int)) : List A := l.mapIdx fun i e => .osl [r, 0, i] e.1 1 0 e.2.length
/-- Its objects. -/
def arF (r : Nat) (S : Ar) : Nm → VOb
  | [] => ⟨S.u, .cells [.osl [r, 0] S.ur 1 0 S.l.length, iv S.size, iv S.most, iv S.used]⟩
  | [0] => ⟨S.ur, .arr 1 (rowS r S.l)⟩
  | [0, i] => match S.l[i]? with
    | some e => ⟨e.1, .arr 1 (e.2.map uv)⟩
    | none => ⟨0, .none⟩
  | _ => ⟨0, .none⟩
@[simp] theorem arF_nil {r : Nat} {S : Ar} : arF r S [] = ⟨S.u, .cells [.osl [r, 0] S.ur 1 0 S.l.length, iv S.size, iv S.most, iv S.used]⟩ := rfl
@[simp] theorem arF_row {r : Nat} {S : Ar} : arF r S [0] = ⟨S.ur, .arr 1 (rowS r S.l)⟩ := rfl
@[simp] theorem arF_seg {r i : Nat} {S : Ar} : arF r S [0, i] = match S.l[i]? with
    | some e => ⟨e.1, .arr 1 (e.2.map uv)⟩
    | none => ⟨0, .none⟩ := rfl
@[simp] theorem rowS_length {r : Nat} {l : List (Nat × List Int)} : (rowS r l).length = l.length := by simp [rowS]
@[simp] theorem rowS_get? {r i : Nat} {l : List (Nat × List Int)} : (rowS r l)[i]? = (l[i]?).map fun e => .osl [r, 0, i] e.1 1 0 e.2.length := by simp [rowS]
@[simp] theorem rowS_get {r i : Nat} {l : List (Nat × List Int)} (h : i < (rowS r l).length) : (rowS r l)[i] = .osl [r, 0, i] (l[i]'(by simpa using h)).1 1 0 (l[i]'(by simpa using h)).2.length := by simp [rowS]
theorem rowS_modify {r k : Nat} {l : List (Nat × List Int)} {f : Nat × List Int → Nat × List Int} (h : k < l.length) : rowS r (l.modify k f) = (rowS r l).set k (.osl [r, 0, k] (f l[k]).1 1 0 (f l[k]).2.length) := by
  apply List.ext_getElem
  · simp
  · intro i h1 h2
    simp only [rowS_get, List.getElem_set, List.getElem_modify]
    by_cases e : k = i
    · subst e; simp
    · simp [e]
/-- But for cells and row, segment by segment. -/
theorem arF_but {r : Nat} {S S' : Ar} {p : Nm} (h1 : p ≠ []) (h2 : p ≠ [0]) (h : ∀ j, p = [0, j] → S.l[j]? = S'.l[j]?) : arF r S p = arF r S' p := by
  match p, h1, h2, h with
  | [], h1, _, _ => exact absurd rfl h1
  | [0], _, h2, _ => exact absurd rfl h2
  | [0, j], _, _, h => simp [h j rfl]
  | (a + 1) :: q, _, _, _ => rfl
  | 0 :: a :: b :: q, _, _, _ => rfl
def growS (S : Ar) (k n : Nat) : Ar := { S with l := S.l.modify k fun e => (e.1 + 1, e.2 ++ List.replicate n 0), used := S.used + n }
theorem grow_spec (S : Ar) (k n : Nat) (e : Nat × List Int) (hk : S.l[k]? = some e) (hn : (e.2.length + n) * 8 ≤ 140737488355328) (h0 : 0 ≤ S.used) (h1 : S.used + n < 9223372036854775808) :
    SpecH Try.prog 62 1 [.pob [0] S.u 0, iv k, iv n] (ov 0 (arF 0 S) (lkH [])) (iv e.2.length) (ov 0 (arF 0 (growS S k n)) (lkH [])) := by
  refine specH_of t_arena_Arena_grow (by simp) fun w0 I0 M0 m0 => ?_
  unfold c_arena_Arena_grow
  have hlt : k < S.l.length := (List.getElem?_eq_some_iff.1 hk).1
  have he : S.l[k] = e := (List.getElem?_eq_some_iff.1 hk).2
  have hn1 : (n : Int) * 8 ≤ 140737488355328 := by omega
  simp [hk, hlt, he, hn1, hn, updF_app]
  refine reth_ret rfl rfl (fun i p hi => ?_)
  have hi0 : i = 0 := by omega
  subst hi0
  simp only [ov_cons, if_true]
  refine updF_is ?_ (fun h1 => updF_is ?_ (fun h2 => updF_is ?_ (fun h3 => ?_)))
  · simp [growS, i64_same (n := S.used + n) (by omega) h1]
  · simp [growS, rowS_modify hlt, he]
  · simp [growS, List.getElem?_modify, hk, List.take_of_length_le]
  · refine arF_but h1 h2 fun j hj => ?_
    have : j ≠ k := fun e => h3 (by rw [hj, e])
    simp [growS, List.getElem?_modify, Ne.symm this]
theorem flat_ones : ∀ {l : List A}, (∀ x, x ∈ l → x.cells = [x]) → l.flatMap A.cells = l
  | [], _ => rfl
  | x :: l, h => by rw [List.flatMap_cons, h x (by simp), flat_ones fun y hy => h y (by simp [hy])]; rfl
theorem frzL_intro {H : Hp} : ∀ {l l' : List A}, l.length = l'.length → (∀ (k : Nat) (a a' : A), l[k]? = some a → l'[k]? = some a' → Frz H a a') → FrzL H l l'
  | [], [], _, _ => trivial
  | a :: l, a' :: l', h, k => ⟨k 0 a a' rfl rfl, frzL_intro (by simpa using h) fun i x x' hx hx' => k (i + 1) x x' (by simpa using hx) (by simpa using hx')⟩
/-- As it is read. -/
def Ar.w (S : Ar) : List (List Int) := S.l.map Prod.snd
abbrev Ar.a (S : Ar) : A := arX S.w S.size S.most S.used
theorem frz_ar {r : Nat} {S : Ar} {H : Hp} : Frz (ov r (arF r S) H) (.pob [r] S.u 0) S.a := by
  refine frz_pob (cs := [.osl [r, 0] S.ur 1 0 S.l.length, iv S.size, iv S.most, iv S.used]) (by simp) ?_ (by simp)
  simp
  refine ⟨?_, frz_bare rfl, frz_bare rfl, frz_bare rfl⟩
  have := frz_osl' (H := ov r (arF r S) H) (o := [r, 0]) (u := S.ur) (off := 0) (len := S.l.length) (sz := 1) (xs := rowS r S.l) (ys := S.w.map ws) (by simp) (by simp) (by simp [Ar.w]) (by simp) (by simp [A.ones]) ?_
  · exact this
  · have e1 : List.flatMap A.cells (List.take S.l.length (List.drop 0 (rowS r S.l))) = rowS r S.l := by
      rw [List.drop_zero, List.take_of_length_le (by simp)]
      exact flat_ones fun x hx => by
        obtain ⟨i, hi, rfl⟩ := List.mem_mapIdx.1 hx
        rfl
    have e2 : List.flatMap A.cells (List.map ws S.w) = List.map ws S.w := flat_ones fun x hx => by
      obtain ⟨i, hi, rfl⟩ := List.mem_map.1 hx
      rfl
    rw [e1, e2]
    refine frzL_intro (by simp [Ar.w]) fun k a a' ha ha' => ?_
    simp at ha ha'
    obtain ⟨p, q, hk, rfl⟩ := ha
    obtain ⟨g, hg, rfl⟩ := ha'
    simp [Ar.w, hk] at hg
    subst hg
    have := frz_osl (H := ov r (arF r S) H) (o := [r, 0, k]) (u := p) (off := 0) (len := q.length) (sz := 1) (xs := q.map uv) (by simp [hk]) (by simp) (by simp [List.take_of_length_le])
    simpa [List.take_of_length_le] using this
theorem left_spec (l : List (List Int)) (z m u : Int) (h0 : -9223372036854775808 ≤ m - u) (h1 : m - u < 9223372036854775808) : G.Spec Try.prog 18 [arX l z m u] (iv (m - u)) := by
  refine spec_of t_arena_Arena_Left (by simp) fun w0 I0 => ?_
  unfold c_arena_Arena_Left
  simp
  rw [i64_same h0 h1]
  exact frz_bare rfl
theorem room_spec (l : List (List Int)) (z m u s n : Int) (h0 : -9223372036854775808 ≤ z - szAt l s) (h1 : z - szAt l s < 9223372036854775808) : G.Spec Try.prog 61 [arX l z m u, iv s, iv n] (bv (decide (n ≤ z - szAt l s))) := by
  refine spec_of t_arena_Arena_room (by simp) fun w0 I0 => ?_
  unfold c_arena_Arena_room
  simp
  refine sc_call (size_spec l s) rfl ?_
  simp
  rw [i64_same h0 h1]
  exact frz_bare rfl
end Go.Proofs.Ytehcobkphobjiaa

/-
  Chapter 5: calls that turn an arena.
-/
namespace Go.Proofs.Ytehcobkphobjiaa
set_option linter.unusedVariables false
set_option linter.unusedSimpArgs false
open Go Go.G Go.Proofs
theorem rowS_ren {g : Nm → Nm} {δ : Nm → Nat} {r r' : Nat} (hg : ∀ p, g (r :: p) = r' :: p) (hd : ∀ p, δ (r :: p) = 0) (l : List (Nat × List Int)) : A.renL g δ (rowS r l) = rowS r' l := by
  rw [renL_map]
  apply List.ext_getElem
  · simp
  · intro i h1 h2
    simp [A.ren, hg, hd]
theorem arF_ren {g : Nm → Nm} {δ : Nm → Nat} {r r' : Nat} (hg : ∀ p, g (r :: p) = r' :: p) (hd : ∀ p, δ (r :: p) = 0) (S : Ar) (p : Nm) : (arF r S p).ren g δ 0 = arF r' S p := by
  match p with
  | [] => simp [VOb.ren, Ob.ren, A.renL, A.ren, hg, hd]
  | [0] => simp [VOb.ren, Ob.ren, rowS_ren hg hd]
  | [0, i] =>
    simp only [arF_seg]
    cases S.l[i]? with
    | none => rfl
    | some e =>
      simp only [VOb.ren, Ob.ren, renL_map, List.map_map, Nat.add_zero]
      rfl
  | (a + 1) :: q => rfl
  | 0 :: a :: b :: q => rfl
theorem arF_refs {D : Nm → Prop} {r : Nat} (hD : ∀ p, D (r :: p)) (S : Ar) (p : Nm) : (arF r S p).ob.refs D := by
  match p with
  | [] => simp [Ob.refs, A.refsL, A.refs, hD]
  | [0] =>
    refine refsL_iff.2 fun x hx => ?_
    obtain ⟨i, hi, rfl⟩ := List.mem_mapIdx.1 hx
    simp [A.refs, hD]
  | [0, i] =>
    simp only [arF_seg]
    cases S.l[i]? with
    | none => trivial
    | some e =>
      refine refsL_iff.2 fun x hx => ?_
      obtain ⟨y, _, rfl⟩ := List.mem_map.1 hx
      trivial
  | (a + 1) :: q => trivial
  | 0 :: a :: b :: q => trivial
/-- A root's family is another one. -/
def stR (r : Nat) (F : Nm → VOb) (H : Hp) : Hp := ov r F H
@[simp] theorem stR_ov {r r' : Nat} {F F' : Nm → VOb} {H : Hp} : stR r F (ov r' F' H) = if r' = r then ov r F H else ov r' F' (stR r F H) := by
  unfold stR
  funext o
  cases o with
  | nil => split <;> rfl
  | cons j p =>
    by_cases h : r' = r
    · subst h
      rw [if_pos rfl]
      by_cases hj : j = r' <;> simp [hj]
    · rw [if_neg h]
      by_cases hj : j = r
      · subst hj; simp [Ne.symm h]
      · simp [hj]
@[simp] theorem stR_lkH {r : Nat} {F : Nm → VOb} {l : List (Nm × VOb)} : stR r F (lkH l) = ov r F (lkH l) := rfl
theorem sc_ar {P : Program} {K : Sta → Prop} {rest : List CO} {s : Nat → A} {H : Hp} {dd : Option Nat} {nm : Nm} {ix : Nat} {un : List Nat} {l : Bool} {lg : Lg} {g : FuncId} {aa : Array Operand} {ts : Array TypeId}
    {r : Nat} {S S' : Ar} {as0 : List A} {x : A} (hS : SpecH P g 1 (.pob [0] S.u 0 :: as0) (ov 0 (arF 0 S) (lkH [])) x (ov 0 (arF 0 S') (lkH []))) (hF : ∀ p, H (r :: p) = arF r S p)
    (ha : aa.toList.map (evs s) = .pob [r] S.u 0 :: as0) (h0 : ∀ g δ, A.renL g δ as0 = as0) (h1 : ∀ D, A.refsL D as0) (hx : ∀ g δ, x.ren g δ = x) (hx1 : ∀ D, x.refs D) (hck : Ck un lg ⟨[], [([r], true)]⟩)
    (h : SeqC P K rest (addL l ix ⟨[], [([r], true)]⟩ lg) (Sta.put ⟨s, H⟩ dd x (stR r (arF r S') H))) :
    SeqC P K (⟨dd, .call { callee := .value (.func g), args := aa, argTypes := ts }, none, nm, ix, un, l⟩ :: rest) lg ⟨s, H⟩ := by
  have hd : ∀ p, dlt [r] 1 H (0 :: p) = 0 := fun p => rfl
  refine sc_callH [r] 1 hS (by simp) (by simp) ?_ ?_ ?_ ?_ (hx1 _) ?_ (fun i p h1 h2 => by simp at h2; omega) (hx _ _) ?_ hck h
  · rw [ha]
    simp [A.renL, A.ren, dnN, h0]
  · rw [ha]
    exact ⟨by simp [A.refs, inS], h1 _⟩
  · funext o
    cases o with
    | nil => rfl
    | cons i p =>
      by_cases hi : i < 1
      · have : i = 0 := by omega
        subst this
        simp only [inHp, if_pos hi, ov_cons, if_true]
        show (H (r :: p)).ren _ _ 0 = _
        rw [hF]
        exact arF_ren (fun q => by simp [dnN]) (fun _ => rfl) S p
      · simp only [inHp, if_neg hi, ov_cons]
        rw [if_neg (by omega)]
        rfl
  · intro j p hj
    have hjr : j = r := by
      have := (idx_mem (rs := [r])).1 (by simpa using hj)
      simpa using this
    rw [hjr, hF]
    exact arF_refs (fun q => by simp [inS]) S p
  · intro i p hi
    have : i = 0 := by simp at hi; omega
    subst this
    simp only [ov_cons, if_true]
    exact arF_refs (fun q => by simp [outS]) S' p
  · funext o
    cases o with
    | nil => rfl
    | cons j p =>
      by_cases hj : j = r
      · subst hj
        simp only [outG, stR, ov_cons, if_true]
        rw [if_pos (by simp)]
        have : [j].idxOf j = 0 := by simp
        rw [this, if_pos rfl, hd]
        exact arF_ren (fun q => by simp [upN]) hd S' p
      · have : ¬ [r].contains j = true := by simpa using hj
        simp only [outG, if_neg this, stR, ov_cons, if_neg hj]
/-- It is as arenas are. -/
structure Ar.Ok (S : Ar) : Prop where
  used0 : 0 ≤ S.used
  used1 : S.used ≤ S.most
  most1 : S.most ≤ 131072
  size0 : 1 ≤ S.size
  size1 : S.size < 9223372036854775808
  len : S.l.length ≤ 16
  seg : ∀ e, e ∈ S.l → (e.2.length : Int) ≤ S.used
theorem Ar.Ok.szAt {S : Ar} (h : S.Ok) (s : Int) : 0 ≤ (Go.Proofs.Ytehcobkphobjiaa.szAt S.w s : Int) ∧ (Go.Proofs.Ytehcobkphobjiaa.szAt S.w s : Int) ≤ S.used := by
  refine ⟨by omega, ?_⟩
  unfold Go.Proofs.Ytehcobkphobjiaa.szAt
  cases e : Go.Proofs.Ytehcobkphobjiaa.seg S.w s with
  | none => exact h.used0
  | some g =>
    obtain ⟨_, _, h2, rfl⟩ := seg_some e
    simp only [Option.map_some, Option.getD_some]
    simp only [Ar.w, List.getElem_map]
    exact h.seg _ (List.getElem_mem _)
theorem szAt_get {S : Ar} {k : Nat} (h : k < S.l.length) : (Go.Proofs.Ytehcobkphobjiaa.szAt S.w k : Int) = S.l[k].2.length := by
  simp [Go.Proofs.Ytehcobkphobjiaa.szAt, Go.Proofs.Ytehcobkphobjiaa.seg, Ar.w, h]
end Go.Proofs.Ytehcobkphobjiaa

/-
  Chapter 5: words are given.
-/
namespace Go.Proofs.Ytehcobkphobjiaa
set_option linter.unusedVariables false
set_option linter.unusedSimpArgs false
open Go Go.G Go.Proofs
/-- A new segment is wanted; it is there; so much is given. -/
def newSeg (S : Ar) (n : Int) : Bool := decide (S.l.length = 0) || (!decide (n ≤ S.size - szAt S.w ((S.l.length : Int) - 1)) && decide (S.l.length < 16))
def moreS (S : Ar) : Ar := { S with l := S.l ++ [(1, [])], ur := S.ur + 1 }
def okGive (S : Ar) (n : Int) : Bool := decide (0 ≤ n ∧ n ≤ S.most - S.used)
def atS (S : Ar) (n : Int) : Ar := if newSeg S n = true then moreS S else S
def giveS (S : Ar) (n : Int) : Ar := if okGive S n = true then growS (atS S n) ((atS S n).l.length - 1) n.toNat else S
theorem rowS_append {r : Nat} {l : List (Nat × List Int)} {e : Nat × List Int} : rowS r (l ++ [e]) = rowS r l ++ [.osl [r, 0, l.length] e.1 1 0 e.2.length] := by simp [rowS, List.mapIdx_append]
theorem le_more {c : Cx} {s : Nat → A} {S : Ar} : ∃ G : Hp, Le c ⟨s, ov 0 (updF (updF (arF 0 S) [0] ⟨S.ur + 1, .arr 1 (List.take S.l.length (rowS 0 S.l) ++ [A.sl true []])⟩) [] ⟨S.u, .cells [A.osl [0, 0] (S.ur + 1) 1 0 (S.l.length + 1), iv S.size, iv S.most, iv S.used]⟩) (lkH [])⟩ ⟨s, G⟩ ∧
    ∀ o, G o = ov 0 (arF 0 (moreS S)) (lkH []) o := by
  refine ⟨_, le_blankR (d := [0, 0]) (u := S.ur + 1) (xs := List.take S.l.length (rowS 0 S.l) ++ [A.sl true []]) S.l.length [0, 0, S.l.length] 1 (by simp [updF_app]) (by simp) (by simp), fun o => ?_⟩
  rw [updF_ov, if_pos rfl, updF_ov, if_pos rfl]
  cases o with
  | nil => rfl
  | cons j p =>
    by_cases hj : j = 0
    · subst hj
      simp only [ov_cons, if_true]
      refine updF_is ?_ (fun h1 => updF_is ?_ (fun h2 => updF_is ?_ (fun h3 => ?_)))
      · simp [moreS, rowS_append, List.take_of_length_le, updF_app]
      · simp [moreS, updF_app]
      · simp [moreS]
      · rw [updF_ne h1]
        refine arF_but h3 h1 fun i hi => ?_
        have : i ≠ S.l.length := fun e => h2 (by rw [hi, e])
        simp only [moreS, List.getElem?_append]
        split
        · rfl
        · rw [List.getElem?_eq_none (by omega), List.getElem?_eq_none (by simp; omega)]
    · simp [hj]
theorem Give_k1 {n : Nat} {w0 : World} {I0 M0 : Nat → Prop} {m0 : Mu} {S : Ar} {k m : Nat} (hk : k < S.l.length) (h0 : 0 ≤ S.used) (h1 : S.used + m ≤ 131072) (h2 : (S.l[k].2.length : Int) ≤ S.used) {r : A} {Hr : Hp}
    {G : Hp} (hG : ∀ o, G o = ov 0 (arF 0 S) (lkH []) o) (hr : r = .tup [iv k, iv S.l[k].2.length, bv true]) (hH : Hr = ov 0 (arF 0 (growS S k m)) (lkH [])) :
    WPC (cxh Try.prog w0 I0 M0 n m0) k1_arena_Arena_Give (RetH (cxh Try.prog w0 I0 M0 n m0) [.tmp 4, .tmp 5, .tmp 6] 1 r Hr) ⟨lk [(0, .pob [0] S.u 0), (1, iv m), (7, iv k)], G⟩ := by
  have hG := funext hG
  subst hr hH hG
  unfold k1_arena_Arena_Give
  simp
  refine sc_ar (r := 0) (grow_spec S k m S.l[k] (List.getElem?_eq_getElem hk) (by omega) h0 (by omega)) (fun p => rfl) rfl (fun _ _ => rfl) (fun _ => ⟨trivial, trivial, trivial⟩) (fun _ _ => rfl) (fun _ => trivial) (by simp) ?_
  simp
  exact reth_ret rfl rfl (fun i p hi => rfl)
set_option pp.deepTerms true in
set_option pp.maxSteps 1000000 in
theorem Give_spec (S : Ar) (h : S.Ok) (n : Int) : SpecH Try.prog 16 1 [.pob [0] S.u 0, iv n] (ov 0 (arF 0 S) (lkH []))
    (.tup [iv (if okGive S n = true then ((atS S n).l.length : Int) - 1 else 0), iv (if okGive S n = true then (szAt (atS S n).w (((atS S n).l.length : Int) - 1) : Int) else 0), bv (okGive S n)]) (ov 0 (arF 0 (giveS S n)) (lkH [])) := by
  refine specH_of t_arena_Arena_Give (by simp) fun w0 I0 M0 m0 => ?_
  unfold c_arena_Arena_Give
  simp
  have o1 := h.used0
  have o2 := h.used1
  have o3 := h.most1
  refine sc_callb_gf [S.a] rfl (fun _ => (left_spec S.w S.size S.most S.used (by omega) (by omega)).toB rfl) (fun e => by simp [e]; exact frz_ar) (by simp) ?_
  simp
  have o4 := h.len
  have oz0 := h.size0
  have oz1 := h.size1
  have oz := h.szAt ((S.l.length : Int) - 1)
  refine ⟨fun hc => ?_, fun a1 a2 => ?_⟩
  · have hk : okGive S n = false := by simp only [okGive, decide_eq_false_iff_not]; omega
    refine reth_ret rfl ?_ (fun i p hi => ?_)
    · simp [hk]
    · simp [giveS, hk]
  have hk : okGive S n = true := by simp only [okGive, decide_eq_true_eq]; omega
  rw [i64_same (n := (S.l.length : Int) - 1) (by omega) (by omega)]
  refine sc_callb_gf [S.a, iv ((S.l.length : Int) - 1), iv n] rfl (fun _ => (room_spec S.w S.size S.most S.used ((S.l.length : Int) - 1) n (by omega) (by omega)).toB rfl) (fun e => by simp only [decide_eq_false_iff_not] at e; simp [e]; exact ⟨frz_ar, frz_bare rfl, frz_bare rfl⟩) (by simp) ?_
  obtain ⟨m, rfl⟩ := Int.eq_ofNat_of_zero_le a1
  have e7 : IntKind.i64.wrap S.l.length = S.l.length := i64_same (by omega) (by omega)
  have e8 : IntKind.i64.wrap ((S.l.length : Int) - 1 + 1) = S.l.length := i64_same (n := (S.l.length : Int) - 1 + 1) (by omega) (by omega) |>.trans (by omega)
  have hmm : ((m : Int)).toNat = m := by omega
  have new : newSeg S m = true → ∀ G : Hp, (∀ o, G o = ov 0 (arF 0 (moreS S)) (lkH []) o) → WPC (cxh Try.prog w0 I0 M0 59 m0) k1_arena_Arena_Give (RetH (cxh Try.prog w0 I0 M0 59 m0) [.tmp 4, .tmp 5, .tmp 6] 1 (A.tup
          [iv (if okGive S m = true then ((atS S m).l.length : Int) - 1 else 0), iv (if okGive S m = true then (szAt (atS S m).w (((atS S m).l.length : Int) - 1) : Int) else 0), bv (okGive S m)]) (ov 0 (arF 0 (giveS S m)) (lkH []))) ⟨lk [(0, .pob [0] S.u 0), (1, iv m), (7, iv (S.l.length : Int))], G⟩ := fun hs G hG => by
    have hat : atS S m = moreS S := by simp [atS, hs]
    have hl : (moreS S).l.length = S.l.length + 1 := by simp [moreS]
    have hlt : S.l.length < (moreS S).l.length := by omega
    have hg : (moreS S).l[S.l.length].2 = [] := by simp [moreS]
    refine Give_k1 (S := moreS S) (k := S.l.length) (m := m) hlt (by simpa [moreS] using o1) (by simp only [moreS]; omega) (by rw [hg]; simpa [moreS] using o1) hG ?_ ?_
    · have hz := szAt_get hlt
      rw [hat, hk, hl]
      simp only [if_true]
      rw [show ((S.l.length + 1 : Nat) : Int) - 1 = (S.l.length : Int) from by omega, hz]
    · rw [giveS, hk, if_pos rfl, hat, hl, hmm]
      rfl
  have old : newSeg S m = false → WPC (cxh Try.prog w0 I0 M0 59 m0) k1_arena_Arena_Give (RetH (cxh Try.prog w0 I0 M0 59 m0) [.tmp 4, .tmp 5, .tmp 6] 1 (A.tup
          [iv (if okGive S m = true then ((atS S m).l.length : Int) - 1 else 0), iv (if okGive S m = true then (szAt (atS S m).w (((atS S m).l.length : Int) - 1) : Int) else 0), bv (okGive S m)]) (ov 0 (arF 0 (giveS S m)) (lkH []))) ⟨lk [(0, .pob [0] S.u 0), (1, iv m), (7, iv ((S.l.length : Int) - 1))], ov 0 (arF 0 S) (lkH [])⟩ := fun hs => by
    have hat : atS S m = S := by simp [atS, hs]
    have h0 : S.l.length ≠ 0 := fun e => by simp [newSeg, e] at hs
    have ec : (S.l.length : Int) - 1 = ((S.l.length - 1 : Nat) : Int) := by omega
    have hlt : S.l.length - 1 < S.l.length := by omega
    rw [hat, hk, ec]
    refine Give_k1 (S := S) (k := S.l.length - 1) (m := m) hlt o1 (by omega) (h.seg _ (List.getElem_mem _)) (fun o => rfl) ?_ ?_
    · simp only [if_true]
      rw [szAt_get hlt]
    · rw [giveS, hk, if_pos rfl, hat, hmm]
  have step : (if (4 : Nat) = 4 then True else False) := trivial
  by_cases h0 : S.l.length = 0
  · have hd : ((S.l.length : Int) - 1 < 0) := by omega
    have hs : newSeg S m = true := by simp [newSeg, h0]
    simp [hd, e7, e8, updF_app]
    refine ⟨by omega, ?_⟩
    obtain ⟨G, g1, g2⟩ := le_more (c := cxh Try.prog w0 I0 M0 59 m0) (s := lk [(0, .pob [0] S.u 0), (1, iv m), (7, iv (S.l.length : Int))]) (S := S)
    exact stop_le g1 (stop_go (new hs G g2))
  · have hd : ¬ ((S.l.length : Int) - 1 < 0) := by omega
    by_cases hr : (m : Int) ≤ S.size - szAt S.w ((S.l.length : Int) - 1)
    · have hs : newSeg S m = false := by simp [newSeg, h0, hr]
      simp [hd, hr, e7, e8, updF_app]
      exact stop_go (old hs)
    · by_cases h16 : S.l.length < 16
      · have hs : newSeg S m = true := by simp [newSeg, h0, hr, h16]
        have h16' : (S.l.length : Int) < 16 := by omega
        simp [hd, hr, h16', e7, e8, updF_app]
        refine ⟨by omega, ?_⟩
        obtain ⟨G, g1, g2⟩ := le_more (c := cxh Try.prog w0 I0 M0 59 m0) (s := lk [(0, .pob [0] S.u 0), (1, iv m), (7, iv (S.l.length : Int))]) (S := S)
        exact stop_le g1 (stop_go (new hs G g2))
      · have hs : newSeg S m = false := by simp [newSeg, h0, hr, h16]
        have h16' : ¬ (S.l.length : Int) < 16 := by omega
        simp [hd, hr, h16', e7, e8, updF_app]
        exact stop_go (old hs)
end Go.Proofs.Ytehcobkphobjiaa

/-
  Chapter 5: new arenas; words are put.
-/
namespace Go.Proofs.Ytehcobkphobjiaa
set_option linter.unusedVariables false
set_option linter.unusedSimpArgs false
open Go Go.G Go.Proofs
def newAr (z m : Int) : Ar := ⟨[], 1, 1, max z 1, min (max m 0) 131072, 0⟩
theorem New_spec (z m : Int) : SpecH Try.prog 20 1 [iv z, iv m] (lkH []) (.pob [0] 1 0) (ov 0 (arF 0 (newAr z m)) (lkH [])) := by
  refine specH_of t_arena_New (by simp) fun w0 I0 M0 m0 => ?_
  unfold c_arena_New
  simp
  refine reth_le (le_blankC (d := [0]) 0 [0, 0] 1 rfl rfl (by simp)) ?_
  simp
  refine reth_ret rfl rfl (fun i p hi => ?_)
  have hi0 : i = 0 := by omega
  subst hi0
  simp only [lkH_cons, lkH_nil, ov_cons, if_true]
  match p with
  | [] => rfl
  | [0] => rfl
  | [0, i] => rfl
  | (a + 1) :: q => rfl
  | 0 :: a :: b :: q => rfl
theorem sc_new {P : Program} {K : Sta → Prop} {rest : List CO} {s : Nat → A} {H : Hp} {dd : Option Nat} {nm : Nm} {ix : Nat} {un : List Nat} {l : Bool} {lg : Lg} {g : FuncId} {aa : Array Operand} {ts : Array TypeId}
    (r : Nat) {S' : Ar} {as0 : List A} (hu : S'.u = 1) (hS : SpecH P g 1 as0 (lkH []) (.pob [0] 1 0) (ov 0 (arF 0 S') (lkH []))) (hF : ∀ p, (H (r :: p)).u = 0)
    (ha : aa.toList.map (evs s) = as0) (h0 : ∀ g δ, A.renL g δ as0 = as0) (h1 : ∀ D, A.refsL D as0) (hv : ∀ p, (arF 0 S' p).ob = .none ∨ 1 ≤ (arF 0 S' p).u) (hck : Ck un lg ⟨[], [([r], true)]⟩)
    (h : SeqC P K rest (addL l ix ⟨[], [([r], true)]⟩ lg) (Sta.put ⟨s, H⟩ dd (.pob [r] 1 0) (stR r (arF r S') H))) :
    SeqC P K (⟨dd, .call { callee := .value (.func g), args := aa, argTypes := ts }, none, nm, ix, un, l⟩ :: rest) lg ⟨s, H⟩ := by
  have hd : ∀ p, dlt [r] 0 H (0 :: p) = 0 := fun p => by
    simp only [dlt]
    rw [if_neg (by omega), if_pos (by simp)]
    exact hF p
  refine sc_callH [r] 0 hS (by simp) (by simp) ?_ ?_ ?_ ?_ (by simp [A.refs, outS]) ?_ ?_ ?_ ?_ hck h
  · rw [ha]; exact h0 _ _
  · rw [ha]; exact h1 _
  · funext o
    cases o with
    | nil => rfl
    | cons i p => simp [inHp]
  · intro j p hj
    omega
  · intro i p hi
    have : i = 0 := by simp at hi; omega
    subst this
    simp only [ov_cons, if_true]
    exact arF_refs (fun q => by simp [outS]) S' p
  · intro i p _ hi
    have : i = 0 := by simp at hi; omega
    subst this
    simp only [ov_cons, if_true]
    exact hv p
  · simp [A.ren, upN, hd]
  · funext o
    cases o with
    | nil => rfl
    | cons j p =>
      by_cases hj : j = r
      · subst hj
        simp only [outG, stR, ov_cons, if_true]
        rw [if_pos (by simp)]
        have : [j].idxOf j = 0 := by simp
        rw [this, if_pos rfl, hd]
        exact arF_ren (fun q => by simp [upN]) hd S' p
      · have : ¬ [r].contains j = true := by simpa using hj
        simp only [outG, if_neg this, stR, ov_cons, if_neg hj]
end Go.Proofs.Ytehcobkphobjiaa

/-
  Chapter 5: the laws.
-/
namespace Go.Proofs.Ytehcobkphobjiaa
set_option linter.unusedVariables false
set_option linter.unusedSimpArgs false
open Go Go.G Go.Proofs
theorem newAr_ok {z m : Int} (h : z < 9223372036854775808) : (newAr z m).Ok := by
  refine ⟨by simp [newAr], ?_, ?_, ?_, ?_, by simp [newAr], by simp [newAr]⟩
  all_goals
    simp only [newAr]
    omega
theorem newAr_fam {z m : Int} (p : Nm) : (arF 0 (newAr z m) p).ob = .none ∨ 1 ≤ (arF 0 (newAr z m) p).u := by
  match p with
  | [] => exact .inr (Nat.le_refl _)
  | [0] => exact .inr (Nat.le_refl _)
  | [0, i] => exact .inl rfl
  | (a + 1) :: q => exact .inl rfl
  | 0 :: a :: b :: q => exact .inl rfl
theorem growS_ok {S : Ar} (h : S.Ok) {k n : Nat} (h1 : S.used + n ≤ S.most) : (growS S k n).Ok := by
  refine ⟨?_, h1, h.most1, h.size0, h.size1, by simpa [growS] using h.len, fun e he => ?_⟩
  · have := h.used0; simp only [growS]; omega
  · simp only [growS] at he ⊢
    obtain ⟨i, hi, rfl⟩ := List.getElem_of_mem he
    simp only [List.getElem_modify]
    simp at hi
    have := h.seg _ (List.getElem_mem hi)
    split
    · simp; omega
    · omega
theorem atS_ok {S : Ar} (h : S.Ok) (n : Int) : (atS S n).Ok := by
  unfold atS
  split
  · rename_i hn
    refine ⟨h.used0, h.used1, h.most1, h.size0, h.size1, ?_, fun e he => ?_⟩
    · simp only [moreS, List.length_append, List.length_singleton]
      simp [newSeg] at hn
      have := h.len
      rcases hn with e | e
      · simp [e]
      · omega
    · simp only [moreS, List.mem_append, List.mem_singleton] at he
      rcases he with he | rfl
      · exact h.seg e he
      · exact h.used0
  · exact h
theorem giveS_ok {S : Ar} (h : S.Ok) (n : Int) : (giveS S n).Ok := by
  unfold giveS
  split
  · rename_i hg
    simp [okGive] at hg
    have hu : (atS S n).used = S.used ∧ (atS S n).most = S.most := by unfold atS; split <;> exact ⟨rfl, rfl⟩
    refine growS_ok (atS_ok h n) ?_
    rw [hu.1, hu.2]
    omega
  · exact h
theorem awake5_spec : G.Spec Try.prog 19 [] (bv true) := by
  refine spec_of t_centolaw05_awake (by simp) fun w0 I0 => ?_
  unfold c_centolaw05_awake
  simp
  refine sc_new 0 rfl (New_spec 4 9) (fun p => rfl) rfl (fun _ _ => rfl) (fun _ => ⟨trivial, trivial, trivial⟩) newAr_fam (by simp) ?_
  simp
  have k0 : (newAr 4 9).Ok := newAr_ok (by decide)
  have k1 := giveS_ok k0 3
  have k2 := giveS_ok k1 2
  refine sc_ar (r := 0) (Give_spec (newAr 4 9) k0 3) (fun p => rfl) rfl (fun _ _ => rfl) (fun _ => ⟨trivial, trivial⟩) (fun _ _ => rfl) (fun _ => ⟨trivial, trivial, trivial, trivial⟩) (by simp) ?_
  simp
  refine sc_ar (r := 0) (Give_spec (giveS (newAr 4 9) 3) k1 2) (fun p => rfl) rfl (fun _ _ => rfl) (fun _ => ⟨trivial, trivial⟩) (fun _ _ => rfl) (fun _ => ⟨trivial, trivial, trivial, trivial⟩) (by simp) ?_
  simp
  refine sc_ar (r := 0) (Give_spec (giveS (giveS (newAr 4 9) 3) 2) k2 5) (fun p => rfl) rfl (fun _ _ => rfl) (fun _ => ⟨trivial, trivial⟩) (fun _ _ => rfl) (fun _ => ⟨trivial, trivial, trivial, trivial⟩) (by simp) ?_
  have a1 : okGive (newAr 4 9) 3 = true := by decide +kernel
  have a2 : (atS (newAr 4 9) 3).l.length = 1 := by decide +kernel
  have a3 : szAt (atS (newAr 4 9) 3).w 0 = 0 := by decide +kernel
  have b1 : okGive (giveS (newAr 4 9) 3) 2 = true := by decide +kernel
  have b2 : (atS (giveS (newAr 4 9) 3) 2).l.length = 2 := by decide +kernel
  have b3 : szAt (atS (giveS (newAr 4 9) 3) 2).w 1 = 0 := by decide +kernel
  have c1 : okGive (giveS (giveS (newAr 4 9) 3) 2) 5 = false := by decide +kernel
  simp [a1, a2, a3, b1, b2, b3, c1]
  exact frz_bare rfl
end Go.Proofs.Ytehcobkphobjiaa

/-
  Chapter 5: arenas of given segments, as objects of the caller's own.
-/
namespace Go.Proofs.Ytehcobkphobjiaa
set_option linter.unusedVariables false
set_option linter.unusedSimpArgs false
open Go Go.G Go.Proofs
/-- An arena that gives nothing; its segments are written no more. -/
def aoF (v : Nat) (l : List (List Int)) (r : Nat) : Nm → VOb
  | [] => ⟨1, .cells [.osl [r, 0] v 1 0 l.length, iv 0, iv 0, iv 0]⟩
  | [0] => ⟨v, .arr 1 (l.map ws)⟩
  | _ => ⟨0, .none⟩
@[simp] theorem aoF_nil {v r : Nat} {l : List (List Int)} : aoF v l r [] = ⟨1, .cells [.osl [r, 0] v 1 0 l.length, iv 0, iv 0, iv 0]⟩ := rfl
@[simp] theorem aoF_row {v r : Nat} {l : List (List Int)} : aoF v l r [0] = ⟨v, .arr 1 (l.map ws)⟩ := rfl
theorem aoF_is {v r : Nat} {l : List (List Int)} {F : Nm → VOb} (h0 : F [] = aoF v l r []) (h1 : F [0] = aoF v l r [0]) (h2 : ∀ p, p ≠ [] → p ≠ [0] → F p = ⟨0, .none⟩) : ∀ p, F p = aoF v l r p := fun p => by
  match p with
  | [] => exact h0
  | [0] => exact h1
  | (a + 1) :: q => exact h2 _ (by simp) (by simp)
  | 0 :: a :: q => exact h2 _ (by simp) (by simp)
def aoM (v : Nat) (l : List (List Int)) : Fam := ⟨fun r => aoF v l r, fun {g δ r r'} hg hd p => by
    match p with
    | [] => exact Fam.cells_ren (by simp [A.renL, A.ren, hg, hd])
    | [0] =>
      refine Fam.arr_ren ?_
      exact (FamL.all (l := l.map ws) fun x hx => by obtain ⟨y, _, rfl⟩ := List.mem_map.1 hx; exact famA_sl).ren hg hd
    | (a + 1) :: q => rfl
    | 0 :: a :: q => rfl, fun {D r} hD p => by
    match p with
    | [] => simp [Ob.refs, A.refsL, A.refs, hD]
    | [0] => exact (FamL.all (l := l.map ws) fun x hx => by obtain ⟨y, _, rfl⟩ := List.mem_map.1 hx; exact famA_sl).refs hD
    | (a + 1) :: q => trivial
    | 0 :: a :: q => trivial⟩
@[simp] theorem aoM_F {v r : Nat} {l : List (List Int)} : (aoM v l).F r = aoF v l r := rfl
/-- Rows at a row's places. -/
def rwF (u : Nat) (es : List (Nat × List Int)) (r : Nat) (p : Nm) : VOb := if p = [] then ⟨0, .none⟩ else arF r ⟨es, 0, u, 0, 0, 0⟩ p
@[simp] theorem rwF_row {u r : Nat} {es : List (Nat × List Int)} : rwF u es r [0] = ⟨u, .arr 1 (rowS r es)⟩ := rfl
@[simp] theorem rwF_seg {u r i : Nat} {es : List (Nat × List Int)} : rwF u es r [0, i] = match es[i]? with
    | some e => ⟨e.1, .arr 1 (e.2.map uv)⟩
    | none => ⟨0, .none⟩ := rfl
def rwM (u : Nat) (es : List (Nat × List Int)) : Fam := ⟨fun r => rwF u es r, fun {g δ r r'} hg hd p => by
    unfold rwF
    split
    · rfl
    · exact arF_ren hg hd _ p, fun {D r} hD p => by
    unfold rwF
    split
    · trivial
    · exact arF_refs hD _ p⟩
@[simp] theorem rwM_F {u r : Nat} {es : List (Nat × List Int)} : (rwM u es).F r = rwF u es r := rfl
/-! ### an arena of segments -/
section
variable {n : Nat} {w0 : World} {I0 M0 : Nat → Prop} {m0 : Mu} {Q : Exit → Sta → Prop}
theorem ofN_l1 {l : List (List Int)} {u : Nat} {xs : List A} {F : Nm → VOb} (hl : l.length * 24 ≤ 140737488355328) (hb : ∀ x, x ∈ l → x.length * 8 ≤ 140737488355328) (hlen : xs.length = l.length) (hF : F [0] = ⟨u, .arr 1 xs⟩) (hc : ∀ x, x ∈ xs → x.cells = [x])
    (hx : ∀ (i : Nat) (h : i < l.length) (H : Hp), (∀ p, H (0 :: p) = F p) → Frz H (xs[i]'(by omega)) (ws l[i]))
    (hq : ∀ (q : Bool) (H : Hp), (∀ p, H (0 :: p) = F p) → (∀ p, H (1 :: p) = aoF (l.length + 1) l 1 p) → Q (.exit 0) ⟨lk [(3, .pob [1] 1 0), (8, .osl [0, 0] u 1 0 l.length), (9, iv l.length), (10, iv l.length), (11, bv q)], H⟩) :
    ∀ (j i : Nat) (H : Hp), i + j = l.length → (∀ p, H (0 :: p) = F p) → (∀ p, H (1 :: p) = aoF (i + 1) (l.take i) 1 p) →
    LoopC (cxh Try.prog w0 I0 M0 n m0) l1_arena_OfN Q ⟨lk [(3, .pob [1] 1 0), (8, .osl [0, 0] u 1 0 l.length), (9, iv l.length), (10, iv i)], H⟩ := by
  intro j
  induction j with
  | zero =>
    intro i H hi h0 h1
    have : i = l.length := by omega
    subst this
    rw [List.take_of_length_le (Nat.le_refl _)] at h1
    refine loopC_once mixed l1_arena_OfN.eq_1 ?_
    simp
    exact hq _ H h0 h1
  | succ j ih =>
    intro i H hi h0 h1
    have hlt : i < l.length := by omega
    have hlx : i < xs.length := by omega
    have hr : H [0, 0] = ⟨u, .arr 1 xs⟩ := by rw [h0, hF]
    have g0 := h1 []
    have g1 := h1 [0]
    have ht : (l.take i).length = i := by simp; omega
    simp [ht] at g0
    simp at g1
    have hcl := hc _ (List.getElem_mem hlx)
    have ei : IntKind.i64.wrap ((i : Int) + 1) = ((i + 1 : Nat) : Int) := i64_same (by omega) (by omega)
    refine loopC_once mixed l1_arena_OfN.eq_1 ?_
    simp [hlt, hr, hlx, hcl, g0]
    refine sc_callb [ws l[i]] (clone_spec false l[i] (hb _ (List.getElem_mem hlt))) (by simp; exact hx i hlt H h0) (by simp) ?_
    have h24 : (i + 1) * 24 ≤ 140737488355328 := by omega
    simp [g0, g1, h24, ei, ht, updF_app]
    refine ⟨by omega, ?_⟩
    have ht2 : (l.take (i + 1)).length = i + 1 := by simp; omega
    have htk : (l.take (i + 1)).map ws = (l.map ws).take i ++ [ws l[i]] := by rw [List.map_take, List.take_succ_eq_append_getElem (by simpa using hlt)]; simp
    refine ih (i + 1) _ (by omega) (fun p => ?_) (aoF_is ?_ ?_ fun p p0 p1 => ?_)
    · rw [updF_ne (by simp), updF_ne (by simp)]; exact h0 p
    · simp [updF_app, ht2]
    · rw [aoF_row, htk]
      simp [updF_app, List.take_take]
    · rw [updF_ne (by simpa using p0), updF_ne (by simpa using p1)]
      rw [h1]
      match p with
      | [] => exact absurd rfl p0
      | [0] => exact absurd rfl p1
      | (a + 1) :: q => rfl
      | 0 :: a :: q => rfl
end
theorem aoF_u {v : Nat} {l : List (List Int)} (hv : 1 ≤ v) (p : Nm) : (aoF v l 1 p).ob = .none ∨ 1 ≤ (aoF v l 1 p).u := by
  match p with
  | [] => exact .inr (Nat.le_refl _)
  | [0] => exact .inr hv
  | (a + 1) :: q => exact .inl rfl
  | 0 :: a :: q => exact .inl rfl
theorem OfN_gen {l : List (List Int)} {u : Nat} {F : Fam} {xs : List A} (hl : l.length * 24 ≤ 140737488355328) (hb : ∀ x, x ∈ l → x.length * 8 ≤ 140737488355328) (hlen : xs.length = l.length) (hF : F.F 0 [0] = ⟨u, .arr 1 xs⟩) (hc : ∀ x, x ∈ xs → x.cells = [x])
    (hx : ∀ (i : Nat) (h : i < l.length) (H : Hp), (∀ p, H (0 :: p) = F.F 0 p) → Frz H (xs[i]'(by omega)) (ws l[i])) :
    SpecN Try.prog 13 (fun r => [.osl [r, 0] u 1 0 l.length]) F (fun _ q => .pob [q] 1 0) F (aoM (l.length + 1) l) := by
  refine specN_of t_arena_OfN (by simp) (famL_cons famA_osl famL_nil) (famA2_r famA_pob) (fun p => aoF_u (by omega) p) fun w0 I0 M0 m0 => ?_
  unfold c_arena_OfN
  simp
  refine LoopC.le (le_blankC (d := [1]) 0 [1, 0] 1 rfl rfl (by simp)) ?_
  simp
  refine ofN_l1 hl hb hlen hF hc hx (fun q H h0 h1 => ?_) l.length 0 _ (by omega) (fun p => ?_) (aoF_is ?_ ?_ fun p p0 p1 => ?_)
  · simp
    exact reth_fam2 rfl rfl h0 h1
  · simp
  · simp
  · simp
  · simp [Ne.symm p0, Ne.symm p1]
/-- Of an arena's own segments, and of rows. -/
theorem Of_ao {l : List (List Int)} {v : Nat} (hl : l.length * 24 ≤ 140737488355328) (hb : ∀ x, x ∈ l → x.length * 8 ≤ 140737488355328) :
    SpecN Try.prog 13 (fun r => [.osl [r, 0] v 1 0 l.length]) (aoM v l) (fun _ q => .pob [q] 1 0) (aoM v l) (aoM (l.length + 1) l) :=
  OfN_gen (xs := l.map ws) hl hb (by simp) rfl (fun x hx => by obtain ⟨y, _, rfl⟩ := List.mem_map.1 hx; rfl) fun i h H hH => by
    rw [List.getElem_map]
    exact frz_bare rfl
theorem Of_rw {es : List (Nat × List Int)} {u : Nat} (hl : es.length * 24 ≤ 140737488355328) (hb : ∀ x, x ∈ es → x.2.length * 8 ≤ 140737488355328) :
    SpecN Try.prog 13 (fun r => [.osl [r, 0] u 1 0 es.length]) (rwM u es) (fun _ q => .pob [q] 1 0) (rwM u es) (aoM (es.length + 1) (es.map Prod.snd)) := by
  have := OfN_gen (l := es.map Prod.snd) (u := u) (F := rwM u es) (xs := rowS 0 es) (by simpa using hl) (fun x hx => by obtain ⟨y, hy, rfl⟩ := List.mem_map.1 hx; exact hb y hy) (by simp) rfl (fun x hx => by
    obtain ⟨i, hi, rfl⟩ := List.mem_mapIdx.1 hx
    rfl) fun i h H hH => by
    have hi : i < es.length := by simpa using h
    rw [rowS_get, List.getElem_map]
    have hr : H [0, 0, i] = ⟨es[i].1, .arr 1 (es[i].2.map uv)⟩ := by rw [hH]; simp [hi]
    have := frz_osl (H := H) (o := [0, 0, i]) (u := es[i].1) (off := 0) (len := es[i].2.length) (sz := 1) (xs := es[i].2.map uv) (by simp [hr]) (by simp) (by simp [List.take_of_length_le])
    simpa [List.take_of_length_le] using this
  simpa using this
/-- All segments, again as a row. -/
theorem Segs_ao {l : List (List Int)} {v : Nat} (hl : l.length * 24 ≤ 140737488355328) (hb : ∀ x, x ∈ l → x.length * 8 ≤ 140737488355328) :
    SpecN Try.prog 15 (fun r => [.pob [r] 1 0]) (aoM v l) (fun _ q => .osl [q, 0] (l.length + 1) 1 0 l.length) (aoM v l) (aoM (l.length + 1) l) := by
  refine specN_of t_arena_Arena_Segments (by simp) (famL_cons famA_pob famL_nil) (famA2_r famA_osl) (fun p => aoF_u (by omega) p) fun w0 I0 M0 m0 => ?_
  unfold c_arena_Arena_Segments
  simp
  refine sc_famN 0 1 (by decide) (Of_ao (v := v) hl hb) (fun p => by simp) (fun p => by simp) (by simp) (by simp) ?_
  simp
  exact reth_fam2 rfl rfl (fun p => by simp) (fun p => by simp)
theorem aoF_no {v r : Nat} {l : List (List Int)} {p : Nm} (h0 : p ≠ []) (h1 : p ≠ [0]) : aoF v l r p = ⟨0, .none⟩ := by
  match p with
  | [] => exact absurd rfl h0
  | [0] => exact absurd rfl h1
  | (a + 1) :: q => rfl
  | 0 :: a :: q => rfl
/-- Nothing is given. -/
theorem grow_ao {l : List (List Int)} {v k : Nat} (hk : k < l.length) :
    SpecF Try.prog 62 (fun r => [.pob [r] 1 0, iv k, iv 0]) (aoM v l) (fun _ => iv l[k].length) (aoM v l) := by
  refine specF_of t_arena_Arena_grow (by simp) (famL_cons famA_pob (famL_cons famA_v (famL_cons famA_v famL_nil))) famA_v fun w0 I0 M0 m0 => ?_
  unfold c_arena_Arena_grow
  simp [hk, updF_app]
  have e0 : IntKind.i64.wrap 0 = 0 := by decide
  refine reth_fam rfl rfl (aoF_is ?_ ?_ fun p p0 p1 => ?_)
  · simp [updF_app, e0]
  · have : (l.map ws).set k ((l.map ws)[k]'(by simpa using hk)) = l.map ws := List.set_getElem_self (by simpa using hk)
    rw [List.getElem_map] at this
    simp [updF_app]
    exact this
  · show updF (updF (aoF v l 0) [0] _) [] _ p = _
    rw [updF_ne p0, updF_ne p1, aoF_no p0 p1]
theorem szAt_le {l : List (List Int)} (hb : ∀ x, x ∈ l → x.length * 8 ≤ 140737488355328) (s : Int) : Go.Proofs.Ytehcobkphobjiaa.szAt l s * 8 ≤ 140737488355328 := by
  unfold szAt
  cases e : seg l s with
  | none => simp
  | some g =>
    obtain ⟨_, _, h, rfl⟩ := seg_some e
    exact hb _ (List.getElem_mem h)
theorem frz_ao {r v : Nat} {l : List (List Int)} {H : Hp} (h : ∀ p, H (r :: p) = aoF v l r p) : Frz H (.pob [r] 1 0) (arn l) := by
  have h0 := h []
  have h1 := h [0]
  simp at h0 h1
  refine frz_pob (cs := [.osl [r, 0] v 1 0 l.length, iv 0, iv 0, iv 0]) (by simp [h0]) ?_ (by simp)
  simp
  exact ⟨frz_sgs (by simp [h1]) rfl, frz_bare rfl⟩
theorem In_ao {l : List (List Int)} {v : Nat} (hb : ∀ x, x ∈ l → x.length * 8 ≤ 140737488355328) (s n : Int) :
    SpecF Try.prog 17 (fun r => [.pob [r] 1 0, iv s, iv n]) (aoM v l) (fun _ => .tup [iv 0, bv (decide (0 ≤ s ∧ s < l.length ∧ n = 0 ∧ Go.Proofs.Ytehcobkphobjiaa.szAt l s = 0))]) (aoM v l) := by
  refine specF_of t_arena_Arena_In (by simp) (famL_cons famA_pob (famL_cons famA_v (famL_cons famA_v famL_nil))) (famA_tup (famL_cons famA_v (famL_cons famA_v famL_nil))) fun w0 I0 M0 m0 => ?_
  unfold c_arena_Arena_In
  have oz := szAt_le hb s
  simp
  refine sc_callb_gf [arn l] rfl (fun _ => (len_spec l).toB rfl) (fun e => by simp [e]; exact frz_ao (v := v) (fun p => by simp)) (by simp) ?_
  simp
  refine sc_callb_gf [arn l] rfl (fun _ => (left_spec l 0 0 0 (by omega) (by omega)).toB rfl) (fun e => by simp [e]; exact frz_ao (v := v) (fun p => by simp)) (by simp) ?_
  simp
  refine sc_callb_gf [arn l, iv s, iv n] rfl (fun _ => (room_spec l 0 0 0 s n (by omega) (by omega)).toB rfl) (fun e => by simp only [Bool.or_eq_false_iff] at e; simp [e]; exact ⟨frz_ao (v := v) (fun p => by simp), frz_bare rfl, frz_bare rfl⟩) (by simp) ?_
  simp
  refine ⟨fun hc => ?_, fun a1 a2 a3 a4 a5 => ?_⟩
  · refine reth_fam rfl ?_ (fun p => by simp)
    have : ¬ (0 ≤ s ∧ s < l.length ∧ n = 0 ∧ Go.Proofs.Ytehcobkphobjiaa.szAt l s = 0) := by omega
    simp
    omega
  · have hn : n = 0 := by omega
    subst hn
    obtain ⟨k, rfl⟩ := Int.eq_ofNat_of_zero_le a1
    have hlt : k < l.length := by omega
    have hsz : Go.Proofs.Ytehcobkphobjiaa.szAt l k = l[k].length := by
      obtain ⟨_, e⟩ := seg_in a1 a2
      simp [szAt, e]
    have h0 : l[k].length = 0 := by omega
    refine sc_fam 0 (grow_ao (v := v) hlt) (fun p => by simp) (by simp) (by simp) ?_
    simp
    refine reth_fam rfl ?_ (fun p => by simp)
    simp [hlt, hsz, h0]
section
variable {n0 : Nat} {w0 : World} {I0 M0 : Nat → Prop} {m0 : Mu}
theorem Give_k1ao {l : List (List Int)} {v k : Nat} (hk : k < l.length) {G : Hp} (hG : ∀ p, G (0 :: p) = aoF v l 0 p) :
    WPC (cxh Try.prog w0 I0 M0 n0 m0) k1_arena_Arena_Give (RetH (cxh Try.prog w0 I0 M0 n0 m0) [.tmp 4, .tmp 5, .tmp 6] 1 (.tup [iv k, iv l[k].length, bv true]) (ov 0 (aoF v l 0) (lkH []))) ⟨lk [(0, .pob [0] 1 0), (1, iv 0), (7, iv k)], G⟩ := by
  unfold k1_arena_Arena_Give
  simp
  refine sc_fam 0 (grow_ao (v := v) hk) hG (by simp) (by simp) ?_
  simp
  exact reth_fam rfl rfl (fun p => by simp)
end
theorem Give_ao {l : List (List Int)} {v : Nat} (hl : l.length * 24 ≤ 140737488355328) (hb : ∀ x, x ∈ l → x.length * 8 ≤ 140737488355328) (n : Int) :
    ∃ (a b : Int) (v' : Nat) (l' : List (List Int)), (∀ x, x ∈ l' → x ∈ l ∨ x = []) ∧
      SpecF Try.prog 16 (fun r => [.pob [r] 1 0, iv n]) (aoM v l) (fun _ => .tup [iv a, iv b, bv (decide (n = 0))]) (aoM v' l') := by
  have fA : FamL (fun r => [.pob [r] 1 0, iv n]) := famL_cons famA_pob (famL_cons famA_v famL_nil)
  have fR : ∀ a b : Int, FamA (fun _ => .tup [iv a, iv b, bv (decide (n = 0))]) := fun a b => famA_tup (famL_cons famA_v (famL_cons famA_v (famL_cons famA_v famL_nil)))
  by_cases hn : n = 0
  rotate_left
  · refine ⟨0, 0, v, l, fun x hx => .inl hx, specF_of t_arena_Arena_Give (by simp) fA (fR _ _) fun w0 I0 M0 m0 => ?_⟩
    unfold c_arena_Arena_Give
    simp
    refine sc_callb_gf [arn l] rfl (fun _ => (left_spec l 0 0 0 (by omega) (by omega)).toB rfl) (fun e => by simp [e]; exact frz_ao (v := v) (fun p => by simp)) (by simp) ?_
    simp
    refine ⟨fun hc => ?_, fun a1 a2 => ?_⟩
    · exact reth_fam rfl (by simp [hn]) (fun p => by simp)
    · omega
  subst hn
  have e9 : IntKind.i64.wrap ((l.length : Int) - 1) = (l.length : Int) - 1 := i64_same (by omega) (by omega)
  have e8 : IntKind.i64.wrap ((l.length : Int) - 1 + 1) = l.length := (i64_same (n := (l.length : Int) - 1 + 1) (by omega) (by omega)).trans (by omega)
  have e7 : IntKind.i64.wrap (l.length : Int) = l.length := i64_same (by omega) (by omega)
  have oz := szAt_le hb ((l.length : Int) - 1)
  have hroom := fun (z m u : Int) => room_spec l 0 0 0 ((l.length : Int) - 1) 0 (by omega) (by omega)
  have hroom := hroom 0 0 0
  by_cases hnew : l.length = 0 ∨ (l.length ≠ 0 ∧ Go.Proofs.Ytehcobkphobjiaa.szAt l ((l.length : Int) - 1) ≠ 0 ∧ l.length < 16)
  · refine ⟨_, _, v + 1, l ++ [[]], fun x hx => by simpa using hx, specF_of t_arena_Arena_Give (by simp) fA (fR (l.length : Int) 0) fun w0 I0 M0 m0 => ?_⟩
    unfold c_arena_Arena_Give
    simp
    refine sc_callb_gf [arn l] rfl (fun _ => (left_spec l 0 0 0 (by omega) (by omega)).toB rfl) (fun e => by simp [e]; exact frz_ao (v := v) (fun p => by simp)) (by simp) ?_
    simp
    rw [e9]
    refine sc_callb_gf [arn l, iv ((l.length : Int) - 1), iv 0] rfl (fun _ => hroom.toB rfl) (fun e => by simp only [decide_eq_false_iff_not] at e; simp [e]; exact ⟨frz_ao (v := v) (fun p => by simp), frz_bare rfl, frz_bare rfl⟩) (by simp) ?_
    have new : ∀ G : Hp, (∀ p, G (0 :: p) = aoF (v + 1) (l ++ [[]]) 0 p) → WPC (cxh Try.prog w0 I0 M0 59 m0) k1_arena_Arena_Give (RetH (cxh Try.prog w0 I0 M0 59 m0) [.tmp 4, .tmp 5, .tmp 6] 1 (.tup [iv (l.length : Int), iv 0, bv true]) (ov 0 (aoF (v + 1) (l ++ [[]]) 0) (lkH []))) ⟨lk [(0, .pob [0] 1 0), (1, iv 0), (7, iv (l.length : Int))], G⟩ := fun G hG => by
      have := Give_k1ao (w0 := w0) (I0 := I0) (M0 := M0) (m0 := m0) (n0 := 59) (l := l ++ [[]]) (k := l.length) (by simp) hG
      have e : ((l ++ [[]])[l.length]'(by simp)).length = 0 := by simp
      rw [e] at this
      exact this
    have fin : StopK (cxh Try.prog w0 I0 M0 59 m0) (WPC (cxh Try.prog w0 I0 M0 59 m0) k1_arena_Arena_Give (RetH (cxh Try.prog w0 I0 M0 59 m0) [.tmp 4, .tmp 5, .tmp 6] 1 (.tup [iv (l.length : Int), iv 0, bv true]) (ov 0 (aoF (v + 1) (l ++ [[]]) 0) (lkH []))))
        ⟨lk [(0, .pob [0] 1 0), (1, iv 0), (7, iv (l.length : Int))], ov 0 (updF (updF (aoF v l 0) [0] ⟨v + 1, .arr 1 (List.take l.length (l.map ws) ++ [A.sl true []])⟩) [] ⟨1, .cells [.osl [0, 0] (v + 1) 1 0 (l.length + 1), iv 0, iv 0, iv 0]⟩) (lkH [])⟩ := by
      refine stop_le (le_lastR (e := [0, 0]) (ue := v + 1) (xs := List.take l.length (l.map ws)) (y := .sl true []) (y' := .sl false []) (fun w I μ v h => h.soft) rfl rfl rfl (by simp [updF_app])) (stop_go (new _ (aoF_is ?_ ?_ fun p p0 p1 => ?_)))
      · simp [updF_app]
      · simp [updF_app, List.take_of_length_le]
      · rw [updF_ne (by simpa using p1)]
        show updF (updF (aoF v l 0) [0] _) [] _ p = _
        rw [updF_ne p0, updF_ne p1, aoF_no p0 p1]
    rcases hnew with h0 | ⟨hl0, h0, h16⟩
    · have hd : ((l.length : Int) - 1 < 0) := by omega
      simp [hd, e7, e8, updF_app]
      exact ⟨by omega, fin⟩
    · have hd : ¬ ((l.length : Int) - 1 < 0) := by omega
      have h16' : (l.length : Int) < 16 := by omega
      have h0' : ¬ (0 : Int) ≤ -(Go.Proofs.Ytehcobkphobjiaa.szAt l ((l.length : Int) - 1) : Int) := by omega
      simp [hd, h0, h0', h16', e7, e8, updF_app]
      exact ⟨by omega, fin⟩
  · have hl0 : l.length ≠ 0 := fun e => hnew (.inl e)
    have ec : (l.length : Int) - 1 = ((l.length - 1 : Nat) : Int) := by omega
    have hlt : l.length - 1 < l.length := by omega
    refine ⟨_, _, v, l, fun x hx => .inl hx, specF_of t_arena_Arena_Give (by simp) fA (fR ((l.length : Int) - 1) l[l.length - 1].length) fun w0 I0 M0 m0 => ?_⟩
    unfold c_arena_Arena_Give
    simp
    refine sc_callb_gf [arn l] rfl (fun _ => (left_spec l 0 0 0 (by omega) (by omega)).toB rfl) (fun e => by simp [e]; exact frz_ao (v := v) (fun p => by simp)) (by simp) ?_
    simp
    rw [e9]
    refine sc_callb_gf [arn l, iv ((l.length : Int) - 1), iv 0] rfl (fun _ => hroom.toB rfl) (fun e => by simp only [decide_eq_false_iff_not] at e; simp [e]; exact ⟨frz_ao (v := v) (fun p => by simp), frz_bare rfl, frz_bare rfl⟩) (by simp) ?_
    have hd : ¬ ((l.length : Int) - 1 < 0) := by omega
    have fin := Give_k1ao (w0 := w0) (I0 := I0) (M0 := M0) (m0 := m0) (n0 := 59) (v := v) (l := l) (k := l.length - 1) hlt (G := ov 0 (aoF v l 0) (lkH [])) (fun p => by simp)
    rw [← ec] at fin
    by_cases hr : Go.Proofs.Ytehcobkphobjiaa.szAt l ((l.length : Int) - 1) = 0
    · simp [hd, hr, e7, e8, updF_app]
      exact stop_go fin
    · have h16 : ¬ (l.length : Int) < 16 := fun e => hnew (.inr ⟨hl0, hr, by omega⟩)
      have h0' : ¬ (0 : Int) ≤ -(Go.Proofs.Ytehcobkphobjiaa.szAt l ((l.length : Int) - 1) : Int) := by omega
      simp [hd, hr, h0', h16, e7, e8, updF_app]
      exact stop_go fin
end Go.Proofs.Ytehcobkphobjiaa

/-
  Plain: trees, and what the document says of them.
-/
namespace Go.PL
set_option linter.unusedVariables false
set_option linter.unusedSimpArgs false
inductive T where
  | mk (kind : Int) (words : List Int) (kids : List T)
  deriving Inhabited
namespace T
def kind : T → Int | mk k _ _ => k
def words : T → List Int | mk _ w _ => w
def kids : T → List T | mk _ _ l => l
@[simp] theorem kind_mk {k : Int} {w : List Int} {l : List T} : (mk k w l).kind = k := rfl
@[simp] theorem words_mk {k : Int} {w : List Int} {l : List T} : (mk k w l).words = w := rfl
@[simp] theorem kids_mk {k : Int} {w : List Int} {l : List T} : (mk k w l).kids = l := rfl
end T
abbrev T0 : T := .mk 0 [] []
/-! ### the Norm -/
/-- Without what is nothing at the end. -/
def trimW (l : List Int) : List Int := (l.reverse.dropWhile (fun x => x == 0)).reverse
def trimK (l : List T) : List T := (l.reverse.dropWhile (fun x => x.kind == 0)).reverse
mutual
def norm : T → T
  | .mk k w l => if k = 0 then T0 else if k = 1 then .mk 1 (trimW w) (trimK (normL l)) else .mk k w (normL l)
def normL : List T → List T
  | [] => []
  | t :: l => norm t :: normL l
end
@[simp] theorem normL_map : ∀ l, normL l = l.map norm
  | [] => by simp [normL]
  | t :: l => by simp [normL, normL_map l]
theorem norm_mk (k : Int) (w : List Int) (l : List T) : norm (.mk k w l) = if k = 0 then T0 else if k = 1 then .mk 1 (trimW w) (trimK (l.map norm)) else .mk k w (l.map norm) := by simp [norm]
@[simp] theorem norm_kind (t : T) : (norm t).kind = t.kind := by
  cases t; rw [norm_mk]; split
  · rename_i h; rw [h]; rfl
  · split
    · rename_i h; rw [h]; rfl
    · rfl
@[simp] theorem trimW_nil : trimW [] = [] := rfl
@[simp] theorem trimK_nil : trimK [] = [] := rfl
/-! ### how many words a tree takes -/
/- As the program counts it. -/
/-! ### which trees may be -/
def widthZ (c : Int) : Int := if c = 0 then 0 else if c = 1 then 1 else if c = 2 then 8 else if c = 3 then 16 else if c = 4 then 32 else if c = 5 then 64 else -1
/- No deeper, and no more parts: what is left. -/
/-! ### the program's size is the document's, of a right tree's Norm -/
end Go.PL

/-
  Plain: edits, which ones are right, their trees, and how many words they take.
-/
namespace Go.PL
set_option linter.unusedVariables false
set_option linter.unusedSimpArgs false
structure WE where
  at_ : Int
  mask : Int
  old : Int
  new : Int
mutual
inductive E where
  | mk (kind : Int) (old new : T) (words : List WE) (kids : List KE) (list : Int) (ops : List OP)
inductive KE where
  | mk (at_ : Int) (e : E)
inductive OP where
  | mk (kind n : Int) (l : List T) (e : E)
end
namespace E
def kind : E → Int | mk k _ _ _ _ _ _ => k
def old : E → T | mk _ o _ _ _ _ _ => o
def new : E → T | mk _ _ n _ _ _ _ => n
def words : E → List WE | mk _ _ _ w _ _ _ => w
def kids : E → List KE | mk _ _ _ _ k _ _ => k
def list : E → Int | mk _ _ _ _ _ l _ => l
def ops : E → List OP | mk _ _ _ _ _ _ o => o
variable {k l : Int} {o n : T} {w : List WE} {ks : List KE} {os : List OP}
@[simp] theorem kind_mk : (mk k o n w ks l os).kind = k := rfl
@[simp] theorem old_mk : (mk k o n w ks l os).old = o := rfl
@[simp] theorem new_mk : (mk k o n w ks l os).new = n := rfl
@[simp] theorem words_mk : (mk k o n w ks l os).words = w := rfl
@[simp] theorem kids_mk : (mk k o n w ks l os).kids = ks := rfl
@[simp] theorem list_mk : (mk k o n w ks l os).list = l := rfl
@[simp] theorem ops_mk : (mk k o n w ks l os).ops = os := rfl
end E
namespace KE
def at_ : KE → Int | mk a _ => a
def e : KE → E | mk _ e => e
@[simp] theorem at_mk {a : Int} {e : E} : (mk a e).at_ = a := rfl
@[simp] theorem e_mk {a : Int} {e : E} : (mk a e).e = e := rfl
end KE
namespace OP
def kind : OP → Int | mk k _ _ _ => k
def n : OP → Int | mk _ n _ _ => n
def l : OP → List T | mk _ _ l _ => l
def e : OP → E | mk _ _ _ e => e
variable {k m : Int} {t : List T} {x : E}
@[simp] theorem kind_mk : (mk k m t x).kind = k := rfl
@[simp] theorem n_mk : (mk k m t x).n = m := rfl
@[simp] theorem l_mk : (mk k m t x).l = t := rfl
@[simp] theorem e_mk : (mk k m t x).e = x := rfl
end OP
/-! ### which edits are right -/
/- How many parts are left behind an edit; below 0: it has more, or is deeper. -/
/-! ### the tree of an edit -/
/-! ### how many words an edit takes -/
end Go.PL

/-
  Trees and edits as the program's values.
-/
namespace Go.Proofs.Ytehcobkphobjiaa
set_option linter.unusedVariables false
set_option linter.unusedSimpArgs false
open Go Go.G Go.Proofs Go.PL
abbrev uws (l : List Int) : A := .sl false (l.map uv)
@[simp] theorem lens_iv (l : List Int) : lens 1 (l.map iv) = true := by simp [lens]
theorem lens_all {n : Nat} {l : List A} : lens n l = true ↔ ∀ x, x ∈ l → x.cells.length = n := by simp [lens]
@[simp] theorem lens_take {n k : Nat} {l : List A} (h : lens n l = true) : lens n (l.take k) = true := by
  rw [lens_all] at h ⊢
  exact fun x hx => h x (List.mem_of_mem_take hx)
@[simp] theorem lens_drop {n k : Nat} {l : List A} (h : lens n l = true) : lens n (l.drop k) = true := by
  rw [lens_all] at h ⊢
  exact fun x hx => h x (List.mem_of_mem_drop hx)
/-! ### sums, whatever is turned round -/
/-! ### sizes that memory has -/
def i64R (n : Int) : Prop := -9223372036854775808 ≤ n ∧ n < 9223372036854775808
def u64R (n : Int) : Prop := 0 ≤ n ∧ n < 18446744073709551616
def WE.wf (w : WE) : Prop := i64R w.at_ ∧ (0 ≤ w.mask ∧ w.mask < 256) ∧ u64R w.old ∧ u64R w.new
end Go.Proofs.Ytehcobkphobjiaa

/-
  The document's words: bytes, masks, small numbers.
-/
namespace Go.Proofs.Ytehcobkphobjiaa
set_option linter.unusedVariables false
set_option linter.unusedSimpArgs false
open Go Go.G Go.Proofs Go.PL
section
variable {n0 : Nat} {w0 : World} {I0 : Nat → Prop} {Q : Exit → Sta → Prop} {H : Hp}
end
section
variable {n0 : Nat} {w0 : World} {I0 : Nat → Prop} {Q : Exit → Sta → Prop} {H : Hp}
theorem rSame_l1 {a b : List Int} (hl : a.length = b.length) (hb : a.length * 8 ≤ 140737488355328) : ∀ (m i : Nat), i + m = a.length → a.take i = b.take i → (a = b → ∀ i q, Q (.exit 0) ⟨lk [(0, uws a), (1, uws b), (5, iv i), (14, bv q)], H⟩) → (a ≠ b → Q .ret ⟨lk [(4, bv false)], H⟩) →
    LoopC (cx Try.prog w0 I0 n0) l1_centoref01_Same Q ⟨lk [(0, uws a), (1, uws b), (5, iv i)], H⟩ := by
  intro m
  induction m with
  | zero =>
    intro i hi ht h1 h2
    have : i = a.length := by omega
    subst this
    refine loopC_once mixed l1_centoref01_Same.eq_1 ?_
    simp
    refine h1 ?_ _ _
    rw [List.take_of_length_le (Nat.le_refl _), List.take_of_length_le (by omega)] at ht
    exact ht
  | succ m ih =>
    intro i hi ht h1 h2
    have hlt : i < a.length := by omega
    have hlt' : i < b.length := by omega
    refine loopC_once mixed l1_centoref01_Same.eq_1 ?_
    simp [hlt, hlt']
    refine ⟨fun he => ?_, fun hne => h2 fun e => hne (by subst e; rfl)⟩
    rw [i64_same (by omega) (by omega)]
    refine ih (i + 1) (by omega) ?_ h1 h2
    rw [List.take_succ_eq_append_getElem hlt, List.take_succ_eq_append_getElem hlt', ht, he]
end
theorem rSame_spec (a b : List Int) (hb : a.length * 8 ≤ 140737488355328) : G.Spec Try.prog 43 [uws a, uws b] (bv (decide (a = b))) := by
  refine spec_of t_centoref01_Same (by simp) fun w0 I0 => ?_
  unfold c_centoref01_Same
  simp
  refine ⟨fun h => ?_, fun h => ?_⟩
  · refine rSame_l1 (by omega) hb a.length 0 (by omega) rfl (fun e i q => ?_) (fun e => ?_)
    · simp
      refine frz_bool ?_
      simp [e]
    · simp
      refine frz_bool ?_
      simp [e]
  · refine frz_bool ?_
    have : ¬ a = b := fun e => h (by rw [e])
    simp [this]
/-! ### the program's widths -/
/-! ### without noughts at the end -/
section
variable {n0 : Nat} {w0 : World} {I0 : Nat → Prop} {Q : Exit → Sta → Prop} {H : Hp}
end
/-! ### bytes -/
section
variable {n0 : Nat} {w0 : World} {I0 : Nat → Prop} {Q : Exit → Sta → Prop}
end
section
variable {n0 : Nat} {w0 : World} {I0 : Nat → Prop} {Q : Exit → Sta → Prop} {H : Hp}
end
section
variable {n0 : Nat} {w0 : World} {I0 : Nat → Prop} {Q : Exit → Sta → Prop} {H : Hp}
end
section
variable {n0 : Nat} {w0 : World} {I0 : Nat → Prop} {Q : Exit → Sta → Prop}
end
end Go.Proofs.Ytehcobkphobjiaa

/-
  Chapter 5: the law ArenaOf.
-/
namespace Go.Proofs.Ytehcobkphobjiaa
set_option linter.unusedVariables false
set_option linter.unusedSimpArgs false
open Go Go.G Go.Proofs
section
variable {n0 : Nat} {w0 : World} {I0 : Nat → Prop} {Q : Exit → Sta → Prop} {H : Hp}
theorem same03_l1 {a b : List (List Int)} (hl : a.length = b.length) (ha : a.length * 24 ≤ 140737488355328) (hb : ∀ x, x ∈ a → x.length * 8 ≤ 140737488355328) : ∀ (m i : Nat), i + m = a.length → a.take i = b.take i → (a = b → ∀ i q, Q (.exit 0) ⟨lk [(0, sgs a), (1, sgs b), (5, iv i), (14, bv q)], H⟩) → (a ≠ b → Q .ret ⟨lk [(4, bv false)], H⟩) →
    LoopC (cx Try.prog w0 I0 n0) l1_centoref03_Same Q ⟨lk [(0, sgs a), (1, sgs b), (5, iv i)], H⟩ := by
  intro m
  induction m with
  | zero =>
    intro i hi ht h1 h2
    have : i = a.length := by omega
    subst this
    refine loopC_once mixed l1_centoref03_Same.eq_1 ?_
    simp
    refine h1 ?_ _ _
    rw [List.take_of_length_le (Nat.le_refl _), List.take_of_length_le (by omega)] at ht
    exact ht
  | succ m ih =>
    intro i hi ht h1 h2
    have hlt : i < a.length := by omega
    have hlt' : i < b.length := by omega
    refine loopC_once mixed l1_centoref03_Same.eq_1 ?_
    simp [hlt, hlt']
    refine sc_call (rSame_spec a[i] b[i] (hb _ (List.getElem_mem hlt))) (by simp) ?_
    simp
    refine ⟨fun he => ?_, fun hne => h2 fun e => hne (by subst e; rfl)⟩
    rw [i64_same (by omega) (by omega)]
    refine ih (i + 1) (by omega) ?_ h1 h2
    rw [List.take_succ_eq_append_getElem hlt, List.take_succ_eq_append_getElem hlt', ht, he]
end
theorem same03_spec (a b : List (List Int)) (ha : a.length * 24 ≤ 140737488355328) (hb : ∀ x, x ∈ a → x.length * 8 ≤ 140737488355328) : G.Spec Try.prog 14 [sgs a, sgs b] (bv (decide (a = b))) := by
  refine spec_of t_centoref03_Same (by simp) fun w0 I0 => ?_
  unfold c_centoref03_Same
  simp
  refine ⟨fun h => ?_, fun h => ?_⟩
  · refine same03_l1 (by omega) ha hb a.length 0 (by omega) rfl (fun e i q => ?_) (fun e => ?_)
    · simp
      refine frz_bool ?_
      simp [e]
    · simp
      refine frz_bool ?_
      simp [e]
  · refine frz_bool ?_
    have : ¬ a = b := fun e => h (by rw [e])
    simp [this]
section
variable {n0 : Nat} {w0 : World} {I0 : Nat → Prop} {Q : Exit → Sta → Prop}
theorem own_l1 {l : List (List Int)} {s a n : Int} (hl : l.length * 24 ≤ 140737488355328) (hb : ∀ x, x ∈ l → x.length * 8 ≤ 140737488355328)
    (hq : ∀ (q : Bool) (es : List (Nat × List Int)) (u : Nat) (H : Hp), es.map Prod.snd = l → (∀ p, H (4 :: p) = rwF u es 4 p) → (∀ r p, 5 ≤ r → H (r :: p) = ⟨0, .none⟩) →
      Q (.exit 0) ⟨lk [(0, sgs l), (1, iv s), (2, iv a), (3, iv n), (9, .osl [4, 0] u 1 0 l.length), (10, iv l.length), (21, bv q)], H⟩) :
    ∀ (j i u : Nat) (es : List (Nat × List Int)) (H : Hp), i + j = l.length → es.map Prod.snd = l.take i → (∀ p, H (4 :: p) = rwF u es 4 p) → (∀ r p, 5 ≤ r → H (r :: p) = ⟨0, .none⟩) →
    LoopC (cx Try.prog w0 I0 n0) l1_centolaw05_ArenaOf Q ⟨lk [(0, sgs l), (1, iv s), (2, iv a), (3, iv n), (9, .osl [4, 0] u 1 0 i), (10, iv i)], H⟩ := by
  intro j
  induction j with
  | zero =>
    intro i u es H hi he h4 h5
    have : i = l.length := by omega
    subst this
    rw [List.take_of_length_le (Nat.le_refl _)] at he
    refine loopC_once mixed l1_centolaw05_ArenaOf.eq_1 ?_
    simp
    exact hq _ es u H he h4 h5
  | succ j ih =>
    intro i u es H hi he h4 h5
    have hlt : i < l.length := by omega
    have hel : es.length = i := by
      have := congrArg List.length he
      simp at this
      omega
    have hrow : H [4, 0] = ⟨u, .arr 1 (rowS 4 es)⟩ := by rw [h4]; simp
    have hx8 := hb _ (List.getElem_mem hlt)
    have ei : IntKind.i64.wrap ((i : Int) + 1) = ((i + 1 : Nat) : Int) := i64_same (by omega) (by omega)
    have htk : (rowS 4 es).take i = rowS 4 es := List.take_of_length_le (by simp; omega)
    refine loopC_once mixed l1_centolaw05_ArenaOf.eq_1 ?_
    have h24 : (i + 1) * 24 ≤ 140737488355328 := by omega
    simp [hlt, hrow, hx8, hel, h24, updF_app]
    rw [htk]
    have hnone : H [4, 0, i] = ⟨0, .none⟩ := by rw [h4]; simp [hel]
    refine stop_le (le_moveR (d := [0]) (d' := [4, 0, i]) (e := [4, 0]) (u := (H [0]).u + 1) (ue := u + 1) (sz := 1) (z := 1) (off := 0) (len := l[i].length) (xs := rowS 4 es) (by simp) (by simp) (by simp) (by simp [updF_app, hnone]) (by simp [updF_app]) rfl (by simp [updF_app])) (stop_go ?_)
    simp [ei]
    refine ih (i + 1) (u + 1) (es ++ [((H [0]).u + 1, l[i])]) _ (by omega) (by rw [List.map_append, he, List.take_succ_eq_append_getElem hlt]; rfl) (fun p => ?_) (fun r p hr => ?_)
    · by_cases h0 : p = [0]
      · subst h0
        rw [updF_self, rwF_row, rowS_append, hel]
      rw [updF_ne (by simpa using h0), updF_ne (by simp)]
      by_cases h1 : p = [0, i]
      · subst h1
        rw [updF_self, rwF_seg, List.getElem?_append_right (by omega), hel]
        simp [updF_app]
      rw [updF_ne (by simpa using h1), updF_ne (by simpa using h0), updF_ne (by simp), updF_ne (by simp), h4]
      match p, h0, h1 with
      | [], _, _ => rfl
      | [0], h0, _ => exact absurd rfl h0
      | [0, k], _, h1 =>
        have hk : k ≠ i := fun e => h1 (by rw [e])
        rw [rwF_seg, rwF_seg]
        by_cases hlt' : k < es.length
        · rw [List.getElem?_append_left hlt']
        · rw [List.getElem?_eq_none (by omega), List.getElem?_eq_none (by simp; omega)]
      | (a + 1) :: q, _, _ => rfl
      | 0 :: a :: b :: q, _, _ => rfl
    · rw [updF_ne (by intro e; cases e; omega), updF_ne (by intro e; cases e; omega), updF_ne (by intro e; cases e; omega), updF_ne (by intro e; cases e; omega), updF_ne (by intro e; cases e; omega), updF_ne (by intro e; cases e; omega)]
      exact h5 r p hr
end
section
variable {n0 : Nat} {w0 : World} {I0 : Nat → Prop}
theorem of_tail {l : List (List Int)} (hl : l.length * 24 ≤ 140737488355328) (hb : ∀ x, x ∈ l → x.length * 8 ≤ 140737488355328) {v : Nat} {s n : Int} {G : Hp} (g5 : ∀ p, G (5 :: p) = aoF v l 5 p) (g6 : ∀ p, G (6 :: p) = ⟨0, .none⟩) :
    WPC (cx Try.prog w0 I0 n0) k1_centolaw05_ArenaOf (RetC Try.prog [.tmp 8] (bv true)) ⟨lk [(0, sgs l), (1, iv s), (3, iv n), (11, .pob [5] 1 0)], G⟩ := by
  obtain ⟨x, y, v', l', hl', hG⟩ := Give_ao (v := v) hl hb n
  have hb' : ∀ x, x ∈ l' → x.length * 8 ≤ 140737488355328 := fun x hx => by
    rcases hl' x hx with h | rfl
    · exact hb x h
    · simp
  have hI := In_ao (v := v') hb' s n
  generalize hok : decide (0 ≤ s ∧ s < l'.length ∧ n = 0 ∧ Go.Proofs.Ytehcobkphobjiaa.szAt l' s = 0) = ok at hI
  have hok2 : (!ok || decide (n = 0)) = true := by
    rw [← hok]
    by_cases hn : n = 0 <;> simp [hn]
  unfold k1_centolaw05_ArenaOf
  simp
  refine sc_famN 5 6 (by decide) (Segs_ao (v := v) hl hb) g5 (fun p => by rw [g6]) (by simp) (by simp) ?_
  simp
  refine sc_callb [sgs l, sgs l] ((same03_spec l l hl hb).toB rfl) (by simp; exact ⟨frz_sgs (by simp) rfl, frz_bare rfl⟩) (by simp) ?_
  simp
  refine sc_fam 5 hG (fun p => by simp) (by simp) (by simp) ?_
  simp
  refine sc_fam 5 hI (fun p => by simp) (by simp) (by simp) ?_
  simp
  refine sc_callb_gt [arn l'] rfl (fun _ => (left_spec l' 0 0 0 (by omega) (by omega)).toB rfl) (fun e => by simp; exact frz_ao (v := v') (fun p => by simp)) (by simp) ?_
  simp [hok2]
  refine sc_call_gt rfl (fun _ => awake5_spec) (fun _ => rfl) rfl ?_
  simp
  exact frz_bare rfl
end
theorem ArenaOf_spec {l : List (List Int)} (hl : l.length * 24 ≤ 140737488355328) (hb : ∀ x, x ∈ l → x.length * 8 ≤ 140737488355328) (s a n : Int) : G.Spec Try.prog 3 [sgs l, iv s, iv a, iv n] (bv true) := by
  refine spec_of t_centolaw05_ArenaOf (by simp) fun w0 I0 => ?_
  unfold c_centolaw05_ArenaOf
  simp
  refine stop_le (le_blank 9 [4, 0] 1 (by simp)) ?_
  refine stop_le (le_list [(0, sgs l), (1, iv s), (2, iv a), (3, iv n), (9, .osl [4, 0] 1 1 0 0)] (by simp [upd])) (stop_go ?_)
  simp
  refine own_l1 hl hb (fun q es u H he h4 h5 => ?_) l.length 0 1 [] _ (by omega) rfl (fun p => ?_) (fun r p hr => ?_)
  rotate_left
  · match p with
    | [] => simp; rfl
    | [0] => simp [rowS]
    | [0, k] => simp
    | (a + 1) :: q => simp; rfl
    | 0 :: a :: b :: q => simp; rfl
  · have : ¬ 4 = r := by omega
    simp [this]
  simp
  subst he
  have hlen : (es.map Prod.snd).length = es.length := by simp
  rw [hlen] at hl ⊢
  have hbe : ∀ x, x ∈ es → x.2.length * 8 ≤ 140737488355328 := fun x hx => hb _ (List.mem_map_of_mem hx)
  refine sc_famN 4 5 (by decide) (Of_rw (u := u) hl hbe) h4 (fun p => by rw [h5 5 p (by omega)]) (by simp) (by simp) ?_
  simp
  have fin : ∀ G : Hp, (∀ p, G (5 :: p) = aoF (es.length + 1) (es.map Prod.snd) 5 p) → (∀ p, G (6 :: p) = ⟨0, .none⟩) → WPC (cx Try.prog w0 I0 113) k1_centolaw05_ArenaOf (RetC Try.prog [.tmp 8] (bv true)) ⟨lk [(0, sgs (es.map Prod.snd)), (1, iv s), (3, iv n), (11, .pob [5] 1 0)], G⟩ := fun G g5 g6 => of_tail (by rw [hlen]; exact hl) hb g5 g6
  have g6 : ∀ p, (ov 4 (rwF u es 4) (ov 5 (aoF (es.length + 1) (es.map Prod.snd) 5) H)) (6 :: p) = ⟨0, .none⟩ := fun p => by simp [h5]
  by_cases h1 : 0 ≤ s
  rotate_left
  · simp [h1]
    exact fin _ (fun p => by simp) g6
  by_cases h2 : s < (es.length : Int)
  rotate_left
  · simp [h1, h2]
    exact fin _ (fun p => by simp) g6
  obtain ⟨k, rfl⟩ := Int.eq_ofNat_of_zero_le h1
  have hk : k < es.length := by omega
  by_cases h3 : 0 ≤ a
  rotate_left
  · simp [hk, h3]
    exact fin _ (fun p => by simp) g6
  obtain ⟨b, rfl⟩ := Int.eq_ofNat_of_zero_le h3
  by_cases hb2 : b < es[k].2.length
  rotate_left
  · simp [hk, hb2]
    exact fin _ (fun p => by simp) g6
  · simp [hk, hb2]
    exact fin _ (fun p => by simp) (fun p => by simp [h5])
end Go.Proofs.Ytehcobkphobjiaa

/-
  Chapters 9 and 10, plain: values where they lie, and what they mean.
-/
namespace Go.Proofs.Ytehcobkphobjiaa
set_option linter.unusedVariables false
set_option linter.unusedSimpArgs false
open Go Go.G Go.Proofs Go.PL
/-- A value where it lies. -/
structure Rf where
  kind : Int
  s : Int
  at_ : Int
  data : Int
  kids : Int
  count : Int
  n : Int
def Rf.zero : Rf := ⟨0, 0, 0, 0, 0, 0, 0⟩
def nk (r : Rf) : Int := if r.kind = 1 then r.kids else r.count
def compP (l : List (List Int)) (s a m : Int) : Rf × Int :=
  if ((word l s a).getD 0 ≠ 0 ∧ (dec ((word l s a).getD 0)).kind ≠ 1) ∨ (dec ((word l s a).getD 0)).off < 0 ∨ m < (dec ((word l s a).getD 0)).off * ((dec ((word l s a).getD 0)).data + (dec ((word l s a).getD 0)).ptrs) then (Rf.zero, 8)
  else (⟨9, s, a + 1, (dec ((word l s a).getD 0)).data, (dec ((word l s a).getD 0)).ptrs, (dec ((word l s a).getD 0)).off, 0⟩, 0)
/-- What a shape at a place is. -/
def refP (l : List (List Int)) (x : Lc) : Rf × Int :=
  if x.p.kind = 1 then (⟨1, x.s, x.at_, x.p.data, x.p.ptrs, 0, 0⟩, 0)
  else if x.p.code < 7 then (⟨2 + x.p.code, x.s, x.at_, 0, 0, x.p.count, 0⟩, 0)
  else compP l x.s x.at_ x.p.count
def atP (l : List (List Int)) (s a : Int) : Rf × Int :=
  if (followP l s a).2 ≠ 0 ∨ (followP l s a).1.p.kind = 0 then (Rf.zero, (followP l s a).2) else refP l (followP l s a).1
def getZ (g : List Int) (c i : Int) : Int :=
  if widthZ c < 1 ∨ i < 0 ∨ 1099511627776 < i then 0 else ((g[(i * widthZ c / 64).toNat]?).getD 0) / 2 ^ (i * widthZ c % 64).toNat % 2 ^ (widthZ c).toNat
def atomZ (l : List (List Int)) (r : Rf) (i : Int) : Int := getZ (((seg l r.s).getD []).drop r.at_.toNat) (r.kind - 2) i
def kidP (l : List (List Int)) (r : Rf) (i : Int) : Rf × Int :=
  if i < 0 ∨ nk r ≤ i then (Rf.zero, 0)
  else if r.kind = 1 then atP l r.s (r.at_ + r.data + i)
  else if r.kind = 8 then atP l r.s (r.at_ + i)
  else if r.kind = 9 then (⟨1, r.s, r.at_ + i * (r.data + r.kids), r.data, r.kids, 0, 0⟩, 0)
  else (⟨10, 0, 0, 0, 0, 0, atomZ l r i⟩, 0)
def wordsR (l : List (List Int)) (r : Rf) : List Int := if r.kind = 10 then [r.n] else if r.kind ≠ 1 then [] else part l r.s r.at_ r.data
/-- It lies in its segment. -/
inductive RfOk (l : List (List Int)) : Rf → Prop
  | zero : RfOk l Rf.zero
  | str (s a d k : Int) : 0 ≤ d → d < 65536 → 0 ≤ k → k < 65536 → hasW l s a (d + k) = true → RfOk l ⟨1, s, a, d, k, 0, 0⟩
  | dat (c s a n : Int) : 0 ≤ c → c < 6 → 0 ≤ n → n < 536870912 → hasW l s a ((n * bitsOf c + 63) / 64) = true → RfOk l ⟨2 + c, s, a, 0, 0, n, 0⟩
  | ptrs (s a n : Int) : 0 ≤ n → n < 536870912 → hasW l s a n = true → RfOk l ⟨8, s, a, 0, 0, n, 0⟩
  | comp (s a d k n : Int) : 0 ≤ d → d < 65536 → 0 ≤ k → k < 65536 → 0 ≤ n → n < 536870912 → hasW l s a (n * (d + k)) = true → RfOk l ⟨9, s, a, d, k, n, 0⟩
  | atom (n : Int) : 0 ≤ n → n < 18446744073709551616 → RfOk l ⟨10, 0, 0, 0, 0, 0, n⟩
/-! ### what is followed lies in its segment -/
/-! ### what it means -/
inductive Means (l : List (List Int)) : Rf → T → Prop
  | mk (r : Rf) (t : T) : RfOk l r → r.kind = t.kind → wordsR l r = t.words → nk r = t.kids.length → (∀ (i : Nat) (h : i < t.kids.length), (kidP l r i).2 = 0) → (∀ (i : Nat) (h : i < t.kids.length), Means l (kidP l r i).1 t.kids[i]) → Means l r t
end Go.Proofs.Ytehcobkphobjiaa

/-
  Trees and edits as arguments, whatever the room of their slices; operations under a guard.
-/
namespace Go.Proofs.Ytehcobkphobjiaa
set_option linter.unusedVariables false
set_option linter.unusedSimpArgs false
open Go Go.G Go.Proofs Go.PL
@[simp] theorem GtG_shift {q : Bool} {n : Nat} {y : A} {K : A → Prop} : GtG q (A.shift n (gd q y)) K = GtG q (A.shift n y) K := GtG_same fun h => by rw [h]; rfl
/-! ### slices of any room -/
end Go.Proofs.Ytehcobkphobjiaa

/-
  Chapter 9: values are read where they lie, by the program.
-/
namespace Go.Proofs.Ytehcobkphobjiaa
set_option linter.unusedVariables false
set_option linter.unusedSimpArgs false
open Go Go.G Go.Proofs Go.PL
/-- Segments that memory can hold. -/
structure Sg (l : List (List Int)) : Prop where
  b : ∀ x, x ∈ l → x.length * 8 ≤ 140737488355328
  w : Wds l
def arO (l : List (List Int)) (r : Rf) : A := if r.kind = 0 then .v (.pointer none) else arn l
@[simp] theorem arO_cells (l : List (List Int)) (r : Rf) : (arO l r).cells = [arO l r] := by unfold arO; split <;> rfl
@[simp] theorem arO_one (l : List (List Int)) (r : Rf) : (arO l r).one = true := by unfold arO; split <;> rfl
@[simp] theorem arO_bare (l : List (List Int)) (r : Rf) : (arO l r).bare = true := by unfold arO; split <;> rfl
@[simp] theorem arO_bare1 (l : List (List Int)) (r : Rf) : (arO l r).bare1 = true := by unfold arO; split <;> rfl
@[simp] theorem arO_bare2 (l : List (List Int)) (r : Rf) : (arO l r).bare2 = true := by unfold arO; split <;> rfl
abbrev paL (l : List (List Int)) (r : Rf) : List A := [arO l r, iv r.kind, iv r.s, iv r.at_, iv r.data, iv r.kids, iv r.count, uv r.n]
/-! ### small numbers -/
/-! ### a value -/
end Go.Proofs.Ytehcobkphobjiaa

/-
  Chapter 15: each law, whatever its arguments hold.
-/
namespace Go.Proofs.Ytehcobkphobjiaa
set_option linter.unusedVariables false
set_option linter.unusedSimpArgs false
open Go Go.G Go.Proofs Go.RowKit
theorem lit15_i {m : Int} (h : (Lit.int .i64 m).wf = true) : -9223372036854775808 ≤ m ∧ m < 9223372036854775808 := by
  simp [Lit.wf, IntKind.min, IntKind.max, IntKind.bits, IntKind.signed] at h
  omega
theorem lit15_u {m : Int} (h : (Lit.int .u64 m).wf = true) : 0 ≤ m ∧ m < 18446744073709551616 := by
  simp [Lit.wf, IntKind.min, IntKind.max, IntKind.bits, IntKind.signed] at h
  omega
theorem und15_i : Try.prog.underlying 3 = some (.int .i64) := by kernel_rfl
theorem und15_u : Try.prog.underlying 26 = some (.int .u64) := by kernel_rfl
theorem und15_w : Try.prog.underlying 23 = some (.slice 26) := by kernel_rfl
theorem und15_s : Try.prog.underlying 22 = some (.slice 23) := by kernel_rfl
theorem byt15_u : Try.prog.bytesOf 26 = 8 := by kernel_rfl
theorem byt15_w : Try.prog.bytesOf 23 = 24 := by kernel_rfl
theorem has15_u64 {n : Nat} {b : List A} (h : Has Try.prog n 26 b) : ∃ m, 0 ≤ m ∧ m < 18446744073709551616 ∧ mk Try.prog 26 b = uv m := by
  cases n with
  | zero => exact h.elim
  | succ n =>
    simp only [Has, und15_u] at h
    obtain ⟨m, hm, rfl⟩ := h
    obtain ⟨h1, h2⟩ := lit15_u hm
    exact ⟨m, h1, h2, by simp [mk, und15_u]⟩
theorem list15_map {α : Type} {xs : List A} {g : α → A} {R : α → Prop} (h : ∀ x, x ∈ xs → ∃ y, R y ∧ x = g y) : ∃ l : List α, xs = l.map g ∧ ∀ y, y ∈ l → R y := by
  induction xs with
  | nil => exact ⟨[], rfl, fun y h => nomatch h⟩
  | cons x xs ih =>
    obtain ⟨y, hy, rfl⟩ := h x (by simp)
    obtain ⟨l, rfl, hl⟩ := ih fun z hz => h z (by simp [hz])
    refine ⟨y :: l, rfl, fun z hz => ?_⟩
    rcases List.mem_cons.1 hz with rfl | hz
    · exact hy
    · exact hl z hz
set_option maxRecDepth 100000 in
theorem has15_words {n : Nat} {b : List A} (h : Has Try.prog n 23 b) : ∃ f, ∃ l : List Int, mk Try.prog 23 b = .sl f (l.map uv) ∧ l.length * 8 ≤ 140737488355328 ∧ ∀ y, y ∈ l → 0 ≤ y ∧ y < 18446744073709551616 := by
  cases n with
  | zero => exact h.elim
  | succ n =>
    simp only [Has, und15_w] at h
    obtain ⟨f, xs, rfl, _, hz, hf, hx⟩ := h
    rw [byt15_u] at hz
    obtain ⟨l, rfl, hl⟩ := list15_map (g := uv) (R := fun y => 0 ≤ y ∧ y < 18446744073709551616) (xs := xs) fun x hx' => by
      obtain ⟨b, hb, rfl⟩ := hx x hx'
      obtain ⟨m, h0, h1, e⟩ := has15_u64 hb
      exact ⟨m, ⟨h0, h1⟩, e⟩
    exact ⟨f, l, by simp [mk, und15_w], by simp [reachBytes] at hz; omega, hl⟩
set_option maxRecDepth 100000 in
theorem has15_segs {n : Nat} {b : List A} (h : Has Try.prog n 22 b) : ∃ (f : Bool) (xs : List A) (l : List (List Int)), mk Try.prog 22 b = .sl f xs ∧ A.soft (.sl f xs) = sgs l ∧ l.length * 24 ≤ 140737488355328 ∧ Sg l := by
  cases n with
  | zero => exact h.elim
  | succ n =>
    simp only [Has, und15_s] at h
    obtain ⟨f, xs, rfl, _, hz, hf, hx⟩ := h
    rw [byt15_w] at hz
    obtain ⟨l, rfl, hl⟩ := list15_map (g := fun p : Bool × List Int => .sl p.1 (p.2.map uv)) (R := fun p => p.2.length * 8 ≤ 140737488355328 ∧ ∀ y, y ∈ p.2 → 0 ≤ y ∧ y < 18446744073709551616) (xs := xs) fun x hx' => by
      obtain ⟨b, hb, rfl⟩ := hx x hx'
      obtain ⟨f, l, e, h0, h1⟩ := has15_words hb
      exact ⟨(f, l), ⟨h0, h1⟩, e⟩
    have key : ∀ x, x ∈ l.map Prod.snd → x.length * 8 ≤ 140737488355328 ∧ ∀ y, y ∈ x → 0 ≤ y ∧ y < 18446744073709551616 := fun x hx => by
      obtain ⟨p, hp, rfl⟩ := List.mem_map.1 hx
      exact hl p hp
    refine ⟨f, l.map (fun p : Bool × List Int => .sl p.1 (p.2.map uv)), l.map Prod.snd, by simp [mk, und15_s], ?_, by simp [reachBytes] at hz; simpa using (by omega), ⟨fun x hx => (key x hx).1, fun x hx => (key x hx).2⟩⟩
    simp [A.soft, softL_map, Function.comp_def, sgs, ws]
end Go.Proofs.Ytehcobkphobjiaa

/-
  Chapter 15: the hash.
-/
namespace Go.Proofs.Ytehcobkphobjiaa
set_option linter.unusedVariables false
set_option linter.unusedSimpArgs false
open Go Go.G Go.Proofs Go.PL
def mixG (h x : Int) : Int := IntKind.u64.wrap (bits .xor .u64 h x * 1099511628211)
def mixH (h x : Int) : Int := bits .xor .u64 (mixG h x) (mixG h x / 2 ^ min 29 IntKind.u64.bits)
mutual
def hashN : T → Int
  | .mk k w l => hashL (w.foldl mixH (mixH (mixH 14695981039346656037 (IntKind.u64.wrap k)) (IntKind.u64.wrap w.length))) l
def hashL : Int → List T → Int
  | h, [] => h
  | h, t :: l => hashL (mixH h (hashN t)) l
end
end Go.Proofs.Ytehcobkphobjiaa

/-
  Chapter 16, plain: places that are hashed by hand.
-/
namespace Go.PL
set_option linter.unusedVariables false
set_option linter.unusedSimpArgs false
/-- Places of so many classes, by their numbers. -/
structure Pl (hs : List Nat) (pl : List Nat) : Prop where
  cnt : pl.countP (fun v => v != 0) = hs.length
  vals : ∀ v, v ∈ pl → v ≤ hs.length
  reach : ∀ (c : Nat) (hc : c < hs.length), ∃ d, pl[(hs[c] + d) % pl.length]? = some (c + 1) ∧ ∀ e, e < d → pl.getD ((hs[c] + e) % pl.length) 0 ≠ 0
theorem Pl.nil (m : Nat) : Pl [] (List.replicate m 0) := by
  refine ⟨?_, fun v hv => ?_, fun c hc => ?_⟩
  · simp [List.countP_replicate]
  · simp at hv; omega
  · simp at hc
end Go.PL

/-
  Chapter 16: tables of classes.
-/
namespace Go.Proofs.Ytehcobkphobjiaa
set_option linter.unusedVariables false
set_option linter.unusedSimpArgs false
open Go Go.G Go.Proofs Go.PL
/-- A class: its number of what it means; where its value lies, and what it means. -/
structure Cl where
  l : List (List Int)
  r : Rf
  t : T
noncomputable def Cl.h (c : Cl) : Int := hashN (norm c.t)
noncomputable def Cl.hn (c : Cl) : Nat := c.h.toNat
abbrev clL (h : Int) (l : List (List Int)) (r : Rf) : List A := uv h :: paL l r
noncomputable def Cl.a (c : Cl) : A := .agg (clL c.h c.l c.r)
/-- A table: versions, classes, places. -/
structure Tb where
  u : Nat
  uc : Nat
  up : Nat
  cl : List Cl
  pl : List Nat
structure Tb.Ok (S : Tb) : Prop where
  p8 : 8 ≤ S.pl.length
  half : 2 * S.cl.length ≤ S.pl.length
  most : S.pl.length ≤ 8 + 4 * S.cl.length
  pl : Pl (S.cl.map Cl.hn) S.pl
  means : ∀ c, c ∈ S.cl → Sg c.l ∧ Means c.l c.r c.t
  nd : (S.cl.map fun c => norm c.t).Nodup
noncomputable def Tb.ks (S : Tb) : List T := S.cl.map fun c => norm c.t
@[simp] theorem Tb.ks_length (S : Tb) : S.ks.length = S.cl.length := by simp [Tb.ks]
/-- But for its room. -/
structure Tb.Ok1 (S : Tb) : Prop where
  p8 : 8 ≤ S.pl.length
  half : 2 * S.cl.length ≤ S.pl.length + 2
  most : S.pl.length ≤ 8 + 4 * S.cl.length
  pl : Pl (S.cl.map Cl.hn) S.pl
  means : ∀ c, c ∈ S.cl → Sg c.l ∧ Means c.l c.r c.t
  nd : (S.cl.map fun c => norm c.t).Nodup
theorem Tb.Ok1.ok {S : Tb} (h : S.Ok1) (hf : ¬ S.pl.length < 2 * S.cl.length) : S.Ok := ⟨h.p8, by omega, h.most, h.pl, h.means, h.nd⟩
section
variable {n0 : Nat} {w0 : World} {I0 : Nat → Prop} {Q : Exit → Sta → Prop}
end
end Go.Proofs.Ytehcobkphobjiaa

/-
  Chapter 16: InternMany, whatever its arguments hold.
-/
namespace Go.Proofs.Ytehcobkphobjiaa
set_option linter.unusedVariables false
set_option linter.unusedSimpArgs false
open Go Go.G Go.Proofs Go.RowKit
theorem has16_i64 {n : Nat} {b : List A} (h : Has Try.prog n 3 b) : ∃ m, -9223372036854775808 ≤ m ∧ m < 9223372036854775808 ∧ mk Try.prog 3 b = iv m := by
  cases n with
  | zero => exact h.elim
  | succ n =>
    simp only [Has, und15_i] at h
    obtain ⟨m, hm, rfl⟩ := h
    obtain ⟨h1, h2⟩ := lit15_i hm
    exact ⟨m, h1, h2, by simp [mk, und15_i]⟩
end Go.Proofs.Ytehcobkphobjiaa

/-
  Chapter 5: ArenaOf, whatever its arguments hold.
-/
namespace Go.Proofs.Ytehcobkphobjiaa
set_option linter.unusedVariables false
set_option linter.unusedSimpArgs false
open Go Go.G Go.Proofs Go.RowKit
set_option maxRecDepth 100000 in
theorem said_arenaOf (xs : List A) (h : ArgsHas Try.prog Try.f3.params.toList xs) : G.Spec Try.prog 3 xs (.v (.bool true)) := by
  have h : ArgsHas Try.prog [22, 3, 3, 3] xs := h
  match xs, h with
  | [a, b, c, d], ⟨⟨n, x, h1, h2⟩, ⟨n2, x2, h12, h22⟩, ⟨n3, x3, h13, h23⟩, ⟨n4, x4, h14, h24⟩, _⟩ =>
    obtain ⟨f, xs, l, e, e', k1, k2⟩ := has15_segs h1
    obtain ⟨s, _, _, es⟩ := has16_i64 h12
    obtain ⟨t, _, _, et⟩ := has16_i64 h13
    obtain ⟨m, _, _, em⟩ := has16_i64 h14
    rw [h2, h22, h23, h24, e, es, et, em]
    exact (ArenaOf_spec k1 k2.b s t m).soft (by simp only [A.softL, e']; rfl)
end Go.Proofs.Ytehcobkphobjiaa
