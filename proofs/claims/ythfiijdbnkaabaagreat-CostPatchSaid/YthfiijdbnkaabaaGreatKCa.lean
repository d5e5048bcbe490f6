/-
  Texts, merged, without what is not reached.
-/
import Derived.Test.YthfiijdbnkaabaaGreatProg
import Derived.Test.YthfiijdbnkaabaaGreatGSimp
import Derived.KernelRfl
import Derived.Laws.BitsLemmas
import Derived.Laws.Bits64
import Derived.Laws.Bits64b
import Derived.Test.YthfiijdbnkaabaaGreatGLe
import Derived.Test.YthfiijdbnkaabaaGreatGCall2
import Derived.Test.YthfiijdbnkaabaaGreatGLo
import Derived.Test.YthfiijdbnkaabaaGreatGCall3
import Derived.Test.YthfiijdbnkaabaaGreatGFam
import Derived.Test.YthfiijdbnkaabaaGreatGMove
import Derived.Test.YthfiijdbnkaabaaGreatGOpen
/-
  The functions' text as data, and the facts on the types that they use: written by a program of ours (gen2.py) off the translation.
-/
namespace Go.Proofs.YthfiijdbnkaabaaGreat
set_option linter.unusedVariables false
set_option linter.unusedSimpArgs false
set_option maxRecDepth 20000
open Go Go.G Go.Proofs
theorem mixed : Tryz.prog.follows .mixedOrders = true := by kernel_rfl
@[simp] theorem und_3 : Tryz.prog.underlying 3 = some (.int .i64) := by kernel_rfl
@[simp] theorem und_21 : Tryz.prog.underlying 21 = some (.int .i32) := by kernel_rfl
@[simp] theorem und_60 : Tryz.prog.underlying 60 = some (.int .u64) := by kernel_rfl
@[simp] theorem und_175 : Tryz.prog.underlying 175 = some (.int .u32) := by kernel_rfl
@[simp] theorem szT_3 : szT Tryz.prog 3 = some 1 := by kernel_rfl
@[simp] theorem szT_4 : szT Tryz.prog 4 = some 1 := by kernel_rfl
@[simp] theorem szT_121 : szT Tryz.prog 121 = some 8 := by kernel_rfl
@[simp] theorem szT_139 : szT Tryz.prog 139 = some 8 := by kernel_rfl
@[simp] theorem aggT_3 : aggT Tryz.prog 3 = some false := by kernel_rfl
@[simp] theorem aggT_4 : aggT Tryz.prog 4 = some false := by kernel_rfl
@[simp] theorem aggT_121 : aggT Tryz.prog 121 = some true := by kernel_rfl
@[simp] theorem aggT_139 : aggT Tryz.prog 139 = some true := by kernel_rfl
@[simp] theorem zeroT_121 : zeroT Tryz.prog 121 = some (Value.agg #[Value.int IntKind.i64 0, Value.int IntKind.i64 0, Value.int IntKind.i64 0, Value.int IntKind.i64 0, Value.int IntKind.i64 0, Value.int IntKind.i64 0, Value.int IntKind.i64 0, Value.bool false]) := by kernel_rfl
@[simp] theorem zeroT_139 : zeroT Tryz.prog 139 = some (Value.agg #[Value.int IntKind.i64 0, Value.int IntKind.i64 0, Value.int IntKind.i64 0, Value.int IntKind.i64 0, Value.int IntKind.i64 0, Value.int IntKind.i64 0, Value.int IntKind.i64 0, Value.bool false]) := by kernel_rfl
@[simp] theorem fieldOffT_121_0 : fieldOffT Tryz.prog 121 0 = some 0 := by kernel_rfl
@[simp] theorem fieldOffT_121_1 : fieldOffT Tryz.prog 121 1 = some 1 := by kernel_rfl
@[simp] theorem fieldOffT_121_2 : fieldOffT Tryz.prog 121 2 = some 2 := by kernel_rfl
@[simp] theorem fieldOffT_121_3 : fieldOffT Tryz.prog 121 3 = some 3 := by kernel_rfl
@[simp] theorem fieldOffT_121_4 : fieldOffT Tryz.prog 121 4 = some 4 := by kernel_rfl
@[simp] theorem fieldOffT_121_5 : fieldOffT Tryz.prog 121 5 = some 5 := by kernel_rfl
@[simp] theorem fieldOffT_121_6 : fieldOffT Tryz.prog 121 6 = some 6 := by kernel_rfl
@[simp] theorem fieldOffT_121_7 : fieldOffT Tryz.prog 121 7 = some 7 := by kernel_rfl
@[simp] theorem buildA_121 (ps : List (Nat × A)) : buildA Tryz.prog 121 ps = (fillA (fun i => ([(0, 1), (1, 1), (2, 1), (3, 1), (4, 1), (5, 1), (6, 1), (7, 1)] : List (Nat × Nat))[i]?) [A.v (Value.int IntKind.i64 0), A.v (Value.int IntKind.i64 0), A.v (Value.int IntKind.i64 0), A.v (Value.int IntKind.i64 0), A.v (Value.int IntKind.i64 0), A.v (Value.int IntKind.i64 0), A.v (Value.int IntKind.i64 0), A.v (Value.bool false)] ps).map A.agg := by kernel_rfl
@[simp] theorem buildA_139 (ps : List (Nat × A)) : buildA Tryz.prog 139 ps = (fillA (fun i => ([(0, 1), (1, 1), (2, 1), (3, 1), (4, 1), (5, 1), (6, 1), (7, 1)] : List (Nat × Nat))[i]?) [A.v (Value.int IntKind.i64 0), A.v (Value.int IntKind.i64 0), A.v (Value.int IntKind.i64 0), A.v (Value.int IntKind.i64 0), A.v (Value.int IntKind.i64 0), A.v (Value.int IntKind.i64 0), A.v (Value.int IntKind.i64 0), A.v (Value.bool false)] ps).map A.agg := by kernel_rfl
@[simp] theorem eqA_121 (x0 y0 : Int) (x1 y1 : Int) (x2 y2 : Int) (x3 y3 : Int) (x4 y4 : Int) (x5 y5 : Int) (x6 y6 : Int) (x7 y7 : Bool) : eqA Tryz.prog 100 121 (.agg [A.v (.int .i64 x0), A.v (.int .i64 x1), A.v (.int .i64 x2), A.v (.int .i64 x3), A.v (.int .i64 x4), A.v (.int .i64 x5), A.v (.int .i64 x6), A.v (.bool x7)]) (.agg [A.v (.int .i64 y0), A.v (.int .i64 y1), A.v (.int .i64 y2), A.v (.int .i64 y3), A.v (.int .i64 y4), A.v (.int .i64 y5), A.v (.int .i64 y6), A.v (.bool y7)]) = some (((x0 == y0) && ((x1 == y1) && ((x2 == y2) && ((x3 == y3) && ((x4 == y4) && ((x5 == y5) && ((x6 == y6) && ((x7 == y7) && (true)))))))))) := by kernel_rfl
@[simp] theorem eqG_121 : Tryz.prog.eqGuardType Tryz.prog.depth 121 = false := by kernel_rfl
/-- cento/ptr.near -/
def c_ptr_near : CC :=
  .seq (.reg [co (some 2) (.assign (.const (.bool false))) none] [0])
  (.seq (.reg [co (some 3) (.move (.tmp 0)) none,
      co (some 4) (.binOp .geq 3 (.tmp 3) (.const (.int .i64 (-536870912))) 3) none,
      co (some 5) (.move (.tmp 4)) none,
      co (some 6) (.move (.tmp 0)) (some (5, true)),
      co (some 7) (.binOp .lss 3 (.tmp 6) (.const (.int .i64 536870912)) 3) (some (5, true)),
      co (some 8) (.pick (.tmp 5) (.tmp 7) (.const (.bool false))) none,
      co (some 2) (.assign (.tmp 8)) none] [2])
  (.ret))
theorem t_ptr_near : Txt Tryz.prog 151 9 [(.tmp 2)] c_ptr_near := txt_of (code := Tryz.f151.body.getD .ret) mixed (by kernel_rfl) Tryz.func151 (by kernel_rfl) Tryz.ntmps151 (by kernel_rfl) (ls := [([0], []), ([], []), ([2], []), ([], [])]) (by kernel_rfl)
/-- cento/ptr.within -/
def c_ptr_within : CC :=
  .seq (.reg [co (some 4) (.assign (.const (.bool false))) none] [0, 1])
  (.seq (.reg [co (some 5) (.move (.tmp 0)) none,
      co (some 6) (.binOp .geq 3 (.tmp 5) (.const (.int .i64 0)) 3) none,
      co (some 7) (.move (.tmp 6)) none,
      co (some 8) (.move (.tmp 0)) (some (7, true)),
      co (some 9) (.move (.tmp 1)) (some (7, true)),
      co (some 10) (.binOp .leq 3 (.tmp 8) (.tmp 9) 3) (some (7, true)),
      co (some 11) (.pick (.tmp 7) (.tmp 10) (.const (.bool false))) none,
      co (some 4) (.assign (.tmp 11)) none] [4])
  (.ret))
theorem t_ptr_within : Txt Tryz.prog 152 12 [(.tmp 4)] c_ptr_within := txt_of (code := Tryz.f152.body.getD .ret) mixed (by kernel_rfl) Tryz.func152 (by kernel_rfl) Tryz.ntmps152 (by kernel_rfl) (ls := [([0, 1], []), ([], []), ([4], []), ([], [])]) (by kernel_rfl)
/-- cento/ptr.low -/
def c_ptr_low : CC :=
  .seq (.reg [co (some 4) (.assign (.const (.int .u64 0))) none] [0, 1])
  (.seq (.reg [co (some 5) (.move (.tmp 0)) none,
      co (some 6) (.convert 3 175 (.tmp 5)) none,
      co (some 7) (.binOp .shl 175 (.tmp 6) (.const (.int .u64 2)) 168) none,
      co (some 8) (.move (.tmp 1)) none,
      co (some 9) (.convert 3 175 (.tmp 8)) none,
      co (some 10) (.binOp .or 175 (.tmp 7) (.tmp 9) 175) none,
      co (some 11) (.convert 175 60 (.tmp 10)) none,
      co (some 4) (.assign (.tmp 11)) none] [4])
  (.ret))
theorem t_ptr_low : Txt Tryz.prog 153 12 [(.tmp 4)] c_ptr_low := txt_of (code := Tryz.f153.body.getD .ret) mixed (by kernel_rfl) Tryz.func153 (by kernel_rfl) Tryz.ntmps153 (by kernel_rfl) (ls := [([0, 1], []), ([], []), ([4], []), ([], [])]) (by kernel_rfl)
/-- cento/ptr.Decode -/
def c_ptr_Decode : CC :=
  .seq (.reg [cn (some 2) (.alloc 121) none [0]] [0, 2])
  (.seq (.reg [co (some 4) (.move (.tmp 0)) none,
      co (some 5) (.convert 60 175 (.tmp 4)) none,
      co (some 6) (.convert 175 21 (.tmp 5)) none,
      co (some 7) (.convert 21 3 (.tmp 6)) none,
      co (some 8) (.binOp .shr 3 (.tmp 7) (.const (.int .u64 2)) 168) none,
      co (some 3) (.assign (.tmp 8)) none] [0, 2, 3])
  (.seq (.block 0
      (.seq (.reg [co (some 10) (.move (.tmp 0)) none,
          co (some 11) (.binOp .eql 60 (.tmp 10) (.const (.int .u64 0)) 60) none,
          co (some 9) (.assign (.tmp 11)) none] [0, 2, 3, 9])
      (.cond (.tmp 9)
        (.seq (.reg [co (some 12) (.build 121 #[]) none,
            co none (.store 121 (.tmp 2) (.tmp 12)) none] [2])
        (.ret))
        (.seq (.reg [co (some 14) (.move (.tmp 0)) none,
            co (some 15) (.binOp .and 60 (.tmp 14) (.const (.int .u64 3)) 60) none,
            co (some 16) (.binOp .eql 60 (.tmp 15) (.const (.int .u64 0)) 60) none,
            co (some 13) (.assign (.tmp 16)) none] [0, 2, 3, 13])
        (.cond (.tmp 13)
          (.seq (.reg [co (some 17) (.move (.tmp 3)) none,
              co (some 18) (.move (.tmp 0)) none,
              co (some 19) (.binOp .shr 60 (.tmp 18) (.const (.int .u64 32)) 168) none,
              co (some 20) (.binOp .and 60 (.tmp 19) (.const (.int .u64 65535)) 60) none,
              co (some 21) (.convert 60 3 (.tmp 20)) none,
              co (some 22) (.move (.tmp 0)) none,
              co (some 23) (.binOp .shr 60 (.tmp 22) (.const (.int .u64 48)) 168) none,
              co (some 24) (.convert 60 3 (.tmp 23)) none,
              co (some 25) (.build 121 #[(0, (.const (.int .i64 1))), (1, (.tmp 17)), (2, (.tmp 21)), (3, (.tmp 24))]) none,
              co none (.store 121 (.tmp 2) (.tmp 25)) none] [2])
          (.ret))
          (.seq (.reg [co (some 27) (.move (.tmp 0)) none,
              co (some 28) (.binOp .and 60 (.tmp 27) (.const (.int .u64 3)) 60) none,
              co (some 29) (.binOp .eql 60 (.tmp 28) (.const (.int .u64 1)) 60) none,
              co (some 26) (.assign (.tmp 29)) none] [0, 2, 3, 26])
          (.cond (.tmp 26)
            (.seq (.reg [co (some 30) (.move (.tmp 3)) none,
                co (some 31) (.move (.tmp 0)) none,
                co (some 32) (.binOp .shr 60 (.tmp 31) (.const (.int .u64 32)) 168) none,
                co (some 33) (.binOp .and 60 (.tmp 32) (.const (.int .u64 7)) 60) none,
                co (some 34) (.convert 60 3 (.tmp 33)) none,
                co (some 35) (.move (.tmp 0)) none,
                co (some 36) (.binOp .shr 60 (.tmp 35) (.const (.int .u64 35)) 168) none,
                co (some 37) (.convert 60 3 (.tmp 36)) none,
                co (some 38) (.build 121 #[(0, (.const (.int .i64 2))), (1, (.tmp 30)), (4, (.tmp 34)), (5, (.tmp 37))]) none,
                co none (.store 121 (.tmp 2) (.tmp 38)) none] [2])
            (.ret))
            (.seq (.reg [co (some 40) (.move (.tmp 0)) none,
                co (some 41) (.binOp .and 60 (.tmp 40) (.const (.int .u64 3)) 60) none,
                co (some 42) (.binOp .eql 60 (.tmp 41) (.const (.int .u64 2)) 60) none,
                co (some 39) (.assign (.tmp 42)) none] [0, 2, 39])
            (.cond (.tmp 39)
              (.seq (.reg [co (some 43) (.move (.tmp 0)) none,
                  co (some 44) (.binOp .shr 60 (.tmp 43) (.const (.int .u64 3)) 168) none,
                  co (some 45) (.binOp .and 60 (.tmp 44) (.const (.int .u64 536870911)) 60) none,
                  co (some 46) (.convert 60 3 (.tmp 45)) none,
                  co (some 47) (.move (.tmp 0)) none,
                  co (some 48) (.binOp .shr 60 (.tmp 47) (.const (.int .u64 32)) 168) none,
                  co (some 49) (.convert 60 3 (.tmp 48)) none,
                  co (some 50) (.move (.tmp 0)) none,
                  co (some 51) (.binOp .and 60 (.tmp 50) (.const (.int .u64 4)) 60) none,
                  co (some 52) (.binOp .neq 60 (.tmp 51) (.const (.int .u64 0)) 60) none,
                  co (some 53) (.build 121 #[(0, (.const (.int .i64 3))), (1, (.tmp 46)), (6, (.tmp 49)), (7, (.tmp 52))]) none,
                  co none (.store 121 (.tmp 2) (.tmp 53)) none] [2])
              (.ret))
              (.skip))))))))))
  (.keep [2] (.seq (.reg [co (some 54) (.build 121 #[(0, (.const (.int .i64 4)))]) none,
      co none (.store 121 (.tmp 2) (.tmp 54)) none] [2])
  (.ret)))))
theorem t_ptr_Decode : Txt Tryz.prog 154 55 [(.cell 2 121)] c_ptr_Decode := txt_of (code := Tryz.f154.body.getD .ret) mixed (by kernel_rfl) Tryz.func154 (by kernel_rfl) Tryz.ntmps154 (by kernel_rfl) (ls := [([0, 2], [(0, [0])]), ([], []), ([0, 2, 3], []), ([], []), ([0, 2, 3, 9], []), ([], []), ([2], []), ([], []), ([0, 2, 3, 13], []), ([], []), ([2], []), ([], []), ([0, 2, 3, 26], []), ([], []), ([2], []), ([], []), ([0, 2, 39], []), ([], []), ([2], []), ([], []), ([999999, 2], []), ([2], []), ([], [])]) (by kernel_rfl)
def k1_ptr_Encode : CC :=
  .seq (.reg [co (some 87) (.move (.tmp 4)) none,
      co (some 88) (.move (.tmp 4)) none,
      ⟨some 89, (.call { callee := (.value (.func 154)), args := #[(.tmp 88)], argTypes := #[60] }), none, [], 2, [], true⟩,
      ⟨some 90, (.load 121 (.tmp 1)), none, [], 3, [2], false⟩,
      co (some 91) (.binOp .eql 121 (.tmp 89) (.tmp 90) 121) none,
      co (some 92) (.move (.tmp 91)) none,
      co (some 93) (.fieldAddr 121 (.tmp 1) 0) (some (92, true)),
      co (some 94) (.load 3 (.tmp 93)) (some (92, true)),
      co (some 95) (.binOp .neq 3 (.tmp 94) (.const (.int .i64 4)) 3) (some (92, true)),
      co (some 96) (.pick (.tmp 92) (.tmp 95) (.const (.bool false))) none,
      co (some 2) (.assign (.tmp 87)) none,
      co (some 3) (.assign (.tmp 96)) none] [2, 3])
  (.ret)
/-- cento/ptr.Encode -/
def c_ptr_Encode : CC :=
  .seq (.reg [cn (some 1) (.box 121 (.tmp 0)) none [0],
      co (some 2) (.assign (.const (.int .u64 0))) none,
      co (some 3) (.assign (.const (.bool false))) none] [1])
  (.seq (.reg [co (some 4) (.assign (.const (.int .u64 0))) none] [1, 4])
  (.seq (.seq (.reg [co (some 5) (.fieldAddr 121 (.tmp 1) 0) none,
        co (some 6) (.load 3 (.tmp 5)) none] [1, 4, 6])
    (.block 0
      (.seq (.reg [co (some 8) (.binOp .eql 3 (.tmp 6) (.const (.int .i64 1)) 3) none,
          co (some 7) (.assign (.tmp 8)) none] [1, 4, 6, 7])
      (.cond (.tmp 7)
        (.seq (.reg [co (some 9) (.fieldAddr 121 (.tmp 1) 1) none,
            co (some 10) (.load 3 (.tmp 9)) none,
            co (some 11) (.call { callee := (.value (.func 151)), args := #[(.tmp 10)], argTypes := #[3] }) none,
            co (some 12) (.move (.tmp 11)) none,
            co (some 13) (.fieldAddr 121 (.tmp 1) 2) (some (12, true)),
            co (some 14) (.load 3 (.tmp 13)) (some (12, true)),
            co (some 15) (.call { callee := (.value (.func 152)), args := #[(.tmp 14), (.const (.int .i64 65535))], argTypes := #[3, 3] }) (some (12, true)),
            co (some 16) (.pick (.tmp 12) (.tmp 15) (.const (.bool false))) none,
            co (some 17) (.move (.tmp 16)) none,
            co (some 18) (.fieldAddr 121 (.tmp 1) 3) (some (17, true)),
            co (some 19) (.load 3 (.tmp 18)) (some (17, true)),
            co (some 20) (.call { callee := (.value (.func 152)), args := #[(.tmp 19), (.const (.int .i64 65535))], argTypes := #[3, 3] }) (some (17, true)),
            co (some 21) (.pick (.tmp 17) (.tmp 20) (.const (.bool false))) none] [1, 4, 21])
        (.cond (.tmp 21)
          (.reg [co (some 22) (.fieldAddr 121 (.tmp 1) 1) none,
            co (some 23) (.load 3 (.tmp 22)) none,
            ⟨some 24, (.call { callee := (.value (.func 153)), args := #[(.tmp 23), (.const (.int .i64 0))], argTypes := #[3, 3] }), none, [], 2, [], true⟩,
            co (some 25) (.fieldAddr 121 (.tmp 1) 2) none,
            ⟨some 26, (.load 3 (.tmp 25)), none, [], 4, [2], false⟩,
            co (some 27) (.convert 3 60 (.tmp 26)) none,
            co (some 28) (.binOp .shl 60 (.tmp 27) (.const (.int .u64 32)) 168) none,
            co (some 29) (.binOp .or 60 (.tmp 24) (.tmp 28) 60) none,
            co (some 30) (.fieldAddr 121 (.tmp 1) 3) none,
            ⟨some 31, (.load 3 (.tmp 30)), none, [], 9, [2], false⟩,
            co (some 32) (.convert 3 60 (.tmp 31)) none,
            co (some 33) (.binOp .shl 60 (.tmp 32) (.const (.int .u64 48)) 168) none,
            co (some 34) (.binOp .or 60 (.tmp 29) (.tmp 33) 60) none,
            co (some 4) (.assign (.tmp 34)) none] [1, 4])
          (.skip)))
        (.seq (.reg [co (some 36) (.binOp .eql 3 (.tmp 6) (.const (.int .i64 2)) 3) none,
            co (some 35) (.assign (.tmp 36)) none] [1, 4, 6, 35])
        (.cond (.tmp 35)
          (.seq (.reg [co (some 37) (.fieldAddr 121 (.tmp 1) 1) none,
              co (some 38) (.load 3 (.tmp 37)) none,
              co (some 39) (.call { callee := (.value (.func 151)), args := #[(.tmp 38)], argTypes := #[3] }) none,
              co (some 40) (.move (.tmp 39)) none,
              co (some 41) (.fieldAddr 121 (.tmp 1) 4) (some (40, true)),
              co (some 42) (.load 3 (.tmp 41)) (some (40, true)),
              co (some 43) (.call { callee := (.value (.func 152)), args := #[(.tmp 42), (.const (.int .i64 7))], argTypes := #[3, 3] }) (some (40, true)),
              co (some 44) (.pick (.tmp 40) (.tmp 43) (.const (.bool false))) none,
              co (some 45) (.move (.tmp 44)) none,
              co (some 46) (.fieldAddr 121 (.tmp 1) 5) (some (45, true)),
              co (some 47) (.load 3 (.tmp 46)) (some (45, true)),
              co (some 48) (.call { callee := (.value (.func 152)), args := #[(.tmp 47), (.const (.int .i64 536870911))], argTypes := #[3, 3] }) (some (45, true)),
              co (some 49) (.pick (.tmp 45) (.tmp 48) (.const (.bool false))) none] [1, 4, 49])
          (.cond (.tmp 49)
            (.reg [co (some 50) (.fieldAddr 121 (.tmp 1) 1) none,
              co (some 51) (.load 3 (.tmp 50)) none,
              ⟨some 52, (.call { callee := (.value (.func 153)), args := #[(.tmp 51), (.const (.int .i64 1))], argTypes := #[3, 3] }), none, [], 2, [], true⟩,
              co (some 53) (.fieldAddr 121 (.tmp 1) 4) none,
              ⟨some 54, (.load 3 (.tmp 53)), none, [], 4, [2], false⟩,
              co (some 55) (.convert 3 60 (.tmp 54)) none,
              co (some 56) (.binOp .shl 60 (.tmp 55) (.const (.int .u64 32)) 168) none,
              co (some 57) (.binOp .or 60 (.tmp 52) (.tmp 56) 60) none,
              co (some 58) (.fieldAddr 121 (.tmp 1) 5) none,
              ⟨some 59, (.load 3 (.tmp 58)), none, [], 9, [2], false⟩,
              co (some 60) (.convert 3 60 (.tmp 59)) none,
              co (some 61) (.binOp .shl 60 (.tmp 60) (.const (.int .u64 35)) 168) none,
              co (some 62) (.binOp .or 60 (.tmp 57) (.tmp 61) 60) none,
              co (some 4) (.assign (.tmp 62)) none] [1, 4])
            (.skip)))
          (.seq (.reg [co (some 64) (.binOp .eql 3 (.tmp 6) (.const (.int .i64 3)) 3) none,
              co (some 63) (.assign (.tmp 64)) none] [1, 4, 63])
          (.cond (.tmp 63)
            (.seq (.reg [co (some 65) (.fieldAddr 121 (.tmp 1) 1) none,
                co (some 66) (.load 3 (.tmp 65)) none,
                co (some 67) (.call { callee := (.value (.func 152)), args := #[(.tmp 66), (.const (.int .i64 536870911))], argTypes := #[3, 3] }) none,
                co (some 68) (.move (.tmp 67)) none,
                co (some 69) (.fieldAddr 121 (.tmp 1) 6) (some (68, true)),
                co (some 70) (.load 3 (.tmp 69)) (some (68, true)),
                co (some 71) (.call { callee := (.value (.func 152)), args := #[(.tmp 70), (.const (.int .i64 4294967295))], argTypes := #[3, 3] }) (some (68, true)),
                co (some 72) (.pick (.tmp 68) (.tmp 71) (.const (.bool false))) none] [1, 4, 72])
            (.cond (.tmp 72)
              (.seq (.reg [co (some 73) (.fieldAddr 121 (.tmp 1) 1) none,
                  co (some 74) (.load 3 (.tmp 73)) none,
                  co (some 75) (.convert 3 60 (.tmp 74)) none,
                  co (some 76) (.binOp .shl 60 (.tmp 75) (.const (.int .u64 3)) 168) none,
                  co (some 77) (.binOp .or 60 (.tmp 76) (.const (.int .u64 2)) 60) none,
                  co (some 78) (.fieldAddr 121 (.tmp 1) 6) none,
                  co (some 79) (.load 3 (.tmp 78)) none,
                  co (some 80) (.convert 3 60 (.tmp 79)) none,
                  co (some 81) (.binOp .shl 60 (.tmp 80) (.const (.int .u64 32)) 168) none,
                  co (some 82) (.binOp .or 60 (.tmp 77) (.tmp 81) 60) none,
                  co (some 4) (.assign (.tmp 82)) none] [1, 4])
              (.seq (.reg [co (some 83) (.fieldAddr 121 (.tmp 1) 7) none,
                  co (some 84) (.load 4 (.tmp 83)) none] [1, 4, 84])
              (.cond (.tmp 84)
                (.reg [co (some 85) (.move (.tmp 4)) none,
                  co (some 86) (.binOp .or 60 (.tmp 85) (.const (.int .u64 4)) 60) none,
                  co (some 4) (.assign (.tmp 86)) none] [1, 4])
                (.skip))))
              (.skip)))
            (.skip)))))))))
  (.keep [1, 4] k1_ptr_Encode)))
theorem t_ptr_Encode : Txt Tryz.prog 132 97 [(.tmp 2), (.tmp 3)] c_ptr_Encode := txt_of (code := Tryz.f132.body.getD .ret) mixed (by kernel_rfl) Tryz.func132 (by kernel_rfl) Tryz.ntmps132 (by kernel_rfl) (ls := [([1], [(0, [0])]), ([], []), ([1, 4], []), ([], []), ([1, 4, 6], []), ([], []), ([1, 4, 6, 7], []), ([], []), ([1, 4, 21], []), ([], []), ([1, 4], []), ([1, 4, 6, 35], []), ([], []), ([1, 4, 49], []), ([], []), ([1, 4], []), ([1, 4, 63], []), ([], []), ([1, 4, 72], []), ([], []), ([1, 4], []), ([], []), ([1, 4, 84], []), ([], []), ([1, 4], []), ([999999, 1, 4], []), ([2, 3], []), ([], [])]) (by kernel_rfl)
end Go.Proofs.YthfiijdbnkaabaaGreat

/-
  Chapter 4's functions: what each answers.
-/
namespace Go.Proofs.YthfiijdbnkaabaaGreat
set_option linter.unusedVariables false
set_option linter.unusedSimpArgs false
open Go Go.G Go.Proofs
abbrev iv (n : Int) : A := .v (.int .i64 n)
abbrev uv (n : Int) : A := .v (.int .u64 n)
abbrev bv (b : Bool) : A := .v (.bool b)
theorem near_spec (a : Int) : G.Spec Tryz.prog 151 [iv a] (bv (decide (-536870912 ≤ a) && decide (a < 536870912))) := by
  refine spec_of t_ptr_near (by simp) fun w0 I0 => ?_
  unfold c_ptr_near
  simp
  exact frz_bare rfl
theorem within_spec (a b : Int) : G.Spec Tryz.prog 152 [iv a, iv b] (bv (decide (0 ≤ a) && decide (a ≤ b))) := by
  refine spec_of t_ptr_within (by simp) fun w0 I0 => ?_
  unfold c_ptr_within
  simp
  exact frz_bare rfl
theorem pow_half (w : Int) (m : Nat) : w / 2 / 2 ^ m = w / 2 ^ (m + 1) := by
  rw [Int.ediv_ediv_of_nonneg (by decide), Int.pow_succ, Int.mul_comm]
theorem i64_same {n : Int} (h0 : -9223372036854775808 ≤ n) (h1 : n < 9223372036854775808) : IntKind.i64.wrap n = n := by rw [IntKind.wrap_i64]; omega
theorem u64_same {n : Int} (h0 : 0 ≤ n) (h1 : n < 18446744073709551616) : IntKind.u64.wrap n = n := by rw [IntKind.wrap_u64]; omega
/-- A pointer, as numbers. -/
structure Pt where
  (kind off data ptrs code count seg : Int)
  dbl : Bool
deriving DecidableEq
@[simp] def Pt.a (p : Pt) : A := .agg [iv p.kind, iv p.off, iv p.data, iv p.ptrs, iv p.code, iv p.count, iv p.seg, bv p.dbl]
/-- The offset in a word's lower half. -/
def offs (w : Int) : Int := if w / 4 % 1073741824 < 536870912 then w / 4 % 1073741824 else w / 4 % 1073741824 - 1073741824
/-- A word's pointer. -/
def dec (w : Int) : Pt :=
  if w = 0 then ⟨0, 0, 0, 0, 0, 0, 0, false⟩
  else if w % 4 = 0 then ⟨1, offs w, w / 4294967296 % 65536, w / 281474976710656, 0, 0, 0, false⟩
  else if w % 4 = 1 then ⟨2, offs w, 0, 0, w / 4294967296 % 8, w / 34359738368, 0, false⟩
  else if w % 4 = 2 then ⟨3, w / 8 % 536870912, 0, 0, 0, 0, w / 4294967296, decide (w / 4 % 2 = 1)⟩
  else ⟨4, 0, 0, 0, 0, 0, 0, false⟩
end Go.Proofs.YthfiijdbnkaabaaGreat

/-
  Chapter 4's functions: the program's own.
-/
namespace Go.Proofs.YthfiijdbnkaabaaGreat
set_option linter.unusedVariables false
set_option linter.unusedSimpArgs false
open Go Go.G Go.Proofs
theorem u64_mask (i : Nat) (hi : i ≤ 64) {x : Int} (h0 : 0 ≤ x) (h1 : x < 18446744073709551616) : bits .and .u64 x (2 ^ i - 1) = x % 2 ^ i :=
  bits_mask .u64 64 (by decide) (fun n a b => u64_same a b) i hi x h0 h1
theorem u64_or (i : Nat) {x y : Int} (hx0 : 0 ≤ x) (hx : x % 2 ^ i = 0) (hx1 : x < 18446744073709551616) (hy0 : 0 ≤ y) (hy : y < 2 ^ i) (hy1 : y < 18446744073709551616) : bits .or .u64 x y = x + y :=
  bits_join .u64 64 (by decide) (fun n a b => u64_same a b) i x y hx0 hx hx1 hy0 hy hy1
theorem u64_or' (i : Nat) {x y : Int} (hx0 : 0 ≤ x) (hx : x < 2 ^ i) (hx1 : x < 18446744073709551616) (hy0 : 0 ≤ y) (hy : y % 2 ^ i = 0) (hy1 : y < 18446744073709551616) : bits .or .u64 x y = x + y := by
  have : bits .or .u64 x y = bits .or .u64 y x := by simp only [bits, BitVec.or_comm]
  rw [this, u64_or i hy0 hy hy1 hx0 hx hx1, Int.add_comm]
theorem u64_and4 {x : Int} (h0 : 0 ≤ x) (h1 : x < 18446744073709551616) : (bits .and .u64 x 4 = 0) ↔ x / 4 % 2 = 0 := by
  obtain ⟨a, rfl⟩ := Int.eq_ofNat_of_zero_le h0
  have h2 := bits_and_u64_nat a 4 (by omega) (by omega)
  have h3 : bits .and .u64 (a : Int) 4 = ((a &&& 4 : Nat) : Int) := h2
  rw [h3]
  have h4 : a &&& 4 = 4 * (a / 4 % 2) := by
    have e : a &&& 4 = (a % 8) &&& 4 := by
      rw [show a % 8 = a &&& 7 from (Nat.and_two_pow_sub_one_eq_mod a 3).symm, Nat.and_assoc]; rfl
    have d : ∀ r, r < 8 → r &&& 4 = 4 * (r / 4 % 2) := by decide
    rw [e, d _ (by omega)]
    omega
  rw [h4]
  omega
theorem i32_shr2 {w : Int} : (IntKind.i32.wrap (IntKind.u32.wrap w)) / 4 = offs w := by
  rw [IntKind.wrap_i32, IntKind.wrap_u32, offs]
  split <;> omega
theorem Decode_spec {w : Int} (h0 : 0 ≤ w) (h1 : w < 18446744073709551616) : G.Spec Tryz.prog 154 [uv w] (dec w).a := by
  refine spec_of t_ptr_Decode (by simp) fun w0 I0 => ?_
  unfold c_ptr_Decode
  simp [convA_int]
  have e3 : bits .and .u64 w 3 = w % 4 := u64_mask 2 (by decide) h0 h1
  have e1 : IntKind.i64.wrap (bits .and .u64 (w / 2 ^ min 32 IntKind.u64.bits) 65535) = w / 4294967296 % 65536 := by
    rw [show w / 2 ^ min 32 IntKind.u64.bits = w / 4294967296 from rfl, show bits .and .u64 (w / 4294967296) 65535 = w / 4294967296 % 65536 from u64_mask 16 (by decide) (by omega) (by omega)]
    exact i64_same (by omega) (by omega)
  have e2 : IntKind.i64.wrap (w / 2 ^ min 48 IntKind.u64.bits) = w / 281474976710656 := by
    rw [show w / 2 ^ min 48 IntKind.u64.bits = w / 281474976710656 from rfl]
    exact i64_same (by omega) (by omega)
  have e4 : IntKind.i64.wrap (bits .and .u64 (w / 2 ^ min 32 IntKind.u64.bits) 7) = w / 4294967296 % 8 := by
    rw [show w / 2 ^ min 32 IntKind.u64.bits = w / 4294967296 from rfl, show bits .and .u64 (w / 4294967296) 7 = w / 4294967296 % 8 from u64_mask 3 (by decide) (by omega) (by omega)]
    exact i64_same (by omega) (by omega)
  have e5 : IntKind.i64.wrap (w / 2 ^ min 35 IntKind.u64.bits) = w / 34359738368 := by
    rw [show w / 2 ^ min 35 IntKind.u64.bits = w / 34359738368 from rfl]
    exact i64_same (by omega) (by omega)
  have e6 : IntKind.i64.wrap (bits .and .u64 (w / 2 ^ min 3 IntKind.u64.bits) 536870911) = w / 8 % 536870912 := by
    rw [show w / 2 ^ min 3 IntKind.u64.bits = w / 8 from rfl, show bits .and .u64 (w / 8) 536870911 = w / 8 % 536870912 from u64_mask 29 (by decide) (by omega) (by omega)]
    exact i64_same (by omega) (by omega)
  have e7 : IntKind.i64.wrap (w / 2 ^ min 32 IntKind.u64.bits) = w / 4294967296 := by
    rw [show w / 2 ^ min 32 IntKind.u64.bits = w / 4294967296 from rfl]
    exact i64_same (by omega) (by omega)
  have e8 : (!decide (bits .and .u64 w 4 = 0)) = decide (w / 4 % 2 = 1) := by
    have := u64_and4 h0 h1
    by_cases h : w / 4 % 2 = 1
    · rw [decide_eq_true h, decide_eq_false (by rw [this]; omega)]; rfl
    · rw [decide_eq_false h, decide_eq_true (by rw [this]; omega)]; rfl
  have e9 : IntKind.i64.wrap (IntKind.i32.wrap (IntKind.u32.wrap w)) / 2 ^ min 2 IntKind.i64.bits = offs w := by
    rw [← i32_shr2, IntKind.wrap_i32, i64_same (by omega) (by omega)]
    rfl
  rw [e1, e2, e3, e4, e5, e6, e7, e8, e9]
  refine ⟨fun h => ?_, fun h => ⟨fun h2 => ?_, fun h2 => ⟨fun h3 => ?_, fun h3 => ⟨fun h4 => ?_, fun h4 => ?_⟩⟩⟩⟩
  · subst h; exact frz_bare rfl
  · rw [show dec w = _ from (if_neg h).trans (if_pos h2)]; exact frz_bare rfl
  · rw [show dec w = _ from (if_neg h).trans ((if_neg h2).trans (if_pos h3))]; exact frz_bare rfl
  · rw [show dec w = _ from (if_neg h).trans ((if_neg h2).trans ((if_neg h3).trans (if_pos h4)))]; exact frz_bare rfl
  · rw [show dec w = _ from (if_neg h).trans ((if_neg h2).trans ((if_neg h3).trans (if_neg h4)))]; exact frz_bare rfl
theorem u64_or4 {x : Int} (h0 : 0 ≤ x) (h1 : x < 18446744073709551616) (h2 : x % 8 < 4) : bits .or .u64 x 4 = x + 4 := by
  obtain ⟨a, rfl⟩ := Int.eq_ofNat_of_zero_le h0
  have h3 : bits .or .u64 (a : Int) 4 = ((a ||| 4 : Nat) : Int) := bits_or_u64_nat a 4 (by omega) (by omega)
  rw [h3]
  have h4 : a = 2 ^ 3 * (a / 8) + a % 8 := by omega
  have h5 : a ||| 4 = a + 4 := by
    have e1 : 2 ^ 3 * (a / 8) + a % 8 = 2 ^ 3 * (a / 8) ||| a % 8 := Nat.two_pow_add_eq_or_of_lt (by omega) _
    have d : ∀ r, r < 4 → (r ||| 4) = r + 4 ∧ r ||| 4 < 8 := by decide
    obtain ⟨d1, d2⟩ := d (a % 8) (by omega)
    have e2 : 2 ^ 3 * (a / 8) + (a % 8 ||| 4) = 2 ^ 3 * (a / 8) ||| (a % 8 ||| 4) := Nat.two_pow_add_eq_or_of_lt (by omega) _
    have e3 : a ||| 4 = 2 ^ 3 * (a / 8) ||| (a % 8 ||| 4) := by rw [← Nat.or_assoc, ← e1, ← h4]
    rw [e3, ← e2, d1]
    omega
  rw [h5]
  rfl
theorem offs_in (w : Int) : -536870912 ≤ offs w ∧ offs w < 536870912 ∧ offs w * 4 % 4294967296 = w / 4 % 1073741824 * 4 := by
  unfold offs
  split <;> omega
theorem low_spec {a b : Int} (ha : -536870912 ≤ a) (ha1 : a < 536870912) (hb : 0 ≤ b) (hb1 : b < 4) : G.Spec Tryz.prog 153 [iv a, iv b] (uv (a * 4 % 4294967296 + b)) := by
  refine spec_of t_ptr_low (by simp) fun w0 I0 => ?_
  unfold c_ptr_low
  simp [convA_int]
  have e1 : IntKind.u32.wrap (IntKind.u32.wrap a * 2 ^ min 2 IntKind.u32.bits) = a * 4 % 4294967296 := by
    rw [show IntKind.u32.wrap a * 2 ^ min 2 IntKind.u32.bits = IntKind.u32.wrap a * 4 from rfl, IntKind.wrap_u32, IntKind.wrap_u32]
    omega
  have e2 : IntKind.u32.wrap b = b := by rw [IntKind.wrap_u32]; omega
  have e3 : bits .or .u32 (a * 4 % 4294967296) b = a * 4 % 4294967296 + b :=
    bits_join .u32 32 (by decide) (fun n h0 h1 => by rw [IntKind.wrap_u32]; omega) 2 _ _ (by omega) (by omega) (by omega) hb (by omega) (by omega)
  rw [e1, e2, e3, u64_same (by omega) (by omega)]
  exact frz_bare rfl
/-- A pointer's word, if there is one. -/
def encW (p : Pt) : Int :=
  if p.kind = 1 then if -536870912 ≤ p.off ∧ p.off < 536870912 ∧ 0 ≤ p.data ∧ p.data ≤ 65535 ∧ 0 ≤ p.ptrs ∧ p.ptrs ≤ 65535 then p.off * 4 % 4294967296 + p.data * 4294967296 + p.ptrs * 281474976710656 else 0
  else if p.kind = 2 then if -536870912 ≤ p.off ∧ p.off < 536870912 ∧ 0 ≤ p.code ∧ p.code ≤ 7 ∧ 0 ≤ p.count ∧ p.count ≤ 536870911 then p.off * 4 % 4294967296 + 1 + p.code * 4294967296 + p.count * 34359738368 else 0
  else if p.kind = 3 then if 0 ≤ p.off ∧ p.off ≤ 536870911 ∧ 0 ≤ p.seg ∧ p.seg ≤ 4294967295 then p.off * 8 + 2 + p.seg * 4294967296 + (if p.dbl = true then 4 else 0) else 0
  else 0
def encB (p : Pt) : Bool := decide (dec (encW p) = p) && !decide (p.kind = 4)
theorem pt_eq (q p : Pt) : (q.kind == p.kind && (q.off == p.off && (q.data == p.data && (q.ptrs == p.ptrs && (q.code == p.code && (q.count == p.count && (q.seg == p.seg && q.dbl == p.dbl))))))) = decide (q = p) := by
  obtain ⟨a1, a2, a3, a4, a5, a6, a7, a8⟩ := q
  obtain ⟨b1, b2, b3, b4, b5, b6, b7, b8⟩ := p
  rw [Bool.eq_iff_iff]
  simp
theorem encW_range (p : Pt) : 0 ≤ encW p ∧ encW p < 18446744073709551616 := by
  unfold encW
  repeat' split
  all_goals omega
/-- The end of it: is the word the pointer's? -/
theorem Encode_k1 {n : Nat} {w0 : World} {I0 : Nat → Prop} {p : Pt} {W : Int} (hW : W = encW p) : WPC (cx Tryz.prog w0 I0 n) k1_ptr_Encode (RetC Tryz.prog [.tmp 2, .tmp 3] (.tup [uv (encW p), bv (encB p)]))
    ⟨lk [(1, .pob [0] 1 0), (4, uv W), (93, .any), (94, .any), (95, .any)], lkH [([0], ⟨1, .cells [iv p.kind, iv p.off, iv p.data, iv p.ptrs, iv p.code, iv p.count, iv p.seg, bv p.dbl]⟩)]⟩ := by
  subst hW
  unfold k1_ptr_Encode
  simp
  refine sc_call (Decode_spec (encW_range p).1 (encW_range p).2) rfl ?_
  simp
  rw [pt_eq]
  exact frz_bare rfl
theorem u64_of_i64 {n : Int} (h0 : 0 ≤ n) (h1 : n < 18446744073709551616) (k : Nat) (h2 : n * 2 ^ k < 18446744073709551616) (hk : k ≤ 63) : IntKind.u64.wrap (IntKind.u64.wrap n * 2 ^ min k IntKind.u64.bits) = n * 2 ^ k := by
  have : (0 : Int) < 2 ^ k := Int.pow_pos (by decide)
  rw [show min k IntKind.u64.bits = k from by simp [IntKind.bits]; omega, u64_same h0 h1, u64_same (Int.mul_nonneg h0 (by omega)) h2]
theorem Encode_spec (p : Pt) : G.Spec Tryz.prog 132 [p.a] (.tup [uv (encW p), bv (encB p)]) := by
  refine spec_of t_ptr_Encode (by simp) fun w0 I0 => ?_
  unfold c_ptr_Encode
  simp
  refine ⟨fun h => ?_, fun h => ⟨fun h2 => ?_, fun h2 => ⟨fun h3 => ?_, fun h3 => ?_⟩⟩⟩
  · refine sc_call (near_spec _) rfl ?_
    simp
    refine sc_call_gt rfl (fun _ => within_spec p.data 65535) (fun e => by simp [e]) rfl ?_
    simp
    refine sc_call_gt rfl (fun _ => within_spec p.ptrs 65535) (fun e => by simp [e]) rfl ?_
    simp
    refine ⟨fun a1 a2 a3 a4 a5 a6 => ?_, fun hn => ?_⟩
    · refine sc_call (low_spec a1 a2 (by decide) (by decide)) rfl ?_
      try simp
      refine Encode_k1 ?_
      rw [u64_of_i64 a3 (by omega) 32 (by omega) (by decide), u64_of_i64 a5 (by omega) 48 (by omega) (by decide)]
      rw [show bits .or .u64 (p.off * 4 % 4294967296) (p.data * 2 ^ 32) = p.off * 4 % 4294967296 + p.data * 2 ^ 32 from u64_or' 32 (by omega) (by omega) (by omega) (by omega) (by omega) (by omega)]
      rw [show bits .or .u64 (p.off * 4 % 4294967296 + p.data * 2 ^ 32) (p.ptrs * 2 ^ 48) = p.off * 4 % 4294967296 + p.data * 2 ^ 32 + p.ptrs * 2 ^ 48 from u64_or' 48 (by omega) (by omega) (by omega) (by omega) (by omega) (by omega)]
      rw [encW, if_pos h, if_pos ⟨a1, a2, a3, a4, a5, a6⟩]
      rfl
    · refine Encode_k1 ?_
      rw [encW, if_pos h, if_neg (by omega)]
  · refine sc_call (near_spec _) rfl ?_
    simp
    refine sc_call_gt rfl (fun _ => within_spec p.code 7) (fun e => by simp [e]) rfl ?_
    simp
    refine sc_call_gt rfl (fun _ => within_spec p.count 536870911) (fun e => by simp [e]) rfl ?_
    simp
    refine ⟨fun a1 a2 a3 a4 a5 a6 => ?_, fun hn => ?_⟩
    · refine sc_call (low_spec a1 a2 (by decide) (by decide)) rfl ?_
      try simp
      refine Encode_k1 ?_
      rw [u64_of_i64 a3 (by omega) 32 (by omega) (by decide), u64_of_i64 a5 (by omega) 35 (by omega) (by decide)]
      rw [show bits .or .u64 (p.off * 4 % 4294967296 + 1) (p.code * 2 ^ 32) = p.off * 4 % 4294967296 + 1 + p.code * 2 ^ 32 from u64_or' 32 (by omega) (by omega) (by omega) (by omega) (by omega) (by omega)]
      rw [show bits .or .u64 (p.off * 4 % 4294967296 + 1 + p.code * 2 ^ 32) (p.count * 2 ^ 35) = p.off * 4 % 4294967296 + 1 + p.code * 2 ^ 32 + p.count * 2 ^ 35 from u64_or' 35 (by omega) (by omega) (by omega) (by omega) (by omega) (by omega)]
      rw [encW, if_neg h, if_pos h2, if_pos ⟨a1, a2, a3, a4, a5, a6⟩]
      rfl
    · refine Encode_k1 ?_
      rw [encW, if_neg h, if_pos h2, if_neg (by omega)]
  · refine sc_call (within_spec _ 536870911) rfl ?_
    simp
    refine sc_call_gt rfl (fun _ => within_spec p.seg 4294967295) (fun e => by simp [e]) rfl ?_
    simp
    refine ⟨fun a1 a2 a3 a4 => ?_, fun hn => ?_⟩
    · try simp
      rw [u64_of_i64 a1 (by omega) 3 (by omega) (by decide), u64_of_i64 a3 (by omega) 32 (by omega) (by decide)]
      rw [show bits .or .u64 (p.off * 2 ^ 3) 2 = p.off * 2 ^ 3 + 2 from u64_or 3 (by omega) (by omega) (by omega) (by omega) (by omega) (by omega)]
      rw [show bits .or .u64 (p.off * 2 ^ 3 + 2) (p.seg * 2 ^ 32) = p.off * 2 ^ 3 + 2 + p.seg * 2 ^ 32 from u64_or' 32 (by omega) (by omega) (by omega) (by omega) (by omega) (by omega)]
      rw [u64_or4 (by omega) (by omega) (by omega)]
      have e : encW p = p.off * 8 + 2 + p.seg * 4294967296 + (if p.dbl = true then 4 else 0) := by
        rw [encW, if_neg h, if_neg h2, if_pos h3, if_pos ⟨a1, a2, a3, a4⟩]
      cases hd : p.dbl with
      | true =>
        rw [hd] at e
        simp
        have := Encode_k1 (n := 97) (w0 := w0) (I0 := I0) (p := p) (W := p.off * 2 ^ 3 + 2 + p.seg * 2 ^ 32 + 4) (by rw [e]; rfl)
        rw [hd] at this
        exact this
      | false =>
        rw [hd] at e
        simp
        have := Encode_k1 (n := 97) (w0 := w0) (I0 := I0) (p := p) (W := p.off * 2 ^ 3 + 2 + p.seg * 2 ^ 32) (by rw [e]; simp)
        rw [hd] at this
        exact this
    · refine Encode_k1 ?_
      rw [encW, if_neg h, if_neg h2, if_pos h3, if_neg (by omega)]
  · refine Encode_k1 ?_
    rw [encW, if_neg h, if_neg h2, if_neg h3]
end Go.Proofs.YthfiijdbnkaabaaGreat

/-
  The functions' text as data, and the facts on the types that they use: written by a program of ours (gen2.py) off the translation.
-/
namespace Go.Proofs.YthfiijdbnkaabaaGreat
set_option linter.unusedVariables false
set_option linter.unusedSimpArgs false
set_option maxRecDepth 20000
open Go Go.G Go.Proofs
@[simp] theorem und_5 : Tryz.prog.underlying 5 = some (.int .u8) := by kernel_rfl
@[simp] theorem und_22 : Tryz.prog.underlying 22 = some (.slice 60) := by kernel_rfl
@[simp] theorem und_129 : Tryz.prog.underlying 129 = some (.array 8 5) := by kernel_rfl
@[simp] theorem und_133 : Tryz.prog.underlying 133 = some (.slice 5) := by kernel_rfl
@[simp] theorem und_170 : Tryz.prog.underlying 170 = some (.array 6 3) := by kernel_rfl
@[simp] theorem szT_5 : szT Tryz.prog 5 = some 1 := by kernel_rfl
@[simp] theorem szT_60 : szT Tryz.prog 60 = some 1 := by kernel_rfl
@[simp] theorem szT_129 : szT Tryz.prog 129 = some 8 := by kernel_rfl
@[simp] theorem szT_170 : szT Tryz.prog 170 = some 6 := by kernel_rfl
@[simp] theorem aggT_5 : aggT Tryz.prog 5 = some false := by kernel_rfl
@[simp] theorem aggT_60 : aggT Tryz.prog 60 = some false := by kernel_rfl
@[simp] theorem aggT_129 : aggT Tryz.prog 129 = some true := by kernel_rfl
@[simp] theorem zeroT_60 : zeroT Tryz.prog 60 = some (Value.int IntKind.u64 0) := by kernel_rfl
@[simp] theorem zeroT_129 : zeroT Tryz.prog 129 = some (Value.agg #[Value.int IntKind.u8 0, Value.int IntKind.u8 0, Value.int IntKind.u8 0, Value.int IntKind.u8 0, Value.int IntKind.u8 0, Value.int IntKind.u8 0, Value.int IntKind.u8 0, Value.int IntKind.u8 0]) := by kernel_rfl
@[simp] theorem zeroT_170 : zeroT Tryz.prog 170 = some (Value.agg #[Value.int IntKind.i64 0, Value.int IntKind.i64 0, Value.int IntKind.i64 0, Value.int IntKind.i64 0, Value.int IntKind.i64 0, Value.int IntKind.i64 0]) := by kernel_rfl
@[simp] theorem bytesT_60 : bytesT Tryz.prog 60 = some 8 := by kernel_rfl
@[simp] theorem buildA_129 (ps : List (Nat × A)) : buildA Tryz.prog 129 ps = (fillA (fun i => some (i * 1, 1)) [A.v (Value.int IntKind.u8 0), A.v (Value.int IntKind.u8 0), A.v (Value.int IntKind.u8 0), A.v (Value.int IntKind.u8 0), A.v (Value.int IntKind.u8 0), A.v (Value.int IntKind.u8 0), A.v (Value.int IntKind.u8 0), A.v (Value.int IntKind.u8 0)] ps).map A.agg := by kernel_rfl
@[simp] theorem buildA_170 (ps : List (Nat × A)) : buildA Tryz.prog 170 ps = (fillA (fun i => some (i * 1, 1)) [A.v (Value.int IntKind.i64 0), A.v (Value.int IntKind.i64 0), A.v (Value.int IntKind.i64 0), A.v (Value.int IntKind.i64 0), A.v (Value.int IntKind.i64 0), A.v (Value.int IntKind.i64 0)] ps).map A.agg := by kernel_rfl
/-- cento/centoref01.Width -/
def c_centoref01_Width : CC :=
  .seq (.reg [co (some 2) (.assign (.const (.int .i64 0))) none] [0])
  (.seq (.seq (.reg [co (some 3) (.move (.tmp 0)) none] [3])
    (.block 0
      (.seq (.reg [co (some 5) (.binOp .eql 3 (.tmp 3) (.const (.int .i64 0)) 3) none,
          co (some 4) (.assign (.tmp 5)) none] [3, 4])
      (.cond (.tmp 4)
        (.seq (.reg [co (some 2) (.assign (.const (.int .i64 0))) none] [2])
        (.ret))
        (.seq (.reg [co (some 7) (.binOp .eql 3 (.tmp 3) (.const (.int .i64 1)) 3) none,
            co (some 6) (.assign (.tmp 7)) none] [3, 6])
        (.cond (.tmp 6)
          (.seq (.reg [co (some 2) (.assign (.const (.int .i64 1))) none] [2])
          (.ret))
          (.seq (.reg [co (some 9) (.binOp .eql 3 (.tmp 3) (.const (.int .i64 2)) 3) none,
              co (some 8) (.assign (.tmp 9)) none] [3, 8])
          (.cond (.tmp 8)
            (.seq (.reg [co (some 2) (.assign (.const (.int .i64 8))) none] [2])
            (.ret))
            (.seq (.reg [co (some 11) (.binOp .eql 3 (.tmp 3) (.const (.int .i64 3)) 3) none,
                co (some 10) (.assign (.tmp 11)) none] [3, 10])
            (.cond (.tmp 10)
              (.seq (.reg [co (some 2) (.assign (.const (.int .i64 16))) none] [2])
              (.ret))
              (.seq (.reg [co (some 13) (.binOp .eql 3 (.tmp 3) (.const (.int .i64 4)) 3) none,
                  co (some 12) (.assign (.tmp 13)) none] [3, 12])
              (.cond (.tmp 12)
                (.seq (.reg [co (some 2) (.assign (.const (.int .i64 32))) none] [2])
                (.ret))
                (.seq (.reg [co (some 15) (.binOp .eql 3 (.tmp 3) (.const (.int .i64 5)) 3) none,
                    co (some 14) (.assign (.tmp 15)) none] [14])
                (.cond (.tmp 14)
                  (.seq (.reg [co (some 2) (.assign (.const (.int .i64 64))) none] [2])
                  (.ret))
                  (.skip)))))))))))))))
  (.keep [] (.seq (.reg [co (some 2) (.assign (.const (.int .i64 (-1)))) none] [2])
  (.ret))))
theorem t_centoref01_Width : Txt Tryz.prog 75 16 [(.tmp 2)] c_centoref01_Width := txt_of (code := Tryz.f75.body.getD .ret) mixed (by kernel_rfl) Tryz.func75 (by kernel_rfl) Tryz.ntmps75 (by kernel_rfl) (ls := [([0], []), ([], []), ([3], []), ([], []), ([3, 4], []), ([], []), ([2], []), ([], []), ([3, 6], []), ([], []), ([2], []), ([], []), ([3, 8], []), ([], []), ([2], []), ([], []), ([3, 10], []), ([], []), ([2], []), ([], []), ([3, 12], []), ([], []), ([2], []), ([], []), ([14], []), ([], []), ([2], []), ([], []), ([999999], []), ([2], []), ([], [])]) (by kernel_rfl)
def l1_centoref01_Fits : CC :=
  .seq (.seq (.reg [co (some 11) (.move (.tmp 6)) none,
        co (some 12) (.move (.tmp 5)) none,
        co (some 13) (.binOp .lss 3 (.tmp 11) (.tmp 12) 3) none] [1, 5, 6, 13])
    (.cond (.tmp 13)
      (.skip)
      (.exit 0)))
  (.keep [1, 5, 6] (.seq (.block 1
      (.reg [co (some 16) (.move (.tmp 1)) none,
        co (some 17) (.binOp .quo 60 (.tmp 16) (.const (.int .u64 2)) 60) none,
        co (some 1) (.assign (.tmp 17)) none] [1, 5, 6]))
  (.reg [co (some 14) (.move (.tmp 6)) none,
    co (some 15) (.binOp .add 3 (.tmp 14) (.const (.int .i64 1)) 3) none,
    co (some 6) (.assign (.tmp 15)) none] [1, 5, 6])))
/-- cento/centoref01.Fits -/
def c_centoref01_Fits : CC :=
  .seq (.reg [co (some 4) (.assign (.const (.bool false))) none] [0, 1])
  (.seq (.reg [co (some 7) (.move (.tmp 0)) none,
      co (some 8) (.call { callee := (.value (.func 75)), args := #[(.tmp 7)], argTypes := #[3] }) none,
      co (some 5) (.assign (.tmp 8)) none] [1, 5])
  (.seq (.seq (.reg [co (some 9) (.move (.tmp 5)) none,
        co (some 10) (.binOp .lss 3 (.tmp 9) (.const (.int .i64 0)) 3) none] [1, 5, 10])
    (.cond (.tmp 10)
      (.seq (.reg [co (some 4) (.assign (.const (.bool false))) none] [4])
      (.ret))
      (.skip)))
  (.keep [1, 5] (.seq (.seq (.reg [co (some 6) (.assign (.const (.int .i64 0))) none] [1, 5, 6])
    (.block 0
      (.loop l1_centoref01_Fits)))
  (.keep [1] (.seq (.reg [co (some 18) (.move (.tmp 1)) none,
      co (some 19) (.binOp .eql 60 (.tmp 18) (.const (.int .u64 0)) 60) none,
      co (some 4) (.assign (.tmp 19)) none] [4])
  (.ret)))))))
theorem t_centoref01_Fits : Txt Tryz.prog 42 20 [(.tmp 4)] c_centoref01_Fits := txt_of (code := Tryz.f42.body.getD .ret) mixed (by kernel_rfl) Tryz.func42 (by kernel_rfl) Tryz.ntmps42 (by kernel_rfl) (ls := [([0, 1], []), ([], []), ([1, 5], []), ([], []), ([1, 5, 10], []), ([], []), ([4], []), ([], []), ([999999, 1, 5], []), ([1, 5, 6], []), ([], []), ([1, 5, 6, 13], []), ([], []), ([999999, 1, 5, 6], []), ([1, 5, 6], []), ([], []), ([1, 5, 6], []), ([999999, 1], []), ([4], []), ([], [])]) (by kernel_rfl)
def l1_centoref01_Bytes : CC :=
  .seq (.seq (.reg [co (some 6) (.move (.tmp 4)) none,
        co (some 7) (.binOp .lss 3 (.tmp 6) (.const (.int .i64 8)) 3) none] [0, 2, 3, 4, 7])
    (.cond (.tmp 7)
      (.skip)
      (.exit 0)))
  (.keep [0, 2, 3, 4] (.seq (.block 1
      (.seq (.reg [co (some 10) (.move (.tmp 4)) none,
          co (some 11) (.move (.tmp 0)) none,
          co (some 12) (.binOp .rem 60 (.tmp 11) (.const (.int .u64 256)) 60) none,
          co (some 13) (.convert 60 5 (.tmp 12)) none,
          co (some 14) (.indexAddr 129 (.tmp 3) (.tmp 10)) none,
          co none (.store 5 (.tmp 14) (.tmp 13)) none] [0, 2, 3, 4])
      (.reg [co (some 15) (.move (.tmp 0)) none,
        co (some 16) (.binOp .quo 60 (.tmp 15) (.const (.int .u64 256)) 60) none,
        co (some 0) (.assign (.tmp 16)) none] [0, 2, 3, 4])))
  (.reg [co (some 8) (.move (.tmp 4)) none,
    co (some 9) (.binOp .add 3 (.tmp 8) (.const (.int .i64 1)) 3) none,
    co (some 4) (.assign (.tmp 9)) none] [0, 2, 3, 4])))
/-- cento/centoref01.Bytes -/
def c_centoref01_Bytes : CC :=
  .seq (.reg [cn (some 2) (.alloc 129) none [0]] [0, 2])
  (.seq (.reg [co (some 5) (.build 129 #[]) none,
      cn (some 3) (.alloc 129) none [1],
      co none (.store 129 (.tmp 3) (.tmp 5)) none] [0, 2, 3])
  (.seq (.seq (.reg [co (some 4) (.assign (.const (.int .i64 0))) none] [0, 2, 3, 4])
    (.block 0
      (.loop l1_centoref01_Bytes)))
  (.keep [2, 3] (.seq (.reg [co (some 17) (.load 129 (.tmp 3)) none,
      co none (.store 129 (.tmp 2) (.tmp 17)) none] [2])
  (.ret)))))
theorem t_centoref01_Bytes : Txt Tryz.prog 108 18 [(.cell 2 129)] c_centoref01_Bytes := txt_of (code := Tryz.f108.body.getD .ret) mixed (by kernel_rfl) Tryz.func108 (by kernel_rfl) Tryz.ntmps108 (by kernel_rfl) (ls := [([0, 2], [(0, [0])]), ([], []), ([0, 2, 3], [(1, [1])]), ([], []), ([0, 2, 3, 4], []), ([], []), ([0, 2, 3, 4, 7], []), ([], []), ([999999, 0, 2, 3, 4], []), ([0, 2, 3, 4], []), ([], []), ([0, 2, 3, 4], []), ([], []), ([0, 2, 3, 4], []), ([999999, 2, 3], []), ([2], []), ([], [])]) (by kernel_rfl)
def l1_centoref01_Named : CC :=
  .seq (.seq (.reg [co (some 6) (.move (.tmp 5)) none,
        co (some 7) (.move (.tmp 1)) none,
        co (some 8) (.binOp .lss 3 (.tmp 6) (.tmp 7) 3) none] [0, 1, 5, 8])
    (.cond (.tmp 8)
      (.skip)
      (.exit 0)))
  (.keep [0, 1, 5] (.seq (.block 1
      (.reg [co (some 11) (.move (.tmp 0)) none,
        co (some 12) (.binOp .quo 5 (.tmp 11) (.const (.int .u8 2)) 5) none,
        co (some 0) (.assign (.tmp 12)) none] [0, 1, 5]))
  (.reg [co (some 9) (.move (.tmp 5)) none,
    co (some 10) (.binOp .add 3 (.tmp 9) (.const (.int .i64 1)) 3) none,
    co (some 5) (.assign (.tmp 10)) none] [0, 1, 5])))
/-- cento/centoref01.Named -/
def c_centoref01_Named : CC :=
  .seq (.reg [co (some 4) (.assign (.const (.bool false))) none] [0, 1])
  (.seq (.seq (.reg [co (some 5) (.assign (.const (.int .i64 0))) none] [0, 1, 5])
    (.block 0
      (.loop l1_centoref01_Named)))
  (.keep [0] (.seq (.reg [co (some 13) (.move (.tmp 0)) none,
      co (some 14) (.binOp .rem 5 (.tmp 13) (.const (.int .u8 2)) 5) none,
      co (some 15) (.binOp .eql 5 (.tmp 14) (.const (.int .u8 1)) 5) none,
      co (some 4) (.assign (.tmp 15)) none] [4])
  (.ret))))
theorem t_centoref01_Named : Txt Tryz.prog 109 16 [(.tmp 4)] c_centoref01_Named := txt_of (code := Tryz.f109.body.getD .ret) mixed (by kernel_rfl) Tryz.func109 (by kernel_rfl) Tryz.ntmps109 (by kernel_rfl) (ls := [([0, 1], []), ([], []), ([0, 1, 5], []), ([], []), ([0, 1, 5, 8], []), ([], []), ([999999, 0, 1, 5], []), ([0, 1, 5], []), ([], []), ([0, 1, 5], []), ([999999, 0], []), ([4], []), ([], [])]) (by kernel_rfl)
def l1_centoref01_Of : CC :=
  .seq (.seq (.reg [co (some 7) (.move (.tmp 6)) none,
        co (some 8) (.binOp .geq 3 (.tmp 7) (.const (.int .i64 0)) 3) none] [0, 1, 5, 6, 8])
    (.cond (.tmp 8)
      (.skip)
      (.exit 0)))
  (.keep [0, 1, 5, 6] (.seq (.block 1
      (.reg [co (some 11) (.move (.tmp 5)) none,
        co (some 12) (.binOp .mul 60 (.tmp 11) (.const (.int .u64 256)) 60) none,
        co (some 13) (.move (.tmp 0)) none,
        co (some 14) (.move (.tmp 1)) none,
        co (some 15) (.move (.tmp 6)) none,
        co (some 16) (.binOp .add 3 (.tmp 14) (.tmp 15) 3) none,
        co (some 17) (.indexAddr 133 (.tmp 13) (.tmp 16)) none,
        co (some 18) (.load 5 (.tmp 17)) none,
        co (some 19) (.convert 5 60 (.tmp 18)) none,
        co (some 20) (.binOp .add 60 (.tmp 12) (.tmp 19) 60) none,
        co (some 5) (.assign (.tmp 20)) none] [0, 1, 5, 6]))
  (.reg [co (some 9) (.move (.tmp 6)) none,
    co (some 10) (.binOp .sub 3 (.tmp 9) (.const (.int .i64 1)) 3) none,
    co (some 6) (.assign (.tmp 10)) none] [0, 1, 5, 6])))
/-- cento/centoref01.Of -/
def c_centoref01_Of : CC :=
  .seq (.reg [co (some 4) (.assign (.const (.int .u64 0))) none] [0, 1])
  (.seq (.reg [co (some 5) (.assign (.const (.int .u64 0))) none] [0, 1, 5])
  (.seq (.seq (.reg [co (some 6) (.assign (.const (.int .i64 7))) none] [0, 1, 5, 6])
    (.block 0
      (.loop l1_centoref01_Of)))
  (.keep [5] (.seq (.reg [co (some 21) (.move (.tmp 5)) none,
      co (some 4) (.assign (.tmp 21)) none] [4])
  (.ret)))))
theorem t_centoref01_Of : Txt Tryz.prog 110 22 [(.tmp 4)] c_centoref01_Of := txt_of (code := Tryz.f110.body.getD .ret) mixed (by kernel_rfl) Tryz.func110 (by kernel_rfl) Tryz.ntmps110 (by kernel_rfl) (ls := [([0, 1], []), ([], []), ([0, 1, 5], []), ([], []), ([0, 1, 5, 6], []), ([], []), ([0, 1, 5, 6, 8], []), ([], []), ([999999, 0, 1, 5, 6], []), ([0, 1, 5, 6], []), ([], []), ([0, 1, 5, 6], []), ([999999, 5], []), ([4], []), ([], [])]) (by kernel_rfl)
def l1_centoref01_Mix : CC :=
  .seq (.seq (.reg [co (some 14) (.move (.tmp 9)) none,
        co (some 15) (.binOp .lss 3 (.tmp 14) (.const (.int .i64 8)) 3) none] [2, 7, 8, 9, 15])
    (.cond (.tmp 15)
      (.skip)
      (.exit 0)))
  (.keep [2, 7, 8, 9] (.seq (.block 1
      (.seq (.reg [co (some 18) (.move (.tmp 2)) none,
          co (some 19) (.move (.tmp 9)) none,
          co (some 20) (.call { callee := (.value (.func 109)), args := #[(.tmp 18), (.tmp 19)], argTypes := #[5, 3] }) none] [2, 7, 8, 9, 20])
      (.cond (.tmp 20)
        (.reg [co (some 21) (.move (.tmp 9)) none,
          co (some 22) (.move (.tmp 9)) none,
          co (some 23) (.indexAddr 129 (.tmp 8) (.tmp 22)) none,
          co (some 24) (.load 5 (.tmp 23)) none,
          co (some 25) (.indexAddr 129 (.tmp 7) (.tmp 21)) none,
          co none (.store 5 (.tmp 25) (.tmp 24)) none] [2, 7, 8, 9])
        (.skip))))
  (.keep [2, 7, 8, 9] (.reg [co (some 16) (.move (.tmp 9)) none,
    co (some 17) (.binOp .add 3 (.tmp 16) (.const (.int .i64 1)) 3) none,
    co (some 9) (.assign (.tmp 17)) none] [2, 7, 8, 9]))))
/-- cento/centoref01.Mix -/
def c_centoref01_Mix : CC :=
  .seq (.reg [co (some 6) (.assign (.const (.int .u64 0))) none] [0, 1, 2])
  (.seq (.reg [co (some 10) (.move (.tmp 0)) none,
      co (some 11) (.call { callee := (.value (.func 108)), args := #[(.tmp 10)], argTypes := #[60] }) none,
      co (some 12) (.move (.tmp 1)) none,
      co (some 13) (.call { callee := (.value (.func 108)), args := #[(.tmp 12)], argTypes := #[60] }) none,
      cn (some 7) (.alloc 129) none [0],
      cn (some 8) (.alloc 129) none [1],
      co none (.store 129 (.tmp 7) (.tmp 11)) none,
      co none (.store 129 (.tmp 8) (.tmp 13)) none] [2, 7, 8])
  (.seq (.seq (.reg [co (some 9) (.assign (.const (.int .i64 0))) none] [2, 7, 8, 9])
    (.block 0
      (.loop l1_centoref01_Mix)))
  (.keep [7] (.stop (.seq (.reg [co (some 26) (.slice 129 (.tmp 7) none none none) none,
      co (some 27) (.call { callee := (.value (.func 110)), args := #[(.tmp 26), (.const (.int .i64 0))], argTypes := #[133, 3] }) none,
      co (some 6) (.assign (.tmp 27)) none] [6])
  (.ret))))))
theorem t_centoref01_Mix : Txt Tryz.prog 78 28 [(.tmp 6)] c_centoref01_Mix := txt_of (code := Tryz.f78.body.getD .ret) mixed (by kernel_rfl) Tryz.func78 (by kernel_rfl) Tryz.ntmps78 (by kernel_rfl) (ls := [([0, 1, 2], []), ([], []), ([2, 7, 8], [(4, [0]), (5, [1])]), ([], []), ([2, 7, 8, 9], []), ([], []), ([2, 7, 8, 9, 15], []), ([], []), ([999999, 2, 7, 8, 9], []), ([2, 7, 8, 9, 20], []), ([], []), ([2, 7, 8, 9], []), ([999999, 2, 7, 8, 9], []), ([2, 7, 8, 9], []), ([999997, 7], []), ([6], []), ([], [])]) (by kernel_rfl)
/-- cento/word.width -/
def c_word_width : CC :=
  .seq (.reg [co (some 2) (.assign (.const (.int .i64 0))) none,
      co (some 3) (.assign (.const (.bool false))) none] [0])
  (.seq (.reg [co (some 5) (.build 170 #[(0, (.const (.int .i64 0))), (1, (.const (.int .i64 1))), (2, (.const (.int .i64 8))), (3, (.const (.int .i64 16))), (4, (.const (.int .i64 32))), (5, (.const (.int .i64 64)))]) none,
      cn (some 4) (.alloc 170) none [0],
      co none (.store 170 (.tmp 4) (.tmp 5)) none] [0, 4])
  (.seq (.seq (.reg [co (some 6) (.move (.tmp 0)) none,
        co (some 7) (.binOp .lss 3 (.tmp 6) (.const (.int .i64 0)) 3) none,
        co (some 8) (.move (.tmp 7)) none,
        co (some 9) (.move (.tmp 0)) (some (8, false)),
        co (some 10) (.binOp .geq 3 (.tmp 9) (.const (.int .i64 6)) 3) (some (8, false)),
        co (some 11) (.pick (.tmp 8) (.const (.bool true)) (.tmp 10)) none] [0, 4, 11])
    (.cond (.tmp 11)
      (.seq (.reg [co (some 2) (.assign (.const (.int .i64 0))) none,
          co (some 3) (.assign (.const (.bool false))) none] [2, 3])
      (.ret))
      (.skip)))
  (.keep [0, 4] (.seq (.reg [co (some 12) (.move (.tmp 0)) none,
      co (some 13) (.indexAddr 170 (.tmp 4) (.tmp 12)) none,
      co (some 14) (.load 3 (.tmp 13)) none,
      co (some 2) (.assign (.tmp 14)) none,
      co (some 3) (.assign (.const (.bool true))) none] [2, 3])
  (.ret)))))
theorem t_word_width : Txt Tryz.prog 133 15 [(.tmp 2), (.tmp 3)] c_word_width := txt_of (code := Tryz.f133.body.getD .ret) mixed (by kernel_rfl) Tryz.func133 (by kernel_rfl) Tryz.ntmps133 (by kernel_rfl) (ls := [([0], []), ([], []), ([0, 4], [(1, [0])]), ([], []), ([0, 4, 11], []), ([], []), ([2, 3], []), ([], []), ([999999, 0, 4], []), ([2, 3], []), ([], [])]) (by kernel_rfl)
/-- cento/word.Width -/
def c_word_Width : CC :=
  .seq (.reg [co (some 2) (.assign (.const (.int .i64 0))) none,
      co (some 3) (.assign (.const (.bool false))) none] [0])
  (.seq (.reg [co (some 4) (.move (.tmp 0)) none,
      co (some 5) (.call { callee := (.value (.func 133)), args := #[(.tmp 4)], argTypes := #[3] }) none,
      co (some 6) (.extract (.tmp 5) 0) none,
      co (some 7) (.extract (.tmp 5) 1) none,
      co (some 2) (.assign (.tmp 6)) none,
      co (some 3) (.assign (.tmp 7)) none] [2, 3])
  (.ret))
theorem t_word_Width : Txt Tryz.prog 165 8 [(.tmp 2), (.tmp 3)] c_word_Width := txt_of (code := Tryz.f165.body.getD .ret) mixed (by kernel_rfl) Tryz.func165 (by kernel_rfl) Tryz.ntmps165 (by kernel_rfl) (ls := [([0], []), ([], []), ([2, 3], []), ([], [])]) (by kernel_rfl)
/-- cento/word.Room -/
def c_word_Room : CC :=
  .seq (.reg [co (some 4) (.assign (.const (.int .i64 0))) none] [0, 1])
  (.seq (.reg [co (some 8) (.move (.tmp 0)) none,
      co (some 9) (.call { callee := (.value (.func 133)), args := #[(.tmp 8)], argTypes := #[3] }) none,
      co (some 7) (.move (.tmp 9)) none,
      co (some 10) (.extract (.tmp 7) 0) none,
      co (some 11) (.extract (.tmp 7) 1) none,
      co (some 5) (.assign (.tmp 10)) none,
      co (some 6) (.assign (.tmp 11)) none] [1, 5, 6])
  (.seq (.seq (.reg [co (some 12) (.move (.tmp 6)) none,
        co (some 13) (.unOp .not 4 (.tmp 12)) none,
        co (some 14) (.move (.tmp 13)) none,
        co (some 15) (.move (.tmp 1)) (some (14, false)),
        co (some 16) (.binOp .lss 3 (.tmp 15) (.const (.int .i64 0)) 3) (some (14, false)),
        co (some 17) (.pick (.tmp 14) (.const (.bool true)) (.tmp 16)) none,
        co (some 18) (.move (.tmp 17)) none,
        co (some 19) (.move (.tmp 1)) (some (18, false)),
        co (some 20) (.binOp .gtr 3 (.tmp 19) (.const (.int .i64 1099511627776)) 3) (some (18, false)),
        co (some 21) (.pick (.tmp 18) (.const (.bool true)) (.tmp 20)) none] [1, 5, 21])
    (.cond (.tmp 21)
      (.seq (.reg [co (some 4) (.assign (.const (.int .i64 0))) none] [4])
      (.ret))
      (.skip)))
  (.keep [1, 5] (.seq (.reg [co (some 22) (.move (.tmp 1)) none,
      co (some 23) (.move (.tmp 5)) none,
      co (some 24) (.binOp .mul 3 (.tmp 22) (.tmp 23) 3) none,
      co (some 25) (.binOp .add 3 (.tmp 24) (.const (.int .i64 63)) 3) none,
      co (some 26) (.binOp .quo 3 (.tmp 25) (.const (.int .i64 64)) 3) none,
      co (some 4) (.assign (.tmp 26)) none] [4])
  (.ret)))))
theorem t_word_Room : Txt Tryz.prog 130 27 [(.tmp 4)] c_word_Room := txt_of (code := Tryz.f130.body.getD .ret) mixed (by kernel_rfl) Tryz.func130 (by kernel_rfl) Tryz.ntmps130 (by kernel_rfl) (ls := [([0, 1], []), ([], []), ([1, 5, 6], []), ([], []), ([1, 5, 21], []), ([], []), ([4], []), ([], []), ([999999, 1, 5], []), ([4], []), ([], [])]) (by kernel_rfl)
/-- cento/word.Get -/
def c_word_Get : CC :=
  .seq (.reg [co (some 6) (.assign (.const (.int .u64 0))) none] [0, 1, 2])
  (.seq (.reg [co (some 11) (.move (.tmp 1)) none,
      co (some 12) (.call { callee := (.value (.func 133)), args := #[(.tmp 11)], argTypes := #[3] }) none,
      co (some 10) (.move (.tmp 12)) none,
      co (some 13) (.extract (.tmp 10) 0) none,
      co (some 14) (.extract (.tmp 10) 1) none,
      co (some 7) (.assign (.tmp 13)) none,
      co (some 8) (.assign (.tmp 14)) none] [0, 2, 7, 8])
  (.seq (.seq (.reg [co (some 15) (.move (.tmp 8)) none,
        co (some 16) (.unOp .not 4 (.tmp 15)) none,
        co (some 17) (.move (.tmp 16)) none,
        co (some 18) (.move (.tmp 7)) (some (17, false)),
        co (some 19) (.binOp .eql 3 (.tmp 18) (.const (.int .i64 0)) 3) (some (17, false)),
        co (some 20) (.pick (.tmp 17) (.const (.bool true)) (.tmp 19)) none,
        co (some 21) (.move (.tmp 20)) none,
        co (some 22) (.move (.tmp 2)) (some (21, false)),
        co (some 23) (.binOp .lss 3 (.tmp 22) (.const (.int .i64 0)) 3) (some (21, false)),
        co (some 24) (.pick (.tmp 21) (.const (.bool true)) (.tmp 23)) none,
        co (some 25) (.move (.tmp 24)) none,
        co (some 26) (.move (.tmp 2)) (some (25, false)),
        co (some 27) (.binOp .gtr 3 (.tmp 26) (.const (.int .i64 1099511627776)) 3) (some (25, false)),
        co (some 28) (.pick (.tmp 25) (.const (.bool true)) (.tmp 27)) none,
        co (some 29) (.move (.tmp 28)) none,
        co (some 30) (.move (.tmp 2)) (some (29, false)),
        co (some 31) (.move (.tmp 7)) (some (29, false)),
        co (some 32) (.binOp .mul 3 (.tmp 30) (.tmp 31) 3) (some (29, false)),
        co (some 33) (.binOp .quo 3 (.tmp 32) (.const (.int .i64 64)) 3) (some (29, false)),
        co (some 34) (.move (.tmp 0)) (some (29, false)),
        co (some 35) (.call { callee := (.builtin .len), args := #[(.tmp 34)], argTypes := #[22] }) (some (29, false)),
        co (some 36) (.binOp .geq 3 (.tmp 33) (.tmp 35) 3) (some (29, false)),
        co (some 37) (.pick (.tmp 29) (.const (.bool true)) (.tmp 36)) none] [0, 2, 7, 37])
    (.cond (.tmp 37)
      (.seq (.reg [co (some 6) (.assign (.const (.int .u64 0))) none] [6])
      (.ret))
      (.skip)))
  (.keep [0, 2, 7] (.seq (.reg [co (some 38) (.move (.tmp 0)) none,
      co (some 39) (.move (.tmp 2)) none,
      co (some 40) (.move (.tmp 7)) none,
      co (some 41) (.binOp .mul 3 (.tmp 39) (.tmp 40) 3) none,
      co (some 42) (.binOp .quo 3 (.tmp 41) (.const (.int .i64 64)) 3) none,
      co (some 43) (.indexAddr 22 (.tmp 38) (.tmp 42)) none,
      co (some 44) (.load 60 (.tmp 43)) none,
      co (some 45) (.move (.tmp 2)) none,
      co (some 46) (.move (.tmp 7)) none,
      co (some 47) (.binOp .mul 3 (.tmp 45) (.tmp 46) 3) none,
      co (some 48) (.binOp .rem 3 (.tmp 47) (.const (.int .i64 64)) 3) none,
      co (some 49) (.binOp .shr 60 (.tmp 44) (.tmp 48) 3) none,
      co (some 9) (.assign (.tmp 49)) none] [7, 9])
  (.seq (.seq (.reg [co (some 50) (.move (.tmp 7)) none,
        co (some 51) (.binOp .eql 3 (.tmp 50) (.const (.int .i64 64)) 3) none] [7, 9, 51])
    (.cond (.tmp 51)
      (.seq (.reg [co (some 52) (.move (.tmp 9)) none,
          co (some 6) (.assign (.tmp 52)) none] [6])
      (.ret))
      (.skip)))
  (.keep [7, 9] (.seq (.reg [co (some 53) (.move (.tmp 9)) none,
      co (some 54) (.move (.tmp 7)) none,
      co (some 55) (.binOp .shl 60 (.const (.int .u64 1)) (.tmp 54) 3) none,
      co (some 56) (.binOp .sub 60 (.tmp 55) (.const (.int .u64 1)) 60) none,
      co (some 57) (.binOp .and 60 (.tmp 53) (.tmp 56) 60) none,
      co (some 6) (.assign (.tmp 57)) none] [6])
  (.ret))))))))
theorem t_word_Get : Txt Tryz.prog 166 58 [(.tmp 6)] c_word_Get := txt_of (code := Tryz.f166.body.getD .ret) mixed (by kernel_rfl) Tryz.func166 (by kernel_rfl) Tryz.ntmps166 (by kernel_rfl) (ls := [([0, 1, 2], []), ([], []), ([0, 2, 7, 8], []), ([], []), ([0, 2, 7, 37], []), ([], []), ([6], []), ([], []), ([999999, 0, 2, 7], []), ([7, 9], []), ([], []), ([7, 9, 51], []), ([], []), ([6], []), ([], []), ([999999, 7, 9], []), ([6], []), ([], [])]) (by kernel_rfl)
/-- cento/tree.Data -/
def c_tree_Data : CC :=
  .seq (.reg [co (some 2) (.assign (.const (.bool false))) none] [0])
  (.seq (.reg [co (some 3) (.move (.tmp 0)) none,
      co (some 4) (.binOp .geq 3 (.tmp 3) (.const (.int .i64 2)) 3) none,
      co (some 5) (.move (.tmp 4)) none,
      co (some 6) (.move (.tmp 0)) (some (5, true)),
      co (some 7) (.binOp .leq 3 (.tmp 6) (.const (.int .i64 7)) 3) (some (5, true)),
      co (some 8) (.pick (.tmp 5) (.tmp 7) (.const (.bool false))) none,
      co (some 2) (.assign (.tmp 8)) none] [2])
  (.ret))
theorem t_tree_Data : Txt Tryz.prog 105 9 [(.tmp 2)] c_tree_Data := txt_of (code := Tryz.f105.body.getD .ret) mixed (by kernel_rfl) Tryz.func105 (by kernel_rfl) Tryz.ntmps105 (by kernel_rfl) (ls := [([0], []), ([], []), ([2], []), ([], [])]) (by kernel_rfl)
end Go.Proofs.YthfiijdbnkaabaaGreat

/-
  The functions' text as data, and the facts on the types that they use: written by a program of ours (gen2.py) off the translation.
-/
namespace Go.Proofs.YthfiijdbnkaabaaGreat
set_option linter.unusedVariables false
set_option linter.unusedSimpArgs false
set_option maxRecDepth 20000
open Go Go.G Go.Proofs
@[simp] theorem und_54 : Tryz.prog.underlying 54 = some (.pointer 101) := by kernel_rfl
@[simp] theorem und_56 : Tryz.prog.underlying 56 = some (.slice 22) := by kernel_rfl
@[simp] theorem und_180 : Tryz.prog.underlying 180 = some (.array 7 3) := by kernel_rfl
@[simp] theorem szT_22 : szT Tryz.prog 22 = some 1 := by kernel_rfl
@[simp] theorem szT_56 : szT Tryz.prog 56 = some 1 := by kernel_rfl
@[simp] theorem szT_141 : szT Tryz.prog 141 = some 10 := by kernel_rfl
@[simp] theorem szT_153 : szT Tryz.prog 153 = some 10 := by kernel_rfl
@[simp] theorem szT_180 : szT Tryz.prog 180 = some 7 := by kernel_rfl
@[simp] theorem aggT_22 : aggT Tryz.prog 22 = some false := by kernel_rfl
@[simp] theorem aggT_56 : aggT Tryz.prog 56 = some false := by kernel_rfl
@[simp] theorem aggT_141 : aggT Tryz.prog 141 = some true := by kernel_rfl
@[simp] theorem aggT_153 : aggT Tryz.prog 153 = some true := by kernel_rfl
@[simp] theorem zeroT_22 : zeroT Tryz.prog 22 = some (Value.slice none 0 0) := by kernel_rfl
@[simp] theorem zeroT_141 : zeroT Tryz.prog 141 = some (Value.agg #[Value.int IntKind.i64 0, Value.int IntKind.i64 0, Value.int IntKind.i64 0, Value.int IntKind.i64 0, Value.int IntKind.i64 0, Value.int IntKind.i64 0, Value.int IntKind.i64 0, Value.bool false, Value.int IntKind.i64 0, Value.int IntKind.i64 0]) := by kernel_rfl
@[simp] theorem zeroT_153 : zeroT Tryz.prog 153 = some (Value.agg #[Value.int IntKind.i64 0, Value.int IntKind.i64 0, Value.int IntKind.i64 0, Value.int IntKind.i64 0, Value.int IntKind.i64 0, Value.int IntKind.i64 0, Value.int IntKind.i64 0, Value.bool false, Value.int IntKind.i64 0, Value.int IntKind.i64 0]) := by kernel_rfl
@[simp] theorem zeroT_180 : zeroT Tryz.prog 180 = some (Value.agg #[Value.int IntKind.i64 0, Value.int IntKind.i64 0, Value.int IntKind.i64 0, Value.int IntKind.i64 0, Value.int IntKind.i64 0, Value.int IntKind.i64 0, Value.int IntKind.i64 0]) := by kernel_rfl
@[simp] theorem bytesT_22 : bytesT Tryz.prog 22 = some 24 := by kernel_rfl
@[simp] theorem fieldOffT_101_0 : fieldOffT Tryz.prog 101 0 = some 0 := by kernel_rfl
@[simp] theorem fieldOffT_139_0 : fieldOffT Tryz.prog 139 0 = some 0 := by kernel_rfl
@[simp] theorem fieldOffT_139_1 : fieldOffT Tryz.prog 139 1 = some 1 := by kernel_rfl
@[simp] theorem fieldOffT_139_2 : fieldOffT Tryz.prog 139 2 = some 2 := by kernel_rfl
@[simp] theorem fieldOffT_139_3 : fieldOffT Tryz.prog 139 3 = some 3 := by kernel_rfl
@[simp] theorem fieldOffT_139_4 : fieldOffT Tryz.prog 139 4 = some 4 := by kernel_rfl
@[simp] theorem fieldOffT_139_5 : fieldOffT Tryz.prog 139 5 = some 5 := by kernel_rfl
@[simp] theorem fieldOffT_139_6 : fieldOffT Tryz.prog 139 6 = some 6 := by kernel_rfl
@[simp] theorem fieldOffT_139_7 : fieldOffT Tryz.prog 139 7 = some 7 := by kernel_rfl
@[simp] theorem fieldOffT_141_0 : fieldOffT Tryz.prog 141 0 = some 0 := by kernel_rfl
@[simp] theorem fieldOffT_141_1 : fieldOffT Tryz.prog 141 1 = some 8 := by kernel_rfl
@[simp] theorem fieldOffT_141_2 : fieldOffT Tryz.prog 141 2 = some 9 := by kernel_rfl
@[simp] theorem fieldOffT_153_0 : fieldOffT Tryz.prog 153 0 = some 0 := by kernel_rfl
@[simp] theorem fieldOffT_153_1 : fieldOffT Tryz.prog 153 1 = some 8 := by kernel_rfl
@[simp] theorem fieldOffT_153_2 : fieldOffT Tryz.prog 153 2 = some 9 := by kernel_rfl
@[simp] theorem buildA_101 (ps : List (Nat × A)) : buildA Tryz.prog 101 ps = (fillA (fun i => ([(0, 1), (1, 1), (2, 1), (3, 1)] : List (Nat × Nat))[i]?) [A.sl true [], A.v (Value.int IntKind.i64 0), A.v (Value.int IntKind.i64 0), A.v (Value.int IntKind.i64 0)] ps).map A.agg := by kernel_rfl
@[simp] theorem buildA_141 (ps : List (Nat × A)) : buildA Tryz.prog 141 ps = (fillA (fun i => ([(0, 8), (8, 1), (9, 1)] : List (Nat × Nat))[i]?) [A.v (Value.int IntKind.i64 0), A.v (Value.int IntKind.i64 0), A.v (Value.int IntKind.i64 0), A.v (Value.int IntKind.i64 0), A.v (Value.int IntKind.i64 0), A.v (Value.int IntKind.i64 0), A.v (Value.int IntKind.i64 0), A.v (Value.bool false), A.v (Value.int IntKind.i64 0), A.v (Value.int IntKind.i64 0)] ps).map A.agg := by kernel_rfl
@[simp] theorem buildA_153 (ps : List (Nat × A)) : buildA Tryz.prog 153 ps = (fillA (fun i => ([(0, 8), (8, 1), (9, 1)] : List (Nat × Nat))[i]?) [A.v (Value.int IntKind.i64 0), A.v (Value.int IntKind.i64 0), A.v (Value.int IntKind.i64 0), A.v (Value.int IntKind.i64 0), A.v (Value.int IntKind.i64 0), A.v (Value.int IntKind.i64 0), A.v (Value.int IntKind.i64 0), A.v (Value.bool false), A.v (Value.int IntKind.i64 0), A.v (Value.int IntKind.i64 0)] ps).map A.agg := by kernel_rfl
@[simp] theorem buildA_180 (ps : List (Nat × A)) : buildA Tryz.prog 180 ps = (fillA (fun i => some (i * 1, 1)) [A.v (Value.int IntKind.i64 0), A.v (Value.int IntKind.i64 0), A.v (Value.int IntKind.i64 0), A.v (Value.int IntKind.i64 0), A.v (Value.int IntKind.i64 0), A.v (Value.int IntKind.i64 0), A.v (Value.int IntKind.i64 0)] ps).map A.agg := by kernel_rfl
/-- slices.Clone[[]uint64,uint64] -/
def c_slices_Clone_uint64_uint64 : CC :=
  .seq (.reg [co (some 2) (.assign (.const (.slice none 0 0))) none] [0])
  (.seq (.seq (.reg [co (some 3) (.move (.tmp 0)) none,
        co (some 4) (.binOp .eql 22 (.tmp 3) (.const (.slice none 0 0)) 22) none] [0, 4])
    (.cond (.tmp 4)
      (.seq (.reg [co (some 2) (.assign (.const (.slice none 0 0))) none] [2])
      (.ret))
      (.skip)))
  (.keep [0] (.seq (.reg [co (some 5) (.buildSlice 22 0 #[]) none,
      co (some 6) (.move (.tmp 0)) none,
      cn (some 7) (.call { callee := (.builtin .append), args := #[(.tmp 5), (.tmp 6)], argTypes := #[22, 22] }) none [0],
      co (some 2) (.assign (.tmp 7)) none] [2])
  (.ret))))
theorem t_slices_Clone_uint64_uint64 : Txt Tryz.prog 66 8 [(.tmp 2)] c_slices_Clone_uint64_uint64 := txt_of (code := Tryz.f66.body.getD .ret) mixed (by kernel_rfl) Tryz.func66 (by kernel_rfl) Tryz.ntmps66 (by kernel_rfl) (ls := [([0], []), ([], []), ([0, 4], []), ([], []), ([2], []), ([], []), ([999999, 0], []), ([2], [(2, [0])]), ([], [])]) (by kernel_rfl)
def l1_arena_Of : CC :=
  .seq (.reg [co (some 11) (.binOp .lss 3 (.tmp 10) (.tmp 9) 3) none] [3, 8, 9, 10, 11])
  (.seq (.cond (.tmp 11)
      (.skip)
      (.exit 0))
  (.keep [3, 8, 9, 10] (.seq (.block 1
      (.seq (.reg [co (some 12) (.indexAddr 56 (.tmp 8) (.tmp 10)) none,
          co (some 13) (.load 22 (.tmp 12)) none,
          co (some 5) (.assign (.tmp 13)) none] [3, 5, 8, 9, 10])
      (.reg [co (some 14) (.move (.tmp 3)) none,
        co (some 15) (.move (.tmp 3)) none,
        co (some 16) (.nilCheck (.tmp 15)) none,
        co (some 17) (.fieldAddr 101 (.tmp 16) 0) none,
        ⟨some 18, (.load 56 (.tmp 17)), none, [], 4, [], true⟩,
        co (some 19) (.move (.tmp 5)) none,
        ⟨some 20, (.call { callee := (.value (.func 66)), args := #[(.tmp 19)], argTypes := #[22] }), none, [], 6, [4], false⟩,
        ⟨some 21, (.buildSlice 56 1 #[(0, (.tmp 20))]), none, [], 7, [4], false⟩,
        cn (some 22) (.call { callee := (.builtin .append), args := #[(.tmp 18), (.tmp 21)], argTypes := #[56, 56] }) none [1],
        co (some 23) (.nilCheck (.tmp 14)) none,
        co (some 24) (.fieldAddr 101 (.tmp 23) 0) none,
        co none (.store 56 (.tmp 24) (.tmp 22)) none] [3, 8, 9, 10])))
  (.reg [co (some 25) (.binOp .add 3 (.tmp 10) (.const (.int .i64 1)) 3) none,
    co (some 10) (.move (.tmp 25)) none] [3, 8, 9, 10]))))
/-- cento/arena.Of -/
def c_arena_Of : CC :=
  .seq (.reg [co (some 2) (.assign (.const (.pointer none))) none] [0])
  (.seq (.reg [co (some 6) (.build 101 #[]) none,
      cn (some 7) (.box 101 (.tmp 6)) none [0],
      co (some 3) (.assign (.tmp 7)) none] [0, 3])
  (.seq (.seq (.reg [co (some 8) (.move (.tmp 0)) none,
        co (some 9) (.call { callee := (.builtin .len), args := #[(.tmp 8)], argTypes := #[56] }) none,
        co (some 10) (.move (.const (.int .i64 0))) none] [3, 8, 9, 10])
    (.block 0
      (.loop l1_arena_Of)))
  (.keep [3] (.seq (.reg [co (some 26) (.move (.tmp 3)) none,
      co (some 2) (.assign (.tmp 26)) none] [2])
  (.ret)))))
theorem t_arena_Of : Txt Tryz.prog 32 27 [(.tmp 2)] c_arena_Of := txt_of (code := Tryz.f32.body.getD .ret) mixed (by kernel_rfl) Tryz.func32 (by kernel_rfl) Tryz.ntmps32 (by kernel_rfl) (ls := [([0], []), ([], []), ([0, 3], [(1, [0])]), ([], []), ([3, 8, 9, 10], []), ([], []), ([3, 8, 9, 10, 11], []), ([], []), ([999999, 3, 8, 9, 10], []), ([3, 5, 8, 9, 10], []), ([], []), ([3, 8, 9, 10], [(8, [1])]), ([], []), ([3, 8, 9, 10], []), ([999999, 3], []), ([2], []), ([], [])]) (by kernel_rfl)
/-- (*cento/arena.Arena).Len -/
def c_arena_Arena_Len : CC :=
  .seq (.reg [co (some 2) (.assign (.const (.int .i64 0))) none] [0])
  (.seq (.seq (.reg [co (some 3) (.move (.tmp 0)) none,
        co (some 4) (.binOp .eql 54 (.tmp 3) (.const (.pointer none)) 54) none] [0, 4])
    (.cond (.tmp 4)
      (.seq (.reg [co (some 2) (.assign (.const (.int .i64 0))) none] [2])
      (.ret))
      (.skip)))
  (.keep [0] (.seq (.reg [co (some 5) (.move (.tmp 0)) none,
      co (some 6) (.nilCheck (.tmp 5)) none,
      co (some 7) (.fieldAddr 101 (.tmp 6) 0) none,
      co (some 8) (.load 56 (.tmp 7)) none,
      co (some 9) (.call { callee := (.builtin .len), args := #[(.tmp 8)], argTypes := #[56] }) none,
      co (some 2) (.assign (.tmp 9)) none] [2])
  (.ret))))
theorem t_arena_Arena_Len : Txt Tryz.prog 168 10 [(.tmp 2)] c_arena_Arena_Len := txt_of (code := Tryz.f168.body.getD .ret) mixed (by kernel_rfl) Tryz.func168 (by kernel_rfl) Tryz.ntmps168 (by kernel_rfl) (ls := [([0], []), ([], []), ([0, 4], []), ([], []), ([2], []), ([], []), ([999999, 0], []), ([2], []), ([], [])]) (by kernel_rfl)
/-- (*cento/arena.Arena).Size -/
def c_arena_Arena_Size : CC :=
  .seq (.reg [co (some 4) (.assign (.const (.int .i64 0))) none] [0, 1])
  (.seq (.seq (.reg [co (some 5) (.move (.tmp 1)) none,
        co (some 6) (.binOp .lss 3 (.tmp 5) (.const (.int .i64 0)) 3) none,
        co (some 7) (.move (.tmp 6)) none,
        co (some 8) (.move (.tmp 1)) (some (7, false)),
        co (some 9) (.move (.tmp 0)) (some (7, false)),
        co (some 10) (.call { callee := (.value (.func 168)), args := #[(.tmp 9)], argTypes := #[54] }) (some (7, false)),
        co (some 11) (.binOp .geq 3 (.tmp 8) (.tmp 10) 3) (some (7, false)),
        co (some 12) (.pick (.tmp 7) (.const (.bool true)) (.tmp 11)) none] [0, 1, 12])
    (.cond (.tmp 12)
      (.seq (.reg [co (some 4) (.assign (.const (.int .i64 0))) none] [4])
      (.ret))
      (.skip)))
  (.keep [0, 1] (.seq (.reg [co (some 13) (.move (.tmp 0)) none,
      co (some 14) (.nilCheck (.tmp 13)) none,
      co (some 15) (.fieldAddr 101 (.tmp 14) 0) none,
      co (some 16) (.load 56 (.tmp 15)) none,
      co (some 17) (.move (.tmp 1)) none,
      co (some 18) (.indexAddr 56 (.tmp 16) (.tmp 17)) none,
      co (some 19) (.load 22 (.tmp 18)) none,
      co (some 20) (.call { callee := (.builtin .len), args := #[(.tmp 19)], argTypes := #[22] }) none,
      co (some 4) (.assign (.tmp 20)) none] [4])
  (.ret))))
theorem t_arena_Arena_Size : Txt Tryz.prog 167 21 [(.tmp 4)] c_arena_Arena_Size := txt_of (code := Tryz.f167.body.getD .ret) mixed (by kernel_rfl) Tryz.func167 (by kernel_rfl) Tryz.ntmps167 (by kernel_rfl) (ls := [([0, 1], []), ([], []), ([0, 1, 12], []), ([], []), ([4], []), ([], []), ([999999, 0, 1], []), ([4], []), ([], [])]) (by kernel_rfl)
/-- (*cento/arena.Arena).Has -/
def c_arena_Arena_Has : CC :=
  .seq (.reg [co (some 8) (.assign (.const (.bool false))) none] [0, 1, 2, 3])
  (.seq (.reg [co (some 10) (.move (.tmp 0)) none,
      co (some 11) (.move (.tmp 1)) none,
      co (some 12) (.call { callee := (.value (.func 167)), args := #[(.tmp 10), (.tmp 11)], argTypes := #[54, 3] }) none,
      co (some 9) (.assign (.tmp 12)) none] [0, 1, 2, 3, 9])
  (.seq (.reg [co (some 13) (.move (.tmp 1)) none,
      co (some 14) (.binOp .geq 3 (.tmp 13) (.const (.int .i64 0)) 3) none,
      co (some 15) (.move (.tmp 14)) none,
      co (some 16) (.move (.tmp 1)) (some (15, true)),
      co (some 17) (.move (.tmp 0)) (some (15, true)),
      co (some 18) (.call { callee := (.value (.func 168)), args := #[(.tmp 17)], argTypes := #[54] }) (some (15, true)),
      co (some 19) (.binOp .lss 3 (.tmp 16) (.tmp 18) 3) (some (15, true)),
      co (some 20) (.pick (.tmp 15) (.tmp 19) (.const (.bool false))) none,
      co (some 21) (.move (.tmp 20)) none,
      co (some 22) (.move (.tmp 2)) (some (21, true)),
      co (some 23) (.binOp .geq 3 (.tmp 22) (.const (.int .i64 0)) 3) (some (21, true)),
      co (some 24) (.pick (.tmp 21) (.tmp 23) (.const (.bool false))) none,
      co (some 25) (.move (.tmp 24)) none,
      co (some 26) (.move (.tmp 3)) (some (25, true)),
      co (some 27) (.binOp .geq 3 (.tmp 26) (.const (.int .i64 0)) 3) (some (25, true)),
      co (some 28) (.pick (.tmp 25) (.tmp 27) (.const (.bool false))) none,
      co (some 29) (.move (.tmp 28)) none,
      co (some 30) (.move (.tmp 3)) (some (29, true)),
      co (some 31) (.move (.tmp 9)) (some (29, true)),
      co (some 32) (.binOp .leq 3 (.tmp 30) (.tmp 31) 3) (some (29, true)),
      co (some 33) (.pick (.tmp 29) (.tmp 32) (.const (.bool false))) none,
      co (some 34) (.move (.tmp 33)) none,
      co (some 35) (.move (.tmp 2)) (some (34, true)),
      co (some 36) (.move (.tmp 9)) (some (34, true)),
      co (some 37) (.move (.tmp 3)) (some (34, true)),
      co (some 38) (.binOp .sub 3 (.tmp 36) (.tmp 37) 3) (some (34, true)),
      co (some 39) (.binOp .leq 3 (.tmp 35) (.tmp 38) 3) (some (34, true)),
      co (some 40) (.pick (.tmp 34) (.tmp 39) (.const (.bool false))) none,
      co (some 8) (.assign (.tmp 40)) none] [8])
  (.ret)))
theorem t_arena_Arena_Has : Txt Tryz.prog 162 41 [(.tmp 8)] c_arena_Arena_Has := txt_of (code := Tryz.f162.body.getD .ret) mixed (by kernel_rfl) Tryz.func162 (by kernel_rfl) Tryz.ntmps162 (by kernel_rfl) (ls := [([0, 1, 2, 3], []), ([], []), ([0, 1, 2, 3, 9], []), ([], []), ([8], []), ([], [])]) (by kernel_rfl)
/-- (*cento/arena.Arena).Get -/
def c_arena_Arena_Get : CC :=
  .seq (.reg [co (some 6) (.assign (.const (.int .u64 0))) none,
      co (some 7) (.assign (.const (.bool false))) none] [0, 1, 2])
  (.seq (.seq (.reg [co (some 8) (.move (.tmp 0)) none,
        co (some 9) (.move (.tmp 1)) none,
        co (some 10) (.move (.tmp 2)) none,
        co (some 11) (.call { callee := (.value (.func 162)), args := #[(.tmp 8), (.tmp 9), (.tmp 10), (.const (.int .i64 1))], argTypes := #[54, 3, 3, 3] }) none,
        co (some 12) (.unOp .not 4 (.tmp 11)) none] [0, 1, 2, 12])
    (.cond (.tmp 12)
      (.seq (.reg [co (some 6) (.assign (.const (.int .u64 0))) none,
          co (some 7) (.assign (.const (.bool false))) none] [6, 7])
      (.ret))
      (.skip)))
  (.keep [0, 1, 2] (.seq (.reg [co (some 13) (.move (.tmp 0)) none,
      co (some 14) (.nilCheck (.tmp 13)) none,
      co (some 15) (.fieldAddr 101 (.tmp 14) 0) none,
      co (some 16) (.load 56 (.tmp 15)) none,
      co (some 17) (.move (.tmp 1)) none,
      co (some 18) (.indexAddr 56 (.tmp 16) (.tmp 17)) none,
      co (some 19) (.load 22 (.tmp 18)) none,
      co (some 20) (.move (.tmp 2)) none,
      co (some 21) (.indexAddr 22 (.tmp 19) (.tmp 20)) none,
      co (some 22) (.load 60 (.tmp 21)) none,
      co (some 6) (.assign (.tmp 22)) none,
      co (some 7) (.assign (.const (.bool true))) none] [6, 7])
  (.ret))))
theorem t_arena_Arena_Get : Txt Tryz.prog 155 23 [(.tmp 6), (.tmp 7)] c_arena_Arena_Get := txt_of (code := Tryz.f155.body.getD .ret) mixed (by kernel_rfl) Tryz.func155 (by kernel_rfl) Tryz.ntmps155 (by kernel_rfl) (ls := [([0, 1, 2], []), ([], []), ([0, 1, 2, 12], []), ([], []), ([6, 7], []), ([], []), ([999999, 0, 1, 2], []), ([6, 7], []), ([], [])]) (by kernel_rfl)
/-- (*cento/arena.Arena).Part -/
def c_arena_Arena_Part : CC :=
  .seq (.reg [co (some 8) (.assign (.const (.slice none 0 0))) none,
      co (some 9) (.assign (.const (.bool false))) none] [0, 1, 2, 3])
  (.seq (.seq (.reg [co (some 10) (.move (.tmp 0)) none,
        co (some 11) (.move (.tmp 1)) none,
        co (some 12) (.move (.tmp 2)) none,
        co (some 13) (.move (.tmp 3)) none,
        co (some 14) (.call { callee := (.value (.func 162)), args := #[(.tmp 10), (.tmp 11), (.tmp 12), (.tmp 13)], argTypes := #[54, 3, 3, 3] }) none,
        co (some 15) (.unOp .not 4 (.tmp 14)) none] [0, 1, 2, 3, 15])
    (.cond (.tmp 15)
      (.seq (.reg [co (some 8) (.assign (.const (.slice none 0 0))) none,
          co (some 9) (.assign (.const (.bool false))) none] [8, 9])
      (.ret))
      (.skip)))
  (.keep [0, 1, 2, 3] (.seq (.reg [co (some 16) (.move (.tmp 0)) none,
      co (some 17) (.nilCheck (.tmp 16)) none,
      co (some 18) (.fieldAddr 101 (.tmp 17) 0) none,
      co (some 19) (.load 56 (.tmp 18)) none,
      co (some 20) (.move (.tmp 1)) none,
      co (some 21) (.indexAddr 56 (.tmp 19) (.tmp 20)) none,
      co (some 22) (.load 22 (.tmp 21)) none,
      co (some 23) (.move (.tmp 2)) none,
      co (some 24) (.move (.tmp 2)) none,
      co (some 25) (.move (.tmp 3)) none,
      co (some 26) (.binOp .add 3 (.tmp 24) (.tmp 25) 3) none,
      co (some 27) (.slice 22 (.tmp 22) (some (.tmp 23)) (some (.tmp 26)) none) none,
      co (some 28) (.call { callee := (.value (.func 66)), args := #[(.tmp 27)], argTypes := #[22] }) none,
      co (some 8) (.assign (.tmp 28)) none,
      co (some 9) (.assign (.const (.bool true))) none] [8, 9])
  (.ret))))
theorem t_arena_Arena_Part : Txt Tryz.prog 164 29 [(.tmp 8), (.tmp 9)] c_arena_Arena_Part := txt_of (code := Tryz.f164.body.getD .ret) mixed (by kernel_rfl) Tryz.func164 (by kernel_rfl) Tryz.ntmps164 (by kernel_rfl) (ls := [([0, 1, 2, 3], []), ([], []), ([0, 1, 2, 3, 15], []), ([], []), ([8, 9], []), ([], []), ([999999, 0, 1, 2, 3], []), ([8, 9], []), ([], [])]) (by kernel_rfl)
/-- (cento/ptr.Ptr).Words -/
def c_ptr_Ptr_Words : CC :=
  .seq (.reg [cn (some 1) (.box 121 (.tmp 0)) none [0],
      co (some 2) (.assign (.const (.int .i64 0))) none,
      co (some 3) (.assign (.const (.bool false))) none] [1])
  (.seq (.reg [co (some 5) (.build 180 #[(0, (.const (.int .i64 0))), (1, (.const (.int .i64 1))), (2, (.const (.int .i64 8))), (3, (.const (.int .i64 16))), (4, (.const (.int .i64 32))), (5, (.const (.int .i64 64))), (6, (.const (.int .i64 64)))]) none,
      cn (some 4) (.alloc 180) none [1],
      co none (.store 180 (.tmp 4) (.tmp 5)) none] [1, 4])
  (.seq (.block 0
      (.seq (.reg [co (some 7) (.fieldAddr 121 (.tmp 1) 0) none,
          co (some 8) (.load 3 (.tmp 7)) none,
          co (some 9) (.binOp .eql 3 (.tmp 8) (.const (.int .i64 1)) 3) none,
          co (some 6) (.assign (.tmp 9)) none] [1, 4, 6])
      (.cond (.tmp 6)
        (.seq (.reg [co (some 10) (.fieldAddr 121 (.tmp 1) 2) none,
            co (some 11) (.load 3 (.tmp 10)) none,
            co (some 12) (.fieldAddr 121 (.tmp 1) 3) none,
            co (some 13) (.load 3 (.tmp 12)) none,
            co (some 14) (.binOp .add 3 (.tmp 11) (.tmp 13) 3) none,
            co (some 2) (.assign (.tmp 14)) none,
            co (some 3) (.assign (.const (.bool true))) none] [2, 3])
        (.ret))
        (.seq (.reg [co (some 16) (.fieldAddr 121 (.tmp 1) 0) none,
            co (some 17) (.load 3 (.tmp 16)) none,
            co (some 18) (.binOp .eql 3 (.tmp 17) (.const (.int .i64 2)) 3) none,
            co (some 19) (.move (.tmp 18)) none,
            co (some 20) (.fieldAddr 121 (.tmp 1) 4) (some (19, true)),
            co (some 21) (.load 3 (.tmp 20)) (some (19, true)),
            co (some 22) (.binOp .eql 3 (.tmp 21) (.const (.int .i64 7)) 3) (some (19, true)),
            co (some 23) (.pick (.tmp 19) (.tmp 22) (.const (.bool false))) none,
            co (some 15) (.assign (.tmp 23)) none] [1, 4, 15])
        (.cond (.tmp 15)
          (.seq (.reg [co (some 24) (.fieldAddr 121 (.tmp 1) 5) none,
              co (some 25) (.load 3 (.tmp 24)) none,
              co (some 26) (.binOp .add 3 (.tmp 25) (.const (.int .i64 1)) 3) none,
              co (some 2) (.assign (.tmp 26)) none,
              co (some 3) (.assign (.const (.bool true))) none] [2, 3])
          (.ret))
          (.seq (.reg [co (some 28) (.fieldAddr 121 (.tmp 1) 0) none,
              co (some 29) (.load 3 (.tmp 28)) none,
              co (some 30) (.binOp .eql 3 (.tmp 29) (.const (.int .i64 2)) 3) none,
              co (some 31) (.move (.tmp 30)) none,
              co (some 32) (.fieldAddr 121 (.tmp 1) 4) (some (31, true)),
              co (some 33) (.load 3 (.tmp 32)) (some (31, true)),
              co (some 34) (.call { callee := (.value (.func 152)), args := #[(.tmp 33), (.const (.int .i64 6))], argTypes := #[3, 3] }) (some (31, true)),
              co (some 35) (.pick (.tmp 31) (.tmp 34) (.const (.bool false))) none,
              co (some 36) (.move (.tmp 35)) none,
              co (some 37) (.fieldAddr 121 (.tmp 1) 5) (some (36, true)),
              co (some 38) (.load 3 (.tmp 37)) (some (36, true)),
              co (some 39) (.call { callee := (.value (.func 152)), args := #[(.tmp 38), (.const (.int .i64 536870911))], argTypes := #[3, 3] }) (some (36, true)),
              co (some 40) (.pick (.tmp 36) (.tmp 39) (.const (.bool false))) none,
              co (some 27) (.assign (.tmp 40)) none] [1, 4, 27])
          (.cond (.tmp 27)
            (.seq (.reg [co (some 41) (.fieldAddr 121 (.tmp 1) 5) none,
                co (some 42) (.load 3 (.tmp 41)) none,
                co (some 43) (.fieldAddr 121 (.tmp 1) 4) none,
                co (some 44) (.load 3 (.tmp 43)) none,
                co (some 45) (.indexAddr 180 (.tmp 4) (.tmp 44)) none,
                co (some 46) (.load 3 (.tmp 45)) none,
                co (some 47) (.binOp .mul 3 (.tmp 42) (.tmp 46) 3) none,
                co (some 48) (.binOp .add 3 (.tmp 47) (.const (.int .i64 63)) 3) none,
                co (some 49) (.binOp .quo 3 (.tmp 48) (.const (.int .i64 64)) 3) none,
                co (some 2) (.assign (.tmp 49)) none,
                co (some 3) (.assign (.const (.bool true))) none] [2, 3])
            (.ret))
            (.skip))))))))
  (.keep [] (.seq (.reg [co (some 2) (.assign (.const (.int .i64 0))) none,
      co (some 3) (.assign (.const (.bool false))) none] [2, 3])
  (.ret)))))
theorem t_ptr_Ptr_Words : Txt Tryz.prog 169 50 [(.tmp 2), (.tmp 3)] c_ptr_Ptr_Words := txt_of (code := Tryz.f169.body.getD .ret) mixed (by kernel_rfl) Tryz.func169 (by kernel_rfl) Tryz.ntmps169 (by kernel_rfl) (ls := [([1], [(0, [0])]), ([], []), ([1, 4], [(1, [1])]), ([], []), ([1, 4, 6], []), ([], []), ([2, 3], []), ([], []), ([1, 4, 15], []), ([], []), ([2, 3], []), ([], []), ([1, 4, 27], []), ([], []), ([2, 3], []), ([], []), ([999999], []), ([2, 3], []), ([], [])]) (by kernel_rfl)
/-- cento/far.inside -/
def c_far_inside : CC :=
  .seq (.reg [cn (some 3) (.box 153 (.tmp 1)) none [0],
      cn (some 4) (.alloc 153) none [1],
      co (some 5) (.assign (.const (.int .i64 0))) none] [0, 3, 4])
  (.seq (.reg [co (some 9) (.fieldAddr 153 (.tmp 3) 0) none,
      co (some 10) (.load 121 (.tmp 9)) none,
      co (some 11) (.call { callee := (.value (.func 169)), args := #[(.tmp 10)], argTypes := #[121] }) none,
      co (some 8) (.move (.tmp 11)) none,
      co (some 12) (.extract (.tmp 8) 0) none,
      co (some 13) (.extract (.tmp 8) 1) none,
      co (some 6) (.assign (.tmp 12)) none,
      co (some 7) (.assign (.tmp 13)) none] [0, 3, 4, 6])
  (.seq (.seq (.reg [co (some 14) (.move (.tmp 0)) none,
        co (some 15) (.fieldAddr 153 (.tmp 3) 1) none,
        co (some 16) (.load 3 (.tmp 15)) none,
        co (some 17) (.fieldAddr 153 (.tmp 3) 2) none,
        co (some 18) (.load 3 (.tmp 17)) none,
        co (some 19) (.move (.tmp 6)) none,
        co (some 20) (.call { callee := (.value (.func 162)), args := #[(.tmp 14), (.tmp 16), (.tmp 18), (.tmp 19)], argTypes := #[54, 3, 3, 3] }) none,
        co (some 21) (.unOp .not 4 (.tmp 20)) none] [3, 4, 21])
    (.cond (.tmp 21)
      (.seq (.reg [co (some 22) (.build 153 #[]) none,
          co none (.store 153 (.tmp 4) (.tmp 22)) none,
          co (some 5) (.assign (.const (.int .i64 7))) none] [4, 5])
      (.ret))
      (.skip)))
  (.keep [3, 4] (.seq (.reg [co (some 23) (.fieldAddr 153 (.tmp 3) 0) none,
      co (some 24) (.fieldAddr 121 (.tmp 23) 1) none,
      co none (.store 3 (.tmp 24) (.const (.int .i64 0))) none] [3, 4])
  (.seq (.reg [co (some 25) (.load 153 (.tmp 3)) none,
      co none (.store 153 (.tmp 4) (.tmp 25)) none,
      co (some 5) (.assign (.const (.int .i64 0))) none] [4, 5])
  (.ret))))))
theorem t_far_inside : Txt Tryz.prog 163 26 [(.cell 4 153), (.tmp 5)] c_far_inside := txt_of (code := Tryz.f163.body.getD .ret) mixed (by kernel_rfl) Tryz.func163 (by kernel_rfl) Tryz.ntmps163 (by kernel_rfl) (ls := [([0, 3, 4], [(0, [0]), (1, [1])]), ([], []), ([0, 3, 4, 6], []), ([], []), ([3, 4, 21], []), ([], []), ([4, 5], []), ([], []), ([999999, 3, 4], []), ([3, 4], []), ([], []), ([4, 5], []), ([], [])]) (by kernel_rfl)
def k1_far_near : CC :=
  .cond (.tmp 12)
    (.seq (.reg [co (some 15) (.move (.tmp 0)) none,
        co (some 16) (.load 121 (.tmp 5)) none,
        co (some 17) (.move (.tmp 2)) none,
        co (some 18) (.move (.tmp 3)) none,
        co (some 19) (.binOp .add 3 (.tmp 18) (.const (.int .i64 1)) 3) none,
        co (some 20) (.fieldAddr 121 (.tmp 5) 1) none,
        co (some 21) (.load 3 (.tmp 20)) none,
        co (some 22) (.binOp .add 3 (.tmp 19) (.tmp 21) 3) none,
        co (some 23) (.build 153 #[(0, (.tmp 16)), (1, (.tmp 17)), (2, (.tmp 22))]) none,
        co (some 24) (.call { callee := (.value (.func 163)), args := #[(.tmp 15), (.tmp 23)], argTypes := #[54, 153] }) none,
        co (some 25) (.extract (.tmp 24) 0) none,
        co (some 26) (.extract (.tmp 24) 1) none,
        co none (.store 153 (.tmp 8) (.tmp 25)) none,
        co (some 9) (.assign (.tmp 26)) none] [8, 9])
    (.ret))
    (.seq (.reg [co (some 28) (.binOp .eql 3 (.tmp 11) (.const (.int .i64 4)) 3) none,
        co (some 27) (.assign (.tmp 28)) none] [8, 27])
    (.cond (.tmp 27)
      (.seq (.reg [co (some 29) (.build 153 #[]) none,
          co none (.store 153 (.tmp 8) (.tmp 29)) none,
          co (some 9) (.assign (.const (.int .i64 9))) none] [8, 9])
      (.ret))
      (.skip)))
/-- cento/far.near -/
def c_far_near : CC :=
  .seq (.reg [cn (some 5) (.box 121 (.tmp 1)) none [0],
      cn (some 8) (.alloc 153) none [1],
      co (some 9) (.assign (.const (.int .i64 0))) none] [0, 2, 3, 5, 8])
  (.seq (.seq (.reg [co (some 10) (.fieldAddr 121 (.tmp 5) 0) none,
        co (some 11) (.load 3 (.tmp 10)) none] [0, 2, 3, 5, 8, 11])
    (.block 0
      (.seq (.seq (.reg [co (some 13) (.binOp .eql 3 (.tmp 11) (.const (.int .i64 1)) 3) none,
            co (some 12) (.assign (.tmp 13)) none] [0, 2, 3, 5, 8, 11, 12])
        (.cond (.tmp 12)
          (.skip)
          (.reg [co (some 14) (.binOp .eql 3 (.tmp 11) (.const (.int .i64 2)) 3) none,
            co (some 12) (.assign (.tmp 14)) none] [0, 2, 3, 5, 8, 11, 12])))
      (.keep [0, 2, 3, 5, 8, 11, 12] k1_far_near))))
  (.keep [8] (.seq (.reg [co (some 30) (.build 153 #[]) none,
      co none (.store 153 (.tmp 8) (.tmp 30)) none,
      co (some 9) (.assign (.const (.int .i64 8))) none] [8, 9])
  (.ret))))
theorem t_far_near : Txt Tryz.prog 156 31 [(.cell 8 153), (.tmp 9)] c_far_near := txt_of (code := Tryz.f156.body.getD .ret) mixed (by kernel_rfl) Tryz.func156 (by kernel_rfl) Tryz.ntmps156 (by kernel_rfl) (ls := [([0, 2, 3, 5, 8], [(0, [0]), (1, [1])]), ([], []), ([0, 2, 3, 5, 8, 11], []), ([], []), ([0, 2, 3, 5, 8, 11, 12], []), ([], []), ([0, 2, 3, 5, 8, 11, 12], []), ([999999, 0, 2, 3, 5, 8, 11, 12], []), ([8, 9], []), ([], []), ([8, 27], []), ([], []), ([8, 9], []), ([], []), ([999999, 8], []), ([8, 9], []), ([], [])]) (by kernel_rfl)
/-- cento/far.double -/
def c_far_double : CC :=
  .seq (.reg [cn (some 6) (.alloc 153) none [0],
      co (some 7) (.assign (.const (.int .i64 0))) none] [0, 1, 2, 6])
  (.seq (.reg [co (some 13) (.move (.tmp 0)) none,
      co (some 14) (.move (.tmp 1)) none,
      co (some 15) (.move (.tmp 2)) none,
      co (some 16) (.call { callee := (.value (.func 164)), args := #[(.tmp 13), (.tmp 14), (.tmp 15), (.const (.int .i64 2))], argTypes := #[54, 3, 3, 3] }) none,
      co (some 12) (.move (.tmp 16)) none,
      co (some 17) (.extract (.tmp 12) 0) none,
      co (some 18) (.extract (.tmp 12) 1) none,
      co (some 8) (.assign (.tmp 17)) none,
      co (some 9) (.assign (.tmp 18)) none] [0, 6, 8, 9])
  (.seq (.seq (.reg [co (some 19) (.move (.tmp 9)) none,
        co (some 20) (.unOp .not 4 (.tmp 19)) none] [0, 6, 8, 20])
    (.cond (.tmp 20)
      (.seq (.reg [co (some 21) (.build 153 #[]) none,
          co none (.store 153 (.tmp 6) (.tmp 21)) none,
          co (some 7) (.assign (.const (.int .i64 7))) none] [6, 7])
      (.ret))
      (.skip)))
  (.keep [0, 6, 8] (.seq (.reg [co (some 22) (.move (.tmp 8)) none,
      co (some 23) (.indexAddr 22 (.tmp 22) (.const (.int .i64 0))) none,
      ⟨some 24, (.load 60 (.tmp 23)), none, [], 2, [], true⟩,
      ⟨some 25, (.call { callee := (.value (.func 154)), args := #[(.tmp 24)], argTypes := #[60] }), none, [], 3, [], true⟩,
      co (some 26) (.move (.tmp 8)) none,
      co (some 27) (.indexAddr 22 (.tmp 26) (.const (.int .i64 1))) none,
      ⟨some 28, (.load 60 (.tmp 27)), none, [], 6, [3], true⟩,
      ⟨some 29, (.call { callee := (.value (.func 154)), args := #[(.tmp 28)], argTypes := #[60] }), none, [], 7, [], true⟩,
      ⟨some 10, (.alloc 121), none, [1], 8, [2, 3, 6, 7], true⟩,
      ⟨some 11, (.alloc 121), none, [2], 9, [2, 3, 6, 7, 8], false⟩,
      co none (.store 121 (.tmp 10) (.tmp 25)) none,
      co none (.store 121 (.tmp 11) (.tmp 29)) none] [0, 6, 10, 11])
  (.seq (.block 0
      (.seq (.reg [co (some 31) (.fieldAddr 121 (.tmp 10) 0) none,
          co (some 32) (.load 3 (.tmp 31)) none,
          co (some 33) (.binOp .neq 3 (.tmp 32) (.const (.int .i64 3)) 3) none,
          co (some 34) (.move (.tmp 33)) none,
          co (some 35) (.fieldAddr 121 (.tmp 10) 7) (some (34, false)),
          co (some 36) (.load 4 (.tmp 35)) (some (34, false)),
          co (some 37) (.pick (.tmp 34) (.const (.bool true)) (.tmp 36)) none,
          co (some 30) (.assign (.tmp 37)) none] [0, 6, 10, 11, 30])
      (.cond (.tmp 30)
        (.seq (.reg [co (some 38) (.build 153 #[]) none,
            co none (.store 153 (.tmp 6) (.tmp 38)) none,
            co (some 7) (.assign (.const (.int .i64 8))) none] [6, 7])
        (.ret))
        (.seq (.reg [co (some 40) (.fieldAddr 121 (.tmp 11) 0) none,
            co (some 41) (.load 3 (.tmp 40)) none,
            co (some 42) (.binOp .eql 3 (.tmp 41) (.const (.int .i64 4)) 3) none,
            co (some 39) (.assign (.tmp 42)) none] [0, 6, 10, 11, 39])
        (.cond (.tmp 39)
          (.seq (.reg [co (some 43) (.build 153 #[]) none,
              co none (.store 153 (.tmp 6) (.tmp 43)) none,
              co (some 7) (.assign (.const (.int .i64 9))) none] [6, 7])
          (.ret))
          (.seq (.reg [co (some 45) (.fieldAddr 121 (.tmp 11) 0) none,
              co (some 46) (.load 3 (.tmp 45)) none,
              co (some 47) (.binOp .neq 3 (.tmp 46) (.const (.int .i64 1)) 3) none,
              co (some 48) (.move (.tmp 47)) none,
              co (some 49) (.fieldAddr 121 (.tmp 11) 0) (some (48, true)),
              co (some 50) (.load 3 (.tmp 49)) (some (48, true)),
              co (some 51) (.binOp .neq 3 (.tmp 50) (.const (.int .i64 2)) 3) (some (48, true)),
              co (some 52) (.pick (.tmp 48) (.tmp 51) (.const (.bool false))) none,
              co (some 53) (.move (.tmp 52)) none,
              co (some 54) (.fieldAddr 121 (.tmp 11) 1) (some (53, false)),
              co (some 55) (.load 3 (.tmp 54)) (some (53, false)),
              co (some 56) (.binOp .neq 3 (.tmp 55) (.const (.int .i64 0)) 3) (some (53, false)),
              co (some 57) (.pick (.tmp 53) (.const (.bool true)) (.tmp 56)) none,
              co (some 44) (.assign (.tmp 57)) none] [0, 6, 10, 11, 44])
          (.cond (.tmp 44)
            (.seq (.reg [co (some 58) (.build 153 #[]) none,
                co none (.store 153 (.tmp 6) (.tmp 58)) none,
                co (some 7) (.assign (.const (.int .i64 8))) none] [6, 7])
            (.ret))
            (.skip))))))))
  (.keep [0, 6, 10, 11] (.seq (.reg [co (some 59) (.move (.tmp 0)) none,
      co (some 60) (.load 121 (.tmp 11)) none,
      co (some 61) (.fieldAddr 121 (.tmp 10) 6) none,
      co (some 62) (.load 3 (.tmp 61)) none,
      co (some 63) (.fieldAddr 121 (.tmp 10) 1) none,
      co (some 64) (.load 3 (.tmp 63)) none,
      co (some 65) (.build 153 #[(0, (.tmp 60)), (1, (.tmp 62)), (2, (.tmp 64))]) none,
      co (some 66) (.call { callee := (.value (.func 163)), args := #[(.tmp 59), (.tmp 65)], argTypes := #[54, 153] }) none,
      co (some 67) (.extract (.tmp 66) 0) none,
      co (some 68) (.extract (.tmp 66) 1) none,
      co none (.store 153 (.tmp 6) (.tmp 67)) none,
      co (some 7) (.assign (.tmp 68)) none] [6, 7])
  (.ret))))))))
theorem t_far_double : Txt Tryz.prog 157 69 [(.cell 6 153), (.tmp 7)] c_far_double := txt_of (code := Tryz.f157.body.getD .ret) mixed (by kernel_rfl) Tryz.func157 (by kernel_rfl) Tryz.ntmps157 (by kernel_rfl) (ls := [([0, 1, 2, 6], [(0, [0])]), ([], []), ([0, 6, 8, 9], []), ([], []), ([0, 6, 8, 20], []), ([], []), ([6, 7], []), ([], []), ([999999, 0, 6, 8], []), ([0, 6, 10, 11], [(8, [1]), (9, [2])]), ([], []), ([0, 6, 10, 11, 30], []), ([], []), ([6, 7], []), ([], []), ([0, 6, 10, 11, 39], []), ([], []), ([6, 7], []), ([], []), ([0, 6, 10, 11, 44], []), ([], []), ([6, 7], []), ([], []), ([999999, 0, 6, 10, 11], []), ([6, 7], []), ([], [])]) (by kernel_rfl)
/-- cento/far.Follow -/
def c_far_Follow : CC :=
  .seq (.reg [cn (some 6) (.alloc 153) none [0],
      co (some 7) (.assign (.const (.int .i64 0))) none] [0, 1, 2, 6])
  (.seq (.reg [co (some 13) (.move (.tmp 0)) none,
      co (some 14) (.move (.tmp 1)) none,
      co (some 15) (.move (.tmp 2)) none,
      co (some 16) (.call { callee := (.value (.func 155)), args := #[(.tmp 13), (.tmp 14), (.tmp 15)], argTypes := #[54, 3, 3] }) none,
      co (some 12) (.move (.tmp 16)) none,
      co (some 17) (.extract (.tmp 12) 0) none,
      co (some 18) (.extract (.tmp 12) 1) none,
      co (some 8) (.assign (.tmp 17)) none,
      co (some 9) (.assign (.tmp 18)) none] [0, 1, 2, 6, 8, 9])
  (.seq (.seq (.reg [co (some 19) (.move (.tmp 9)) none,
        co (some 20) (.unOp .not 4 (.tmp 19)) none] [0, 1, 2, 6, 8, 20])
    (.cond (.tmp 20)
      (.seq (.reg [co (some 21) (.build 153 #[]) none,
          co none (.store 153 (.tmp 6) (.tmp 21)) none,
          co (some 7) (.assign (.const (.int .i64 7))) none] [6, 7])
      (.ret))
      (.skip)))
  (.keep [0, 1, 2, 6, 8] (.seq (.reg [co (some 22) (.move (.tmp 8)) none,
      co (some 23) (.call { callee := (.value (.func 154)), args := #[(.tmp 22)], argTypes := #[60] }) none,
      cn (some 10) (.alloc 121) none [1],
      co none (.store 121 (.tmp 10) (.tmp 23)) none] [0, 1, 2, 6, 10])
  (.seq (.block 0
      (.seq (.reg [co (some 25) (.fieldAddr 121 (.tmp 10) 0) none,
          co (some 26) (.load 3 (.tmp 25)) none,
          co (some 27) (.binOp .eql 3 (.tmp 26) (.const (.int .i64 0)) 3) none,
          co (some 24) (.assign (.tmp 27)) none] [0, 1, 2, 6, 10, 24])
      (.cond (.tmp 24)
        (.seq (.reg [co (some 28) (.build 153 #[]) none,
            co none (.store 153 (.tmp 6) (.tmp 28)) none,
            co (some 7) (.assign (.const (.int .i64 0))) none] [6, 7])
        (.ret))
        (.seq (.reg [co (some 30) (.fieldAddr 121 (.tmp 10) 0) none,
            co (some 31) (.load 3 (.tmp 30)) none,
            co (some 32) (.binOp .neq 3 (.tmp 31) (.const (.int .i64 3)) 3) none,
            co (some 29) (.assign (.tmp 32)) none] [0, 1, 2, 6, 10, 29])
        (.cond (.tmp 29)
          (.seq (.reg [co (some 33) (.move (.tmp 0)) none,
              co (some 34) (.load 121 (.tmp 10)) none,
              co (some 35) (.move (.tmp 1)) none,
              co (some 36) (.move (.tmp 2)) none,
              co (some 37) (.call { callee := (.value (.func 156)), args := #[(.tmp 33), (.tmp 34), (.tmp 35), (.tmp 36)], argTypes := #[54, 121, 3, 3] }) none,
              co (some 38) (.extract (.tmp 37) 0) none,
              co (some 39) (.extract (.tmp 37) 1) none,
              co none (.store 153 (.tmp 6) (.tmp 38)) none,
              co (some 7) (.assign (.tmp 39)) none] [6, 7])
          (.ret))
          (.seq (.reg [co (some 41) (.fieldAddr 121 (.tmp 10) 7) none,
              co (some 42) (.load 4 (.tmp 41)) none,
              co (some 40) (.assign (.tmp 42)) none] [0, 6, 10, 40])
          (.cond (.tmp 40)
            (.seq (.reg [co (some 43) (.move (.tmp 0)) none,
                co (some 44) (.fieldAddr 121 (.tmp 10) 6) none,
                co (some 45) (.load 3 (.tmp 44)) none,
                co (some 46) (.fieldAddr 121 (.tmp 10) 1) none,
                co (some 47) (.load 3 (.tmp 46)) none,
                co (some 48) (.call { callee := (.value (.func 157)), args := #[(.tmp 43), (.tmp 45), (.tmp 47)], argTypes := #[54, 3, 3] }) none,
                co (some 49) (.extract (.tmp 48) 0) none,
                co (some 50) (.extract (.tmp 48) 1) none,
                co none (.store 153 (.tmp 6) (.tmp 49)) none,
                co (some 7) (.assign (.tmp 50)) none] [6, 7])
            (.ret))
            (.skip))))))))
  (.keep [0, 6, 10] (.seq (.reg [co (some 52) (.move (.tmp 0)) none,
      co (some 53) (.fieldAddr 121 (.tmp 10) 6) none,
      co (some 54) (.load 3 (.tmp 53)) none,
      co (some 55) (.fieldAddr 121 (.tmp 10) 1) none,
      co (some 56) (.load 3 (.tmp 55)) none,
      co (some 57) (.call { callee := (.value (.func 155)), args := #[(.tmp 52), (.tmp 54), (.tmp 56)], argTypes := #[54, 3, 3] }) none,
      co (some 51) (.move (.tmp 57)) none,
      co (some 58) (.extract (.tmp 51) 0) none,
      co (some 59) (.extract (.tmp 51) 1) none,
      co (some 11) (.assign (.tmp 58)) none,
      co (some 9) (.assign (.tmp 59)) none] [0, 6, 9, 10, 11])
  (.seq (.seq (.reg [co (some 60) (.move (.tmp 9)) none,
        co (some 61) (.unOp .not 4 (.tmp 60)) none] [0, 6, 10, 11, 61])
    (.cond (.tmp 61)
      (.seq (.reg [co (some 62) (.build 153 #[]) none,
          co none (.store 153 (.tmp 6) (.tmp 62)) none,
          co (some 7) (.assign (.const (.int .i64 7))) none] [6, 7])
      (.ret))
      (.skip)))
  (.keep [0, 6, 10, 11] (.seq (.reg [co (some 63) (.move (.tmp 0)) none,
      co (some 64) (.move (.tmp 11)) none,
      ⟨some 65, (.call { callee := (.value (.func 154)), args := #[(.tmp 64)], argTypes := #[60] }), none, [], 2, [], true⟩,
      co (some 66) (.fieldAddr 121 (.tmp 10) 6) none,
      ⟨some 67, (.load 3 (.tmp 66)), none, [], 4, [2], false⟩,
      co (some 68) (.fieldAddr 121 (.tmp 10) 1) none,
      ⟨some 69, (.load 3 (.tmp 68)), none, [], 6, [2], false⟩,
      co (some 70) (.call { callee := (.value (.func 156)), args := #[(.tmp 63), (.tmp 65), (.tmp 67), (.tmp 69)], argTypes := #[54, 121, 3, 3] }) none,
      co (some 71) (.extract (.tmp 70) 0) none,
      co (some 72) (.extract (.tmp 70) 1) none,
      co none (.store 153 (.tmp 6) (.tmp 71)) none,
      co (some 7) (.assign (.tmp 72)) none] [6, 7])
  (.ret)))))))))))
theorem t_far_Follow : Txt Tryz.prog 135 73 [(.cell 6 153), (.tmp 7)] c_far_Follow := txt_of (code := Tryz.f135.body.getD .ret) mixed (by kernel_rfl) Tryz.func135 (by kernel_rfl) Tryz.ntmps135 (by kernel_rfl) (ls := [([0, 1, 2, 6], [(0, [0])]), ([], []), ([0, 1, 2, 6, 8, 9], []), ([], []), ([0, 1, 2, 6, 8, 20], []), ([], []), ([6, 7], []), ([], []), ([999999, 0, 1, 2, 6, 8], []), ([0, 1, 2, 6, 10], [(2, [1])]), ([], []), ([0, 1, 2, 6, 10, 24], []), ([], []), ([6, 7], []), ([], []), ([0, 1, 2, 6, 10, 29], []), ([], []), ([6, 7], []), ([], []), ([0, 6, 10, 40], []), ([], []), ([6, 7], []), ([], []), ([999999, 0, 6, 10], []), ([0, 6, 9, 10, 11], []), ([], []), ([0, 6, 10, 11, 61], []), ([], []), ([6, 7], []), ([], []), ([999999, 0, 6, 10, 11], []), ([6, 7], []), ([], [])]) (by kernel_rfl)
end Go.Proofs.YthfiijdbnkaabaaGreat

/-
  Chapter 6's functions: arenas that are only read.
-/
namespace Go.Proofs.YthfiijdbnkaabaaGreat
set_option linter.unusedVariables false
set_option linter.unusedSimpArgs false
open Go Go.G Go.Proofs
abbrev ws (l : List Int) : A := .sl false (l.map uv)
abbrev sgs (l : List (List Int)) : A := .sl false (l.map ws)
@[simp] theorem lens_uv (l : List Int) : lens 1 (l.map uv) = true := by simp [lens]
@[simp] theorem lens_ws (l : List (List Int)) : lens 1 (l.map ws) = true := by simp [lens]
theorem clone_spec (f : Bool) (l : List Int) (h : l.length * 8 ≤ 140737488355328) : SpecB Tryz.prog 66 [.sl f (l.map uv)] (ws l) := by
  cases l with
  | nil =>
    refine specB_nil (fun cap => ?_) (fun a cap => ?_)
    · refine specB_of t_slices_Clone_uint64_uint64 (by simp) fun w0 I0 => ?_
      unfold c_slices_Clone_uint64_uint64
      simp
      exact frzN_nil
    · refine specB_of t_slices_Clone_uint64_uint64 (by simp) fun w0 I0 => ?_
      unfold c_slices_Clone_uint64_uint64
      simp
      exact frzN_osl (sz := 1) (xs := []) (by simp) (by simp) (by simp)
  | cons x l =>
    refine specB_of t_slices_Clone_uint64_uint64 (by simp) fun w0 I0 => ?_
    unfold c_slices_Clone_uint64_uint64
    simp at h ⊢
    refine ⟨h, ?_⟩
    have := frzN_osl (H := lkH [([0], { u := 1, ob := Ob.arr 1 (uv x :: l.map uv) })]) (o := [0]) (u := 1) (off := 0) (len := l.length + 1) (sz := 1) (xs := uv x :: l.map uv) (by simp) (by simp) (by simp [A.flat1, List.take_of_length_le])
    simp [List.take_of_length_le] at this
    exact this
theorem of_loop {n : Nat} {w0 : World} {I0 : Nat → Prop} {Q : Exit → Sta → Prop} {l : List (List Int)} (hl : l.length * 24 ≤ 140737488355328) (hb : ∀ x, x ∈ l → x.length * 8 ≤ 140737488355328) : ∀ (k i u : Nat), i + k = l.length →
    (∀ u', Q (.exit 0) ⟨lk [(3, .pob [0] 1 0), (8, sgs l), (9, iv l.length), (10, iv l.length), (11, bv false)], lkH [([0], ⟨1, .cells [.osl [1] u' 1 0 l.length, iv 0, iv 0, iv 0]⟩), ([1], ⟨u', .arr 1 (l.map ws)⟩)]⟩) →
    LoopC (cx Tryz.prog w0 I0 n) l1_arena_Of Q ⟨lk [(3, .pob [0] 1 0), (8, sgs l), (9, iv l.length), (10, iv i)], lkH [([0], ⟨1, .cells [.osl [1] u 1 0 i, iv 0, iv 0, iv 0]⟩), ([1], ⟨u, .arr 1 ((l.map ws).take i)⟩)]⟩ := by
  intro k
  induction k with
  | zero =>
    intro i u hi hq
    have : i = l.length := by omega
    subst this
    refine loopC_once mixed l1_arena_Of.eq_1 ?_
    simp
    simpa [List.take_of_length_le] using hq u
  | succ k ih =>
    intro i u hi hq
    have hlt : i < l.length := by omega
    refine loopC_once mixed l1_arena_Of.eq_1 ?_
    simp [hlt]
    refine sc_call (clone_spec false _ (hb _ (List.getElem_mem _))).spec rfl ?_
    simp
    have h24 : (i + 1) * 24 ≤ 140737488355328 := by omega
    refine ⟨⟨by omega, h24⟩, ?_⟩
    rw [i64_same (by omega) (by omega)]
    have := ih (i + 1) (u + 1) (by omega) hq
    rw [List.take_succ_eq_append_getElem (by simpa using hlt)] at this
    simpa [List.take_take] using this
/-- An arena that is only read. -/
abbrev arX (l : List (List Int)) (z m u : Int) : A := .pim [sgs l, iv z, iv m, iv u]
abbrev arn (l : List (List Int)) : A := arX l 0 0 0
theorem frz_sgs {H : Hp} {o : Nm} {u n : Nat} {l : List (List Int)} (h : vr (H o) u = some (1, l.map ws)) (hn : n = l.length) : Frz H (.osl o u 1 0 n) (sgs l) := by
  subst hn
  have := frz_osl (H := H) (o := o) (u := u) (off := 0) (len := l.length) (sz := 1) (xs := l.map ws) (by simpa using h) (by simp) (by simp [List.take_of_length_le])
  simp [List.take_of_length_le] at this
  exact this
theorem of_spec (l : List (List Int)) (hl : l.length * 24 ≤ 140737488355328) (hb : ∀ x, x ∈ l → x.length * 8 ≤ 140737488355328) : G.Spec Tryz.prog 32 [sgs l] (arn l) := by
  refine spec_of t_arena_Of (by simp) fun w0 I0 => ?_
  unfold c_arena_Of
  simp
  refine LoopC.le (le_blankC (d := [0]) 0 [1] 1 rfl rfl (by simp)) ?_
  simp
  refine of_loop hl hb l.length 0 1 (by omega) (fun u' => ?_)
  simp
  refine frz_pob (by simp; rfl) ?_ (by simp)
  simp
  exact ⟨frz_sgs (by simp) rfl, frz_bare rfl⟩
theorem len_spec {z m u : Int} (l : List (List Int)) : G.Spec Tryz.prog 168 [arX l z m u] (iv l.length) := by
  refine spec_of t_arena_Arena_Len (by simp) fun w0 I0 => ?_
  unfold c_arena_Arena_Len
  simp
  exact frz_bare rfl
/-- A segment; its length. -/
def seg (l : List (List Int)) (s : Int) : Option (List Int) := if 0 ≤ s then l[s.toNat]? else none
def szAt (l : List (List Int)) (s : Int) : Nat := ((seg l s).map List.length).getD 0
theorem seg_in {l : List (List Int)} {s : Int} (h0 : 0 ≤ s) (h1 : s < l.length) : ∃ h : s.toNat < l.length, seg l s = some l[s.toNat] := by
  have : s.toNat < l.length := by omega
  exact ⟨this, by simp [seg, h0, this]⟩
theorem seg_out {l : List (List Int)} {s : Int} (h : s < 0 ∨ l.length ≤ s) : seg l s = none := by
  unfold seg
  split
  · rw [List.getElem?_eq_none_iff]; omega
  · rfl
theorem seg_some {l : List (List Int)} {s : Int} {g : List Int} (h : seg l s = some g) : 0 ≤ s ∧ s < l.length ∧ ∃ h : s.toNat < l.length, g = l[s.toNat] := by
  unfold seg at h
  split at h
  · obtain ⟨h1, h2⟩ := List.getElem?_eq_some_iff.1 h
    exact ⟨by assumption, by omega, h1, h2.symm⟩
  · cases h
theorem size_spec {z m u : Int} (l : List (List Int)) (s : Int) : G.Spec Tryz.prog 167 [arX l z m u, iv s] (iv (szAt l s)) := by
  refine spec_of t_arena_Arena_Size (by simp) fun w0 I0 => ?_
  unfold c_arena_Arena_Size
  simp
  refine sc_call_gf rfl (fun _ => len_spec (z := z) (m := m) (u := u) l) (fun e => by simp [e]) rfl ?_
  simp
  refine ⟨fun h => ?_, fun h0 h1 => ?_⟩
  · rw [szAt, seg_out h]
    exact frz_bare rfl
  · obtain ⟨h2, e1⟩ := seg_in h0 h1
    simp [h0, h1, h2]
    rw [szAt, e1]
    exact frz_int rfl
/-- Are so many words, from one on, in a segment? -/
def hasW (l : List (List Int)) (s a n : Int) : Bool := decide (0 ≤ s ∧ s < l.length ∧ 0 ≤ a ∧ 0 ≤ n ∧ a + n ≤ szAt l s)
theorem has_spec {z m u : Int} (l : List (List Int)) (hb : ∀ x, x ∈ l → x.length * 8 ≤ 140737488355328) (s a n : Int) : G.Spec Tryz.prog 162 [arX l z m u, iv s, iv a, iv n] (bv (hasW l s a n)) := by
  have hz : szAt l s * 8 ≤ 140737488355328 := by
    unfold szAt
    cases h : seg l s with
    | none => simp
    | some g =>
      obtain ⟨_, _, h2, rfl⟩ := seg_some h
      simpa using hb _ (List.getElem_mem h2)
  refine spec_of t_arena_Arena_Has (by simp) fun w0 I0 => ?_
  unfold c_arena_Arena_Has
  simp
  refine sc_call (size_spec l s) rfl ?_
  simp
  refine sc_call_gt rfl (fun _ => len_spec (z := z) (m := m) (u := u) l) (fun e => by simp [e]) rfl ?_
  simp
  refine frz_bool ?_
  rw [Bool.eq_iff_iff]
  simp only [Bool.and_eq_true, decide_eq_true_eq, hasW]
  constructor
  · rintro ⟨⟨⟨⟨⟨h1, h2⟩, h3⟩, h4⟩, h5⟩, h6⟩
    rw [i64_same (by omega) (by omega)] at h6
    omega
  · rintro ⟨h1, h2, h3, h4, h5⟩
    rw [i64_same (by omega) (by omega)]
    omega
/-- A word. -/
def word (l : List (List Int)) (s a : Int) : Option Int := if 0 ≤ a then (seg l s).bind fun g => g[a.toNat]? else none
theorem hasW_one {l : List (List Int)} {s a : Int} : hasW l s a 1 = (word l s a).isSome := by
  rw [Bool.eq_iff_iff]
  simp only [hasW, decide_eq_true_eq]
  simp only [word, szAt]
  constructor
  · rintro ⟨h1, h2, h3, h4, h5⟩
    obtain ⟨h6, e1⟩ := seg_in h1 h2
    rw [e1] at h5
    simp at h5
    simp [h3, e1]
    omega
  · intro h
    split at h
    · rename_i h3
      cases e : seg l s with
      | none => simp [e] at h
      | some g =>
        obtain ⟨k1, k2, _⟩ := seg_some e
        simp [e] at h
        simp
        omega
    · simp at h
theorem word_some {l : List (List Int)} {s a x : Int} (h : word l s a = some x) : 0 ≤ s ∧ s < l.length ∧ 0 ≤ a ∧ ∃ (h1 : s.toNat < l.length) (h2 : a.toNat < l[s.toNat].length), x = l[s.toNat][a.toNat] := by
  unfold word at h
  split at h
  · rename_i h3
    cases e : seg l s with
    | none => simp [e] at h
    | some g =>
      obtain ⟨k1, k2, k3, rfl⟩ := seg_some e
      simp only [e, Option.bind_some] at h
      obtain ⟨h1, h2⟩ := List.getElem?_eq_some_iff.1 h
      exact ⟨k1, k2, h3, k3, h1, h2.symm⟩
  · cases h
theorem get_spec {z m u : Int} (l : List (List Int)) (hb : ∀ x, x ∈ l → x.length * 8 ≤ 140737488355328) (s a : Int) : G.Spec Tryz.prog 155 [arX l z m u, iv s, iv a] (.tup [uv ((word l s a).getD 0), bv (word l s a).isSome]) := by
  refine spec_of t_arena_Arena_Get (by simp) fun w0 I0 => ?_
  unfold c_arena_Arena_Get
  simp
  refine sc_call (has_spec l hb s a 1) rfl ?_
  simp [hasW_one]
  cases h : word l s a with
  | none =>
    simp
    exact frz_bare rfl
  | some x =>
    obtain ⟨k1, k2, k3, k4, k5, rfl⟩ := word_some h
    have k6 : a < l[s.toNat].length := by omega
    simp [k1, k2, k3, k4, k5, k6]
    exact frz_bare rfl
/-- Words. -/
def part (l : List (List Int)) (s a n : Int) : List Int := (((seg l s).getD []).drop a.toNat).take n.toNat
theorem hasW_in {l : List (List Int)} {s a n : Int} (h : hasW l s a n = true) : 0 ≤ s ∧ s < l.length ∧ 0 ≤ a ∧ 0 ≤ n ∧ ∃ h : s.toNat < l.length, seg l s = some l[s.toNat] ∧ a + n ≤ l[s.toNat].length := by
  simp only [hasW, decide_eq_true_eq] at h
  obtain ⟨h1, h2, h3, h4, h5⟩ := h
  obtain ⟨h6, e1⟩ := seg_in h1 h2
  rw [szAt, e1] at h5
  exact ⟨h1, h2, h3, h4, h6, e1, h5⟩
theorem part_spec {z m u : Int} (l : List (List Int)) (hb : ∀ x, x ∈ l → x.length * 8 ≤ 140737488355328) (s a n : Int) : G.Spec Tryz.prog 164 [arX l z m u, iv s, iv a, iv n] (if hasW l s a n = true then .tup [ws (part l s a n), bv true] else .tup [ws [], bv false]) := by
  refine spec_of t_arena_Arena_Part (by simp) fun w0 I0 => ?_
  unfold c_arena_Arena_Part
  simp
  refine sc_call (has_spec l hb s a n) rfl ?_
  cases h : hasW l s a n with
  | false =>
    simp
    refine frz_tup ?_
    simp
    exact ⟨frz_sl, frz_bare rfl⟩
  | true =>
    obtain ⟨h1, h2, h3, h4, h5, e1, h6⟩ := hasW_in h
    have hg := hb _ (List.getElem_mem h5)
    simp [h1, h2, h5]
    rw [i64_same (by omega) (by omega)]
    have h7 : 0 ≤ a + n := by omega
    have h8 : a ≤ max (a + n) 0 := by omega
    simp [h3, h6, h7, h4, h8]
    have e : List.take ((a + n).toNat - a.toNat) (List.drop a.toNat (List.map uv l[s.toNat])) = (part l s a n).map uv := by
      rw [part, e1, show (a + n).toNat - a.toNat = n.toNat from by omega]
      simp
    rw [e]
    have hl : (part l s a n).length * 8 ≤ 140737488355328 := by
      rw [part, e1]
      simp
      omega
    refine sc_call (clone_spec _ _ hl).spec rfl ?_
    simp
    exact frz_bare rfl
end Go.Proofs.YthfiijdbnkaabaaGreat

/-
  Chapter 6: far pointers are followed, by the program and by the document.
-/
namespace Go.Proofs.YthfiijdbnkaabaaGreat
set_option linter.unusedVariables false
set_option linter.unusedSimpArgs false
open Go Go.G Go.Proofs
/-- How many bits each kid has. -/
def bitsOf (c : Int) : Int := if c = 0 then 0 else if c = 1 then 1 else if c = 2 then 8 else if c = 3 then 16 else if c = 4 then 32 else 64
/-- How many words what is pointed to takes. -/
def wordsP (p : Pt) : Option Int :=
  if p.kind = 1 then some (p.data + p.ptrs)
  else if p.kind = 2 ∧ p.code = 7 then some (p.count + 1)
  else if p.kind = 2 ∧ 0 ≤ p.code ∧ p.code ≤ 6 ∧ 0 ≤ p.count ∧ p.count ≤ 536870911 then some ((p.count * bitsOf p.code + 63) / 64)
  else none
/-- Its sums do not turn round. -/
def Sums (p : Pt) : Prop := -9223372036854775808 ≤ p.data + p.ptrs ∧ p.data + p.ptrs < 9223372036854775808 ∧ -9223372036854775808 ≤ p.count + 1 ∧ p.count + 1 < 9223372036854775808
set_option maxRecDepth 8000 in
theorem words_spec (p : Pt) (hs : Sums p) : G.Spec Tryz.prog 169 [p.a] (.tup [iv ((wordsP p).getD 0), bv (wordsP p).isSome]) := by
  obtain ⟨s1, s2, s3, s4⟩ := hs
  refine spec_of t_ptr_Ptr_Words (by simp) fun w0 I0 => ?_
  unfold c_ptr_Ptr_Words
  simp
  refine ⟨fun h => ?_, fun h => ⟨fun h2 h3 => ?_, fun h2 => ?_⟩⟩
  · rw [i64_same s1 s2]
    refine frz_is rfl ?_
    simp [wordsP, h]
  · rw [i64_same s3 s4]
    refine frz_is rfl ?_
    simp [wordsP, h, h2, h3]
  · refine sc_call_gt rfl (fun _ => within_spec p.code 6) (fun e => by simp [e]) rfl ?_
    simp
    refine sc_call_gt rfl (fun _ => within_spec p.count 536870911) (fun e => by simp [e]) rfl ?_
    simp
    refine ⟨fun a1 a2 a3 a4 a5 => ?_, fun hn => ?_⟩
    · obtain ⟨k, o, d, q, co, n, sg, b⟩ := p
      simp only at *
      have hc : co = 0 ∨ co = 1 ∨ co = 2 ∨ co = 3 ∨ co = 4 ∨ co = 5 ∨ co = 6 := by omega
      rcases hc with rfl | rfl | rfl | rfl | rfl | rfl | rfl
      all_goals
        simp
        simp (disch := omega) only [i64_same, Int.tdiv_eq_ediv_of_nonneg]
        refine frz_is rfl ?_
        simp [wordsP, a1, a4, a5, bitsOf]
    · refine frz_is rfl ?_
      have e : wordsP p = none := by
        rw [wordsP, if_neg h, if_neg (fun ⟨h3, h4⟩ => h2 h3 h4), if_neg (fun ⟨b1, b2, b3, b4, b5⟩ => by have := hn b1 b2 b3 b4; omega)]
      simp [e]
/-- What a pointer points to. -/
structure Lc where
  p : Pt
  s : Int
  at_ : Int
deriving DecidableEq
def Pt.l (p : Pt) : List A := [iv p.kind, iv p.off, iv p.data, iv p.ptrs, iv p.code, iv p.count, iv p.seg, bv p.dbl]
@[simp] theorem Pt.l_eq (p : Pt) : p.l = [iv p.kind, iv p.off, iv p.data, iv p.ptrs, iv p.code, iv p.count, iv p.seg, bv p.dbl] := rfl
def Pt.zero : Pt := ⟨0, 0, 0, 0, 0, 0, 0, false⟩
def Lc.zero : Lc := ⟨Pt.zero, 0, 0⟩
abbrev Lc.a (x : Lc) : A := .agg [iv x.p.kind, iv x.p.off, iv x.p.data, iv x.p.ptrs, iv x.p.code, iv x.p.count, iv x.p.seg, bv x.p.dbl, iv x.s, iv x.at_]
/-- All of it in its segment? -/
def insideP (l : List (List Int)) (x : Lc) : Lc × Int := if hasW l x.s x.at_ ((wordsP x.p).getD 0) = true then (⟨{ x.p with off := 0 }, x.s, x.at_⟩, 0) else (Lc.zero, 7)
theorem inside_spec (l : List (List Int)) (hb : ∀ x, x ∈ l → x.length * 8 ≤ 140737488355328) (x : Lc) (hs : Sums x.p) : G.Spec Tryz.prog 163 [arn l, x.a] (.tup [(insideP l x).1.a, iv (insideP l x).2]) := by
  refine spec_of t_far_inside (by simp) fun w0 I0 => ?_
  unfold c_far_inside
  simp
  refine sc_call (words_spec x.p hs) rfl ?_
  simp
  refine sc_call (has_spec l hb _ _ _) rfl ?_
  simp
  refine ⟨fun h => ?_, fun h => ?_⟩
  · refine frz_is rfl ?_
    simp [insideP, h]
  · refine frz_is rfl ?_
    simp [insideP, h, Lc.zero, Pt.zero]
def nearP (l : List (List Int)) (p : Pt) (s a : Int) : Lc × Int :=
  if p.kind = 1 ∨ p.kind = 2 then insideP l ⟨p, s, a + 1 + p.off⟩ else if p.kind = 4 then (Lc.zero, 9) else (Lc.zero, 8)
theorem far_near_spec (l : List (List Int)) (hb : ∀ x, x ∈ l → x.length * 8 ≤ 140737488355328) (p : Pt) (s a : Int) (hs : Sums p) (h1 : -1000000000000000000 ≤ a) (h2 : a ≤ 1000000000000000000) (h3 : -1000000000000000000 ≤ p.off) (h4 : p.off ≤ 1000000000000000000) :
    G.Spec Tryz.prog 156 [arn l, p.a, iv s, iv a] (.tup [(nearP l p s a).1.a, iv (nearP l p s a).2]) := by
  refine spec_of t_far_near (by simp) fun w0 I0 => ?_
  unfold c_far_near
  simp
  have go : p.kind = 1 ∨ p.kind = 2 → nearP l p s a = insideP l ⟨p, s, a + 1 + p.off⟩ := fun h => by rw [nearP, if_pos h]
  refine ⟨fun h => ?_, fun h => ?_⟩
  · have hd : decide (p.kind = 1) = true := by simp [h]
    rw [k1_far_near.eq_1]
    simp [hd]
    simp (disch := omega) only [i64_same]
    refine sc_call (inside_spec l hb ⟨p, s, a + 1 + p.off⟩ hs) rfl ?_
    simp
    rw [go (.inl h)]
    exact frz_bare rfl
  · rw [k1_far_near.eq_1]
    simp
    refine ⟨fun h2 => ?_, fun h2 => ⟨fun h4 => ?_, fun h4 => ?_⟩⟩
    · simp (disch := omega) only [i64_same]
      refine sc_call (inside_spec l hb ⟨p, s, a + 1 + p.off⟩ hs) rfl ?_
      simp
      rw [go (.inr h2)]
      exact frz_bare rfl
    · refine frz_is rfl ?_
      simp [nearP, h4, Lc.zero, Pt.zero]
    · refine frz_is rfl ?_
      simp [nearP, h, h2, h4, Lc.zero, Pt.zero]
/-- All of it are words. -/
def Wds (l : List (List Int)) : Prop := ∀ x, x ∈ l → ∀ y, y ∈ x → 0 ≤ y ∧ y < 18446744073709551616
theorem dec_sums {w : Int} (h0 : 0 ≤ w) (h1 : w < 18446744073709551616) : Sums (dec w) := by
  unfold Sums dec
  repeat' split
  all_goals simp only
  all_goals omega
theorem dec_off {w : Int} (h0 : 0 ≤ w) (h1 : w < 18446744073709551616) : -536870912 ≤ (dec w).off ∧ (dec w).off ≤ 536870912 ∧ 0 ≤ (dec w).seg ∧ (dec w).seg < 4294967296 := by
  obtain ⟨o1, o2, _⟩ := offs_in w
  unfold dec
  repeat' split
  all_goals simp only
  all_goals omega
theorem word_in {l : List (List Int)} (hw : Wds l) {s a x : Int} (h : word l s a = some x) : 0 ≤ x ∧ x < 18446744073709551616 := by
  obtain ⟨_, _, _, h1, h2, rfl⟩ := word_some h
  exact hw _ (List.getElem_mem h1) _ (List.getElem_mem h2)
/-- Two words: a far pointer to what is meant, and its shape. -/
def doubleP (l : List (List Int)) (s a : Int) : Lc × Int :=
  match word l s a, word l s (a + 1) with
  | some v, some w =>
    if (dec v).kind ≠ 3 ∨ (dec v).dbl = true then (Lc.zero, 8)
    else if (dec w).kind = 4 then (Lc.zero, 9)
    else if ((dec w).kind ≠ 1 ∧ (dec w).kind ≠ 2) ∨ (dec w).off ≠ 0 then (Lc.zero, 8)
    else insideP l ⟨dec w, (dec v).seg, (dec v).off⟩
  | _, _ => (Lc.zero, 7)
theorem hasW_two {l : List (List Int)} {s a : Int} : hasW l s a 2 = ((word l s a).isSome && (word l s (a + 1)).isSome) := by
  rw [← hasW_one, ← hasW_one, Bool.eq_iff_iff]
  simp only [hasW, Bool.and_eq_true, decide_eq_true_eq]
  omega
theorem part_two {l : List (List Int)} {s a v w : Int} (h1 : word l s a = some v) (h2 : word l s (a + 1) = some w) : part l s a 2 = [v, w] := by
  obtain ⟨k1, k2, k3, k4, k5, rfl⟩ := word_some h1
  obtain ⟨_, _, k6, _, k7, rfl⟩ := word_some h2
  obtain ⟨_, e⟩ := seg_in k1 k2
  have e1 : (a + 1).toNat = a.toNat + 1 := by omega
  simp only [e1] at k7
  rw [part, e]
  simp only [Option.getD_some, e1]
  rw [List.drop_eq_getElem_cons k5, List.drop_eq_getElem_cons k7]
  rfl
theorem double_spec (l : List (List Int)) (hb : ∀ x, x ∈ l → x.length * 8 ≤ 140737488355328) (hw : Wds l) (s a : Int) :
    G.Spec Tryz.prog 157 [arn l, iv s, iv a] (.tup [(doubleP l s a).1.a, iv (doubleP l s a).2]) := by
  refine spec_of t_far_double (by simp) fun w0 I0 => ?_
  unfold c_far_double
  simp
  refine sc_call (part_spec l hb s a 2) rfl ?_
  rw [hasW_two]
  cases h1 : word l s a with
  | none =>
    simp
    refine frz_is rfl ?_
    simp [doubleP, h1, Lc.zero, Pt.zero]
  | some v =>
    cases h2 : word l s (a + 1) with
    | none =>
      simp
      refine frz_is rfl ?_
      simp [doubleP, h1, h2, Lc.zero, Pt.zero]
    | some w =>
      obtain ⟨v0, v1⟩ := word_in hw h1
      obtain ⟨w0', w1⟩ := word_in hw h2
      rw [part_two h1 h2]
      simp
      refine sc_call (Decode_spec v0 v1) rfl ?_
      simp
      refine sc_call (Decode_spec w0' w1) rfl ?_
      simp
      have hs := dec_sums w0' w1
      generalize hv : dec v = p
      generalize hq : dec w = q at hs
      have e : doubleP l s a = if p.kind ≠ 3 ∨ p.dbl = true then (Lc.zero, 8) else if q.kind = 4 then (Lc.zero, 9) else if (q.kind ≠ 1 ∧ q.kind ≠ 2) ∨ q.off ≠ 0 then (Lc.zero, 8) else insideP l ⟨q, p.seg, p.off⟩ := by
        simp only [doubleP, h1, h2, hv, hq]
      refine ⟨fun h => ?_, fun a1 a2 => ⟨fun h3 => ?_, fun h3 => ⟨fun h4 => ?_, fun h4 h5 => ?_⟩⟩⟩
      · rw [e, if_pos h]
        exact frz_bare rfl
      · rw [e, if_neg (by simp [a1, a2]), if_pos h3]
        exact frz_bare rfl
      · rw [e, if_neg (by simp [a1, a2]), if_neg h3, if_pos (by simpa using h4)]
        exact frz_bare rfl
      · refine sc_call (inside_spec l hb ⟨q, p.seg, p.off⟩ hs) rfl ?_
        simp
        rw [e, if_neg (by simp [a1, a2]), if_neg h3, if_neg (by simp [h5]; omega)]
        exact frz_bare rfl
/-- What the pointer points to that stands in a word. -/
def followP (l : List (List Int)) (s a : Int) : Lc × Int :=
  match word l s a with
  | none => (Lc.zero, 7)
  | some w =>
    if (dec w).kind = 0 then (Lc.zero, 0)
    else if (dec w).kind ≠ 3 then nearP l (dec w) s a
    else if (dec w).dbl = true then doubleP l (dec w).seg (dec w).off
    else match word l (dec w).seg (dec w).off with
      | none => (Lc.zero, 7)
      | some v => nearP l (dec v) (dec w).seg (dec w).off
theorem follow_spec (l : List (List Int)) (hb : ∀ x, x ∈ l → x.length * 8 ≤ 140737488355328) (hw : Wds l) (s a : Int) :
    G.Spec Tryz.prog 135 [arn l, iv s, iv a] (.tup [(followP l s a).1.a, iv (followP l s a).2]) := by
  refine spec_of t_far_Follow (by simp) fun w0 I0 => ?_
  unfold c_far_Follow
  simp
  refine sc_call (get_spec l hb s a) rfl ?_
  simp
  cases h1 : word l s a with
  | none =>
    simp
    refine frz_is rfl ?_
    simp [followP, h1, Lc.zero, Pt.zero]
  | some w =>
    obtain ⟨k1, k2, k3, k4, k5, _⟩ := word_some h1
    have hla := hb _ (List.getElem_mem k4)
    obtain ⟨v0, v1⟩ := word_in hw h1
    simp
    refine sc_call (Decode_spec v0 v1) rfl ?_
    simp
    have hs := dec_sums v0 v1
    obtain ⟨o1, o2, o3, o4⟩ := dec_off v0 v1
    generalize hv : dec w = p at *
    have e : followP l s a = if p.kind = 0 then (Lc.zero, 0) else if p.kind ≠ 3 then nearP l p s a else if p.dbl = true then doubleP l p.seg p.off else match word l p.seg p.off with | none => (Lc.zero, 7) | some v => nearP l (dec v) p.seg p.off := by
      simp only [followP, h1, hv]
    refine ⟨fun h0 => ?_, fun h0 => ⟨fun h3 => ⟨fun hd => ?_, fun hd => ?_⟩, fun h3 => ?_⟩⟩
    · rw [e, if_pos h0]
      exact frz_bare rfl
    · refine sc_call (double_spec l hb hw p.seg p.off) rfl ?_
      simp
      rw [e, if_neg h0, if_neg (by simp [h3]), if_pos hd]
      exact frz_bare rfl
    · rw [if_neg h0, if_neg (by simp [h3]), if_neg (by simp [hd])] at e
      refine sc_call (get_spec l hb p.seg p.off) rfl ?_
      simp
      cases h2 : word l p.seg p.off with
      | none =>
        simp [h2] at e
        simp
        rw [e]
        exact frz_bare rfl
      | some v =>
        simp [h2] at e
        simp
        obtain ⟨j0, j1⟩ := word_in hw h2
        obtain ⟨q1, q2, q3, q4⟩ := dec_off j0 j1
        refine sc_call (Decode_spec j0 j1) rfl ?_
        simp
        refine sc_call (far_near_spec l hb (dec v) p.seg p.off (dec_sums j0 j1) (by omega) (by omega) (by omega) (by omega)) rfl ?_
        simp
        rw [e]
        exact frz_bare rfl
    · refine sc_call (far_near_spec l hb p s a hs (by omega) (by omega) (by omega) (by omega)) rfl ?_
      simp
      rw [e, if_neg h0, if_pos (by simpa using h3)]
      exact frz_bare rfl
end Go.Proofs.YthfiijdbnkaabaaGreat

/-
  Plain: trees, and what the document says of them.
-/
namespace Go.PL
set_option linter.unusedVariables false
set_option linter.unusedSimpArgs false
inductive T where
  | mk (kind : Int) (words : List Int) (kids : List T)
  deriving Inhabited
namespace T
def kind : T → Int | mk k _ _ => k
def words : T → List Int | mk _ w _ => w
def kids : T → List T | mk _ _ l => l
@[simp] theorem kind_mk {k : Int} {w : List Int} {l : List T} : (mk k w l).kind = k := rfl
@[simp] theorem words_mk {k : Int} {w : List Int} {l : List T} : (mk k w l).words = w := rfl
@[simp] theorem kids_mk {k : Int} {w : List Int} {l : List T} : (mk k w l).kids = l := rfl
end T
theorem snocInd {α : Type} {P : List α → Prop} (h0 : P []) (h1 : ∀ l x, P l → P (l ++ [x])) (l : List α) : P l := by
  have : ∀ m : List α, P m.reverse := by
    intro m
    induction m with
    | nil => exact h0
    | cons x m ih => rw [List.reverse_cons]; exact h1 _ _ ih
  have h := this l.reverse
  rwa [List.reverse_reverse] at h
abbrev T0 : T := .mk 0 [] []
mutual
theorem T.ind {P : T → Prop} (h : ∀ k w l, (∀ t, t ∈ l → P t) → P (.mk k w l)) : ∀ t, P t
  | .mk k w l => h k w l (T.indL h l)
theorem T.indL {P : T → Prop} (h : ∀ k w l, (∀ t, t ∈ l → P t) → P (.mk k w l)) : ∀ (l : List T), ∀ t, t ∈ l → P t
  | [], t, ht => nomatch ht
  | x :: l, t, ht => by
    rcases List.mem_cons.1 ht with e | ht
    · rw [e]; exact T.ind h x
    · exact T.indL h l t ht
end
/-! ### the Norm -/
/-- Without what is nothing at the end. -/
def trimW (l : List Int) : List Int := (l.reverse.dropWhile (fun x => x == 0)).reverse
def trimK (l : List T) : List T := (l.reverse.dropWhile (fun x => x.kind == 0)).reverse
mutual
def norm : T → T
  | .mk k w l => if k = 0 then T0 else if k = 1 then .mk 1 (trimW w) (trimK (normL l)) else .mk k w (normL l)
def normL : List T → List T
  | [] => []
  | t :: l => norm t :: normL l
end
@[simp] theorem normL_map : ∀ l, normL l = l.map norm
  | [] => by simp [normL]
  | t :: l => by simp [normL, normL_map l]
theorem norm_mk (k : Int) (w : List Int) (l : List T) : norm (.mk k w l) = if k = 0 then T0 else if k = 1 then .mk 1 (trimW w) (trimK (l.map norm)) else .mk k w (l.map norm) := by simp [norm]
@[simp] theorem norm_kind (t : T) : (norm t).kind = t.kind := by
  cases t; rw [norm_mk]; split
  · rename_i h; rw [h]; rfl
  · split
    · rename_i h; rw [h]; rfl
    · rfl
@[simp] theorem trimW_nil : trimW [] = [] := rfl
@[simp] theorem trimK_nil : trimK [] = [] := rfl
theorem trimW_snoc (l : List Int) (x : Int) : trimW (l ++ [x]) = if x = 0 then trimW l else l ++ [x] := by
  unfold trimW; simp [List.dropWhile_cons]; split <;> simp
theorem trimK_snoc (l : List T) (x : T) : trimK (l ++ [x]) = if x.kind = 0 then trimK l else l ++ [x] := by
  unfold trimK
  by_cases h : x.kind = 0 <;> simp [List.dropWhile_cons, h]
theorem trimW_le (l : List Int) : (trimW l).length ≤ l.length := by
  unfold trimW; simp; have := (List.dropWhile_sublist (fun x : Int => x == 0) (l := l.reverse)).length_le; simpa using this
theorem trimK_le (l : List T) : (trimK l).length ≤ l.length := by
  unfold trimK; simp; have := (List.dropWhile_sublist (fun x : T => x.kind == 0) (l := l.reverse)).length_le; simpa using this
theorem trimW_take (l : List Int) : trimW l = l.take (trimW l).length := by
  induction l using snocInd with
  | h0 => rfl
  | h1 l x ih =>
    rw [trimW_snoc]
    split
    · rw [List.take_append_of_le_length (trimW_le l)]; exact ih
    · rw [List.take_of_length_le (Nat.le_refl _)]
theorem trimK_take (l : List T) : trimK l = l.take (trimK l).length := by
  induction l using snocInd with
  | h0 => rfl
  | h1 l x ih =>
    rw [trimK_snoc]
    split
    · rw [List.take_append_of_le_length (trimK_le l)]; exact ih
    · rw [List.take_of_length_le (Nat.le_refl _)]
/-! ### how many words a tree takes -/
def bitsZ (c : Int) : Int := if c = 1 then 1 else if c = 2 then 8 else if c = 3 then 16 else if c = 4 then 32 else if c = 5 then 64 else 0
def roomZ (c n : Int) : Int := if n < 0 ∨ n > 1099511627776 then 0 else (n * bitsZ c + 63) / 64
def frameW : List T → Nat
  | [] => 0
  | t :: l => max t.words.length (frameW l)
def frameK : List T → Nat
  | [] => 0
  | t :: l => max t.kids.length (frameK l)
mutual
def sizeT : T → Int
  | .mk k w l => if k = 1 then w.length + l.length + sizeL l else if k = 8 then l.length + sizeL l else if 2 ≤ k ∧ k ≤ 7 then roomZ (k - 2) l.length
    else if k = 9 then 1 + l.length * (frameW l + frameK l) + sizeLL l else sizeL l
def sizeK : T → Int
  | .mk _ _ l => sizeL l
def sizeL : List T → Int
  | [] => 0
  | t :: l => sizeT t + sizeL l
def sizeLL : List T → Int
  | [] => 0
  | t :: l => sizeK t + sizeLL l
end
theorem sizeT_mk (k : Int) (w : List Int) (l : List T) : sizeT (.mk k w l) = if k = 1 then w.length + l.length + sizeL l else if k = 8 then l.length + sizeL l else if 2 ≤ k ∧ k ≤ 7 then roomZ (k - 2) l.length
    else if k = 9 then 1 + l.length * (frameW l + frameK l) + sizeLL l else sizeL l := by rw [sizeT]
@[simp] theorem sizeK_eq (t : T) : sizeK t = sizeL t.kids := by cases t; rw [sizeK]; rfl
@[simp] theorem sizeL_nil : sizeL [] = 0 := by rw [sizeL]
@[simp] theorem sizeL_cons (t : T) (l : List T) : sizeL (t :: l) = sizeT t + sizeL l := by rw [sizeL]
@[simp] theorem sizeLL_nil : sizeLL [] = 0 := by rw [sizeLL]
@[simp] theorem sizeLL_cons (t : T) (l : List T) : sizeLL (t :: l) = sizeL t.kids + sizeLL l := by rw [sizeLL, sizeK_eq]
@[simp] theorem sizeL_append (l m : List T) : sizeL (l ++ m) = sizeL l + sizeL m := by
  induction l with
  | nil => simp
  | cons t l ih => simp [ih]; omega
@[simp] theorem sizeT_zero (w : List Int) : sizeT (.mk 0 w []) = 0 := by rw [sizeT_mk]; simp
/- As the program counts it. -/
mutual
def sizeP : T → Int
  | .mk k w l => if k = 1 then w.length + l.length + sizePL l else if k = 8 then l.length + sizePL l else if 2 ≤ k ∧ k ≤ 7 then roomZ (k - 2) l.length
    else if k = 9 then 1 + l.length * (frameW l + frameK l) + sizePC l else sizePL l
def sizePL : List T → Int
  | [] => 0
  | t :: l => sizeP t + sizePL l
def sizePC : List T → Int
  | [] => 0
  | t :: l => (sizeP t - t.words.length - t.kids.length) + sizePC l
end
theorem sizeP_mk (k : Int) (w : List Int) (l : List T) : sizeP (.mk k w l) = if k = 1 then w.length + l.length + sizePL l else if k = 8 then l.length + sizePL l else if 2 ≤ k ∧ k ≤ 7 then roomZ (k - 2) l.length
    else if k = 9 then 1 + l.length * (frameW l + frameK l) + sizePC l else sizePL l := by rw [sizeP]
@[simp] theorem sizePL_nil : sizePL [] = 0 := by rw [sizePL]
@[simp] theorem sizePL_cons (t : T) (l : List T) : sizePL (t :: l) = sizeP t + sizePL l := by rw [sizePL]
@[simp] theorem sizePC_nil : sizePC [] = 0 := by rw [sizePC]
@[simp] theorem sizePC_cons (t : T) (l : List T) : sizePC (t :: l) = (sizeP t - t.words.length - t.kids.length) + sizePC l := by rw [sizePC]
/-! ### which trees may be -/
def widthZ (c : Int) : Int := if c = 0 then 0 else if c = 1 then 1 else if c = 2 then 8 else if c = 3 then 16 else if c = 4 then 32 else if c = 5 then 64 else -1
def fitsZ (c n : Int) : Bool := decide (0 ≤ widthZ c) && decide (n / 2 ^ (widthZ c).toNat = 0)
def isData (k : Int) : Bool := decide (2 ≤ k) && decide (k ≤ 7)
/-- May it be a kid of a list? -/
def kidOk (k : Int) (c : T) : Bool := !(isData k != decide (c.kind = 10) || decide (k = 9) && !decide (c.kind = 1) || isData k && !fitsZ (k - 2) (c.words.headD 0))
def tooBig (k : Int) (d nw nl : Nat) : Bool := decide (k < 0) || decide (k > 10) || decide (d = 0) || decide (nw ≥ 65536) || decide (k = 1) && decide (nl ≥ 65536) || decide (nl ≥ 1048576) || decide (k > 1) && decide (nw > 0)
mutual
def rightT : Nat → T → Bool
  | d, .mk k w l => if k = 0 then w.isEmpty && l.isEmpty else if k = 10 then decide (w.length = 1) && l.isEmpty
    else if tooBig k d w.length l.length = true then false else rightL (d - 1) k l
def rightL : Nat → Int → List T → Bool
  | _, _, [] => true
  | d, k, t :: l => rightT d t && kidOk k t && rightL d k l
end
theorem rightT_mk (d : Nat) (k : Int) (w : List Int) (l : List T) : rightT d (.mk k w l) = if k = 0 then w.isEmpty && l.isEmpty else if k = 10 then decide (w.length = 1) && l.isEmpty
    else if tooBig k d w.length l.length = true then false else rightL (d - 1) k l := by rw [rightT]
@[simp] theorem rightL_nil (d : Nat) (k : Int) : rightL d k [] = true := by rw [rightL]
@[simp] theorem rightL_cons (d : Nat) (k : Int) (t : T) (l : List T) : rightL d k (t :: l) = (rightT d t && kidOk k t && rightL d k l) := by rw [rightL]
theorem rightL_all {d : Nat} {k : Int} : ∀ {l : List T}, rightL d k l = true ↔ ∀ t, t ∈ l → rightT d t = true ∧ kidOk k t = true
  | [] => by simp
  | t :: l => by simp [rightL_all (l := l), and_assoc]
/- No deeper, and no more parts: what is left. -/
mutual
def shallow : Nat → Int → T → Int
  | d, n, .mk _ w l => if d = 0 ∨ n - 1 - w.length < 0 then -1 else shallowL (d - 1) (n - 1 - w.length) l
def shallowL : Nat → Int → List T → Int
  | _, n, [] => n
  | d, n, t :: l => if n < 0 then n else shallowL d (shallow d n t) l
end
theorem shallow_mk (d : Nat) (n : Int) (k : Int) (w : List Int) (l : List T) : shallow d n (.mk k w l) = if d = 0 ∨ n - 1 - w.length < 0 then -1 else shallowL (d - 1) (n - 1 - w.length) l := by rw [shallow]
@[simp] theorem shallowL_nil (d : Nat) (n : Int) : shallowL d n [] = n := by rw [shallowL]
@[simp] theorem shallowL_cons (d : Nat) (n : Int) (t : T) (l : List T) : shallowL d n (t :: l) = if n < 0 then n else shallowL d (shallow d n t) l := by rw [shallowL]
/-! ### the program's size is the document's, of a right tree's Norm -/
theorem kidOk_9 {c : T} (h : kidOk 9 c = true) : c.kind = 1 := by
  simp [kidOk, isData] at h
  exact h.2
theorem rightT_struct {d : Nat} {k : Int} {w : List Int} {l : List T} (h : rightT d (.mk k w l) = true) : ∀ t, t ∈ l → rightT (d - 1) t = true ∧ kidOk k t = true := by
  rw [rightT_mk] at h
  split at h
  · simp at h; intro t ht; rw [h.2] at ht; cases ht
  · split at h
    · simp at h; intro t ht; rw [h.2] at ht; cases ht
    · split at h
      · cases h
      · exact rightL_all.1 h
theorem sizePL_eq {l : List T} (h : ∀ t, t ∈ l → sizeP t = sizeT t) : sizePL l = sizeL l := by
  induction l with
  | nil => simp
  | cons t l ih => simp [h t (by simp), ih fun u hu => h u (by simp [hu])]
theorem size_norm : ∀ (t : T) (d : Nat), rightT d t = true → sizeP (norm t) = sizeT (norm t) := by
  refine T.ind fun k w l ih d h => ?_
  have hk := rightT_struct h
  have ihl : ∀ t, t ∈ l.map norm → sizeP t = sizeT t := fun t ht => by
    obtain ⟨u, hu, rfl⟩ := List.mem_map.1 ht
    exact ih u hu _ (hk u hu).1
  rw [norm_mk]
  split
  · rfl
  · split
    · rw [sizeP_mk, sizeT_mk]; simp
      refine sizePL_eq fun t ht => ihl t ?_
      rw [trimK_take] at ht
      exact List.mem_of_mem_take ht
    · rw [sizeP_mk, sizeT_mk]
      rw [sizePL_eq ihl]
      have e9 : k = 9 → sizePC (l.map norm) = sizeLL (l.map norm) := fun e => by
        subst e
        have : ∀ (m : List T), (∀ t, t ∈ m → sizeP t = sizeT t ∧ t.kind = 1) → sizePC m = sizeLL m := by
          intro m
          induction m with
          | nil => simp
          | cons t m ih =>
            intro hm
            obtain ⟨h1, h2⟩ := hm t (by simp)
            simp [ih fun u hu => hm u (by simp [hu]), h1]
            cases t; simp at h2; subst h2
            rw [sizeT_mk]; simp; omega
        refine this _ fun t ht => ⟨ihl t ht, ?_⟩
        obtain ⟨u, hu, rfl⟩ := List.mem_map.1 ht
        rw [norm_kind]
        exact kidOk_9 (hk u hu).2
      by_cases h9 : k = 9
      · simp [e9 h9]
      · simp [h9]
end Go.PL

/-
  Chapters 9 and 10, plain: values where they lie, and what they mean.
-/
namespace Go.Proofs.YthfiijdbnkaabaaGreat
set_option linter.unusedVariables false
set_option linter.unusedSimpArgs false
open Go Go.G Go.Proofs Go.PL
/-- A value where it lies. -/
structure Rf where
  kind : Int
  s : Int
  at_ : Int
  data : Int
  kids : Int
  count : Int
  n : Int
def Rf.zero : Rf := ⟨0, 0, 0, 0, 0, 0, 0⟩
def nk (r : Rf) : Int := if r.kind = 1 then r.kids else r.count
def compP (l : List (List Int)) (s a m : Int) : Rf × Int :=
  if ((word l s a).getD 0 ≠ 0 ∧ (dec ((word l s a).getD 0)).kind ≠ 1) ∨ (dec ((word l s a).getD 0)).off < 0 ∨ m < (dec ((word l s a).getD 0)).off * ((dec ((word l s a).getD 0)).data + (dec ((word l s a).getD 0)).ptrs) then (Rf.zero, 8)
  else (⟨9, s, a + 1, (dec ((word l s a).getD 0)).data, (dec ((word l s a).getD 0)).ptrs, (dec ((word l s a).getD 0)).off, 0⟩, 0)
/-- What a shape at a place is. -/
def refP (l : List (List Int)) (x : Lc) : Rf × Int :=
  if x.p.kind = 1 then (⟨1, x.s, x.at_, x.p.data, x.p.ptrs, 0, 0⟩, 0)
  else if x.p.code < 7 then (⟨2 + x.p.code, x.s, x.at_, 0, 0, x.p.count, 0⟩, 0)
  else compP l x.s x.at_ x.p.count
def atP (l : List (List Int)) (s a : Int) : Rf × Int :=
  if (followP l s a).2 ≠ 0 ∨ (followP l s a).1.p.kind = 0 then (Rf.zero, (followP l s a).2) else refP l (followP l s a).1
def getZ (g : List Int) (c i : Int) : Int :=
  if widthZ c < 1 ∨ i < 0 ∨ 1099511627776 < i then 0 else ((g[(i * widthZ c / 64).toNat]?).getD 0) / 2 ^ (i * widthZ c % 64).toNat % 2 ^ (widthZ c).toNat
def atomZ (l : List (List Int)) (r : Rf) (i : Int) : Int := getZ (((seg l r.s).getD []).drop r.at_.toNat) (r.kind - 2) i
def kidP (l : List (List Int)) (r : Rf) (i : Int) : Rf × Int :=
  if i < 0 ∨ nk r ≤ i then (Rf.zero, 0)
  else if r.kind = 1 then atP l r.s (r.at_ + r.data + i)
  else if r.kind = 8 then atP l r.s (r.at_ + i)
  else if r.kind = 9 then (⟨1, r.s, r.at_ + i * (r.data + r.kids), r.data, r.kids, 0, 0⟩, 0)
  else (⟨10, 0, 0, 0, 0, 0, atomZ l r i⟩, 0)
def wordsR (l : List (List Int)) (r : Rf) : List Int := if r.kind = 10 then [r.n] else if r.kind ≠ 1 then [] else part l r.s r.at_ r.data
/-- It lies in its segment. -/
inductive RfOk (l : List (List Int)) : Rf → Prop
  | zero : RfOk l Rf.zero
  | str (s a d k : Int) : 0 ≤ d → d < 65536 → 0 ≤ k → k < 65536 → hasW l s a (d + k) = true → RfOk l ⟨1, s, a, d, k, 0, 0⟩
  | dat (c s a n : Int) : 0 ≤ c → c < 6 → 0 ≤ n → n < 536870912 → hasW l s a ((n * bitsOf c + 63) / 64) = true → RfOk l ⟨2 + c, s, a, 0, 0, n, 0⟩
  | ptrs (s a n : Int) : 0 ≤ n → n < 536870912 → hasW l s a n = true → RfOk l ⟨8, s, a, 0, 0, n, 0⟩
  | comp (s a d k n : Int) : 0 ≤ d → d < 65536 → 0 ≤ k → k < 65536 → 0 ≤ n → n < 536870912 → hasW l s a (n * (d + k)) = true → RfOk l ⟨9, s, a, d, k, n, 0⟩
  | atom (n : Int) : 0 ≤ n → n < 18446744073709551616 → RfOk l ⟨10, 0, 0, 0, 0, 0, n⟩
/-! ### what is followed lies in its segment -/
structure Shp (p : Pt) : Prop where
  k1 : p.kind = 1 → 0 ≤ p.data ∧ p.data < 65536 ∧ 0 ≤ p.ptrs ∧ p.ptrs < 65536
  k2 : p.kind = 2 → 0 ≤ p.code ∧ p.code < 8 ∧ 0 ≤ p.count ∧ p.count < 536870912
  k : p.kind = 0 ∨ p.kind = 1 ∨ p.kind = 2 ∨ p.kind = 3 ∨ p.kind = 4
theorem dec_shp {w : Int} (h0 : 0 ≤ w) (h1 : w < 18446744073709551616) : Shp (dec w) := by
  unfold dec
  repeat' split
  all_goals refine ⟨?_, ?_, ?_⟩
  all_goals simp
  all_goals omega
def Folw (l : List (List Int)) (x : Lc × Int) : Prop := x.2 = 0 → x.1.p.kind = 0 ∨ ((x.1.p.kind = 1 ∨ x.1.p.kind = 2) ∧ Shp x.1.p ∧ hasW l x.1.s x.1.at_ ((wordsP x.1.p).getD 0) = true)
theorem inside_folw {l : List (List Int)} {x : Lc} (h : x.p.kind = 1 ∨ x.p.kind = 2) (hs : Shp x.p) : Folw l (insideP l x) := by
  unfold insideP
  split
  · rename_i hh
    intro _
    exact .inr ⟨h, ⟨hs.k1, hs.k2, hs.k⟩, hh⟩
  · intro h; cases h
theorem near_folw {l : List (List Int)} {p : Pt} {s a : Int} (hs : Shp p) : Folw l (nearP l p s a) := by
  unfold nearP
  split
  · exact inside_folw (by assumption) hs
  · split <;> (intro h; cases h)
theorem double_folw {l : List (List Int)} (hw : Wds l) (s a : Int) : Folw l (doubleP l s a) := by
  unfold doubleP
  split
  · rename_i v w h1 h2
    obtain ⟨a1, a2⟩ := word_in hw h2
    have hs := dec_shp a1 a2
    repeat' split
    all_goals first
      | (intro h; cases h; done)
      | skip
    refine inside_folw ?_ hs
    simp only
    omega
  · intro h; cases h
theorem follow_folw {l : List (List Int)} (hw : Wds l) (s a : Int) : Folw l (followP l s a) := by
  unfold followP
  split
  · intro h; cases h
  · rename_i w h1
    obtain ⟨a1, a2⟩ := word_in hw h1
    split
    · intro _; exact .inl rfl
    · split
      · exact near_folw (dec_shp a1 a2)
      · split
        · exact double_folw hw _ _
        · split
          · intro h; cases h
          · rename_i v h2
            obtain ⟨b1, b2⟩ := word_in hw h2
            exact near_folw (dec_shp b1 b2)
theorem wordsP_str {p : Pt} (h : p.kind = 1) : wordsP p = some (p.data + p.ptrs) := by simp [wordsP, h]
theorem wordsP_dat {p : Pt} (h : p.kind = 2) (hs : Shp p) (h6 : p.code < 7) : wordsP p = some ((p.count * bitsOf p.code + 63) / 64) := by
  obtain ⟨a, b, c, d⟩ := hs.k2 h
  rw [wordsP, if_neg (by omega), if_neg (by omega), if_pos (by omega)]
theorem wordsP_comp {p : Pt} (h : p.kind = 2) (h7 : p.code = 7) : wordsP p = some (p.count + 1) := by simp [wordsP, h, h7]
theorem mul_le_of {a b c : Int} (h : a ≤ b) (hc : 0 ≤ c) : a * c ≤ b * c := Int.mul_le_mul_of_nonneg_right h hc
theorem hasW_sub {l : List (List Int)} {s a n b m : Int} (h : hasW l s a n = true) (h1 : a ≤ b) (h2 : 0 ≤ m) (h3 : b + m ≤ a + n) : hasW l s b m = true := by
  simp only [hasW, decide_eq_true_eq] at h ⊢
  omega
theorem dec_off' {w : Int} (h0 : 0 ≤ w) (h1 : w < 18446744073709551616) : (dec w).off < 536870912 := by
  have := (offs_in w).2.1
  unfold dec
  repeat' split
  all_goals simp
  all_goals omega
theorem comp_ok {l : List (List Int)} (hw : Wds l) {s a m : Int} (h : hasW l s a (m + 1) = true) : RfOk l (compP l s a m).1 := by
  unfold compP
  have h0 : 0 ≤ (word l s a).getD 0 ∧ (word l s a).getD 0 < 18446744073709551616 := by
    cases e : word l s a with
    | none => simp
    | some x => exact word_in hw e
  generalize (word l s a).getD 0 = w at h0
  have hs := dec_shp h0.1 h0.2
  have ho := dec_off h0.1 h0.2
  have ho' := dec_off' h0.1 h0.2
  split
  · exact .zero
  · rename_i hc
    have hk : (dec w).kind = 1 ∨ dec w = Pt.zero := by
      by_cases hw0 : w = 0
      · subst hw0; exact .inr rfl
      · left; omega
    have hd : 0 ≤ (dec w).data ∧ (dec w).data < 65536 ∧ 0 ≤ (dec w).ptrs ∧ (dec w).ptrs < 65536 := by
      rcases hk with hk | hk
      · exact hs.k1 hk
      · rw [hk]; decide
    refine .comp _ _ _ _ _ hd.1 hd.2.1 hd.2.2.1 hd.2.2.2 (by omega) (by omega) (hasW_sub h (by omega) ?_ (by omega))
    exact Int.mul_nonneg (by omega) (by omega)
theorem ref_ok {l : List (List Int)} (hw : Wds l) {x : Lc} (hk : x.p.kind = 1 ∨ x.p.kind = 2) (hs : Shp x.p) (h : hasW l x.s x.at_ ((wordsP x.p).getD 0) = true) : RfOk l (refP l x).1 := by
  unfold refP
  split
  · rename_i k1
    obtain ⟨a, b, c, d⟩ := hs.k1 k1
    rw [wordsP_str k1] at h
    exact .str _ _ _ _ a b c d h
  · rename_i k1
    have k2 : x.p.kind = 2 := by omega
    obtain ⟨a, b, c, d⟩ := hs.k2 k2
    split
    · rename_i h7
      rw [wordsP_dat k2 hs h7] at h
      by_cases h6 : x.p.code = 6
      · rw [h6] at h ⊢
        refine .ptrs _ _ _ c d (hasW_sub h (Int.le_refl _) c ?_)
        have e : bitsOf 6 = 64 := by decide
        simp only [Option.getD_some, e]
        omega
      · exact .dat _ _ _ _ a (by omega) c d h
    · rw [wordsP_comp k2 (by omega)] at h
      exact comp_ok hw h
theorem at_ok {l : List (List Int)} (hw : Wds l) (s a : Int) : RfOk l (atP l s a).1 := by
  unfold atP
  split
  · exact .zero
  · rename_i h
    rcases follow_folw hw s a (by omega) with h0 | ⟨h1, h2, h3⟩
    · omega
    · exact ref_ok hw h1 h2 h3
theorem getZ_range {g : List Int} {c i : Int} (hg : ∀ x, x ∈ g → 0 ≤ x ∧ x < 18446744073709551616) : 0 ≤ getZ g c i ∧ getZ g c i < 18446744073709551616 := by
  unfold getZ
  split
  · omega
  · have h0 : 0 ≤ (g[(i * widthZ c / 64).toNat]?).getD 0 ∧ (g[(i * widthZ c / 64).toNat]?).getD 0 < 18446744073709551616 := by
      cases e : g[(i * widthZ c / 64).toNat]? with
      | none => simp
      | some x => exact hg x (List.mem_of_getElem? e)
    generalize (g[(i * widthZ c / 64).toNat]?).getD 0 = x at h0
    have p1 : (0 : Int) < 2 ^ (i * widthZ c % 64).toNat := Int.pow_pos (by omega)
    have p2 : (0 : Int) < 2 ^ (widthZ c).toNat := Int.pow_pos (by omega)
    have d0 : 0 ≤ x / 2 ^ (i * widthZ c % 64).toNat := Int.ediv_nonneg h0.1 (by omega)
    have d1 : x / 2 ^ (i * widthZ c % 64).toNat ≤ x := Int.ediv_le_self _ h0.1
    have m0 := Int.emod_nonneg (x / 2 ^ (i * widthZ c % 64).toNat) (by omega : (2 : Int) ^ (widthZ c).toNat ≠ 0)
    have m1 : x / 2 ^ (i * widthZ c % 64).toNat % 2 ^ (widthZ c).toNat ≤ x / 2 ^ (i * widthZ c % 64).toNat := by
      rw [Int.emod_def]
      have := Int.mul_nonneg (a := 2 ^ (widthZ c).toNat) (b := x / 2 ^ (i * widthZ c % 64).toNat / 2 ^ (widthZ c).toNat) (by omega) (Int.ediv_nonneg d0 (by omega))
      omega
    omega
theorem kid_ok {l : List (List Int)} (hw : Wds l) {r : Rf} (hr : RfOk l r) (i : Int) : RfOk l (kidP l r i).1 := by
  unfold kidP
  split
  · exact .zero
  · rename_i hi
    cases hr with
    | zero => simp [nk, Rf.zero] at hi; omega
    | str s a d k a1 a2 a3 a4 h => simp; exact at_ok hw _ _
    | dat c s a n a1 a2 a3 a4 h =>
      simp
      rw [if_neg (by omega), if_neg (by omega), if_neg (by omega)]
      have := getZ_range (g := ((seg l s).getD []).drop a.toNat) (c := 2 + c - 2) (i := i) (fun x hx => by
        cases e : seg l s with
        | none => rw [e] at hx; simp at hx
        | some g =>
          rw [e] at hx
          obtain ⟨_, _, k1, rfl⟩ := seg_some e
          exact hw _ (List.getElem_mem k1) _ (List.mem_of_mem_drop hx))
      exact .atom _ this.1 this.2
    | ptrs s a n a1 a2 h => simp; exact at_ok hw _ _
    | comp s a d k n a1 a2 a3 a4 a5 a6 h =>
      simp [nk] at hi ⊢
      refine .str _ _ _ _ a1 a2 a3 a4 (hasW_sub h ?_ (by omega) ?_)
      · have := Int.mul_nonneg (by omega : 0 ≤ i) (by omega : 0 ≤ d + k)
        omega
      · have h1 : (i + 1) * (d + k) ≤ n * (d + k) := mul_le_of (by omega) (by omega)
        rw [Int.add_mul] at h1
        omega
    | atom n a1 a2 => simp [nk] at hi; omega
/-! ### what it means -/
inductive Means (l : List (List Int)) : Rf → T → Prop
  | mk (r : Rf) (t : T) : RfOk l r → r.kind = t.kind → wordsR l r = t.words → nk r = t.kids.length → (∀ (i : Nat) (h : i < t.kids.length), (kidP l r i).2 = 0) → (∀ (i : Nat) (h : i < t.kids.length), Means l (kidP l r i).1 t.kids[i]) → Means l r t
/-- Kids, one behind the other; what may be weighed still; an error. -/
def loopM (f : Nat → Int → T × Int × Int) : Nat → Nat → List T → Int → List T × Int × Int
  | 0, _, acc, left => (acc, left, 0)
  | m + 1, i, acc, left => if (f i left).2.2 ≠ 0 then (acc, (f i left).2.1, (f i left).2.2) else loopM f m (i + 1) (acc ++ [(f i left).1]) (f i left).2.1
def costM (r : Rf) : Int := if r.kind = 1 then 1 + r.data + r.kids else if r.kind = 9 then 1 + r.count * (1 + r.data + r.kids) else 1 + nk r
def stepM (l : List (List Int)) (rec : Rf → Int → T × Int × Int) (r : Rf) (i : Nat) (left : Int) : T × Int × Int :=
  if (kidP l r i).2 ≠ 0 then (T0, left, (kidP l r i).2) else rec (kidP l r i).1 left
def kidsM (l : List (List Int)) (rec : Rf → Int → T × Int × Int) (r : Rf) (left : Int) : T × Int × Int :=
  (.mk 1 (wordsR l r) (loopM (stepM l rec r) r.kids.toNat 0 [] left).1, (loopM (stepM l rec r) r.kids.toNat 0 [] left).2.1, (loopM (stepM l rec r) r.kids.toNat 0 [] left).2.2)
def leafM (l : List (List Int)) (r : Rf) (left : Int) : T × Int × Int := (.mk r.kind (wordsR l r) [], left, 0)
def restM (l : List (List Int)) (r : Rf) (rec1 rec2 : Rf → Int → T × Int × Int) (left : Int) : T × Int × Int :=
  (.mk r.kind (wordsR l r) (loopM (stepM l (if r.kind = 9 then kidsM l rec2 else if r.kind = 1 ∨ r.kind = 8 then rec1 else leafM l) r) (nk r).toNat 0 [] (left - costM r)).1,
    (loopM (stepM l (if r.kind = 9 then kidsM l rec2 else if r.kind = 1 ∨ r.kind = 8 then rec1 else leafM l) r) (nk r).toNat 0 [] (left - costM r)).2.1,
    (loopM (stepM l (if r.kind = 9 then kidsM l rec2 else if r.kind = 1 ∨ r.kind = 8 then rec1 else leafM l) r) (nk r).toNat 0 [] (left - costM r)).2.2)
def stopM (l : List (List Int)) (r : Rf) (left : Int) : T × Int × Int := (.mk r.kind (wordsR l r) [], left, 3)
def meaning (l : List (List Int)) : Nat → Rf → Int → T × Int × Int
  | 0, r, left => if r.kind = 0 then leafM l r left else stopM l r left
  | 1, r, left => if r.kind = 0 then leafM l r left else if r.kind = 9 ∧ 0 < r.count then stopM l r left else if left < costM r then stopM l r left
    else restM l r (meaning l 0) (fun r left => stopM l r left) left
  | d + 2, r, left => if r.kind = 0 then leafM l r left else if left < costM r then stopM l r left else restM l r (meaning l (d + 1)) (meaning l d) left
theorem nk_nonneg {l : List (List Int)} {r : Rf} (h : RfOk l r) : 0 ≤ nk r ∧ nk r < 536870912 := by
  cases h <;> simp [nk, Rf.zero] <;> omega
end Go.Proofs.YthfiijdbnkaabaaGreat

/-
  Plain: edits, which ones are right, their trees, and how many words they take.
-/
namespace Go.PL
set_option linter.unusedVariables false
set_option linter.unusedSimpArgs false
structure WE where
  at_ : Int
  mask : Int
  old : Int
  new : Int
mutual
inductive E where
  | mk (kind : Int) (old new : T) (words : List WE) (kids : List KE) (list : Int) (ops : List OP)
inductive KE where
  | mk (at_ : Int) (e : E)
inductive OP where
  | mk (kind n : Int) (l : List T) (e : E)
end
namespace E
def kind : E → Int | mk k _ _ _ _ _ _ => k
def old : E → T | mk _ o _ _ _ _ _ => o
def new : E → T | mk _ _ n _ _ _ _ => n
def words : E → List WE | mk _ _ _ w _ _ _ => w
def kids : E → List KE | mk _ _ _ _ k _ _ => k
def list : E → Int | mk _ _ _ _ _ l _ => l
def ops : E → List OP | mk _ _ _ _ _ _ o => o
variable {k l : Int} {o n : T} {w : List WE} {ks : List KE} {os : List OP}
@[simp] theorem kind_mk : (mk k o n w ks l os).kind = k := rfl
@[simp] theorem old_mk : (mk k o n w ks l os).old = o := rfl
@[simp] theorem new_mk : (mk k o n w ks l os).new = n := rfl
@[simp] theorem words_mk : (mk k o n w ks l os).words = w := rfl
@[simp] theorem kids_mk : (mk k o n w ks l os).kids = ks := rfl
@[simp] theorem list_mk : (mk k o n w ks l os).list = l := rfl
@[simp] theorem ops_mk : (mk k o n w ks l os).ops = os := rfl
end E
namespace KE
def at_ : KE → Int | mk a _ => a
def e : KE → E | mk _ e => e
@[simp] theorem at_mk {a : Int} {e : E} : (mk a e).at_ = a := rfl
@[simp] theorem e_mk {a : Int} {e : E} : (mk a e).e = e := rfl
end KE
namespace OP
def kind : OP → Int | mk k _ _ _ => k
def n : OP → Int | mk _ n _ _ => n
def l : OP → List T | mk _ _ l _ => l
def e : OP → E | mk _ _ _ e => e
variable {k m : Int} {t : List T} {x : E}
@[simp] theorem kind_mk : (mk k m t x).kind = k := rfl
@[simp] theorem n_mk : (mk k m t x).n = m := rfl
@[simp] theorem l_mk : (mk k m t x).l = t := rfl
@[simp] theorem e_mk : (mk k m t x).e = x := rfl
end OP
abbrev E0 : E := .mk 0 T0 T0 [] [] 0 []
mutual
theorem E.ind {P : E → Prop} (h : ∀ k o n w ks l os, (∀ x, x ∈ ks → P x.e) → (∀ x, x ∈ os → P x.e) → P (.mk k o n w ks l os)) : ∀ e, P e
  | .mk k o n w ks l os => h k o n w ks l os (E.indK h ks) (E.indO h os)
theorem E.indK {P : E → Prop} (h : ∀ k o n w ks l os, (∀ x, x ∈ ks → P x.e) → (∀ x, x ∈ os → P x.e) → P (.mk k o n w ks l os)) : ∀ (ks : List KE), ∀ x, x ∈ ks → P x.e
  | [], _, hx => nomatch hx
  | .mk a e :: ks, x, hx => by
    rcases List.mem_cons.1 hx with q | hx
    · rw [q]; exact E.ind h e
    · exact E.indK h ks x hx
theorem E.indO {P : E → Prop} (h : ∀ k o n w ks l os, (∀ x, x ∈ ks → P x.e) → (∀ x, x ∈ os → P x.e) → P (.mk k o n w ks l os)) : ∀ (os : List OP), ∀ x, x ∈ os → P x.e
  | [], _, hx => nomatch hx
  | .mk a n l e :: os, x, hx => by
    rcases List.mem_cons.1 hx with q | hx
    · rw [q]; exact E.ind h e
    · exact E.indO h os x hx
end
/-! ### which edits are right -/
def noneT (t : T) : Bool := decide (t.kind = 0) && t.words.isEmpty && t.kids.isEmpty
def sameE (e : E) : Bool := decide (e.kind = 0) && noneT e.old && noneT e.new && (e.words.isEmpty && e.kids.isEmpty && e.ops.isEmpty) && decide (e.list = 0)
def withinZ (w mask : Int) : Bool := (List.range 8).all fun i => decide (mask / 2 ^ i % 2 = 1) || decide (w / 256 ^ i % 256 = 0)
def wordOk (last : Int) (w : WE) : Bool := !(decide (w.at_ ≤ last) || decide (w.at_ > 65534) || decide (w.mask = 0) || !withinZ w.old w.mask || !withinZ w.new w.mask)
def wordsOk : Int → List WE → Bool
  | _, [] => true
  | last, w :: l => wordOk last w && wordsOk w.at_ l
def sat (n : Int) : Int := if n > 1048576 then 1048576 else n
def opLen (o : OP) : Int := if o.kind = 3 then 1 else o.n + o.l.length
def lengths : Int → Int → List OP → Int × Int
  | n, m, [] => (n, m)
  | n, m, o :: l => lengths (sat (if o.kind ≠ 2 then n + opLen o else n)) (sat (if o.kind ≠ 1 then m + opLen o else m)) l
/-- A step that holds no edit. -/
def opFlat (list : Int) (o : OP) : Bool :=
  if o.kind = 0 then decide (1 ≤ o.n) && decide (o.n ≤ 1048576) && o.l.isEmpty && sameE o.e
  else if o.n ≠ 0 ∨ o.kind < 0 ∨ o.kind > 3 then false
  else if o.kind < 3 then (o.l.all fun t => rightT 64 (.mk list [] [t])) && !o.l.isEmpty && sameE o.e
  else true
def opDeep (list : Int) (o : OP) : Bool := o.l.isEmpty && !decide (o.e.kind = 0) && !decide (list ≤ 7)
def opFit (list : Int) (o : OP) : Bool := decide (list = 8) || decide (o.e.kind = 2) || decide (o.e.kind = 1) && decide (o.e.old.kind = 1) && decide (o.e.new.kind = 1)
def headOk (d : Nat) (k : Int) (o n : T) (nw nk : Nat) (list : Int) (no : Nat) : Bool :=
  !(decide (d = 0) || decide (k < 0) || decide (k > 3)) && !(!decide (k = 1) && !(noneT o && noneT n) || !decide (k = 2) && decide (nw + nk > 0) || !decide (k = 3) && (!decide (list = 0) || decide (no > 0)))
mutual
def rightE : Nat → E → Bool
  | d, .mk k o n ws ks l os =>
    if headOk d k o n ws.length ks.length l os.length = false then false
    else if k = 1 then rightT 64 o && rightT 64 n && !decide (o.kind = 10) && !decide (n.kind = 10)
    else if wordsOk (-1) ws = false then false
    else if rightKs (d - 1) (-1) ks = false then false
    else if k = 3 ∧ (l < 2 ∨ l > 9) then false
    else if rightOs (d - 1) l os = false then false
    else decide ((lengths 0 0 os).1 < 1048576) && decide ((lengths 0 0 os).2 < 1048576)
def rightKs : Nat → Int → List KE → Bool
  | _, _, [] => true
  | d, last, .mk a e :: l => !(decide (a ≤ last) || decide (a > 65534) || decide (e.kind = 0)) && rightE d e && rightKs d a l
def rightOs : Nat → Int → List OP → Bool
  | _, _, [] => true
  | d, list, .mk k n t e :: l => rightO d list (.mk k n t e) && rightOs d list l
def rightO : Nat → Int → OP → Bool
  | d, list, .mk k n t e => opFlat list (.mk k n t e) && (if k = 3 then opDeep list (.mk k n t e) && rightE d e && opFit list (.mk k n t e) else true)
end
theorem rightE_mk (d : Nat) (k : Int) (o n : T) (ws : List WE) (ks : List KE) (l : Int) (os : List OP) : rightE d (.mk k o n ws ks l os) =
    if headOk d k o n ws.length ks.length l os.length = false then false
    else if k = 1 then rightT 64 o && rightT 64 n && !decide (o.kind = 10) && !decide (n.kind = 10)
    else if wordsOk (-1) ws = false then false
    else if rightKs (d - 1) (-1) ks = false then false
    else if k = 3 ∧ (l < 2 ∨ l > 9) then false
    else if rightOs (d - 1) l os = false then false
    else decide ((lengths 0 0 os).1 < 1048576) && decide ((lengths 0 0 os).2 < 1048576) := by rw [rightE]
@[simp] theorem rightKs_nil (d : Nat) (last : Int) : rightKs d last [] = true := by rw [rightKs]
@[simp] theorem rightKs_cons (d : Nat) (last : Int) (x : KE) (l : List KE) : rightKs d last (x :: l) = (!(decide (x.at_ ≤ last) || decide (x.at_ > 65534) || decide (x.e.kind = 0)) && rightE d x.e && rightKs d x.at_ l) := by cases x; rw [rightKs]; rfl
@[simp] theorem rightOs_nil (d : Nat) (list : Int) : rightOs d list [] = true := by rw [rightOs]
@[simp] theorem rightOs_cons (d : Nat) (list : Int) (x : OP) (l : List OP) : rightOs d list (x :: l) = (rightO d list x && rightOs d list l) := by cases x; rw [rightOs]
theorem rightO_eq (d : Nat) (list : Int) (x : OP) : rightO d list x = (opFlat list x && (if x.kind = 3 then opDeep list x && rightE d x.e && opFit list x else true)) := by cases x; rw [rightO]; rfl
theorem rightOs_all {d : Nat} {list : Int} : ∀ {l : List OP}, rightOs d list l = true ↔ ∀ x, x ∈ l → rightO d list x = true
  | [] => by simp
  | x :: l => by simp [rightOs_all (l := l)]
/- How many parts are left behind an edit; below 0: it has more, or is deeper. -/
mutual
def leftE : Nat → Int → E → Int
  | d, n, .mk _ o nn ws ks _ os => if d = 0 ∨ n - 1 - ws.length - os.length < 0 then -1 else leftOs (d - 1) (leftKs (d - 1) (left2 n ws.length os.length o nn) ks) os
def leftKs : Nat → Int → List KE → Int
  | _, n, [] => n
  | d, n, .mk _ e :: l => if n < 0 then n else leftKs d (leftE d n e) l
def leftOs : Nat → Int → List OP → Int
  | _, n, [] => n
  | d, n, .mk _ _ t e :: l => if n < 0 then n else leftOs d (if shallowL 80 n t < 0 then shallowL 80 n t else leftE d (shallowL 80 n t) e) l
def left2 : Int → Nat → Nat → T → T → Int
  | n, a, b, o, nn => if shallow 80 (n - 1 - a - b) o < 0 then shallow 80 (n - 1 - a - b) o else shallow 80 (shallow 80 (n - 1 - a - b) o) nn
end
theorem leftE_mk (d : Nat) (n : Int) (k : Int) (o nn : T) (ws : List WE) (ks : List KE) (l : Int) (os : List OP) : leftE d n (.mk k o nn ws ks l os) = if d = 0 ∨ n - 1 - ws.length - os.length < 0 then -1 else leftOs (d - 1) (leftKs (d - 1) (left2 n ws.length os.length o nn) ks) os := by rw [leftE]
theorem left2_eq (n : Int) (a b : Nat) (o nn : T) : left2 n a b o nn = if shallow 80 (n - 1 - a - b) o < 0 then shallow 80 (n - 1 - a - b) o else shallow 80 (shallow 80 (n - 1 - a - b) o) nn := by rw [left2]
@[simp] theorem leftKs_nil (d : Nat) (n : Int) : leftKs d n [] = n := by rw [leftKs]
@[simp] theorem leftKs_cons (d : Nat) (n : Int) (x : KE) (l : List KE) : leftKs d n (x :: l) = if n < 0 then n else leftKs d (leftE d n x.e) l := by cases x; rw [leftKs]; rfl
@[simp] theorem leftOs_nil (d : Nat) (n : Int) : leftOs d n [] = n := by rw [leftOs]
@[simp] theorem leftOs_cons (d : Nat) (n : Int) (x : OP) (l : List OP) : leftOs d n (x :: l) = if n < 0 then n else leftOs d (if shallowL 80 n x.l < 0 then shallowL 80 n x.l else leftE d (shallowL 80 n x.l) x.e) l := by cases x; rw [leftOs]; rfl
mutual
def lightE : E → Bool
  | .mk _ _ _ _ ks _ os => !(decide ((lengths 0 0 os).1 > 2000) || decide ((lengths 0 0 os).2 > 2000)) && lightKs ks && lightOs os
def lightKs : List KE → Bool
  | [] => true
  | .mk _ e :: l => lightE e && lightKs l
def lightOs : List OP → Bool
  | [] => true
  | .mk _ _ _ e :: l => lightE e && lightOs l
end
theorem lightE_mk (k : Int) (o nn : T) (ws : List WE) (ks : List KE) (l : Int) (os : List OP) : lightE (.mk k o nn ws ks l os) = (!(decide ((lengths 0 0 os).1 > 2000) || decide ((lengths 0 0 os).2 > 2000)) && lightKs ks && lightOs os) := by rw [lightE]
@[simp] theorem lightKs_nil : lightKs [] = true := by rw [lightKs]
@[simp] theorem lightKs_cons (x : KE) (l : List KE) : lightKs (x :: l) = (lightE x.e && lightKs l) := by cases x; rw [lightKs]; rfl
@[simp] theorem lightOs_nil : lightOs [] = true := by rw [lightOs]
@[simp] theorem lightOs_cons (x : OP) (l : List OP) : lightOs (x :: l) = (lightE x.e && lightOs l) := by cases x; rw [lightOs]; rfl
/-! ### the tree of an edit -/
def u64m (n : Int) : Int := n % 18446744073709551616
def treeW (w : WE) : T := .mk 1 [u64m (w.at_ + 4294967296 * w.mask), w.old, w.new] []
mutual
def treeE : E → T
  | .mk k o n ws ks l os =>
    if k = 0 then T0
    else if k = 1 then .mk 1 [u64m (k + 256 * l)] [o, n]
    else if k = 2 then .mk 1 [u64m (k + 256 * l)] [rowT' (ws.map treeW), rowT' (treeKs ks)]
    else .mk 1 [u64m (k + 256 * l)] [rowT' (treeOs l os)]
def treeKs : List KE → List T
  | [] => []
  | .mk a e :: l => .mk 1 [u64m a] [treeE e] :: treeKs l
def treeOs : Int → List OP → List T
  | _, [] => []
  | list, .mk k n t e :: l => .mk 1 [u64m (k + 256 * n)] (if k = 3 then [treeE e] else if k > 0 then [.mk list [] t] else []) :: treeOs list l
def rowT' : List T → T
  | [] => T0
  | t :: l => .mk 9 [] (t :: l)
end
theorem treeE_mk (k : Int) (o n : T) (ws : List WE) (ks : List KE) (l : Int) (os : List OP) : treeE (.mk k o n ws ks l os) =
    if k = 0 then T0
    else if k = 1 then .mk 1 [u64m (k + 256 * l)] [o, n]
    else if k = 2 then .mk 1 [u64m (k + 256 * l)] [rowT' (ws.map treeW), rowT' (treeKs ks)]
    else .mk 1 [u64m (k + 256 * l)] [rowT' (treeOs l os)] := by rw [treeE]
def treeK (x : KE) : T := .mk 1 [u64m x.at_] [treeE x.e]
def treeO (list : Int) (x : OP) : T := .mk 1 [u64m (x.kind + 256 * x.n)] (if x.kind = 3 then [treeE x.e] else if x.kind > 0 then [.mk list [] x.l] else [])
theorem treeKs_map : ∀ l, treeKs l = l.map treeK
  | [] => by rw [treeKs]; rfl
  | .mk a e :: l => by rw [treeKs, treeKs_map l]; rfl
theorem treeOs_map (list : Int) : ∀ l, treeOs list l = l.map (treeO list)
  | [] => by rw [treeOs]; rfl
  | .mk k n t e :: l => by rw [treeOs, treeOs_map list l]; rfl
@[simp] theorem rowT'_nil : rowT' [] = T0 := by rw [rowT']
@[simp] theorem rowT'_cons (t : T) (l : List T) : rowT' (t :: l) = .mk 9 [] (t :: l) := by rw [rowT']
/-! ### how many words an edit takes -/
def kids2 (a b : T) : Int := sizeP (norm a) + (if a.kind ≠ 0 then 1 else 0) + sizeP (norm b) + (if b.kind ≠ 0 then 2 - (if a.kind ≠ 0 then 1 else 0) else 0)
def wideW : Int → List WE → Int
  | x, [] => x
  | x, w :: l => wideW (if w.new ≠ 0 then 3 else if w.old ≠ 0 then max x 2 else x) l
def wideO : Int → List OP → Int
  | x, [] => x
  | x, o :: l => wideO (if o.kind = 1 ∨ o.kind = 2 ∨ o.kind = 3 then 2 else x) l
def lastAt : List KE → Int
  | [] => 0
  | [x] => x.at_
  | _ :: l => lastAt l
mutual
def nodeE : E → Int
  | .mk k o n ws ks l os =>
    if k = 1 then 1 + kids2 o n
    else if k = 2 then 1 + ((if ws = [] then 0 else 2 + ws.length * wideW 1 ws) + (if ks.isEmpty = true then 0 else 2 + ks.length * (if lastAt ks = 0 then 1 else 2) + (if ws = [] then 1 else 0) + nodeKs ks))
    else if k = 3 then 1 + (if os.isEmpty = true then 0 else 2 + os.length * wideO 1 os + nodeOs l os)
    else 0
def nodeKs : List KE → Int
  | [] => 0
  | .mk _ e :: l => nodeE e + nodeKs l
def nodeOs : Int → List OP → Int
  | _, [] => 0
  | list, .mk k n t e :: l => (if k = 1 ∨ k = 2 then sizeP (norm (.mk list [] t)) else if k = 3 then nodeE e else 0) + nodeOs list l
end
theorem nodeE_mk (k : Int) (o n : T) (ws : List WE) (ks : List KE) (l : Int) (os : List OP) : nodeE (.mk k o n ws ks l os) =
    if k = 1 then 1 + kids2 o n
    else if k = 2 then 1 + ((if ws = [] then 0 else 2 + ws.length * wideW 1 ws) + (if ks.isEmpty = true then 0 else 2 + ks.length * (if lastAt ks = 0 then 1 else 2) + (if ws = [] then 1 else 0) + nodeKs ks))
    else if k = 3 then 1 + (if os.isEmpty = true then 0 else 2 + os.length * wideO 1 os + nodeOs l os)
    else 0 := by rw [nodeE]
@[simp] theorem nodeKs_nil : nodeKs [] = 0 := by rw [nodeKs]
@[simp] theorem nodeKs_cons (x : KE) (l : List KE) : nodeKs (x :: l) = nodeE x.e + nodeKs l := by cases x; rw [nodeKs]; rfl
@[simp] theorem nodeOs_nil (list : Int) : nodeOs list [] = 0 := by rw [nodeOs]
@[simp] theorem nodeOs_cons (list : Int) (x : OP) (l : List OP) : nodeOs list (x :: l) = (if x.kind = 1 ∨ x.kind = 2 then sizeP (norm (.mk list [] x.l)) else if x.kind = 3 then nodeE x.e else 0) + nodeOs list l := by cases x; rw [nodeOs]; rfl
end Go.PL

/-
  Plain: what counts at the end of words and kids; what trees that mean the same have.
-/
namespace Go.PL
set_option linter.unusedVariables false
set_option linter.unusedSimpArgs false
theorem trimW_zero {w : List Int} {n : Nat} (h : n < w.length) (h0 : w[n] = 0) : trimW (w.take (n + 1)) = trimW (w.take n) := by
  rw [List.take_succ_eq_append_getElem h, trimW_snoc, if_pos h0]
theorem trimW_stop {w : List Int} {n : Nat} (h : n < w.length) (h0 : w[n] ≠ 0) : trimW (w.take (n + 1)) = w.take (n + 1) := by
  rw [List.take_succ_eq_append_getElem h, trimW_snoc, if_neg h0]
theorem trimK_zero {w : List T} {n : Nat} (h : n < w.length) (h0 : w[n].kind = 0) : trimK (w.take (n + 1)) = trimK (w.take n) := by
  rw [List.take_succ_eq_append_getElem h, trimK_snoc, if_pos h0]
theorem trimK_stop {w : List T} {n : Nat} (h : n < w.length) (h0 : w[n].kind ≠ 0) : trimK (w.take (n + 1)) = w.take (n + 1) := by
  rw [List.take_succ_eq_append_getElem h, trimK_snoc, if_neg h0]
theorem trimK_map_len (l : List T) : (trimK (l.map norm)).length = (trimK l).length := by
  induction l using snocInd with
  | h0 => rfl
  | h1 l x ih =>
    rw [List.map_append, List.map_cons, List.map_nil, trimK_snoc, trimK_snoc, norm_kind]
    split
    · exact ih
    · simp
theorem trimK_map (l : List T) : trimK (l.map norm) = (l.map norm).take (trimK l).length := by
  rw [← trimK_map_len]; exact trimK_take _
end Go.PL

/-
  Trees and edits as the program's values.
-/
namespace Go.Proofs.YthfiijdbnkaabaaGreat
set_option linter.unusedVariables false
set_option linter.unusedSimpArgs false
open Go Go.G Go.Proofs Go.PL
/-- A call that is not made. -/
theorem sc_call_off {P : Program} {K : Sta → Prop} {rest : List CO} {s : Nat → A} {H : Hp} {dd : Option Nat} {k : Nat} {f : Bool} {nm : Nm} {ix : Nat} {un : List Nat} {l : Bool} {lg : Lg} {g : FuncId} {aa : Array Operand} {ts : Array TypeId}
    (hq : wantA (s k) f = some false) (h : SeqC P K rest (addL l ix ⟨[], []⟩ lg) (Sta.put ⟨s, H⟩ dd (.v undef) H)) :
    SeqC P K (⟨dd, .call { callee := .value (.func g), args := aa, argTypes := ts }, some (k, f), nm, ix, un, l⟩ :: rest) lg ⟨s, H⟩ :=
  sc_call_g (q := false) (x := .any) hq (fun e => by cases e) h
abbrev uws (l : List Int) : A := .sl false (l.map uv)
abbrev u8 (n : Int) : A := .v (.int .u8 n)
mutual
def tC : T → List A
  | .mk k w l => [iv k, uws w, .sl false (tCs l)]
def tCs : List T → List A
  | [] => []
  | t :: l => .agg (tC t) :: tCs l
end
def tA (t : T) : A := .agg (tC t)
abbrev tKs (l : List T) : A := .sl false (l.map tA)
abbrev tX (t : T) : A := .agg [iv t.kind, uws t.words, tKs t.kids]
theorem tCs_map : ∀ l, tCs l = l.map tA
  | [] => by rw [tCs]; rfl
  | t :: l => by rw [tCs, tCs_map l]; rfl
theorem tC_eq (t : T) : tC t = [iv t.kind, uws t.words, tKs t.kids] := by cases t; rw [tC, tCs_map]; rfl
@[simp] theorem tA_eq (t : T) : tA t = tX t := by rw [tA, tC_eq]
def wA (w : WE) : A := .agg [iv w.at_, u8 w.mask, uv w.old, uv w.new]
abbrev wX (w : WE) : A := .agg [iv w.at_, u8 w.mask, uv w.old, uv w.new]
@[simp] theorem wA_eq (w : WE) : wA w = wX w := rfl
abbrev wKs (l : List WE) : A := .sl false (l.map wA)
mutual
def eC : E → List A
  | .mk k o n w ks l os => [iv k, iv o.kind, uws o.words, tKs o.kids, iv n.kind, uws n.words, tKs n.kids, wKs w, .sl false (eKs ks), iv l, .sl false (eOs os)]
def eKs : List KE → List A
  | [] => []
  | .mk a e :: l => .agg (iv a :: eC e) :: eKs l
def eOs : List OP → List A
  | [] => []
  | .mk k n t e :: l => .agg (iv k :: iv n :: tKs t :: eC e) :: eOs l
end
def kA (x : KE) : A := .agg (iv x.at_ :: eC x.e)
def oA (x : OP) : A := .agg (iv x.kind :: iv x.n :: tKs x.l :: eC x.e)
abbrev kKs (l : List KE) : A := .sl false (l.map kA)
abbrev oKs (l : List OP) : A := .sl false (l.map oA)
abbrev eL (e : E) : List A := [iv e.kind, iv e.old.kind, uws e.old.words, tKs e.old.kids, iv e.new.kind, uws e.new.words, tKs e.new.kids, wKs e.words, kKs e.kids, iv e.list, oKs e.ops]
abbrev eX (e : E) : A := .agg (eL e)
abbrev kX (x : KE) : A := .agg (iv x.at_ :: eL x.e)
abbrev oX (x : OP) : A := .agg (iv x.kind :: iv x.n :: tKs x.l :: eL x.e)
theorem eKs_map : ∀ l, eKs l = l.map kA
  | [] => by rw [eKs]; rfl
  | .mk a e :: l => by rw [eKs, eKs_map l]; rfl
theorem eOs_map : ∀ l, eOs l = l.map oA
  | [] => by rw [eOs]; rfl
  | .mk k n t e :: l => by rw [eOs, eOs_map l]; rfl
theorem eC_eq (e : E) : eC e = eL e := by cases e; rw [eC, eKs_map, eOs_map]; rfl
@[simp] theorem kA_eq (x : KE) : kA x = kX x := by rw [kA, eC_eq]
@[simp] theorem oA_eq (x : OP) : oA x = oX x := by rw [oA, eC_eq]
@[simp] theorem lens_iv (l : List Int) : lens 1 (l.map iv) = true := by simp [lens]
@[simp] theorem lens_tA (l : List T) : lens 3 (l.map tA) = true := by simp [lens]
@[simp] theorem lens_wA (l : List WE) : lens 4 (l.map wA) = true := by simp [lens]
@[simp] theorem lens_kA (l : List KE) : lens 12 (l.map kA) = true := by simp [lens]
@[simp] theorem lens_oA (l : List OP) : lens 14 (l.map oA) = true := by simp [lens]
theorem lens_all {n : Nat} {l : List A} : lens n l = true ↔ ∀ x, x ∈ l → x.cells.length = n := by simp [lens]
@[simp] theorem lens_take {n k : Nat} {l : List A} (h : lens n l = true) : lens n (l.take k) = true := by
  rw [lens_all] at h ⊢
  exact fun x hx => h x (List.mem_of_mem_take hx)
@[simp] theorem lens_drop {n k : Nat} {l : List A} (h : lens n l = true) : lens n (l.drop k) = true := by
  rw [lens_all] at h ⊢
  exact fun x hx => h x (List.mem_of_mem_drop hx)
/-- A row of the call's own, read. -/
theorem frz_row {α : Type} {H : Hp} {o : Nm} {u n sz : Nat} {l : List α} {f : α → A} (h : vr (H o) u = some (sz, l.map f)) (hn : n = l.length) (hf : ∀ x, ((f x).cells.length == sz && (f x).cells.all fun y => A.bare1 y && y.one) = true) : Frz H (.osl o u sz 0 n) (.sl false (l.map f)) := by
  subst hn
  have := frz_osl (H := H) (o := o) (u := u) (off := 0) (len := l.length) (sz := sz) (xs := l.map f) (by simpa using h) (by simp) (by
    simp only [List.drop_zero]
    rw [List.take_of_length_le (by simp), List.all_map, List.all_eq_true]
    exact fun x _ => hf x)
  simp [List.take_of_length_le] at this
  exact this
theorem frz_rowT {α : Type} {H : Hp} {o : Nm} {u n sz : Nat} {l : List α} {f : α → A} (h : vr (H o) u = some (sz, l.map f)) (hn : n ≤ l.length) (hf : ∀ x, ((f x).cells.length == sz && (f x).cells.all fun y => A.bare1 y && y.one) = true) : Frz H (.osl o u sz 0 n) (.sl false ((l.take n).map f)) := by
  have := frz_osl (H := H) (o := o) (u := u) (off := 0) (len := n) (sz := sz) (xs := l.map f) (by simpa using h) (by simpa using hn) (by
    simp only [List.drop_zero]
    rw [← List.map_take, List.all_map, List.all_eq_true]
    exact fun x _ => hf x)
  simpa using this
theorem row_succ {α : Type} {f : α → A} {l : List α} {i : Nat} (h : i < l.length) {x : A} (hx : f l[i] = x) : List.take i (List.take i (l.map f)) ++ [x] = (l.take (i + 1)).map f := by
  rw [List.take_take, Nat.min_self, List.take_succ_eq_append_getElem h, List.map_append, List.map_take, ← hx]; rfl
theorem frz_T0 {H : Hp} : Frz H (.agg [iv 0, .sl true [], .sl true []]) (tX T0) := frz_agg (by simp; exact ⟨frz_bare rfl, frz_sl, frz_sl⟩)
/-! ### sums, whatever is turned round -/
abbrev i64w (n : Int) : Int := IntKind.i64.wrap n
theorem i64_congr {a b : Int} (h : a % 18446744073709551616 = b % 18446744073709551616) : i64w a = i64w b := by
  unfold i64w; rw [IntKind.wrap_i64, IntKind.wrap_i64]; omega
theorem i64_mod (a : Int) : i64w a % 18446744073709551616 = a % 18446744073709551616 := by
  unfold i64w; rw [IntKind.wrap_i64]; omega
theorem i64_add_l (a b : Int) : IntKind.i64.wrap (IntKind.i64.wrap a + b) = IntKind.i64.wrap (a + b) := i64_congr (by have := i64_mod a; unfold i64w at this; omega)
theorem i64_add_r (a b : Int) : IntKind.i64.wrap (a + IntKind.i64.wrap b) = IntKind.i64.wrap (a + b) := i64_congr (by have := i64_mod b; unfold i64w at this; omega)
theorem i64_sub_l (a b : Int) : IntKind.i64.wrap (IntKind.i64.wrap a - b) = IntKind.i64.wrap (a - b) := i64_congr (by have := i64_mod a; unfold i64w at this; omega)
theorem i64_mul_r (a b : Int) : IntKind.i64.wrap (a * IntKind.i64.wrap b) = IntKind.i64.wrap (a * b) := i64_congr (by rw [Int.mul_emod]; have := i64_mod b; unfold i64w at this; rw [this, ← Int.mul_emod])
theorem i64_i64 (a : Int) : IntKind.i64.wrap (IntKind.i64.wrap a) = IntKind.i64.wrap a := i64_congr (i64_mod a)
/-! ### sizes that memory has -/
def i64R (n : Int) : Prop := -9223372036854775808 ≤ n ∧ n < 9223372036854775808
def u64R (n : Int) : Prop := 0 ≤ n ∧ n < 18446744073709551616
mutual
def wfT : T → Prop
  | .mk k w l => i64R k ∧ (∀ x, x ∈ w → u64R x) ∧ w.length * 8 ≤ 140737488355328 ∧ l.length * 56 ≤ 140737488355328 ∧ wfTs l
def wfTs : List T → Prop
  | [] => True
  | t :: l => wfT t ∧ wfTs l
end
theorem wfTs_all : ∀ {l : List T}, wfTs l ↔ ∀ t, t ∈ l → wfT t
  | [] => by simp [wfTs]
  | t :: l => by simp [wfTs, wfTs_all (l := l)]
structure WfT (t : T) : Prop where
  k : i64R t.kind
  w : ∀ x, x ∈ t.words → u64R x
  wl : t.words.length * 8 ≤ 140737488355328
  kl : t.kids.length * 56 ≤ 140737488355328
  ks : ∀ x, x ∈ t.kids → wfT x
theorem wfT_iff {t : T} : wfT t ↔ WfT t := by
  cases t; rw [wfT, wfTs_all]
  exact ⟨fun ⟨a, b, c, d, e⟩ => ⟨a, b, c, d, e⟩, fun ⟨a, b, c, d, e⟩ => ⟨a, b, c, d, e⟩⟩
def WE.wf (w : WE) : Prop := i64R w.at_ ∧ (0 ≤ w.mask ∧ w.mask < 256) ∧ u64R w.old ∧ u64R w.new
mutual
def wfE : E → Prop
  | .mk k o n w ks l os => (i64R k ∧ i64R l ∧ wfT o ∧ wfT n ∧ (∀ x, x ∈ w → WE.wf x) ∧ w.length * 32 ≤ 140737488355328 ∧ ks.length * 208 ≤ 140737488355328 ∧ os.length * 240 ≤ 140737488355328) ∧ wfKs ks ∧ wfOs os
def wfKs : List KE → Prop
  | [] => True
  | .mk a e :: l => (i64R a ∧ wfE e) ∧ wfKs l
def wfOs : List OP → Prop
  | [] => True
  | .mk k n t e :: l => (i64R k ∧ i64R n ∧ wfTs t ∧ t.length * 56 ≤ 140737488355328 ∧ wfE e) ∧ wfOs l
end
structure WfO (x : OP) : Prop where
  k : i64R x.kind
  n : i64R x.n
  l : ∀ t, t ∈ x.l → wfT t
  ll : x.l.length * 56 ≤ 140737488355328
  e : wfE x.e
theorem wfKs_all : ∀ {l : List KE}, wfKs l ↔ ∀ x, x ∈ l → i64R x.at_ ∧ wfE x.e
  | [] => by simp [wfKs]
  | .mk a e :: l => by simp [wfKs, wfKs_all (l := l)]
theorem wfOs_all : ∀ {l : List OP}, wfOs l ↔ ∀ x, x ∈ l → WfO x
  | [] => by simp [wfOs]
  | .mk k n t e :: l => by
    simp only [wfOs, wfOs_all (l := l), wfTs_all, List.forall_mem_cons]
    exact ⟨fun ⟨⟨a, b, c, d, e⟩, h⟩ => ⟨⟨a, b, c, d, e⟩, h⟩, fun ⟨⟨a, b, c, d, e⟩, h⟩ => ⟨⟨a, b, c, d, e⟩, h⟩⟩
structure WfE (e : E) : Prop where
  k : i64R e.kind
  l : i64R e.list
  o : wfT e.old
  n : wfT e.new
  w : ∀ x, x ∈ e.words → WE.wf x
  wl : e.words.length * 32 ≤ 140737488355328
  kl : e.kids.length * 208 ≤ 140737488355328
  ol : e.ops.length * 240 ≤ 140737488355328
  ks : ∀ x, x ∈ e.kids → i64R x.at_ ∧ wfE x.e
  os : ∀ x, x ∈ e.ops → WfO x
theorem wfE_iff {e : E} : wfE e ↔ WfE e := by
  cases e; rw [wfE, wfKs_all, wfOs_all]
  exact ⟨fun ⟨⟨a, b, c, d, e, f, g, h⟩, i, j⟩ => ⟨a, b, c, d, e, f, g, h, i, j⟩, fun ⟨a, b, c, d, e, f, g, h, i, j⟩ => ⟨⟨a, b, c, d, e, f, g, h⟩, i, j⟩⟩
end Go.Proofs.YthfiijdbnkaabaaGreat

/-
  The document's words: bytes, masks, small numbers.
-/
namespace Go.Proofs.YthfiijdbnkaabaaGreat
set_option linter.unusedVariables false
set_option linter.unusedSimpArgs false
open Go Go.G Go.Proofs Go.PL
theorem rWidth_spec (c : Int) : G.Spec Tryz.prog 75 [iv c] (iv (widthZ c)) := by
  refine spec_of t_centoref01_Width (by simp) fun w0 I0 => ?_
  unfold c_centoref01_Width
  by_cases h0 : c = 0
  · subst h0; simp; exact frz_is rfl rfl
  by_cases h1 : c = 1
  · subst h1; simp; exact frz_is rfl rfl
  by_cases h2 : c = 2
  · subst h2; simp; exact frz_is rfl rfl
  by_cases h3 : c = 3
  · subst h3; simp; exact frz_is rfl rfl
  by_cases h4 : c = 4
  · subst h4; simp; exact frz_is rfl rfl
  by_cases h5 : c = 5
  · subst h5; simp; exact frz_is rfl rfl
  simp [h0, h1, h2, h3, h4, h5]
  exact frz_is rfl (by simp [widthZ, h0, h1, h2, h3, h4, h5])
theorem widthZ_cases (c : Int) : widthZ c = -1 ∨ widthZ c = 0 ∨ widthZ c = 1 ∨ widthZ c = 8 ∨ widthZ c = 16 ∨ widthZ c = 32 ∨ widthZ c = 64 := by
  unfold widthZ; repeat' split
  all_goals simp
section
variable {n0 : Nat} {w0 : World} {I0 : Nat → Prop} {Q : Exit → Sta → Prop} {H : Hp}
theorem rFits_l1 {w : Int} (hw : w ≤ 64) : ∀ (m : Nat) (x i : Int), 0 ≤ x → x < 18446744073709551616 → 0 ≤ i → i + m = w → (∀ b, Q (.exit 0) ⟨lk [(1, uv (x / 2 ^ m)), (5, iv w), (6, iv w), (13, bv b)], H⟩) →
    LoopC (cx Tryz.prog w0 I0 n0) l1_centoref01_Fits Q ⟨lk [(1, uv x), (5, iv w), (6, iv i)], H⟩ := by
  intro m
  induction m with
  | zero =>
    intro x i h0 h1 h2 h3 hq
    have : i = w := by simpa using h3
    subst this
    refine loopC_once mixed l1_centoref01_Fits.eq_1 ?_
    simp
    simpa using hq _
  | succ m ih =>
    intro x i h0 h1 h2 h3 hq
    refine loopC_once mixed l1_centoref01_Fits.eq_1 ?_
    have hi : i < w := by omega
    simp [hi]
    rw [i64_same (by omega) (by omega), Int.tdiv_eq_ediv_of_nonneg h0, u64_same (by omega) (by omega)]
    exact ih _ _ (by omega) (by omega) (by omega) (by omega) (by rw [pow_half]; exact hq)
end
theorem rFits_spec {c n : Int} (h : u64R n) : G.Spec Tryz.prog 42 [iv c, uv n] (bv (fitsZ c n)) := by
  refine spec_of t_centoref01_Fits (by simp) fun w0 I0 => ?_
  unfold c_centoref01_Fits
  simp
  refine sc_call (rWidth_spec c) rfl ?_
  simp
  have hw := widthZ_cases c
  refine ⟨fun h0 => ?_, fun h0 => ?_⟩
  · refine frz_bool ?_
    simp [fitsZ]; omega
  · refine rFits_l1 (w := widthZ c) (by omega) (widthZ c).toNat n 0 h.1 h.2 (by omega) (by omega) (fun b => ?_)
    simp
    refine frz_bool ?_
    simp [fitsZ, h0]
theorem bitsZ_width (c : Int) : bitsZ c = if widthZ c < 1 then 0 else widthZ c := by
  unfold bitsZ widthZ
  by_cases h0 : c = 0
  · subst h0; rfl
  by_cases h1 : c = 1
  · subst h1; rfl
  by_cases h2 : c = 2
  · subst h2; rfl
  by_cases h3 : c = 3
  · subst h3; rfl
  by_cases h4 : c = 4
  · subst h4; rfl
  by_cases h5 : c = 5
  · subst h5; rfl
  simp [h0, h1, h2, h3, h4, h5]
section
variable {n0 : Nat} {w0 : World} {I0 : Nat → Prop} {Q : Exit → Sta → Prop} {H : Hp}
end
/-! ### the program's widths -/
theorem width_spec (c : Int) : G.Spec Tryz.prog 133 [iv c] (.tup [iv (if widthZ c < 0 then 0 else widthZ c), bv (decide (0 ≤ widthZ c))]) := by
  refine spec_of t_word_width (by simp) fun w0 I0 => ?_
  unfold c_word_width
  by_cases h0 : c = 0
  · subst h0; simp; exact frz_is rfl rfl
  by_cases h1 : c = 1
  · subst h1; simp; exact frz_is rfl rfl
  by_cases h2 : c = 2
  · subst h2; simp; exact frz_is rfl rfl
  by_cases h3 : c = 3
  · subst h3; simp; exact frz_is rfl rfl
  by_cases h4 : c = 4
  · subst h4; simp; exact frz_is rfl rfl
  by_cases h5 : c = 5
  · subst h5; simp; exact frz_is rfl rfl
  have hd : (decide (c < 0) || decide (6 ≤ c)) = true := by simp; omega
  simp [hd]
  exact frz_is rfl (by simp [widthZ, h0, h1, h2, h3, h4, h5])
theorem room_spec' (c n : Int) : G.Spec Tryz.prog 130 [iv c, iv n] (iv (roomZ c n)) := by
  refine spec_of t_word_Room (by simp) fun w0 I0 => ?_
  unfold c_word_Room
  simp
  refine sc_call (width_spec c) rfl ?_
  have hw := widthZ_cases c
  have hb := bitsZ_width c
  simp
  refine ⟨fun h0 => ?_, fun a1 a2 a3 => ?_⟩
  · refine frz_int ?_
    unfold roomZ
    split
    · rfl
    · rw [hb, if_pos (by omega)]; simp
  · have e : roomZ c n = (n * widthZ c + 63) / 64 := by
      unfold roomZ; rw [if_neg (by omega), hb]
      split
      · have : widthZ c = 0 := by omega
        simp [this]
      · rfl
    rw [e, if_neg (by omega)]
    generalize widthZ c = w at *
    have hw : w = 0 ∨ w = 1 ∨ w = 8 ∨ w = 16 ∨ w = 32 ∨ w = 64 := by omega
    refine frz_int ?_
    rcases hw with rfl | rfl | rfl | rfl | rfl | rfl
    all_goals
      try simp
      try simp (disch := omega) only [i64_same, Int.tdiv_eq_ediv_of_nonneg]
      try rfl
theorem data_spec (k : Int) : G.Spec Tryz.prog 105 [iv k] (bv (isData k)) := by
  refine spec_of t_tree_Data (by simp) fun w0 I0 => ?_
  unfold c_tree_Data
  simp
  refine frz_bool ?_
  simp [isData]
/-! ### without noughts at the end -/
section
variable {n0 : Nat} {w0 : World} {I0 : Nat → Prop} {Q : Exit → Sta → Prop} {H : Hp}
end
/-! ### bytes -/
abbrev bys (l : List Int) : List A := l.map u8
/-- So many bytes, the lowest one first. -/
def bytesN : Nat → Int → List Int
  | 0, _ => []
  | m + 1, x => x % 256 :: bytesN m (x / 256)
@[simp] theorem bytesN_length : ∀ (m : Nat) (x : Int), (bytesN m x).length = m
  | 0, _ => rfl
  | m + 1, x => by simp [bytesN, bytesN_length m]
theorem splice_set {l : List Int} {i : Nat} {v : Int} (h : i < l.length) : splice (l.map u8) i [u8 v] = (l.set i v).map u8 := by
  apply List.ext_getElem?
  intro j
  simp only [splice, List.length_singleton]
  rw [List.append_assoc, List.map_set]
  by_cases h1 : j < i
  · rw [List.getElem?_append_left (by simp; omega), List.getElem?_take, if_pos h1, List.getElem?_set_ne (by omega)]
  · rw [List.getElem?_append_right (by simp; omega)]
    have e : (List.take i (l.map u8)).length = i := by simp; omega
    rw [e]
    by_cases h2 : j = i
    · subst h2
      rw [List.getElem?_set_self (by simpa using h)]
      simp
    · rw [List.getElem?_set_ne (by omega), List.getElem?_append_right (by simp; omega), List.getElem?_drop]
      congr 1
      simp; omega
theorem splice_at (a : List A) (x v : A) (b : List A) : splice (a ++ x :: b) a.length [v] = a ++ v :: b := by simp [splice]
section
variable {n0 : Nat} {w0 : World} {I0 : Nat → Prop} {Q : Exit → Sta → Prop}
theorem rBytes_l1 : ∀ (m : Nat) (i : Nat) (x : Int) (d : List Int) (H : Hp), 0 ≤ x → x < 18446744073709551616 → i + m = 8 → d.length = i → H [1] = ⟨1, .cells (bys (d ++ List.replicate m 0))⟩ → H [0] = ⟨1, .cells (bys (List.replicate 8 0))⟩ →
    (∀ x' q H', H' [1] = ⟨1, .cells (bys (d ++ bytesN m x))⟩ → H' [0] = ⟨1, .cells (bys (List.replicate 8 0))⟩ → Q (.exit 0) ⟨lk [(0, uv x'), (2, .pob [0] 1 0), (3, .pob [1] 1 0), (4, iv 8), (7, bv q)], H'⟩) →
    LoopC (cx Tryz.prog w0 I0 n0) l1_centoref01_Bytes Q ⟨lk [(0, uv x), (2, .pob [0] 1 0), (3, .pob [1] 1 0), (4, iv i)], H⟩ := by
  intro m
  induction m with
  | zero =>
    intro i x d H h0 h1 hi hd hH hH0 hq
    have : i = 8 := by omega
    subst this
    refine loopC_once mixed l1_centoref01_Bytes.eq_1 ?_
    simp
    exact hq _ _ _ (by simpa [bytesN] using hH) hH0
  | succ m ih =>
    intro i x d H h0 h1 hi hd hH hH0 hq
    refine loopC_once mixed l1_centoref01_Bytes.eq_1 ?_
    have hlt : (i : Int) < 8 := by omega
    simp [hlt, hH]
    refine ⟨by omega, ?_⟩
    have ht : x.tmod 256 = x % 256 := Int.tmod_eq_emod_of_nonneg h0
    have e8 : IntKind.u8.wrap (x % 256) = x % 256 := by rw [IntKind.wrap_u8]; omega
    rw [Int.tdiv_eq_ediv_of_nonneg h0, ht, u64_same (by omega) (by omega), e8, i64_same (by omega) (by omega)]
    refine ih (i + 1) (x / 256) (d ++ [x % 256]) _ (by omega) (by omega) (by omega) (by simp [hd]) ?_ (by simp [updF_app, hH0]) (fun x' q H' k1 k0 => hq x' q H' (by rw [k1]; simp [bytesN]) k0)
    simp [updF_app]
    rw [List.replicate_succ, ← hd]
    simpa using splice_at (List.map u8 d) (u8 0) (u8 (x % 256)) (List.replicate m (u8 0))
end
def bytesZ (x : Int) : List Int := bytesN 8 x
theorem frz_bytes {H : Hp} {l : List Int} : Frz H (.agg (bys l)) (.agg (bys l)) := frz_bare (by simp)
theorem rBytes_spec {x : Int} (h : u64R x) : G.Spec Tryz.prog 108 [uv x] (.agg (bys (bytesZ x))) := by
  refine spec_of t_centoref01_Bytes (by simp) fun w0 I0 => ?_
  unfold c_centoref01_Bytes
  simp
  refine rBytes_l1 8 0 x [] _ h.1 h.2 rfl rfl (by simp) (by simp) (fun x' q H' h1 h0 => ?_)
  have e : List.take 8 (bys (bytesN 8 x)) = bys (bytesN 8 x) := List.take_of_length_le (by simp)
  simp [h1, h0, updF_app, e]
  exact ⟨by simp [A.ones], frz_bytes⟩
section
variable {n0 : Nat} {w0 : World} {I0 : Nat → Prop} {Q : Exit → Sta → Prop} {H : Hp}
theorem rNamed_l1 {k : Int} (hk : k ≤ 8) : ∀ (m : Nat) (x i : Int), 0 ≤ x → x < 256 → 0 ≤ i → i + m = k → (∀ q, Q (.exit 0) ⟨lk [(0, u8 (x / 2 ^ m)), (1, iv k), (5, iv k), (8, bv q)], H⟩) →
    LoopC (cx Tryz.prog w0 I0 n0) l1_centoref01_Named Q ⟨lk [(0, u8 x), (1, iv k), (5, iv i)], H⟩ := by
  intro m
  induction m with
  | zero =>
    intro x i h0 h1 h2 h3 hq
    have : i = k := by simpa using h3
    subst this
    refine loopC_once mixed l1_centoref01_Named.eq_1 ?_
    simp
    simpa using hq _
  | succ m ih =>
    intro x i h0 h1 h2 h3 hq
    refine loopC_once mixed l1_centoref01_Named.eq_1 ?_
    have hi : i < k := by omega
    simp [hi]
    have e8 : IntKind.u8.wrap (x / 2) = x / 2 := by rw [IntKind.wrap_u8]; omega
    rw [i64_same (by omega) (by omega), Int.tdiv_eq_ediv_of_nonneg h0, e8]
    exact ih _ _ (by omega) (by omega) (by omega) (by omega) (by rw [pow_half]; exact hq)
end
def namedZ (x : Int) (i : Nat) : Bool := decide (x / 2 ^ i % 2 = 1)
theorem rNamed_spec {x : Int} (h0 : 0 ≤ x) (h1 : x < 256) {i : Nat} (hi : i ≤ 8) : G.Spec Tryz.prog 109 [u8 x, iv i] (bv (namedZ x i)) := by
  refine spec_of t_centoref01_Named (by simp) fun w0 I0 => ?_
  unfold c_centoref01_Named
  simp
  refine rNamed_l1 (by omega) i x 0 h0 h1 (by omega) (by omega) (fun q => ?_)
  simp
  refine frz_bool ?_
  have : 0 ≤ x / 2 ^ i := Int.ediv_nonneg h0 (Int.le_of_lt (Int.pow_pos (by decide)))
  rw [Int.tmod_eq_emod_of_nonneg this]
  rfl
/-- The word of bytes. -/
def ofZ : List Int → Int
  | [] => 0
  | b :: l => b + 256 * ofZ l
theorem ofZ_range : ∀ (l : List Int), (∀ b, b ∈ l → 0 ≤ b ∧ b < 256) → 0 ≤ ofZ l ∧ ofZ l < 256 ^ l.length
  | [], _ => by simp [ofZ]
  | b :: l, h => by
    have h1 := h b (by simp)
    have h2 := ofZ_range l fun x hx => h x (by simp [hx])
    simp only [ofZ, List.length_cons, Int.pow_succ]
    omega
section
variable {n0 : Nat} {w0 : World} {I0 : Nat → Prop} {Q : Exit → Sta → Prop} {H : Hp}
theorem rOf_l1 {f : Bool} {l : List Int} (hl : l.length = 8) (hr : ∀ b, b ∈ l → 0 ≤ b ∧ b < 256) : ∀ (m : Nat) (x j : Int), m ≤ 8 → x = ofZ (l.drop m) → j = (m : Int) - 1 → (∀ q, Q (.exit 0) ⟨lk [(0, .sl f (bys l)), (1, iv 0), (5, uv (ofZ l)), (6, iv (-1)), (8, bv q)], H⟩) →
    LoopC (cx Tryz.prog w0 I0 n0) l1_centoref01_Of Q ⟨lk [(0, .sl f (bys l)), (1, iv 0), (5, uv x), (6, iv j)], H⟩ := by
  intro m
  induction m with
  | zero =>
    intro x j hm hx hj hq
    subst hx hj
    refine loopC_once mixed l1_centoref01_Of.eq_1 ?_
    simp
    simpa using hq false
  | succ m ih =>
    intro x j hm hx hj hq
    subst hx hj
    have hlt : m < l.length := by omega
    have hd := ofZ_range (l.drop m) fun b hb => hr b (List.mem_of_mem_drop hb)
    have hp : (256 : Int) ^ (l.drop m).length ≤ 18446744073709551616 := by
      have h2 := Int.ofNat_le.2 (Nat.pow_le_pow_right (n := 256) (by decide) (by simp; omega : (l.drop m).length ≤ 8))
      rw [Int.natCast_pow] at h2
      exact h2
    have e1 : l.drop m = l[m] :: l.drop (m + 1) := List.drop_eq_getElem_cons hlt
    have hb := hr l[m] (List.getElem_mem hlt)
    have ez : ofZ (l.drop m) = l[m] + 256 * ofZ (l.drop (m + 1)) := by rw [e1, ofZ]
    have hd1 := ofZ_range (l.drop (m + 1)) fun b hb => hr b (List.mem_of_mem_drop hb)
    refine loopC_once mixed l1_centoref01_Of.eq_1 ?_
    have em : IntKind.i64.wrap (m : Int) = m := i64_same (by omega) (by omega)
    have hm0 : (0 : Int) ≤ m := by omega
    have hm8 : (m : Int) < 8 := by omega
    simp [em, hl, hm8, List.getElem?_eq_getElem hlt]
    have e64 : IntKind.u64.wrap l[m] = l[m] := u64_same (by omega) (by omega)
    rw [e64, u64_same (n := ofZ (List.drop (m + 1) l) * 256) (by omega) (by omega), u64_same (by omega) (by omega), i64_same (by omega) (by omega)]
    exact ih _ _ (by omega) (by rw [ez]; omega) rfl hq
end
theorem rOf_spec {f : Bool} {l : List Int} (hl : l.length = 8) (hr : ∀ b, b ∈ l → 0 ≤ b ∧ b < 256) : G.Spec Tryz.prog 110 [.sl f (bys l), iv 0] (uv (ofZ l)) := by
  refine spec_of t_centoref01_Of (by simp) fun w0 I0 => ?_
  unfold c_centoref01_Of
  simp
  refine rOf_l1 hl hr 8 0 7 (Nat.le_refl _) ?_ rfl (fun q => ?_)
  · rw [List.drop_of_length_le (by omega)]; rfl
  · simp
    exact frz_bare rfl
theorem bytesN_range : ∀ (m : Nat) (x : Int), ∀ b, b ∈ bytesN m x → 0 ≤ b ∧ b < 256
  | m + 1, x, b, h => by
    rcases List.mem_cons.1 h with rfl | h
    · omega
    · exact bytesN_range m _ b h
def mixL (a b : List Int) (mask : Int) (k : Nat) : List Int := (List.range k).map (fun i => if namedZ mask i = true then b.getD i 0 else a.getD i 0) ++ a.drop k
theorem mixL_length {a b : List Int} {mask : Int} {k : Nat} (h : k ≤ a.length) : (mixL a b mask k).length = a.length := by simp [mixL]; omega
theorem mixL_succ {a b : List Int} {mask : Int} {k : Nat} (h : k < a.length) : mixL a b mask (k + 1) = if namedZ mask k = true then (mixL a b mask k).set k (b.getD k 0) else mixL a b mask k := by
  unfold mixL
  rw [List.range_succ]
  have e0 : a.drop k = a[k] :: a.drop (k + 1) := List.drop_eq_getElem_cons h
  have e : ((List.range k).map (fun i => if namedZ mask i = true then b.getD i 0 else a.getD i 0)).length = k := by simp
  split
  · rename_i hn
    rw [List.set_append_right _ _ (by omega), e, e0, Nat.sub_self, List.set_cons_zero]
    simp [hn]
  · rename_i hn
    rw [e0]
    simp [hn, List.getElem?_eq_getElem h]
section
variable {n0 : Nat} {w0 : World} {I0 : Nat → Prop} {Q : Exit → Sta → Prop}
theorem rMix_l1 {a b : List Int} {mask : Int} (ha : a.length = 8) (hb : b.length = 8) (h0 : 0 ≤ mask) (h1 : mask < 256) (hq : ∀ q H', H' [0] = ⟨1, .cells (bys (mixL a b mask 8))⟩ → Q (.exit 0) ⟨lk [(2, u8 mask), (7, .pob [0] 1 0), (8, .pob [1] 1 0), (9, iv 8), (15, bv q)], H'⟩) : ∀ (m i : Nat) (H : Hp), i + m = 8 → H [0] = ⟨1, .cells (bys (mixL a b mask i))⟩ → H [1] = ⟨1, .cells (bys b)⟩ →
    LoopC (cx Tryz.prog w0 I0 n0) l1_centoref01_Mix Q ⟨lk [(2, u8 mask), (7, .pob [0] 1 0), (8, .pob [1] 1 0), (9, iv i)], H⟩ := by
  intro m
  induction m with
  | zero =>
    intro i H hi hA hB
    have : i = 8 := by omega
    subst this
    refine loopC_once mixed l1_centoref01_Mix.eq_1 ?_
    simp
    exact hq _ _ hA
  | succ m ih =>
    intro i H hi hA hB
    have hlt : (i : Int) < 8 := by omega
    have hml := mixL_length (a := a) (b := b) (mask := mask) (k := i) (by omega)
    have hia : i < (mixL a b mask i).length := by omega
    have hib : i < b.length := by omega
    refine loopC_once mixed l1_centoref01_Mix.eq_1 ?_
    simp [hlt]
    refine sc_call (rNamed_spec h0 h1 (by omega)) rfl ?_
    have hs := mixL_succ (a := a) (b := b) (mask := mask) (k := i) (by omega)
    cases hn : namedZ mask i with
    | false =>
      simp [hn] at hs
      simp
      rw [i64_same (by omega) (by omega)]
      exact ih (i + 1) H (by omega) (by rw [hs]; exact hA) hB
    | true =>
      simp [hn] at hs
      simp [hlt, hA, hB, List.getElem?_eq_getElem hib]
      refine ⟨by omega, ?_⟩
      rw [i64_same (by omega) (by omega)]
      refine ih (i + 1) _ (by omega) ?_ (by simp [updF_app, hB])
      rw [hs]
      simp only [updF_app, if_true]
      rw [splice_set hia]
      simp [List.getElem?_eq_getElem hib]
end
def mixZ (a b mask : Int) : Int := ofZ (mixL (bytesZ a) (bytesZ b) mask 8)
theorem mixL_range {a b mask : Int} {k : Nat} : ∀ x, x ∈ mixL (bytesZ a) (bytesZ b) mask k → 0 ≤ x ∧ x < 256 := by
  have hg : ∀ (y : Int) (i : Nat), 0 ≤ (bytesZ y).getD i 0 ∧ (bytesZ y).getD i 0 < 256 := fun y i => by
    rw [List.getD_eq_getElem?_getD]
    cases e : (bytesZ y)[i]? with
    | none => simp
    | some z => exact bytesN_range 8 y z (List.mem_of_getElem? e)
  intro x hx
  rcases List.mem_append.1 hx with hx | hx
  · obtain ⟨i, _, rfl⟩ := List.mem_map.1 hx
    split
    · exact hg b i
    · exact hg a i
  · exact bytesN_range 8 a x (List.mem_of_mem_drop hx)
theorem bytesZ_length (x : Int) : (bytesZ x).length = 8 := bytesN_length 8 x
theorem rMix_spec {a b mask : Int} (ha : u64R a) (hb : u64R b) (h0 : 0 ≤ mask) (h1 : mask < 256) : G.Spec Tryz.prog 78 [uv a, uv b, u8 mask] (uv (mixZ a b mask)) := by
  refine spec_of t_centoref01_Mix (by simp) fun w0 I0 => ?_
  unfold c_centoref01_Mix
  simp
  refine sc_call (rBytes_spec ha) rfl ?_
  simp
  refine sc_call (rBytes_spec hb) rfl ?_
  have l8 := bytesZ_length a
  have m8 := bytesZ_length b
  have o1 : ∀ l : List Int, A.ones (bys l) = true := fun l => by simp [A.ones]
  simp [l8, m8, o1]
  refine rMix_l1 l8 m8 h0 h1 (fun q H' hH => ?_) 8 0 _ (by omega) (by simp [mixL]) (by simp)
  simp
  have lm : (mixL (bytesZ a) (bytesZ b) mask 8).length = 8 := by rw [mixL_length (by omega), l8]
  refine stop_le (le_freezeD (d := [0]) (fun _ h => h) 7 (.pim (bys (mixL (bytesZ a) (bytesZ b) mask 8))) (fun H1 h1 => ?_)) (stop_go ?_)
  · rw [hH] at h1
    exact frz_pob (by simp [getC, h1]) (frzL_bare (by simp)) (o1 _)
  have e : List.take 8 (bys (mixL (bytesZ a) (bytesZ b) mask 8)) = bys (mixL (bytesZ a) (bytesZ b) mask 8) := List.take_of_length_le (by simp [lm])
  simp [lm, e]
  refine sc_call (rOf_spec lm mixL_range) rfl ?_
  simp
  exact frz_bare rfl
end Go.Proofs.YthfiijdbnkaabaaGreat

/-
  Trees and edits as arguments, whatever the room of their slices; operations under a guard.
-/
namespace Go.Proofs.YthfiijdbnkaabaaGreat
set_option linter.unusedVariables false
set_option linter.unusedSimpArgs false
open Go Go.G Go.Proofs Go.PL
@[simp] theorem GtG_shift {q : Bool} {n : Nat} {y : A} {K : A → Prop} : GtG q (A.shift n (gd q y)) K = GtG q (A.shift n y) K := GtG_same fun h => by rw [h]; rfl
/-! ### slices of any room -/
theorem soft_uv (l : List Int) : A.softL (l.map uv) = l.map uv := by
  rw [softL_map, List.map_map]; rfl
theorem soft_tA : ∀ t : T, (tA t).soft = tA t := by
  refine T.ind fun k w l ih => ?_
  rw [tA_eq]
  simp only [A.soft, A.softL, T.kind_mk, T.words_mk, T.kids_mk, soft_uv]
  have e : l.map (A.soft ∘ tA) = l.map tA := List.map_congr_left fun t ht => ih t ht
  rw [softL_map, List.map_map, e]
  rfl
theorem soft_tKs (l : List T) : A.softL (l.map tA) = l.map tA := by
  rw [softL_map, List.map_map]
  exact List.map_congr_left fun t _ => soft_tA t
end Go.Proofs.YthfiijdbnkaabaaGreat

/-
  The functions' text as data, and the facts on the types that they use: written by a program of ours (gen2.py) off the translation.
-/
namespace Go.Proofs.YthfiijdbnkaabaaGreat
set_option linter.unusedVariables false
set_option linter.unusedSimpArgs false
set_option maxRecDepth 20000
open Go Go.G Go.Proofs
@[simp] theorem und_4 : Tryz.prog.underlying 4 = some .bool := by kernel_rfl
@[simp] theorem und_23 : Tryz.prog.underlying 23 = some (.slice 25) := by kernel_rfl
@[simp] theorem szT_23 : szT Tryz.prog 23 = some 1 := by kernel_rfl
@[simp] theorem szT_25 : szT Tryz.prog 25 = some 3 := by kernel_rfl
@[simp] theorem aggT_23 : aggT Tryz.prog 23 = some false := by kernel_rfl
@[simp] theorem aggT_25 : aggT Tryz.prog 25 = some true := by kernel_rfl
@[simp] theorem zeroT_25 : zeroT Tryz.prog 25 = some (Value.agg #[Value.int IntKind.i64 0, Value.slice none 0 0, Value.slice none 0 0]) := by kernel_rfl
@[simp] theorem bytesT_25 : bytesT Tryz.prog 25 = some 56 := by kernel_rfl
@[simp] theorem fieldOffT_25_0 : fieldOffT Tryz.prog 25 0 = some 0 := by kernel_rfl
@[simp] theorem fieldOffT_25_1 : fieldOffT Tryz.prog 25 1 = some 1 := by kernel_rfl
@[simp] theorem fieldOffT_25_2 : fieldOffT Tryz.prog 25 2 = some 2 := by kernel_rfl
@[simp] theorem buildA_25 (ps : List (Nat × A)) : buildA Tryz.prog 25 ps = (fillA (fun i => ([(0, 1), (1, 1), (2, 1)] : List (Nat × Nat))[i]?) [A.v (Value.int IntKind.i64 0), A.sl true [], A.sl true []] ps).map A.agg := by kernel_rfl
def l1_centoref07_Right : CC :=
  .seq (.seq (.reg [co (some 78) (.move (.tmp 5)) none,
        co (some 79) (.fieldAddr 25 (.tmp 2) 2) none,
        co (some 80) (.load 23 (.tmp 79)) none,
        co (some 81) (.call { callee := (.builtin .len), args := #[(.tmp 80)], argTypes := #[23] }) none,
        co (some 82) (.binOp .lss 3 (.tmp 78) (.tmp 81) 3) none] [1, 2, 5, 82])
    (.cond (.tmp 82)
      (.skip)
      (.exit 0)))
  (.keep [1, 2, 5] (.seq (.block 1
      (.seq (.reg [co (some 85) (.fieldAddr 25 (.tmp 2) 2) none,
          co (some 86) (.load 23 (.tmp 85)) none,
          co (some 87) (.move (.tmp 5)) none,
          co (some 88) (.indexAddr 23 (.tmp 86) (.tmp 87)) none,
          co (some 89) (.load 25 (.tmp 88)) none,
          cn (some 6) (.alloc 25) none [1],
          co none (.store 25 (.tmp 6) (.tmp 89)) none] [1, 2, 5, 6])
      (.seq (.seq (.reg [co (some 90) (.load 25 (.tmp 6)) none,
            co (some 91) (.move (.tmp 1)) none,
            co (some 92) (.binOp .sub 3 (.tmp 91) (.const (.int .i64 1)) 3) none,
            co (some 93) (.call { callee := (.value (.func 17)), args := #[(.tmp 90), (.tmp 92)], argTypes := #[25, 3] }) none,
            co (some 94) (.unOp .not 4 (.tmp 93)) none] [1, 2, 5, 6, 94])
        (.cond (.tmp 94)
          (.seq (.reg [co (some 4) (.assign (.const (.bool false))) none] [4])
          (.ret))
          (.skip)))
      (.keep [1, 2, 5, 6] (.seq (.reg [co (some 95) (.fieldAddr 25 (.tmp 2) 0) none,
          co (some 96) (.load 3 (.tmp 95)) none,
          co (some 97) (.binOp .geq 3 (.tmp 96) (.const (.int .i64 2)) 3) none,
          co (some 98) (.move (.tmp 97)) none,
          co (some 99) (.fieldAddr 25 (.tmp 2) 0) (some (98, true)),
          co (some 100) (.load 3 (.tmp 99)) (some (98, true)),
          co (some 101) (.binOp .leq 3 (.tmp 100) (.const (.int .i64 7)) 3) (some (98, true)),
          co (some 102) (.pick (.tmp 98) (.tmp 101) (.const (.bool false))) none,
          co (some 7) (.assign (.tmp 102)) none] [1, 2, 5, 6, 7])
      (.seq (.reg [co (some 103) (.move (.tmp 7)) none,
          co (some 104) (.fieldAddr 25 (.tmp 6) 0) none,
          co (some 105) (.load 3 (.tmp 104)) none,
          co (some 106) (.binOp .eql 3 (.tmp 105) (.const (.int .i64 10)) 3) none,
          co (some 107) (.binOp .neq 4 (.tmp 103) (.tmp 106) 4) none,
          co (some 108) (.move (.tmp 107)) none,
          co (some 109) (.fieldAddr 25 (.tmp 2) 0) (some (108, false)),
          co (some 110) (.load 3 (.tmp 109)) (some (108, false)),
          co (some 111) (.binOp .eql 3 (.tmp 110) (.const (.int .i64 9)) 3) (some (108, false)),
          co (some 112) (.move (.tmp 111)) (some (108, false)),
          co (some 113) (.fieldAddr 25 (.tmp 6) 0) (some (112, true)),
          co (some 114) (.load 3 (.tmp 113)) (some (112, true)),
          co (some 115) (.binOp .neq 3 (.tmp 114) (.const (.int .i64 1)) 3) (some (112, true)),
          co (some 116) (.pick (.tmp 112) (.tmp 115) (.const (.bool false))) (some (108, false)),
          co (some 117) (.pick (.tmp 108) (.const (.bool true)) (.tmp 116)) none,
          co (some 118) (.move (.tmp 117)) none,
          co (some 119) (.move (.tmp 7)) (some (118, false)),
          co (some 120) (.move (.tmp 119)) (some (118, false)),
          co (some 121) (.fieldAddr 25 (.tmp 2) 0) (some (120, true)),
          co (some 122) (.load 3 (.tmp 121)) (some (120, true)),
          co (some 123) (.binOp .sub 3 (.tmp 122) (.const (.int .i64 2)) 3) (some (120, true)),
          co (some 124) (.fieldAddr 25 (.tmp 6) 1) (some (120, true)),
          co (some 125) (.load 22 (.tmp 124)) (some (120, true)),
          co (some 126) (.indexAddr 22 (.tmp 125) (.const (.int .i64 0))) (some (120, true)),
          co (some 127) (.load 60 (.tmp 126)) (some (120, true)),
          co (some 128) (.call { callee := (.value (.func 42)), args := #[(.tmp 123), (.tmp 127)], argTypes := #[3, 60] }) (some (120, true)),
          co (some 129) (.unOp .not 4 (.tmp 128)) (some (120, true)),
          co (some 130) (.pick (.tmp 120) (.tmp 129) (.const (.bool false))) (some (118, false)),
          co (some 131) (.pick (.tmp 118) (.const (.bool true)) (.tmp 130)) none] [1, 2, 5, 131])
      (.cond (.tmp 131)
        (.seq (.reg [co (some 4) (.assign (.const (.bool false))) none] [4])
        (.ret))
        (.skip))))))))
  (.keep [1, 2, 5] (.reg [co (some 83) (.move (.tmp 5)) none,
    co (some 84) (.binOp .add 3 (.tmp 83) (.const (.int .i64 1)) 3) none,
    co (some 5) (.assign (.tmp 84)) none] [1, 2, 5]))))
/-- cento/centoref07.Right -/
def c_centoref07_Right : CC :=
  .seq (.reg [cn (some 2) (.box 25 (.tmp 0)) none [0],
      co (some 4) (.assign (.const (.bool false))) none] [1, 2])
  (.seq (.seq (.reg [co (some 8) (.fieldAddr 25 (.tmp 2) 0) none,
        co (some 9) (.load 3 (.tmp 8)) none,
        co (some 10) (.binOp .eql 3 (.tmp 9) (.const (.int .i64 0)) 3) none] [1, 2, 10])
    (.cond (.tmp 10)
      (.seq (.reg [co (some 11) (.fieldAddr 25 (.tmp 2) 1) none,
          co (some 12) (.load 22 (.tmp 11)) none,
          co (some 13) (.call { callee := (.builtin .len), args := #[(.tmp 12)], argTypes := #[22] }) none,
          co (some 14) (.binOp .eql 3 (.tmp 13) (.const (.int .i64 0)) 3) none,
          co (some 15) (.move (.tmp 14)) none,
          co (some 16) (.fieldAddr 25 (.tmp 2) 2) (some (15, true)),
          co (some 17) (.load 23 (.tmp 16)) (some (15, true)),
          co (some 18) (.call { callee := (.builtin .len), args := #[(.tmp 17)], argTypes := #[23] }) (some (15, true)),
          co (some 19) (.binOp .eql 3 (.tmp 18) (.const (.int .i64 0)) 3) (some (15, true)),
          co (some 20) (.pick (.tmp 15) (.tmp 19) (.const (.bool false))) none,
          co (some 4) (.assign (.tmp 20)) none] [4])
      (.ret))
      (.skip)))
  (.keep [1, 2] (.seq (.seq (.reg [co (some 21) (.fieldAddr 25 (.tmp 2) 0) none,
        co (some 22) (.load 3 (.tmp 21)) none,
        co (some 23) (.binOp .eql 3 (.tmp 22) (.const (.int .i64 10)) 3) none] [1, 2, 23])
    (.cond (.tmp 23)
      (.seq (.reg [co (some 24) (.fieldAddr 25 (.tmp 2) 1) none,
          co (some 25) (.load 22 (.tmp 24)) none,
          co (some 26) (.call { callee := (.builtin .len), args := #[(.tmp 25)], argTypes := #[22] }) none,
          co (some 27) (.binOp .eql 3 (.tmp 26) (.const (.int .i64 1)) 3) none,
          co (some 28) (.move (.tmp 27)) none,
          co (some 29) (.fieldAddr 25 (.tmp 2) 2) (some (28, true)),
          co (some 30) (.load 23 (.tmp 29)) (some (28, true)),
          co (some 31) (.call { callee := (.builtin .len), args := #[(.tmp 30)], argTypes := #[23] }) (some (28, true)),
          co (some 32) (.binOp .eql 3 (.tmp 31) (.const (.int .i64 0)) 3) (some (28, true)),
          co (some 33) (.pick (.tmp 28) (.tmp 32) (.const (.bool false))) none,
          co (some 4) (.assign (.tmp 33)) none] [4])
      (.ret))
      (.skip)))
  (.keep [1, 2] (.seq (.seq (.reg [co (some 34) (.fieldAddr 25 (.tmp 2) 0) none,
        co (some 35) (.load 3 (.tmp 34)) none,
        co (some 36) (.binOp .lss 3 (.tmp 35) (.const (.int .i64 0)) 3) none,
        co (some 37) (.move (.tmp 36)) none,
        co (some 38) (.fieldAddr 25 (.tmp 2) 0) (some (37, false)),
        co (some 39) (.load 3 (.tmp 38)) (some (37, false)),
        co (some 40) (.binOp .gtr 3 (.tmp 39) (.const (.int .i64 10)) 3) (some (37, false)),
        co (some 41) (.pick (.tmp 37) (.const (.bool true)) (.tmp 40)) none,
        co (some 42) (.move (.tmp 41)) none,
        co (some 43) (.move (.tmp 1)) (some (42, false)),
        co (some 44) (.binOp .eql 3 (.tmp 43) (.const (.int .i64 0)) 3) (some (42, false)),
        co (some 45) (.pick (.tmp 42) (.const (.bool true)) (.tmp 44)) none,
        co (some 46) (.move (.tmp 45)) none,
        co (some 47) (.fieldAddr 25 (.tmp 2) 1) (some (46, false)),
        co (some 48) (.load 22 (.tmp 47)) (some (46, false)),
        co (some 49) (.call { callee := (.builtin .len), args := #[(.tmp 48)], argTypes := #[22] }) (some (46, false)),
        co (some 50) (.binOp .geq 3 (.tmp 49) (.const (.int .i64 65536)) 3) (some (46, false)),
        co (some 51) (.pick (.tmp 46) (.const (.bool true)) (.tmp 50)) none,
        co (some 52) (.move (.tmp 51)) none,
        co (some 53) (.fieldAddr 25 (.tmp 2) 0) (some (52, false)),
        co (some 54) (.load 3 (.tmp 53)) (some (52, false)),
        co (some 55) (.binOp .eql 3 (.tmp 54) (.const (.int .i64 1)) 3) (some (52, false)),
        co (some 56) (.move (.tmp 55)) (some (52, false)),
        co (some 57) (.fieldAddr 25 (.tmp 2) 2) (some (56, true)),
        co (some 58) (.load 23 (.tmp 57)) (some (56, true)),
        co (some 59) (.call { callee := (.builtin .len), args := #[(.tmp 58)], argTypes := #[23] }) (some (56, true)),
        co (some 60) (.binOp .geq 3 (.tmp 59) (.const (.int .i64 65536)) 3) (some (56, true)),
        co (some 61) (.pick (.tmp 56) (.tmp 60) (.const (.bool false))) (some (52, false)),
        co (some 62) (.pick (.tmp 52) (.const (.bool true)) (.tmp 61)) none,
        co (some 63) (.move (.tmp 62)) none,
        co (some 64) (.fieldAddr 25 (.tmp 2) 2) (some (63, false)),
        co (some 65) (.load 23 (.tmp 64)) (some (63, false)),
        co (some 66) (.call { callee := (.builtin .len), args := #[(.tmp 65)], argTypes := #[23] }) (some (63, false)),
        co (some 67) (.binOp .geq 3 (.tmp 66) (.const (.int .i64 1048576)) 3) (some (63, false)),
        co (some 68) (.pick (.tmp 63) (.const (.bool true)) (.tmp 67)) none] [1, 2, 68])
    (.cond (.tmp 68)
      (.seq (.reg [co (some 4) (.assign (.const (.bool false))) none] [4])
      (.ret))
      (.skip)))
  (.keep [1, 2] (.seq (.seq (.reg [co (some 69) (.fieldAddr 25 (.tmp 2) 0) none,
        co (some 70) (.load 3 (.tmp 69)) none,
        co (some 71) (.binOp .gtr 3 (.tmp 70) (.const (.int .i64 1)) 3) none,
        co (some 72) (.move (.tmp 71)) none,
        co (some 73) (.fieldAddr 25 (.tmp 2) 1) (some (72, true)),
        co (some 74) (.load 22 (.tmp 73)) (some (72, true)),
        co (some 75) (.call { callee := (.builtin .len), args := #[(.tmp 74)], argTypes := #[22] }) (some (72, true)),
        co (some 76) (.binOp .gtr 3 (.tmp 75) (.const (.int .i64 0)) 3) (some (72, true)),
        co (some 77) (.pick (.tmp 72) (.tmp 76) (.const (.bool false))) none] [1, 2, 77])
    (.cond (.tmp 77)
      (.seq (.reg [co (some 4) (.assign (.const (.bool false))) none] [4])
      (.ret))
      (.skip)))
  (.keep [1, 2] (.seq (.seq (.reg [co (some 5) (.assign (.const (.int .i64 0))) none] [1, 2, 5])
    (.block 0
      (.loop l1_centoref07_Right)))
  (.keep [] (.seq (.reg [co (some 4) (.assign (.const (.bool true))) none] [4])
  (.ret))))))))))))
theorem t_centoref07_Right : Txt Tryz.prog 17 132 [(.tmp 4)] c_centoref07_Right := txt_of (code := Tryz.f17.body.getD .ret) mixed (by kernel_rfl) Tryz.func17 (by kernel_rfl) Tryz.ntmps17 (by kernel_rfl) (ls := [([1, 2], [(0, [0])]), ([], []), ([1, 2, 10], []), ([], []), ([4], []), ([], []), ([999999, 1, 2], []), ([1, 2, 23], []), ([], []), ([4], []), ([], []), ([999999, 1, 2], []), ([1, 2, 68], []), ([], []), ([4], []), ([], []), ([999999, 1, 2], []), ([1, 2, 77], []), ([], []), ([4], []), ([], []), ([999999, 1, 2], []), ([1, 2, 5], []), ([], []), ([1, 2, 5, 82], []), ([], []), ([999999, 1, 2, 5], []), ([1, 2, 5, 6], [(5, [1])]), ([], []), ([1, 2, 5, 6, 94], []), ([], []), ([4], []), ([], []), ([999999, 1, 2, 5, 6], []), ([1, 2, 5, 6, 7], []), ([], []), ([1, 2, 5, 131], []), ([], []), ([4], []), ([], []), ([999999, 1, 2, 5], []), ([1, 2, 5], []), ([999999], []), ([4], []), ([], [])]) (by kernel_rfl)
def l1_centoref07_Shallow : CC :=
  .seq (.seq (.reg [co (some 20) (.move (.tmp 7)) none,
        co (some 21) (.fieldAddr 25 (.tmp 3) 2) none,
        co (some 22) (.load 23 (.tmp 21)) none,
        co (some 23) (.call { callee := (.builtin .len), args := #[(.tmp 22)], argTypes := #[23] }) none,
        co (some 24) (.binOp .lss 3 (.tmp 20) (.tmp 23) 3) none,
        co (some 25) (.move (.tmp 24)) none,
        co (some 26) (.move (.tmp 2)) (some (25, true)),
        co (some 27) (.binOp .geq 3 (.tmp 26) (.const (.int .i64 0)) 3) (some (25, true)),
        co (some 28) (.pick (.tmp 25) (.tmp 27) (.const (.bool false))) none] [1, 2, 3, 7, 28])
    (.cond (.tmp 28)
      (.skip)
      (.exit 0)))
  (.keep [1, 2, 3, 7] (.seq (.block 1
      (.reg [co (some 31) (.fieldAddr 25 (.tmp 3) 2) none,
        co (some 32) (.load 23 (.tmp 31)) none,
        co (some 33) (.move (.tmp 7)) none,
        co (some 34) (.indexAddr 23 (.tmp 32) (.tmp 33)) none,
        co (some 35) (.load 25 (.tmp 34)) none,
        co (some 36) (.move (.tmp 1)) none,
        co (some 37) (.binOp .sub 3 (.tmp 36) (.const (.int .i64 1)) 3) none,
        co (some 38) (.move (.tmp 2)) none,
        co (some 39) (.call { callee := (.value (.func 45)), args := #[(.tmp 35), (.tmp 37), (.tmp 38)], argTypes := #[25, 3, 3] }) none,
        co (some 2) (.assign (.tmp 39)) none] [1, 2, 3, 7]))
  (.reg [co (some 29) (.move (.tmp 7)) none,
    co (some 30) (.binOp .add 3 (.tmp 29) (.const (.int .i64 1)) 3) none,
    co (some 7) (.assign (.tmp 30)) none] [1, 2, 3, 7])))
/-- cento/centoref07.Shallow -/
def c_centoref07_Shallow : CC :=
  .seq (.reg [cn (some 3) (.box 25 (.tmp 0)) none [0],
      co (some 6) (.assign (.const (.int .i64 0))) none] [1, 2, 3])
  (.seq (.reg [co (some 8) (.move (.tmp 2)) none,
      co (some 9) (.binOp .sub 3 (.tmp 8) (.const (.int .i64 1)) 3) none,
      co (some 10) (.fieldAddr 25 (.tmp 3) 1) none,
      co (some 11) (.load 22 (.tmp 10)) none,
      co (some 12) (.call { callee := (.builtin .len), args := #[(.tmp 11)], argTypes := #[22] }) none,
      co (some 13) (.binOp .sub 3 (.tmp 9) (.tmp 12) 3) none,
      co (some 2) (.assign (.tmp 13)) none] [1, 2, 3])
  (.seq (.seq (.reg [co (some 14) (.move (.tmp 1)) none,
        co (some 15) (.binOp .eql 3 (.tmp 14) (.const (.int .i64 0)) 3) none,
        co (some 16) (.move (.tmp 15)) none,
        co (some 17) (.move (.tmp 2)) (some (16, false)),
        co (some 18) (.binOp .lss 3 (.tmp 17) (.const (.int .i64 0)) 3) (some (16, false)),
        co (some 19) (.pick (.tmp 16) (.const (.bool true)) (.tmp 18)) none] [1, 2, 3, 19])
    (.cond (.tmp 19)
      (.seq (.reg [co (some 6) (.assign (.const (.int .i64 (-1)))) none] [6])
      (.ret))
      (.skip)))
  (.keep [1, 2, 3] (.seq (.seq (.reg [co (some 7) (.assign (.const (.int .i64 0))) none] [1, 2, 3, 7])
    (.block 0
      (.loop l1_centoref07_Shallow)))
  (.keep [2] (.seq (.reg [co (some 40) (.move (.tmp 2)) none,
      co (some 6) (.assign (.tmp 40)) none] [6])
  (.ret)))))))
theorem t_centoref07_Shallow : Txt Tryz.prog 45 41 [(.tmp 6)] c_centoref07_Shallow := txt_of (code := Tryz.f45.body.getD .ret) mixed (by kernel_rfl) Tryz.func45 (by kernel_rfl) Tryz.ntmps45 (by kernel_rfl) (ls := [([1, 2, 3], [(0, [0])]), ([], []), ([1, 2, 3], []), ([], []), ([1, 2, 3, 19], []), ([], []), ([6], []), ([], []), ([999999, 1, 2, 3], []), ([1, 2, 3, 7], []), ([], []), ([1, 2, 3, 7, 28], []), ([], []), ([999999, 1, 2, 3, 7], []), ([1, 2, 3, 7], []), ([], []), ([1, 2, 3, 7], []), ([999999, 2], []), ([6], []), ([], [])]) (by kernel_rfl)
def l1_tree_Frame : CC :=
  .seq (.reg [co (some 12) (.binOp .lss 3 (.tmp 11) (.tmp 10) 3) none] [4, 5, 9, 10, 11, 12])
  (.seq (.cond (.tmp 12)
      (.skip)
      (.exit 0))
  (.keep [4, 5, 9, 10, 11] (.seq (.block 1
      (.seq (.reg [co (some 13) (.indexAddr 23 (.tmp 9) (.tmp 11)) none,
          co (some 14) (.load 25 (.tmp 13)) none,
          cn (some 7) (.alloc 25) none [1],
          co none (.store 25 (.tmp 7) (.tmp 14)) none] [4, 5, 7, 9, 10, 11])
      (.reg [co (some 15) (.move (.tmp 4)) none,
        co (some 16) (.fieldAddr 25 (.tmp 7) 1) none,
        co (some 17) (.load 22 (.tmp 16)) none,
        co (some 18) (.call { callee := (.builtin .len), args := #[(.tmp 17)], argTypes := #[22] }) none,
        co (some 19) (.call { callee := (.builtin .max), args := #[(.tmp 15), (.tmp 18)], argTypes := #[3, 3] }) none,
        co (some 20) (.move (.tmp 5)) none,
        co (some 21) (.fieldAddr 25 (.tmp 7) 2) none,
        co (some 22) (.load 23 (.tmp 21)) none,
        co (some 23) (.call { callee := (.builtin .len), args := #[(.tmp 22)], argTypes := #[23] }) none,
        co (some 24) (.call { callee := (.builtin .max), args := #[(.tmp 20), (.tmp 23)], argTypes := #[3, 3] }) none,
        co (some 4) (.assign (.tmp 19)) none,
        co (some 5) (.assign (.tmp 24)) none] [4, 5, 9, 10, 11])))
  (.reg [co (some 25) (.binOp .add 3 (.tmp 11) (.const (.int .i64 1)) 3) none,
    co (some 11) (.move (.tmp 25)) none] [4, 5, 9, 10, 11]))))
/-- cento/tree.Frame -/
def c_tree_Frame : CC :=
  .seq (.reg [cn (some 1) (.box 25 (.tmp 0)) none [0],
      co (some 2) (.assign (.const (.int .i64 0))) none,
      co (some 3) (.assign (.const (.int .i64 0))) none] [1])
  (.seq (.reg [co (some 4) (.assign (.const (.int .i64 0))) none,
      co (some 5) (.assign (.const (.int .i64 0))) none] [1, 4, 5])
  (.seq (.seq (.reg [co (some 8) (.fieldAddr 25 (.tmp 1) 2) none,
        co (some 9) (.load 23 (.tmp 8)) none,
        co (some 10) (.call { callee := (.builtin .len), args := #[(.tmp 9)], argTypes := #[23] }) none,
        co (some 11) (.move (.const (.int .i64 0))) none] [4, 5, 9, 10, 11])
    (.block 0
      (.loop l1_tree_Frame)))
  (.keep [4, 5] (.seq (.reg [co (some 26) (.move (.tmp 4)) none,
      co (some 27) (.move (.tmp 5)) none,
      co (some 2) (.assign (.tmp 26)) none,
      co (some 3) (.assign (.tmp 27)) none] [2, 3])
  (.ret)))))
theorem t_tree_Frame : Txt Tryz.prog 131 28 [(.tmp 2), (.tmp 3)] c_tree_Frame := txt_of (code := Tryz.f131.body.getD .ret) mixed (by kernel_rfl) Tryz.func131 (by kernel_rfl) Tryz.ntmps131 (by kernel_rfl) (ls := [([1], [(0, [0])]), ([], []), ([1, 4, 5], []), ([], []), ([4, 5, 9, 10, 11], []), ([], []), ([4, 5, 9, 10, 11, 12], []), ([], []), ([999999, 4, 5, 9, 10, 11], []), ([4, 5, 7, 9, 10, 11], [(2, [1])]), ([], []), ([4, 5, 9, 10, 11], []), ([], []), ([4, 5, 9, 10, 11], []), ([999999, 4, 5], []), ([2, 3], []), ([], [])]) (by kernel_rfl)
def l1_tree_Norm : CC :=
  .seq (.reg [co (some 20) (.binOp .lss 3 (.tmp 19) (.tmp 18) 3) none] [1, 2, 3, 17, 18, 19, 20])
  (.seq (.cond (.tmp 20)
      (.skip)
      (.exit 0))
  (.keep [1, 2, 3, 17, 18, 19] (.seq (.block 1
      (.seq (.reg [co (some 21) (.indexAddr 23 (.tmp 17) (.tmp 19)) none,
          co (some 22) (.load 25 (.tmp 21)) none,
          cn (some 5) (.alloc 25) none [3],
          co none (.store 25 (.tmp 5) (.tmp 22)) none] [1, 2, 3, 5, 17, 18, 19])
      (.reg [co (some 23) (.fieldAddr 25 (.tmp 3) 2) none,
        ⟨some 24, (.load 23 (.tmp 23)), none, [], 1, [], true⟩,
        co (some 25) (.load 25 (.tmp 5)) none,
        ⟨some 26, (.call { callee := (.value (.func 59)), args := #[(.tmp 25)], argTypes := #[25] }), none, [], 3, [1], false⟩,
        ⟨some 27, (.buildSlice 23 1 #[(0, (.tmp 26))]), none, [], 4, [1], false⟩,
        cn (some 28) (.call { callee := (.builtin .append), args := #[(.tmp 24), (.tmp 27)], argTypes := #[23, 23] }) none [4],
        co (some 29) (.fieldAddr 25 (.tmp 3) 2) none,
        co none (.store 23 (.tmp 29) (.tmp 28)) none] [1, 2, 3, 17, 18, 19])))
  (.reg [co (some 30) (.binOp .add 3 (.tmp 19) (.const (.int .i64 1)) 3) none,
    co (some 19) (.move (.tmp 30)) none] [1, 2, 3, 17, 18, 19]))))
def l2_tree_Norm : CC :=
  .seq (.seq (.reg [co (some 34) (.fieldAddr 25 (.tmp 3) 1) none,
        co (some 35) (.load 22 (.tmp 34)) none,
        co (some 36) (.call { callee := (.builtin .len), args := #[(.tmp 35)], argTypes := #[22] }) none,
        co (some 37) (.binOp .gtr 3 (.tmp 36) (.const (.int .i64 0)) 3) none,
        co (some 38) (.move (.tmp 37)) none,
        co (some 39) (.fieldAddr 25 (.tmp 3) 1) (some (38, true)),
        co (some 40) (.load 22 (.tmp 39)) (some (38, true)),
        co (some 41) (.fieldAddr 25 (.tmp 3) 1) (some (38, true)),
        co (some 42) (.load 22 (.tmp 41)) (some (38, true)),
        co (some 43) (.call { callee := (.builtin .len), args := #[(.tmp 42)], argTypes := #[22] }) (some (38, true)),
        co (some 44) (.binOp .sub 3 (.tmp 43) (.const (.int .i64 1)) 3) (some (38, true)),
        co (some 45) (.indexAddr 22 (.tmp 40) (.tmp 44)) (some (38, true)),
        co (some 46) (.load 60 (.tmp 45)) (some (38, true)),
        co (some 47) (.binOp .eql 60 (.tmp 46) (.const (.int .u64 0)) 60) (some (38, true)),
        co (some 48) (.pick (.tmp 38) (.tmp 47) (.const (.bool false))) none] [2, 3, 48])
    (.cond (.tmp 48)
      (.skip)
      (.exit 2)))
  (.keep [2, 3] (.block 3
    (.reg [co (some 49) (.fieldAddr 25 (.tmp 3) 1) none,
      co (some 50) (.load 22 (.tmp 49)) none,
      co (some 51) (.fieldAddr 25 (.tmp 3) 1) none,
      co (some 52) (.load 22 (.tmp 51)) none,
      co (some 53) (.call { callee := (.builtin .len), args := #[(.tmp 52)], argTypes := #[22] }) none,
      co (some 54) (.binOp .sub 3 (.tmp 53) (.const (.int .i64 1)) 3) none,
      co (some 55) (.slice 22 (.tmp 50) none (some (.tmp 54)) none) none,
      co (some 56) (.fieldAddr 25 (.tmp 3) 1) none,
      co none (.store 22 (.tmp 56) (.tmp 55)) none] [2, 3])))
def l3_tree_Norm : CC :=
  .seq (.seq (.reg [co (some 57) (.fieldAddr 25 (.tmp 3) 2) none,
        co (some 58) (.load 23 (.tmp 57)) none,
        co (some 59) (.call { callee := (.builtin .len), args := #[(.tmp 58)], argTypes := #[23] }) none,
        co (some 60) (.binOp .gtr 3 (.tmp 59) (.const (.int .i64 0)) 3) none,
        co (some 61) (.move (.tmp 60)) none,
        co (some 62) (.fieldAddr 25 (.tmp 3) 2) (some (61, true)),
        co (some 63) (.load 23 (.tmp 62)) (some (61, true)),
        co (some 64) (.fieldAddr 25 (.tmp 3) 2) (some (61, true)),
        co (some 65) (.load 23 (.tmp 64)) (some (61, true)),
        co (some 66) (.call { callee := (.builtin .len), args := #[(.tmp 65)], argTypes := #[23] }) (some (61, true)),
        co (some 67) (.binOp .sub 3 (.tmp 66) (.const (.int .i64 1)) 3) (some (61, true)),
        co (some 68) (.indexAddr 23 (.tmp 63) (.tmp 67)) (some (61, true)),
        co (some 69) (.fieldAddr 25 (.tmp 68) 0) (some (61, true)),
        co (some 70) (.load 3 (.tmp 69)) (some (61, true)),
        co (some 71) (.binOp .eql 3 (.tmp 70) (.const (.int .i64 0)) 3) (some (61, true)),
        co (some 72) (.pick (.tmp 61) (.tmp 71) (.const (.bool false))) none] [2, 3, 72])
    (.cond (.tmp 72)
      (.skip)
      (.exit 4)))
  (.keep [2, 3] (.block 5
    (.reg [co (some 73) (.fieldAddr 25 (.tmp 3) 2) none,
      co (some 74) (.load 23 (.tmp 73)) none,
      co (some 75) (.fieldAddr 25 (.tmp 3) 2) none,
      co (some 76) (.load 23 (.tmp 75)) none,
      co (some 77) (.call { callee := (.builtin .len), args := #[(.tmp 76)], argTypes := #[23] }) none,
      co (some 78) (.binOp .sub 3 (.tmp 77) (.const (.int .i64 1)) 3) none,
      co (some 79) (.slice 23 (.tmp 74) none (some (.tmp 78)) none) none,
      co (some 80) (.fieldAddr 25 (.tmp 3) 2) none,
      co none (.store 23 (.tmp 80) (.tmp 79)) none] [2, 3])))
/-- cento/tree.Norm -/
def c_tree_Norm : CC :=
  .seq (.reg [cn (some 1) (.box 25 (.tmp 0)) none [0],
      cn (some 2) (.alloc 25) none [1]] [1, 2])
  (.seq (.seq (.reg [co (some 6) (.fieldAddr 25 (.tmp 1) 0) none,
        co (some 7) (.load 3 (.tmp 6)) none,
        co (some 8) (.binOp .eql 3 (.tmp 7) (.const (.int .i64 0)) 3) none] [1, 2, 8])
    (.cond (.tmp 8)
      (.seq (.reg [co (some 9) (.build 25 #[]) none,
          co none (.store 25 (.tmp 2) (.tmp 9)) none] [2])
      (.ret))
      (.skip)))
  (.keep [1, 2] (.seq (.reg [co (some 10) (.fieldAddr 25 (.tmp 1) 0) none,
      ⟨some 11, (.load 3 (.tmp 10)), none, [], 1, [], true⟩,
      co (some 12) (.fieldAddr 25 (.tmp 1) 1) none,
      ⟨some 13, (.load 22 (.tmp 12)), none, [], 3, [], true⟩,
      ⟨some 14, (.call { callee := (.value (.func 66)), args := #[(.tmp 13)], argTypes := #[22] }), none, [], 4, [1], true⟩,
      co (some 15) (.build 25 #[(0, (.tmp 11)), (1, (.tmp 14))]) none,
      ⟨some 3, (.alloc 25), none, [2], 6, [1, 3, 4], false⟩,
      co none (.store 25 (.tmp 3) (.tmp 15)) none] [1, 2, 3])
  (.seq (.seq (.reg [co (some 16) (.fieldAddr 25 (.tmp 1) 2) none,
        co (some 17) (.load 23 (.tmp 16)) none,
        co (some 18) (.call { callee := (.builtin .len), args := #[(.tmp 17)], argTypes := #[23] }) none,
        co (some 19) (.move (.const (.int .i64 0))) none] [1, 2, 3, 17, 18, 19])
    (.block 0
      (.loop l1_tree_Norm)))
  (.keep [1, 2, 3] (.seq (.seq (.reg [co (some 31) (.fieldAddr 25 (.tmp 1) 0) none,
        co (some 32) (.load 3 (.tmp 31)) none,
        co (some 33) (.binOp .eql 3 (.tmp 32) (.const (.int .i64 1)) 3) none] [2, 3, 33])
    (.cond (.tmp 33)
      (.seq (.block 2
          (.loop l2_tree_Norm))
      (.keep [2, 3] (.block 4
        (.loop l3_tree_Norm))))
      (.skip)))
  (.keep [2, 3] (.seq (.reg [co (some 81) (.load 25 (.tmp 3)) none,
      co none (.store 25 (.tmp 2) (.tmp 81)) none] [2])
  (.ret)))))))))
theorem t_tree_Norm : Txt Tryz.prog 59 82 [(.cell 2 25)] c_tree_Norm := txt_of (code := Tryz.f59.body.getD .ret) mixed (by kernel_rfl) Tryz.func59 (by kernel_rfl) Tryz.ntmps59 (by kernel_rfl) (ls := [([1, 2], [(0, [0]), (1, [1])]), ([], []), ([1, 2, 8], []), ([], []), ([2], []), ([], []), ([999999, 1, 2], []), ([1, 2, 3], [(6, [2])]), ([], []), ([1, 2, 3, 17, 18, 19], []), ([], []), ([1, 2, 3, 17, 18, 19, 20], []), ([], []), ([999999, 1, 2, 3, 17, 18, 19], []), ([1, 2, 3, 5, 17, 18, 19], [(2, [3])]), ([], []), ([1, 2, 3, 17, 18, 19], [(5, [4])]), ([], []), ([1, 2, 3, 17, 18, 19], []), ([999999, 1, 2, 3], []), ([2, 3, 33], []), ([], []), ([2, 3, 48], []), ([], []), ([999999, 2, 3], []), ([2, 3], []), ([999999, 2, 3], []), ([2, 3, 72], []), ([], []), ([999999, 2, 3], []), ([2, 3], []), ([999999, 2, 3], []), ([2], []), ([], [])]) (by kernel_rfl)
def l1_tree_size : CC :=
  .seq (.reg [co (some 60) (.binOp .lss 3 (.tmp 59) (.tmp 58) 3) none] [3, 57, 58, 59, 60])
  (.seq (.cond (.tmp 60)
      (.skip)
      (.exit 1))
  (.keep [3, 57, 58, 59] (.seq (.block 2
      (.seq (.reg [co (some 61) (.indexAddr 23 (.tmp 57) (.tmp 59)) none,
          co (some 62) (.load 25 (.tmp 61)) none,
          cn (some 7) (.alloc 25) none [1],
          co none (.store 25 (.tmp 7) (.tmp 62)) none] [3, 7, 57, 58, 59])
      (.reg [co (some 63) (.move (.tmp 3)) none,
        co (some 64) (.load 25 (.tmp 7)) none,
        ⟨some 65, (.call { callee := (.value (.func 94)), args := #[(.tmp 64)], argTypes := #[25] }), none, [], 2, [], true⟩,
        co (some 66) (.fieldAddr 25 (.tmp 7) 1) none,
        ⟨some 67, (.load 22 (.tmp 66)), none, [], 4, [2], false⟩,
        co (some 68) (.call { callee := (.builtin .len), args := #[(.tmp 67)], argTypes := #[22] }) none,
        co (some 69) (.binOp .sub 3 (.tmp 65) (.tmp 68) 3) none,
        co (some 70) (.fieldAddr 25 (.tmp 7) 2) none,
        ⟨some 71, (.load 23 (.tmp 70)), none, [], 8, [2], false⟩,
        co (some 72) (.call { callee := (.builtin .len), args := #[(.tmp 71)], argTypes := #[23] }) none,
        co (some 73) (.binOp .sub 3 (.tmp 69) (.tmp 72) 3) none,
        co (some 74) (.binOp .add 3 (.tmp 63) (.tmp 73) 3) none,
        co (some 3) (.assign (.tmp 74)) none] [3, 57, 58, 59])))
  (.reg [co (some 75) (.binOp .add 3 (.tmp 59) (.const (.int .i64 1)) 3) none,
    co (some 59) (.move (.tmp 75)) none] [3, 57, 58, 59]))))
def l2_tree_size : CC :=
  .seq (.reg [co (some 81) (.binOp .lss 3 (.tmp 80) (.tmp 79) 3) none] [3, 78, 79, 80, 81])
  (.seq (.cond (.tmp 81)
      (.skip)
      (.exit 3))
  (.keep [3, 78, 79, 80] (.seq (.block 4
      (.seq (.reg [co (some 82) (.indexAddr 23 (.tmp 78) (.tmp 80)) none,
          co (some 83) (.load 25 (.tmp 82)) none,
          cn (some 9) (.alloc 25) none [2],
          co none (.store 25 (.tmp 9) (.tmp 83)) none] [3, 9, 78, 79, 80])
      (.reg [co (some 84) (.move (.tmp 3)) none,
        co (some 85) (.load 25 (.tmp 9)) none,
        co (some 86) (.call { callee := (.value (.func 94)), args := #[(.tmp 85)], argTypes := #[25] }) none,
        co (some 87) (.binOp .add 3 (.tmp 84) (.tmp 86) 3) none,
        co (some 3) (.assign (.tmp 87)) none] [3, 78, 79, 80])))
  (.reg [co (some 88) (.binOp .add 3 (.tmp 80) (.const (.int .i64 1)) 3) none,
    co (some 80) (.move (.tmp 88)) none] [3, 78, 79, 80]))))
def k1_tree_size : CC :=
  .seq (.seq (.reg [co (some 77) (.fieldAddr 25 (.tmp 1) 2) none,
        co (some 78) (.load 23 (.tmp 77)) none,
        co (some 79) (.call { callee := (.builtin .len), args := #[(.tmp 78)], argTypes := #[23] }) none,
        co (some 80) (.move (.const (.int .i64 0))) none] [3, 78, 79, 80])
    (.block 3
      (.loop l2_tree_size)))
  (.keep [3] (.seq (.reg [co (some 89) (.move (.tmp 3)) none,
      co (some 2) (.assign (.tmp 89)) none] [2])
  (.ret)))
/-- cento/tree.size -/
def c_tree_size : CC :=
  .seq (.reg [cn (some 1) (.box 25 (.tmp 0)) none [0],
      co (some 2) (.assign (.const (.int .i64 0))) none] [1])
  (.seq (.reg [co (some 3) (.assign (.const (.int .i64 0))) none] [1, 3])
  (.seq (.block 0
      (.seq (.reg [co (some 11) (.fieldAddr 25 (.tmp 1) 0) none,
          co (some 12) (.load 3 (.tmp 11)) none,
          co (some 13) (.binOp .eql 3 (.tmp 12) (.const (.int .i64 1)) 3) none,
          co (some 10) (.assign (.tmp 13)) none] [1, 3, 10])
      (.cond (.tmp 10)
        (.reg [co (some 14) (.fieldAddr 25 (.tmp 1) 1) none,
          co (some 15) (.load 22 (.tmp 14)) none,
          co (some 16) (.call { callee := (.builtin .len), args := #[(.tmp 15)], argTypes := #[22] }) none,
          co (some 17) (.fieldAddr 25 (.tmp 1) 2) none,
          co (some 18) (.load 23 (.tmp 17)) none,
          co (some 19) (.call { callee := (.builtin .len), args := #[(.tmp 18)], argTypes := #[23] }) none,
          co (some 20) (.binOp .add 3 (.tmp 16) (.tmp 19) 3) none,
          co (some 3) (.assign (.tmp 20)) none] [1, 3])
        (.seq (.reg [co (some 22) (.fieldAddr 25 (.tmp 1) 0) none,
            co (some 23) (.load 3 (.tmp 22)) none,
            co (some 24) (.binOp .eql 3 (.tmp 23) (.const (.int .i64 8)) 3) none,
            co (some 21) (.assign (.tmp 24)) none] [1, 3, 21])
        (.cond (.tmp 21)
          (.reg [co (some 25) (.fieldAddr 25 (.tmp 1) 2) none,
            co (some 26) (.load 23 (.tmp 25)) none,
            co (some 27) (.call { callee := (.builtin .len), args := #[(.tmp 26)], argTypes := #[23] }) none,
            co (some 3) (.assign (.tmp 27)) none] [1, 3])
          (.seq (.reg [co (some 29) (.fieldAddr 25 (.tmp 1) 0) none,
              co (some 30) (.load 3 (.tmp 29)) none,
              co (some 31) (.call { callee := (.value (.func 105)), args := #[(.tmp 30)], argTypes := #[3] }) none,
              co (some 28) (.assign (.tmp 31)) none] [1, 3, 28])
          (.cond (.tmp 28)
            (.seq (.reg [co (some 32) (.fieldAddr 25 (.tmp 1) 0) none,
                co (some 33) (.load 3 (.tmp 32)) none,
                co (some 34) (.binOp .sub 3 (.tmp 33) (.const (.int .i64 2)) 3) none,
                co (some 35) (.fieldAddr 25 (.tmp 1) 2) none,
                co (some 36) (.load 23 (.tmp 35)) none,
                co (some 37) (.call { callee := (.builtin .len), args := #[(.tmp 36)], argTypes := #[23] }) none,
                co (some 38) (.call { callee := (.value (.func 130)), args := #[(.tmp 34), (.tmp 37)], argTypes := #[3, 3] }) none,
                co (some 2) (.assign (.tmp 38)) none] [2])
            (.ret))
            (.seq (.reg [co (some 40) (.fieldAddr 25 (.tmp 1) 0) none,
                co (some 41) (.load 3 (.tmp 40)) none,
                co (some 42) (.binOp .eql 3 (.tmp 41) (.const (.int .i64 9)) 3) none,
                co (some 39) (.assign (.tmp 42)) none] [1, 3, 39])
            (.cond (.tmp 39)
              (.seq (.reg [co (some 44) (.load 25 (.tmp 1)) none,
                  co (some 45) (.call { callee := (.value (.func 131)), args := #[(.tmp 44)], argTypes := #[25] }) none,
                  co (some 43) (.move (.tmp 45)) none,
                  co (some 46) (.extract (.tmp 43) 0) none,
                  co (some 47) (.extract (.tmp 43) 1) none,
                  co (some 4) (.assign (.tmp 46)) none,
                  co (some 5) (.assign (.tmp 47)) none] [1, 4, 5])
              (.seq (.reg [co (some 48) (.fieldAddr 25 (.tmp 1) 2) none,
                  co (some 49) (.load 23 (.tmp 48)) none,
                  co (some 50) (.call { callee := (.builtin .len), args := #[(.tmp 49)], argTypes := #[23] }) none,
                  co (some 51) (.move (.tmp 4)) none,
                  co (some 52) (.move (.tmp 5)) none,
                  co (some 53) (.binOp .add 3 (.tmp 51) (.tmp 52) 3) none,
                  co (some 54) (.binOp .mul 3 (.tmp 50) (.tmp 53) 3) none,
                  co (some 55) (.binOp .add 3 (.const (.int .i64 1)) (.tmp 54) 3) none,
                  co (some 3) (.assign (.tmp 55)) none] [1, 3])
              (.seq (.seq (.reg [co (some 56) (.fieldAddr 25 (.tmp 1) 2) none,
                    co (some 57) (.load 23 (.tmp 56)) none,
                    co (some 58) (.call { callee := (.builtin .len), args := #[(.tmp 57)], argTypes := #[23] }) none,
                    co (some 59) (.move (.const (.int .i64 0))) none] [3, 57, 58, 59])
                (.block 1
                  (.loop l1_tree_size)))
              (.keep [3] (.seq (.reg [co (some 76) (.move (.tmp 3)) none,
                  co (some 2) (.assign (.tmp 76)) none] [2])
              (.ret))))))
              (.skip))))))))))
  (.keep [1, 3] k1_tree_size)))
theorem t_tree_size : Txt Tryz.prog 94 90 [(.tmp 2)] c_tree_size := txt_of (code := Tryz.f94.body.getD .ret) mixed (by kernel_rfl) Tryz.func94 (by kernel_rfl) Tryz.ntmps94 (by kernel_rfl) (ls := [([1], [(0, [0])]), ([], []), ([1, 3], []), ([], []), ([1, 3, 10], []), ([], []), ([1, 3], []), ([1, 3, 21], []), ([], []), ([1, 3], []), ([1, 3, 28], []), ([], []), ([2], []), ([], []), ([1, 3, 39], []), ([], []), ([1, 4, 5], []), ([], []), ([1, 3], []), ([], []), ([3, 57, 58, 59], []), ([], []), ([3, 57, 58, 59, 60], []), ([], []), ([999999, 3, 57, 58, 59], []), ([3, 7, 57, 58, 59], [(2, [1])]), ([], []), ([3, 57, 58, 59], []), ([], []), ([3, 57, 58, 59], []), ([999999, 3], []), ([2], []), ([], []), ([999999, 1, 3], []), ([3, 78, 79, 80], []), ([], []), ([3, 78, 79, 80, 81], []), ([], []), ([999999, 3, 78, 79, 80], []), ([3, 9, 78, 79, 80], [(2, [2])]), ([], []), ([3, 78, 79, 80], []), ([], []), ([3, 78, 79, 80], []), ([999999, 3], []), ([2], []), ([], [])]) (by kernel_rfl)
/-- cento/tree.Size -/
def c_tree_Size : CC :=
  .seq (.reg [cn (some 1) (.box 25 (.tmp 0)) none [0],
      co (some 2) (.assign (.const (.int .i64 0))) none] [1])
  (.seq (.reg [co (some 3) (.load 25 (.tmp 1)) none,
      co (some 4) (.call { callee := (.value (.func 59)), args := #[(.tmp 3)], argTypes := #[25] }) none,
      co (some 5) (.call { callee := (.value (.func 94)), args := #[(.tmp 4)], argTypes := #[25] }) none,
      co (some 2) (.assign (.tmp 5)) none] [2])
  (.ret))
theorem t_tree_Size : Txt Tryz.prog 60 6 [(.tmp 2)] c_tree_Size := txt_of (code := Tryz.f60.body.getD .ret) mixed (by kernel_rfl) Tryz.func60 (by kernel_rfl) Tryz.ntmps60 (by kernel_rfl) (ls := [([1], [(0, [0])]), ([], []), ([2], []), ([], [])]) (by kernel_rfl)
end Go.Proofs.YthfiijdbnkaabaaGreat
