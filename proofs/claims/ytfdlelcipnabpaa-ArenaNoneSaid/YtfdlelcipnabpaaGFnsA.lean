/-
  The functions' text as data, and the facts on the types that they use: written by a program of ours (gen2.py) off the translation.
-/
import Derived.Test.YtfdlelcipnabpaaProg
import Derived.Test.YtfdlelcipnabpaaGSimp
import Derived.KernelRfl
namespace Go.Proofs.Ytfdlelcipnabpaa
set_option linter.unusedVariables false
set_option linter.unusedSimpArgs false
set_option maxRecDepth 20000
open Go Go.G Go.Proofs

theorem mixed : Try.prog.follows .mixedOrders = true := by kernel_rfl
@[simp] theorem und_3 : Try.prog.underlying 3 = some (.int .i64) := by kernel_rfl
@[simp] theorem und_4 : Try.prog.underlying 4 = some .bool := by kernel_rfl
@[simp] theorem und_21 : Try.prog.underlying 21 = some (.int .i32) := by kernel_rfl
@[simp] theorem und_22 : Try.prog.underlying 22 = some (.int .u64) := by kernel_rfl
@[simp] theorem und_82 : Try.prog.underlying 82 = some (.int .u32) := by kernel_rfl
@[simp] theorem szT_3 : szT Try.prog 3 = some 1 := by kernel_rfl
@[simp] theorem szT_4 : szT Try.prog 4 = some 1 := by kernel_rfl
@[simp] theorem szT_24 : szT Try.prog 24 = some 8 := by kernel_rfl
@[simp] theorem szT_27 : szT Try.prog 27 = some 8 := by kernel_rfl
@[simp] theorem aggT_3 : aggT Try.prog 3 = some false := by kernel_rfl
@[simp] theorem aggT_4 : aggT Try.prog 4 = some false := by kernel_rfl
@[simp] theorem aggT_24 : aggT Try.prog 24 = some true := by kernel_rfl
@[simp] theorem aggT_27 : aggT Try.prog 27 = some true := by kernel_rfl
@[simp] theorem zeroT_24 : zeroT Try.prog 24 = some (Value.agg #[Value.int IntKind.i64 0, Value.int IntKind.i64 0, Value.int IntKind.i64 0, Value.int IntKind.i64 0, Value.int IntKind.i64 0, Value.int IntKind.i64 0, Value.int IntKind.i64 0, Value.bool false]) := by kernel_rfl
@[simp] theorem zeroT_27 : zeroT Try.prog 27 = some (Value.agg #[Value.int IntKind.i64 0, Value.int IntKind.i64 0, Value.int IntKind.i64 0, Value.int IntKind.i64 0, Value.int IntKind.i64 0, Value.int IntKind.i64 0, Value.int IntKind.i64 0, Value.bool false]) := by kernel_rfl
@[simp] theorem fieldOffT_24_0 : fieldOffT Try.prog 24 0 = some 0 := by kernel_rfl
@[simp] theorem fieldOffT_24_1 : fieldOffT Try.prog 24 1 = some 1 := by kernel_rfl
@[simp] theorem fieldOffT_24_2 : fieldOffT Try.prog 24 2 = some 2 := by kernel_rfl
@[simp] theorem fieldOffT_24_3 : fieldOffT Try.prog 24 3 = some 3 := by kernel_rfl
@[simp] theorem fieldOffT_24_4 : fieldOffT Try.prog 24 4 = some 4 := by kernel_rfl
@[simp] theorem fieldOffT_24_5 : fieldOffT Try.prog 24 5 = some 5 := by kernel_rfl
@[simp] theorem fieldOffT_24_6 : fieldOffT Try.prog 24 6 = some 6 := by kernel_rfl
@[simp] theorem fieldOffT_24_7 : fieldOffT Try.prog 24 7 = some 7 := by kernel_rfl
@[simp] theorem fieldOffT_27_0 : fieldOffT Try.prog 27 0 = some 0 := by kernel_rfl
@[simp] theorem fieldOffT_27_1 : fieldOffT Try.prog 27 1 = some 1 := by kernel_rfl
@[simp] theorem fieldOffT_27_2 : fieldOffT Try.prog 27 2 = some 2 := by kernel_rfl
@[simp] theorem fieldOffT_27_3 : fieldOffT Try.prog 27 3 = some 3 := by kernel_rfl
@[simp] theorem fieldOffT_27_4 : fieldOffT Try.prog 27 4 = some 4 := by kernel_rfl
@[simp] theorem fieldOffT_27_5 : fieldOffT Try.prog 27 5 = some 5 := by kernel_rfl
@[simp] theorem fieldOffT_27_6 : fieldOffT Try.prog 27 6 = some 6 := by kernel_rfl
@[simp] theorem fieldOffT_27_7 : fieldOffT Try.prog 27 7 = some 7 := by kernel_rfl
@[simp] theorem buildA_24 (ps : List (Nat × A)) : buildA Try.prog 24 ps = (fillA (fun i => ([(0, 1), (1, 1), (2, 1), (3, 1), (4, 1), (5, 1), (6, 1), (7, 1)] : List (Nat × Nat))[i]?) [A.v (Value.int IntKind.i64 0), A.v (Value.int IntKind.i64 0), A.v (Value.int IntKind.i64 0), A.v (Value.int IntKind.i64 0), A.v (Value.int IntKind.i64 0), A.v (Value.int IntKind.i64 0), A.v (Value.int IntKind.i64 0), A.v (Value.bool false)] ps).map A.agg := by kernel_rfl
@[simp] theorem buildA_27 (ps : List (Nat × A)) : buildA Try.prog 27 ps = (fillA (fun i => ([(0, 1), (1, 1), (2, 1), (3, 1), (4, 1), (5, 1), (6, 1), (7, 1)] : List (Nat × Nat))[i]?) [A.v (Value.int IntKind.i64 0), A.v (Value.int IntKind.i64 0), A.v (Value.int IntKind.i64 0), A.v (Value.int IntKind.i64 0), A.v (Value.int IntKind.i64 0), A.v (Value.int IntKind.i64 0), A.v (Value.int IntKind.i64 0), A.v (Value.bool false)] ps).map A.agg := by kernel_rfl
@[simp] theorem eqA_24 (x0 y0 : Int) (x1 y1 : Int) (x2 y2 : Int) (x3 y3 : Int) (x4 y4 : Int) (x5 y5 : Int) (x6 y6 : Int) (x7 y7 : Bool) : eqA Try.prog 100 24 (.agg [A.v (.int .i64 x0), A.v (.int .i64 x1), A.v (.int .i64 x2), A.v (.int .i64 x3), A.v (.int .i64 x4), A.v (.int .i64 x5), A.v (.int .i64 x6), A.v (.bool x7)]) (.agg [A.v (.int .i64 y0), A.v (.int .i64 y1), A.v (.int .i64 y2), A.v (.int .i64 y3), A.v (.int .i64 y4), A.v (.int .i64 y5), A.v (.int .i64 y6), A.v (.bool y7)]) = some (((x0 == y0) && ((x1 == y1) && ((x2 == y2) && ((x3 == y3) && ((x4 == y4) && ((x5 == y5) && ((x6 == y6) && ((x7 == y7) && (true)))))))))) := by kernel_rfl
@[simp] theorem eqG_24 : Try.prog.eqGuardType Try.prog.depth 24 = false := by kernel_rfl
@[simp] theorem eqA_27 (x0 y0 : Int) (x1 y1 : Int) (x2 y2 : Int) (x3 y3 : Int) (x4 y4 : Int) (x5 y5 : Int) (x6 y6 : Int) (x7 y7 : Bool) : eqA Try.prog 100 27 (.agg [A.v (.int .i64 x0), A.v (.int .i64 x1), A.v (.int .i64 x2), A.v (.int .i64 x3), A.v (.int .i64 x4), A.v (.int .i64 x5), A.v (.int .i64 x6), A.v (.bool x7)]) (.agg [A.v (.int .i64 y0), A.v (.int .i64 y1), A.v (.int .i64 y2), A.v (.int .i64 y3), A.v (.int .i64 y4), A.v (.int .i64 y5), A.v (.int .i64 y6), A.v (.bool y7)]) = some (((x0 == y0) && ((x1 == y1) && ((x2 == y2) && ((x3 == y3) && ((x4 == y4) && ((x5 == y5) && ((x6 == y6) && ((x7 == y7) && (true)))))))))) := by kernel_rfl
@[simp] theorem eqG_27 : Try.prog.eqGuardType Try.prog.depth 27 = false := by kernel_rfl


/-- cento/ptr.near -/
def c_ptr_near : CC :=
  .seq (.reg [co (some 2) (.assign (.const (.bool false))) none] [0])
  (.seq (.reg [co (some 3) (.move (.tmp 0)) none,
      co (some 4) (.binOp .geq 3 (.tmp 3) (.const (.int .i64 (-536870912))) 3) none,
      co (some 5) (.move (.tmp 4)) none,
      co (some 6) (.move (.tmp 0)) (some (5, true)),
      co (some 7) (.binOp .lss 3 (.tmp 6) (.const (.int .i64 536870912)) 3) (some (5, true)),
      co (some 8) (.pick (.tmp 5) (.tmp 7) (.const (.bool false))) none,
      co (some 2) (.assign (.tmp 8)) none] [2])
  (.ret))
theorem t_ptr_near : Txt Try.prog 42 9 [(.tmp 2)] c_ptr_near := txt_of (code := Try.f42.body.getD .ret) mixed (by kernel_rfl) Try.func42 (by kernel_rfl) Try.ntmps42 (by kernel_rfl) (ls := [([0], []), ([], []), ([2], []), ([], [])]) (by kernel_rfl)


/-- cento/ptr.within -/
def c_ptr_within : CC :=
  .seq (.reg [co (some 4) (.assign (.const (.bool false))) none] [0, 1])
  (.seq (.reg [co (some 5) (.move (.tmp 0)) none,
      co (some 6) (.binOp .geq 3 (.tmp 5) (.const (.int .i64 0)) 3) none,
      co (some 7) (.move (.tmp 6)) none,
      co (some 8) (.move (.tmp 0)) (some (7, true)),
      co (some 9) (.move (.tmp 1)) (some (7, true)),
      co (some 10) (.binOp .leq 3 (.tmp 8) (.tmp 9) 3) (some (7, true)),
      co (some 11) (.pick (.tmp 7) (.tmp 10) (.const (.bool false))) none,
      co (some 4) (.assign (.tmp 11)) none] [4])
  (.ret))
theorem t_ptr_within : Txt Try.prog 43 12 [(.tmp 4)] c_ptr_within := txt_of (code := Try.f43.body.getD .ret) mixed (by kernel_rfl) Try.func43 (by kernel_rfl) Try.ntmps43 (by kernel_rfl) (ls := [([0, 1], []), ([], []), ([4], []), ([], [])]) (by kernel_rfl)


/-- cento/ptr.low -/
def c_ptr_low : CC :=
  .seq (.reg [co (some 4) (.assign (.const (.int .u64 0))) none] [0, 1])
  (.seq (.reg [co (some 5) (.move (.tmp 0)) none,
      co (some 6) (.convert 3 82 (.tmp 5)) none,
      co (some 7) (.binOp .shl 82 (.tmp 6) (.const (.int .u64 2)) 80) none,
      co (some 8) (.move (.tmp 1)) none,
      co (some 9) (.convert 3 82 (.tmp 8)) none,
      co (some 10) (.binOp .or 82 (.tmp 7) (.tmp 9) 82) none,
      co (some 11) (.convert 82 22 (.tmp 10)) none,
      co (some 4) (.assign (.tmp 11)) none] [4])
  (.ret))
theorem t_ptr_low : Txt Try.prog 44 12 [(.tmp 4)] c_ptr_low := txt_of (code := Try.f44.body.getD .ret) mixed (by kernel_rfl) Try.func44 (by kernel_rfl) Try.ntmps44 (by kernel_rfl) (ls := [([0, 1], []), ([], []), ([4], []), ([], [])]) (by kernel_rfl)


/-- cento/ptr.Decode -/
def c_ptr_Decode : CC :=
  .seq (.reg [cn (some 2) (.alloc 24) none [0]] [0, 2])
  (.seq (.reg [co (some 4) (.move (.tmp 0)) none,
      co (some 5) (.convert 22 82 (.tmp 4)) none,
      co (some 6) (.convert 82 21 (.tmp 5)) none,
      co (some 7) (.convert 21 3 (.tmp 6)) none,
      co (some 8) (.binOp .shr 3 (.tmp 7) (.const (.int .u64 2)) 80) none,
      co (some 3) (.assign (.tmp 8)) none] [0, 2, 3])
  (.seq (.block 0
      (.seq (.reg [co (some 10) (.move (.tmp 0)) none,
          co (some 11) (.binOp .eql 22 (.tmp 10) (.const (.int .u64 0)) 22) none,
          co (some 9) (.assign (.tmp 11)) none] [0, 2, 3, 9])
      (.cond (.tmp 9)
        (.seq (.reg [co (some 12) (.build 24 #[]) none,
            co none (.store 24 (.tmp 2) (.tmp 12)) none] [2])
        (.ret))
        (.seq (.reg [co (some 14) (.move (.tmp 0)) none,
            co (some 15) (.binOp .and 22 (.tmp 14) (.const (.int .u64 3)) 22) none,
            co (some 16) (.binOp .eql 22 (.tmp 15) (.const (.int .u64 0)) 22) none,
            co (some 13) (.assign (.tmp 16)) none] [0, 2, 3, 13])
        (.cond (.tmp 13)
          (.seq (.reg [co (some 17) (.move (.tmp 3)) none,
              co (some 18) (.move (.tmp 0)) none,
              co (some 19) (.binOp .shr 22 (.tmp 18) (.const (.int .u64 32)) 80) none,
              co (some 20) (.binOp .and 22 (.tmp 19) (.const (.int .u64 65535)) 22) none,
              co (some 21) (.convert 22 3 (.tmp 20)) none,
              co (some 22) (.move (.tmp 0)) none,
              co (some 23) (.binOp .shr 22 (.tmp 22) (.const (.int .u64 48)) 80) none,
              co (some 24) (.convert 22 3 (.tmp 23)) none,
              co (some 25) (.build 24 #[(0, (.const (.int .i64 1))), (1, (.tmp 17)), (2, (.tmp 21)), (3, (.tmp 24))]) none,
              co none (.store 24 (.tmp 2) (.tmp 25)) none] [2])
          (.ret))
          (.seq (.reg [co (some 27) (.move (.tmp 0)) none,
              co (some 28) (.binOp .and 22 (.tmp 27) (.const (.int .u64 3)) 22) none,
              co (some 29) (.binOp .eql 22 (.tmp 28) (.const (.int .u64 1)) 22) none,
              co (some 26) (.assign (.tmp 29)) none] [0, 2, 3, 26])
          (.cond (.tmp 26)
            (.seq (.reg [co (some 30) (.move (.tmp 3)) none,
                co (some 31) (.move (.tmp 0)) none,
                co (some 32) (.binOp .shr 22 (.tmp 31) (.const (.int .u64 32)) 80) none,
                co (some 33) (.binOp .and 22 (.tmp 32) (.const (.int .u64 7)) 22) none,
                co (some 34) (.convert 22 3 (.tmp 33)) none,
                co (some 35) (.move (.tmp 0)) none,
                co (some 36) (.binOp .shr 22 (.tmp 35) (.const (.int .u64 35)) 80) none,
                co (some 37) (.convert 22 3 (.tmp 36)) none,
                co (some 38) (.build 24 #[(0, (.const (.int .i64 2))), (1, (.tmp 30)), (4, (.tmp 34)), (5, (.tmp 37))]) none,
                co none (.store 24 (.tmp 2) (.tmp 38)) none] [2])
            (.ret))
            (.seq (.reg [co (some 40) (.move (.tmp 0)) none,
                co (some 41) (.binOp .and 22 (.tmp 40) (.const (.int .u64 3)) 22) none,
                co (some 42) (.binOp .eql 22 (.tmp 41) (.const (.int .u64 2)) 22) none,
                co (some 39) (.assign (.tmp 42)) none] [0, 2, 39])
            (.cond (.tmp 39)
              (.seq (.reg [co (some 43) (.move (.tmp 0)) none,
                  co (some 44) (.binOp .shr 22 (.tmp 43) (.const (.int .u64 3)) 80) none,
                  co (some 45) (.binOp .and 22 (.tmp 44) (.const (.int .u64 536870911)) 22) none,
                  co (some 46) (.convert 22 3 (.tmp 45)) none,
                  co (some 47) (.move (.tmp 0)) none,
                  co (some 48) (.binOp .shr 22 (.tmp 47) (.const (.int .u64 32)) 80) none,
                  co (some 49) (.convert 22 3 (.tmp 48)) none,
                  co (some 50) (.move (.tmp 0)) none,
                  co (some 51) (.binOp .and 22 (.tmp 50) (.const (.int .u64 4)) 22) none,
                  co (some 52) (.binOp .neq 22 (.tmp 51) (.const (.int .u64 0)) 22) none,
                  co (some 53) (.build 24 #[(0, (.const (.int .i64 3))), (1, (.tmp 46)), (6, (.tmp 49)), (7, (.tmp 52))]) none,
                  co none (.store 24 (.tmp 2) (.tmp 53)) none] [2])
              (.ret))
              (.skip))))))))))
  (.keep [2] (.seq (.reg [co (some 54) (.build 24 #[(0, (.const (.int .i64 4)))]) none,
      co none (.store 24 (.tmp 2) (.tmp 54)) none] [2])
  (.ret)))))
theorem t_ptr_Decode : Txt Try.prog 12 55 [(.cell 2 24)] c_ptr_Decode := txt_of (code := Try.f12.body.getD .ret) mixed (by kernel_rfl) Try.func12 (by kernel_rfl) Try.ntmps12 (by kernel_rfl) (ls := [([0, 2], [(0, [0])]), ([], []), ([0, 2, 3], []), ([], []), ([0, 2, 3, 9], []), ([], []), ([2], []), ([], []), ([0, 2, 3, 13], []), ([], []), ([2], []), ([], []), ([0, 2, 3, 26], []), ([], []), ([2], []), ([], []), ([0, 2, 39], []), ([], []), ([2], []), ([], []), ([999999, 2], []), ([2], []), ([], [])]) (by kernel_rfl)

def k1_ptr_Encode : CC :=
  .seq (.reg [co (some 87) (.move (.tmp 4)) none,
      co (some 88) (.move (.tmp 4)) none,
      ⟨some 89, (.call { callee := (.value (.func 12)), args := #[(.tmp 88)], argTypes := #[22] }), none, [], 2, [], true⟩,
      ⟨some 90, (.load 24 (.tmp 1)), none, [], 3, [2], false⟩,
      co (some 91) (.binOp .eql 24 (.tmp 89) (.tmp 90) 24) none,
      co (some 92) (.move (.tmp 91)) none,
      co (some 93) (.fieldAddr 24 (.tmp 1) 0) (some (92, true)),
      co (some 94) (.load 3 (.tmp 93)) (some (92, true)),
      co (some 95) (.binOp .neq 3 (.tmp 94) (.const (.int .i64 4)) 3) (some (92, true)),
      co (some 96) (.pick (.tmp 92) (.tmp 95) (.const (.bool false))) none,
      co (some 2) (.assign (.tmp 87)) none,
      co (some 3) (.assign (.tmp 96)) none] [2, 3])
  (.ret)

/-- cento/ptr.Encode -/
def c_ptr_Encode : CC :=
  .seq (.reg [cn (some 1) (.box 24 (.tmp 0)) none [0],
      co (some 2) (.assign (.const (.int .u64 0))) none,
      co (some 3) (.assign (.const (.bool false))) none] [1])
  (.seq (.reg [co (some 4) (.assign (.const (.int .u64 0))) none] [1, 4])
  (.seq (.seq (.reg [co (some 5) (.fieldAddr 24 (.tmp 1) 0) none,
        co (some 6) (.load 3 (.tmp 5)) none] [1, 4, 6])
    (.block 0
      (.seq (.reg [co (some 8) (.binOp .eql 3 (.tmp 6) (.const (.int .i64 1)) 3) none,
          co (some 7) (.assign (.tmp 8)) none] [1, 4, 6, 7])
      (.cond (.tmp 7)
        (.seq (.reg [co (some 9) (.fieldAddr 24 (.tmp 1) 1) none,
            co (some 10) (.load 3 (.tmp 9)) none,
            co (some 11) (.call { callee := (.value (.func 42)), args := #[(.tmp 10)], argTypes := #[3] }) none,
            co (some 12) (.move (.tmp 11)) none,
            co (some 13) (.fieldAddr 24 (.tmp 1) 2) (some (12, true)),
            co (some 14) (.load 3 (.tmp 13)) (some (12, true)),
            co (some 15) (.call { callee := (.value (.func 43)), args := #[(.tmp 14), (.const (.int .i64 65535))], argTypes := #[3, 3] }) (some (12, true)),
            co (some 16) (.pick (.tmp 12) (.tmp 15) (.const (.bool false))) none,
            co (some 17) (.move (.tmp 16)) none,
            co (some 18) (.fieldAddr 24 (.tmp 1) 3) (some (17, true)),
            co (some 19) (.load 3 (.tmp 18)) (some (17, true)),
            co (some 20) (.call { callee := (.value (.func 43)), args := #[(.tmp 19), (.const (.int .i64 65535))], argTypes := #[3, 3] }) (some (17, true)),
            co (some 21) (.pick (.tmp 17) (.tmp 20) (.const (.bool false))) none] [1, 4, 21])
        (.cond (.tmp 21)
          (.reg [co (some 22) (.fieldAddr 24 (.tmp 1) 1) none,
            co (some 23) (.load 3 (.tmp 22)) none,
            ⟨some 24, (.call { callee := (.value (.func 44)), args := #[(.tmp 23), (.const (.int .i64 0))], argTypes := #[3, 3] }), none, [], 2, [], true⟩,
            co (some 25) (.fieldAddr 24 (.tmp 1) 2) none,
            ⟨some 26, (.load 3 (.tmp 25)), none, [], 4, [2], false⟩,
            co (some 27) (.convert 3 22 (.tmp 26)) none,
            co (some 28) (.binOp .shl 22 (.tmp 27) (.const (.int .u64 32)) 80) none,
            co (some 29) (.binOp .or 22 (.tmp 24) (.tmp 28) 22) none,
            co (some 30) (.fieldAddr 24 (.tmp 1) 3) none,
            ⟨some 31, (.load 3 (.tmp 30)), none, [], 9, [2], false⟩,
            co (some 32) (.convert 3 22 (.tmp 31)) none,
            co (some 33) (.binOp .shl 22 (.tmp 32) (.const (.int .u64 48)) 80) none,
            co (some 34) (.binOp .or 22 (.tmp 29) (.tmp 33) 22) none,
            co (some 4) (.assign (.tmp 34)) none] [1, 4])
          (.skip)))
        (.seq (.reg [co (some 36) (.binOp .eql 3 (.tmp 6) (.const (.int .i64 2)) 3) none,
            co (some 35) (.assign (.tmp 36)) none] [1, 4, 6, 35])
        (.cond (.tmp 35)
          (.seq (.reg [co (some 37) (.fieldAddr 24 (.tmp 1) 1) none,
              co (some 38) (.load 3 (.tmp 37)) none,
              co (some 39) (.call { callee := (.value (.func 42)), args := #[(.tmp 38)], argTypes := #[3] }) none,
              co (some 40) (.move (.tmp 39)) none,
              co (some 41) (.fieldAddr 24 (.tmp 1) 4) (some (40, true)),
              co (some 42) (.load 3 (.tmp 41)) (some (40, true)),
              co (some 43) (.call { callee := (.value (.func 43)), args := #[(.tmp 42), (.const (.int .i64 7))], argTypes := #[3, 3] }) (some (40, true)),
              co (some 44) (.pick (.tmp 40) (.tmp 43) (.const (.bool false))) none,
              co (some 45) (.move (.tmp 44)) none,
              co (some 46) (.fieldAddr 24 (.tmp 1) 5) (some (45, true)),
              co (some 47) (.load 3 (.tmp 46)) (some (45, true)),
              co (some 48) (.call { callee := (.value (.func 43)), args := #[(.tmp 47), (.const (.int .i64 536870911))], argTypes := #[3, 3] }) (some (45, true)),
              co (some 49) (.pick (.tmp 45) (.tmp 48) (.const (.bool false))) none] [1, 4, 49])
          (.cond (.tmp 49)
            (.reg [co (some 50) (.fieldAddr 24 (.tmp 1) 1) none,
              co (some 51) (.load 3 (.tmp 50)) none,
              ⟨some 52, (.call { callee := (.value (.func 44)), args := #[(.tmp 51), (.const (.int .i64 1))], argTypes := #[3, 3] }), none, [], 2, [], true⟩,
              co (some 53) (.fieldAddr 24 (.tmp 1) 4) none,
              ⟨some 54, (.load 3 (.tmp 53)), none, [], 4, [2], false⟩,
              co (some 55) (.convert 3 22 (.tmp 54)) none,
              co (some 56) (.binOp .shl 22 (.tmp 55) (.const (.int .u64 32)) 80) none,
              co (some 57) (.binOp .or 22 (.tmp 52) (.tmp 56) 22) none,
              co (some 58) (.fieldAddr 24 (.tmp 1) 5) none,
              ⟨some 59, (.load 3 (.tmp 58)), none, [], 9, [2], false⟩,
              co (some 60) (.convert 3 22 (.tmp 59)) none,
              co (some 61) (.binOp .shl 22 (.tmp 60) (.const (.int .u64 35)) 80) none,
              co (some 62) (.binOp .or 22 (.tmp 57) (.tmp 61) 22) none,
              co (some 4) (.assign (.tmp 62)) none] [1, 4])
            (.skip)))
          (.seq (.reg [co (some 64) (.binOp .eql 3 (.tmp 6) (.const (.int .i64 3)) 3) none,
              co (some 63) (.assign (.tmp 64)) none] [1, 4, 63])
          (.cond (.tmp 63)
            (.seq (.reg [co (some 65) (.fieldAddr 24 (.tmp 1) 1) none,
                co (some 66) (.load 3 (.tmp 65)) none,
                co (some 67) (.call { callee := (.value (.func 43)), args := #[(.tmp 66), (.const (.int .i64 536870911))], argTypes := #[3, 3] }) none,
                co (some 68) (.move (.tmp 67)) none,
                co (some 69) (.fieldAddr 24 (.tmp 1) 6) (some (68, true)),
                co (some 70) (.load 3 (.tmp 69)) (some (68, true)),
                co (some 71) (.call { callee := (.value (.func 43)), args := #[(.tmp 70), (.const (.int .i64 4294967295))], argTypes := #[3, 3] }) (some (68, true)),
                co (some 72) (.pick (.tmp 68) (.tmp 71) (.const (.bool false))) none] [1, 4, 72])
            (.cond (.tmp 72)
              (.seq (.reg [co (some 73) (.fieldAddr 24 (.tmp 1) 1) none,
                  co (some 74) (.load 3 (.tmp 73)) none,
                  co (some 75) (.convert 3 22 (.tmp 74)) none,
                  co (some 76) (.binOp .shl 22 (.tmp 75) (.const (.int .u64 3)) 80) none,
                  co (some 77) (.binOp .or 22 (.tmp 76) (.const (.int .u64 2)) 22) none,
                  co (some 78) (.fieldAddr 24 (.tmp 1) 6) none,
                  co (some 79) (.load 3 (.tmp 78)) none,
                  co (some 80) (.convert 3 22 (.tmp 79)) none,
                  co (some 81) (.binOp .shl 22 (.tmp 80) (.const (.int .u64 32)) 80) none,
                  co (some 82) (.binOp .or 22 (.tmp 77) (.tmp 81) 22) none,
                  co (some 4) (.assign (.tmp 82)) none] [1, 4])
              (.seq (.reg [co (some 83) (.fieldAddr 24 (.tmp 1) 7) none,
                  co (some 84) (.load 4 (.tmp 83)) none] [1, 4, 84])
              (.cond (.tmp 84)
                (.reg [co (some 85) (.move (.tmp 4)) none,
                  co (some 86) (.binOp .or 22 (.tmp 85) (.const (.int .u64 4)) 22) none,
                  co (some 4) (.assign (.tmp 86)) none] [1, 4])
                (.skip))))
              (.skip)))
            (.skip)))))))))
  (.keep [1, 4] k1_ptr_Encode)))
theorem t_ptr_Encode : Txt Try.prog 15 97 [(.tmp 2), (.tmp 3)] c_ptr_Encode := txt_of (code := Try.f15.body.getD .ret) mixed (by kernel_rfl) Try.func15 (by kernel_rfl) Try.ntmps15 (by kernel_rfl) (ls := [([1], [(0, [0])]), ([], []), ([1, 4], []), ([], []), ([1, 4, 6], []), ([], []), ([1, 4, 6, 7], []), ([], []), ([1, 4, 21], []), ([], []), ([1, 4], []), ([1, 4, 6, 35], []), ([], []), ([1, 4, 49], []), ([], []), ([1, 4], []), ([1, 4, 63], []), ([], []), ([1, 4, 72], []), ([], []), ([1, 4], []), ([], []), ([1, 4, 84], []), ([], []), ([1, 4], []), ([999999, 1, 4], []), ([2, 3], []), ([], [])]) (by kernel_rfl)


/-- cento/centolaw04.mine -/
def c_centolaw04_mine : CC :=
  .seq (.reg [cn (some 1) (.box 27 (.tmp 0)) none [0],
      cn (some 2) (.alloc 24) none [1]] [1, 2])
  (.seq (.reg [co (some 3) (.fieldAddr 27 (.tmp 1) 0) none,
      co (some 4) (.load 3 (.tmp 3)) none,
      co (some 5) (.fieldAddr 27 (.tmp 1) 1) none,
      co (some 6) (.load 3 (.tmp 5)) none,
      co (some 7) (.fieldAddr 27 (.tmp 1) 2) none,
      co (some 8) (.load 3 (.tmp 7)) none,
      co (some 9) (.fieldAddr 27 (.tmp 1) 3) none,
      co (some 10) (.load 3 (.tmp 9)) none,
      co (some 11) (.fieldAddr 27 (.tmp 1) 4) none,
      co (some 12) (.load 3 (.tmp 11)) none,
      co (some 13) (.fieldAddr 27 (.tmp 1) 5) none,
      co (some 14) (.load 3 (.tmp 13)) none,
      co (some 15) (.fieldAddr 27 (.tmp 1) 6) none,
      co (some 16) (.load 3 (.tmp 15)) none,
      co (some 17) (.fieldAddr 27 (.tmp 1) 7) none,
      co (some 18) (.load 4 (.tmp 17)) none,
      co (some 19) (.build 24 #[(0, (.tmp 4)), (1, (.tmp 6)), (2, (.tmp 8)), (3, (.tmp 10)), (4, (.tmp 12)), (5, (.tmp 14)), (6, (.tmp 16)), (7, (.tmp 18))]) none,
      co none (.store 24 (.tmp 2) (.tmp 19)) none] [2])
  (.ret))
theorem t_centolaw04_mine : Txt Try.prog 13 20 [(.cell 2 24)] c_centolaw04_mine := txt_of (code := Try.f13.body.getD .ret) mixed (by kernel_rfl) Try.func13 (by kernel_rfl) Try.ntmps13 (by kernel_rfl) (ls := [([1, 2], [(0, [0]), (1, [1])]), ([], []), ([2], []), ([], [])]) (by kernel_rfl)


/-- cento/centolaw04.awake -/
def c_centolaw04_awake : CC :=
  .seq (.reg [co (some 0) (.assign (.const (.bool false))) none] [])
  (.seq (.reg [co (some 1) (.call { callee := (.value (.func 12)), args := #[(.const (.int .u64 4294967296))], argTypes := #[22] }) none,
      co (some 2) (.build 24 #[(0, (.const (.int .i64 1))), (2, (.const (.int .i64 1)))]) none,
      co (some 3) (.binOp .eql 24 (.tmp 1) (.tmp 2) 24) none,
      co (some 4) (.move (.tmp 3)) none,
      co (some 5) (.call { callee := (.value (.func 12)), args := #[(.const (.int .u64 4294967292))], argTypes := #[22] }) (some (4, true)),
      co (some 6) (.build 24 #[(0, (.const (.int .i64 1))), (1, (.const (.int .i64 (-1))))]) (some (4, true)),
      co (some 7) (.binOp .eql 24 (.tmp 5) (.tmp 6) 24) (some (4, true)),
      co (some 8) (.pick (.tmp 4) (.tmp 7) (.const (.bool false))) none,
      co (some 0) (.assign (.tmp 8)) none] [0])
  (.ret))
theorem t_centolaw04_awake : Txt Try.prog 16 9 [(.tmp 0)] c_centolaw04_awake := txt_of (code := Try.f16.body.getD .ret) mixed (by kernel_rfl) Try.func16 (by kernel_rfl) Try.ntmps16 (by kernel_rfl) (ls := [([], []), ([], []), ([0], []), ([], [])]) (by kernel_rfl)


/-- cento/centoref04.Right -/
def c_centoref04_Right : CC :=
  .seq (.reg [cn (some 1) (.box 27 (.tmp 0)) none [0],
      co (some 2) (.assign (.const (.bool false))) none] [1])
  (.seq (.reg [co (some 4) (.fieldAddr 27 (.tmp 1) 1) none,
      co (some 5) (.load 3 (.tmp 4)) none,
      co (some 6) (.binOp .geq 3 (.tmp 5) (.const (.int .i64 (-536870912))) 3) none,
      co (some 7) (.move (.tmp 6)) none,
      co (some 8) (.fieldAddr 27 (.tmp 1) 1) (some (7, true)),
      co (some 9) (.load 3 (.tmp 8)) (some (7, true)),
      co (some 10) (.binOp .lss 3 (.tmp 9) (.const (.int .i64 536870912)) 3) (some (7, true)),
      co (some 11) (.pick (.tmp 7) (.tmp 10) (.const (.bool false))) none,
      co (some 3) (.assign (.tmp 11)) none] [1, 3])
  (.seq (.seq (.reg [co (some 12) (.fieldAddr 27 (.tmp 1) 0) none,
        co (some 13) (.load 3 (.tmp 12)) none] [1, 3, 13])
    (.block 0
      (.seq (.reg [co (some 15) (.binOp .eql 3 (.tmp 13) (.const (.int .i64 0)) 3) none,
          co (some 14) (.assign (.tmp 15)) none] [1, 3, 13, 14])
      (.cond (.tmp 14)
        (.seq (.reg [co (some 16) (.load 27 (.tmp 1)) none,
            co (some 17) (.build 27 #[]) none,
            co (some 18) (.binOp .eql 27 (.tmp 16) (.tmp 17) 27) none,
            co (some 2) (.assign (.tmp 18)) none] [2])
        (.ret))
        (.seq (.reg [co (some 20) (.binOp .eql 3 (.tmp 13) (.const (.int .i64 1)) 3) none,
            co (some 19) (.assign (.tmp 20)) none] [1, 3, 13, 19])
        (.cond (.tmp 19)
          (.seq (.reg [co (some 21) (.move (.tmp 3)) none,
              co (some 22) (.move (.tmp 21)) none,
              co (some 23) (.fieldAddr 27 (.tmp 1) 2) (some (22, true)),
              co (some 24) (.load 3 (.tmp 23)) (some (22, true)),
              co (some 25) (.binOp .geq 3 (.tmp 24) (.const (.int .i64 0)) 3) (some (22, true)),
              co (some 26) (.pick (.tmp 22) (.tmp 25) (.const (.bool false))) none,
              co (some 27) (.move (.tmp 26)) none,
              co (some 28) (.fieldAddr 27 (.tmp 1) 2) (some (27, true)),
              co (some 29) (.load 3 (.tmp 28)) (some (27, true)),
              co (some 30) (.binOp .lss 3 (.tmp 29) (.const (.int .i64 65536)) 3) (some (27, true)),
              co (some 31) (.pick (.tmp 27) (.tmp 30) (.const (.bool false))) none,
              co (some 32) (.move (.tmp 31)) none,
              co (some 33) (.fieldAddr 27 (.tmp 1) 3) (some (32, true)),
              co (some 34) (.load 3 (.tmp 33)) (some (32, true)),
              co (some 35) (.binOp .geq 3 (.tmp 34) (.const (.int .i64 0)) 3) (some (32, true)),
              co (some 36) (.pick (.tmp 32) (.tmp 35) (.const (.bool false))) none,
              co (some 37) (.move (.tmp 36)) none,
              co (some 38) (.fieldAddr 27 (.tmp 1) 3) (some (37, true)),
              co (some 39) (.load 3 (.tmp 38)) (some (37, true)),
              co (some 40) (.binOp .lss 3 (.tmp 39) (.const (.int .i64 65536)) 3) (some (37, true)),
              co (some 41) (.pick (.tmp 37) (.tmp 40) (.const (.bool false))) none,
              co (some 42) (.move (.tmp 41)) none,
              co (some 43) (.load 27 (.tmp 1)) (some (42, true)),
              co (some 44) (.fieldAddr 27 (.tmp 1) 1) (some (42, true)),
              co (some 45) (.load 3 (.tmp 44)) (some (42, true)),
              co (some 46) (.fieldAddr 27 (.tmp 1) 2) (some (42, true)),
              co (some 47) (.load 3 (.tmp 46)) (some (42, true)),
              co (some 48) (.fieldAddr 27 (.tmp 1) 3) (some (42, true)),
              co (some 49) (.load 3 (.tmp 48)) (some (42, true)),
              co (some 50) (.build 27 #[(0, (.const (.int .i64 1))), (1, (.tmp 45)), (2, (.tmp 47)), (3, (.tmp 49))]) (some (42, true)),
              co (some 51) (.binOp .eql 27 (.tmp 43) (.tmp 50) 27) (some (42, true)),
              co (some 52) (.pick (.tmp 42) (.tmp 51) (.const (.bool false))) none,
              co (some 53) (.move (.tmp 52)) none,
              co (some 54) (.fieldAddr 27 (.tmp 1) 1) (some (53, true)),
              co (some 55) (.load 3 (.tmp 54)) (some (53, true)),
              co (some 56) (.binOp .neq 3 (.tmp 55) (.const (.int .i64 0)) 3) (some (53, true)),
              co (some 57) (.move (.tmp 56)) (some (53, true)),
              co (some 58) (.fieldAddr 27 (.tmp 1) 2) (some (57, false)),
              co (some 59) (.load 3 (.tmp 58)) (some (57, false)),
              co (some 60) (.binOp .neq 3 (.tmp 59) (.const (.int .i64 0)) 3) (some (57, false)),
              co (some 61) (.pick (.tmp 57) (.const (.bool true)) (.tmp 60)) (some (53, true)),
              co (some 62) (.move (.tmp 61)) (some (53, true)),
              co (some 63) (.fieldAddr 27 (.tmp 1) 3) (some (62, false)),
              co (some 64) (.load 3 (.tmp 63)) (some (62, false)),
              co (some 65) (.binOp .neq 3 (.tmp 64) (.const (.int .i64 0)) 3) (some (62, false)),
              co (some 66) (.pick (.tmp 62) (.const (.bool true)) (.tmp 65)) (some (53, true)),
              co (some 67) (.pick (.tmp 53) (.tmp 66) (.const (.bool false))) none,
              co (some 2) (.assign (.tmp 67)) none] [2])
          (.ret))
          (.seq (.reg [co (some 69) (.binOp .eql 3 (.tmp 13) (.const (.int .i64 2)) 3) none,
              co (some 68) (.assign (.tmp 69)) none] [1, 3, 13, 68])
          (.cond (.tmp 68)
            (.seq (.reg [co (some 70) (.move (.tmp 3)) none,
                co (some 71) (.move (.tmp 70)) none,
                co (some 72) (.fieldAddr 27 (.tmp 1) 4) (some (71, true)),
                co (some 73) (.load 3 (.tmp 72)) (some (71, true)),
                co (some 74) (.binOp .geq 3 (.tmp 73) (.const (.int .i64 0)) 3) (some (71, true)),
                co (some 75) (.pick (.tmp 71) (.tmp 74) (.const (.bool false))) none,
                co (some 76) (.move (.tmp 75)) none,
                co (some 77) (.fieldAddr 27 (.tmp 1) 4) (some (76, true)),
                co (some 78) (.load 3 (.tmp 77)) (some (76, true)),
                co (some 79) (.binOp .lss 3 (.tmp 78) (.const (.int .i64 8)) 3) (some (76, true)),
                co (some 80) (.pick (.tmp 76) (.tmp 79) (.const (.bool false))) none,
                co (some 81) (.move (.tmp 80)) none,
                co (some 82) (.fieldAddr 27 (.tmp 1) 5) (some (81, true)),
                co (some 83) (.load 3 (.tmp 82)) (some (81, true)),
                co (some 84) (.binOp .geq 3 (.tmp 83) (.const (.int .i64 0)) 3) (some (81, true)),
                co (some 85) (.pick (.tmp 81) (.tmp 84) (.const (.bool false))) none,
                co (some 86) (.move (.tmp 85)) none,
                co (some 87) (.fieldAddr 27 (.tmp 1) 5) (some (86, true)),
                co (some 88) (.load 3 (.tmp 87)) (some (86, true)),
                co (some 89) (.binOp .lss 3 (.tmp 88) (.const (.int .i64 536870912)) 3) (some (86, true)),
                co (some 90) (.pick (.tmp 86) (.tmp 89) (.const (.bool false))) none,
                co (some 91) (.move (.tmp 90)) none,
                co (some 92) (.load 27 (.tmp 1)) (some (91, true)),
                co (some 93) (.fieldAddr 27 (.tmp 1) 1) (some (91, true)),
                co (some 94) (.load 3 (.tmp 93)) (some (91, true)),
                co (some 95) (.fieldAddr 27 (.tmp 1) 4) (some (91, true)),
                co (some 96) (.load 3 (.tmp 95)) (some (91, true)),
                co (some 97) (.fieldAddr 27 (.tmp 1) 5) (some (91, true)),
                co (some 98) (.load 3 (.tmp 97)) (some (91, true)),
                co (some 99) (.build 27 #[(0, (.const (.int .i64 2))), (1, (.tmp 94)), (4, (.tmp 96)), (5, (.tmp 98))]) (some (91, true)),
                co (some 100) (.binOp .eql 27 (.tmp 92) (.tmp 99) 27) (some (91, true)),
                co (some 101) (.pick (.tmp 91) (.tmp 100) (.const (.bool false))) none,
                co (some 2) (.assign (.tmp 101)) none] [2])
            (.ret))
            (.seq (.reg [co (some 103) (.binOp .eql 3 (.tmp 13) (.const (.int .i64 3)) 3) none,
                co (some 102) (.assign (.tmp 103)) none] [1, 102])
            (.cond (.tmp 102)
              (.seq (.reg [co (some 104) (.fieldAddr 27 (.tmp 1) 1) none,
                  co (some 105) (.load 3 (.tmp 104)) none,
                  co (some 106) (.binOp .geq 3 (.tmp 105) (.const (.int .i64 0)) 3) none,
                  co (some 107) (.move (.tmp 106)) none,
                  co (some 108) (.fieldAddr 27 (.tmp 1) 1) (some (107, true)),
                  co (some 109) (.load 3 (.tmp 108)) (some (107, true)),
                  co (some 110) (.binOp .lss 3 (.tmp 109) (.const (.int .i64 536870912)) 3) (some (107, true)),
                  co (some 111) (.pick (.tmp 107) (.tmp 110) (.const (.bool false))) none,
                  co (some 112) (.move (.tmp 111)) none,
                  co (some 113) (.fieldAddr 27 (.tmp 1) 6) (some (112, true)),
                  co (some 114) (.load 3 (.tmp 113)) (some (112, true)),
                  co (some 115) (.binOp .geq 3 (.tmp 114) (.const (.int .i64 0)) 3) (some (112, true)),
                  co (some 116) (.pick (.tmp 112) (.tmp 115) (.const (.bool false))) none,
                  co (some 117) (.move (.tmp 116)) none,
                  co (some 118) (.fieldAddr 27 (.tmp 1) 6) (some (117, true)),
                  co (some 119) (.load 3 (.tmp 118)) (some (117, true)),
                  co (some 120) (.binOp .lss 3 (.tmp 119) (.const (.int .i64 4294967296)) 3) (some (117, true)),
                  co (some 121) (.pick (.tmp 117) (.tmp 120) (.const (.bool false))) none,
                  co (some 122) (.move (.tmp 121)) none,
                  co (some 123) (.load 27 (.tmp 1)) (some (122, true)),
                  co (some 124) (.fieldAddr 27 (.tmp 1) 1) (some (122, true)),
                  co (some 125) (.load 3 (.tmp 124)) (some (122, true)),
                  co (some 126) (.fieldAddr 27 (.tmp 1) 6) (some (122, true)),
                  co (some 127) (.load 3 (.tmp 126)) (some (122, true)),
                  co (some 128) (.fieldAddr 27 (.tmp 1) 7) (some (122, true)),
                  co (some 129) (.load 4 (.tmp 128)) (some (122, true)),
                  co (some 130) (.build 27 #[(0, (.const (.int .i64 3))), (1, (.tmp 125)), (6, (.tmp 127)), (7, (.tmp 129))]) (some (122, true)),
                  co (some 131) (.binOp .eql 27 (.tmp 123) (.tmp 130) 27) (some (122, true)),
                  co (some 132) (.pick (.tmp 122) (.tmp 131) (.const (.bool false))) none,
                  co (some 2) (.assign (.tmp 132)) none] [2])
              (.ret))
              (.skip)))))))))))
  (.keep [] (.seq (.reg [co (some 2) (.assign (.const (.bool false))) none] [2])
  (.ret)))))
theorem t_centoref04_Right : Txt Try.prog 17 133 [(.tmp 2)] c_centoref04_Right := txt_of (code := Try.f17.body.getD .ret) mixed (by kernel_rfl) Try.func17 (by kernel_rfl) Try.ntmps17 (by kernel_rfl) (ls := [([1], [(0, [0])]), ([], []), ([1, 3], []), ([], []), ([1, 3, 13], []), ([], []), ([1, 3, 13, 14], []), ([], []), ([2], []), ([], []), ([1, 3, 13, 19], []), ([], []), ([2], []), ([], []), ([1, 3, 13, 68], []), ([], []), ([2], []), ([], []), ([1, 102], []), ([], []), ([2], []), ([], []), ([999999], []), ([2], []), ([], [])]) (by kernel_rfl)

def l1_centoref04_field : CC :=
  .seq (.seq (.reg [co (some 11) (.move (.tmp 7)) none,
        co (some 12) (.move (.tmp 1)) none,
        co (some 13) (.binOp .lss 3 (.tmp 11) (.tmp 12) 3) none] [0, 1, 2, 7, 13])
    (.cond (.tmp 13)
      (.skip)
      (.exit 0)))
  (.keep [0, 1, 2, 7] (.seq (.block 1
      (.reg [co (some 16) (.move (.tmp 0)) none,
        co (some 17) (.binOp .quo 22 (.tmp 16) (.const (.int .u64 2)) 22) none,
        co (some 0) (.assign (.tmp 17)) none] [0, 1, 2, 7]))
  (.reg [co (some 14) (.move (.tmp 7)) none,
    co (some 15) (.binOp .add 3 (.tmp 14) (.const (.int .i64 1)) 3) none,
    co (some 7) (.assign (.tmp 15)) none] [0, 1, 2, 7])))
def l2_centoref04_field : CC :=
  .seq (.seq (.reg [co (some 18) (.move (.tmp 10)) none,
        co (some 19) (.move (.tmp 2)) none,
        co (some 20) (.binOp .lss 3 (.tmp 18) (.tmp 19) 3) none] [0, 2, 8, 9, 10, 20])
    (.cond (.tmp 20)
      (.skip)
      (.exit 2)))
  (.keep [0, 2, 8, 9, 10] (.seq (.block 3
      (.seq (.seq (.reg [co (some 23) (.move (.tmp 0)) none,
            co (some 24) (.binOp .rem 22 (.tmp 23) (.const (.int .u64 2)) 22) none,
            co (some 25) (.binOp .eql 22 (.tmp 24) (.const (.int .u64 1)) 22) none] [0, 2, 8, 9, 10, 25])
        (.cond (.tmp 25)
          (.reg [co (some 26) (.move (.tmp 8)) none,
            co (some 27) (.move (.tmp 9)) none,
            co (some 28) (.binOp .add 3 (.tmp 26) (.tmp 27) 3) none,
            co (some 8) (.assign (.tmp 28)) none] [0, 2, 8, 9, 10])
          (.skip)))
      (.keep [0, 2, 8, 9, 10] (.seq (.reg [co (some 29) (.move (.tmp 0)) none,
          co (some 30) (.binOp .quo 22 (.tmp 29) (.const (.int .u64 2)) 22) none,
          co (some 0) (.assign (.tmp 30)) none] [0, 2, 8, 9, 10])
      (.reg [co (some 31) (.move (.tmp 9)) none,
        co (some 32) (.binOp .mul 3 (.const (.int .i64 2)) (.tmp 31) 3) none,
        co (some 9) (.assign (.tmp 32)) none] [0, 2, 8, 9, 10])))))
  (.keep [0, 2, 8, 9, 10] (.reg [co (some 21) (.move (.tmp 10)) none,
    co (some 22) (.binOp .add 3 (.tmp 21) (.const (.int .i64 1)) 3) none,
    co (some 10) (.assign (.tmp 22)) none] [0, 2, 8, 9, 10]))))

/-- cento/centoref04.field -/
def c_centoref04_field : CC :=
  .seq (.reg [co (some 6) (.assign (.const (.int .i64 0))) none] [0, 1, 2])
  (.seq (.seq (.reg [co (some 7) (.assign (.const (.int .i64 0))) none] [0, 1, 2, 7])
    (.block 0
      (.loop l1_centoref04_field)))
  (.keep [0, 2] (.seq (.reg [co (some 8) (.assign (.const (.int .i64 0))) none,
      co (some 9) (.assign (.const (.int .i64 1))) none] [0, 2, 8, 9])
  (.seq (.seq (.reg [co (some 10) (.assign (.const (.int .i64 0))) none] [0, 2, 8, 9, 10])
    (.block 2
      (.loop l2_centoref04_field)))
  (.keep [8] (.seq (.reg [co (some 33) (.move (.tmp 8)) none,
      co (some 6) (.assign (.tmp 33)) none] [6])
  (.ret)))))))
theorem t_centoref04_field : Txt Try.prog 41 34 [(.tmp 6)] c_centoref04_field := txt_of (code := Try.f41.body.getD .ret) mixed (by kernel_rfl) Try.func41 (by kernel_rfl) Try.ntmps41 (by kernel_rfl) (ls := [([0, 1, 2], []), ([], []), ([0, 1, 2, 7], []), ([], []), ([0, 1, 2, 7, 13], []), ([], []), ([999999, 0, 1, 2, 7], []), ([0, 1, 2, 7], []), ([], []), ([0, 1, 2, 7], []), ([999999, 0, 2], []), ([0, 2, 8, 9], []), ([], []), ([0, 2, 8, 9, 10], []), ([], []), ([0, 2, 8, 9, 10, 20], []), ([], []), ([999999, 0, 2, 8, 9, 10], []), ([0, 2, 8, 9, 10, 25], []), ([], []), ([0, 2, 8, 9, 10], []), ([999999, 0, 2, 8, 9, 10], []), ([0, 2, 8, 9, 10], []), ([], []), ([0, 2, 8, 9, 10], []), ([999999, 0, 2, 8, 9, 10], []), ([0, 2, 8, 9, 10], []), ([999999, 8], []), ([6], []), ([], [])]) (by kernel_rfl)

def k1_centoref04_Decode : CC :=
  .seq (.seq (.reg [co (some 13) (.move (.tmp 0)) none,
        co (some 14) (.call { callee := (.value (.func 41)), args := #[(.tmp 13), (.const (.int .i64 0)), (.const (.int .i64 2))], argTypes := #[22, 3, 3] }) none] [0, 2, 3, 14])
    (.block 0
      (.seq (.reg [co (some 16) (.binOp .eql 3 (.tmp 14) (.const (.int .i64 0)) 3) none,
          co (some 15) (.assign (.tmp 16)) none] [0, 2, 3, 14, 15])
      (.cond (.tmp 15)
        (.seq (.reg [co (some 17) (.move (.tmp 3)) none,
            co (some 18) (.move (.tmp 0)) none,
            co (some 19) (.call { callee := (.value (.func 41)), args := #[(.tmp 18), (.const (.int .i64 32)), (.const (.int .i64 16))], argTypes := #[22, 3, 3] }) none,
            co (some 20) (.move (.tmp 0)) none,
            co (some 21) (.call { callee := (.value (.func 41)), args := #[(.tmp 20), (.const (.int .i64 48)), (.const (.int .i64 16))], argTypes := #[22, 3, 3] }) none,
            co (some 22) (.build 27 #[(0, (.const (.int .i64 1))), (1, (.tmp 17)), (2, (.tmp 19)), (3, (.tmp 21))]) none,
            co none (.store 27 (.tmp 2) (.tmp 22)) none] [2])
        (.ret))
        (.seq (.reg [co (some 24) (.binOp .eql 3 (.tmp 14) (.const (.int .i64 1)) 3) none,
            co (some 23) (.assign (.tmp 24)) none] [0, 2, 3, 14, 23])
        (.cond (.tmp 23)
          (.seq (.reg [co (some 25) (.move (.tmp 3)) none,
              co (some 26) (.move (.tmp 0)) none,
              co (some 27) (.call { callee := (.value (.func 41)), args := #[(.tmp 26), (.const (.int .i64 32)), (.const (.int .i64 3))], argTypes := #[22, 3, 3] }) none,
              co (some 28) (.move (.tmp 0)) none,
              co (some 29) (.call { callee := (.value (.func 41)), args := #[(.tmp 28), (.const (.int .i64 35)), (.const (.int .i64 29))], argTypes := #[22, 3, 3] }) none,
              co (some 30) (.build 27 #[(0, (.const (.int .i64 2))), (1, (.tmp 25)), (4, (.tmp 27)), (5, (.tmp 29))]) none,
              co none (.store 27 (.tmp 2) (.tmp 30)) none] [2])
          (.ret))
          (.seq (.reg [co (some 32) (.binOp .eql 3 (.tmp 14) (.const (.int .i64 2)) 3) none,
              co (some 31) (.assign (.tmp 32)) none] [0, 2, 31])
          (.cond (.tmp 31)
            (.seq (.reg [co (some 33) (.move (.tmp 0)) none,
                co (some 34) (.call { callee := (.value (.func 41)), args := #[(.tmp 33), (.const (.int .i64 3)), (.const (.int .i64 29))], argTypes := #[22, 3, 3] }) none,
                co (some 35) (.move (.tmp 0)) none,
                co (some 36) (.call { callee := (.value (.func 41)), args := #[(.tmp 35), (.const (.int .i64 32)), (.const (.int .i64 32))], argTypes := #[22, 3, 3] }) none,
                co (some 37) (.move (.tmp 0)) none,
                co (some 38) (.call { callee := (.value (.func 41)), args := #[(.tmp 37), (.const (.int .i64 2)), (.const (.int .i64 1))], argTypes := #[22, 3, 3] }) none,
                co (some 39) (.binOp .eql 3 (.tmp 38) (.const (.int .i64 1)) 3) none,
                co (some 40) (.build 27 #[(0, (.const (.int .i64 3))), (1, (.tmp 34)), (6, (.tmp 36)), (7, (.tmp 39))]) none,
                co none (.store 27 (.tmp 2) (.tmp 40)) none] [2])
            (.ret))
            (.skip)))))))))
  (.keep [2] (.seq (.reg [co (some 41) (.build 27 #[(0, (.const (.int .i64 4)))]) none,
      co none (.store 27 (.tmp 2) (.tmp 41)) none] [2])
  (.ret)))

/-- cento/centoref04.Decode -/
def c_centoref04_Decode : CC :=
  .seq (.reg [cn (some 2) (.alloc 27) none [0]] [0, 2])
  (.seq (.seq (.reg [co (some 4) (.move (.tmp 0)) none,
        co (some 5) (.binOp .eql 22 (.tmp 4) (.const (.int .u64 0)) 22) none] [0, 2, 5])
    (.cond (.tmp 5)
      (.seq (.reg [co (some 6) (.build 27 #[]) none,
          co none (.store 27 (.tmp 2) (.tmp 6)) none] [2])
      (.ret))
      (.skip)))
  (.keep [0, 2] (.seq (.reg [co (some 7) (.move (.tmp 0)) none,
      co (some 8) (.call { callee := (.value (.func 41)), args := #[(.tmp 7), (.const (.int .i64 2)), (.const (.int .i64 30))], argTypes := #[22, 3, 3] }) none,
      co (some 3) (.assign (.tmp 8)) none] [0, 2, 3])
  (.seq (.seq (.reg [co (some 9) (.move (.tmp 3)) none,
        co (some 10) (.binOp .geq 3 (.tmp 9) (.const (.int .i64 536870912)) 3) none] [0, 2, 3, 10])
    (.cond (.tmp 10)
      (.reg [co (some 11) (.move (.tmp 3)) none,
        co (some 12) (.binOp .sub 3 (.tmp 11) (.const (.int .i64 1073741824)) 3) none,
        co (some 3) (.assign (.tmp 12)) none] [0, 2, 3])
      (.skip)))
  (.keep [0, 2, 3] k1_centoref04_Decode)))))
theorem t_centoref04_Decode : Txt Try.prog 14 42 [(.cell 2 27)] c_centoref04_Decode := txt_of (code := Try.f14.body.getD .ret) mixed (by kernel_rfl) Try.func14 (by kernel_rfl) Try.ntmps14 (by kernel_rfl) (ls := [([0, 2], [(0, [0])]), ([], []), ([0, 2, 5], []), ([], []), ([2], []), ([], []), ([999999, 0, 2], []), ([0, 2, 3], []), ([], []), ([0, 2, 3, 10], []), ([], []), ([0, 2, 3], []), ([999999, 0, 2, 3], []), ([0, 2, 3, 14], []), ([], []), ([0, 2, 3, 14, 15], []), ([], []), ([2], []), ([], []), ([0, 2, 3, 14, 23], []), ([], []), ([2], []), ([], []), ([0, 2, 31], []), ([], []), ([2], []), ([], []), ([999999, 2], []), ([2], []), ([], [])]) (by kernel_rfl)


/-- cento/centolaw04.PtrDecodes -/
def c_centolaw04_PtrDecodes : CC :=
  .seq (.reg [co (some 2) (.assign (.const (.bool false))) none] [0])
  (.seq (.reg [co (some 6) (.move (.tmp 0)) none,
      co (some 7) (.call { callee := (.value (.func 12)), args := #[(.tmp 6)], argTypes := #[22] }) none,
      cn (some 3) (.alloc 24) none [0],
      co none (.store 24 (.tmp 3) (.tmp 7)) none] [0, 3])
  (.seq (.seq (.reg [⟨some 8, (.load 24 (.tmp 3)), none, [], 0, [], true⟩,
        co (some 9) (.move (.tmp 0)) none,
        ⟨some 10, (.call { callee := (.value (.func 14)), args := #[(.tmp 9)], argTypes := #[22] }), none, [], 2, [0], false⟩,
        ⟨some 11, (.call { callee := (.value (.func 13)), args := #[(.tmp 10)], argTypes := #[27] }), none, [], 3, [0], false⟩,
        co (some 12) (.binOp .neq 24 (.tmp 8) (.tmp 11) 24) none] [0, 3, 12])
    (.cond (.tmp 12)
      (.seq (.reg [co (some 2) (.assign (.const (.bool false))) none] [2])
      (.ret))
      (.skip)))
  (.keep [0, 3] (.seq (.reg [co (some 14) (.load 24 (.tmp 3)) none,
      co (some 15) (.call { callee := (.value (.func 15)), args := #[(.tmp 14)], argTypes := #[24] }) none,
      co (some 13) (.move (.tmp 15)) none,
      co (some 16) (.extract (.tmp 13) 0) none,
      co (some 17) (.extract (.tmp 13) 1) none,
      co (some 4) (.assign (.tmp 16)) none,
      co (some 5) (.assign (.tmp 17)) none] [0, 3, 4, 5])
  (.seq (.seq (.reg [co (some 18) (.fieldAddr 24 (.tmp 3) 0) none,
        co (some 19) (.load 3 (.tmp 18)) none,
        co (some 20) (.binOp .eql 3 (.tmp 19) (.const (.int .i64 4)) 3) none] [0, 4, 5, 20])
    (.cond (.tmp 20)
      (.seq (.reg [co (some 21) (.move (.tmp 5)) none,
          co (some 22) (.unOp .not 4 (.tmp 21)) none,
          co (some 23) (.move (.tmp 22)) none,
          co (some 24) (.call { callee := (.value (.func 16)), args := #[], argTypes := #[] }) (some (23, true)),
          co (some 25) (.pick (.tmp 23) (.tmp 24) (.const (.bool false))) none,
          co (some 2) (.assign (.tmp 25)) none] [2])
      (.ret))
      (.skip)))
  (.keep [0, 4, 5] (.seq (.reg [co (some 26) (.move (.tmp 5)) none,
      co (some 27) (.move (.tmp 26)) none,
      co (some 28) (.move (.tmp 4)) (some (27, true)),
      co (some 29) (.move (.tmp 0)) (some (27, true)),
      co (some 30) (.binOp .eql 22 (.tmp 28) (.tmp 29) 22) (some (27, true)),
      co (some 31) (.pick (.tmp 27) (.tmp 30) (.const (.bool false))) none,
      co (some 32) (.move (.tmp 31)) none,
      co (some 33) (.call { callee := (.value (.func 16)), args := #[], argTypes := #[] }) (some (32, true)),
      co (some 34) (.pick (.tmp 32) (.tmp 33) (.const (.bool false))) none,
      co (some 2) (.assign (.tmp 34)) none] [2])
  (.ret))))))))
theorem t_centolaw04_PtrDecodes : Txt Try.prog 3 35 [(.tmp 2)] c_centolaw04_PtrDecodes := txt_of (code := Try.f3.body.getD .ret) mixed (by kernel_rfl) Try.func3 (by kernel_rfl) Try.ntmps3 (by kernel_rfl) (ls := [([0], []), ([], []), ([0, 3], [(2, [0])]), ([], []), ([0, 3, 12], []), ([], []), ([2], []), ([], []), ([999999, 0, 3], []), ([0, 3, 4, 5], []), ([], []), ([0, 4, 5, 20], []), ([], []), ([2], []), ([], []), ([999999, 0, 4, 5], []), ([2], []), ([], [])]) (by kernel_rfl)


/-- cento/centolaw04.PtrEncodes -/
def c_centolaw04_PtrEncodes : CC :=
  .seq (.reg [cn (some 1) (.box 27 (.tmp 0)) none [0],
      co (some 2) (.assign (.const (.bool false))) none] [1])
  (.seq (.reg [co (some 6) (.load 27 (.tmp 1)) none,
      co (some 7) (.call { callee := (.value (.func 13)), args := #[(.tmp 6)], argTypes := #[27] }) none,
      co (some 8) (.call { callee := (.value (.func 15)), args := #[(.tmp 7)], argTypes := #[24] }) none,
      co (some 5) (.move (.tmp 8)) none,
      co (some 9) (.extract (.tmp 5) 0) none,
      co (some 10) (.extract (.tmp 5) 1) none,
      co (some 3) (.assign (.tmp 9)) none,
      co (some 4) (.assign (.tmp 10)) none] [1, 3, 4])
  (.seq (.seq (.reg [co (some 11) (.move (.tmp 4)) none,
        co (some 12) (.load 27 (.tmp 1)) none,
        co (some 13) (.call { callee := (.value (.func 17)), args := #[(.tmp 12)], argTypes := #[27] }) none,
        co (some 14) (.binOp .neq 4 (.tmp 11) (.tmp 13) 4) none] [1, 3, 4, 14])
    (.cond (.tmp 14)
      (.seq (.reg [co (some 2) (.assign (.const (.bool false))) none] [2])
      (.ret))
      (.skip)))
  (.keep [1, 3, 4] (.seq (.reg [co (some 15) (.move (.tmp 4)) none,
      co (some 16) (.unOp .not 4 (.tmp 15)) none,
      co (some 17) (.move (.tmp 16)) none,
      co (some 18) (.move (.tmp 3)) (some (17, false)),
      ⟨some 19, (.call { callee := (.value (.func 12)), args := #[(.tmp 18)], argTypes := #[22] }), (some (17, false)), [], 4, [], true⟩,
      ⟨some 20, (.load 27 (.tmp 1)), (some (17, false)), [], 5, [4], false⟩,
      co (some 21) (.call { callee := (.value (.func 13)), args := #[(.tmp 20)], argTypes := #[27] }) (some (17, false)),
      co (some 22) (.binOp .eql 24 (.tmp 19) (.tmp 21) 24) (some (17, false)),
      co (some 23) (.move (.tmp 22)) (some (17, false)),
      co (some 24) (.move (.tmp 3)) (some (23, true)),
      ⟨some 25, (.call { callee := (.value (.func 14)), args := #[(.tmp 24)], argTypes := #[22] }), (some (23, true)), [], 10, [], true⟩,
      ⟨some 26, (.load 27 (.tmp 1)), (some (23, true)), [], 11, [10], false⟩,
      co (some 27) (.binOp .eql 27 (.tmp 25) (.tmp 26) 27) (some (23, true)),
      co (some 28) (.pick (.tmp 23) (.tmp 27) (.const (.bool false))) (some (17, false)),
      co (some 29) (.pick (.tmp 17) (.const (.bool true)) (.tmp 28)) none,
      co (some 30) (.move (.tmp 29)) none,
      co (some 31) (.call { callee := (.value (.func 16)), args := #[], argTypes := #[] }) (some (30, true)),
      co (some 32) (.pick (.tmp 30) (.tmp 31) (.const (.bool false))) none,
      co (some 2) (.assign (.tmp 32)) none] [2])
  (.ret)))))
theorem t_centolaw04_PtrEncodes : Txt Try.prog 4 33 [(.tmp 2)] c_centolaw04_PtrEncodes := txt_of (code := Try.f4.body.getD .ret) mixed (by kernel_rfl) Try.func4 (by kernel_rfl) Try.ntmps4 (by kernel_rfl) (ls := [([1], [(0, [0])]), ([], []), ([1, 3, 4], []), ([], []), ([1, 3, 4, 14], []), ([], []), ([2], []), ([], []), ([999999, 1, 3, 4], []), ([2], []), ([], [])]) (by kernel_rfl)
end Go.Proofs.Ytfdlelcipnabpaa
