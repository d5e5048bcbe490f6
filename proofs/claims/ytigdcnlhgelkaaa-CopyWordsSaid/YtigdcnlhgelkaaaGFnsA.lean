/-
  The functions' text as data, and the facts on the types that they use: written by a program of ours (gen2.py) off the translation.
-/
import Derived.Test.YtigdcnlhgelkaaaProg
import Derived.Test.YtigdcnlhgelkaaaGSimp
import Derived.KernelRfl
namespace Go.Proofs.Ytigdcnlhgelkaaa
set_option linter.unusedVariables false
set_option linter.unusedSimpArgs false
set_option maxRecDepth 20000
open Go Go.G Go.Proofs

theorem mixed : Try.prog.follows .mixedOrders = true := by kernel_rfl
@[simp] theorem und_3 : Try.prog.underlying 3 = some (.int .i64) := by kernel_rfl
@[simp] theorem und_21 : Try.prog.underlying 21 = some (.int .i32) := by kernel_rfl
@[simp] theorem und_45 : Try.prog.underlying 45 = some (.int .u64) := by kernel_rfl
@[simp] theorem und_194 : Try.prog.underlying 194 = some (.int .u32) := by kernel_rfl
@[simp] theorem szT_3 : szT Try.prog 3 = some 1 := by kernel_rfl
@[simp] theorem szT_4 : szT Try.prog 4 = some 1 := by kernel_rfl
@[simp] theorem szT_148 : szT Try.prog 148 = some 8 := by kernel_rfl
@[simp] theorem szT_163 : szT Try.prog 163 = some 8 := by kernel_rfl
@[simp] theorem aggT_3 : aggT Try.prog 3 = some false := by kernel_rfl
@[simp] theorem aggT_4 : aggT Try.prog 4 = some false := by kernel_rfl
@[simp] theorem aggT_148 : aggT Try.prog 148 = some true := by kernel_rfl
@[simp] theorem aggT_163 : aggT Try.prog 163 = some true := by kernel_rfl
@[simp] theorem zeroT_148 : zeroT Try.prog 148 = some (Value.agg #[Value.int IntKind.i64 0, Value.int IntKind.i64 0, Value.int IntKind.i64 0, Value.int IntKind.i64 0, Value.int IntKind.i64 0, Value.int IntKind.i64 0, Value.int IntKind.i64 0, Value.bool false]) := by kernel_rfl
@[simp] theorem zeroT_163 : zeroT Try.prog 163 = some (Value.agg #[Value.int IntKind.i64 0, Value.int IntKind.i64 0, Value.int IntKind.i64 0, Value.int IntKind.i64 0, Value.int IntKind.i64 0, Value.int IntKind.i64 0, Value.int IntKind.i64 0, Value.bool false]) := by kernel_rfl
@[simp] theorem fieldOffT_163_0 : fieldOffT Try.prog 163 0 = some 0 := by kernel_rfl
@[simp] theorem fieldOffT_163_1 : fieldOffT Try.prog 163 1 = some 1 := by kernel_rfl
@[simp] theorem fieldOffT_163_2 : fieldOffT Try.prog 163 2 = some 2 := by kernel_rfl
@[simp] theorem fieldOffT_163_3 : fieldOffT Try.prog 163 3 = some 3 := by kernel_rfl
@[simp] theorem fieldOffT_163_4 : fieldOffT Try.prog 163 4 = some 4 := by kernel_rfl
@[simp] theorem fieldOffT_163_5 : fieldOffT Try.prog 163 5 = some 5 := by kernel_rfl
@[simp] theorem fieldOffT_163_6 : fieldOffT Try.prog 163 6 = some 6 := by kernel_rfl
@[simp] theorem fieldOffT_163_7 : fieldOffT Try.prog 163 7 = some 7 := by kernel_rfl
@[simp] theorem buildA_148 (ps : List (Nat × A)) : buildA Try.prog 148 ps = (fillA (fun i => ([(0, 1), (1, 1), (2, 1), (3, 1), (4, 1), (5, 1), (6, 1), (7, 1)] : List (Nat × Nat))[i]?) [A.v (Value.int IntKind.i64 0), A.v (Value.int IntKind.i64 0), A.v (Value.int IntKind.i64 0), A.v (Value.int IntKind.i64 0), A.v (Value.int IntKind.i64 0), A.v (Value.int IntKind.i64 0), A.v (Value.int IntKind.i64 0), A.v (Value.bool false)] ps).map A.agg := by kernel_rfl
@[simp] theorem buildA_163 (ps : List (Nat × A)) : buildA Try.prog 163 ps = (fillA (fun i => ([(0, 1), (1, 1), (2, 1), (3, 1), (4, 1), (5, 1), (6, 1), (7, 1)] : List (Nat × Nat))[i]?) [A.v (Value.int IntKind.i64 0), A.v (Value.int IntKind.i64 0), A.v (Value.int IntKind.i64 0), A.v (Value.int IntKind.i64 0), A.v (Value.int IntKind.i64 0), A.v (Value.int IntKind.i64 0), A.v (Value.int IntKind.i64 0), A.v (Value.bool false)] ps).map A.agg := by kernel_rfl
@[simp] theorem eqA_163 (x0 y0 : Int) (x1 y1 : Int) (x2 y2 : Int) (x3 y3 : Int) (x4 y4 : Int) (x5 y5 : Int) (x6 y6 : Int) (x7 y7 : Bool) : eqA Try.prog 100 163 (.agg [A.v (.int .i64 x0), A.v (.int .i64 x1), A.v (.int .i64 x2), A.v (.int .i64 x3), A.v (.int .i64 x4), A.v (.int .i64 x5), A.v (.int .i64 x6), A.v (.bool x7)]) (.agg [A.v (.int .i64 y0), A.v (.int .i64 y1), A.v (.int .i64 y2), A.v (.int .i64 y3), A.v (.int .i64 y4), A.v (.int .i64 y5), A.v (.int .i64 y6), A.v (.bool y7)]) = some (((x0 == y0) && ((x1 == y1) && ((x2 == y2) && ((x3 == y3) && ((x4 == y4) && ((x5 == y5) && ((x6 == y6) && ((x7 == y7) && (true)))))))))) := by kernel_rfl
@[simp] theorem eqG_163 : Try.prog.eqGuardType Try.prog.depth 163 = false := by kernel_rfl


/-- cento/ptr.near -/
def c_ptr_near : CC :=
  .seq (.reg [co (some 2) (.assign (.const (.bool false))) none] [0])
  (.seq (.reg [co (some 3) (.move (.tmp 0)) none,
      co (some 4) (.binOp .geq 3 (.tmp 3) (.const (.int .i64 (-536870912))) 3) none,
      co (some 5) (.move (.tmp 4)) none,
      co (some 6) (.move (.tmp 0)) (some (5, true)),
      co (some 7) (.binOp .lss 3 (.tmp 6) (.const (.int .i64 536870912)) 3) (some (5, true)),
      co (some 8) (.pick (.tmp 5) (.tmp 7) (.const (.bool false))) none,
      co (some 2) (.assign (.tmp 8)) none] [2])
  (.ret))
theorem t_ptr_near : Txt Try.prog 148 9 [(.tmp 2)] c_ptr_near := txt_of (code := Try.f148.body.getD .ret) mixed (by kernel_rfl) Try.func148 (by kernel_rfl) Try.ntmps148 (by kernel_rfl) (ls := [([0], []), ([], []), ([2], []), ([], [])]) (by kernel_rfl)


/-- cento/ptr.within -/
def c_ptr_within : CC :=
  .seq (.reg [co (some 4) (.assign (.const (.bool false))) none] [0, 1])
  (.seq (.reg [co (some 5) (.move (.tmp 0)) none,
      co (some 6) (.binOp .geq 3 (.tmp 5) (.const (.int .i64 0)) 3) none,
      co (some 7) (.move (.tmp 6)) none,
      co (some 8) (.move (.tmp 0)) (some (7, true)),
      co (some 9) (.move (.tmp 1)) (some (7, true)),
      co (some 10) (.binOp .leq 3 (.tmp 8) (.tmp 9) 3) (some (7, true)),
      co (some 11) (.pick (.tmp 7) (.tmp 10) (.const (.bool false))) none,
      co (some 4) (.assign (.tmp 11)) none] [4])
  (.ret))
theorem t_ptr_within : Txt Try.prog 149 12 [(.tmp 4)] c_ptr_within := txt_of (code := Try.f149.body.getD .ret) mixed (by kernel_rfl) Try.func149 (by kernel_rfl) Try.ntmps149 (by kernel_rfl) (ls := [([0, 1], []), ([], []), ([4], []), ([], [])]) (by kernel_rfl)


/-- cento/ptr.low -/
def c_ptr_low : CC :=
  .seq (.reg [co (some 4) (.assign (.const (.int .u64 0))) none] [0, 1])
  (.seq (.reg [co (some 5) (.move (.tmp 0)) none,
      co (some 6) (.convert 3 194 (.tmp 5)) none,
      co (some 7) (.binOp .shl 194 (.tmp 6) (.const (.int .u64 2)) 76) none,
      co (some 8) (.move (.tmp 1)) none,
      co (some 9) (.convert 3 194 (.tmp 8)) none,
      co (some 10) (.binOp .or 194 (.tmp 7) (.tmp 9) 194) none,
      co (some 11) (.convert 194 45 (.tmp 10)) none,
      co (some 4) (.assign (.tmp 11)) none] [4])
  (.ret))
theorem t_ptr_low : Txt Try.prog 150 12 [(.tmp 4)] c_ptr_low := txt_of (code := Try.f150.body.getD .ret) mixed (by kernel_rfl) Try.func150 (by kernel_rfl) Try.ntmps150 (by kernel_rfl) (ls := [([0, 1], []), ([], []), ([4], []), ([], [])]) (by kernel_rfl)


/-- cento/ptr.Decode -/
def c_ptr_Decode : CC :=
  .seq (.reg [cn (some 2) (.alloc 163) none [0]] [0, 2])
  (.seq (.reg [co (some 4) (.move (.tmp 0)) none,
      co (some 5) (.convert 45 194 (.tmp 4)) none,
      co (some 6) (.convert 194 21 (.tmp 5)) none,
      co (some 7) (.convert 21 3 (.tmp 6)) none,
      co (some 8) (.binOp .shr 3 (.tmp 7) (.const (.int .u64 2)) 76) none,
      co (some 3) (.assign (.tmp 8)) none] [0, 2, 3])
  (.seq (.block 0
      (.seq (.reg [co (some 10) (.move (.tmp 0)) none,
          co (some 11) (.binOp .eql 45 (.tmp 10) (.const (.int .u64 0)) 45) none,
          co (some 9) (.assign (.tmp 11)) none] [0, 2, 3, 9])
      (.cond (.tmp 9)
        (.seq (.reg [co (some 12) (.build 163 #[]) none,
            co none (.store 163 (.tmp 2) (.tmp 12)) none] [2])
        (.ret))
        (.seq (.reg [co (some 14) (.move (.tmp 0)) none,
            co (some 15) (.binOp .and 45 (.tmp 14) (.const (.int .u64 3)) 45) none,
            co (some 16) (.binOp .eql 45 (.tmp 15) (.const (.int .u64 0)) 45) none,
            co (some 13) (.assign (.tmp 16)) none] [0, 2, 3, 13])
        (.cond (.tmp 13)
          (.seq (.reg [co (some 17) (.move (.tmp 3)) none,
              co (some 18) (.move (.tmp 0)) none,
              co (some 19) (.binOp .shr 45 (.tmp 18) (.const (.int .u64 32)) 76) none,
              co (some 20) (.binOp .and 45 (.tmp 19) (.const (.int .u64 65535)) 45) none,
              co (some 21) (.convert 45 3 (.tmp 20)) none,
              co (some 22) (.move (.tmp 0)) none,
              co (some 23) (.binOp .shr 45 (.tmp 22) (.const (.int .u64 48)) 76) none,
              co (some 24) (.convert 45 3 (.tmp 23)) none,
              co (some 25) (.build 163 #[(0, (.const (.int .i64 1))), (1, (.tmp 17)), (2, (.tmp 21)), (3, (.tmp 24))]) none,
              co none (.store 163 (.tmp 2) (.tmp 25)) none] [2])
          (.ret))
          (.seq (.reg [co (some 27) (.move (.tmp 0)) none,
              co (some 28) (.binOp .and 45 (.tmp 27) (.const (.int .u64 3)) 45) none,
              co (some 29) (.binOp .eql 45 (.tmp 28) (.const (.int .u64 1)) 45) none,
              co (some 26) (.assign (.tmp 29)) none] [0, 2, 3, 26])
          (.cond (.tmp 26)
            (.seq (.reg [co (some 30) (.move (.tmp 3)) none,
                co (some 31) (.move (.tmp 0)) none,
                co (some 32) (.binOp .shr 45 (.tmp 31) (.const (.int .u64 32)) 76) none,
                co (some 33) (.binOp .and 45 (.tmp 32) (.const (.int .u64 7)) 45) none,
                co (some 34) (.convert 45 3 (.tmp 33)) none,
                co (some 35) (.move (.tmp 0)) none,
                co (some 36) (.binOp .shr 45 (.tmp 35) (.const (.int .u64 35)) 76) none,
                co (some 37) (.convert 45 3 (.tmp 36)) none,
                co (some 38) (.build 163 #[(0, (.const (.int .i64 2))), (1, (.tmp 30)), (4, (.tmp 34)), (5, (.tmp 37))]) none,
                co none (.store 163 (.tmp 2) (.tmp 38)) none] [2])
            (.ret))
            (.seq (.reg [co (some 40) (.move (.tmp 0)) none,
                co (some 41) (.binOp .and 45 (.tmp 40) (.const (.int .u64 3)) 45) none,
                co (some 42) (.binOp .eql 45 (.tmp 41) (.const (.int .u64 2)) 45) none,
                co (some 39) (.assign (.tmp 42)) none] [0, 2, 39])
            (.cond (.tmp 39)
              (.seq (.reg [co (some 43) (.move (.tmp 0)) none,
                  co (some 44) (.binOp .shr 45 (.tmp 43) (.const (.int .u64 3)) 76) none,
                  co (some 45) (.binOp .and 45 (.tmp 44) (.const (.int .u64 536870911)) 45) none,
                  co (some 46) (.convert 45 3 (.tmp 45)) none,
                  co (some 47) (.move (.tmp 0)) none,
                  co (some 48) (.binOp .shr 45 (.tmp 47) (.const (.int .u64 32)) 76) none,
                  co (some 49) (.convert 45 3 (.tmp 48)) none,
                  co (some 50) (.move (.tmp 0)) none,
                  co (some 51) (.binOp .and 45 (.tmp 50) (.const (.int .u64 4)) 45) none,
                  co (some 52) (.binOp .neq 45 (.tmp 51) (.const (.int .u64 0)) 45) none,
                  co (some 53) (.build 163 #[(0, (.const (.int .i64 3))), (1, (.tmp 46)), (6, (.tmp 49)), (7, (.tmp 52))]) none,
                  co none (.store 163 (.tmp 2) (.tmp 53)) none] [2])
              (.ret))
              (.skip))))))))))
  (.keep [2] (.seq (.reg [co (some 54) (.build 163 #[(0, (.const (.int .i64 4)))]) none,
      co none (.store 163 (.tmp 2) (.tmp 54)) none] [2])
  (.ret)))))
theorem t_ptr_Decode : Txt Try.prog 129 55 [(.cell 2 163)] c_ptr_Decode := txt_of (code := Try.f129.body.getD .ret) mixed (by kernel_rfl) Try.func129 (by kernel_rfl) Try.ntmps129 (by kernel_rfl) (ls := [([0, 2], [(0, [0])]), ([], []), ([0, 2, 3], []), ([], []), ([0, 2, 3, 9], []), ([], []), ([2], []), ([], []), ([0, 2, 3, 13], []), ([], []), ([2], []), ([], []), ([0, 2, 3, 26], []), ([], []), ([2], []), ([], []), ([0, 2, 39], []), ([], []), ([2], []), ([], []), ([999999, 2], []), ([2], []), ([], [])]) (by kernel_rfl)

def k1_ptr_Encode : CC :=
  .seq (.reg [co (some 87) (.move (.tmp 4)) none,
      co (some 88) (.move (.tmp 4)) none,
      ⟨some 89, (.call { callee := (.value (.func 129)), args := #[(.tmp 88)], argTypes := #[45] }), none, [], 2, [], true⟩,
      ⟨some 90, (.load 163 (.tmp 1)), none, [], 3, [2], false⟩,
      co (some 91) (.binOp .eql 163 (.tmp 89) (.tmp 90) 163) none,
      co (some 92) (.move (.tmp 91)) none,
      co (some 93) (.fieldAddr 163 (.tmp 1) 0) (some (92, true)),
      co (some 94) (.load 3 (.tmp 93)) (some (92, true)),
      co (some 95) (.binOp .neq 3 (.tmp 94) (.const (.int .i64 4)) 3) (some (92, true)),
      co (some 96) (.pick (.tmp 92) (.tmp 95) (.const (.bool false))) none,
      co (some 2) (.assign (.tmp 87)) none,
      co (some 3) (.assign (.tmp 96)) none] [2, 3])
  (.ret)

/-- cento/ptr.Encode -/
def c_ptr_Encode : CC :=
  .seq (.reg [cn (some 1) (.box 163 (.tmp 0)) none [0],
      co (some 2) (.assign (.const (.int .u64 0))) none,
      co (some 3) (.assign (.const (.bool false))) none] [1])
  (.seq (.reg [co (some 4) (.assign (.const (.int .u64 0))) none] [1, 4])
  (.seq (.seq (.reg [co (some 5) (.fieldAddr 163 (.tmp 1) 0) none,
        co (some 6) (.load 3 (.tmp 5)) none] [1, 4, 6])
    (.block 0
      (.seq (.reg [co (some 8) (.binOp .eql 3 (.tmp 6) (.const (.int .i64 1)) 3) none,
          co (some 7) (.assign (.tmp 8)) none] [1, 4, 6, 7])
      (.cond (.tmp 7)
        (.seq (.reg [co (some 9) (.fieldAddr 163 (.tmp 1) 1) none,
            co (some 10) (.load 3 (.tmp 9)) none,
            co (some 11) (.call { callee := (.value (.func 148)), args := #[(.tmp 10)], argTypes := #[3] }) none,
            co (some 12) (.move (.tmp 11)) none,
            co (some 13) (.fieldAddr 163 (.tmp 1) 2) (some (12, true)),
            co (some 14) (.load 3 (.tmp 13)) (some (12, true)),
            co (some 15) (.call { callee := (.value (.func 149)), args := #[(.tmp 14), (.const (.int .i64 65535))], argTypes := #[3, 3] }) (some (12, true)),
            co (some 16) (.pick (.tmp 12) (.tmp 15) (.const (.bool false))) none,
            co (some 17) (.move (.tmp 16)) none,
            co (some 18) (.fieldAddr 163 (.tmp 1) 3) (some (17, true)),
            co (some 19) (.load 3 (.tmp 18)) (some (17, true)),
            co (some 20) (.call { callee := (.value (.func 149)), args := #[(.tmp 19), (.const (.int .i64 65535))], argTypes := #[3, 3] }) (some (17, true)),
            co (some 21) (.pick (.tmp 17) (.tmp 20) (.const (.bool false))) none] [1, 4, 21])
        (.cond (.tmp 21)
          (.reg [co (some 22) (.fieldAddr 163 (.tmp 1) 1) none,
            co (some 23) (.load 3 (.tmp 22)) none,
            ⟨some 24, (.call { callee := (.value (.func 150)), args := #[(.tmp 23), (.const (.int .i64 0))], argTypes := #[3, 3] }), none, [], 2, [], true⟩,
            co (some 25) (.fieldAddr 163 (.tmp 1) 2) none,
            ⟨some 26, (.load 3 (.tmp 25)), none, [], 4, [2], false⟩,
            co (some 27) (.convert 3 45 (.tmp 26)) none,
            co (some 28) (.binOp .shl 45 (.tmp 27) (.const (.int .u64 32)) 76) none,
            co (some 29) (.binOp .or 45 (.tmp 24) (.tmp 28) 45) none,
            co (some 30) (.fieldAddr 163 (.tmp 1) 3) none,
            ⟨some 31, (.load 3 (.tmp 30)), none, [], 9, [2], false⟩,
            co (some 32) (.convert 3 45 (.tmp 31)) none,
            co (some 33) (.binOp .shl 45 (.tmp 32) (.const (.int .u64 48)) 76) none,
            co (some 34) (.binOp .or 45 (.tmp 29) (.tmp 33) 45) none,
            co (some 4) (.assign (.tmp 34)) none] [1, 4])
          (.skip)))
        (.seq (.reg [co (some 36) (.binOp .eql 3 (.tmp 6) (.const (.int .i64 2)) 3) none,
            co (some 35) (.assign (.tmp 36)) none] [1, 4, 6, 35])
        (.cond (.tmp 35)
          (.seq (.reg [co (some 37) (.fieldAddr 163 (.tmp 1) 1) none,
              co (some 38) (.load 3 (.tmp 37)) none,
              co (some 39) (.call { callee := (.value (.func 148)), args := #[(.tmp 38)], argTypes := #[3] }) none,
              co (some 40) (.move (.tmp 39)) none,
              co (some 41) (.fieldAddr 163 (.tmp 1) 4) (some (40, true)),
              co (some 42) (.load 3 (.tmp 41)) (some (40, true)),
              co (some 43) (.call { callee := (.value (.func 149)), args := #[(.tmp 42), (.const (.int .i64 7))], argTypes := #[3, 3] }) (some (40, true)),
              co (some 44) (.pick (.tmp 40) (.tmp 43) (.const (.bool false))) none,
              co (some 45) (.move (.tmp 44)) none,
              co (some 46) (.fieldAddr 163 (.tmp 1) 5) (some (45, true)),
              co (some 47) (.load 3 (.tmp 46)) (some (45, true)),
              co (some 48) (.call { callee := (.value (.func 149)), args := #[(.tmp 47), (.const (.int .i64 536870911))], argTypes := #[3, 3] }) (some (45, true)),
              co (some 49) (.pick (.tmp 45) (.tmp 48) (.const (.bool false))) none] [1, 4, 49])
          (.cond (.tmp 49)
            (.reg [co (some 50) (.fieldAddr 163 (.tmp 1) 1) none,
              co (some 51) (.load 3 (.tmp 50)) none,
              ⟨some 52, (.call { callee := (.value (.func 150)), args := #[(.tmp 51), (.const (.int .i64 1))], argTypes := #[3, 3] }), none, [], 2, [], true⟩,
              co (some 53) (.fieldAddr 163 (.tmp 1) 4) none,
              ⟨some 54, (.load 3 (.tmp 53)), none, [], 4, [2], false⟩,
              co (some 55) (.convert 3 45 (.tmp 54)) none,
              co (some 56) (.binOp .shl 45 (.tmp 55) (.const (.int .u64 32)) 76) none,
              co (some 57) (.binOp .or 45 (.tmp 52) (.tmp 56) 45) none,
              co (some 58) (.fieldAddr 163 (.tmp 1) 5) none,
              ⟨some 59, (.load 3 (.tmp 58)), none, [], 9, [2], false⟩,
              co (some 60) (.convert 3 45 (.tmp 59)) none,
              co (some 61) (.binOp .shl 45 (.tmp 60) (.const (.int .u64 35)) 76) none,
              co (some 62) (.binOp .or 45 (.tmp 57) (.tmp 61) 45) none,
              co (some 4) (.assign (.tmp 62)) none] [1, 4])
            (.skip)))
          (.seq (.reg [co (some 64) (.binOp .eql 3 (.tmp 6) (.const (.int .i64 3)) 3) none,
              co (some 63) (.assign (.tmp 64)) none] [1, 4, 63])
          (.cond (.tmp 63)
            (.seq (.reg [co (some 65) (.fieldAddr 163 (.tmp 1) 1) none,
                co (some 66) (.load 3 (.tmp 65)) none,
                co (some 67) (.call { callee := (.value (.func 149)), args := #[(.tmp 66), (.const (.int .i64 536870911))], argTypes := #[3, 3] }) none,
                co (some 68) (.move (.tmp 67)) none,
                co (some 69) (.fieldAddr 163 (.tmp 1) 6) (some (68, true)),
                co (some 70) (.load 3 (.tmp 69)) (some (68, true)),
                co (some 71) (.call { callee := (.value (.func 149)), args := #[(.tmp 70), (.const (.int .i64 4294967295))], argTypes := #[3, 3] }) (some (68, true)),
                co (some 72) (.pick (.tmp 68) (.tmp 71) (.const (.bool false))) none] [1, 4, 72])
            (.cond (.tmp 72)
              (.seq (.reg [co (some 73) (.fieldAddr 163 (.tmp 1) 1) none,
                  co (some 74) (.load 3 (.tmp 73)) none,
                  co (some 75) (.convert 3 45 (.tmp 74)) none,
                  co (some 76) (.binOp .shl 45 (.tmp 75) (.const (.int .u64 3)) 76) none,
                  co (some 77) (.binOp .or 45 (.tmp 76) (.const (.int .u64 2)) 45) none,
                  co (some 78) (.fieldAddr 163 (.tmp 1) 6) none,
                  co (some 79) (.load 3 (.tmp 78)) none,
                  co (some 80) (.convert 3 45 (.tmp 79)) none,
                  co (some 81) (.binOp .shl 45 (.tmp 80) (.const (.int .u64 32)) 76) none,
                  co (some 82) (.binOp .or 45 (.tmp 77) (.tmp 81) 45) none,
                  co (some 4) (.assign (.tmp 82)) none] [1, 4])
              (.seq (.reg [co (some 83) (.fieldAddr 163 (.tmp 1) 7) none,
                  co (some 84) (.load 4 (.tmp 83)) none] [1, 4, 84])
              (.cond (.tmp 84)
                (.reg [co (some 85) (.move (.tmp 4)) none,
                  co (some 86) (.binOp .or 45 (.tmp 85) (.const (.int .u64 4)) 45) none,
                  co (some 4) (.assign (.tmp 86)) none] [1, 4])
                (.skip))))
              (.skip)))
            (.skip)))))))))
  (.keep [1, 4] k1_ptr_Encode)))
theorem t_ptr_Encode : Txt Try.prog 134 97 [(.tmp 2), (.tmp 3)] c_ptr_Encode := txt_of (code := Try.f134.body.getD .ret) mixed (by kernel_rfl) Try.func134 (by kernel_rfl) Try.ntmps134 (by kernel_rfl) (ls := [([1], [(0, [0])]), ([], []), ([1, 4], []), ([], []), ([1, 4, 6], []), ([], []), ([1, 4, 6, 7], []), ([], []), ([1, 4, 21], []), ([], []), ([1, 4], []), ([1, 4, 6, 35], []), ([], []), ([1, 4, 49], []), ([], []), ([1, 4], []), ([1, 4, 63], []), ([], []), ([1, 4, 72], []), ([], []), ([1, 4], []), ([], []), ([1, 4, 84], []), ([], []), ([1, 4], []), ([999999, 1, 4], []), ([2, 3], []), ([], [])]) (by kernel_rfl)

def l1_centoref04_field : CC :=
  .seq (.seq (.reg [co (some 11) (.move (.tmp 7)) none,
        co (some 12) (.move (.tmp 1)) none,
        co (some 13) (.binOp .lss 3 (.tmp 11) (.tmp 12) 3) none] [0, 1, 2, 7, 13])
    (.cond (.tmp 13)
      (.skip)
      (.exit 0)))
  (.keep [0, 1, 2, 7] (.seq (.block 1
      (.reg [co (some 16) (.move (.tmp 0)) none,
        co (some 17) (.binOp .quo 45 (.tmp 16) (.const (.int .u64 2)) 45) none,
        co (some 0) (.assign (.tmp 17)) none] [0, 1, 2, 7]))
  (.reg [co (some 14) (.move (.tmp 7)) none,
    co (some 15) (.binOp .add 3 (.tmp 14) (.const (.int .i64 1)) 3) none,
    co (some 7) (.assign (.tmp 15)) none] [0, 1, 2, 7])))
def l2_centoref04_field : CC :=
  .seq (.seq (.reg [co (some 18) (.move (.tmp 10)) none,
        co (some 19) (.move (.tmp 2)) none,
        co (some 20) (.binOp .lss 3 (.tmp 18) (.tmp 19) 3) none] [0, 2, 8, 9, 10, 20])
    (.cond (.tmp 20)
      (.skip)
      (.exit 2)))
  (.keep [0, 2, 8, 9, 10] (.seq (.block 3
      (.seq (.seq (.reg [co (some 23) (.move (.tmp 0)) none,
            co (some 24) (.binOp .rem 45 (.tmp 23) (.const (.int .u64 2)) 45) none,
            co (some 25) (.binOp .eql 45 (.tmp 24) (.const (.int .u64 1)) 45) none] [0, 2, 8, 9, 10, 25])
        (.cond (.tmp 25)
          (.reg [co (some 26) (.move (.tmp 8)) none,
            co (some 27) (.move (.tmp 9)) none,
            co (some 28) (.binOp .add 3 (.tmp 26) (.tmp 27) 3) none,
            co (some 8) (.assign (.tmp 28)) none] [0, 2, 8, 9, 10])
          (.skip)))
      (.keep [0, 2, 8, 9, 10] (.seq (.reg [co (some 29) (.move (.tmp 0)) none,
          co (some 30) (.binOp .quo 45 (.tmp 29) (.const (.int .u64 2)) 45) none,
          co (some 0) (.assign (.tmp 30)) none] [0, 2, 8, 9, 10])
      (.reg [co (some 31) (.move (.tmp 9)) none,
        co (some 32) (.binOp .mul 3 (.const (.int .i64 2)) (.tmp 31) 3) none,
        co (some 9) (.assign (.tmp 32)) none] [0, 2, 8, 9, 10])))))
  (.keep [0, 2, 8, 9, 10] (.reg [co (some 21) (.move (.tmp 10)) none,
    co (some 22) (.binOp .add 3 (.tmp 21) (.const (.int .i64 1)) 3) none,
    co (some 10) (.assign (.tmp 22)) none] [0, 2, 8, 9, 10]))))

/-- cento/centoref04.field -/
def c_centoref04_field : CC :=
  .seq (.reg [co (some 6) (.assign (.const (.int .i64 0))) none] [0, 1, 2])
  (.seq (.seq (.reg [co (some 7) (.assign (.const (.int .i64 0))) none] [0, 1, 2, 7])
    (.block 0
      (.loop l1_centoref04_field)))
  (.keep [0, 2] (.seq (.reg [co (some 8) (.assign (.const (.int .i64 0))) none,
      co (some 9) (.assign (.const (.int .i64 1))) none] [0, 2, 8, 9])
  (.seq (.seq (.reg [co (some 10) (.assign (.const (.int .i64 0))) none] [0, 2, 8, 9, 10])
    (.block 2
      (.loop l2_centoref04_field)))
  (.keep [8] (.seq (.reg [co (some 33) (.move (.tmp 8)) none,
      co (some 6) (.assign (.tmp 33)) none] [6])
  (.ret)))))))
theorem t_centoref04_field : Txt Try.prog 122 34 [(.tmp 6)] c_centoref04_field := txt_of (code := Try.f122.body.getD .ret) mixed (by kernel_rfl) Try.func122 (by kernel_rfl) Try.ntmps122 (by kernel_rfl) (ls := [([0, 1, 2], []), ([], []), ([0, 1, 2, 7], []), ([], []), ([0, 1, 2, 7, 13], []), ([], []), ([999999, 0, 1, 2, 7], []), ([0, 1, 2, 7], []), ([], []), ([0, 1, 2, 7], []), ([999999, 0, 2], []), ([0, 2, 8, 9], []), ([], []), ([0, 2, 8, 9, 10], []), ([], []), ([0, 2, 8, 9, 10, 20], []), ([], []), ([999999, 0, 2, 8, 9, 10], []), ([0, 2, 8, 9, 10, 25], []), ([], []), ([0, 2, 8, 9, 10], []), ([999999, 0, 2, 8, 9, 10], []), ([0, 2, 8, 9, 10], []), ([], []), ([0, 2, 8, 9, 10], []), ([999999, 0, 2, 8, 9, 10], []), ([0, 2, 8, 9, 10], []), ([999999, 8], []), ([6], []), ([], [])]) (by kernel_rfl)

def k1_centoref04_Decode : CC :=
  .seq (.seq (.reg [co (some 13) (.move (.tmp 0)) none,
        co (some 14) (.call { callee := (.value (.func 122)), args := #[(.tmp 13), (.const (.int .i64 0)), (.const (.int .i64 2))], argTypes := #[45, 3, 3] }) none] [0, 2, 3, 14])
    (.block 0
      (.seq (.reg [co (some 16) (.binOp .eql 3 (.tmp 14) (.const (.int .i64 0)) 3) none,
          co (some 15) (.assign (.tmp 16)) none] [0, 2, 3, 14, 15])
      (.cond (.tmp 15)
        (.seq (.reg [co (some 17) (.move (.tmp 3)) none,
            co (some 18) (.move (.tmp 0)) none,
            co (some 19) (.call { callee := (.value (.func 122)), args := #[(.tmp 18), (.const (.int .i64 32)), (.const (.int .i64 16))], argTypes := #[45, 3, 3] }) none,
            co (some 20) (.move (.tmp 0)) none,
            co (some 21) (.call { callee := (.value (.func 122)), args := #[(.tmp 20), (.const (.int .i64 48)), (.const (.int .i64 16))], argTypes := #[45, 3, 3] }) none,
            co (some 22) (.build 148 #[(0, (.const (.int .i64 1))), (1, (.tmp 17)), (2, (.tmp 19)), (3, (.tmp 21))]) none,
            co none (.store 148 (.tmp 2) (.tmp 22)) none] [2])
        (.ret))
        (.seq (.reg [co (some 24) (.binOp .eql 3 (.tmp 14) (.const (.int .i64 1)) 3) none,
            co (some 23) (.assign (.tmp 24)) none] [0, 2, 3, 14, 23])
        (.cond (.tmp 23)
          (.seq (.reg [co (some 25) (.move (.tmp 3)) none,
              co (some 26) (.move (.tmp 0)) none,
              co (some 27) (.call { callee := (.value (.func 122)), args := #[(.tmp 26), (.const (.int .i64 32)), (.const (.int .i64 3))], argTypes := #[45, 3, 3] }) none,
              co (some 28) (.move (.tmp 0)) none,
              co (some 29) (.call { callee := (.value (.func 122)), args := #[(.tmp 28), (.const (.int .i64 35)), (.const (.int .i64 29))], argTypes := #[45, 3, 3] }) none,
              co (some 30) (.build 148 #[(0, (.const (.int .i64 2))), (1, (.tmp 25)), (4, (.tmp 27)), (5, (.tmp 29))]) none,
              co none (.store 148 (.tmp 2) (.tmp 30)) none] [2])
          (.ret))
          (.seq (.reg [co (some 32) (.binOp .eql 3 (.tmp 14) (.const (.int .i64 2)) 3) none,
              co (some 31) (.assign (.tmp 32)) none] [0, 2, 31])
          (.cond (.tmp 31)
            (.seq (.reg [co (some 33) (.move (.tmp 0)) none,
                co (some 34) (.call { callee := (.value (.func 122)), args := #[(.tmp 33), (.const (.int .i64 3)), (.const (.int .i64 29))], argTypes := #[45, 3, 3] }) none,
                co (some 35) (.move (.tmp 0)) none,
                co (some 36) (.call { callee := (.value (.func 122)), args := #[(.tmp 35), (.const (.int .i64 32)), (.const (.int .i64 32))], argTypes := #[45, 3, 3] }) none,
                co (some 37) (.move (.tmp 0)) none,
                co (some 38) (.call { callee := (.value (.func 122)), args := #[(.tmp 37), (.const (.int .i64 2)), (.const (.int .i64 1))], argTypes := #[45, 3, 3] }) none,
                co (some 39) (.binOp .eql 3 (.tmp 38) (.const (.int .i64 1)) 3) none,
                co (some 40) (.build 148 #[(0, (.const (.int .i64 3))), (1, (.tmp 34)), (6, (.tmp 36)), (7, (.tmp 39))]) none,
                co none (.store 148 (.tmp 2) (.tmp 40)) none] [2])
            (.ret))
            (.skip)))))))))
  (.keep [2] (.seq (.reg [co (some 41) (.build 148 #[(0, (.const (.int .i64 4)))]) none,
      co none (.store 148 (.tmp 2) (.tmp 41)) none] [2])
  (.ret)))

/-- cento/centoref04.Decode -/
def c_centoref04_Decode : CC :=
  .seq (.reg [cn (some 2) (.alloc 148) none [0]] [0, 2])
  (.seq (.seq (.reg [co (some 4) (.move (.tmp 0)) none,
        co (some 5) (.binOp .eql 45 (.tmp 4) (.const (.int .u64 0)) 45) none] [0, 2, 5])
    (.cond (.tmp 5)
      (.seq (.reg [co (some 6) (.build 148 #[]) none,
          co none (.store 148 (.tmp 2) (.tmp 6)) none] [2])
      (.ret))
      (.skip)))
  (.keep [0, 2] (.seq (.reg [co (some 7) (.move (.tmp 0)) none,
      co (some 8) (.call { callee := (.value (.func 122)), args := #[(.tmp 7), (.const (.int .i64 2)), (.const (.int .i64 30))], argTypes := #[45, 3, 3] }) none,
      co (some 3) (.assign (.tmp 8)) none] [0, 2, 3])
  (.seq (.seq (.reg [co (some 9) (.move (.tmp 3)) none,
        co (some 10) (.binOp .geq 3 (.tmp 9) (.const (.int .i64 536870912)) 3) none] [0, 2, 3, 10])
    (.cond (.tmp 10)
      (.reg [co (some 11) (.move (.tmp 3)) none,
        co (some 12) (.binOp .sub 3 (.tmp 11) (.const (.int .i64 1073741824)) 3) none,
        co (some 3) (.assign (.tmp 12)) none] [0, 2, 3])
      (.skip)))
  (.keep [0, 2, 3] k1_centoref04_Decode)))))
theorem t_centoref04_Decode : Txt Try.prog 90 42 [(.cell 2 148)] c_centoref04_Decode := txt_of (code := Try.f90.body.getD .ret) mixed (by kernel_rfl) Try.func90 (by kernel_rfl) Try.ntmps90 (by kernel_rfl) (ls := [([0, 2], [(0, [0])]), ([], []), ([0, 2, 5], []), ([], []), ([2], []), ([], []), ([999999, 0, 2], []), ([0, 2, 3], []), ([], []), ([0, 2, 3, 10], []), ([], []), ([0, 2, 3], []), ([999999, 0, 2, 3], []), ([0, 2, 3, 14], []), ([], []), ([0, 2, 3, 14, 15], []), ([], []), ([2], []), ([], []), ([0, 2, 3, 14, 23], []), ([], []), ([2], []), ([], []), ([0, 2, 31], []), ([], []), ([2], []), ([], []), ([999999, 2], []), ([2], []), ([], [])]) (by kernel_rfl)
end Go.Proofs.Ytigdcnlhgelkaaa
