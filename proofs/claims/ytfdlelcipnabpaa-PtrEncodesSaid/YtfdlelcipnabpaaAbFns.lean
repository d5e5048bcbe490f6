/-
  The functions' text as data, and the facts on the types that they use: written by a program of ours (gen.py) off the translation.
-/
import Derived.Test.YtfdlelcipnabpaaProg
import Derived.Test.YtfdlelcipnabpaaAbSimp
import Derived.KernelRfl
namespace Go.Proofs.Ytfdlelcipnabpaa
set_option linter.unusedVariables false
set_option linter.unusedSimpArgs false
open Go Go.Ab Go.Proofs

theorem mixed : Try.prog.follows .mixedOrders = true := by kernel_rfl
theorem und_3 : Try.prog.underlying 3 = some (.int .i64) := by kernel_rfl
theorem und_4 : Try.prog.underlying 4 = some .bool := by kernel_rfl
theorem und_21 : Try.prog.underlying 21 = some (.int .i32) := by kernel_rfl
theorem und_22 : Try.prog.underlying 22 = some (.int .u64) := by kernel_rfl
theorem und_82 : Try.prog.underlying 82 = some (.int .u32) := by kernel_rfl
@[simp] theorem szT_3 : szT Try.prog 3 = some 1 := by kernel_rfl
@[simp] theorem szT_4 : szT Try.prog 4 = some 1 := by kernel_rfl
@[simp] theorem szT_24 : szT Try.prog 24 = some 8 := by kernel_rfl
@[simp] theorem szT_27 : szT Try.prog 27 = some 8 := by kernel_rfl
@[simp] theorem aggT_3 : aggT Try.prog 3 = some false := by kernel_rfl
@[simp] theorem aggT_4 : aggT Try.prog 4 = some false := by kernel_rfl
@[simp] theorem aggT_24 : aggT Try.prog 24 = some true := by kernel_rfl
@[simp] theorem aggT_27 : aggT Try.prog 27 = some true := by kernel_rfl
@[simp] theorem zeroT_24 : zeroT Try.prog 24 = some (Value.agg #[Value.int IntKind.i64 0, Value.int IntKind.i64 0, Value.int IntKind.i64 0, Value.int IntKind.i64 0, Value.int IntKind.i64 0, Value.int IntKind.i64 0, Value.int IntKind.i64 0, Value.bool false]) := by kernel_rfl
@[simp] theorem zeroT_27 : zeroT Try.prog 27 = some (Value.agg #[Value.int IntKind.i64 0, Value.int IntKind.i64 0, Value.int IntKind.i64 0, Value.int IntKind.i64 0, Value.int IntKind.i64 0, Value.int IntKind.i64 0, Value.int IntKind.i64 0, Value.bool false]) := by kernel_rfl
@[simp] theorem fieldOffT_24_0 : fieldOffT Try.prog 24 0 = some 0 := by kernel_rfl
@[simp] theorem fieldOffT_24_1 : fieldOffT Try.prog 24 1 = some 1 := by kernel_rfl
@[simp] theorem fieldOffT_24_2 : fieldOffT Try.prog 24 2 = some 2 := by kernel_rfl
@[simp] theorem fieldOffT_24_3 : fieldOffT Try.prog 24 3 = some 3 := by kernel_rfl
@[simp] theorem fieldOffT_24_4 : fieldOffT Try.prog 24 4 = some 4 := by kernel_rfl
@[simp] theorem fieldOffT_24_5 : fieldOffT Try.prog 24 5 = some 5 := by kernel_rfl
@[simp] theorem fieldOffT_24_6 : fieldOffT Try.prog 24 6 = some 6 := by kernel_rfl
@[simp] theorem fieldOffT_24_7 : fieldOffT Try.prog 24 7 = some 7 := by kernel_rfl
@[simp] theorem fieldOffT_27_0 : fieldOffT Try.prog 27 0 = some 0 := by kernel_rfl
@[simp] theorem fieldOffT_27_1 : fieldOffT Try.prog 27 1 = some 1 := by kernel_rfl
@[simp] theorem fieldOffT_27_2 : fieldOffT Try.prog 27 2 = some 2 := by kernel_rfl
@[simp] theorem fieldOffT_27_3 : fieldOffT Try.prog 27 3 = some 3 := by kernel_rfl
@[simp] theorem fieldOffT_27_4 : fieldOffT Try.prog 27 4 = some 4 := by kernel_rfl
@[simp] theorem fieldOffT_27_5 : fieldOffT Try.prog 27 5 = some 5 := by kernel_rfl
@[simp] theorem fieldOffT_27_6 : fieldOffT Try.prog 27 6 = some 6 := by kernel_rfl
@[simp] theorem fieldOffT_27_7 : fieldOffT Try.prog 27 7 = some 7 := by kernel_rfl
@[simp] theorem buildA_24 (ps : List (Nat × A)) : buildA Try.prog 24 ps = (fillA (fun i => ([(0, 1), (1, 1), (2, 1), (3, 1), (4, 1), (5, 1), (6, 1), (7, 1)] : List (Nat × Nat))[i]?) [A.v (Value.int IntKind.i64 0), A.v (Value.int IntKind.i64 0), A.v (Value.int IntKind.i64 0), A.v (Value.int IntKind.i64 0), A.v (Value.int IntKind.i64 0), A.v (Value.int IntKind.i64 0), A.v (Value.int IntKind.i64 0), A.v (Value.bool false)] ps).map A.agg := by kernel_rfl
@[simp] theorem buildA_27 (ps : List (Nat × A)) : buildA Try.prog 27 ps = (fillA (fun i => ([(0, 1), (1, 1), (2, 1), (3, 1), (4, 1), (5, 1), (6, 1), (7, 1)] : List (Nat × Nat))[i]?) [A.v (Value.int IntKind.i64 0), A.v (Value.int IntKind.i64 0), A.v (Value.int IntKind.i64 0), A.v (Value.int IntKind.i64 0), A.v (Value.int IntKind.i64 0), A.v (Value.int IntKind.i64 0), A.v (Value.int IntKind.i64 0), A.v (Value.bool false)] ps).map A.agg := by kernel_rfl
@[simp] theorem eqA_24 (x0 y0 : Int) (x1 y1 : Int) (x2 y2 : Int) (x3 y3 : Int) (x4 y4 : Int) (x5 y5 : Int) (x6 y6 : Int) (x7 y7 : Bool) : eqA Try.prog 100 24 (.agg [A.v (.int .i64 x0), A.v (.int .i64 x1), A.v (.int .i64 x2), A.v (.int .i64 x3), A.v (.int .i64 x4), A.v (.int .i64 x5), A.v (.int .i64 x6), A.v (.bool x7)]) (.agg [A.v (.int .i64 y0), A.v (.int .i64 y1), A.v (.int .i64 y2), A.v (.int .i64 y3), A.v (.int .i64 y4), A.v (.int .i64 y5), A.v (.int .i64 y6), A.v (.bool y7)]) = some (((x0 == y0) && ((x1 == y1) && ((x2 == y2) && ((x3 == y3) && ((x4 == y4) && ((x5 == y5) && ((x6 == y6) && ((x7 == y7) && (true)))))))))) := by kernel_rfl
@[simp] theorem eqG_24 : Try.prog.eqGuardType Try.prog.depth 24 = false := by kernel_rfl
@[simp] theorem eqA_27 (x0 y0 : Int) (x1 y1 : Int) (x2 y2 : Int) (x3 y3 : Int) (x4 y4 : Int) (x5 y5 : Int) (x6 y6 : Int) (x7 y7 : Bool) : eqA Try.prog 100 27 (.agg [A.v (.int .i64 x0), A.v (.int .i64 x1), A.v (.int .i64 x2), A.v (.int .i64 x3), A.v (.int .i64 x4), A.v (.int .i64 x5), A.v (.int .i64 x6), A.v (.bool x7)]) (.agg [A.v (.int .i64 y0), A.v (.int .i64 y1), A.v (.int .i64 y2), A.v (.int .i64 y3), A.v (.int .i64 y4), A.v (.int .i64 y5), A.v (.int .i64 y6), A.v (.bool y7)]) = some (((x0 == y0) && ((x1 == y1) && ((x2 == y2) && ((x3 == y3) && ((x4 == y4) && ((x5 == y5) && ((x6 == y6) && ((x7 == y7) && (true)))))))))) := by kernel_rfl
@[simp] theorem eqG_27 : Try.prog.eqGuardType Try.prog.depth 27 = false := by kernel_rfl


/-- cento/ptr.near -/
def c_ptr_near : CC :=
  .seq (.reg [⟨some 2, (Op.assign (Operand.const (Value.bool false))), none⟩] false [0, 6, 7])
  (.seq (.reg [⟨some 3, (Op.move (Operand.tmp 0)), none⟩,
      ⟨some 4, (Op.binOp BinOp.geq 3 (Operand.tmp 3) (Operand.const (Value.int IntKind.i64 (-536870912))) 3), none⟩,
      ⟨some 5, (Op.move (Operand.tmp 4)), none⟩,
      ⟨some 6, (Op.move (Operand.tmp 0)), some (5, true)⟩,
      ⟨some 7, (Op.binOp BinOp.lss 3 (Operand.tmp 6) (Operand.const (Value.int IntKind.i64 536870912)) 3), some (5, true)⟩,
      ⟨some 8, (Op.pick (Operand.tmp 5) (Operand.tmp 7) (Operand.const (Value.bool false))), none⟩,
      ⟨some 2, (Op.assign (Operand.tmp 8)), none⟩] false [2])
  (.ret))
theorem is_ptr_near : toCC 9 (Try.f42.body.getD .ret) [[0, 6, 7], [], [2], []] = some (c_ptr_near, []) := by kernel_rfl
theorem body_ptr_near : Try.f42.body = some (Try.f42.body.getD .ret) := by kernel_rfl
theorem ok_ptr_near : okFn Try.prog 42 = true := by kernel_rfl
theorem res_ptr_near : Try.f42.results.toList = [(ResultVar.tmp 2)] := by kernel_rfl
theorem spec_ptr_near {args : List A} {r : A} (ha : args.length ≤ 9) (h : ∀ w0 I0, WPC (cx Try.prog w0 I0 9) c_ptr_near (RetC Try.prog [(ResultVar.tmp 2)] r) ⟨argS args, []⟩) : Ab.Spec Try.prog 42 args r :=
  spec_of mixed ok_ptr_near Try.func42 body_ptr_near Try.ntmps42 ha res_ptr_near is_ptr_near h


/-- cento/ptr.within -/
def c_ptr_within : CC :=
  .seq (.reg [⟨some 4, (Op.assign (Operand.const (Value.bool false))), none⟩] false [0, 1, 8, 9, 10])
  (.seq (.reg [⟨some 5, (Op.move (Operand.tmp 0)), none⟩,
      ⟨some 6, (Op.binOp BinOp.geq 3 (Operand.tmp 5) (Operand.const (Value.int IntKind.i64 0)) 3), none⟩,
      ⟨some 7, (Op.move (Operand.tmp 6)), none⟩,
      ⟨some 8, (Op.move (Operand.tmp 0)), some (7, true)⟩,
      ⟨some 9, (Op.move (Operand.tmp 1)), some (7, true)⟩,
      ⟨some 10, (Op.binOp BinOp.leq 3 (Operand.tmp 8) (Operand.tmp 9) 3), some (7, true)⟩,
      ⟨some 11, (Op.pick (Operand.tmp 7) (Operand.tmp 10) (Operand.const (Value.bool false))), none⟩,
      ⟨some 4, (Op.assign (Operand.tmp 11)), none⟩] false [4])
  (.ret))
theorem is_ptr_within : toCC 12 (Try.f43.body.getD .ret) [[0, 1, 8, 9, 10], [], [4], []] = some (c_ptr_within, []) := by kernel_rfl
theorem body_ptr_within : Try.f43.body = some (Try.f43.body.getD .ret) := by kernel_rfl
theorem ok_ptr_within : okFn Try.prog 43 = true := by kernel_rfl
theorem res_ptr_within : Try.f43.results.toList = [(ResultVar.tmp 4)] := by kernel_rfl
theorem spec_ptr_within {args : List A} {r : A} (ha : args.length ≤ 12) (h : ∀ w0 I0, WPC (cx Try.prog w0 I0 12) c_ptr_within (RetC Try.prog [(ResultVar.tmp 4)] r) ⟨argS args, []⟩) : Ab.Spec Try.prog 43 args r :=
  spec_of mixed ok_ptr_within Try.func43 body_ptr_within Try.ntmps43 ha res_ptr_within is_ptr_within h


/-- cento/ptr.low -/
def c_ptr_low : CC :=
  .seq (.reg [⟨some 4, (Op.assign (Operand.const (Value.int IntKind.u64 0))), none⟩] false [0, 1])
  (.seq (.reg [⟨some 5, (Op.move (Operand.tmp 0)), none⟩,
      ⟨some 6, (Op.convert 3 82 (Operand.tmp 5)), none⟩,
      ⟨some 7, (Op.binOp BinOp.shl 82 (Operand.tmp 6) (Operand.const (Value.int IntKind.u64 2)) 80), none⟩,
      ⟨some 8, (Op.move (Operand.tmp 1)), none⟩,
      ⟨some 9, (Op.convert 3 82 (Operand.tmp 8)), none⟩,
      ⟨some 10, (Op.binOp BinOp.or 82 (Operand.tmp 7) (Operand.tmp 9) 82), none⟩,
      ⟨some 11, (Op.convert 82 22 (Operand.tmp 10)), none⟩,
      ⟨some 4, (Op.assign (Operand.tmp 11)), none⟩] false [4])
  (.ret))
theorem is_ptr_low : toCC 12 (Try.f44.body.getD .ret) [[0, 1], [], [4], []] = some (c_ptr_low, []) := by kernel_rfl
theorem body_ptr_low : Try.f44.body = some (Try.f44.body.getD .ret) := by kernel_rfl
theorem ok_ptr_low : okFn Try.prog 44 = true := by kernel_rfl
theorem res_ptr_low : Try.f44.results.toList = [(ResultVar.tmp 4)] := by kernel_rfl
theorem spec_ptr_low {args : List A} {r : A} (ha : args.length ≤ 12) (h : ∀ w0 I0, WPC (cx Try.prog w0 I0 12) c_ptr_low (RetC Try.prog [(ResultVar.tmp 4)] r) ⟨argS args, []⟩) : Ab.Spec Try.prog 44 args r :=
  spec_of mixed ok_ptr_low Try.func44 body_ptr_low Try.ntmps44 ha res_ptr_low is_ptr_low h


/-- cento/ptr.Decode -/
def c_ptr_Decode : CC :=
  .seq (.reg [⟨some 2, (Op.alloc 24), none⟩] false [0, 2])
  (.seq (.reg [⟨some 4, (Op.move (Operand.tmp 0)), none⟩,
      ⟨some 5, (Op.convert 22 82 (Operand.tmp 4)), none⟩,
      ⟨some 6, (Op.convert 82 21 (Operand.tmp 5)), none⟩,
      ⟨some 7, (Op.convert 21 3 (Operand.tmp 6)), none⟩,
      ⟨some 8, (Op.binOp BinOp.shr 3 (Operand.tmp 7) (Operand.const (Value.int IntKind.u64 2)) 80), none⟩,
      ⟨some 3, (Op.assign (Operand.tmp 8)), none⟩] false [0, 2, 3])
  (.seq (.block 0
      (.seq (.reg [⟨some 10, (Op.move (Operand.tmp 0)), none⟩,
          ⟨some 11, (Op.binOp BinOp.eql 22 (Operand.tmp 10) (Operand.const (Value.int IntKind.u64 0)) 22), none⟩,
          ⟨some 9, (Op.assign (Operand.tmp 11)), none⟩] false [0, 2, 3, 9])
      (.cond (Operand.tmp 9)
        (.seq (.reg [⟨some 12, (Op.build 24 #[]), none⟩,
            ⟨none, (Op.store 24 (Operand.tmp 2) (Operand.tmp 12)), none⟩] false [2])
        (.ret))
        (.seq (.reg [⟨some 14, (Op.move (Operand.tmp 0)), none⟩,
            ⟨some 15, (Op.binOp BinOp.and 22 (Operand.tmp 14) (Operand.const (Value.int IntKind.u64 3)) 22), none⟩,
            ⟨some 16, (Op.binOp BinOp.eql 22 (Operand.tmp 15) (Operand.const (Value.int IntKind.u64 0)) 22), none⟩,
            ⟨some 13, (Op.assign (Operand.tmp 16)), none⟩] false [0, 2, 3, 13])
        (.cond (Operand.tmp 13)
          (.seq (.reg [⟨some 17, (Op.move (Operand.tmp 3)), none⟩,
              ⟨some 18, (Op.move (Operand.tmp 0)), none⟩,
              ⟨some 19, (Op.binOp BinOp.shr 22 (Operand.tmp 18) (Operand.const (Value.int IntKind.u64 32)) 80), none⟩,
              ⟨some 20, (Op.binOp BinOp.and 22 (Operand.tmp 19) (Operand.const (Value.int IntKind.u64 65535)) 22), none⟩,
              ⟨some 21, (Op.convert 22 3 (Operand.tmp 20)), none⟩,
              ⟨some 22, (Op.move (Operand.tmp 0)), none⟩,
              ⟨some 23, (Op.binOp BinOp.shr 22 (Operand.tmp 22) (Operand.const (Value.int IntKind.u64 48)) 80), none⟩,
              ⟨some 24, (Op.convert 22 3 (Operand.tmp 23)), none⟩,
              ⟨some 25, (Op.build 24 #[(0, (Operand.const (Value.int IntKind.i64 1))), (1, (Operand.tmp 17)), (2, (Operand.tmp 21)), (3, (Operand.tmp 24))]), none⟩,
              ⟨none, (Op.store 24 (Operand.tmp 2) (Operand.tmp 25)), none⟩] false [2])
          (.ret))
          (.seq (.reg [⟨some 27, (Op.move (Operand.tmp 0)), none⟩,
              ⟨some 28, (Op.binOp BinOp.and 22 (Operand.tmp 27) (Operand.const (Value.int IntKind.u64 3)) 22), none⟩,
              ⟨some 29, (Op.binOp BinOp.eql 22 (Operand.tmp 28) (Operand.const (Value.int IntKind.u64 1)) 22), none⟩,
              ⟨some 26, (Op.assign (Operand.tmp 29)), none⟩] false [0, 2, 3, 26])
          (.cond (Operand.tmp 26)
            (.seq (.reg [⟨some 30, (Op.move (Operand.tmp 3)), none⟩,
                ⟨some 31, (Op.move (Operand.tmp 0)), none⟩,
                ⟨some 32, (Op.binOp BinOp.shr 22 (Operand.tmp 31) (Operand.const (Value.int IntKind.u64 32)) 80), none⟩,
                ⟨some 33, (Op.binOp BinOp.and 22 (Operand.tmp 32) (Operand.const (Value.int IntKind.u64 7)) 22), none⟩,
                ⟨some 34, (Op.convert 22 3 (Operand.tmp 33)), none⟩,
                ⟨some 35, (Op.move (Operand.tmp 0)), none⟩,
                ⟨some 36, (Op.binOp BinOp.shr 22 (Operand.tmp 35) (Operand.const (Value.int IntKind.u64 35)) 80), none⟩,
                ⟨some 37, (Op.convert 22 3 (Operand.tmp 36)), none⟩,
                ⟨some 38, (Op.build 24 #[(0, (Operand.const (Value.int IntKind.i64 2))), (1, (Operand.tmp 30)), (4, (Operand.tmp 34)), (5, (Operand.tmp 37))]), none⟩,
                ⟨none, (Op.store 24 (Operand.tmp 2) (Operand.tmp 38)), none⟩] false [2])
            (.ret))
            (.seq (.reg [⟨some 40, (Op.move (Operand.tmp 0)), none⟩,
                ⟨some 41, (Op.binOp BinOp.and 22 (Operand.tmp 40) (Operand.const (Value.int IntKind.u64 3)) 22), none⟩,
                ⟨some 42, (Op.binOp BinOp.eql 22 (Operand.tmp 41) (Operand.const (Value.int IntKind.u64 2)) 22), none⟩,
                ⟨some 39, (Op.assign (Operand.tmp 42)), none⟩] false [0, 2, 39])
            (.cond (Operand.tmp 39)
              (.seq (.reg [⟨some 43, (Op.move (Operand.tmp 0)), none⟩,
                  ⟨some 44, (Op.binOp BinOp.shr 22 (Operand.tmp 43) (Operand.const (Value.int IntKind.u64 3)) 80), none⟩,
                  ⟨some 45, (Op.binOp BinOp.and 22 (Operand.tmp 44) (Operand.const (Value.int IntKind.u64 536870911)) 22), none⟩,
                  ⟨some 46, (Op.convert 22 3 (Operand.tmp 45)), none⟩,
                  ⟨some 47, (Op.move (Operand.tmp 0)), none⟩,
                  ⟨some 48, (Op.binOp BinOp.shr 22 (Operand.tmp 47) (Operand.const (Value.int IntKind.u64 32)) 80), none⟩,
                  ⟨some 49, (Op.convert 22 3 (Operand.tmp 48)), none⟩,
                  ⟨some 50, (Op.move (Operand.tmp 0)), none⟩,
                  ⟨some 51, (Op.binOp BinOp.and 22 (Operand.tmp 50) (Operand.const (Value.int IntKind.u64 4)) 22), none⟩,
                  ⟨some 52, (Op.binOp BinOp.neq 22 (Operand.tmp 51) (Operand.const (Value.int IntKind.u64 0)) 22), none⟩,
                  ⟨some 53, (Op.build 24 #[(0, (Operand.const (Value.int IntKind.i64 3))), (1, (Operand.tmp 46)), (6, (Operand.tmp 49)), (7, (Operand.tmp 52))]), none⟩,
                  ⟨none, (Op.store 24 (Operand.tmp 2) (Operand.tmp 53)), none⟩] false [2])
              (.ret))
              (.skip))))))))))
  (.keep [2] (.seq (.reg [⟨some 54, (Op.build 24 #[(0, (Operand.const (Value.int IntKind.i64 4)))]), none⟩,
      ⟨none, (Op.store 24 (Operand.tmp 2) (Operand.tmp 54)), none⟩] false [2])
  (.ret)))))
theorem is_ptr_Decode : toCC 55 (Try.f12.body.getD .ret) [[0, 2], [], [0, 2, 3], [], [0, 2, 3, 9], [], [2], [], [0, 2, 3, 13], [], [2], [], [0, 2, 3, 26], [], [2], [], [0, 2, 39], [], [2], [], [999999, 2], [2], []] = some (c_ptr_Decode, []) := by kernel_rfl
theorem body_ptr_Decode : Try.f12.body = some (Try.f12.body.getD .ret) := by kernel_rfl
theorem ok_ptr_Decode : okFn Try.prog 12 = true := by kernel_rfl
theorem res_ptr_Decode : Try.f12.results.toList = [(ResultVar.cell 2 24)] := by kernel_rfl
theorem spec_ptr_Decode {args : List A} {r : A} (ha : args.length ≤ 55) (h : ∀ w0 I0, WPC (cx Try.prog w0 I0 55) c_ptr_Decode (RetC Try.prog [(ResultVar.cell 2 24)] r) ⟨argS args, []⟩) : Ab.Spec Try.prog 12 args r :=
  spec_of mixed ok_ptr_Decode Try.func12 body_ptr_Decode Try.ntmps12 ha res_ptr_Decode is_ptr_Decode h

def k1_ptr_Encode : CC :=
  .seq (.reg [⟨some 87, (Op.move (Operand.tmp 4)), none⟩,
      ⟨some 88, (Op.move (Operand.tmp 4)), none⟩,
      ⟨some 89, (Op.call { callee := (Callee.value (Operand.func 12)), args := #[(Operand.tmp 88)], argTypes := #[22] }), none⟩,
      ⟨some 90, (Op.load 24 (Operand.tmp 1)), none⟩,
      ⟨some 91, (Op.binOp BinOp.eql 24 (Operand.tmp 89) (Operand.tmp 90) 24), none⟩,
      ⟨some 92, (Op.move (Operand.tmp 91)), none⟩,
      ⟨some 93, (Op.fieldAddr 24 (Operand.tmp 1) 0), some (92, true)⟩,
      ⟨some 94, (Op.load 3 (Operand.tmp 93)), some (92, true)⟩,
      ⟨some 95, (Op.binOp BinOp.neq 3 (Operand.tmp 94) (Operand.const (Value.int IntKind.i64 4)) 3), some (92, true)⟩,
      ⟨some 96, (Op.pick (Operand.tmp 92) (Operand.tmp 95) (Operand.const (Value.bool false))), none⟩,
      ⟨some 2, (Op.assign (Operand.tmp 87)), none⟩,
      ⟨some 3, (Op.assign (Operand.tmp 96)), none⟩] true [2, 3])
  (.ret)

/-- cento/ptr.Encode -/
def c_ptr_Encode : CC :=
  .seq (.reg [⟨some 1, (Op.box 24 (Operand.tmp 0)), none⟩,
      ⟨some 2, (Op.assign (Operand.const (Value.int IntKind.u64 0))), none⟩,
      ⟨some 3, (Op.assign (Operand.const (Value.bool false))), none⟩] false [1, 13, 14, 15, 18, 19, 20, 41, 42, 43, 46, 47, 48, 69, 70, 71, 93, 94, 95])
  (.seq (.reg [⟨some 4, (Op.assign (Operand.const (Value.int IntKind.u64 0))), none⟩] false [1, 4, 13, 14, 15, 18, 19, 20, 41, 42, 43, 46, 47, 48, 69, 70, 71, 93, 94, 95])
  (.seq (.seq (.reg [⟨some 5, (Op.fieldAddr 24 (Operand.tmp 1) 0), none⟩,
        ⟨some 6, (Op.load 3 (Operand.tmp 5)), none⟩] false [1, 4, 6, 13, 14, 15, 18, 19, 20, 41, 42, 43, 46, 47, 48, 69, 70, 71, 93, 94, 95])
    (.block 0
      (.seq (.reg [⟨some 8, (Op.binOp BinOp.eql 3 (Operand.tmp 6) (Operand.const (Value.int IntKind.i64 1)) 3), none⟩,
          ⟨some 7, (Op.assign (Operand.tmp 8)), none⟩] false [1, 4, 6, 7, 13, 14, 15, 18, 19, 20, 41, 42, 43, 46, 47, 48, 69, 70, 71, 93, 94, 95])
      (.cond (Operand.tmp 7)
        (.seq (.reg [⟨some 9, (Op.fieldAddr 24 (Operand.tmp 1) 1), none⟩,
            ⟨some 10, (Op.load 3 (Operand.tmp 9)), none⟩,
            ⟨some 11, (Op.call { callee := (Callee.value (Operand.func 42)), args := #[(Operand.tmp 10)], argTypes := #[3] }), none⟩,
            ⟨some 12, (Op.move (Operand.tmp 11)), none⟩,
            ⟨some 13, (Op.fieldAddr 24 (Operand.tmp 1) 2), some (12, true)⟩,
            ⟨some 14, (Op.load 3 (Operand.tmp 13)), some (12, true)⟩,
            ⟨some 15, (Op.call { callee := (Callee.value (Operand.func 43)), args := #[(Operand.tmp 14), (Operand.const (Value.int IntKind.i64 65535))], argTypes := #[3, 3] }), some (12, true)⟩,
            ⟨some 16, (Op.pick (Operand.tmp 12) (Operand.tmp 15) (Operand.const (Value.bool false))), none⟩,
            ⟨some 17, (Op.move (Operand.tmp 16)), none⟩,
            ⟨some 18, (Op.fieldAddr 24 (Operand.tmp 1) 3), some (17, true)⟩,
            ⟨some 19, (Op.load 3 (Operand.tmp 18)), some (17, true)⟩,
            ⟨some 20, (Op.call { callee := (Callee.value (Operand.func 43)), args := #[(Operand.tmp 19), (Operand.const (Value.int IntKind.i64 65535))], argTypes := #[3, 3] }), some (17, true)⟩,
            ⟨some 21, (Op.pick (Operand.tmp 17) (Operand.tmp 20) (Operand.const (Value.bool false))), none⟩] false [1, 4, 21, 93, 94, 95])
        (.cond (Operand.tmp 21)
          (.reg [⟨some 22, (Op.fieldAddr 24 (Operand.tmp 1) 1), none⟩,
            ⟨some 23, (Op.load 3 (Operand.tmp 22)), none⟩,
            ⟨some 24, (Op.call { callee := (Callee.value (Operand.func 44)), args := #[(Operand.tmp 23), (Operand.const (Value.int IntKind.i64 0))], argTypes := #[3, 3] }), none⟩,
            ⟨some 25, (Op.fieldAddr 24 (Operand.tmp 1) 2), none⟩,
            ⟨some 26, (Op.load 3 (Operand.tmp 25)), none⟩,
            ⟨some 27, (Op.convert 3 22 (Operand.tmp 26)), none⟩,
            ⟨some 28, (Op.binOp BinOp.shl 22 (Operand.tmp 27) (Operand.const (Value.int IntKind.u64 32)) 80), none⟩,
            ⟨some 29, (Op.binOp BinOp.or 22 (Operand.tmp 24) (Operand.tmp 28) 22), none⟩,
            ⟨some 30, (Op.fieldAddr 24 (Operand.tmp 1) 3), none⟩,
            ⟨some 31, (Op.load 3 (Operand.tmp 30)), none⟩,
            ⟨some 32, (Op.convert 3 22 (Operand.tmp 31)), none⟩,
            ⟨some 33, (Op.binOp BinOp.shl 22 (Operand.tmp 32) (Operand.const (Value.int IntKind.u64 48)) 80), none⟩,
            ⟨some 34, (Op.binOp BinOp.or 22 (Operand.tmp 29) (Operand.tmp 33) 22), none⟩,
            ⟨some 4, (Op.assign (Operand.tmp 34)), none⟩] true [1, 4, 93, 94, 95])
          (.skip)))
        (.seq (.reg [⟨some 36, (Op.binOp BinOp.eql 3 (Operand.tmp 6) (Operand.const (Value.int IntKind.i64 2)) 3), none⟩,
            ⟨some 35, (Op.assign (Operand.tmp 36)), none⟩] false [1, 4, 6, 35, 41, 42, 43, 46, 47, 48, 69, 70, 71, 93, 94, 95])
        (.cond (Operand.tmp 35)
          (.seq (.reg [⟨some 37, (Op.fieldAddr 24 (Operand.tmp 1) 1), none⟩,
              ⟨some 38, (Op.load 3 (Operand.tmp 37)), none⟩,
              ⟨some 39, (Op.call { callee := (Callee.value (Operand.func 42)), args := #[(Operand.tmp 38)], argTypes := #[3] }), none⟩,
              ⟨some 40, (Op.move (Operand.tmp 39)), none⟩,
              ⟨some 41, (Op.fieldAddr 24 (Operand.tmp 1) 4), some (40, true)⟩,
              ⟨some 42, (Op.load 3 (Operand.tmp 41)), some (40, true)⟩,
              ⟨some 43, (Op.call { callee := (Callee.value (Operand.func 43)), args := #[(Operand.tmp 42), (Operand.const (Value.int IntKind.i64 7))], argTypes := #[3, 3] }), some (40, true)⟩,
              ⟨some 44, (Op.pick (Operand.tmp 40) (Operand.tmp 43) (Operand.const (Value.bool false))), none⟩,
              ⟨some 45, (Op.move (Operand.tmp 44)), none⟩,
              ⟨some 46, (Op.fieldAddr 24 (Operand.tmp 1) 5), some (45, true)⟩,
              ⟨some 47, (Op.load 3 (Operand.tmp 46)), some (45, true)⟩,
              ⟨some 48, (Op.call { callee := (Callee.value (Operand.func 43)), args := #[(Operand.tmp 47), (Operand.const (Value.int IntKind.i64 536870911))], argTypes := #[3, 3] }), some (45, true)⟩,
              ⟨some 49, (Op.pick (Operand.tmp 45) (Operand.tmp 48) (Operand.const (Value.bool false))), none⟩] false [1, 4, 49, 93, 94, 95])
          (.cond (Operand.tmp 49)
            (.reg [⟨some 50, (Op.fieldAddr 24 (Operand.tmp 1) 1), none⟩,
              ⟨some 51, (Op.load 3 (Operand.tmp 50)), none⟩,
              ⟨some 52, (Op.call { callee := (Callee.value (Operand.func 44)), args := #[(Operand.tmp 51), (Operand.const (Value.int IntKind.i64 1))], argTypes := #[3, 3] }), none⟩,
              ⟨some 53, (Op.fieldAddr 24 (Operand.tmp 1) 4), none⟩,
              ⟨some 54, (Op.load 3 (Operand.tmp 53)), none⟩,
              ⟨some 55, (Op.convert 3 22 (Operand.tmp 54)), none⟩,
              ⟨some 56, (Op.binOp BinOp.shl 22 (Operand.tmp 55) (Operand.const (Value.int IntKind.u64 32)) 80), none⟩,
              ⟨some 57, (Op.binOp BinOp.or 22 (Operand.tmp 52) (Operand.tmp 56) 22), none⟩,
              ⟨some 58, (Op.fieldAddr 24 (Operand.tmp 1) 5), none⟩,
              ⟨some 59, (Op.load 3 (Operand.tmp 58)), none⟩,
              ⟨some 60, (Op.convert 3 22 (Operand.tmp 59)), none⟩,
              ⟨some 61, (Op.binOp BinOp.shl 22 (Operand.tmp 60) (Operand.const (Value.int IntKind.u64 35)) 80), none⟩,
              ⟨some 62, (Op.binOp BinOp.or 22 (Operand.tmp 57) (Operand.tmp 61) 22), none⟩,
              ⟨some 4, (Op.assign (Operand.tmp 62)), none⟩] true [1, 4, 93, 94, 95])
            (.skip)))
          (.seq (.reg [⟨some 64, (Op.binOp BinOp.eql 3 (Operand.tmp 6) (Operand.const (Value.int IntKind.i64 3)) 3), none⟩,
              ⟨some 63, (Op.assign (Operand.tmp 64)), none⟩] false [1, 4, 63, 69, 70, 71, 93, 94, 95])
          (.cond (Operand.tmp 63)
            (.seq (.reg [⟨some 65, (Op.fieldAddr 24 (Operand.tmp 1) 1), none⟩,
                ⟨some 66, (Op.load 3 (Operand.tmp 65)), none⟩,
                ⟨some 67, (Op.call { callee := (Callee.value (Operand.func 43)), args := #[(Operand.tmp 66), (Operand.const (Value.int IntKind.i64 536870911))], argTypes := #[3, 3] }), none⟩,
                ⟨some 68, (Op.move (Operand.tmp 67)), none⟩,
                ⟨some 69, (Op.fieldAddr 24 (Operand.tmp 1) 6), some (68, true)⟩,
                ⟨some 70, (Op.load 3 (Operand.tmp 69)), some (68, true)⟩,
                ⟨some 71, (Op.call { callee := (Callee.value (Operand.func 43)), args := #[(Operand.tmp 70), (Operand.const (Value.int IntKind.i64 4294967295))], argTypes := #[3, 3] }), some (68, true)⟩,
                ⟨some 72, (Op.pick (Operand.tmp 68) (Operand.tmp 71) (Operand.const (Value.bool false))), none⟩] false [1, 4, 72, 93, 94, 95])
            (.cond (Operand.tmp 72)
              (.seq (.reg [⟨some 73, (Op.fieldAddr 24 (Operand.tmp 1) 1), none⟩,
                  ⟨some 74, (Op.load 3 (Operand.tmp 73)), none⟩,
                  ⟨some 75, (Op.convert 3 22 (Operand.tmp 74)), none⟩,
                  ⟨some 76, (Op.binOp BinOp.shl 22 (Operand.tmp 75) (Operand.const (Value.int IntKind.u64 3)) 80), none⟩,
                  ⟨some 77, (Op.binOp BinOp.or 22 (Operand.tmp 76) (Operand.const (Value.int IntKind.u64 2)) 22), none⟩,
                  ⟨some 78, (Op.fieldAddr 24 (Operand.tmp 1) 6), none⟩,
                  ⟨some 79, (Op.load 3 (Operand.tmp 78)), none⟩,
                  ⟨some 80, (Op.convert 3 22 (Operand.tmp 79)), none⟩,
                  ⟨some 81, (Op.binOp BinOp.shl 22 (Operand.tmp 80) (Operand.const (Value.int IntKind.u64 32)) 80), none⟩,
                  ⟨some 82, (Op.binOp BinOp.or 22 (Operand.tmp 77) (Operand.tmp 81) 22), none⟩,
                  ⟨some 4, (Op.assign (Operand.tmp 82)), none⟩] false [1, 4, 93, 94, 95])
              (.seq (.reg [⟨some 83, (Op.fieldAddr 24 (Operand.tmp 1) 7), none⟩,
                  ⟨some 84, (Op.load 4 (Operand.tmp 83)), none⟩] false [1, 4, 84, 93, 94, 95])
              (.cond (Operand.tmp 84)
                (.reg [⟨some 85, (Op.move (Operand.tmp 4)), none⟩,
                  ⟨some 86, (Op.binOp BinOp.or 22 (Operand.tmp 85) (Operand.const (Value.int IntKind.u64 4)) 22), none⟩,
                  ⟨some 4, (Op.assign (Operand.tmp 86)), none⟩] false [1, 4, 93, 94, 95])
                (.skip))))
              (.skip)))
            (.skip)))))))))
  (.keep [1, 4, 93, 94, 95] k1_ptr_Encode)))
theorem is_ptr_Encode : toCC 97 (Try.f15.body.getD .ret) [[1, 13, 14, 15, 18, 19, 20, 41, 42, 43, 46, 47, 48, 69, 70, 71, 93, 94, 95], [], [1, 4, 13, 14, 15, 18, 19, 20, 41, 42, 43, 46, 47, 48, 69, 70, 71, 93, 94, 95], [], [1, 4, 6, 13, 14, 15, 18, 19, 20, 41, 42, 43, 46, 47, 48, 69, 70, 71, 93, 94, 95], [], [1, 4, 6, 7, 13, 14, 15, 18, 19, 20, 41, 42, 43, 46, 47, 48, 69, 70, 71, 93, 94, 95], [], [1, 4, 21, 93, 94, 95], [], [1, 4, 93, 94, 95], [1, 4, 6, 35, 41, 42, 43, 46, 47, 48, 69, 70, 71, 93, 94, 95], [], [1, 4, 49, 93, 94, 95], [], [1, 4, 93, 94, 95], [1, 4, 63, 69, 70, 71, 93, 94, 95], [], [1, 4, 72, 93, 94, 95], [], [1, 4, 93, 94, 95], [], [1, 4, 84, 93, 94, 95], [], [1, 4, 93, 94, 95], [999999, 1, 4, 93, 94, 95], [2, 3], []] = some (c_ptr_Encode, []) := by kernel_rfl
theorem body_ptr_Encode : Try.f15.body = some (Try.f15.body.getD .ret) := by kernel_rfl
theorem ok_ptr_Encode : okFn Try.prog 15 = true := by kernel_rfl
theorem res_ptr_Encode : Try.f15.results.toList = [(ResultVar.tmp 2), (ResultVar.tmp 3)] := by kernel_rfl
theorem spec_ptr_Encode {args : List A} {r : A} (ha : args.length ≤ 97) (h : ∀ w0 I0, WPC (cx Try.prog w0 I0 97) c_ptr_Encode (RetC Try.prog [(ResultVar.tmp 2), (ResultVar.tmp 3)] r) ⟨argS args, []⟩) : Ab.Spec Try.prog 15 args r :=
  spec_of mixed ok_ptr_Encode Try.func15 body_ptr_Encode Try.ntmps15 ha res_ptr_Encode is_ptr_Encode h


/-- cento/centolaw04.mine -/
def c_centolaw04_mine : CC :=
  .seq (.reg [⟨some 1, (Op.box 27 (Operand.tmp 0)), none⟩,
      ⟨some 2, (Op.alloc 24), none⟩] false [1, 2])
  (.seq (.reg [⟨some 3, (Op.fieldAddr 27 (Operand.tmp 1) 0), none⟩,
      ⟨some 4, (Op.load 3 (Operand.tmp 3)), none⟩,
      ⟨some 5, (Op.fieldAddr 27 (Operand.tmp 1) 1), none⟩,
      ⟨some 6, (Op.load 3 (Operand.tmp 5)), none⟩,
      ⟨some 7, (Op.fieldAddr 27 (Operand.tmp 1) 2), none⟩,
      ⟨some 8, (Op.load 3 (Operand.tmp 7)), none⟩,
      ⟨some 9, (Op.fieldAddr 27 (Operand.tmp 1) 3), none⟩,
      ⟨some 10, (Op.load 3 (Operand.tmp 9)), none⟩,
      ⟨some 11, (Op.fieldAddr 27 (Operand.tmp 1) 4), none⟩,
      ⟨some 12, (Op.load 3 (Operand.tmp 11)), none⟩,
      ⟨some 13, (Op.fieldAddr 27 (Operand.tmp 1) 5), none⟩,
      ⟨some 14, (Op.load 3 (Operand.tmp 13)), none⟩,
      ⟨some 15, (Op.fieldAddr 27 (Operand.tmp 1) 6), none⟩,
      ⟨some 16, (Op.load 3 (Operand.tmp 15)), none⟩,
      ⟨some 17, (Op.fieldAddr 27 (Operand.tmp 1) 7), none⟩,
      ⟨some 18, (Op.load 4 (Operand.tmp 17)), none⟩,
      ⟨some 19, (Op.build 24 #[(0, (Operand.tmp 4)), (1, (Operand.tmp 6)), (2, (Operand.tmp 8)), (3, (Operand.tmp 10)), (4, (Operand.tmp 12)), (5, (Operand.tmp 14)), (6, (Operand.tmp 16)), (7, (Operand.tmp 18))]), none⟩,
      ⟨none, (Op.store 24 (Operand.tmp 2) (Operand.tmp 19)), none⟩] false [2])
  (.ret))
theorem is_centolaw04_mine : toCC 20 (Try.f13.body.getD .ret) [[1, 2], [], [2], []] = some (c_centolaw04_mine, []) := by kernel_rfl
theorem body_centolaw04_mine : Try.f13.body = some (Try.f13.body.getD .ret) := by kernel_rfl
theorem ok_centolaw04_mine : okFn Try.prog 13 = true := by kernel_rfl
theorem res_centolaw04_mine : Try.f13.results.toList = [(ResultVar.cell 2 24)] := by kernel_rfl
theorem spec_centolaw04_mine {args : List A} {r : A} (ha : args.length ≤ 20) (h : ∀ w0 I0, WPC (cx Try.prog w0 I0 20) c_centolaw04_mine (RetC Try.prog [(ResultVar.cell 2 24)] r) ⟨argS args, []⟩) : Ab.Spec Try.prog 13 args r :=
  spec_of mixed ok_centolaw04_mine Try.func13 body_centolaw04_mine Try.ntmps13 ha res_centolaw04_mine is_centolaw04_mine h


/-- cento/centolaw04.awake -/
def c_centolaw04_awake : CC :=
  .seq (.reg [⟨some 0, (Op.assign (Operand.const (Value.bool false))), none⟩] false [5, 6, 7])
  (.seq (.reg [⟨some 1, (Op.call { callee := (Callee.value (Operand.func 12)), args := #[(Operand.const (Value.int IntKind.u64 4294967296))], argTypes := #[22] }), none⟩,
      ⟨some 2, (Op.build 24 #[(0, (Operand.const (Value.int IntKind.i64 1))), (2, (Operand.const (Value.int IntKind.i64 1)))]), none⟩,
      ⟨some 3, (Op.binOp BinOp.eql 24 (Operand.tmp 1) (Operand.tmp 2) 24), none⟩,
      ⟨some 4, (Op.move (Operand.tmp 3)), none⟩,
      ⟨some 5, (Op.call { callee := (Callee.value (Operand.func 12)), args := #[(Operand.const (Value.int IntKind.u64 4294967292))], argTypes := #[22] }), some (4, true)⟩,
      ⟨some 6, (Op.build 24 #[(0, (Operand.const (Value.int IntKind.i64 1))), (1, (Operand.const (Value.int IntKind.i64 (-1))))]), some (4, true)⟩,
      ⟨some 7, (Op.binOp BinOp.eql 24 (Operand.tmp 5) (Operand.tmp 6) 24), some (4, true)⟩,
      ⟨some 8, (Op.pick (Operand.tmp 4) (Operand.tmp 7) (Operand.const (Value.bool false))), none⟩,
      ⟨some 0, (Op.assign (Operand.tmp 8)), none⟩] false [0])
  (.ret))
theorem is_centolaw04_awake : toCC 9 (Try.f16.body.getD .ret) [[5, 6, 7], [], [0], []] = some (c_centolaw04_awake, []) := by kernel_rfl
theorem body_centolaw04_awake : Try.f16.body = some (Try.f16.body.getD .ret) := by kernel_rfl
theorem ok_centolaw04_awake : okFn Try.prog 16 = true := by kernel_rfl
theorem res_centolaw04_awake : Try.f16.results.toList = [(ResultVar.tmp 0)] := by kernel_rfl
theorem spec_centolaw04_awake {args : List A} {r : A} (ha : args.length ≤ 9) (h : ∀ w0 I0, WPC (cx Try.prog w0 I0 9) c_centolaw04_awake (RetC Try.prog [(ResultVar.tmp 0)] r) ⟨argS args, []⟩) : Ab.Spec Try.prog 16 args r :=
  spec_of mixed ok_centolaw04_awake Try.func16 body_centolaw04_awake Try.ntmps16 ha res_centolaw04_awake is_centolaw04_awake h


/-- cento/centoref04.Right -/
def c_centoref04_Right : CC :=
  .seq (.reg [⟨some 1, (Op.box 27 (Operand.tmp 0)), none⟩,
      ⟨some 2, (Op.assign (Operand.const (Value.bool false))), none⟩] false [1, 8, 9, 10, 23, 24, 25, 28, 29, 30, 33, 34, 35, 38, 39, 40, 43, 44, 45, 46, 47, 48, 49, 50, 51, 54, 55, 56, 57, 58, 59, 60, 61, 62, 63, 64, 65, 66, 72, 73, 74, 77, 78, 79, 82, 83, 84, 87, 88, 89, 92, 93, 94, 95, 96, 97, 98, 99, 100, 108, 109, 110, 113, 114, 115, 118, 119, 120, 123, 124, 125, 126, 127, 128, 129, 130, 131])
  (.seq (.reg [⟨some 4, (Op.fieldAddr 27 (Operand.tmp 1) 1), none⟩,
      ⟨some 5, (Op.load 3 (Operand.tmp 4)), none⟩,
      ⟨some 6, (Op.binOp BinOp.geq 3 (Operand.tmp 5) (Operand.const (Value.int IntKind.i64 (-536870912))) 3), none⟩,
      ⟨some 7, (Op.move (Operand.tmp 6)), none⟩,
      ⟨some 8, (Op.fieldAddr 27 (Operand.tmp 1) 1), some (7, true)⟩,
      ⟨some 9, (Op.load 3 (Operand.tmp 8)), some (7, true)⟩,
      ⟨some 10, (Op.binOp BinOp.lss 3 (Operand.tmp 9) (Operand.const (Value.int IntKind.i64 536870912)) 3), some (7, true)⟩,
      ⟨some 11, (Op.pick (Operand.tmp 7) (Operand.tmp 10) (Operand.const (Value.bool false))), none⟩,
      ⟨some 3, (Op.assign (Operand.tmp 11)), none⟩] false [1, 3, 23, 24, 25, 28, 29, 30, 33, 34, 35, 38, 39, 40, 43, 44, 45, 46, 47, 48, 49, 50, 51, 54, 55, 56, 57, 58, 59, 60, 61, 62, 63, 64, 65, 66, 72, 73, 74, 77, 78, 79, 82, 83, 84, 87, 88, 89, 92, 93, 94, 95, 96, 97, 98, 99, 100, 108, 109, 110, 113, 114, 115, 118, 119, 120, 123, 124, 125, 126, 127, 128, 129, 130, 131])
  (.seq (.seq (.reg [⟨some 12, (Op.fieldAddr 27 (Operand.tmp 1) 0), none⟩,
        ⟨some 13, (Op.load 3 (Operand.tmp 12)), none⟩] false [1, 3, 13, 23, 24, 25, 28, 29, 30, 33, 34, 35, 38, 39, 40, 43, 44, 45, 46, 47, 48, 49, 50, 51, 54, 55, 56, 57, 58, 59, 60, 61, 62, 63, 64, 65, 66, 72, 73, 74, 77, 78, 79, 82, 83, 84, 87, 88, 89, 92, 93, 94, 95, 96, 97, 98, 99, 100, 108, 109, 110, 113, 114, 115, 118, 119, 120, 123, 124, 125, 126, 127, 128, 129, 130, 131])
    (.block 0
      (.seq (.reg [⟨some 15, (Op.binOp BinOp.eql 3 (Operand.tmp 13) (Operand.const (Value.int IntKind.i64 0)) 3), none⟩,
          ⟨some 14, (Op.assign (Operand.tmp 15)), none⟩] false [1, 3, 13, 14, 23, 24, 25, 28, 29, 30, 33, 34, 35, 38, 39, 40, 43, 44, 45, 46, 47, 48, 49, 50, 51, 54, 55, 56, 57, 58, 59, 60, 61, 62, 63, 64, 65, 66, 72, 73, 74, 77, 78, 79, 82, 83, 84, 87, 88, 89, 92, 93, 94, 95, 96, 97, 98, 99, 100, 108, 109, 110, 113, 114, 115, 118, 119, 120, 123, 124, 125, 126, 127, 128, 129, 130, 131])
      (.cond (Operand.tmp 14)
        (.seq (.reg [⟨some 16, (Op.load 27 (Operand.tmp 1)), none⟩,
            ⟨some 17, (Op.build 27 #[]), none⟩,
            ⟨some 18, (Op.binOp BinOp.eql 27 (Operand.tmp 16) (Operand.tmp 17) 27), none⟩,
            ⟨some 2, (Op.assign (Operand.tmp 18)), none⟩] false [2])
        (.ret))
        (.seq (.reg [⟨some 20, (Op.binOp BinOp.eql 3 (Operand.tmp 13) (Operand.const (Value.int IntKind.i64 1)) 3), none⟩,
            ⟨some 19, (Op.assign (Operand.tmp 20)), none⟩] false [1, 3, 13, 19, 23, 24, 25, 28, 29, 30, 33, 34, 35, 38, 39, 40, 43, 44, 45, 46, 47, 48, 49, 50, 51, 54, 55, 56, 57, 58, 59, 60, 61, 62, 63, 64, 65, 66, 72, 73, 74, 77, 78, 79, 82, 83, 84, 87, 88, 89, 92, 93, 94, 95, 96, 97, 98, 99, 100, 108, 109, 110, 113, 114, 115, 118, 119, 120, 123, 124, 125, 126, 127, 128, 129, 130, 131])
        (.cond (Operand.tmp 19)
          (.seq (.reg [⟨some 21, (Op.move (Operand.tmp 3)), none⟩,
              ⟨some 22, (Op.move (Operand.tmp 21)), none⟩,
              ⟨some 23, (Op.fieldAddr 27 (Operand.tmp 1) 2), some (22, true)⟩,
              ⟨some 24, (Op.load 3 (Operand.tmp 23)), some (22, true)⟩,
              ⟨some 25, (Op.binOp BinOp.geq 3 (Operand.tmp 24) (Operand.const (Value.int IntKind.i64 0)) 3), some (22, true)⟩,
              ⟨some 26, (Op.pick (Operand.tmp 22) (Operand.tmp 25) (Operand.const (Value.bool false))), none⟩,
              ⟨some 27, (Op.move (Operand.tmp 26)), none⟩,
              ⟨some 28, (Op.fieldAddr 27 (Operand.tmp 1) 2), some (27, true)⟩,
              ⟨some 29, (Op.load 3 (Operand.tmp 28)), some (27, true)⟩,
              ⟨some 30, (Op.binOp BinOp.lss 3 (Operand.tmp 29) (Operand.const (Value.int IntKind.i64 65536)) 3), some (27, true)⟩,
              ⟨some 31, (Op.pick (Operand.tmp 27) (Operand.tmp 30) (Operand.const (Value.bool false))), none⟩,
              ⟨some 32, (Op.move (Operand.tmp 31)), none⟩,
              ⟨some 33, (Op.fieldAddr 27 (Operand.tmp 1) 3), some (32, true)⟩,
              ⟨some 34, (Op.load 3 (Operand.tmp 33)), some (32, true)⟩,
              ⟨some 35, (Op.binOp BinOp.geq 3 (Operand.tmp 34) (Operand.const (Value.int IntKind.i64 0)) 3), some (32, true)⟩,
              ⟨some 36, (Op.pick (Operand.tmp 32) (Operand.tmp 35) (Operand.const (Value.bool false))), none⟩,
              ⟨some 37, (Op.move (Operand.tmp 36)), none⟩,
              ⟨some 38, (Op.fieldAddr 27 (Operand.tmp 1) 3), some (37, true)⟩,
              ⟨some 39, (Op.load 3 (Operand.tmp 38)), some (37, true)⟩,
              ⟨some 40, (Op.binOp BinOp.lss 3 (Operand.tmp 39) (Operand.const (Value.int IntKind.i64 65536)) 3), some (37, true)⟩,
              ⟨some 41, (Op.pick (Operand.tmp 37) (Operand.tmp 40) (Operand.const (Value.bool false))), none⟩,
              ⟨some 42, (Op.move (Operand.tmp 41)), none⟩,
              ⟨some 43, (Op.load 27 (Operand.tmp 1)), some (42, true)⟩,
              ⟨some 44, (Op.fieldAddr 27 (Operand.tmp 1) 1), some (42, true)⟩,
              ⟨some 45, (Op.load 3 (Operand.tmp 44)), some (42, true)⟩,
              ⟨some 46, (Op.fieldAddr 27 (Operand.tmp 1) 2), some (42, true)⟩,
              ⟨some 47, (Op.load 3 (Operand.tmp 46)), some (42, true)⟩,
              ⟨some 48, (Op.fieldAddr 27 (Operand.tmp 1) 3), some (42, true)⟩,
              ⟨some 49, (Op.load 3 (Operand.tmp 48)), some (42, true)⟩,
              ⟨some 50, (Op.build 27 #[(0, (Operand.const (Value.int IntKind.i64 1))), (1, (Operand.tmp 45)), (2, (Operand.tmp 47)), (3, (Operand.tmp 49))]), some (42, true)⟩,
              ⟨some 51, (Op.binOp BinOp.eql 27 (Operand.tmp 43) (Operand.tmp 50) 27), some (42, true)⟩,
              ⟨some 52, (Op.pick (Operand.tmp 42) (Operand.tmp 51) (Operand.const (Value.bool false))), none⟩,
              ⟨some 53, (Op.move (Operand.tmp 52)), none⟩,
              ⟨some 54, (Op.fieldAddr 27 (Operand.tmp 1) 1), some (53, true)⟩,
              ⟨some 55, (Op.load 3 (Operand.tmp 54)), some (53, true)⟩,
              ⟨some 56, (Op.binOp BinOp.neq 3 (Operand.tmp 55) (Operand.const (Value.int IntKind.i64 0)) 3), some (53, true)⟩,
              ⟨some 57, (Op.move (Operand.tmp 56)), some (53, true)⟩,
              ⟨some 58, (Op.fieldAddr 27 (Operand.tmp 1) 2), some (57, false)⟩,
              ⟨some 59, (Op.load 3 (Operand.tmp 58)), some (57, false)⟩,
              ⟨some 60, (Op.binOp BinOp.neq 3 (Operand.tmp 59) (Operand.const (Value.int IntKind.i64 0)) 3), some (57, false)⟩,
              ⟨some 61, (Op.pick (Operand.tmp 57) (Operand.const (Value.bool true)) (Operand.tmp 60)), some (53, true)⟩,
              ⟨some 62, (Op.move (Operand.tmp 61)), some (53, true)⟩,
              ⟨some 63, (Op.fieldAddr 27 (Operand.tmp 1) 3), some (62, false)⟩,
              ⟨some 64, (Op.load 3 (Operand.tmp 63)), some (62, false)⟩,
              ⟨some 65, (Op.binOp BinOp.neq 3 (Operand.tmp 64) (Operand.const (Value.int IntKind.i64 0)) 3), some (62, false)⟩,
              ⟨some 66, (Op.pick (Operand.tmp 62) (Operand.const (Value.bool true)) (Operand.tmp 65)), some (53, true)⟩,
              ⟨some 67, (Op.pick (Operand.tmp 53) (Operand.tmp 66) (Operand.const (Value.bool false))), none⟩,
              ⟨some 2, (Op.assign (Operand.tmp 67)), none⟩] false [2])
          (.ret))
          (.seq (.reg [⟨some 69, (Op.binOp BinOp.eql 3 (Operand.tmp 13) (Operand.const (Value.int IntKind.i64 2)) 3), none⟩,
              ⟨some 68, (Op.assign (Operand.tmp 69)), none⟩] false [1, 3, 13, 68, 72, 73, 74, 77, 78, 79, 82, 83, 84, 87, 88, 89, 92, 93, 94, 95, 96, 97, 98, 99, 100, 108, 109, 110, 113, 114, 115, 118, 119, 120, 123, 124, 125, 126, 127, 128, 129, 130, 131])
          (.cond (Operand.tmp 68)
            (.seq (.reg [⟨some 70, (Op.move (Operand.tmp 3)), none⟩,
                ⟨some 71, (Op.move (Operand.tmp 70)), none⟩,
                ⟨some 72, (Op.fieldAddr 27 (Operand.tmp 1) 4), some (71, true)⟩,
                ⟨some 73, (Op.load 3 (Operand.tmp 72)), some (71, true)⟩,
                ⟨some 74, (Op.binOp BinOp.geq 3 (Operand.tmp 73) (Operand.const (Value.int IntKind.i64 0)) 3), some (71, true)⟩,
                ⟨some 75, (Op.pick (Operand.tmp 71) (Operand.tmp 74) (Operand.const (Value.bool false))), none⟩,
                ⟨some 76, (Op.move (Operand.tmp 75)), none⟩,
                ⟨some 77, (Op.fieldAddr 27 (Operand.tmp 1) 4), some (76, true)⟩,
                ⟨some 78, (Op.load 3 (Operand.tmp 77)), some (76, true)⟩,
                ⟨some 79, (Op.binOp BinOp.lss 3 (Operand.tmp 78) (Operand.const (Value.int IntKind.i64 8)) 3), some (76, true)⟩,
                ⟨some 80, (Op.pick (Operand.tmp 76) (Operand.tmp 79) (Operand.const (Value.bool false))), none⟩,
                ⟨some 81, (Op.move (Operand.tmp 80)), none⟩,
                ⟨some 82, (Op.fieldAddr 27 (Operand.tmp 1) 5), some (81, true)⟩,
                ⟨some 83, (Op.load 3 (Operand.tmp 82)), some (81, true)⟩,
                ⟨some 84, (Op.binOp BinOp.geq 3 (Operand.tmp 83) (Operand.const (Value.int IntKind.i64 0)) 3), some (81, true)⟩,
                ⟨some 85, (Op.pick (Operand.tmp 81) (Operand.tmp 84) (Operand.const (Value.bool false))), none⟩,
                ⟨some 86, (Op.move (Operand.tmp 85)), none⟩,
                ⟨some 87, (Op.fieldAddr 27 (Operand.tmp 1) 5), some (86, true)⟩,
                ⟨some 88, (Op.load 3 (Operand.tmp 87)), some (86, true)⟩,
                ⟨some 89, (Op.binOp BinOp.lss 3 (Operand.tmp 88) (Operand.const (Value.int IntKind.i64 536870912)) 3), some (86, true)⟩,
                ⟨some 90, (Op.pick (Operand.tmp 86) (Operand.tmp 89) (Operand.const (Value.bool false))), none⟩,
                ⟨some 91, (Op.move (Operand.tmp 90)), none⟩,
                ⟨some 92, (Op.load 27 (Operand.tmp 1)), some (91, true)⟩,
                ⟨some 93, (Op.fieldAddr 27 (Operand.tmp 1) 1), some (91, true)⟩,
                ⟨some 94, (Op.load 3 (Operand.tmp 93)), some (91, true)⟩,
                ⟨some 95, (Op.fieldAddr 27 (Operand.tmp 1) 4), some (91, true)⟩,
                ⟨some 96, (Op.load 3 (Operand.tmp 95)), some (91, true)⟩,
                ⟨some 97, (Op.fieldAddr 27 (Operand.tmp 1) 5), some (91, true)⟩,
                ⟨some 98, (Op.load 3 (Operand.tmp 97)), some (91, true)⟩,
                ⟨some 99, (Op.build 27 #[(0, (Operand.const (Value.int IntKind.i64 2))), (1, (Operand.tmp 94)), (4, (Operand.tmp 96)), (5, (Operand.tmp 98))]), some (91, true)⟩,
                ⟨some 100, (Op.binOp BinOp.eql 27 (Operand.tmp 92) (Operand.tmp 99) 27), some (91, true)⟩,
                ⟨some 101, (Op.pick (Operand.tmp 91) (Operand.tmp 100) (Operand.const (Value.bool false))), none⟩,
                ⟨some 2, (Op.assign (Operand.tmp 101)), none⟩] false [2])
            (.ret))
            (.seq (.reg [⟨some 103, (Op.binOp BinOp.eql 3 (Operand.tmp 13) (Operand.const (Value.int IntKind.i64 3)) 3), none⟩,
                ⟨some 102, (Op.assign (Operand.tmp 103)), none⟩] false [1, 102, 108, 109, 110, 113, 114, 115, 118, 119, 120, 123, 124, 125, 126, 127, 128, 129, 130, 131])
            (.cond (Operand.tmp 102)
              (.seq (.reg [⟨some 104, (Op.fieldAddr 27 (Operand.tmp 1) 1), none⟩,
                  ⟨some 105, (Op.load 3 (Operand.tmp 104)), none⟩,
                  ⟨some 106, (Op.binOp BinOp.geq 3 (Operand.tmp 105) (Operand.const (Value.int IntKind.i64 0)) 3), none⟩,
                  ⟨some 107, (Op.move (Operand.tmp 106)), none⟩,
                  ⟨some 108, (Op.fieldAddr 27 (Operand.tmp 1) 1), some (107, true)⟩,
                  ⟨some 109, (Op.load 3 (Operand.tmp 108)), some (107, true)⟩,
                  ⟨some 110, (Op.binOp BinOp.lss 3 (Operand.tmp 109) (Operand.const (Value.int IntKind.i64 536870912)) 3), some (107, true)⟩,
                  ⟨some 111, (Op.pick (Operand.tmp 107) (Operand.tmp 110) (Operand.const (Value.bool false))), none⟩,
                  ⟨some 112, (Op.move (Operand.tmp 111)), none⟩,
                  ⟨some 113, (Op.fieldAddr 27 (Operand.tmp 1) 6), some (112, true)⟩,
                  ⟨some 114, (Op.load 3 (Operand.tmp 113)), some (112, true)⟩,
                  ⟨some 115, (Op.binOp BinOp.geq 3 (Operand.tmp 114) (Operand.const (Value.int IntKind.i64 0)) 3), some (112, true)⟩,
                  ⟨some 116, (Op.pick (Operand.tmp 112) (Operand.tmp 115) (Operand.const (Value.bool false))), none⟩,
                  ⟨some 117, (Op.move (Operand.tmp 116)), none⟩,
                  ⟨some 118, (Op.fieldAddr 27 (Operand.tmp 1) 6), some (117, true)⟩,
                  ⟨some 119, (Op.load 3 (Operand.tmp 118)), some (117, true)⟩,
                  ⟨some 120, (Op.binOp BinOp.lss 3 (Operand.tmp 119) (Operand.const (Value.int IntKind.i64 4294967296)) 3), some (117, true)⟩,
                  ⟨some 121, (Op.pick (Operand.tmp 117) (Operand.tmp 120) (Operand.const (Value.bool false))), none⟩,
                  ⟨some 122, (Op.move (Operand.tmp 121)), none⟩,
                  ⟨some 123, (Op.load 27 (Operand.tmp 1)), some (122, true)⟩,
                  ⟨some 124, (Op.fieldAddr 27 (Operand.tmp 1) 1), some (122, true)⟩,
                  ⟨some 125, (Op.load 3 (Operand.tmp 124)), some (122, true)⟩,
                  ⟨some 126, (Op.fieldAddr 27 (Operand.tmp 1) 6), some (122, true)⟩,
                  ⟨some 127, (Op.load 3 (Operand.tmp 126)), some (122, true)⟩,
                  ⟨some 128, (Op.fieldAddr 27 (Operand.tmp 1) 7), some (122, true)⟩,
                  ⟨some 129, (Op.load 4 (Operand.tmp 128)), some (122, true)⟩,
                  ⟨some 130, (Op.build 27 #[(0, (Operand.const (Value.int IntKind.i64 3))), (1, (Operand.tmp 125)), (6, (Operand.tmp 127)), (7, (Operand.tmp 129))]), some (122, true)⟩,
                  ⟨some 131, (Op.binOp BinOp.eql 27 (Operand.tmp 123) (Operand.tmp 130) 27), some (122, true)⟩,
                  ⟨some 132, (Op.pick (Operand.tmp 122) (Operand.tmp 131) (Operand.const (Value.bool false))), none⟩,
                  ⟨some 2, (Op.assign (Operand.tmp 132)), none⟩] false [2])
              (.ret))
              (.skip)))))))))))
  (.keep [] (.seq (.reg [⟨some 2, (Op.assign (Operand.const (Value.bool false))), none⟩] false [2])
  (.ret)))))
theorem is_centoref04_Right : toCC 133 (Try.f17.body.getD .ret) [[1, 8, 9, 10, 23, 24, 25, 28, 29, 30, 33, 34, 35, 38, 39, 40, 43, 44, 45, 46, 47, 48, 49, 50, 51, 54, 55, 56, 57, 58, 59, 60, 61, 62, 63, 64, 65, 66, 72, 73, 74, 77, 78, 79, 82, 83, 84, 87, 88, 89, 92, 93, 94, 95, 96, 97, 98, 99, 100, 108, 109, 110, 113, 114, 115, 118, 119, 120, 123, 124, 125, 126, 127, 128, 129, 130, 131], [], [1, 3, 23, 24, 25, 28, 29, 30, 33, 34, 35, 38, 39, 40, 43, 44, 45, 46, 47, 48, 49, 50, 51, 54, 55, 56, 57, 58, 59, 60, 61, 62, 63, 64, 65, 66, 72, 73, 74, 77, 78, 79, 82, 83, 84, 87, 88, 89, 92, 93, 94, 95, 96, 97, 98, 99, 100, 108, 109, 110, 113, 114, 115, 118, 119, 120, 123, 124, 125, 126, 127, 128, 129, 130, 131], [], [1, 3, 13, 23, 24, 25, 28, 29, 30, 33, 34, 35, 38, 39, 40, 43, 44, 45, 46, 47, 48, 49, 50, 51, 54, 55, 56, 57, 58, 59, 60, 61, 62, 63, 64, 65, 66, 72, 73, 74, 77, 78, 79, 82, 83, 84, 87, 88, 89, 92, 93, 94, 95, 96, 97, 98, 99, 100, 108, 109, 110, 113, 114, 115, 118, 119, 120, 123, 124, 125, 126, 127, 128, 129, 130, 131], [], [1, 3, 13, 14, 23, 24, 25, 28, 29, 30, 33, 34, 35, 38, 39, 40, 43, 44, 45, 46, 47, 48, 49, 50, 51, 54, 55, 56, 57, 58, 59, 60, 61, 62, 63, 64, 65, 66, 72, 73, 74, 77, 78, 79, 82, 83, 84, 87, 88, 89, 92, 93, 94, 95, 96, 97, 98, 99, 100, 108, 109, 110, 113, 114, 115, 118, 119, 120, 123, 124, 125, 126, 127, 128, 129, 130, 131], [], [2], [], [1, 3, 13, 19, 23, 24, 25, 28, 29, 30, 33, 34, 35, 38, 39, 40, 43, 44, 45, 46, 47, 48, 49, 50, 51, 54, 55, 56, 57, 58, 59, 60, 61, 62, 63, 64, 65, 66, 72, 73, 74, 77, 78, 79, 82, 83, 84, 87, 88, 89, 92, 93, 94, 95, 96, 97, 98, 99, 100, 108, 109, 110, 113, 114, 115, 118, 119, 120, 123, 124, 125, 126, 127, 128, 129, 130, 131], [], [2], [], [1, 3, 13, 68, 72, 73, 74, 77, 78, 79, 82, 83, 84, 87, 88, 89, 92, 93, 94, 95, 96, 97, 98, 99, 100, 108, 109, 110, 113, 114, 115, 118, 119, 120, 123, 124, 125, 126, 127, 128, 129, 130, 131], [], [2], [], [1, 102, 108, 109, 110, 113, 114, 115, 118, 119, 120, 123, 124, 125, 126, 127, 128, 129, 130, 131], [], [2], [], [999999], [2], []] = some (c_centoref04_Right, []) := by kernel_rfl
theorem body_centoref04_Right : Try.f17.body = some (Try.f17.body.getD .ret) := by kernel_rfl
theorem ok_centoref04_Right : okFn Try.prog 17 = true := by kernel_rfl
theorem res_centoref04_Right : Try.f17.results.toList = [(ResultVar.tmp 2)] := by kernel_rfl
theorem spec_centoref04_Right {args : List A} {r : A} (ha : args.length ≤ 133) (h : ∀ w0 I0, WPC (cx Try.prog w0 I0 133) c_centoref04_Right (RetC Try.prog [(ResultVar.tmp 2)] r) ⟨argS args, []⟩) : Ab.Spec Try.prog 17 args r :=
  spec_of mixed ok_centoref04_Right Try.func17 body_centoref04_Right Try.ntmps17 ha res_centoref04_Right is_centoref04_Right h

def l1_centoref04_field : CC :=
  .seq (.seq (.reg [⟨some 11, (Op.move (Operand.tmp 7)), none⟩,
        ⟨some 12, (Op.move (Operand.tmp 1)), none⟩,
        ⟨some 13, (Op.binOp BinOp.lss 3 (Operand.tmp 11) (Operand.tmp 12) 3), none⟩] false [0, 1, 2, 7, 13])
    (.cond (Operand.tmp 13)
      (.skip)
      (.exit 0)))
  (.keep [0, 1, 2, 7] (.seq (.block 1
      (.reg [⟨some 16, (Op.move (Operand.tmp 0)), none⟩,
        ⟨some 17, (Op.binOp BinOp.quo 22 (Operand.tmp 16) (Operand.const (Value.int IntKind.u64 2)) 22), none⟩,
        ⟨some 0, (Op.assign (Operand.tmp 17)), none⟩] false [0, 1, 2, 7]))
  (.reg [⟨some 14, (Op.move (Operand.tmp 7)), none⟩,
    ⟨some 15, (Op.binOp BinOp.add 3 (Operand.tmp 14) (Operand.const (Value.int IntKind.i64 1)) 3), none⟩,
    ⟨some 7, (Op.assign (Operand.tmp 15)), none⟩] false [0, 1, 2, 7])))
def l2_centoref04_field : CC :=
  .seq (.seq (.reg [⟨some 18, (Op.move (Operand.tmp 10)), none⟩,
        ⟨some 19, (Op.move (Operand.tmp 2)), none⟩,
        ⟨some 20, (Op.binOp BinOp.lss 3 (Operand.tmp 18) (Operand.tmp 19) 3), none⟩] false [0, 2, 8, 9, 10, 20])
    (.cond (Operand.tmp 20)
      (.skip)
      (.exit 2)))
  (.keep [0, 2, 8, 9, 10] (.seq (.block 3
      (.seq (.seq (.reg [⟨some 23, (Op.move (Operand.tmp 0)), none⟩,
            ⟨some 24, (Op.binOp BinOp.rem 22 (Operand.tmp 23) (Operand.const (Value.int IntKind.u64 2)) 22), none⟩,
            ⟨some 25, (Op.binOp BinOp.eql 22 (Operand.tmp 24) (Operand.const (Value.int IntKind.u64 1)) 22), none⟩] false [0, 2, 8, 9, 10, 25])
        (.cond (Operand.tmp 25)
          (.reg [⟨some 26, (Op.move (Operand.tmp 8)), none⟩,
            ⟨some 27, (Op.move (Operand.tmp 9)), none⟩,
            ⟨some 28, (Op.binOp BinOp.add 3 (Operand.tmp 26) (Operand.tmp 27) 3), none⟩,
            ⟨some 8, (Op.assign (Operand.tmp 28)), none⟩] false [0, 2, 8, 9, 10])
          (.skip)))
      (.keep [0, 2, 8, 9, 10] (.seq (.reg [⟨some 29, (Op.move (Operand.tmp 0)), none⟩,
          ⟨some 30, (Op.binOp BinOp.quo 22 (Operand.tmp 29) (Operand.const (Value.int IntKind.u64 2)) 22), none⟩,
          ⟨some 0, (Op.assign (Operand.tmp 30)), none⟩] false [0, 2, 8, 9, 10])
      (.reg [⟨some 31, (Op.move (Operand.tmp 9)), none⟩,
        ⟨some 32, (Op.binOp BinOp.mul 3 (Operand.const (Value.int IntKind.i64 2)) (Operand.tmp 31) 3), none⟩,
        ⟨some 9, (Op.assign (Operand.tmp 32)), none⟩] false [0, 2, 8, 9, 10])))))
  (.keep [0, 2, 8, 9, 10] (.reg [⟨some 21, (Op.move (Operand.tmp 10)), none⟩,
    ⟨some 22, (Op.binOp BinOp.add 3 (Operand.tmp 21) (Operand.const (Value.int IntKind.i64 1)) 3), none⟩,
    ⟨some 10, (Op.assign (Operand.tmp 22)), none⟩] false [0, 2, 8, 9, 10]))))

/-- cento/centoref04.field -/
def c_centoref04_field : CC :=
  .seq (.reg [⟨some 6, (Op.assign (Operand.const (Value.int IntKind.i64 0))), none⟩] false [0, 1, 2])
  (.seq (.seq (.reg [⟨some 7, (Op.assign (Operand.const (Value.int IntKind.i64 0))), none⟩] false [0, 1, 2, 7])
    (.block 0
      (.loop l1_centoref04_field)))
  (.keep [0, 2] (.seq (.reg [⟨some 8, (Op.assign (Operand.const (Value.int IntKind.i64 0))), none⟩,
      ⟨some 9, (Op.assign (Operand.const (Value.int IntKind.i64 1))), none⟩] false [0, 2, 8, 9])
  (.seq (.seq (.reg [⟨some 10, (Op.assign (Operand.const (Value.int IntKind.i64 0))), none⟩] false [0, 2, 8, 9, 10])
    (.block 2
      (.loop l2_centoref04_field)))
  (.keep [8] (.seq (.reg [⟨some 33, (Op.move (Operand.tmp 8)), none⟩,
      ⟨some 6, (Op.assign (Operand.tmp 33)), none⟩] false [6])
  (.ret)))))))
theorem is_centoref04_field : toCC 34 (Try.f41.body.getD .ret) [[0, 1, 2], [], [0, 1, 2, 7], [], [0, 1, 2, 7, 13], [], [999999, 0, 1, 2, 7], [0, 1, 2, 7], [], [0, 1, 2, 7], [999999, 0, 2], [0, 2, 8, 9], [], [0, 2, 8, 9, 10], [], [0, 2, 8, 9, 10, 20], [], [999999, 0, 2, 8, 9, 10], [0, 2, 8, 9, 10, 25], [], [0, 2, 8, 9, 10], [999999, 0, 2, 8, 9, 10], [0, 2, 8, 9, 10], [], [0, 2, 8, 9, 10], [999999, 0, 2, 8, 9, 10], [0, 2, 8, 9, 10], [999999, 8], [6], []] = some (c_centoref04_field, []) := by kernel_rfl
theorem body_centoref04_field : Try.f41.body = some (Try.f41.body.getD .ret) := by kernel_rfl
theorem ok_centoref04_field : okFn Try.prog 41 = true := by kernel_rfl
theorem res_centoref04_field : Try.f41.results.toList = [(ResultVar.tmp 6)] := by kernel_rfl
theorem spec_centoref04_field {args : List A} {r : A} (ha : args.length ≤ 34) (h : ∀ w0 I0, WPC (cx Try.prog w0 I0 34) c_centoref04_field (RetC Try.prog [(ResultVar.tmp 6)] r) ⟨argS args, []⟩) : Ab.Spec Try.prog 41 args r :=
  spec_of mixed ok_centoref04_field Try.func41 body_centoref04_field Try.ntmps41 ha res_centoref04_field is_centoref04_field h

def k1_centoref04_Decode : CC :=
  .seq (.seq (.reg [⟨some 13, (Op.move (Operand.tmp 0)), none⟩,
        ⟨some 14, (Op.call { callee := (Callee.value (Operand.func 41)), args := #[(Operand.tmp 13), (Operand.const (Value.int IntKind.i64 0)), (Operand.const (Value.int IntKind.i64 2))], argTypes := #[22, 3, 3] }), none⟩] false [0, 2, 3, 14])
    (.block 0
      (.seq (.reg [⟨some 16, (Op.binOp BinOp.eql 3 (Operand.tmp 14) (Operand.const (Value.int IntKind.i64 0)) 3), none⟩,
          ⟨some 15, (Op.assign (Operand.tmp 16)), none⟩] false [0, 2, 3, 14, 15])
      (.cond (Operand.tmp 15)
        (.seq (.reg [⟨some 17, (Op.move (Operand.tmp 3)), none⟩,
            ⟨some 18, (Op.move (Operand.tmp 0)), none⟩,
            ⟨some 19, (Op.call { callee := (Callee.value (Operand.func 41)), args := #[(Operand.tmp 18), (Operand.const (Value.int IntKind.i64 32)), (Operand.const (Value.int IntKind.i64 16))], argTypes := #[22, 3, 3] }), none⟩,
            ⟨some 20, (Op.move (Operand.tmp 0)), none⟩,
            ⟨some 21, (Op.call { callee := (Callee.value (Operand.func 41)), args := #[(Operand.tmp 20), (Operand.const (Value.int IntKind.i64 48)), (Operand.const (Value.int IntKind.i64 16))], argTypes := #[22, 3, 3] }), none⟩,
            ⟨some 22, (Op.build 27 #[(0, (Operand.const (Value.int IntKind.i64 1))), (1, (Operand.tmp 17)), (2, (Operand.tmp 19)), (3, (Operand.tmp 21))]), none⟩,
            ⟨none, (Op.store 27 (Operand.tmp 2) (Operand.tmp 22)), none⟩] false [2])
        (.ret))
        (.seq (.reg [⟨some 24, (Op.binOp BinOp.eql 3 (Operand.tmp 14) (Operand.const (Value.int IntKind.i64 1)) 3), none⟩,
            ⟨some 23, (Op.assign (Operand.tmp 24)), none⟩] false [0, 2, 3, 14, 23])
        (.cond (Operand.tmp 23)
          (.seq (.reg [⟨some 25, (Op.move (Operand.tmp 3)), none⟩,
              ⟨some 26, (Op.move (Operand.tmp 0)), none⟩,
              ⟨some 27, (Op.call { callee := (Callee.value (Operand.func 41)), args := #[(Operand.tmp 26), (Operand.const (Value.int IntKind.i64 32)), (Operand.const (Value.int IntKind.i64 3))], argTypes := #[22, 3, 3] }), none⟩,
              ⟨some 28, (Op.move (Operand.tmp 0)), none⟩,
              ⟨some 29, (Op.call { callee := (Callee.value (Operand.func 41)), args := #[(Operand.tmp 28), (Operand.const (Value.int IntKind.i64 35)), (Operand.const (Value.int IntKind.i64 29))], argTypes := #[22, 3, 3] }), none⟩,
              ⟨some 30, (Op.build 27 #[(0, (Operand.const (Value.int IntKind.i64 2))), (1, (Operand.tmp 25)), (4, (Operand.tmp 27)), (5, (Operand.tmp 29))]), none⟩,
              ⟨none, (Op.store 27 (Operand.tmp 2) (Operand.tmp 30)), none⟩] false [2])
          (.ret))
          (.seq (.reg [⟨some 32, (Op.binOp BinOp.eql 3 (Operand.tmp 14) (Operand.const (Value.int IntKind.i64 2)) 3), none⟩,
              ⟨some 31, (Op.assign (Operand.tmp 32)), none⟩] false [0, 2, 31])
          (.cond (Operand.tmp 31)
            (.seq (.reg [⟨some 33, (Op.move (Operand.tmp 0)), none⟩,
                ⟨some 34, (Op.call { callee := (Callee.value (Operand.func 41)), args := #[(Operand.tmp 33), (Operand.const (Value.int IntKind.i64 3)), (Operand.const (Value.int IntKind.i64 29))], argTypes := #[22, 3, 3] }), none⟩,
                ⟨some 35, (Op.move (Operand.tmp 0)), none⟩,
                ⟨some 36, (Op.call { callee := (Callee.value (Operand.func 41)), args := #[(Operand.tmp 35), (Operand.const (Value.int IntKind.i64 32)), (Operand.const (Value.int IntKind.i64 32))], argTypes := #[22, 3, 3] }), none⟩,
                ⟨some 37, (Op.move (Operand.tmp 0)), none⟩,
                ⟨some 38, (Op.call { callee := (Callee.value (Operand.func 41)), args := #[(Operand.tmp 37), (Operand.const (Value.int IntKind.i64 2)), (Operand.const (Value.int IntKind.i64 1))], argTypes := #[22, 3, 3] }), none⟩,
                ⟨some 39, (Op.binOp BinOp.eql 3 (Operand.tmp 38) (Operand.const (Value.int IntKind.i64 1)) 3), none⟩,
                ⟨some 40, (Op.build 27 #[(0, (Operand.const (Value.int IntKind.i64 3))), (1, (Operand.tmp 34)), (6, (Operand.tmp 36)), (7, (Operand.tmp 39))]), none⟩,
                ⟨none, (Op.store 27 (Operand.tmp 2) (Operand.tmp 40)), none⟩] false [2])
            (.ret))
            (.skip)))))))))
  (.keep [2] (.seq (.reg [⟨some 41, (Op.build 27 #[(0, (Operand.const (Value.int IntKind.i64 4)))]), none⟩,
      ⟨none, (Op.store 27 (Operand.tmp 2) (Operand.tmp 41)), none⟩] false [2])
  (.ret)))

/-- cento/centoref04.Decode -/
def c_centoref04_Decode : CC :=
  .seq (.reg [⟨some 2, (Op.alloc 27), none⟩] false [0, 2])
  (.seq (.seq (.reg [⟨some 4, (Op.move (Operand.tmp 0)), none⟩,
        ⟨some 5, (Op.binOp BinOp.eql 22 (Operand.tmp 4) (Operand.const (Value.int IntKind.u64 0)) 22), none⟩] false [0, 2, 5])
    (.cond (Operand.tmp 5)
      (.seq (.reg [⟨some 6, (Op.build 27 #[]), none⟩,
          ⟨none, (Op.store 27 (Operand.tmp 2) (Operand.tmp 6)), none⟩] false [2])
      (.ret))
      (.skip)))
  (.keep [0, 2] (.seq (.reg [⟨some 7, (Op.move (Operand.tmp 0)), none⟩,
      ⟨some 8, (Op.call { callee := (Callee.value (Operand.func 41)), args := #[(Operand.tmp 7), (Operand.const (Value.int IntKind.i64 2)), (Operand.const (Value.int IntKind.i64 30))], argTypes := #[22, 3, 3] }), none⟩,
      ⟨some 3, (Op.assign (Operand.tmp 8)), none⟩] false [0, 2, 3])
  (.seq (.seq (.reg [⟨some 9, (Op.move (Operand.tmp 3)), none⟩,
        ⟨some 10, (Op.binOp BinOp.geq 3 (Operand.tmp 9) (Operand.const (Value.int IntKind.i64 536870912)) 3), none⟩] false [0, 2, 3, 10])
    (.cond (Operand.tmp 10)
      (.reg [⟨some 11, (Op.move (Operand.tmp 3)), none⟩,
        ⟨some 12, (Op.binOp BinOp.sub 3 (Operand.tmp 11) (Operand.const (Value.int IntKind.i64 1073741824)) 3), none⟩,
        ⟨some 3, (Op.assign (Operand.tmp 12)), none⟩] false [0, 2, 3])
      (.skip)))
  (.keep [0, 2, 3] k1_centoref04_Decode)))))
theorem is_centoref04_Decode : toCC 42 (Try.f14.body.getD .ret) [[0, 2], [], [0, 2, 5], [], [2], [], [999999, 0, 2], [0, 2, 3], [], [0, 2, 3, 10], [], [0, 2, 3], [999999, 0, 2, 3], [0, 2, 3, 14], [], [0, 2, 3, 14, 15], [], [2], [], [0, 2, 3, 14, 23], [], [2], [], [0, 2, 31], [], [2], [], [999999, 2], [2], []] = some (c_centoref04_Decode, []) := by kernel_rfl
theorem body_centoref04_Decode : Try.f14.body = some (Try.f14.body.getD .ret) := by kernel_rfl
theorem ok_centoref04_Decode : okFn Try.prog 14 = true := by kernel_rfl
theorem res_centoref04_Decode : Try.f14.results.toList = [(ResultVar.cell 2 27)] := by kernel_rfl
theorem spec_centoref04_Decode {args : List A} {r : A} (ha : args.length ≤ 42) (h : ∀ w0 I0, WPC (cx Try.prog w0 I0 42) c_centoref04_Decode (RetC Try.prog [(ResultVar.cell 2 27)] r) ⟨argS args, []⟩) : Ab.Spec Try.prog 14 args r :=
  spec_of mixed ok_centoref04_Decode Try.func14 body_centoref04_Decode Try.ntmps14 ha res_centoref04_Decode is_centoref04_Decode h


/-- cento/centolaw04.PtrDecodes -/
def c_centolaw04_PtrDecodes : CC :=
  .seq (.reg [⟨some 2, (Op.assign (Operand.const (Value.bool false))), none⟩] false [0, 24, 28, 29, 30, 33])
  (.seq (.reg [⟨some 6, (Op.move (Operand.tmp 0)), none⟩,
      ⟨some 7, (Op.call { callee := (Callee.value (Operand.func 12)), args := #[(Operand.tmp 6)], argTypes := #[22] }), none⟩,
      ⟨some 3, (Op.alloc 24), none⟩,
      ⟨none, (Op.store 24 (Operand.tmp 3) (Operand.tmp 7)), none⟩] false [0, 3, 24, 28, 29, 30, 33])
  (.seq (.seq (.reg [⟨some 8, (Op.load 24 (Operand.tmp 3)), none⟩,
        ⟨some 9, (Op.move (Operand.tmp 0)), none⟩,
        ⟨some 10, (Op.call { callee := (Callee.value (Operand.func 14)), args := #[(Operand.tmp 9)], argTypes := #[22] }), none⟩,
        ⟨some 11, (Op.call { callee := (Callee.value (Operand.func 13)), args := #[(Operand.tmp 10)], argTypes := #[27] }), none⟩,
        ⟨some 12, (Op.binOp BinOp.neq 24 (Operand.tmp 8) (Operand.tmp 11) 24), none⟩] true [0, 3, 12, 24, 28, 29, 30, 33])
    (.cond (Operand.tmp 12)
      (.seq (.reg [⟨some 2, (Op.assign (Operand.const (Value.bool false))), none⟩] false [2])
      (.ret))
      (.skip)))
  (.keep [0, 3, 24, 28, 29, 30, 33] (.seq (.reg [⟨some 14, (Op.load 24 (Operand.tmp 3)), none⟩,
      ⟨some 15, (Op.call { callee := (Callee.value (Operand.func 15)), args := #[(Operand.tmp 14)], argTypes := #[24] }), none⟩,
      ⟨some 13, (Op.move (Operand.tmp 15)), none⟩,
      ⟨some 16, (Op.extract (Operand.tmp 13) 0), none⟩,
      ⟨some 17, (Op.extract (Operand.tmp 13) 1), none⟩,
      ⟨some 4, (Op.assign (Operand.tmp 16)), none⟩,
      ⟨some 5, (Op.assign (Operand.tmp 17)), none⟩] false [0, 3, 4, 5, 24, 28, 29, 30, 33])
  (.seq (.seq (.reg [⟨some 18, (Op.fieldAddr 24 (Operand.tmp 3) 0), none⟩,
        ⟨some 19, (Op.load 3 (Operand.tmp 18)), none⟩,
        ⟨some 20, (Op.binOp BinOp.eql 3 (Operand.tmp 19) (Operand.const (Value.int IntKind.i64 4)) 3), none⟩] false [0, 4, 5, 20, 24, 28, 29, 30, 33])
    (.cond (Operand.tmp 20)
      (.seq (.reg [⟨some 21, (Op.move (Operand.tmp 5)), none⟩,
          ⟨some 22, (Op.unOp UnOp.not 4 (Operand.tmp 21)), none⟩,
          ⟨some 23, (Op.move (Operand.tmp 22)), none⟩,
          ⟨some 24, (Op.call { callee := (Callee.value (Operand.func 16)), args := #[], argTypes := #[] }), some (23, true)⟩,
          ⟨some 25, (Op.pick (Operand.tmp 23) (Operand.tmp 24) (Operand.const (Value.bool false))), none⟩,
          ⟨some 2, (Op.assign (Operand.tmp 25)), none⟩] false [2])
      (.ret))
      (.skip)))
  (.keep [0, 4, 5, 28, 29, 30, 33] (.seq (.reg [⟨some 26, (Op.move (Operand.tmp 5)), none⟩,
      ⟨some 27, (Op.move (Operand.tmp 26)), none⟩,
      ⟨some 28, (Op.move (Operand.tmp 4)), some (27, true)⟩,
      ⟨some 29, (Op.move (Operand.tmp 0)), some (27, true)⟩,
      ⟨some 30, (Op.binOp BinOp.eql 22 (Operand.tmp 28) (Operand.tmp 29) 22), some (27, true)⟩,
      ⟨some 31, (Op.pick (Operand.tmp 27) (Operand.tmp 30) (Operand.const (Value.bool false))), none⟩,
      ⟨some 32, (Op.move (Operand.tmp 31)), none⟩,
      ⟨some 33, (Op.call { callee := (Callee.value (Operand.func 16)), args := #[], argTypes := #[] }), some (32, true)⟩,
      ⟨some 34, (Op.pick (Operand.tmp 32) (Operand.tmp 33) (Operand.const (Value.bool false))), none⟩,
      ⟨some 2, (Op.assign (Operand.tmp 34)), none⟩] false [2])
  (.ret))))))))
theorem is_centolaw04_PtrDecodes : toCC 35 (Try.f3.body.getD .ret) [[0, 24, 28, 29, 30, 33], [], [0, 3, 24, 28, 29, 30, 33], [], [0, 3, 12, 24, 28, 29, 30, 33], [], [2], [], [999999, 0, 3, 24, 28, 29, 30, 33], [0, 3, 4, 5, 24, 28, 29, 30, 33], [], [0, 4, 5, 20, 24, 28, 29, 30, 33], [], [2], [], [999999, 0, 4, 5, 28, 29, 30, 33], [2], []] = some (c_centolaw04_PtrDecodes, []) := by kernel_rfl
theorem body_centolaw04_PtrDecodes : Try.f3.body = some (Try.f3.body.getD .ret) := by kernel_rfl
theorem ok_centolaw04_PtrDecodes : okFn Try.prog 3 = true := by kernel_rfl
theorem res_centolaw04_PtrDecodes : Try.f3.results.toList = [(ResultVar.tmp 2)] := by kernel_rfl
theorem spec_centolaw04_PtrDecodes {args : List A} {r : A} (ha : args.length ≤ 35) (h : ∀ w0 I0, WPC (cx Try.prog w0 I0 35) c_centolaw04_PtrDecodes (RetC Try.prog [(ResultVar.tmp 2)] r) ⟨argS args, []⟩) : Ab.Spec Try.prog 3 args r :=
  spec_of mixed ok_centolaw04_PtrDecodes Try.func3 body_centolaw04_PtrDecodes Try.ntmps3 ha res_centolaw04_PtrDecodes is_centolaw04_PtrDecodes h


/-- cento/centolaw04.PtrEncodes -/
def c_centolaw04_PtrEncodes : CC :=
  .seq (.reg [⟨some 1, (Op.box 27 (Operand.tmp 0)), none⟩,
      ⟨some 2, (Op.assign (Operand.const (Value.bool false))), none⟩] false [1, 18, 19, 20, 21, 22, 23, 24, 25, 26, 27, 28, 31])
  (.seq (.reg [⟨some 6, (Op.load 27 (Operand.tmp 1)), none⟩,
      ⟨some 7, (Op.call { callee := (Callee.value (Operand.func 13)), args := #[(Operand.tmp 6)], argTypes := #[27] }), none⟩,
      ⟨some 8, (Op.call { callee := (Callee.value (Operand.func 15)), args := #[(Operand.tmp 7)], argTypes := #[24] }), none⟩,
      ⟨some 5, (Op.move (Operand.tmp 8)), none⟩,
      ⟨some 9, (Op.extract (Operand.tmp 5) 0), none⟩,
      ⟨some 10, (Op.extract (Operand.tmp 5) 1), none⟩,
      ⟨some 3, (Op.assign (Operand.tmp 9)), none⟩,
      ⟨some 4, (Op.assign (Operand.tmp 10)), none⟩] false [1, 3, 4, 18, 19, 20, 21, 22, 23, 24, 25, 26, 27, 28, 31])
  (.seq (.seq (.reg [⟨some 11, (Op.move (Operand.tmp 4)), none⟩,
        ⟨some 12, (Op.load 27 (Operand.tmp 1)), none⟩,
        ⟨some 13, (Op.call { callee := (Callee.value (Operand.func 17)), args := #[(Operand.tmp 12)], argTypes := #[27] }), none⟩,
        ⟨some 14, (Op.binOp BinOp.neq 4 (Operand.tmp 11) (Operand.tmp 13) 4), none⟩] false [1, 3, 4, 14, 18, 19, 20, 21, 22, 23, 24, 25, 26, 27, 28, 31])
    (.cond (Operand.tmp 14)
      (.seq (.reg [⟨some 2, (Op.assign (Operand.const (Value.bool false))), none⟩] false [2])
      (.ret))
      (.skip)))
  (.keep [1, 3, 4, 18, 19, 20, 21, 22, 23, 24, 25, 26, 27, 28, 31] (.seq (.reg [⟨some 15, (Op.move (Operand.tmp 4)), none⟩,
      ⟨some 16, (Op.unOp UnOp.not 4 (Operand.tmp 15)), none⟩,
      ⟨some 17, (Op.move (Operand.tmp 16)), none⟩,
      ⟨some 18, (Op.move (Operand.tmp 3)), some (17, false)⟩,
      ⟨some 19, (Op.call { callee := (Callee.value (Operand.func 12)), args := #[(Operand.tmp 18)], argTypes := #[22] }), some (17, false)⟩,
      ⟨some 20, (Op.load 27 (Operand.tmp 1)), some (17, false)⟩,
      ⟨some 21, (Op.call { callee := (Callee.value (Operand.func 13)), args := #[(Operand.tmp 20)], argTypes := #[27] }), some (17, false)⟩,
      ⟨some 22, (Op.binOp BinOp.eql 24 (Operand.tmp 19) (Operand.tmp 21) 24), some (17, false)⟩,
      ⟨some 23, (Op.move (Operand.tmp 22)), some (17, false)⟩,
      ⟨some 24, (Op.move (Operand.tmp 3)), some (23, true)⟩,
      ⟨some 25, (Op.call { callee := (Callee.value (Operand.func 14)), args := #[(Operand.tmp 24)], argTypes := #[22] }), some (23, true)⟩,
      ⟨some 26, (Op.load 27 (Operand.tmp 1)), some (23, true)⟩,
      ⟨some 27, (Op.binOp BinOp.eql 27 (Operand.tmp 25) (Operand.tmp 26) 27), some (23, true)⟩,
      ⟨some 28, (Op.pick (Operand.tmp 23) (Operand.tmp 27) (Operand.const (Value.bool false))), some (17, false)⟩,
      ⟨some 29, (Op.pick (Operand.tmp 17) (Operand.const (Value.bool true)) (Operand.tmp 28)), none⟩,
      ⟨some 30, (Op.move (Operand.tmp 29)), none⟩,
      ⟨some 31, (Op.call { callee := (Callee.value (Operand.func 16)), args := #[], argTypes := #[] }), some (30, true)⟩,
      ⟨some 32, (Op.pick (Operand.tmp 30) (Operand.tmp 31) (Operand.const (Value.bool false))), none⟩,
      ⟨some 2, (Op.assign (Operand.tmp 32)), none⟩] true [2])
  (.ret)))))
theorem is_centolaw04_PtrEncodes : toCC 33 (Try.f4.body.getD .ret) [[1, 18, 19, 20, 21, 22, 23, 24, 25, 26, 27, 28, 31], [], [1, 3, 4, 18, 19, 20, 21, 22, 23, 24, 25, 26, 27, 28, 31], [], [1, 3, 4, 14, 18, 19, 20, 21, 22, 23, 24, 25, 26, 27, 28, 31], [], [2], [], [999999, 1, 3, 4, 18, 19, 20, 21, 22, 23, 24, 25, 26, 27, 28, 31], [2], []] = some (c_centolaw04_PtrEncodes, []) := by kernel_rfl
theorem body_centolaw04_PtrEncodes : Try.f4.body = some (Try.f4.body.getD .ret) := by kernel_rfl
theorem ok_centolaw04_PtrEncodes : okFn Try.prog 4 = true := by kernel_rfl
theorem res_centolaw04_PtrEncodes : Try.f4.results.toList = [(ResultVar.tmp 2)] := by kernel_rfl
theorem spec_centolaw04_PtrEncodes {args : List A} {r : A} (ha : args.length ≤ 33) (h : ∀ w0 I0, WPC (cx Try.prog w0 I0 33) c_centolaw04_PtrEncodes (RetC Try.prog [(ResultVar.tmp 2)] r) ⟨argS args, []⟩) : Ab.Spec Try.prog 4 args r :=
  spec_of mixed ok_centolaw04_PtrEncodes Try.func4 body_centolaw04_PtrEncodes Try.ntmps4 ha res_centolaw04_PtrEncodes is_centolaw04_PtrEncodes h
end Go.Proofs.Ytfdlelcipnabpaa
