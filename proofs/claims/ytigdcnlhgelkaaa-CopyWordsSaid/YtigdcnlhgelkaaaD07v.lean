/-
  Trees and edits as the program's values.
-/
import Derived.Test.YtigdcnlhgelkaaaD04a
import Derived.Test.YtigdcnlhgelkaaaP20
import Derived.Test.YtigdcnlhgelkaaaGCall2
import Derived.Test.YtigdcnlhgelkaaaGLo
import Derived.Test.YtigdcnlhgelkaaaP15
namespace Go.Proofs.Ytigdcnlhgelkaaa
set_option linter.unusedVariables false
set_option linter.unusedSimpArgs false
open Go Go.G Go.Proofs Go.PL

/-- A call that is not made. -/
theorem sc_call_off {P : Program} {K : Sta → Prop} {rest : List CO} {s : Nat → A} {H : Hp} {dd : Option Nat} {k : Nat} {f : Bool} {nm : Nm} {ix : Nat} {un : List Nat} {l : Bool} {lg : Lg} {g : FuncId} {aa : Array Operand} {ts : Array TypeId}
    (hq : wantA (s k) f = some false) (h : SeqC P K rest (addL l ix ⟨[], []⟩ lg) (Sta.put ⟨s, H⟩ dd (.v undef) H)) :
    SeqC P K (⟨dd, .call { callee := .value (.func g), args := aa, argTypes := ts }, some (k, f), nm, ix, un, l⟩ :: rest) lg ⟨s, H⟩ :=
  sc_call_g (q := false) (x := .any) hq (fun e => by cases e) h
abbrev uws (l : List Int) : A := .sl false (l.map uv)
abbrev ivs (l : List Int) : A := .sl false (l.map iv)
abbrev u8 (n : Int) : A := .v (.int .u8 n)
mutual
def tC : T → List A
  | .mk k w l => [iv k, uws w, .sl false (tCs l)]
def tCs : List T → List A
  | [] => []
  | t :: l => .agg (tC t) :: tCs l
end
def tA (t : T) : A := .agg (tC t)
abbrev tKs (l : List T) : A := .sl false (l.map tA)
abbrev tX (t : T) : A := .agg [iv t.kind, uws t.words, tKs t.kids]
theorem tCs_map : ∀ l, tCs l = l.map tA
  | [] => by rw [tCs]; rfl
  | t :: l => by rw [tCs, tCs_map l]; rfl
theorem tC_eq (t : T) : tC t = [iv t.kind, uws t.words, tKs t.kids] := by cases t; rw [tC, tCs_map]; rfl
@[simp] theorem tA_eq (t : T) : tA t = tX t := by rw [tA, tC_eq]

def wA (w : WE) : A := .agg [iv w.at_, u8 w.mask, uv w.old, uv w.new]
abbrev wX (w : WE) : A := .agg [iv w.at_, u8 w.mask, uv w.old, uv w.new]
@[simp] theorem wA_eq (w : WE) : wA w = wX w := rfl
abbrev wKs (l : List WE) : A := .sl false (l.map wA)
mutual
def eC : E → List A
  | .mk k o n w ks l os => [iv k, iv o.kind, uws o.words, tKs o.kids, iv n.kind, uws n.words, tKs n.kids, wKs w, .sl false (eKs ks), iv l, .sl false (eOs os)]
def eKs : List KE → List A
  | [] => []
  | .mk a e :: l => .agg (iv a :: eC e) :: eKs l
def eOs : List OP → List A
  | [] => []
  | .mk k n t e :: l => .agg (iv k :: iv n :: tKs t :: eC e) :: eOs l
end
def kA (x : KE) : A := .agg (iv x.at_ :: eC x.e)
def oA (x : OP) : A := .agg (iv x.kind :: iv x.n :: tKs x.l :: eC x.e)
abbrev kKs (l : List KE) : A := .sl false (l.map kA)
abbrev oKs (l : List OP) : A := .sl false (l.map oA)
abbrev eL (e : E) : List A := [iv e.kind, iv e.old.kind, uws e.old.words, tKs e.old.kids, iv e.new.kind, uws e.new.words, tKs e.new.kids, wKs e.words, kKs e.kids, iv e.list, oKs e.ops]
abbrev eX (e : E) : A := .agg (eL e)
abbrev kX (x : KE) : A := .agg (iv x.at_ :: eL x.e)
abbrev oX (x : OP) : A := .agg (iv x.kind :: iv x.n :: tKs x.l :: eL x.e)
theorem eKs_map : ∀ l, eKs l = l.map kA
  | [] => by rw [eKs]; rfl
  | .mk a e :: l => by rw [eKs, eKs_map l]; rfl
theorem eOs_map : ∀ l, eOs l = l.map oA
  | [] => by rw [eOs]; rfl
  | .mk k n t e :: l => by rw [eOs, eOs_map l]; rfl
theorem eC_eq (e : E) : eC e = eL e := by cases e; rw [eC, eKs_map, eOs_map]; rfl
@[simp] theorem kA_eq (x : KE) : kA x = kX x := by rw [kA, eC_eq]
@[simp] theorem oA_eq (x : OP) : oA x = oX x := by rw [oA, eC_eq]

@[simp] theorem lens_uv (l : List Int) : lens 1 (l.map uv) = true := by simp [lens]
@[simp] theorem lens_iv (l : List Int) : lens 1 (l.map iv) = true := by simp [lens]
@[simp] theorem lens_tA (l : List T) : lens 3 (l.map tA) = true := by simp [lens]
@[simp] theorem lens_wA (l : List WE) : lens 4 (l.map wA) = true := by simp [lens]
@[simp] theorem lens_kA (l : List KE) : lens 12 (l.map kA) = true := by simp [lens]
@[simp] theorem lens_oA (l : List OP) : lens 14 (l.map oA) = true := by simp [lens]
theorem lens_all {n : Nat} {l : List A} : lens n l = true ↔ ∀ x, x ∈ l → x.cells.length = n := by simp [lens]
@[simp] theorem lens_take {n k : Nat} {l : List A} (h : lens n l = true) : lens n (l.take k) = true := by
  rw [lens_all] at h ⊢
  exact fun x hx => h x (List.mem_of_mem_take hx)
@[simp] theorem lens_drop {n k : Nat} {l : List A} (h : lens n l = true) : lens n (l.drop k) = true := by
  rw [lens_all] at h ⊢
  exact fun x hx => h x (List.mem_of_mem_drop hx)
/-- A row of the call's own, read. -/
theorem frz_row {α : Type} {H : Hp} {o : Nm} {u n sz : Nat} {l : List α} {f : α → A} (h : vr (H o) u = some (sz, l.map f)) (hn : n = l.length) (hf : ∀ x, ((f x).cells.length == sz && (f x).cells.all fun y => A.bare1 y && y.one) = true) : Frz H (.osl o u sz 0 n) (.sl false (l.map f)) := by
  subst hn
  have := frz_osl (H := H) (o := o) (u := u) (off := 0) (len := l.length) (sz := sz) (xs := l.map f) (by simpa using h) (by simp) (by
    simp only [List.drop_zero]
    rw [List.take_of_length_le (by simp), List.all_map, List.all_eq_true]
    exact fun x _ => hf x)
  simp [List.take_of_length_le] at this
  exact this
theorem frz_rowT {α : Type} {H : Hp} {o : Nm} {u n sz : Nat} {l : List α} {f : α → A} (h : vr (H o) u = some (sz, l.map f)) (hn : n ≤ l.length) (hf : ∀ x, ((f x).cells.length == sz && (f x).cells.all fun y => A.bare1 y && y.one) = true) : Frz H (.osl o u sz 0 n) (.sl false ((l.take n).map f)) := by
  have := frz_osl (H := H) (o := o) (u := u) (off := 0) (len := n) (sz := sz) (xs := l.map f) (by simpa using h) (by simpa using hn) (by
    simp only [List.drop_zero]
    rw [← List.map_take, List.all_map, List.all_eq_true]
    exact fun x _ => hf x)
  simpa using this
theorem row_succ {α : Type} {f : α → A} {l : List α} {i : Nat} (h : i < l.length) {x : A} (hx : f l[i] = x) : List.take i (List.take i (l.map f)) ++ [x] = (l.take (i + 1)).map f := by
  rw [List.take_take, Nat.min_self, List.take_succ_eq_append_getElem h, List.map_append, List.map_take, ← hx]; rfl
theorem frz_T0 {H : Hp} : Frz H (.agg [iv 0, .sl true [], .sl true []]) (tX T0) := frz_agg (by simp; exact ⟨frz_bare rfl, frz_sl, frz_sl⟩)

/-! ### sums, whatever is turned round -/
abbrev i64w (n : Int) : Int := IntKind.i64.wrap n
theorem i64_congr {a b : Int} (h : a % 18446744073709551616 = b % 18446744073709551616) : i64w a = i64w b := by
  unfold i64w; rw [IntKind.wrap_i64, IntKind.wrap_i64]; omega
theorem i64_mod (a : Int) : i64w a % 18446744073709551616 = a % 18446744073709551616 := by
  unfold i64w; rw [IntKind.wrap_i64]; omega
theorem i64_add_l (a b : Int) : IntKind.i64.wrap (IntKind.i64.wrap a + b) = IntKind.i64.wrap (a + b) := i64_congr (by have := i64_mod a; unfold i64w at this; omega)
theorem i64_add_r (a b : Int) : IntKind.i64.wrap (a + IntKind.i64.wrap b) = IntKind.i64.wrap (a + b) := i64_congr (by have := i64_mod b; unfold i64w at this; omega)
theorem i64_sub_l (a b : Int) : IntKind.i64.wrap (IntKind.i64.wrap a - b) = IntKind.i64.wrap (a - b) := i64_congr (by have := i64_mod a; unfold i64w at this; omega)
theorem i64_sub_r (a b : Int) : IntKind.i64.wrap (a - IntKind.i64.wrap b) = IntKind.i64.wrap (a - b) := i64_congr (by have := i64_mod b; unfold i64w at this; omega)
theorem i64_mul_l (a b : Int) : IntKind.i64.wrap (IntKind.i64.wrap a * b) = IntKind.i64.wrap (a * b) := i64_congr (by rw [Int.mul_emod]; have := i64_mod a; unfold i64w at this; rw [this, ← Int.mul_emod])
theorem i64_mul_r (a b : Int) : IntKind.i64.wrap (a * IntKind.i64.wrap b) = IntKind.i64.wrap (a * b) := i64_congr (by rw [Int.mul_emod]; have := i64_mod b; unfold i64w at this; rw [this, ← Int.mul_emod])
theorem i64_i64 (a : Int) : IntKind.i64.wrap (IntKind.i64.wrap a) = IntKind.i64.wrap a := i64_congr (i64_mod a)

/-! ### sizes that memory has -/
def i64R (n : Int) : Prop := -9223372036854775808 ≤ n ∧ n < 9223372036854775808
def u64R (n : Int) : Prop := 0 ≤ n ∧ n < 18446744073709551616
mutual
def wfT : T → Prop
  | .mk k w l => i64R k ∧ (∀ x, x ∈ w → u64R x) ∧ w.length * 8 ≤ 140737488355328 ∧ l.length * 56 ≤ 140737488355328 ∧ wfTs l
def wfTs : List T → Prop
  | [] => True
  | t :: l => wfT t ∧ wfTs l
end
theorem wfTs_all : ∀ {l : List T}, wfTs l ↔ ∀ t, t ∈ l → wfT t
  | [] => by simp [wfTs]
  | t :: l => by simp [wfTs, wfTs_all (l := l)]
structure WfT (t : T) : Prop where
  k : i64R t.kind
  w : ∀ x, x ∈ t.words → u64R x
  wl : t.words.length * 8 ≤ 140737488355328
  kl : t.kids.length * 56 ≤ 140737488355328
  ks : ∀ x, x ∈ t.kids → wfT x
theorem wfT_iff {t : T} : wfT t ↔ WfT t := by
  cases t; rw [wfT, wfTs_all]
  exact ⟨fun ⟨a, b, c, d, e⟩ => ⟨a, b, c, d, e⟩, fun ⟨a, b, c, d, e⟩ => ⟨a, b, c, d, e⟩⟩
def WE.wf (w : WE) : Prop := i64R w.at_ ∧ (0 ≤ w.mask ∧ w.mask < 256) ∧ u64R w.old ∧ u64R w.new
mutual
def wfE : E → Prop
  | .mk k o n w ks l os => (i64R k ∧ i64R l ∧ wfT o ∧ wfT n ∧ (∀ x, x ∈ w → WE.wf x) ∧ w.length * 32 ≤ 140737488355328 ∧ ks.length * 208 ≤ 140737488355328 ∧ os.length * 240 ≤ 140737488355328) ∧ wfKs ks ∧ wfOs os
def wfKs : List KE → Prop
  | [] => True
  | .mk a e :: l => (i64R a ∧ wfE e) ∧ wfKs l
def wfOs : List OP → Prop
  | [] => True
  | .mk k n t e :: l => (i64R k ∧ i64R n ∧ wfTs t ∧ t.length * 56 ≤ 140737488355328 ∧ wfE e) ∧ wfOs l
end
structure WfO (x : OP) : Prop where
  k : i64R x.kind
  n : i64R x.n
  l : ∀ t, t ∈ x.l → wfT t
  ll : x.l.length * 56 ≤ 140737488355328
  e : wfE x.e
theorem wfKs_all : ∀ {l : List KE}, wfKs l ↔ ∀ x, x ∈ l → i64R x.at_ ∧ wfE x.e
  | [] => by simp [wfKs]
  | .mk a e :: l => by simp [wfKs, wfKs_all (l := l)]
theorem wfOs_all : ∀ {l : List OP}, wfOs l ↔ ∀ x, x ∈ l → WfO x
  | [] => by simp [wfOs]
  | .mk k n t e :: l => by
    simp only [wfOs, wfOs_all (l := l), wfTs_all, List.forall_mem_cons]
    exact ⟨fun ⟨⟨a, b, c, d, e⟩, h⟩ => ⟨⟨a, b, c, d, e⟩, h⟩, fun ⟨⟨a, b, c, d, e⟩, h⟩ => ⟨⟨a, b, c, d, e⟩, h⟩⟩
structure WfE (e : E) : Prop where
  k : i64R e.kind
  l : i64R e.list
  o : wfT e.old
  n : wfT e.new
  w : ∀ x, x ∈ e.words → WE.wf x
  wl : e.words.length * 32 ≤ 140737488355328
  kl : e.kids.length * 208 ≤ 140737488355328
  ol : e.ops.length * 240 ≤ 140737488355328
  ks : ∀ x, x ∈ e.kids → i64R x.at_ ∧ wfE x.e
  os : ∀ x, x ∈ e.ops → WfO x
theorem wfE_iff {e : E} : wfE e ↔ WfE e := by
  cases e; rw [wfE, wfKs_all, wfOs_all]
  exact ⟨fun ⟨⟨a, b, c, d, e, f, g, h⟩, i, j⟩ => ⟨a, b, c, d, e, f, g, h, i, j⟩, fun ⟨a, b, c, d, e, f, g, h, i, j⟩ => ⟨⟨a, b, c, d, e, f, g, h⟩, i, j⟩⟩
end Go.Proofs.Ytigdcnlhgelkaaa
