/-
  The steps as equations, for simp.
-/
import Derived.Test.YtfdlelcipnabpaaAbCode
namespace Go.Ab
set_option linter.unusedVariables false
set_option linter.unusedSimpArgs false
open Go.RowKit

/-! ### what is looked at first -/
/-- There is one, and it serves. -/
def Gt {α : Type} (F : Option α) (K : α → Prop) : Prop := ∃ x, F = some x ∧ K x
/-- Likewise, in one case alone. -/
def GtG (q : Bool) (F : Option A) (K : A → Prop) : Prop := ∃ x, (q = true → F = some x) ∧ K (gd q x)
def Imp (q : Bool) (F : Prop) : Prop := q = true → F
/-- The one or the other. -/
def Cnd (b : Bool) (F G : Prop) : Prop := (b = true → F) ∧ (b = false → G)
@[congr] theorem Gt_congr {α : Type} {F F' : Option α} {K : α → Prop} (h : F = F') : Gt F K = Gt F' K := by rw [h]
@[congr] theorem GtG_congr {q q' : Bool} {F F' : Option A} {K : A → Prop} (h1 : q = q') (h2 : F = F') : GtG q F K = GtG q' F' K := by rw [h1, h2]
@[congr] theorem Cnd_congr {b b' : Bool} {F G : Prop} (h : b = b') : Cnd b F G = Cnd b' F G := by rw [h]
@[congr] theorem SeqC_congr {P : Program} {fl : Bool} {K : Sta → Prop} {l : List CO} {st st' : Sta} (h : st = st') : SeqC P fl K l st = SeqC P fl K l st' := by rw [h]
@[congr] theorem WPC_congr {c : Cx} {x : CC} {Q : Exit → Sta → Prop} {st st' : Sta} (h : st = st') : WPC c x Q st = WPC c x Q st' := by rw [h]
@[congr] theorem LoopC_congr {c : Cx} {x : CC} {Q : Exit → Sta → Prop} {st st' : Sta} (h : st = st') : LoopC c x Q st = LoopC c x Q st' := by rw [h]
@[congr] theorem ThenC_congr {K : Sta → Prop} {Q : Exit → Sta → Prop} {e e' : Exit} {st st' : Sta} (h0 : e = e') (h : st = st') : ThenC K Q e st = ThenC K Q e' st' := by rw [h0, h]
@[congr] theorem InBlock_congr {i : Nat} {Q : Exit → Sta → Prop} {e e' : Exit} {st st' : Sta} (h0 : e = e') (h : st = st') : InBlock i Q e st = InBlock i Q e' st' := by rw [h0, h]
@[simp] theorem Gt_some {α : Type} {x : α} {K : α → Prop} : Gt (some x) K = K x := by simp [Gt]
@[simp] theorem Gt_ite {α : Type} {C : Prop} [Decidable C] {F G : Option α} {K : α → Prop} : Gt (if C then F else G) K = ((C → Gt F K) ∧ (¬C → Gt G K)) := by
  by_cases h : C <;> simp [h]
@[simp] theorem Gt_none {α : Type} {K : α → Prop} : Gt none K = False := by simp [Gt]
@[simp] theorem Gt_iteN {α : Type} {C : Prop} [Decidable C] {F : Option α} {K : α → Prop} : Gt (if C then F else none) K = (C ∧ Gt F K) := by
  by_cases h : C <;> simp [h]
@[simp] theorem GtG_some {q : Bool} {x : A} {K : A → Prop} : GtG q (some x) K = K (gd q x) := by
  apply propext
  constructor
  · rintro ⟨y, h1, h2⟩
    cases q
    · exact h2
    · cases h1 rfl; exact h2
  · exact fun h => ⟨x, fun _ => rfl, h⟩
@[simp] theorem GtG_iteN {q : Bool} {C : Prop} [Decidable C] {F : Option A} {K : A → Prop} : GtG q (if C then F else none) K = (Imp q C ∧ GtG q F K) := by
  cases q
  · simp [GtG, Imp]
  · by_cases h : C <;> simp [h, GtG, Imp]
@[simp] theorem GtG_true {F : Option A} {K : A → Prop} : GtG true F K = Gt F K := by simp [GtG, Gt, gd]
@[simp] theorem GtG_false {F : Option A} {K : A → Prop} : GtG false F K = K (.v undef) := by simp [GtG, gd]
@[simp] theorem Imp_true {F : Prop} : Imp true F = F := by simp [Imp]
@[simp] theorem Imp_false {F : Prop} : Imp false F = True := by simp [Imp]
@[simp] theorem Imp_trivial {q : Bool} : Imp q True = True := by simp [Imp]
@[simp] theorem Imp_decide {p : Prop} [Decidable p] {F : Prop} : Imp (decide p) F = (p → F) := by simp [Imp]
@[simp] theorem Cnd_true {F G : Prop} : Cnd true F G = F := by simp [Cnd]
@[simp] theorem Cnd_false {F G : Prop} : Cnd false F G = G := by simp [Cnd]
@[simp] theorem Cnd_decide {p : Prop} [Decidable p] {F G : Prop} : Cnd (decide p) F G = ((p → F) ∧ (¬p → G)) := by simp [Cnd]
@[simp] theorem Cnd_not {b : Bool} {F G : Prop} : Cnd (!b) F G = Cnd b G F := by cases b <;> simp
@[simp] theorem Cnd_and {a b : Bool} {F G : Prop} : Cnd (a && b) F G = (((a && b) = true → F) ∧ ((a && b) = false → G)) := rfl
@[simp] theorem Cnd_or {a b : Bool} {F G : Prop} : Cnd (a || b) F G = (((a || b) = true → F) ∧ ((a || b) = false → G)) := rfl
@[simp] theorem Cnd_self {b : Bool} {F : Prop} : Cnd b F F = F := by cases b <;> simp
@[simp] theorem gd_true {x : A} : gd true x = x := rfl
@[simp] theorem gd_false {x : A} : gd false x = .v undef := rfl
@[simp] theorem bif_gd {q : Bool} {x y : A} : (bif q then gd q x else y) = bif q then x else y := by cases q <;> rfl
@[simp] theorem bif_gd' {q : Bool} {x y : A} : (bif q then x else gd (!q) y) = bif q then x else y := by cases q <;> rfl
@[simp] theorem wantA_bool {b f : Bool} : wantA (.v (.bool b)) f = some (b == f) := rfl
@[simp] theorem wantA_undef {f : Bool} : wantA (.v undef) f = some false := rfl
@[simp] theorem wantA_gd {q b f : Bool} : wantA (gd q (.v (.bool b))) f = some (q && (b == f)) := by cases q <;> rfl
@[simp] theorem gd_bif1 {q c : Bool} {x y : A} : gd q (bif c then gd (q && c) x else y) = gd q (bif c then x else y) := by cases q <;> cases c <;> rfl
@[simp] theorem gd_bif2 {q c : Bool} {x y : A} : gd q (bif c then x else gd (q && !c) y) = gd q (bif c then x else y) := by cases q <;> cases c <;> rfl
@[simp] theorem gd_gd {q : Bool} {x : A} : gd q (gd q x) = gd q x := by cases q <;> rfl

theorem gt_pair {α β : Type} {F : Option (α × β)} {K : α → β → Prop} : (∃ x y, F = some (x, y) ∧ K x y) = Gt F fun p => K p.1 p.2 := by
  apply propext
  constructor
  · rintro ⟨x, y, h1, h2⟩; exact ⟨(x, y), h1, h2⟩
  · rintro ⟨⟨x, y⟩, h1, h2⟩; exact ⟨x, y, h1, h2⟩

def boolA : A → Option Bool
  | .v (.bool b) => some b
  | _ => none
@[simp] theorem boolA_bool {b : Bool} : boolA (.v (.bool b)) = some b := rfl
theorem boolA_some {a : A} {b : Bool} (h : boolA a = some b) : a = .v (.bool b) := by
  unfold boolA at h
  split at h
  · cases h; rfl
  · cases h
def selA (c x y : A) : Option A := (boolA c).map fun q => bif q then x else y
@[simp] theorem selA_bool {b : Bool} {x y : A} : selA (.v (.bool b)) x y = some (bif b then x else y) := rfl
theorem selA_iff {c x y z : A} : selA c x y = some z ↔ ∃ q, c = .v (.bool q) ∧ z = bif q then x else y := by
  constructor
  · intro h
    unfold selA at h
    simp only [Option.map_eq_some_iff] at h
    obtain ⟨q, h1, h2⟩ := h
    exact ⟨q, boolA_some h1, h2.symm⟩
  · rintro ⟨q, rfl, rfl⟩; rfl
@[simp] theorem cond_same {α : Type} {b : Bool} {x : α} : (bif b then x else x) = x := by cases b <;> rfl

/-! ### the text's steps -/
section
variable {c : Cx} {Q : Exit → Sta → Prop} {st : Sta} {K : Sta → Prop}
@[simp] theorem wpc_skip : WPC c .skip Q st = Q .normal st := rfl
@[simp] theorem wpc_exit {i : Nat} : WPC c (.exit i) Q st = Q (.exit i) st := rfl
@[simp] theorem wpc_ret : WPC c .ret Q st = Q .ret st := rfl
/-- What is left behind a region. -/
def KeepK (Q : Exit → Sta → Prop) (live : List Nat) (st : Sta) : Prop := Q .normal (st.keep live)
@[simp] theorem keepK_eq {live : List Nat} : KeepK Q live st = Q .normal (st.keep live) := rfl
@[simp] theorem wpc_reg {ops : List CO} {d : Bool} {live : List Nat} : WPC c (.reg ops d live) Q st = SeqC c.P d (KeepK Q live) ops st := rfl
@[simp] theorem wpc_seq {x y : CC} : WPC c (.seq x y) Q st = WPC c x (ThenC (WPC c y Q) Q) st := rfl
@[simp] theorem wpc_block {i : Nat} {x : CC} : WPC c (.block i x) Q st = WPC c x (InBlock i Q) st := rfl
@[simp] theorem wpc_loop {x : CC} : WPC c (.loop x) Q st = LoopC c x Q st := rfl
@[simp] theorem wpc_keep {live : List Nat} {x : CC} : WPC c (.keep live x) Q st = WPC c x Q (st.keep live) := rfl
@[simp] theorem wpc_cond {o : Operand} {x y : CC} : WPC c (.cond o x y) Q st = Gt (boolA (evs st.s o)) fun b => Cnd b (WPC c x Q st) (WPC c y Q st) := by
  apply propext
  constructor
  · rintro ⟨b, h1, h2, h3⟩; exact ⟨b, by rw [h1]; rfl, h2, h3⟩
  · rintro ⟨b, h1, h2, h3⟩; exact ⟨b, boolA_some h1, h2, h3⟩
@[simp] theorem thenC_normal : ThenC K Q .normal st = K st := rfl
@[simp] theorem thenC_exit {i : Nat} : ThenC K Q (.exit i) st = Q (.exit i) st := rfl
@[simp] theorem thenC_ret : ThenC K Q .ret st = Q .ret st := rfl
theorem loopC_once {x x' : CC} (hm : c.P.follows .mixedOrders = true) (he : x = x') (h : WPC c x' (ThenC (LoopC c x Q) Q) st) : LoopC c x Q st := by
  subst he
  exact loopC_round hm h
@[simp] theorem cx_P {P : Program} {w0 : World} {I0 : Nat → Prop} {n : Nat} : (cx P w0 I0 n).P = P := rfl
/-- What the first part leaves is said once. -/
theorem seq_cut {x y : CC} (M : Sta → Prop) (h1 : WPC c x (ThenC M Q) st) (h2 : ∀ st', M st' → WPC c y Q st') : WPC c (.seq x y) Q st :=
  WPC.mono (x := x) (fun e st' h => by cases e <;> first | exact h2 _ h | exact h) h1
variable {P : Program} {rs : List ResultVar} {r : A}
@[simp] theorem retC_normal : RetC P rs r .normal st = Gt (resA P st rs) fun r0 => Frz st.H r0 r := rfl
@[simp] theorem retC_ret : RetC P rs r .ret st = Gt (resA P st rs) fun r0 => Frz st.H r0 r := rfl
@[simp] theorem resOne_tmp {t : Nat} : resOne P st (.tmp t) = some (st.s t) := rfl
@[simp] theorem resOne_cell {t : TypeId} {a : Nat} : resOne P st (.cell a t) = loadA P st.H t (st.s a) := rfl
@[simp] theorem resA_one {x : ResultVar} : resA P st [x] = resOne P st x := rfl
@[simp] theorem resA_two {x y : ResultVar} {l : List ResultVar} : resA P st (x :: y :: l) = (resList P st (x :: y :: l)).map .tup := rfl
@[simp] theorem resA_nil : resA P st [] = some (.tup []) := rfl
@[simp] theorem resList_nil : resList P st [] = some [] := rfl
@[simp] theorem resList_cons {x : ResultVar} {l : List ResultVar} : resList P st (x :: l) = match resOne P st x, resList P st l with | some x, some l => some (x :: l) | _, _ => none := rfl
end

section
variable {P : Program} {H : List Ob} {t u : TypeId} {q : Bool} {x y z : A} {K : A → Prop}
theorem GtG_same {F F' : Option A} (h : q = true → F = F') : GtG q F K = GtG q F' K := by
  cases q
  · simp
  · rw [h rfl]
@[simp] theorem GtG_binl {op : BinOp} : GtG q (binA P op t (gd q x) y) K = GtG q (binA P op t x y) K := GtG_same fun h => by rw [h]; rfl
@[simp] theorem GtG_binr {op : BinOp} : GtG q (binA P op t x (gd q y)) K = GtG q (binA P op t x y) K := GtG_same fun h => by rw [h]; rfl
@[simp] theorem GtG_un {op : UnOp} : GtG q (unA op (gd q y)) K = GtG q (unA op y) K := GtG_same fun h => by rw [h]; rfl
@[simp] theorem GtG_conv : GtG q (convA P t u (gd q y)) K = GtG q (convA P t u y) K := GtG_same fun h => by rw [h]; rfl
@[simp] theorem GtG_load : GtG q (loadA P H t (gd q y)) K = GtG q (loadA P H t y) K := GtG_same fun h => by rw [h]; rfl
@[simp] theorem GtG_fieldAddr {i : Nat} : GtG q (fieldAddrA P t (gd q y) i) K = GtG q (fieldAddrA P t y i) K := GtG_same fun h => by rw [h]; rfl
@[simp] theorem GtG_indexAddrl : GtG q (indexAddrA P H t (gd q x) y) K = GtG q (indexAddrA P H t x y) K := GtG_same fun h => by rw [h]; rfl
@[simp] theorem GtG_indexAddrr : GtG q (indexAddrA P H t x (gd q y)) K = GtG q (indexAddrA P H t x y) K := GtG_same fun h => by rw [h]; rfl
@[simp] theorem GtG_len : GtG q (lenA P t (gd q y)) K = GtG q (lenA P t y) K := GtG_same fun h => by rw [h]; rfl
@[simp] theorem GtG_sel : GtG q (selA (gd q z) x y) K = GtG q (selA z x y) K := GtG_same fun h => by rw [h]; rfl
theorem GtG_split {F : Option A} (h1 : q = true → Gt F K) (h2 : q = false → K (.v undef)) : GtG q F K := by
  cases q
  · rw [GtG_false]; exact h2 rfl
  · rw [GtG_true]; exact h1 rfl
/-- A build, its operands one by one. -/
def GB (P : Program) (q : Bool) (t : TypeId) (acc l : List (Nat × A)) (K : A → Prop) : Prop := GtG q (buildA P t (acc ++ l)) K
@[congr] theorem GB_congr {q' : Bool} {acc l l' : List (Nat × A)} (h0 : q = q') (h : l = l') : GB P q t acc l K = GB P q' t acc l' K := by rw [h0, h]
@[simp] theorem GB_nil {acc : List (Nat × A)} : GB P q t acc [] K = GtG q (buildA P t acc) K := by simp [GB]
theorem GB_keep {acc l : List (Nat × A)} {i : Nat} : GB P q t acc ((i, x) :: l) K = GB P q t (acc ++ [(i, x)]) l K := by simp [GB]
@[simp] theorem GB_gd {acc l : List (Nat × A)} {i : Nat} : GB P q t acc ((i, gd q x) :: l) K = GB P q t (acc ++ [(i, x)]) l K := by
  rw [← GB_keep]
  exact GtG_same fun h => by rw [h]; rfl
@[simp] theorem GB_v {acc l : List (Nat × A)} {i : Nat} {a : Value} : GB P q t acc ((i, .v a) :: l) K = GB P q t (acc ++ [(i, .v a)]) l K := GB_keep
@[simp] theorem GB_sl {acc l : List (Nat × A)} {i : Nat} {b : Bool} {xs : List A} : GB P q t acc ((i, .sl b xs) :: l) K = GB P q t (acc ++ [(i, .sl b xs)]) l K := GB_keep
@[simp] theorem GB_osl {acc l : List (Nat × A)} {i o m n : Nat} : GB P q t acc ((i, .osl o m n) :: l) K = GB P q t (acc ++ [(i, .osl o m n)]) l K := GB_keep
@[simp] theorem GB_pob {acc l : List (Nat × A)} {i o m : Nat} : GB P q t acc ((i, .pob o m) :: l) K = GB P q t (acc ++ [(i, .pob o m)]) l K := GB_keep
@[simp] theorem GB_pim {acc l : List (Nat × A)} {i : Nat} {xs : List A} : GB P q t acc ((i, .pim xs) :: l) K = GB P q t (acc ++ [(i, .pim xs)]) l K := GB_keep
@[simp] theorem GB_agg {acc l : List (Nat × A)} {i : Nat} {xs : List A} : GB P q t acc ((i, .agg xs) :: l) K = GB P q t (acc ++ [(i, .agg xs)]) l K := GB_keep
@[simp] theorem GtG_extract {i : Nat} : GtG q (extractA (gd q y) i) K = GtG q (extractA y i) K := GtG_same fun h => by rw [h]; rfl
end

/-! ### what the operations yield, by the operands' shape -/
section
variable {P : Program} {H : List Ob} {t : TypeId}
@[simp] theorem binA_int {op : BinOp} {q r : IntKind} {a b : Int} : binA P op t (.v (.int q a)) (.v (.int r b)) = intA op q r a b := rfl
@[simp] theorem binA_str {op : BinOp} {a b : ByteArray} : binA P op t (.v (.string a)) (.v (.string b)) = strA op a b := rfl
@[simp] theorem binA_eq_agg {xs ys : List A} : binA P .eql t (.agg xs) (.agg ys) = if P.eqGuardType P.depth t = false then (eqA P 100 t (.agg xs) (.agg ys)).map fun b => .v (.bool b) else none := rfl
@[simp] theorem binA_ne_agg {xs ys : List A} : binA P .neq t (.agg xs) (.agg ys) = if P.eqGuardType P.depth t = false then (eqA P 100 t (.agg xs) (.agg ys)).map fun b => .v (.bool (!b)) else none := rfl
theorem binA_eq_bool {a b : Bool} (h : P.underlying t = some .bool) : binA P .eql t (.v (.bool a)) (.v (.bool b)) = some (.v (.bool (a == b))) := by
  show (eqA P 100 t _ _).map _ = _
  unfold eqA; rw [h]; rfl
theorem binA_ne_bool {a b : Bool} (h : P.underlying t = some .bool) : binA P .neq t (.v (.bool a)) (.v (.bool b)) = some (.v (.bool (!(a == b)))) := by
  show (eqA P 100 t _ _).map _ = _
  unfold eqA; rw [h]; rfl
@[simp] theorem intA_shl {q r : IntKind} {a b : Int} : intA .shl q r a b = if 0 ≤ b then some (.v (.int q (q.wrap (a * 2 ^ (min b.toNat q.bits))))) else none := rfl
@[simp] theorem intA_shr {q r : IntKind} {a b : Int} : intA .shr q r a b = if 0 ≤ b then some (.v (.int q (a / 2 ^ (min b.toNat q.bits)))) else none := rfl
@[simp] theorem intA_add {q : IntKind} {a b : Int} : intA .add q q a b = some (.v (.int q (q.wrap (a + b)))) := by simp [intA]
@[simp] theorem intA_sub {q : IntKind} {a b : Int} : intA .sub q q a b = some (.v (.int q (q.wrap (a - b)))) := by simp [intA]
@[simp] theorem intA_mul {q : IntKind} {a b : Int} : intA .mul q q a b = some (.v (.int q (q.wrap (a * b)))) := by simp [intA]
@[simp] theorem intA_quo {q : IntKind} {a b : Int} : intA .quo q q a b = if b = 0 then none else some (.v (.int q (q.wrap (a.tdiv b)))) := by simp [intA]
@[simp] theorem intA_rem {q : IntKind} {a b : Int} : intA .rem q q a b = if b = 0 then none else some (.v (.int q (a.tmod b))) := by simp [intA]
@[simp] theorem intA_and {q : IntKind} {a b : Int} : intA .and q q a b = some (.v (.int q (bits .and q a b))) := by simp [intA]
@[simp] theorem intA_or {q : IntKind} {a b : Int} : intA .or q q a b = some (.v (.int q (bits .or q a b))) := by simp [intA]
@[simp] theorem intA_xor {q : IntKind} {a b : Int} : intA .xor q q a b = some (.v (.int q (bits .xor q a b))) := by simp [intA]
@[simp] theorem intA_andNot {q : IntKind} {a b : Int} : intA .andNot q q a b = some (.v (.int q (bits .andNot q a b))) := by simp [intA]
@[simp] theorem intA_eql {q : IntKind} {a b : Int} : intA .eql q q a b = some (.v (.bool (decide (a = b)))) := by simp [intA]; rfl
@[simp] theorem intA_neq {q : IntKind} {a b : Int} : intA .neq q q a b = some (.v (.bool (!decide (a = b)))) := by simp [intA]; rfl
@[simp] theorem intA_lss {q : IntKind} {a b : Int} : intA .lss q q a b = some (.v (.bool (decide (a < b)))) := by simp [intA]
@[simp] theorem intA_leq {q : IntKind} {a b : Int} : intA .leq q q a b = some (.v (.bool (decide (a ≤ b)))) := by simp [intA]
@[simp] theorem intA_gtr {q : IntKind} {a b : Int} : intA .gtr q q a b = some (.v (.bool (decide (b < a)))) := by simp [intA]
@[simp] theorem intA_geq {q : IntKind} {a b : Int} : intA .geq q q a b = some (.v (.bool (decide (b ≤ a)))) := by simp [intA]
@[simp] theorem unA_not {b : Bool} : unA .not (.v (.bool b)) = some (.v (.bool (!b))) := rfl
@[simp] theorem unA_neg {q : IntKind} {n : Int} : unA .neg (.v (.int q n)) = some (.v (.int q (q.wrap (0 - n)))) := rfl
theorem convA_int {u : TypeId} {d : TypeDesc} {q r : IntKind} {n : Int} (h1 : P.underlying t = some d) (h2 : P.underlying u = some (.int q)) : convA P t u (.v (.int r n)) = some (.v (.int q (q.wrap n))) := by unfold convA; rw [h1, h2]
@[simp] theorem load_pim {cs : List A} : loadA P H t (.pim cs) = match aggT P t, szT P t with | some g, some sz => pickA g sz cs | _, _ => none := rfl
@[simp] theorem load_pob {o off : Nat} : loadA P H t (.pob o off) = match aggT P t, szT P t with | some g, some sz => (match H[o]? with | some (.cells cs) => pickA g sz (cs.drop off) | _ => none) | _, _ => none := by
  unfold loadA
  cases aggT P t with
  | none => rfl
  | some g =>
    cases szT P t with
    | none => rfl
    | some sz => rfl
@[simp] theorem pick_agg {sz : Nat} {cs : List A} : pickA true sz cs = if sz ≤ cs.length then some (.agg (cs.take sz)) else none := rfl
@[simp] theorem pick_cell {sz : Nat} {cs : List A} : pickA false sz cs = cs[0]? := rfl
@[simp] theorem store_pob {o off : Nat} {val : A} : storeA P H t (.pob o off) val = match szT P t with
    | some sz => if val.cells.length = sz ∧ A.ones val.cells = true then (match H[o]? with | some (.cells cs) => if off + sz ≤ cs.length then some (H.set o (.cells (splice cs off val.cells))) else none | _ => none) else none
    | _ => none := by
  unfold storeA
  cases szT P t <;> rfl
@[simp] theorem alloc_eq {e : TypeId} : allocA P H e = match zeroT P e with | some z => if A.ones (ofV z).cells = true then some (.pob H.length 0, H ++ [.cells (ofV z).cells]) else none | none => none := rfl
@[simp] theorem box_eq {a : A} : boxA H a = if A.ones a.cells = true then some (.pob H.length 0, H ++ [.cells a.cells]) else none := rfl
@[simp] theorem shift_pim {n : Nat} {cs : List A} : A.shift n (.pim cs) = some (.pim (cs.drop n)) := rfl
@[simp] theorem shift_pob {n o p : Nat} : A.shift n (.pob o p) = some (.pob o (p + n)) := rfl
@[simp] theorem shift_pel {n o p q : Nat} : A.shift n (.pel o p q) = some (.pel o p (q + n)) := rfl
@[simp] theorem fieldAddr_eq {a : A} {i : Nat} : fieldAddrA P t a i = (fieldOffT P t i).bind a.shift := rfl
@[simp] theorem extract_tup {xs : List A} {i : Nat} : extractA (.tup xs) i = xs[i]? := rfl
@[simp] theorem splice_succ {c : A} {cs news : List A} {n : Nat} : splice (c :: cs) (n + 1) news = c :: splice cs n news := by simp [splice, Nat.add_right_comm]
@[simp] theorem splice_zero {cs news : List A} : splice cs 0 news = news ++ cs.drop news.length := by simp [splice]
end

section
variable {P : Program} {fl : Bool} {K : Sta → Prop} {rest : List CO} {s : Nat → A} {H : List Ob} {dd : Option Nat} {k : Nat} {f : Bool}

@[simp] theorem put_some {d : Nat} {x : A} {H' : List Ob} : Sta.put ⟨s, H⟩ (some d) x H' = ⟨upd s d x, H'⟩ := rfl
@[simp] theorem put_none {x : A} {H' : List Ob} : Sta.put ⟨s, H⟩ none x H' = ⟨s, H'⟩ := rfl
@[simp] theorem upd_at {d t : Nat} {x : A} : upd s d x t = if t = d then x else s t := rfl
@[simp] theorem lk_nil {t : Nat} : lk [] t = .any := rfl
@[simp] theorem lk_cons {d t : Nat} {x : A} {l : List (Nat × A)} : lk ((d, x) :: l) t = if d = t then x else lk l t := rfl
@[simp] theorem argS_at {args : List A} {t : Nat} : argS args t = (args[t]?).getD .any := rfl
@[simp] theorem evs_tmp {t : Nat} : evs s (.tmp t) = s t := rfl
@[simp] theorem evs_const {x : Value} : evs s (.const x) = ofV x := rfl
@[simp] theorem evs_func {g : FuncId} : evs s (.func g) = .fnc g [] := rfl
@[simp] theorem keep_eq {live : List Nat} : Sta.keep ⟨s, H⟩ live = ⟨lk (live.map fun k => (k, s k)), H⟩ := rfl
@[simp] theorem ofV_int {q : IntKind} {n : Int} : ofV (.int q n) = .v (.int q n) := rfl
@[simp] theorem ofV_bool {b : Bool} : ofV (.bool b) = .v (.bool b) := rfl
@[simp] theorem ofV_string {b : ByteArray} : ofV (.string b) = .v (.string b) := rfl
@[simp] theorem ofV_pointer {b : Option Addr} : ofV (.pointer b) = .v (.pointer b) := rfl
@[simp] theorem ofV_nil : ofV (.slice none 0 0) = .sl true [] := rfl
@[simp] theorem ofV_agg {cs : Array Value} : ofV (.agg cs) = .agg (cs.toList.map ofV1) := rfl
@[simp] theorem ofV1_int {q : IntKind} {n : Int} : ofV1 (.int q n) = .v (.int q n) := rfl
@[simp] theorem ofV1_bool {b : Bool} : ofV1 (.bool b) = .v (.bool b) := rfl
@[simp] theorem ofV1_string {b : ByteArray} : ofV1 (.string b) = .v (.string b) := rfl
@[simp] theorem ofV1_pointer {b : Option Addr} : ofV1 (.pointer b) = .v (.pointer b) := rfl
@[simp] theorem ofV1_nil : ofV1 (.slice none 0 0) = .sl true [] := rfl

@[simp] theorem cells_agg {cs : List A} : (A.agg cs).cells = cs := rfl
@[simp] theorem cells_v {x : Value} : (A.v x).cells = [.v x] := rfl
@[simp] theorem cells_sl {b : Bool} {xs : List A} : (A.sl b xs).cells = [.sl b xs] := rfl
@[simp] theorem cells_osl {o p q : Nat} : (A.osl o p q).cells = [.osl o p q] := rfl
@[simp] theorem cells_pim {cs : List A} : (A.pim cs).cells = [.pim cs] := rfl
@[simp] theorem cells_pob {o p : Nat} : (A.pob o p).cells = [.pob o p] := rfl
@[simp] theorem ones_nil : A.ones [] = true := rfl
@[simp] theorem ones_cons {a : A} {l : List A} : A.ones (a :: l) = (a.one && A.ones l) := by simp [A.ones]
@[simp] theorem one_int {q : IntKind} {n : Int} : (A.v (.int q n)).one = true := rfl
@[simp] theorem one_bool {b : Bool} : (A.v (.bool b)).one = true := rfl
@[simp] theorem one_string {b : ByteArray} : (A.v (.string b)).one = true := rfl
@[simp] theorem one_pointer {b : Option Addr} : (A.v (.pointer b)).one = true := rfl
@[simp] theorem one_sl {b : Bool} {xs : List A} : (A.sl b xs).one = true := rfl
@[simp] theorem one_osl {o p q : Nat} : (A.osl o p q).one = true := rfl
@[simp] theorem one_pim {cs : List A} : (A.pim cs).one = true := rfl
@[simp] theorem one_pob {o p : Nat} : (A.pob o p).one = true := rfl
@[simp] theorem isPtr_pim {cs : List A} : (A.pim cs).isPtr = true := rfl
@[simp] theorem isPtr_pob {o p : Nat} : (A.pob o p).isPtr = true := rfl
@[simp] theorem isPtr_pel {o p q : Nat} : (A.pel o p q).isPtr = true := rfl
@[simp] theorem isPtr_v {x : Value} : (A.v x).isPtr = false := rfl
@[simp] theorem bare1_v {x : Value} : (A.v x).bare1 = true := rfl
@[simp] theorem bare1_sl {b : Bool} {xs : List A} : (A.sl b xs).bare1 = true := rfl
@[simp] theorem bare1_pim {cs : List A} : (A.pim cs).bare1 = true := rfl
@[simp] theorem bare1_any : (A.any).bare1 = true := rfl
@[simp] theorem bare1_osl {o p q : Nat} : (A.osl o p q).bare1 = false := rfl
@[simp] theorem bare1_pob {o p : Nat} : (A.pob o p).bare1 = false := rfl
@[simp] theorem bare_v {x : Value} : (A.v x).bare = true := rfl
@[simp] theorem bare_sl {b : Bool} {xs : List A} : (A.sl b xs).bare = true := rfl
@[simp] theorem bare_pim {cs : List A} : (A.pim cs).bare = true := rfl
@[simp] theorem bare_osl {o p q : Nat} : (A.osl o p q).bare = false := rfl
@[simp] theorem bare_pob {o p : Nat} : (A.pob o p).bare = false := rfl
@[simp] theorem bare_agg {cs : List A} : (A.agg cs).bare = cs.all A.bare1 := rfl
@[simp] theorem flat_v {x : Value} : (A.v x).flat = true := rfl
@[simp] theorem lens_nil {n : Nat} : lens n [] = true := rfl
@[simp] theorem lens_cons {n : Nat} {x : A} {l : List A} : lens n (x :: l) = (x.cells.length == n && lens n l) := rfl
@[simp] theorem lens_append {n : Nat} {l l' : List A} : lens n (l ++ l') = (lens n l && lens n l') := by simp [lens]

@[simp] theorem fillA_nil {pl : Nat → Option (Nat × Nat)} {cs : List A} : fillA pl cs [] = some cs := rfl
@[simp] theorem fillA_cons {pl : Nat → Option (Nat × Nat)} {cs : List A} {i : Nat} {x : A} {ps : List (Nat × A)} : fillA pl cs ((i, x) :: ps) = match pl i with
    | none => none
    | some (off, size) => if x.cells.length = size ∧ off + size ≤ cs.length ∧ A.ones x.cells = true then fillA pl (splice cs off x.cells) ps else none := rfl

@[simp] theorem sc_nil' {st : Sta} : SeqC P fl K [] st = K st := rfl

/-- An operation that leaves the call's own memory alone and yields what a function says. -/
theorem sc_fun {op : Op} {F : Option A} (hF : ∀ x H', OpR P fl op (evs s) H x H' ↔ F = some x ∧ H' = H) :
    SeqC P fl K (⟨dd, op, none⟩ :: rest) ⟨s, H⟩ = Gt F fun x => SeqC P fl K rest (Sta.put ⟨s, H⟩ dd x H) := by
  apply propext
  constructor
  · rintro ⟨x, H', h1, h2⟩
    obtain ⟨h3, rfl⟩ := (hF x H').1 h1
    exact ⟨x, h3, h2⟩
  · rintro ⟨x, h1, h2⟩
    exact ⟨x, H, (hF x H).2 ⟨h1, rfl⟩, h2⟩

theorem sc_fun_g {op : Op} {F : Option A} (hF : ∀ x H', OpR P fl op (evs s) H x H' ↔ F = some x ∧ H' = H) :
    SeqC P fl K (⟨dd, op, some (k, f)⟩ :: rest) ⟨s, H⟩ = Gt (wantA (s k) f) fun q => GtG q F fun x => SeqC P fl K rest (Sta.put ⟨s, H⟩ dd x H) := by
  apply propext
  constructor
  · rintro ⟨x, H', ⟨b, x0, h1, h2, rfl, h4⟩, h5⟩
    refine ⟨b, h1, x0, fun hq => ((hF x0 H').1 (h2 hq)).1, ?_⟩
    have : H' = H := by
      cases hq : b with
      | true => exact ((hF x0 H').1 (h2 hq)).2
      | false => exact h4 hq
    rw [← this]
    exact this ▸ h5
  · rintro ⟨b, h1, x0, h2, h3⟩
    exact ⟨_, H, ⟨b, x0, h1, fun hq => (hF x0 H).2 ⟨h2 hq, rfl⟩, rfl, fun _ => rfl⟩, h3⟩

section
variable {a b : Operand} {t : TypeId}
@[simp] theorem sc_move : SeqC P fl K (⟨dd, .move a, none⟩ :: rest) ⟨s, H⟩ = SeqC P fl K rest (Sta.put ⟨s, H⟩ dd (evs s a) H) := by
  rw [sc_fun (F := some (evs s a)) (fun x H' => by simp [OpR, eq_comm])]; simp
@[simp] theorem sc_assign : SeqC P fl K (⟨dd, .assign a, none⟩ :: rest) ⟨s, H⟩ = SeqC P fl K rest (Sta.put ⟨s, H⟩ dd (evs s a) H) := by
  rw [sc_fun (F := some (evs s a)) (fun x H' => by simp [OpR, eq_comm])]; simp
@[simp] theorem sc_bin {op : BinOp} {u : TypeId} : SeqC P fl K (⟨dd, .binOp op t a b u, none⟩ :: rest) ⟨s, H⟩ = Gt (binA P op t (evs s a) (evs s b)) fun x => SeqC P fl K rest (Sta.put ⟨s, H⟩ dd x H) := sc_fun fun _ _ => Iff.rfl
@[simp] theorem sc_un {op : UnOp} : SeqC P fl K (⟨dd, .unOp op t a, none⟩ :: rest) ⟨s, H⟩ = Gt (unA op (evs s a)) fun x => SeqC P fl K rest (Sta.put ⟨s, H⟩ dd x H) := sc_fun fun _ _ => Iff.rfl
@[simp] theorem sc_conv {u : TypeId} : SeqC P fl K (⟨dd, .convert t u a, none⟩ :: rest) ⟨s, H⟩ = Gt (convA P t u (evs s a)) fun x => SeqC P fl K rest (Sta.put ⟨s, H⟩ dd x H) := sc_fun fun _ _ => Iff.rfl
@[simp] theorem sc_load : SeqC P fl K (⟨dd, .load t a, none⟩ :: rest) ⟨s, H⟩ = Gt (loadA P H t (evs s a)) fun x => SeqC P fl K rest (Sta.put ⟨s, H⟩ dd x H) := sc_fun fun _ _ => Iff.rfl
@[simp] theorem sc_fieldAddr {i : Nat} : SeqC P fl K (⟨dd, .fieldAddr t a i, none⟩ :: rest) ⟨s, H⟩ = Gt (fieldAddrA P t (evs s a) i) fun x => SeqC P fl K rest (Sta.put ⟨s, H⟩ dd x H) := sc_fun fun _ _ => Iff.rfl
@[simp] theorem sc_field {i : Nat} : SeqC P fl K (⟨dd, .field t a i, none⟩ :: rest) ⟨s, H⟩ = Gt (fieldA P t (evs s a) i) fun x => SeqC P fl K rest (Sta.put ⟨s, H⟩ dd x H) := sc_fun fun _ _ => Iff.rfl
@[simp] theorem sc_indexAddr : SeqC P fl K (⟨dd, .indexAddr t a b, none⟩ :: rest) ⟨s, H⟩ = Gt (indexAddrA P H t (evs s a) (evs s b)) fun x => SeqC P fl K rest (Sta.put ⟨s, H⟩ dd x H) := sc_fun fun _ _ => Iff.rfl
@[simp] theorem sc_index : SeqC P fl K (⟨dd, .index t a b, none⟩ :: rest) ⟨s, H⟩ = Gt (indexA P t (evs s a) (evs s b)) fun x => SeqC P fl K rest (Sta.put ⟨s, H⟩ dd x H) := sc_fun fun _ _ => Iff.rfl
@[simp] theorem sc_extract {i : Nat} : SeqC P fl K (⟨dd, .extract a i, none⟩ :: rest) ⟨s, H⟩ = Gt (extractA (evs s a) i) fun x => SeqC P fl K rest (Sta.put ⟨s, H⟩ dd x H) := sc_fun fun _ _ => Iff.rfl
@[simp] theorem sc_build {ps : Array (Nat × Operand)} : SeqC P fl K (⟨dd, .build t ps, none⟩ :: rest) ⟨s, H⟩ = Gt (buildA P t (ps.toList.map fun p => (p.1, evs s p.2))) fun x => SeqC P fl K rest (Sta.put ⟨s, H⟩ dd x H) := sc_fun fun _ _ => Iff.rfl
@[simp] theorem sc_buildSlice {n : Nat} {ps : Array (Nat × Operand)} : SeqC P fl K (⟨dd, .buildSlice t n ps, none⟩ :: rest) ⟨s, H⟩ = Gt (buildSliceA P t n (ps.toList.map fun p => (p.1, evs s p.2))) fun x => SeqC P fl K rest (Sta.put ⟨s, H⟩ dd x H) := sc_fun fun _ _ => Iff.rfl
@[simp] theorem sc_slice {lo hi mx : Option Operand} : SeqC P fl K (⟨dd, .slice t a lo hi mx, none⟩ :: rest) ⟨s, H⟩ = Gt (sliceA P H t (evs s a) (lo.map (evs s)) (hi.map (evs s)) (mx.map (evs s))) fun x => SeqC P fl K rest (Sta.put ⟨s, H⟩ dd x H) := sc_fun fun _ _ => Iff.rfl
@[simp] theorem sc_nilCheck : SeqC P fl K (⟨dd, .nilCheck a, none⟩ :: rest) ⟨s, H⟩ = ((evs s a).isPtr = true ∧ SeqC P fl K rest (Sta.put ⟨s, H⟩ dd (evs s a) H)) := by
  apply propext
  constructor
  · rintro ⟨x, H', ⟨h1, rfl, rfl⟩, h2⟩; exact ⟨h1, h2⟩
  · rintro ⟨h1, h2⟩; exact ⟨_, H, ⟨h1, rfl, rfl⟩, h2⟩
@[simp] theorem sc_pick {c : Operand} : SeqC P fl K (⟨dd, .pick c a b, none⟩ :: rest) ⟨s, H⟩ = Gt (selA (evs s c) (evs s a) (evs s b)) fun x => SeqC P fl K rest (Sta.put ⟨s, H⟩ dd x H) :=
  sc_fun fun x H' => by
    simp only [OpR, selA_iff]
    exact ⟨fun ⟨q, h1, h2, h3⟩ => ⟨⟨q, h1, h2⟩, h3⟩, fun ⟨⟨q, h1, h2⟩, h3⟩ => ⟨q, h1, h2, h3⟩⟩
@[simp] theorem sc_alloc : SeqC P fl K (⟨dd, .alloc t, none⟩ :: rest) ⟨s, H⟩ = Gt (allocA P H t) fun p => SeqC P fl K rest (Sta.put ⟨s, H⟩ dd p.1 p.2) := gt_pair
@[simp] theorem sc_box : SeqC P fl K (⟨dd, .box t a, none⟩ :: rest) ⟨s, H⟩ = Gt (boxA H (evs s a)) fun p => SeqC P fl K rest (Sta.put ⟨s, H⟩ dd p.1 p.2) := gt_pair
@[simp] theorem sc_makeSlice : SeqC P fl K (⟨dd, .makeSlice t a b, none⟩ :: rest) ⟨s, H⟩ = Gt (makeSliceA P H t (evs s a) (evs s b)) fun p => SeqC P fl K rest (Sta.put ⟨s, H⟩ dd p.1 p.2) := gt_pair
@[simp] theorem sc_store : SeqC P fl K (⟨dd, .store t a b, none⟩ :: rest) ⟨s, H⟩ = Gt (storeA P H t (evs s a) (evs s b)) fun H' => SeqC P fl K rest (Sta.put ⟨s, H⟩ dd .any H') := by
  apply propext
  constructor
  · rintro ⟨x, H', ⟨h1, rfl⟩, h2⟩; exact ⟨H', h1, h2⟩
  · rintro ⟨H', h1, h2⟩; exact ⟨_, H', ⟨h1, rfl⟩, h2⟩
@[simp] theorem sc_len : SeqC P fl K (⟨dd, .call { callee := .builtin .len, args := #[a], argTypes := #[t] }, none⟩ :: rest) ⟨s, H⟩ = Gt (lenA P t (evs s a)) fun x => SeqC P fl K rest (Sta.put ⟨s, H⟩ dd x H) :=
  sc_fun fun x H' => by simp only [OpR]; constructor
                        · rintro ⟨a', t', h1, h2, h3, h4⟩; cases h1; cases h2; exact ⟨h3, h4⟩
                        · rintro ⟨h1, h2⟩; exact ⟨a, t, rfl, rfl, h1, h2⟩
@[simp] theorem sc_append {u : TypeId} : SeqC P fl K (⟨dd, .call { callee := .builtin .append, args := #[a, b], argTypes := #[t, u] }, none⟩ :: rest) ⟨s, H⟩ = Gt (appendA P H t u (evs s a) (evs s b)) fun p => SeqC P fl K rest (Sta.put ⟨s, H⟩ dd p.1 p.2) := by
  refine Eq.trans ?_ (gt_pair (K := fun x H' => SeqC P fl K rest (Sta.put ⟨s, H⟩ dd x H')))
  apply propext
  constructor
  · rintro ⟨x, H', ⟨a', b', t', u', h1, h2, h3⟩, h4⟩; cases h1; cases h2; exact ⟨x, H', h3, h4⟩
  · rintro ⟨x, H', h3, h4⟩; exact ⟨x, H', ⟨a, b, t, u, rfl, rfl, h3⟩, h4⟩
@[simp] theorem sc_min {as : Array Operand} {ts : Array TypeId} : SeqC P fl K (⟨dd, .call { callee := .builtin .min, args := as, argTypes := ts }, none⟩ :: rest) ⟨s, H⟩ = Gt (minmaxA false (as.toList.map (evs s))) fun x => SeqC P fl K rest (Sta.put ⟨s, H⟩ dd x H) := sc_fun fun _ _ => Iff.rfl
@[simp] theorem sc_max {as : Array Operand} {ts : Array TypeId} : SeqC P fl K (⟨dd, .call { callee := .builtin .max, args := as, argTypes := ts }, none⟩ :: rest) ⟨s, H⟩ = Gt (minmaxA true (as.toList.map (evs s))) fun x => SeqC P fl K rest (Sta.put ⟨s, H⟩ dd x H) := sc_fun fun _ _ => Iff.rfl

@[simp] theorem sc_move_g : SeqC P fl K (⟨dd, .move a, some (k, f)⟩ :: rest) ⟨s, H⟩ = Gt (wantA (s k) f) fun q => SeqC P fl K rest (Sta.put ⟨s, H⟩ dd (gd q (evs s a)) H) := by
  rw [sc_fun_g (F := some (evs s a)) (fun x H' => by simp [OpR, eq_comm])]; simp
@[simp] theorem sc_bin_g {op : BinOp} {u : TypeId} : SeqC P fl K (⟨dd, .binOp op t a b u, some (k, f)⟩ :: rest) ⟨s, H⟩ = Gt (wantA (s k) f) fun q => GtG q (binA P op t (evs s a) (evs s b)) fun x => SeqC P fl K rest (Sta.put ⟨s, H⟩ dd x H) := sc_fun_g fun _ _ => Iff.rfl
@[simp] theorem sc_un_g {op : UnOp} : SeqC P fl K (⟨dd, .unOp op t a, some (k, f)⟩ :: rest) ⟨s, H⟩ = Gt (wantA (s k) f) fun q => GtG q (unA op (evs s a)) fun x => SeqC P fl K rest (Sta.put ⟨s, H⟩ dd x H) := sc_fun_g fun _ _ => Iff.rfl
@[simp] theorem sc_conv_g {u : TypeId} : SeqC P fl K (⟨dd, .convert t u a, some (k, f)⟩ :: rest) ⟨s, H⟩ = Gt (wantA (s k) f) fun q => GtG q (convA P t u (evs s a)) fun x => SeqC P fl K rest (Sta.put ⟨s, H⟩ dd x H) := sc_fun_g fun _ _ => Iff.rfl
@[simp] theorem sc_load_g : SeqC P fl K (⟨dd, .load t a, some (k, f)⟩ :: rest) ⟨s, H⟩ = Gt (wantA (s k) f) fun q => GtG q (loadA P H t (evs s a)) fun x => SeqC P fl K rest (Sta.put ⟨s, H⟩ dd x H) := sc_fun_g fun _ _ => Iff.rfl
@[simp] theorem sc_fieldAddr_g {i : Nat} : SeqC P fl K (⟨dd, .fieldAddr t a i, some (k, f)⟩ :: rest) ⟨s, H⟩ = Gt (wantA (s k) f) fun q => GtG q (fieldAddrA P t (evs s a) i) fun x => SeqC P fl K rest (Sta.put ⟨s, H⟩ dd x H) := sc_fun_g fun _ _ => Iff.rfl
@[simp] theorem sc_indexAddr_g : SeqC P fl K (⟨dd, .indexAddr t a b, some (k, f)⟩ :: rest) ⟨s, H⟩ = Gt (wantA (s k) f) fun q => GtG q (indexAddrA P H t (evs s a) (evs s b)) fun x => SeqC P fl K rest (Sta.put ⟨s, H⟩ dd x H) := sc_fun_g fun _ _ => Iff.rfl
@[simp] theorem sc_build_g {ps : Array (Nat × Operand)} : SeqC P fl K (⟨dd, .build t ps, some (k, f)⟩ :: rest) ⟨s, H⟩ = Gt (wantA (s k) f) fun q => GB P q t [] (ps.toList.map fun p => (p.1, evs s p.2)) fun x => SeqC P fl K rest (Sta.put ⟨s, H⟩ dd x H) := sc_fun_g fun _ _ => Iff.rfl
@[simp] theorem sc_extract_g {i : Nat} : SeqC P fl K (⟨dd, .extract a i, some (k, f)⟩ :: rest) ⟨s, H⟩ = Gt (wantA (s k) f) fun q => GtG q (extractA (evs s a) i) fun x => SeqC P fl K rest (Sta.put ⟨s, H⟩ dd x H) := sc_fun_g fun _ _ => Iff.rfl
@[simp] theorem sc_pick_g {c : Operand} : SeqC P fl K (⟨dd, .pick c a b, some (k, f)⟩ :: rest) ⟨s, H⟩ = Gt (wantA (s k) f) fun q => GtG q (selA (evs s c) (evs s a) (evs s b)) fun x => SeqC P fl K rest (Sta.put ⟨s, H⟩ dd x H) :=
  sc_fun_g fun x H' => by
    simp only [OpR, selA_iff]
    exact ⟨fun ⟨q, h1, h2, h3⟩ => ⟨⟨q, h1, h2⟩, h3⟩, fun ⟨⟨q, h1, h2⟩, h3⟩ => ⟨q, h1, h2, h3⟩⟩
@[simp] theorem sc_len_g : SeqC P fl K (⟨dd, .call { callee := .builtin .len, args := #[a], argTypes := #[t] }, some (k, f)⟩ :: rest) ⟨s, H⟩ = Gt (wantA (s k) f) fun q => GtG q (lenA P t (evs s a)) fun x => SeqC P fl K rest (Sta.put ⟨s, H⟩ dd x H) :=
  sc_fun_g fun x H' => by simp only [OpR]; constructor
                          · rintro ⟨a', t', h1, h2, h3, h4⟩; cases h1; cases h2; exact ⟨h3, h4⟩
                          · rintro ⟨h1, h2⟩; exact ⟨a, t, rfl, rfl, h1, h2⟩
/-- A call by its contract. -/
theorem sc_call {g : FuncId} {as : Array Operand} {ts : Array TypeId} {x : A} (hs : Spec P g (as.toList.map (evs s)) x) (hb : (as.toList.map (evs s)).all A.bare = true) (h : SeqC P fl K rest (Sta.put ⟨s, H⟩ dd x H)) :
    SeqC P fl K (⟨dd, .call { callee := .value (.func g), args := as, argTypes := ts }, none⟩ :: rest) ⟨s, H⟩ :=
  ⟨x, H, ⟨g, [], rfl, .inl ⟨by simpa using hb, by simpa using hs⟩, rfl⟩, h⟩
theorem sc_call_g {g : FuncId} {as : Array Operand} {ts : Array TypeId} {x : A} {q : Bool} (hq : wantA (s k) f = some q) (hs : q = true → Spec P g (as.toList.map (evs s)) x ∧ (as.toList.map (evs s)).all A.bare = true)
    (h : SeqC P fl K rest (Sta.put ⟨s, H⟩ dd (gd q x) H)) :
    SeqC P fl K (⟨dd, .call { callee := .value (.func g), args := as, argTypes := ts }, some (k, f)⟩ :: rest) ⟨s, H⟩ :=
  ⟨_, H, ⟨q, x, hq, fun e => ⟨g, [], rfl, .inl ⟨by simpa using (hs e).2, by simpa using (hs e).1⟩, rfl⟩, rfl, fun _ => rfl⟩, h⟩
end
end

section
variable {P : Program} {fl : Bool} {K : Sta → Prop} {rest : List CO} {s : Nat → A} {H : List Ob} {dd : Option Nat} {k : Nat} {g : FuncId} {as : Array Operand} {ts : Array TypeId} {x : A} {q : Bool} {L : List A}
/-- A call that is made where a slot holds true. -/
theorem sc_call_gt (hq : s k = .v (.bool q)) (hs : q = true → Spec P g L x) (hL : q = true → as.toList.map (evs s) = L) (hb : L.all A.bare = true)
    (h : SeqC P fl K rest (Sta.put ⟨s, H⟩ dd (gd q x) H)) :
    SeqC P fl K (⟨dd, .call { callee := .value (.func g), args := as, argTypes := ts }, some (k, true)⟩ :: rest) ⟨s, H⟩ :=
  sc_call_g (q := q) (by rw [hq]; simp [wantA]) (fun e => by rw [hL e]; exact ⟨hs e, hb⟩) h
/-- A call that is made where a slot holds false. -/
theorem sc_call_gf (hq : s k = .v (.bool q)) (hs : q = false → Spec P g L x) (hL : q = false → as.toList.map (evs s) = L) (hb : L.all A.bare = true)
    (h : SeqC P fl K rest (Sta.put ⟨s, H⟩ dd (gd (!q) x) H)) :
    SeqC P fl K (⟨dd, .call { callee := .value (.func g), args := as, argTypes := ts }, some (k, false)⟩ :: rest) ⟨s, H⟩ :=
  sc_call_g (q := !q) (by rw [hq]; simp [wantA]) (fun e => by have e : q = false := by simpa using e
                                                              rw [hL e]; exact ⟨hs e, hb⟩) h
end

@[simp] theorem bif_bool {q r t : Bool} : (bif q then A.v (.bool r) else A.v (.bool t)) = A.v (.bool (bif q then r else t)) := by cases q <;> rfl
/-! ### what a result reads as -/
theorem frz_bare {H : List Ob} {a : A} (h : a.bare = true) : Frz H a a := fun c w I μ v hs hr => (hr.of_bare h).mono0 (fun b hb => .inl hb) (fun _ _ => rfl)
theorem sl_weak {w : World} {I : Nat → Prop} {μ : Mu} {f : Bool} {xs : List A} {v : Value} (h : Rel w I μ (.sl f xs) v) : Rel w I μ (.sl false xs) v := by
  cases h with
  | slN _ _ a cap _ => exact .slN _ _ _ _ (fun h => by cases h)
  | sl _ _ b off n cap sz _ g h1 h2 h3 h4 h5 h6 h7 h8 => exact .sl _ _ b off n cap sz _ g h1 h2 h3 (fun h => by cases h) h5 h6 h7 h8
theorem frz_sl {H : List Ob} {f : Bool} {xs : List A} : Frz H (.sl f xs) (.sl false xs) := fun c w I μ v hs hr => sl_weak (frz_bare (a := .sl f xs) rfl c w I μ v hs hr)

theorem frz_osl {H : List Ob} {o off len sz : Nat} {xs : List A} (ho : H[o]? = some (.arr sz xs)) (hl : off + len ≤ xs.length) (hb : ((xs.drop off).take len).all (fun x => x.cells.all A.bare1) = true) : Frz H (.osl o off len) (.sl false ((xs.drop off).take len)) := by
  intro c w I μ v hs hr
  have hlen : ((xs.drop off).take len).length = len := by simp; omega
  cases hr with
  | oslZ _ _ _ a => simp only [List.take_zero]; exact .slN _ _ _ _ (fun h => by cases h)
  | osl _ _ _ _ cap L hL h1 h2 =>
    rcases hs.ob o _ ho with ⟨k1, _⟩ | ⟨L', vs, k1, k2, k3, k4, k5, k6, k7⟩
    · rw [hL] at k1; cases k1
    · rw [hL] at k1
      cases k1
      subst k2
      have hg : ∀ (k : Nat) (y : A), (((xs.drop off).take len).flatMap A.cells)[k]? = some y → (xs.flatMap A.cells)[off * L.sz + k]? = some y := fun k y hk => flat_take_drop k6 hk
      refine .sl _ _ L.b (off * L.sz) _ _ L.sz _ (fun k => vs.getD (off * L.sz + k) undef) (Or.inr ⟨o, _, L, ho, rfl, hL, rfl⟩) hlen.symm (by omega) (fun h => by cases h) (fun z hz => k6 z (List.mem_of_mem_drop (List.mem_of_mem_take hz)))
        (fun k y hk => (k7 _ y (hg k y hk)).1) (fun k y hk => ?_) (fun k y hk => ?_)
      · have h3 := hg k y hk
        have h4 := flat_len k6
        have h5 : xs.length * L.sz ≤ L.cap * L.sz := Nat.mul_le_mul_right _ k5
        have h6 := (List.getElem?_eq_some_iff.1 h3).1
        rw [cell_of_row w L.b _ vs L.e (0, 0) k3]
        have : off * L.sz + k < vs.size := by rw [k4]; omega
        simp [this]
      · have hb1 : y.bare1 = true := by
          obtain ⟨z, hz, hy⟩ := List.mem_flatMap.1 (List.mem_of_getElem? hk)
          simp only [List.all_eq_true] at hb
          exact hb z hz y hy
        exact ((k7 _ y (hg k y hk)).2.of_bare1 hb1).mono0 (fun b hb => .inl hb) (fun _ _ => rfl)

theorem frz_agg {H : List Ob} {cs cs' : List A} (h : FrzL H cs cs') : Frz H (.agg cs) (.agg cs') := by
  intro c w I μ v hs hr
  obtain ⟨hl, hg⟩ := frzL_get h
  cases hr with
  | agg _ _ vs h1 h2 =>
    refine .agg _ _ _ (by omega) fun k y hk => ?_
    obtain ⟨a, ha, hf⟩ := hg k y hk
    exact hf c w I μ _ hs (h2 k a ha)
theorem frz_tup {H : List Ob} {cs cs' : List A} (h : FrzL H cs cs') : Frz H (.tup cs) (.tup cs') := by
  intro c w I μ v hs hr
  obtain ⟨hl, hg⟩ := frzL_get h
  cases hr with
  | tup _ _ vs h1 h2 =>
    refine .tup _ _ _ (by omega) fun k y hk => ?_
    obtain ⟨a, ha, hf⟩ := hg k y hk
    exact hf c w I μ _ hs (h2 k a ha)
theorem frz_pob {H : List Ob} {o : Nat} {cs cs' : List A} (ho : H[o]? = some (.cells cs)) (h : FrzL H cs cs') (h1 : A.ones cs' = true) : Frz H (.pob o 0) (.pim cs') := by
  intro c w I μ v hs hr
  obtain ⟨hl, hg⟩ := frzL_get h
  cases hr with
  | pob _ _ _ L hL =>
    obtain ⟨L', vs, k1, k2, k3, k4⟩ := hs.ob o _ ho
    rw [hL] at k1
    cases k1
    refine .pim _ L.b 0 _ (fun k => vs.getD k undef) (Or.inr ⟨o, _, L, ho, rfl, hL, rfl⟩) (fun k y hk => ?_) (fun k y hk => ?_) (fun k y hk => ?_)
    · simp only [A.ones, List.all_eq_true] at h1
      exact h1 y (List.mem_of_getElem? hk)
    · rw [Nat.zero_add, cell_of_row w L.b k vs L.e (0, 0) k2]
      have : k < vs.size := by rw [k3, ← hl]; exact (List.getElem?_eq_some_iff.1 hk).1
      simp [this]
    · obtain ⟨a, ha, hf⟩ := hg k y hk
      exact hf c w I μ _ hs (k4 k a ha).2
end Go.Ab
