/-
  The steps as equations, for simp.
-/
import Derived.Test.YtebihdhapepejaaDoorGShape
namespace Go.G
set_option linter.unusedVariables false
set_option linter.unusedSimpArgs false
open Go.RowKit

/-! ### what is looked at first -/
/-- There is one, and it serves. -/
def Gt {α : Type} (F : Option α) (K : α → Prop) : Prop := ∃ x, F = some x ∧ K x
/-- Likewise, in one case alone. -/
def GtG (q : Bool) (F : Option A) (K : A → Prop) : Prop := ∃ x, (q = true → F = some x) ∧ K (gd q x)
def Imp (q : Bool) (F : Prop) : Prop := q = true → F
/-- The one or the other. -/
def Cnd (b : Bool) (F G : Prop) : Prop := (b = true → F) ∧ (b = false → G)
@[congr] theorem Gt_congr {α : Type} {F F' : Option α} {K : α → Prop} (h : F = F') : Gt F K = Gt F' K := by rw [h]
@[congr] theorem GtG_congr {q q' : Bool} {F F' : Option A} {K : A → Prop} (h1 : q = q') (h2 : F = F') : GtG q F K = GtG q' F' K := by rw [h1, h2]
@[congr] theorem Cnd_congr {b b' : Bool} {F G : Prop} (h : b = b') : Cnd b F G = Cnd b' F G := by rw [h]
@[congr] theorem SeqC_congr {P : Program} {K : Kont} {l : List CO} {lg lg' : Lg} {st st' : Sta} (h0 : lg = lg') (h : st = st') : SeqC P K l lg st = SeqC P K l lg' st' := by rw [h0, h]
@[congr] theorem WPC_congr {c : Cx} {x : CC} {Q : Exit → Sta → Prop} {st st' : Sta} (h : st = st') : WPC c x Q st = WPC c x Q st' := by rw [h]
@[congr] theorem LoopC_congr {c : Cx} {x : CC} {Q : Exit → Sta → Prop} {st st' : Sta} (h : st = st') : LoopC c x Q st = LoopC c x Q st' := by rw [h]
@[congr] theorem ThenC_congr {K : Sta → Prop} {Q : Exit → Sta → Prop} {e e' : Exit} {st st' : Sta} (h0 : e = e') (h : st = st') : ThenC K Q e st = ThenC K Q e' st' := by rw [h0, h]
@[congr] theorem StopK_congr {c : Cx} {K : Sta → Prop} {st st' : Sta} (h : st = st') : StopK c K st = StopK c K st' := by rw [h]
@[congr] theorem InBlock_congr {i : Nat} {Q : Exit → Sta → Prop} {e e' : Exit} {st st' : Sta} (h0 : e = e') (h : st = st') : InBlock i Q e st = InBlock i Q e' st' := by rw [h0, h]
@[congr] theorem NoG_congr {Q : Exit → Sta → Prop} {e e' : Exit} {st st' : Sta} (h0 : e = e') (h : st = st') : NoG Q e st = NoG Q e' st' := by rw [h0, h]
@[simp] theorem Gt_some {α : Type} {x : α} {K : α → Prop} : Gt (some x) K = K x := by simp [Gt]
@[simp] theorem Gt_ite {α : Type} {C : Prop} [Decidable C] {F G : Option α} {K : α → Prop} : Gt (if C then F else G) K = ((C → Gt F K) ∧ (¬C → Gt G K)) := by
  by_cases h : C <;> simp [h]
@[simp] theorem Gt_none {α : Type} {K : α → Prop} : Gt none K = False := by simp [Gt]
@[simp high] theorem Gt_iteN {α : Type} {C : Prop} [Decidable C] {F : Option α} {K : α → Prop} : Gt (if C then F else none) K = (C ∧ Gt F K) := by
  by_cases h : C <;> simp [h]
@[simp] theorem GtG_some {q : Bool} {x : A} {K : A → Prop} : GtG q (some x) K = K (gd q x) := by
  apply propext
  constructor
  · rintro ⟨y, h1, h2⟩
    cases q
    · exact h2
    · cases h1 rfl; exact h2
  · exact fun h => ⟨x, fun _ => rfl, h⟩
@[simp high] theorem GtG_iteN {q : Bool} {C : Prop} [Decidable C] {F : Option A} {K : A → Prop} : GtG q (if C then F else none) K = (Imp q C ∧ GtG q F K) := by
  cases q
  · simp [GtG, Imp]
  · by_cases h : C <;> simp [h, GtG, Imp]
@[simp] theorem GtG_true {F : Option A} {K : A → Prop} : GtG true F K = Gt F K := by simp [GtG, Gt, gd]
@[simp] theorem GtG_false {F : Option A} {K : A → Prop} : GtG false F K = K (.v undef) := by simp [GtG, gd]
@[simp] theorem Imp_true {F : Prop} : Imp true F = F := by simp [Imp]
@[simp] theorem Imp_false {F : Prop} : Imp false F = True := by simp [Imp]
@[simp] theorem Imp_trivial {q : Bool} : Imp q True = True := by simp [Imp]
@[simp] theorem Imp_decide {p : Prop} [Decidable p] {F : Prop} : Imp (decide p) F = (p → F) := by simp [Imp]
@[simp] theorem Cnd_true {F G : Prop} : Cnd true F G = F := by simp [Cnd]
@[simp] theorem Cnd_false {F G : Prop} : Cnd false F G = G := by simp [Cnd]
@[simp] theorem Cnd_decide {p : Prop} [Decidable p] {F G : Prop} : Cnd (decide p) F G = ((p → F) ∧ (¬p → G)) := by simp [Cnd]
@[simp] theorem Cnd_not {b : Bool} {F G : Prop} : Cnd (!b) F G = Cnd b G F := by cases b <;> simp
@[simp] theorem Cnd_and {a b : Bool} {F G : Prop} : Cnd (a && b) F G = (((a && b) = true → F) ∧ ((a && b) = false → G)) := rfl
@[simp] theorem Cnd_or {a b : Bool} {F G : Prop} : Cnd (a || b) F G = (((a || b) = true → F) ∧ ((a || b) = false → G)) := rfl
@[simp] theorem Cnd_self {b : Bool} {F : Prop} : Cnd b F F = F := by cases b <;> simp
@[simp] theorem gd_true {x : A} : gd true x = x := rfl
@[simp] theorem gd_false {x : A} : gd false x = .v undef := rfl
@[simp] theorem bif_gd {q : Bool} {x y : A} : (bif q then gd q x else y) = bif q then x else y := by cases q <;> rfl
/-- 'Not', as a guard says it (it is not pushed inwards). -/
def ng (b : Bool) : Bool := !b
@[simp] theorem ng_true' : ng true = false := rfl
@[simp] theorem ng_false' : ng false = true := rfl
@[simp] theorem ng_true {b : Bool} : (ng b = true) = (b = false) := by cases b <;> simp [ng]
@[simp] theorem ng_false {b : Bool} : (ng b = false) = (b = true) := by cases b <;> simp [ng]
@[simp] theorem ng_not {b : Bool} : ng (!b) = b := by cases b <;> rfl
@[simp] theorem bif_gd_not {q : Bool} {x y : A} : (bif q then x else gd (!q) y) = bif q then x else y := by cases q <;> rfl
@[simp] theorem gd_bif_not {q c : Bool} {x y : A} : gd q (bif c then x else gd (q && !c) y) = gd q (bif c then x else y) := by cases q <;> cases c <;> rfl
@[simp] theorem Imp_ng {b : Bool} {F : Prop} : Imp (ng b) F = (b = false → F) := by cases b <;> simp [Imp]
@[simp] theorem Imp_and {a b : Bool} {F : Prop} : Imp (a && b) F = Imp a (Imp b F) := by cases a <;> cases b <;> simp [Imp]
@[simp] theorem Imp_or {a b : Bool} {F : Prop} : Imp (a || b) F = (Imp a F ∧ Imp b F) := by cases a <;> cases b <;> simp [Imp]
@[simp] theorem Imp_not {a : Bool} {F : Prop} : Imp (!a) F = (a = false → F) := by cases a <;> simp [Imp]
@[simp] theorem Cnd_ng {b : Bool} {F G : Prop} : Cnd (ng b) F G = Cnd b G F := by cases b <;> simp [Cnd]
@[simp] theorem bif_gd' {q : Bool} {x y : A} : (bif q then x else gd (ng q) y) = bif q then x else y := by cases q <;> rfl
@[simp] theorem wantA_bool {b : Bool} : wantA (.v (.bool b)) true = some b := by cases b <;> rfl
@[simp] theorem wantA_boolf {b : Bool} : wantA (.v (.bool b)) false = some (ng b) := by cases b <;> rfl
@[simp] theorem wantA_undef {f : Bool} : wantA (.v undef) f = some false := rfl
@[simp] theorem wantA_gd {q b : Bool} : wantA (gd q (.v (.bool b))) true = some (q && b) := by cases q <;> cases b <;> rfl
@[simp] theorem wantA_gdf {q b : Bool} : wantA (gd q (.v (.bool b))) false = some (q && ng b) := by cases q <;> cases b <;> rfl
@[simp] theorem gd_bif1 {q c : Bool} {x y : A} : gd q (bif c then gd (q && c) x else y) = gd q (bif c then x else y) := by cases q <;> cases c <;> rfl
@[simp] theorem gd_bif2 {q c : Bool} {x y : A} : gd q (bif c then x else gd (q && ng c) y) = gd q (bif c then x else y) := by cases q <;> cases c <;> rfl
@[simp] theorem gd_gd {q : Bool} {x : A} : gd q (gd q x) = gd q x := by cases q <;> rfl

theorem gt_pair {α β : Type} {F : Option (α × β)} {K : α → β → Prop} : (∃ x y, F = some (x, y) ∧ K x y) = Gt F fun p => K p.1 p.2 := by
  apply propext
  constructor
  · rintro ⟨x, y, h1, h2⟩; exact ⟨(x, y), h1, h2⟩
  · rintro ⟨⟨x, y⟩, h1, h2⟩; exact ⟨x, y, h1, h2⟩

@[simp] theorem boolA_bool {b : Bool} : boolA (.v (.bool b)) = some b := rfl
@[simp] theorem selA_bool {b : Bool} {x y : A} : selA (.v (.bool b)) x y = some (bif b then x else y) := rfl
@[simp] theorem cond_same {α : Type} {b : Bool} {x : α} : (bif b then x else x) = x := by cases b <;> rfl

/-! ### the text's steps -/
section
variable {c : Cx} {Q : Exit → Sta → Prop} {st : Sta} {K : Sta → Prop}
@[simp] theorem wpc_skip : WPC c .skip Q st = Q .normal st := rfl
@[simp] theorem wpc_exit {i : Nat} : WPC c (.exit i) Q st = Q (.exit i) st := rfl
@[simp] theorem wpc_ret : WPC c .ret Q st = Q .ret st := rfl
/-- What is left behind a region. -/
def KeepK (Q : Exit → Sta → Prop) (live : List Nat) (st : Sta) : Prop := Q .normal (st.keep live)
@[simp] theorem keepK_eq {live : List Nat} : KeepK Q live st = Q .normal (st.keep live) := rfl
@[simp] theorem wpc_reg {ops : List CO} {live : List Nat} : WPC c (.reg ops live) Q st = SeqC c.P ⟨c.die, KeepK Q live⟩ ops [] st := rfl
@[simp] theorem wpc_seq {x y : CC} : WPC c (.seq x y) Q st = WPC c x (ThenC (WPC c y Q) Q) st := rfl
@[simp] theorem wpc_block {i : Nat} {x : CC} : WPC c (.block i x) Q st = WPC c x (InBlock i Q) st := rfl
@[simp] theorem wpc_loop {x : CC} : WPC c (.loop x) Q st = LoopC c x Q st := rfl
@[simp] theorem wpc_scope {x : CC} : WPC c (.scope x) Q st = WPC c x (NoG Q) st := rfl
@[simp] theorem noG_normal : NoG Q .normal st = Q .normal st := rfl
@[simp] theorem noG_exit {i : Nat} : NoG Q (.exit i) st = Q (.exit i) st := rfl
@[simp] theorem noG_ret : NoG Q .ret st = Q .ret st := rfl
@[simp] theorem wpc_stop {x : CC} : WPC c (.stop x) Q st = StopK c (WPC c x Q) st := rfl
@[simp] theorem wpc_keep {live : List Nat} {x : CC} : WPC c (.keep live x) Q st = WPC c x Q (st.keep live) := rfl
@[simp] theorem wpc_cond {o : Operand} {x y : CC} : WPC c (.cond o x y) Q st = Gt (boolA (evs st.s o)) fun b => Cnd b (WPC c x Q st) (WPC c y Q st) := by
  apply propext
  constructor
  · rintro ⟨b, h1, h2, h3⟩; exact ⟨b, by rw [h1]; rfl, h2, h3⟩
  · rintro ⟨b, h1, h2, h3⟩; exact ⟨b, boolA_some h1, h2, h3⟩
@[simp] theorem thenC_normal : ThenC K Q .normal st = K st := rfl
@[simp] theorem thenC_exit {i : Nat} : ThenC K Q (.exit i) st = Q (.exit i) st := rfl
@[simp] theorem thenC_ret : ThenC K Q .ret st = Q .ret st := rfl
theorem loopC_once {x x' : CC} (hm : c.P.follows .mixedOrders = true) (he : x = x') (h : WPC c x' (ThenC (LoopC c x Q) Q) st) : LoopC c x Q st := by
  subst he
  exact loopC_round hm h
@[simp] theorem cx_P {P : Program} {w0 : World} {I0 : Nat → Prop} {n : Nat} : (cx P w0 I0 n).P = P := rfl
/-- What the first part leaves is said once. -/
theorem seq_cut {x y : CC} (M : Sta → Prop) (h1 : WPC c x (ThenC M Q) st) (h2 : ∀ st', M st' → WPC c y Q st') : WPC c (.seq x y) Q st :=
  WPC.mono (x := x) (fun e st' h => by cases e <;> first | exact h2 _ h | exact h) h1
variable {P : Program} {rs : List ResultVar} {r : A}
@[simp] theorem retC_normal : RetC P rs r .normal st = Gt (resA P st rs) fun r0 => Frz st.H r0 r := rfl
@[simp] theorem retC_ret : RetC P rs r .ret st = Gt (resA P st rs) fun r0 => Frz st.H r0 r := rfl
@[simp] theorem resOne_tmp {t : Nat} : resOne P st (.tmp t) = some (st.s t) := rfl
@[simp] theorem resOne_cell {t : TypeId} {a : Nat} : resOne P st (.cell a t) = loadA P st.H t (st.s a) := rfl
@[simp] theorem resA_one {x : ResultVar} : resA P st [x] = resOne P st x := rfl
@[simp] theorem resA_two {x y : ResultVar} {l : List ResultVar} : resA P st (x :: y :: l) = (resList P st (x :: y :: l)).map .tup := rfl
@[simp] theorem resA_nil : resA P st [] = some (.tup []) := rfl
@[simp] theorem resList_nil : resList P st [] = some [] := rfl
@[simp] theorem resList_cons {x : ResultVar} {l : List ResultVar} : resList P st (x :: l) = match resOne P st x, resList P st l with | some x, some l => some (x :: l) | _, _ => none := rfl
end

section
variable {P : Program} {H : Hp} {t u : TypeId} {q : Bool} {x y z : A} {K : A → Prop}
theorem GtG_same {F F' : Option A} (h : q = true → F = F') : GtG q F K = GtG q F' K := by
  cases q
  · simp
  · rw [h rfl]
@[simp] theorem GtG_binl {op : BinOp} : GtG q (binA P op t (gd q x) y) K = GtG q (binA P op t x y) K := GtG_same fun h => by rw [h]; rfl
@[simp] theorem GtG_binr {op : BinOp} : GtG q (binA P op t x (gd q y)) K = GtG q (binA P op t x y) K := GtG_same fun h => by rw [h]; rfl
@[simp] theorem GtG_un {op : UnOp} : GtG q (unA op (gd q y)) K = GtG q (unA op y) K := GtG_same fun h => by rw [h]; rfl
@[simp] theorem GtG_conv : GtG q (convX P t u (gd q y)) K = GtG q (convX P t u y) K := GtG_same fun h => by rw [h]; rfl
@[simp] theorem GtG_load : GtG q (loadA P H t (gd q y)) K = GtG q (loadA P H t y) K := GtG_same fun h => by rw [h]; rfl
@[simp] theorem GtG_fieldAddr {i : Nat} : GtG q (fieldAddrA P t (gd q y) i) K = GtG q (fieldAddrA P t y i) K := GtG_same fun h => by rw [h]; rfl
@[simp] theorem GtG_indexAddrl : GtG q (indexAddrA P t (gd q x) y) K = GtG q (indexAddrA P t x y) K := GtG_same fun h => by rw [h]; rfl
@[simp] theorem GtG_indexAddrr : GtG q (indexAddrA P t x (gd q y)) K = GtG q (indexAddrA P t x y) K := GtG_same fun h => by rw [h]; rfl
@[simp] theorem GtG_len : GtG q (lenA P t (gd q y)) K = GtG q (lenA P t y) K := GtG_same fun h => by rw [h]; rfl
@[simp] theorem GtG_sel : GtG q (selA (gd q z) x y) K = GtG q (selA z x y) K := GtG_same fun h => by rw [h]; rfl
theorem GtG_split {F : Option A} (h1 : q = true → Gt F K) (h2 : q = false → K (.v undef)) : GtG q F K := by
  cases q
  · rw [GtG_false]; exact h2 rfl
  · rw [GtG_true]; exact h1 rfl
/-- A build, its operands one by one. -/
def GB (P : Program) (q : Bool) (t : TypeId) (acc l : List (Nat × A)) (K : A → Prop) : Prop := GtG q (buildA P t (acc ++ l)) K
@[congr] theorem GB_congr {q' : Bool} {acc l l' : List (Nat × A)} (h0 : q = q') (h : l = l') : GB P q t acc l K = GB P q' t acc l' K := by rw [h0, h]
@[simp] theorem GB_nil {acc : List (Nat × A)} : GB P q t acc [] K = GtG q (buildA P t acc) K := by simp [GB]
theorem GB_keep {acc l : List (Nat × A)} {i : Nat} : GB P q t acc ((i, x) :: l) K = GB P q t (acc ++ [(i, x)]) l K := by simp [GB]
@[simp] theorem GB_gd {acc l : List (Nat × A)} {i : Nat} : GB P q t acc ((i, gd q x) :: l) K = GB P q t (acc ++ [(i, x)]) l K := by
  rw [← GB_keep]
  exact GtG_same fun h => by rw [h]; rfl
@[simp] theorem GB_v {acc l : List (Nat × A)} {i : Nat} {a : Value} : GB P q t acc ((i, .v a) :: l) K = GB P q t (acc ++ [(i, .v a)]) l K := GB_keep
@[simp] theorem GB_sl {acc l : List (Nat × A)} {i : Nat} {b : Bool} {xs : List A} : GB P q t acc ((i, .sl b xs) :: l) K = GB P q t (acc ++ [(i, .sl b xs)]) l K := GB_keep
@[simp] theorem GB_osl {acc l : List (Nat × A)} {i u z m n : Nat} {o : Nm} : GB P q t acc ((i, .osl o u z m n) :: l) K = GB P q t (acc ++ [(i, .osl o u z m n)]) l K := GB_keep
@[simp] theorem GB_pob {acc l : List (Nat × A)} {i u m : Nat} {o : Nm} : GB P q t acc ((i, .pob o u m) :: l) K = GB P q t (acc ++ [(i, .pob o u m)]) l K := GB_keep
@[simp] theorem GB_pim {acc l : List (Nat × A)} {i : Nat} {xs : List A} : GB P q t acc ((i, .pim xs) :: l) K = GB P q t (acc ++ [(i, .pim xs)]) l K := GB_keep
@[simp] theorem GB_agg {acc l : List (Nat × A)} {i : Nat} {xs : List A} : GB P q t acc ((i, .agg xs) :: l) K = GB P q t (acc ++ [(i, .agg xs)]) l K := GB_keep
@[simp] theorem GtG_extract {i : Nat} : GtG q (extractA (gd q y) i) K = GtG q (extractA y i) K := GtG_same fun h => by rw [h]; rfl
end

/-! ### what the operations yield, by the operands' shape -/
section
variable {P : Program} {H : Hp} {t u : TypeId}
@[simp] theorem binA_int {op : BinOp} {q r : IntKind} {a b : Int} : binA P op t (.v (.int q a)) (.v (.int r b)) = intA op q r a b := rfl
@[simp] theorem binA_str {op : BinOp} {a b : ByteArray} : binA P op t (.v (.string a)) (.v (.string b)) = strA op a b := rfl
@[simp] theorem binA_eq_agg {xs ys : List A} : binA P .eql t (.agg xs) (.agg ys) = if P.eqGuardType P.depth t = false then (eqA P 100 t (.agg xs) (.agg ys)).map fun b => .v (.bool b) else none := rfl
@[simp] theorem binA_ne_agg {xs ys : List A} : binA P .neq t (.agg xs) (.agg ys) = if P.eqGuardType P.depth t = false then (eqA P 100 t (.agg xs) (.agg ys)).map fun b => .v (.bool (!b)) else none := rfl
@[simp] theorem intA_shl {q r : IntKind} {a b : Int} : intA .shl q r a b = if 0 ≤ b then some (.v (.int q (q.wrap (a * 2 ^ (min b.toNat q.bits))))) else none := rfl
@[simp] theorem intA_shr {q r : IntKind} {a b : Int} : intA .shr q r a b = if 0 ≤ b then some (.v (.int q (a / 2 ^ (min b.toNat q.bits)))) else none := rfl
@[simp] theorem intA_add {q : IntKind} {a b : Int} : intA .add q q a b = some (.v (.int q (q.wrap (a + b)))) := by simp [intA]
@[simp] theorem intA_sub {q : IntKind} {a b : Int} : intA .sub q q a b = some (.v (.int q (q.wrap (a - b)))) := by simp [intA]
@[simp] theorem intA_mul {q : IntKind} {a b : Int} : intA .mul q q a b = some (.v (.int q (q.wrap (a * b)))) := by simp [intA]
@[simp] theorem intA_quo {q : IntKind} {a b : Int} : intA .quo q q a b = if b = 0 then none else some (.v (.int q (q.wrap (a.tdiv b)))) := by simp [intA]
@[simp] theorem intA_rem {q : IntKind} {a b : Int} : intA .rem q q a b = if b = 0 then none else some (.v (.int q (a.tmod b))) := by simp [intA]
@[simp] theorem intA_and {q : IntKind} {a b : Int} : intA .and q q a b = some (.v (.int q (bits .and q a b))) := by simp [intA]
@[simp] theorem intA_or {q : IntKind} {a b : Int} : intA .or q q a b = some (.v (.int q (bits .or q a b))) := by simp [intA]
@[simp] theorem intA_xor {q : IntKind} {a b : Int} : intA .xor q q a b = some (.v (.int q (bits .xor q a b))) := by simp [intA]
@[simp] theorem intA_andNot {q : IntKind} {a b : Int} : intA .andNot q q a b = some (.v (.int q (bits .andNot q a b))) := by simp [intA]
@[simp] theorem intA_eql {q : IntKind} {a b : Int} : intA .eql q q a b = some (.v (.bool (decide (a = b)))) := by simp [intA]; rfl
@[simp] theorem intA_neq {q : IntKind} {a b : Int} : intA .neq q q a b = some (.v (.bool (!decide (a = b)))) := by simp [intA]; rfl
@[simp] theorem intA_lss {q : IntKind} {a b : Int} : intA .lss q q a b = some (.v (.bool (decide (a < b)))) := by simp [intA]
@[simp] theorem intA_leq {q : IntKind} {a b : Int} : intA .leq q q a b = some (.v (.bool (decide (a ≤ b)))) := by simp [intA]
@[simp] theorem intA_gtr {q : IntKind} {a b : Int} : intA .gtr q q a b = some (.v (.bool (decide (b < a)))) := by simp [intA]
@[simp] theorem intA_geq {q : IntKind} {a b : Int} : intA .geq q q a b = some (.v (.bool (decide (b ≤ a)))) := by simp [intA]
@[simp] theorem unA_not {b : Bool} : unA .not (.v (.bool b)) = some (.v (.bool (!b))) := rfl
@[simp] theorem unA_neg {q : IntKind} {n : Int} : unA .neg (.v (.int q n)) = some (.v (.int q (q.wrap (0 - n)))) := rfl
@[simp] theorem convX_int {u : TypeId} {k : IntKind} {n : Int} : convX P t u (.v (.int k n)) = convA P t u (.v (.int k n)) := rfl
@[simp] theorem convX_sl {u : TypeId} {f : Bool} {xs : List A} : convX P t u (.sl f xs) = convA P t u (.sl f xs) := rfl
@[simp] theorem convX_osl {u : TypeId} {o : Nm} {v z off n : Nat} : convX P t u (.osl o v z off n) = convA P t u (.osl o v z off n) := rfl
@[simp] theorem convX_bool {u : TypeId} {q : Bool} : convX P t u (.v (.bool q)) = convA P t u (.v (.bool q)) := rfl
@[simp] theorem convX_agg {u : TypeId} {xs : List A} : convX P t u (.agg xs) = convA P t u (.agg xs) := rfl
@[simp] theorem convX_str {u : TypeId} {l : List UInt8} : convX P t u (.v (.string ⟨l.toArray⟩)) = match P.underlying t, P.underlying u with
    | some .string, some (.slice e) => match P.underlying e with
      | some (.int .u8) => some (.sl false (l.map fun b => .v (.int .u8 b.toNat)))
      | _ => none
    | _, _ => convA P t u (.v (.string ⟨l.toArray⟩)) := rfl
theorem convA_int {u : TypeId} {d : TypeDesc} {q r : IntKind} {n : Int} (h1 : P.underlying t = some d) (h2 : P.underlying u = some (.int q)) : convA P t u (.v (.int r n)) = some (.v (.int q (q.wrap n))) := by unfold convA; rw [h1, h2]
@[simp] theorem load_pim {cs : List A} : loadA P H t (.pim cs) = match aggT P t, szT P t with | some g, some sz => pickA g sz cs | _, _ => none := rfl
@[simp] theorem pick_agg {sz : Nat} {cs : List A} : pickA true sz cs = if sz ≤ cs.length then some (.agg (cs.take sz)) else none := rfl
@[simp] theorem pick_cell {sz : Nat} {cs : List A} : pickA false sz cs = cs[0]? := rfl
@[simp] theorem isNilC_tmp {n : Nat} : isNilC (.tmp n) = false := rfl
@[simp] theorem isNilC_int {k : IntKind} {n : Int} : isNilC (.const (.int k n)) = false := rfl
@[simp] theorem isNilC_bool {n : Bool} : isNilC (.const (.bool n)) = false := rfl
@[simp] theorem isNilC_str {n : ByteArray} : isNilC (.const (.string n)) = false := rfl
@[simp] theorem isNilC_ptr {n : Option Addr} : isNilC (.const (.pointer n)) = false := rfl
@[simp] theorem isNilC_agg {n : Array Value} : isNilC (.const (.agg n)) = false := rfl
@[simp] theorem isNilC_ifc : isNilC (.const .nilIface) = false := rfl
@[simp] theorem isNilC_nil : isNilC (.const (.slice none 0 0)) = true := rfl
@[simp] theorem isNilI_tmp {n : Nat} : isNilI (.tmp n) = false := rfl
@[simp] theorem isNilI_int {k : IntKind} {n : Int} : isNilI (.const (.int k n)) = false := rfl
@[simp] theorem isNilI_bool {n : Bool} : isNilI (.const (.bool n)) = false := rfl
@[simp] theorem isNilI_str {n : ByteArray} : isNilI (.const (.string n)) = false := rfl
@[simp] theorem isNilI_ptr {n : Option Addr} : isNilI (.const (.pointer n)) = false := rfl
@[simp] theorem isNilI_agg {n : Array Value} : isNilI (.const (.agg n)) = false := rfl
@[simp] theorem isNilI_ifc : isNilI (.const .nilIface) = true := rfl
@[simp] theorem nilIA_nil : nilIA (.v .nilIface) = some true := rfl
@[simp] theorem nilIA_ifc {u : TypeId} {y : A} : nilIA (.ifc u y) = some false := rfl
@[simp] theorem nilBinI_eq {x : A} : nilBinI P .eql t x = match P.underlying t with | some (.interface _) => (nilIA x).map fun b => .v (.bool b) | _ => none := by
  unfold nilBinI
  cases P.underlying t with
  | none => rfl
  | some d => cases d <;> rfl
@[simp] theorem nilBinI_ne {x : A} : nilBinI P .neq t x = match P.underlying t with | some (.interface _) => (nilIA x).map fun b => .v (.bool (!b)) | _ => none := by
  unfold nilBinI
  cases P.underlying t with
  | none => rfl
  | some d => cases d <;> rfl
@[simp] theorem nilBin_eq {x : A} : nilBin P .eql t x = match P.underlying t with | some (.slice _) => (nilA x).map fun b => .v (.bool b) | _ => none := by
  unfold nilBin
  cases P.underlying t with
  | none => rfl
  | some d => cases d <;> rfl
@[simp] theorem nilBin_ne {x : A} : nilBin P .neq t x = match P.underlying t with | some (.slice _) => (nilA x).map fun b => .v (.bool (!b)) | _ => none := by
  unfold nilBin
  cases P.underlying t with
  | none => rfl
  | some d => cases d <;> rfl
@[simp] theorem nilA_cons {f : Bool} {x : A} {xs : List A} : nilA (.sl f (x :: xs)) = some false := rfl
@[simp] theorem nilA_v {a : Option Addr} {n c : Nat} : nilA (.v (.slice a n c)) = some a.isNone := rfl
@[simp] theorem bounds_lh {len : Nat} {lo hi : Option A} : boundsA len lo hi none = match boundA hi len len with | some h => (match boundA lo 0 h with | some l => some (l, h, none) | none => none) | none => none := rfl
@[simp] theorem bound_none {d n : Nat} : boundA none d n = some d := rfl
@[simp] theorem bound_int {k : IntKind} {i : Int} {d n : Nat} : boundA (some (.v (.int k i))) d n = if 0 ≤ i ∧ i ≤ n then some i.toNat else none := rfl
@[simp] theorem fullA_none {f : Bool} {h n : Nat} : fullA none f h n = (f && h == n) := rfl
@[simp] theorem fullA_some {f : Bool} {h n m : Nat} : fullA (some m) f h n = (m == h) := rfl
@[simp] theorem shift_pim {n : Nat} {cs : List A} : A.shift n (.pim cs) = some (.pim (cs.drop n)) := rfl
@[simp] theorem shift_pob {n u p : Nat} {o : Nm} : A.shift n (.pob o u p) = some (.pob o u (p + n)) := rfl
@[simp] theorem shift_pel {n u p q : Nat} {o : Nm} : A.shift n (.pel o u p q) = some (.pel o u p (q + n)) := rfl
@[simp] theorem fieldAddr_eq {a : A} {i : Nat} : fieldAddrA P t a i = (fieldOffT P t i).bind a.shift := rfl
@[simp] theorem extract_tup {xs : List A} {i : Nat} : extractA (.tup xs) i = xs[i]? := rfl
@[simp] theorem splice_succ {c : A} {cs news : List A} {n : Nat} : splice (c :: cs) (n + 1) news = c :: splice cs n news := by simp [splice, Nat.add_right_comm]
@[simp] theorem splice_zero {cs news : List A} : splice cs 0 news = news ++ cs.drop news.length := by simp [splice]
end

section
variable {P : Program} {s : Nat → A} {H : Hp}

@[simp] theorem put_some {d : Nat} {x : A} {H' : Hp} : Sta.put ⟨s, H⟩ (some d) x H' = ⟨upd s d x, H'⟩ := rfl
@[simp] theorem put_none {x : A} {H' : Hp} : Sta.put ⟨s, H⟩ none x H' = ⟨s, H'⟩ := rfl
@[simp] theorem upd_at {d t : Nat} {x : A} : upd s d x t = if t = d then x else s t := rfl
@[simp] theorem lk_nil {t : Nat} : lk [] t = .any := rfl
@[simp] theorem lk_cons {d t : Nat} {x : A} {l : List (Nat × A)} : lk ((d, x) :: l) t = if d = t then x else lk l t := rfl
@[simp] theorem argS_at {args : List A} {t : Nat} : argS args t = (args[t]?).getD .any := rfl
@[simp] theorem evs_tmp {t : Nat} : evs s (.tmp t) = s t := rfl
@[simp] theorem evs_const {x : Value} : evs s (.const x) = ofV x := rfl
@[simp] theorem evs_func {g : FuncId} : evs s (.func g) = .fnc g [] [] := rfl
@[simp] theorem keep_eq {live : List Nat} : Sta.keep ⟨s, H⟩ live = ⟨lk (live.map fun k => (k, s k)), H⟩ := rfl
@[simp] theorem ofV_int {q : IntKind} {n : Int} : ofV (.int q n) = .v (.int q n) := rfl
@[simp] theorem ofV_bool {b : Bool} : ofV (.bool b) = .v (.bool b) := rfl
@[simp] theorem ofV_string {b : ByteArray} : ofV (.string b) = .v (.string b) := rfl
@[simp] theorem ofV_pointer {b : Option Addr} : ofV (.pointer b) = .v (.pointer b) := rfl
@[simp] theorem ofV_nil : ofV (.slice none 0 0) = .sl true [] := rfl
@[simp] theorem ofV_agg {cs : Array Value} : ofV (.agg cs) = .agg (cs.toList.map ofV1) := rfl
@[simp] theorem ofV1_int {q : IntKind} {n : Int} : ofV1 (.int q n) = .v (.int q n) := rfl
@[simp] theorem ofV1_bool {b : Bool} : ofV1 (.bool b) = .v (.bool b) := rfl
@[simp] theorem ofV1_string {b : ByteArray} : ofV1 (.string b) = .v (.string b) := rfl
@[simp] theorem ofV1_pointer {b : Option Addr} : ofV1 (.pointer b) = .v (.pointer b) := rfl
@[simp] theorem ofV1_nil : ofV1 (.slice none 0 0) = .sl true [] := rfl

@[simp] theorem cells_agg {cs : List A} : (A.agg cs).cells = cs := rfl
@[simp] theorem cells_v {x : Value} : (A.v x).cells = [.v x] := rfl
@[simp] theorem cells_sl {b : Bool} {xs : List A} : (A.sl b xs).cells = [.sl b xs] := rfl
@[simp] theorem cells_osl {o : Nm} {u z p q : Nat} : (A.osl o u z p q).cells = [.osl o u z p q] := rfl
@[simp] theorem cells_pim {cs : List A} : (A.pim cs).cells = [.pim cs] := rfl
@[simp] theorem cells_pob {o : Nm} {u p : Nat} : (A.pob o u p).cells = [.pob o u p] := rfl
@[simp] theorem ones_nil : A.ones [] = true := rfl
@[simp] theorem ones_cons {a : A} {l : List A} : A.ones (a :: l) = (a.one && A.ones l) := by simp [A.ones]
@[simp] theorem one_int {q : IntKind} {n : Int} : (A.v (.int q n)).one = true := rfl
@[simp] theorem one_bool {b : Bool} : (A.v (.bool b)).one = true := rfl
@[simp] theorem one_string {b : ByteArray} : (A.v (.string b)).one = true := rfl
@[simp] theorem one_pointer {b : Option Addr} : (A.v (.pointer b)).one = true := rfl
@[simp] theorem one_sl {b : Bool} {xs : List A} : (A.sl b xs).one = true := rfl
@[simp] theorem one_osl {o : Nm} {u z p q : Nat} : (A.osl o u z p q).one = true := rfl
@[simp] theorem one_pim {cs : List A} : (A.pim cs).one = true := rfl
@[simp] theorem one_pob {o : Nm} {u p : Nat} : (A.pob o u p).one = true := rfl
@[simp] theorem isPtr_pim {cs : List A} : (A.pim cs).isPtr = true := rfl
@[simp] theorem isPtr_pob {o : Nm} {u p : Nat} : (A.pob o u p).isPtr = true := rfl
@[simp] theorem isPtr_pel {o : Nm} {u p q : Nat} : (A.pel o u p q).isPtr = true := rfl
@[simp] theorem isPtr_v {x : Value} : (A.v x).isPtr = false := rfl
@[simp] theorem bare1_v {x : Value} : (A.v x).bare1 = true := rfl
@[simp] theorem bare1_sl {b : Bool} {xs : List A} : (A.sl b xs).bare1 = true := rfl
@[simp] theorem bare1_pim {cs : List A} : (A.pim cs).bare1 = true := rfl
@[simp] theorem bare1_any : (A.any).bare1 = true := rfl
@[simp] theorem bare1_osl {o : Nm} {u z p q : Nat} : (A.osl o u z p q).bare1 = false := rfl
@[simp] theorem bare1_pob {o : Nm} {u p : Nat} : (A.pob o u p).bare1 = false := rfl
@[simp] theorem bare_v {x : Value} : (A.v x).bare = true := rfl
@[simp] theorem bare_sl {b : Bool} {xs : List A} : (A.sl b xs).bare = true := rfl
@[simp] theorem bare_pim {cs : List A} : (A.pim cs).bare = true := rfl
@[simp] theorem bare_osl {o : Nm} {u z p q : Nat} : (A.osl o u z p q).bare = false := rfl
@[simp] theorem bare_pob {o : Nm} {u p : Nat} : (A.pob o u p).bare = false := rfl
@[simp] theorem bare_agg {cs : List A} : (A.agg cs).bare = cs.all A.bare2 := rfl
@[simp] theorem bare2_v {x : Value} : (A.v x).bare2 = true := rfl
@[simp] theorem bare2_sl {b : Bool} {xs : List A} : (A.sl b xs).bare2 = true := rfl
@[simp] theorem bare2_pim {cs : List A} : (A.pim cs).bare2 = true := rfl
@[simp] theorem bare2_any : (A.any).bare2 = true := rfl
@[simp] theorem bare_fnc {g : FuncId} {fs cs : List A} : (A.fnc g fs cs).bare = (fs.all A.bare1 && cs.all A.bare1) := rfl
@[simp] theorem bare2_fnc {g : FuncId} {fs cs : List A} : (A.fnc g fs cs).bare2 = (fs.all A.bare1 && cs.all A.bare1) := rfl
@[simp] theorem cells_fnc {g : FuncId} {fs cs : List A} : (A.fnc g fs cs).cells = [.fnc g fs cs] := rfl
@[simp] theorem one_fnc {g : FuncId} {fs cs : List A} : (A.fnc g fs cs).one = true := rfl
@[simp] theorem flat_v {x : Value} : (A.v x).flat = true := rfl
@[simp] theorem lens_nil {n : Nat} : lens n [] = true := rfl
@[simp] theorem lens_cons {n : Nat} {x : A} {l : List A} : lens n (x :: l) = (x.cells.length == n && lens n l) := rfl
@[simp] theorem lens_append {n : Nat} {l l' : List A} : lens n (l ++ l') = (lens n l && lens n l') := by simp [lens]

@[simp] theorem fillA_nil {pl : Nat → Option (Nat × Nat)} {cs : List A} : fillA pl cs [] = some cs := rfl
@[simp] theorem fillA_cons {pl : Nat → Option (Nat × Nat)} {cs : List A} {i : Nat} {x : A} {ps : List (Nat × A)} : fillA pl cs ((i, x) :: ps) = match pl i with
    | none => none
    | some (off, size) => if x.cells.length = size ∧ off + size ≤ cs.length ∧ A.ones x.cells = true then fillA pl (splice cs off x.cells) ps else none := rfl

/-! ### objects as a list -/
def lkH : List (Nm × VOb) → Hp
  | [], _ => ⟨0, .none⟩
  | (k, x) :: l, o => if k = o then x else lkH l o
def setH : List (Nm × VOb) → Nm → VOb → List (Nm × VOb)
  | [], d, x => [(d, x)]
  | (k, y) :: l, d, x => if k = d then (k, x) :: l else (k, y) :: setH l d x
@[simp] theorem H0_eq : H0 = lkH [] := rfl
@[simp] theorem lkH_nil {o : Nm} : lkH [] o = ⟨0, .none⟩ := rfl
@[simp] theorem lkH_cons {k o : Nm} {x : VOb} {l : List (Nm × VOb)} : lkH ((k, x) :: l) o = if k = o then x else lkH l o := rfl
@[simp] theorem setH_nil {d : Nm} {x : VOb} : setH [] d x = [(d, x)] := rfl
@[simp] theorem setH_cons {k d : Nm} {x y : VOb} {l : List (Nm × VOb)} : setH ((k, y) :: l) d x = if k = d then (k, x) :: l else (k, y) :: setH l d x := rfl
@[simp] theorem updF_lkH {l : List (Nm × VOb)} {d : Nm} {x : VOb} : updF (lkH l) d x = lkH (setH l d x) := by
  funext o
  induction l with
  | nil =>
    simp only [updF, setH_nil, lkH_cons, lkH_nil]
    by_cases h : o = d
    · subst h; simp
    · simp [h, Ne.symm h]
  | cons p l ih =>
    obtain ⟨k, y⟩ := p
    simp only [setH_cons]
    by_cases hk : k = d
    · subst hk
      simp only [if_pos, lkH_cons, updF]
      by_cases h : o = k
      · subst h; simp
      · simp [h, Ne.symm h]
    · rw [if_neg hk, lkH_cons, ← ih]
      simp only [updF, lkH_cons]
      by_cases h : o = d
      · subst h; simp [hk]
      · simp [h]
@[simp] theorem refs_pob {o : Nm} {u p : Nat} : refs (.pob o u p) = [(o, false)] := rfl
@[simp] theorem refs_pel {o : Nm} {u p q : Nat} : refs (.pel o u p q) = [(o, false)] := rfl
@[simp] theorem refs_mo {o : Nm} {u : Nat} : refs (.mo o u) = [(o, false)] := rfl
@[simp] theorem refs_osl {o : Nm} {u z p q : Nat} : refs (.osl o u z p q) = [(o, false)] := rfl
@[simp] theorem refs_v {x : Value} : refs (.v x) = [] := rfl
@[simp] theorem refs_sl {f : Bool} {xs : List A} : refs (.sl f xs) = [] := rfl
@[simp] theorem refs_pim {xs : List A} : refs (.pim xs) = [] := rfl
@[simp] theorem refs_agg {xs : List A} : refs (.agg xs) = [] := rfl
@[simp] theorem wrA_osl {d o : Nm} {u z p q : Nat} : wrA d (.osl o u z p q) = [(o, false)] := rfl
@[simp] theorem wrA_sl {d : Nm} {f : Bool} {xs : List A} : wrA d (.sl f xs) = [(d, false)] := rfl
@[simp] theorem nc_eq {R W R' W' : Fp} : nc ⟨R, W⟩ ⟨R', W'⟩ = (dis W (R' ++ W') && dis W' (R ++ W)) := rfl
@[simp] theorem dis_nil {l : Fp} : dis [] l = true := rfl
@[simp] theorem dis_cons {p : Nm × Bool} {l m : Fp} : dis (p :: l) m = ((m.all fun q => dis1 p q) && dis l m) := rfl
@[simp] theorem dis1_eq {p q : Nm} {a b : Bool} : dis1 (p, a) (q, b) = match a, b with
  | false, false => p != q
  | true, false => !p.isPrefixOf q
  | false, true => !q.isPrefixOf p
  | true, true => !p.isPrefixOf q && !q.isPrefixOf p := rfl
end

section
variable {P : Program} {K : Kont} {rest : List CO} {s : Nat → A} {H : Hp} {dd : Option Nat} {k : Nat} {f : Bool} {nm : Nm} {ix : Nat} {un : List Nat} {l : Bool} {lg : Lg}

@[simp] theorem sc_nil' {st : Sta} : SeqC P K [] lg st = K.k st := rfl
@[simp] theorem addL_false {i : Nat} {g : Ft} : addL false i g lg = lg := rfl
@[simp] theorem addL_true {i : Nat} {g : Ft} : addL true i g lg = (i, g) :: lg := rfl
@[simp] theorem ck_nil {g : Ft} : Ck [] lg g = True := by simp [Ck]
@[simp] theorem ck_nil' {g : Ft} : Ck un [] g = True := by simp [Ck]
@[simp] theorem ck_cons {i : Nat} {g h : Ft} : Ck un ((i, g) :: lg) h = ((i ∈ un → nc g h = true) ∧ Ck un lg h) := by simp [Ck]
theorem ck_pure : Ck un lg ⟨[], []⟩ := fun p _ _ => by simp [nc, dis_nil_left, dis_nil_right]
/-- What is noted of one that is carried out in one case alone. -/
def fg (q : Bool) (g : Ft) : Ft := ⟨bif q then g.R else [], bif q then g.W else []⟩
@[simp] theorem fg_true {g : Ft} : fg true g = g := rfl
@[simp] theorem fg_false {g : Ft} : fg false g = ⟨[], []⟩ := rfl

/-- An operation by its operands alone. -/
theorem sc_fun {op : Op} {F : Option A} (hF : ∀ x E R W, OpR P K.D nm op (evs s) H x E R W ↔ Pur F x E R W) :
    SeqC P K (⟨dd, op, none, nm, ix, un, l⟩ :: rest) lg ⟨s, H⟩ = Gt F fun x => SeqC P K rest (addL l ix ⟨[], []⟩ lg) (Sta.put ⟨s, H⟩ dd x H) := by
  apply propext
  constructor
  · rintro ⟨x, E, ⟨R, W⟩, h1, h2, h3⟩
    obtain ⟨h4, rfl, h5, h6⟩ := (hF x E R W).1 h1
    subst h5 h6
    exact ⟨x, h4, h3⟩
  · rintro ⟨x, h1, h2⟩
    exact ⟨x, .nil, ⟨[], []⟩, (hF _ _ _ _).2 ⟨h1, rfl, rfl, rfl⟩, ck_pure, h2⟩

theorem sc_fun_g {op : Op} {F : Option A} (hF : ∀ x E R W, OpR P K.D nm op (evs s) H x E R W ↔ Pur F x E R W) :
    SeqC P K (⟨dd, op, some (k, f), nm, ix, un, l⟩ :: rest) lg ⟨s, H⟩ = Gt (wantA (s k) f) fun q => GtG q F fun x => SeqC P K rest (addL l ix ⟨[], []⟩ lg) (Sta.put ⟨s, H⟩ dd x H) := by
  apply propext
  constructor
  · rintro ⟨x, E, ⟨R, W⟩, ⟨q, x0, h1, h2, rfl, h4⟩, h5, h6⟩
    refine ⟨q, h1, x0, fun hq => ((hF _ _ _ _).1 (h2 hq)).1, ?_⟩
    have : E = .nil ∧ R = [] ∧ W = [] := by
      cases hq : q with
      | true => exact ((hF _ _ _ _).1 (h2 hq)).2
      | false => exact h4 hq
    obtain ⟨rfl, h7, h8⟩ := this
    subst h7 h8
    exact h6
  · rintro ⟨q, h1, x0, h2, h3⟩
    exact ⟨_, .nil, ⟨[], []⟩, ⟨q, x0, h1, fun hq => (hF _ _ _ _).2 ⟨h2 hq, rfl, rfl, rfl⟩, rfl, fun _ => ⟨rfl, rfl, rfl⟩⟩, ck_pure, h3⟩

/-- An operation that makes, or turns, an object. -/
theorem sc_eff {op : Op} {F : Option (A × Eff)} {R W : Fp} (hF : ∀ x E R' W', OpR P K.D nm op (evs s) H x E R' W' ↔ F = some (x, E) ∧ R' = R ∧ W' = W) :
    SeqC P K (⟨dd, op, none, nm, ix, un, l⟩ :: rest) lg ⟨s, H⟩ = Gt F fun p => Ck un lg ⟨R, W⟩ ∧ SeqC P K rest (addL l ix ⟨R, W⟩ lg) (Sta.put ⟨s, H⟩ dd p.1 (p.2.app H)) := by
  apply propext
  constructor
  · rintro ⟨x, E, ⟨R', W'⟩, h1, h2, h3⟩
    obtain ⟨h4, h5, h6⟩ := (hF x E R' W').1 h1
    subst h5 h6
    exact ⟨(x, E), h4, h2, h3⟩
  · rintro ⟨⟨x, E⟩, h1, h2, h3⟩
    exact ⟨x, E, ⟨R, W⟩, (hF _ _ _ _).2 ⟨h1, rfl, rfl⟩, h2, h3⟩

/-- One that is carried out in one case alone, by cases. -/
theorem sc_guard {op : Op} : SeqC P K (⟨dd, op, some (k, f), nm, ix, un, l⟩ :: rest) lg ⟨s, H⟩ = Gt (wantA (s k) f) fun q => Cnd q (SeqC P K (⟨dd, op, none, nm, ix, un, l⟩ :: rest) lg ⟨s, H⟩) (SeqC P K rest (addL l ix ⟨[], []⟩ lg) (Sta.put ⟨s, H⟩ dd (.v undef) H)) := by
  apply propext
  constructor
  · rintro ⟨x, E, ⟨R, W⟩, ⟨q, x0, h1, h2, rfl, h4⟩, h5, h6⟩
    refine ⟨q, h1, fun hq => ⟨x0, E, ⟨R, W⟩, h2 hq, h5, ?_⟩, fun hq => ?_⟩
    · subst hq; exact h6
    · subst hq
      obtain ⟨rfl, h7, h8⟩ := h4 rfl
      subst h7 h8
      exact h6
  · rintro ⟨q, h1, h2, h3⟩
    cases q with
    | true =>
      obtain ⟨x, E, g, h4, h5, h6⟩ := h2 rfl
      exact ⟨x, E, g, ⟨true, x, h1, fun _ => h4, rfl, (fun h => nomatch h)⟩, h5, h6⟩
    | false => exact ⟨_, .nil, ⟨[], []⟩, ⟨false, .any, h1, (fun h => nomatch h), rfl, fun _ => ⟨rfl, rfl, rfl⟩⟩, ck_pure, h3 rfl⟩

section
variable {a b : Operand} {t : TypeId}
@[simp] theorem sc_move : SeqC P K (⟨dd, .move a, none, nm, ix, un, l⟩ :: rest) lg ⟨s, H⟩ = SeqC P K rest (addL l ix ⟨[], []⟩ lg) (Sta.put ⟨s, H⟩ dd (evs s a) H) := by
  rw [sc_fun (F := some (evs s a)) (fun _ _ _ _ => Iff.rfl)]; simp
@[simp] theorem sc_assign : SeqC P K (⟨dd, .assign a, none, nm, ix, un, l⟩ :: rest) lg ⟨s, H⟩ = SeqC P K rest (addL l ix ⟨[], []⟩ lg) (Sta.put ⟨s, H⟩ dd (evs s a) H) := by
  rw [sc_fun (F := some (evs s a)) (fun _ _ _ _ => Iff.rfl)]; simp
@[simp] theorem sc_move_g : SeqC P K (⟨dd, .move a, some (k, f), nm, ix, un, l⟩ :: rest) lg ⟨s, H⟩ = Gt (wantA (s k) f) fun q => SeqC P K rest (addL l ix ⟨[], []⟩ lg) (Sta.put ⟨s, H⟩ dd (gd q (evs s a)) H) := by
  rw [sc_fun_g (F := some (evs s a)) (fun _ _ _ _ => Iff.rfl)]; simp
@[simp] theorem sc_bin {op : BinOp} {u : TypeId} : SeqC P K (⟨dd, .binOp op t a b u, none, nm, ix, un, l⟩ :: rest) lg ⟨s, H⟩ = Gt (if isNilC b = true then nilBin P op t (evs s a) else if isNilI b = true then nilBinI P op t (evs s a) else binA P op t (evs s a) (evs s b)) fun x => SeqC P K rest (addL l ix ⟨[], []⟩ lg) (Sta.put ⟨s, H⟩ dd x H) := sc_fun fun _ _ _ _ => Iff.rfl
@[simp] theorem sc_bin_g {op : BinOp} {u : TypeId} : SeqC P K (⟨dd, .binOp op t a b u, some (k, f), nm, ix, un, l⟩ :: rest) lg ⟨s, H⟩ = Gt (wantA (s k) f) fun q => GtG q (if isNilC b = true then nilBin P op t (evs s a) else if isNilI b = true then nilBinI P op t (evs s a) else binA P op t (evs s a) (evs s b)) fun x => SeqC P K rest (addL l ix ⟨[], []⟩ lg) (Sta.put ⟨s, H⟩ dd x H) := sc_fun_g fun _ _ _ _ => Iff.rfl
@[simp] theorem sc_un {op : UnOp} : SeqC P K (⟨dd, .unOp op t a, none, nm, ix, un, l⟩ :: rest) lg ⟨s, H⟩ = Gt (unA op (evs s a)) fun x => SeqC P K rest (addL l ix ⟨[], []⟩ lg) (Sta.put ⟨s, H⟩ dd x H) := sc_fun fun _ _ _ _ => Iff.rfl
@[simp] theorem sc_un_g {op : UnOp} : SeqC P K (⟨dd, .unOp op t a, some (k, f), nm, ix, un, l⟩ :: rest) lg ⟨s, H⟩ = Gt (wantA (s k) f) fun q => GtG q (unA op (evs s a)) fun x => SeqC P K rest (addL l ix ⟨[], []⟩ lg) (Sta.put ⟨s, H⟩ dd x H) := sc_fun_g fun _ _ _ _ => Iff.rfl
@[simp] theorem sc_conv {u : TypeId} : SeqC P K (⟨dd, .convert t u a, none, nm, ix, un, l⟩ :: rest) lg ⟨s, H⟩ = Gt (convX P t u (evs s a)) fun x => SeqC P K rest (addL l ix ⟨[], []⟩ lg) (Sta.put ⟨s, H⟩ dd x H) := sc_fun fun _ _ _ _ => Iff.rfl
@[simp] theorem sc_conv_g {u : TypeId} : SeqC P K (⟨dd, .convert t u a, some (k, f), nm, ix, un, l⟩ :: rest) lg ⟨s, H⟩ = Gt (wantA (s k) f) fun q => GtG q (convX P t u (evs s a)) fun x => SeqC P K rest (addL l ix ⟨[], []⟩ lg) (Sta.put ⟨s, H⟩ dd x H) := sc_fun_g fun _ _ _ _ => Iff.rfl
@[simp] theorem sc_fieldAddr {i : Nat} : SeqC P K (⟨dd, .fieldAddr t a i, none, nm, ix, un, l⟩ :: rest) lg ⟨s, H⟩ = Gt (fieldAddrA P t (evs s a) i) fun x => SeqC P K rest (addL l ix ⟨[], []⟩ lg) (Sta.put ⟨s, H⟩ dd x H) := sc_fun fun _ _ _ _ => Iff.rfl
@[simp] theorem sc_fieldAddr_g {i : Nat} : SeqC P K (⟨dd, .fieldAddr t a i, some (k, f), nm, ix, un, l⟩ :: rest) lg ⟨s, H⟩ = Gt (wantA (s k) f) fun q => GtG q (fieldAddrA P t (evs s a) i) fun x => SeqC P K rest (addL l ix ⟨[], []⟩ lg) (Sta.put ⟨s, H⟩ dd x H) := sc_fun_g fun _ _ _ _ => Iff.rfl
@[simp] theorem sc_field {i : Nat} : SeqC P K (⟨dd, .field t a i, none, nm, ix, un, l⟩ :: rest) lg ⟨s, H⟩ = Gt (fieldA P t (evs s a) i) fun x => SeqC P K rest (addL l ix ⟨[], []⟩ lg) (Sta.put ⟨s, H⟩ dd x H) := sc_fun fun _ _ _ _ => Iff.rfl
@[simp] theorem sc_field_g {i : Nat} : SeqC P K (⟨dd, .field t a i, some (k, f), nm, ix, un, l⟩ :: rest) lg ⟨s, H⟩ = Gt (wantA (s k) f) fun q => GtG q (fieldA P t (evs s a) i) fun x => SeqC P K rest (addL l ix ⟨[], []⟩ lg) (Sta.put ⟨s, H⟩ dd x H) := sc_fun_g fun _ _ _ _ => Iff.rfl
@[simp] theorem sc_indexAddr  : SeqC P K (⟨dd, .indexAddr t a b, none, nm, ix, un, l⟩ :: rest) lg ⟨s, H⟩ = Gt (indexAddrA P t (evs s a) (evs s b)) fun x => SeqC P K rest (addL l ix ⟨[], []⟩ lg) (Sta.put ⟨s, H⟩ dd x H) := sc_fun fun _ _ _ _ => Iff.rfl
@[simp] theorem sc_indexAddr_g  : SeqC P K (⟨dd, .indexAddr t a b, some (k, f), nm, ix, un, l⟩ :: rest) lg ⟨s, H⟩ = Gt (wantA (s k) f) fun q => GtG q (indexAddrA P t (evs s a) (evs s b)) fun x => SeqC P K rest (addL l ix ⟨[], []⟩ lg) (Sta.put ⟨s, H⟩ dd x H) := sc_fun_g fun _ _ _ _ => Iff.rfl
@[simp] theorem sc_index  : SeqC P K (⟨dd, .index t a b, none, nm, ix, un, l⟩ :: rest) lg ⟨s, H⟩ = Gt (indexA P t (evs s a) (evs s b)) fun x => SeqC P K rest (addL l ix ⟨[], []⟩ lg) (Sta.put ⟨s, H⟩ dd x H) := sc_fun fun _ _ _ _ => Iff.rfl
@[simp] theorem sc_index_g  : SeqC P K (⟨dd, .index t a b, some (k, f), nm, ix, un, l⟩ :: rest) lg ⟨s, H⟩ = Gt (wantA (s k) f) fun q => GtG q (indexA P t (evs s a) (evs s b)) fun x => SeqC P K rest (addL l ix ⟨[], []⟩ lg) (Sta.put ⟨s, H⟩ dd x H) := sc_fun_g fun _ _ _ _ => Iff.rfl
@[simp] theorem sc_extract {i : Nat} : SeqC P K (⟨dd, .extract a i, none, nm, ix, un, l⟩ :: rest) lg ⟨s, H⟩ = Gt (extractA (evs s a) i) fun x => SeqC P K rest (addL l ix ⟨[], []⟩ lg) (Sta.put ⟨s, H⟩ dd x H) := sc_fun fun _ _ _ _ => Iff.rfl
@[simp] theorem sc_extract_g {i : Nat} : SeqC P K (⟨dd, .extract a i, some (k, f), nm, ix, un, l⟩ :: rest) lg ⟨s, H⟩ = Gt (wantA (s k) f) fun q => GtG q (extractA (evs s a) i) fun x => SeqC P K rest (addL l ix ⟨[], []⟩ lg) (Sta.put ⟨s, H⟩ dd x H) := sc_fun_g fun _ _ _ _ => Iff.rfl
@[simp] theorem sc_build {ps : Array (Nat × Operand)} : SeqC P K (⟨dd, .build t ps, none, nm, ix, un, l⟩ :: rest) lg ⟨s, H⟩ = Gt (buildA P t (ps.toList.map fun p => (p.1, evs s p.2))) fun x => SeqC P K rest (addL l ix ⟨[], []⟩ lg) (Sta.put ⟨s, H⟩ dd x H) := sc_fun fun _ _ _ _ => Iff.rfl
@[simp] theorem sc_build_g {ps : Array (Nat × Operand)} : SeqC P K (⟨dd, .build t ps, some (k, f), nm, ix, un, l⟩ :: rest) lg ⟨s, H⟩ = Gt (wantA (s k) f) fun q => GB P q t [] (ps.toList.map fun p => (p.1, evs s p.2)) fun x => SeqC P K rest (addL l ix ⟨[], []⟩ lg) (Sta.put ⟨s, H⟩ dd x H) := sc_fun_g fun _ _ _ _ => Iff.rfl
@[simp] theorem sc_buildSlice {n : Nat} {ps : Array (Nat × Operand)} : SeqC P K (⟨dd, .buildSlice t n ps, none, [], ix, un, l⟩ :: rest) lg ⟨s, H⟩ = Gt (buildSliceA P t n (ps.toList.map fun p => (p.1, evs s p.2))) fun x => SeqC P K rest (addL l ix ⟨[], []⟩ lg) (Sta.put ⟨s, H⟩ dd x H) := sc_fun fun _ _ _ _ => Iff.rfl
@[simp] theorem sc_buildSlice_g {n : Nat} {ps : Array (Nat × Operand)} : SeqC P K (⟨dd, .buildSlice t n ps, some (k, f), [], ix, un, l⟩ :: rest) lg ⟨s, H⟩ = Gt (wantA (s k) f) fun q => GtG q (buildSliceA P t n (ps.toList.map fun p => (p.1, evs s p.2))) fun x => SeqC P K rest (addL l ix ⟨[], []⟩ lg) (Sta.put ⟨s, H⟩ dd x H) := sc_fun_g fun _ _ _ _ => Iff.rfl
@[simp] theorem sc_slice {lo hi mx : Option Operand} : SeqC P K (⟨dd, .slice t a lo hi mx, none, nm, ix, un, l⟩ :: rest) lg ⟨s, H⟩ = Gt (sliceA P t (evs s a) (lo.map (evs s)) (hi.map (evs s)) (mx.map (evs s))) fun x => SeqC P K rest (addL l ix ⟨[], []⟩ lg) (Sta.put ⟨s, H⟩ dd x H) := sc_fun fun _ _ _ _ => Iff.rfl
@[simp] theorem sc_slice_g {lo hi mx : Option Operand} : SeqC P K (⟨dd, .slice t a lo hi mx, some (k, f), nm, ix, un, l⟩ :: rest) lg ⟨s, H⟩ = Gt (wantA (s k) f) fun q => GtG q (sliceA P t (evs s a) (lo.map (evs s)) (hi.map (evs s)) (mx.map (evs s))) fun x => SeqC P K rest (addL l ix ⟨[], []⟩ lg) (Sta.put ⟨s, H⟩ dd x H) := sc_fun_g fun _ _ _ _ => Iff.rfl
@[simp] theorem sc_nilCheck  : SeqC P K (⟨dd, .nilCheck a, none, nm, ix, un, l⟩ :: rest) lg ⟨s, H⟩ = Gt (ptrA (evs s a)) fun x => SeqC P K rest (addL l ix ⟨[], []⟩ lg) (Sta.put ⟨s, H⟩ dd x H) := sc_fun fun _ _ _ _ => Iff.rfl
@[simp] theorem sc_nilCheck_g  : SeqC P K (⟨dd, .nilCheck a, some (k, f), nm, ix, un, l⟩ :: rest) lg ⟨s, H⟩ = Gt (wantA (s k) f) fun q => GtG q (ptrA (evs s a)) fun x => SeqC P K rest (addL l ix ⟨[], []⟩ lg) (Sta.put ⟨s, H⟩ dd x H) := sc_fun_g fun _ _ _ _ => Iff.rfl
@[simp] theorem sc_pick {c : Operand} : SeqC P K (⟨dd, .pick c a b, none, nm, ix, un, l⟩ :: rest) lg ⟨s, H⟩ = Gt (selA (evs s c) (evs s a) (evs s b)) fun x => SeqC P K rest (addL l ix ⟨[], []⟩ lg) (Sta.put ⟨s, H⟩ dd x H) := sc_fun fun _ _ _ _ => Iff.rfl
@[simp] theorem sc_pick_g {c : Operand} : SeqC P K (⟨dd, .pick c a b, some (k, f), nm, ix, un, l⟩ :: rest) lg ⟨s, H⟩ = Gt (wantA (s k) f) fun q => GtG q (selA (evs s c) (evs s a) (evs s b)) fun x => SeqC P K rest (addL l ix ⟨[], []⟩ lg) (Sta.put ⟨s, H⟩ dd x H) := sc_fun_g fun _ _ _ _ => Iff.rfl
@[simp] theorem sc_makeFunc {g : FuncId} {fs cs : Array Operand} : SeqC P K (⟨dd, .makeFunc (.func g) fs cs, none, nm, ix, un, l⟩ :: rest) lg ⟨s, H⟩ = Gt (some (A.fnc g (fs.toList.map (evs s)) (cs.toList.map (evs s)))) fun x => SeqC P K rest (addL l ix ⟨[], []⟩ lg) (Sta.put ⟨s, H⟩ dd x H) := sc_fun fun _ _ _ _ => Iff.rfl
@[simp] theorem sc_makeFunc_g {g : FuncId} {fs cs : Array Operand} : SeqC P K (⟨dd, .makeFunc (.func g) fs cs, some (k, f), nm, ix, un, l⟩ :: rest) lg ⟨s, H⟩ = Gt (wantA (s k) f) fun q => GtG q (some (A.fnc g (fs.toList.map (evs s)) (cs.toList.map (evs s)))) fun x => SeqC P K rest (addL l ix ⟨[], []⟩ lg) (Sta.put ⟨s, H⟩ dd x H) := sc_fun_g fun _ _ _ _ => Iff.rfl
@[simp] theorem sc_makeInterface  : SeqC P K (⟨dd, .makeInterface t a, none, nm, ix, un, l⟩ :: rest) lg ⟨s, H⟩ = Gt (ifcA P t (evs s a)) fun x => SeqC P K rest (addL l ix ⟨[], []⟩ lg) (Sta.put ⟨s, H⟩ dd x H) := sc_fun fun _ _ _ _ => Iff.rfl
@[simp] theorem sc_makeInterface_g  : SeqC P K (⟨dd, .makeInterface t a, some (k, f), nm, ix, un, l⟩ :: rest) lg ⟨s, H⟩ = Gt (wantA (s k) f) fun q => GtG q (ifcA P t (evs s a)) fun x => SeqC P K rest (addL l ix ⟨[], []⟩ lg) (Sta.put ⟨s, H⟩ dd x H) := sc_fun_g fun _ _ _ _ => Iff.rfl
@[simp] theorem sc_typeAssert {u : TypeId} {ok : Bool} : SeqC P K (⟨dd, .typeAssert a t u ok, none, nm, ix, un, l⟩ :: rest) lg ⟨s, H⟩ = Gt (assertA P u ok (evs s a)) fun x => SeqC P K rest (addL l ix ⟨[], []⟩ lg) (Sta.put ⟨s, H⟩ dd x H) := sc_fun fun _ _ _ _ => Iff.rfl
@[simp] theorem sc_typeAssert_g {u : TypeId} {ok : Bool} : SeqC P K (⟨dd, .typeAssert a t u ok, some (k, f), nm, ix, un, l⟩ :: rest) lg ⟨s, H⟩ = Gt (wantA (s k) f) fun q => GtG q (assertA P u ok (evs s a)) fun x => SeqC P K rest (addL l ix ⟨[], []⟩ lg) (Sta.put ⟨s, H⟩ dd x H) := sc_fun_g fun _ _ _ _ => Iff.rfl
@[simp] theorem sc_min {as : Array Operand} {ts : Array TypeId} : SeqC P K (⟨dd, .call { callee := .builtin .min, args := as, argTypes := ts }, none, nm, ix, un, l⟩ :: rest) lg ⟨s, H⟩ = Gt (minmaxA false (as.toList.map (evs s))) fun x => SeqC P K rest (addL l ix ⟨[], []⟩ lg) (Sta.put ⟨s, H⟩ dd x H) := sc_fun fun _ _ _ _ => Iff.rfl
@[simp] theorem sc_min_g {as : Array Operand} {ts : Array TypeId} : SeqC P K (⟨dd, .call { callee := .builtin .min, args := as, argTypes := ts }, some (k, f), nm, ix, un, l⟩ :: rest) lg ⟨s, H⟩ = Gt (wantA (s k) f) fun q => GtG q (minmaxA false (as.toList.map (evs s))) fun x => SeqC P K rest (addL l ix ⟨[], []⟩ lg) (Sta.put ⟨s, H⟩ dd x H) := sc_fun_g fun _ _ _ _ => Iff.rfl
@[simp] theorem sc_max {as : Array Operand} {ts : Array TypeId} : SeqC P K (⟨dd, .call { callee := .builtin .max, args := as, argTypes := ts }, none, nm, ix, un, l⟩ :: rest) lg ⟨s, H⟩ = Gt (minmaxA true (as.toList.map (evs s))) fun x => SeqC P K rest (addL l ix ⟨[], []⟩ lg) (Sta.put ⟨s, H⟩ dd x H) := sc_fun fun _ _ _ _ => Iff.rfl
@[simp] theorem sc_max_g {as : Array Operand} {ts : Array TypeId} : SeqC P K (⟨dd, .call { callee := .builtin .max, args := as, argTypes := ts }, some (k, f), nm, ix, un, l⟩ :: rest) lg ⟨s, H⟩ = Gt (wantA (s k) f) fun q => GtG q (minmaxA true (as.toList.map (evs s))) fun x => SeqC P K rest (addL l ix ⟨[], []⟩ lg) (Sta.put ⟨s, H⟩ dd x H) := sc_fun_g fun _ _ _ _ => Iff.rfl
@[simp] theorem sc_len : SeqC P K (⟨dd, .call { callee := .builtin .len, args := #[a], argTypes := #[t] }, none, nm, ix, un, l⟩ :: rest) lg ⟨s, H⟩ = Gt (lenA P t (evs s a)) fun x => SeqC P K rest (addL l ix ⟨[], []⟩ lg) (Sta.put ⟨s, H⟩ dd x H) := sc_fun fun x E R W => by
    constructor
    · rintro ⟨a', t', h1, h2, h3⟩; cases h1; cases h2; exact h3
    · intro h; exact ⟨a, t, rfl, rfl, h⟩
@[simp] theorem sc_len_g : SeqC P K (⟨dd, .call { callee := .builtin .len, args := #[a], argTypes := #[t] }, some (k, f), nm, ix, un, l⟩ :: rest) lg ⟨s, H⟩ = Gt (wantA (s k) f) fun q => GtG q (lenA P t (evs s a)) fun x => SeqC P K rest (addL l ix ⟨[], []⟩ lg) (Sta.put ⟨s, H⟩ dd x H) := sc_fun_g fun x E R W => by
    constructor
    · rintro ⟨a', t', h1, h2, h3⟩; cases h1; cases h2; exact h3
    · intro h; exact ⟨a, t, rfl, rfl, h⟩
@[simp] theorem sc_load : SeqC P K (⟨dd, .load t a, none, nm, ix, un, l⟩ :: rest) lg ⟨s, H⟩ = Gt (loadA P H t (evs s a)) fun x => Ck un lg ⟨refs (evs s a), []⟩ ∧ SeqC P K rest (addL l ix ⟨refs (evs s a), []⟩ lg) (Sta.put ⟨s, H⟩ dd x H) := by
  apply propext
  constructor
  · rintro ⟨x, E, ⟨R, W⟩, ⟨h1, rfl, h2, h3⟩, h4, h5⟩
    simp only at h2 h3
    subst h2 h3
    exact ⟨x, h1, h4, h5⟩
  · rintro ⟨x, h1, h4, h5⟩
    exact ⟨x, .nil, ⟨_, _⟩, ⟨h1, rfl, rfl, rfl⟩, h4, h5⟩
@[simp] theorem sc_load_g : SeqC P K (⟨dd, .load t a, some (k, f), nm, ix, un, l⟩ :: rest) lg ⟨s, H⟩ = Gt (wantA (s k) f) fun q => GtG q (loadA P H t (evs s a)) fun x => Ck un lg (fg q ⟨refs (evs s a), []⟩) ∧ SeqC P K rest (addL l ix (fg q ⟨refs (evs s a), []⟩) lg) (Sta.put ⟨s, H⟩ dd x H) := by
  apply propext
  constructor
  · rintro ⟨x, E, ⟨R, W⟩, ⟨q, x0, h1, h2, rfl, h4⟩, h5, h6⟩
    refine ⟨q, h1, x0, fun hq => (h2 hq).1, ?_⟩
    have : E = .nil ∧ (⟨R, W⟩ : Ft) = fg q ⟨refs (evs s a), []⟩ := by
      cases hq : q with
      | true =>
        obtain ⟨_, e1, e2, e3⟩ := h2 hq
        simp only at e2 e3
        exact ⟨e1, by rw [e2, e3]; rfl⟩
      | false =>
        obtain ⟨e1, e2, e3⟩ := h4 hq
        simp only at e2 e3
        exact ⟨e1, by rw [e2, e3]; rfl⟩
    obtain ⟨rfl, e⟩ := this
    rw [e] at h5 h6
    exact ⟨h5, h6⟩
  · rintro ⟨q, h1, x0, h2, h5, h6⟩
    refine ⟨_, .nil, fg q ⟨refs (evs s a), []⟩, ⟨q, x0, h1, fun hq => ⟨h2 hq, rfl, ?_, ?_⟩, rfl, fun hq => ⟨rfl, ?_, ?_⟩⟩, h5, h6⟩ <;> subst hq <;> rfl
@[simp] theorem sc_makeMap : SeqC P K (⟨dd, .makeMap t none, none, nm, ix, un, l⟩ :: rest) lg ⟨s, H⟩ = Gt (makeMapA H nm) fun p => Ck un lg ⟨[], [(nm, false)]⟩ ∧ SeqC P K rest (addL l ix ⟨[], [(nm, false)]⟩ lg) (Sta.put ⟨s, H⟩ dd p.1 (p.2.app H)) := sc_eff fun _ _ _ _ => Iff.rfl
@[simp] theorem sc_mapUpdate {m k' v : Operand} : SeqC P K (⟨dd, .mapUpdate t m k' v, none, nm, ix, un, l⟩ :: rest) lg ⟨s, H⟩ = Gt (mapUpdA P H t (evs s m) (evs s k') (evs s v)) fun E => Ck un lg ⟨[], refs (evs s m)⟩ ∧ SeqC P K rest (addL l ix ⟨[], refs (evs s m)⟩ lg) (Sta.put ⟨s, H⟩ dd .any (E.app H)) := by
  apply propext
  constructor
  · rintro ⟨x, E, ⟨R, W⟩, ⟨h1, rfl, h2, h3⟩, h4, h5⟩
    simp only at h2 h3
    subst h2 h3
    exact ⟨E, h1, h4, h5⟩
  · rintro ⟨E, h1, h4, h5⟩
    exact ⟨_, E, ⟨_, _⟩, ⟨h1, rfl, rfl, rfl⟩, h4, h5⟩
@[simp] theorem sc_lookup {m k' : Operand} {ok : Bool} : SeqC P K (⟨dd, .lookup t m k' ok, none, nm, ix, un, l⟩ :: rest) lg ⟨s, H⟩ = Gt (mapGetA P H t (evs s m) (evs s k') ok) fun x => Ck un lg ⟨refs (evs s m), []⟩ ∧ SeqC P K rest (addL l ix ⟨refs (evs s m), []⟩ lg) (Sta.put ⟨s, H⟩ dd x H) := by
  apply propext
  constructor
  · rintro ⟨x, E, ⟨R, W⟩, ⟨h1, rfl, h2, h3⟩, h4, h5⟩
    simp only at h2 h3
    subst h2 h3
    exact ⟨x, h1, h4, h5⟩
  · rintro ⟨x, h1, h4, h5⟩
    exact ⟨x, .nil, ⟨_, _⟩, ⟨h1, rfl, rfl, rfl⟩, h4, h5⟩
@[simp] theorem sc_alloc : SeqC P K (⟨dd, .alloc t, none, nm, ix, un, l⟩ :: rest) lg ⟨s, H⟩ = Gt (allocA P H nm t) fun p => Ck un lg ⟨[], [(nm, false)]⟩ ∧ SeqC P K rest (addL l ix ⟨[], [(nm, false)]⟩ lg) (Sta.put ⟨s, H⟩ dd p.1 (p.2.app H)) := sc_eff fun _ _ _ _ => Iff.rfl
@[simp] theorem sc_box : SeqC P K (⟨dd, .box t a, none, nm, ix, un, l⟩ :: rest) lg ⟨s, H⟩ = Gt (boxA H nm t (evs s a)) fun p => Ck un lg ⟨[], [(nm, false)]⟩ ∧ SeqC P K rest (addL l ix ⟨[], [(nm, false)]⟩ lg) (Sta.put ⟨s, H⟩ dd p.1 (p.2.app H)) := sc_eff fun _ _ _ _ => Iff.rfl
@[simp] theorem sc_buildSliceO {n a' : Nat} {d' : Nm} {ps : Array (Nat × Operand)} : SeqC P K (⟨dd, .buildSlice t n ps, none, a' :: d', ix, un, l⟩ :: rest) lg ⟨s, H⟩ = Gt (buildSliceO P H (a' :: d') t n (ps.toList.map fun p => (p.1, evs s p.2))) fun p => Ck un lg ⟨[], [(a' :: d', false)]⟩ ∧ SeqC P K rest (addL l ix ⟨[], [(a' :: d', false)]⟩ lg) (Sta.put ⟨s, H⟩ dd p.1 (p.2.app H)) := sc_eff fun _ _ _ _ => Iff.rfl
@[simp] theorem sc_makeSlice : SeqC P K (⟨dd, .makeSlice t a b, none, nm, ix, un, l⟩ :: rest) lg ⟨s, H⟩ = Gt (makeSliceA P H nm t (evs s a) (evs s b)) fun p => Ck un lg ⟨[], [(nm, false)]⟩ ∧ SeqC P K rest (addL l ix ⟨[], [(nm, false)]⟩ lg) (Sta.put ⟨s, H⟩ dd p.1 (p.2.app H)) := sc_eff fun _ _ _ _ => Iff.rfl
@[simp] theorem sc_store : SeqC P K (⟨dd, .store t a b, none, nm, ix, un, l⟩ :: rest) lg ⟨s, H⟩ = Gt (storeA P H t (evs s a) (evs s b)) fun E => Ck un lg ⟨[], refs (evs s a)⟩ ∧ SeqC P K rest (addL l ix ⟨[], refs (evs s a)⟩ lg) (Sta.put ⟨s, H⟩ dd .any (E.app H)) := by
  apply propext
  constructor
  · rintro ⟨x, E, ⟨R, W⟩, ⟨h1, rfl, h2, h3⟩, h4, h5⟩
    simp only at h2 h3
    subst h2 h3
    exact ⟨E, h1, h4, h5⟩
  · rintro ⟨E, h1, h4, h5⟩
    exact ⟨_, E, ⟨_, _⟩, ⟨h1, rfl, rfl, rfl⟩, h4, h5⟩
@[simp] theorem sc_append {u : TypeId} : SeqC P K (⟨dd, .call { callee := .builtin .append, args := #[a, b], argTypes := #[t, u] }, none, nm, ix, un, l⟩ :: rest) lg ⟨s, H⟩ = Gt (appendA P H nm t u (evs s a) (evs s b)) fun p => Ck un lg ⟨refs (evs s b), wrA nm (evs s a)⟩ ∧ SeqC P K rest (addL l ix ⟨refs (evs s b), wrA nm (evs s a)⟩ lg) (Sta.put ⟨s, H⟩ dd p.1 (p.2.app H)) :=
  sc_eff fun x E R W => by
    constructor
    · rintro ⟨a', b', t', u', h1, h2, h3, h4, h5⟩; cases h1; cases h2; exact ⟨h3, h4, h5⟩
    · rintro ⟨h3, h4, h5⟩; exact ⟨a, b, t, u, rfl, rfl, h3, h4, h5⟩
@[simp] theorem sc_copy {u : TypeId} : SeqC P K (⟨dd, .call { callee := .builtin .copy, args := #[a, b], argTypes := #[t, u] }, none, nm, ix, un, l⟩ :: rest) lg ⟨s, H⟩ = Gt (copyA P H t (evs s a) (evs s b)) fun p => Ck un lg ⟨refs (evs s b), refs (evs s a)⟩ ∧ SeqC P K rest (addL l ix ⟨refs (evs s b), refs (evs s a)⟩ lg) (Sta.put ⟨s, H⟩ dd p.1 (p.2.app H)) :=
  sc_eff fun x E R W => by
    constructor
    · rintro ⟨a', b', t', u', h1, h2, h3, h4, h5⟩; cases h1; cases h2; exact ⟨h3, h4, h5⟩
    · rintro ⟨h3, h4, h5⟩; exact ⟨a, b, t, u, rfl, rfl, h3, h4, h5⟩
@[simp] theorem sc_clear : SeqC P K (⟨dd, .call { callee := .builtin .clear, args := #[a], argTypes := #[t] }, none, nm, ix, un, l⟩ :: rest) lg ⟨s, H⟩ = Gt (clearA P H t (evs s a)) fun p => Ck un lg ⟨[], refs (evs s a)⟩ ∧ SeqC P K rest (addL l ix ⟨[], refs (evs s a)⟩ lg) (Sta.put ⟨s, H⟩ dd p.1 (p.2.app H)) :=
  sc_eff fun x E R W => by
    constructor
    · rintro ⟨a', t', h1, h2, h3, h4, h5⟩; cases h1; cases h2; exact ⟨h3, h4, h5⟩
    · rintro ⟨h3, h4, h5⟩; exact ⟨a, t, rfl, rfl, h3, h4, h5⟩
@[simp] theorem sc_alloc_g : SeqC P K (⟨dd, .alloc t, some (k, f), nm, ix, un, l⟩ :: rest) lg ⟨s, H⟩ = Gt (wantA (s k) f) fun q => Cnd q (SeqC P K (⟨dd, .alloc t, none, nm, ix, un, l⟩ :: rest) lg ⟨s, H⟩) (SeqC P K rest (addL l ix ⟨[], []⟩ lg) (Sta.put ⟨s, H⟩ dd (.v undef) H)) := sc_guard
@[simp] theorem sc_box_g : SeqC P K (⟨dd, .box t a, some (k, f), nm, ix, un, l⟩ :: rest) lg ⟨s, H⟩ = Gt (wantA (s k) f) fun q => Cnd q (SeqC P K (⟨dd, .box t a, none, nm, ix, un, l⟩ :: rest) lg ⟨s, H⟩) (SeqC P K rest (addL l ix ⟨[], []⟩ lg) (Sta.put ⟨s, H⟩ dd (.v undef) H)) := sc_guard
@[simp] theorem sc_buildSliceO_g {n a' : Nat} {d' : Nm} {ps : Array (Nat × Operand)} : SeqC P K (⟨dd, .buildSlice t n ps, some (k, f), a' :: d', ix, un, l⟩ :: rest) lg ⟨s, H⟩ = Gt (wantA (s k) f) fun q => Cnd q (SeqC P K (⟨dd, .buildSlice t n ps, none, a' :: d', ix, un, l⟩ :: rest) lg ⟨s, H⟩) (SeqC P K rest (addL l ix ⟨[], []⟩ lg) (Sta.put ⟨s, H⟩ dd (.v undef) H)) := sc_guard
@[simp] theorem sc_makeSlice_g : SeqC P K (⟨dd, .makeSlice t a b, some (k, f), nm, ix, un, l⟩ :: rest) lg ⟨s, H⟩ = Gt (wantA (s k) f) fun q => Cnd q (SeqC P K (⟨dd, .makeSlice t a b, none, nm, ix, un, l⟩ :: rest) lg ⟨s, H⟩) (SeqC P K rest (addL l ix ⟨[], []⟩ lg) (Sta.put ⟨s, H⟩ dd (.v undef) H)) := sc_guard
@[simp] theorem sc_store_g : SeqC P K (⟨dd, .store t a b, some (k, f), nm, ix, un, l⟩ :: rest) lg ⟨s, H⟩ = Gt (wantA (s k) f) fun q => Cnd q (SeqC P K (⟨dd, .store t a b, none, nm, ix, un, l⟩ :: rest) lg ⟨s, H⟩) (SeqC P K rest (addL l ix ⟨[], []⟩ lg) (Sta.put ⟨s, H⟩ dd (.v undef) H)) := sc_guard
@[simp] theorem sc_append_g {u : TypeId} : SeqC P K (⟨dd, .call { callee := .builtin .append, args := #[a, b], argTypes := #[t, u] }, some (k, f), nm, ix, un, l⟩ :: rest) lg ⟨s, H⟩ = Gt (wantA (s k) f) fun q => Cnd q (SeqC P K (⟨dd, .call { callee := .builtin .append, args := #[a, b], argTypes := #[t, u] }, none, nm, ix, un, l⟩ :: rest) lg ⟨s, H⟩) (SeqC P K rest (addL l ix ⟨[], []⟩ lg) (Sta.put ⟨s, H⟩ dd (.v undef) H)) := sc_guard
@[simp] theorem sc_copy_g {u : TypeId} : SeqC P K (⟨dd, .call { callee := .builtin .copy, args := #[a, b], argTypes := #[t, u] }, some (k, f), nm, ix, un, l⟩ :: rest) lg ⟨s, H⟩ = Gt (wantA (s k) f) fun q => Cnd q (SeqC P K (⟨dd, .call { callee := .builtin .copy, args := #[a, b], argTypes := #[t, u] }, none, nm, ix, un, l⟩ :: rest) lg ⟨s, H⟩) (SeqC P K rest (addL l ix ⟨[], []⟩ lg) (Sta.put ⟨s, H⟩ dd (.v undef) H)) := sc_guard

/-- A call by its contract. -/
theorem sc_call {g : FuncId} {as : Array Operand} {ts : Array TypeId} {x : A} (hs : Spec P g (as.toList.map (evs s)) x) (hb : (as.toList.map (evs s)).all A.bare = true) (h : SeqC P K rest (addL l ix ⟨[], []⟩ lg) (Sta.put ⟨s, H⟩ dd x H)) :
    SeqC P K (⟨dd, .call { callee := .value (.func g), args := as, argTypes := ts }, none, nm, ix, un, l⟩ :: rest) lg ⟨s, H⟩ :=
  ⟨x, .nil, ⟨[], []⟩, ⟨g, [], [], rfl, .inl (.inl ⟨by simpa using hb, by simpa using hs, rfl, rfl, rfl⟩)⟩, ck_pure, h⟩
/-- Likewise, its arguments told otherwise. -/
theorem sc_calle {g : FuncId} {as : Array Operand} {ts : Array TypeId} {L : List A} {x : A} (hL : as.toList.map (evs s) = L) (hs : Spec P g L x) (hb : L.all A.bare = true) (h : SeqC P K rest (addL l ix ⟨[], []⟩ lg) (Sta.put ⟨s, H⟩ dd x H)) :
    SeqC P K (⟨dd, .call { callee := .value (.func g), args := as, argTypes := ts }, none, nm, ix, un, l⟩ :: rest) lg ⟨s, H⟩ := by subst hL; exact sc_call hs hb h
/-- A call of a function's value. -/
theorem sc_callv {o : Operand} {g : FuncId} {fs caps : List A} {as : Array Operand} {ts : Array TypeId} {x : A} (ho : evs s o = .fnc g fs caps) (hs : Spec P g (fs ++ (as.toList.map (evs s) ++ caps)) x) (hb : (fs ++ (as.toList.map (evs s) ++ caps)).all A.bare = true) (h : SeqC P K rest (addL l ix ⟨[], []⟩ lg) (Sta.put ⟨s, H⟩ dd x H)) :
    SeqC P K (⟨dd, .call { callee := .value o, args := as, argTypes := ts }, none, nm, ix, un, l⟩ :: rest) lg ⟨s, H⟩ :=
  ⟨x, .nil, ⟨[], []⟩, ⟨g, fs, caps, ho, .inl (.inl ⟨hb, hs, rfl, rfl, rfl⟩)⟩, ck_pure, h⟩
/-- A call that looks at objects of the call's own. -/
theorem sc_callb {g : FuncId} {as : Array Operand} {ts : Array TypeId} {x : A} (as' : List A) (hs : SpecB P g as' x) (hf : FrzL H (as.toList.map (evs s)) as') (hc : Ck un lg ⟨[([], true)], []⟩) (h : SeqC P K rest (addL l ix ⟨[([], true)], []⟩ lg) (Sta.put ⟨s, H⟩ dd x H)) :
    SeqC P K (⟨dd, .call { callee := .value (.func g), args := as, argTypes := ts }, none, nm, ix, un, l⟩ :: rest) lg ⟨s, H⟩ :=
  ⟨x, .nil, ⟨_, _⟩, ⟨g, [], [], rfl, .inl (.inr (.inl ⟨⟨as', by simpa using hf, hs⟩, rfl, rfl, rfl⟩))⟩, hc, h⟩
/-- A call that turns objects of the call's own. -/
theorem sc_callh {g : FuncId} {as : Array Operand} {ts : Array TypeId} {x : A} (E : Eff) (R W : Fp) (hs : ∀ H2, Agree (R ++ W) H H2 → CallOK P H2 g (as.toList.map (evs s)) x E) (hw : Supp E W) (hc : Ck un lg ⟨R, W⟩) (h : SeqC P K rest (addL l ix ⟨R, W⟩ lg) (Sta.put ⟨s, H⟩ dd x (E.app H))) :
    SeqC P K (⟨dd, .call { callee := .value (.func g), args := as, argTypes := ts }, none, nm, ix, un, l⟩ :: rest) lg ⟨s, H⟩ :=
  ⟨x, E, ⟨R, W⟩, ⟨g, [], [], rfl, .inl (.inr (.inr ⟨by simpa using hs, hw⟩))⟩, hc, h⟩
theorem sc_call_g {g : FuncId} {as : Array Operand} {ts : Array TypeId} {x : A} {q : Bool} (hq : wantA (s k) f = some q) (hs : q = true → Spec P g (as.toList.map (evs s)) x ∧ (as.toList.map (evs s)).all A.bare = true)
    (h : SeqC P K rest (addL l ix ⟨[], []⟩ lg) (Sta.put ⟨s, H⟩ dd (gd q x) H)) :
    SeqC P K (⟨dd, .call { callee := .value (.func g), args := as, argTypes := ts }, some (k, f), nm, ix, un, l⟩ :: rest) lg ⟨s, H⟩ :=
  ⟨_, .nil, ⟨[], []⟩, ⟨q, x, hq, fun e => ⟨g, [], [], rfl, .inl (.inl ⟨by simpa using (hs e).2, by simpa using (hs e).1, rfl, rfl, rfl⟩)⟩, rfl, fun _ => ⟨rfl, rfl, rfl⟩⟩, ck_pure, h⟩
end
end

section
variable {P : Program} {K : Kont} {rest : List CO} {s : Nat → A} {H : Hp} {dd : Option Nat} {k : Nat} {g : FuncId} {as : Array Operand} {ts : Array TypeId} {x : A} {q : Bool} {L : List A} {nm : Nm} {ix : Nat} {un : List Nat} {l : Bool} {lg : Lg}
/-- A call that is made where a slot holds true. -/
theorem sc_call_gt (hq : s k = .v (.bool q)) (hs : q = true → Spec P g L x) (hL : q = true → as.toList.map (evs s) = L) (hb : L.all A.bare = true)
    (h : SeqC P K rest (addL l ix ⟨[], []⟩ lg) (Sta.put ⟨s, H⟩ dd (gd q x) H)) :
    SeqC P K (⟨dd, .call { callee := .value (.func g), args := as, argTypes := ts }, some (k, true), nm, ix, un, l⟩ :: rest) lg ⟨s, H⟩ :=
  sc_call_g (q := q) (by rw [hq]; cases q <;> rfl) (fun e => by rw [hL e]; exact ⟨hs e, hb⟩) h
/-- A call that is made where a slot holds false. -/
theorem sc_call_gf (hq : s k = .v (.bool q)) (hs : q = false → Spec P g L x) (hL : q = false → as.toList.map (evs s) = L) (hb : L.all A.bare = true)
    (h : SeqC P K rest (addL l ix ⟨[], []⟩ lg) (Sta.put ⟨s, H⟩ dd (gd (ng q) x) H)) :
    SeqC P K (⟨dd, .call { callee := .value (.func g), args := as, argTypes := ts }, some (k, false), nm, ix, un, l⟩ :: rest) lg ⟨s, H⟩ :=
  sc_call_g (q := ng q) (by rw [hq]; cases q <;> rfl) (fun e => by have e : q = false := (by simpa using e); rw [hL e]; exact ⟨hs e, hb⟩) h
end

@[simp] theorem bif_bool {q r t : Bool} : (bif q then A.v (.bool r) else A.v (.bool t)) = A.v (.bool (bif q then r else t)) := by cases q <;> rfl
/-! ### what a result reads as -/
theorem frz_bare {H : Hp} {a : A} (h : a.bare = true) : Frz H a a := fun c w I μ v hs hr => (hr.of_bare h).mono0 (fun b hb => .inl hb) (fun _ _ => rfl)
theorem sl_weak {w : World} {I : Nat → Prop} {μ : Mu} {f : Bool} {xs : List A} {v : Value} (h : Rel w I μ (.sl f xs) v) : Rel w I μ (.sl false xs) v := by
  cases h with
  | slN _ _ a cap _ => exact .slN _ _ _ _ (fun h => by cases h)
  | sl _ _ b off n cap sz _ g h1 h2 h3 h4 h5 h6 h7 h8 => exact .sl _ _ b off n cap sz _ g h1 h2 h3 (fun h => by cases h) h5 h6 h7 h8
theorem frz_sl {H : Hp} {f : Bool} {xs : List A} : Frz H (.sl f xs) (.sl false xs) := fun c w I μ v hs hr => sl_weak (frz_bare (a := .sl f xs) rfl c w I μ v hs hr)

theorem frz_bool {H : Hp} {p q : Bool} (h : p = q) : Frz H (.v (.bool p)) (.v (.bool q)) := by rw [h]; exact frz_bare rfl
theorem frz_int {H : Hp} {k : IntKind} {p q : Int} (h : p = q) : Frz H (.v (.int k p)) (.v (.int k q)) := by rw [h]; exact frz_bare rfl
theorem frz_is {H : Hp} {a a' : A} (h : a.bare = true) (e : a = a') : Frz H a a' := by rw [← e]; exact frz_bare h
def FrzR (H : Hp) (xs ys : List A) : Prop := FrzL H (xs.flatMap A.cells) (ys.flatMap A.cells)

/-- A row, whose elements read as others do. -/
theorem frz_osl' {H : Hp} {o : Nm} {u off len sz : Nat} {xs ys : List A} (ho : getR H o u = some (sz, xs)) (hl : off + len ≤ xs.length) (hn : ys.length = len) (hy : ∀ y, y ∈ ys → y.cells.length = sz) (h1 : A.ones (ys.flatMap A.cells) = true)
    (hb : FrzL H (((xs.drop off).take len).flatMap A.cells) (ys.flatMap A.cells)) : Frz H (.osl o u sz off len) (.sl false ys) := by
  intro c w I μ v hs hr
  obtain ⟨hg1, hg2⟩ := frzL_get hb
  cases hr with
  | osl _ _ _ _ _ _ a cap g1 g2 g4 g5 g3 =>
    obtain ⟨hu, k2, hrow⟩ := hs.row ho
    obtain ⟨_, hcur⟩ := g3 hu.symm
    by_cases h0 : len = 0
    · subst h0
      have : ys = [] := List.eq_nil_of_length_eq_zero hn
      subst this
      exact .slN _ _ _ _ (fun h => by cases h)
    rcases hcur with ⟨e, _⟩ | ⟨p1, rfl, p3⟩
    · exact (h0 e).elim
    rcases hrow with ⟨q1, _⟩ | ⟨q1, vs, k3, k4, k5, k6, k7⟩
    · rw [p1] at q1; cases q1
    subst k2
    have hB : hasB (μ o) (H o).ob = true := by rw [(getR_some ho).2]; exact q1
    have hg : ∀ (k : Nat) (y : A), (((xs.drop off).take len).flatMap A.cells)[k]? = some y → (xs.flatMap A.cells)[off * (μ o).sz + k]? = some y := fun k y hk => flat_take_drop k6 hk
    refine .sl _ _ (μ o).b (off * (μ o).sz) _ _ (μ o).sz _ (fun k => vs.getD (off * (μ o).sz + k) undef) (Or.inr ⟨o, hB, rfl⟩) hn.symm (by omega) (fun h => by cases h) hy
      (fun k y hk => List.all_eq_true.1 h1 y (List.mem_of_getElem? hk)) (fun k y hk => ?_) (fun k y hk => ?_)
    · obtain ⟨a', ha', _⟩ := hg2 k y hk
      have h3 := hg k a' ha'
      have h4 := flat_len k6
      have h5 : xs.length * (μ o).sz ≤ (μ o).cap * (μ o).sz := Nat.mul_le_mul_right _ k5
      have h6 := (List.getElem?_eq_some_iff.1 h3).1
      rw [cell_of_row w (μ o).b _ vs (μ o).e (0, 0) k3]
      have : off * (μ o).sz + k < vs.size := by rw [k4]; omega
      simp [this]
    · obtain ⟨a', ha', hf⟩ := hg2 k y hk
      exact hf c w I μ _ hs (k7 _ a' (hg k a' ha')).2

theorem frzL_bare {H : Hp} : ∀ {l : List A}, l.all A.bare = true → FrzL H l l
  | [], _ => trivial
  | a :: l, h => by
    simp only [List.all_cons, Bool.and_eq_true] at h
    exact ⟨frz_bare h.1, frzL_bare h.2⟩
theorem bare_of1 {a : A} (h : a.bare1 = true) : a.bare = true := by cases a <;> simp_all [A.bare1, A.bare, A.bare2]

theorem frz_osl {H : Hp} {o : Nm} {u off len sz : Nat} {xs : List A} (ho : getR H o u = some (sz, xs)) (hl : off + len ≤ xs.length) (hb : ((xs.drop off).take len).all (fun x => x.cells.length == sz && x.cells.all fun y => A.bare1 y && y.one) = true) : Frz H (.osl o u sz off len) (.sl false ((xs.drop off).take len)) := by
  simp only [List.all_eq_true, Bool.and_eq_true, beq_iff_eq] at hb
  refine frz_osl' ho hl (by simp; omega) (fun y hy => (hb y hy).1) ?_ (frzL_bare ?_)
  · simp only [A.ones, List.all_eq_true]
    intro y hy
    obtain ⟨x, hx, hy⟩ := List.mem_flatMap.1 hy
    exact ((hb x hx).2 y hy).2
  · simp only [List.all_eq_true]
    intro y hy
    obtain ⟨x, hx, hy⟩ := List.mem_flatMap.1 hy
    exact bare_of1 ((hb x hx).2 y hy).1

theorem frz_agg {H : Hp} {cs cs' : List A} (h : FrzL H cs cs') : Frz H (.agg cs) (.agg cs') := by
  intro c w I μ v hs hr
  obtain ⟨hl, hg⟩ := frzL_get h
  cases hr with
  | agg _ _ vs h1 h2 =>
    refine .agg _ _ _ (by omega) fun k y hk => ?_
    obtain ⟨a, ha, hf⟩ := hg k y hk
    exact hf c w I μ _ hs (h2 k a ha)
theorem frz_tup {H : Hp} {cs cs' : List A} (h : FrzL H cs cs') : Frz H (.tup cs) (.tup cs') := by
  intro c w I μ v hs hr
  obtain ⟨hl, hg⟩ := frzL_get h
  cases hr with
  | tup _ _ vs h1 h2 =>
    refine .tup _ _ _ (by omega) fun k y hk => ?_
    obtain ⟨a, ha, hf⟩ := hg k y hk
    exact hf c w I μ _ hs (h2 k a ha)
theorem frz_pob {H : Hp} {o : Nm} {u : Nat} {cs cs' : List A} (ho : getC H o u = some cs) (h : FrzL H cs cs') (h1 : A.ones cs' = true) : Frz H (.pob o u 0) (.pim cs') := by
  intro c w I μ v hs hr
  obtain ⟨hl, hg⟩ := frzL_get h
  cases hr with
  | pob _ _ _ _ b k g1 g2 g3 =>
    obtain ⟨hu, vs, k2, k3, k4⟩ := hs.cells ho
    obtain ⟨rfl, rfl⟩ := g3 hu.symm
    have hB : hasB (μ o) (H o).ob = true := by rw [(getC_some ho).2]; rfl
    refine .pim _ (μ o).b 0 _ (fun k => vs.getD k undef) (Or.inr ⟨o, hB, rfl⟩) (fun k y hk => ?_) (fun k y hk => ?_) (fun k y hk => ?_)
    · simp only [A.ones, List.all_eq_true] at h1
      exact h1 y (List.mem_of_getElem? hk)
    · rw [Nat.zero_add, cell_of_row w (μ o).b k vs (μ o).e (0, 0) k2]
      have : k < vs.size := by rw [k3, ← hl]; exact (List.getElem?_eq_some_iff.1 hk).1
      simp [this]
    · obtain ⟨a, ha, hf⟩ := hg k y hk
      exact hf c w I μ _ hs (k4 k a ha).2
@[simp] theorem frzL_nil {H : Hp} : FrzL H [] [] = True := rfl
@[simp] theorem frzL_cons {H : Hp} {a a' : A} {l l' : List A} : FrzL H (a :: l) (a' :: l') = (Frz H a a' ∧ FrzL H l l') := rfl
end Go.G
