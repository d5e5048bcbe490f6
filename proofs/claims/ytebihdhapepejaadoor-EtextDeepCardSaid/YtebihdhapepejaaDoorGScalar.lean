/-
  Operators, conversions, min and max, copy: what they yield in an abstract state.
-/
import Derived.Test.YtebihdhapepejaaDoorGAppend2
import Derived.Laws.StructEq
import Derived.Laws.IdiomStrings
namespace Go.G
set_option linter.unusedVariables false
set_option linter.unusedSimpArgs false
open Go.RowKit

/-! ### equality -/
def A.isPtr : A → Bool
  | .pim _ | .pob _ _ _ | .pel _ _ _ _ => true
  | _ => false

def eqFs (P : Program) (eq : TypeId → A → A → Option Bool) : List Field → List A → List A → Option Bool
  | [], _, _ => some true
  | f :: fs, xs, ys =>
    if f.name ≠ "_" then match partA P f.type xs f.offset, partA P f.type ys f.offset with
      | some a, some b => match eq f.type a b, eqFs P eq fs xs ys with
        | some r, some s => some (r && s)
        | _, _ => none
      | _, _ => none
    else eqFs P eq fs xs ys

def eqA (P : Program) : Nat → TypeId → A → A → Option Bool
  | 0, _, _, _ => none
  | d + 1, t, x, y =>
    match P.underlying t, x, y with
    | some (.int _), .v (.int k a), .v (.int k' b) => if k = k' then some (a == b) else none
    | some .bool, .v (.bool a), .v (.bool b) => some (a == b)
    | some .string, .v (.string a), .v (.string b) => some (a.toList == b.toList)
    | some (.pointer _), .v (.pointer none), .v (.pointer none) => some true
    | some (.pointer _), x, .v (.pointer none) => if x.isPtr = true then some false else none
    | some (.pointer _), .v (.pointer none), y => if y.isPtr = true then some false else none
    | some (.struct fs), .agg xs, .agg ys => if P.stoodInHeld t = false then eqFs P (eqA P d) fs.toList xs ys else none
    | _, _, _ => none

theorem isPtr_some {w : World} {I : Nat → Prop} {μ : Mu} {a : A} {x : Value} (h : Rel w I μ a x) (hp : a.isPtr = true) : ∃ q, x = .pointer (some q) := by
  cases h <;> simp [A.isPtr] at hp <;> exact ⟨_, rfl⟩

theorem fieldsOf_eq {P : Program} {t : TypeId} {fs : Array Field} (h : P.underlying t = some (.struct fs)) : P.fieldsOf t = fs := by simp [Program.fieldsOf, h]

theorem eqA_sound {P : Program} {w : World} {I : Nat → Prop} {μ : Mu} : ∀ (d : Nat) {t : TypeId} {a b : A} {x y : Value} {r : Bool}, Rel w I μ a x → Rel w I μ b y → eqA P d t a b = some r → ∀ D, d ≤ D → (Op.equalIn D t x y).run P w = .ok r w
  | 0, t, a, b, x, y, r, _, _, h, D, _ => by simp [eqA] at h
  | d + 1, t, a, b, x, y, r, ha, hb, h, D, hD => by
    obtain ⟨D, rfl⟩ : ∃ D', D = D' + 1 := ⟨D - 1, by omega⟩
    unfold eqA at h
    split at h
    · rename_i hu
      split at h
      · rename_i hk
        cases h; cases ha; cases hb
        subst hk
        exact run_equalIn_int w D t _ _ _ _ hu
      · cases h
    · rename_i hu
      cases h; cases ha; cases hb
      exact run_equalIn_bool' w D t _ _ hu
    · rename_i hu
      cases h; cases ha; cases hb
      exact run_equalIn_string w D t _ _ hu
    · rename_i hu
      cases h; cases ha; cases hb
      simp [Op.equalIn, run_underlying hu]
    · have hu := ‹P.underlying t = some (TypeDesc.pointer _)›
      split at h
      · rename_i hp
        cases h; cases hb
        obtain ⟨q, rfl⟩ := isPtr_some ha hp
        simp [Op.equalIn, run_underlying hu]
      · cases h
    · have hu := ‹P.underlying t = some (TypeDesc.pointer _)›
      split at h
      · rename_i hp
        cases h; cases ha
        obtain ⟨q, rfl⟩ := isPtr_some hb hp
        simp [Op.equalIn, run_underlying hu]
      · cases h
    · rename_i fs xs ys hu
      split at h
      · rename_i hst
        cases ha with
        | agg _ _ vs hl hr =>
          cases hb with
          | agg _ _ us hl' hr' =>
            rw [run_equalIn_struct w D t vs us (by rw [fieldsOf_eq hu]; exact hu) hst, fieldsOf_eq hu]
            generalize fs.toList = l at h
            clear hu
            induction l generalizing r with
            | nil => simp [eqFs] at h; subst h; simp [Op.eqFields]
            | cons f l ih =>
              unfold eqFs at h
              split at h
              · rename_i hn
                split at h
                · rename_i p q hp hq
                  split at h
                  · rename_i r1 r2 e1 e2
                    cases h
                    obtain ⟨v1, g1, g2⟩ := partA_sound (P := P) hl hr hp
                    obtain ⟨v2, g3, g4⟩ := partA_sound (P := P) hl' hr' hq
                    have g5 := eqA_sound d g2 g4 e1 D (by omega)
                    have g6 := ih _ e2
                    simp only [Op.eqFields]
                    rw [if_pos hn]
                    simp only [Sem.run_bind, g1, g3, g5, Result.andThen_ok]
                    cases r1
                    · simp
                    · simpa using g6
                  · cases h
                · cases h
              · rename_i hn
                simp only [Op.eqFields]
                rw [if_neg hn]
                exact ih _ h
      · cases h
    · cases h

/-! ### binary operators -/
def intA (op : BinOp) (k k' : IntKind) (a b : Int) : Option A :=
  match op with
  | .shl => if 0 ≤ b then some (.v (.int k (k.wrap (a * 2 ^ (min b.toNat k.bits))))) else none
  | .shr => if 0 ≤ b then some (.v (.int k (a / 2 ^ (min b.toNat k.bits)))) else none
  | op => if k = k' then match op with
    | .add => some (.v (.int k (k.wrap (a + b))))
    | .sub => some (.v (.int k (k.wrap (a - b))))
    | .mul => some (.v (.int k (k.wrap (a * b))))
    | .quo => if b = 0 then none else some (.v (.int k (k.wrap (a.tdiv b))))
    | .rem => if b = 0 then none else some (.v (.int k (a.tmod b)))
    | .and => some (.v (.int k (bits .and k a b)))
    | .or => some (.v (.int k (bits .or k a b)))
    | .xor => some (.v (.int k (bits .xor k a b)))
    | .andNot => some (.v (.int k (bits .andNot k a b)))
    | .eql => some (.v (.bool (a == b)))
    | .neq => some (.v (.bool (a != b)))
    | .lss => some (.v (.bool (decide (a < b))))
    | .leq => some (.v (.bool (decide (a ≤ b))))
    | .gtr => some (.v (.bool (decide (b < a))))
    | .geq => some (.v (.bool (decide (b ≤ a))))
    | _ => none else none

theorem intA_sound {P : Program} {w : World} {op : BinOp} {t : TypeId} {k k' : IntKind} {a b : Int} {r : A} (h : intA op k k' a b = some r) : ∃ v, (binOp op t (.int k a) (.int k' b)).run P w = .ok v w ∧ r = .v v := by
  cases op
  case shl =>
    simp only [intA] at h
    split at h
    · rename_i h0
      have h1 : ¬ b < 0 := by omega
      cases h
      exact ⟨_, by simp only [binOp, Op.shift]; rw [if_neg h1]; rfl, rfl⟩
    · cases h
  case shr =>
    simp only [intA] at h
    split at h
    · rename_i h0
      have h1 : ¬ b < 0 := by omega
      have hp : (0 : Int) ≤ 2 ^ (min b.toNat k.bits) := Int.pow_nonneg (by decide)
      cases h
      exact ⟨_, by simp only [binOp, Op.shift]; rw [if_neg h1, Int.fdiv_eq_ediv_of_nonneg _ hp]; rfl, rfl⟩
    · cases h
  case quo =>
    simp only [intA] at h
    split at h
    · rename_i hk
      subst hk
      split at h
      · cases h
      · rename_i h0
        cases h
        exact ⟨_, by simp [binOp, Op.intDiv, h0], rfl⟩
    · cases h
  case rem =>
    simp only [intA] at h
    split at h
    · rename_i hk
      subst hk
      split at h
      · cases h
      · rename_i h0
        cases h
        exact ⟨_, by simp [binOp, Op.intDiv, h0], rfl⟩
    · cases h
  all_goals
    simp only [intA] at h
    split at h
    · rename_i hk
      subst hk
      cases h
      exact ⟨_, by simp [binOp, Op.intArith, Op.intCmp, intBits_and, intBits_or, intBits_xor, intBits_andNot], rfl⟩
    · cases h

def strA (op : BinOp) (x y : ByteArray) : Option A :=
  match op with
  | .add => if x.size + y.size ≤ 9223372036854775807 then some (.v (.string (x ++ y))) else none
  | .eql => some (.v (.bool (x.toList == y.toList)))
  | .neq => some (.v (.bool (!(x.toList == y.toList))))
  | .lss => some (.v (.bool (Op.bytesLess x.toList y.toList)))
  | .leq => some (.v (.bool (Op.bytesLess x.toList y.toList || x.toList == y.toList)))
  | .gtr => some (.v (.bool (!(Op.bytesLess x.toList y.toList || x.toList == y.toList))))
  | .geq => some (.v (.bool (!Op.bytesLess x.toList y.toList)))
  | _ => none

def binA (P : Program) (op : BinOp) (t : TypeId) (x y : A) : Option A :=
  match x, y with
  | .v (.int k a), .v (.int k' b) => intA op k k' a b
  | .v (.string a), .v (.string b) => strA op a b
  | .agg xs, .agg ys => if P.eqGuardType P.depth t = false then match op with
    | .eql => (eqA P 100 t (.agg xs) (.agg ys)).map fun b => .v (.bool b)
    | .neq => (eqA P 100 t (.agg xs) (.agg ys)).map fun b => .v (.bool (!b))
    | _ => none else none
  | x, y => match op with
    | .eql => (eqA P 100 t x y).map fun b => .v (.bool b)
    | .neq => (eqA P 100 t x y).map fun b => .v (.bool (!b))
    | _ => none

theorem eqGuard_plain {P : Program} {w : World} {op : BinOp} {t : TypeId} {ox oy : Operand} {x y : Value} (h1 : x ≠ .nilIface) (h2 : ∀ cs, x ≠ .agg cs) : (eqGuard op t ox oy x y).run P w = .ok () w := by
  unfold eqGuard
  cases op <;> simp only [Bool.not_true, Bool.not_false, Bool.false_eq_true, if_false, if_true, Sem.run_pure] <;> (cases x <;> first | rfl | exact (h1 rfl).elim | exact (h2 _ rfl).elim)

theorem eqA_shape {P : Program} {w : World} {I : Nat → Prop} {μ : Mu} {d : Nat} {t : TypeId} {a b : A} {x y : Value} {r : Bool} (ha : Rel w I μ a x) (hb : Rel w I μ b y) (h : eqA P d t a b = some r) (hag : ∀ xs ys, a = .agg xs → b = .agg ys → False) :
    (∃ n m k k', x = .int k n ∧ y = .int k' m) ∨ (∃ n m, x = .string n ∧ y = .string m) ∨ (∃ n m, x = .bool n ∧ y = .bool m) ∨ (∃ p q, x = .pointer p ∧ y = .pointer q) := by
  cases d with
  | zero => simp [eqA] at h
  | succ d =>
    unfold eqA at h
    split at h
    · cases ha; cases hb; exact .inl ⟨_, _, _, _, rfl, rfl⟩
    · cases ha; cases hb; exact .inr (.inr (.inl ⟨_, _, rfl, rfl⟩))
    · cases ha; cases hb; exact .inr (.inl ⟨_, _, rfl, rfl⟩)
    · cases ha; cases hb; exact .inr (.inr (.inr ⟨_, _, rfl, rfl⟩))
    · split at h
      · rename_i hp
        cases hb
        obtain ⟨q, rfl⟩ := isPtr_some ha hp
        exact .inr (.inr (.inr ⟨_, _, rfl, rfl⟩))
      · cases h
    · split at h
      · rename_i hp
        cases ha
        obtain ⟨q, rfl⟩ := isPtr_some hb hp
        exact .inr (.inr (.inr ⟨_, _, rfl, rfl⟩))
      · cases h
    · exact (hag _ _ rfl rfl).elim
    · cases h

theorem eqA_any_l {P : Program} {d : Nat} {t : TypeId} {b : A} : eqA P d t .any b = none := by
  cases d with
  | zero => rfl
  | succ d => unfold eqA; split <;> first | rfl | (simp_all [A.isPtr]; done)
theorem eqA_any_r {P : Program} {d : Nat} {t : TypeId} {a : A} : eqA P d t a .any = none := by
  cases d with
  | zero => rfl
  | succ d => unfold eqA; split <;> first | rfl | (simp_all [A.isPtr]; done)

theorem binA_sound {P : Program} {w : World} {I : Nat → Prop} {μ : Mu} {op : BinOp} {t : TypeId} {ox oy : Operand} {a b r : A} {x y : Value} (ha : Rel w I μ a x) (hb : Rel w I μ b y) (h : binA P op t a b = some r) :
    ∃ v, (do eqGuard op t ox oy x y; binOp op t x y : Sem Value).run P w = .ok v w ∧ Rel w I μ r v := by
  unfold binA at h
  split at h
  · cases ha; cases hb
    rename_i k a k' b
    have hg : (eqGuard op t ox oy (.int k a) (.int k' b)).run P w = .ok () w := eqGuard_plain (by simp) (by simp)
    obtain ⟨v, h1, rfl⟩ := intA_sound (P := P) (w := w) (t := t) h
    exact ⟨v, by simp only [Sem.run_bind, hg, Result.andThen_ok, h1], .v _ _⟩
  · cases ha; cases hb
    rename_i a b
    have hg : (eqGuard op t ox oy (.string a) (.string b)).run P w = .ok () w := eqGuard_plain (by simp) (by simp)
    have : ∃ v, (binOp op t (.string a) (.string b)).run P w = .ok v w ∧ r = .v v := by
      cases op <;> simp only [strA] at h <;> first | cases h; done | skip
      case add =>
        split at h
        · rename_i hle
          cases h
          have : ¬ ((a.size : Int) + (b.size : Int)) > 9223372036854775807 := by omega
          refine ⟨_, ?_, rfl⟩
          simp [binOp, Op.stringOp, IntKind.max, IntKind.signed, IntKind.bits]
          omega
        · cases h
      all_goals (cases h; exact ⟨_, by simp [binOp, Op.stringOp], rfl⟩)
    obtain ⟨v, h1, rfl⟩ := this
    exact ⟨v, by simp only [Sem.run_bind, hg, Result.andThen_ok, h1], .v _ _⟩
  · rename_i xs ys
    split at h
    · rename_i hgt
      cases ha with
      | agg _ _ vs hl hr =>
        cases hb with
        | agg _ _ us hl' hr' =>
          have hg := run_eqGuard_agg (P := P) w op t ox oy vs us hgt
          split at h
          · simp only [Option.map_eq_some_iff] at h
            obtain ⟨q, hq, rfl⟩ := h
            have := eqA_sound 100 (Rel.agg (I := I) μ xs vs hl hr) (Rel.agg μ ys us hl' hr') hq 10000 (by omega)
            exact ⟨.bool q, by simp only [Sem.run_bind, hg, Result.andThen_ok, run_eql_struct, this], .v _ _⟩
          · simp only [Option.map_eq_some_iff] at h
            obtain ⟨q, hq, rfl⟩ := h
            have := eqA_sound 100 (Rel.agg (I := I) μ xs vs hl hr) (Rel.agg μ ys us hl' hr') hq 10000 (by omega)
            exact ⟨.bool (!q), by simp only [Sem.run_bind, hg, Result.andThen_ok, run_neq_struct, this], .v _ _⟩
          · cases h
    · cases h
  · rename_i h1 h2 h3
    have main : ∀ {q : Bool}, eqA P 100 t a b = some q → (eqGuard op t ox oy x y).run P w = .ok () w ∧ (binOp .eql t x y).run P w = .ok (.bool q) w ∧ (binOp .neq t x y).run P w = .ok (.bool (!q)) w := fun {q} hq => by
      have hs := eqA_sound 100 ha hb hq 10000 (by omega)
      rcases eqA_shape ha hb hq h3 with ⟨n, m, k, k', rfl, rfl⟩ | ⟨n, m, rfl, rfl⟩ | ⟨n, m, rfl, rfl⟩ | ⟨p, q', rfl, rfl⟩
      · exfalso
        cases ha with
        | v => cases hb with
          | v => exact h1 _ _ _ _ rfl rfl
          | any => rw [eqA_any_r] at hq; cases hq
        | any => rw [eqA_any_l] at hq; cases hq
      · exfalso
        cases ha with
        | v => cases hb with
          | v => exact h2 _ _ rfl rfl
          | any => rw [eqA_any_r] at hq; cases hq
        | any => rw [eqA_any_l] at hq; cases hq
      · exact ⟨eqGuard_plain (by simp) (by simp), by simp only [binOp, Op.equal, Op.maxDepth, Sem.run_bind, hs, Result.andThen_ok, Sem.run_pure], by simp only [binOp, Op.equal, Op.maxDepth, Sem.run_bind, hs, Result.andThen_ok, Sem.run_pure]⟩
      · exact ⟨eqGuard_plain (by simp) (by simp), by simp only [binOp, Op.equal, Op.maxDepth, Sem.run_bind, hs, Result.andThen_ok, Sem.run_pure], by simp only [binOp, Op.equal, Op.maxDepth, Sem.run_bind, hs, Result.andThen_ok, Sem.run_pure]⟩
    split at h
    · simp only [Option.map_eq_some_iff] at h
      obtain ⟨q, hq, rfl⟩ := h
      obtain ⟨e1, e2, e3⟩ := main hq
      exact ⟨_, by rw [Sem.run_bind, e1]; exact e2, .v _ _⟩
    · simp only [Option.map_eq_some_iff] at h
      obtain ⟨q, hq, rfl⟩ := h
      obtain ⟨e1, e2, e3⟩ := main hq
      exact ⟨_, by rw [Sem.run_bind, e1]; exact e3, .v _ _⟩
    · cases h

/-! ### unary operators, conversions -/
def unA (op : UnOp) (a : A) : Option A :=
  match op, a with
  | .not, .v (.bool b) => some (.v (.bool (!b)))
  | .neg, .v (.int k n) => some (.v (.int k (k.wrap (0 - n))))
  | .xor, .v (.int k n) => some (.v (.int k (bits .xor k (if k.signed = true then -1 else k.max) n)))
  | _, _ => none

theorem unA_sound {P : Program} {w : World} {I : Nat → Prop} {μ : Mu} {op : UnOp} {a r : A} {x : Value} (ha : Rel w I μ a x) (h : unA op a = some r) : ∃ v, (Op.unary op x).run P w = .ok v w ∧ Rel w I μ r v := by
  unfold unA at h
  split at h
  · cases h; cases ha; exact ⟨_, by simp [Op.unary], .v _ _⟩
  · cases h; cases ha; exact ⟨_, by simp [Op.unary, Op.intArith], .v _ _⟩
  · cases h; cases ha; exact ⟨_, by simp [Op.unary, intBits_xor], .v _ _⟩
  · cases h

/-- The byte that a value is; those of values. -/
def byteA : A → Option UInt8
  | .v (.int .u8 n) => if 0 ≤ n ∧ n < 256 then some (UInt8.ofNat n.toNat) else none
  | _ => none
def bytesA : List A → Option (List UInt8)
  | [] => some []
  | x :: xs => match byteA x, bytesA xs with
    | some b, some l => some (b :: l)
    | _, _ => none
theorem byteA_some {x : A} {b : UInt8} (h : byteA x = some b) : x = .v (.int .u8 b.toNat) := by
  unfold byteA at h
  split at h
  · rename_i n
    split at h
    · rename_i hn
      cases h
      have e : (UInt8.ofNat n.toNat).toNat = n.toNat := by
        rw [UInt8.toNat_ofNat']
        exact Nat.mod_eq_of_lt (by omega)
      rw [e]
      congr 2
      omega
    · cases h
  · cases h
theorem bytesA_some : ∀ {xs : List A} {l : List UInt8}, bytesA xs = some l → xs = l.map fun b => A.v (.int .u8 b.toNat)
  | [], l, h => by cases h; rfl
  | x :: xs, l, h => by
    unfold bytesA at h
    split at h
    · rename_i b l' h1 h2
      cases h
      rw [byteA_some h1, bytesA_some h2]
      rfl
    · cases h
theorem bytes_flat (l : List UInt8) : (l.map fun b => A.v (.int .u8 b.toNat)).flatMap A.cells = l.map fun b => A.v (.int .u8 b.toNat) := by
  induction l with
  | nil => rfl
  | cons b l ih => simp only [List.map_cons, List.flatMap_cons, ih]; rfl

def convA (P : Program) (src dst : TypeId) (a : A) : Option A :=
  match P.underlying src, P.underlying dst, a with
  | some _, some (.int k), .v (.int _ n) => some (.v (.int k (k.wrap n)))
  | some _, some .string, .v (.string s) => some (.v (.string s))
  | some (.slice e), some .string, .sl _ xs => match P.underlying e, bytesA xs with
    | some (.int .u8), some l => some (.v (.string ⟨l.toArray⟩))
    | _, _ => none
  | _, _, _ => none

theorem convA_sound {P : Program} {w : World} {I : Nat → Prop} {μ : Mu} {src dst : TypeId} {a r : A} {x : Value} (ha : Rel w I μ a x) (h : convA P src dst a = some r) : ∃ v, (convert src dst x).run P w = .ok v w ∧ Rel w I μ r v := by
  unfold convA at h
  split at h
  · rename_i d k k' n hs hd
    cases h; cases ha
    refine ⟨.int k (k.wrap n), ?_, .v _ _⟩
    cases d <;> simp [convert, run_underlying hs, run_underlying hd, Conv.intToInt]
  · rename_i d s hs hd
    cases h; cases ha
    refine ⟨.string s, ?_, .v _ _⟩
    cases d <;> simp [convert, run_underlying hs, run_underlying hd]
  · rename_i e f xs hs hd
    split at h
    · rename_i l he hl
      cases h
      have hx := bytesA_some hl
      have fin : ∀ (a : Option Addr) (n cap : Nat), n = l.length → (∀ p, a = some p → ∀ j (hj : j < l.length), w.cell? (p.add j) = some (.int .u8 (l[j].toNat : Int))) → (a = none → l = []) →
          ∃ v, (convert src dst (.slice a n cap)).run P w = .ok v w ∧ Rel w I μ (.v (.string ⟨l.toArray⟩)) v := fun a n cap hn hc h0 => by
        subst hn
        cases a with
        | none =>
          rw [h0 rfl, run_convert_bytes_string w src dst e none _ cap hs he hd]
          exact ⟨_, rfl, .v _ _⟩
        | some p => exact ⟨_, run_convert_bytes_back w src dst e p cap l hs he hd (hc p rfl), .v _ _⟩
      cases ha with
      | slN _ _ a cap hf =>
        have : l = [] := by cases l with
          | nil => rfl
          | cons b l => cases hx
        subst this
        exact fin a 0 cap rfl (fun p _ j hj => by simp at hj) (fun _ => rfl)
      | sl _ _ b off n cap sz _ g hI hn hc hf hsz h1 hcell hr =>
        refine fin _ n cap (by rw [hn, hx]; simp) (fun p hp j hj => ?_) (fun hp => by cases hp)
        cases hp
        have hk : (xs.flatMap A.cells)[j]? = some (A.v (.int .u8 l[j].toNat)) := by
          rw [hx, bytes_flat]; simp [hj]
        rw [Addr.add_lit, hcell j _ hk]
        have := hr j _ hk
        generalize g j = q at this ⊢
        cases this
        rfl
    · cases h
  · cases h

/-! ### min, max -/
def minmaxA (mx : Bool) : List A → Option A
  | [.v (.int k x)] => some (.v (.int k x))
  | [.v (.int k x), .v (.int _ y)] => some (.v (.int k (if (if mx = true then y > x else y < x) then y else x)))
  | _ => none

theorem min_sound {P : Program} {w : World} {I : Nat → Prop} {μ : Mu} {as : List A} {xs : List Value} {r : A} {ts : Array TypeId} {ty : TypeId} (hl : xs.length = as.length) (hr : ∀ (k : Nat) (a : A) (x : Value), as[k]? = some a → xs[k]? = some x → Rel w I μ a x)
    (h : minmaxA false as = some r) : ∃ v, (Builtin.min_ ts ty xs.toArray).run P w = .ok v w ∧ Rel w I μ r v := by
  unfold minmaxA at h
  split at h
  · cases h
    match xs, hl with
    | [x0], _ =>
      have := hr 0 _ _ rfl rfl
      cases this
      exact ⟨_, by simp [Builtin.min_], .v _ _⟩
  · cases h
    match xs, hl with
    | [x0, x1], _ =>
      have h0 := hr 0 _ _ rfl rfl
      have h1 := hr 1 _ _ rfl rfl
      cases h0; cases h1
      exact ⟨_, by simp [Builtin.min_, Builtin.min2], .v _ _⟩
  · cases h

theorem max_sound {P : Program} {w : World} {I : Nat → Prop} {μ : Mu} {as : List A} {xs : List Value} {r : A} {ts : Array TypeId} {ty : TypeId} (hl : xs.length = as.length) (hr : ∀ (k : Nat) (a : A) (x : Value), as[k]? = some a → xs[k]? = some x → Rel w I μ a x)
    (h : minmaxA true as = some r) : ∃ v, (Builtin.max_ ts ty xs.toArray).run P w = .ok v w ∧ Rel w I μ r v := by
  unfold minmaxA at h
  split at h
  · cases h
    match xs, hl with
    | [x0], _ =>
      have := hr 0 _ _ rfl rfl
      cases this
      exact ⟨_, by simp [Builtin.max_], .v _ _⟩
  · cases h
    match xs, hl with
    | [x0, x1], _ =>
      have h0 := hr 0 _ _ rfl rfl
      have h1 := hr 1 _ _ rfl rfl
      cases h0; cases h1
      exact ⟨_, by simp [Builtin.max_, Builtin.max2], .v _ _⟩
  · cases h
end Go.G
