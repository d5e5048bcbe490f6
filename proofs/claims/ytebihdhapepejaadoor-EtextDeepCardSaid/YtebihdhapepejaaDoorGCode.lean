/-
  A function's text as data without its marks; how it is stepped through.
-/
import Derived.Test.YtebihdhapepejaaDoorGWalk
import Derived.Scope
namespace Go.G
set_option linter.unusedVariables false
set_option linter.unusedSimpArgs false
open Go.RowKit

/-- An operation: where to, what, and the slot that must hold such a bool; the name of what it makes; its place, against which ones ahead it is held, and whether one behind is held against it. -/
structure CO where
  d : Option Nat
  o : Op
  g : Option (Nat × Bool)
  nm : Nm
  ix : Nat
  un : List Nat
  lg : Bool

abbrev co (d : Option Nat) (o : Op) (g : Option (Nat × Bool)) : CO := ⟨d, o, g, [], 0, [], false⟩
abbrev cn (d : Option Nat) (o : Op) (g : Option (Nat × Bool)) (nm : Nm) : CO := ⟨d, o, g, nm, 0, [], false⟩

inductive CC where
  | skip
  | reg (ops : List CO) (live : List Nat)
  | seq (x y : CC)
  | cond (c : Operand) (x y : CC)
  | block (i : Nat) (x : CC)
  | loop (x : CC)
  | exit (i : Nat)
  | ret
  | keep (live : List Nat) (x : CC)
  | stop (x : CC)
  | scope (x : CC)

def lookN : List (Nat × Nm) → Nat → Nm
  | [], _ => []
  | (k, n) :: l, i => if k = i then n else lookN l i

def needM (draw : Bool) (ops : Array Oper) (ms : List Nat) (i j : Nat) : Bool := draw && needB ops ms i j
theorem needM_R {draw : Bool} {ops : Array Oper} : needM draw ops (msOf ops) = needR draw ops := by
  cases draw
  · rfl
  · funext i j; simp [needM, needR]

def coOf (ops : Array Oper) (draw : Bool) (ms : List Nat) (nms : List (Nat × Nm)) (i : Nat) (o : Oper) : Option CO :=
  let un := (List.range i).filter fun j => needM draw ops ms j i
  let lg := (List.range ops.size).any fun k => Nat.blt i k && needM draw ops ms i k
  let ix := if un.isEmpty && !lg then 0 else i
  match o.guard with
  | none => some ⟨o.dst, o.op, none, lookN nms i, ix, un, lg⟩
  | some (j, f) => match (ops[j]?).bind (·.dst) with
    | some d => some ⟨o.dst, o.op, some (d, f), lookN nms i, ix, un, lg⟩
    | none => none

def cosOf (ops : Array Oper) (draw : Bool) (ms : List Nat) (nms : List (Nat × Nm)) : Nat → List Oper → Option (List CO)
  | _, [] => some []
  | i, o :: l => match coOf ops draw ms nms i o, cosOf ops draw ms nms (i + 1) l with
    | some x, some r => some (x :: r)
    | _, _ => none

/-- The data are the text's; each region stands as it must. -/
inductive Is (n : Nat) : CC → Code → Prop
  | skip : Is n .skip .skip
  | reg (id : Nat) (ops : Array Oper) (draw : Bool) (live : List Nat) (nms : List (Nat × Nm)) (l : List CO) : regOK n ops draw = true → cosOf ops draw (msOf ops) nms 0 ops.toList = some l → Is n (.reg l live) (.region id ops draw)
  | seq (x y : CC) (a b : Code) : Is n x a → Is n y b → Is n (.seq x y) (.seq a b)
  | cond (o : Operand) (x y : CC) (a b : Code) : Is n x a → Is n y b → Is n (.cond o x y) (.cond o a b)
  | block (i : Nat) (x : CC) (a : Code) : Is n x a → Is n (.block i x) (.block i a)
  | loop (x : CC) (a : Code) : Is n x a → Is n (.loop x) (.loop a)
  | exit (i : Nat) : Is n (.exit i) (.exit i)
  | ret : Is n .ret .ret
  | keep (live : List Nat) (x : CC) (a : Code) : Is n x a → Is n (.keep live x) a
  | stop (x : CC) (a : Code) : Is n x a → Is n (.stop x) a
  | scope (x : CC) (a : Code) : Is n x a → Is n (.scope x) (.scope a)
  | label (l : Nat) : Is n .skip (.label l)
/-- Within a scope nothing jumps. -/
def NoG (Q : Exit → Sta → Prop) : Exit → Sta → Prop
  | .goto _, _ => False
  | e, st => Q e st

def Sta.keep (st : Sta) (live : List Nat) : Sta := ⟨lk (live.map fun k => (k, st.s k)), st.H⟩

theorem le_keep {c : Cx} {st : Sta} (live : List Nat) : Le c st (st.keep live) := le_list _ (fun p hp => by
  obtain ⟨k, _, rfl⟩ := List.mem_map.1 hp
  rfl)

/-! ### stepping -/
def YieldsC (P : Program) (D : TypeId → Prop) (o : CO) (st : Sta) (x : A) (E : Eff) (f : Ft) : Prop :=
  match o.g with
  | none => OpR P D o.nm o.o (evs st.s) st.H x E f.R f.W
  | some (d, fl) => ∃ q x0, wantA (st.s d) fl = some q ∧ (q = true → OpR P D o.nm o.o (evs st.s) st.H x0 E f.R f.W) ∧ x = gd q x0 ∧ (q = false → E = .nil ∧ f.R = [] ∧ f.W = [])

/-- It goes beside those ahead against which it is held. -/
def Ck (un : List Nat) (lg : Lg) (f : Ft) : Prop := ∀ p, p ∈ lg → p.1 ∈ un → nc p.2 f = true
def addL (b : Bool) (i : Nat) (f : Ft) (lg : Lg) : Lg := if b = true then (i, f) :: lg else lg

/-- What comes behind, and what may be panicked with. -/
structure Kont where
  D : TypeId → Prop
  k : Sta → Prop
def SeqC (P : Program) (K : Kont) : List CO → Lg → Sta → Prop
  | [], _, st => K.k st
  | o :: rest, lg, st => ∃ x E f, YieldsC P K.D o st x E f ∧ Ck o.un lg f ∧ SeqC P K rest (addL o.lg o.ix f lg) (st.put o.d x (E.app st.H))

theorem co_spec {ops : Array Oper} {draw : Bool} {ms : List Nat} {nms : List (Nat × Nm)} {i : Nat} {o : Oper} {c : CO} (h : coOf ops draw ms nms i o = some c) : c.d = o.dst ∧ c.o = o.op ∧ c.nm = lookN nms i ∧
    c.un = ((List.range i).filter fun j => needM draw ops ms j i) ∧ c.lg = ((List.range ops.size).any fun k => Nat.blt i k && needM draw ops ms i k) ∧ (c.un ≠ [] ∨ c.lg = true → c.ix = i) ∧
    ((o.guard = none ∧ c.g = none) ∨ ∃ j f d, o.guard = some (j, f) ∧ (ops[j]?).bind (·.dst) = some d ∧ c.g = some (d, f)) := by
  have hix : ∀ (un : List Nat) (lg : Bool), un ≠ [] ∨ lg = true → (if (un.isEmpty && !lg) = true then 0 else i) = i := fun un lg hh => by
    rw [if_neg]
    rcases hh with h1 | h1
    · cases un with
      | nil => exact (h1 rfl).elim
      | cons => simp
    · simp [h1]
  unfold coOf at h
  cases hg : o.guard with
  | none =>
    rw [hg] at h
    simp only [Option.some.injEq] at h
    subst h
    exact ⟨rfl, rfl, rfl, rfl, rfl, hix _ _, .inl ⟨rfl, rfl⟩⟩
  | some p =>
    obtain ⟨j, f⟩ := p
    rw [hg] at h
    simp only at h
    cases hj : (ops[j]?).bind (·.dst) with
    | none => rw [hj] at h; cases h
    | some d =>
      rw [hj] at h
      simp only [Option.some.injEq] at h
      subst h
      exact ⟨rfl, rfl, rfl, rfl, rfl, hix _ _, .inr ⟨j, f, d, rfl, hj, rfl⟩⟩

theorem seqC_sound {P : Program} {ops : Array Oper} {draw : Bool} {ms : List Nat} {nms : List (Nat × Nm)} {K : Kont} : ∀ (l : List Oper) (i : Nat) (r : List CO) (Lf lg : Lg) (st : Sta), cosOf ops draw ms nms i l = some r → i + l.length = ops.size →
    (∀ p, p ∈ Lf → p.1 < i ∧ ∀ k, i ≤ k → k < ops.size → needM draw ops ms p.1 k = true → p ∈ lg) → SeqC P K r lg st → SeqA P K.D (lookN nms) (needM draw ops ms) ops K.k l i Lf st := by
  intro l
  induction l with
  | nil =>
    intro i r Lf lg st he _ _ h
    cases he
    exact h
  | cons o l ih =>
    intro i r Lf lg st he hsz hlg h
    unfold cosOf at he
    split at he
    · rename_i c r' hc hr
      cases he
      obtain ⟨e1, e2, e3, e4, e5, e7, e6⟩ := co_spec hc
      obtain ⟨x, E, f, hy, hk, h⟩ := h
      simp only [List.length_cons] at hsz
      refine ⟨x, E, f, ?_, fun p hp hn => ?_, ?_⟩
      · unfold YieldsC at hy
        rw [e2, e3] at hy
        rcases e6 with ⟨hg, hc⟩ | ⟨j, fl, d, hg, hj, hc⟩
        · rw [hc] at hy
          exact ⟨true, x, by unfold Guard; rw [hg], fun _ => hy, rfl, fun h => nomatch h⟩
        · rw [hc] at hy
          obtain ⟨q, x0, k1, k2, k3, k4⟩ := hy
          exact ⟨q, x0, by unfold Guard; rw [hg]; exact ⟨d, hj, k1⟩, k2, k3, k4⟩
      · obtain ⟨h1, h2⟩ := hlg p hp
        refine hk p (h2 i (Nat.le_refl _) (by omega) hn) ?_
        rw [e4]
        exact List.mem_filter.2 ⟨List.mem_range.2 h1, hn⟩
      · rw [e1] at h
        refine ih (i + 1) r' _ _ _ hr (by omega) (fun p hp => ?_) h
        rcases List.mem_cons.1 hp with rfl | hp
        · refine ⟨Nat.lt_succ_self _, fun k h1 h2 h3 => ?_⟩
          have hl : c.lg = true := by
            rw [e5]
            exact List.any_eq_true.2 ⟨k, List.mem_range.2 h2, by simp [Nat.blt_eq, h3]; omega⟩
          unfold addL
          rw [if_pos hl, e7 (.inr hl)]
          simp
        · obtain ⟨h1, h2⟩ := hlg p hp
          refine ⟨by omega, fun k h3 h4 h5 => ?_⟩
          have := h2 k (by omega) h4 h5
          unfold addL
          split
          · exact List.mem_cons_of_mem _ this
          · exact this
    · cases he

def LoopC (c : Cx) (x : CC) (Q : Exit → Sta → Prop) (st : Sta) : Prop := ∀ a, Is c.n x a → AHead c a Q st

def ThenC (K : Sta → Prop) (Q : Exit → Sta → Prop) : Exit → Sta → Prop
  | .normal, st => K st
  | e, st => Q e st

/-- No state of the model is like this. -/
def Dead (c : Cx) (st : Sta) : Prop := ∀ a w I μ, ¬ SR c st a w I μ
/-- Here the state may be told otherwise. -/
def StopK (c : Cx) (K : Sta → Prop) (st : Sta) : Prop := Dead c st ∨ ∃ st', Le c st st' ∧ K st'
theorem stop_dead {c : Cx} {K : Sta → Prop} {st : Sta} (h : Dead c st) : StopK c K st := .inl h
theorem stop_go {c : Cx} {K : Sta → Prop} {st : Sta} (h : K st) : StopK c K st := .inr ⟨st, Le.refl, h⟩
theorem stop_le {c : Cx} {K : Sta → Prop} {st st' : Sta} (h : Le c st st') (k : StopK c K st') : StopK c K st := k.elim (fun hd => .inl fun a w I μ hs => let ⟨_, _, h2⟩ := h a w I μ hs; hd _ _ _ _ h2) fun ⟨st2, h2, k2⟩ => .inr ⟨st2, h.trans h2, k2⟩
theorem LoopC.dead {c : Cx} {x : CC} {Q : Exit → Sta → Prop} {st : Sta} (h : Dead c st) : LoopC c x Q st := fun _ _ _ _ _ _ hs => (h _ _ _ _ hs).elim

def WPC (c : Cx) : CC → (Exit → Sta → Prop) → Sta → Prop
  | .skip, Q, st => Q .normal st
  | .exit i, Q, st => Q (.exit i) st
  | .ret, Q, st => Q .ret st
  | .reg ops live, Q, st => SeqC c.P ⟨c.die, fun st => Q .normal (st.keep live)⟩ ops [] st
  | .seq x y, Q, st => WPC c x (ThenC (WPC c y Q) Q) st
  | .cond o x y, Q, st => ∃ b, evs st.s o = .v (.bool b) ∧ (b = true → WPC c x Q st) ∧ (b = false → WPC c y Q st)
  | .block i x, Q, st => WPC c x (InBlock i Q) st
  | .loop x, Q, st => LoopC c x Q st
  | .keep live x, Q, st => WPC c x Q (st.keep live)
  | .stop x, Q, st => StopK c (fun st => WPC c x Q st) st
  | .scope x, Q, st => WPC c x (NoG Q) st

theorem wpc_sound {c : Cx} (hm : c.P.follows .mixedOrders = true) : ∀ {x : CC} {a : Code} {Q : Exit → Sta → Prop} {st : Sta}, Is c.n x a → WPC c x Q st → AWP c a Q st := by
  intro x a Q st hi
  induction hi generalizing Q st with
  | skip => exact fun h => awp_skip h
  | exit i => exact fun h => awp_exit h
  | ret => exact fun h => awp_ret h
  | reg id ops draw live nms l hok hl =>
    intro h
    intro a w I μ hs
    have h1 := seqC_sound ops.toList 0 l [] [] _ hl (by simp) (fun p hp => by simp at hp) h
    rw [needM_R] at h1
    refine region_sound hm hok (K := fun st => Q .normal (st.keep live)) (fun t _ _ e k1 k2 => .inr ⟨t, e, rfl, k1, k2⟩) (fun st' a' w' I' μ' h1 h2 => ?_) hs h1
    obtain ⟨I2, μ2, h3⟩ := le_keep live a' w' I' μ' h1
    exact .inl ⟨_, I2, μ2, h3, h2⟩
  | seq x y a b _ _ ih1 ih2 =>
    intro h
    refine awp_seq ((ih1 h).mono fun e st' hq => ?_)
    cases e <;> first | exact ih2 hq | exact hq
  | cond o x y a b _ _ ih1 ih2 =>
    intro ⟨q, hb, ht, hf⟩
    exact awp_cond hb (fun h => ih1 (ht h)) (fun h => ih2 (hf h))
  | block i x a _ ih => exact fun h => awp_block (ih h)
  | loop x a hx _ => exact fun h => awp_loop (h a hx)
  | keep live x a _ ih =>
    intro h a w I μ hs
    obtain ⟨I2, μ2, h3⟩ := le_keep live a w I μ hs
    exact ih h a w I2 μ2 h3
  | stop x a _ ih =>
    intro hh a w I μ hs
    rcases hh with hh | ⟨st', h1, h2⟩
    · exact (hh a w I μ hs).elim
    · obtain ⟨I2, μ2, h3⟩ := h1 a w I μ hs
      exact ih h2 a w I2 μ2 h3
  | scope x a _ ih =>
    intro h a w I μ hs
    refine wp_scope_straight (wp_mono (ih h a w I μ hs) fun e a' w' hh => ?_)
    rcases hh with ⟨st', I', μ', h1, h2⟩ | ⟨t, h1, rfl, h2⟩
    · cases e with
      | goto l => exact h2.elim
      | _ => exact .inl ⟨st', I', μ', h1, h2⟩
    · exact .inr ⟨t, h1, rfl, h2⟩
  | label l => exact fun h a w I μ hs => wp_label (.inl ⟨st, I, μ, hs, h⟩)

/-- Less may be known. -/
theorem WPC.mono {c : Cx} : ∀ {x : CC} {Q Q' : Exit → Sta → Prop} {st : Sta}, (∀ e st, Q e st → Q' e st) → WPC c x Q st → WPC c x Q' st
  | .skip, _, _, _, hq, h => hq _ _ h
  | .exit _, _, _, _, hq, h => hq _ _ h
  | .ret, _, _, _, hq, h => hq _ _ h
  | .reg ops live, Q, Q', st, hq, h => by
    have : ∀ (ops : List CO) (lg : Lg) (st : Sta), SeqC c.P ⟨c.die, fun st => Q .normal (st.keep live)⟩ ops lg st → SeqC c.P ⟨c.die, fun st => Q' .normal (st.keep live)⟩ ops lg st := by
      intro ops
      induction ops with
      | nil => exact fun lg st h => hq _ _ h
      | cons o ops ih => exact fun lg st ⟨x, E, f, h1, h2, h3⟩ => ⟨x, E, f, h1, h2, ih _ _ h3⟩
    exact this ops _ st h
  | .seq x y, Q, Q', st, hq, h => WPC.mono (x := x) (fun e st' h' => by cases e <;> first | exact WPC.mono (x := y) hq h' | exact hq _ _ h') h
  | .cond o x y, Q, Q', st, hq, ⟨b, h1, h2, h3⟩ => ⟨b, h1, fun h => WPC.mono hq (h2 h), fun h => WPC.mono hq (h3 h)⟩
  | .block i x, Q, Q', st, hq, h => WPC.mono (x := x) (fun e st' h' => by
      cases e with
      | exit j =>
        by_cases hj : j = i
        · subst hj; rw [InBlock_self] at h' ⊢; exact hq _ _ h'
        · rw [InBlock_other hj] at h' ⊢; exact hq _ _ h'
      | _ => exact hq _ _ h') h
  | .keep live x, Q, Q', st, hq, h => WPC.mono (x := x) hq h
  | .stop x, Q, Q', st, hq, h => h.imp id fun ⟨st', h1, h2⟩ => ⟨st', h1, WPC.mono (x := x) hq h2⟩
  | .scope x, Q, Q', st, hq, h => WPC.mono (x := x) (fun e st' h' => by
      cases e with
      | goto l => exact h'
      | _ => exact hq _ _ h') h
  | .loop x, Q, Q', st, hq, h => fun a ha a' w I μ hs b k cs => by
    obtain ⟨e, a1, w1, h1, h3⟩ := h a ha a' w I μ hs b k cs
    exact ⟨e, a1, w1, h1.imp (fun ⟨st', I', μ', h1, h2⟩ => ⟨st', I', μ', h1, hq _ _ h2⟩) id, h3⟩

/-- A loop's head: the round, then the head again. -/
theorem loopC_round {c : Cx} (hm : c.P.follows .mixedOrders = true) {x : CC} {Q : Exit → Sta → Prop} {st : Sta} (h : WPC c x (ThenC (LoopC c x Q) Q) st) : LoopC c x Q st := fun a ha =>
  ahead_round ((wpc_sound hm ha h).mono fun e st' hq => by cases e <;> first | exact hq a ha | exact hq)

theorem LoopC.le {c : Cx} {x : CC} {Q : Exit → Sta → Prop} {st st' : Sta} (h : Le c st st') (k : LoopC c x Q st') : LoopC c x Q st := fun a ha => (k a ha).le h

/-! ### the data out of the text -/
def keepIf : List Nat → CC → CC
  | 999999 :: live, y => .keep live y
  | 999998 :: _, y => .stop y
  | 999997 :: live, y => .keep live (.stop y)
  | _, y => y
theorem is_keepIf {n : Nat} {m : List Nat} {y : CC} {b : Code} (h : Is n y b) : Is n (keepIf m y) b := by
  unfold keepIf
  split
  · exact .keep _ _ _ h
  · exact .stop _ _ h
  · exact .keep _ _ _ (.stop _ _ h)
  · exact h
abbrev Mk := List Nat × List (Nat × Nm)
def toCC (n : Nat) : Code → List Mk → Option (CC × List Mk)
  | .skip, ls => some (.skip, ls)
  | .exit i, ls => some (.exit i, ls)
  | .ret, ls => some (.ret, ls)
  | .region _ ops draw, (live, nms) :: ls => if regOK n ops draw = true then match cosOf ops draw (msOf ops) nms 0 ops.toList with
      | some l => some (.reg l live, ls)
      | none => none else none
  | .seq a b, ls => match toCC n a ls with
    | some (x, m :: ls) => match toCC n b ls with
      | some (y, ls) => some (.seq x (keepIf m.1 y), ls)
      | none => none
    | _ => none
  | .cond o a b, ls => match toCC n a ls with
    | some (x, ls) => match toCC n b ls with
      | some (y, ls) => some (.cond o x y, ls)
      | none => none
    | none => none
  | .block i a, ls => match toCC n a ls with
    | some (x, ls) => some (.block i x, ls)
    | none => none
  | .loop a, ls => match toCC n a ls with
    | some (x, ls) => some (.loop x, ls)
    | none => none
  | .scope a, ls => match toCC n a ls with
    | some (x, ls) => some (.scope x, ls)
    | none => none
  | .label _, ls => some (.skip, ls)
  | _, _ => none

theorem toCC_is {n : Nat} : ∀ {a : Code} {ls ls' : List Mk} {x : CC}, toCC n a ls = some (x, ls') → Is n x a := by
  intro a
  induction a with
  | skip => intro ls ls' x h; simp only [toCC] at h; cases h; exact .skip
  | exit i => intro ls ls' x h; simp only [toCC] at h; cases h; exact .exit i
  | ret => intro ls ls' x h; simp only [toCC] at h; cases h; exact .ret
  | region id ops draw =>
    intro ls ls' x h
    cases ls with
    | nil => simp [toCC] at h
    | cons live ls =>
      simp only [toCC] at h
      split at h
      · rename_i hok
        split at h
        · rename_i l hl
          cases h
          exact .reg _ _ _ _ _ _ hok hl
        · cases h
      · cases h
  | seq a b ih1 ih2 =>
    intro ls ls' x h
    simp only [toCC] at h
    split at h
    · rename_i q1 m l1 h1
      split at h
      · rename_i q2 l2 h2
        cases h
        exact .seq _ _ _ _ (ih1 h1) (is_keepIf (ih2 h2))
      · cases h
    · cases h
  | cond o a b ih1 ih2 =>
    intro ls ls' x h
    simp only [toCC] at h
    split at h
    · rename_i q1 l1 h1
      split at h
      · rename_i q2 l2 h2
        cases h
        exact .cond _ _ _ _ _ (ih1 h1) (ih2 h2)
      · cases h
    · cases h
  | block i a ih =>
    intro ls ls' x h
    simp only [toCC] at h
    split at h
    · rename_i q1 l1 h1
      cases h
      exact .block _ _ _ (ih h1)
    · cases h
  | loop a ih =>
    intro ls ls' x h
    simp only [toCC] at h
    split at h
    · rename_i q1 l1 h1
      cases h
      exact .loop _ _ (ih h1)
    · cases h
  | scope a ih =>
    intro ls ls' x h
    simp only [toCC] at h
    split at h
    · rename_i q1 l1 h1
      cases h
      exact .scope _ _ (ih h1)
    · cases h
  | label l => intro ls ls' x h; simp only [toCC] at h; cases h; exact .label l
  | _ => intro ls ls' x h; cases ls <;> simp [toCC] at h

/-- What is known of a function's text. -/
structure Txt (P : Program) (f : FuncId) (n : Nat) (rs : List ResultVar) (cc : CC) : Prop where
  mixed : P.follows .mixedOrders = true
  ok : okFn P f = true
  fn : ∃ fn code, P.funcs[f]? = some fn ∧ fn.body = some code ∧ fn.ntmps = n ∧ fn.results.toList = rs ∧ Is n cc code

theorem txt_of {P : Program} {f : FuncId} {fn : Func} {code : Code} {cc : CC} {ls : List Mk} {rs : List ResultVar} {n : Nat} (hm : P.follows .mixedOrders = true) (hk : okFn P f = true) (hf : P.funcs[f]? = some fn) (hb : fn.body = some code)
    (hn : fn.ntmps = n) (hrs : fn.results.toList = rs) (hc : toCC n code ls = some (cc, [])) : Txt P f n rs cc := ⟨hm, hk, fn, code, hf, hb, hn, hrs, toCC_is hc⟩

/-- The function's end, its results as data. -/
def RetC (P : Program) (rs : List ResultVar) (r : A) : Exit → Sta → Prop := RetG P rs fun r0 H => Frz H r0 r

theorem spec_of {P : Program} {f : FuncId} {n : Nat} {rs : List ResultVar} {cc : CC} {args : List A} {r : A} (t : Txt P f n rs cc) (ha : args.length ≤ n) (h : ∀ w0 I0, WPC (cx P w0 I0 n) cc (RetC P rs r) ⟨argS args, H0⟩) : Spec P f args r := by
  obtain ⟨hm, hk, fn, code, hf, hb, hn, hrs, hc⟩ := t
  exact spec_intro hk hf hb hn ha fun w0 I0 => wpc_sound (c := cx P w0 I0 n) hm hc (by rw [hrs]; exact h w0 I0)
end Go.G
