/-
  A function's text as data without its marks; how it is stepped through.
-/
import Derived.Test.YtfdlelcipnabpaaAbWalk
namespace Go.Ab
set_option linter.unusedVariables false
set_option linter.unusedSimpArgs false
open Go.RowKit

/-- An operation: where to, what, and the slot that must hold such a bool. -/
structure CO where
  d : Option Nat
  o : Op
  g : Option (Nat × Bool)

inductive CC where
  | skip
  | reg (ops : List CO) (draw : Bool) (live : List Nat)
  | seq (x y : CC)
  | cond (c : Operand) (x y : CC)
  | block (i : Nat) (x : CC)
  | loop (x : CC)
  | exit (i : Nat)
  | ret
  | keep (live : List Nat) (x : CC)

def coOf (ops : Array Oper) (o : Oper) : Option CO :=
  match o.guard with
  | none => some ⟨o.dst, o.op, none⟩
  | some (j, f) => match (ops[j]?).bind (·.dst) with
    | some d => some ⟨o.dst, o.op, some (d, f)⟩
    | none => none

/-- The data are the text's; each region stands as it must. -/
inductive Is (n : Nat) : CC → Code → Prop
  | skip : Is n .skip .skip
  | reg (id : Nat) (ops : Array Oper) (draw : Bool) (live : List Nat) (l : List CO) : regOK n ops draw = true → ops.toList.map (coOf ops) = l.map some → Is n (.reg l draw live) (.region id ops draw)
  | seq (x y : CC) (a b : Code) : Is n x a → Is n y b → Is n (.seq x y) (.seq a b)
  | cond (o : Operand) (x y : CC) (a b : Code) : Is n x a → Is n y b → Is n (.cond o x y) (.cond o a b)
  | block (i : Nat) (x : CC) (a : Code) : Is n x a → Is n (.block i x) (.block i a)
  | loop (x : CC) (a : Code) : Is n x a → Is n (.loop x) (.loop a)
  | exit (i : Nat) : Is n (.exit i) (.exit i)
  | ret : Is n .ret .ret
  | keep (live : List Nat) (x : CC) (a : Code) : Is n x a → Is n (.keep live x) a

def cosOf (ops : Array Oper) : List Oper → Option (List CO)
  | [] => some []
  | o :: l => match coOf ops o, cosOf ops l with
    | some x, some r => some (x :: r)
    | _, _ => none

theorem cosOf_map {ops : Array Oper} : ∀ {l : List Oper} {r : List CO}, cosOf ops l = some r → l.map (coOf ops) = r.map some
  | [], r, h => by cases h; rfl
  | o :: l, r, h => by
    unfold cosOf at h
    split at h
    · rename_i x r' h1 h2
      cases h
      simp [h1, cosOf_map h2]
    · cases h

def Sta.keep (st : Sta) (live : List Nat) : Sta := ⟨lk (live.map fun k => (k, st.s k)), st.H⟩

theorem le_keep {c : Cx} {st : Sta} (live : List Nat) : Le c st (st.keep live) := le_list _ (fun p hp => by
  obtain ⟨k, _, rfl⟩ := List.mem_map.1 hp
  rfl)

/-! ### stepping -/
def YieldsC (P : Program) (fl : Bool) (o : CO) (st : Sta) (x : A) (H' : List Ob) : Prop :=
  match o.g with
  | none => OpR P fl o.o (evs st.s) st.H x H'
  | some (d, f) => ∃ q x0, wantA (st.s d) f = some q ∧ (q = true → OpR P fl o.o (evs st.s) st.H x0 H') ∧ x = gd q x0 ∧ (q = false → H' = st.H)

def SeqC (P : Program) (fl : Bool) (K : Sta → Prop) : List CO → Sta → Prop
  | [], st => K st
  | o :: rest, st => ∃ x H', YieldsC P fl o st x H' ∧ SeqC P fl K rest (st.put o.d x H')

theorem co_spec {ops : Array Oper} {o : Oper} {c : CO} (h : coOf ops o = some c) : c.d = o.dst ∧ c.o = o.op ∧
    ((o.guard = none ∧ c.g = none) ∨ ∃ j f d, o.guard = some (j, f) ∧ (ops[j]?).bind (·.dst) = some d ∧ c.g = some (d, f)) := by
  unfold coOf at h
  cases hg : o.guard with
  | none =>
    rw [hg] at h
    simp only [Option.some.injEq] at h
    subst h
    exact ⟨rfl, rfl, .inl ⟨rfl, rfl⟩⟩
  | some p =>
    obtain ⟨j, f⟩ := p
    rw [hg] at h
    simp only at h
    cases hj : (ops[j]?).bind (·.dst) with
    | none => rw [hj] at h; cases h
    | some d =>
      rw [hj] at h
      simp only [Option.some.injEq] at h
      subst h
      exact ⟨rfl, rfl, .inr ⟨j, f, d, rfl, hj, rfl⟩⟩

theorem yieldsC_sound {P : Program} {fl : Bool} {ops : Array Oper} {o : Oper} {c : CO} {st : Sta} {x : A} {H' : List Ob} (h : coOf ops o = some c) (hy : YieldsC P fl c st x H') : YieldsA P fl ops o st x H' := by
  obtain ⟨_, h2, h3⟩ := co_spec h
  unfold YieldsC at hy
  rw [h2] at hy
  rcases h3 with ⟨hg, hc⟩ | ⟨j, f, d, hg, hj, hc⟩
  · rw [hc] at hy
    exact ⟨true, x, by unfold Guard; rw [hg], fun _ => hy, rfl, fun h => by cases h⟩
  · rw [hc] at hy
    obtain ⟨q, x0, e1, e2, e3, e4⟩ := hy
    exact ⟨q, x0, by unfold Guard; rw [hg]; exact ⟨d, hj, e1⟩, e2, e3, e4⟩

theorem seqC_sound {P : Program} {fl : Bool} {ops : Array Oper} {K : Sta → Prop} : ∀ (l : List Oper) (r : List CO) (st : Sta), l.map (coOf ops) = r.map some → SeqC P fl K r st → SeqA P fl ops K l st := by
  intro l
  induction l with
  | nil =>
    intro r st he h
    cases r with
    | nil => exact h
    | cons => cases he
  | cons o l ih =>
    intro r st he h
    cases r with
    | nil => cases he
    | cons c r =>
      simp only [List.map_cons, List.cons.injEq] at he
      obtain ⟨x, H', hy, hk⟩ := h
      rw [(co_spec he.1).1] at hk
      exact ⟨x, H', yieldsC_sound he.1 hy, ih r _ he.2 hk⟩

def LoopC (c : Cx) (x : CC) (Q : Exit → Sta → Prop) (st : Sta) : Prop := ∀ a, Is c.n x a → AHead c a Q st

def ThenC (K : Sta → Prop) (Q : Exit → Sta → Prop) : Exit → Sta → Prop
  | .normal, st => K st
  | e, st => Q e st

def WPC (c : Cx) : CC → (Exit → Sta → Prop) → Sta → Prop
  | .skip, Q, st => Q .normal st
  | .exit i, Q, st => Q (.exit i) st
  | .ret, Q, st => Q .ret st
  | .reg ops draw live, Q, st => SeqC c.P draw (fun st => Q .normal (st.keep live)) ops st
  | .seq x y, Q, st => WPC c x (ThenC (WPC c y Q) Q) st
  | .cond o x y, Q, st => ∃ b, evs st.s o = .v (.bool b) ∧ (b = true → WPC c x Q st) ∧ (b = false → WPC c y Q st)
  | .block i x, Q, st => WPC c x (InBlock i Q) st
  | .loop x, Q, st => LoopC c x Q st
  | .keep live x, Q, st => WPC c x Q (st.keep live)

theorem wpc_sound {c : Cx} (hm : c.P.follows .mixedOrders = true) : ∀ {x : CC} {a : Code} {Q : Exit → Sta → Prop} {st : Sta}, Is c.n x a → WPC c x Q st → AWP c a Q st := by
  intro x a Q st hi
  induction hi generalizing Q st with
  | skip => exact fun h => awp_skip h
  | exit i => exact fun h => awp_exit h
  | ret => exact fun h => awp_ret h
  | reg id ops draw live l hok hl =>
    intro h
    intro a w I μ hs
    refine region_sound hm hok (K := fun st => Q .normal (st.keep live)) (fun st' a' w' I' μ' h1 h2 => ?_) hs (seqC_sound _ _ _ hl h)
    obtain ⟨I2, μ2, h3⟩ := le_keep live a' w' I' μ' h1
    exact ⟨_, I2, μ2, h3, h2⟩
  | seq x y a b _ _ ih1 ih2 =>
    intro h
    refine awp_seq ((ih1 h).mono fun e st' hq => ?_)
    cases e <;> first | exact ih2 hq | exact hq
  | cond o x y a b _ _ ih1 ih2 =>
    intro ⟨q, hb, ht, hf⟩
    exact awp_cond hb (fun h => ih1 (ht h)) (fun h => ih2 (hf h))
  | block i x a _ ih => exact fun h => awp_block (ih h)
  | loop x a hx _ => exact fun h => awp_loop (h a hx)
  | keep live x a _ ih =>
    intro h a w I μ hs
    obtain ⟨I2, μ2, h3⟩ := le_keep live a w I μ hs
    exact ih h a w I2 μ2 h3

/-- Less may be known. -/
theorem WPC.mono {c : Cx} : ∀ {x : CC} {Q Q' : Exit → Sta → Prop} {st : Sta}, (∀ e st, Q e st → Q' e st) → WPC c x Q st → WPC c x Q' st
  | .skip, _, _, _, hq, h => hq _ _ h
  | .exit _, _, _, _, hq, h => hq _ _ h
  | .ret, _, _, _, hq, h => hq _ _ h
  | .reg ops draw live, Q, Q', st, hq, h => by
    have : ∀ (ops : List CO) (st : Sta), SeqC c.P draw (fun st => Q .normal (st.keep live)) ops st → SeqC c.P draw (fun st => Q' .normal (st.keep live)) ops st := by
      intro ops
      induction ops with
      | nil => exact fun st h => hq _ _ h
      | cons o ops ih => exact fun st ⟨x, H', h1, h2⟩ => ⟨x, H', h1, ih _ h2⟩
    exact this ops st h
  | .seq x y, Q, Q', st, hq, h => WPC.mono (x := x) (fun e st' h' => by cases e <;> first | exact WPC.mono (x := y) hq h' | exact hq _ _ h') h
  | .cond o x y, Q, Q', st, hq, ⟨b, h1, h2, h3⟩ => ⟨b, h1, fun h => WPC.mono hq (h2 h), fun h => WPC.mono hq (h3 h)⟩
  | .block i x, Q, Q', st, hq, h => WPC.mono (x := x) (fun e st' h' => by
      cases e with
      | exit j =>
        by_cases hj : j = i
        · subst hj; rw [InBlock_self] at h' ⊢; exact hq _ _ h'
        · rw [InBlock_other hj] at h' ⊢; exact hq _ _ h'
      | _ => exact hq _ _ h') h
  | .keep live x, Q, Q', st, hq, h => WPC.mono (x := x) hq h
  | .loop x, Q, Q', st, hq, h => fun a ha a' w I μ hs b k cs => by
    obtain ⟨e, a1, w1, ⟨st', I', μ', h1, h2⟩, h3⟩ := h a ha a' w I μ hs b k cs
    exact ⟨e, a1, w1, ⟨st', I', μ', h1, hq _ _ h2⟩, h3⟩

/-- A loop's head: the round, then the head again. -/
theorem loopC_round {c : Cx} (hm : c.P.follows .mixedOrders = true) {x : CC} {Q : Exit → Sta → Prop} {st : Sta} (h : WPC c x (ThenC (LoopC c x Q) Q) st) : LoopC c x Q st := fun a ha =>
  ahead_round ((wpc_sound hm ha h).mono fun e st' hq => by cases e <;> first | exact hq a ha | exact hq)

theorem LoopC.le {c : Cx} {x : CC} {Q : Exit → Sta → Prop} {st st' : Sta} (h : Le c st st') (k : LoopC c x Q st') : LoopC c x Q st := fun a ha => (k a ha).le h

theorem spec_code {P : Program} {f : FuncId} {fn : Func} {code : Code} {cc : CC} {args : List A} {r : A} {n : Nat} (hm : P.follows .mixedOrders = true) (hk : okFn P f = true) (hf : P.funcs[f]? = some fn) (hb : fn.body = some code) (hn : fn.ntmps = n) (ha : args.length ≤ n)
    (hc : Is n cc code) (h : ∀ w0 I0, WPC (cx P w0 I0 n) cc (RetQ P fn r) ⟨argS args, []⟩) : Spec P f args r :=
  spec_intro hk hf hb hn ha fun w0 I0 => wpc_sound hm hc (h w0 I0)

/-! ### the data out of the text -/
def keepIf : List Nat → CC → CC
  | 999999 :: live, y => .keep live y
  | _, y => y
theorem is_keepIf {n : Nat} {m : List Nat} {y : CC} {b : Code} (h : Is n y b) : Is n (keepIf m y) b := by
  unfold keepIf
  split
  · exact .keep _ _ _ h
  · exact h
def toCC (n : Nat) : Code → List (List Nat) → Option (CC × List (List Nat))
  | .skip, ls => some (.skip, ls)
  | .exit i, ls => some (.exit i, ls)
  | .ret, ls => some (.ret, ls)
  | .region _ ops draw, live :: ls => if regOK n ops draw = true then match cosOf ops ops.toList with
      | some l => some (.reg l draw live, ls)
      | none => none else none
  | .seq a b, ls => match toCC n a ls with
    | some (x, m :: ls) => match toCC n b ls with
      | some (y, ls) => some (.seq x (keepIf m y), ls)
      | none => none
    | _ => none
  | .cond o a b, ls => match toCC n a ls with
    | some (x, ls) => match toCC n b ls with
      | some (y, ls) => some (.cond o x y, ls)
      | none => none
    | none => none
  | .block i a, ls => match toCC n a ls with
    | some (x, ls) => some (.block i x, ls)
    | none => none
  | .loop a, ls => match toCC n a ls with
    | some (x, ls) => some (.loop x, ls)
    | none => none
  | _, _ => none

theorem toCC_is {n : Nat} : ∀ {a : Code} {ls ls' : List (List Nat)} {x : CC}, toCC n a ls = some (x, ls') → Is n x a := by
  intro a
  induction a with
  | skip => intro ls ls' x h; simp only [toCC] at h; cases h; exact .skip
  | exit i => intro ls ls' x h; simp only [toCC] at h; cases h; exact .exit i
  | ret => intro ls ls' x h; simp only [toCC] at h; cases h; exact .ret
  | region id ops draw =>
    intro ls ls' x h
    cases ls with
    | nil => simp [toCC] at h
    | cons live ls =>
      simp only [toCC] at h
      split at h
      · rename_i hok
        split at h
        · rename_i l hl
          cases h
          exact .reg _ _ _ _ _ hok (cosOf_map hl)
        · cases h
      · cases h
  | seq a b ih1 ih2 =>
    intro ls ls' x h
    simp only [toCC] at h
    split at h
    · rename_i q1 m l1 h1
      split at h
      · rename_i q2 l2 h2
        cases h
        exact .seq _ _ _ _ (ih1 h1) (is_keepIf (ih2 h2))
      · cases h
    · cases h
  | cond o a b ih1 ih2 =>
    intro ls ls' x h
    simp only [toCC] at h
    split at h
    · rename_i q1 l1 h1
      split at h
      · rename_i q2 l2 h2
        cases h
        exact .cond _ _ _ _ _ (ih1 h1) (ih2 h2)
      · cases h
    · cases h
  | block i a ih =>
    intro ls ls' x h
    simp only [toCC] at h
    split at h
    · rename_i q1 l1 h1
      cases h
      exact .block _ _ _ (ih h1)
    · cases h
  | loop a ih =>
    intro ls ls' x h
    simp only [toCC] at h
    split at h
    · rename_i q1 l1 h1
      cases h
      exact .loop _ _ (ih h1)
    · cases h
  | _ => intro ls ls' x h; cases ls <;> simp [toCC] at h

/-- The function's end, its results as data. -/
def RetC (P : Program) (rs : List ResultVar) (r : A) : Exit → Sta → Prop
  | .normal, st | .ret, st => ∃ r0, resA P st rs = some r0 ∧ Frz st.H r0 r
  | _, _ => False

theorem spec_of {P : Program} {f : FuncId} {fn : Func} {code : Code} {cc : CC} {ls : List (List Nat)} {rs : List ResultVar} {args : List A} {r : A} {n : Nat} (hm : P.follows .mixedOrders = true) (hk : okFn P f = true) (hf : P.funcs[f]? = some fn) (hb : fn.body = some code)
    (hn : fn.ntmps = n) (ha : args.length ≤ n) (hrs : fn.results.toList = rs) (hc : toCC n code ls = some (cc, [])) (h : ∀ w0 I0, WPC (cx P w0 I0 n) cc (RetC P rs r) ⟨argS args, []⟩) : Spec P f args r :=
  spec_code hm hk hf hb hn ha (toCC_is hc) fun w0 I0 => WPC.mono (fun e st hq => by
    subst hrs
    cases e <;> exact hq) (h w0 I0)

/-! ### the steps as equations -/
section
variable {P : Program} {fl : Bool} {K : Sta → Prop} {rest : List CO} {st : Sta} {d : Option Nat}

theorem sc_nil : SeqC P fl K [] st = K st := rfl
theorem sc_op {op : Op} : SeqC P fl K (⟨d, op, none⟩ :: rest) st = ∃ x H', OpR P fl op (evs st.s) st.H x H' ∧ SeqC P fl K rest (st.put d x H') := rfl

theorem sc_intro {o : CO} {x : A} {H' : List Ob} (h : YieldsC P fl o st x H') (hr : SeqC P fl K rest (st.put o.d x H')) : SeqC P fl K (o :: rest) st := ⟨x, H', h, hr⟩
end
end Go.Ab
