/-
  Statements, loops, functions, in abstract states.
-/
import Derived.Test.YtebihdhapepejaaDoorGDraw
namespace Go.G
set_option linter.unusedVariables false
set_option linter.unusedSimpArgs false
open Go.RowKit

/-- It has given up: what was there before is as it was. -/
def DieX (c : Cx) (e : Exit) (a : Act) (w : World) : Prop := ∃ t, c.die t ∧ e = .panic [dieE t] ∧ a.defers = c.ds ∧ Kept c.Mb c.w0 w
/-- What is asked behind a statement, of the abstract state. -/
def Up (c : Cx) (Q : Exit → Sta → Prop) : Exit → Act → World → Prop := fun e a w => (∃ st I μ, SR c st a w I μ ∧ Q e st) ∨ DieX c e a w

def AWP (c : Cx) (code : Code) (Q : Exit → Sta → Prop) (st : Sta) : Prop := ∀ a w I μ, SR c st a w I μ → code.wp c.P (Up c Q) a w

/-- Behind the one statement comes another one. -/
def Then (c : Cx) (y : Code) (Q : Exit → Sta → Prop) : Exit → Sta → Prop
  | .normal, st => AWP c y Q st
  | e, st => Q e st

def InBlock (id : Nat) (Q : Exit → Sta → Prop) : Exit → Sta → Prop
  | .exit id', st => if id' = id then Q .normal st else Q (.exit id') st
  | e, st => Q e st

section
variable {c : Cx} {Q : Exit → Sta → Prop} {st : Sta} {x y : Code}

@[simp] theorem Then_normal : Then c y Q .normal st = AWP c y Q st := rfl
@[simp] theorem Then_exit {i : Nat} : Then c y Q (.exit i) st = Q (.exit i) st := rfl
@[simp] theorem Then_ret : Then c y Q .ret st = Q .ret st := rfl
@[simp] theorem InBlock_normal {i : Nat} : InBlock i Q .normal st = Q .normal st := rfl
@[simp] theorem InBlock_ret {i : Nat} : InBlock i Q .ret st = Q .ret st := rfl
@[simp] theorem InBlock_self {i : Nat} : InBlock i Q (.exit i) st = Q .normal st := by simp [InBlock]
theorem InBlock_other {i j : Nat} (h : j ≠ i) : InBlock i Q (.exit j) st = Q (.exit j) st := by simp [InBlock, h]

theorem AWP.mono {Q' : Exit → Sta → Prop} (h : AWP c x Q st) (hq : ∀ e st, Q e st → Q' e st) : AWP c x Q' st := fun a w I μ hs =>
  wp_mono (h a w I μ hs) fun e a' w' h => h.imp (fun ⟨st', I', μ', h1, h2⟩ => ⟨st', I', μ', h1, hq e st' h2⟩) id

theorem awp_seq (h : AWP c x (Then c y Q) st) : AWP c (.seq x y) Q st := fun a w I μ hs =>
  wp_seq (wp_mono (h a w I μ hs) fun e a' w' h => by
    rcases h with ⟨st', I', μ', h1, h2⟩ | ⟨t, h1, rfl, h2⟩
    · cases e <;> first | exact h2 a' w' I' μ' h1 | exact .inl ⟨st', I', μ', h1, h2⟩
    · exact .inr ⟨t, h1, rfl, h2⟩)

theorem awp_skip (h : Q .normal st) : AWP c .skip Q st := fun a w I μ hs => wp_skip (.inl ⟨st, I, μ, hs, h⟩)
theorem awp_exit {i : Nat} (h : Q (.exit i) st) : AWP c (.exit i) Q st := fun a w I μ hs => wp_exit (.inl ⟨st, I, μ, hs, h⟩)
theorem awp_ret (h : Q .ret st) : AWP c .ret Q st := fun a w I μ hs => wp_ret (.inl ⟨st, I, μ, hs, h⟩)

theorem awp_block {i : Nat} (h : AWP c x (InBlock i Q) st) : AWP c (.block i x) Q st := fun a w I μ hs =>
  wp_block (wp_mono (h a w I μ hs) fun e a' w' h => by
    rcases h with ⟨st', I', μ', h1, h2⟩ | ⟨t, h1, rfl, h2⟩
    · cases e with
      | exit j =>
        simp only [Exit.inBlock]
        by_cases hj : j = i
        · subst hj; rw [if_pos rfl]; exact .inl ⟨st', I', μ', h1, by simpa using h2⟩
        · rw [if_neg hj]; exact .inl ⟨st', I', μ', h1, by rwa [InBlock_other hj] at h2⟩
      | _ => exact .inl ⟨st', I', μ', h1, h2⟩
    · exact .inr ⟨t, h1, rfl, h2⟩)

theorem awp_cond {o : Operand} {b : Bool} (hb : evs st.s o = .v (.bool b)) (ht : b = true → AWP c x Q st) (hf : b = false → AWP c y Q st) : AWP c (.cond o x y) Q st := fun a w I μ hs => by
  have h1 := hs.evs o
  rw [hb] at h1
  generalize hu : a.eval o = u at h1
  cases h1
  exact wp_cond_split hu (fun h => ht h a w I μ hs) (fun h => hf h a w I μ hs)

theorem awp_region {id : Nat} {nms : Nat → Nm} {ops : Array Oper} {draw : Bool} (hm : c.P.follows .mixedOrders = true) (hok : regOK c.n ops draw = true) (h : SeqA c.P c.die nms (needR draw ops) ops (fun st => Q .normal st) ops.toList 0 [] st) : AWP c (.region id ops draw) Q st :=
  fun _ _ _ _ hs => region_sound hm hok (fun t _ _ e k1 k2 => .inr ⟨t, e, rfl, k1, k2⟩) (fun st' _ _ I' μ' h1 h2 => .inl ⟨st', I', μ', h1, h2⟩) hs h

/-! ### loops: the head of a round -/
def HeadWP (P : Program) (body : Code) (Q : Exit → Act → World → Prop) (a : Act) (w : World) : Prop :=
  ∀ (b : Frame) (k : List Item) (cs : List Frame), ∃ e a' w', Q e a' w' ∧ Arrives P (lone (b.at a (.code body :: .inLoop body :: k)) cs w) b k cs e a' w'

theorem head_round {P : Program} {body : Code} {Q : Exit → Act → World → Prop} {a : Act} {w : World} (h : body.wp P (Exit.then (HeadWP P body Q) Q) a w) : HeadWP P body Q a w := by
  intro b k cs
  obtain ⟨e, a₁, w₁, hq, harr⟩ := h b (.inLoop body :: k) cs
  cases e with
  | normal =>
    obtain ⟨e₂, a₂, w₂, hq₂, harr₂⟩ := hq b k cs
    exact ⟨e₂, a₂, w₂, hq₂, .of_steps (Steps.trans harr (.one step_inLoop)) harr₂⟩
  | exit id => exact ⟨_, a₁, w₁, hq, .pass (x := .inLoop body) rfl (fun _ _ => .inl (by simp)) harr⟩
  | goto l => exact ⟨_, a₁, w₁, hq, .pass (x := .inLoop body) rfl (fun _ _ => .inl (by simp)) harr⟩
  | ret => exact ⟨_, a₁, w₁, hq, .pass (x := .inLoop body) rfl (fun _ _ => .inl (by simp)) harr⟩
  | panic ch => exact ⟨_, a₁, w₁, hq, .pass (x := .inLoop body) rfl (fun _ _ => .inl (by simp)) harr⟩
  | outgrown => exact ⟨_, a₁, w₁, hq, .pass (x := .inLoop body) rfl (fun _ _ => .inl (by simp)) harr⟩

theorem loop_head {P : Program} {body : Code} {Q : Exit → Act → World → Prop} {a : Act} {w : World} (h : HeadWP P body Q a w) : (Code.loop body).wp P Q a w := by
  intro b k cs
  obtain ⟨e, a₁, w₁, hq, harr⟩ := h b k cs
  exact ⟨e, a₁, w₁, hq, .of_steps (.one step_loop) harr⟩

def AHead (c : Cx) (body : Code) (Q : Exit → Sta → Prop) (st : Sta) : Prop := ∀ a w I μ, SR c st a w I μ → HeadWP c.P body (Up c Q) a w

/-- Behind a round comes the next one. -/
def Round (c : Cx) (body : Code) (Q : Exit → Sta → Prop) : Exit → Sta → Prop
  | .normal, st => AHead c body Q st
  | e, st => Q e st
@[simp] theorem Round_normal : Round c x Q .normal st = AHead c x Q st := rfl
@[simp] theorem Round_exit {i : Nat} : Round c x Q (.exit i) st = Q (.exit i) st := rfl
@[simp] theorem Round_ret : Round c x Q .ret st = Q .ret st := rfl

theorem ahead_round (h : AWP c x (Round c x Q) st) : AHead c x Q st := fun a w I μ hs =>
  head_round (wp_mono (h a w I μ hs) fun e a' w' h => by
    rcases h with ⟨st', I', μ', h1, h2⟩ | ⟨t, h1, rfl, h2⟩
    · cases e <;> first | exact h2 a' w' I' μ' h1 | exact .inl ⟨st', I', μ', h1, h2⟩
    · exact .inr ⟨t, h1, rfl, h2⟩)

theorem awp_loop (h : AHead c x Q st) : AWP c (.loop x) Q st := fun a w I μ hs => loop_head (h a w I μ hs)

/-! ### less is known of a state -/
/-- What stands for the one state stands for the other one. -/
def Le (c : Cx) (st st' : Sta) : Prop := ∀ a w I μ, SR c st a w I μ → ∃ I' μ', SR c st' a w I' μ'

theorem Le.refl : Le c st st := fun _ _ I μ h => ⟨I, μ, h⟩
theorem Le.trans {st1 st2 st3 : Sta} (h : Le c st1 st2) (k : Le c st2 st3) : Le c st1 st3 := fun a w I μ hs => let ⟨I', μ', h1⟩ := h a w I μ hs; k a w I' μ' h1
theorem AWP.le {st' : Sta} (h : Le c st st') (k : AWP c x Q st') : AWP c x Q st := fun a w I μ hs => let ⟨I', μ', h1⟩ := h a w I μ hs; k a w I' μ' h1
theorem AHead.le {st' : Sta} (h : Le c st st') (k : AHead c x Q st') : AHead c x Q st := fun a w I μ hs => let ⟨I', μ', h1⟩ := h a w I μ hs; k a w I' μ' h1

/-- Slots are forgotten. -/
theorem le_slots {s s' : Nat → A} {H : Hp} (h : ∀ t, s' t = s t ∨ s' t = .any) : Le c ⟨s, H⟩ ⟨s', H⟩ := fun a w I μ hs =>
  ⟨I, μ, hs.sim, hs.size, hs.defers, fun t => by
    rcases h t with e | e
    · show Rel w I μ (s' t) _
      rw [e]; exact hs.rel t
    · show Rel w I μ (s' t) _
      rw [e]; exact .any _ _⟩

/-- These slots are kept, no other one. -/
def keepS (s : Nat → A) : List Nat → Nat → A
  | [], _ => .any
  | k :: ks, t => if k = t then s k else keepS s ks t

theorem keepS_or (s : Nat → A) : ∀ (ks : List Nat) (t : Nat), keepS s ks t = s t ∨ keepS s ks t = .any
  | [], t => .inr rfl
  | k :: ks, t => by
    unfold keepS
    by_cases h : k = t
    · subst h; rw [if_pos rfl]; exact .inl rfl
    · rw [if_neg h]; exact keepS_or s ks t

theorem keepS_lk (s : Nat → A) : ∀ (l : List (Nat × A)), (∀ p, p ∈ l → s p.1 = p.2) → ∀ t, lk l t = s t ∨ lk l t = .any
  | [], _, t => .inr rfl
  | (k, x) :: l, h, t => by
    unfold lk
    by_cases e : k = t
    · subst e; rw [if_pos rfl]; exact .inl (h (k, x) (by simp)).symm
    · rw [if_neg e]; exact keepS_lk s l (fun p hp => h p (by simp [hp])) t

/-- A state is brought to a list of slots. -/
theorem le_list {s : Nat → A} {H : Hp} (l : List (Nat × A)) (h : ∀ p, p ∈ l → s p.1 = p.2) : Le c ⟨s, H⟩ ⟨lk l, H⟩ := le_slots (keepS_lk s l h)

/-! ### functions -/
def resOne (P : Program) (st : Sta) : ResultVar → Option A
  | .tmp t => some (st.s t)
  | .cell a t => loadA P st.H t (st.s a)
def resList (P : Program) (st : Sta) : List ResultVar → Option (List A)
  | [] => some []
  | r :: rs => match resOne P st r, resList P st rs with
    | some x, some l => some (x :: l)
    | _, _ => none
def resA (P : Program) (st : Sta) (rs : List ResultVar) : Option A :=
  match rs with
  | [r] => resOne P st r
  | rs => (resList P st rs).map .tup

theorem resOne_sound {a : Act} {w : World} {I : Nat → Prop} {μ : Mu} (hs : SR c st a w I μ) {r : ResultVar} {x : A} (h : resOne c.P st r = some x) :
    ∃ v, ((match r with | .tmp t => pure (a.tmps.getD t undef) | .cell p t => do loadVar t (← asAddr (a.tmps.getD p undef))) : Sem Value).run c.P w = .ok v w ∧ Rel w I μ x v := by
  cases r with
  | tmp t => cases h; exact ⟨_, rfl, hs.rel t⟩
  | cell p t =>
    have hr := hs.rel p
    obtain ⟨v, h1, h2⟩ := loadA_sound hs.sim hr h
    refine ⟨v, ?_, h2⟩
    have : ∃ q, a.tmps.getD p undef = .pointer (some q) := isPtr_some hr (loadA_ptr h)
    obtain ⟨q, hq⟩ := this
    rw [hq] at h1
    simp only [hq, asAddr]
    simpa [Instr.loadAt, Instr.sureAddr] using h1

theorem resList_sound {a : Act} {w : World} {I : Nat → Prop} {μ : Mu} (hs : SR c st a w I μ) : ∀ {rs : List ResultVar} {xs : List A}, resList c.P st rs = some xs →
    ∃ vs : List Value, (rs.mapM (m := Sem) fun | .tmp t => pure (a.tmps.getD t undef) | .cell p t => do loadVar t (← asAddr (a.tmps.getD p undef))).run c.P w = .ok vs w ∧ vs.length = xs.length ∧ ∀ (k : Nat) (y : A) (v : Value), xs[k]? = some y → vs[k]? = some v → Rel w I μ y v
  | [], xs, h => by cases h; exact ⟨[], rfl, rfl, fun k y v hk => by simp at hk⟩
  | r :: rs, xs, h => by
    unfold resList at h
    split at h
    · rename_i x l hx hl
      cases h
      obtain ⟨v, h1, h2⟩ := resOne_sound hs hx
      obtain ⟨vs, h3, h4, h5⟩ := resList_sound hs hl
      refine ⟨v :: vs, ?_, by simp [h4], fun k y u hk hu => ?_⟩
      · rw [List.mapM_cons]
        simp only [Sem.run_bind, h1, Result.andThen_ok, h3, Sem.run_pure]
      · cases k with
        | zero => simp at hk hu; subst hk hu; exact h2
        | succ k => exact h5 k y u (by simpa using hk) (by simpa using hu)
    · cases h

theorem results_sound {fn : Func} {a : Act} {w : World} {I : Nat → Prop} {μ : Mu} (hs : SR c st a w I μ) {x : A} (h : resA c.P st fn.results.toList = some x) : ∃ v, (results fn a.tmps).run c.P w = .ok v w ∧ Rel w I μ x v := by
  have hm : ∀ {vs : List Value}, (fn.results.toList.mapM (m := Sem) fun | .tmp t => pure (a.tmps.getD t undef) | .cell p t => do loadVar t (← asAddr (a.tmps.getD p undef))).run c.P w = .ok vs w →
      (results fn a.tmps).run c.P w = .ok (if h : vs.toArray.size = 1 then vs.toArray[0] else .tuple vs.toArray) w := fun {vs} hv => by
    unfold results
    rw [Array.mapM_eq_mapM_toList]
    simp only [Sem.run_bind, Sem.run_map]
    erw [hv]
    rfl
  unfold resA at h
  split at h
  · rename_i r hr
    obtain ⟨v, h1, h2⟩ := resOne_sound hs h
    have := hm (vs := [v]) (by rw [hr, List.mapM_cons]; simp only [Sem.run_bind, h1, Result.andThen_ok]; rfl)
    exact ⟨v, by simpa using this, h2⟩
  · rename_i rs hne
    simp only [Option.map_eq_some_iff] at h
    obtain ⟨xs, hx, rfl⟩ := h
    obtain ⟨vs, h1, h2, h3⟩ := resList_sound hs hx
    have hlen : xs.length = fn.results.toList.length := by
      have : ∀ (rs : List ResultVar) (xs : List A), resList c.P st rs = some xs → xs.length = rs.length := by
        intro rs
        induction rs with
        | nil => intro xs h; cases h; rfl
        | cons r rs ih =>
          intro xs h
          unfold resList at h
          split at h
          · rename_i x l _ hl; cases h; simp [ih l hl]
          · cases h
      exact this _ _ hx
    have hv1 : ¬ vs.toArray.size = 1 := by
      intro he
      simp only [List.size_toArray] at he
      have : fn.results.toList.length = 1 := by omega
      obtain ⟨r, hr⟩ := List.length_eq_one_iff.1 this
      exact hne r hr
    have := hm h1
    rw [dif_neg hv1] at this
    refine ⟨_, this, .tup _ _ _ (by simp [h2]) fun k y hk => ?_⟩
    have hlt : k < vs.length := by rw [h2]; exact (List.getElem?_eq_some_iff.1 hk).1
    have e : vs.toArray.getD k undef = vs[k] := by simp [hlt]
    rw [e]
    exact h3 k y _ hk (List.getElem?_eq_getElem hlt)

/-- The function's end: what it tells, and what its objects are then. -/
def RetG (P : Program) (rs : List ResultVar) (Q : A → Hp → Prop) : Exit → Sta → Prop
  | .normal, st | .ret, st => ∃ r0, resA P st rs = some r0 ∧ Q r0 st.H
  | _, _ => False

def argS (args : List A) : Nat → A := fun t => (args[t]?).getD .any

theorem body_run {P : Program} {f : FuncId} {fn : Func} {code : Code} (hf : P.funcs[f]? = some fn) (hb : fn.body = some code) {c : Cx} (hcP : c.P = P) (hcn : c.n = fn.ntmps) (hds : c.ds = []) {args : List A} {vs : Array Value} (hl : vs.size = args.length) (ha : args.length ≤ fn.ntmps)
    {w : World} {I : Nat → Prop} {μ : Mu} {H : Hp} (hs : Sim c w I μ H) (hr : ∀ (k : Nat) (y : A), args[k]? = some y → Rel w I μ y (vs.getD k undef)) {Q : A → Hp → Prop} (h : AWP c code (RetG P fn.results.toList Q) ⟨argS args, H⟩) :
    Calls P f vs w fun e w' => (∃ v r0 H' I' μ', e = .returned v ∧ Sim c w' I' μ' H' ∧ Rel w' I' μ' r0 v ∧ Q r0 H') ∨ ∃ t, c.die t ∧ e = .panicked [dieE t] ∧ Kept c.Mb c.w0 w' := by
  subst hcP
  refine calls_of_wp hf hb ?_
  have hs : SR c ⟨argS args, H⟩ { tmps := vs ++ Array.replicate (fn.ntmps - vs.size) undef, defers := [] } w I μ := by
    refine ⟨hs, ?_, hds.symm, fun t => ?_⟩
    · simp [hcn, hl]; omega
    · show Rel w I μ (argS args t) _
      unfold argS
      cases hq : args[t]? with
      | none => exact .any _ _
      | some y =>
        have hlt := (List.getElem?_eq_some_iff.1 hq).1
        have e : (vs ++ Array.replicate (fn.ntmps - vs.size) undef).getD t undef = vs.getD t undef := by
          simp only [Array.getD_eq_getD_getElem?]
          rw [Array.getElem?_append_left (by omega)]
        rw [e]
        exact hr t y hq
  refine wp_mono (h _ w I μ hs) fun e a' w' hh => ?_
  rcases hh with ⟨st', I', μ', h1, h2⟩ | ⟨t, k1, rfl, k2, k3⟩
  case inr => exact ⟨k2.trans hds, .inr ⟨t, k1, rfl, k3⟩⟩
  have fin : (∃ r0, resA c.P st' fn.results.toList = some r0 ∧ Q r0 st'.H) → a'.defers = [] ∧ ∃ v, (results fn a'.tmps).run c.P w' = .ok v w' ∧ ((∃ v' r0 H' I' μ', Ending.returned v = .returned v' ∧ Sim c w' I' μ' H' ∧ Rel w' I' μ' r0 v' ∧ Q r0 H') ∨ ∃ t, c.die t ∧ Ending.returned v = .panicked [dieE t] ∧ Kept c.Mb c.w0 w') := by
    rintro ⟨r0, h3, h4⟩
    obtain ⟨v, h5, h6⟩ := results_sound (fn := fn) h1 h3
    exact ⟨h1.defers.trans hds, v, h5, .inl ⟨v, r0, st'.H, I', μ', rfl, h1.sim, h6, h4⟩⟩
  cases e <;> first | exact fin h2 | exact h2.elim

def cx (P : Program) (w0 : World) (I0 : Nat → Prop) (n : Nat) : Cx := ⟨P, w0, I0, fun _ _ => False, n, mu0, fun _ => False, []⟩
def H0 : Hp := fun _ => ⟨0, .none⟩

theorem sim_start {P : Program} {w : World} {I : Nat → Prop} {n : Nat} (hI : ∀ b, I b → b < w.heap.size) (ht : Tabs P w I) : Sim (cx P w I n) w I mu0 H0 :=
  ⟨⟨rfl, rfl, rfl, Nat.le_refl _, fun _ _ _ => rfl⟩, hI, fun _ h => h, fun b hb => .inl hb, fun _ => rfl, fun _ => trivial, (fun _ _ h => nomatch h), (fun _ h => nomatch h), MuLe.refl _, (fun _ h => nomatch h), ht⟩

theorem spec_intro {P : Program} {f : FuncId} {fn : Func} {code : Code} {args : List A} {r : A} {n : Nat} (hk : okFn P f = true) (hf : P.funcs[f]? = some fn) (hb : fn.body = some code) (hn : fn.ntmps = n) (ha : args.length ≤ n)
    (h : ∀ w0 I0, AWP (cx P w0 I0 n) code (RetG P fn.results.toList fun r0 H => Frz H r0 r) ⟨argS args, H0⟩) : Spec P f args r := by
  refine ⟨hk, fun w I vs hI htb hl hr => ?_⟩
  refine (body_run hf hb (c := cx P w I n) rfl hn.symm rfl hl (by omega) (sim_start hI htb) hr (h w I)).mono fun e w' hh => ?_
  rcases hh with ⟨v, r0, H', I', μ', he, h1, h2, h3⟩ | ⟨t, k, _⟩
  case inr => exact k.elim
  refine ⟨v, he, ?_, ?_⟩
  · have k := h1.kept
    exact ⟨k.os, k.tape, k.output, k.size, fun b hb => k.block b hb (fun ⟨_, h⟩ => h)⟩
  · refine (h3 _ w' I' μ' v h1 h2).mono0 (fun b hb => ?_) (fun _ _ => rfl)
    rcases hb with hb | ⟨o, g1, rfl⟩
    · rcases h1.new b hb with g | g
      · exact .inl g
      · exact .inr ⟨g, h1.lt b hb⟩
    · obtain ⟨_, g4, g5⟩ := h1.own o g1
      rcases g4 with g4 | g4
      · exact g4.elim
      · exact .inr ⟨g4, g5⟩

/-! ### objects are told otherwise -/
theorem le_obj {st st' : Sta} (h : ∀ a w I μ, SR c st a w I μ → ∃ I' μ', Sim c w I' μ' st'.H ∧ ∀ t, Rel w I' μ' (st'.s t) (a.tmps.getD t undef)) : Le c st st' := fun a w I μ hs =>
  let ⟨I', μ', h1, h2⟩ := h a w I μ hs
  ⟨I', μ', h1, hs.size, hs.defers, h2⟩

/-- An object is given up. -/
theorem le_drop {s : Nat → A} {H : Hp} (d : Nm) : Le c ⟨s, H⟩ ⟨s, updF H d ⟨(H d).u, .none⟩⟩ := fun a w I μ hs =>
  ⟨I, μ, hs.sim.drop d, hs.size, hs.defers, hs.rel⟩

/-- A nil slice as a row of its own, without elements. -/
theorem le_blank {s : Nat → A} {H : Hp} (t : Nat) (d : Nm) (sz : Nat) (ht : s t = .sl true []) : Le c ⟨s, H⟩ ⟨upd s t (.osl d ((H d).u + 1) sz 0 0), updF H d ⟨(H d).u + 1, .arr sz []⟩⟩ := fun a w I μ hs => by
  obtain ⟨hx, hs'⟩ := hs.sim.upd (grownBy_refl w none) d ⟨(H d).u + 1, false, 0, 0, sz, 0⟩ (.arr sz []) (.inl rfl) (.inl (by rw [hs.sim.ver]; exact Nat.lt_succ_self _)) (fun h => nomatch h) (fun h => nomatch h) (fun hx => ⟨rfl, .inl ⟨rfl, rfl⟩⟩)
  refine ⟨I, _, hs', hs.size, hs.defers, fun k => ?_⟩
  show Rel w I _ (upd s t _ k) _
  unfold upd
  split
  · rename_i hk
    subst hk
    have h1 := hs.rel k
    simp only [ht] at h1
    generalize a.tmps.getD k undef = v at h1
    cases h1 with
    | slN _ _ q cap hc =>
      have := hc rfl
      subst this
      exact .osl _ _ _ _ _ _ _ _ (by omega) (by simp) (Nat.le_refl _) (fun h => by omega) (fun _ => by simp)
    | sl _ _ b off n cap z _ g h1 h2 h3 h4 =>
      have h5 : n = 0 := h2
      have h6 : cap = 0 := h4 rfl
      subst h5 h6
      exact .osl _ _ _ _ _ _ _ _ (by omega) (by simp) (Nat.le_refl _) (fun h => by omega) (fun _ => by simp)
  · exact hx.rel (hs.rel k)
end
end Go.G
