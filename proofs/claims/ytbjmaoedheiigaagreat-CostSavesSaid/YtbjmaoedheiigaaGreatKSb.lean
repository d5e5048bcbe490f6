/-
  Texts, merged, without what is not reached.
-/
import Derived.Test.YtbjmaoedheiigaaGreatKSa
namespace Go.G
set_option linter.unusedVariables false
set_option linter.unusedSimpArgs false
open Go.RowKit
def Up (c : Cx) (Q : Exit→Sta→Prop) : Exit→Act→World→Prop := fun e a w => ∃ st I μ,SR c st a w I μ∧Q e st
def AWP (c : Cx) (code : Code) (Q : Exit→Sta→Prop) (st : Sta) : Prop := ∀ a w I μ,SR c st a w I μ→code.wp c.P (Up c Q) a w
def Then (c : Cx) (y : Code) (Q : Exit→Sta→Prop) : Exit→Sta→Prop
  | .normal,st => AWP c y Q st
  | e,st => Q e st
def InBlock (id : Nat) (Q : Exit→Sta→Prop) : Exit→Sta→Prop
  | .exit id',st => if id' = id then Q .normal st else Q (.exit id') st
  | e,st => Q e st
section
variable {c : Cx} {Q : Exit→Sta→Prop} {st : Sta} {x y : Code}
@[simp] theorem Then_normal : Then c y Q .normal st = AWP c y Q st := rfl
@[simp] theorem Then_exit {i : Nat} : Then c y Q (.exit i) st = Q (.exit i) st := rfl
@[simp] theorem Then_ret : Then c y Q .ret st = Q .ret st := rfl
@[simp] theorem InBlock_normal {i : Nat} : InBlock i Q .normal st = Q .normal st := rfl
@[simp] theorem InBlock_ret {i : Nat} : InBlock i Q .ret st = Q .ret st := rfl
@[simp] theorem InBlock_self {i : Nat} : InBlock i Q (.exit i) st = Q .normal st := by simp [InBlock]
theorem InBlock_other {i j : Nat} (h : j ≠ i) : InBlock i Q (.exit j) st = Q (.exit j) st := by simp [InBlock,h]
theorem AWP.mono {Q' : Exit→Sta→Prop} (h : AWP c x Q st) (hq : ∀ e st,Q e st→Q' e st) : AWP c x Q' st := fun a w I μ hs =>
  wp_mono (h a w I μ hs) fun e a' w' ⟨st',I',μ',h1,h2⟩ => ⟨st',I',μ',h1,hq e st' h2⟩
theorem awp_seq (h : AWP c x (Then c y Q) st) : AWP c (.seq x y) Q st := fun a w I μ hs =>
  wp_seq (wp_mono (h a w I μ hs) fun e a' w' ⟨st',I',μ',h1,h2⟩ => by
    cases e <;> first | exact h2 a' w' I' μ' h1 | exact ⟨st',I',μ',h1,h2⟩)
theorem awp_skip (h : Q .normal st) : AWP c .skip Q st := fun a w I μ hs => wp_skip ⟨st,I,μ,hs,h⟩
theorem awp_exit {i : Nat} (h : Q (.exit i) st) : AWP c (.exit i) Q st := fun a w I μ hs => wp_exit ⟨st,I,μ,hs,h⟩
theorem awp_ret (h : Q .ret st) : AWP c .ret Q st := fun a w I μ hs => wp_ret ⟨st,I,μ,hs,h⟩
theorem awp_block {i : Nat} (h : AWP c x (InBlock i Q) st) : AWP c (.block i x) Q st := fun a w I μ hs =>
  wp_block (wp_mono (h a w I μ hs) fun e a' w' ⟨st',I',μ',h1,h2⟩ => by
    cases e with
    | exit j =>
      simp only [Exit.inBlock]
      by_cases hj : j = i
      · subst hj; rw [if_pos rfl]; exact ⟨st',I',μ',h1,by simpa using h2⟩
      · rw [if_neg hj]; exact ⟨st',I',μ',h1,by rwa [InBlock_other hj] at h2⟩
    | _ => exact ⟨st',I',μ',h1,h2⟩)
theorem awp_cond {o : Operand} {b : Bool} (hb : evs st.s o = .v (.bool b)) (ht : b = true→AWP c x Q st) (hf : b = false→AWP c y Q st) : AWP c (.cond o x y) Q st := fun a w I μ hs => by
  have h1 := hs.evs o
  rw [hb] at h1
  generalize hu : a.eval o = u at h1
  cases h1
  exact wp_cond_split hu (fun h => ht h a w I μ hs) (fun h => hf h a w I μ hs)
def HeadWP (P : Program) (body : Code) (Q : Exit→Act→World→Prop) (a : Act) (w : World) : Prop :=
  ∀ (b : Frame) (k : List Item) (cs : List Frame),∃ e a' w',Q e a' w'∧Arrives P (lone (b.at a (.code body :: .inLoop body :: k)) cs w) b k cs e a' w'
theorem head_round {P : Program} {body : Code} {Q : Exit→Act→World→Prop} {a : Act} {w : World} (h : body.wp P (Exit.then (HeadWP P body Q) Q) a w) : HeadWP P body Q a w := by
  intro b k cs
  obtain ⟨e,a₁,w₁,hq,harr⟩ := h b (.inLoop body :: k) cs
  cases e with
  | normal =>
    obtain ⟨e₂,a₂,w₂,hq₂,harr₂⟩ := hq b k cs
    exact ⟨e₂,a₂,w₂,hq₂,.of_steps (Steps.trans harr (.one step_inLoop)) harr₂⟩
  | exit id => exact ⟨_,a₁,w₁,hq,.pass (x := .inLoop body) rfl (fun _ _ => .inl (by simp)) harr⟩
  | goto l => exact ⟨_,a₁,w₁,hq,.pass (x := .inLoop body) rfl (fun _ _ => .inl (by simp)) harr⟩
  | ret => exact ⟨_,a₁,w₁,hq,.pass (x := .inLoop body) rfl (fun _ _ => .inl (by simp)) harr⟩
  | panic ch => exact ⟨_,a₁,w₁,hq,.pass (x := .inLoop body) rfl (fun _ _ => .inl (by simp)) harr⟩
  | outgrown => exact ⟨_,a₁,w₁,hq,.pass (x := .inLoop body) rfl (fun _ _ => .inl (by simp)) harr⟩
theorem loop_head {P : Program} {body : Code} {Q : Exit→Act→World→Prop} {a : Act} {w : World} (h : HeadWP P body Q a w) : (Code.loop body).wp P Q a w := by
  intro b k cs
  obtain ⟨e,a₁,w₁,hq,harr⟩ := h b k cs
  exact ⟨e,a₁,w₁,hq,.of_steps (.one step_loop) harr⟩
def AHead (c : Cx) (body : Code) (Q : Exit→Sta→Prop) (st : Sta) : Prop := ∀ a w I μ,SR c st a w I μ→HeadWP c.P body (Up c Q) a w
def Round (c : Cx) (body : Code) (Q : Exit→Sta→Prop) : Exit→Sta→Prop
  | .normal,st => AHead c body Q st
  | e,st => Q e st
@[simp] theorem Round_normal : Round c x Q .normal st = AHead c x Q st := rfl
@[simp] theorem Round_exit {i : Nat} : Round c x Q (.exit i) st = Q (.exit i) st := rfl
@[simp] theorem Round_ret : Round c x Q .ret st = Q .ret st := rfl
theorem ahead_round (h : AWP c x (Round c x Q) st) : AHead c x Q st := fun a w I μ hs =>
  head_round (wp_mono (h a w I μ hs) fun e a' w' ⟨st',I',μ',h1,h2⟩ => by
    cases e <;> first | exact h2 a' w' I' μ' h1 | exact ⟨st',I',μ',h1,h2⟩)
theorem awp_loop (h : AHead c x Q st) : AWP c (.loop x) Q st := fun a w I μ hs => loop_head (h a w I μ hs)
def Le (c : Cx) (st st' : Sta) : Prop := ∀ a w I μ,SR c st a w I μ→∃ I' μ',SR c st' a w I' μ'
theorem Le.refl : Le c st st := fun _ _ I μ h => ⟨I,μ,h⟩
theorem Le.trans {st1 st2 st3 : Sta} (h : Le c st1 st2) (k : Le c st2 st3) : Le c st1 st3 := fun a w I μ hs => let ⟨I',μ',h1⟩ := h a w I μ hs; k a w I' μ' h1
theorem AWP.le {st' : Sta} (h : Le c st st') (k : AWP c x Q st') : AWP c x Q st := fun a w I μ hs => let ⟨I',μ',h1⟩ := h a w I μ hs; k a w I' μ' h1
theorem AHead.le {st' : Sta} (h : Le c st st') (k : AHead c x Q st') : AHead c x Q st := fun a w I μ hs => let ⟨I',μ',h1⟩ := h a w I μ hs; k a w I' μ' h1
theorem le_slots {s s' : Nat→A} {H : Hp} (h : ∀ t,s' t = s t∨s' t = .any) : Le c ⟨s,H⟩ ⟨s',H⟩ := fun a w I μ hs =>
  ⟨I,μ,hs.sim,hs.size,hs.defers,fun t => by
    rcases h t with e | e
    · show Rel w I μ (s' t) _
      rw [e]; exact hs.rel t
    · show Rel w I μ (s' t) _
      rw [e]; exact .any _ _⟩
theorem keepS_lk (s : Nat→A) : ∀ (l : List (Nat × A)),(∀ p,p ∈ l→s p.1 = p.2)→∀ t,lk l t = s t∨lk l t = .any
  | [],_,t => .inr rfl
  | (k,x) :: l,h,t => by
    unfold lk
    by_cases e : k = t
    · subst e; rw [if_pos rfl]; exact .inl (h (k,x) (by simp)).symm
    · rw [if_neg e]; exact keepS_lk s l (fun p hp => h p (by simp [hp])) t
theorem le_list {s : Nat→A} {H : Hp} (l : List (Nat × A)) (h : ∀ p,p ∈ l→s p.1 = p.2) : Le c ⟨s,H⟩ ⟨lk l,H⟩ := le_slots (keepS_lk s l h)
def resOne (P : Program) (st : Sta) : ResultVar→Option A
  | .tmp t => some (st.s t)
  | .cell a t => loadA P st.H t (st.s a)
def resList (P : Program) (st : Sta) : List ResultVar→Option (List A)
  | [] => some []
  | r :: rs => match resOne P st r,resList P st rs with
    | some x,some l => some (x :: l)
    | _,_ => none
def resA (P : Program) (st : Sta) (rs : List ResultVar) : Option A :=
  match rs with
  | [r] => resOne P st r
  | rs => (resList P st rs).map .tup
theorem resOne_sound {a : Act} {w : World} {I : Nat→Prop} {μ : Mu} (hs : SR c st a w I μ) {r : ResultVar} {x : A} (h : resOne c.P st r = some x) :
    ∃ v,((match r with | .tmp t => pure (a.tmps.getD t undef) | .cell p t => do loadVar t (← asAddr (a.tmps.getD p undef))) : Sem Value).run c.P w = .ok v w∧Rel w I μ x v := by
  cases r with
  | tmp t => cases h; exact ⟨_,rfl,hs.rel t⟩
  | cell p t =>
    have hr := hs.rel p
    obtain ⟨v,h1,h2⟩ := loadA_sound hs.sim hr h
    refine ⟨v,?_,h2⟩
    have : ∃ q,a.tmps.getD p undef = .pointer (some q) := isPtr_some hr (loadA_ptr h)
    obtain ⟨q,hq⟩ := this
    rw [hq] at h1
    simp only [hq,asAddr]
    simpa [Instr.loadAt,Instr.sureAddr] using h1
theorem resList_sound {a : Act} {w : World} {I : Nat→Prop} {μ : Mu} (hs : SR c st a w I μ) : ∀ {rs : List ResultVar} {xs : List A},resList c.P st rs = some xs →
    ∃ vs : List Value,(rs.mapM (m := Sem) fun | .tmp t => pure (a.tmps.getD t undef) | .cell p t => do loadVar t (← asAddr (a.tmps.getD p undef))).run c.P w = .ok vs w∧vs.length = xs.length∧∀ (k : Nat) (y : A) (v : Value),xs[k]? = some y→vs[k]? = some v→Rel w I μ y v
  | [],xs,h => by cases h; exact ⟨[],rfl,rfl,fun k y v hk => by simp at hk⟩
  | r :: rs,xs,h => by
    unfold resList at h
    split at h
    · rename_i x l hx hl
      cases h
      obtain ⟨v,h1,h2⟩ := resOne_sound hs hx
      obtain ⟨vs,h3,h4,h5⟩ := resList_sound hs hl
      refine ⟨v :: vs,?_,by simp [h4],fun k y u hk hu => ?_⟩
      · rw [List.mapM_cons]
        simp only [Sem.run_bind,h1,Result.andThen_ok,h3,Sem.run_pure]
      · cases k with
        | zero => simp at hk hu; subst hk hu; exact h2
        | succ k => exact h5 k y u (by simpa using hk) (by simpa using hu)
    · cases h
theorem results_sound {fn : Func} {a : Act} {w : World} {I : Nat→Prop} {μ : Mu} (hs : SR c st a w I μ) {x : A} (h : resA c.P st fn.results.toList = some x) : ∃ v,(results fn a.tmps).run c.P w = .ok v w∧Rel w I μ x v := by
  have hm : ∀ {vs : List Value},(fn.results.toList.mapM (m := Sem) fun | .tmp t => pure (a.tmps.getD t undef) | .cell p t => do loadVar t (← asAddr (a.tmps.getD p undef))).run c.P w = .ok vs w →
      (results fn a.tmps).run c.P w = .ok (if h : vs.toArray.size = 1 then vs.toArray[0] else .tuple vs.toArray) w := fun {vs} hv => by
    unfold results
    rw [Array.mapM_eq_mapM_toList]
    simp only [Sem.run_bind,Sem.run_map]
    erw [hv]
    rfl
  unfold resA at h
  split at h
  · rename_i r hr
    obtain ⟨v,h1,h2⟩ := resOne_sound hs h
    have := hm (vs := [v]) (by rw [hr,List.mapM_cons]; simp only [Sem.run_bind,h1,Result.andThen_ok]; rfl)
    exact ⟨v,by simpa using this,h2⟩
  · rename_i rs hne
    simp only [Option.map_eq_some_iff] at h
    obtain ⟨xs,hx,rfl⟩ := h
    obtain ⟨vs,h1,h2,h3⟩ := resList_sound hs hx
    have hlen : xs.length = fn.results.toList.length := by
      have : ∀ (rs : List ResultVar) (xs : List A),resList c.P st rs = some xs→xs.length = rs.length := by
        intro rs
        induction rs with
        | nil => intro xs h; cases h; rfl
        | cons r rs ih =>
          intro xs h
          unfold resList at h
          split at h
          · rename_i x l _ hl; cases h; simp [ih l hl]
          · cases h
      exact this _ _ hx
    have hv1 : ¬ vs.toArray.size = 1 := by
      intro he
      simp only [List.size_toArray] at he
      have : fn.results.toList.length = 1 := by omega
      obtain ⟨r,hr⟩ := List.length_eq_one_iff.1 this
      exact hne r hr
    have := hm h1
    rw [dif_neg hv1] at this
    refine ⟨_,this,.tup _ _ _ (by simp [h2]) fun k y hk => ?_⟩
    have hlt : k < vs.length := by rw [h2]; exact (List.getElem?_eq_some_iff.1 hk).1
    have e : vs.toArray.getD k undef = vs[k] := by simp [hlt]
    rw [e]
    exact h3 k y _ hk (List.getElem?_eq_getElem hlt)
def RetG (P : Program) (rs : List ResultVar) (Q : A→Hp→Prop) : Exit→Sta→Prop
  | .normal,st | .ret,st => ∃ r0,resA P st rs = some r0∧Q r0 st.H
  | _,_ => False
def argS (args : List A) : Nat→A := fun t => (args[t]?).getD .any
theorem body_run {P : Program} {f : FuncId} {fn : Func} {code : Code} (hf : P.funcs[f]? = some fn) (hb : fn.body = some code) {c : Cx} (hcP : c.P = P) (hcn : c.n = fn.ntmps) {args : List A} {vs : Array Value} (hl : vs.size = args.length) (ha : args.length≤fn.ntmps)
    {w : World} {I : Nat→Prop} {μ : Mu} {H : Hp} (hs : Sim c w I μ H) (hr : ∀ (k : Nat) (y : A),args[k]? = some y→Rel w I μ y (vs.getD k undef)) {Q : A→Hp→Prop} (h : AWP c code (RetG P fn.results.toList Q) ⟨argS args,H⟩) :
    Calls P f vs w fun e w' => ∃ v r0 H' I' μ',e = .returned v∧Sim c w' I' μ' H'∧Rel w' I' μ' r0 v∧Q r0 H' := by
  subst hcP
  refine calls_of_wp hf hb ?_
  have hs : SR c ⟨argS args,H⟩ { tmps := vs ++ Array.replicate (fn.ntmps - vs.size) undef,defers := [] } w I μ := by
    refine ⟨hs,?_,rfl,fun t => ?_⟩
    · simp [hcn,hl]; omega
    · show Rel w I μ (argS args t) _
      unfold argS
      cases hq : args[t]? with
      | none => exact .any _ _
      | some y =>
        have hlt := (List.getElem?_eq_some_iff.1 hq).1
        have e : (vs ++ Array.replicate (fn.ntmps - vs.size) undef).getD t undef = vs.getD t undef := by
          simp only [Array.getD_eq_getD_getElem?]
          rw [Array.getElem?_append_left (by omega)]
        rw [e]
        exact hr t y hq
  refine wp_mono (h _ w I μ hs) fun e a' w' ⟨st',I',μ',h1,h2⟩ => ?_
  have fin : (∃ r0,resA c.P st' fn.results.toList = some r0∧Q r0 st'.H)→a'.defers = []∧∃ v,(results fn a'.tmps).run c.P w' = .ok v w'∧∃ v' r0 H' I' μ',Ending.returned v = .returned v'∧Sim c w' I' μ' H'∧Rel w' I' μ' r0 v'∧Q r0 H' := by
    rintro ⟨r0,h3,h4⟩
    obtain ⟨v,h5,h6⟩ := results_sound (fn := fn) h1 h3
    exact ⟨h1.defers,v,h5,v,r0,st'.H,I',μ',rfl,h1.sim,h6,h4⟩
  cases e <;> first | exact fin h2 | exact h2.elim
def cx (P : Program) (w0 : World) (I0 : Nat→Prop) (n : Nat) : Cx := ⟨P,w0,I0,fun _ _ => False,n,mu0⟩
def H0 : Hp := fun _ => ⟨0,.none⟩
theorem sim_start {P : Program} {w : World} {I : Nat→Prop} {n : Nat} (hI : ∀ b,I b→b < w.heap.size) (ht : Tabs P w I) : Sim (cx P w I n) w I mu0 H0 :=
  ⟨⟨rfl,rfl,rfl,Nat.le_refl _,fun _ _ _ => rfl⟩,hI,fun _ h => h,fun b hb => .inl hb,fun _ => rfl,fun _ => trivial,(fun _ _ h => nomatch h),(fun _ h => nomatch h),MuLe.refl _,(fun _ h => nomatch h),ht⟩
theorem spec_intro {P : Program} {f : FuncId} {fn : Func} {code : Code} {args : List A} {r : A} {n : Nat} (hk : okFn P f = true) (hf : P.funcs[f]? = some fn) (hb : fn.body = some code) (hn : fn.ntmps = n) (ha : args.length≤n)
    (h : ∀ w0 I0,AWP (cx P w0 I0 n) code (RetG P fn.results.toList fun r0 H => Frz H r0 r) ⟨argS args,H0⟩) : Spec P f args r := by
  refine ⟨hk,fun w I vs hI htb hl hr => ?_⟩
  refine (body_run hf hb (c := cx P w I n) rfl hn.symm hl (by omega) (sim_start hI htb) hr (h w I)).mono fun e w' ⟨v,r0,H',I',μ',he,h1,h2,h3⟩ => ⟨v,he,?_,?_⟩
  · have k := h1.kept
    exact ⟨k.os,k.tape,k.output,k.size,fun b hb => k.block b hb (fun ⟨_,h⟩ => h)⟩
  · refine (h3 _ w' I' μ' v h1 h2).mono0 (fun b hb => ?_) (fun _ _ => rfl)
    rcases hb with hb | ⟨o,g1,rfl⟩
    · rcases h1.new b hb with g | g
      · exact .inl g
      · exact .inr ⟨g,h1.lt b hb⟩
    · obtain ⟨_,g4,g5⟩ := h1.own o g1
      rcases g4 with g4 | g4
      · exact g4.elim
      · exact .inr ⟨g4,g5⟩
theorem le_blank {s : Nat→A} {H : Hp} (t : Nat) (d : Nm) (sz : Nat) (ht : s t = .sl true []) : Le c ⟨s,H⟩ ⟨upd s t (.osl d ((H d).u + 1) sz 0 0),updF H d ⟨(H d).u + 1,.arr sz []⟩⟩ := fun a w I μ hs => by
  obtain ⟨hx,hs'⟩ := hs.sim.upd (grownBy_refl w none) d ⟨(H d).u + 1,false,0,0,sz,0⟩ (.arr sz []) (.inl rfl) (.inl (by rw [hs.sim.ver]; exact Nat.lt_succ_self _)) (fun h => nomatch h) (fun h => nomatch h) (fun hx => ⟨rfl,.inl ⟨rfl,rfl⟩⟩)
  refine ⟨I,_,hs',hs.size,hs.defers,fun k => ?_⟩
  show Rel w I _ (upd s t _ k) _
  unfold upd
  split
  · rename_i hk
    subst hk
    have h1 := hs.rel k
    simp only [ht] at h1
    generalize a.tmps.getD k undef = v at h1
    cases h1 with
    | slN _ _ q cap hc =>
      have := hc rfl
      subst this
      exact .osl _ _ _ _ _ _ _ _ (by omega) (by simp) (Nat.le_refl _) (fun h => by omega) (fun _ => by simp)
    | sl _ _ b off n cap z _ g h1 h2 h3 h4 =>
      have h5 : n = 0 := h2
      have h6 : cap = 0 := h4 rfl
      subst h5 h6
      exact .osl _ _ _ _ _ _ _ _ (by omega) (by simp) (Nat.le_refl _) (fun h => by omega) (fun _ => by simp)
  · exact hx.rel (hs.rel k)
end
structure CO where
  d : Option Nat
  o : Op
  g : Option (Nat × Bool)
  nm : Nm
  ix : Nat
  un : List Nat
  lg : Bool
abbrev co (d : Option Nat) (o : Op) (g : Option (Nat × Bool)) : CO := ⟨d,o,g,[],0,[],false⟩
abbrev cn (d : Option Nat) (o : Op) (g : Option (Nat × Bool)) (nm : Nm) : CO := ⟨d,o,g,nm,0,[],false⟩
inductive CC where
  | skip
  | reg (ops : List CO) (live : List Nat)
  | seq (x y : CC)
  | cond (c : Operand) (x y : CC)
  | block (i : Nat) (x : CC)
  | loop (x : CC)
  | exit (i : Nat)
  | ret
  | keep (live : List Nat) (x : CC)
  | stop (x : CC)
  | scope (x : CC)
def lookN : List (Nat × Nm)→Nat→Nm
  | [],_ => []
  | (k,n) :: l,i => if k = i then n else lookN l i
def needM (draw : Bool) (ops : Array Oper) (ms : List Nat) (i j : Nat) : Bool := draw && needB ops ms i j
theorem needM_R {draw : Bool} {ops : Array Oper} : needM draw ops (msOf ops) = needR draw ops := by
  cases draw
  · rfl
  · funext i j; simp [needM,needR]
def coOf (ops : Array Oper) (draw : Bool) (ms : List Nat) (nms : List (Nat × Nm)) (i : Nat) (o : Oper) : Option CO :=
  let un := (List.range i).filter fun j => needM draw ops ms j i
  let lg := (List.range ops.size).any fun k => Nat.blt i k && needM draw ops ms i k
  let ix := if un.isEmpty && !lg then 0 else i
  match o.guard with
  | none => some ⟨o.dst,o.op,none,lookN nms i,ix,un,lg⟩
  | some (j,f) => match (ops[j]?).bind (·.dst) with
    | some d => some ⟨o.dst,o.op,some (d,f),lookN nms i,ix,un,lg⟩
    | none => none
def cosOf (ops : Array Oper) (draw : Bool) (ms : List Nat) (nms : List (Nat × Nm)) : Nat→List Oper→Option (List CO)
  | _,[] => some []
  | i,o :: l => match coOf ops draw ms nms i o,cosOf ops draw ms nms (i + 1) l with
    | some x,some r => some (x :: r)
    | _,_ => none
inductive Is (n : Nat) : CC→Code→Prop
  | skip : Is n .skip .skip
  | reg (id : Nat) (ops : Array Oper) (draw : Bool) (live : List Nat) (nms : List (Nat × Nm)) (l : List CO) : regOK n ops draw = true→cosOf ops draw (msOf ops) nms 0 ops.toList = some l→Is n (.reg l live) (.region id ops draw)
  | seq (x y : CC) (a b : Code) : Is n x a→Is n y b→Is n (.seq x y) (.seq a b)
  | cond (o : Operand) (x y : CC) (a b : Code) : Is n x a→Is n y b→Is n (.cond o x y) (.cond o a b)
  | block (i : Nat) (x : CC) (a : Code) : Is n x a→Is n (.block i x) (.block i a)
  | loop (x : CC) (a : Code) : Is n x a→Is n (.loop x) (.loop a)
  | exit (i : Nat) : Is n (.exit i) (.exit i)
  | ret : Is n .ret .ret
  | keep (live : List Nat) (x : CC) (a : Code) : Is n x a→Is n (.keep live x) a
  | stop (x : CC) (a : Code) : Is n x a→Is n (.stop x) a
  | scope (x : CC) (a : Code) : Is n x a→Is n (.scope x) (.scope a)
  | label (l : Nat) : Is n .skip (.label l)
def NoG (Q : Exit→Sta→Prop) : Exit→Sta→Prop
  | .goto _,_ => False
  | e,st => Q e st
def Sta.keep (st : Sta) (live : List Nat) : Sta := ⟨lk (live.map fun k => (k,st.s k)),st.H⟩
theorem le_keep {c : Cx} {st : Sta} (live : List Nat) : Le c st (st.keep live) := le_list _ (fun p hp => by
  obtain ⟨k,_,rfl⟩ := List.mem_map.1 hp
  rfl)
def YieldsC (P : Program) (o : CO) (st : Sta) (x : A) (E : Eff) (f : Ft) : Prop :=
  match o.g with
  | none => OpR P o.nm o.o (evs st.s) st.H x E f.R f.W
  | some (d,fl) => ∃ q x0,wantA (st.s d) fl = some q∧(q = true→OpR P o.nm o.o (evs st.s) st.H x0 E f.R f.W)∧x = gd q x0∧(q = false→E = .nil∧f.R = []∧f.W = [])
def Ck (un : List Nat) (lg : Lg) (f : Ft) : Prop := ∀ p,p ∈ lg→p.1 ∈ un→nc p.2 f = true
def addL (b : Bool) (i : Nat) (f : Ft) (lg : Lg) : Lg := if b = true then (i,f) :: lg else lg
def SeqC (P : Program) (K : Sta→Prop) : List CO→Lg→Sta→Prop
  | [],_,st => K st
  | o :: rest,lg,st => ∃ x E f,YieldsC P o st x E f∧Ck o.un lg f∧SeqC P K rest (addL o.lg o.ix f lg) (st.put o.d x (E.app st.H))
theorem co_spec {ops : Array Oper} {draw : Bool} {ms : List Nat} {nms : List (Nat × Nm)} {i : Nat} {o : Oper} {c : CO} (h : coOf ops draw ms nms i o = some c) : c.d = o.dst∧c.o = o.op∧c.nm = lookN nms i ∧
    c.un = ((List.range i).filter fun j => needM draw ops ms j i)∧c.lg = ((List.range ops.size).any fun k => Nat.blt i k && needM draw ops ms i k)∧(c.un ≠ []∨c.lg = true→c.ix = i) ∧
    ((o.guard = none∧c.g = none)∨∃ j f d,o.guard = some (j,f)∧(ops[j]?).bind (·.dst) = some d∧c.g = some (d,f)) := by
  have hix : ∀ (un : List Nat) (lg : Bool),un ≠ []∨lg = true→(if (un.isEmpty && !lg) = true then 0 else i) = i := fun un lg hh => by
    rw [if_neg]
    rcases hh with h1 | h1
    · cases un with
      | nil => exact (h1 rfl).elim
      | cons => simp
    · simp [h1]
  unfold coOf at h
  cases hg : o.guard with
  | none =>
    rw [hg] at h
    simp only [Option.some.injEq] at h
    subst h
    exact ⟨rfl,rfl,rfl,rfl,rfl,hix _ _,.inl ⟨rfl,rfl⟩⟩
  | some p =>
    obtain ⟨j,f⟩ := p
    rw [hg] at h
    simp only at h
    cases hj : (ops[j]?).bind (·.dst) with
    | none => rw [hj] at h; cases h
    | some d =>
      rw [hj] at h
      simp only [Option.some.injEq] at h
      subst h
      exact ⟨rfl,rfl,rfl,rfl,rfl,hix _ _,.inr ⟨j,f,d,rfl,hj,rfl⟩⟩
theorem seqC_sound {P : Program} {ops : Array Oper} {draw : Bool} {ms : List Nat} {nms : List (Nat × Nm)} {K : Sta→Prop} : ∀ (l : List Oper) (i : Nat) (r : List CO) (Lf lg : Lg) (st : Sta),cosOf ops draw ms nms i l = some r→i + l.length = ops.size →
    (∀ p,p ∈ Lf→p.1 < i∧∀ k,i≤k→k < ops.size→needM draw ops ms p.1 k = true→p ∈ lg)→SeqC P K r lg st→SeqA P (lookN nms) (needM draw ops ms) ops K l i Lf st := by
  intro l
  induction l with
  | nil =>
    intro i r Lf lg st he _ _ h
    cases he
    exact h
  | cons o l ih =>
    intro i r Lf lg st he hsz hlg h
    unfold cosOf at he
    split at he
    · rename_i c r' hc hr
      cases he
      obtain ⟨e1,e2,e3,e4,e5,e7,e6⟩ := co_spec hc
      obtain ⟨x,E,f,hy,hk,h⟩ := h
      simp only [List.length_cons] at hsz
      refine ⟨x,E,f,?_,fun p hp hn => ?_,?_⟩
      · unfold YieldsC at hy
        rw [e2,e3] at hy
        rcases e6 with ⟨hg,hc⟩ | ⟨j,fl,d,hg,hj,hc⟩
        · rw [hc] at hy
          exact ⟨true,x,by unfold Guard; rw [hg],fun _ => hy,rfl,fun h => nomatch h⟩
        · rw [hc] at hy
          obtain ⟨q,x0,k1,k2,k3,k4⟩ := hy
          exact ⟨q,x0,by unfold Guard; rw [hg]; exact ⟨d,hj,k1⟩,k2,k3,k4⟩
      · obtain ⟨h1,h2⟩ := hlg p hp
        refine hk p (h2 i (Nat.le_refl _) (by omega) hn) ?_
        rw [e4]
        exact List.mem_filter.2 ⟨List.mem_range.2 h1,hn⟩
      · rw [e1] at h
        refine ih (i + 1) r' _ _ _ hr (by omega) (fun p hp => ?_) h
        rcases List.mem_cons.1 hp with rfl | hp
        · refine ⟨Nat.lt_succ_self _,fun k h1 h2 h3 => ?_⟩
          have hl : c.lg = true := by
            rw [e5]
            exact List.any_eq_true.2 ⟨k,List.mem_range.2 h2,by simp [Nat.blt_eq,h3]; omega⟩
          unfold addL
          rw [if_pos hl,e7 (.inr hl)]
          simp
        · obtain ⟨h1,h2⟩ := hlg p hp
          refine ⟨by omega,fun k h3 h4 h5 => ?_⟩
          have := h2 k (by omega) h4 h5
          unfold addL
          split
          · exact List.mem_cons_of_mem _ this
          · exact this
    · cases he
def LoopC (c : Cx) (x : CC) (Q : Exit→Sta→Prop) (st : Sta) : Prop := ∀ a,Is c.n x a→AHead c a Q st
def ThenC (K : Sta→Prop) (Q : Exit→Sta→Prop) : Exit→Sta→Prop
  | .normal,st => K st
  | e,st => Q e st
def StopK (c : Cx) (K : Sta→Prop) (st : Sta) : Prop := ∃ st',Le c st st'∧K st'
theorem stop_go {c : Cx} {K : Sta→Prop} {st : Sta} (h : K st) : StopK c K st := ⟨st,Le.refl,h⟩
theorem stop_le {c : Cx} {K : Sta→Prop} {st st' : Sta} (h : Le c st st') (k : StopK c K st') : StopK c K st := let ⟨st2,h2,k2⟩ := k; ⟨st2,h.trans h2,k2⟩
def WPC (c : Cx) : CC→(Exit→Sta→Prop)→Sta→Prop
  | .skip,Q,st => Q .normal st
  | .exit i,Q,st => Q (.exit i) st
  | .ret,Q,st => Q .ret st
  | .reg ops live,Q,st => SeqC c.P (fun st => Q .normal (st.keep live)) ops [] st
  | .seq x y,Q,st => WPC c x (ThenC (WPC c y Q) Q) st
  | .cond o x y,Q,st => ∃ b,evs st.s o = .v (.bool b)∧(b = true→WPC c x Q st)∧(b = false→WPC c y Q st)
  | .block i x,Q,st => WPC c x (InBlock i Q) st
  | .loop x,Q,st => LoopC c x Q st
  | .keep live x,Q,st => WPC c x Q (st.keep live)
  | .stop x,Q,st => StopK c (fun st => WPC c x Q st) st
  | .scope x,Q,st => WPC c x (NoG Q) st
theorem wpc_sound {c : Cx} (hm : c.P.follows .mixedOrders = true) : ∀ {x : CC} {a : Code} {Q : Exit→Sta→Prop} {st : Sta},Is c.n x a→WPC c x Q st→AWP c a Q st := by
  intro x a Q st hi
  induction hi generalizing Q st with
  | skip => exact fun h => awp_skip h
  | exit i => exact fun h => awp_exit h
  | ret => exact fun h => awp_ret h
  | reg id ops draw live nms l hok hl =>
    intro h
    intro a w I μ hs
    have h1 := seqC_sound ops.toList 0 l [] [] _ hl (by simp) (fun p hp => by simp at hp) h
    rw [needM_R] at h1
    refine region_sound hm hok (K := fun st => Q .normal (st.keep live)) (fun st' a' w' I' μ' h1 h2 => ?_) hs h1
    obtain ⟨I2,μ2,h3⟩ := le_keep live a' w' I' μ' h1
    exact ⟨_,I2,μ2,h3,h2⟩
  | seq x y a b _ _ ih1 ih2 =>
    intro h
    refine awp_seq ((ih1 h).mono fun e st' hq => ?_)
    cases e <;> first | exact ih2 hq | exact hq
  | cond o x y a b _ _ ih1 ih2 =>
    intro ⟨q,hb,ht,hf⟩
    exact awp_cond hb (fun h => ih1 (ht h)) (fun h => ih2 (hf h))
  | block i x a _ ih => exact fun h => awp_block (ih h)
  | loop x a hx _ => exact fun h => awp_loop (h a hx)
  | keep live x a _ ih =>
    intro h a w I μ hs
    obtain ⟨I2,μ2,h3⟩ := le_keep live a w I μ hs
    exact ih h a w I2 μ2 h3
  | stop x a _ ih =>
    intro ⟨st',h1,h2⟩ a w I μ hs
    obtain ⟨I2,μ2,h3⟩ := h1 a w I μ hs
    exact ih h2 a w I2 μ2 h3
  | scope x a _ ih =>
    intro h a w I μ hs
    refine wp_scope_straight (wp_mono (ih h a w I μ hs) fun e a' w' ⟨st',I',μ',h1,h2⟩ => ?_)
    cases e with
    | goto l => exact h2.elim
    | _ => exact ⟨st',I',μ',h1,h2⟩
  | label l => exact fun h a w I μ hs => wp_label ⟨st,I,μ,hs,h⟩
theorem WPC.mono {c : Cx} : ∀ {x : CC} {Q Q' : Exit→Sta→Prop} {st : Sta},(∀ e st,Q e st→Q' e st)→WPC c x Q st→WPC c x Q' st
  | .skip,_,_,_,hq,h => hq _ _ h
  | .exit _,_,_,_,hq,h => hq _ _ h
  | .ret,_,_,_,hq,h => hq _ _ h
  | .reg ops live,Q,Q',st,hq,h => by
    have : ∀ (ops : List CO) (lg : Lg) (st : Sta),SeqC c.P (fun st => Q .normal (st.keep live)) ops lg st→SeqC c.P (fun st => Q' .normal (st.keep live)) ops lg st := by
      intro ops
      induction ops with
      | nil => exact fun lg st h => hq _ _ h
      | cons o ops ih => exact fun lg st ⟨x,E,f,h1,h2,h3⟩ => ⟨x,E,f,h1,h2,ih _ _ h3⟩
    exact this ops _ st h
  | .seq x y,Q,Q',st,hq,h => WPC.mono (x := x) (fun e st' h' => by cases e <;> first | exact WPC.mono (x := y) hq h' | exact hq _ _ h') h
  | .cond o x y,Q,Q',st,hq,⟨b,h1,h2,h3⟩ => ⟨b,h1,fun h => WPC.mono hq (h2 h),fun h => WPC.mono hq (h3 h)⟩
  | .block i x,Q,Q',st,hq,h => WPC.mono (x := x) (fun e st' h' => by
      cases e with
      | exit j =>
        by_cases hj : j = i
        · subst hj; rw [InBlock_self] at h' ⊢; exact hq _ _ h'
        · rw [InBlock_other hj] at h' ⊢; exact hq _ _ h'
      | _ => exact hq _ _ h') h
  | .keep live x,Q,Q',st,hq,h => WPC.mono (x := x) hq h
  | .stop x,Q,Q',st,hq,⟨st',h1,h2⟩ => ⟨st',h1,WPC.mono (x := x) hq h2⟩
  | .scope x,Q,Q',st,hq,h => WPC.mono (x := x) (fun e st' h' => by
      cases e with
      | goto l => exact h'
      | _ => exact hq _ _ h') h
  | .loop x,Q,Q',st,hq,h => fun a ha a' w I μ hs b k cs => by
    obtain ⟨e,a1,w1,⟨st',I',μ',h1,h2⟩,h3⟩ := h a ha a' w I μ hs b k cs
    exact ⟨e,a1,w1,⟨st',I',μ',h1,hq _ _ h2⟩,h3⟩
theorem loopC_round {c : Cx} (hm : c.P.follows .mixedOrders = true) {x : CC} {Q : Exit→Sta→Prop} {st : Sta} (h : WPC c x (ThenC (LoopC c x Q) Q) st) : LoopC c x Q st := fun a ha =>
  ahead_round ((wpc_sound hm ha h).mono fun e st' hq => by cases e <;> first | exact hq a ha | exact hq)
theorem LoopC.le {c : Cx} {x : CC} {Q : Exit→Sta→Prop} {st st' : Sta} (h : Le c st st') (k : LoopC c x Q st') : LoopC c x Q st := fun a ha => (k a ha).le h
def keepIf : List Nat→CC→CC
  | 999999 :: live,y => .keep live y
  | 999998 :: _,y => .stop y
  | 999997 :: live,y => .keep live (.stop y)
  | _,y => y
theorem is_keepIf {n : Nat} {m : List Nat} {y : CC} {b : Code} (h : Is n y b) : Is n (keepIf m y) b := by
  unfold keepIf
  split
  · exact .keep _ _ _ h
  · exact .stop _ _ h
  · exact .keep _ _ _ (.stop _ _ h)
  · exact h
abbrev Mk := List Nat × List (Nat × Nm)
def toCC (n : Nat) : Code→List Mk→Option (CC × List Mk)
  | .skip,ls => some (.skip,ls)
  | .exit i,ls => some (.exit i,ls)
  | .ret,ls => some (.ret,ls)
  | .region _ ops draw,(live,nms) :: ls => if regOK n ops draw = true then match cosOf ops draw (msOf ops) nms 0 ops.toList with
      | some l => some (.reg l live,ls)
      | none => none else none
  | .seq a b,ls => match toCC n a ls with
    | some (x,m :: ls) => match toCC n b ls with
      | some (y,ls) => some (.seq x (keepIf m.1 y),ls)
      | none => none
    | _ => none
  | .cond o a b,ls => match toCC n a ls with
    | some (x,ls) => match toCC n b ls with
      | some (y,ls) => some (.cond o x y,ls)
      | none => none
    | none => none
  | .block i a,ls => match toCC n a ls with
    | some (x,ls) => some (.block i x,ls)
    | none => none
  | .loop a,ls => match toCC n a ls with
    | some (x,ls) => some (.loop x,ls)
    | none => none
  | .scope a,ls => match toCC n a ls with
    | some (x,ls) => some (.scope x,ls)
    | none => none
  | .label _,ls => some (.skip,ls)
  | _,_ => none
theorem toCC_is {n : Nat} : ∀ {a : Code} {ls ls' : List Mk} {x : CC},toCC n a ls = some (x,ls')→Is n x a := by
  intro a
  induction a with
  | skip => intro ls ls' x h; simp only [toCC] at h; cases h; exact .skip
  | exit i => intro ls ls' x h; simp only [toCC] at h; cases h; exact .exit i
  | ret => intro ls ls' x h; simp only [toCC] at h; cases h; exact .ret
  | region id ops draw =>
    intro ls ls' x h
    cases ls with
    | nil => simp [toCC] at h
    | cons live ls =>
      simp only [toCC] at h
      split at h
      · rename_i hok
        split at h
        · rename_i l hl
          cases h
          exact .reg _ _ _ _ _ _ hok hl
        · cases h
      · cases h
  | seq a b ih1 ih2 =>
    intro ls ls' x h
    simp only [toCC] at h
    split at h
    · rename_i q1 m l1 h1
      split at h
      · rename_i q2 l2 h2
        cases h
        exact .seq _ _ _ _ (ih1 h1) (is_keepIf (ih2 h2))
      · cases h
    · cases h
  | cond o a b ih1 ih2 =>
    intro ls ls' x h
    simp only [toCC] at h
    split at h
    · rename_i q1 l1 h1
      split at h
      · rename_i q2 l2 h2
        cases h
        exact .cond _ _ _ _ _ (ih1 h1) (ih2 h2)
      · cases h
    · cases h
  | block i a ih =>
    intro ls ls' x h
    simp only [toCC] at h
    split at h
    · rename_i q1 l1 h1
      cases h
      exact .block _ _ _ (ih h1)
    · cases h
  | loop a ih =>
    intro ls ls' x h
    simp only [toCC] at h
    split at h
    · rename_i q1 l1 h1
      cases h
      exact .loop _ _ (ih h1)
    · cases h
  | scope a ih =>
    intro ls ls' x h
    simp only [toCC] at h
    split at h
    · rename_i q1 l1 h1
      cases h
      exact .scope _ _ (ih h1)
    · cases h
  | label l => intro ls ls' x h; simp only [toCC] at h; cases h; exact .label l
  | _ => intro ls ls' x h; cases ls <;> simp [toCC] at h
structure Txt (P : Program) (f : FuncId) (n : Nat) (rs : List ResultVar) (cc : CC) : Prop where
  mixed : P.follows .mixedOrders = true
  ok : okFn P f = true
  fn : ∃ fn code,P.funcs[f]? = some fn∧fn.body = some code∧fn.ntmps = n∧fn.results.toList = rs∧Is n cc code
theorem txt_of {P : Program} {f : FuncId} {fn : Func} {code : Code} {cc : CC} {ls : List Mk} {rs : List ResultVar} {n : Nat} (hm : P.follows .mixedOrders = true) (hk : okFn P f = true) (hf : P.funcs[f]? = some fn) (hb : fn.body = some code)
    (hn : fn.ntmps = n) (hrs : fn.results.toList = rs) (hc : toCC n code ls = some (cc,[])) : Txt P f n rs cc := ⟨hm,hk,fn,code,hf,hb,hn,hrs,toCC_is hc⟩
def RetC (P : Program) (rs : List ResultVar) (r : A) : Exit→Sta→Prop := RetG P rs fun r0 H => Frz H r0 r
theorem spec_of {P : Program} {f : FuncId} {n : Nat} {rs : List ResultVar} {cc : CC} {args : List A} {r : A} (t : Txt P f n rs cc) (ha : args.length≤n) (h : ∀ w0 I0,WPC (cx P w0 I0 n) cc (RetC P rs r) ⟨argS args,H0⟩) : Spec P f args r := by
  obtain ⟨hm,hk,fn,code,hf,hb,hn,hrs,hc⟩ := t
  exact spec_intro hk hf hb hn ha fun w0 I0 => wpc_sound (c := cx P w0 I0 n) hm hc (by rw [hrs]; exact h w0 I0)
section
variable {P : Program} {H : Hp} {t u : TypeId}
def vc (x : VOb) (u : Nat) : Option (List A) := match x with | ⟨u',.cells cs⟩ => if u' = u then some cs else none | _ => none
def vr (x : VOb) (u : Nat) : Option (Nat × List A) := match x with | ⟨u',.arr s xs⟩ => if u' = u then some (s,xs) else none | _ => none
@[simp] theorem vc_cells {u' u : Nat} {cs : List A} : vc ⟨u',.cells cs⟩ u = if u' = u then some cs else none := rfl
@[simp] theorem vr_arr {u' u s : Nat} {xs : List A} : vr ⟨u',.arr s xs⟩ u = if u' = u then some (s,xs) else none := rfl
@[simp] theorem getC_at {o : Nm} {u : Nat} : getC H o u = vc (H o) u := rfl
@[simp] theorem getR_at {o : Nm} {u : Nat} : getR H o u = vr (H o) u := rfl
@[simp] theorem load_pob {o : Nm} {u off : Nat} : loadA P H t (.pob o u off) = match aggT P t,szT P t with | some g,some sz => (match vc (H o) u with | some cs => pickA g sz (cs.drop off) | none => none) | _,_ => none := by
  unfold loadA
  cases aggT P t with
  | none => rfl
  | some g =>
    cases szT P t with
    | none => rfl
    | some sz => rfl
@[simp] theorem load_pel {o : Nm} {u i j : Nat} : loadA P H t (.pel o u i j) = match aggT P t,szT P t with | some g,some sz => (match vr (H o) u with | some (_,xs) => (match xs[i]? with | some x => pickA g sz (x.cells.drop j) | none => none) | none => none) | _,_ => none := by
  unfold loadA
  cases aggT P t with
  | none => rfl
  | some g =>
    cases szT P t with
    | none => rfl
    | some sz => rfl
@[simp] theorem store_pob {o : Nm} {u off : Nat} {val : A} : storeA P H t (.pob o u off) val = match szT P t with
    | some sz => if val.cells.length = sz∧A.ones val.cells = true then (match vc (H o) u with | some cs => if off + sz≤cs.length then some (.one o ⟨u,.cells (splice cs off val.cells)⟩) else none | none => none) else none
    | none => none := by
  unfold storeA
  cases szT P t <;> rfl
def stElem (o : Nm) (u i j s sz : Nat) (xs : List A) (val : A) : Option A→Option Eff
  | some x => if j = 0∧sz = s then some (.one o ⟨u,.arr s (xs.set i val)⟩)
    else if j + sz≤s∧x.isAgg = true then some (.one o ⟨u,.arr s (xs.set i (x.remake (splice x.cells j val.cells)))⟩) else none
  | none => none
def stRow (o : Nm) (u i j sz : Nat) (val : A) : Option (Nat × List A)→Option Eff
  | some (s,xs) => stElem o u i j s sz xs val xs[i]?
  | none => none
@[simp] theorem stRow_some {o : Nm} {u i j s sz : Nat} {xs : List A} {val : A} : stRow o u i j sz val (some (s,xs)) = stElem o u i j s sz xs val xs[i]? := rfl
@[simp] theorem stElem_some {o : Nm} {u i j s sz : Nat} {xs : List A} {x val : A} : stElem o u i j s sz xs val (some x) = if j = 0∧sz = s then some (.one o ⟨u,.arr s (xs.set i val)⟩)
    else if j + sz≤s∧x.isAgg = true then some (.one o ⟨u,.arr s (xs.set i (x.remake (splice x.cells j val.cells)))⟩) else none := rfl
@[simp] theorem store_pel {o : Nm} {u i j : Nat} {val : A} : storeA P H t (.pel o u i j) val = match szT P t with
    | some sz => if val.cells.length = sz∧A.ones val.cells = true then stRow o u i j sz val (vr (H o) u) else none
    | none => none := by
  unfold storeA
  cases szT P t with
  | none => rfl
  | some sz =>
    simp only [getR_at]
    cases vr (H o) u with
    | none => rfl
    | some p =>
      obtain ⟨s,xs⟩ := p
      simp only [stRow_some]
      cases xs[i]? <;> rfl
@[simp] theorem alloc_eq {d : Nm} {e : TypeId} : allocA P H d e = match zeroT P e with | some z => if A.ones (ofV z).cells = true∧tagOK d e = true then some (.pob d ((H d).u + 1) 0,.one d ⟨(H d).u + 1,.cells (ofV z).cells⟩) else none | none => none := rfl
@[simp] theorem box_eq {d : Nm} {e : TypeId} {a : A} : boxA H d e a = if A.ones a.cells = true∧tagOK d e = true then some (.pob d ((H d).u + 1) 0,.one d ⟨(H d).u + 1,.cells a.cells⟩) else none := rfl
@[simp] theorem ptrA_eq {a : A} : ptrA a = if a.isPtr = true then some a else none := rfl
def mkRow (H : Hp) (d : Nm) (e : TypeId) (n c : Int) : Option Nat→Option Value→Option Nat→Option (A × Eff)
  | some s,some z,some b => if 0≤n∧n≤c∧b * c≤140737488355328∧0 < b∧(ofV z).cells.length = s∧A.ones (ofV z).cells = true∧tagOK d e = true then some (.osl d ((H d).u + 1) s 0 n.toNat,.one d ⟨(H d).u + 1,.arr s (List.replicate n.toNat (ofV z))⟩) else none
  | _,_,_ => none
@[simp] theorem mkRow_some {d : Nm} {e : TypeId} {n c : Int} {s b : Nat} {z : Value} : mkRow H d e n c (some s) (some z) (some b) = if 0≤n∧n≤c∧b * c≤140737488355328∧0 < b∧(ofV z).cells.length = s∧A.ones (ofV z).cells = true∧tagOK d e = true then some (.osl d ((H d).u + 1) s 0 n.toNat,.one d ⟨(H d).u + 1,.arr s (List.replicate n.toNat (ofV z))⟩) else none := rfl
@[simp] theorem makeSlice_eq {d : Nm} {k k' : IntKind} {n c : Int} : makeSliceA P H d t (.v (.int k n)) (.v (.int k' c)) = match P.underlying t with | some (.slice e) => mkRow H d e n c (szT P e) (zeroT P e) (bytesT P e) | _ => none := by
  unfold makeSliceA
  cases P.underlying t with
  | none => rfl
  | some q =>
    cases q <;> first
      | rfl
      | (rename_i e; cases szT P e <;> cases zeroT P e <;> cases bytesT P e <;> rfl)
def apS (H : Hp) (d : Nm) (e : TypeId) (xs : List A) : Option (List A)→Option Nat→Option Value→Option Nat→Option (A × Eff)
  | some zs,some s,some z,some b => if 0 < b∧(ofV z).cells.length = s∧A.ones (ofV z).cells = true then if lens s xs = true∧(xs.length = 0∨0 < zs.length)∧(xs.length + zs.length) * b≤140737488355328∧tagOK d e = true then some (.osl d ((H d).u + 1) s 0 (xs.length + zs.length),.one d ⟨(H d).u + 1,.arr s (xs ++ zs)⟩) else none else none
  | _,_,_,_ => none
@[simp] theorem apS_some {d : Nm} {e : TypeId} {xs zs : List A} {s b : Nat} {z : Value} : apS H d e xs (some zs) (some s) (some z) (some b) = if 0 < b∧(ofV z).cells.length = s∧A.ones (ofV z).cells = true then if lens s xs = true∧(xs.length = 0∨0 < zs.length)∧(xs.length + zs.length) * b≤140737488355328∧tagOK d e = true then some (.osl d ((H d).u + 1) s 0 (xs.length + zs.length),.one d ⟨(H d).u + 1,.arr s (xs ++ zs)⟩) else none else none := rfl
def apO (o : Nm) (e : TypeId) (v sz off len : Nat) : Option (Nat × List A)→Option (List A)→Option Nat→Option Value→Option Nat→Option (A × Eff)
  | some (s',ys),some zs,some s,some z,some b => if 0 < b∧(ofV z).cells.length = s∧A.ones (ofV z).cells = true then if off = 0∧s' = s∧sz = s∧len≤ys.length∧(len + zs.length) * b≤140737488355328∧tagOK o e = true then some (.osl o (v + 1) s 0 (len + zs.length),.one o ⟨v + 1,.arr s (ys.take len ++ zs)⟩) else none else none
  | _,_,_,_,_ => none
@[simp] theorem apO_some {o : Nm} {e : TypeId} {v sz off len s' s b : Nat} {ys zs : List A} {z : Value} : apO o e v sz off len (some (s',ys)) (some zs) (some s) (some z) (some b) = if 0 < b∧(ofV z).cells.length = s∧A.ones (ofV z).cells = true then if off = 0∧s' = s∧sz = s∧len≤ys.length∧(len + zs.length) * b≤140737488355328∧tagOK o e = true then some (.osl o (v + 1) s 0 (len + zs.length),.one o ⟨v + 1,.arr s (ys.take len ++ zs)⟩) else none else none := rfl
@[simp] theorem append_sl {d : Nm} {xs : List A} {x : A} : appendA P H d t u (.sl true xs) x = match P.underlying t with | some (.slice e) => (match szT P e with | some s => apS H d e xs (srcA P H s e u x) (some s) (zeroT P e) (bytesT P e) | none => none) | _ => none := by
  unfold appendA
  cases P.underlying t with
  | none => rfl
  | some q =>
    cases q <;> try rfl
    rename_i e
    simp only
    cases szT P e with
    | none => rfl
    | some s =>
      cases zeroT P e with
      | none => simp only; cases srcA P H s e u x <;> rfl
      | some z =>
        cases bytesT P e with
        | none => simp only; cases srcA P H s e u x <;> rfl
        | some b => simp only; cases srcA P H s e u x <;> rfl
def apF (xs : List A) : Option (List A)→Option Nat→Option Value→Option Nat→Option (A × Eff)
  | some zs,some s,some z,some b => if 0 < b∧(ofV z).cells.length = s∧A.ones (ofV z).cells = true then if zs.length = 0 then some (.sl false xs,.nil) else none else none
  | _,_,_,_ => none
@[simp] theorem apF_some {xs zs : List A} {s b : Nat} {z : Value} : apF xs (some zs) (some s) (some z) (some b) = if 0 < b∧(ofV z).cells.length = s∧A.ones (ofV z).cells = true then if zs.length = 0 then some (.sl false xs,.nil) else none else none := rfl
@[simp] theorem append_slF {d : Nm} {xs : List A} {x : A} : appendA P H d t u (.sl false xs) x = match P.underlying t with | some (.slice e) => (match szT P e with | some s => apF xs (srcA P H s e u x) (some s) (zeroT P e) (bytesT P e) | none => none) | _ => none := by
  unfold appendA
  cases P.underlying t with
  | none => rfl
  | some q =>
    cases q <;> try rfl
    rename_i e
    simp only
    cases szT P e with
    | none => rfl
    | some s =>
      cases zeroT P e with
      | none => simp only; cases srcA P H s e u x <;> rfl
      | some z =>
        cases bytesT P e with
        | none => simp only; cases srcA P H s e u x <;> rfl
        | some b => simp only; cases srcA P H s e u x <;> rfl
def cpO (o : Nm) (v sz off len s : Nat) : Option (Nat × List A)→Option (List A)→Option (A × Eff)
  | some (s',ys),some zs => if s' = s∧sz = s∧off + len≤ys.length then
      some (.v (.int .i64 (min zs.length len : Nat)),.one o ⟨v,.arr s (ys.take off ++ zs.take (min zs.length len) ++ ys.drop (off + min zs.length len))⟩) else none
  | _,_ => none
@[simp] theorem cpO_some {o : Nm} {v sz off len s s' : Nat} {ys zs : List A} : cpO o v sz off len s (some (s',ys)) (some zs) = if s' = s∧sz = s∧off + len≤ys.length then
      some (.v (.int .i64 (min zs.length len : Nat)),.one o ⟨v,.arr s (ys.take off ++ zs.take (min zs.length len) ++ ys.drop (off + min zs.length len))⟩) else none := rfl
@[simp] theorem copy_osl {o : Nm} {v sz off len : Nat} {x : A} : copyA P H t (.osl o v sz off len) x = match P.underlying t with | some (.slice e) => (match szT P e with | some s => cpO o v sz off len s (vr (H o) v) (elemsA H s x) | none => none) | _ => none := by
  unfold copyA
  cases P.underlying t with
  | none => rfl
  | some q =>
    cases q <;> try rfl
    rename_i e
    simp only [getR_at]
    generalize vr (H o) v = r
    cases szT P e with
    | none => rfl
    | some s => simp only; cases elemsA H s x <;> cases r <;> rfl
@[simp] theorem append_osl {d o : Nm} {v sz off len : Nat} {x : A} : appendA P H d t u (.osl o v sz off len) x = match P.underlying t with | some (.slice e) => (match szT P e with | some s => apO o e v sz off len (vr (H o) v) (srcA P H s e u x) (some s) (zeroT P e) (bytesT P e) | none => none) | _ => none := by
  unfold appendA
  cases P.underlying t with
  | none => rfl
  | some q =>
    cases q <;> try rfl
    rename_i e
    simp only [getR_at]
    generalize vr (H o) v = r
    cases szT P e with
    | none => rfl
    | some s =>
      cases zeroT P e with
      | none => simp only; cases srcA P H s e u x <;> cases r <;> rfl
      | some z =>
        cases bytesT P e with
        | none => simp only; cases srcA P H s e u x <;> cases r <;> rfl
        | some b =>
          simp only
          cases srcA P H s e u x with
          | none => cases r <;> rfl
          | some zs => cases r <;> simp only [apO] <;> (try split) <;> rfl
def zerosA (n : Int) (s : Nat) : Option Value→Option Nat→Option (List A)
  | some z,some b => if 0≤n∧n * b≤140737488355328∧0 < b∧(ofV z).cells.length = s∧A.ones (ofV z).cells = true then some (List.replicate n.toNat (ofV z)) else none
  | _,_ => none
@[simp] theorem zerosA_some {n : Int} {s b : Nat} {z : Value} : zerosA n s (some z) (some b) = if 0≤n∧n * b≤140737488355328∧0 < b∧(ofV z).cells.length = s∧A.ones (ofV z).cells = true then some (List.replicate n.toNat (ofV z)) else none := rfl
@[simp] theorem src_int {s e : Nat} {k : IntKind} {n : Int} : srcA P H s e t (.v (.int k n)) = match P.underlying t with | some (.int _) => zerosA n s (zeroT P e) (bytesT P e) | _ => none := by
  unfold srcA
  cases P.underlying t with
  | none => rfl
  | some q =>
    cases q <;> first
      | rfl
      | (cases zeroT P e <;> cases bytesT P e <;> rfl)
@[simp] theorem src_str {s e : Nat} {x : ByteArray} : srcA P H s e t (.v (.string x)) = match P.underlying t with | some .string => if s = 1 then some (x.data.toList.map fun b => .v (.int .u8 b.toNat)) else none | _ => none := by
  unfold srcA
  cases P.underlying t with
  | none => rfl
  | some q => cases q <;> rfl
@[simp] theorem src_sl {s e : Nat} {f : Bool} {xs : List A} : srcA P H s e t (.sl f xs) = match P.underlying t with | some (.slice _) => if lens s xs = true then some xs else none | _ => none := by
  unfold srcA
  cases P.underlying t with
  | none => rfl
  | some q => cases q <;> rfl
def elO (s z off n : Nat) : Option (Nat × List A)→Option (List A)
  | some (s',ys) => if s' = s∧z = s∧off + n≤ys.length then some ((ys.drop off).take n) else none
  | none => none
@[simp] theorem elO_some {s z off n s' : Nat} {ys : List A} : elO s z off n (some (s',ys)) = if s' = s∧z = s∧off + n≤ys.length then some ((ys.drop off).take n) else none := rfl
@[simp] theorem src_osl {s e u' z off n : Nat} {o : Nm} : srcA P H s e t (.osl o u' z off n) = match P.underlying t with | some (.slice _) => elO s z off n (vr (H o) u') | _ => none := by
  unfold srcA
  cases P.underlying t with
  | none => rfl
  | some q =>
    cases q <;> first
      | rfl
      | (simp only [elemsA,getR_at]; cases vr (H o) u' <;> rfl)
def ixS (xs : List A) (i : Int) : Option Nat→Option A
  | some m => if 0≤i∧i < xs.length then (match xs[i.toNat]? with
          | some x => if x.cells.length = m then some (.pim x.cells) else none
          | none => none) else none
  | none => none
@[simp] theorem ixS_some {xs : List A} {i : Int} {m : Nat} : ixS xs i (some m) = if 0≤i∧i < xs.length then (match xs[i.toNat]? with
          | some x => if x.cells.length = m then some (.pim x.cells) else none
          | none => none) else none := rfl
@[simp] theorem indexAddr_sl {k : IntKind} {i : Int} {f : Bool} {xs : List A} : indexAddrA P t (.sl f xs) (.v (.int k i)) = match P.underlying t with | some (.slice e) => ixS xs i (szT P e) | _ => none := by
  unfold indexAddrA
  cases P.underlying t with
  | none => rfl
  | some q =>
    cases q <;> first
      | rfl
      | (rename_i e; cases h : szT P e <;> first | rfl | simp [A.shift,h] | (simp only [h]; rfl))
def ixO (o : Nm) (u z off n : Nat) (i : Int) : Option Nat→Option A
  | some m => if 0≤i∧i < n∧z = m then some (.pel o u (off + i.toNat) 0) else none
  | none => none
@[simp] theorem ixO_some {o : Nm} {u z off n m : Nat} {i : Int} : ixO o u z off n i (some m) = if 0≤i∧i < n∧z = m then some (.pel o u (off + i.toNat) 0) else none := rfl
@[simp] theorem indexAddr_osl {u z off n : Nat} {o : Nm} {k : IntKind} {i : Int} : indexAddrA P t (.osl o u z off n) (.v (.int k i)) = match P.underlying t with | some (.slice e) => ixO o u z off n i (szT P e) | _ => none := by
  unfold indexAddrA
  cases P.underlying t with
  | none => rfl
  | some q =>
    cases q <;> first
      | rfl
      | (rename_i e; cases h : szT P e <;> first | rfl | simp [A.shift,h] | (simp only [h]; rfl))
def ixA (a : A) (n : Nat) (i : Int) : Option Nat→Option A
  | some m => if 0≤i∧i < n then a.shift (i.toNat * m) else none
  | none => none
@[simp] theorem ixA_some {a : A} {n m : Nat} {i : Int} : ixA a n i (some m) = if 0≤i∧i < n then a.shift (i.toNat * m) else none := rfl
@[simp] theorem indexAddr_pob {u p : Nat} {o : Nm} {k : IntKind} {i : Int} : indexAddrA P t (.pob o u p) (.v (.int k i)) = match P.underlying t with | some (.array n e) => ixA (.pob o u p) n i (szT P e) | _ => none := by
  unfold indexAddrA
  cases P.underlying t with
  | none => rfl
  | some q =>
    cases q <;> first
      | rfl
      | (rename_i e; cases h : szT P e <;> first | rfl | simp [A.shift,h] | (simp only [h]; rfl))
@[simp] theorem indexAddr_pim {cs : List A} {k : IntKind} {i : Int} : indexAddrA P t (.pim cs) (.v (.int k i)) = match P.underlying t with | some (.array n e) => ixA (.pim cs) n i (szT P e) | _ => none := by
  unfold indexAddrA
  cases P.underlying t with
  | none => rfl
  | some q =>
    cases q <;> first
      | rfl
      | (rename_i e; cases h : szT P e <;> first | rfl | simp [A.shift,h] | (simp only [h]; rfl))
@[simp] theorem indexAddr_pel {u p q' : Nat} {o : Nm} {k : IntKind} {i : Int} : indexAddrA P t (.pel o u p q') (.v (.int k i)) = match P.underlying t with | some (.array n e) => ixA (.pel o u p q') n i (szT P e) | _ => none := by
  unfold indexAddrA
  cases P.underlying t with
  | none => rfl
  | some q =>
    cases q <;> first
      | rfl
      | (rename_i e; cases h : szT P e <;> first | rfl | simp [A.shift,h] | (simp only [h]; rfl))
def ixV (P : Program) (e : TypeId) (cs : List A) (n : Nat) (i : Int) : Option Nat→Option A
  | some m => if 0≤i∧i < n then partA P e cs (i.toNat * m) else none
  | none => none
@[simp] theorem ixV_some {e : TypeId} {cs : List A} {n m : Nat} {i : Int} : ixV P e cs n i (some m) = if 0≤i∧i < n then partA P e cs (i.toNat * m) else none := rfl
@[simp] theorem partA_eq {cs : List A} {off : Nat} : partA P t cs off = match aggT P t,szT P t with | some g,some sz => pickA g sz (cs.drop off) | _,_ => none := rfl
@[simp] theorem index_agg {cs : List A} {k : IntKind} {i : Int} : indexA P t (.agg cs) (.v (.int k i)) = match P.underlying t with | some (.array n e) => ixV P e cs n i (szT P e) | _ => none := by
  unfold indexA
  cases P.underlying t with
  | none => rfl
  | some q =>
    cases q <;> first
      | rfl
      | (rename_i e; cases h : szT P e <;> first | rfl | simp [A.shift,h] | (simp only [h]; rfl))
@[simp] theorem index_str {s : ByteArray} {k : IntKind} {i : Int} : indexA P t (.v (.string s)) (.v (.int k i)) = match P.underlying t with | some .string => if 0≤i then (s[i.toNat]?).map (fun b => .v (.int .u8 b.toNat)) else none | _ => none := by
  unfold indexA
  cases P.underlying t with
  | none => rfl
  | some q => cases q <;> rfl
@[simp] theorem len_sl {f : Bool} {xs : List A} : lenA P t (.sl f xs) = match P.underlying t with | some (.slice _) => some (.v (.int .i64 xs.length)) | some (.array n _) => some (.v (.int .i64 n)) | _ => none := by
  unfold lenA
  cases P.underlying t with
  | none => rfl
  | some q => cases q <;> rfl
@[simp] theorem len_osl {u z off n : Nat} {o : Nm} : lenA P t (.osl o u z off n) = match P.underlying t with | some (.slice _) => some (.v (.int .i64 n)) | some (.array n _) => some (.v (.int .i64 n)) | _ => none := by
  unfold lenA
  cases P.underlying t with
  | none => rfl
  | some q => cases q <;> rfl
@[simp] theorem len_str {s : ByteArray} : lenA P t (.v (.string s)) = match P.underlying t with | some .string => some (.v (.int .i64 s.size)) | some (.array n _) => some (.v (.int .i64 n)) | _ => none := by
  unfold lenA
  cases P.underlying t with
  | none => rfl
  | some q => cases q <;> rfl
@[simp] theorem len_agg {cs : List A} : lenA P t (.agg cs) = match P.underlying t with | some (.array n _) => some (.v (.int .i64 n)) | _ => none := by
  unfold lenA
  cases P.underlying t with
  | none => rfl
  | some q => cases q <;> rfl
@[simp] theorem len_pob {o : Nm} {u p : Nat} : lenA P t (.pob o u p) = match P.underlying t with | some (.array n _) => some (.v (.int .i64 n)) | _ => none := by
  unfold lenA
  cases P.underlying t with
  | none => rfl
  | some q => cases q <;> rfl
def slS (f : Bool) (xs : List A) : Option (Nat × Nat × Option Nat)→Option Nat→Option A
  | some (l,h,m),some s => if lens s xs = true then some (.sl (fullA m f h xs.length) ((xs.drop l).take (h - l))) else none
  | _,_ => none
@[simp] theorem slS_some {f : Bool} {xs : List A} {l h s : Nat} {m : Option Nat} : slS f xs (some (l,h,m)) (some s) = if lens s xs = true then some (.sl (fullA m f h xs.length) ((xs.drop l).take (h - l))) else none := rfl
@[simp] theorem slS_none {f : Bool} {xs : List A} {s : Option Nat} : slS f xs none s = none := by cases s <;> rfl
@[simp] theorem slice_sl {f : Bool} {xs : List A} {lo hi mx : Option A} : sliceA P t (.sl f xs) lo hi mx = match P.underlying t with | some (.slice e) => slS f xs (boundsA xs.length lo hi mx) (szT P e) | _ => none := by
  unfold sliceA
  cases P.underlying t with
  | none => rfl
  | some q =>
    cases q <;> first
      | rfl
      | (rename_i e; cases boundsA xs.length lo hi mx <;> cases szT P e <;> rfl)
def slO (o : Nm) (u z off : Nat) : Option (Nat × Nat × Option Nat)→Option Nat→Option A
  | some (l,h,_),some s => if s = z then some (.osl o u z (off + l) (h - l)) else none
  | _,_ => none
@[simp] theorem slO_some {o : Nm} {u z off l h s : Nat} {m : Option Nat} : slO o u z off (some (l,h,m)) (some s) = if s = z then some (.osl o u z (off + l) (h - l)) else none := rfl
@[simp] theorem slO_none {o : Nm} {u z off : Nat} {s : Option Nat} : slO o u z off none s = none := by cases s <;> rfl
@[simp] theorem slice_osl {u z off n : Nat} {o : Nm} {lo hi mx : Option A} : sliceA P t (.osl o u z off n) lo hi mx = match P.underlying t with | some (.slice e) => slO o u z off (boundsA n lo hi mx) (szT P e) | _ => none := by
  unfold sliceA
  cases P.underlying t with
  | none => rfl
  | some q =>
    cases q <;> first
      | rfl
      | (rename_i e; cases boundsA n lo hi mx <;> cases szT P e <;> rfl)
def slP (cs : List A) (n : Nat) : Option (Nat × Nat × Option Nat)→Option Nat→Option A
  | some (l,h,m),some s => if s = 1∧n≤cs.length then some (.sl (fullA m true h n) ((cs.drop l).take (h - l))) else none
  | _,_ => none
@[simp] theorem slP_some {cs : List A} {n l h s : Nat} {m : Option Nat} : slP cs n (some (l,h,m)) (some s) = if s = 1∧n≤cs.length then some (.sl (fullA m true h n) ((cs.drop l).take (h - l))) else none := rfl
@[simp] theorem slP_none {cs : List A} {n : Nat} {s : Option Nat} : slP cs n none s = none := by cases s <;> rfl
@[simp] theorem slice_pim {cs : List A} {lo hi mx : Option A} : sliceA P t (.pim cs) lo hi mx = match P.underlying t with | some (.array n e) => slP cs n (boundsA n lo hi mx) (szT P e) | _ => none := by
  unfold sliceA
  cases P.underlying t with
  | none => rfl
  | some q =>
    cases q <;> first
      | rfl
      | (rename_i n e; cases boundsA n lo hi mx <;> cases szT P e <;> rfl)
@[simp] theorem slice_str {s : ByteArray} {lo hi mx : Option A} : sliceA P t (.v (.string s)) lo hi mx = match P.underlying t with | some .string => (match boundsA s.size lo hi mx with | some (l,h,none) => some (.v (.string (s.extract l h))) | _ => none) | _ => none := by
  unfold sliceA
  cases P.underlying t with
  | none => rfl
  | some q => cases q <;> rfl
@[simp] theorem convA_v {r : IntKind} {n : Int} : convA P t u (.v (.int r n)) = match P.underlying t,P.underlying u with | some _,some (.int k) => some (.v (.int k (k.wrap n))) | _,_ => none := by
  unfold convA
  cases P.underlying t with
  | none => rfl
  | some q => cases P.underlying u with
    | none => rfl
    | some d => cases d <;> rfl
@[simp] theorem convA_s {x : ByteArray} : convA P t u (.v (.string x)) = match P.underlying t,P.underlying u with | some _,some .string => some (.v (.string x)) | _,_ => none := by
  unfold convA
  cases P.underlying t with
  | none => rfl
  | some q => cases P.underlying u with
    | none => rfl
    | some d => cases d <;> rfl
def fieldT (P : Program) (s : TypeId) (f : Nat) : Option (TypeId × Nat) := match P.underlying s with
  | some (.struct fs) => (fs[f]?).map fun fd => (fd.type,fd.offset)
  | _ => none
@[simp] theorem field_agg {cs : List A} {f : Nat} : fieldA P t (.agg cs) f = match fieldT P t f with | some (ft,off) => partA P ft cs off | none => none := by
  unfold fieldA fieldT
  cases P.underlying t with
  | none => rfl
  | some q =>
    cases q <;> first
      | rfl
      | (rename_i fs; simp only; cases fs[f]? <;> rfl)
@[simp] theorem src_v0 {s e : Nat} {a : Option Addr} {c : Nat} : srcA P H s e t (.v (.slice a 0 c)) = match P.underlying t with | some (.slice _) => some [] | _ => none := by
  unfold srcA
  cases P.underlying t with
  | none => rfl
  | some q => cases q <;> rfl
def idxOK : Nat→List (Nat × A)→Bool
  | _,[] => true
  | k,(i,_) :: l => i == k && idxOK (k + 1) l
@[simp] theorem idxOK_nil {k : Nat} : idxOK k [] = true := rfl
@[simp] theorem idxOK_cons {k i : Nat} {x : A} {l : List (Nat × A)} : idxOK k ((i,x) :: l) = (i == k && idxOK (k + 1) l) := rfl
theorem idxOK_range : ∀ (l : List (Nat × A)) (k : Nat),idxOK k l = true→l.map (·.1) = List.range' k l.length
  | [],k,_ => rfl
  | (i,x) :: l,k,h => by
    simp only [idxOK_cons,Bool.and_eq_true,beq_iff_eq] at h
    simp only [List.map_cons,List.length_cons,List.range'_succ]
    rw [h.1,idxOK_range l (k + 1) h.2]
def litS (len : Nat) (ps : List (Nat × A)) : Option Nat→Option Value→Option A
  | some s,some z => if idxOK 0 ps = true∧ps.length = len∧len * s≤16777216∧(ofV z).cells.length = s∧A.ones (ofV z).cells = true∧(ps.all fun p => p.2.cells.length == s && A.ones p.2.cells && p.2.cells.all A.bare1) = true then some (.sl true (ps.map (·.2))) else none
  | _,_ => none
@[simp] theorem litS_some {len s : Nat} {z : Value} {ps : List (Nat × A)} : litS len ps (some s) (some z) = if idxOK 0 ps = true∧ps.length = len∧len * s≤16777216∧(ofV z).cells.length = s∧A.ones (ofV z).cells = true∧(ps.all fun p => p.2.cells.length == s && A.ones p.2.cells && p.2.cells.all A.bare1) = true then some (.sl true (ps.map (·.2))) else none := rfl
theorem range_idxOK : ∀ (l : List (Nat × A)) (k : Nat),l.map (·.1) = List.range' k l.length→idxOK k l = true
  | [],k,_ => rfl
  | (i,x) :: l,k,h => by
    simp only [List.map_cons,List.length_cons,List.range'_succ,List.cons.injEq] at h
    simp only [idxOK_cons,Bool.and_eq_true,beq_iff_eq]
    exact ⟨h.1,range_idxOK l (k + 1) h.2⟩
@[simp] theorem buildSlice_eq {len : Nat} {ps : List (Nat × A)} : buildSliceA P t len ps = match P.underlying t with | some (.slice e) => litS len ps (szT P e) (zeroT P e) | _ => none := by
  unfold buildSliceA
  cases P.underlying t with
  | none => rfl
  | some q =>
    cases q <;> try rfl
    rename_i e
    simp only
    cases szT P e with
    | none => rfl
    | some s =>
      cases zeroT P e with
      | none => rfl
      | some z =>
        have he : (ps.map (·.1) = List.range len) ↔ (idxOK 0 ps = true∧ps.length = len) := by
          constructor
          · intro h
            have hl : ps.length = len := by have := congrArg List.length h; simpa using this
            exact ⟨range_idxOK ps 0 (by rw [h,hl,List.range_eq_range']),hl⟩
          · rintro ⟨h1,h2⟩
            rw [idxOK_range _ _ h1,h2,List.range_eq_range']
        simp only [litS_some,he,and_assoc]
def litO (H : Hp) (d : Nm) (e : TypeId) (len : Nat) (ps : List (Nat × A)) : Option Nat→Option Value→Option (A × Eff)
  | some s,some z => if idxOK 0 ps = true∧ps.length = len∧len * s≤16777216∧(ofV z).cells.length = s∧A.ones (ofV z).cells = true∧(ps.all fun p => p.2.cells.length == s && A.ones p.2.cells) = true∧tagOK d e = true then some (.osl d ((H d).u + 1) s 0 len,.one d ⟨(H d).u + 1,.arr s (ps.map (·.2))⟩) else none
  | _,_ => none
@[simp] theorem litO_some {H : Hp} {d : Nm} {e : TypeId} {len s : Nat} {z : Value} {ps : List (Nat × A)} : litO H d e len ps (some s) (some z) = if idxOK 0 ps = true∧ps.length = len∧len * s≤16777216∧(ofV z).cells.length = s∧A.ones (ofV z).cells = true∧(ps.all fun p => p.2.cells.length == s && A.ones p.2.cells) = true∧tagOK d e = true then some (.osl d ((H d).u + 1) s 0 len,.one d ⟨(H d).u + 1,.arr s (ps.map (·.2))⟩) else none := rfl
@[simp] theorem buildSliceO_eq {H : Hp} {d : Nm} {len : Nat} {ps : List (Nat × A)} : buildSliceO P H d t len ps = match P.underlying t with | some (.slice e) => litO H d e len ps (szT P e) (zeroT P e) | _ => none := by
  unfold buildSliceO
  cases P.underlying t with
  | none => rfl
  | some q =>
    cases q <;> try rfl
    rename_i e
    simp only
    cases szT P e with
    | none => rfl
    | some s =>
      cases zeroT P e with
      | none => rfl
      | some z =>
        have he : (ps.map (·.1) = List.range len) ↔ (idxOK 0 ps = true∧ps.length = len) := by
          constructor
          · intro h
            have hl : ps.length = len := by have := congrArg List.length h; simpa using this
            exact ⟨range_idxOK ps 0 (by rw [h,hl,List.range_eq_range']),hl⟩
          · rintro ⟨h1,h2⟩
            rw [idxOK_range _ _ h1,h2,List.range_eq_range']
        simp only [litO_some,he,and_assoc]
@[simp] theorem binA_eql_pim {cs : List A} : binA P .eql t (.pim cs) (.v (.pointer none)) = match P.underlying t with | some (.pointer _) => some (.v (.bool false)) | _ => none := by
  show (eqA P 100 t _ _).map _ = _
  unfold eqA
  cases P.underlying t with
  | none => rfl
  | some q => cases q <;> rfl
@[simp] theorem binA_neq_pim {cs : List A} : binA P .neq t (.pim cs) (.v (.pointer none)) = match P.underlying t with | some (.pointer _) => some (.v (.bool true)) | _ => none := by
  show (eqA P 100 t _ _).map _ = _
  unfold eqA
  cases P.underlying t with
  | none => rfl
  | some q => cases q <;> rfl
@[simp] theorem binA_eql_pob {o : Nm} {v p : Nat} : binA P .eql t (.pob o v p) (.v (.pointer none)) = match P.underlying t with | some (.pointer _) => some (.v (.bool false)) | _ => none := by
  show (eqA P 100 t _ _).map _ = _
  unfold eqA
  cases P.underlying t with
  | none => rfl
  | some q => cases q <;> rfl
@[simp] theorem binA_neq_pob {o : Nm} {v p : Nat} : binA P .neq t (.pob o v p) (.v (.pointer none)) = match P.underlying t with | some (.pointer _) => some (.v (.bool true)) | _ => none := by
  show (eqA P 100 t _ _).map _ = _
  unfold eqA
  cases P.underlying t with
  | none => rfl
  | some q => cases q <;> rfl
@[simp] theorem binA_eql_pel {o : Nm} {v p q' : Nat} : binA P .eql t (.pel o v p q') (.v (.pointer none)) = match P.underlying t with | some (.pointer _) => some (.v (.bool false)) | _ => none := by
  show (eqA P 100 t _ _).map _ = _
  unfold eqA
  cases P.underlying t with
  | none => rfl
  | some q => cases q <;> rfl
@[simp] theorem binA_neq_pel {o : Nm} {v p q' : Nat} : binA P .neq t (.pel o v p q') (.v (.pointer none)) = match P.underlying t with | some (.pointer _) => some (.v (.bool true)) | _ => none := by
  show (eqA P 100 t _ _).map _ = _
  unfold eqA
  cases P.underlying t with
  | none => rfl
  | some q => cases q <;> rfl
@[simp] theorem binA_eql_nil : binA P .eql t (.v (.pointer none)) (.v (.pointer none)) = match P.underlying t with | some (.pointer _) => some (.v (.bool true)) | _ => none := by
  show (eqA P 100 t _ _).map _ = _
  unfold eqA
  cases P.underlying t with
  | none => rfl
  | some q => cases q <;> rfl
@[simp] theorem binA_neq_nil : binA P .neq t (.v (.pointer none)) (.v (.pointer none)) = match P.underlying t with | some (.pointer _) => some (.v (.bool false)) | _ => none := by
  show (eqA P 100 t _ _).map _ = _
  unfold eqA
  cases P.underlying t with
  | none => rfl
  | some q => cases q <;> rfl
@[simp] theorem binA_eql_bool {a b : Bool} : binA P .eql t (.v (.bool a)) (.v (.bool b)) = match P.underlying t with | some .bool => some (.v (.bool (a == b))) | _ => none := by
  show (eqA P 100 t _ _).map _ = _
  unfold eqA
  cases P.underlying t with
  | none => rfl
  | some q => cases q <;> rfl
@[simp] theorem binA_neq_bool {a b : Bool} : binA P .neq t (.v (.bool a)) (.v (.bool b)) = match P.underlying t with | some .bool => some (.v (.bool (!(a == b)))) | _ => none := by
  show (eqA P 100 t _ _).map _ = _
  unfold eqA
  cases P.underlying t with
  | none => rfl
  | some q => cases q <;> rfl
end
def Gt {α : Type} (F : Option α) (K : α→Prop) : Prop := ∃ x,F = some x∧K x
def GtG (q : Bool) (F : Option A) (K : A→Prop) : Prop := ∃ x,(q = true→F = some x)∧K (gd q x)
def Imp (q : Bool) (F : Prop) : Prop := q = true→F
def Cnd (b : Bool) (F G : Prop) : Prop := (b = true→F)∧(b = false→G)
@[congr] theorem Gt_congr {α : Type} {F F' : Option α} {K : α→Prop} (h : F = F') : Gt F K = Gt F' K := by rw [h]
@[congr] theorem GtG_congr {q q' : Bool} {F F' : Option A} {K : A→Prop} (h1 : q = q') (h2 : F = F') : GtG q F K = GtG q' F' K := by rw [h1,h2]
@[congr] theorem Cnd_congr {b b' : Bool} {F G : Prop} (h : b = b') : Cnd b F G = Cnd b' F G := by rw [h]
@[congr] theorem SeqC_congr {P : Program} {K : Sta→Prop} {l : List CO} {lg lg' : Lg} {st st' : Sta} (h0 : lg = lg') (h : st = st') : SeqC P K l lg st = SeqC P K l lg' st' := by rw [h0,h]
@[congr] theorem WPC_congr {c : Cx} {x : CC} {Q : Exit→Sta→Prop} {st st' : Sta} (h : st = st') : WPC c x Q st = WPC c x Q st' := by rw [h]
@[congr] theorem LoopC_congr {c : Cx} {x : CC} {Q : Exit→Sta→Prop} {st st' : Sta} (h : st = st') : LoopC c x Q st = LoopC c x Q st' := by rw [h]
@[congr] theorem ThenC_congr {K : Sta→Prop} {Q : Exit→Sta→Prop} {e e' : Exit} {st st' : Sta} (h0 : e = e') (h : st = st') : ThenC K Q e st = ThenC K Q e' st' := by rw [h0,h]
@[congr] theorem StopK_congr {c : Cx} {K : Sta→Prop} {st st' : Sta} (h : st = st') : StopK c K st = StopK c K st' := by rw [h]
@[congr] theorem InBlock_congr {i : Nat} {Q : Exit→Sta→Prop} {e e' : Exit} {st st' : Sta} (h0 : e = e') (h : st = st') : InBlock i Q e st = InBlock i Q e' st' := by rw [h0,h]
@[congr] theorem NoG_congr {Q : Exit→Sta→Prop} {e e' : Exit} {st st' : Sta} (h0 : e = e') (h : st = st') : NoG Q e st = NoG Q e' st' := by rw [h0,h]
@[simp] theorem Gt_some {α : Type} {x : α} {K : α→Prop} : Gt (some x) K = K x := by simp [Gt]
@[simp] theorem Gt_ite {α : Type} {C : Prop} [Decidable C] {F G : Option α} {K : α→Prop} : Gt (if C then F else G) K = ((C→Gt F K)∧(¬C→Gt G K)) := by
  by_cases h : C <;> simp [h]
@[simp] theorem Gt_none {α : Type} {K : α→Prop} : Gt none K = False := by simp [Gt]
@[simp high] theorem Gt_iteN {α : Type} {C : Prop} [Decidable C] {F : Option α} {K : α→Prop} : Gt (if C then F else none) K = (C∧Gt F K) := by
  by_cases h : C <;> simp [h]
@[simp] theorem GtG_some {q : Bool} {x : A} {K : A→Prop} : GtG q (some x) K = K (gd q x) := by
  apply propext
  constructor
  · rintro ⟨y,h1,h2⟩
    cases q
    · exact h2
    · cases h1 rfl; exact h2
  · exact fun h => ⟨x,fun _ => rfl,h⟩
@[simp high] theorem GtG_iteN {q : Bool} {C : Prop} [Decidable C] {F : Option A} {K : A→Prop} : GtG q (if C then F else none) K = (Imp q C∧GtG q F K) := by
  cases q
  · simp [GtG,Imp]
  · by_cases h : C <;> simp [h,GtG,Imp]
@[simp] theorem GtG_true {F : Option A} {K : A→Prop} : GtG true F K = Gt F K := by simp [GtG,Gt,gd]
@[simp] theorem GtG_false {F : Option A} {K : A→Prop} : GtG false F K = K (.v undef) := by simp [GtG,gd]
@[simp] theorem Imp_true {F : Prop} : Imp true F = F := by simp [Imp]
@[simp] theorem Imp_false {F : Prop} : Imp false F = True := by simp [Imp]
@[simp] theorem Imp_trivial {q : Bool} : Imp q True = True := by simp [Imp]
@[simp] theorem Imp_decide {p : Prop} [Decidable p] {F : Prop} : Imp (decide p) F = (p→F) := by simp [Imp]
@[simp] theorem Cnd_true {F G : Prop} : Cnd true F G = F := by simp [Cnd]
@[simp] theorem Cnd_false {F G : Prop} : Cnd false F G = G := by simp [Cnd]
@[simp] theorem Cnd_decide {p : Prop} [Decidable p] {F G : Prop} : Cnd (decide p) F G = ((p→F)∧(¬p→G)) := by simp [Cnd]
@[simp] theorem Cnd_not {b : Bool} {F G : Prop} : Cnd (!b) F G = Cnd b G F := by cases b <;> simp
@[simp] theorem Cnd_and {a b : Bool} {F G : Prop} : Cnd (a && b) F G = (((a && b) = true→F)∧((a && b) = false→G)) := rfl
@[simp] theorem Cnd_or {a b : Bool} {F G : Prop} : Cnd (a || b) F G = (((a || b) = true→F)∧((a || b) = false→G)) := rfl
@[simp] theorem Cnd_self {b : Bool} {F : Prop} : Cnd b F F = F := by cases b <;> simp
@[simp] theorem gd_true {x : A} : gd true x = x := rfl
@[simp] theorem gd_false {x : A} : gd false x = .v undef := rfl
@[simp] theorem bif_gd {q : Bool} {x y : A} : (bif q then gd q x else y) = bif q then x else y := by cases q <;> rfl
def ng (b : Bool) : Bool := !b
@[simp] theorem ng_true' : ng true = false := rfl
@[simp] theorem ng_false' : ng false = true := rfl
@[simp] theorem ng_true {b : Bool} : (ng b = true) = (b = false) := by cases b <;> simp [ng]
@[simp] theorem ng_false {b : Bool} : (ng b = false) = (b = true) := by cases b <;> simp [ng]
@[simp] theorem ng_not {b : Bool} : ng (!b) = b := by cases b <;> rfl
@[simp] theorem bif_gd_not {q : Bool} {x y : A} : (bif q then x else gd (!q) y) = bif q then x else y := by cases q <;> rfl
@[simp] theorem gd_bif_not {q c : Bool} {x y : A} : gd q (bif c then x else gd (q && !c) y) = gd q (bif c then x else y) := by cases q <;> cases c <;> rfl
@[simp] theorem Imp_ng {b : Bool} {F : Prop} : Imp (ng b) F = (b = false→F) := by cases b <;> simp [Imp]
@[simp] theorem Imp_and {a b : Bool} {F : Prop} : Imp (a && b) F = Imp a (Imp b F) := by cases a <;> cases b <;> simp [Imp]
@[simp] theorem Imp_or {a b : Bool} {F : Prop} : Imp (a || b) F = (Imp a F∧Imp b F) := by cases a <;> cases b <;> simp [Imp]
@[simp] theorem Imp_not {a : Bool} {F : Prop} : Imp (!a) F = (a = false→F) := by cases a <;> simp [Imp]
@[simp] theorem Cnd_ng {b : Bool} {F G : Prop} : Cnd (ng b) F G = Cnd b G F := by cases b <;> simp [Cnd]
@[simp] theorem bif_gd' {q : Bool} {x y : A} : (bif q then x else gd (ng q) y) = bif q then x else y := by cases q <;> rfl
@[simp] theorem wantA_bool {b : Bool} : wantA (.v (.bool b)) true = some b := by cases b <;> rfl
@[simp] theorem wantA_boolf {b : Bool} : wantA (.v (.bool b)) false = some (ng b) := by cases b <;> rfl
@[simp] theorem wantA_undef {f : Bool} : wantA (.v undef) f = some false := rfl
@[simp] theorem wantA_gd {q b : Bool} : wantA (gd q (.v (.bool b))) true = some (q && b) := by cases q <;> cases b <;> rfl
@[simp] theorem wantA_gdf {q b : Bool} : wantA (gd q (.v (.bool b))) false = some (q && ng b) := by cases q <;> cases b <;> rfl
@[simp] theorem gd_bif1 {q c : Bool} {x y : A} : gd q (bif c then gd (q && c) x else y) = gd q (bif c then x else y) := by cases q <;> cases c <;> rfl
@[simp] theorem gd_bif2 {q c : Bool} {x y : A} : gd q (bif c then x else gd (q && ng c) y) = gd q (bif c then x else y) := by cases q <;> cases c <;> rfl
@[simp] theorem gd_gd {q : Bool} {x : A} : gd q (gd q x) = gd q x := by cases q <;> rfl
@[simp] theorem boolA_bool {b : Bool} : boolA (.v (.bool b)) = some b := rfl
@[simp] theorem selA_bool {b : Bool} {x y : A} : selA (.v (.bool b)) x y = some (bif b then x else y) := rfl
@[simp] theorem cond_same {α : Type} {b : Bool} {x : α} : (bif b then x else x) = x := by cases b <;> rfl
section
variable {c : Cx} {Q : Exit→Sta→Prop} {st : Sta} {K : Sta→Prop}
@[simp] theorem wpc_skip : WPC c .skip Q st = Q .normal st := rfl
@[simp] theorem wpc_exit {i : Nat} : WPC c (.exit i) Q st = Q (.exit i) st := rfl
@[simp] theorem wpc_ret : WPC c .ret Q st = Q .ret st := rfl
def KeepK (Q : Exit→Sta→Prop) (live : List Nat) (st : Sta) : Prop := Q .normal (st.keep live)
@[simp] theorem keepK_eq {live : List Nat} : KeepK Q live st = Q .normal (st.keep live) := rfl
@[simp] theorem wpc_reg {ops : List CO} {live : List Nat} : WPC c (.reg ops live) Q st = SeqC c.P (KeepK Q live) ops [] st := rfl
@[simp] theorem wpc_seq {x y : CC} : WPC c (.seq x y) Q st = WPC c x (ThenC (WPC c y Q) Q) st := rfl
@[simp] theorem wpc_block {i : Nat} {x : CC} : WPC c (.block i x) Q st = WPC c x (InBlock i Q) st := rfl
@[simp] theorem wpc_loop {x : CC} : WPC c (.loop x) Q st = LoopC c x Q st := rfl
@[simp] theorem wpc_scope {x : CC} : WPC c (.scope x) Q st = WPC c x (NoG Q) st := rfl
@[simp] theorem noG_normal : NoG Q .normal st = Q .normal st := rfl
@[simp] theorem noG_exit {i : Nat} : NoG Q (.exit i) st = Q (.exit i) st := rfl
@[simp] theorem noG_ret : NoG Q .ret st = Q .ret st := rfl
@[simp] theorem wpc_stop {x : CC} : WPC c (.stop x) Q st = StopK c (WPC c x Q) st := rfl
@[simp] theorem wpc_keep {live : List Nat} {x : CC} : WPC c (.keep live x) Q st = WPC c x Q (st.keep live) := rfl
@[simp] theorem wpc_cond {o : Operand} {x y : CC} : WPC c (.cond o x y) Q st = Gt (boolA (evs st.s o)) fun b => Cnd b (WPC c x Q st) (WPC c y Q st) := by
  apply propext
  constructor
  · rintro ⟨b,h1,h2,h3⟩; exact ⟨b,by rw [h1]; rfl,h2,h3⟩
  · rintro ⟨b,h1,h2,h3⟩; exact ⟨b,boolA_some h1,h2,h3⟩
@[simp] theorem thenC_normal : ThenC K Q .normal st = K st := rfl
@[simp] theorem thenC_exit {i : Nat} : ThenC K Q (.exit i) st = Q (.exit i) st := rfl
@[simp] theorem thenC_ret : ThenC K Q .ret st = Q .ret st := rfl
theorem loopC_once {x x' : CC} (hm : c.P.follows .mixedOrders = true) (he : x = x') (h : WPC c x' (ThenC (LoopC c x Q) Q) st) : LoopC c x Q st := by
  subst he
  exact loopC_round hm h
@[simp] theorem cx_P {P : Program} {w0 : World} {I0 : Nat→Prop} {n : Nat} : (cx P w0 I0 n).P = P := rfl
variable {P : Program} {rs : List ResultVar} {r : A}
@[simp] theorem retC_normal : RetC P rs r .normal st = Gt (resA P st rs) fun r0 => Frz st.H r0 r := rfl
@[simp] theorem retC_ret : RetC P rs r .ret st = Gt (resA P st rs) fun r0 => Frz st.H r0 r := rfl
@[simp] theorem resOne_tmp {t : Nat} : resOne P st (.tmp t) = some (st.s t) := rfl
@[simp] theorem resOne_cell {t : TypeId} {a : Nat} : resOne P st (.cell a t) = loadA P st.H t (st.s a) := rfl
@[simp] theorem resA_one {x : ResultVar} : resA P st [x] = resOne P st x := rfl
@[simp] theorem resA_two {x y : ResultVar} {l : List ResultVar} : resA P st (x :: y :: l) = (resList P st (x :: y :: l)).map .tup := rfl
@[simp] theorem resA_nil : resA P st [] = some (.tup []) := rfl
@[simp] theorem resList_nil : resList P st [] = some [] := rfl
@[simp] theorem resList_cons {x : ResultVar} {l : List ResultVar} : resList P st (x :: l) = match resOne P st x,resList P st l with | some x,some l => some (x :: l) | _,_ => none := rfl
end
section
variable {P : Program} {H : Hp} {t u : TypeId} {q : Bool} {x y z : A} {K : A→Prop}
theorem GtG_same {F F' : Option A} (h : q = true→F = F') : GtG q F K = GtG q F' K := by
  cases q
  · simp
  · rw [h rfl]
@[simp] theorem GtG_binl {op : BinOp} : GtG q (binA P op t (gd q x) y) K = GtG q (binA P op t x y) K := GtG_same fun h => by rw [h]; rfl
@[simp] theorem GtG_binr {op : BinOp} : GtG q (binA P op t x (gd q y)) K = GtG q (binA P op t x y) K := GtG_same fun h => by rw [h]; rfl
@[simp] theorem GtG_un {op : UnOp} : GtG q (unA op (gd q y)) K = GtG q (unA op y) K := GtG_same fun h => by rw [h]; rfl
@[simp] theorem GtG_conv : GtG q (convA P t u (gd q y)) K = GtG q (convA P t u y) K := GtG_same fun h => by rw [h]; rfl
@[simp] theorem GtG_load : GtG q (loadA P H t (gd q y)) K = GtG q (loadA P H t y) K := GtG_same fun h => by rw [h]; rfl
@[simp] theorem GtG_fieldAddr {i : Nat} : GtG q (fieldAddrA P t (gd q y) i) K = GtG q (fieldAddrA P t y i) K := GtG_same fun h => by rw [h]; rfl
@[simp] theorem GtG_indexAddrl : GtG q (indexAddrA P t (gd q x) y) K = GtG q (indexAddrA P t x y) K := GtG_same fun h => by rw [h]; rfl
@[simp] theorem GtG_indexAddrr : GtG q (indexAddrA P t x (gd q y)) K = GtG q (indexAddrA P t x y) K := GtG_same fun h => by rw [h]; rfl
@[simp] theorem GtG_len : GtG q (lenA P t (gd q y)) K = GtG q (lenA P t y) K := GtG_same fun h => by rw [h]; rfl
@[simp] theorem GtG_sel : GtG q (selA (gd q z) x y) K = GtG q (selA z x y) K := GtG_same fun h => by rw [h]; rfl
def GB (P : Program) (q : Bool) (t : TypeId) (acc l : List (Nat × A)) (K : A→Prop) : Prop := GtG q (buildA P t (acc ++ l)) K
@[congr] theorem GB_congr {q' : Bool} {acc l l' : List (Nat × A)} (h0 : q = q') (h : l = l') : GB P q t acc l K = GB P q' t acc l' K := by rw [h0,h]
@[simp] theorem GB_nil {acc : List (Nat × A)} : GB P q t acc [] K = GtG q (buildA P t acc) K := by simp [GB]
theorem GB_keep {acc l : List (Nat × A)} {i : Nat} : GB P q t acc ((i,x) :: l) K = GB P q t (acc ++ [(i,x)]) l K := by simp [GB]
@[simp] theorem GB_gd {acc l : List (Nat × A)} {i : Nat} : GB P q t acc ((i,gd q x) :: l) K = GB P q t (acc ++ [(i,x)]) l K := by
  rw [← GB_keep]
  exact GtG_same fun h => by rw [h]; rfl
@[simp] theorem GB_v {acc l : List (Nat × A)} {i : Nat} {a : Value} : GB P q t acc ((i,.v a) :: l) K = GB P q t (acc ++ [(i,.v a)]) l K := GB_keep
@[simp] theorem GB_sl {acc l : List (Nat × A)} {i : Nat} {b : Bool} {xs : List A} : GB P q t acc ((i,.sl b xs) :: l) K = GB P q t (acc ++ [(i,.sl b xs)]) l K := GB_keep
@[simp] theorem GB_osl {acc l : List (Nat × A)} {i u z m n : Nat} {o : Nm} : GB P q t acc ((i,.osl o u z m n) :: l) K = GB P q t (acc ++ [(i,.osl o u z m n)]) l K := GB_keep
@[simp] theorem GB_pob {acc l : List (Nat × A)} {i u m : Nat} {o : Nm} : GB P q t acc ((i,.pob o u m) :: l) K = GB P q t (acc ++ [(i,.pob o u m)]) l K := GB_keep
@[simp] theorem GB_pim {acc l : List (Nat × A)} {i : Nat} {xs : List A} : GB P q t acc ((i,.pim xs) :: l) K = GB P q t (acc ++ [(i,.pim xs)]) l K := GB_keep
@[simp] theorem GB_agg {acc l : List (Nat × A)} {i : Nat} {xs : List A} : GB P q t acc ((i,.agg xs) :: l) K = GB P q t (acc ++ [(i,.agg xs)]) l K := GB_keep
@[simp] theorem GtG_extract {i : Nat} : GtG q (extractA (gd q y) i) K = GtG q (extractA y i) K := GtG_same fun h => by rw [h]; rfl
end
section
variable {P : Program} {H : Hp} {t u : TypeId}
@[simp] theorem binA_int {op : BinOp} {q r : IntKind} {a b : Int} : binA P op t (.v (.int q a)) (.v (.int r b)) = intA op q r a b := rfl
@[simp] theorem binA_str {op : BinOp} {a b : ByteArray} : binA P op t (.v (.string a)) (.v (.string b)) = strA op a b := rfl
@[simp] theorem binA_eq_agg {xs ys : List A} : binA P .eql t (.agg xs) (.agg ys) = if P.eqGuardType P.depth t = false then (eqA P 100 t (.agg xs) (.agg ys)).map fun b => .v (.bool b) else none := rfl
@[simp] theorem binA_ne_agg {xs ys : List A} : binA P .neq t (.agg xs) (.agg ys) = if P.eqGuardType P.depth t = false then (eqA P 100 t (.agg xs) (.agg ys)).map fun b => .v (.bool (!b)) else none := rfl
@[simp] theorem intA_shl {q r : IntKind} {a b : Int} : intA .shl q r a b = if 0≤b then some (.v (.int q (q.wrap (a * 2 ^ (min b.toNat q.bits))))) else none := rfl
@[simp] theorem intA_shr {q r : IntKind} {a b : Int} : intA .shr q r a b = if 0≤b then some (.v (.int q (a / 2 ^ (min b.toNat q.bits)))) else none := rfl
@[simp] theorem intA_add {q : IntKind} {a b : Int} : intA .add q q a b = some (.v (.int q (q.wrap (a + b)))) := by simp [intA]
@[simp] theorem intA_sub {q : IntKind} {a b : Int} : intA .sub q q a b = some (.v (.int q (q.wrap (a - b)))) := by simp [intA]
@[simp] theorem intA_mul {q : IntKind} {a b : Int} : intA .mul q q a b = some (.v (.int q (q.wrap (a * b)))) := by simp [intA]
@[simp] theorem intA_quo {q : IntKind} {a b : Int} : intA .quo q q a b = if b = 0 then none else some (.v (.int q (q.wrap (a.tdiv b)))) := by simp [intA]
@[simp] theorem intA_rem {q : IntKind} {a b : Int} : intA .rem q q a b = if b = 0 then none else some (.v (.int q (a.tmod b))) := by simp [intA]
@[simp] theorem intA_and {q : IntKind} {a b : Int} : intA .and q q a b = some (.v (.int q (bits .and q a b))) := by simp [intA]
@[simp] theorem intA_or {q : IntKind} {a b : Int} : intA .or q q a b = some (.v (.int q (bits .or q a b))) := by simp [intA]
@[simp] theorem intA_xor {q : IntKind} {a b : Int} : intA .xor q q a b = some (.v (.int q (bits .xor q a b))) := by simp [intA]
@[simp] theorem intA_andNot {q : IntKind} {a b : Int} : intA .andNot q q a b = some (.v (.int q (bits .andNot q a b))) := by simp [intA]
@[simp] theorem intA_eql {q : IntKind} {a b : Int} : intA .eql q q a b = some (.v (.bool (decide (a = b)))) := by simp [intA]; rfl
@[simp] theorem intA_neq {q : IntKind} {a b : Int} : intA .neq q q a b = some (.v (.bool (!decide (a = b)))) := by simp [intA]; rfl
@[simp] theorem intA_lss {q : IntKind} {a b : Int} : intA .lss q q a b = some (.v (.bool (decide (a < b)))) := by simp [intA]
@[simp] theorem intA_leq {q : IntKind} {a b : Int} : intA .leq q q a b = some (.v (.bool (decide (a≤b)))) := by simp [intA]
@[simp] theorem intA_gtr {q : IntKind} {a b : Int} : intA .gtr q q a b = some (.v (.bool (decide (b < a)))) := by simp [intA]
@[simp] theorem intA_geq {q : IntKind} {a b : Int} : intA .geq q q a b = some (.v (.bool (decide (b≤a)))) := by simp [intA]
@[simp] theorem unA_not {b : Bool} : unA .not (.v (.bool b)) = some (.v (.bool (!b))) := rfl
@[simp] theorem unA_neg {q : IntKind} {n : Int} : unA .neg (.v (.int q n)) = some (.v (.int q (q.wrap (0 - n)))) := rfl
theorem convA_int {u : TypeId} {d : TypeDesc} {q r : IntKind} {n : Int} (h1 : P.underlying t = some d) (h2 : P.underlying u = some (.int q)) : convA P t u (.v (.int r n)) = some (.v (.int q (q.wrap n))) := by unfold convA; rw [h1,h2]
@[simp] theorem load_pim {cs : List A} : loadA P H t (.pim cs) = match aggT P t,szT P t with | some g,some sz => pickA g sz cs | _,_ => none := rfl
@[simp] theorem pick_agg {sz : Nat} {cs : List A} : pickA true sz cs = if sz≤cs.length then some (.agg (cs.take sz)) else none := rfl
@[simp] theorem pick_cell {sz : Nat} {cs : List A} : pickA false sz cs = cs[0]? := rfl
@[simp] theorem isNilC_tmp {n : Nat} : isNilC (.tmp n) = false := rfl
@[simp] theorem isNilC_int {k : IntKind} {n : Int} : isNilC (.const (.int k n)) = false := rfl
@[simp] theorem isNilC_bool {n : Bool} : isNilC (.const (.bool n)) = false := rfl
@[simp] theorem isNilC_str {n : ByteArray} : isNilC (.const (.string n)) = false := rfl
@[simp] theorem isNilC_ptr {n : Option Addr} : isNilC (.const (.pointer n)) = false := rfl
@[simp] theorem isNilC_agg {n : Array Value} : isNilC (.const (.agg n)) = false := rfl
@[simp] theorem isNilC_ifc : isNilC (.const .nilIface) = false := rfl
@[simp] theorem isNilC_nil : isNilC (.const (.slice none 0 0)) = true := rfl
@[simp] theorem nilBin_eq {x : A} : nilBin P .eql t x = match P.underlying t with | some (.slice _) => (nilA x).map fun b => .v (.bool b) | _ => none := by
  unfold nilBin
  cases P.underlying t with
  | none => rfl
  | some d => cases d <;> rfl
@[simp] theorem nilBin_ne {x : A} : nilBin P .neq t x = match P.underlying t with | some (.slice _) => (nilA x).map fun b => .v (.bool (!b)) | _ => none := by
  unfold nilBin
  cases P.underlying t with
  | none => rfl
  | some d => cases d <;> rfl
@[simp] theorem nilA_cons {f : Bool} {x : A} {xs : List A} : nilA (.sl f (x :: xs)) = some false := rfl
@[simp] theorem nilA_v {a : Option Addr} {n c : Nat} : nilA (.v (.slice a n c)) = some a.isNone := rfl
@[simp] theorem bounds_lh {len : Nat} {lo hi : Option A} : boundsA len lo hi none = match boundA hi len len with | some h => (match boundA lo 0 h with | some l => some (l,h,none) | none => none) | none => none := rfl
@[simp] theorem bound_none {d n : Nat} : boundA none d n = some d := rfl
@[simp] theorem bound_int {k : IntKind} {i : Int} {d n : Nat} : boundA (some (.v (.int k i))) d n = if 0≤i∧i≤n then some i.toNat else none := rfl
@[simp] theorem fullA_none {f : Bool} {h n : Nat} : fullA none f h n = (f && h == n) := rfl
@[simp] theorem fullA_some {f : Bool} {h n m : Nat} : fullA (some m) f h n = (m == h) := rfl
@[simp] theorem shift_pim {n : Nat} {cs : List A} : A.shift n (.pim cs) = some (.pim (cs.drop n)) := rfl
@[simp] theorem shift_pob {n u p : Nat} {o : Nm} : A.shift n (.pob o u p) = some (.pob o u (p + n)) := rfl
@[simp] theorem shift_pel {n u p q : Nat} {o : Nm} : A.shift n (.pel o u p q) = some (.pel o u p (q + n)) := rfl
@[simp] theorem fieldAddr_eq {a : A} {i : Nat} : fieldAddrA P t a i = (fieldOffT P t i).bind a.shift := rfl
@[simp] theorem extract_tup {xs : List A} {i : Nat} : extractA (.tup xs) i = xs[i]? := rfl
@[simp] theorem splice_succ {c : A} {cs news : List A} {n : Nat} : splice (c :: cs) (n + 1) news = c :: splice cs n news := by simp [splice,Nat.add_right_comm]
@[simp] theorem splice_zero {cs news : List A} : splice cs 0 news = news ++ cs.drop news.length := by simp [splice]
end
section
variable {P : Program} {s : Nat→A} {H : Hp}
@[simp] theorem put_some {d : Nat} {x : A} {H' : Hp} : Sta.put ⟨s,H⟩ (some d) x H' = ⟨upd s d x,H'⟩ := rfl
@[simp] theorem put_none {x : A} {H' : Hp} : Sta.put ⟨s,H⟩ none x H' = ⟨s,H'⟩ := rfl
@[simp] theorem upd_at {d t : Nat} {x : A} : upd s d x t = if t = d then x else s t := rfl
@[simp] theorem lk_nil {t : Nat} : lk [] t = .any := rfl
@[simp] theorem lk_cons {d t : Nat} {x : A} {l : List (Nat × A)} : lk ((d,x) :: l) t = if d = t then x else lk l t := rfl
@[simp] theorem argS_at {args : List A} {t : Nat} : argS args t = (args[t]?).getD .any := rfl
@[simp] theorem evs_tmp {t : Nat} : evs s (.tmp t) = s t := rfl
@[simp] theorem evs_const {x : Value} : evs s (.const x) = ofV x := rfl
@[simp] theorem evs_func {g : FuncId} : evs s (.func g) = .fnc g [] [] := rfl
@[simp] theorem keep_eq {live : List Nat} : Sta.keep ⟨s,H⟩ live = ⟨lk (live.map fun k => (k,s k)),H⟩ := rfl
@[simp] theorem ofV_int {q : IntKind} {n : Int} : ofV (.int q n) = .v (.int q n) := rfl
@[simp] theorem ofV_bool {b : Bool} : ofV (.bool b) = .v (.bool b) := rfl
@[simp] theorem ofV_string {b : ByteArray} : ofV (.string b) = .v (.string b) := rfl
@[simp] theorem ofV_pointer {b : Option Addr} : ofV (.pointer b) = .v (.pointer b) := rfl
@[simp] theorem ofV_nil : ofV (.slice none 0 0) = .sl true [] := rfl
@[simp] theorem ofV_agg {cs : Array Value} : ofV (.agg cs) = .agg (cs.toList.map ofV1) := rfl
@[simp] theorem ofV1_int {q : IntKind} {n : Int} : ofV1 (.int q n) = .v (.int q n) := rfl
@[simp] theorem ofV1_bool {b : Bool} : ofV1 (.bool b) = .v (.bool b) := rfl
@[simp] theorem ofV1_string {b : ByteArray} : ofV1 (.string b) = .v (.string b) := rfl
@[simp] theorem ofV1_pointer {b : Option Addr} : ofV1 (.pointer b) = .v (.pointer b) := rfl
@[simp] theorem ofV1_nil : ofV1 (.slice none 0 0) = .sl true [] := rfl
@[simp] theorem cells_agg {cs : List A} : (A.agg cs).cells = cs := rfl
@[simp] theorem cells_v {x : Value} : (A.v x).cells = [.v x] := rfl
@[simp] theorem cells_sl {b : Bool} {xs : List A} : (A.sl b xs).cells = [.sl b xs] := rfl
@[simp] theorem cells_osl {o : Nm} {u z p q : Nat} : (A.osl o u z p q).cells = [.osl o u z p q] := rfl
@[simp] theorem cells_pim {cs : List A} : (A.pim cs).cells = [.pim cs] := rfl
@[simp] theorem cells_pob {o : Nm} {u p : Nat} : (A.pob o u p).cells = [.pob o u p] := rfl
@[simp] theorem ones_nil : A.ones [] = true := rfl
@[simp] theorem ones_cons {a : A} {l : List A} : A.ones (a :: l) = (a.one && A.ones l) := by simp [A.ones]
@[simp] theorem one_int {q : IntKind} {n : Int} : (A.v (.int q n)).one = true := rfl
@[simp] theorem one_bool {b : Bool} : (A.v (.bool b)).one = true := rfl
@[simp] theorem one_string {b : ByteArray} : (A.v (.string b)).one = true := rfl
@[simp] theorem one_pointer {b : Option Addr} : (A.v (.pointer b)).one = true := rfl
@[simp] theorem one_sl {b : Bool} {xs : List A} : (A.sl b xs).one = true := rfl
@[simp] theorem one_osl {o : Nm} {u z p q : Nat} : (A.osl o u z p q).one = true := rfl
@[simp] theorem one_pim {cs : List A} : (A.pim cs).one = true := rfl
@[simp] theorem one_pob {o : Nm} {u p : Nat} : (A.pob o u p).one = true := rfl
@[simp] theorem isPtr_pim {cs : List A} : (A.pim cs).isPtr = true := rfl
@[simp] theorem isPtr_pob {o : Nm} {u p : Nat} : (A.pob o u p).isPtr = true := rfl
@[simp] theorem isPtr_pel {o : Nm} {u p q : Nat} : (A.pel o u p q).isPtr = true := rfl
@[simp] theorem isPtr_v {x : Value} : (A.v x).isPtr = false := rfl
@[simp] theorem bare1_v {x : Value} : (A.v x).bare1 = true := rfl
@[simp] theorem bare1_sl {b : Bool} {xs : List A} : (A.sl b xs).bare1 = true := rfl
@[simp] theorem bare1_pim {cs : List A} : (A.pim cs).bare1 = true := rfl
@[simp] theorem bare1_any : (A.any).bare1 = true := rfl
@[simp] theorem bare1_osl {o : Nm} {u z p q : Nat} : (A.osl o u z p q).bare1 = false := rfl
@[simp] theorem bare1_pob {o : Nm} {u p : Nat} : (A.pob o u p).bare1 = false := rfl
@[simp] theorem bare_v {x : Value} : (A.v x).bare = true := rfl
@[simp] theorem bare_sl {b : Bool} {xs : List A} : (A.sl b xs).bare = true := rfl
@[simp] theorem bare_pim {cs : List A} : (A.pim cs).bare = true := rfl
@[simp] theorem bare_osl {o : Nm} {u z p q : Nat} : (A.osl o u z p q).bare = false := rfl
@[simp] theorem bare_pob {o : Nm} {u p : Nat} : (A.pob o u p).bare = false := rfl
@[simp] theorem bare_agg {cs : List A} : (A.agg cs).bare = cs.all A.bare2 := rfl
@[simp] theorem bare2_v {x : Value} : (A.v x).bare2 = true := rfl
@[simp] theorem bare2_sl {b : Bool} {xs : List A} : (A.sl b xs).bare2 = true := rfl
@[simp] theorem bare2_pim {cs : List A} : (A.pim cs).bare2 = true := rfl
@[simp] theorem bare2_any : (A.any).bare2 = true := rfl
@[simp] theorem bare_fnc {g : FuncId} {fs cs : List A} : (A.fnc g fs cs).bare = (fs.all A.bare1 && cs.all A.bare1) := rfl
@[simp] theorem bare2_fnc {g : FuncId} {fs cs : List A} : (A.fnc g fs cs).bare2 = (fs.all A.bare1 && cs.all A.bare1) := rfl
@[simp] theorem cells_fnc {g : FuncId} {fs cs : List A} : (A.fnc g fs cs).cells = [.fnc g fs cs] := rfl
@[simp] theorem one_fnc {g : FuncId} {fs cs : List A} : (A.fnc g fs cs).one = true := rfl
@[simp] theorem flat_v {x : Value} : (A.v x).flat = true := rfl
@[simp] theorem lens_nil {n : Nat} : lens n [] = true := rfl
@[simp] theorem lens_cons {n : Nat} {x : A} {l : List A} : lens n (x :: l) = (x.cells.length == n && lens n l) := rfl
@[simp] theorem lens_append {n : Nat} {l l' : List A} : lens n (l ++ l') = (lens n l && lens n l') := by simp [lens]
@[simp] theorem fillA_nil {pl : Nat→Option (Nat × Nat)} {cs : List A} : fillA pl cs [] = some cs := rfl
@[simp] theorem fillA_cons {pl : Nat→Option (Nat × Nat)} {cs : List A} {i : Nat} {x : A} {ps : List (Nat × A)} : fillA pl cs ((i,x) :: ps) = match pl i with
    | none => none
    | some (off,size) => if x.cells.length = size∧off + size≤cs.length∧A.ones x.cells = true then fillA pl (splice cs off x.cells) ps else none := rfl
def lkH : List (Nm × VOb)→Hp
  | [],_ => ⟨0,.none⟩
  | (k,x) :: l,o => if k = o then x else lkH l o
def setH : List (Nm × VOb)→Nm→VOb→List (Nm × VOb)
  | [],d,x => [(d,x)]
  | (k,y) :: l,d,x => if k = d then (k,x) :: l else (k,y) :: setH l d x
@[simp] theorem H0_eq : H0 = lkH [] := rfl
@[simp] theorem lkH_nil {o : Nm} : lkH [] o = ⟨0,.none⟩ := rfl
@[simp] theorem lkH_cons {k o : Nm} {x : VOb} {l : List (Nm × VOb)} : lkH ((k,x) :: l) o = if k = o then x else lkH l o := rfl
@[simp] theorem setH_nil {d : Nm} {x : VOb} : setH [] d x = [(d,x)] := rfl
@[simp] theorem setH_cons {k d : Nm} {x y : VOb} {l : List (Nm × VOb)} : setH ((k,y) :: l) d x = if k = d then (k,x) :: l else (k,y) :: setH l d x := rfl
@[simp] theorem updF_lkH {l : List (Nm × VOb)} {d : Nm} {x : VOb} : updF (lkH l) d x = lkH (setH l d x) := by
  funext o
  induction l with
  | nil =>
    simp only [updF,setH_nil,lkH_cons,lkH_nil]
    by_cases h : o = d
    · subst h; simp
    · simp [h,Ne.symm h]
  | cons p l ih =>
    obtain ⟨k,y⟩ := p
    simp only [setH_cons]
    by_cases hk : k = d
    · subst hk
      simp only [if_pos,lkH_cons,updF]
      by_cases h : o = k
      · subst h; simp
      · simp [h,Ne.symm h]
    · rw [if_neg hk,lkH_cons,← ih]
      simp only [updF,lkH_cons]
      by_cases h : o = d
      · subst h; simp [hk]
      · simp [h]
@[simp] theorem refs_pob {o : Nm} {u p : Nat} : refs (.pob o u p) = [(o,false)] := rfl
@[simp] theorem refs_pel {o : Nm} {u p q : Nat} : refs (.pel o u p q) = [(o,false)] := rfl
@[simp] theorem refs_osl {o : Nm} {u z p q : Nat} : refs (.osl o u z p q) = [(o,false)] := rfl
@[simp] theorem refs_v {x : Value} : refs (.v x) = [] := rfl
@[simp] theorem refs_sl {f : Bool} {xs : List A} : refs (.sl f xs) = [] := rfl
@[simp] theorem refs_pim {xs : List A} : refs (.pim xs) = [] := rfl
@[simp] theorem refs_agg {xs : List A} : refs (.agg xs) = [] := rfl
@[simp] theorem wrA_osl {d o : Nm} {u z p q : Nat} : wrA d (.osl o u z p q) = [(o,false)] := rfl
@[simp] theorem wrA_sl {d : Nm} {f : Bool} {xs : List A} : wrA d (.sl f xs) = [(d,false)] := rfl
@[simp] theorem nc_eq {R W R' W' : Fp} : nc ⟨R,W⟩ ⟨R',W'⟩ = (dis W (R' ++ W') && dis W' (R ++ W)) := rfl
@[simp] theorem dis_nil {l : Fp} : dis [] l = true := rfl
@[simp] theorem dis_cons {p : Nm × Bool} {l m : Fp} : dis (p :: l) m = ((m.all fun q => dis1 p q) && dis l m) := rfl
@[simp] theorem dis1_eq {p q : Nm} {a b : Bool} : dis1 (p,a) (q,b) = match a,b with
  | false,false => p != q
  | true,false => !p.isPrefixOf q
  | false,true => !q.isPrefixOf p
  | true,true => !p.isPrefixOf q && !q.isPrefixOf p := rfl
end
section
variable {P : Program} {K : Sta→Prop} {rest : List CO} {s : Nat→A} {H : Hp} {dd : Option Nat} {k : Nat} {f : Bool} {nm : Nm} {ix : Nat} {un : List Nat} {l : Bool} {lg : Lg}
@[simp] theorem sc_nil' {st : Sta} : SeqC P K [] lg st = K st := rfl
@[simp] theorem addL_false {i : Nat} {g : Ft} : addL false i g lg = lg := rfl
@[simp] theorem addL_true {i : Nat} {g : Ft} : addL true i g lg = (i,g) :: lg := rfl
@[simp] theorem ck_nil {g : Ft} : Ck [] lg g = True := by simp [Ck]
@[simp] theorem ck_nil' {g : Ft} : Ck un [] g = True := by simp [Ck]
@[simp] theorem ck_cons {i : Nat} {g h : Ft} : Ck un ((i,g) :: lg) h = ((i ∈ un→nc g h = true)∧Ck un lg h) := by simp [Ck]
theorem ck_pure : Ck un lg ⟨[],[]⟩ := fun p _ _ => by simp [nc,dis_nil_left,dis_nil_right]
def fg (q : Bool) (g : Ft) : Ft := ⟨bif q then g.R else [],bif q then g.W else []⟩
@[simp] theorem fg_true {g : Ft} : fg true g = g := rfl
@[simp] theorem fg_false {g : Ft} : fg false g = ⟨[],[]⟩ := rfl
theorem sc_fun {op : Op} {F : Option A} (hF : ∀ x E R W,OpR P nm op (evs s) H x E R W ↔ Pur F x E R W) :
    SeqC P K (⟨dd,op,none,nm,ix,un,l⟩ :: rest) lg ⟨s,H⟩ = Gt F fun x => SeqC P K rest (addL l ix ⟨[],[]⟩ lg) (Sta.put ⟨s,H⟩ dd x H) := by
  apply propext
  constructor
  · rintro ⟨x,E,⟨R,W⟩,h1,h2,h3⟩
    obtain ⟨h4,rfl,h5,h6⟩ := (hF x E R W).1 h1
    subst h5 h6
    exact ⟨x,h4,h3⟩
  · rintro ⟨x,h1,h2⟩
    exact ⟨x,.nil,⟨[],[]⟩,(hF _ _ _ _).2 ⟨h1,rfl,rfl,rfl⟩,ck_pure,h2⟩
theorem sc_fun_g {op : Op} {F : Option A} (hF : ∀ x E R W,OpR P nm op (evs s) H x E R W ↔ Pur F x E R W) :
    SeqC P K (⟨dd,op,some (k,f),nm,ix,un,l⟩ :: rest) lg ⟨s,H⟩ = Gt (wantA (s k) f) fun q => GtG q F fun x => SeqC P K rest (addL l ix ⟨[],[]⟩ lg) (Sta.put ⟨s,H⟩ dd x H) := by
  apply propext
  constructor
  · rintro ⟨x,E,⟨R,W⟩,⟨q,x0,h1,h2,rfl,h4⟩,h5,h6⟩
    refine ⟨q,h1,x0,fun hq => ((hF _ _ _ _).1 (h2 hq)).1,?_⟩
    have : E = .nil∧R = []∧W = [] := by
      cases hq : q with
      | true => exact ((hF _ _ _ _).1 (h2 hq)).2
      | false => exact h4 hq
    obtain ⟨rfl,h7,h8⟩ := this
    subst h7 h8
    exact h6
  · rintro ⟨q,h1,x0,h2,h3⟩
    exact ⟨_,.nil,⟨[],[]⟩,⟨q,x0,h1,fun hq => (hF _ _ _ _).2 ⟨h2 hq,rfl,rfl,rfl⟩,rfl,fun _ => ⟨rfl,rfl,rfl⟩⟩,ck_pure,h3⟩
theorem sc_eff {op : Op} {F : Option (A × Eff)} {R W : Fp} (hF : ∀ x E R' W',OpR P nm op (evs s) H x E R' W' ↔ F = some (x,E)∧R' = R∧W' = W) :
    SeqC P K (⟨dd,op,none,nm,ix,un,l⟩ :: rest) lg ⟨s,H⟩ = Gt F fun p => Ck un lg ⟨R,W⟩∧SeqC P K rest (addL l ix ⟨R,W⟩ lg) (Sta.put ⟨s,H⟩ dd p.1 (p.2.app H)) := by
  apply propext
  constructor
  · rintro ⟨x,E,⟨R',W'⟩,h1,h2,h3⟩
    obtain ⟨h4,h5,h6⟩ := (hF x E R' W').1 h1
    subst h5 h6
    exact ⟨(x,E),h4,h2,h3⟩
  · rintro ⟨⟨x,E⟩,h1,h2,h3⟩
    exact ⟨x,E,⟨R,W⟩,(hF _ _ _ _).2 ⟨h1,rfl,rfl⟩,h2,h3⟩
theorem sc_guard {op : Op} : SeqC P K (⟨dd,op,some (k,f),nm,ix,un,l⟩ :: rest) lg ⟨s,H⟩ = Gt (wantA (s k) f) fun q => Cnd q (SeqC P K (⟨dd,op,none,nm,ix,un,l⟩ :: rest) lg ⟨s,H⟩) (SeqC P K rest (addL l ix ⟨[],[]⟩ lg) (Sta.put ⟨s,H⟩ dd (.v undef) H)) := by
  apply propext
  constructor
  · rintro ⟨x,E,⟨R,W⟩,⟨q,x0,h1,h2,rfl,h4⟩,h5,h6⟩
    refine ⟨q,h1,fun hq => ⟨x0,E,⟨R,W⟩,h2 hq,h5,?_⟩,fun hq => ?_⟩
    · subst hq; exact h6
    · subst hq
      obtain ⟨rfl,h7,h8⟩ := h4 rfl
      subst h7 h8
      exact h6
  · rintro ⟨q,h1,h2,h3⟩
    cases q with
    | true =>
      obtain ⟨x,E,g,h4,h5,h6⟩ := h2 rfl
      exact ⟨x,E,g,⟨true,x,h1,fun _ => h4,rfl,(fun h => nomatch h)⟩,h5,h6⟩
    | false => exact ⟨_,.nil,⟨[],[]⟩,⟨false,.any,h1,(fun h => nomatch h),rfl,fun _ => ⟨rfl,rfl,rfl⟩⟩,ck_pure,h3 rfl⟩
section
variable {a b : Operand} {t : TypeId}
@[simp] theorem sc_move : SeqC P K (⟨dd,.move a,none,nm,ix,un,l⟩ :: rest) lg ⟨s,H⟩ = SeqC P K rest (addL l ix ⟨[],[]⟩ lg) (Sta.put ⟨s,H⟩ dd (evs s a) H) := by
  rw [sc_fun (F := some (evs s a)) (fun _ _ _ _ => Iff.rfl)]; simp
@[simp] theorem sc_assign : SeqC P K (⟨dd,.assign a,none,nm,ix,un,l⟩ :: rest) lg ⟨s,H⟩ = SeqC P K rest (addL l ix ⟨[],[]⟩ lg) (Sta.put ⟨s,H⟩ dd (evs s a) H) := by
  rw [sc_fun (F := some (evs s a)) (fun _ _ _ _ => Iff.rfl)]; simp
@[simp] theorem sc_move_g : SeqC P K (⟨dd,.move a,some (k,f),nm,ix,un,l⟩ :: rest) lg ⟨s,H⟩ = Gt (wantA (s k) f) fun q => SeqC P K rest (addL l ix ⟨[],[]⟩ lg) (Sta.put ⟨s,H⟩ dd (gd q (evs s a)) H) := by
  rw [sc_fun_g (F := some (evs s a)) (fun _ _ _ _ => Iff.rfl)]; simp
@[simp] theorem sc_bin {op : BinOp} {u : TypeId} : SeqC P K (⟨dd,.binOp op t a b u,none,nm,ix,un,l⟩ :: rest) lg ⟨s,H⟩ = Gt (if isNilC b = true then nilBin P op t (evs s a) else binA P op t (evs s a) (evs s b)) fun x => SeqC P K rest (addL l ix ⟨[],[]⟩ lg) (Sta.put ⟨s,H⟩ dd x H) := sc_fun fun _ _ _ _ => Iff.rfl
@[simp] theorem sc_bin_g {op : BinOp} {u : TypeId} : SeqC P K (⟨dd,.binOp op t a b u,some (k,f),nm,ix,un,l⟩ :: rest) lg ⟨s,H⟩ = Gt (wantA (s k) f) fun q => GtG q (if isNilC b = true then nilBin P op t (evs s a) else binA P op t (evs s a) (evs s b)) fun x => SeqC P K rest (addL l ix ⟨[],[]⟩ lg) (Sta.put ⟨s,H⟩ dd x H) := sc_fun_g fun _ _ _ _ => Iff.rfl
@[simp] theorem sc_un {op : UnOp} : SeqC P K (⟨dd,.unOp op t a,none,nm,ix,un,l⟩ :: rest) lg ⟨s,H⟩ = Gt (unA op (evs s a)) fun x => SeqC P K rest (addL l ix ⟨[],[]⟩ lg) (Sta.put ⟨s,H⟩ dd x H) := sc_fun fun _ _ _ _ => Iff.rfl
@[simp] theorem sc_un_g {op : UnOp} : SeqC P K (⟨dd,.unOp op t a,some (k,f),nm,ix,un,l⟩ :: rest) lg ⟨s,H⟩ = Gt (wantA (s k) f) fun q => GtG q (unA op (evs s a)) fun x => SeqC P K rest (addL l ix ⟨[],[]⟩ lg) (Sta.put ⟨s,H⟩ dd x H) := sc_fun_g fun _ _ _ _ => Iff.rfl
@[simp] theorem sc_conv {u : TypeId} : SeqC P K (⟨dd,.convert t u a,none,nm,ix,un,l⟩ :: rest) lg ⟨s,H⟩ = Gt (convA P t u (evs s a)) fun x => SeqC P K rest (addL l ix ⟨[],[]⟩ lg) (Sta.put ⟨s,H⟩ dd x H) := sc_fun fun _ _ _ _ => Iff.rfl
@[simp] theorem sc_conv_g {u : TypeId} : SeqC P K (⟨dd,.convert t u a,some (k,f),nm,ix,un,l⟩ :: rest) lg ⟨s,H⟩ = Gt (wantA (s k) f) fun q => GtG q (convA P t u (evs s a)) fun x => SeqC P K rest (addL l ix ⟨[],[]⟩ lg) (Sta.put ⟨s,H⟩ dd x H) := sc_fun_g fun _ _ _ _ => Iff.rfl
@[simp] theorem sc_fieldAddr {i : Nat} : SeqC P K (⟨dd,.fieldAddr t a i,none,nm,ix,un,l⟩ :: rest) lg ⟨s,H⟩ = Gt (fieldAddrA P t (evs s a) i) fun x => SeqC P K rest (addL l ix ⟨[],[]⟩ lg) (Sta.put ⟨s,H⟩ dd x H) := sc_fun fun _ _ _ _ => Iff.rfl
@[simp] theorem sc_fieldAddr_g {i : Nat} : SeqC P K (⟨dd,.fieldAddr t a i,some (k,f),nm,ix,un,l⟩ :: rest) lg ⟨s,H⟩ = Gt (wantA (s k) f) fun q => GtG q (fieldAddrA P t (evs s a) i) fun x => SeqC P K rest (addL l ix ⟨[],[]⟩ lg) (Sta.put ⟨s,H⟩ dd x H) := sc_fun_g fun _ _ _ _ => Iff.rfl
@[simp] theorem sc_field {i : Nat} : SeqC P K (⟨dd,.field t a i,none,nm,ix,un,l⟩ :: rest) lg ⟨s,H⟩ = Gt (fieldA P t (evs s a) i) fun x => SeqC P K rest (addL l ix ⟨[],[]⟩ lg) (Sta.put ⟨s,H⟩ dd x H) := sc_fun fun _ _ _ _ => Iff.rfl
@[simp] theorem sc_field_g {i : Nat} : SeqC P K (⟨dd,.field t a i,some (k,f),nm,ix,un,l⟩ :: rest) lg ⟨s,H⟩ = Gt (wantA (s k) f) fun q => GtG q (fieldA P t (evs s a) i) fun x => SeqC P K rest (addL l ix ⟨[],[]⟩ lg) (Sta.put ⟨s,H⟩ dd x H) := sc_fun_g fun _ _ _ _ => Iff.rfl
@[simp] theorem sc_indexAddr  : SeqC P K (⟨dd,.indexAddr t a b,none,nm,ix,un,l⟩ :: rest) lg ⟨s,H⟩ = Gt (indexAddrA P t (evs s a) (evs s b)) fun x => SeqC P K rest (addL l ix ⟨[],[]⟩ lg) (Sta.put ⟨s,H⟩ dd x H) := sc_fun fun _ _ _ _ => Iff.rfl
@[simp] theorem sc_indexAddr_g  : SeqC P K (⟨dd,.indexAddr t a b,some (k,f),nm,ix,un,l⟩ :: rest) lg ⟨s,H⟩ = Gt (wantA (s k) f) fun q => GtG q (indexAddrA P t (evs s a) (evs s b)) fun x => SeqC P K rest (addL l ix ⟨[],[]⟩ lg) (Sta.put ⟨s,H⟩ dd x H) := sc_fun_g fun _ _ _ _ => Iff.rfl
@[simp] theorem sc_index  : SeqC P K (⟨dd,.index t a b,none,nm,ix,un,l⟩ :: rest) lg ⟨s,H⟩ = Gt (indexA P t (evs s a) (evs s b)) fun x => SeqC P K rest (addL l ix ⟨[],[]⟩ lg) (Sta.put ⟨s,H⟩ dd x H) := sc_fun fun _ _ _ _ => Iff.rfl
@[simp] theorem sc_index_g  : SeqC P K (⟨dd,.index t a b,some (k,f),nm,ix,un,l⟩ :: rest) lg ⟨s,H⟩ = Gt (wantA (s k) f) fun q => GtG q (indexA P t (evs s a) (evs s b)) fun x => SeqC P K rest (addL l ix ⟨[],[]⟩ lg) (Sta.put ⟨s,H⟩ dd x H) := sc_fun_g fun _ _ _ _ => Iff.rfl
@[simp] theorem sc_extract {i : Nat} : SeqC P K (⟨dd,.extract a i,none,nm,ix,un,l⟩ :: rest) lg ⟨s,H⟩ = Gt (extractA (evs s a) i) fun x => SeqC P K rest (addL l ix ⟨[],[]⟩ lg) (Sta.put ⟨s,H⟩ dd x H) := sc_fun fun _ _ _ _ => Iff.rfl
@[simp] theorem sc_extract_g {i : Nat} : SeqC P K (⟨dd,.extract a i,some (k,f),nm,ix,un,l⟩ :: rest) lg ⟨s,H⟩ = Gt (wantA (s k) f) fun q => GtG q (extractA (evs s a) i) fun x => SeqC P K rest (addL l ix ⟨[],[]⟩ lg) (Sta.put ⟨s,H⟩ dd x H) := sc_fun_g fun _ _ _ _ => Iff.rfl
@[simp] theorem sc_build {ps : Array (Nat × Operand)} : SeqC P K (⟨dd,.build t ps,none,nm,ix,un,l⟩ :: rest) lg ⟨s,H⟩ = Gt (buildA P t (ps.toList.map fun p => (p.1,evs s p.2))) fun x => SeqC P K rest (addL l ix ⟨[],[]⟩ lg) (Sta.put ⟨s,H⟩ dd x H) := sc_fun fun _ _ _ _ => Iff.rfl
@[simp] theorem sc_build_g {ps : Array (Nat × Operand)} : SeqC P K (⟨dd,.build t ps,some (k,f),nm,ix,un,l⟩ :: rest) lg ⟨s,H⟩ = Gt (wantA (s k) f) fun q => GB P q t [] (ps.toList.map fun p => (p.1,evs s p.2)) fun x => SeqC P K rest (addL l ix ⟨[],[]⟩ lg) (Sta.put ⟨s,H⟩ dd x H) := sc_fun_g fun _ _ _ _ => Iff.rfl
@[simp] theorem sc_buildSlice {n : Nat} {ps : Array (Nat × Operand)} : SeqC P K (⟨dd,.buildSlice t n ps,none,[],ix,un,l⟩ :: rest) lg ⟨s,H⟩ = Gt (buildSliceA P t n (ps.toList.map fun p => (p.1,evs s p.2))) fun x => SeqC P K rest (addL l ix ⟨[],[]⟩ lg) (Sta.put ⟨s,H⟩ dd x H) := sc_fun fun _ _ _ _ => Iff.rfl
@[simp] theorem sc_buildSlice_g {n : Nat} {ps : Array (Nat × Operand)} : SeqC P K (⟨dd,.buildSlice t n ps,some (k,f),[],ix,un,l⟩ :: rest) lg ⟨s,H⟩ = Gt (wantA (s k) f) fun q => GtG q (buildSliceA P t n (ps.toList.map fun p => (p.1,evs s p.2))) fun x => SeqC P K rest (addL l ix ⟨[],[]⟩ lg) (Sta.put ⟨s,H⟩ dd x H) := sc_fun_g fun _ _ _ _ => Iff.rfl
@[simp] theorem sc_slice {lo hi mx : Option Operand} : SeqC P K (⟨dd,.slice t a lo hi mx,none,nm,ix,un,l⟩ :: rest) lg ⟨s,H⟩ = Gt (sliceA P t (evs s a) (lo.map (evs s)) (hi.map (evs s)) (mx.map (evs s))) fun x => SeqC P K rest (addL l ix ⟨[],[]⟩ lg) (Sta.put ⟨s,H⟩ dd x H) := sc_fun fun _ _ _ _ => Iff.rfl
@[simp] theorem sc_slice_g {lo hi mx : Option Operand} : SeqC P K (⟨dd,.slice t a lo hi mx,some (k,f),nm,ix,un,l⟩ :: rest) lg ⟨s,H⟩ = Gt (wantA (s k) f) fun q => GtG q (sliceA P t (evs s a) (lo.map (evs s)) (hi.map (evs s)) (mx.map (evs s))) fun x => SeqC P K rest (addL l ix ⟨[],[]⟩ lg) (Sta.put ⟨s,H⟩ dd x H) := sc_fun_g fun _ _ _ _ => Iff.rfl
@[simp] theorem sc_nilCheck  : SeqC P K (⟨dd,.nilCheck a,none,nm,ix,un,l⟩ :: rest) lg ⟨s,H⟩ = Gt (ptrA (evs s a)) fun x => SeqC P K rest (addL l ix ⟨[],[]⟩ lg) (Sta.put ⟨s,H⟩ dd x H) := sc_fun fun _ _ _ _ => Iff.rfl
@[simp] theorem sc_nilCheck_g  : SeqC P K (⟨dd,.nilCheck a,some (k,f),nm,ix,un,l⟩ :: rest) lg ⟨s,H⟩ = Gt (wantA (s k) f) fun q => GtG q (ptrA (evs s a)) fun x => SeqC P K rest (addL l ix ⟨[],[]⟩ lg) (Sta.put ⟨s,H⟩ dd x H) := sc_fun_g fun _ _ _ _ => Iff.rfl
@[simp] theorem sc_pick {c : Operand} : SeqC P K (⟨dd,.pick c a b,none,nm,ix,un,l⟩ :: rest) lg ⟨s,H⟩ = Gt (selA (evs s c) (evs s a) (evs s b)) fun x => SeqC P K rest (addL l ix ⟨[],[]⟩ lg) (Sta.put ⟨s,H⟩ dd x H) := sc_fun fun _ _ _ _ => Iff.rfl
@[simp] theorem sc_pick_g {c : Operand} : SeqC P K (⟨dd,.pick c a b,some (k,f),nm,ix,un,l⟩ :: rest) lg ⟨s,H⟩ = Gt (wantA (s k) f) fun q => GtG q (selA (evs s c) (evs s a) (evs s b)) fun x => SeqC P K rest (addL l ix ⟨[],[]⟩ lg) (Sta.put ⟨s,H⟩ dd x H) := sc_fun_g fun _ _ _ _ => Iff.rfl
@[simp] theorem sc_makeFunc {g : FuncId} {fs cs : Array Operand} : SeqC P K (⟨dd,.makeFunc (.func g) fs cs,none,nm,ix,un,l⟩ :: rest) lg ⟨s,H⟩ = Gt (some (A.fnc g (fs.toList.map (evs s)) (cs.toList.map (evs s)))) fun x => SeqC P K rest (addL l ix ⟨[],[]⟩ lg) (Sta.put ⟨s,H⟩ dd x H) := sc_fun fun _ _ _ _ => Iff.rfl
@[simp] theorem sc_makeFunc_g {g : FuncId} {fs cs : Array Operand} : SeqC P K (⟨dd,.makeFunc (.func g) fs cs,some (k,f),nm,ix,un,l⟩ :: rest) lg ⟨s,H⟩ = Gt (wantA (s k) f) fun q => GtG q (some (A.fnc g (fs.toList.map (evs s)) (cs.toList.map (evs s)))) fun x => SeqC P K rest (addL l ix ⟨[],[]⟩ lg) (Sta.put ⟨s,H⟩ dd x H) := sc_fun_g fun _ _ _ _ => Iff.rfl
@[simp] theorem sc_makeInterface  : SeqC P K (⟨dd,.makeInterface t a,none,nm,ix,un,l⟩ :: rest) lg ⟨s,H⟩ = Gt (ifcA P t (evs s a)) fun x => SeqC P K rest (addL l ix ⟨[],[]⟩ lg) (Sta.put ⟨s,H⟩ dd x H) := sc_fun fun _ _ _ _ => Iff.rfl
@[simp] theorem sc_makeInterface_g  : SeqC P K (⟨dd,.makeInterface t a,some (k,f),nm,ix,un,l⟩ :: rest) lg ⟨s,H⟩ = Gt (wantA (s k) f) fun q => GtG q (ifcA P t (evs s a)) fun x => SeqC P K rest (addL l ix ⟨[],[]⟩ lg) (Sta.put ⟨s,H⟩ dd x H) := sc_fun_g fun _ _ _ _ => Iff.rfl
@[simp] theorem sc_typeAssert {u : TypeId} {ok : Bool} : SeqC P K (⟨dd,.typeAssert a t u ok,none,nm,ix,un,l⟩ :: rest) lg ⟨s,H⟩ = Gt (assertA P u ok (evs s a)) fun x => SeqC P K rest (addL l ix ⟨[],[]⟩ lg) (Sta.put ⟨s,H⟩ dd x H) := sc_fun fun _ _ _ _ => Iff.rfl
@[simp] theorem sc_typeAssert_g {u : TypeId} {ok : Bool} : SeqC P K (⟨dd,.typeAssert a t u ok,some (k,f),nm,ix,un,l⟩ :: rest) lg ⟨s,H⟩ = Gt (wantA (s k) f) fun q => GtG q (assertA P u ok (evs s a)) fun x => SeqC P K rest (addL l ix ⟨[],[]⟩ lg) (Sta.put ⟨s,H⟩ dd x H) := sc_fun_g fun _ _ _ _ => Iff.rfl
@[simp] theorem sc_min {as' : Array Operand} {ts : Array TypeId} : SeqC P K (⟨dd,.call { callee := .builtin .min,args := as',argTypes := ts },none,nm,ix,un,l⟩ :: rest) lg ⟨s,H⟩ = Gt (minmaxA false (as'.toList.map (evs s))) fun x => SeqC P K rest (addL l ix ⟨[],[]⟩ lg) (Sta.put ⟨s,H⟩ dd x H) := sc_fun fun _ _ _ _ => Iff.rfl
@[simp] theorem sc_min_g {as' : Array Operand} {ts : Array TypeId} : SeqC P K (⟨dd,.call { callee := .builtin .min,args := as',argTypes := ts },some (k,f),nm,ix,un,l⟩ :: rest) lg ⟨s,H⟩ = Gt (wantA (s k) f) fun q => GtG q (minmaxA false (as'.toList.map (evs s))) fun x => SeqC P K rest (addL l ix ⟨[],[]⟩ lg) (Sta.put ⟨s,H⟩ dd x H) := sc_fun_g fun _ _ _ _ => Iff.rfl
@[simp] theorem sc_max {as' : Array Operand} {ts : Array TypeId} : SeqC P K (⟨dd,.call { callee := .builtin .max,args := as',argTypes := ts },none,nm,ix,un,l⟩ :: rest) lg ⟨s,H⟩ = Gt (minmaxA true (as'.toList.map (evs s))) fun x => SeqC P K rest (addL l ix ⟨[],[]⟩ lg) (Sta.put ⟨s,H⟩ dd x H) := sc_fun fun _ _ _ _ => Iff.rfl
@[simp] theorem sc_max_g {as' : Array Operand} {ts : Array TypeId} : SeqC P K (⟨dd,.call { callee := .builtin .max,args := as',argTypes := ts },some (k,f),nm,ix,un,l⟩ :: rest) lg ⟨s,H⟩ = Gt (wantA (s k) f) fun q => GtG q (minmaxA true (as'.toList.map (evs s))) fun x => SeqC P K rest (addL l ix ⟨[],[]⟩ lg) (Sta.put ⟨s,H⟩ dd x H) := sc_fun_g fun _ _ _ _ => Iff.rfl
@[simp] theorem sc_len : SeqC P K (⟨dd,.call { callee := .builtin .len,args := #[a],argTypes := #[t] },none,nm,ix,un,l⟩ :: rest) lg ⟨s,H⟩ = Gt (lenA P t (evs s a)) fun x => SeqC P K rest (addL l ix ⟨[],[]⟩ lg) (Sta.put ⟨s,H⟩ dd x H) := sc_fun fun x E R W => by
    constructor
    · rintro ⟨a',t',h1,h2,h3⟩; cases h1; cases h2; exact h3
    · intro h; exact ⟨a,t,rfl,rfl,h⟩
@[simp] theorem sc_len_g : SeqC P K (⟨dd,.call { callee := .builtin .len,args := #[a],argTypes := #[t] },some (k,f),nm,ix,un,l⟩ :: rest) lg ⟨s,H⟩ = Gt (wantA (s k) f) fun q => GtG q (lenA P t (evs s a)) fun x => SeqC P K rest (addL l ix ⟨[],[]⟩ lg) (Sta.put ⟨s,H⟩ dd x H) := sc_fun_g fun x E R W => by
    constructor
    · rintro ⟨a',t',h1,h2,h3⟩; cases h1; cases h2; exact h3
    · intro h; exact ⟨a,t,rfl,rfl,h⟩
@[simp] theorem sc_load : SeqC P K (⟨dd,.load t a,none,nm,ix,un,l⟩ :: rest) lg ⟨s,H⟩ = Gt (loadA P H t (evs s a)) fun x => Ck un lg ⟨refs (evs s a),[]⟩∧SeqC P K rest (addL l ix ⟨refs (evs s a),[]⟩ lg) (Sta.put ⟨s,H⟩ dd x H) := by
  apply propext
  constructor
  · rintro ⟨x,E,⟨R,W⟩,⟨h1,rfl,h2,h3⟩,h4,h5⟩
    simp only at h2 h3
    subst h2 h3
    exact ⟨x,h1,h4,h5⟩
  · rintro ⟨x,h1,h4,h5⟩
    exact ⟨x,.nil,⟨_,_⟩,⟨h1,rfl,rfl,rfl⟩,h4,h5⟩
@[simp] theorem sc_load_g : SeqC P K (⟨dd,.load t a,some (k,f),nm,ix,un,l⟩ :: rest) lg ⟨s,H⟩ = Gt (wantA (s k) f) fun q => GtG q (loadA P H t (evs s a)) fun x => Ck un lg (fg q ⟨refs (evs s a),[]⟩)∧SeqC P K rest (addL l ix (fg q ⟨refs (evs s a),[]⟩) lg) (Sta.put ⟨s,H⟩ dd x H) := by
  apply propext
  constructor
  · rintro ⟨x,E,⟨R,W⟩,⟨q,x0,h1,h2,rfl,h4⟩,h5,h6⟩
    refine ⟨q,h1,x0,fun hq => (h2 hq).1,?_⟩
    have : E = .nil∧(⟨R,W⟩ : Ft) = fg q ⟨refs (evs s a),[]⟩ := by
      cases hq : q with
      | true =>
        obtain ⟨_,e1,e2,e3⟩ := h2 hq
        simp only at e2 e3
        exact ⟨e1,by rw [e2,e3]; rfl⟩
      | false =>
        obtain ⟨e1,e2,e3⟩ := h4 hq
        simp only at e2 e3
        exact ⟨e1,by rw [e2,e3]; rfl⟩
    obtain ⟨rfl,e⟩ := this
    rw [e] at h5 h6
    exact ⟨h5,h6⟩
  · rintro ⟨q,h1,x0,h2,h5,h6⟩
    refine ⟨_,.nil,fg q ⟨refs (evs s a),[]⟩,⟨q,x0,h1,fun hq => ⟨h2 hq,rfl,?_,?_⟩,rfl,fun hq => ⟨rfl,?_,?_⟩⟩,h5,h6⟩ <;> subst hq <;> rfl
@[simp] theorem sc_alloc : SeqC P K (⟨dd,.alloc t,none,nm,ix,un,l⟩ :: rest) lg ⟨s,H⟩ = Gt (allocA P H nm t) fun p => Ck un lg ⟨[],[(nm,false)]⟩∧SeqC P K rest (addL l ix ⟨[],[(nm,false)]⟩ lg) (Sta.put ⟨s,H⟩ dd p.1 (p.2.app H)) := sc_eff fun _ _ _ _ => Iff.rfl
@[simp] theorem sc_box : SeqC P K (⟨dd,.box t a,none,nm,ix,un,l⟩ :: rest) lg ⟨s,H⟩ = Gt (boxA H nm t (evs s a)) fun p => Ck un lg ⟨[],[(nm,false)]⟩∧SeqC P K rest (addL l ix ⟨[],[(nm,false)]⟩ lg) (Sta.put ⟨s,H⟩ dd p.1 (p.2.app H)) := sc_eff fun _ _ _ _ => Iff.rfl
@[simp] theorem sc_buildSliceO {n a' : Nat} {d' : Nm} {ps : Array (Nat × Operand)} : SeqC P K (⟨dd,.buildSlice t n ps,none,a' :: d',ix,un,l⟩ :: rest) lg ⟨s,H⟩ = Gt (buildSliceO P H (a' :: d') t n (ps.toList.map fun p => (p.1,evs s p.2))) fun p => Ck un lg ⟨[],[(a' :: d',false)]⟩∧SeqC P K rest (addL l ix ⟨[],[(a' :: d',false)]⟩ lg) (Sta.put ⟨s,H⟩ dd p.1 (p.2.app H)) := sc_eff fun _ _ _ _ => Iff.rfl
@[simp] theorem sc_makeSlice : SeqC P K (⟨dd,.makeSlice t a b,none,nm,ix,un,l⟩ :: rest) lg ⟨s,H⟩ = Gt (makeSliceA P H nm t (evs s a) (evs s b)) fun p => Ck un lg ⟨[],[(nm,false)]⟩∧SeqC P K rest (addL l ix ⟨[],[(nm,false)]⟩ lg) (Sta.put ⟨s,H⟩ dd p.1 (p.2.app H)) := sc_eff fun _ _ _ _ => Iff.rfl
@[simp] theorem sc_store : SeqC P K (⟨dd,.store t a b,none,nm,ix,un,l⟩ :: rest) lg ⟨s,H⟩ = Gt (storeA P H t (evs s a) (evs s b)) fun E => Ck un lg ⟨[],refs (evs s a)⟩∧SeqC P K rest (addL l ix ⟨[],refs (evs s a)⟩ lg) (Sta.put ⟨s,H⟩ dd .any (E.app H)) := by
  apply propext
  constructor
  · rintro ⟨x,E,⟨R,W⟩,⟨h1,rfl,h2,h3⟩,h4,h5⟩
    simp only at h2 h3
    subst h2 h3
    exact ⟨E,h1,h4,h5⟩
  · rintro ⟨E,h1,h4,h5⟩
    exact ⟨_,E,⟨_,_⟩,⟨h1,rfl,rfl,rfl⟩,h4,h5⟩
@[simp] theorem sc_append {u : TypeId} : SeqC P K (⟨dd,.call { callee := .builtin .append,args := #[a,b],argTypes := #[t,u] },none,nm,ix,un,l⟩ :: rest) lg ⟨s,H⟩ = Gt (appendA P H nm t u (evs s a) (evs s b)) fun p => Ck un lg ⟨refs (evs s b),wrA nm (evs s a)⟩∧SeqC P K rest (addL l ix ⟨refs (evs s b),wrA nm (evs s a)⟩ lg) (Sta.put ⟨s,H⟩ dd p.1 (p.2.app H)) :=
  sc_eff fun x E R W => by
    constructor
    · rintro ⟨a',b',t',u',h1,h2,h3,h4,h5⟩; cases h1; cases h2; exact ⟨h3,h4,h5⟩
    · rintro ⟨h3,h4,h5⟩; exact ⟨a,b,t,u,rfl,rfl,h3,h4,h5⟩
@[simp] theorem sc_copy {u : TypeId} : SeqC P K (⟨dd,.call { callee := .builtin .copy,args := #[a,b],argTypes := #[t,u] },none,nm,ix,un,l⟩ :: rest) lg ⟨s,H⟩ = Gt (copyA P H t (evs s a) (evs s b)) fun p => Ck un lg ⟨refs (evs s b),refs (evs s a)⟩∧SeqC P K rest (addL l ix ⟨refs (evs s b),refs (evs s a)⟩ lg) (Sta.put ⟨s,H⟩ dd p.1 (p.2.app H)) :=
  sc_eff fun x E R W => by
    constructor
    · rintro ⟨a',b',t',u',h1,h2,h3,h4,h5⟩; cases h1; cases h2; exact ⟨h3,h4,h5⟩
    · rintro ⟨h3,h4,h5⟩; exact ⟨a,b,t,u,rfl,rfl,h3,h4,h5⟩
@[simp] theorem sc_alloc_g : SeqC P K (⟨dd,.alloc t,some (k,f),nm,ix,un,l⟩ :: rest) lg ⟨s,H⟩ = Gt (wantA (s k) f) fun q => Cnd q (SeqC P K (⟨dd,.alloc t,none,nm,ix,un,l⟩ :: rest) lg ⟨s,H⟩) (SeqC P K rest (addL l ix ⟨[],[]⟩ lg) (Sta.put ⟨s,H⟩ dd (.v undef) H)) := sc_guard
@[simp] theorem sc_box_g : SeqC P K (⟨dd,.box t a,some (k,f),nm,ix,un,l⟩ :: rest) lg ⟨s,H⟩ = Gt (wantA (s k) f) fun q => Cnd q (SeqC P K (⟨dd,.box t a,none,nm,ix,un,l⟩ :: rest) lg ⟨s,H⟩) (SeqC P K rest (addL l ix ⟨[],[]⟩ lg) (Sta.put ⟨s,H⟩ dd (.v undef) H)) := sc_guard
@[simp] theorem sc_buildSliceO_g {n a' : Nat} {d' : Nm} {ps : Array (Nat × Operand)} : SeqC P K (⟨dd,.buildSlice t n ps,some (k,f),a' :: d',ix,un,l⟩ :: rest) lg ⟨s,H⟩ = Gt (wantA (s k) f) fun q => Cnd q (SeqC P K (⟨dd,.buildSlice t n ps,none,a' :: d',ix,un,l⟩ :: rest) lg ⟨s,H⟩) (SeqC P K rest (addL l ix ⟨[],[]⟩ lg) (Sta.put ⟨s,H⟩ dd (.v undef) H)) := sc_guard
@[simp] theorem sc_makeSlice_g : SeqC P K (⟨dd,.makeSlice t a b,some (k,f),nm,ix,un,l⟩ :: rest) lg ⟨s,H⟩ = Gt (wantA (s k) f) fun q => Cnd q (SeqC P K (⟨dd,.makeSlice t a b,none,nm,ix,un,l⟩ :: rest) lg ⟨s,H⟩) (SeqC P K rest (addL l ix ⟨[],[]⟩ lg) (Sta.put ⟨s,H⟩ dd (.v undef) H)) := sc_guard
@[simp] theorem sc_store_g : SeqC P K (⟨dd,.store t a b,some (k,f),nm,ix,un,l⟩ :: rest) lg ⟨s,H⟩ = Gt (wantA (s k) f) fun q => Cnd q (SeqC P K (⟨dd,.store t a b,none,nm,ix,un,l⟩ :: rest) lg ⟨s,H⟩) (SeqC P K rest (addL l ix ⟨[],[]⟩ lg) (Sta.put ⟨s,H⟩ dd (.v undef) H)) := sc_guard
@[simp] theorem sc_append_g {u : TypeId} : SeqC P K (⟨dd,.call { callee := .builtin .append,args := #[a,b],argTypes := #[t,u] },some (k,f),nm,ix,un,l⟩ :: rest) lg ⟨s,H⟩ = Gt (wantA (s k) f) fun q => Cnd q (SeqC P K (⟨dd,.call { callee := .builtin .append,args := #[a,b],argTypes := #[t,u] },none,nm,ix,un,l⟩ :: rest) lg ⟨s,H⟩) (SeqC P K rest (addL l ix ⟨[],[]⟩ lg) (Sta.put ⟨s,H⟩ dd (.v undef) H)) := sc_guard
@[simp] theorem sc_copy_g {u : TypeId} : SeqC P K (⟨dd,.call { callee := .builtin .copy,args := #[a,b],argTypes := #[t,u] },some (k,f),nm,ix,un,l⟩ :: rest) lg ⟨s,H⟩ = Gt (wantA (s k) f) fun q => Cnd q (SeqC P K (⟨dd,.call { callee := .builtin .copy,args := #[a,b],argTypes := #[t,u] },none,nm,ix,un,l⟩ :: rest) lg ⟨s,H⟩) (SeqC P K rest (addL l ix ⟨[],[]⟩ lg) (Sta.put ⟨s,H⟩ dd (.v undef) H)) := sc_guard
theorem sc_call {g : FuncId} {as' : Array Operand} {ts : Array TypeId} {x : A} (hs : Spec P g (as'.toList.map (evs s)) x) (hb : (as'.toList.map (evs s)).all A.bare = true) (h : SeqC P K rest (addL l ix ⟨[],[]⟩ lg) (Sta.put ⟨s,H⟩ dd x H)) :
    SeqC P K (⟨dd,.call { callee := .value (.func g),args := as',argTypes := ts },none,nm,ix,un,l⟩ :: rest) lg ⟨s,H⟩ :=
  ⟨x,.nil,⟨[],[]⟩,⟨g,[],[],rfl,.inl ⟨by simpa using hb,by simpa using hs,rfl,rfl,rfl⟩⟩,ck_pure,h⟩
theorem sc_calle {g : FuncId} {as' : Array Operand} {ts : Array TypeId} {L : List A} {x : A} (hL : as'.toList.map (evs s) = L) (hs : Spec P g L x) (hb : L.all A.bare = true) (h : SeqC P K rest (addL l ix ⟨[],[]⟩ lg) (Sta.put ⟨s,H⟩ dd x H)) :
    SeqC P K (⟨dd,.call { callee := .value (.func g),args := as',argTypes := ts },none,nm,ix,un,l⟩ :: rest) lg ⟨s,H⟩ := by subst hL; exact sc_call hs hb h
theorem sc_callv {o : Operand} {g : FuncId} {fs caps : List A} {as' : Array Operand} {ts : Array TypeId} {x : A} (ho : evs s o = .fnc g fs caps) (hs : Spec P g (fs ++ (as'.toList.map (evs s) ++ caps)) x) (hb : (fs ++ (as'.toList.map (evs s) ++ caps)).all A.bare = true) (h : SeqC P K rest (addL l ix ⟨[],[]⟩ lg) (Sta.put ⟨s,H⟩ dd x H)) :
    SeqC P K (⟨dd,.call { callee := .value o,args := as',argTypes := ts },none,nm,ix,un,l⟩ :: rest) lg ⟨s,H⟩ :=
  ⟨x,.nil,⟨[],[]⟩,⟨g,fs,caps,ho,.inl ⟨hb,hs,rfl,rfl,rfl⟩⟩,ck_pure,h⟩
theorem sc_callb {g : FuncId} {as' : Array Operand} {ts : Array TypeId} {x : A} (as'' : List A) (hs : SpecB P g as'' x) (hf : FrzL H (as'.toList.map (evs s)) as'') (hc : Ck un lg ⟨[([],true)],[]⟩) (h : SeqC P K rest (addL l ix ⟨[([],true)],[]⟩ lg) (Sta.put ⟨s,H⟩ dd x H)) :
    SeqC P K (⟨dd,.call { callee := .value (.func g),args := as',argTypes := ts },none,nm,ix,un,l⟩ :: rest) lg ⟨s,H⟩ :=
  ⟨x,.nil,⟨_,_⟩,⟨g,[],[],rfl,.inr (.inl ⟨⟨as'',by simpa using hf,hs⟩,rfl,rfl,rfl⟩)⟩,hc,h⟩
theorem sc_callh {g : FuncId} {as' : Array Operand} {ts : Array TypeId} {x : A} (E : Eff) (R W : Fp) (hs : ∀ H2,Agree (R ++ W) H H2→CallOK P H2 g (as'.toList.map (evs s)) x E) (hw : Supp E W) (hc : Ck un lg ⟨R,W⟩) (h : SeqC P K rest (addL l ix ⟨R,W⟩ lg) (Sta.put ⟨s,H⟩ dd x (E.app H))) :
    SeqC P K (⟨dd,.call { callee := .value (.func g),args := as',argTypes := ts },none,nm,ix,un,l⟩ :: rest) lg ⟨s,H⟩ :=
  ⟨x,E,⟨R,W⟩,⟨g,[],[],rfl,.inr (.inr ⟨by simpa using hs,hw⟩)⟩,hc,h⟩
theorem sc_call_g {g : FuncId} {as' : Array Operand} {ts : Array TypeId} {x : A} {q : Bool} (hq : wantA (s k) f = some q) (hs : q = true→Spec P g (as'.toList.map (evs s)) x∧(as'.toList.map (evs s)).all A.bare = true)
    (h : SeqC P K rest (addL l ix ⟨[],[]⟩ lg) (Sta.put ⟨s,H⟩ dd (gd q x) H)) :
    SeqC P K (⟨dd,.call { callee := .value (.func g),args := as',argTypes := ts },some (k,f),nm,ix,un,l⟩ :: rest) lg ⟨s,H⟩ :=
  ⟨_,.nil,⟨[],[]⟩,⟨q,x,hq,fun e => ⟨g,[],[],rfl,.inl ⟨by simpa using (hs e).2,by simpa using (hs e).1,rfl,rfl,rfl⟩⟩,rfl,fun _ => ⟨rfl,rfl,rfl⟩⟩,ck_pure,h⟩
end
end
section
variable {P : Program} {K : Sta→Prop} {rest : List CO} {s : Nat→A} {H : Hp} {dd : Option Nat} {k : Nat} {g : FuncId} {as' : Array Operand} {ts : Array TypeId} {x : A} {q : Bool} {L : List A} {nm : Nm} {ix : Nat} {un : List Nat} {l : Bool} {lg : Lg}
theorem sc_call_gt (hq : s k = .v (.bool q)) (hs : q = true→Spec P g L x) (hL : q = true→as'.toList.map (evs s) = L) (hb : L.all A.bare = true)
    (h : SeqC P K rest (addL l ix ⟨[],[]⟩ lg) (Sta.put ⟨s,H⟩ dd (gd q x) H)) :
    SeqC P K (⟨dd,.call { callee := .value (.func g),args := as',argTypes := ts },some (k,true),nm,ix,un,l⟩ :: rest) lg ⟨s,H⟩ :=
  sc_call_g (q := q) (by rw [hq]; cases q <;> rfl) (fun e => by rw [hL e]; exact ⟨hs e,hb⟩) h
theorem sc_call_gf (hq : s k = .v (.bool q)) (hs : q = false→Spec P g L x) (hL : q = false→as'.toList.map (evs s) = L) (hb : L.all A.bare = true)
    (h : SeqC P K rest (addL l ix ⟨[],[]⟩ lg) (Sta.put ⟨s,H⟩ dd (gd (ng q) x) H)) :
    SeqC P K (⟨dd,.call { callee := .value (.func g),args := as',argTypes := ts },some (k,false),nm,ix,un,l⟩ :: rest) lg ⟨s,H⟩ :=
  sc_call_g (q := ng q) (by rw [hq]; cases q <;> rfl) (fun e => by have e : q = false := by simpa using e
                                                                   rw [hL e]; exact ⟨hs e,hb⟩) h
end
@[simp] theorem bif_bool {q r t : Bool} : (bif q then A.v (.bool r) else A.v (.bool t)) = A.v (.bool (bif q then r else t)) := by cases q <;> rfl
theorem frz_bare {H : Hp} {a : A} (h : a.bare = true) : Frz H a a := fun c w I μ v hs hr => (hr.of_bare h).mono0 (fun b hb => .inl hb) (fun _ _ => rfl)
theorem sl_weak {w : World} {I : Nat→Prop} {μ : Mu} {f : Bool} {xs : List A} {v : Value} (h : Rel w I μ (.sl f xs) v) : Rel w I μ (.sl false xs) v := by
  cases h with
  | slN _ _ a cap _ => exact .slN _ _ _ _ (fun h => by cases h)
  | sl _ _ b off n cap sz _ g h1 h2 h3 h4 h5 h6 h7 h8 => exact .sl _ _ b off n cap sz _ g h1 h2 h3 (fun h => by cases h) h5 h6 h7 h8
theorem frz_sl {H : Hp} {f : Bool} {xs : List A} : Frz H (.sl f xs) (.sl false xs) := fun c w I μ v hs hr => sl_weak (frz_bare (a := .sl f xs) rfl c w I μ v hs hr)
theorem frz_bool {H : Hp} {p q : Bool} (h : p = q) : Frz H (.v (.bool p)) (.v (.bool q)) := by rw [h]; exact frz_bare rfl
theorem frz_int {H : Hp} {k : IntKind} {p q : Int} (h : p = q) : Frz H (.v (.int k p)) (.v (.int k q)) := by rw [h]; exact frz_bare rfl
theorem frz_is {H : Hp} {a a' : A} (h : a.bare = true) (e : a = a') : Frz H a a' := by rw [← e]; exact frz_bare h
theorem frz_osl' {H : Hp} {o : Nm} {u off len sz : Nat} {xs ys : List A} (ho : getR H o u = some (sz,xs)) (hl : off + len≤xs.length) (hn : ys.length = len) (hy : ∀ y,y ∈ ys→y.cells.length = sz) (h1 : A.ones (ys.flatMap A.cells) = true)
    (hb : FrzL H (((xs.drop off).take len).flatMap A.cells) (ys.flatMap A.cells)) : Frz H (.osl o u sz off len) (.sl false ys) := by
  intro c w I μ v hs hr
  obtain ⟨hg1,hg2⟩ := frzL_get hb
  cases hr with
  | osl _ _ _ _ _ _ a cap g1 g2 g4 g5 g3 =>
    obtain ⟨hu,k2,hrow⟩ := hs.row ho
    obtain ⟨_,hcur⟩ := g3 hu.symm
    by_cases h0 : len = 0
    · subst h0
      have : ys = [] := List.eq_nil_of_length_eq_zero hn
      subst this
      exact .slN _ _ _ _ (fun h => by cases h)
    rcases hcur with ⟨e,_⟩ | ⟨p1,rfl,p3⟩
    · exact (h0 e).elim
    rcases hrow with ⟨q1,_⟩ | ⟨q1,vs,k3,k4,k5,k6,k7⟩
    · rw [p1] at q1; cases q1
    subst k2
    have hB : hasB (μ o) (H o).ob = true := by rw [(getR_some ho).2]; exact q1
    have hg : ∀ (k : Nat) (y : A),(((xs.drop off).take len).flatMap A.cells)[k]? = some y→(xs.flatMap A.cells)[off * (μ o).sz + k]? = some y := fun k y hk => flat_take_drop k6 hk
    refine .sl _ _ (μ o).b (off * (μ o).sz) _ _ (μ o).sz _ (fun k => vs.getD (off * (μ o).sz + k) undef) (Or.inr ⟨o,hB,rfl⟩) hn.symm (by omega) (fun h => by cases h) hy
      (fun k y hk => List.all_eq_true.1 h1 y (List.mem_of_getElem? hk)) (fun k y hk => ?_) (fun k y hk => ?_)
    · obtain ⟨a',ha',_⟩ := hg2 k y hk
      have h3 := hg k a' ha'
      have h4 := flat_len k6
      have h5 : xs.length * (μ o).sz≤(μ o).cap * (μ o).sz := Nat.mul_le_mul_right _ k5
      have h6 := (List.getElem?_eq_some_iff.1 h3).1
      rw [cell_of_row w (μ o).b _ vs (μ o).e (0,0) k3]
      have : off * (μ o).sz + k < vs.size := by rw [k4]; omega
      simp [this]
    · obtain ⟨a',ha',hf⟩ := hg2 k y hk
      exact hf c w I μ _ hs (k7 _ a' (hg k a' ha')).2
theorem frzL_bare {H : Hp} : ∀ {l : List A},l.all A.bare = true→FrzL H l l
  | [],_ => trivial
  | a :: l,h => by
    simp only [List.all_cons,Bool.and_eq_true] at h
    exact ⟨frz_bare h.1,frzL_bare h.2⟩
theorem bare_of1 {a : A} (h : a.bare1 = true) : a.bare = true := by cases a <;> simp_all [A.bare1,A.bare,A.bare2]
theorem frz_osl {H : Hp} {o : Nm} {u off len sz : Nat} {xs : List A} (ho : getR H o u = some (sz,xs)) (hl : off + len≤xs.length) (hb : ((xs.drop off).take len).all (fun x => x.cells.length == sz && x.cells.all fun y => A.bare1 y && y.one) = true) : Frz H (.osl o u sz off len) (.sl false ((xs.drop off).take len)) := by
  simp only [List.all_eq_true,Bool.and_eq_true,beq_iff_eq] at hb
  refine frz_osl' ho hl (by simp; omega) (fun y hy => (hb y hy).1) ?_ (frzL_bare ?_)
  · simp only [A.ones,List.all_eq_true]
    intro y hy
    obtain ⟨x,hx,hy⟩ := List.mem_flatMap.1 hy
    exact ((hb x hx).2 y hy).2
  · simp only [List.all_eq_true]
    intro y hy
    obtain ⟨x,hx,hy⟩ := List.mem_flatMap.1 hy
    exact bare_of1 ((hb x hx).2 y hy).1
theorem frz_agg {H : Hp} {cs cs' : List A} (h : FrzL H cs cs') : Frz H (.agg cs) (.agg cs') := by
  intro c w I μ v hs hr
  obtain ⟨hl,hg⟩ := frzL_get h
  cases hr with
  | agg _ _ vs h1 h2 =>
    refine .agg _ _ _ (by omega) fun k y hk => ?_
    obtain ⟨a,ha,hf⟩ := hg k y hk
    exact hf c w I μ _ hs (h2 k a ha)
theorem frz_tup {H : Hp} {cs cs' : List A} (h : FrzL H cs cs') : Frz H (.tup cs) (.tup cs') := by
  intro c w I μ v hs hr
  obtain ⟨hl,hg⟩ := frzL_get h
  cases hr with
  | tup _ _ vs h1 h2 =>
    refine .tup _ _ _ (by omega) fun k y hk => ?_
    obtain ⟨a,ha,hf⟩ := hg k y hk
    exact hf c w I μ _ hs (h2 k a ha)
@[simp] theorem frzL_nil {H : Hp} : FrzL H [] [] = True := rfl
@[simp] theorem frzL_cons {H : Hp} {a a' : A} {l l' : List A} : FrzL H (a :: l) (a' :: l') = (Frz H a a'∧FrzL H l l') := rfl
def FrzN (H : Hp) (a a' : A) : Prop := ∀ (c : Cx) (w : World) (I : Nat→Prop) (μ : Mu) (v : Value),Sim c w I μ H→Rel w I μ a v→Rel w (fun b => Owned H μ b) mu0 a' v
def RetN (P : Program) (rs : List ResultVar) (r : A) : Exit→Sta→Prop := RetG P rs fun r0 H => FrzN H r0 r
theorem specB_of {P : Program} {f : FuncId} {n : Nat} {rs : List ResultVar} {cc : CC} {args : List A} {r : A} (t : Txt P f n rs cc) (ha : args.length≤n) (h : ∀ w0 I0,WPC (cx P w0 I0 n) cc (RetN P rs r) ⟨argS args,H0⟩) : SpecB P f args r := by
  obtain ⟨hm,hk,fn,code,hf,hb,hn,hrs,hc⟩ := t
  refine ⟨hk,fun w I J vs hI hJ htb hl hr => ?_⟩
  have hIJ : ∀ b,(I b∨J b)→b < w.heap.size := fun b hb => hb.elim (hI b) (hJ b)
  have h1 : AWP (cx P w (fun b => I b∨J b) n) code (RetG P fn.results.toList fun r0 H => FrzN H r0 r) ⟨argS args,H0⟩ := wpc_sound (c := cx P w _ n) hm hc (by rw [hrs]; exact h w _)
  refine (body_run hf hb (c := cx P w (fun b => I b∨J b) n) rfl hn.symm hl (by omega) (sim_start hIJ (htb.mono (fun _ h => .inl h) (fun _ _ => rfl))) hr h1).mono fun e w' ⟨v,r0,H',I',μ',he,h1,h2,h3⟩ => ⟨v,he,?_,?_⟩
  · have k := h1.kept
    exact ⟨k.os,k.tape,k.output,k.size,fun b hb => k.block b hb (fun ⟨_,h⟩ => h)⟩
  · refine (h3 _ w' I' μ' v h1 h2).mono0 (fun b hb => ?_) (fun _ _ => rfl)
    obtain ⟨o,g1,rfl⟩ := hb
    obtain ⟨_,g4,g5⟩ := h1.own o g1
    rcases g4 with g4 | g4
    · exact g4.elim
    · exact .inr ⟨g4,g5⟩
@[simp] theorem retN_normal {P : Program} {rs : List ResultVar} {r : A} {st : Sta} : RetN P rs r .normal st = Gt (resA P st rs) fun r0 => FrzN st.H r0 r := rfl
@[simp] theorem retN_ret {P : Program} {rs : List ResultVar} {r : A} {st : Sta} : RetN P rs r .ret st = Gt (resA P st rs) fun r0 => FrzN st.H r0 r := rfl
theorem frzN_nil {H : Hp} {f : Bool} : FrzN H (.sl f []) (.sl false []) := fun c w I μ v hs hr => by
  cases hr with
  | slN _ _ a cap _ => exact .slN _ _ _ _ (fun h => by cases h)
  | sl _ _ b off n cap sz _ g h1 h2 =>
    have : n = 0 := h2
    subst this
    exact .slN _ _ _ _ (fun h => by cases h)
theorem frzN_osl {H : Hp} {o : Nm} {u off len sz : Nat} {xs : List A} (ho : getR H o u = some (sz,xs)) (hl : off + len≤xs.length) (hb : ((xs.drop off).take len).all (fun x => x.cells.length == sz && x.cells.all fun y => A.flat1 y && y.one) = true) : FrzN H (.osl o u sz off len) (.sl false ((xs.drop off).take len)) := by
  simp only [List.all_eq_true,Bool.and_eq_true,beq_iff_eq] at hb
  intro c w I μ v hs hr
  have hlen : ((xs.drop off).take len).length = len := by simp; omega
  have hcell : ∀ (k : Nat) (y : A),(((xs.drop off).take len).flatMap A.cells)[k]? = some y→y.flat1 = true∧y.one = true := fun k y hk => by
    obtain ⟨x,hx,hy⟩ := List.mem_flatMap.1 (List.mem_of_getElem? hk)
    exact (hb x hx).2 y hy
  cases hr with
  | osl _ _ _ _ _ _ a cap g1 g2 g4 g5 g3 =>
    obtain ⟨hu,k2,hrow⟩ := hs.row ho
    obtain ⟨_,hcur⟩ := g3 hu.symm
    by_cases h0 : len = 0
    · subst h0
      simp only [List.take_zero]
      exact .slN _ _ _ _ (fun h => by cases h)
    rcases hcur with ⟨e,_⟩ | ⟨p1,rfl,p3⟩
    · exact (h0 e).elim
    rcases hrow with ⟨q1,_⟩ | ⟨q1,vs,k3,k4,k5,k6,k7⟩
    · rw [p1] at q1; cases q1
    subst k2
    have hB : hasB (μ o) (H o).ob = true := by rw [(getR_some ho).2]; exact q1
    have hg : ∀ (k : Nat) (y : A),(((xs.drop off).take len).flatMap A.cells)[k]? = some y→(xs.flatMap A.cells)[off * (μ o).sz + k]? = some y := fun k y hk => flat_take_drop k6 hk
    refine .sl _ _ (μ o).b (off * (μ o).sz) _ _ (μ o).sz _ (fun k => vs.getD (off * (μ o).sz + k) undef) ⟨o,hB,rfl⟩ hlen.symm (by omega) (fun h => by cases h) (fun z hz => k6 z (List.mem_of_mem_drop (List.mem_of_mem_take hz)))
      (fun k y hk => (hcell k y hk).2) (fun k y hk => ?_) (fun k y hk => (k7 _ y (hg k y hk)).2.of_flat1 (hcell k y hk).1)
    have h3 := hg k y hk
    have h4 := flat_len k6
    have h5 : xs.length * (μ o).sz≤(μ o).cap * (μ o).sz := Nat.mul_le_mul_right _ k5
    have h6 := (List.getElem?_eq_some_iff.1 h3).1
    rw [cell_of_row w (μ o).b _ vs (μ o).e (0,0) k3]
    have : off * (μ o).sz + k < vs.size := by rw [k4]; omega
    simp [this]
theorem specB_nil {P : Program} {f : FuncId} {fl : Bool} {r : A} (h1 : ∀ cap,SpecB P f [.v (.slice none 0 cap)] r) (h2 : ∀ a cap,SpecB P f [.v (.slice (some a) 0 cap)] r) : SpecB P f [.sl fl []] r := by
  refine ⟨(h1 0).1,fun w I J vs hI hJ htb hl hr => ?_⟩
  have h := hr 0 _ rfl
  have go : ∀ x,vs.getD 0 undef = x→∀ (k : Nat) (y : A),[A.v x][k]? = some y→Rel w (fun b => I b∨J b) mu0 y (vs.getD k undef) := fun x hx k y hk => by
    cases k with
    | zero => cases hk; rw [hx]; exact .v _ _
    | succ k => simp at hk
  generalize hq : vs.getD 0 undef = x at h
  cases h with
  | slN _ _ a cap _ =>
    cases a with
    | none => exact (h1 cap).2 w I J vs hI hJ htb hl (go _ hq)
    | some a => exact (h2 a cap).2 w I J vs hI hJ htb hl (go _ hq)
  | sl _ _ b off n cap sz _ g k1 k2 =>
    have : n = 0 := k2
    subst this
    exact (h2 _ cap).2 w I J vs hI hJ htb hl (go _ hq)
theorem blank_rel {w : World} {I : Nat→Prop} {μ : Mu} {d : Nm} {u sz : Nat} {v : Value} (h1 : Rel w I μ (.sl true []) v) (hu : (μ d).u = u) (h0 : 1≤u) (hz : (μ d).sz = sz) : Rel w I μ (.osl d u sz 0 0) v := by
  subst hu
  cases h1 with
  | slN _ _ q cap hc =>
    have := hc rfl
    subst this
    exact .osl _ _ _ _ _ _ _ _ h0 (Nat.le_refl _) (Nat.le_refl _) (fun h => by omega) (fun _ => ⟨hz,.inl ⟨rfl,rfl⟩⟩)
  | sl _ _ b off n cap z _ g h1 h2 h3 h4 =>
    have h5 : n = 0 := h2
    have h6 : cap = 0 := h4 rfl
    subst h5 h6
    exact .osl _ _ _ _ _ _ _ _ h0 (Nat.le_refl _) (Nat.le_refl _) (fun h => by omega) (fun _ => ⟨hz,.inl ⟨rfl,rfl⟩⟩)
theorem le_blankC {c : Cx} {s : Nat→A} {H : Hp} {d : Nm} {u : Nat} {cs : List A} (i : Nat) (d' : Nm) (sz : Nat) (hd : H d = ⟨u,.cells cs⟩) (hi : cs[i]? = some (.sl true [])) (hne : d ≠ d') :
    Le c ⟨s,H⟩ ⟨s,updF (updF H d' ⟨(H d').u + 1,.arr sz []⟩) d ⟨u,.cells (cs.set i (.osl d' ((H d').u + 1) sz 0 0))⟩⟩ := fun a w I μ hs => by
  obtain ⟨hx,hs'⟩ := hs.sim.upd (grownBy_refl w none) d' ⟨(H d').u + 1,false,0,0,sz,0⟩ (.arr sz []) (.inl rfl) (.inl (by rw [hs.sim.ver]; exact Nat.lt_succ_self _)) (fun h => nomatch h) (fun h => nomatch h) (fun hx => ⟨rfl,.inl ⟨rfl,rfl⟩⟩)
  have hd1 : (updF H d' ⟨(H d').u + 1,.arr sz []⟩ : Hp) d = ⟨u,.cells cs⟩ := by rw [updF_ne hne]; exact hd
  have hob := hs'.ob d
  rw [hd1] at hob
  obtain ⟨vs,k1,k2,k3⟩ := hob
  have hB : hasB (updF μ d' ⟨(H d').u + 1,false,0,0,sz,0⟩ d) ((updF H d' ⟨(H d').u + 1,.arr sz []⟩ : Hp) d).ob = true := by rw [hd1]; rfl
  obtain ⟨hx2,hs2⟩ := hs'.upd (grownBy_refl w none) d (updF μ d' ⟨(H d').u + 1,false,0,0,sz,0⟩ d) (.cells (cs.set i (.osl d' ((H d').u + 1) sz 0 0))) (.inl rfl) (.inr rfl) (fun _ => .inr ⟨hB,rfl⟩) (fun _ => hs'.tag _ hB) (fun hx2 => by
    refine ⟨vs,k1,by simpa using k2,fun k y hk => ?_⟩
    rw [updM_self]
    by_cases hki : k = i
    · subst hki
      have hlt : k < cs.length := (List.getElem?_eq_some_iff.1 hi).1
      rw [List.getElem?_set_self hlt] at hk
      cases hk
      exact ⟨rfl,blank_rel (k3 k _ hi).2 (by simp) (by omega) (by simp)⟩
    · rw [List.getElem?_set_ne (Ne.symm hki)] at hk
      exact k3 k y hk)
  have hu : (updF μ d' ⟨(H d').u + 1,false,0,0,sz,0⟩ d).u = u := by rw [hs'.ver,hd1]
  rw [hu] at hs2
  exact ⟨I,_,hs2,hs.size,hs.defers,fun t => hx2.rel (hx.rel (hs.rel t))⟩
def Part (H H' : Hp) : Prop := ∀ o,H' o = H o∨H' o = ⟨(H o).u,.none⟩
theorem Part.has {H H' : Hp} (h : Part H H') {L : Loc} {o : Nm} (k : hasB L (H' o).ob = true) : hasB L (H o).ob = true := by
  rcases h o with e | e
  · rw [← e]; exact k
  · rw [e] at k; cases k
theorem Part.ver {H H' : Hp} (h : Part H H') (o : Nm) : (H' o).u = (H o).u := by rcases h o with e | e <;> rw [e]
theorem Sim.part {c : Cx} {w : World} {I : Nat→Prop} {μ : Mu} {H H' : Hp} (hs : Sim c w I μ H) (h : Part H H') : Sim c w I μ H' :=
  ⟨hs.kept,hs.lt,hs.old,hs.new,fun o => by rw [h.ver,hs.ver],fun o => by
    rcases h o with e | e
    · rw [e]; exact hs.ob o
    · rw [e]; trivial,fun o o' k k' => hs.apart o o' (h.has k) (h.has k'),fun o k => hs.own o (h.has k),hs.mle,fun o k => hs.tag o (h.has k),hs.tab⟩
theorem Sim.freezeAll {c : Cx} {w : World} {I : Nat→Prop} {μ : Mu} {H H1 H2 : Hp} (hs : Sim c w I μ H) (h1 : Part H H1) (h2 : Part H H2) (hd : ∀ o,(H1 o).ob = .none∨(H2 o).ob = .none) (hM : ∀ o b,(H1 o).ob ≠ .none→¬ c.M0 o b) :
    Sim c w (fun b => I b∨Owned H1 μ b) μ H2 := by
  have hx : Ext I μ w (fun b => I b∨Owned H1 μ b) μ w := ⟨fun b h => .inl h,fun b h => rfl,MuLe.refl _⟩
  refine ⟨hs.kept,fun b h => ?_,fun b h => .inl (hs.old b h),fun b h => ?_,fun o => by rw [h2.ver,hs.ver],fun o => ?_,fun o o' k k' => hs.apart o o' (h2.has k) (h2.has k'),fun o k => ?_,hs.mle,fun o k => hs.tag o (h2.has k),hs.tab.mono (fun _ h => .inl h) (fun _ _ => rfl)⟩
  · rcases h with h | ⟨o,k,rfl⟩
    · exact hs.lt b h
    · exact (hs.own o (h1.has k)).2.2
  · rcases h with h | ⟨o,k,rfl⟩
    · exact hs.new b h
    · rcases (hs.own o (h1.has k)).2.1 with h | h
      · exact (hM _ _ (fun e => by rw [e] at k; cases k) h).elim
      · exact .inr h
  · rcases h2 o with e | e
    · rw [e]; exact OSim.keep hx (fun _ => rfl) (hs.ob o)
    · rw [e]; trivial
  · obtain ⟨k1,k2,k3⟩ := hs.own o (h2.has k)
    refine ⟨fun hh => ?_,k2,k3⟩
    rcases hh with hh | ⟨o',k',e⟩
    · exact k1 hh
    · refine hs.apart o o' (h2.has k) (h1.has k') (fun e => ?_) e.symm
      subst e
      rcases hd o with e | e
      · rw [e] at k'; cases k'
      · rw [e] at k; cases k
theorem le_freeze {c : Cx} {s : Nat→A} {H H1 H2 : Hp} (hM : ∀ o b,(H1 o).ob ≠ .none→¬ c.M0 o b) (t : Nat) (a : A) (h1 : Part H H1) (h2 : Part H H2) (hd : ∀ o,(H1 o).ob = .none∨(H2 o).ob = .none) (hf : Frz H1 (s t) a) : Le c ⟨s,H⟩ ⟨upd s t a,H2⟩ := fun x w I μ hs => by
  have h3 := hs.sim.freezeAll h1 h2 hd hM
  refine ⟨_,μ,h3,hs.size,hs.defers,fun k => ?_⟩
  show Rel w _ μ (upd s t a k) _
  unfold upd
  split
  · rename_i e
    subst e
    exact (hf c w I μ _ (hs.sim.part h1) (hs.rel k)).ofI
  · exact (hs.rel k).mono0 (fun b h => .inl h) (fun _ _ => rfl)
theorem le_freezeD {c : Cx} {s : Nat→A} {H : Hp} {d : Nm} (hM : ∀ b,¬ c.M0 d b) (t : Nat) (a : A) (hf : ∀ H1 : Hp,H1 d = H d→Frz H1 (s t) a) : Le c ⟨s,H⟩ ⟨upd s t a,updF H d ⟨(H d).u,.none⟩⟩ := by
  refine le_freeze (fun o b h => by
    by_cases e : o = d
    · subst e; exact hM b
    · exact absurd (by simp [e]) h) t a (H1 := fun o => if o = d then H o else ⟨(H o).u,.none⟩) (fun o => ?_) (fun o => ?_) (fun o => ?_) (hf _ (by simp))
  · by_cases h : o = d
    · exact .inl (by simp [h])
    · exact .inr (by simp [h])
  · by_cases h : o = d
    · subst h; exact .inr (by simp)
    · exact .inl (updF_ne h)
  · by_cases h : o = d
    · subst h; exact .inr (by simp)
    · exact .inl (by simp [h])
mutual
def A.soft : A→A
  | .sl _ xs => .sl false (A.softL xs)
  | .agg cs => .agg (A.softL cs)
  | .tup cs => .tup (A.softL cs)
  | .pim cs => .pim (A.softL cs)
  | .ifc t x => .ifc t (A.soft x)
  | .any => .any
  | .v x => .v x
  | .pob o u off => .pob o u off
  | .osl o u sz off len => .osl o u sz off len
  | .pel o u i j => .pel o u i j
  | .fnc f fs cs => .fnc f fs cs
def A.softL : List A→List A
  | [] => []
  | x :: xs => A.soft x :: A.softL xs
end
theorem softL_map : ∀ l : List A,A.softL l = l.map A.soft
  | [] => by simp [A.softL]
  | x :: l => by simp [A.softL,softL_map l]
theorem soft_cells (a : A) : a.soft.cells = a.cells.map A.soft := by cases a <;> simp [A.soft,A.cells,softL_map]
theorem soft_flat : ∀ l : List A,(l.map A.soft).flatMap A.cells = (l.flatMap A.cells).map A.soft
  | [] => rfl
  | x :: l => by simp [soft_cells,soft_flat l]
theorem soft_one (a : A) : a.soft.one = a.one := by cases a <;> simp [A.soft,A.one]
theorem Rel.soft {w : World} {I : Nat→Prop} {μ : Mu} {a : A} {x : Value} (h : Rel w I μ a x) : Rel w I μ a.soft x := by
  induction h with
  | any => simpa [A.soft] using Rel.any _ _
  | v => simpa [A.soft] using Rel.v _ _
  | slN μ f a cap h =>
    simp only [A.soft,A.softL]
    exact .slN _ _ _ _ (fun h => nomatch h)
  | sl μ f b off n cap sz xs g hb hn hc hf hs h1 hcell hr ih =>
    simp only [A.soft,softL_map]
    refine .sl _ _ b off n cap sz _ g hb (by simpa using hn) (by simpa using hc) (fun h => nomatch h) (fun x hx => ?_) (fun k y hk => ?_) (fun k y hk => ?_) (fun k y hk => ?_)
    · obtain ⟨x',hx',rfl⟩ := List.mem_map.1 hx
      simpa [soft_cells] using hs x' hx'
    all_goals
      rw [soft_flat,List.getElem?_map,Option.map_eq_some_iff] at hk
      obtain ⟨y',hy,rfl⟩ := hk
    · rw [soft_one]; exact h1 k y' hy
    · exact hcell k y' hy
    · exact ih k y' hy
  | agg μ cs vs hl _ ih =>
    simp only [A.soft,softL_map]
    refine .agg _ _ _ (by simpa using hl) fun k y hk => ?_
    rw [List.getElem?_map,Option.map_eq_some_iff] at hk
    obtain ⟨y',hy,rfl⟩ := hk
    exact ih k y' hy
  | tup μ cs vs hl _ ih =>
    simp only [A.soft,softL_map]
    refine .tup _ _ _ (by simpa using hl) fun k y hk => ?_
    rw [List.getElem?_map,Option.map_eq_some_iff] at hk
    obtain ⟨y',hy,rfl⟩ := hk
    exact ih k y' hy
  | pim μ b off cs g hb h1 hcell hr ih =>
    simp only [A.soft,softL_map]
    refine .pim _ b off _ g hb (fun k y hk => ?_) (fun k y hk => ?_) (fun k y hk => ?_)
    all_goals
      rw [List.getElem?_map,Option.map_eq_some_iff] at hk
      obtain ⟨y',hy,rfl⟩ := hk
    · rw [soft_one]; exact h1 k y' hy
    · exact hcell k y' hy
    · exact ih k y' hy
  | pob _ _ _ _ _ _ h1 h2 h3 => simpa [A.soft] using Rel.pob _ _ _ _ _ _ h1 h2 h3
  | osl _ _ _ _ _ _ _ _ h1 h2 h4 h5 h3 => simpa [A.soft] using Rel.osl _ _ _ _ _ _ _ _ h1 h2 h4 h5 h3
  | pel _ _ _ _ _ _ _ h1 h2 h3 => simpa [A.soft] using Rel.pel _ _ _ _ _ _ _ h1 h2 h3
  | fnc _ _ _ _ _ _ hl0 h0 hl h _ _ => simpa [A.soft] using Rel.fnc _ _ _ _ _ _ hl0 h0 hl h
  | ifc _ _ _ _ _ ih => simpa [A.soft] using Rel.ifc _ _ _ _ ih
theorem Spec.soft {P : Program} {f : FuncId} {as' as'' : List A} {r : A} (h : Spec P f as'' r) (e : A.softL as' = as'') : Spec P f as' r := by
  subst e
  refine ⟨h.1,fun w I vs hI ht hn ha => h.2 w I vs hI ht (by simpa [softL_map] using hn) fun k y hk => ?_⟩
  rw [softL_map,List.getElem?_map,Option.map_eq_some_iff] at hk
  obtain ⟨y',hy,rfl⟩ := hk
  exact (ha k y' hy).soft
theorem SpecB.soft {P : Program} {f : FuncId} {as' as'' : List A} {r : A} (h : SpecB P f as'' r) (e : A.softL as' = as'') : SpecB P f as' r := by
  subst e
  refine ⟨h.1,fun w I J vs hI hJ ht hn ha => h.2 w I J vs hI hJ ht (by simpa [softL_map] using hn) fun k y hk => ?_⟩
  rw [softL_map,List.getElem?_map,Option.map_eq_some_iff] at hk
  obtain ⟨y',hy,rfl⟩ := hk
  exact (ha k y' hy).soft
theorem frz_soft {H : Hp} {a : A} (h : a.bare = true) : Frz H a a.soft := fun c w I μ v hs hr => (frz_bare h c w I μ v hs hr).soft
mutual
def A.ren (g : Nm→Nm) (δ : Nm→Nat) : A→A
  | .pob o u off => .pob (g o) (u + δ o) off
  | .osl o u sz off len => .osl (g o) (u + δ o) sz off len
  | .pel o u i j => .pel (g o) (u + δ o) i j
  | .agg cs => .agg (A.renL g δ cs)
  | .tup cs => .tup (A.renL g δ cs)
  | .fnc f fs cs => .fnc f (A.renL g δ fs) (A.renL g δ cs)
  | .ifc t x => .ifc t (A.ren g δ x)
  | .any => .any
  | .v x => .v x
  | .sl f xs => .sl f xs
  | .pim cs => .pim cs
def A.renL (g : Nm→Nm) (δ : Nm→Nat) : List A→List A
  | [] => []
  | x :: xs => A.ren g δ x :: A.renL g δ xs
end
mutual
def A.refs (S : Nm→Prop) : A→Prop
  | .pob o u off => S o
  | .osl o u sz off len => S o
  | .pel o u i j => S o
  | .agg cs => A.refsL S cs
  | .tup cs => A.refsL S cs
  | .fnc f fs cs => A.refsL S fs∧A.refsL S cs
  | .ifc t x => A.refs S x
  | .any => True
  | .v x => True
  | .sl f xs => True
  | .pim cs => True
def A.refsL (S : Nm→Prop) : List A→Prop
  | [] => True
  | x :: xs => A.refs S x∧A.refsL S xs
end
theorem renL_map {g : Nm→Nm} {δ : Nm→Nat} : ∀ l : List A,A.renL g δ l = l.map (A.ren g δ)
  | [] => by simp [A.renL]
  | x :: l => by simp [A.renL,renL_map l]
theorem refsL_iff {S : Nm→Prop} : ∀ {l : List A},A.refsL S l ↔ ∀ x,x ∈ l→x.refs S
  | [] => by simp [A.refsL]
  | x :: l => by simp [A.refsL,refsL_iff (l := l)]
theorem ren_cells {g : Nm→Nm} {δ : Nm→Nat} (a : A) : (a.ren g δ).cells = a.cells.map (A.ren g δ) := by cases a <;> simp [A.ren,A.cells,renL_map]
theorem ren_flat {g : Nm→Nm} {δ : Nm→Nat} : ∀ l : List A,(l.map (A.ren g δ)).flatMap A.cells = (l.flatMap A.cells).map (A.ren g δ)
  | [] => rfl
  | x :: l => by simp [ren_cells,ren_flat l]
theorem ren_one {g : Nm→Nm} {δ : Nm→Nat} (a : A) : (a.ren g δ).one = a.one := by cases a <;> simp [A.ren,A.one]
theorem refs_cells {S : Nm→Prop} {a y : A} (h : a.refs S) (hy : y ∈ a.cells) : y.refs S := by
  cases a <;> simp [A.cells] at hy <;> first | (subst hy; exact h) | exact refsL_iff.1 (by simpa [A.refs] using h) y hy
theorem Rel.ren {w : World} {I : Nat→Prop} {μ : Mu} {a : A} {v : Value} (h : Rel w I μ a v) : ∀ {μ' : Mu} {S : Nm→Prop} {g : Nm→Nm} {δ : Nm→Nat},a.refs S→(∀ o,S o→1≤(μ o).u→μ' (g o) = { μ o with u := (μ o).u + δ o })→Rel w I μ' (a.ren g δ) v := by
  induction h with
  | any => intro μ' S g δ _ _; simpa [A.ren] using Rel.any _ _
  | v => intro μ' S g δ _ _; simpa [A.ren] using Rel.v _ _
  | slN _ _ _ _ h => intro μ' S g δ _ _; simpa [A.ren] using Rel.slN _ _ _ _ h
  | sl μ f b off n cap sz xs g hb hn hc hf hs h1 hcell hr _ => intro μ' S g' δ _ _; simpa [A.ren] using Rel.sl _ f b off n cap sz xs g hb hn hc hf hs h1 hcell hr
  | pim μ b off cs g hb h1 hcell hr _ => intro μ' S g' δ _ _; simpa [A.ren] using Rel.pim _ b off cs g hb h1 hcell hr
  | agg μ cs vs hl _ ih =>
    intro μ' S g δ hS hμ
    simp only [A.ren,renL_map]
    refine .agg _ _ _ (by simpa using hl) fun k y hk => ?_
    rw [List.getElem?_map,Option.map_eq_some_iff] at hk
    obtain ⟨y',hy,rfl⟩ := hk
    exact ih k y' hy (refsL_iff.1 (by simpa [A.refs] using hS) y' (List.mem_of_getElem? hy)) hμ
  | tup μ cs vs hl _ ih =>
    intro μ' S g δ hS hμ
    simp only [A.ren,renL_map]
    refine .tup _ _ _ (by simpa using hl) fun k y hk => ?_
    rw [List.getElem?_map,Option.map_eq_some_iff] at hk
    obtain ⟨y',hy,rfl⟩ := hk
    exact ih k y' hy (refsL_iff.1 (by simpa [A.refs] using hS) y' (List.mem_of_getElem? hy)) hμ
  | fnc μ f fs caps us vs hl0 _ hl _ ih0 ih =>
    intro μ' S g δ hS hμ
    simp only [A.refs] at hS
    simp only [A.ren,renL_map]
    refine .fnc _ _ _ _ _ _ (by simpa using hl0) (fun k y hk => ?_) (by simpa using hl) fun k y hk => ?_
    · rw [List.getElem?_map,Option.map_eq_some_iff] at hk
      obtain ⟨y',hy,rfl⟩ := hk
      exact ih0 k y' hy (refsL_iff.1 hS.1 y' (List.mem_of_getElem? hy)) hμ
    · rw [List.getElem?_map,Option.map_eq_some_iff] at hk
      obtain ⟨y',hy,rfl⟩ := hk
      exact ih k y' hy (refsL_iff.1 hS.2 y' (List.mem_of_getElem? hy)) hμ
  | ifc _ _ _ _ _ ih =>
    intro μ' S g δ hS hμ
    simp only [A.ren]
    exact .ifc _ _ _ _ (ih (by simpa [A.refs] using hS) hμ)
  | pob μ o u off b k h1 h2 h3 =>
    intro μ' S g δ hS hμ
    have e := hμ o (by simpa [A.refs] using hS) (by omega)
    simp only [A.ren]
    exact .pob _ _ _ _ _ _ (by omega) (by rw [e]; simpa using h2) fun hu => by rw [e] at hu ⊢; exact h3 (by simpa using hu)
  | osl μ o u sz off len a cap h1 h2 h4 h5 h3 =>
    intro μ' S g δ hS hμ
    have e := hμ o (by simpa [A.refs] using hS) (by omega)
    simp only [A.ren]
    exact .osl _ _ _ _ _ _ _ _ (by omega) (by rw [e]; simpa using h2) h4 h5 fun hu => by rw [e] at hu ⊢; exact h3 (by simpa using hu)
  | pel μ o u i j b k h1 h2 h3 =>
    intro μ' S g δ hS hμ
    have e := hμ o (by simpa [A.refs] using hS) (by omega)
    simp only [A.ren]
    exact .pel _ _ _ _ _ _ _ (by omega) (by rw [e]; simpa using h2) fun hu => by rw [e] at hu ⊢; exact h3 (by simpa using hu)
def Ob.ren (g : Nm→Nm) (δ : Nm→Nat) : Ob→Ob
  | .none => .none
  | .cells cs => .cells (A.renL g δ cs)
  | .arr sz xs => .arr sz (A.renL g δ xs)
def Ob.refs (S : Nm→Prop) : Ob→Prop
  | .none => True
  | .cells cs => A.refsL S cs
  | .arr sz xs => A.refsL S xs
theorem hasB_ren {g : Nm→Nm} {δ : Nm→Nat} {L : Loc} {ob : Ob} : hasB L (ob.ren g δ) = hasB L ob := by cases ob <;> rfl
theorem OSim.ren {w : World} {I : Nat→Prop} {μ μ' : Mu} {L L' : Loc} {ob : Ob} {S : Nm→Prop} {g : Nm→Nm} {δ : Nm→Nat} (h : OSim w I μ L ob) (hS : ob.refs S) (hμ : ∀ o,S o→1≤(μ o).u→μ' (g o) = { μ o with u := (μ o).u + δ o }) (hL : L' = { L with u := L'.u }) :
    OSim w I μ' L' (ob.ren g δ) := by
  rw [hL]
  cases ob with
  | none => trivial
  | cells cs =>
    obtain ⟨vs,h1,h2,h3⟩ := h
    simp only [Ob.ren,renL_map]
    refine ⟨vs,h1,by simpa using h2,fun k y hk => ?_⟩
    rw [List.getElem?_map,Option.map_eq_some_iff] at hk
    obtain ⟨y',hy,rfl⟩ := hk
    exact ⟨by rw [ren_one]; exact (h3 k y' hy).1,(h3 k y' hy).2.ren (refsL_iff.1 hS y' (List.mem_of_getElem? hy)) hμ⟩
  | arr sz xs =>
    simp only [Ob.ren,renL_map]
    obtain ⟨h0,⟨h1,h2⟩ | ⟨h1,vs,h3,h4,h5,h6,h7⟩⟩ := h
    · exact ⟨h0,.inl ⟨h1,by rw [h2]; rfl⟩⟩
    · refine ⟨h0,.inr ⟨h1,vs,h3,h4,by simpa using h5,fun x hx => ?_,fun k y hk => ?_⟩⟩
      · obtain ⟨x',hx',rfl⟩ := List.mem_map.1 hx
        simpa [ren_cells] using h6 x' hx'
      · rw [ren_flat,List.getElem?_map,Option.map_eq_some_iff] at hk
        obtain ⟨y',hy,rfl⟩ := hk
        obtain ⟨x,hx,hy'⟩ := List.mem_flatMap.1 (List.mem_of_getElem? hy)
        exact ⟨by rw [ren_one]; exact (h7 k y' hy).1,(h7 k y' hy).2.ren (refs_cells (refsL_iff.1 hS x hx) hy') hμ⟩
def cxh (P : Program) (w0 : World) (I0 : Nat→Prop) (M0 : Nm→Nat→Prop) (n : Nat) (m0 : Mu) : Cx := ⟨P,w0,I0,M0,n,m0⟩
@[simp] theorem cxh_P {P : Program} {w0 : World} {I0 : Nat→Prop} {M0 : Nm→Nat→Prop} {n : Nat} {m0 : Mu} : (cxh P w0 I0 M0 n m0).P = P := rfl
def SpecH (P : Program) (f : FuncId) (k : Nat) (args : List A) (Hc : Hp) (r : A) (Hr : Hp) : Prop :=
  okFn P f = true∧∀ (w : World) (I : Nat→Prop) (M0 : Nm→Nat→Prop) (n : Nat) (μ : Mu) (vs : Array Value),(∀ (o : Nm) (b : Nat),(Hc o).ob = .none→¬ M0 o b)→Sim (cxh P w I M0 n μ) w I μ Hc→vs.size = args.length→(∀ (k : Nat) (y : A),args[k]? = some y→Rel w I μ y (vs.getD k undef)) →
    Calls P f vs w fun e w' => ∃ v,e = .returned v∧∃ H' I' μ',Sim (cxh P w I M0 n μ) w' I' μ' H'∧Rel w' I' μ' r v∧∀ (i : Nat) (p : Nm),i < k→H' (i :: p) = Hr (i :: p)
theorem Sim.of_n {P : Program} {w0 w : World} {I0 I : Nat→Prop} {M0 : Nm→Nat→Prop} {n n' : Nat} {m0 μ : Mu} {H : Hp} (h : Sim (cxh P w0 I0 M0 n m0) w I μ H) : Sim (cxh P w0 I0 M0 n' m0) w I μ H :=
  ⟨h.kept,h.lt,h.old,h.new,h.ver,h.ob,h.apart,h.own,h.mle,h.tag,h.tab⟩
def RetH (c : Cx) (rs : List ResultVar) (k : Nat) (r : A) (Hr : Hp) : Exit→Sta→Prop := fun e st => StopK c (RetG c.P rs (fun r0 H => r0 = r∧∀ (i : Nat) (p : Nm),i < k→H (i :: p) = Hr (i :: p)) e) st
theorem reth_ret {c : Cx} {rs : List ResultVar} {k : Nat} {r r0 : A} {Hr : Hp} {st : Sta} (h : resA c.P st rs = some r0) (he : r0 = r) (hh : ∀ (i : Nat) (p : Nm),i < k→st.H (i :: p) = Hr (i :: p)) : RetH c rs k r Hr .ret st := stop_go ⟨r0,h,he,hh⟩
theorem reth_normal {c : Cx} {rs : List ResultVar} {k : Nat} {r r0 : A} {Hr : Hp} {st : Sta} (h : resA c.P st rs = some r0) (he : r0 = r) (hh : ∀ (i : Nat) (p : Nm),i < k→st.H (i :: p) = Hr (i :: p)) : RetH c rs k r Hr .normal st := stop_go ⟨r0,h,he,hh⟩
theorem specH_of' {P : Program} {f : FuncId} {n k : Nat} {rs : List ResultVar} {cc : CC} {args : List A} {Hc : Hp} {r : A} {Hr : Hp} (t : Txt P f n rs cc) (ha : args.length≤n)
    (h : ∀ w0 I0 M0 m0,(∀ (o : Nm) (b : Nat),(Hc o).ob = .none→¬ M0 o b)→WPC (cxh P w0 I0 M0 n m0) cc (RetH (cxh P w0 I0 M0 n m0) rs k r Hr) ⟨argS args,Hc⟩) : SpecH P f k args Hc r Hr := by
  obtain ⟨hm,hk,fn,code,hf,hb,hn,hrs,hc⟩ := t
  refine ⟨hk,fun w I M0 n' μ vs hN hs hl har => ?_⟩
  refine (body_run (Q := fun r0 H => r0 = r∧∀ (i : Nat) (p : Nm),i < k→H (i :: p) = Hr (i :: p)) hf hb (c := cxh P w I M0 n μ) rfl hn.symm hl (by omega) (Sim.of_n hs) har (fun a w1 I1 μ1 hsr => wp_mono (wpc_sound (c := cxh P w I M0 n μ) hm hc (h w I M0 μ hN) a w1 I1 μ1 hsr) fun e a' w' ⟨st',I',μ',g1,st2,g2,g3⟩ => by
      obtain ⟨I2,μ2,g4⟩ := g2 a' w' I' μ' g1
      exact ⟨st2,I2,μ2,g4,by rw [hrs]; exact g3⟩)).mono fun e w' ⟨v,r0,H',I',μ',he,h1,h2,h3,h4⟩ => ?_
  subst h3
  exact ⟨v,he,H',I',μ',h1.of_n,h2,h4⟩
theorem specH_of {P : Program} {f : FuncId} {n k : Nat} {rs : List ResultVar} {cc : CC} {args : List A} {Hc : Hp} {r : A} {Hr : Hp} (t : Txt P f n rs cc) (ha : args.length≤n)
    (h : ∀ w0 I0 M0 m0,WPC (cxh P w0 I0 M0 n m0) cc (RetH (cxh P w0 I0 M0 n m0) rs k r Hr) ⟨argS args,Hc⟩) : SpecH P f k args Hc r Hr := specH_of' t ha fun w0 I0 M0 m0 _ => h w0 I0 M0 m0
def upN (rs : List Nat) : Nm→Nm
  | i :: p => rs.getD i 0 :: p
  | [] => []
def dnN (rs : List Nat) : Nm→Nm
  | j :: p => rs.idxOf j :: p
  | [] => []
def inS (rs : List Nat) (m : Nat) : Nm→Prop
  | j :: p => rs.idxOf j < m
  | [] => False
def outS (k : Nat) : Nm→Prop
  | i :: p => i < k
  | [] => False
def dlt (rs : List Nat) (m : Nat) (H : Hp) : Nm→Nat
  | i :: p => if i < m then 0 else if i < rs.length then (H (rs.getD i 0 :: p)).u else 0
  | [] => 0
def VOb.ren (g : Nm→Nm) (δ : Nm→Nat) (d : Nat) (x : VOb) : VOb := ⟨x.u + d,x.ob.ren g δ⟩
def outH (rs : List Nat) (m : Nat) (H Hr : Hp) : Hp
  | j :: p => (Hr (rs.idxOf j :: p)).ren (upN rs) (dlt rs m H) (dlt rs m H (rs.idxOf j :: p))
  | [] => ⟨0,.none⟩
theorem idx_getD {rs : List Nat} (hnd : rs.Nodup) {i : Nat} (h : i < rs.length) : rs.idxOf (rs.getD i 0) = i := by
  have e : rs.getD i 0 = rs[i] := by simp [List.getD,h]
  rw [e]
  exact hnd.idxOf_getElem i h
theorem getD_idx {rs : List Nat} {j : Nat} (h : j ∈ rs) : rs.getD (rs.idxOf j) 0 = j := by
  have hl := List.idxOf_lt_length_iff.2 h
  simp [List.getD,hl]
theorem idx_mem {rs : List Nat} {j : Nat} : rs.idxOf j < rs.length ↔ j ∈ rs := List.idxOf_lt_length_iff
theorem obren_none {g : Nm→Nm} {δ : Nm→Nat} {d : Nat} {x : VOb} (h : (x.ren g δ d).ob = .none) : x.ob = .none := by
  cases x with
  | mk u ob => cases ob <;> first | rfl | cases h
theorem callOK_of {P : Program} {f : FuncId} {rs : List Nat} {m : Nat} {args : List A} {Hc Hr : Hp} {r : A} {H : Hp} (hnd : rs.Nodup) (hm : m≤rs.length)
    (hS : SpecH P f rs.length (A.renL (dnN rs) (fun _ => 0) args) Hc r Hr)
    (h1 : ∀ (i : Nat) (p : Nm),i < m→Hc (i :: p) = (H (rs.getD i 0 :: p)).ren (dnN rs) (fun _ => 0) 0) (h2 : ∀ (i : Nat) (p : Nm),m≤i→Hc (i :: p) = ⟨0,.none⟩) (h3 : Hc [] = ⟨0,.none⟩)
    (ha : A.refsL (inS rs m) args) (hc : ∀ (i : Nat) (p : Nm),i < m→(H (rs.getD i 0 :: p)).ob.refs (inS rs m))
    (hr : r.refs (outS rs.length)) (ho : ∀ (i : Nat) (p : Nm),i < rs.length→(Hr (i :: p)).ob.refs (outS rs.length))
    (hv : ∀ (i : Nat) (p : Nm),m≤i→i < rs.length→(Hr (i :: p)).ob = .none∨1≤(Hr (i :: p)).u) :
    CallOK P H f args (r.ren (upN rs) (dlt rs m H)) (.fn rs (outH rs m H Hr)) := by
  refine ⟨hS.1,fun c w I μ vs hP hs hl har => ?_⟩
  let nm : Nat→Nm→Nm := fun i p => rs.getD i 0 :: p
  let μc : Mu := fun o => match o with
    | i :: p => if i < m then μ (nm i p) else mu0 (i :: p)
    | [] => mu0 []
  let M1 : Nm→Nat→Prop := fun o b => ∃ i p,o = i :: p∧i < m∧hasB (μ (nm i p)) (H (nm i p)).ob = true∧b = (μ (nm i p)).b
  have hμ : ∀ o,inS rs m o→1≤(μ o).u→μc (dnN rs o) = { μ o with u := (μ o).u + (fun _ => 0) o } := fun o ho _ => by
    cases o with
    | nil => exact ho.elim
    | cons j p =>
      have hj : rs.idxOf j < m := ho
      show (if rs.idxOf j < m then μ (nm (rs.idxOf j) p) else _) = _
      rw [if_pos hj]
      have : nm (rs.idxOf j) p = j :: p := by show rs.getD (rs.idxOf j) 0 :: p = _; rw [getD_idx (idx_mem.1 (by omega))]
      rw [this]
      rfl
  have nm_ne : ∀ {i i' : Nat} {p p' : Nm},i < rs.length→i' < rs.length→i :: p ≠ i' :: p'→nm i p ≠ nm i' p' := fun {i i' p p'} hi hi' hne e => by
    have e1 : rs.getD i 0 = rs.getD i' 0 := by injection e
    have e2 : p = p' := by injection e
    have := idx_getD hnd hi
    rw [e1,idx_getD hnd hi'] at this
    exact hne (by rw [this,e2])
  have own1 : ∀ (i : Nat) (p : Nm),hasB (μc (i :: p)) (Hc (i :: p)).ob = true→i < m∧hasB (μ (nm i p)) (H (nm i p)).ob = true∧μc (i :: p) = μ (nm i p) := fun i p h => by
    by_cases hi : i < m
    · have e : μc (i :: p) = μ (nm i p) := if_pos hi
      rw [e,h1 i p hi] at h
      simp only [VOb.ren,hasB_ren] at h
      exact ⟨hi,h,e⟩
    · rw [h2 i p (by omega)] at h; cases h
  have start : Sim (cxh P w I M1 0 μc) w I μc Hc := by
    refine ⟨⟨rfl,rfl,rfl,Nat.le_refl _,fun _ _ _ => rfl⟩,hs.lt,fun _ h => h,fun b hb => .inl hb,fun o => ?_,fun o => ?_,fun o o' k k' hne => ?_,fun o k => ?_,MuLe.refl _,fun o k => ?_,by subst hP; exact hs.tab⟩
    · cases o with
      | nil => rw [h3]; rfl
      | cons i p =>
        by_cases hi : i < m
        · have e : μc (i :: p) = μ (nm i p) := if_pos hi
          rw [e,h1 i p hi,hs.ver]; rfl
        · have e : μc (i :: p) = mu0 (i :: p) := if_neg hi
          rw [e,h2 i p (by omega)]; rfl
    · cases o with
      | nil => rw [h3]; trivial
      | cons i p =>
        by_cases hi : i < m
        · have e : μc (i :: p) = μ (nm i p) := if_pos hi
          rw [e,h1 i p hi]
          exact (hs.ob (nm i p)).ren (hc i p hi) hμ rfl
        · rw [h2 i p (by omega)]; trivial
    · cases o with
      | nil => rw [h3] at k; cases k
      | cons i p =>
        cases o' with
        | nil => rw [h3] at k'; cases k'
        | cons i' p' =>
          obtain ⟨q1,q2,q3⟩ := own1 i p k
          obtain ⟨r1,r2,r3⟩ := own1 i' p' k'
          rw [q3,r3]
          exact hs.apart _ _ q2 r2 (nm_ne (by omega) (by omega) hne)
    · cases o with
      | nil => rw [h3] at k; cases k
      | cons i p =>
        obtain ⟨q1,q2,q3⟩ := own1 i p k
        rw [q3]
        obtain ⟨g1,g2,g3⟩ := hs.own _ q2
        exact ⟨g1,.inl ⟨i,p,rfl,q1,q2,rfl⟩,g3⟩
    · cases o with
      | nil => rw [h3] at k; cases k
      | cons i p =>
        obtain ⟨q1,q2,q3⟩ := own1 i p k
        rw [q3]
        exact hs.tag _ q2
  have harg : ∀ (k : Nat) (y : A),(A.renL (dnN rs) (fun _ => 0) args)[k]? = some y→Rel w I μc y (vs.getD k undef) := fun k y hk => by
    rw [renL_map,List.getElem?_map,Option.map_eq_some_iff] at hk
    obtain ⟨y',hy,rfl⟩ := hk
    exact (har k y' hy).ren (refsL_iff.1 ha y' (List.mem_of_getElem? hy)) hμ
  refine (hS.2 w I M1 0 μc vs (fun o b h ⟨i,p,e,hi,hb,_⟩ => by
    subst e
    rw [h1 i p hi] at h
    rw [show (H (nm i p)).ob = .none from obren_none h] at hb
    cases hb) start (by simpa [renL_map] using hl) harg).mono fun e w' ⟨v,he,H',I',μ',hs',hrel,hH'⟩ => ⟨v,he,I',?_⟩
  let δ := dlt rs m H
  let μ2 : Mu := fun n => match n with
    | j :: p => if j ∈ rs then (if rs.idxOf j < m∨1≤(μ' (rs.idxOf j :: p)).u then { μ' (rs.idxOf j :: p) with u := (μ' (rs.idxOf j :: p)).u + δ (rs.idxOf j :: p) } else μ (j :: p)) else μ (j :: p)
    | [] => μ []
  have δ0 : ∀ {i : Nat} {p : Nm},i < m→δ (i :: p) = 0 := fun {i p} h => if_pos h
  have δ1 : ∀ {i : Nat} {p : Nm},¬ i < m→i < rs.length→δ (i :: p) = (H (nm i p)).u := fun {i p} h h' => by
    show (if i < m then _ else _) = _
    rw [if_neg h,if_pos h']
  have nmj : ∀ {j : Nat} {p : Nm},j ∈ rs→nm (rs.idxOf j) p = j :: p := fun {j p} h => by show rs.getD (rs.idxOf j) 0 :: p = _; rw [getD_idx h]
  have app_in : ∀ {j : Nat} {p : Nm},j ∈ rs→(Eff.fn rs (outH rs m H Hr)).app H (j :: p) = outH rs m H Hr (j :: p) := fun {j p} h => by simp [Eff.app,h]
  have app_out : ∀ {j : Nat} {p : Nm},j ∉ rs→(Eff.fn rs (outH rs m H Hr)).app H (j :: p) = H (j :: p) := fun {j p} h => by simp [Eff.app,h]
  have app_nil' : (Eff.fn rs (outH rs m H Hr)).app H [] = H [] := rfl
  have mu_in : ∀ {j : Nat} {p : Nm},j ∈ rs→(rs.idxOf j < m∨1≤(μ' (rs.idxOf j :: p)).u)→μ2 (j :: p) = { μ' (rs.idxOf j :: p) with u := (μ' (rs.idxOf j :: p)).u + δ (rs.idxOf j :: p) } := fun {j p} h h' => by
    show (if j ∈ rs then _ else _) = _
    rw [if_pos h,if_pos h']
  have mu_old : ∀ {j : Nat} {p : Nm},j ∈ rs→¬ (rs.idxOf j < m∨1≤(μ' (rs.idxOf j :: p)).u)→μ2 (j :: p) = μ (j :: p) := fun {j p} h h' => by
    show (if j ∈ rs then _ else _) = _
    rw [if_pos h,if_neg h']
  have mu_out : ∀ {j : Nat} {p : Nm},j ∉ rs→μ2 (j :: p) = μ (j :: p) := fun {j p} h => by
    show (if j ∈ rs then _ else _) = _
    rw [if_neg h]
  have hle : MuLe μ μ2 := fun o => by
    cases o with
    | nil => exact ⟨Nat.le_refl _,fun _ => rfl⟩
    | cons j p =>
      by_cases hj : j ∈ rs
      · by_cases hi : rs.idxOf j < m
        · rw [mu_in hj (.inl hi),δ0 hi]
          have e : μc (rs.idxOf j :: p) = μ (j :: p) := by
            show (if rs.idxOf j < m then _ else _) = _
            rw [if_pos hi,nmj hj]
          have := hs'.mle (rs.idxOf j :: p)
          change (μc (rs.idxOf j :: p)).u≤_∧(_ = (μc (rs.idxOf j :: p)).u→_ = μc (rs.idxOf j :: p)) at this
          rw [e] at this
          exact ⟨this.1,fun q => by rw [← this.2 q]; rfl⟩
        · by_cases hu : 1≤(μ' (rs.idxOf j :: p)).u
          · rw [mu_in hj (.inr hu),δ1 hi (idx_mem.2 hj),nmj hj,← hs.ver]
            exact ⟨by simp,fun q => by simp at q; omega⟩
          · rw [mu_old hj (by omega)]; exact ⟨Nat.le_refl _,fun _ => rfl⟩
      · rw [mu_out hj]; exact ⟨Nat.le_refl _,fun _ => rfl⟩
  have notM1 : ∀ {n : Nm} {b : Nat},hasB (μ n) (H n).ob = true→b = (μ n).b→(∀ j p,n = j :: p→j ∉ rs)→¬ ∃ o,M1 o b := fun {n b} hb e hn ⟨_,i,p,_,q1,q2,q3⟩ => by
    refine hs.apart n (nm i p) hb q2 (fun e' => ?_) (by rw [← e,q3])
    refine hn _ _ e' ?_
    have : i < rs.length := by omega
    simp [List.getD,this]
  have hx : Ext I μ w I' μ2 w' := ⟨fun b h => hs'.old b h,fun b h => hs'.kept.block b (hs.lt b h) (fun ⟨_,i,p,_,q1,q2,q3⟩ => (hs.own _ q2).1 (by rw [← q3]; exact h)),hle⟩
  have hμ2 : ∀ o,outS rs.length o→1≤(μ' o).u→μ2 (upN rs o) = { μ' o with u := (μ' o).u + δ o } := fun o ho h1 => by
    cases o with
    | nil => exact ho.elim
    | cons i p =>
      have hi : i < rs.length := ho
      have e := idx_getD hnd hi
      have hmem : rs.getD i 0 ∈ rs := idx_mem.1 (by rw [e]; exact hi)
      show μ2 (rs.getD i 0 :: p) = _
      rw [mu_in hmem (.inr (by rw [e]; exact h1)),e]
  have oH : ∀ {j : Nat} {p : Nm},j ∈ rs→(H' (rs.idxOf j :: p)) = Hr (rs.idxOf j :: p) := fun {j p} h => hH' _ _ (idx_mem.2 h)
  have own2 : ∀ {j : Nat} {p : Nm},j ∈ rs→hasB (μ2 (j :: p)) (outH rs m H Hr (j :: p)).ob = true→hasB (μ' (rs.idxOf j :: p)) (H' (rs.idxOf j :: p)).ob = true∧(μ2 (j :: p)).b = (μ' (rs.idxOf j :: p)).b := fun {j p} hj h => by
    simp only [outH,VOb.ren,hasB_ren] at h
    by_cases hi : rs.idxOf j < m∨1≤(μ' (rs.idxOf j :: p)).u
    · rw [mu_in hj hi] at h ⊢
      rw [oH hj]
      exact ⟨by cases hq : (Hr (rs.idxOf j :: p)).ob <;> rw [hq] at h <;> exact h,rfl⟩
    · rcases hv (rs.idxOf j) p (by omega) (idx_mem.2 hj) with e | e
      · rw [e] at h; cases h
      · rw [← oH hj,← hs'.ver] at e; omega
  have own3 : ∀ {j : Nat} {p : Nm},j ∈ rs→hasB (μ2 (j :: p)) (outH rs m H Hr (j :: p)).ob = true→(μ2 (j :: p)).e = (μ' (rs.idxOf j :: p)).e := fun {j p} hj h => by
    simp only [outH,VOb.ren,hasB_ren] at h
    by_cases hi : rs.idxOf j < m∨1≤(μ' (rs.idxOf j :: p)).u
    · rw [mu_in hj hi]
    · rcases hv (rs.idxOf j) p (by omega) (idx_mem.2 hj) with e | e
      · rw [e] at h; cases h
      · rw [← oH hj,← hs'.ver] at e; omega
  have blk : ∀ {i : Nat} {p : Nm},hasB (μ' (i :: p)) (H' (i :: p)).ob = true→¬ I' (μ' (i :: p)).b∧(M1 (i :: p) (μ' (i :: p)).b∨w.heap.size≤(μ' (i :: p)).b)∧(μ' (i :: p)).b < w'.heap.size := fun {i p} h => hs'.own _ h
  refine ⟨μ2,hx,⟨?_,hs'.lt,fun b h => hs'.old b (hs.old b h),fun b h => ?_,fun o => ?_,fun o => ?_,fun o o' k k' hne => ?_,fun o k => ?_,hs.mle.trans hle,fun o k => ?_,by subst hP; exact hs'.tab⟩,hrel.ren hr hμ2⟩
  · have k1 := hs.kept
    have k2 := hs'.kept
    refine ⟨k2.os.trans k1.os,k2.tape.trans k1.tape,k2.output.trans k1.output,Nat.le_trans k1.size k2.size,fun b hb hM => ?_⟩
    refine (k2.block b (Nat.lt_of_lt_of_le hb k1.size) (fun ⟨_,i,p,_,q1,q2,q3⟩ => ?_)).trans (k1.block b hb hM)
    rcases (hs.own _ q2).2.1 with g | g
    · rw [← q3] at g; exact hM ⟨_,g⟩
    · rw [← q3] at g; omega
  · rcases hs'.new b h with g | g
    · exact hs.new b g
    · exact .inr (Nat.le_trans hs.kept.size g)
  · cases o with
    | nil => exact hs.ver []
    | cons j p =>
      by_cases hj : j ∈ rs
      · rw [app_in hj]
        show _ = (Hr (rs.idxOf j :: p)).u + δ (rs.idxOf j :: p)
        rw [← oH hj,← hs'.ver]
        by_cases hi : rs.idxOf j < m∨1≤(μ' (rs.idxOf j :: p)).u
        · rw [mu_in hj hi]
        · rw [mu_old hj hi,δ1 (by omega) (idx_mem.2 hj),nmj hj,hs.ver]; omega
      · rw [app_out hj,mu_out hj]; exact hs.ver _
  · cases o with
    | nil => exact OSim.keep hx (fun hb => hs'.kept.block _ (hs.own _ hb).2.2 (notM1 hb rfl (fun j p e => nomatch e))) (hs.ob [])
    | cons j p =>
      by_cases hj : j ∈ rs
      · rw [app_in hj]
        by_cases hi : rs.idxOf j < m∨1≤(μ' (rs.idxOf j :: p)).u
        · rw [mu_in hj hi]
          have := hs'.ob (rs.idxOf j :: p)
          rw [oH hj] at this
          exact this.ren (ho _ _ (idx_mem.2 hj)) hμ2 rfl
        · rcases hv (rs.idxOf j) p (by omega) (idx_mem.2 hj) with e | e
          · simp only [outH,VOb.ren,e]; trivial
          · rw [← oH hj,← hs'.ver] at e; omega
      · rw [app_out hj,mu_out hj]
        exact OSim.keep hx (fun hb => hs'.kept.block _ (hs.own _ hb).2.2 (notM1 hb rfl (fun j' p' e => by cases e; exact hj))) (hs.ob _)
  · have cross : ∀ {j : Nat} {p : Nm} {n : Nm},j ∈ rs→hasB (μ2 (j :: p)) (outH rs m H Hr (j :: p)).ob = true→hasB (μ n) (H n).ob = true→(∀ j p,n = j :: p→j ∉ rs)→(μ2 (j :: p)).b ≠ (μ n).b := fun {j p n} hj h h' hn e => by
      obtain ⟨q1,q2⟩ := own2 hj h
      obtain ⟨_,g,_⟩ := blk q1
      rw [q2] at e
      rcases g with g | g
      · exact notM1 h' e hn ⟨_,g⟩
      · have := (hs.own _ h').2.2; omega
    cases o with
    | nil =>
      cases o' with
      | nil => exact (hne rfl).elim
      | cons j' p' =>
        by_cases hj' : j' ∈ rs
        · rw [app_in hj'] at k'
          exact Ne.symm (cross hj' k' k (fun j p e => nomatch e))
        · rw [app_out hj',mu_out hj'] at k'
          rw [mu_out hj']
          exact hs.apart _ _ k k' hne
    | cons j p =>
      by_cases hj : j ∈ rs
      · rw [app_in hj] at k
        cases o' with
        | nil => exact cross hj k k' (fun j p e => nomatch e)
        | cons j' p' =>
          by_cases hj' : j' ∈ rs
          · rw [app_in hj'] at k'
            obtain ⟨q1,q2⟩ := own2 hj k
            obtain ⟨r1,r2⟩ := own2 hj' k'
            rw [q2,r2]
            refine hs'.apart _ _ q1 r1 (fun e => hne ?_)
            have e1 : rs.idxOf j = rs.idxOf j' := by injection e
            have e2 : p = p' := by injection e
            rw [← getD_idx hj,← getD_idx hj',e1,e2]
          · rw [app_out hj',mu_out hj'] at k'
            rw [mu_out hj']
            exact cross hj k k' (fun j'' p'' e => by cases e; exact hj')
      · rw [app_out hj,mu_out hj] at k
        rw [mu_out hj]
        cases o' with
        | nil => exact hs.apart _ _ k k' hne
        | cons j' p' =>
          by_cases hj' : j' ∈ rs
          · rw [app_in hj'] at k'
            exact Ne.symm (cross hj' k' k (fun j'' p'' e => by cases e; exact hj))
          · rw [app_out hj',mu_out hj'] at k'
            rw [mu_out hj']
            exact hs.apart _ _ k k' hne
  · have far : ∀ {n : Nm},hasB (μ n) (H n).ob = true→¬ I' (μ n).b∧(c.M0 n (μ n).b∨c.w0.heap.size≤(μ n).b)∧(μ n).b < w'.heap.size := fun {n} h => by
      obtain ⟨g1,g2,g3⟩ := hs.own _ h
      refine ⟨fun h' => ?_,g2,Nat.lt_of_lt_of_le g3 hs'.kept.size⟩
      rcases hs'.new _ h' with g | g
      · exact g1 g
      · exact absurd (show w.heap.size≤_ from g) (by omega)
    cases o with
    | nil => exact far k
    | cons j p =>
      by_cases hj : j ∈ rs
      · rw [app_in hj] at k
        obtain ⟨q1,q2⟩ := own2 hj k
        rw [q2]
        obtain ⟨g1,g2,g3⟩ := blk q1
        refine ⟨g1,?_,g3⟩
        rcases g2 with ⟨i,p',r0,r1,r2,r3⟩ | g2
        · have e1 : rs.idxOf j = i := by injection r0
          have e2 : p = p' := by injection r0
          rw [← e1,← e2,nmj hj] at r2 r3
          rw [r3]
          exact (hs.own _ r2).2.1
        · exact .inr (Nat.le_trans hs.kept.size g2)
      · rw [app_out hj,mu_out hj] at k
        rw [mu_out hj]
        exact far k
  · cases o with
    | nil => exact hs.tag _ k
    | cons j p =>
      by_cases hj : j ∈ rs
      · rw [app_in hj] at k
        rw [own3 hj k]
        exact hs'.tag _ (own2 hj k).1
      · rw [app_out hj,mu_out hj] at k
        rw [mu_out hj]
        exact hs.tag _ k
def mk (P : Program) (t : TypeId) (as' : List A) : A := match P.underlying t with
  | some (.struct _) => .agg as'
  | _ => as'.headD .any
def HasL (R : TypeId→List A→Prop) : List Field→List A→Prop
  | [],as' => as' = []
  | f :: fs,as' => ∃ a b,as' = a ++ b∧R f.type a∧HasL R fs b
def Has (P : Program) : Nat→TypeId→List A→Prop
  | 0,_,_ => False
  | n + 1,t,as' => match P.underlying t with
    | some .bool => ∃ b,as' = [.v (.bool b)]
    | some (.int k) => ∃ m,(Lit.int k m).wf = true∧as' = [.v (.int k m)]
    | some .string => ∃ s,s.size≤maxLen∧s.size≤reachBytes∧as' = [.v (.string s)]
    | some (.slice e) => ∃ f xs,as' = [.sl f xs]∧xs.length≤maxLen∧xs.length * P.bytesOf e≤reachBytes∧(f = true→xs = [])∧∀ x,x ∈ xs→∃ b,Has P n e b∧x = mk P e b
    | some (.struct fs) => HasL (Has P n) fs.toList as'
    | _ => False
def HasT (R : TypeId→List A→Prop) : List TypeId→List A→Prop
  | [],as' => as' = []
  | t :: ts,as' => ∃ a b,as' = a ++ b∧R t a∧HasT R ts b
theorem hasL_types {R : TypeId→List A→Prop} : ∀ {fs : List Field} {as' : List A},HasL R fs as' ↔ HasT R (fs.map Field.type) as'
  | [],as' => Iff.rfl
  | f :: fs,as' => by simp only [HasL,HasT,List.map_cons,hasL_types (fs := fs)]
def tiles (P : Program) : Nat→List Field→Option Nat
  | off,[] => some off
  | off,f :: fs => if f.offset = off then tiles P (off + P.cellsOf f.type) fs else none
def plainT (P : Program) (S : List TypeId) : Bool := S.all fun t => match P.underlying t with
  | some .bool | some (.int _) | some .string => P.cellsOf t == 1
  | some (.slice e) => P.cellsOf t == 1 && (decide (0 < P.cellsOf e) && S.contains e)
  | some (.struct fs) => tiles P 0 fs.toList == some (P.cellsOf t) && fs.toList.all fun f => S.contains f.type
  | _ => false
theorem list_of {β : Type} {R : Nat→β→Prop} : ∀ {n : Nat},(∀ i,i < n→∃ b,R i b)→∃ l : List β,l.length = n∧∀ (i : Nat) (b : β),l[i]? = some b→R i b
  | 0,_ => ⟨[],rfl,fun i b h => by simp at h⟩
  | n + 1,h => by
    obtain ⟨l,h1,h2⟩ := list_of (n := n) (fun i hi => h i (by omega))
    obtain ⟨b,hb⟩ := h n (by omega)
    refine ⟨l ++ [b],by simp [h1],fun i c hc => ?_⟩
    rw [List.getElem?_append] at hc
    split at hc
    · exact h2 i c hc
    · rename_i hi
      have : i = n := by
        have := (List.getElem?_eq_some_iff.1 hc).1
        simp at this
        omega
      subst this
      simp [h1] at hc
      subst hc
      exact hb
theorem mapM_get {α β : Type} {f : α→Option β} : ∀ {l : List α} {r : List β},l.mapM f = some r→r.length = l.length∧∀ (i : Nat) (a : α),l[i]? = some a→∃ b,f a = some b∧r[i]? = some b
  | [],r,h => by
    simp at h
    subst h
    exact ⟨rfl,fun i a h => by simp at h⟩
  | a :: l,r,h => by
    rw [List.mapM_cons] at h
    simp only [Option.bind_eq_bind,Option.bind_eq_some_iff] at h
    obtain ⟨b,hb,r',hr,h⟩ := h
    cases h
    obtain ⟨h1,h2⟩ := mapM_get hr
    refine ⟨by simp [h1],fun i c hc => ?_⟩
    cases i with
    | zero => simp at hc; subst hc; exact ⟨b,hb,rfl⟩
    | succ i => simpa using h2 i c (by simpa using hc)
theorem cells?_get {w : World} {base : Nat} {a : Addr} {n : Nat} {cs : List Value} (h : w.cells? base a n = some cs) : cs.length = n∧∀ i,i < n→w.cell? (a.add i) = some (cs.getD i undef) := by
  unfold World.cells? at h
  split at h
  · obtain ⟨h1,h2⟩ := mapM_get h
    refine ⟨by simpa using h1,fun i hi => ?_⟩
    obtain ⟨b,hb,hr⟩ := h2 i i (by simp [hi])
    rw [hb]
    simp [List.getD,hr]
  · cases h
theorem mk_cells {P : Program} {n : Nat} {t : TypeId} {as' : List A} (h : Has P n t as') : (mk P t as').cells = as' := by
  cases n with
  | zero => exact h.elim
  | succ n =>
    unfold Has at h
    unfold mk
    split at h
    · rename_i hu; obtain ⟨b,rfl⟩ := h; rw [hu]; rfl
    · rename_i hu; obtain ⟨m,_,rfl⟩ := h; rw [hu]; rfl
    · rename_i hu; obtain ⟨m,_,_,rfl⟩ := h; rw [hu]; rfl
    · rename_i hu; obtain ⟨f,xs,rfl,_⟩ := h; rw [hu]; rfl
    · rename_i hu; rw [hu]; rfl
    · exact h.elim
theorem flat_inv {sz : Nat} (hp : 0 < sz) {xs : List A} {k : Nat} {y : A} (h : ∀ x,x ∈ xs→x.cells.length = sz) (hk : (xs.flatMap A.cells)[k]? = some y) : ∃ x,xs[k / sz]? = some x∧x.cells[k % sz]? = some y := by
  have hl := (List.getElem?_eq_some_iff.1 hk).1
  rw [flat_len h] at hl
  have hi : k / sz < xs.length := by rw [Nat.div_lt_iff_lt_mul hp]; exact hl
  have hj : k % sz < sz := Nat.mod_lt _ hp
  have hx : xs[k / sz]? = some xs[k / sz] := List.getElem?_eq_getElem hi
  have hcl := h _ (List.mem_of_getElem? hx)
  have hz : xs[k / sz].cells[k % sz]? = some (xs[k / sz].cells[k % sz]'(by omega)) := List.getElem?_eq_getElem (by omega)
  have := flat_get h hx hz
  have e : k / sz * sz + k % sz = k := by rw [Nat.mul_comm]; exact Nat.div_add_mod k sz
  rw [e,hk] at this
  exact ⟨_,hx,by rw [hz]; exact this.symm⟩
theorem getD_left {α : Type} {l l' : List α} {k : Nat} {d : α} (h : k < l.length) : (l ++ l').getD k d = l.getD k d := by
  simp [List.getD,List.getElem?_append_left h]
theorem getD_right {α : Type} {l l' : List α} {k : Nat} {d : α} (h : l.length≤k) : (l ++ l').getD k d = l'.getD (k - l.length) d := by
  simp [List.getD,List.getElem?_append_right h]
section
variable {H : Type} {enc : TypeId × Value→H} {P : Program} {w : World} {base : Nat} {sp : Nat→Bool} {held : Bool}
abbrev Old (w : World) (b : Nat) : Prop := b < w.heap.size
def Fits (w : World) (as' : List A) (cs : List Value) : Prop := as'.length = cs.length∧∀ (k : Nat) (y : A),as'[k]? = some y→y.one = true∧Rel w (Old w) mu0 y (cs.getD k undef)
theorem Fits.one {x : A} {v : Value} (h : x.one = true) (hr : Rel w (Old w) mu0 x v) : Fits w [x] [v] := ⟨rfl,fun k y hk => by
  cases k with
  | zero => cases hk; exact ⟨h,hr⟩
  | succ k => simp at hk⟩
theorem Fits.append {as' bs : List A} {cs ds : List Value} (h : Fits w as' cs) (h' : Fits w bs ds) : Fits w (as' ++ bs) (cs ++ ds) := ⟨by simp [h.1,h'.1],fun k y hk => by
  rw [List.getElem?_append] at hk
  split at hk
  · rename_i hl
    have := h.2 k y hk
    rwa [getD_left (by rw [← h.1]; exact hl)]
  · rename_i hl
    have := h'.2 _ y hk
    rw [getD_right (by rw [← h.1]; omega),← h.1]
    exact this⟩
theorem fields_fit {n : Nat} {cs : List Value} (ih : ∀ (t : TypeId) (cs : List Value) x,DataW.trod enc P w base sp held n t cs = some x→P.cellsOf t = cs.length→(∀ m,m ∈ DataW.weights P t x.1→m≤reachBytes)→∀ S,plainT P S = true→t ∈ S→∃ as',Has P n t as'∧Fits w as' cs) {S : List TypeId} (hS : plainT P S = true) :
    ∀ (fs : List Field) (off tot : Nat) xs,(∀ m,m ∈ DataW.weightsEach P (fs.map Field.type) (xs.map (·.1))→m≤reachBytes)→(∀ f,f ∈ fs→f.type ∈ S)→tiles P off fs = some tot→tot = cs.length→(fs.mapM fun f => DataW.trod enc P w base sp held n f.type ((cs.drop f.offset).take (P.cellsOf f.type))) = some xs →
      ∃ as',HasL (Has P n) fs as'∧Fits w as' (cs.drop off)∧off≤tot
  | [],off,tot,xs,_,_,ht,hn,_ => by
    cases ht
    refine ⟨[],rfl,⟨?_,fun k y hk => by simp at hk⟩,Nat.le_refl _⟩
    simp [hn]
  | f :: fs,off,tot,xs,hw,hf,ht,hn,hm => by
    unfold tiles at ht
    split at ht
    · rename_i ho
      rw [List.mapM_cons] at hm
      simp only [Option.bind_eq_bind,Option.bind_eq_some_iff] at hm
      obtain ⟨x,hx,xs',hxs,hq⟩ := hm
      cases hq
      simp only [List.map_cons,DataW.weightsEach,List.mem_append] at hw
      obtain ⟨bs,hb1,hb2,hb3⟩ := fields_fit ih hS fs (off + P.cellsOf f.type) tot xs' (fun m hm => hw m (.inr hm)) (fun g hg => hf g (by simp [hg])) ht hn hxs
      rw [ho] at hx
      obtain ⟨as',ha1,ha2⟩ := ih f.type _ x hx (by simp; omega) (fun m hm => hw m (.inl hm)) S hS (hf f (by simp))
      refine ⟨as' ++ bs,⟨as',bs,rfl,ha1,hb1⟩,?_,by omega⟩
      have e : cs.drop off = (cs.drop off).take (P.cellsOf f.type) ++ cs.drop (off + P.cellsOf f.type) := by
        rw [← List.drop_drop,List.take_append_drop]
      rw [e]
      exact ha2.append hb2
    · cases ht
theorem weightsAll_of {e : TypeId} {d : DataW H} {m : Nat} (h : m ∈ DataW.weights P e d) : ∀ {l : List (DataW H)},d ∈ l→m ∈ DataW.weightsAll P e l
  | x :: l,hd => by
    simp only [DataW.weightsAll,List.mem_append]
    rcases List.mem_cons.1 hd with rfl | hd
    · exact .inl h
    · exact .inr (weightsAll_of h hd)
theorem fits_of_trod : ∀ (n : Nat) (t : TypeId) (cs : List Value) (x : DataW H × List MemPlace),DataW.trod enc P w base sp held n t cs = some x→P.cellsOf t = cs.length→(∀ m,m ∈ DataW.weights P t x.1→m≤reachBytes)→∀ S,plainT P S = true→t ∈ S→∃ as',Has P n t as'∧Fits w as' cs
  | 0,t,cs,x,h,_,_,_,_,_ => by simp [DataW.trod] at h
  | n + 1,t,cs,x,h,hlen,hwt,S,hS,ht => by
    have hT := hS
    unfold plainT at hT
    rw [List.all_eq_true] at hT
    have hT := hT t ht
    have ih := fits_of_trod n
    unfold DataW.trod at h
    split at h
    · rename_i b hu
      exact ⟨[.v (.bool b)],by unfold Has; rw [hu]; exact ⟨b,rfl⟩,Fits.one rfl (.v _ _)⟩
    · rename_i k k' m hu
      split at h
      · rename_i hk
        obtain ⟨rfl,hw⟩ := hk
        exact ⟨[.v (.int k' m)],by unfold Has; rw [hu]; exact ⟨m,hw,rfl⟩,Fits.one rfl (.v _ _)⟩
      · cases h
    · rename_i hu; rw [hu] at hT; cases hT
    · rename_i s hu
      split at h
      · rename_i hs
        cases h
        have hz : s.size≤reachBytes := by
          have := hwt s.data.toList.length (by simp [DataW.weights])
          simpa using this
        exact ⟨[.v (.string s)],by unfold Has; rw [hu]; exact ⟨s,hs,hz,rfl⟩,Fits.one rfl (.v _ _)⟩
      · cases h
    · rename_i hu; rw [hu] at hT; cases hT
    · rename_i hu; rw [hu] at hT; cases hT
    · rename_i e hu
      exact ⟨[.sl true []],by unfold Has; rw [hu]; exact ⟨true,[],rfl,by simp,by simp,fun _ => rfl,fun x hx => by simp at hx⟩,Fits.one rfl (.slN _ _ _ _ (fun _ => rfl))⟩
    · rename_i e a len cap hu
      rw [hu] at hT
      simp only [Bool.and_eq_true,decide_eq_true_eq,beq_iff_eq] at hT
      obtain ⟨_,hpos,heS⟩ := hT
      have heS : e ∈ S := by simpa using heS
      split at h
      · rename_i hb
        obtain ⟨hb0,hb1,hb2⟩ := hb
        simp only [Option.bind_eq_some_iff] at h
        obtain ⟨elems,he,h⟩ := h
        simp only [Option.map_eq_some_iff] at h
        obtain ⟨rest,_,rfl⟩ := h
        simp only [DataW.weights,hu] at hwt
        obtain ⟨he1,he2⟩ := mapM_get he
        have each : ∀ i,i < len→∃ as' : List A,Has P n e as'∧∃ cs,w.cells? base (a.add (i * P.cellsOf e)) (P.cellsOf e) = some cs∧Fits w as' cs := fun i hi => by
          obtain ⟨y,hy,hg⟩ := he2 i i (by simp [hi])
          simp only [Option.bind_eq_some_iff] at hy
          obtain ⟨cs,hc1,hc2⟩ := hy
          obtain ⟨as',h1,h2⟩ := ih e cs y hc2 (cells?_get hc1).1.symm (fun m hm => hwt m (List.mem_cons_of_mem _ (List.mem_append_left _ (weightsAll_of hm (List.mem_map.2 ⟨y,List.mem_of_getElem? hg,rfl⟩))))) S hS heS
          exact ⟨as',h1,cs,hc1,h2⟩
        obtain ⟨l,hl1,hl2⟩ := list_of each
        have hxs : (l.map (mk P e)).length = len := by simpa using hl1
        refine ⟨[.sl false (l.map (mk P e))],by
          unfold Has; rw [hu]
          refine ⟨false,_,rfl,by rw [hxs]; omega,by
            have := hwt _ List.mem_cons_self
            rw [hxs]
            refine Nat.le_trans (Nat.mul_le_mul_right _ ?_) this
            simp at he1 ⊢
            omega,(fun h => nomatch h),fun x hx => ?_⟩
          obtain ⟨b,hb,rfl⟩ := List.mem_map.1 hx
          obtain ⟨i,hi⟩ := List.getElem?_of_mem hb
          exact ⟨b,(hl2 i b hi).1,rfl⟩,Fits.one rfl ?_⟩
        by_cases h0 : len = 0
        · subst h0
          have : l = [] := List.length_eq_zero_iff.1 hl1
          subst this
          exact .slN _ _ _ _ (fun h => by cases h)
        · have hlen2 : ∀ x,x ∈ l.map (mk P e)→x.cells.length = P.cellsOf e := fun x hx => by
            obtain ⟨b,hb,rfl⟩ := List.mem_map.1 hx
            obtain ⟨i,hi⟩ := List.getElem?_of_mem hb
            obtain ⟨k1,cs,k2,k3⟩ := hl2 i b hi
            rw [mk_cells k1,k3.1,(cells?_get k2).1]
          have hspot : a.spot = none∧a.block < w.heap.size := by
            obtain ⟨b,hb⟩ : ∃ b,l[0]? = some b := ⟨_,List.getElem?_eq_getElem (by omega)⟩
            obtain ⟨_,cs,k2,_⟩ := hl2 0 b hb
            have := (cells?_get k2).2 0 hpos
            simp only [Nat.zero_mul,Addr.add,if_true,World.cell?] at this
            split at this
            · rename_i hh
              split at this
              · cases this
              · rename_i hsp
                exact ⟨by simpa using hsp,(Array.getElem?_eq_some_iff.1 hh).1⟩
            · cases this
          obtain ⟨b,off,sp'⟩ := a
          obtain ⟨hsp,hbl⟩ := hspot
          simp only at hsp hbl
          subst hsp
          have main : ∀ (k : Nat) (y : A),((l.map (mk P e)).flatMap A.cells)[k]? = some y→y.one = true∧w.cell? ⟨b,off + k,none⟩ = some ((w.cell? ⟨b,off + k,none⟩).getD undef)∧Rel w (Old w) mu0 y ((w.cell? ⟨b,off + k,none⟩).getD undef) := fun k y hk => by
            obtain ⟨x,hx,hy⟩ := flat_inv hpos hlen2 hk
            rw [List.getElem?_map] at hx
            simp only [Option.map_eq_some_iff] at hx
            obtain ⟨as',ha,rfl⟩ := hx
            obtain ⟨k1,cs,k2,k3⟩ := hl2 _ as' ha
            rw [mk_cells k1] at hy
            have hj : k % P.cellsOf e < P.cellsOf e := Nat.mod_lt _ hpos
            have hc := (cells?_get k2).2 _ hj
            have ea : ((⟨b,off,none⟩ : Addr).add (k / P.cellsOf e * P.cellsOf e)).add (k % P.cellsOf e) = ⟨b,off + k,none⟩ := by
              have := Nat.div_add_mod k (P.cellsOf e)
              rw [Nat.mul_comm] at this
              unfold Addr.add
              split <;> split <;> simp <;> omega
            rw [ea] at hc
            obtain ⟨k4,k5⟩ := k3.2 _ y hy
            exact ⟨k4,by rw [hc]; rfl,by rw [hc]; exact k5⟩
          exact .sl _ false b off len cap (P.cellsOf e) _ (fun k => (w.cell? ⟨b,off + k,none⟩).getD undef) hbl hxs.symm (by omega) (fun h => by cases h) hlen2 (fun k y hk => (main k y hk).1) (fun k y hk => (main k y hk).2.1) (fun k y hk => (main k y hk).2.2)
      · cases h
    · rename_i fs hu
      rw [hu] at hT
      simp only [Bool.and_eq_true,beq_iff_eq,List.all_eq_true] at hT
      split at h
      · simp only [Option.map_eq_some_iff] at h
        obtain ⟨xs,hx,rfl⟩ := h
        simp only [DataW.weights,hu] at hwt
        obtain ⟨as',h1,h2,_⟩ := fields_fit (fun t cs x h hl hw S hS ht => ih t cs x h hl hw S hS ht) hS fs.toList 0 _ xs hwt (fun f hf => by simpa using hT.2 f hf) hT.1 hlen hx
        exact ⟨as',by unfold Has; rw [hu]; exact h1,by simpa using h2⟩
      · cases h
    all_goals first | (rename_i hu; rw [hu] at hT; cases hT; done) | cases h
end
def ArgsHas (P : Program) : List TypeId→List A→Prop
  | [],[] => True
  | t :: ts,a :: as' => (∃ n b,Has P n t b∧a = mk P t b)∧ArgsHas P ts as'
  | _,_ => False
section
open Go.ChangeShapes Go.WideShapes
variable {H : Type} {enc : TypeId × Value→H} {P : Program} {w : World} {base : Nat} {sp : Nat→Bool} {held : Bool}
theorem arg_of_trod {S : List TypeId} (hS : plainT P S = true) {t : TypeId} (ht : t ∈ S) {v : Value} {d : DataW H} {p : List MemPlace} {base' : Nat} (hwt : ∀ m,m ∈ DataW.weights P t d→m≤reachBytes) (h : DataW.Trod enc P w base sp held t v d p) (hv : Value.okWide P w .any base' t v) :
    ∃ n b,Has P n t b∧Rel w (Old w) mu0 (mk P t b) v := by
  obtain ⟨n,hn⟩ := h
  have hT := hS
  unfold plainT at hT
  rw [List.all_eq_true] at hT
  have hT := hT t ht
  have one : ∀ {b : List A},Has P n t b→(mk P t b).cells = [mk P t b]→v.cells.toList = [v]→Fits w b v.cells.toList→Rel w (Old w) mu0 (mk P t b) v := fun {b} hb h1 h2 h3 => by
    have h4 := mk_cells hb
    rw [h1] at h4
    have e : b[0]? = some (mk P t b) := by
      have : [mk P t b][0]? = some (mk P t b) := rfl
      rwa [h4] at this
    have := (h3.2 0 (mk P t b) e).2
    rw [h2] at this
    exact this
  cases hu : P.underlying t with
  | none => rw [hu] at hT; cases hT
  | some ty =>
    rw [hu] at hT
    cases ty with
    | struct fs =>
      simp only [Bool.and_eq_true,beq_iff_eq] at hT
      obtain ⟨cs,rfl,hsz⟩ := okWide_struct hu hv
      obtain ⟨b,hb,hf⟩ := fits_of_trod n t _ _ hn (by show P.cellsOf t = cs.toList.length; simp [hsz]) hwt S hS ht
      refine ⟨n,b,hb,?_⟩
      have : mk P t b = .agg b := by unfold mk; rw [hu]
      rw [this]
      refine .agg _ _ _ ?_ fun k y hk => ?_
      · have := hf.1; simpa [Value.cells] using this.symm
      · have := (hf.2 k y hk).2
        simpa [Value.cells,List.getD,Array.getD_eq_getD_getElem?] using this
    | bool =>
      obtain ⟨q,rfl⟩ := okWide_bool hu hv
      simp only [beq_iff_eq] at hT
      obtain ⟨b,hb,hf⟩ := fits_of_trod n t _ _ hn (by rw [hT]; rfl) hwt S hS ht
      refine ⟨n,b,hb,one hb ?_ rfl hf⟩
      obtain ⟨y,rfl⟩ : ∃ y,b = [y] := List.length_eq_one_iff.1 (by have := hf.1; simpa [Value.cells] using this)
      unfold mk; rw [hu]
      have := mk_cells hb
      unfold mk at this; rw [hu] at this
      exact this
    | int k =>
      obtain ⟨q,rfl⟩ := okWide_int hu hv
      simp only [beq_iff_eq] at hT
      obtain ⟨b,hb,hf⟩ := fits_of_trod n t _ _ hn (by rw [hT]; rfl) hwt S hS ht
      refine ⟨n,b,hb,one hb ?_ rfl hf⟩
      obtain ⟨y,rfl⟩ : ∃ y,b = [y] := List.length_eq_one_iff.1 (by have := hf.1; simpa [Value.cells] using this)
      unfold mk; rw [hu]
      have := mk_cells hb
      unfold mk at this; rw [hu] at this
      exact this
    | string =>
      obtain ⟨q,rfl⟩ := okWide_string hu hv
      simp only [beq_iff_eq] at hT
      obtain ⟨b,hb,hf⟩ := fits_of_trod n t _ _ hn (by rw [hT]; rfl) hwt S hS ht
      refine ⟨n,b,hb,one hb ?_ rfl hf⟩
      obtain ⟨y,rfl⟩ : ∃ y,b = [y] := List.length_eq_one_iff.1 (by have := hf.1; simpa [Value.cells] using this)
      unfold mk; rw [hu]
      have := mk_cells hb
      unfold mk at this; rw [hu] at this
      exact this
    | slice e =>
      obtain ⟨a,l,c,rfl⟩ := okWide_slice hu hv
      simp only [Bool.and_eq_true,beq_iff_eq] at hT
      obtain ⟨b,hb,hf⟩ := fits_of_trod n t _ _ hn (by rw [hT.1]; rfl) hwt S hS ht
      refine ⟨n,b,hb,one hb ?_ rfl hf⟩
      obtain ⟨y,rfl⟩ : ∃ y,b = [y] := List.length_eq_one_iff.1 (by have := hf.1; simpa [Value.cells] using this)
      unfold mk; rw [hu]
      have := mk_cells hb
      unfold mk at this; rw [hu] at this
      exact this
    | _ => simp at hT
theorem args_of_trod {S : List TypeId} (hS : plainT P S = true) {base' : Nat} : ∀ {ts : List TypeId} {vs : List Value} {ds : List (DataW H)} {ps : List MemPlace},(∀ t,t ∈ ts→t ∈ S)→(∀ m,m ∈ DataW.weightsEach P ts ds→m≤reachBytes)→DataW.TrodAll enc P w base sp held ts vs ds ps →
    (∀ (j : Nat) t v,ts[j]? = some t→vs[j]? = some v→Value.okWide P w .any base' t v)→∃ as',as'.length = vs.length∧ArgsHas P ts as'∧∀ (k : Nat) (y : A),as'[k]? = some y→Rel w (Old w) mu0 y (vs.getD k undef)
  | [],_,_,_,_,_,h,_ => by
    obtain ⟨rfl,rfl,rfl⟩ := trodAll_nil h
    exact ⟨[],rfl,trivial,fun k y hk => by simp at hk⟩
  | t :: ts,_,_,_,hts,hwt,h,hv => by
    obtain ⟨v,vs,d,ds,p,q,rfl,rfl,rfl,h1,h2⟩ := trodAll_cons h
    simp only [DataW.weightsEach,List.mem_append] at hwt
    obtain ⟨n,b,hb,hr⟩ := arg_of_trod hS (hts t (by simp)) (fun m hm => hwt m (.inl hm)) h1 (hv 0 t v rfl rfl)
    obtain ⟨as',k1,k2,k3⟩ := args_of_trod hS (fun u hu => hts u (by simp [hu])) (fun m hm => hwt m (.inr hm)) h2 (fun j u x hj hx => hv (j + 1) u x (by simpa using hj) (by simpa using hx))
    refine ⟨mk P t b :: as',by simp [k1],⟨⟨n,b,hb,rfl⟩,k2⟩,fun k y hk => ?_⟩
    cases k with
    | zero => cases hk; exact hr
    | succ k => exact k3 k y (by simpa using hk)
end
@[simp] theorem minmaxA_max {k k' : IntKind} {x y : Int} : minmaxA true [.v (.int k x),.v (.int k' y)] = some (.v (.int k (max x y))) := by
  simp only [minmaxA,if_true]
  congr 3
  split <;> omega
@[simp] theorem minmaxA_min {k k' : IntKind} {x y : Int} : minmaxA false [.v (.int k x),.v (.int k' y)] = some (.v (.int k (min x y))) := by
  simp only [minmaxA,Bool.false_eq_true,if_false]
  congr 3
  split <;> omega
def ov (r : Nat) (F : Nm→VOb) (H : Hp) : Hp
  | j :: p => if j = r then F p else H (j :: p)
  | [] => H []
@[simp] theorem ov_cons {r j : Nat} {p : Nm} {F : Nm→VOb} {H : Hp} : ov r F H (j :: p) = if j = r then F p else H (j :: p) := rfl
@[simp] theorem ov_nil {r : Nat} {F : Nm→VOb} {H : Hp} : ov r F H [] = H [] := rfl
@[simp] theorem updF_ov {r j : Nat} {p : Nm} {F : Nm→VOb} {H : Hp} {x : VOb} : updF (ov r F H) (j :: p) x = if j = r then ov r (updF F p x) H else ov r F (updF H (j :: p) x) := by
  funext o
  cases o with
  | nil =>
    by_cases h : j = r
    · rw [if_pos h]; simp [updF]
    · rw [if_neg h]; simp [updF]
  | cons k q =>
    by_cases h : j = r
    · subst h
      rw [if_pos rfl]
      by_cases hk : k = j
      · subst hk; simp [updF]
      · have : ¬ k :: q = j :: p := fun e => hk (by injection e)
        simp [updF,hk,this]
    · rw [if_neg h]
      by_cases hk : k = r
      · subst hk
        have : ¬ k :: q = j :: p := fun e => h (by injection e with e _; exact e.symm)
        simp [updF,this]
      · simp [updF,hk]
theorem updF_app {α : Type} {F : Nm→α} {d o : Nm} {x : α} : updF F d x o = if o = d then x else F o := rfl
theorem updF_is {α : Type} {F G : Nm→α} {d p : Nm} {x : α} (h : x = G d) (k : p ≠ d→F p = G p) : updF F d x p = G p := by
  rw [updF_app]
  split
  · rename_i e; rw [e]; exact h
  · exact k (by assumption)
def inHp (rs : List Nat) (m : Nat) (H : Hp) : Hp
  | i :: p => if i < m then (H (rs.getD i 0 :: p)).ren (dnN rs) (fun _ => 0) 0 else ⟨0,.none⟩
  | [] => ⟨0,.none⟩
def outG (rs : List Nat) (δ : Nm→Nat) (B Hr : Hp) : Hp
  | j :: p => if rs.contains j = true then (Hr (rs.idxOf j :: p)).ren (upN rs) δ (δ (rs.idxOf j :: p)) else B (j :: p)
  | [] => B []
theorem app_outH {rs : List Nat} {m : Nat} {H Hr : Hp} : (Eff.fn rs (outH rs m H Hr)).app H = outG rs (dlt rs m H) H Hr := by
  funext o
  cases o <;> rfl
theorem Spec.toB {P : Program} {f : FuncId} {args : List A} {r : A} (h : Spec P f args r) (hr : r.flat = true) : SpecB P f args r :=
  ⟨h.1,fun w I J vs hI hJ ht hl ha => (h.2 w (fun b => I b∨J b) vs (fun b hb => hb.elim (hI b) (hJ b)) (ht.mono (fun _ h => .inl h) (fun _ _ => rfl)) hl ha).mono fun e w' ⟨v,he,hB,hr'⟩ => ⟨v,he,hB,hr'.of_flat hr⟩⟩
def ClosedH (rs : List Nat) (m : Nat) (H : Hp) : Prop := ∀ (j : Nat) (p : Nm),rs.idxOf j < m→(H (j :: p)).ob.refs (inS rs m)
theorem sc_callH {P : Program} {K : Sta→Prop} {rest : List CO} {s : Nat→A} {H : Hp} {dd : Option Nat} {nm : Nm} {ix : Nat} {un : List Nat} {l : Bool} {lg : Lg} {g : FuncId} {as' : Array Operand} {ts : Array TypeId}
    (rs : List Nat) (m : Nat) {args : List A} {Hc Hr H' : Hp} {r x : A} (hS : SpecH P g rs.length args Hc r Hr) (hnd : rs.Nodup) (hm : m≤rs.length)
    (ha : A.renL (dnN rs) (fun _ => 0) (as'.toList.map (evs s)) = args) (har : A.refsL (inS rs m) (as'.toList.map (evs s))) (hH : inHp rs m H = Hc) (hcl : ClosedH rs m H)
    (hr : r.refs (outS rs.length)) (ho : ∀ (i : Nat) (p : Nm),i < rs.length→(Hr (i :: p)).ob.refs (outS rs.length)) (hv : ∀ (i : Nat) (p : Nm),m≤i→i < rs.length→(Hr (i :: p)).ob = .none∨1≤(Hr (i :: p)).u)
    (hx : r.ren (upN rs) (dlt rs m H) = x) (hH' : outG rs (dlt rs m H) H Hr = H') (hck : Ck un lg ⟨[],rs.map fun r => ([r],true)⟩)
    (h : SeqC P K rest (addL l ix ⟨[],rs.map fun r => ([r],true)⟩ lg) (Sta.put ⟨s,H⟩ dd x H')) :
    SeqC P K (⟨dd,.call { callee := .value (.func g),args := as',argTypes := ts },none,nm,ix,un,l⟩ :: rest) lg ⟨s,H⟩ := by
  have hit_in : ∀ {j : Nat} {p : Nm},j ∈ rs→hit (rs.map fun r => ([r],true)) (j :: p) = true := fun {j p} hj => by
    simp only [hit,List.any_map,List.any_eq_true]
    exact ⟨j,hj,by simp [hit1,List.isPrefixOf]⟩
  have hnil : (Eff.fn rs (outH rs m H Hr)).app H = H' := by rw [app_outH]; exact hH'
  subst hx
  rw [← hnil] at h
  refine sc_callh (Eff.fn rs (outH rs m H Hr)) [] (rs.map fun r => ([r],true)) (fun H2 hag => ?_) (fun o H2 ho' => ?_) hck h
  · have ag : ∀ {j : Nat} {p : Nm},j ∈ rs→H2 (j :: p) = H (j :: p) := fun {j p} hj => hag _ (by simpa using hit_in hj)
    have agi : ∀ {i : Nat} {p : Nm},i < rs.length→H2 (rs.getD i 0 :: p) = H (rs.getD i 0 :: p) := fun {i p} hi => ag (by simp [List.getD,hi])
    have hd : dlt rs m H2 = dlt rs m H := by
      funext o
      cases o with
      | nil => rfl
      | cons i p =>
        simp only [dlt]
        by_cases hi : i < rs.length
        · rw [agi hi]
        · rw [if_neg hi,if_neg hi]
    have hoH : outH rs m H2 Hr = outH rs m H Hr := by
      funext o
      cases o with
      | nil => rfl
      | cons j p => simp only [outH,hd]
    subst ha
    have := callOK_of (P := P) (f := g) (rs := rs) (m := m) (args := as'.toList.map (evs s)) (Hc := Hc) (Hr := Hr) (r := r) (H := H2) hnd hm hS
      (fun i p hi => by rw [← hH,agi (by omega)]; simp only [inHp,if_pos hi]) (fun i p hi => by rw [← hH]; simp only [inHp]; rw [if_neg (by omega)]) (by rw [← hH]; rfl) har
      (fun i p hi => by rw [agi (by omega)]; exact hcl _ _ (by rw [idx_getD hnd (by omega)]; exact hi)) hr ho hv
    rwa [hd,hoH] at this
  · cases o with
    | nil => rfl
    | cons j p =>
      have : ¬ j ∈ rs := fun hj => by rw [hit_in hj] at ho'; cases ho'
      simp [Eff.app,this]
theorem sc_callhv {P : Program} {K : Sta→Prop} {rest : List CO} {s : Nat→A} {H : Hp} {dd : Option Nat} {nm : Nm} {ix : Nat} {un : List Nat} {l : Bool} {lg : Lg} {g : FuncId} {fo : Operand} {fs caps L : List A} {as' : Array Operand} {ts : Array TypeId} {x : A} (hv0 : evs s fo = .fnc g fs caps) (hL : fs ++ (as'.toList.map (evs s) ++ caps) = L) (E : Eff) (R W : Fp) (hs : ∀ H2,Agree (R ++ W) H H2→CallOK P H2 g L x E) (hw : Supp E W) (hc : Ck un lg ⟨R,W⟩) (h : SeqC P K rest (addL l ix ⟨R,W⟩ lg) (Sta.put ⟨s,H⟩ dd x (E.app H))) :
    SeqC P K (⟨dd,.call { callee := .value fo,args := as',argTypes := ts },none,nm,ix,un,l⟩ :: rest) lg ⟨s,H⟩ := by
  subst hL
  exact ⟨x,E,⟨R,W⟩,⟨g,fs,caps,hv0,.inr (.inr ⟨hs,hw⟩)⟩,hc,h⟩
theorem sc_callHv {P : Program} {K : Sta→Prop} {rest : List CO} {s : Nat→A} {H : Hp} {dd : Option Nat} {nm : Nm} {ix : Nat} {un : List Nat} {l : Bool} {lg : Lg} {g : FuncId} {fo : Operand} {fs caps L : List A} {as' : Array Operand} {ts : Array TypeId}
    (hv0 : evs s fo = .fnc g fs caps) (hL : fs ++ (as'.toList.map (evs s) ++ caps) = L) (rs : List Nat) (m : Nat) {args : List A} {Hc Hr H' : Hp} {r x : A} (hS : SpecH P g rs.length args Hc r Hr) (hnd : rs.Nodup) (hm : m≤rs.length)
    (ha : A.renL (dnN rs) (fun _ => 0) L = args) (har : A.refsL (inS rs m) L) (hH : inHp rs m H = Hc) (hcl : ClosedH rs m H)
    (hr : r.refs (outS rs.length)) (ho : ∀ (i : Nat) (p : Nm),i < rs.length→(Hr (i :: p)).ob.refs (outS rs.length)) (hv : ∀ (i : Nat) (p : Nm),m≤i→i < rs.length→(Hr (i :: p)).ob = .none∨1≤(Hr (i :: p)).u)
    (hx : r.ren (upN rs) (dlt rs m H) = x) (hH' : outG rs (dlt rs m H) H Hr = H') (hck : Ck un lg ⟨[],rs.map fun r => ([r],true)⟩)
    (h : SeqC P K rest (addL l ix ⟨[],rs.map fun r => ([r],true)⟩ lg) (Sta.put ⟨s,H⟩ dd x H')) :
    SeqC P K (⟨dd,.call { callee := .value fo,args := as',argTypes := ts },none,nm,ix,un,l⟩ :: rest) lg ⟨s,H⟩ := by
  have hit_in : ∀ {j : Nat} {p : Nm},j ∈ rs→hit (rs.map fun r => ([r],true)) (j :: p) = true := fun {j p} hj => by
    simp only [hit,List.any_map,List.any_eq_true]
    exact ⟨j,hj,by simp [hit1,List.isPrefixOf]⟩
  have hnil : (Eff.fn rs (outH rs m H Hr)).app H = H' := by rw [app_outH]; exact hH'
  subst hx
  rw [← hnil] at h
  refine sc_callhv hv0 hL (Eff.fn rs (outH rs m H Hr)) [] (rs.map fun r => ([r],true)) (fun H2 hag => ?_) (fun o H2 ho' => ?_) hck h
  · have ag : ∀ {j : Nat} {p : Nm},j ∈ rs→H2 (j :: p) = H (j :: p) := fun {j p} hj => hag _ (by simpa using hit_in hj)
    have agi : ∀ {i : Nat} {p : Nm},i < rs.length→H2 (rs.getD i 0 :: p) = H (rs.getD i 0 :: p) := fun {i p} hi => ag (by simp [List.getD,hi])
    have hd : dlt rs m H2 = dlt rs m H := by
      funext o
      cases o with
      | nil => rfl
      | cons i p =>
        simp only [dlt]
        by_cases hi : i < rs.length
        · rw [agi hi]
        · rw [if_neg hi,if_neg hi]
    have hoH : outH rs m H2 Hr = outH rs m H Hr := by
      funext o
      cases o with
      | nil => rfl
      | cons j p => simp only [outH,hd]
    subst ha
    have := callOK_of (P := P) (f := g) (rs := rs) (m := m) (args := L) (Hc := Hc) (Hr := Hr) (r := r) (H := H2) hnd hm hS
      (fun i p hi => by rw [← hH,agi (by omega)]; simp only [inHp,if_pos hi]) (fun i p hi => by rw [← hH]; simp only [inHp]; rw [if_neg (by omega)]) (by rw [← hH]; rfl) har
      (fun i p hi => by rw [agi (by omega)]; exact hcl _ _ (by rw [idx_getD hnd (by omega)]; exact hi)) hr ho hv
    rwa [hd,hoH] at this
  · cases o with
    | nil => rfl
    | cons j p =>
      have : ¬ j ∈ rs := fun hj => by rw [hit_in hj] at ho'; cases ho'
      simp [Eff.app,this]
theorem callR_H {P : Program} {H : Hp} {g : FuncId} {L : List A} (rs : List Nat) (m : Nat) {args : List A} {Hc Hr H' : Hp} {r : A} (hS : SpecH P g rs.length args Hc r Hr) (hnd : rs.Nodup) (hm : m≤rs.length)
    (ha : A.renL (dnN rs) (fun _ => 0) L = args) (har : A.refsL (inS rs m) L) (hH : inHp rs m H = Hc) (hcl : ClosedH rs m H)
    (hr : r.refs (outS rs.length)) (ho : ∀ (i : Nat) (p : Nm),i < rs.length→(Hr (i :: p)).ob.refs (outS rs.length)) (hv : ∀ (i : Nat) (p : Nm),m≤i→i < rs.length→(Hr (i :: p)).ob = .none∨1≤(Hr (i :: p)).u)
    (hH' : outG rs (dlt rs m H) H Hr = H') : ∃ E,CallR P H g L (r.ren (upN rs) (dlt rs m H)) E [] (rs.map fun r => ([r],true))∧E.app H = H' := by
  have hit_in : ∀ {j : Nat} {p : Nm},j ∈ rs→hit (rs.map fun r => ([r],true)) (j :: p) = true := fun {j p} hj => by
    simp only [hit,List.any_map,List.any_eq_true]
    exact ⟨j,hj,by simp [hit1,List.isPrefixOf]⟩
  have hnil : (Eff.fn rs (outH rs m H Hr)).app H = H' := by rw [app_outH]; exact hH'
  refine ⟨Eff.fn rs (outH rs m H Hr),.inr (.inr ⟨fun H2 hag => ?_,fun o H2 ho' => ?_⟩),hnil⟩
  · have ag : ∀ {j : Nat} {p : Nm},j ∈ rs→H2 (j :: p) = H (j :: p) := fun {j p} hj => hag _ (by simpa using hit_in hj)
    have agi : ∀ {i : Nat} {p : Nm},i < rs.length→H2 (rs.getD i 0 :: p) = H (rs.getD i 0 :: p) := fun {i p} hi => ag (by simp [List.getD,hi])
    have hd : dlt rs m H2 = dlt rs m H := by
      funext o
      cases o with
      | nil => rfl
      | cons i p =>
        simp only [dlt]
        by_cases hi : i < rs.length
        · rw [agi hi]
        · rw [if_neg hi,if_neg hi]
    have hoH : outH rs m H2 Hr = outH rs m H Hr := by
      funext o
      cases o with
      | nil => rfl
      | cons j p => simp only [outH,hd]
    subst ha
    have := callOK_of (P := P) (f := g) (rs := rs) (m := m) (args := L) (Hc := Hc) (Hr := Hr) (r := r) (H := H2) hnd hm hS
      (fun i p hi => by rw [← hH,agi (by omega)]; simp only [inHp,if_pos hi]) (fun i p hi => by rw [← hH]; simp only [inHp]; rw [if_neg (by omega)]) (by rw [← hH]; rfl) har
      (fun i p hi => by rw [agi (by omega)]; exact hcl _ _ (by rw [idx_getD hnd (by omega)]; exact hi)) hr ho hv
    rwa [hd,hoH] at this
  · cases o with
    | nil => rfl
    | cons j p =>
      have : ¬ j ∈ rs := fun hj => by rw [hit_in hj] at ho'; cases ho'
      simp [Eff.app,this]
theorem sc_inv {P : Program} {K : Sta→Prop} {rest : List CO} {s : Nat→A} {H H' : Hp} {dd : Option Nat} {nm : Nm} {ix : Nat} {un : List Nat} {l : Bool} {lg : Lg} {ro : Operand} {name : String} {t : TypeId} {a a' : A} {g : FuncId} {d : Option TypeId} {L : List A} {as' : Array Operand} {ts : Array TypeId} {x : A} {R W : Fp}
    (hr : evs s ro = .ifc t a) (hm : methA P t name = some (g,d)) (ha : recvA P H d a = some a') (hL : a' :: as'.toList.map (evs s) = L) (hc : ∃ E,CallR P H g L x E R W∧E.app H = H') (hck : Ck un lg ⟨refs a ++ R,W⟩)
    (h : SeqC P K rest (addL l ix ⟨refs a ++ R,W⟩ lg) (Sta.put ⟨s,H⟩ dd x H')) :
    SeqC P K (⟨dd,.call { callee := .invoke ro name,args := as',argTypes := ts },none,nm,ix,un,l⟩ :: rest) lg ⟨s,H⟩ := by
  obtain ⟨E,h1,rfl⟩ := hc
  subst hL
  exact ⟨x,E,⟨refs a ++ R,W⟩,⟨t,a,g,d,a',R,hr,hm,ha,h1,rfl⟩,hck,h⟩
structure Fam where
  F : Nat→Nm→VOb
  ren : ∀ {g : Nm→Nm} {δ : Nm→Nat} {r r' : Nat},(∀ p,g (r :: p) = r' :: p)→(∀ p,δ (r :: p) = 0)→∀ p,(F r p).ren g δ 0 = F r' p
  refs : ∀ {D : Nm→Prop} {r : Nat},(∀ p,D (r :: p))→∀ p,(F r p).ob.refs D
def Fam.no : Fam := ⟨fun _ _ => ⟨0,.none⟩,fun _ _ _ => rfl,fun _ _ => trivial⟩
@[simp] theorem Fam.no_F {r : Nat} {p : Nm} : Fam.no.F r p = ⟨0,.none⟩ := rfl
structure FamA (a : Nat→A) : Prop where
  ren : ∀ {g : Nm→Nm} {δ : Nm→Nat} {r r' : Nat},(∀ p,g (r :: p) = r' :: p)→(∀ p,δ (r :: p) = 0)→(a r).ren g δ = a r'
  refs : ∀ {D : Nm→Prop} {r : Nat},(∀ p,D (r :: p))→(a r).refs D
structure FamL (a : Nat→List A) : Prop where
  ren : ∀ {g : Nm→Nm} {δ : Nm→Nat} {r r' : Nat},(∀ p,g (r :: p) = r' :: p)→(∀ p,δ (r :: p) = 0)→A.renL g δ (a r) = a r'
  refs : ∀ {D : Nm→Prop} {r : Nat},(∀ p,D (r :: p))→A.refsL D (a r)
@[simp] theorem famL_nil : FamL (fun _ => []) := ⟨fun _ _ => by simp [A.renL],fun _ => by simp [A.refsL]⟩
theorem famL_cons {a : Nat→A} {l : Nat→List A} (h : FamA a) (k : FamL l) : FamL (fun r => a r :: l r) := ⟨fun h1 h2 => by simp [A.renL,h.ren h1 h2,k.ren h1 h2],fun h1 => by simp only [A.refsL]; exact ⟨h.refs h1,k.refs h1⟩⟩
@[simp] theorem famL_cons_iff {a : Nat→A} {l : Nat→List A} (h : FamA a) : FamL (fun r => a r :: l r) = FamL l := by
  refine propext ⟨fun k => ⟨fun h1 h2 => ?_,fun h1 => ?_⟩,famL_cons h⟩
  · have := k.ren h1 h2
    simp only [A.renL,List.cons.injEq] at this
    exact this.2
  · have := k.refs h1
    simp only [A.refsL] at this
    exact this.2
theorem FamL.all {l : List A} (h : ∀ x,x ∈ l→FamA (fun _ => x)) : FamL (fun _ => l) := by
  induction l with
  | nil => simp
  | cons x l ih => exact famL_cons (h x (by simp)) (ih fun y hy => h y (by simp [hy]))
@[simp] theorem famA_any : FamA (fun _ => .any) := ⟨fun _ _ => by simp [A.ren],fun _ => by simp [A.refs]⟩
@[simp] theorem famA_v {x : Value} : FamA (fun _ => .v x) := ⟨fun _ _ => by simp [A.ren],fun _ => by simp [A.refs]⟩
@[simp] theorem famA_sl {f : Bool} {xs : List A} : FamA (fun _ => .sl f xs) := ⟨fun _ _ => by simp [A.ren],fun _ => by simp [A.refs]⟩
@[simp] theorem famA_pim {xs : List A} : FamA (fun _ => .pim xs) := ⟨fun _ _ => by simp [A.ren],fun _ => by simp [A.refs]⟩
@[simp] theorem famA_pob {u off : Nat} {q : Nm} : FamA (fun r => .pob (r :: q) u off) := ⟨fun h1 h2 => by simp [A.ren,h1,h2],fun h => by simp [A.refs,h]⟩
@[simp] theorem famA_osl {u sz off len : Nat} {q : Nm} : FamA (fun r => .osl (r :: q) u sz off len) := ⟨fun h1 h2 => by simp [A.ren,h1,h2],fun h => by simp [A.refs,h]⟩
@[simp] theorem famA_pel {u i j : Nat} {q : Nm} : FamA (fun r => .pel (r :: q) u i j) := ⟨fun h1 h2 => by simp [A.ren,h1,h2],fun h => by simp [A.refs,h]⟩
@[simp] theorem famA_agg {l : Nat→List A} (h : FamL l) : FamA (fun r => .agg (l r)) := ⟨fun h1 h2 => by simp [A.ren,h.ren h1 h2],fun h1 => by simp only [A.refs]; exact h.refs h1⟩
@[simp] theorem famA_tup {l : Nat→List A} (h : FamL l) : FamA (fun r => .tup (l r)) := ⟨fun h1 h2 => by simp [A.ren,h.ren h1 h2],fun h1 => by simp only [A.refs]; exact h.refs h1⟩
@[simp] theorem famA_fnc {f : FuncId} {l m : Nat→List A} (h : FamL l) (k : FamL m) : FamA (fun r => .fnc f (l r) (m r)) := ⟨fun h1 h2 => by simp [A.ren,h.ren h1 h2,k.ren h1 h2],fun h1 => by simp only [A.refs]; exact ⟨h.refs h1,k.refs h1⟩⟩
@[simp] theorem famA_ifc {t : TypeId} {a : Nat→A} (h : FamA a) : FamA (fun r => .ifc t (a r)) := ⟨fun h1 h2 => by simp [A.ren,h.ren h1 h2],fun h1 => by simp only [A.refs]; exact h.refs h1⟩
theorem famA_bare1 {a : A} (h : a.bare1 = true) : FamA (fun _ => a) := by cases a <;> simp [A.bare1] at h ⊢
theorem famA_bare {a : A} {cs : List A} (ha : a = .agg cs) (h : ∀ x,x ∈ cs→x.bare1 = true) : FamA (fun _ => a) := by
  subst ha
  exact famA_agg (l := fun _ => cs) (FamL.all fun x hx => famA_bare1 (h x hx))
theorem Fam.cells_ren {g : Nm→Nm} {δ : Nm→Nat} {u : Nat} {l l' : List A} (h : A.renL g δ l = l') : VOb.ren g δ 0 ⟨u,.cells l⟩ = ⟨u,.cells l'⟩ := by simp [VOb.ren,Ob.ren,h]
theorem Fam.arr_ren {g : Nm→Nm} {δ : Nm→Nat} {u sz : Nat} {l l' : List A} (h : A.renL g δ l = l') : VOb.ren g δ 0 ⟨u,.arr sz l⟩ = ⟨u,.arr sz l'⟩ := by simp [VOb.ren,Ob.ren,h]
structure SpecF (P : Program) (f : FuncId) (as' : Nat→List A) (F : Fam) (x : Nat→A) (F' : Fam) : Prop where
  fa : FamL as'
  fx : FamA x
  h : SpecH P f 1 (as' 0) (ov 0 (F.F 0) (lkH [])) (x 0) (ov 0 (F'.F 0) (lkH []))
section
variable {P : Program} {K : Sta→Prop} {rest : List CO} {s : Nat→A} {H : Hp} {dd : Option Nat} {nm : Nm} {ix : Nat} {un : List Nat} {l : Bool} {lg : Lg} {g : FuncId} {aa : Array Operand} {ts : Array TypeId}
theorem fam_in {r : Nat} {F : Fam} (hF : ∀ p,H (r :: p) = F.F r p) : inHp [r] 1 H = ov 0 (F.F 0) (lkH []) := by
  funext o
  cases o with
  | nil => rfl
  | cons i p =>
    by_cases hi : i < 1
    · have : i = 0 := by omega
      subst this
      simp only [inHp,if_pos hi,ov_cons,if_true]
      show (H (r :: p)).ren _ _ 0 = _
      rw [hF]
      exact F.ren (fun q => by simp [dnN]) (fun _ => rfl) p
    · simp only [inHp,if_neg hi,ov_cons]
      rw [if_neg (by omega)]
      rfl
theorem fam_out {r : Nat} {F' : Fam} : outG [r] (dlt [r] 1 H) H (ov 0 (F'.F 0) (lkH [])) = ov r (F'.F r) H := by
  have hd : ∀ p,dlt [r] 1 H (0 :: p) = 0 := fun p => rfl
  funext o
  cases o with
  | nil => rfl
  | cons j p =>
    by_cases hj : j = r
    · subst hj
      simp only [outG,ov_cons,if_true]
      rw [if_pos (by simp)]
      have : [j].idxOf j = 0 := by simp
      rw [this,if_pos rfl,hd]
      exact F'.ren (fun q => by simp [upN]) hd p
    · have : ¬ [r].contains j = true := by simpa using hj
      simp only [outG,if_neg this,ov_cons,if_neg hj]
theorem fam_closed {r : Nat} {F : Fam} (hF : ∀ p,H (r :: p) = F.F r p) : ClosedH [r] 1 H := by
  intro j p hj
  have hjr : j = r := by
    have := (idx_mem (rs := [r])).1 (by simpa using hj)
    simpa using this
  rw [hjr,hF]
  exact F.refs (fun q => by simp [inS]) p
theorem fam_refs {F' : Fam} (i : Nat) (p : Nm) (hi : i < 1) : ((ov 0 (F'.F 0) (lkH [])) (i :: p)).ob.refs (outS 1) := by
  have : i = 0 := by omega
  subst this
  simp only [ov_cons,if_true]
  exact F'.refs (fun q => by simp [outS]) p
theorem sc_fam {as' : Nat→List A} {F F' : Fam} {x : Nat→A} (r : Nat) (hS : SpecF P g as' F x F') (hF : ∀ p,H (r :: p) = F.F r p) (ha : aa.toList.map (evs s) = as' r) (hck : Ck un lg ⟨[],[([r],true)]⟩)
    (h : SeqC P K rest (addL l ix ⟨[],[([r],true)]⟩ lg) (Sta.put ⟨s,H⟩ dd (x r) (ov r (F'.F r) H))) :
    SeqC P K (⟨dd,.call { callee := .value (.func g),args := aa,argTypes := ts },none,nm,ix,un,l⟩ :: rest) lg ⟨s,H⟩ := by
  have hd : ∀ p,dlt [r] 1 H (0 :: p) = 0 := fun p => rfl
  refine sc_callH [r] 1 hS.h (by simp) (by simp) ?_ ?_ (fam_in hF) (fam_closed hF) (hS.fx.refs (fun p => by simp [outS])) (fun i p hi => fam_refs i p hi) (fun i p h1 h2 => by simp at h2; omega) (hS.fx.ren (fun q => by simp [upN]) hd) fam_out hck h
  · rw [ha]; exact hS.fa.ren (fun q => by simp [dnN]) (fun _ => rfl)
  · rw [ha]; exact hS.fa.refs (fun q => by simp [inS])
theorem sc_famV {as' : Nat→List A} {F F' : Fam} {x : Nat→A} {fo : Operand} {fs caps : List A} (r : Nat) (hv0 : evs s fo = .fnc g fs caps) (hS : SpecF P g as' F x F') (hF : ∀ p,H (r :: p) = F.F r p) (ha : fs ++ (aa.toList.map (evs s) ++ caps) = as' r) (hck : Ck un lg ⟨[],[([r],true)]⟩)
    (h : SeqC P K rest (addL l ix ⟨[],[([r],true)]⟩ lg) (Sta.put ⟨s,H⟩ dd (x r) (ov r (F'.F r) H))) :
    SeqC P K (⟨dd,.call { callee := .value fo,args := aa,argTypes := ts },none,nm,ix,un,l⟩ :: rest) lg ⟨s,H⟩ := by
  have hd : ∀ p,dlt [r] 1 H (0 :: p) = 0 := fun p => rfl
  refine sc_callHv hv0 ha [r] 1 hS.h (by simp) (by simp) (hS.fa.ren (fun q => by simp [dnN]) (fun _ => rfl)) (hS.fa.refs (fun q => by simp [inS])) (fam_in hF) (fam_closed hF) (hS.fx.refs (fun p => by simp [outS])) (fun i p hi => fam_refs i p hi) (fun i p h1 h2 => by simp at h2; omega) (hS.fx.ren (fun q => by simp [upN]) hd) fam_out hck h
end
section
variable {P : Program} {K : Sta→Prop} {rest : List CO} {s : Nat→A} {H : Hp} {dd : Option Nat} {nm : Nm} {ix : Nat} {un : List Nat} {l : Bool} {lg : Lg} {g : FuncId} {aa : Array Operand} {ts : Array TypeId}
theorem callR_fam {as' : Nat→List A} {F F' : Fam} {x : Nat→A} (r : Nat) (hS : SpecF P g as' F x F') (hF : ∀ p,H (r :: p) = F.F r p) : ∃ E,CallR P H g (as' r) (x r) E [] [([r],true)]∧E.app H = ov r (F'.F r) H := by
  have hd : ∀ p,dlt [r] 1 H (0 :: p) = 0 := fun p => rfl
  have := callR_H (H := H) (L := as' r) [r] 1 hS.h (by simp) (by simp) (hS.fa.ren (fun q => by simp [dnN]) (fun _ => rfl)) (hS.fa.refs (fun q => by simp [inS])) (fam_in hF) (fam_closed hF) (hS.fx.refs (fun p => by simp [outS])) (fun i p hi => fam_refs i p hi) (fun i p h1 h2 => by simp at h2; omega) fam_out
  have e : A.ren (upN [r]) (dlt [r] 1 H) (x 0) = x r := hS.fx.ren (fun q => by simp [upN]) hd
  rw [e] at this
  exact this
theorem sc_invF {as' : Nat→List A} {F F' : Fam} {x : Nat→A} {ro : Operand} {name : String} {t : TypeId} {a a' : A} {d : Option TypeId} (r : Nat) (hS : SpecF P g as' F x F') (hF : ∀ p,H (r :: p) = F.F r p) (hr : evs s ro = .ifc t a) (hm : methA P t name = some (g,d)) (ha : recvA P H d a = some a') (hL : a' :: aa.toList.map (evs s) = as' r)
    (hck : Ck un lg ⟨refs a ++ [],[([r],true)]⟩) (h : SeqC P K rest (addL l ix ⟨refs a ++ [],[([r],true)]⟩ lg) (Sta.put ⟨s,H⟩ dd (x r) (ov r (F'.F r) H))) :
    SeqC P K (⟨dd,.call { callee := .invoke ro name,args := aa,argTypes := ts },none,nm,ix,un,l⟩ :: rest) lg ⟨s,H⟩ :=
  sc_inv hr hm ha hL (callR_fam r hS hF) hck h
end
theorem ov_ov {r : Nat} {F F' : Nm→VOb} {H : Hp} : ov r F (ov r F' H) = ov r F H := by
  funext o
  cases o with
  | nil => rfl
  | cons j p => by_cases hj : j = r <;> simp [hj]
@[simp] theorem ov_same {r : Nat} {F F' : Nm→VOb} {H : Hp} : ov r F (ov r F' H) = ov r F H := ov_ov
theorem specF_of {P : Program} {f : FuncId} {n : Nat} {rs : List ResultVar} {cc : CC} {as' : Nat→List A} {F F' : Fam} {x : Nat→A} (t : Txt P f n rs cc) (ha : (as' 0).length≤n) (h0 : FamL as') (h1 : FamA x)
    (h : ∀ w0 I0 M0 m0,WPC (cxh P w0 I0 M0 n m0) cc (RetH (cxh P w0 I0 M0 n m0) rs 1 (x 0) (ov 0 (F'.F 0) (lkH []))) ⟨argS (as' 0),ov 0 (F.F 0) (lkH [])⟩) : SpecF P f as' F x F' :=
  ⟨h0,h1,specH_of t ha h⟩
theorem reth_fam {c : Cx} {rs : List ResultVar} {x : A} {F' : Nm→VOb} {r0 : A} {st : Sta} (h : resA c.P st rs = some r0) (he : r0 = x) (hh : ∀ p,st.H (0 :: p) = F' p) : RetH c rs 1 x (ov 0 F' (lkH [])) .ret st :=
  reth_ret h he fun i p hi => by
    have : i = 0 := by omega
    subst this
    rw [hh]
    simp
theorem reth_famN {c : Cx} {rs : List ResultVar} {x : A} {F' : Nm→VOb} {r0 : A} {st : Sta} (h : resA c.P st rs = some r0) (he : r0 = x) (hh : ∀ p,st.H (0 :: p) = F' p) : RetH c rs 1 x (ov 0 F' (lkH [])) .normal st :=
  reth_normal h he fun i p hi => by
    have : i = 0 := by omega
    subst this
    rw [hh]
    simp
structure FamA2 (a : Nat→Nat→A) : Prop where
  ren : ∀ {g : Nm→Nm} {δ : Nm→Nat} {r r' q q' : Nat},(∀ p,g (r :: p) = r' :: p)→(∀ p,δ (r :: p) = 0)→(∀ p,g (q :: p) = q' :: p)→(∀ p,δ (q :: p) = 0)→(a r q).ren g δ = a r' q'
  refs : ∀ {D : Nm→Prop} {r q : Nat},(∀ p,D (r :: p))→(∀ p,D (q :: p))→(a r q).refs D
structure FamL2 (a : Nat→Nat→List A) : Prop where
  ren : ∀ {g : Nm→Nm} {δ : Nm→Nat} {r r' q q' : Nat},(∀ p,g (r :: p) = r' :: p)→(∀ p,δ (r :: p) = 0)→(∀ p,g (q :: p) = q' :: p)→(∀ p,δ (q :: p) = 0)→A.renL g δ (a r q) = a r' q'
  refs : ∀ {D : Nm→Prop} {r q : Nat},(∀ p,D (r :: p))→(∀ p,D (q :: p))→A.refsL D (a r q)
@[simp] theorem famL2_nil : FamL2 (fun _ _ => []) := ⟨fun _ _ _ _ => by simp [A.renL],fun _ _ => by simp [A.refsL]⟩
theorem famL2_cons {a : Nat→Nat→A} {l : Nat→Nat→List A} (h : FamA2 a) (k : FamL2 l) : FamL2 (fun r q => a r q :: l r q) := ⟨fun h1 h2 h3 h4 => by simp [A.renL,h.ren h1 h2 h3 h4,k.ren h1 h2 h3 h4],fun h1 h2 => by simp only [A.refsL]; exact ⟨h.refs h1 h2,k.refs h1 h2⟩⟩
theorem famA2_l {a : Nat→A} (h : FamA a) : FamA2 (fun r _ => a r) := ⟨fun h1 h2 _ _ => h.ren h1 h2,fun h1 _ => h.refs h1⟩
theorem famA2_r {a : Nat→A} (h : FamA a) : FamA2 (fun _ q => a q) := ⟨fun _ _ h1 h2 => h.ren h1 h2,fun _ h1 => h.refs h1⟩
theorem famA2_tup {l : Nat→Nat→List A} (h : FamL2 l) : FamA2 (fun r q => .tup (l r q)) := ⟨fun h1 h2 h3 h4 => by simp [A.ren,h.ren h1 h2 h3 h4],fun h1 h2 => by simp only [A.refs]; exact h.refs h1 h2⟩
section
variable {P : Program} {K : Sta→Prop} {rest : List CO} {s : Nat→A} {H : Hp} {dd : Option Nat} {nm : Nm} {ix : Nat} {un : List Nat} {l : Bool} {lg : Lg} {g : FuncId} {aa : Array Operand} {ts : Array TypeId}
end
theorem reth_fam2 {c : Cx} {rs : List ResultVar} {x : A} {F' N : Nm→VOb} {r0 : A} {st : Sta} (h : resA c.P st rs = some r0) (he : r0 = x) (hh : ∀ p,st.H (0 :: p) = F' p) (hn : ∀ p,st.H (1 :: p) = N p) : RetH c rs 2 x (ov 0 F' (ov 1 N (lkH []))) .ret st :=
  reth_ret h he fun i p hi => by
    by_cases h0 : i = 0
    · subst h0
      rw [hh]
      simp
    · have : i = 1 := by omega
      subst this
      rw [hn]
      simp
def rowM (u sz : Nat) (xs : List A) (h : ∀ x,x ∈ xs→FamA (fun _ => x)) : Fam := ⟨fun _ p => if p = [] then ⟨u,.arr sz xs⟩ else ⟨0,.none⟩,fun {g δ r r'} hg hd p => by
    by_cases hp : p = []
    · rw [if_pos hp]
      exact Fam.arr_ren ((FamL.all h).ren hg hd)
    · rw [if_neg hp]; rfl,fun {D r} hD p => by
    by_cases hp : p = []
    · rw [if_pos hp]
      exact (FamL.all h).refs hD
    · rw [if_neg hp]; trivial⟩
@[simp] theorem rowM_F {u sz : Nat} {xs : List A} {h : ∀ x,x ∈ xs→FamA (fun _ => x)} {r : Nat} {p : Nm} : (rowM u sz xs h).F r p = if p = [] then ⟨u,.arr sz xs⟩ else ⟨0,.none⟩ := rfl
structure Fam2 where
  B : Nat→Nat→Nm→VOb
  C : Nat→Nat→Nm→VOb
  ren : ∀ {g : Nm→Nm} {δ : Nm→Nat} {r r' q q' : Nat},(∀ p,g (r :: p) = r' :: p)→(∀ p,δ (r :: p) = 0)→(∀ p,g (q :: p) = q' :: p)→(∀ p,δ (q :: p) = 0)→∀ p,(B r q p).ren g δ 0 = B r' q' p∧(C r q p).ren g δ 0 = C r' q' p
  refs : ∀ {D : Nm→Prop} {r q : Nat},(∀ p,D (r :: p))→(∀ p,D (q :: p))→∀ p,(B r q p).ob.refs D∧(C r q p).ob.refs D
def Fam.two (F G : Fam) : Fam2 := ⟨fun r _ => F.F r,fun _ q => G.F q,fun h1 h2 h3 h4 p => ⟨F.ren h1 h2 p,G.ren h3 h4 p⟩,fun h1 h2 p => ⟨F.refs h1 p,G.refs h2 p⟩⟩
@[simp] theorem two_B {F G : Fam} {r q : Nat} : (F.two G).B r q = F.F r := rfl
@[simp] theorem two_C {F G : Fam} {r q : Nat} : (F.two G).C r q = G.F q := rfl
structure SpecF2 (P : Program) (f : FuncId) (as' : Nat→Nat→List A) (F : Fam2) (x : Nat→Nat→A) (F' : Fam2) : Prop where
  fa : FamL2 as'
  fx : FamA2 x
  h : SpecH P f 2 (as' 0 1) (ov 0 (F.B 0 1) (ov 1 (F.C 0 1) (lkH []))) (x 0 1) (ov 0 (F'.B 0 1) (ov 1 (F'.C 0 1) (lkH [])))
section
variable {P : Program} {K : Sta→Prop} {rest : List CO} {s : Nat→A} {H : Hp} {dd : Option Nat} {nm : Nm} {ix : Nat} {un : List Nat} {l : Bool} {lg : Lg} {g : FuncId} {aa : Array Operand} {ts : Array TypeId}
theorem sc_fam2 {as' : Nat→Nat→List A} {F F' : Fam2} {x : Nat→Nat→A} (r q : Nat) (hrq : r ≠ q) (hS : SpecF2 P g as' F x F') (hF : ∀ p,H (r :: p) = F.B r q p) (hG : ∀ p,H (q :: p) = F.C r q p) (ha : aa.toList.map (evs s) = as' r q) (hck : Ck un lg ⟨[],[([r],true),([q],true)]⟩)
    (h : SeqC P K rest (addL l ix ⟨[],[([r],true),([q],true)]⟩ lg) (Sta.put ⟨s,H⟩ dd (x r q) (ov r (F'.B r q) (ov q (F'.C r q) H)))) :
    SeqC P K (⟨dd,.call { callee := .value (.func g),args := aa,argTypes := ts },none,nm,ix,un,l⟩ :: rest) lg ⟨s,H⟩ := by
  have hd : ∀ p,dlt [r,q] 2 H (0 :: p) = 0 := fun p => rfl
  have hd1 : ∀ p,dlt [r,q] 2 H (1 :: p) = 0 := fun p => rfl
  have i0 : [r,q].idxOf r = 0 := by simp
  have i1 : [r,q].idxOf q = 1 := by simp [List.idxOf_cons,beq_eq_false_iff_ne.2 hrq]
  have d0 : ∀ p,dnN [r,q] (r :: p) = 0 :: p := fun p => by simp [dnN]
  have d1 : ∀ p,dnN [r,q] (q :: p) = 1 :: p := fun p => by simp [dnN,i1]
  have jin : ∀ {j : Nat},[r,q].idxOf j < 2→j = r∨j = q := fun {j} hj => by
    have := (idx_mem (rs := [r,q])).1 (by simpa using hj)
    simpa using this
  refine sc_callH [r,q] 2 hS.h (by simp [hrq]) (by simp) ?_ ?_ ?_ ?_ (hS.fx.refs (fun p => by simp [outS]) (fun p => by simp [outS])) ?_ (fun i p h1 h2 => by simp at h2; omega) (hS.fx.ren (fun p => by simp [upN]) hd (fun p => by simp [upN]) hd1) ?_ hck h
  · rw [ha]; exact hS.fa.ren d0 (fun _ => rfl) d1 (fun _ => rfl)
  · rw [ha]; exact hS.fa.refs (fun p => by simp [inS]) (fun p => by simp [inS,i1])
  · funext o
    cases o with
    | nil => rfl
    | cons i p =>
      by_cases hi : i < 2
      · simp only [inHp,if_pos hi]
        have h01 : i = 0∨i = 1 := by omega
        rcases h01 with rfl | rfl
        · show (H (r :: p)).ren _ _ 0 = _
          rw [hF]
          simp only [ov_cons,if_true]
          exact (F.ren d0 (fun _ => rfl) d1 (fun _ => rfl) p).1
        · show (H (q :: p)).ren _ _ 0 = _
          rw [hG]
          simp only [ov_cons,if_true]
          rw [if_neg (by omega)]
          exact (F.ren d0 (fun _ => rfl) d1 (fun _ => rfl) p).2
      · simp only [inHp,if_neg hi,ov_cons]
        rw [if_neg (by omega),if_neg (by omega)]
        rfl
  · intro j p hj
    rcases jin hj with rfl | rfl
    · rw [hF]
      exact (F.refs (fun p => by simp [inS]) (fun p => by simp [inS,i1]) p).1
    · rw [hG]
      exact (F.refs (fun p => by simp [inS]) (fun p => by simp [inS,i1]) p).2
  · intro i p hi
    have hi : i < 2 := hi
    by_cases h0 : i = 0
    · subst h0
      simp only [ov_cons,if_true]
      exact (F'.refs (fun q => by simp [outS]) (fun q => by simp [outS]) p).1
    · have : i = 1 := by omega
      subst this
      simp only [ov_cons,if_true]
      rw [if_neg (by omega)]
      exact (F'.refs (fun q => by simp [outS]) (fun q => by simp [outS]) p).2
  · have u0 : ∀ p,upN [r,q] (0 :: p) = r :: p := fun p => by simp [upN]
    have u1 : ∀ p,upN [r,q] (1 :: p) = q :: p := fun p => by simp [upN]
    funext o
    cases o with
    | nil => rfl
    | cons j p =>
      by_cases hj : j = r
      · subst hj
        simp only [outG,ov_cons,if_true]
        rw [if_pos (by simp),i0,if_pos rfl,hd]
        exact (F'.ren u0 hd u1 hd1 p).1
      · by_cases hj2 : j = q
        · subst hj2
          simp only [outG,ov_cons,if_true,if_neg hj]
          rw [if_pos (by simp),i1,if_neg (by omega),if_pos rfl,hd1]
          exact (F'.ren u0 hd u1 hd1 p).2
        · have : ¬ [r,q].contains j = true := by simp [hj,hj2]
          simp only [outG,if_neg this,ov_cons,if_neg hj,if_neg hj2]
end
theorem specF2_of {P : Program} {f : FuncId} {n : Nat} {rs : List ResultVar} {cc : CC} {as' : Nat→Nat→List A} {F F' : Fam2} {x : Nat→Nat→A} (t : Txt P f n rs cc) (ha : (as' 0 1).length≤n) (h0 : FamL2 as') (h1 : FamA2 x)
    (h : ∀ w0 I0 M0 m0,WPC (cxh P w0 I0 M0 n m0) cc (RetH (cxh P w0 I0 M0 n m0) rs 2 (x 0 1) (ov 0 (F'.B 0 1) (ov 1 (F'.C 0 1) (lkH [])))) ⟨argS (as' 0 1),ov 0 (F.B 0 1) (ov 1 (F.C 0 1) (lkH []))⟩) : SpecF2 P f as' F x F' :=
  ⟨h0,h1,specH_of t ha h⟩
theorem Sim.move {c : Cx} {w : World} {I : Nat→Prop} {μ : Mu} {H : Hp} (hs : Sim c w I μ H) {d d' : Nm} (hne : d ≠ d') (h0 : (H d').u = 0) (h1 : 1≤(H d).u) (hM : ∀ b,¬ c.M0 d b) (htg : ∀ e,tagOK d' e = true) :
    Ext I μ w I (updF μ d' (μ d)) w∧Sim c w I (updF μ d' (μ d)) (updF (updF H d' (H d)) d ⟨(H d).u,.none⟩) := by
  have hu0 : (μ d').u = 0 := by rw [hs.ver,h0]
  have hu1 : 1≤(μ d).u := by rw [hs.ver]; exact h1
  have hm : MuLe μ (updF μ d' (μ d)) := fun o => by
    by_cases e : o = d'
    · subst e
      rw [updF_self]
      exact ⟨by omega,fun e => by omega⟩
    · rw [updF_ne e]
      exact ⟨Nat.le_refl _,fun _ => rfl⟩
  have hx : Ext I μ w I (updF μ d' (μ d)) w := ⟨fun b h => h,fun b h => rfl,hm⟩
  have hd : (updF (updF H d' (H d)) d ⟨(H d).u,.none⟩ : Hp) d = ⟨(H d).u,.none⟩ := updF_self
  have hd' : (updF (updF H d' (H d)) d ⟨(H d).u,.none⟩ : Hp) d' = H d := by rw [updF_ne (Ne.symm hne),updF_self]
  have hoth : ∀ o,o ≠ d→o ≠ d'→(updF (updF H d' (H d)) d ⟨(H d).u,.none⟩ : Hp) o = H o := fun o e1 e2 => by rw [updF_ne e1,updF_ne e2]
  -- who has a block has it in the old state,under an old name
  have old : ∀ o,hasB (updF μ d' (μ d) o) ((updF (updF H d' (H d)) d ⟨(H d).u,.none⟩ : Hp) o).ob = true→∃ p,hasB (μ p) (H p).ob = true∧(updF μ d' (μ d) o) = μ p∧(o = d'∧p = d∨o ≠ d'∧o ≠ d∧p = o) := fun o h => by
    by_cases e1 : o = d
    · subst e1
      rw [hd] at h
      cases h
    · by_cases e2 : o = d'
      · subst e2
        rw [hd',updF_self] at h
        exact ⟨d,h,updF_self,.inl ⟨rfl,rfl⟩⟩
      · rw [hoth o e1 e2,updF_ne e2] at h
        exact ⟨o,h,updF_ne e2,.inr ⟨e2,e1,rfl⟩⟩
  refine ⟨hx,hs.kept,hs.lt,hs.old,hs.new,fun o => ?_,fun o => ?_,fun o o' k k' hoo => ?_,fun o k => ?_,hs.mle.trans hm,fun o k => ?_,hs.tab⟩
  · by_cases e1 : o = d
    · subst e1
      rw [hd,updF_ne hne]
      exact hs.ver o
    · by_cases e2 : o = d'
      · subst e2
        rw [hd',updF_self]
        exact hs.ver d
      · rw [hoth o e1 e2,updF_ne e2]
        exact hs.ver o
  · by_cases e1 : o = d
    · subst e1
      rw [hd]
      trivial
    · by_cases e2 : o = d'
      · subst e2
        rw [hd',updF_self]
        exact OSim.keep hx (fun _ => rfl) (hs.ob d)
      · rw [hoth o e1 e2,updF_ne e2]
        exact OSim.keep hx (fun _ => rfl) (hs.ob o)
  · obtain ⟨p,k1,k2,k3⟩ := old o k
    obtain ⟨p',g1,g2,g3⟩ := old o' k'
    rw [k2,g2]
    refine hs.apart p p' k1 g1 fun e => hoo ?_
    rcases k3 with ⟨a1,a2⟩ | ⟨a1,a2,a3⟩ <;> rcases g3 with ⟨b1,b2⟩ | ⟨b1,b2,b3⟩
    · rw [a1,b1]
    · exact absurd (by rw [← b3,← e,a2]) b2
    · exact absurd (by rw [← a3,e,b2]) a2
    · rw [← a3,← b3,e]
  · obtain ⟨p,k1,k2,k3⟩ := old o k
    rw [k2]
    obtain ⟨q1,q2,q3⟩ := hs.own p k1
    refine ⟨q1,?_,q3⟩
    rcases k3 with ⟨a1,a2⟩ | ⟨a1,a2,a3⟩
    · subst a2
      rcases q2 with h | h
      · exact (hM _ h).elim
      · exact .inr h
    · subst a3
      exact q2
  · obtain ⟨p,k1,k2,k3⟩ := old o k
    rw [k2]
    rcases k3 with ⟨a1,a2⟩ | ⟨a1,a2,a3⟩
    · rw [a1]; exact htg _
    · rw [← a3]; exact hs.tag p k1
theorem le_freezeR {c : Cx} {s : Nat→A} {H : Hp} (R : Nat→Prop) [DecidablePred R] (hM : ∀ r p b,R r→¬ c.M0 (r :: p) b) (t : Nat) (a : A) (hf : ∀ H1 : Hp,(∀ r p,R r→H1 (r :: p) = H (r :: p))→Frz H1 (s t) a) :
    ∃ H2 : Hp,Le c ⟨s,H⟩ ⟨upd s t a,H2⟩∧∀ r p,¬ R r→H2 (r :: p) = H (r :: p) := by
  refine ⟨fun o => match o with | r :: p => if R r then ⟨(H (r :: p)).u,.none⟩ else H (r :: p) | [] => H [],le_freeze (H1 := fun o => match o with | r :: p => if R r then H (r :: p) else ⟨(H (r :: p)).u,.none⟩ | [] => ⟨(H []).u,.none⟩) (fun o b h => ?_) t a (fun o => ?_) (fun o => ?_) (fun o => ?_) (hf _ fun r p h => if_pos h),fun r p h => if_neg h⟩
  · cases o with
    | nil => exact absurd rfl h
    | cons r p =>
      by_cases hr : R r
      · exact hM r p b hr
      · exact absurd (by simp [hr]) h
  · cases o with
    | nil => exact .inr rfl
    | cons r p =>
      by_cases hr : R r
      · exact .inl (by simp [hr])
      · exact .inr (by simp [hr])
  · cases o with
    | nil => exact .inl rfl
    | cons r p =>
      by_cases hr : R r
      · exact .inr (by simp [hr])
      · exact .inl (by simp [hr])
  · cases o with
    | nil => exact .inl rfl
    | cons r p =>
      by_cases hr : R r
      · exact .inr (by simp [hr])
      · exact .inl (by simp [hr])
theorem specF_of' {P : Program} {f : FuncId} {n : Nat} {rs : List ResultVar} {cc : CC} {as' : Nat→List A} {F F' : Fam} {x : Nat→A} (t : Txt P f n rs cc) (ha : (as' 0).length≤n) (h0 : FamL as') (h1 : FamA x)
    (h : ∀ w0 I0 M0 m0,(∀ r p b,1≤r→¬ M0 (r :: p) b)→WPC (cxh P w0 I0 M0 n m0) cc (RetH (cxh P w0 I0 M0 n m0) rs 1 (x 0) (ov 0 (F'.F 0) (lkH []))) ⟨argS (as' 0),ov 0 (F.F 0) (lkH [])⟩) : SpecF P f as' F x F' :=
  ⟨h0,h1,specH_of' t ha fun w0 I0 M0 m0 hM => h w0 I0 M0 m0 fun r p b hr => hM (r :: p) b (by
    simp only [ov_cons]
    rw [if_neg (by omega)]
    rfl)⟩
abbrev S (l : List UInt8) : A := .v (.string ⟨l.toArray⟩)
abbrev u8v (b : UInt8) : A := .v (.int .u8 b.toNat)
@[simp] theorem str_size (l : List UInt8) : (ByteArray.mk l.toArray).size = l.length := by simp [ByteArray.size]
@[simp] theorem str_get (l : List UInt8) (i : Nat) : (ByteArray.mk l.toArray)[i]? = l[i]? := by
  by_cases h : i < l.length
  · have h' : i < (ByteArray.mk l.toArray).size := by simpa using h
    rw [getElem?_pos (ByteArray.mk l.toArray) i h',List.getElem?_eq_getElem h]
    rfl
  · have h' : ¬ i < (ByteArray.mk l.toArray).size := by simpa using h
    rw [getElem?_neg (ByteArray.mk l.toArray) i h',List.getElem?_eq_none (by omega)]
@[simp] theorem str_getE (l : List UInt8) (i : Nat) (h : i < (ByteArray.mk l.toArray).size) : (ByteArray.mk l.toArray)[i]'h = l[i]'(by simpa using h) := rfl
@[simp] theorem str_extract (l : List UInt8) (a b : Nat) : (ByteArray.mk l.toArray).extract a b = ByteArray.mk ((l.drop a).take (b - a)).toArray := by
  have h : ((ByteArray.mk l.toArray).extract a b).data = ((l.drop a).take (b - a)).toArray := by
    rw [ByteArray.data_extract]
    simp
  cases hq : (ByteArray.mk l.toArray).extract a b with
  | mk d => rw [hq] at h; simpa using h
@[simp] theorem str_append (l m : List UInt8) : ByteArray.mk l.toArray ++ ByteArray.mk m.toArray = ByteArray.mk (l ++ m).toArray := Go.ByteArray.mk_append_mk l m
@[simp] theorem str_toList (l : List UInt8) : (ByteArray.mk l.toArray).toList = l := Go.ByteArray.toList_eq _
@[simp] theorem bytesA_map (l : List UInt8) : bytesA (l.map u8v) = some l := by
  induction l with
  | nil => rfl
  | cons b l ih =>
    have h : byteA (u8v b) = some b := by
      have := b.toNat_lt
      simp [byteA]
      omega
    simp [bytesA,h,ih]
@[simp] theorem convA_sl {P : Program} {t u : TypeId} {f : Bool} {xs : List A} : convA P t u (.sl f xs) = match P.underlying t,P.underlying u with
    | some (.slice e),some .string => (match P.underlying e,bytesA xs with | some (.int .u8),some l => some (S l) | _,_ => none)
    | _,_ => none := by
  unfold convA
  cases P.underlying t with
  | none => rfl
  | some d =>
    cases P.underlying u with
    | none => cases d <;> rfl
    | some d' => cases d <;> cases d' <;> rfl
end Go.G
namespace Go.Proofs.YtbjmaoedheiigaaGreat
set_option linter.unusedVariables false
set_option linter.unusedSimpArgs false
set_option maxRecDepth 20000
open Go Go.G Go.Proofs
theorem mixed : Tryz.prog.follows .mixedOrders = true := by kernel_rfl
@[simp] theorem und_3 : Tryz.prog.underlying 3 = some (.int .i64) := by kernel_rfl
@[simp] theorem und_21 : Tryz.prog.underlying 21 = some (.int .i32) := by kernel_rfl
@[simp] theorem und_51 : Tryz.prog.underlying 51 = some (.int .u64) := by kernel_rfl
@[simp] theorem und_288 : Tryz.prog.underlying 288 = some (.int .u32) := by kernel_rfl
@[simp] theorem szT_3 : szT Tryz.prog 3 = some 1 := by kernel_rfl
@[simp] theorem szT_4 : szT Tryz.prog 4 = some 1 := by kernel_rfl
@[simp] theorem szT_135 : szT Tryz.prog 135 = some 8 := by kernel_rfl
@[simp] theorem szT_175 : szT Tryz.prog 175 = some 8 := by kernel_rfl
@[simp] theorem aggT_3 : aggT Tryz.prog 3 = some false := by kernel_rfl
@[simp] theorem aggT_4 : aggT Tryz.prog 4 = some false := by kernel_rfl
@[simp] theorem aggT_135 : aggT Tryz.prog 135 = some true := by kernel_rfl
@[simp] theorem aggT_175 : aggT Tryz.prog 175 = some true := by kernel_rfl
@[simp] theorem zeroT_135 : zeroT Tryz.prog 135 = some (Value.agg #[Value.int IntKind.i64 0,Value.int IntKind.i64 0,Value.int IntKind.i64 0,Value.int IntKind.i64 0,Value.int IntKind.i64 0,Value.int IntKind.i64 0,Value.int IntKind.i64 0,Value.bool false]) := by kernel_rfl
@[simp] theorem zeroT_175 : zeroT Tryz.prog 175 = some (Value.agg #[Value.int IntKind.i64 0,Value.int IntKind.i64 0,Value.int IntKind.i64 0,Value.int IntKind.i64 0,Value.int IntKind.i64 0,Value.int IntKind.i64 0,Value.int IntKind.i64 0,Value.bool false]) := by kernel_rfl
@[simp] theorem fieldOffT_175_0 : fieldOffT Tryz.prog 175 0 = some 0 := by kernel_rfl
@[simp] theorem fieldOffT_175_1 : fieldOffT Tryz.prog 175 1 = some 1 := by kernel_rfl
@[simp] theorem fieldOffT_175_2 : fieldOffT Tryz.prog 175 2 = some 2 := by kernel_rfl
@[simp] theorem fieldOffT_175_3 : fieldOffT Tryz.prog 175 3 = some 3 := by kernel_rfl
@[simp] theorem fieldOffT_175_4 : fieldOffT Tryz.prog 175 4 = some 4 := by kernel_rfl
@[simp] theorem fieldOffT_175_5 : fieldOffT Tryz.prog 175 5 = some 5 := by kernel_rfl
@[simp] theorem fieldOffT_175_6 : fieldOffT Tryz.prog 175 6 = some 6 := by kernel_rfl
@[simp] theorem fieldOffT_175_7 : fieldOffT Tryz.prog 175 7 = some 7 := by kernel_rfl
@[simp] theorem buildA_135 (ps : List (Nat × A)) : buildA Tryz.prog 135 ps = (fillA (fun i => ([(0,1),(1,1),(2,1),(3,1),(4,1),(5,1),(6,1),(7,1)] : List (Nat × Nat))[i]?) [A.v (Value.int IntKind.i64 0),A.v (Value.int IntKind.i64 0),A.v (Value.int IntKind.i64 0),A.v (Value.int IntKind.i64 0),A.v (Value.int IntKind.i64 0),A.v (Value.int IntKind.i64 0),A.v (Value.int IntKind.i64 0),A.v (Value.bool false)] ps).map A.agg := by kernel_rfl
@[simp] theorem buildA_175 (ps : List (Nat × A)) : buildA Tryz.prog 175 ps = (fillA (fun i => ([(0,1),(1,1),(2,1),(3,1),(4,1),(5,1),(6,1),(7,1)] : List (Nat × Nat))[i]?) [A.v (Value.int IntKind.i64 0),A.v (Value.int IntKind.i64 0),A.v (Value.int IntKind.i64 0),A.v (Value.int IntKind.i64 0),A.v (Value.int IntKind.i64 0),A.v (Value.int IntKind.i64 0),A.v (Value.int IntKind.i64 0),A.v (Value.bool false)] ps).map A.agg := by kernel_rfl
@[simp] theorem eqA_175 (x0 y0 : Int) (x1 y1 : Int) (x2 y2 : Int) (x3 y3 : Int) (x4 y4 : Int) (x5 y5 : Int) (x6 y6 : Int) (x7 y7 : Bool) : eqA Tryz.prog 100 175 (.agg [A.v (.int .i64 x0),A.v (.int .i64 x1),A.v (.int .i64 x2),A.v (.int .i64 x3),A.v (.int .i64 x4),A.v (.int .i64 x5),A.v (.int .i64 x6),A.v (.bool x7)]) (.agg [A.v (.int .i64 y0),A.v (.int .i64 y1),A.v (.int .i64 y2),A.v (.int .i64 y3),A.v (.int .i64 y4),A.v (.int .i64 y5),A.v (.int .i64 y6),A.v (.bool y7)]) = some (((x0 == y0) && ((x1 == y1) && ((x2 == y2) && ((x3 == y3) && ((x4 == y4) && ((x5 == y5) && ((x6 == y6) && ((x7 == y7) && (true)))))))))) := by kernel_rfl
@[simp] theorem eqG_175 : Tryz.prog.eqGuardType Tryz.prog.depth 175 = false := by kernel_rfl
@[simp] abbrev xT (n : Nat) : Operand := .tmp n
@[simp] abbrev nI (n : Int) : Operand := .const (.int .i64 n)
@[simp] abbrev cL (f : Nat) (xs : Array Operand) (ts : Array TypeId) : Op := .call { callee := (.value (.func f)),args := xs,argTypes := ts }
@[simp] abbrev mV (n : Nat) : Op := .move (.tmp n)
@[simp] abbrev aS (n : Nat) : Op := .assign (.tmp n)
@[simp] abbrev lD (t n : Nat) : Op := .load t (.tmp n)
@[simp] abbrev fA (t n f : Nat) : Op := .fieldAddr t (.tmp n) f
@[simp] abbrev xR (n i : Nat) : Op := .extract (.tmp n) i
@[simp] abbrev oO (d : Nat) (o : Op) : CO := co (some d) o none
@[simp] abbrev oN (d : Nat) (o : Op) (nm : Nm) : CO := cn (some d) o none nm
@[simp] abbrev oS (o : Op) : CO := co none o none
@[simp] abbrev oG (d : Nat) (o : Op) (k : Nat) (b : Bool) : CO := co (some d) o (some (k,b))
@[simp] abbrev bC (b : Builtin) (xs : Array Operand) (ts : Array TypeId) : Op := .call { callee := (.builtin b),args := xs,argTypes := ts }
@[simp] abbrev bL (n t : Nat) : Op := .call { callee := (.builtin .len),args := #[.tmp n],argTypes := #[t] }
@[simp] abbrev bO (o : BinOp) (t a b u : Nat) : Op := .binOp o t (.tmp a) (.tmp b) u
@[simp] abbrev iA (t a b : Nat) : Op := .indexAddr t (.tmp a) (.tmp b)
@[simp] abbrev nB (b : Bool) : Operand := .const (.bool b)
@[simp] abbrev nS : Operand := .const (.slice none 0 0)
@[simp] abbrev mO (d n : Nat) : CO := co (some d) (.move (.tmp n)) none
@[simp] abbrev aO (d n : Nat) : CO := co (some d) (.assign (.tmp n)) none
@[simp] abbrev lO (d t n : Nat) : CO := co (some d) (.load t (.tmp n)) none
@[simp] abbrev fO (d t n f : Nat) : CO := co (some d) (.fieldAddr t (.tmp n) f) none
@[simp] abbrev xO (d n i : Nat) : CO := co (some d) (.extract (.tmp n) i) none
def nmOf : Nat→List CO→List (Nat × Nm)
  | _,[] => []
  | i,x :: l => if x.nm.isEmpty then nmOf (i + 1) l else (i,x.nm) :: nmOf (i + 1) l
def lsOf : CC→List Mk
  | .reg a b => [(b,nmOf 0 a)]
  | .seq x (.keep b (.stop y)) => lsOf x ++ (999997 :: b,[]) :: lsOf y
  | .seq x (.keep b y) => lsOf x ++ (999999 :: b,[]) :: lsOf y
  | .seq x (.stop y) => lsOf x ++ ([999998],[]) :: lsOf y
  | .seq x y => lsOf x ++ ([],[]) :: lsOf y
  | .cond _ x y => lsOf x ++ lsOf y
  | .block _ x => lsOf x
  | .loop x => lsOf x
  | .scope x => lsOf x
  | _ => []
@[simp] abbrev sR (a : List CO) (b : List Nat) (k : CC) : CC := .seq (.reg a b) k
@[simp] abbrev cD (n : Nat) (a b : CC) : CC := .cond (.tmp n) a b
def c_ptr_near : CC := sR [oO 2 (.assign (nB false))] [0] (sR [mO 3 0,oO 4 (.binOp .geq 3 (xT 3) (.const (.int .i64 (-536870912))) 3),mO 5 4,oG 6 (mV 0) 5 true,oG 7 (.binOp .lss 3 (xT 6) (nI 536870912) 3) 5 true,oO 8 (.pick (xT 5) (xT 7) (nB false)),aO 2 8] [2] (.ret))
theorem t_ptr_near : Txt Tryz.prog 224 9 [(.tmp 2)] c_ptr_near := txt_of (code := Tryz.f224.body.getD .ret) mixed (by kernel_rfl) Tryz.func224 (by kernel_rfl) Tryz.ntmps224 (by kernel_rfl) (ls := lsOf c_ptr_near) (by kernel_rfl)
def c_ptr_within : CC := sR [oO 4 (.assign (nB false))] [0,1] (sR [mO 5 0,oO 6 (.binOp .geq 3 (xT 5) (nI 0) 3),mO 7 6,oG 8 (mV 0) 7 true,oG 9 (mV 1) 7 true,oG 10 (bO .leq 3 8 9 3) 7 true,oO 11 (.pick (xT 7) (xT 10) (nB false)),aO 4 11] [4] (.ret))
theorem t_ptr_within : Txt Tryz.prog 225 12 [(.tmp 4)] c_ptr_within := txt_of (code := Tryz.f225.body.getD .ret) mixed (by kernel_rfl) Tryz.func225 (by kernel_rfl) Tryz.ntmps225 (by kernel_rfl) (ls := lsOf c_ptr_within) (by kernel_rfl)
def c_ptr_low : CC := sR [oO 4 (.assign (.const (.int .u64 0)))] [0,1] (sR [mO 5 0,oO 6 (.convert 3 288 (xT 5)),oO 7 (.binOp .shl 288 (xT 6) (.const (.int .u64 2)) 269),mO 8 1,oO 9 (.convert 3 288 (xT 8)),oO 10 (bO .or 288 7 9 288),oO 11 (.convert 288 51 (xT 10)),aO 4 11] [4] (.ret))
theorem t_ptr_low : Txt Tryz.prog 226 12 [(.tmp 4)] c_ptr_low := txt_of (code := Tryz.f226.body.getD .ret) mixed (by kernel_rfl) Tryz.func226 (by kernel_rfl) Tryz.ntmps226 (by kernel_rfl) (ls := lsOf c_ptr_low) (by kernel_rfl)
def c_ptr_Decode : CC := sR [oN 2 (.alloc 175) [0]] [0,2] (sR [mO 4 0,oO 5 (.convert 51 288 (xT 4)),oO 6 (.convert 288 21 (xT 5)),oO 7 (.convert 21 3 (xT 6)),oO 8 (.binOp .shr 3 (xT 7) (.const (.int .u64 2)) 269),aO 3 8] [0,2,3] (.seq (.block 0 (sR [mO 10 0,oO 11 (.binOp .eql 51 (xT 10) (.const (.int .u64 0)) 51),aO 9 11] [0,2,3,9] (cD 9 (sR [oO 12 (.build 175 #[]),oS (.store 175 (xT 2) (xT 12))] [2] (.ret)) (sR [mO 14 0,oO 15 (.binOp .and 51 (xT 14) (.const (.int .u64 3)) 51),oO 16 (.binOp .eql 51 (xT 15) (.const (.int .u64 0)) 51),aO 13 16] [0,2,3,13] (cD 13 (sR [mO 17 3,mO 18 0,oO 19 (.binOp .shr 51 (xT 18) (.const (.int .u64 32)) 269),oO 20 (.binOp .and 51 (xT 19) (.const (.int .u64 65535)) 51),oO 21 (.convert 51 3 (xT 20)),mO 22 0,oO 23 (.binOp .shr 51 (xT 22) (.const (.int .u64 48)) 269),oO 24 (.convert 51 3 (xT 23)),oO 25 (.build 175 #[(0,(nI 1)),(1,(xT 17)),(2,(xT 21)),(3,(xT 24))]),oS (.store 175 (xT 2) (xT 25))] [2] (.ret)) (sR [mO 27 0,oO 28 (.binOp .and 51 (xT 27) (.const (.int .u64 3)) 51),oO 29 (.binOp .eql 51 (xT 28) (.const (.int .u64 1)) 51),aO 26 29] [0,2,3,26] (cD 26 (sR [mO 30 3,mO 31 0,oO 32 (.binOp .shr 51 (xT 31) (.const (.int .u64 32)) 269),oO 33 (.binOp .and 51 (xT 32) (.const (.int .u64 7)) 51),oO 34 (.convert 51 3 (xT 33)),mO 35 0,oO 36 (.binOp .shr 51 (xT 35) (.const (.int .u64 35)) 269),oO 37 (.convert 51 3 (xT 36)),oO 38 (.build 175 #[(0,(nI 2)),(1,(xT 30)),(4,(xT 34)),(5,(xT 37))]),oS (.store 175 (xT 2) (xT 38))] [2] (.ret)) (sR [mO 40 0,oO 41 (.binOp .and 51 (xT 40) (.const (.int .u64 3)) 51),oO 42 (.binOp .eql 51 (xT 41) (.const (.int .u64 2)) 51),aO 39 42] [0,2,39] (cD 39 (sR [mO 43 0,oO 44 (.binOp .shr 51 (xT 43) (.const (.int .u64 3)) 269),oO 45 (.binOp .and 51 (xT 44) (.const (.int .u64 536870911)) 51),oO 46 (.convert 51 3 (xT 45)),mO 47 0,oO 48 (.binOp .shr 51 (xT 47) (.const (.int .u64 32)) 269),oO 49 (.convert 51 3 (xT 48)),mO 50 0,oO 51 (.binOp .and 51 (xT 50) (.const (.int .u64 4)) 51),oO 52 (.binOp .neq 51 (xT 51) (.const (.int .u64 0)) 51),oO 53 (.build 175 #[(0,(nI 3)),(1,(xT 46)),(6,(xT 49)),(7,(xT 52))]),oS (.store 175 (xT 2) (xT 53))] [2] (.ret)) (.skip)))))))))) (.keep [2] (sR [oO 54 (.build 175 #[(0,(nI 4))]),oS (.store 175 (xT 2) (xT 54))] [2] (.ret)))))
theorem t_ptr_Decode : Txt Tryz.prog 204 55 [(.cell 2 175)] c_ptr_Decode := txt_of (code := Tryz.f204.body.getD .ret) mixed (by kernel_rfl) Tryz.func204 (by kernel_rfl) Tryz.ntmps204 (by kernel_rfl) (ls := lsOf c_ptr_Decode) (by kernel_rfl)
def k1_ptr_Encode : CC := sR [mO 87 4,mO 88 4,⟨some 89,(cL 204 #[(xT 88)] #[51]),none,[],2,[],true⟩,⟨some 90,(lD 175 1),none,[],3,[2],false⟩,oO 91 (bO .eql 175 89 90 175),mO 92 91,oG 93 (fA 175 1 0) 92 true,oG 94 (lD 3 93) 92 true,oG 95 (.binOp .neq 3 (xT 94) (nI 4) 3) 92 true,oO 96 (.pick (xT 92) (xT 95) (nB false)),aO 2 87,aO 3 96] [2,3] (.ret) 
def c_ptr_Encode : CC := sR [oN 1 (.box 175 (xT 0)) [0],oO 2 (.assign (.const (.int .u64 0))),oO 3 (.assign (nB false))] [1] (sR [oO 4 (.assign (.const (.int .u64 0)))] [1,4] (.seq (sR [fO 5 175 1 0,lO 6 3 5] [1,4,6] (.block 0 (sR [oO 8 (.binOp .eql 3 (xT 6) (nI 1) 3),aO 7 8] [1,4,6,7] (cD 7 (sR [fO 9 175 1 1,lO 10 3 9,oO 11 (cL 224 #[(xT 10)] #[3]),mO 12 11,oG 13 (fA 175 1 2) 12 true,oG 14 (lD 3 13) 12 true,oG 15 (cL 225 #[(xT 14),(nI 65535)] #[3,3]) 12 true,oO 16 (.pick (xT 12) (xT 15) (nB false)),mO 17 16,oG 18 (fA 175 1 3) 17 true,oG 19 (lD 3 18) 17 true,oG 20 (cL 225 #[(xT 19),(nI 65535)] #[3,3]) 17 true,oO 21 (.pick (xT 17) (xT 20) (nB false))] [1,4,21] (cD 21 (.reg [fO 22 175 1 1,lO 23 3 22,⟨some 24,(cL 226 #[(xT 23),(nI 0)] #[3,3]),none,[],2,[],true⟩,fO 25 175 1 2,⟨some 26,(lD 3 25),none,[],4,[2],false⟩,oO 27 (.convert 3 51 (xT 26)),oO 28 (.binOp .shl 51 (xT 27) (.const (.int .u64 32)) 269),oO 29 (bO .or 51 24 28 51),fO 30 175 1 3,⟨some 31,(lD 3 30),none,[],9,[2],false⟩,oO 32 (.convert 3 51 (xT 31)),oO 33 (.binOp .shl 51 (xT 32) (.const (.int .u64 48)) 269),oO 34 (bO .or 51 29 33 51),aO 4 34] [1,4]) (.skip))) (sR [oO 36 (.binOp .eql 3 (xT 6) (nI 2) 3),aO 35 36] [1,4,6,35] (cD 35 (sR [fO 37 175 1 1,lO 38 3 37,oO 39 (cL 224 #[(xT 38)] #[3]),mO 40 39,oG 41 (fA 175 1 4) 40 true,oG 42 (lD 3 41) 40 true,oG 43 (cL 225 #[(xT 42),(nI 7)] #[3,3]) 40 true,oO 44 (.pick (xT 40) (xT 43) (nB false)),mO 45 44,oG 46 (fA 175 1 5) 45 true,oG 47 (lD 3 46) 45 true,oG 48 (cL 225 #[(xT 47),(nI 536870911)] #[3,3]) 45 true,oO 49 (.pick (xT 45) (xT 48) (nB false))] [1,4,49] (cD 49 (.reg [fO 50 175 1 1,lO 51 3 50,⟨some 52,(cL 226 #[(xT 51),(nI 1)] #[3,3]),none,[],2,[],true⟩,fO 53 175 1 4,⟨some 54,(lD 3 53),none,[],4,[2],false⟩,oO 55 (.convert 3 51 (xT 54)),oO 56 (.binOp .shl 51 (xT 55) (.const (.int .u64 32)) 269),oO 57 (bO .or 51 52 56 51),fO 58 175 1 5,⟨some 59,(lD 3 58),none,[],9,[2],false⟩,oO 60 (.convert 3 51 (xT 59)),oO 61 (.binOp .shl 51 (xT 60) (.const (.int .u64 35)) 269),oO 62 (bO .or 51 57 61 51),aO 4 62] [1,4]) (.skip))) (sR [oO 64 (.binOp .eql 3 (xT 6) (nI 3) 3),aO 63 64] [1,4,63] (cD 63 (sR [fO 65 175 1 1,lO 66 3 65,oO 67 (cL 225 #[(xT 66),(nI 536870911)] #[3,3]),mO 68 67,oG 69 (fA 175 1 6) 68 true,oG 70 (lD 3 69) 68 true,oG 71 (cL 225 #[(xT 70),(nI 4294967295)] #[3,3]) 68 true,oO 72 (.pick (xT 68) (xT 71) (nB false))] [1,4,72] (cD 72 (sR [fO 73 175 1 1,lO 74 3 73,oO 75 (.convert 3 51 (xT 74)),oO 76 (.binOp .shl 51 (xT 75) (.const (.int .u64 3)) 269),oO 77 (.binOp .or 51 (xT 76) (.const (.int .u64 2)) 51),fO 78 175 1 6,lO 79 3 78,oO 80 (.convert 3 51 (xT 79)),oO 81 (.binOp .shl 51 (xT 80) (.const (.int .u64 32)) 269),oO 82 (bO .or 51 77 81 51),aO 4 82] [1,4] (sR [fO 83 175 1 7,lO 84 4 83] [1,4,84] (cD 84 (.reg [mO 85 4,oO 86 (.binOp .or 51 (xT 85) (.const (.int .u64 4)) 51),aO 4 86] [1,4]) (.skip)))) (.skip))) (.skip))))))))) (.keep [1,4] k1_ptr_Encode)))
theorem t_ptr_Encode : Txt Tryz.prog 184 97 [(.tmp 2),(.tmp 3)] c_ptr_Encode := txt_of (code := Tryz.f184.body.getD .ret) mixed (by kernel_rfl) Tryz.func184 (by kernel_rfl) Tryz.ntmps184 (by kernel_rfl) (ls := lsOf c_ptr_Encode) (by kernel_rfl)
end Go.Proofs.YtbjmaoedheiigaaGreat
