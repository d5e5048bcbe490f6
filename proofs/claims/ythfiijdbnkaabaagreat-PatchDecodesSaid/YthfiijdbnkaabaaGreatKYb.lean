/-
  Texts, merged, without what is not reached.
-/
import Derived.Test.YthfiijdbnkaabaaGreatKYa
namespace Go.G
set_option linter.unusedVariables false
set_option linter.unusedSimpArgs false
open Go.RowKit
structure CO where
  d : Option Nat
  o : Op
  g : Option (Nat × Bool)
  nm : Nm
  ix : Nat
  un : List Nat
  lg : Bool
abbrev co (d : Option Nat) (o : Op) (g : Option (Nat × Bool)) : CO := ⟨d,o,g,[],0,[],false⟩
abbrev cn (d : Option Nat) (o : Op) (g : Option (Nat × Bool)) (nm : Nm) : CO := ⟨d,o,g,nm,0,[],false⟩
inductive CC where
  | skip
  | reg (ops : List CO) (live : List Nat)
  | seq (x y : CC)
  | cond (c : Operand) (x y : CC)
  | block (i : Nat) (x : CC)
  | loop (x : CC)
  | exit (i : Nat)
  | ret
  | keep (live : List Nat) (x : CC)
  | stop (x : CC)
def lookN : List (Nat × Nm)→Nat→Nm
  | [],_ => []
  | (k,n) :: l,i => if k = i then n else lookN l i
def needM (draw : Bool) (ops : Array Oper) (ms : List Nat) (i j : Nat) : Bool := draw && needB ops ms i j
theorem needM_R {draw : Bool} {ops : Array Oper} : needM draw ops (msOf ops) = needR draw ops := by
  cases draw
  · rfl
  · funext i j; simp [needM,needR]
def coOf (ops : Array Oper) (draw : Bool) (ms : List Nat) (nms : List (Nat × Nm)) (i : Nat) (o : Oper) : Option CO :=
  let un := (List.range i).filter fun j => needM draw ops ms j i
  let lg := (List.range ops.size).any fun k => Nat.blt i k && needM draw ops ms i k
  let ix := if un.isEmpty && !lg then 0 else i
  match o.guard with
  | none => some ⟨o.dst,o.op,none,lookN nms i,ix,un,lg⟩
  | some (j,f) => match (ops[j]?).bind (·.dst) with
    | some d => some ⟨o.dst,o.op,some (d,f),lookN nms i,ix,un,lg⟩
    | none => none
def cosOf (ops : Array Oper) (draw : Bool) (ms : List Nat) (nms : List (Nat × Nm)) : Nat→List Oper→Option (List CO)
  | _,[] => some []
  | i,o :: l => match coOf ops draw ms nms i o,cosOf ops draw ms nms (i + 1) l with
    | some x,some r => some (x :: r)
    | _,_ => none
inductive Is (n : Nat) : CC→Code→Prop
  | skip : Is n .skip .skip
  | reg (id : Nat) (ops : Array Oper) (draw : Bool) (live : List Nat) (nms : List (Nat × Nm)) (l : List CO) : regOK n ops draw = true→cosOf ops draw (msOf ops) nms 0 ops.toList = some l→Is n (.reg l live) (.region id ops draw)
  | seq (x y : CC) (a b : Code) : Is n x a→Is n y b→Is n (.seq x y) (.seq a b)
  | cond (o : Operand) (x y : CC) (a b : Code) : Is n x a→Is n y b→Is n (.cond o x y) (.cond o a b)
  | block (i : Nat) (x : CC) (a : Code) : Is n x a→Is n (.block i x) (.block i a)
  | loop (x : CC) (a : Code) : Is n x a→Is n (.loop x) (.loop a)
  | exit (i : Nat) : Is n (.exit i) (.exit i)
  | ret : Is n .ret .ret
  | keep (live : List Nat) (x : CC) (a : Code) : Is n x a→Is n (.keep live x) a
  | stop (x : CC) (a : Code) : Is n x a→Is n (.stop x) a
def Sta.keep (st : Sta) (live : List Nat) : Sta := ⟨lk (live.map fun k => (k,st.s k)),st.H⟩
theorem le_keep {c : Cx} {st : Sta} (live : List Nat) : Le c st (st.keep live) := le_list _ (fun p hp => by
  obtain ⟨k,_,rfl⟩ := List.mem_map.1 hp
  rfl)
def YieldsC (P : Program) (o : CO) (st : Sta) (x : A) (E : Eff) (f : Ft) : Prop :=
  match o.g with
  | none => OpR P o.nm o.o (evs st.s) st.H x E f.R f.W
  | some (d,fl) => ∃ q x0,wantA (st.s d) fl = some q∧(q = true→OpR P o.nm o.o (evs st.s) st.H x0 E f.R f.W)∧x = gd q x0∧(q = false→E = .nil∧f.R = []∧f.W = [])
def Ck (un : List Nat) (lg : Lg) (f : Ft) : Prop := ∀ p,p ∈ lg→p.1 ∈ un→nc p.2 f = true
def addL (b : Bool) (i : Nat) (f : Ft) (lg : Lg) : Lg := if b = true then (i,f) :: lg else lg
def SeqC (P : Program) (K : Sta→Prop) : List CO→Lg→Sta→Prop
  | [],_,st => K st
  | o :: rest,lg,st => ∃ x E f,YieldsC P o st x E f∧Ck o.un lg f∧SeqC P K rest (addL o.lg o.ix f lg) (st.put o.d x (E.app st.H))
theorem co_spec {ops : Array Oper} {draw : Bool} {ms : List Nat} {nms : List (Nat × Nm)} {i : Nat} {o : Oper} {c : CO} (h : coOf ops draw ms nms i o = some c) : c.d = o.dst∧c.o = o.op∧c.nm = lookN nms i ∧
    c.un = ((List.range i).filter fun j => needM draw ops ms j i)∧c.lg = ((List.range ops.size).any fun k => Nat.blt i k && needM draw ops ms i k)∧(c.un ≠ []∨c.lg = true→c.ix = i) ∧
    ((o.guard = none∧c.g = none)∨∃ j f d,o.guard = some (j,f)∧(ops[j]?).bind (·.dst) = some d∧c.g = some (d,f)) := by
  have hix : ∀ (un : List Nat) (lg : Bool),un ≠ []∨lg = true→(if (un.isEmpty && !lg) = true then 0 else i) = i := fun un lg hh => by
    rw [if_neg]
    rcases hh with h1 | h1
    · cases un with
      | nil => exact (h1 rfl).elim
      | cons => simp
    · simp [h1]
  unfold coOf at h
  cases hg : o.guard with
  | none =>
    rw [hg] at h
    simp only [Option.some.injEq] at h
    subst h
    exact ⟨rfl,rfl,rfl,rfl,rfl,hix _ _,.inl ⟨rfl,rfl⟩⟩
  | some p =>
    obtain ⟨j,f⟩ := p
    rw [hg] at h
    simp only at h
    cases hj : (ops[j]?).bind (·.dst) with
    | none => rw [hj] at h; cases h
    | some d =>
      rw [hj] at h
      simp only [Option.some.injEq] at h
      subst h
      exact ⟨rfl,rfl,rfl,rfl,rfl,hix _ _,.inr ⟨j,f,d,rfl,hj,rfl⟩⟩
theorem seqC_sound {P : Program} {ops : Array Oper} {draw : Bool} {ms : List Nat} {nms : List (Nat × Nm)} {K : Sta→Prop} : ∀ (l : List Oper) (i : Nat) (r : List CO) (Lf lg : Lg) (st : Sta),cosOf ops draw ms nms i l = some r→i + l.length = ops.size →
    (∀ p,p ∈ Lf→p.1 < i∧∀ k,i≤k→k < ops.size→needM draw ops ms p.1 k = true→p ∈ lg)→SeqC P K r lg st→SeqA P (lookN nms) (needM draw ops ms) ops K l i Lf st := by
  intro l
  induction l with
  | nil =>
    intro i r Lf lg st he _ _ h
    cases he
    exact h
  | cons o l ih =>
    intro i r Lf lg st he hsz hlg h
    unfold cosOf at he
    split at he
    · rename_i c r' hc hr
      cases he
      obtain ⟨e1,e2,e3,e4,e5,e7,e6⟩ := co_spec hc
      obtain ⟨x,E,f,hy,hk,h⟩ := h
      simp only [List.length_cons] at hsz
      refine ⟨x,E,f,?_,fun p hp hn => ?_,?_⟩
      · unfold YieldsC at hy
        rw [e2,e3] at hy
        rcases e6 with ⟨hg,hc⟩ | ⟨j,fl,d,hg,hj,hc⟩
        · rw [hc] at hy
          exact ⟨true,x,by unfold Guard; rw [hg],fun _ => hy,rfl,fun h => nomatch h⟩
        · rw [hc] at hy
          obtain ⟨q,x0,k1,k2,k3,k4⟩ := hy
          exact ⟨q,x0,by unfold Guard; rw [hg]; exact ⟨d,hj,k1⟩,k2,k3,k4⟩
      · obtain ⟨h1,h2⟩ := hlg p hp
        refine hk p (h2 i (Nat.le_refl _) (by omega) hn) ?_
        rw [e4]
        exact List.mem_filter.2 ⟨List.mem_range.2 h1,hn⟩
      · rw [e1] at h
        refine ih (i + 1) r' _ _ _ hr (by omega) (fun p hp => ?_) h
        rcases List.mem_cons.1 hp with rfl | hp
        · refine ⟨Nat.lt_succ_self _,fun k h1 h2 h3 => ?_⟩
          have hl : c.lg = true := by
            rw [e5]
            exact List.any_eq_true.2 ⟨k,List.mem_range.2 h2,by simp [Nat.blt_eq,h3]; omega⟩
          unfold addL
          rw [if_pos hl,e7 (.inr hl)]
          simp
        · obtain ⟨h1,h2⟩ := hlg p hp
          refine ⟨by omega,fun k h3 h4 h5 => ?_⟩
          have := h2 k (by omega) h4 h5
          unfold addL
          split
          · exact List.mem_cons_of_mem _ this
          · exact this
    · cases he
def LoopC (c : Cx) (x : CC) (Q : Exit→Sta→Prop) (st : Sta) : Prop := ∀ a,Is c.n x a→AHead c a Q st
def ThenC (K : Sta→Prop) (Q : Exit→Sta→Prop) : Exit→Sta→Prop
  | .normal,st => K st
  | e,st => Q e st
def StopK (c : Cx) (K : Sta→Prop) (st : Sta) : Prop := ∃ st',Le c st st'∧K st'
theorem stop_go {c : Cx} {K : Sta→Prop} {st : Sta} (h : K st) : StopK c K st := ⟨st,Le.refl,h⟩
theorem stop_le {c : Cx} {K : Sta→Prop} {st st' : Sta} (h : Le c st st') (k : StopK c K st') : StopK c K st := let ⟨st2,h2,k2⟩ := k; ⟨st2,h.trans h2,k2⟩
def WPC (c : Cx) : CC→(Exit→Sta→Prop)→Sta→Prop
  | .skip,Q,st => Q .normal st
  | .exit i,Q,st => Q (.exit i) st
  | .ret,Q,st => Q .ret st
  | .reg ops live,Q,st => SeqC c.P (fun st => Q .normal (st.keep live)) ops [] st
  | .seq x y,Q,st => WPC c x (ThenC (WPC c y Q) Q) st
  | .cond o x y,Q,st => ∃ b,evs st.s o = .v (.bool b)∧(b = true→WPC c x Q st)∧(b = false→WPC c y Q st)
  | .block i x,Q,st => WPC c x (InBlock i Q) st
  | .loop x,Q,st => LoopC c x Q st
  | .keep live x,Q,st => WPC c x Q (st.keep live)
  | .stop x,Q,st => StopK c (fun st => WPC c x Q st) st
theorem wpc_sound {c : Cx} (hm : c.P.follows .mixedOrders = true) : ∀ {x : CC} {a : Code} {Q : Exit→Sta→Prop} {st : Sta},Is c.n x a→WPC c x Q st→AWP c a Q st := by
  intro x a Q st hi
  induction hi generalizing Q st with
  | skip => exact fun h => awp_skip h
  | exit i => exact fun h => awp_exit h
  | ret => exact fun h => awp_ret h
  | reg id ops draw live nms l hok hl =>
    intro h
    intro a w I μ hs
    have h1 := seqC_sound ops.toList 0 l [] [] _ hl (by simp) (fun p hp => by simp at hp) h
    rw [needM_R] at h1
    refine region_sound hm hok (K := fun st => Q .normal (st.keep live)) (fun st' a' w' I' μ' h1 h2 => ?_) hs h1
    obtain ⟨I2,μ2,h3⟩ := le_keep live a' w' I' μ' h1
    exact ⟨_,I2,μ2,h3,h2⟩
  | seq x y a b _ _ ih1 ih2 =>
    intro h
    refine awp_seq ((ih1 h).mono fun e st' hq => ?_)
    cases e <;> first | exact ih2 hq | exact hq
  | cond o x y a b _ _ ih1 ih2 =>
    intro ⟨q,hb,ht,hf⟩
    exact awp_cond hb (fun h => ih1 (ht h)) (fun h => ih2 (hf h))
  | block i x a _ ih => exact fun h => awp_block (ih h)
  | loop x a hx _ => exact fun h => awp_loop (h a hx)
  | keep live x a _ ih =>
    intro h a w I μ hs
    obtain ⟨I2,μ2,h3⟩ := le_keep live a w I μ hs
    exact ih h a w I2 μ2 h3
  | stop x a _ ih =>
    intro ⟨st',h1,h2⟩ a w I μ hs
    obtain ⟨I2,μ2,h3⟩ := h1 a w I μ hs
    exact ih h2 a w I2 μ2 h3
theorem WPC.mono {c : Cx} : ∀ {x : CC} {Q Q' : Exit→Sta→Prop} {st : Sta},(∀ e st,Q e st→Q' e st)→WPC c x Q st→WPC c x Q' st
  | .skip,_,_,_,hq,h => hq _ _ h
  | .exit _,_,_,_,hq,h => hq _ _ h
  | .ret,_,_,_,hq,h => hq _ _ h
  | .reg ops live,Q,Q',st,hq,h => by
    have : ∀ (ops : List CO) (lg : Lg) (st : Sta),SeqC c.P (fun st => Q .normal (st.keep live)) ops lg st→SeqC c.P (fun st => Q' .normal (st.keep live)) ops lg st := by
      intro ops
      induction ops with
      | nil => exact fun lg st h => hq _ _ h
      | cons o ops ih => exact fun lg st ⟨x,E,f,h1,h2,h3⟩ => ⟨x,E,f,h1,h2,ih _ _ h3⟩
    exact this ops _ st h
  | .seq x y,Q,Q',st,hq,h => WPC.mono (x := x) (fun e st' h' => by cases e <;> first | exact WPC.mono (x := y) hq h' | exact hq _ _ h') h
  | .cond o x y,Q,Q',st,hq,⟨b,h1,h2,h3⟩ => ⟨b,h1,fun h => WPC.mono hq (h2 h),fun h => WPC.mono hq (h3 h)⟩
  | .block i x,Q,Q',st,hq,h => WPC.mono (x := x) (fun e st' h' => by
      cases e with
      | exit j =>
        by_cases hj : j = i
        · subst hj; rw [InBlock_self] at h' ⊢; exact hq _ _ h'
        · rw [InBlock_other hj] at h' ⊢; exact hq _ _ h'
      | _ => exact hq _ _ h') h
  | .keep live x,Q,Q',st,hq,h => WPC.mono (x := x) hq h
  | .stop x,Q,Q',st,hq,⟨st',h1,h2⟩ => ⟨st',h1,WPC.mono (x := x) hq h2⟩
  | .loop x,Q,Q',st,hq,h => fun a ha a' w I μ hs b k cs => by
    obtain ⟨e,a1,w1,⟨st',I',μ',h1,h2⟩,h3⟩ := h a ha a' w I μ hs b k cs
    exact ⟨e,a1,w1,⟨st',I',μ',h1,hq _ _ h2⟩,h3⟩
theorem loopC_round {c : Cx} (hm : c.P.follows .mixedOrders = true) {x : CC} {Q : Exit→Sta→Prop} {st : Sta} (h : WPC c x (ThenC (LoopC c x Q) Q) st) : LoopC c x Q st := fun a ha =>
  ahead_round ((wpc_sound hm ha h).mono fun e st' hq => by cases e <;> first | exact hq a ha | exact hq)
theorem LoopC.le {c : Cx} {x : CC} {Q : Exit→Sta→Prop} {st st' : Sta} (h : Le c st st') (k : LoopC c x Q st') : LoopC c x Q st := fun a ha => (k a ha).le h
def keepIf : List Nat→CC→CC
  | 999999 :: live,y => .keep live y
  | 999998 :: _,y => .stop y
  | 999997 :: live,y => .keep live (.stop y)
  | _,y => y
theorem is_keepIf {n : Nat} {m : List Nat} {y : CC} {b : Code} (h : Is n y b) : Is n (keepIf m y) b := by
  unfold keepIf
  split
  · exact .keep _ _ _ h
  · exact .stop _ _ h
  · exact .keep _ _ _ (.stop _ _ h)
  · exact h
abbrev Mk := List Nat × List (Nat × Nm)
def toCC (n : Nat) : Code→List Mk→Option (CC × List Mk)
  | .skip,ls => some (.skip,ls)
  | .exit i,ls => some (.exit i,ls)
  | .ret,ls => some (.ret,ls)
  | .region _ ops draw,(live,nms) :: ls => if regOK n ops draw = true then match cosOf ops draw (msOf ops) nms 0 ops.toList with
      | some l => some (.reg l live,ls)
      | none => none else none
  | .seq a b,ls => match toCC n a ls with
    | some (x,m :: ls) => match toCC n b ls with
      | some (y,ls) => some (.seq x (keepIf m.1 y),ls)
      | none => none
    | _ => none
  | .cond o a b,ls => match toCC n a ls with
    | some (x,ls) => match toCC n b ls with
      | some (y,ls) => some (.cond o x y,ls)
      | none => none
    | none => none
  | .block i a,ls => match toCC n a ls with
    | some (x,ls) => some (.block i x,ls)
    | none => none
  | .loop a,ls => match toCC n a ls with
    | some (x,ls) => some (.loop x,ls)
    | none => none
  | _,_ => none
theorem toCC_is {n : Nat} : ∀ {a : Code} {ls ls' : List Mk} {x : CC},toCC n a ls = some (x,ls')→Is n x a := by
  intro a
  induction a with
  | skip => intro ls ls' x h; simp only [toCC] at h; cases h; exact .skip
  | exit i => intro ls ls' x h; simp only [toCC] at h; cases h; exact .exit i
  | ret => intro ls ls' x h; simp only [toCC] at h; cases h; exact .ret
  | region id ops draw =>
    intro ls ls' x h
    cases ls with
    | nil => simp [toCC] at h
    | cons live ls =>
      simp only [toCC] at h
      split at h
      · rename_i hok
        split at h
        · rename_i l hl
          cases h
          exact .reg _ _ _ _ _ _ hok hl
        · cases h
      · cases h
  | seq a b ih1 ih2 =>
    intro ls ls' x h
    simp only [toCC] at h
    split at h
    · rename_i q1 m l1 h1
      split at h
      · rename_i q2 l2 h2
        cases h
        exact .seq _ _ _ _ (ih1 h1) (is_keepIf (ih2 h2))
      · cases h
    · cases h
  | cond o a b ih1 ih2 =>
    intro ls ls' x h
    simp only [toCC] at h
    split at h
    · rename_i q1 l1 h1
      split at h
      · rename_i q2 l2 h2
        cases h
        exact .cond _ _ _ _ _ (ih1 h1) (ih2 h2)
      · cases h
    · cases h
  | block i a ih =>
    intro ls ls' x h
    simp only [toCC] at h
    split at h
    · rename_i q1 l1 h1
      cases h
      exact .block _ _ _ (ih h1)
    · cases h
  | loop a ih =>
    intro ls ls' x h
    simp only [toCC] at h
    split at h
    · rename_i q1 l1 h1
      cases h
      exact .loop _ _ (ih h1)
    · cases h
  | _ => intro ls ls' x h; cases ls <;> simp [toCC] at h
structure Txt (P : Program) (f : FuncId) (n : Nat) (rs : List ResultVar) (cc : CC) : Prop where
  mixed : P.follows .mixedOrders = true
  ok : okFn P f = true
  fn : ∃ fn code,P.funcs[f]? = some fn∧fn.body = some code∧fn.ntmps = n∧fn.results.toList = rs∧Is n cc code
theorem txt_of {P : Program} {f : FuncId} {fn : Func} {code : Code} {cc : CC} {ls : List Mk} {rs : List ResultVar} {n : Nat} (hm : P.follows .mixedOrders = true) (hk : okFn P f = true) (hf : P.funcs[f]? = some fn) (hb : fn.body = some code)
    (hn : fn.ntmps = n) (hrs : fn.results.toList = rs) (hc : toCC n code ls = some (cc,[])) : Txt P f n rs cc := ⟨hm,hk,fn,code,hf,hb,hn,hrs,toCC_is hc⟩
def RetC (P : Program) (rs : List ResultVar) (r : A) : Exit→Sta→Prop := RetG P rs fun r0 H => Frz H r0 r
theorem spec_of {P : Program} {f : FuncId} {n : Nat} {rs : List ResultVar} {cc : CC} {args : List A} {r : A} (t : Txt P f n rs cc) (ha : args.length≤n) (h : ∀ w0 I0,WPC (cx P w0 I0 n) cc (RetC P rs r) ⟨argS args,H0⟩) : Spec P f args r := by
  obtain ⟨hm,hk,fn,code,hf,hb,hn,hrs,hc⟩ := t
  exact spec_intro hk hf hb hn ha fun w0 I0 => wpc_sound (c := cx P w0 I0 n) hm hc (by rw [hrs]; exact h w0 I0)
end Go.G

namespace Go.G
set_option linter.unusedVariables false
set_option linter.unusedSimpArgs false
open Go.RowKit
section
variable {P : Program} {H : Hp} {t u : TypeId}
def vc (x : VOb) (u : Nat) : Option (List A) := match x with | ⟨u',.cells cs⟩ => if u' = u then some cs else none | _ => none
def vr (x : VOb) (u : Nat) : Option (Nat × List A) := match x with | ⟨u',.arr s xs⟩ => if u' = u then some (s,xs) else none | _ => none
@[simp] theorem vc_cells {u' u : Nat} {cs : List A} : vc ⟨u',.cells cs⟩ u = if u' = u then some cs else none := rfl
@[simp] theorem vr_arr {u' u s : Nat} {xs : List A} : vr ⟨u',.arr s xs⟩ u = if u' = u then some (s,xs) else none := rfl
@[simp] theorem getC_at {o : Nm} {u : Nat} : getC H o u = vc (H o) u := rfl
@[simp] theorem getR_at {o : Nm} {u : Nat} : getR H o u = vr (H o) u := rfl
@[simp] theorem load_pob {o : Nm} {u off : Nat} : loadA P H t (.pob o u off) = match aggT P t,szT P t with | some g,some sz => (match vc (H o) u with | some cs => pickA g sz (cs.drop off) | none => none) | _,_ => none := by
  unfold loadA
  cases aggT P t with
  | none => rfl
  | some g =>
    cases szT P t with
    | none => rfl
    | some sz => rfl
@[simp] theorem load_pel {o : Nm} {u i j : Nat} : loadA P H t (.pel o u i j) = match aggT P t,szT P t with | some g,some sz => (match vr (H o) u with | some (_,xs) => (match xs[i]? with | some x => pickA g sz (x.cells.drop j) | none => none) | none => none) | _,_ => none := by
  unfold loadA
  cases aggT P t with
  | none => rfl
  | some g =>
    cases szT P t with
    | none => rfl
    | some sz => rfl
@[simp] theorem store_pob {o : Nm} {u off : Nat} {val : A} : storeA P H t (.pob o u off) val = match szT P t with
    | some sz => if val.cells.length = sz∧A.ones val.cells = true then (match vc (H o) u with | some cs => if off + sz≤cs.length then some (.one o ⟨u,.cells (splice cs off val.cells)⟩) else none | none => none) else none
    | none => none := by
  unfold storeA
  cases szT P t <;> rfl
def stElem (o : Nm) (u i j s sz : Nat) (xs : List A) (val : A) : Option A→Option Eff
  | some x => if j = 0∧sz = s then some (.one o ⟨u,.arr s (xs.set i val)⟩)
    else if j + sz≤s∧x.isAgg = true then some (.one o ⟨u,.arr s (xs.set i (x.remake (splice x.cells j val.cells)))⟩) else none
  | none => none
def stRow (o : Nm) (u i j sz : Nat) (val : A) : Option (Nat × List A)→Option Eff
  | some (s,xs) => stElem o u i j s sz xs val xs[i]?
  | none => none
@[simp] theorem stRow_some {o : Nm} {u i j s sz : Nat} {xs : List A} {val : A} : stRow o u i j sz val (some (s,xs)) = stElem o u i j s sz xs val xs[i]? := rfl
@[simp] theorem stElem_some {o : Nm} {u i j s sz : Nat} {xs : List A} {x val : A} : stElem o u i j s sz xs val (some x) = if j = 0∧sz = s then some (.one o ⟨u,.arr s (xs.set i val)⟩)
    else if j + sz≤s∧x.isAgg = true then some (.one o ⟨u,.arr s (xs.set i (x.remake (splice x.cells j val.cells)))⟩) else none := rfl
@[simp] theorem store_pel {o : Nm} {u i j : Nat} {val : A} : storeA P H t (.pel o u i j) val = match szT P t with
    | some sz => if val.cells.length = sz∧A.ones val.cells = true then stRow o u i j sz val (vr (H o) u) else none
    | none => none := by
  unfold storeA
  cases szT P t with
  | none => rfl
  | some sz =>
    simp only [getR_at]
    cases vr (H o) u with
    | none => rfl
    | some p =>
      obtain ⟨s,xs⟩ := p
      simp only [stRow_some]
      cases xs[i]? <;> rfl
@[simp] theorem alloc_eq {d : Nm} {e : TypeId} : allocA P H d e = match zeroT P e with | some z => if A.ones (ofV z).cells = true then some (.pob d ((H d).u + 1) 0,.one d ⟨(H d).u + 1,.cells (ofV z).cells⟩) else none | none => none := rfl
@[simp] theorem box_eq {d : Nm} {a : A} : boxA H d a = if A.ones a.cells = true then some (.pob d ((H d).u + 1) 0,.one d ⟨(H d).u + 1,.cells a.cells⟩) else none := rfl
@[simp] theorem ptrA_eq {a : A} : ptrA a = if a.isPtr = true then some a else none := rfl
def mkRow (H : Hp) (d : Nm) (n c : Int) : Option Nat→Option Value→Option Nat→Option (A × Eff)
  | some s,some z,some b => if 0≤n∧n≤c∧b * c≤140737488355328∧0 < b∧(ofV z).cells.length = s∧A.ones (ofV z).cells = true then some (.osl d ((H d).u + 1) s 0 n.toNat,.one d ⟨(H d).u + 1,.arr s (List.replicate n.toNat (ofV z))⟩) else none
  | _,_,_ => none
@[simp] theorem mkRow_some {d : Nm} {n c : Int} {s b : Nat} {z : Value} : mkRow H d n c (some s) (some z) (some b) = if 0≤n∧n≤c∧b * c≤140737488355328∧0 < b∧(ofV z).cells.length = s∧A.ones (ofV z).cells = true then some (.osl d ((H d).u + 1) s 0 n.toNat,.one d ⟨(H d).u + 1,.arr s (List.replicate n.toNat (ofV z))⟩) else none := rfl
@[simp] theorem makeSlice_eq {d : Nm} {k k' : IntKind} {n c : Int} : makeSliceA P H d t (.v (.int k n)) (.v (.int k' c)) = match P.underlying t with | some (.slice e) => mkRow H d n c (szT P e) (zeroT P e) (bytesT P e) | _ => none := by
  unfold makeSliceA
  cases P.underlying t with
  | none => rfl
  | some q =>
    cases q <;> first
      | rfl
      | (rename_i e; cases szT P e <;> cases zeroT P e <;> cases bytesT P e <;> rfl)
def apS (H : Hp) (d : Nm) (xs : List A) : Option (List A)→Option Nat→Option Value→Option Nat→Option (A × Eff)
  | some zs,some s,some z,some b => if 0 < b∧(ofV z).cells.length = s∧A.ones (ofV z).cells = true then if lens s xs = true∧(xs.length = 0∨0 < zs.length)∧(xs.length + zs.length) * b≤140737488355328 then some (.osl d ((H d).u + 1) s 0 (xs.length + zs.length),.one d ⟨(H d).u + 1,.arr s (xs ++ zs)⟩) else none else none
  | _,_,_,_ => none
@[simp] theorem apS_some {d : Nm} {xs zs : List A} {s b : Nat} {z : Value} : apS H d xs (some zs) (some s) (some z) (some b) = if 0 < b∧(ofV z).cells.length = s∧A.ones (ofV z).cells = true then if lens s xs = true∧(xs.length = 0∨0 < zs.length)∧(xs.length + zs.length) * b≤140737488355328 then some (.osl d ((H d).u + 1) s 0 (xs.length + zs.length),.one d ⟨(H d).u + 1,.arr s (xs ++ zs)⟩) else none else none := rfl
def apO (o : Nm) (v sz off len : Nat) : Option (Nat × List A)→Option (List A)→Option Nat→Option Value→Option Nat→Option (A × Eff)
  | some (s',ys),some zs,some s,some z,some b => if 0 < b∧(ofV z).cells.length = s∧A.ones (ofV z).cells = true then if off = 0∧s' = s∧sz = s∧len≤ys.length∧(len + zs.length) * b≤140737488355328 then some (.osl o (v + 1) s 0 (len + zs.length),.one o ⟨v + 1,.arr s (ys.take len ++ zs)⟩) else none else none
  | _,_,_,_,_ => none
@[simp] theorem apO_some {o : Nm} {v sz off len s' s b : Nat} {ys zs : List A} {z : Value} : apO o v sz off len (some (s',ys)) (some zs) (some s) (some z) (some b) = if 0 < b∧(ofV z).cells.length = s∧A.ones (ofV z).cells = true then if off = 0∧s' = s∧sz = s∧len≤ys.length∧(len + zs.length) * b≤140737488355328 then some (.osl o (v + 1) s 0 (len + zs.length),.one o ⟨v + 1,.arr s (ys.take len ++ zs)⟩) else none else none := rfl
@[simp] theorem append_sl {d : Nm} {xs : List A} {x : A} : appendA P H d t u (.sl true xs) x = match P.underlying t with | some (.slice e) => (match szT P e with | some s => apS H d xs (srcA P H s e u x) (some s) (zeroT P e) (bytesT P e) | none => none) | _ => none := by
  unfold appendA
  cases P.underlying t with
  | none => rfl
  | some q =>
    cases q <;> try rfl
    rename_i e
    simp only
    cases szT P e with
    | none => rfl
    | some s =>
      cases zeroT P e with
      | none => simp only; cases srcA P H s e u x <;> rfl
      | some z =>
        cases bytesT P e with
        | none => simp only; cases srcA P H s e u x <;> rfl
        | some b => simp only; cases srcA P H s e u x <;> rfl
def apF (xs : List A) : Option (List A)→Option Nat→Option Value→Option Nat→Option (A × Eff)
  | some zs,some s,some z,some b => if 0 < b∧(ofV z).cells.length = s∧A.ones (ofV z).cells = true then if zs.length = 0 then some (.sl false xs,.nil) else none else none
  | _,_,_,_ => none
@[simp] theorem apF_some {xs zs : List A} {s b : Nat} {z : Value} : apF xs (some zs) (some s) (some z) (some b) = if 0 < b∧(ofV z).cells.length = s∧A.ones (ofV z).cells = true then if zs.length = 0 then some (.sl false xs,.nil) else none else none := rfl
@[simp] theorem append_slF {d : Nm} {xs : List A} {x : A} : appendA P H d t u (.sl false xs) x = match P.underlying t with | some (.slice e) => (match szT P e with | some s => apF xs (srcA P H s e u x) (some s) (zeroT P e) (bytesT P e) | none => none) | _ => none := by
  unfold appendA
  cases P.underlying t with
  | none => rfl
  | some q =>
    cases q <;> try rfl
    rename_i e
    simp only
    cases szT P e with
    | none => rfl
    | some s =>
      cases zeroT P e with
      | none => simp only; cases srcA P H s e u x <;> rfl
      | some z =>
        cases bytesT P e with
        | none => simp only; cases srcA P H s e u x <;> rfl
        | some b => simp only; cases srcA P H s e u x <;> rfl
def cpO (o : Nm) (v sz off len s : Nat) : Option (Nat × List A)→Option (List A)→Option (A × Eff)
  | some (s',ys),some zs => if s' = s∧sz = s∧off + len≤ys.length then
      some (.v (.int .i64 (min zs.length len : Nat)),.one o ⟨v,.arr s (ys.take off ++ zs.take (min zs.length len) ++ ys.drop (off + min zs.length len))⟩) else none
  | _,_ => none
@[simp] theorem cpO_some {o : Nm} {v sz off len s s' : Nat} {ys zs : List A} : cpO o v sz off len s (some (s',ys)) (some zs) = if s' = s∧sz = s∧off + len≤ys.length then
      some (.v (.int .i64 (min zs.length len : Nat)),.one o ⟨v,.arr s (ys.take off ++ zs.take (min zs.length len) ++ ys.drop (off + min zs.length len))⟩) else none := rfl
@[simp] theorem copy_osl {o : Nm} {v sz off len : Nat} {x : A} : copyA P H t (.osl o v sz off len) x = match P.underlying t with | some (.slice e) => (match szT P e with | some s => cpO o v sz off len s (vr (H o) v) (elemsA H s x) | none => none) | _ => none := by
  unfold copyA
  cases P.underlying t with
  | none => rfl
  | some q =>
    cases q <;> try rfl
    rename_i e
    simp only [getR_at]
    generalize vr (H o) v = r
    cases szT P e with
    | none => rfl
    | some s => simp only; cases elemsA H s x <;> cases r <;> rfl
@[simp] theorem append_osl {d o : Nm} {v sz off len : Nat} {x : A} : appendA P H d t u (.osl o v sz off len) x = match P.underlying t with | some (.slice e) => (match szT P e with | some s => apO o v sz off len (vr (H o) v) (srcA P H s e u x) (some s) (zeroT P e) (bytesT P e) | none => none) | _ => none := by
  unfold appendA
  cases P.underlying t with
  | none => rfl
  | some q =>
    cases q <;> try rfl
    rename_i e
    simp only [getR_at]
    generalize vr (H o) v = r
    cases szT P e with
    | none => rfl
    | some s =>
      cases zeroT P e with
      | none => simp only; cases srcA P H s e u x <;> cases r <;> rfl
      | some z =>
        cases bytesT P e with
        | none => simp only; cases srcA P H s e u x <;> cases r <;> rfl
        | some b =>
          simp only
          cases srcA P H s e u x with
          | none => cases r <;> rfl
          | some zs => cases r <;> simp only [apO] <;> (try split) <;> rfl
def zerosA (n : Int) (s : Nat) : Option Value→Option Nat→Option (List A)
  | some z,some b => if 0≤n∧n * b≤140737488355328∧0 < b∧(ofV z).cells.length = s∧A.ones (ofV z).cells = true then some (List.replicate n.toNat (ofV z)) else none
  | _,_ => none
@[simp] theorem zerosA_some {n : Int} {s b : Nat} {z : Value} : zerosA n s (some z) (some b) = if 0≤n∧n * b≤140737488355328∧0 < b∧(ofV z).cells.length = s∧A.ones (ofV z).cells = true then some (List.replicate n.toNat (ofV z)) else none := rfl
@[simp] theorem src_int {s e : Nat} {k : IntKind} {n : Int} : srcA P H s e t (.v (.int k n)) = match P.underlying t with | some (.int _) => zerosA n s (zeroT P e) (bytesT P e) | _ => none := by
  unfold srcA
  cases P.underlying t with
  | none => rfl
  | some q =>
    cases q <;> first
      | rfl
      | (cases zeroT P e <;> cases bytesT P e <;> rfl)
@[simp] theorem src_str {s e : Nat} {x : ByteArray} : srcA P H s e t (.v (.string x)) = match P.underlying t with | some .string => if s = 1 then some (x.data.toList.map fun b => .v (.int .u8 b.toNat)) else none | _ => none := by
  unfold srcA
  cases P.underlying t with
  | none => rfl
  | some q => cases q <;> rfl
@[simp] theorem src_sl {s e : Nat} {f : Bool} {xs : List A} : srcA P H s e t (.sl f xs) = match P.underlying t with | some (.slice _) => if lens s xs = true then some xs else none | _ => none := by
  unfold srcA
  cases P.underlying t with
  | none => rfl
  | some q => cases q <;> rfl
def elO (s z off n : Nat) : Option (Nat × List A)→Option (List A)
  | some (s',ys) => if s' = s∧z = s∧off + n≤ys.length then some ((ys.drop off).take n) else none
  | none => none
@[simp] theorem elO_some {s z off n s' : Nat} {ys : List A} : elO s z off n (some (s',ys)) = if s' = s∧z = s∧off + n≤ys.length then some ((ys.drop off).take n) else none := rfl
@[simp] theorem src_osl {s e u' z off n : Nat} {o : Nm} : srcA P H s e t (.osl o u' z off n) = match P.underlying t with | some (.slice _) => elO s z off n (vr (H o) u') | _ => none := by
  unfold srcA
  cases P.underlying t with
  | none => rfl
  | some q =>
    cases q <;> first
      | rfl
      | (simp only [elemsA,getR_at]; cases vr (H o) u' <;> rfl)
def ixS (xs : List A) (i : Int) : Option Nat→Option A
  | some m => if 0≤i∧i < xs.length then (match xs[i.toNat]? with
          | some x => if x.cells.length = m then some (.pim x.cells) else none
          | none => none) else none
  | none => none
@[simp] theorem ixS_some {xs : List A} {i : Int} {m : Nat} : ixS xs i (some m) = if 0≤i∧i < xs.length then (match xs[i.toNat]? with
          | some x => if x.cells.length = m then some (.pim x.cells) else none
          | none => none) else none := rfl
@[simp] theorem indexAddr_sl {k : IntKind} {i : Int} {f : Bool} {xs : List A} : indexAddrA P t (.sl f xs) (.v (.int k i)) = match P.underlying t with | some (.slice e) => ixS xs i (szT P e) | _ => none := by
  unfold indexAddrA
  cases P.underlying t with
  | none => rfl
  | some q =>
    cases q <;> first
      | rfl
      | (rename_i e; cases h : szT P e <;> first | rfl | simp [A.shift,h] | (simp only [h]; rfl))
def ixO (o : Nm) (u z off n : Nat) (i : Int) : Option Nat→Option A
  | some m => if 0≤i∧i < n∧z = m then some (.pel o u (off + i.toNat) 0) else none
  | none => none
@[simp] theorem ixO_some {o : Nm} {u z off n m : Nat} {i : Int} : ixO o u z off n i (some m) = if 0≤i∧i < n∧z = m then some (.pel o u (off + i.toNat) 0) else none := rfl
@[simp] theorem indexAddr_osl {u z off n : Nat} {o : Nm} {k : IntKind} {i : Int} : indexAddrA P t (.osl o u z off n) (.v (.int k i)) = match P.underlying t with | some (.slice e) => ixO o u z off n i (szT P e) | _ => none := by
  unfold indexAddrA
  cases P.underlying t with
  | none => rfl
  | some q =>
    cases q <;> first
      | rfl
      | (rename_i e; cases h : szT P e <;> first | rfl | simp [A.shift,h] | (simp only [h]; rfl))
def ixA (a : A) (n : Nat) (i : Int) : Option Nat→Option A
  | some m => if 0≤i∧i < n then a.shift (i.toNat * m) else none
  | none => none
@[simp] theorem ixA_some {a : A} {n m : Nat} {i : Int} : ixA a n i (some m) = if 0≤i∧i < n then a.shift (i.toNat * m) else none := rfl
@[simp] theorem indexAddr_pob {u p : Nat} {o : Nm} {k : IntKind} {i : Int} : indexAddrA P t (.pob o u p) (.v (.int k i)) = match P.underlying t with | some (.array n e) => ixA (.pob o u p) n i (szT P e) | _ => none := by
  unfold indexAddrA
  cases P.underlying t with
  | none => rfl
  | some q =>
    cases q <;> first
      | rfl
      | (rename_i e; cases h : szT P e <;> first | rfl | simp [A.shift,h] | (simp only [h]; rfl))
@[simp] theorem indexAddr_pim {cs : List A} {k : IntKind} {i : Int} : indexAddrA P t (.pim cs) (.v (.int k i)) = match P.underlying t with | some (.array n e) => ixA (.pim cs) n i (szT P e) | _ => none := by
  unfold indexAddrA
  cases P.underlying t with
  | none => rfl
  | some q =>
    cases q <;> first
      | rfl
      | (rename_i e; cases h : szT P e <;> first | rfl | simp [A.shift,h] | (simp only [h]; rfl))
@[simp] theorem indexAddr_pel {u p q' : Nat} {o : Nm} {k : IntKind} {i : Int} : indexAddrA P t (.pel o u p q') (.v (.int k i)) = match P.underlying t with | some (.array n e) => ixA (.pel o u p q') n i (szT P e) | _ => none := by
  unfold indexAddrA
  cases P.underlying t with
  | none => rfl
  | some q =>
    cases q <;> first
      | rfl
      | (rename_i e; cases h : szT P e <;> first | rfl | simp [A.shift,h] | (simp only [h]; rfl))
def ixV (P : Program) (e : TypeId) (cs : List A) (n : Nat) (i : Int) : Option Nat→Option A
  | some m => if 0≤i∧i < n then partA P e cs (i.toNat * m) else none
  | none => none
@[simp] theorem ixV_some {e : TypeId} {cs : List A} {n m : Nat} {i : Int} : ixV P e cs n i (some m) = if 0≤i∧i < n then partA P e cs (i.toNat * m) else none := rfl
@[simp] theorem partA_eq {cs : List A} {off : Nat} : partA P t cs off = match aggT P t,szT P t with | some g,some sz => pickA g sz (cs.drop off) | _,_ => none := rfl
@[simp] theorem index_agg {cs : List A} {k : IntKind} {i : Int} : indexA P t (.agg cs) (.v (.int k i)) = match P.underlying t with | some (.array n e) => ixV P e cs n i (szT P e) | _ => none := by
  unfold indexA
  cases P.underlying t with
  | none => rfl
  | some q =>
    cases q <;> first
      | rfl
      | (rename_i e; cases h : szT P e <;> first | rfl | simp [A.shift,h] | (simp only [h]; rfl))
@[simp] theorem index_str {s : ByteArray} {k : IntKind} {i : Int} : indexA P t (.v (.string s)) (.v (.int k i)) = match P.underlying t with | some .string => if 0≤i then (s[i.toNat]?).map (fun b => .v (.int .u8 b.toNat)) else none | _ => none := by
  unfold indexA
  cases P.underlying t with
  | none => rfl
  | some q => cases q <;> rfl
@[simp] theorem len_sl {f : Bool} {xs : List A} : lenA P t (.sl f xs) = match P.underlying t with | some (.slice _) => some (.v (.int .i64 xs.length)) | some (.array n _) => some (.v (.int .i64 n)) | _ => none := by
  unfold lenA
  cases P.underlying t with
  | none => rfl
  | some q => cases q <;> rfl
@[simp] theorem len_osl {u z off n : Nat} {o : Nm} : lenA P t (.osl o u z off n) = match P.underlying t with | some (.slice _) => some (.v (.int .i64 n)) | some (.array n _) => some (.v (.int .i64 n)) | _ => none := by
  unfold lenA
  cases P.underlying t with
  | none => rfl
  | some q => cases q <;> rfl
@[simp] theorem len_str {s : ByteArray} : lenA P t (.v (.string s)) = match P.underlying t with | some .string => some (.v (.int .i64 s.size)) | some (.array n _) => some (.v (.int .i64 n)) | _ => none := by
  unfold lenA
  cases P.underlying t with
  | none => rfl
  | some q => cases q <;> rfl
@[simp] theorem len_agg {cs : List A} : lenA P t (.agg cs) = match P.underlying t with | some (.array n _) => some (.v (.int .i64 n)) | _ => none := by
  unfold lenA
  cases P.underlying t with
  | none => rfl
  | some q => cases q <;> rfl
@[simp] theorem len_pob {o : Nm} {u p : Nat} : lenA P t (.pob o u p) = match P.underlying t with | some (.array n _) => some (.v (.int .i64 n)) | _ => none := by
  unfold lenA
  cases P.underlying t with
  | none => rfl
  | some q => cases q <;> rfl
def slS (f : Bool) (xs : List A) : Option (Nat × Nat × Option Nat)→Option Nat→Option A
  | some (l,h,m),some s => if lens s xs = true then some (.sl (fullA m f h xs.length) ((xs.drop l).take (h - l))) else none
  | _,_ => none
@[simp] theorem slS_some {f : Bool} {xs : List A} {l h s : Nat} {m : Option Nat} : slS f xs (some (l,h,m)) (some s) = if lens s xs = true then some (.sl (fullA m f h xs.length) ((xs.drop l).take (h - l))) else none := rfl
@[simp] theorem slS_none {f : Bool} {xs : List A} {s : Option Nat} : slS f xs none s = none := by cases s <;> rfl
@[simp] theorem slice_sl {f : Bool} {xs : List A} {lo hi mx : Option A} : sliceA P t (.sl f xs) lo hi mx = match P.underlying t with | some (.slice e) => slS f xs (boundsA xs.length lo hi mx) (szT P e) | _ => none := by
  unfold sliceA
  cases P.underlying t with
  | none => rfl
  | some q =>
    cases q <;> first
      | rfl
      | (rename_i e; cases boundsA xs.length lo hi mx <;> cases szT P e <;> rfl)
def slO (o : Nm) (u z off : Nat) : Option (Nat × Nat × Option Nat)→Option Nat→Option A
  | some (l,h,_),some s => if s = z then some (.osl o u z (off + l) (h - l)) else none
  | _,_ => none
@[simp] theorem slO_some {o : Nm} {u z off l h s : Nat} {m : Option Nat} : slO o u z off (some (l,h,m)) (some s) = if s = z then some (.osl o u z (off + l) (h - l)) else none := rfl
@[simp] theorem slO_none {o : Nm} {u z off : Nat} {s : Option Nat} : slO o u z off none s = none := by cases s <;> rfl
@[simp] theorem slice_osl {u z off n : Nat} {o : Nm} {lo hi mx : Option A} : sliceA P t (.osl o u z off n) lo hi mx = match P.underlying t with | some (.slice e) => slO o u z off (boundsA n lo hi mx) (szT P e) | _ => none := by
  unfold sliceA
  cases P.underlying t with
  | none => rfl
  | some q =>
    cases q <;> first
      | rfl
      | (rename_i e; cases boundsA n lo hi mx <;> cases szT P e <;> rfl)
def slP (cs : List A) (n : Nat) : Option (Nat × Nat × Option Nat)→Option Nat→Option A
  | some (l,h,m),some s => if s = 1∧n≤cs.length then some (.sl (fullA m true h n) ((cs.drop l).take (h - l))) else none
  | _,_ => none
@[simp] theorem slP_some {cs : List A} {n l h s : Nat} {m : Option Nat} : slP cs n (some (l,h,m)) (some s) = if s = 1∧n≤cs.length then some (.sl (fullA m true h n) ((cs.drop l).take (h - l))) else none := rfl
@[simp] theorem slP_none {cs : List A} {n : Nat} {s : Option Nat} : slP cs n none s = none := by cases s <;> rfl
@[simp] theorem slice_pim {cs : List A} {lo hi mx : Option A} : sliceA P t (.pim cs) lo hi mx = match P.underlying t with | some (.array n e) => slP cs n (boundsA n lo hi mx) (szT P e) | _ => none := by
  unfold sliceA
  cases P.underlying t with
  | none => rfl
  | some q =>
    cases q <;> first
      | rfl
      | (rename_i n e; cases boundsA n lo hi mx <;> cases szT P e <;> rfl)
@[simp] theorem slice_str {s : ByteArray} {lo hi mx : Option A} : sliceA P t (.v (.string s)) lo hi mx = match P.underlying t with | some .string => (match boundsA s.size lo hi mx with | some (l,h,none) => some (.v (.string (s.extract l h))) | _ => none) | _ => none := by
  unfold sliceA
  cases P.underlying t with
  | none => rfl
  | some q => cases q <;> rfl
@[simp] theorem convA_v {r : IntKind} {n : Int} : convA P t u (.v (.int r n)) = match P.underlying t,P.underlying u with | some _,some (.int k) => some (.v (.int k (k.wrap n))) | _,_ => none := by
  unfold convA
  cases P.underlying t with
  | none => rfl
  | some q => cases P.underlying u with
    | none => rfl
    | some d => cases d <;> rfl
@[simp] theorem convA_s {x : ByteArray} : convA P t u (.v (.string x)) = match P.underlying t,P.underlying u with | some _,some .string => some (.v (.string x)) | _,_ => none := by
  unfold convA
  cases P.underlying t with
  | none => rfl
  | some q => cases P.underlying u with
    | none => rfl
    | some d => cases d <;> rfl
def fieldT (P : Program) (s : TypeId) (f : Nat) : Option (TypeId × Nat) := match P.underlying s with
  | some (.struct fs) => (fs[f]?).map fun fd => (fd.type,fd.offset)
  | _ => none
@[simp] theorem field_agg {cs : List A} {f : Nat} : fieldA P t (.agg cs) f = match fieldT P t f with | some (ft,off) => partA P ft cs off | none => none := by
  unfold fieldA fieldT
  cases P.underlying t with
  | none => rfl
  | some q =>
    cases q <;> first
      | rfl
      | (rename_i fs; simp only; cases fs[f]? <;> rfl)
@[simp] theorem src_v0 {s e : Nat} {a : Option Addr} {c : Nat} : srcA P H s e t (.v (.slice a 0 c)) = match P.underlying t with | some (.slice _) => some [] | _ => none := by
  unfold srcA
  cases P.underlying t with
  | none => rfl
  | some q => cases q <;> rfl
def idxOK : Nat→List (Nat × A)→Bool
  | _,[] => true
  | k,(i,_) :: l => i == k && idxOK (k + 1) l
@[simp] theorem idxOK_nil {k : Nat} : idxOK k [] = true := rfl
@[simp] theorem idxOK_cons {k i : Nat} {x : A} {l : List (Nat × A)} : idxOK k ((i,x) :: l) = (i == k && idxOK (k + 1) l) := rfl
theorem idxOK_range : ∀ (l : List (Nat × A)) (k : Nat),idxOK k l = true→l.map (·.1) = List.range' k l.length
  | [],k,_ => rfl
  | (i,x) :: l,k,h => by
    simp only [idxOK_cons,Bool.and_eq_true,beq_iff_eq] at h
    simp only [List.map_cons,List.length_cons,List.range'_succ]
    rw [h.1,idxOK_range l (k + 1) h.2]
def litS (len : Nat) (ps : List (Nat × A)) : Option Nat→Option Value→Option A
  | some s,some z => if idxOK 0 ps = true∧ps.length = len∧len * s≤16777216∧(ofV z).cells.length = s∧A.ones (ofV z).cells = true∧(ps.all fun p => p.2.cells.length == s && A.ones p.2.cells && p.2.cells.all A.bare1) = true then some (.sl true (ps.map (·.2))) else none
  | _,_ => none
@[simp] theorem litS_some {len s : Nat} {z : Value} {ps : List (Nat × A)} : litS len ps (some s) (some z) = if idxOK 0 ps = true∧ps.length = len∧len * s≤16777216∧(ofV z).cells.length = s∧A.ones (ofV z).cells = true∧(ps.all fun p => p.2.cells.length == s && A.ones p.2.cells && p.2.cells.all A.bare1) = true then some (.sl true (ps.map (·.2))) else none := rfl
theorem range_idxOK : ∀ (l : List (Nat × A)) (k : Nat),l.map (·.1) = List.range' k l.length→idxOK k l = true
  | [],k,_ => rfl
  | (i,x) :: l,k,h => by
    simp only [List.map_cons,List.length_cons,List.range'_succ,List.cons.injEq] at h
    simp only [idxOK_cons,Bool.and_eq_true,beq_iff_eq]
    exact ⟨h.1,range_idxOK l (k + 1) h.2⟩
@[simp] theorem buildSlice_eq {len : Nat} {ps : List (Nat × A)} : buildSliceA P t len ps = match P.underlying t with | some (.slice e) => litS len ps (szT P e) (zeroT P e) | _ => none := by
  unfold buildSliceA
  cases P.underlying t with
  | none => rfl
  | some q =>
    cases q <;> try rfl
    rename_i e
    simp only
    cases szT P e with
    | none => rfl
    | some s =>
      cases zeroT P e with
      | none => rfl
      | some z =>
        have he : (ps.map (·.1) = List.range len) ↔ (idxOK 0 ps = true∧ps.length = len) := by
          constructor
          · intro h
            have hl : ps.length = len := by have := congrArg List.length h; simpa using this
            exact ⟨range_idxOK ps 0 (by rw [h,hl,List.range_eq_range']),hl⟩
          · rintro ⟨h1,h2⟩
            rw [idxOK_range _ _ h1,h2,List.range_eq_range']
        simp only [litS_some,he,and_assoc]
def litO (H : Hp) (d : Nm) (len : Nat) (ps : List (Nat × A)) : Option Nat→Option Value→Option (A × Eff)
  | some s,some z => if idxOK 0 ps = true∧ps.length = len∧len * s≤16777216∧(ofV z).cells.length = s∧A.ones (ofV z).cells = true∧(ps.all fun p => p.2.cells.length == s && A.ones p.2.cells) = true then some (.osl d ((H d).u + 1) s 0 len,.one d ⟨(H d).u + 1,.arr s (ps.map (·.2))⟩) else none
  | _,_ => none
@[simp] theorem litO_some {H : Hp} {d : Nm} {len s : Nat} {z : Value} {ps : List (Nat × A)} : litO H d len ps (some s) (some z) = if idxOK 0 ps = true∧ps.length = len∧len * s≤16777216∧(ofV z).cells.length = s∧A.ones (ofV z).cells = true∧(ps.all fun p => p.2.cells.length == s && A.ones p.2.cells) = true then some (.osl d ((H d).u + 1) s 0 len,.one d ⟨(H d).u + 1,.arr s (ps.map (·.2))⟩) else none := rfl
@[simp] theorem buildSliceO_eq {H : Hp} {d : Nm} {len : Nat} {ps : List (Nat × A)} : buildSliceO P H d t len ps = match P.underlying t with | some (.slice e) => litO H d len ps (szT P e) (zeroT P e) | _ => none := by
  unfold buildSliceO
  cases P.underlying t with
  | none => rfl
  | some q =>
    cases q <;> try rfl
    rename_i e
    simp only
    cases szT P e with
    | none => rfl
    | some s =>
      cases zeroT P e with
      | none => rfl
      | some z =>
        have he : (ps.map (·.1) = List.range len) ↔ (idxOK 0 ps = true∧ps.length = len) := by
          constructor
          · intro h
            have hl : ps.length = len := by have := congrArg List.length h; simpa using this
            exact ⟨range_idxOK ps 0 (by rw [h,hl,List.range_eq_range']),hl⟩
          · rintro ⟨h1,h2⟩
            rw [idxOK_range _ _ h1,h2,List.range_eq_range']
        simp only [litO_some,he,and_assoc]
@[simp] theorem binA_eql_pim {cs : List A} : binA P .eql t (.pim cs) (.v (.pointer none)) = match P.underlying t with | some (.pointer _) => some (.v (.bool false)) | _ => none := by
  show (eqA P 100 t _ _).map _ = _
  unfold eqA
  cases P.underlying t with
  | none => rfl
  | some q => cases q <;> rfl
@[simp] theorem binA_neq_pim {cs : List A} : binA P .neq t (.pim cs) (.v (.pointer none)) = match P.underlying t with | some (.pointer _) => some (.v (.bool true)) | _ => none := by
  show (eqA P 100 t _ _).map _ = _
  unfold eqA
  cases P.underlying t with
  | none => rfl
  | some q => cases q <;> rfl
@[simp] theorem binA_eql_pob {o : Nm} {v p : Nat} : binA P .eql t (.pob o v p) (.v (.pointer none)) = match P.underlying t with | some (.pointer _) => some (.v (.bool false)) | _ => none := by
  show (eqA P 100 t _ _).map _ = _
  unfold eqA
  cases P.underlying t with
  | none => rfl
  | some q => cases q <;> rfl
@[simp] theorem binA_neq_pob {o : Nm} {v p : Nat} : binA P .neq t (.pob o v p) (.v (.pointer none)) = match P.underlying t with | some (.pointer _) => some (.v (.bool true)) | _ => none := by
  show (eqA P 100 t _ _).map _ = _
  unfold eqA
  cases P.underlying t with
  | none => rfl
  | some q => cases q <;> rfl
@[simp] theorem binA_eql_pel {o : Nm} {v p q' : Nat} : binA P .eql t (.pel o v p q') (.v (.pointer none)) = match P.underlying t with | some (.pointer _) => some (.v (.bool false)) | _ => none := by
  show (eqA P 100 t _ _).map _ = _
  unfold eqA
  cases P.underlying t with
  | none => rfl
  | some q => cases q <;> rfl
@[simp] theorem binA_neq_pel {o : Nm} {v p q' : Nat} : binA P .neq t (.pel o v p q') (.v (.pointer none)) = match P.underlying t with | some (.pointer _) => some (.v (.bool true)) | _ => none := by
  show (eqA P 100 t _ _).map _ = _
  unfold eqA
  cases P.underlying t with
  | none => rfl
  | some q => cases q <;> rfl
@[simp] theorem binA_eql_nil : binA P .eql t (.v (.pointer none)) (.v (.pointer none)) = match P.underlying t with | some (.pointer _) => some (.v (.bool true)) | _ => none := by
  show (eqA P 100 t _ _).map _ = _
  unfold eqA
  cases P.underlying t with
  | none => rfl
  | some q => cases q <;> rfl
@[simp] theorem binA_neq_nil : binA P .neq t (.v (.pointer none)) (.v (.pointer none)) = match P.underlying t with | some (.pointer _) => some (.v (.bool false)) | _ => none := by
  show (eqA P 100 t _ _).map _ = _
  unfold eqA
  cases P.underlying t with
  | none => rfl
  | some q => cases q <;> rfl
@[simp] theorem binA_eql_bool {a b : Bool} : binA P .eql t (.v (.bool a)) (.v (.bool b)) = match P.underlying t with | some .bool => some (.v (.bool (a == b))) | _ => none := by
  show (eqA P 100 t _ _).map _ = _
  unfold eqA
  cases P.underlying t with
  | none => rfl
  | some q => cases q <;> rfl
@[simp] theorem binA_neq_bool {a b : Bool} : binA P .neq t (.v (.bool a)) (.v (.bool b)) = match P.underlying t with | some .bool => some (.v (.bool (!(a == b)))) | _ => none := by
  show (eqA P 100 t _ _).map _ = _
  unfold eqA
  cases P.underlying t with
  | none => rfl
  | some q => cases q <;> rfl
end
end Go.G

namespace Go.G
set_option linter.unusedVariables false
set_option linter.unusedSimpArgs false
open Go.RowKit
def Gt {α : Type} (F : Option α) (K : α→Prop) : Prop := ∃ x,F = some x∧K x
def GtG (q : Bool) (F : Option A) (K : A→Prop) : Prop := ∃ x,(q = true→F = some x)∧K (gd q x)
def Imp (q : Bool) (F : Prop) : Prop := q = true→F
def Cnd (b : Bool) (F G : Prop) : Prop := (b = true→F)∧(b = false→G)
@[congr] theorem Gt_congr {α : Type} {F F' : Option α} {K : α→Prop} (h : F = F') : Gt F K = Gt F' K := by rw [h]
@[congr] theorem GtG_congr {q q' : Bool} {F F' : Option A} {K : A→Prop} (h1 : q = q') (h2 : F = F') : GtG q F K = GtG q' F' K := by rw [h1,h2]
@[congr] theorem Cnd_congr {b b' : Bool} {F G : Prop} (h : b = b') : Cnd b F G = Cnd b' F G := by rw [h]
@[congr] theorem SeqC_congr {P : Program} {K : Sta→Prop} {l : List CO} {lg lg' : Lg} {st st' : Sta} (h0 : lg = lg') (h : st = st') : SeqC P K l lg st = SeqC P K l lg' st' := by rw [h0,h]
@[congr] theorem WPC_congr {c : Cx} {x : CC} {Q : Exit→Sta→Prop} {st st' : Sta} (h : st = st') : WPC c x Q st = WPC c x Q st' := by rw [h]
@[congr] theorem LoopC_congr {c : Cx} {x : CC} {Q : Exit→Sta→Prop} {st st' : Sta} (h : st = st') : LoopC c x Q st = LoopC c x Q st' := by rw [h]
@[congr] theorem ThenC_congr {K : Sta→Prop} {Q : Exit→Sta→Prop} {e e' : Exit} {st st' : Sta} (h0 : e = e') (h : st = st') : ThenC K Q e st = ThenC K Q e' st' := by rw [h0,h]
@[congr] theorem StopK_congr {c : Cx} {K : Sta→Prop} {st st' : Sta} (h : st = st') : StopK c K st = StopK c K st' := by rw [h]
@[congr] theorem InBlock_congr {i : Nat} {Q : Exit→Sta→Prop} {e e' : Exit} {st st' : Sta} (h0 : e = e') (h : st = st') : InBlock i Q e st = InBlock i Q e' st' := by rw [h0,h]
@[simp] theorem Gt_some {α : Type} {x : α} {K : α→Prop} : Gt (some x) K = K x := by simp [Gt]
@[simp] theorem Gt_ite {α : Type} {C : Prop} [Decidable C] {F G : Option α} {K : α→Prop} : Gt (if C then F else G) K = ((C→Gt F K)∧(¬C→Gt G K)) := by
  by_cases h : C <;> simp [h]
@[simp] theorem Gt_none {α : Type} {K : α→Prop} : Gt none K = False := by simp [Gt]
@[simp high] theorem Gt_iteN {α : Type} {C : Prop} [Decidable C] {F : Option α} {K : α→Prop} : Gt (if C then F else none) K = (C∧Gt F K) := by
  by_cases h : C <;> simp [h]
@[simp] theorem GtG_some {q : Bool} {x : A} {K : A→Prop} : GtG q (some x) K = K (gd q x) := by
  apply propext
  constructor
  · rintro ⟨y,h1,h2⟩
    cases q
    · exact h2
    · cases h1 rfl; exact h2
  · exact fun h => ⟨x,fun _ => rfl,h⟩
@[simp high] theorem GtG_iteN {q : Bool} {C : Prop} [Decidable C] {F : Option A} {K : A→Prop} : GtG q (if C then F else none) K = (Imp q C∧GtG q F K) := by
  cases q
  · simp [GtG,Imp]
  · by_cases h : C <;> simp [h,GtG,Imp]
@[simp] theorem GtG_true {F : Option A} {K : A→Prop} : GtG true F K = Gt F K := by simp [GtG,Gt,gd]
@[simp] theorem GtG_false {F : Option A} {K : A→Prop} : GtG false F K = K (.v undef) := by simp [GtG,gd]
@[simp] theorem Imp_true {F : Prop} : Imp true F = F := by simp [Imp]
@[simp] theorem Imp_false {F : Prop} : Imp false F = True := by simp [Imp]
@[simp] theorem Imp_trivial {q : Bool} : Imp q True = True := by simp [Imp]
@[simp] theorem Imp_decide {p : Prop} [Decidable p] {F : Prop} : Imp (decide p) F = (p→F) := by simp [Imp]
@[simp] theorem Cnd_true {F G : Prop} : Cnd true F G = F := by simp [Cnd]
@[simp] theorem Cnd_false {F G : Prop} : Cnd false F G = G := by simp [Cnd]
@[simp] theorem Cnd_decide {p : Prop} [Decidable p] {F G : Prop} : Cnd (decide p) F G = ((p→F)∧(¬p→G)) := by simp [Cnd]
@[simp] theorem Cnd_not {b : Bool} {F G : Prop} : Cnd (!b) F G = Cnd b G F := by cases b <;> simp
@[simp] theorem Cnd_and {a b : Bool} {F G : Prop} : Cnd (a && b) F G = (((a && b) = true→F)∧((a && b) = false→G)) := rfl
@[simp] theorem Cnd_or {a b : Bool} {F G : Prop} : Cnd (a || b) F G = (((a || b) = true→F)∧((a || b) = false→G)) := rfl
@[simp] theorem Cnd_self {b : Bool} {F : Prop} : Cnd b F F = F := by cases b <;> simp
@[simp] theorem gd_true {x : A} : gd true x = x := rfl
@[simp] theorem gd_false {x : A} : gd false x = .v undef := rfl
@[simp] theorem bif_gd {q : Bool} {x y : A} : (bif q then gd q x else y) = bif q then x else y := by cases q <;> rfl
def ng (b : Bool) : Bool := !b
@[simp] theorem ng_true' : ng true = false := rfl
@[simp] theorem ng_false' : ng false = true := rfl
@[simp] theorem ng_true {b : Bool} : (ng b = true) = (b = false) := by cases b <;> simp [ng]
@[simp] theorem ng_false {b : Bool} : (ng b = false) = (b = true) := by cases b <;> simp [ng]
@[simp] theorem ng_not {b : Bool} : ng (!b) = b := by cases b <;> rfl
@[simp] theorem bif_gd_not {q : Bool} {x y : A} : (bif q then x else gd (!q) y) = bif q then x else y := by cases q <;> rfl
@[simp] theorem gd_bif_not {q c : Bool} {x y : A} : gd q (bif c then x else gd (q && !c) y) = gd q (bif c then x else y) := by cases q <;> cases c <;> rfl
@[simp] theorem Imp_ng {b : Bool} {F : Prop} : Imp (ng b) F = (b = false→F) := by cases b <;> simp [Imp]
@[simp] theorem Imp_and {a b : Bool} {F : Prop} : Imp (a && b) F = Imp a (Imp b F) := by cases a <;> cases b <;> simp [Imp]
@[simp] theorem Imp_or {a b : Bool} {F : Prop} : Imp (a || b) F = (Imp a F∧Imp b F) := by cases a <;> cases b <;> simp [Imp]
@[simp] theorem Imp_not {a : Bool} {F : Prop} : Imp (!a) F = (a = false→F) := by cases a <;> simp [Imp]
@[simp] theorem Cnd_ng {b : Bool} {F G : Prop} : Cnd (ng b) F G = Cnd b G F := by cases b <;> simp [Cnd]
@[simp] theorem bif_gd' {q : Bool} {x y : A} : (bif q then x else gd (ng q) y) = bif q then x else y := by cases q <;> rfl
@[simp] theorem wantA_bool {b : Bool} : wantA (.v (.bool b)) true = some b := by cases b <;> rfl
@[simp] theorem wantA_boolf {b : Bool} : wantA (.v (.bool b)) false = some (ng b) := by cases b <;> rfl
@[simp] theorem wantA_undef {f : Bool} : wantA (.v undef) f = some false := rfl
@[simp] theorem wantA_gd {q b : Bool} : wantA (gd q (.v (.bool b))) true = some (q && b) := by cases q <;> cases b <;> rfl
@[simp] theorem wantA_gdf {q b : Bool} : wantA (gd q (.v (.bool b))) false = some (q && ng b) := by cases q <;> cases b <;> rfl
@[simp] theorem gd_bif1 {q c : Bool} {x y : A} : gd q (bif c then gd (q && c) x else y) = gd q (bif c then x else y) := by cases q <;> cases c <;> rfl
@[simp] theorem gd_bif2 {q c : Bool} {x y : A} : gd q (bif c then x else gd (q && ng c) y) = gd q (bif c then x else y) := by cases q <;> cases c <;> rfl
@[simp] theorem gd_gd {q : Bool} {x : A} : gd q (gd q x) = gd q x := by cases q <;> rfl
@[simp] theorem boolA_bool {b : Bool} : boolA (.v (.bool b)) = some b := rfl
@[simp] theorem selA_bool {b : Bool} {x y : A} : selA (.v (.bool b)) x y = some (bif b then x else y) := rfl
@[simp] theorem cond_same {α : Type} {b : Bool} {x : α} : (bif b then x else x) = x := by cases b <;> rfl
section
variable {c : Cx} {Q : Exit→Sta→Prop} {st : Sta} {K : Sta→Prop}
@[simp] theorem wpc_skip : WPC c .skip Q st = Q .normal st := rfl
@[simp] theorem wpc_exit {i : Nat} : WPC c (.exit i) Q st = Q (.exit i) st := rfl
@[simp] theorem wpc_ret : WPC c .ret Q st = Q .ret st := rfl
def KeepK (Q : Exit→Sta→Prop) (live : List Nat) (st : Sta) : Prop := Q .normal (st.keep live)
@[simp] theorem keepK_eq {live : List Nat} : KeepK Q live st = Q .normal (st.keep live) := rfl
@[simp] theorem wpc_reg {ops : List CO} {live : List Nat} : WPC c (.reg ops live) Q st = SeqC c.P (KeepK Q live) ops [] st := rfl
@[simp] theorem wpc_seq {x y : CC} : WPC c (.seq x y) Q st = WPC c x (ThenC (WPC c y Q) Q) st := rfl
@[simp] theorem wpc_block {i : Nat} {x : CC} : WPC c (.block i x) Q st = WPC c x (InBlock i Q) st := rfl
@[simp] theorem wpc_loop {x : CC} : WPC c (.loop x) Q st = LoopC c x Q st := rfl
@[simp] theorem wpc_stop {x : CC} : WPC c (.stop x) Q st = StopK c (WPC c x Q) st := rfl
@[simp] theorem wpc_keep {live : List Nat} {x : CC} : WPC c (.keep live x) Q st = WPC c x Q (st.keep live) := rfl
@[simp] theorem wpc_cond {o : Operand} {x y : CC} : WPC c (.cond o x y) Q st = Gt (boolA (evs st.s o)) fun b => Cnd b (WPC c x Q st) (WPC c y Q st) := by
  apply propext
  constructor
  · rintro ⟨b,h1,h2,h3⟩; exact ⟨b,by rw [h1]; rfl,h2,h3⟩
  · rintro ⟨b,h1,h2,h3⟩; exact ⟨b,boolA_some h1,h2,h3⟩
@[simp] theorem thenC_normal : ThenC K Q .normal st = K st := rfl
@[simp] theorem thenC_exit {i : Nat} : ThenC K Q (.exit i) st = Q (.exit i) st := rfl
@[simp] theorem thenC_ret : ThenC K Q .ret st = Q .ret st := rfl
theorem loopC_once {x x' : CC} (hm : c.P.follows .mixedOrders = true) (he : x = x') (h : WPC c x' (ThenC (LoopC c x Q) Q) st) : LoopC c x Q st := by
  subst he
  exact loopC_round hm h
@[simp] theorem cx_P {P : Program} {w0 : World} {I0 : Nat→Prop} {n : Nat} : (cx P w0 I0 n).P = P := rfl
variable {P : Program} {rs : List ResultVar} {r : A}
@[simp] theorem retC_normal : RetC P rs r .normal st = Gt (resA P st rs) fun r0 => Frz st.H r0 r := rfl
@[simp] theorem retC_ret : RetC P rs r .ret st = Gt (resA P st rs) fun r0 => Frz st.H r0 r := rfl
@[simp] theorem resOne_tmp {t : Nat} : resOne P st (.tmp t) = some (st.s t) := rfl
@[simp] theorem resOne_cell {t : TypeId} {a : Nat} : resOne P st (.cell a t) = loadA P st.H t (st.s a) := rfl
@[simp] theorem resA_one {x : ResultVar} : resA P st [x] = resOne P st x := rfl
@[simp] theorem resA_two {x y : ResultVar} {l : List ResultVar} : resA P st (x :: y :: l) = (resList P st (x :: y :: l)).map .tup := rfl
@[simp] theorem resA_nil : resA P st [] = some (.tup []) := rfl
@[simp] theorem resList_nil : resList P st [] = some [] := rfl
@[simp] theorem resList_cons {x : ResultVar} {l : List ResultVar} : resList P st (x :: l) = match resOne P st x,resList P st l with | some x,some l => some (x :: l) | _,_ => none := rfl
end
section
variable {P : Program} {H : Hp} {t u : TypeId} {q : Bool} {x y z : A} {K : A→Prop}
theorem GtG_same {F F' : Option A} (h : q = true→F = F') : GtG q F K = GtG q F' K := by
  cases q
  · simp
  · rw [h rfl]
@[simp] theorem GtG_binl {op : BinOp} : GtG q (binA P op t (gd q x) y) K = GtG q (binA P op t x y) K := GtG_same fun h => by rw [h]; rfl
@[simp] theorem GtG_binr {op : BinOp} : GtG q (binA P op t x (gd q y)) K = GtG q (binA P op t x y) K := GtG_same fun h => by rw [h]; rfl
@[simp] theorem GtG_un {op : UnOp} : GtG q (unA op (gd q y)) K = GtG q (unA op y) K := GtG_same fun h => by rw [h]; rfl
@[simp] theorem GtG_conv : GtG q (convA P t u (gd q y)) K = GtG q (convA P t u y) K := GtG_same fun h => by rw [h]; rfl
@[simp] theorem GtG_load : GtG q (loadA P H t (gd q y)) K = GtG q (loadA P H t y) K := GtG_same fun h => by rw [h]; rfl
@[simp] theorem GtG_fieldAddr {i : Nat} : GtG q (fieldAddrA P t (gd q y) i) K = GtG q (fieldAddrA P t y i) K := GtG_same fun h => by rw [h]; rfl
@[simp] theorem GtG_indexAddrl : GtG q (indexAddrA P t (gd q x) y) K = GtG q (indexAddrA P t x y) K := GtG_same fun h => by rw [h]; rfl
@[simp] theorem GtG_indexAddrr : GtG q (indexAddrA P t x (gd q y)) K = GtG q (indexAddrA P t x y) K := GtG_same fun h => by rw [h]; rfl
@[simp] theorem GtG_len : GtG q (lenA P t (gd q y)) K = GtG q (lenA P t y) K := GtG_same fun h => by rw [h]; rfl
@[simp] theorem GtG_sel : GtG q (selA (gd q z) x y) K = GtG q (selA z x y) K := GtG_same fun h => by rw [h]; rfl
def GB (P : Program) (q : Bool) (t : TypeId) (acc l : List (Nat × A)) (K : A→Prop) : Prop := GtG q (buildA P t (acc ++ l)) K
@[congr] theorem GB_congr {q' : Bool} {acc l l' : List (Nat × A)} (h0 : q = q') (h : l = l') : GB P q t acc l K = GB P q' t acc l' K := by rw [h0,h]
@[simp] theorem GB_nil {acc : List (Nat × A)} : GB P q t acc [] K = GtG q (buildA P t acc) K := by simp [GB]
theorem GB_keep {acc l : List (Nat × A)} {i : Nat} : GB P q t acc ((i,x) :: l) K = GB P q t (acc ++ [(i,x)]) l K := by simp [GB]
@[simp] theorem GB_gd {acc l : List (Nat × A)} {i : Nat} : GB P q t acc ((i,gd q x) :: l) K = GB P q t (acc ++ [(i,x)]) l K := by
  rw [← GB_keep]
  exact GtG_same fun h => by rw [h]; rfl
@[simp] theorem GB_v {acc l : List (Nat × A)} {i : Nat} {a : Value} : GB P q t acc ((i,.v a) :: l) K = GB P q t (acc ++ [(i,.v a)]) l K := GB_keep
@[simp] theorem GB_sl {acc l : List (Nat × A)} {i : Nat} {b : Bool} {xs : List A} : GB P q t acc ((i,.sl b xs) :: l) K = GB P q t (acc ++ [(i,.sl b xs)]) l K := GB_keep
@[simp] theorem GB_osl {acc l : List (Nat × A)} {i u z m n : Nat} {o : Nm} : GB P q t acc ((i,.osl o u z m n) :: l) K = GB P q t (acc ++ [(i,.osl o u z m n)]) l K := GB_keep
@[simp] theorem GB_pob {acc l : List (Nat × A)} {i u m : Nat} {o : Nm} : GB P q t acc ((i,.pob o u m) :: l) K = GB P q t (acc ++ [(i,.pob o u m)]) l K := GB_keep
@[simp] theorem GB_pim {acc l : List (Nat × A)} {i : Nat} {xs : List A} : GB P q t acc ((i,.pim xs) :: l) K = GB P q t (acc ++ [(i,.pim xs)]) l K := GB_keep
@[simp] theorem GB_agg {acc l : List (Nat × A)} {i : Nat} {xs : List A} : GB P q t acc ((i,.agg xs) :: l) K = GB P q t (acc ++ [(i,.agg xs)]) l K := GB_keep
@[simp] theorem GtG_extract {i : Nat} : GtG q (extractA (gd q y) i) K = GtG q (extractA y i) K := GtG_same fun h => by rw [h]; rfl
end
section
variable {P : Program} {H : Hp} {t u : TypeId}
@[simp] theorem binA_int {op : BinOp} {q r : IntKind} {a b : Int} : binA P op t (.v (.int q a)) (.v (.int r b)) = intA op q r a b := rfl
@[simp] theorem binA_str {op : BinOp} {a b : ByteArray} : binA P op t (.v (.string a)) (.v (.string b)) = strA op a b := rfl
@[simp] theorem binA_eq_agg {xs ys : List A} : binA P .eql t (.agg xs) (.agg ys) = if P.eqGuardType P.depth t = false then (eqA P 100 t (.agg xs) (.agg ys)).map fun b => .v (.bool b) else none := rfl
@[simp] theorem binA_ne_agg {xs ys : List A} : binA P .neq t (.agg xs) (.agg ys) = if P.eqGuardType P.depth t = false then (eqA P 100 t (.agg xs) (.agg ys)).map fun b => .v (.bool (!b)) else none := rfl
@[simp] theorem intA_shl {q r : IntKind} {a b : Int} : intA .shl q r a b = if 0≤b then some (.v (.int q (q.wrap (a * 2 ^ (min b.toNat q.bits))))) else none := rfl
@[simp] theorem intA_shr {q r : IntKind} {a b : Int} : intA .shr q r a b = if 0≤b then some (.v (.int q (a / 2 ^ (min b.toNat q.bits)))) else none := rfl
@[simp] theorem intA_add {q : IntKind} {a b : Int} : intA .add q q a b = some (.v (.int q (q.wrap (a + b)))) := by simp [intA]
@[simp] theorem intA_sub {q : IntKind} {a b : Int} : intA .sub q q a b = some (.v (.int q (q.wrap (a - b)))) := by simp [intA]
@[simp] theorem intA_mul {q : IntKind} {a b : Int} : intA .mul q q a b = some (.v (.int q (q.wrap (a * b)))) := by simp [intA]
@[simp] theorem intA_quo {q : IntKind} {a b : Int} : intA .quo q q a b = if b = 0 then none else some (.v (.int q (q.wrap (a.tdiv b)))) := by simp [intA]
@[simp] theorem intA_rem {q : IntKind} {a b : Int} : intA .rem q q a b = if b = 0 then none else some (.v (.int q (a.tmod b))) := by simp [intA]
@[simp] theorem intA_and {q : IntKind} {a b : Int} : intA .and q q a b = some (.v (.int q (bits .and q a b))) := by simp [intA]
@[simp] theorem intA_or {q : IntKind} {a b : Int} : intA .or q q a b = some (.v (.int q (bits .or q a b))) := by simp [intA]
@[simp] theorem intA_xor {q : IntKind} {a b : Int} : intA .xor q q a b = some (.v (.int q (bits .xor q a b))) := by simp [intA]
@[simp] theorem intA_andNot {q : IntKind} {a b : Int} : intA .andNot q q a b = some (.v (.int q (bits .andNot q a b))) := by simp [intA]
@[simp] theorem intA_eql {q : IntKind} {a b : Int} : intA .eql q q a b = some (.v (.bool (decide (a = b)))) := by simp [intA]; rfl
@[simp] theorem intA_neq {q : IntKind} {a b : Int} : intA .neq q q a b = some (.v (.bool (!decide (a = b)))) := by simp [intA]; rfl
@[simp] theorem intA_lss {q : IntKind} {a b : Int} : intA .lss q q a b = some (.v (.bool (decide (a < b)))) := by simp [intA]
@[simp] theorem intA_leq {q : IntKind} {a b : Int} : intA .leq q q a b = some (.v (.bool (decide (a≤b)))) := by simp [intA]
@[simp] theorem intA_gtr {q : IntKind} {a b : Int} : intA .gtr q q a b = some (.v (.bool (decide (b < a)))) := by simp [intA]
@[simp] theorem intA_geq {q : IntKind} {a b : Int} : intA .geq q q a b = some (.v (.bool (decide (b≤a)))) := by simp [intA]
@[simp] theorem unA_not {b : Bool} : unA .not (.v (.bool b)) = some (.v (.bool (!b))) := rfl
@[simp] theorem unA_neg {q : IntKind} {n : Int} : unA .neg (.v (.int q n)) = some (.v (.int q (q.wrap (0 - n)))) := rfl
theorem convA_int {u : TypeId} {d : TypeDesc} {q r : IntKind} {n : Int} (h1 : P.underlying t = some d) (h2 : P.underlying u = some (.int q)) : convA P t u (.v (.int r n)) = some (.v (.int q (q.wrap n))) := by unfold convA; rw [h1,h2]
@[simp] theorem load_pim {cs : List A} : loadA P H t (.pim cs) = match aggT P t,szT P t with | some g,some sz => pickA g sz cs | _,_ => none := rfl
@[simp] theorem pick_agg {sz : Nat} {cs : List A} : pickA true sz cs = if sz≤cs.length then some (.agg (cs.take sz)) else none := rfl
@[simp] theorem pick_cell {sz : Nat} {cs : List A} : pickA false sz cs = cs[0]? := rfl
@[simp] theorem isNilC_tmp {n : Nat} : isNilC (.tmp n) = false := rfl
@[simp] theorem isNilC_int {k : IntKind} {n : Int} : isNilC (.const (.int k n)) = false := rfl
@[simp] theorem isNilC_bool {n : Bool} : isNilC (.const (.bool n)) = false := rfl
@[simp] theorem isNilC_str {n : ByteArray} : isNilC (.const (.string n)) = false := rfl
@[simp] theorem isNilC_ptr {n : Option Addr} : isNilC (.const (.pointer n)) = false := rfl
@[simp] theorem isNilC_agg {n : Array Value} : isNilC (.const (.agg n)) = false := rfl
@[simp] theorem isNilC_ifc : isNilC (.const .nilIface) = false := rfl
@[simp] theorem isNilC_nil : isNilC (.const (.slice none 0 0)) = true := rfl
@[simp] theorem nilBin_eq {x : A} : nilBin P .eql t x = match P.underlying t with | some (.slice _) => (nilA x).map fun b => .v (.bool b) | _ => none := by
  unfold nilBin
  cases P.underlying t with
  | none => rfl
  | some d => cases d <;> rfl
@[simp] theorem nilBin_ne {x : A} : nilBin P .neq t x = match P.underlying t with | some (.slice _) => (nilA x).map fun b => .v (.bool (!b)) | _ => none := by
  unfold nilBin
  cases P.underlying t with
  | none => rfl
  | some d => cases d <;> rfl
@[simp] theorem nilA_cons {f : Bool} {x : A} {xs : List A} : nilA (.sl f (x :: xs)) = some false := rfl
@[simp] theorem nilA_v {a : Option Addr} {n c : Nat} : nilA (.v (.slice a n c)) = some a.isNone := rfl
@[simp] theorem bounds_lh {len : Nat} {lo hi : Option A} : boundsA len lo hi none = match boundA hi len len with | some h => (match boundA lo 0 h with | some l => some (l,h,none) | none => none) | none => none := rfl
@[simp] theorem bound_none {d n : Nat} : boundA none d n = some d := rfl
@[simp] theorem bound_int {k : IntKind} {i : Int} {d n : Nat} : boundA (some (.v (.int k i))) d n = if 0≤i∧i≤n then some i.toNat else none := rfl
@[simp] theorem fullA_none {f : Bool} {h n : Nat} : fullA none f h n = (f && h == n) := rfl
@[simp] theorem fullA_some {f : Bool} {h n m : Nat} : fullA (some m) f h n = (m == h) := rfl
@[simp] theorem shift_pim {n : Nat} {cs : List A} : A.shift n (.pim cs) = some (.pim (cs.drop n)) := rfl
@[simp] theorem shift_pob {n u p : Nat} {o : Nm} : A.shift n (.pob o u p) = some (.pob o u (p + n)) := rfl
@[simp] theorem shift_pel {n u p q : Nat} {o : Nm} : A.shift n (.pel o u p q) = some (.pel o u p (q + n)) := rfl
@[simp] theorem fieldAddr_eq {a : A} {i : Nat} : fieldAddrA P t a i = (fieldOffT P t i).bind a.shift := rfl
@[simp] theorem extract_tup {xs : List A} {i : Nat} : extractA (.tup xs) i = xs[i]? := rfl
@[simp] theorem splice_succ {c : A} {cs news : List A} {n : Nat} : splice (c :: cs) (n + 1) news = c :: splice cs n news := by simp [splice,Nat.add_right_comm]
@[simp] theorem splice_zero {cs news : List A} : splice cs 0 news = news ++ cs.drop news.length := by simp [splice]
end
section
variable {P : Program} {s : Nat→A} {H : Hp}
@[simp] theorem put_some {d : Nat} {x : A} {H' : Hp} : Sta.put ⟨s,H⟩ (some d) x H' = ⟨upd s d x,H'⟩ := rfl
@[simp] theorem put_none {x : A} {H' : Hp} : Sta.put ⟨s,H⟩ none x H' = ⟨s,H'⟩ := rfl
@[simp] theorem upd_at {d t : Nat} {x : A} : upd s d x t = if t = d then x else s t := rfl
@[simp] theorem lk_nil {t : Nat} : lk [] t = .any := rfl
@[simp] theorem lk_cons {d t : Nat} {x : A} {l : List (Nat × A)} : lk ((d,x) :: l) t = if d = t then x else lk l t := rfl
@[simp] theorem argS_at {args : List A} {t : Nat} : argS args t = (args[t]?).getD .any := rfl
@[simp] theorem evs_tmp {t : Nat} : evs s (.tmp t) = s t := rfl
@[simp] theorem evs_const {x : Value} : evs s (.const x) = ofV x := rfl
@[simp] theorem evs_func {g : FuncId} : evs s (.func g) = .fnc g [] [] := rfl
@[simp] theorem keep_eq {live : List Nat} : Sta.keep ⟨s,H⟩ live = ⟨lk (live.map fun k => (k,s k)),H⟩ := rfl
@[simp] theorem ofV_int {q : IntKind} {n : Int} : ofV (.int q n) = .v (.int q n) := rfl
@[simp] theorem ofV_bool {b : Bool} : ofV (.bool b) = .v (.bool b) := rfl
@[simp] theorem ofV_string {b : ByteArray} : ofV (.string b) = .v (.string b) := rfl
@[simp] theorem ofV_pointer {b : Option Addr} : ofV (.pointer b) = .v (.pointer b) := rfl
@[simp] theorem ofV_nil : ofV (.slice none 0 0) = .sl true [] := rfl
@[simp] theorem ofV_agg {cs : Array Value} : ofV (.agg cs) = .agg (cs.toList.map ofV1) := rfl
@[simp] theorem ofV1_int {q : IntKind} {n : Int} : ofV1 (.int q n) = .v (.int q n) := rfl
@[simp] theorem ofV1_bool {b : Bool} : ofV1 (.bool b) = .v (.bool b) := rfl
@[simp] theorem ofV1_string {b : ByteArray} : ofV1 (.string b) = .v (.string b) := rfl
@[simp] theorem ofV1_pointer {b : Option Addr} : ofV1 (.pointer b) = .v (.pointer b) := rfl
@[simp] theorem ofV1_nil : ofV1 (.slice none 0 0) = .sl true [] := rfl
@[simp] theorem cells_agg {cs : List A} : (A.agg cs).cells = cs := rfl
@[simp] theorem cells_v {x : Value} : (A.v x).cells = [.v x] := rfl
@[simp] theorem cells_sl {b : Bool} {xs : List A} : (A.sl b xs).cells = [.sl b xs] := rfl
@[simp] theorem cells_osl {o : Nm} {u z p q : Nat} : (A.osl o u z p q).cells = [.osl o u z p q] := rfl
@[simp] theorem cells_pim {cs : List A} : (A.pim cs).cells = [.pim cs] := rfl
@[simp] theorem cells_pob {o : Nm} {u p : Nat} : (A.pob o u p).cells = [.pob o u p] := rfl
@[simp] theorem ones_nil : A.ones [] = true := rfl
@[simp] theorem ones_cons {a : A} {l : List A} : A.ones (a :: l) = (a.one && A.ones l) := by simp [A.ones]
@[simp] theorem one_int {q : IntKind} {n : Int} : (A.v (.int q n)).one = true := rfl
@[simp] theorem one_bool {b : Bool} : (A.v (.bool b)).one = true := rfl
@[simp] theorem one_string {b : ByteArray} : (A.v (.string b)).one = true := rfl
@[simp] theorem one_pointer {b : Option Addr} : (A.v (.pointer b)).one = true := rfl
@[simp] theorem one_sl {b : Bool} {xs : List A} : (A.sl b xs).one = true := rfl
@[simp] theorem one_osl {o : Nm} {u z p q : Nat} : (A.osl o u z p q).one = true := rfl
@[simp] theorem one_pim {cs : List A} : (A.pim cs).one = true := rfl
@[simp] theorem one_pob {o : Nm} {u p : Nat} : (A.pob o u p).one = true := rfl
@[simp] theorem isPtr_pim {cs : List A} : (A.pim cs).isPtr = true := rfl
@[simp] theorem isPtr_pob {o : Nm} {u p : Nat} : (A.pob o u p).isPtr = true := rfl
@[simp] theorem isPtr_pel {o : Nm} {u p q : Nat} : (A.pel o u p q).isPtr = true := rfl
@[simp] theorem isPtr_v {x : Value} : (A.v x).isPtr = false := rfl
@[simp] theorem bare1_v {x : Value} : (A.v x).bare1 = true := rfl
@[simp] theorem bare1_sl {b : Bool} {xs : List A} : (A.sl b xs).bare1 = true := rfl
@[simp] theorem bare1_pim {cs : List A} : (A.pim cs).bare1 = true := rfl
@[simp] theorem bare1_any : (A.any).bare1 = true := rfl
@[simp] theorem bare1_osl {o : Nm} {u z p q : Nat} : (A.osl o u z p q).bare1 = false := rfl
@[simp] theorem bare1_pob {o : Nm} {u p : Nat} : (A.pob o u p).bare1 = false := rfl
@[simp] theorem bare_v {x : Value} : (A.v x).bare = true := rfl
@[simp] theorem bare_sl {b : Bool} {xs : List A} : (A.sl b xs).bare = true := rfl
@[simp] theorem bare_pim {cs : List A} : (A.pim cs).bare = true := rfl
@[simp] theorem bare_osl {o : Nm} {u z p q : Nat} : (A.osl o u z p q).bare = false := rfl
@[simp] theorem bare_pob {o : Nm} {u p : Nat} : (A.pob o u p).bare = false := rfl
@[simp] theorem bare_agg {cs : List A} : (A.agg cs).bare = cs.all A.bare2 := rfl
@[simp] theorem bare2_v {x : Value} : (A.v x).bare2 = true := rfl
@[simp] theorem bare2_sl {b : Bool} {xs : List A} : (A.sl b xs).bare2 = true := rfl
@[simp] theorem bare2_pim {cs : List A} : (A.pim cs).bare2 = true := rfl
@[simp] theorem bare2_any : (A.any).bare2 = true := rfl
@[simp] theorem bare_fnc {g : FuncId} {fs cs : List A} : (A.fnc g fs cs).bare = (fs.all A.bare1 && cs.all A.bare1) := rfl
@[simp] theorem bare2_fnc {g : FuncId} {fs cs : List A} : (A.fnc g fs cs).bare2 = (fs.all A.bare1 && cs.all A.bare1) := rfl
@[simp] theorem cells_fnc {g : FuncId} {fs cs : List A} : (A.fnc g fs cs).cells = [.fnc g fs cs] := rfl
@[simp] theorem one_fnc {g : FuncId} {fs cs : List A} : (A.fnc g fs cs).one = true := rfl
@[simp] theorem flat_v {x : Value} : (A.v x).flat = true := rfl
@[simp] theorem lens_nil {n : Nat} : lens n [] = true := rfl
@[simp] theorem lens_cons {n : Nat} {x : A} {l : List A} : lens n (x :: l) = (x.cells.length == n && lens n l) := rfl
@[simp] theorem lens_append {n : Nat} {l l' : List A} : lens n (l ++ l') = (lens n l && lens n l') := by simp [lens]
@[simp] theorem fillA_nil {pl : Nat→Option (Nat × Nat)} {cs : List A} : fillA pl cs [] = some cs := rfl
@[simp] theorem fillA_cons {pl : Nat→Option (Nat × Nat)} {cs : List A} {i : Nat} {x : A} {ps : List (Nat × A)} : fillA pl cs ((i,x) :: ps) = match pl i with
    | none => none
    | some (off,size) => if x.cells.length = size∧off + size≤cs.length∧A.ones x.cells = true then fillA pl (splice cs off x.cells) ps else none := rfl
def lkH : List (Nm × VOb)→Hp
  | [],_ => ⟨0,.none⟩
  | (k,x) :: l,o => if k = o then x else lkH l o
def setH : List (Nm × VOb)→Nm→VOb→List (Nm × VOb)
  | [],d,x => [(d,x)]
  | (k,y) :: l,d,x => if k = d then (k,x) :: l else (k,y) :: setH l d x
@[simp] theorem H0_eq : H0 = lkH [] := rfl
@[simp] theorem lkH_nil {o : Nm} : lkH [] o = ⟨0,.none⟩ := rfl
@[simp] theorem lkH_cons {k o : Nm} {x : VOb} {l : List (Nm × VOb)} : lkH ((k,x) :: l) o = if k = o then x else lkH l o := rfl
@[simp] theorem setH_nil {d : Nm} {x : VOb} : setH [] d x = [(d,x)] := rfl
@[simp] theorem setH_cons {k d : Nm} {x y : VOb} {l : List (Nm × VOb)} : setH ((k,y) :: l) d x = if k = d then (k,x) :: l else (k,y) :: setH l d x := rfl
@[simp] theorem updF_lkH {l : List (Nm × VOb)} {d : Nm} {x : VOb} : updF (lkH l) d x = lkH (setH l d x) := by
  funext o
  induction l with
  | nil =>
    simp only [updF,setH_nil,lkH_cons,lkH_nil]
    by_cases h : o = d
    · subst h; simp
    · simp [h,Ne.symm h]
  | cons p l ih =>
    obtain ⟨k,y⟩ := p
    simp only [setH_cons]
    by_cases hk : k = d
    · subst hk
      simp only [if_pos,lkH_cons,updF]
      by_cases h : o = k
      · subst h; simp
      · simp [h,Ne.symm h]
    · rw [if_neg hk,lkH_cons,← ih]
      simp only [updF,lkH_cons]
      by_cases h : o = d
      · subst h; simp [hk]
      · simp [h]
@[simp] theorem refs_pob {o : Nm} {u p : Nat} : refs (.pob o u p) = [(o,false)] := rfl
@[simp] theorem refs_pel {o : Nm} {u p q : Nat} : refs (.pel o u p q) = [(o,false)] := rfl
@[simp] theorem refs_osl {o : Nm} {u z p q : Nat} : refs (.osl o u z p q) = [(o,false)] := rfl
@[simp] theorem refs_v {x : Value} : refs (.v x) = [] := rfl
@[simp] theorem refs_sl {f : Bool} {xs : List A} : refs (.sl f xs) = [] := rfl
@[simp] theorem refs_pim {xs : List A} : refs (.pim xs) = [] := rfl
@[simp] theorem refs_agg {xs : List A} : refs (.agg xs) = [] := rfl
@[simp] theorem wrA_osl {d o : Nm} {u z p q : Nat} : wrA d (.osl o u z p q) = [(o,false)] := rfl
@[simp] theorem wrA_sl {d : Nm} {f : Bool} {xs : List A} : wrA d (.sl f xs) = [(d,false)] := rfl
@[simp] theorem nc_eq {R W R' W' : Fp} : nc ⟨R,W⟩ ⟨R',W'⟩ = (dis W (R' ++ W') && dis W' (R ++ W)) := rfl
@[simp] theorem dis_nil {l : Fp} : dis [] l = true := rfl
@[simp] theorem dis_cons {p : Nm × Bool} {l m : Fp} : dis (p :: l) m = ((m.all fun q => dis1 p q) && dis l m) := rfl
@[simp] theorem dis1_eq {p q : Nm} {a b : Bool} : dis1 (p,a) (q,b) = match a,b with
  | false,false => p != q
  | true,false => !p.isPrefixOf q
  | false,true => !q.isPrefixOf p
  | true,true => !p.isPrefixOf q && !q.isPrefixOf p := rfl
end
section
variable {P : Program} {K : Sta→Prop} {rest : List CO} {s : Nat→A} {H : Hp} {dd : Option Nat} {k : Nat} {f : Bool} {nm : Nm} {ix : Nat} {un : List Nat} {l : Bool} {lg : Lg}
@[simp] theorem sc_nil' {st : Sta} : SeqC P K [] lg st = K st := rfl
@[simp] theorem addL_false {i : Nat} {g : Ft} : addL false i g lg = lg := rfl
@[simp] theorem addL_true {i : Nat} {g : Ft} : addL true i g lg = (i,g) :: lg := rfl
@[simp] theorem ck_nil {g : Ft} : Ck [] lg g = True := by simp [Ck]
@[simp] theorem ck_nil' {g : Ft} : Ck un [] g = True := by simp [Ck]
@[simp] theorem ck_cons {i : Nat} {g h : Ft} : Ck un ((i,g) :: lg) h = ((i ∈ un→nc g h = true)∧Ck un lg h) := by simp [Ck]
theorem ck_pure : Ck un lg ⟨[],[]⟩ := fun p _ _ => by simp [nc,dis_nil_left,dis_nil_right]
def fg (q : Bool) (g : Ft) : Ft := ⟨bif q then g.R else [],bif q then g.W else []⟩
@[simp] theorem fg_true {g : Ft} : fg true g = g := rfl
@[simp] theorem fg_false {g : Ft} : fg false g = ⟨[],[]⟩ := rfl
theorem sc_fun {op : Op} {F : Option A} (hF : ∀ x E R W,OpR P nm op (evs s) H x E R W ↔ Pur F x E R W) :
    SeqC P K (⟨dd,op,none,nm,ix,un,l⟩ :: rest) lg ⟨s,H⟩ = Gt F fun x => SeqC P K rest (addL l ix ⟨[],[]⟩ lg) (Sta.put ⟨s,H⟩ dd x H) := by
  apply propext
  constructor
  · rintro ⟨x,E,⟨R,W⟩,h1,h2,h3⟩
    obtain ⟨h4,rfl,h5,h6⟩ := (hF x E R W).1 h1
    subst h5 h6
    exact ⟨x,h4,h3⟩
  · rintro ⟨x,h1,h2⟩
    exact ⟨x,.nil,⟨[],[]⟩,(hF _ _ _ _).2 ⟨h1,rfl,rfl,rfl⟩,ck_pure,h2⟩
theorem sc_fun_g {op : Op} {F : Option A} (hF : ∀ x E R W,OpR P nm op (evs s) H x E R W ↔ Pur F x E R W) :
    SeqC P K (⟨dd,op,some (k,f),nm,ix,un,l⟩ :: rest) lg ⟨s,H⟩ = Gt (wantA (s k) f) fun q => GtG q F fun x => SeqC P K rest (addL l ix ⟨[],[]⟩ lg) (Sta.put ⟨s,H⟩ dd x H) := by
  apply propext
  constructor
  · rintro ⟨x,E,⟨R,W⟩,⟨q,x0,h1,h2,rfl,h4⟩,h5,h6⟩
    refine ⟨q,h1,x0,fun hq => ((hF _ _ _ _).1 (h2 hq)).1,?_⟩
    have : E = .nil∧R = []∧W = [] := by
      cases hq : q with
      | true => exact ((hF _ _ _ _).1 (h2 hq)).2
      | false => exact h4 hq
    obtain ⟨rfl,h7,h8⟩ := this
    subst h7 h8
    exact h6
  · rintro ⟨q,h1,x0,h2,h3⟩
    exact ⟨_,.nil,⟨[],[]⟩,⟨q,x0,h1,fun hq => (hF _ _ _ _).2 ⟨h2 hq,rfl,rfl,rfl⟩,rfl,fun _ => ⟨rfl,rfl,rfl⟩⟩,ck_pure,h3⟩
theorem sc_eff {op : Op} {F : Option (A × Eff)} {R W : Fp} (hF : ∀ x E R' W',OpR P nm op (evs s) H x E R' W' ↔ F = some (x,E)∧R' = R∧W' = W) :
    SeqC P K (⟨dd,op,none,nm,ix,un,l⟩ :: rest) lg ⟨s,H⟩ = Gt F fun p => Ck un lg ⟨R,W⟩∧SeqC P K rest (addL l ix ⟨R,W⟩ lg) (Sta.put ⟨s,H⟩ dd p.1 (p.2.app H)) := by
  apply propext
  constructor
  · rintro ⟨x,E,⟨R',W'⟩,h1,h2,h3⟩
    obtain ⟨h4,h5,h6⟩ := (hF x E R' W').1 h1
    subst h5 h6
    exact ⟨(x,E),h4,h2,h3⟩
  · rintro ⟨⟨x,E⟩,h1,h2,h3⟩
    exact ⟨x,E,⟨R,W⟩,(hF _ _ _ _).2 ⟨h1,rfl,rfl⟩,h2,h3⟩
theorem sc_guard {op : Op} : SeqC P K (⟨dd,op,some (k,f),nm,ix,un,l⟩ :: rest) lg ⟨s,H⟩ = Gt (wantA (s k) f) fun q => Cnd q (SeqC P K (⟨dd,op,none,nm,ix,un,l⟩ :: rest) lg ⟨s,H⟩) (SeqC P K rest (addL l ix ⟨[],[]⟩ lg) (Sta.put ⟨s,H⟩ dd (.v undef) H)) := by
  apply propext
  constructor
  · rintro ⟨x,E,⟨R,W⟩,⟨q,x0,h1,h2,rfl,h4⟩,h5,h6⟩
    refine ⟨q,h1,fun hq => ⟨x0,E,⟨R,W⟩,h2 hq,h5,?_⟩,fun hq => ?_⟩
    · subst hq; exact h6
    · subst hq
      obtain ⟨rfl,h7,h8⟩ := h4 rfl
      subst h7 h8
      exact h6
  · rintro ⟨q,h1,h2,h3⟩
    cases q with
    | true =>
      obtain ⟨x,E,g,h4,h5,h6⟩ := h2 rfl
      exact ⟨x,E,g,⟨true,x,h1,fun _ => h4,rfl,(fun h => nomatch h)⟩,h5,h6⟩
    | false => exact ⟨_,.nil,⟨[],[]⟩,⟨false,.any,h1,(fun h => nomatch h),rfl,fun _ => ⟨rfl,rfl,rfl⟩⟩,ck_pure,h3 rfl⟩
section
variable {a b : Operand} {t : TypeId}
@[simp] theorem sc_move : SeqC P K (⟨dd,.move a,none,nm,ix,un,l⟩ :: rest) lg ⟨s,H⟩ = SeqC P K rest (addL l ix ⟨[],[]⟩ lg) (Sta.put ⟨s,H⟩ dd (evs s a) H) := by
  rw [sc_fun (F := some (evs s a)) (fun _ _ _ _ => Iff.rfl)]; simp
@[simp] theorem sc_assign : SeqC P K (⟨dd,.assign a,none,nm,ix,un,l⟩ :: rest) lg ⟨s,H⟩ = SeqC P K rest (addL l ix ⟨[],[]⟩ lg) (Sta.put ⟨s,H⟩ dd (evs s a) H) := by
  rw [sc_fun (F := some (evs s a)) (fun _ _ _ _ => Iff.rfl)]; simp
@[simp] theorem sc_move_g : SeqC P K (⟨dd,.move a,some (k,f),nm,ix,un,l⟩ :: rest) lg ⟨s,H⟩ = Gt (wantA (s k) f) fun q => SeqC P K rest (addL l ix ⟨[],[]⟩ lg) (Sta.put ⟨s,H⟩ dd (gd q (evs s a)) H) := by
  rw [sc_fun_g (F := some (evs s a)) (fun _ _ _ _ => Iff.rfl)]; simp
@[simp] theorem sc_bin {op : BinOp} {u : TypeId} : SeqC P K (⟨dd,.binOp op t a b u,none,nm,ix,un,l⟩ :: rest) lg ⟨s,H⟩ = Gt (if isNilC b = true then nilBin P op t (evs s a) else binA P op t (evs s a) (evs s b)) fun x => SeqC P K rest (addL l ix ⟨[],[]⟩ lg) (Sta.put ⟨s,H⟩ dd x H) := sc_fun fun _ _ _ _ => Iff.rfl
@[simp] theorem sc_bin_g {op : BinOp} {u : TypeId} : SeqC P K (⟨dd,.binOp op t a b u,some (k,f),nm,ix,un,l⟩ :: rest) lg ⟨s,H⟩ = Gt (wantA (s k) f) fun q => GtG q (if isNilC b = true then nilBin P op t (evs s a) else binA P op t (evs s a) (evs s b)) fun x => SeqC P K rest (addL l ix ⟨[],[]⟩ lg) (Sta.put ⟨s,H⟩ dd x H) := sc_fun_g fun _ _ _ _ => Iff.rfl
@[simp] theorem sc_un {op : UnOp} : SeqC P K (⟨dd,.unOp op t a,none,nm,ix,un,l⟩ :: rest) lg ⟨s,H⟩ = Gt (unA op (evs s a)) fun x => SeqC P K rest (addL l ix ⟨[],[]⟩ lg) (Sta.put ⟨s,H⟩ dd x H) := sc_fun fun _ _ _ _ => Iff.rfl
@[simp] theorem sc_un_g {op : UnOp} : SeqC P K (⟨dd,.unOp op t a,some (k,f),nm,ix,un,l⟩ :: rest) lg ⟨s,H⟩ = Gt (wantA (s k) f) fun q => GtG q (unA op (evs s a)) fun x => SeqC P K rest (addL l ix ⟨[],[]⟩ lg) (Sta.put ⟨s,H⟩ dd x H) := sc_fun_g fun _ _ _ _ => Iff.rfl
@[simp] theorem sc_conv {u : TypeId} : SeqC P K (⟨dd,.convert t u a,none,nm,ix,un,l⟩ :: rest) lg ⟨s,H⟩ = Gt (convA P t u (evs s a)) fun x => SeqC P K rest (addL l ix ⟨[],[]⟩ lg) (Sta.put ⟨s,H⟩ dd x H) := sc_fun fun _ _ _ _ => Iff.rfl
@[simp] theorem sc_conv_g {u : TypeId} : SeqC P K (⟨dd,.convert t u a,some (k,f),nm,ix,un,l⟩ :: rest) lg ⟨s,H⟩ = Gt (wantA (s k) f) fun q => GtG q (convA P t u (evs s a)) fun x => SeqC P K rest (addL l ix ⟨[],[]⟩ lg) (Sta.put ⟨s,H⟩ dd x H) := sc_fun_g fun _ _ _ _ => Iff.rfl
@[simp] theorem sc_fieldAddr {i : Nat} : SeqC P K (⟨dd,.fieldAddr t a i,none,nm,ix,un,l⟩ :: rest) lg ⟨s,H⟩ = Gt (fieldAddrA P t (evs s a) i) fun x => SeqC P K rest (addL l ix ⟨[],[]⟩ lg) (Sta.put ⟨s,H⟩ dd x H) := sc_fun fun _ _ _ _ => Iff.rfl
@[simp] theorem sc_fieldAddr_g {i : Nat} : SeqC P K (⟨dd,.fieldAddr t a i,some (k,f),nm,ix,un,l⟩ :: rest) lg ⟨s,H⟩ = Gt (wantA (s k) f) fun q => GtG q (fieldAddrA P t (evs s a) i) fun x => SeqC P K rest (addL l ix ⟨[],[]⟩ lg) (Sta.put ⟨s,H⟩ dd x H) := sc_fun_g fun _ _ _ _ => Iff.rfl
@[simp] theorem sc_field {i : Nat} : SeqC P K (⟨dd,.field t a i,none,nm,ix,un,l⟩ :: rest) lg ⟨s,H⟩ = Gt (fieldA P t (evs s a) i) fun x => SeqC P K rest (addL l ix ⟨[],[]⟩ lg) (Sta.put ⟨s,H⟩ dd x H) := sc_fun fun _ _ _ _ => Iff.rfl
@[simp] theorem sc_field_g {i : Nat} : SeqC P K (⟨dd,.field t a i,some (k,f),nm,ix,un,l⟩ :: rest) lg ⟨s,H⟩ = Gt (wantA (s k) f) fun q => GtG q (fieldA P t (evs s a) i) fun x => SeqC P K rest (addL l ix ⟨[],[]⟩ lg) (Sta.put ⟨s,H⟩ dd x H) := sc_fun_g fun _ _ _ _ => Iff.rfl
@[simp] theorem sc_indexAddr  : SeqC P K (⟨dd,.indexAddr t a b,none,nm,ix,un,l⟩ :: rest) lg ⟨s,H⟩ = Gt (indexAddrA P t (evs s a) (evs s b)) fun x => SeqC P K rest (addL l ix ⟨[],[]⟩ lg) (Sta.put ⟨s,H⟩ dd x H) := sc_fun fun _ _ _ _ => Iff.rfl
@[simp] theorem sc_indexAddr_g  : SeqC P K (⟨dd,.indexAddr t a b,some (k,f),nm,ix,un,l⟩ :: rest) lg ⟨s,H⟩ = Gt (wantA (s k) f) fun q => GtG q (indexAddrA P t (evs s a) (evs s b)) fun x => SeqC P K rest (addL l ix ⟨[],[]⟩ lg) (Sta.put ⟨s,H⟩ dd x H) := sc_fun_g fun _ _ _ _ => Iff.rfl
@[simp] theorem sc_index  : SeqC P K (⟨dd,.index t a b,none,nm,ix,un,l⟩ :: rest) lg ⟨s,H⟩ = Gt (indexA P t (evs s a) (evs s b)) fun x => SeqC P K rest (addL l ix ⟨[],[]⟩ lg) (Sta.put ⟨s,H⟩ dd x H) := sc_fun fun _ _ _ _ => Iff.rfl
@[simp] theorem sc_index_g  : SeqC P K (⟨dd,.index t a b,some (k,f),nm,ix,un,l⟩ :: rest) lg ⟨s,H⟩ = Gt (wantA (s k) f) fun q => GtG q (indexA P t (evs s a) (evs s b)) fun x => SeqC P K rest (addL l ix ⟨[],[]⟩ lg) (Sta.put ⟨s,H⟩ dd x H) := sc_fun_g fun _ _ _ _ => Iff.rfl
@[simp] theorem sc_extract {i : Nat} : SeqC P K (⟨dd,.extract a i,none,nm,ix,un,l⟩ :: rest) lg ⟨s,H⟩ = Gt (extractA (evs s a) i) fun x => SeqC P K rest (addL l ix ⟨[],[]⟩ lg) (Sta.put ⟨s,H⟩ dd x H) := sc_fun fun _ _ _ _ => Iff.rfl
@[simp] theorem sc_extract_g {i : Nat} : SeqC P K (⟨dd,.extract a i,some (k,f),nm,ix,un,l⟩ :: rest) lg ⟨s,H⟩ = Gt (wantA (s k) f) fun q => GtG q (extractA (evs s a) i) fun x => SeqC P K rest (addL l ix ⟨[],[]⟩ lg) (Sta.put ⟨s,H⟩ dd x H) := sc_fun_g fun _ _ _ _ => Iff.rfl
@[simp] theorem sc_build {ps : Array (Nat × Operand)} : SeqC P K (⟨dd,.build t ps,none,nm,ix,un,l⟩ :: rest) lg ⟨s,H⟩ = Gt (buildA P t (ps.toList.map fun p => (p.1,evs s p.2))) fun x => SeqC P K rest (addL l ix ⟨[],[]⟩ lg) (Sta.put ⟨s,H⟩ dd x H) := sc_fun fun _ _ _ _ => Iff.rfl
@[simp] theorem sc_build_g {ps : Array (Nat × Operand)} : SeqC P K (⟨dd,.build t ps,some (k,f),nm,ix,un,l⟩ :: rest) lg ⟨s,H⟩ = Gt (wantA (s k) f) fun q => GB P q t [] (ps.toList.map fun p => (p.1,evs s p.2)) fun x => SeqC P K rest (addL l ix ⟨[],[]⟩ lg) (Sta.put ⟨s,H⟩ dd x H) := sc_fun_g fun _ _ _ _ => Iff.rfl
@[simp] theorem sc_buildSlice {n : Nat} {ps : Array (Nat × Operand)} : SeqC P K (⟨dd,.buildSlice t n ps,none,[],ix,un,l⟩ :: rest) lg ⟨s,H⟩ = Gt (buildSliceA P t n (ps.toList.map fun p => (p.1,evs s p.2))) fun x => SeqC P K rest (addL l ix ⟨[],[]⟩ lg) (Sta.put ⟨s,H⟩ dd x H) := sc_fun fun _ _ _ _ => Iff.rfl
@[simp] theorem sc_buildSlice_g {n : Nat} {ps : Array (Nat × Operand)} : SeqC P K (⟨dd,.buildSlice t n ps,some (k,f),[],ix,un,l⟩ :: rest) lg ⟨s,H⟩ = Gt (wantA (s k) f) fun q => GtG q (buildSliceA P t n (ps.toList.map fun p => (p.1,evs s p.2))) fun x => SeqC P K rest (addL l ix ⟨[],[]⟩ lg) (Sta.put ⟨s,H⟩ dd x H) := sc_fun_g fun _ _ _ _ => Iff.rfl
@[simp] theorem sc_slice {lo hi mx : Option Operand} : SeqC P K (⟨dd,.slice t a lo hi mx,none,nm,ix,un,l⟩ :: rest) lg ⟨s,H⟩ = Gt (sliceA P t (evs s a) (lo.map (evs s)) (hi.map (evs s)) (mx.map (evs s))) fun x => SeqC P K rest (addL l ix ⟨[],[]⟩ lg) (Sta.put ⟨s,H⟩ dd x H) := sc_fun fun _ _ _ _ => Iff.rfl
@[simp] theorem sc_slice_g {lo hi mx : Option Operand} : SeqC P K (⟨dd,.slice t a lo hi mx,some (k,f),nm,ix,un,l⟩ :: rest) lg ⟨s,H⟩ = Gt (wantA (s k) f) fun q => GtG q (sliceA P t (evs s a) (lo.map (evs s)) (hi.map (evs s)) (mx.map (evs s))) fun x => SeqC P K rest (addL l ix ⟨[],[]⟩ lg) (Sta.put ⟨s,H⟩ dd x H) := sc_fun_g fun _ _ _ _ => Iff.rfl
@[simp] theorem sc_nilCheck  : SeqC P K (⟨dd,.nilCheck a,none,nm,ix,un,l⟩ :: rest) lg ⟨s,H⟩ = Gt (ptrA (evs s a)) fun x => SeqC P K rest (addL l ix ⟨[],[]⟩ lg) (Sta.put ⟨s,H⟩ dd x H) := sc_fun fun _ _ _ _ => Iff.rfl
@[simp] theorem sc_nilCheck_g  : SeqC P K (⟨dd,.nilCheck a,some (k,f),nm,ix,un,l⟩ :: rest) lg ⟨s,H⟩ = Gt (wantA (s k) f) fun q => GtG q (ptrA (evs s a)) fun x => SeqC P K rest (addL l ix ⟨[],[]⟩ lg) (Sta.put ⟨s,H⟩ dd x H) := sc_fun_g fun _ _ _ _ => Iff.rfl
@[simp] theorem sc_pick {c : Operand} : SeqC P K (⟨dd,.pick c a b,none,nm,ix,un,l⟩ :: rest) lg ⟨s,H⟩ = Gt (selA (evs s c) (evs s a) (evs s b)) fun x => SeqC P K rest (addL l ix ⟨[],[]⟩ lg) (Sta.put ⟨s,H⟩ dd x H) := sc_fun fun _ _ _ _ => Iff.rfl
@[simp] theorem sc_pick_g {c : Operand} : SeqC P K (⟨dd,.pick c a b,some (k,f),nm,ix,un,l⟩ :: rest) lg ⟨s,H⟩ = Gt (wantA (s k) f) fun q => GtG q (selA (evs s c) (evs s a) (evs s b)) fun x => SeqC P K rest (addL l ix ⟨[],[]⟩ lg) (Sta.put ⟨s,H⟩ dd x H) := sc_fun_g fun _ _ _ _ => Iff.rfl
@[simp] theorem sc_makeFunc {g : FuncId} {fs cs : Array Operand} : SeqC P K (⟨dd,.makeFunc (.func g) fs cs,none,nm,ix,un,l⟩ :: rest) lg ⟨s,H⟩ = Gt (some (A.fnc g (fs.toList.map (evs s)) (cs.toList.map (evs s)))) fun x => SeqC P K rest (addL l ix ⟨[],[]⟩ lg) (Sta.put ⟨s,H⟩ dd x H) := sc_fun fun _ _ _ _ => Iff.rfl
@[simp] theorem sc_makeFunc_g {g : FuncId} {fs cs : Array Operand} : SeqC P K (⟨dd,.makeFunc (.func g) fs cs,some (k,f),nm,ix,un,l⟩ :: rest) lg ⟨s,H⟩ = Gt (wantA (s k) f) fun q => GtG q (some (A.fnc g (fs.toList.map (evs s)) (cs.toList.map (evs s)))) fun x => SeqC P K rest (addL l ix ⟨[],[]⟩ lg) (Sta.put ⟨s,H⟩ dd x H) := sc_fun_g fun _ _ _ _ => Iff.rfl
@[simp] theorem sc_makeInterface  : SeqC P K (⟨dd,.makeInterface t a,none,nm,ix,un,l⟩ :: rest) lg ⟨s,H⟩ = Gt (ifcA P t (evs s a)) fun x => SeqC P K rest (addL l ix ⟨[],[]⟩ lg) (Sta.put ⟨s,H⟩ dd x H) := sc_fun fun _ _ _ _ => Iff.rfl
@[simp] theorem sc_makeInterface_g  : SeqC P K (⟨dd,.makeInterface t a,some (k,f),nm,ix,un,l⟩ :: rest) lg ⟨s,H⟩ = Gt (wantA (s k) f) fun q => GtG q (ifcA P t (evs s a)) fun x => SeqC P K rest (addL l ix ⟨[],[]⟩ lg) (Sta.put ⟨s,H⟩ dd x H) := sc_fun_g fun _ _ _ _ => Iff.rfl
@[simp] theorem sc_min {as' : Array Operand} {ts : Array TypeId} : SeqC P K (⟨dd,.call { callee := .builtin .min,args := as',argTypes := ts },none,nm,ix,un,l⟩ :: rest) lg ⟨s,H⟩ = Gt (minmaxA false (as'.toList.map (evs s))) fun x => SeqC P K rest (addL l ix ⟨[],[]⟩ lg) (Sta.put ⟨s,H⟩ dd x H) := sc_fun fun _ _ _ _ => Iff.rfl
@[simp] theorem sc_min_g {as' : Array Operand} {ts : Array TypeId} : SeqC P K (⟨dd,.call { callee := .builtin .min,args := as',argTypes := ts },some (k,f),nm,ix,un,l⟩ :: rest) lg ⟨s,H⟩ = Gt (wantA (s k) f) fun q => GtG q (minmaxA false (as'.toList.map (evs s))) fun x => SeqC P K rest (addL l ix ⟨[],[]⟩ lg) (Sta.put ⟨s,H⟩ dd x H) := sc_fun_g fun _ _ _ _ => Iff.rfl
@[simp] theorem sc_max {as' : Array Operand} {ts : Array TypeId} : SeqC P K (⟨dd,.call { callee := .builtin .max,args := as',argTypes := ts },none,nm,ix,un,l⟩ :: rest) lg ⟨s,H⟩ = Gt (minmaxA true (as'.toList.map (evs s))) fun x => SeqC P K rest (addL l ix ⟨[],[]⟩ lg) (Sta.put ⟨s,H⟩ dd x H) := sc_fun fun _ _ _ _ => Iff.rfl
@[simp] theorem sc_max_g {as' : Array Operand} {ts : Array TypeId} : SeqC P K (⟨dd,.call { callee := .builtin .max,args := as',argTypes := ts },some (k,f),nm,ix,un,l⟩ :: rest) lg ⟨s,H⟩ = Gt (wantA (s k) f) fun q => GtG q (minmaxA true (as'.toList.map (evs s))) fun x => SeqC P K rest (addL l ix ⟨[],[]⟩ lg) (Sta.put ⟨s,H⟩ dd x H) := sc_fun_g fun _ _ _ _ => Iff.rfl
@[simp] theorem sc_len : SeqC P K (⟨dd,.call { callee := .builtin .len,args := #[a],argTypes := #[t] },none,nm,ix,un,l⟩ :: rest) lg ⟨s,H⟩ = Gt (lenA P t (evs s a)) fun x => SeqC P K rest (addL l ix ⟨[],[]⟩ lg) (Sta.put ⟨s,H⟩ dd x H) := sc_fun fun x E R W => by
    constructor
    · rintro ⟨a',t',h1,h2,h3⟩; cases h1; cases h2; exact h3
    · intro h; exact ⟨a,t,rfl,rfl,h⟩
@[simp] theorem sc_len_g : SeqC P K (⟨dd,.call { callee := .builtin .len,args := #[a],argTypes := #[t] },some (k,f),nm,ix,un,l⟩ :: rest) lg ⟨s,H⟩ = Gt (wantA (s k) f) fun q => GtG q (lenA P t (evs s a)) fun x => SeqC P K rest (addL l ix ⟨[],[]⟩ lg) (Sta.put ⟨s,H⟩ dd x H) := sc_fun_g fun x E R W => by
    constructor
    · rintro ⟨a',t',h1,h2,h3⟩; cases h1; cases h2; exact h3
    · intro h; exact ⟨a,t,rfl,rfl,h⟩
@[simp] theorem sc_load : SeqC P K (⟨dd,.load t a,none,nm,ix,un,l⟩ :: rest) lg ⟨s,H⟩ = Gt (loadA P H t (evs s a)) fun x => Ck un lg ⟨refs (evs s a),[]⟩∧SeqC P K rest (addL l ix ⟨refs (evs s a),[]⟩ lg) (Sta.put ⟨s,H⟩ dd x H) := by
  apply propext
  constructor
  · rintro ⟨x,E,⟨R,W⟩,⟨h1,rfl,h2,h3⟩,h4,h5⟩
    simp only at h2 h3
    subst h2 h3
    exact ⟨x,h1,h4,h5⟩
  · rintro ⟨x,h1,h4,h5⟩
    exact ⟨x,.nil,⟨_,_⟩,⟨h1,rfl,rfl,rfl⟩,h4,h5⟩
@[simp] theorem sc_load_g : SeqC P K (⟨dd,.load t a,some (k,f),nm,ix,un,l⟩ :: rest) lg ⟨s,H⟩ = Gt (wantA (s k) f) fun q => GtG q (loadA P H t (evs s a)) fun x => Ck un lg (fg q ⟨refs (evs s a),[]⟩)∧SeqC P K rest (addL l ix (fg q ⟨refs (evs s a),[]⟩) lg) (Sta.put ⟨s,H⟩ dd x H) := by
  apply propext
  constructor
  · rintro ⟨x,E,⟨R,W⟩,⟨q,x0,h1,h2,rfl,h4⟩,h5,h6⟩
    refine ⟨q,h1,x0,fun hq => (h2 hq).1,?_⟩
    have : E = .nil∧(⟨R,W⟩ : Ft) = fg q ⟨refs (evs s a),[]⟩ := by
      cases hq : q with
      | true =>
        obtain ⟨_,e1,e2,e3⟩ := h2 hq
        simp only at e2 e3
        exact ⟨e1,by rw [e2,e3]; rfl⟩
      | false =>
        obtain ⟨e1,e2,e3⟩ := h4 hq
        simp only at e2 e3
        exact ⟨e1,by rw [e2,e3]; rfl⟩
    obtain ⟨rfl,e⟩ := this
    rw [e] at h5 h6
    exact ⟨h5,h6⟩
  · rintro ⟨q,h1,x0,h2,h5,h6⟩
    refine ⟨_,.nil,fg q ⟨refs (evs s a),[]⟩,⟨q,x0,h1,fun hq => ⟨h2 hq,rfl,?_,?_⟩,rfl,fun hq => ⟨rfl,?_,?_⟩⟩,h5,h6⟩ <;> subst hq <;> rfl
@[simp] theorem sc_alloc : SeqC P K (⟨dd,.alloc t,none,nm,ix,un,l⟩ :: rest) lg ⟨s,H⟩ = Gt (allocA P H nm t) fun p => Ck un lg ⟨[],[(nm,false)]⟩∧SeqC P K rest (addL l ix ⟨[],[(nm,false)]⟩ lg) (Sta.put ⟨s,H⟩ dd p.1 (p.2.app H)) := sc_eff fun _ _ _ _ => Iff.rfl
@[simp] theorem sc_box : SeqC P K (⟨dd,.box t a,none,nm,ix,un,l⟩ :: rest) lg ⟨s,H⟩ = Gt (boxA H nm (evs s a)) fun p => Ck un lg ⟨[],[(nm,false)]⟩∧SeqC P K rest (addL l ix ⟨[],[(nm,false)]⟩ lg) (Sta.put ⟨s,H⟩ dd p.1 (p.2.app H)) := sc_eff fun _ _ _ _ => Iff.rfl
@[simp] theorem sc_buildSliceO {n a' : Nat} {d' : Nm} {ps : Array (Nat × Operand)} : SeqC P K (⟨dd,.buildSlice t n ps,none,a' :: d',ix,un,l⟩ :: rest) lg ⟨s,H⟩ = Gt (buildSliceO P H (a' :: d') t n (ps.toList.map fun p => (p.1,evs s p.2))) fun p => Ck un lg ⟨[],[(a' :: d',false)]⟩∧SeqC P K rest (addL l ix ⟨[],[(a' :: d',false)]⟩ lg) (Sta.put ⟨s,H⟩ dd p.1 (p.2.app H)) := sc_eff fun _ _ _ _ => Iff.rfl
@[simp] theorem sc_makeSlice : SeqC P K (⟨dd,.makeSlice t a b,none,nm,ix,un,l⟩ :: rest) lg ⟨s,H⟩ = Gt (makeSliceA P H nm t (evs s a) (evs s b)) fun p => Ck un lg ⟨[],[(nm,false)]⟩∧SeqC P K rest (addL l ix ⟨[],[(nm,false)]⟩ lg) (Sta.put ⟨s,H⟩ dd p.1 (p.2.app H)) := sc_eff fun _ _ _ _ => Iff.rfl
@[simp] theorem sc_store : SeqC P K (⟨dd,.store t a b,none,nm,ix,un,l⟩ :: rest) lg ⟨s,H⟩ = Gt (storeA P H t (evs s a) (evs s b)) fun E => Ck un lg ⟨[],refs (evs s a)⟩∧SeqC P K rest (addL l ix ⟨[],refs (evs s a)⟩ lg) (Sta.put ⟨s,H⟩ dd .any (E.app H)) := by
  apply propext
  constructor
  · rintro ⟨x,E,⟨R,W⟩,⟨h1,rfl,h2,h3⟩,h4,h5⟩
    simp only at h2 h3
    subst h2 h3
    exact ⟨E,h1,h4,h5⟩
  · rintro ⟨E,h1,h4,h5⟩
    exact ⟨_,E,⟨_,_⟩,⟨h1,rfl,rfl,rfl⟩,h4,h5⟩
@[simp] theorem sc_append {u : TypeId} : SeqC P K (⟨dd,.call { callee := .builtin .append,args := #[a,b],argTypes := #[t,u] },none,nm,ix,un,l⟩ :: rest) lg ⟨s,H⟩ = Gt (appendA P H nm t u (evs s a) (evs s b)) fun p => Ck un lg ⟨refs (evs s b),wrA nm (evs s a)⟩∧SeqC P K rest (addL l ix ⟨refs (evs s b),wrA nm (evs s a)⟩ lg) (Sta.put ⟨s,H⟩ dd p.1 (p.2.app H)) :=
  sc_eff fun x E R W => by
    constructor
    · rintro ⟨a',b',t',u',h1,h2,h3,h4,h5⟩; cases h1; cases h2; exact ⟨h3,h4,h5⟩
    · rintro ⟨h3,h4,h5⟩; exact ⟨a,b,t,u,rfl,rfl,h3,h4,h5⟩
@[simp] theorem sc_copy {u : TypeId} : SeqC P K (⟨dd,.call { callee := .builtin .copy,args := #[a,b],argTypes := #[t,u] },none,nm,ix,un,l⟩ :: rest) lg ⟨s,H⟩ = Gt (copyA P H t (evs s a) (evs s b)) fun p => Ck un lg ⟨refs (evs s b),refs (evs s a)⟩∧SeqC P K rest (addL l ix ⟨refs (evs s b),refs (evs s a)⟩ lg) (Sta.put ⟨s,H⟩ dd p.1 (p.2.app H)) :=
  sc_eff fun x E R W => by
    constructor
    · rintro ⟨a',b',t',u',h1,h2,h3,h4,h5⟩; cases h1; cases h2; exact ⟨h3,h4,h5⟩
    · rintro ⟨h3,h4,h5⟩; exact ⟨a,b,t,u,rfl,rfl,h3,h4,h5⟩
@[simp] theorem sc_alloc_g : SeqC P K (⟨dd,.alloc t,some (k,f),nm,ix,un,l⟩ :: rest) lg ⟨s,H⟩ = Gt (wantA (s k) f) fun q => Cnd q (SeqC P K (⟨dd,.alloc t,none,nm,ix,un,l⟩ :: rest) lg ⟨s,H⟩) (SeqC P K rest (addL l ix ⟨[],[]⟩ lg) (Sta.put ⟨s,H⟩ dd (.v undef) H)) := sc_guard
@[simp] theorem sc_box_g : SeqC P K (⟨dd,.box t a,some (k,f),nm,ix,un,l⟩ :: rest) lg ⟨s,H⟩ = Gt (wantA (s k) f) fun q => Cnd q (SeqC P K (⟨dd,.box t a,none,nm,ix,un,l⟩ :: rest) lg ⟨s,H⟩) (SeqC P K rest (addL l ix ⟨[],[]⟩ lg) (Sta.put ⟨s,H⟩ dd (.v undef) H)) := sc_guard
@[simp] theorem sc_buildSliceO_g {n a' : Nat} {d' : Nm} {ps : Array (Nat × Operand)} : SeqC P K (⟨dd,.buildSlice t n ps,some (k,f),a' :: d',ix,un,l⟩ :: rest) lg ⟨s,H⟩ = Gt (wantA (s k) f) fun q => Cnd q (SeqC P K (⟨dd,.buildSlice t n ps,none,a' :: d',ix,un,l⟩ :: rest) lg ⟨s,H⟩) (SeqC P K rest (addL l ix ⟨[],[]⟩ lg) (Sta.put ⟨s,H⟩ dd (.v undef) H)) := sc_guard
@[simp] theorem sc_makeSlice_g : SeqC P K (⟨dd,.makeSlice t a b,some (k,f),nm,ix,un,l⟩ :: rest) lg ⟨s,H⟩ = Gt (wantA (s k) f) fun q => Cnd q (SeqC P K (⟨dd,.makeSlice t a b,none,nm,ix,un,l⟩ :: rest) lg ⟨s,H⟩) (SeqC P K rest (addL l ix ⟨[],[]⟩ lg) (Sta.put ⟨s,H⟩ dd (.v undef) H)) := sc_guard
@[simp] theorem sc_store_g : SeqC P K (⟨dd,.store t a b,some (k,f),nm,ix,un,l⟩ :: rest) lg ⟨s,H⟩ = Gt (wantA (s k) f) fun q => Cnd q (SeqC P K (⟨dd,.store t a b,none,nm,ix,un,l⟩ :: rest) lg ⟨s,H⟩) (SeqC P K rest (addL l ix ⟨[],[]⟩ lg) (Sta.put ⟨s,H⟩ dd (.v undef) H)) := sc_guard
@[simp] theorem sc_append_g {u : TypeId} : SeqC P K (⟨dd,.call { callee := .builtin .append,args := #[a,b],argTypes := #[t,u] },some (k,f),nm,ix,un,l⟩ :: rest) lg ⟨s,H⟩ = Gt (wantA (s k) f) fun q => Cnd q (SeqC P K (⟨dd,.call { callee := .builtin .append,args := #[a,b],argTypes := #[t,u] },none,nm,ix,un,l⟩ :: rest) lg ⟨s,H⟩) (SeqC P K rest (addL l ix ⟨[],[]⟩ lg) (Sta.put ⟨s,H⟩ dd (.v undef) H)) := sc_guard
@[simp] theorem sc_copy_g {u : TypeId} : SeqC P K (⟨dd,.call { callee := .builtin .copy,args := #[a,b],argTypes := #[t,u] },some (k,f),nm,ix,un,l⟩ :: rest) lg ⟨s,H⟩ = Gt (wantA (s k) f) fun q => Cnd q (SeqC P K (⟨dd,.call { callee := .builtin .copy,args := #[a,b],argTypes := #[t,u] },none,nm,ix,un,l⟩ :: rest) lg ⟨s,H⟩) (SeqC P K rest (addL l ix ⟨[],[]⟩ lg) (Sta.put ⟨s,H⟩ dd (.v undef) H)) := sc_guard
theorem sc_call {g : FuncId} {as' : Array Operand} {ts : Array TypeId} {x : A} (hs : Spec P g (as'.toList.map (evs s)) x) (hb : (as'.toList.map (evs s)).all A.bare = true) (h : SeqC P K rest (addL l ix ⟨[],[]⟩ lg) (Sta.put ⟨s,H⟩ dd x H)) :
    SeqC P K (⟨dd,.call { callee := .value (.func g),args := as',argTypes := ts },none,nm,ix,un,l⟩ :: rest) lg ⟨s,H⟩ :=
  ⟨x,.nil,⟨[],[]⟩,⟨g,[],[],rfl,.inl ⟨by simpa using hb,by simpa using hs,rfl,rfl,rfl⟩⟩,ck_pure,h⟩
theorem sc_calle {g : FuncId} {as' : Array Operand} {ts : Array TypeId} {L : List A} {x : A} (hL : as'.toList.map (evs s) = L) (hs : Spec P g L x) (hb : L.all A.bare = true) (h : SeqC P K rest (addL l ix ⟨[],[]⟩ lg) (Sta.put ⟨s,H⟩ dd x H)) :
    SeqC P K (⟨dd,.call { callee := .value (.func g),args := as',argTypes := ts },none,nm,ix,un,l⟩ :: rest) lg ⟨s,H⟩ := by subst hL; exact sc_call hs hb h
theorem sc_callv {o : Operand} {g : FuncId} {fs caps : List A} {as' : Array Operand} {ts : Array TypeId} {x : A} (ho : evs s o = .fnc g fs caps) (hs : Spec P g (fs ++ (as'.toList.map (evs s) ++ caps)) x) (hb : (fs ++ (as'.toList.map (evs s) ++ caps)).all A.bare = true) (h : SeqC P K rest (addL l ix ⟨[],[]⟩ lg) (Sta.put ⟨s,H⟩ dd x H)) :
    SeqC P K (⟨dd,.call { callee := .value o,args := as',argTypes := ts },none,nm,ix,un,l⟩ :: rest) lg ⟨s,H⟩ :=
  ⟨x,.nil,⟨[],[]⟩,⟨g,fs,caps,ho,.inl ⟨hb,hs,rfl,rfl,rfl⟩⟩,ck_pure,h⟩
theorem sc_callh {g : FuncId} {as' : Array Operand} {ts : Array TypeId} {x : A} (E : Eff) (R W : Fp) (hs : ∀ H2,Agree (R ++ W) H H2→CallOK P H2 g (as'.toList.map (evs s)) x E) (hw : Supp E W) (hc : Ck un lg ⟨R,W⟩) (h : SeqC P K rest (addL l ix ⟨R,W⟩ lg) (Sta.put ⟨s,H⟩ dd x (E.app H))) :
    SeqC P K (⟨dd,.call { callee := .value (.func g),args := as',argTypes := ts },none,nm,ix,un,l⟩ :: rest) lg ⟨s,H⟩ :=
  ⟨x,E,⟨R,W⟩,⟨g,[],[],rfl,.inr (.inr ⟨by simpa using hs,hw⟩)⟩,hc,h⟩
theorem sc_call_g {g : FuncId} {as' : Array Operand} {ts : Array TypeId} {x : A} {q : Bool} (hq : wantA (s k) f = some q) (hs : q = true→Spec P g (as'.toList.map (evs s)) x∧(as'.toList.map (evs s)).all A.bare = true)
    (h : SeqC P K rest (addL l ix ⟨[],[]⟩ lg) (Sta.put ⟨s,H⟩ dd (gd q x) H)) :
    SeqC P K (⟨dd,.call { callee := .value (.func g),args := as',argTypes := ts },some (k,f),nm,ix,un,l⟩ :: rest) lg ⟨s,H⟩ :=
  ⟨_,.nil,⟨[],[]⟩,⟨q,x,hq,fun e => ⟨g,[],[],rfl,.inl ⟨by simpa using (hs e).2,by simpa using (hs e).1,rfl,rfl,rfl⟩⟩,rfl,fun _ => ⟨rfl,rfl,rfl⟩⟩,ck_pure,h⟩
end
end
section
variable {P : Program} {K : Sta→Prop} {rest : List CO} {s : Nat→A} {H : Hp} {dd : Option Nat} {k : Nat} {g : FuncId} {as' : Array Operand} {ts : Array TypeId} {x : A} {q : Bool} {L : List A} {nm : Nm} {ix : Nat} {un : List Nat} {l : Bool} {lg : Lg}
theorem sc_call_gt (hq : s k = .v (.bool q)) (hs : q = true→Spec P g L x) (hL : q = true→as'.toList.map (evs s) = L) (hb : L.all A.bare = true)
    (h : SeqC P K rest (addL l ix ⟨[],[]⟩ lg) (Sta.put ⟨s,H⟩ dd (gd q x) H)) :
    SeqC P K (⟨dd,.call { callee := .value (.func g),args := as',argTypes := ts },some (k,true),nm,ix,un,l⟩ :: rest) lg ⟨s,H⟩ :=
  sc_call_g (q := q) (by rw [hq]; cases q <;> rfl) (fun e => by rw [hL e]; exact ⟨hs e,hb⟩) h
theorem sc_call_gf (hq : s k = .v (.bool q)) (hs : q = false→Spec P g L x) (hL : q = false→as'.toList.map (evs s) = L) (hb : L.all A.bare = true)
    (h : SeqC P K rest (addL l ix ⟨[],[]⟩ lg) (Sta.put ⟨s,H⟩ dd (gd (ng q) x) H)) :
    SeqC P K (⟨dd,.call { callee := .value (.func g),args := as',argTypes := ts },some (k,false),nm,ix,un,l⟩ :: rest) lg ⟨s,H⟩ :=
  sc_call_g (q := ng q) (by rw [hq]; cases q <;> rfl) (fun e => by have e : q = false := by simpa using e
                                                                   rw [hL e]; exact ⟨hs e,hb⟩) h
end
@[simp] theorem bif_bool {q r t : Bool} : (bif q then A.v (.bool r) else A.v (.bool t)) = A.v (.bool (bif q then r else t)) := by cases q <;> rfl
theorem frz_bare {H : Hp} {a : A} (h : a.bare = true) : Frz H a a := fun c w I μ v hs hr => (hr.of_bare h).mono0 (fun b hb => .inl hb) (fun _ _ => rfl)
theorem sl_weak {w : World} {I : Nat→Prop} {μ : Mu} {f : Bool} {xs : List A} {v : Value} (h : Rel w I μ (.sl f xs) v) : Rel w I μ (.sl false xs) v := by
  cases h with
  | slN _ _ a cap _ => exact .slN _ _ _ _ (fun h => by cases h)
  | sl _ _ b off n cap sz _ g h1 h2 h3 h4 h5 h6 h7 h8 => exact .sl _ _ b off n cap sz _ g h1 h2 h3 (fun h => by cases h) h5 h6 h7 h8
theorem frz_sl {H : Hp} {f : Bool} {xs : List A} : Frz H (.sl f xs) (.sl false xs) := fun c w I μ v hs hr => sl_weak (frz_bare (a := .sl f xs) rfl c w I μ v hs hr)
theorem frz_bool {H : Hp} {p q : Bool} (h : p = q) : Frz H (.v (.bool p)) (.v (.bool q)) := by rw [h]; exact frz_bare rfl
theorem frz_int {H : Hp} {k : IntKind} {p q : Int} (h : p = q) : Frz H (.v (.int k p)) (.v (.int k q)) := by rw [h]; exact frz_bare rfl
theorem frz_is {H : Hp} {a a' : A} (h : a.bare = true) (e : a = a') : Frz H a a' := by rw [← e]; exact frz_bare h
theorem frz_osl' {H : Hp} {o : Nm} {u off len sz : Nat} {xs ys : List A} (ho : getR H o u = some (sz,xs)) (hl : off + len≤xs.length) (hn : ys.length = len) (hy : ∀ y,y ∈ ys→y.cells.length = sz) (h1 : A.ones (ys.flatMap A.cells) = true)
    (hb : FrzL H (((xs.drop off).take len).flatMap A.cells) (ys.flatMap A.cells)) : Frz H (.osl o u sz off len) (.sl false ys) := by
  intro c w I μ v hs hr
  obtain ⟨hg1,hg2⟩ := frzL_get hb
  cases hr with
  | osl _ _ _ _ _ _ a cap g1 g2 g4 g5 g3 =>
    obtain ⟨hu,k2,hrow⟩ := hs.row ho
    obtain ⟨_,hcur⟩ := g3 hu.symm
    by_cases h0 : len = 0
    · subst h0
      have : ys = [] := List.eq_nil_of_length_eq_zero hn
      subst this
      exact .slN _ _ _ _ (fun h => by cases h)
    rcases hcur with ⟨e,_⟩ | ⟨p1,rfl,p3⟩
    · exact (h0 e).elim
    rcases hrow with ⟨q1,_⟩ | ⟨q1,vs,k3,k4,k5,k6,k7⟩
    · rw [p1] at q1; cases q1
    subst k2
    have hB : hasB (μ o) (H o).ob = true := by rw [(getR_some ho).2]; exact q1
    have hg : ∀ (k : Nat) (y : A),(((xs.drop off).take len).flatMap A.cells)[k]? = some y→(xs.flatMap A.cells)[off * (μ o).sz + k]? = some y := fun k y hk => flat_take_drop k6 hk
    refine .sl _ _ (μ o).b (off * (μ o).sz) _ _ (μ o).sz _ (fun k => vs.getD (off * (μ o).sz + k) undef) (Or.inr ⟨o,hB,rfl⟩) hn.symm (by omega) (fun h => by cases h) hy
      (fun k y hk => List.all_eq_true.1 h1 y (List.mem_of_getElem? hk)) (fun k y hk => ?_) (fun k y hk => ?_)
    · obtain ⟨a',ha',_⟩ := hg2 k y hk
      have h3 := hg k a' ha'
      have h4 := flat_len k6
      have h5 : xs.length * (μ o).sz≤(μ o).cap * (μ o).sz := Nat.mul_le_mul_right _ k5
      have h6 := (List.getElem?_eq_some_iff.1 h3).1
      rw [cell_of_row w (μ o).b _ vs (μ o).e (0,0) k3]
      have : off * (μ o).sz + k < vs.size := by rw [k4]; omega
      simp [this]
    · obtain ⟨a',ha',hf⟩ := hg2 k y hk
      exact hf c w I μ _ hs (k7 _ a' (hg k a' ha')).2
theorem frzL_bare {H : Hp} : ∀ {l : List A},l.all A.bare = true→FrzL H l l
  | [],_ => trivial
  | a :: l,h => by
    simp only [List.all_cons,Bool.and_eq_true] at h
    exact ⟨frz_bare h.1,frzL_bare h.2⟩
theorem bare_of1 {a : A} (h : a.bare1 = true) : a.bare = true := by cases a <;> simp_all [A.bare1,A.bare,A.bare2]
theorem frz_osl {H : Hp} {o : Nm} {u off len sz : Nat} {xs : List A} (ho : getR H o u = some (sz,xs)) (hl : off + len≤xs.length) (hb : ((xs.drop off).take len).all (fun x => x.cells.length == sz && x.cells.all fun y => A.bare1 y && y.one) = true) : Frz H (.osl o u sz off len) (.sl false ((xs.drop off).take len)) := by
  simp only [List.all_eq_true,Bool.and_eq_true,beq_iff_eq] at hb
  refine frz_osl' ho hl (by simp; omega) (fun y hy => (hb y hy).1) ?_ (frzL_bare ?_)
  · simp only [A.ones,List.all_eq_true]
    intro y hy
    obtain ⟨x,hx,hy⟩ := List.mem_flatMap.1 hy
    exact ((hb x hx).2 y hy).2
  · simp only [List.all_eq_true]
    intro y hy
    obtain ⟨x,hx,hy⟩ := List.mem_flatMap.1 hy
    exact bare_of1 ((hb x hx).2 y hy).1
theorem frz_agg {H : Hp} {cs cs' : List A} (h : FrzL H cs cs') : Frz H (.agg cs) (.agg cs') := by
  intro c w I μ v hs hr
  obtain ⟨hl,hg⟩ := frzL_get h
  cases hr with
  | agg _ _ vs h1 h2 =>
    refine .agg _ _ _ (by omega) fun k y hk => ?_
    obtain ⟨a,ha,hf⟩ := hg k y hk
    exact hf c w I μ _ hs (h2 k a ha)
theorem frz_tup {H : Hp} {cs cs' : List A} (h : FrzL H cs cs') : Frz H (.tup cs) (.tup cs') := by
  intro c w I μ v hs hr
  obtain ⟨hl,hg⟩ := frzL_get h
  cases hr with
  | tup _ _ vs h1 h2 =>
    refine .tup _ _ _ (by omega) fun k y hk => ?_
    obtain ⟨a,ha,hf⟩ := hg k y hk
    exact hf c w I μ _ hs (h2 k a ha)
theorem frz_pob {H : Hp} {o : Nm} {u : Nat} {cs cs' : List A} (ho : getC H o u = some cs) (h : FrzL H cs cs') (h1 : A.ones cs' = true) : Frz H (.pob o u 0) (.pim cs') := by
  intro c w I μ v hs hr
  obtain ⟨hl,hg⟩ := frzL_get h
  cases hr with
  | pob _ _ _ _ b k g1 g2 g3 =>
    obtain ⟨hu,vs,k2,k3,k4⟩ := hs.cells ho
    obtain ⟨rfl,rfl⟩ := g3 hu.symm
    have hB : hasB (μ o) (H o).ob = true := by rw [(getC_some ho).2]; rfl
    refine .pim _ (μ o).b 0 _ (fun k => vs.getD k undef) (Or.inr ⟨o,hB,rfl⟩) (fun k y hk => ?_) (fun k y hk => ?_) (fun k y hk => ?_)
    · simp only [A.ones,List.all_eq_true] at h1
      exact h1 y (List.mem_of_getElem? hk)
    · rw [Nat.zero_add,cell_of_row w (μ o).b k vs (μ o).e (0,0) k2]
      have : k < vs.size := by rw [k3,← hl]; exact (List.getElem?_eq_some_iff.1 hk).1
      simp [this]
    · obtain ⟨a,ha,hf⟩ := hg k y hk
      exact hf c w I μ _ hs (k4 k a ha).2
@[simp] theorem frzL_nil {H : Hp} : FrzL H [] [] = True := rfl
@[simp] theorem frzL_cons {H : Hp} {a a' : A} {l l' : List A} : FrzL H (a :: l) (a' :: l') = (Frz H a a'∧FrzL H l l') := rfl
end Go.G

namespace Go.Proofs.YthfiijdbnkaabaaGreat
set_option linter.unusedVariables false
set_option linter.unusedSimpArgs false
set_option maxRecDepth 20000
open Go Go.G Go.Proofs
theorem mixed : Tryz.prog.follows .mixedOrders = true := by kernel_rfl
@[simp] theorem und_3 : Tryz.prog.underlying 3 = some (.int .i64) := by kernel_rfl
@[simp] theorem und_21 : Tryz.prog.underlying 21 = some (.int .i32) := by kernel_rfl
@[simp] theorem und_60 : Tryz.prog.underlying 60 = some (.int .u64) := by kernel_rfl
@[simp] theorem und_175 : Tryz.prog.underlying 175 = some (.int .u32) := by kernel_rfl
@[simp] theorem szT_3 : szT Tryz.prog 3 = some 1 := by kernel_rfl
@[simp] theorem szT_4 : szT Tryz.prog 4 = some 1 := by kernel_rfl
@[simp] theorem szT_121 : szT Tryz.prog 121 = some 8 := by kernel_rfl
@[simp] theorem szT_139 : szT Tryz.prog 139 = some 8 := by kernel_rfl
@[simp] theorem aggT_3 : aggT Tryz.prog 3 = some false := by kernel_rfl
@[simp] theorem aggT_4 : aggT Tryz.prog 4 = some false := by kernel_rfl
@[simp] theorem aggT_121 : aggT Tryz.prog 121 = some true := by kernel_rfl
@[simp] theorem aggT_139 : aggT Tryz.prog 139 = some true := by kernel_rfl
@[simp] theorem zeroT_121 : zeroT Tryz.prog 121 = some (Value.agg #[Value.int IntKind.i64 0,Value.int IntKind.i64 0,Value.int IntKind.i64 0,Value.int IntKind.i64 0,Value.int IntKind.i64 0,Value.int IntKind.i64 0,Value.int IntKind.i64 0,Value.bool false]) := by kernel_rfl
@[simp] theorem zeroT_139 : zeroT Tryz.prog 139 = some (Value.agg #[Value.int IntKind.i64 0,Value.int IntKind.i64 0,Value.int IntKind.i64 0,Value.int IntKind.i64 0,Value.int IntKind.i64 0,Value.int IntKind.i64 0,Value.int IntKind.i64 0,Value.bool false]) := by kernel_rfl
@[simp] theorem fieldOffT_121_0 : fieldOffT Tryz.prog 121 0 = some 0 := by kernel_rfl
@[simp] theorem fieldOffT_121_1 : fieldOffT Tryz.prog 121 1 = some 1 := by kernel_rfl
@[simp] theorem fieldOffT_121_2 : fieldOffT Tryz.prog 121 2 = some 2 := by kernel_rfl
@[simp] theorem fieldOffT_121_3 : fieldOffT Tryz.prog 121 3 = some 3 := by kernel_rfl
@[simp] theorem fieldOffT_121_4 : fieldOffT Tryz.prog 121 4 = some 4 := by kernel_rfl
@[simp] theorem fieldOffT_121_5 : fieldOffT Tryz.prog 121 5 = some 5 := by kernel_rfl
@[simp] theorem fieldOffT_121_6 : fieldOffT Tryz.prog 121 6 = some 6 := by kernel_rfl
@[simp] theorem fieldOffT_121_7 : fieldOffT Tryz.prog 121 7 = some 7 := by kernel_rfl
@[simp] theorem buildA_121 (ps : List (Nat × A)) : buildA Tryz.prog 121 ps = (fillA (fun i => ([(0,1),(1,1),(2,1),(3,1),(4,1),(5,1),(6,1),(7,1)] : List (Nat × Nat))[i]?) [A.v (Value.int IntKind.i64 0),A.v (Value.int IntKind.i64 0),A.v (Value.int IntKind.i64 0),A.v (Value.int IntKind.i64 0),A.v (Value.int IntKind.i64 0),A.v (Value.int IntKind.i64 0),A.v (Value.int IntKind.i64 0),A.v (Value.bool false)] ps).map A.agg := by kernel_rfl
@[simp] theorem buildA_139 (ps : List (Nat × A)) : buildA Tryz.prog 139 ps = (fillA (fun i => ([(0,1),(1,1),(2,1),(3,1),(4,1),(5,1),(6,1),(7,1)] : List (Nat × Nat))[i]?) [A.v (Value.int IntKind.i64 0),A.v (Value.int IntKind.i64 0),A.v (Value.int IntKind.i64 0),A.v (Value.int IntKind.i64 0),A.v (Value.int IntKind.i64 0),A.v (Value.int IntKind.i64 0),A.v (Value.int IntKind.i64 0),A.v (Value.bool false)] ps).map A.agg := by kernel_rfl
@[simp] theorem eqA_121 (x0 y0 : Int) (x1 y1 : Int) (x2 y2 : Int) (x3 y3 : Int) (x4 y4 : Int) (x5 y5 : Int) (x6 y6 : Int) (x7 y7 : Bool) : eqA Tryz.prog 100 121 (.agg [A.v (.int .i64 x0),A.v (.int .i64 x1),A.v (.int .i64 x2),A.v (.int .i64 x3),A.v (.int .i64 x4),A.v (.int .i64 x5),A.v (.int .i64 x6),A.v (.bool x7)]) (.agg [A.v (.int .i64 y0),A.v (.int .i64 y1),A.v (.int .i64 y2),A.v (.int .i64 y3),A.v (.int .i64 y4),A.v (.int .i64 y5),A.v (.int .i64 y6),A.v (.bool y7)]) = some (((x0 == y0) && ((x1 == y1) && ((x2 == y2) && ((x3 == y3) && ((x4 == y4) && ((x5 == y5) && ((x6 == y6) && ((x7 == y7) && (true)))))))))) := by kernel_rfl
@[simp] theorem eqG_121 : Tryz.prog.eqGuardType Tryz.prog.depth 121 = false := by kernel_rfl
@[simp] abbrev xT (n : Nat) : Operand := .tmp n
@[simp] abbrev nI (n : Int) : Operand := .const (.int .i64 n)
@[simp] abbrev cL (f : Nat) (xs : Array Operand) (ts : Array TypeId) : Op := .call { callee := (.value (.func f)),args := xs,argTypes := ts }
@[simp] abbrev mV (n : Nat) : Op := .move (.tmp n)
@[simp] abbrev aS (n : Nat) : Op := .assign (.tmp n)
@[simp] abbrev lD (t n : Nat) : Op := .load t (.tmp n)
@[simp] abbrev fA (t n f : Nat) : Op := .fieldAddr t (.tmp n) f
@[simp] abbrev xR (n i : Nat) : Op := .extract (.tmp n) i
@[simp] abbrev oO (d : Nat) (o : Op) : CO := co (some d) o none
@[simp] abbrev oN (d : Nat) (o : Op) (nm : Nm) : CO := cn (some d) o none nm
@[simp] abbrev oS (o : Op) : CO := co none o none
@[simp] abbrev oG (d : Nat) (o : Op) (k : Nat) (b : Bool) : CO := co (some d) o (some (k,b))
@[simp] abbrev bC (b : Builtin) (xs : Array Operand) (ts : Array TypeId) : Op := .call { callee := (.builtin b),args := xs,argTypes := ts }
@[simp] abbrev bL (n t : Nat) : Op := .call { callee := (.builtin .len),args := #[.tmp n],argTypes := #[t] }
@[simp] abbrev bO (o : BinOp) (t a b u : Nat) : Op := .binOp o t (.tmp a) (.tmp b) u
@[simp] abbrev iA (t a b : Nat) : Op := .indexAddr t (.tmp a) (.tmp b)
@[simp] abbrev nB (b : Bool) : Operand := .const (.bool b)
@[simp] abbrev nS : Operand := .const (.slice none 0 0)
@[simp] abbrev mO (d n : Nat) : CO := co (some d) (.move (.tmp n)) none
@[simp] abbrev aO (d n : Nat) : CO := co (some d) (.assign (.tmp n)) none
@[simp] abbrev lO (d t n : Nat) : CO := co (some d) (.load t (.tmp n)) none
@[simp] abbrev fO (d t n f : Nat) : CO := co (some d) (.fieldAddr t (.tmp n) f) none
@[simp] abbrev xO (d n i : Nat) : CO := co (some d) (.extract (.tmp n) i) none
def nmOf : Nat→List CO→List (Nat × Nm)
  | _,[] => []
  | i,x :: l => if x.nm.isEmpty then nmOf (i + 1) l else (i,x.nm) :: nmOf (i + 1) l
def lsOf : CC→List Mk
  | .reg a b => [(b,nmOf 0 a)]
  | .seq x (.keep b (.stop y)) => lsOf x ++ (999997 :: b,[]) :: lsOf y
  | .seq x (.keep b y) => lsOf x ++ (999999 :: b,[]) :: lsOf y
  | .seq x (.stop y) => lsOf x ++ ([999998],[]) :: lsOf y
  | .seq x y => lsOf x ++ ([],[]) :: lsOf y
  | .cond _ x y => lsOf x ++ lsOf y
  | .block _ x => lsOf x
  | .loop x => lsOf x
  | _ => []
@[simp] abbrev sR (a : List CO) (b : List Nat) (k : CC) : CC := .seq (.reg a b) k
@[simp] abbrev cD (n : Nat) (a b : CC) : CC := .cond (.tmp n) a b
def c_ptr_near : CC := sR [oO 2 (.assign (nB false))] [0] (sR [mO 3 0,oO 4 (.binOp .geq 3 (xT 3) (.const (.int .i64 (-536870912))) 3),mO 5 4,oG 6 (mV 0) 5 true,oG 7 (.binOp .lss 3 (xT 6) (nI 536870912) 3) 5 true,oO 8 (.pick (xT 5) (xT 7) (nB false)),aO 2 8] [2] (.ret))
theorem t_ptr_near : Txt Tryz.prog 151 9 [(.tmp 2)] c_ptr_near := txt_of (code := Tryz.f151.body.getD .ret) mixed (by kernel_rfl) Tryz.func151 (by kernel_rfl) Tryz.ntmps151 (by kernel_rfl) (ls := lsOf c_ptr_near) (by kernel_rfl)
def c_ptr_within : CC := sR [oO 4 (.assign (nB false))] [0,1] (sR [mO 5 0,oO 6 (.binOp .geq 3 (xT 5) (nI 0) 3),mO 7 6,oG 8 (mV 0) 7 true,oG 9 (mV 1) 7 true,oG 10 (bO .leq 3 8 9 3) 7 true,oO 11 (.pick (xT 7) (xT 10) (nB false)),aO 4 11] [4] (.ret))
theorem t_ptr_within : Txt Tryz.prog 152 12 [(.tmp 4)] c_ptr_within := txt_of (code := Tryz.f152.body.getD .ret) mixed (by kernel_rfl) Tryz.func152 (by kernel_rfl) Tryz.ntmps152 (by kernel_rfl) (ls := lsOf c_ptr_within) (by kernel_rfl)
def c_ptr_low : CC := sR [oO 4 (.assign (.const (.int .u64 0)))] [0,1] (sR [mO 5 0,oO 6 (.convert 3 175 (xT 5)),oO 7 (.binOp .shl 175 (xT 6) (.const (.int .u64 2)) 168),mO 8 1,oO 9 (.convert 3 175 (xT 8)),oO 10 (bO .or 175 7 9 175),oO 11 (.convert 175 60 (xT 10)),aO 4 11] [4] (.ret))
theorem t_ptr_low : Txt Tryz.prog 153 12 [(.tmp 4)] c_ptr_low := txt_of (code := Tryz.f153.body.getD .ret) mixed (by kernel_rfl) Tryz.func153 (by kernel_rfl) Tryz.ntmps153 (by kernel_rfl) (ls := lsOf c_ptr_low) (by kernel_rfl)
def c_ptr_Decode : CC := sR [oN 2 (.alloc 121) [0]] [0,2] (sR [mO 4 0,oO 5 (.convert 60 175 (xT 4)),oO 6 (.convert 175 21 (xT 5)),oO 7 (.convert 21 3 (xT 6)),oO 8 (.binOp .shr 3 (xT 7) (.const (.int .u64 2)) 168),aO 3 8] [0,2,3] (.seq (.block 0 (sR [mO 10 0,oO 11 (.binOp .eql 60 (xT 10) (.const (.int .u64 0)) 60),aO 9 11] [0,2,3,9] (cD 9 (sR [oO 12 (.build 121 #[]),oS (.store 121 (xT 2) (xT 12))] [2] (.ret)) (sR [mO 14 0,oO 15 (.binOp .and 60 (xT 14) (.const (.int .u64 3)) 60),oO 16 (.binOp .eql 60 (xT 15) (.const (.int .u64 0)) 60),aO 13 16] [0,2,3,13] (cD 13 (sR [mO 17 3,mO 18 0,oO 19 (.binOp .shr 60 (xT 18) (.const (.int .u64 32)) 168),oO 20 (.binOp .and 60 (xT 19) (.const (.int .u64 65535)) 60),oO 21 (.convert 60 3 (xT 20)),mO 22 0,oO 23 (.binOp .shr 60 (xT 22) (.const (.int .u64 48)) 168),oO 24 (.convert 60 3 (xT 23)),oO 25 (.build 121 #[(0,(nI 1)),(1,(xT 17)),(2,(xT 21)),(3,(xT 24))]),oS (.store 121 (xT 2) (xT 25))] [2] (.ret)) (sR [mO 27 0,oO 28 (.binOp .and 60 (xT 27) (.const (.int .u64 3)) 60),oO 29 (.binOp .eql 60 (xT 28) (.const (.int .u64 1)) 60),aO 26 29] [0,2,3,26] (cD 26 (sR [mO 30 3,mO 31 0,oO 32 (.binOp .shr 60 (xT 31) (.const (.int .u64 32)) 168),oO 33 (.binOp .and 60 (xT 32) (.const (.int .u64 7)) 60),oO 34 (.convert 60 3 (xT 33)),mO 35 0,oO 36 (.binOp .shr 60 (xT 35) (.const (.int .u64 35)) 168),oO 37 (.convert 60 3 (xT 36)),oO 38 (.build 121 #[(0,(nI 2)),(1,(xT 30)),(4,(xT 34)),(5,(xT 37))]),oS (.store 121 (xT 2) (xT 38))] [2] (.ret)) (sR [mO 40 0,oO 41 (.binOp .and 60 (xT 40) (.const (.int .u64 3)) 60),oO 42 (.binOp .eql 60 (xT 41) (.const (.int .u64 2)) 60),aO 39 42] [0,2,39] (cD 39 (sR [mO 43 0,oO 44 (.binOp .shr 60 (xT 43) (.const (.int .u64 3)) 168),oO 45 (.binOp .and 60 (xT 44) (.const (.int .u64 536870911)) 60),oO 46 (.convert 60 3 (xT 45)),mO 47 0,oO 48 (.binOp .shr 60 (xT 47) (.const (.int .u64 32)) 168),oO 49 (.convert 60 3 (xT 48)),mO 50 0,oO 51 (.binOp .and 60 (xT 50) (.const (.int .u64 4)) 60),oO 52 (.binOp .neq 60 (xT 51) (.const (.int .u64 0)) 60),oO 53 (.build 121 #[(0,(nI 3)),(1,(xT 46)),(6,(xT 49)),(7,(xT 52))]),oS (.store 121 (xT 2) (xT 53))] [2] (.ret)) (.skip)))))))))) (.keep [2] (sR [oO 54 (.build 121 #[(0,(nI 4))]),oS (.store 121 (xT 2) (xT 54))] [2] (.ret)))))
theorem t_ptr_Decode : Txt Tryz.prog 154 55 [(.cell 2 121)] c_ptr_Decode := txt_of (code := Tryz.f154.body.getD .ret) mixed (by kernel_rfl) Tryz.func154 (by kernel_rfl) Tryz.ntmps154 (by kernel_rfl) (ls := lsOf c_ptr_Decode) (by kernel_rfl)
def k1_ptr_Encode : CC := sR [mO 87 4,mO 88 4,⟨some 89,(cL 154 #[(xT 88)] #[60]),none,[],2,[],true⟩,⟨some 90,(lD 121 1),none,[],3,[2],false⟩,oO 91 (bO .eql 121 89 90 121),mO 92 91,oG 93 (fA 121 1 0) 92 true,oG 94 (lD 3 93) 92 true,oG 95 (.binOp .neq 3 (xT 94) (nI 4) 3) 92 true,oO 96 (.pick (xT 92) (xT 95) (nB false)),aO 2 87,aO 3 96] [2,3] (.ret) 
def c_ptr_Encode : CC := sR [oN 1 (.box 121 (xT 0)) [0],oO 2 (.assign (.const (.int .u64 0))),oO 3 (.assign (nB false))] [1] (sR [oO 4 (.assign (.const (.int .u64 0)))] [1,4] (.seq (sR [fO 5 121 1 0,lO 6 3 5] [1,4,6] (.block 0 (sR [oO 8 (.binOp .eql 3 (xT 6) (nI 1) 3),aO 7 8] [1,4,6,7] (cD 7 (sR [fO 9 121 1 1,lO 10 3 9,oO 11 (cL 151 #[(xT 10)] #[3]),mO 12 11,oG 13 (fA 121 1 2) 12 true,oG 14 (lD 3 13) 12 true,oG 15 (cL 152 #[(xT 14),(nI 65535)] #[3,3]) 12 true,oO 16 (.pick (xT 12) (xT 15) (nB false)),mO 17 16,oG 18 (fA 121 1 3) 17 true,oG 19 (lD 3 18) 17 true,oG 20 (cL 152 #[(xT 19),(nI 65535)] #[3,3]) 17 true,oO 21 (.pick (xT 17) (xT 20) (nB false))] [1,4,21] (cD 21 (.reg [fO 22 121 1 1,lO 23 3 22,⟨some 24,(cL 153 #[(xT 23),(nI 0)] #[3,3]),none,[],2,[],true⟩,fO 25 121 1 2,⟨some 26,(lD 3 25),none,[],4,[2],false⟩,oO 27 (.convert 3 60 (xT 26)),oO 28 (.binOp .shl 60 (xT 27) (.const (.int .u64 32)) 168),oO 29 (bO .or 60 24 28 60),fO 30 121 1 3,⟨some 31,(lD 3 30),none,[],9,[2],false⟩,oO 32 (.convert 3 60 (xT 31)),oO 33 (.binOp .shl 60 (xT 32) (.const (.int .u64 48)) 168),oO 34 (bO .or 60 29 33 60),aO 4 34] [1,4]) (.skip))) (sR [oO 36 (.binOp .eql 3 (xT 6) (nI 2) 3),aO 35 36] [1,4,6,35] (cD 35 (sR [fO 37 121 1 1,lO 38 3 37,oO 39 (cL 151 #[(xT 38)] #[3]),mO 40 39,oG 41 (fA 121 1 4) 40 true,oG 42 (lD 3 41) 40 true,oG 43 (cL 152 #[(xT 42),(nI 7)] #[3,3]) 40 true,oO 44 (.pick (xT 40) (xT 43) (nB false)),mO 45 44,oG 46 (fA 121 1 5) 45 true,oG 47 (lD 3 46) 45 true,oG 48 (cL 152 #[(xT 47),(nI 536870911)] #[3,3]) 45 true,oO 49 (.pick (xT 45) (xT 48) (nB false))] [1,4,49] (cD 49 (.reg [fO 50 121 1 1,lO 51 3 50,⟨some 52,(cL 153 #[(xT 51),(nI 1)] #[3,3]),none,[],2,[],true⟩,fO 53 121 1 4,⟨some 54,(lD 3 53),none,[],4,[2],false⟩,oO 55 (.convert 3 60 (xT 54)),oO 56 (.binOp .shl 60 (xT 55) (.const (.int .u64 32)) 168),oO 57 (bO .or 60 52 56 60),fO 58 121 1 5,⟨some 59,(lD 3 58),none,[],9,[2],false⟩,oO 60 (.convert 3 60 (xT 59)),oO 61 (.binOp .shl 60 (xT 60) (.const (.int .u64 35)) 168),oO 62 (bO .or 60 57 61 60),aO 4 62] [1,4]) (.skip))) (sR [oO 64 (.binOp .eql 3 (xT 6) (nI 3) 3),aO 63 64] [1,4,63] (cD 63 (sR [fO 65 121 1 1,lO 66 3 65,oO 67 (cL 152 #[(xT 66),(nI 536870911)] #[3,3]),mO 68 67,oG 69 (fA 121 1 6) 68 true,oG 70 (lD 3 69) 68 true,oG 71 (cL 152 #[(xT 70),(nI 4294967295)] #[3,3]) 68 true,oO 72 (.pick (xT 68) (xT 71) (nB false))] [1,4,72] (cD 72 (sR [fO 73 121 1 1,lO 74 3 73,oO 75 (.convert 3 60 (xT 74)),oO 76 (.binOp .shl 60 (xT 75) (.const (.int .u64 3)) 168),oO 77 (.binOp .or 60 (xT 76) (.const (.int .u64 2)) 60),fO 78 121 1 6,lO 79 3 78,oO 80 (.convert 3 60 (xT 79)),oO 81 (.binOp .shl 60 (xT 80) (.const (.int .u64 32)) 168),oO 82 (bO .or 60 77 81 60),aO 4 82] [1,4] (sR [fO 83 121 1 7,lO 84 4 83] [1,4,84] (cD 84 (.reg [mO 85 4,oO 86 (.binOp .or 60 (xT 85) (.const (.int .u64 4)) 60),aO 4 86] [1,4]) (.skip)))) (.skip))) (.skip))))))))) (.keep [1,4] k1_ptr_Encode)))
theorem t_ptr_Encode : Txt Tryz.prog 132 97 [(.tmp 2),(.tmp 3)] c_ptr_Encode := txt_of (code := Tryz.f132.body.getD .ret) mixed (by kernel_rfl) Tryz.func132 (by kernel_rfl) Tryz.ntmps132 (by kernel_rfl) (ls := lsOf c_ptr_Encode) (by kernel_rfl)
def l1_centoref04_field : CC := .seq (sR [mO 11 7,mO 12 1,oO 13 (bO .lss 3 11 12 3)] [0,1,2,7,13] (cD 13 (.skip) (.exit 0))) (.keep [0,1,2,7] (.seq (.block 1 (.reg [mO 16 0,oO 17 (.binOp .quo 60 (xT 16) (.const (.int .u64 2)) 60),aO 0 17] [0,1,2,7])) (.reg [mO 14 7,oO 15 (.binOp .add 3 (xT 14) (nI 1) 3),aO 7 15] [0,1,2,7])))
def l2_centoref04_field : CC := .seq (sR [mO 18 10,mO 19 2,oO 20 (bO .lss 3 18 19 3)] [0,2,8,9,10,20] (cD 20 (.skip) (.exit 2))) (.keep [0,2,8,9,10] (.seq (.block 3 (.seq (sR [mO 23 0,oO 24 (.binOp .rem 60 (xT 23) (.const (.int .u64 2)) 60),oO 25 (.binOp .eql 60 (xT 24) (.const (.int .u64 1)) 60)] [0,2,8,9,10,25] (cD 25 (.reg [mO 26 8,mO 27 9,oO 28 (bO .add 3 26 27 3),aO 8 28] [0,2,8,9,10]) (.skip))) (.keep [0,2,8,9,10] (sR [mO 29 0,oO 30 (.binOp .quo 60 (xT 29) (.const (.int .u64 2)) 60),aO 0 30] [0,2,8,9,10] (.reg [mO 31 9,oO 32 (.binOp .mul 3 (nI 2) (xT 31) 3),aO 9 32] [0,2,8,9,10]))))) (.keep [0,2,8,9,10] (.reg [mO 21 10,oO 22 (.binOp .add 3 (xT 21) (nI 1) 3),aO 10 22] [0,2,8,9,10])))) 
def c_centoref04_field : CC := sR [oO 6 (.assign (nI 0))] [0,1,2] (.seq (sR [oO 7 (.assign (nI 0))] [0,1,2,7] (.block 0 (.loop l1_centoref04_field))) (.keep [0,2] (sR [oO 8 (.assign (nI 0)),oO 9 (.assign (nI 1))] [0,2,8,9] (.seq (sR [oO 10 (.assign (nI 0))] [0,2,8,9,10] (.block 2 (.loop l2_centoref04_field))) (.keep [8] (sR [mO 33 8,aO 6 33] [6] (.ret)))))))
theorem t_centoref04_field : Txt Tryz.prog 143 34 [(.tmp 6)] c_centoref04_field := txt_of (code := Tryz.f143.body.getD .ret) mixed (by kernel_rfl) Tryz.func143 (by kernel_rfl) Tryz.ntmps143 (by kernel_rfl) (ls := lsOf c_centoref04_field) (by kernel_rfl)
def k1_centoref04_Decode : CC := .seq (sR [mO 13 0,oO 14 (cL 143 #[(xT 13),(nI 0),(nI 2)] #[60,3,3])] [0,2,3,14] (.block 0 (sR [oO 16 (.binOp .eql 3 (xT 14) (nI 0) 3),aO 15 16] [0,2,3,14,15] (cD 15 (sR [mO 17 3,mO 18 0,oO 19 (cL 143 #[(xT 18),(nI 32),(nI 16)] #[60,3,3]),mO 20 0,oO 21 (cL 143 #[(xT 20),(nI 48),(nI 16)] #[60,3,3]),oO 22 (.build 139 #[(0,(nI 1)),(1,(xT 17)),(2,(xT 19)),(3,(xT 21))]),oS (.store 139 (xT 2) (xT 22))] [2] (.ret)) (sR [oO 24 (.binOp .eql 3 (xT 14) (nI 1) 3),aO 23 24] [0,2,3,14,23] (cD 23 (sR [mO 25 3,mO 26 0,oO 27 (cL 143 #[(xT 26),(nI 32),(nI 3)] #[60,3,3]),mO 28 0,oO 29 (cL 143 #[(xT 28),(nI 35),(nI 29)] #[60,3,3]),oO 30 (.build 139 #[(0,(nI 2)),(1,(xT 25)),(4,(xT 27)),(5,(xT 29))]),oS (.store 139 (xT 2) (xT 30))] [2] (.ret)) (sR [oO 32 (.binOp .eql 3 (xT 14) (nI 2) 3),aO 31 32] [0,2,31] (cD 31 (sR [mO 33 0,oO 34 (cL 143 #[(xT 33),(nI 3),(nI 29)] #[60,3,3]),mO 35 0,oO 36 (cL 143 #[(xT 35),(nI 32),(nI 32)] #[60,3,3]),mO 37 0,oO 38 (cL 143 #[(xT 37),(nI 2),(nI 1)] #[60,3,3]),oO 39 (.binOp .eql 3 (xT 38) (nI 1) 3),oO 40 (.build 139 #[(0,(nI 3)),(1,(xT 34)),(6,(xT 36)),(7,(xT 39))]),oS (.store 139 (xT 2) (xT 40))] [2] (.ret)) (.skip))))))))) (.keep [2] (sR [oO 41 (.build 139 #[(0,(nI 4))]),oS (.store 139 (xT 2) (xT 41))] [2] (.ret))) 
def c_centoref04_Decode : CC := sR [oN 2 (.alloc 139) [0]] [0,2] (.seq (sR [mO 4 0,oO 5 (.binOp .eql 60 (xT 4) (.const (.int .u64 0)) 60)] [0,2,5] (cD 5 (sR [oO 6 (.build 139 #[]),oS (.store 139 (xT 2) (xT 6))] [2] (.ret)) (.skip))) (.keep [0,2] (sR [mO 7 0,oO 8 (cL 143 #[(xT 7),(nI 2),(nI 30)] #[60,3,3]),aO 3 8] [0,2,3] (.seq (sR [mO 9 3,oO 10 (.binOp .geq 3 (xT 9) (nI 536870912) 3)] [0,2,3,10] (cD 10 (.reg [mO 11 3,oO 12 (.binOp .sub 3 (xT 11) (nI 1073741824) 3),aO 3 12] [0,2,3]) (.skip))) (.keep [0,2,3] k1_centoref04_Decode)))))
theorem t_centoref04_Decode : Txt Tryz.prog 119 42 [(.cell 2 139)] c_centoref04_Decode := txt_of (code := Tryz.f119.body.getD .ret) mixed (by kernel_rfl) Tryz.func119 (by kernel_rfl) Tryz.ntmps119 (by kernel_rfl) (ls := lsOf c_centoref04_Decode) (by kernel_rfl)
end Go.Proofs.YthfiijdbnkaabaaGreat

namespace Go.Proofs.YthfiijdbnkaabaaGreat
set_option linter.unusedVariables false
set_option linter.unusedSimpArgs false
open Go Go.G Go.Proofs
abbrev iv (n : Int) : A := .v (.int .i64 n)
abbrev uv (n : Int) : A := .v (.int .u64 n)
abbrev bv (b : Bool) : A := .v (.bool b)
theorem near_spec (a : Int) : G.Spec Tryz.prog 151 [iv a] (bv (decide (-536870912≤a) && decide (a < 536870912))) := by
  refine spec_of t_ptr_near (by simp) fun w0 I0 => ?_
  unfold c_ptr_near
  simp
  exact frz_bare rfl
theorem within_spec (a b : Int) : G.Spec Tryz.prog 152 [iv a,iv b] (bv (decide (0≤a) && decide (a≤b))) := by
  refine spec_of t_ptr_within (by simp) fun w0 I0 => ?_
  unfold c_ptr_within
  simp
  exact frz_bare rfl
theorem pow_half (w : Int) (m : Nat) : w / 2 / 2 ^ m = w / 2 ^ (m + 1) := by
  rw [Int.ediv_ediv_of_nonneg (by decide),Int.pow_succ,Int.mul_comm]
theorem i64_same {n : Int} (h0 : -9223372036854775808≤n) (h1 : n < 9223372036854775808) : IntKind.i64.wrap n = n := by rw [IntKind.wrap_i64]; omega
theorem u64_same {n : Int} (h0 : 0≤n) (h1 : n < 18446744073709551616) : IntKind.u64.wrap n = n := by rw [IntKind.wrap_u64]; omega
theorem field_l1 {n : Nat} {w0 : World} {I0 : Nat→Prop} {Q : Exit→Sta→Prop} {b k : Int} (hb : b < 1000) : ∀ (m : Nat) (w i : Int),0≤w→w < 18446744073709551616→0≤i→i + m = b →
    Q (.exit 0) ⟨lk [(0,uv (w / 2 ^ m)),(1,iv b),(2,iv k),(7,iv b),(13,bv false)],lkH []⟩ →
    LoopC (cx Tryz.prog w0 I0 n) l1_centoref04_field Q ⟨lk [(0,uv w),(1,iv b),(2,iv k),(7,iv i)],lkH []⟩ := by
  intro m
  induction m with
  | zero =>
    intro w i h0 h1 h2 h3 hq
    have : i = b := by simpa using h3
    subst this
    refine loopC_once mixed l1_centoref04_field.eq_1 ?_
    simp
    simpa using hq
  | succ m ih =>
    intro w i h0 h1 h2 h3 hq
    refine loopC_once mixed l1_centoref04_field.eq_1 ?_
    have hi : i < b := by omega
    simp [hi]
    rw [i64_same (by omega) (by omega),Int.tdiv_eq_ediv_of_nonneg h0,u64_same (by omega) (by omega)]
    exact ih _ _ (by omega) (by omega) (by omega) (by omega) (by rw [pow_half]; exact hq)
theorem mod_half {w : Int} (m : Nat) (h0 : 0≤w) : w % 2 ^ (m + 1) = w % 2 + 2 * (w / 2 % 2 ^ m) := by
  have hp : (0 : Int) < 2 ^ m := Int.pow_pos (by decide)
  have h1 : w / 2 % 2 ^ m = w / 2 - 2 ^ m * (w / 2 / 2 ^ m) := Int.emod_def ..
  have h2 : w % 2 ^ (m + 1) = w - 2 ^ (m + 1) * (w / 2 ^ (m + 1)) := Int.emod_def ..
  rw [h1,h2,pow_half,Int.pow_succ]
  have h3 : (2 : Int) ^ m * 2 * (w / (2 ^ m * 2)) = 2 * (2 ^ m * (w / (2 ^ m * 2))) := by rw [Int.mul_comm (2 ^ m) 2,Int.mul_assoc]
  rw [h3]
  omega
theorem field_l2 {n : Nat} {w0 : World} {I0 : Nat→Prop} {Q : Exit→Sta→Prop} {k : Int} (hb : k < 1000) : ∀ (m : Nat) (w i a p : Int),0≤w→w < 18446744073709551616→0≤i→i + m = k →
    0≤a→0 < p→a < p→p * 2 ^ m≤4611686018427387904 →
    (∀ w' p',Q (.exit 2) ⟨lk [(0,uv w'),(2,iv k),(8,iv (a + p * (w % 2 ^ m))),(9,iv p'),(10,iv k),(20,bv false)],lkH []⟩) →
    LoopC (cx Tryz.prog w0 I0 n) l2_centoref04_field Q ⟨lk [(0,uv w),(2,iv k),(8,iv a),(9,iv p),(10,iv i)],lkH []⟩ := by
  intro m
  induction m with
  | zero =>
    intro w i a p h0 h1 h2 h3 h4 h5 h6 h7 hq
    have : i = k := by simpa using h3
    subst this
    refine loopC_once mixed l2_centoref04_field.eq_1 ?_
    simp
    simpa using hq w p
  | succ m ih =>
    intro w i a p h0 h1 h2 h3 h4 h5 h6 h7 hq
    have hp : (0 : Int) < 2 ^ m := Int.pow_pos (by decide)
    have h8 : p * 2≤4611686018427387904 := by
      refine Int.le_trans ?_ h7
      refine Int.mul_le_mul_of_nonneg_left ?_ (by omega)
      rw [Int.pow_succ]; omega
    have h9 : 2 * p * 2 ^ m≤4611686018427387904 := by
      have : 2 * p * 2 ^ m = p * 2 ^ (m + 1) := by rw [Int.pow_succ,Int.mul_comm 2 p,Int.mul_assoc,Int.mul_comm 2]
      omega
    refine loopC_once mixed l2_centoref04_field.eq_1 ?_
    have hi : i < k := by omega
    simp [hi]
    rw [i64_same (n := i + 1) (by omega) (by omega),Int.tdiv_eq_ediv_of_nonneg h0,Int.tmod_eq_emod_of_nonneg h0,u64_same (n := w / 2) (by omega) (by omega),i64_same (n := a + p) (by omega) (by omega),i64_same (n := 2 * p) (by omega) (by omega)]
    constructor
    · intro hw
      refine ih _ _ _ _ (by omega) (by omega) (by omega) (by omega) (by omega) (by omega) (by omega) h9 (fun w' p' => ?_)
      have := hq w' p'
      rw [mod_half m h0,hw,Int.mul_add,← Int.mul_assoc,Int.mul_comm p 2,Int.mul_one,← Int.add_assoc] at this
      exact this
    · intro hw
      have hw : w % 2 = 0 := by omega
      refine ih _ _ _ _ (by omega) (by omega) (by omega) (by omega) (by omega) (by omega) (by omega) h9 (fun w' p' => ?_)
      have := hq w' p'
      rw [mod_half m h0,hw,Int.mul_add,← Int.mul_assoc,Int.mul_comm p 2,Int.mul_zero,Int.zero_add] at this
      exact this
theorem field_spec {w : Int} (h0 : 0≤w) (h1 : w < 18446744073709551616) (b k : Nat) (hb : b < 100) (hk : k≤32) : G.Spec Tryz.prog 143 [uv w,iv b,iv k] (iv (w / 2 ^ b % 2 ^ k)) := by
  refine spec_of t_centoref04_field (by simp) fun w0 I0 => ?_
  have hp : (0 : Int) < 2 ^ b := Int.pow_pos (by decide)
  have hq : (2 : Int) ^ k≤4294967296 := by
    have h2 := Int.ofNat_le.2 (Nat.pow_le_pow_right (n := 2) (by decide) hk)
    rw [Int.natCast_pow] at h2
    exact h2
  unfold c_centoref04_field
  simp
  refine field_l1 (b := b) (k := k) (by omega) b w 0 h0 h1 (by omega) (by omega) ?_
  simp
  refine field_l2 (k := k) (by omega) k _ 0 0 1 (Int.ediv_nonneg h0 (by omega)) ?_ (by omega) (by omega) (by omega) (by omega) (by omega) (by omega) (fun w' p' => ?_)
  · exact Int.lt_of_le_of_lt (Int.ediv_le_self _ h0) h1
  simp
  exact frz_bare rfl
structure Pt where
  (kind off data ptrs code count seg : Int)
  dbl : Bool
deriving DecidableEq
@[simp] def Pt.a (p : Pt) : A := .agg [iv p.kind,iv p.off,iv p.data,iv p.ptrs,iv p.code,iv p.count,iv p.seg,bv p.dbl]
def offs (w : Int) : Int := if w / 4 % 1073741824 < 536870912 then w / 4 % 1073741824 else w / 4 % 1073741824 - 1073741824
def dec (w : Int) : Pt :=
  if w = 0 then ⟨0,0,0,0,0,0,0,false⟩
  else if w % 4 = 0 then ⟨1,offs w,w / 4294967296 % 65536,w / 281474976710656,0,0,0,false⟩
  else if w % 4 = 1 then ⟨2,offs w,0,0,w / 4294967296 % 8,w / 34359738368,0,false⟩
  else if w % 4 = 2 then ⟨3,w / 8 % 536870912,0,0,0,0,w / 4294967296,decide (w / 4 % 2 = 1)⟩
  else ⟨4,0,0,0,0,0,0,false⟩
theorem refDecode_spec {w : Int} (h0 : 0≤w) (h1 : w < 18446744073709551616) : G.Spec Tryz.prog 119 [uv w] (dec w).a := by
  refine spec_of t_centoref04_Decode (by simp) fun w0 I0 => ?_
  unfold c_centoref04_Decode
  simp
  refine ⟨fun hw => ?_,fun hw => ?_⟩
  · subst hw; exact frz_bare rfl
  refine sc_call (field_spec h0 h1 2 30 (by decide) (by decide)) rfl ?_
  simp
  have hd : dec w = if w % 4 = 0 then ⟨1,offs w,w / 4294967296 % 65536,w / 281474976710656,0,0,0,false⟩
    else if w % 4 = 1 then ⟨2,offs w,0,0,w / 4294967296 % 8,w / 34359738368,0,false⟩
    else if w % 4 = 2 then ⟨3,w / 8 % 536870912,0,0,0,0,w / 4294967296,decide (w / 4 % 2 = 1)⟩
    else ⟨4,0,0,0,0,0,0,false⟩ := by rw [dec,if_neg hw]
  have ho : IntKind.i64.wrap (w / 4 % 1073741824 - 1073741824) = w / 4 % 1073741824 - 1073741824 := i64_same (by omega) (by omega)
  rw [ho]
  have hk : ∀ z : Int,w / 2 ^ 0 % 2 ^ 2 = z ↔ w % 4 = z := fun z => by simp
  have e32 : w / 2 ^ 32 % 2 ^ 16 = w / 4294967296 % 65536 := rfl
  have e48 : w / 2 ^ 48 % 2 ^ 16 = w / 281474976710656 := by show w / 281474976710656 % 65536 = _; omega
  have e35 : w / 2 ^ 35 % 2 ^ 29 = w / 34359738368 := by show w / 34359738368 % 536870912 = _; omega
  have e33 : w / 2 ^ 32 % 2 ^ 32 = w / 4294967296 := by show w / 4294967296 % 4294967296 = _; omega
  refine ⟨fun h => ?_,fun h => ?_⟩
  all_goals
    first
      | rw [← show offs w = w / 4 % 1073741824 - 1073741824 from if_neg (by omega)]
      | rw [← show offs w = w / 4 % 1073741824 from if_pos (by omega)]
    rw [k1_centoref04_Decode.eq_1]
    simp
    refine sc_call (field_spec h0 h1 0 2 (by decide) (by decide)) rfl ?_
    simp
    refine ⟨fun h => ?_,fun h => ?_⟩
    · refine sc_call (field_spec h0 h1 32 16 (by decide) (by decide)) rfl ?_
      simp
      refine sc_call (field_spec h0 h1 48 16 (by decide) (by decide)) rfl ?_
      rw [e48]
      simp
      rw [hd,if_pos h]
      exact frz_bare rfl
    refine ⟨fun h => ?_,fun h => ?_⟩
    · refine sc_call (field_spec h0 h1 32 3 (by decide) (by decide)) rfl ?_
      simp
      refine sc_call (field_spec h0 h1 35 29 (by decide) (by decide)) rfl ?_
      rw [e35]
      simp
      rw [hd,if_neg (by omega),if_pos h]
      exact frz_bare rfl
    refine ⟨fun h => ?_,fun h => ?_⟩
    · refine sc_call (field_spec h0 h1 3 29 (by decide) (by decide)) rfl ?_
      simp
      refine sc_call (field_spec h0 h1 32 32 (by decide) (by decide)) rfl ?_
      rw [e33]
      simp
      refine sc_call (field_spec h0 h1 2 1 (by decide) (by decide)) rfl ?_
      simp
      rw [hd,if_neg (by omega),if_neg (by omega),if_pos h]
      exact frz_bare rfl
    · rw [hd,if_neg (by omega),if_neg (by omega),if_neg (by omega)]
      exact frz_bare rfl
end Go.Proofs.YthfiijdbnkaabaaGreat

namespace Go.Proofs.YthfiijdbnkaabaaGreat
set_option linter.unusedVariables false
set_option linter.unusedSimpArgs false
open Go Go.G Go.Proofs
theorem u64_mask (i : Nat) (hi : i≤64) {x : Int} (h0 : 0≤x) (h1 : x < 18446744073709551616) : bits .and .u64 x (2 ^ i - 1) = x % 2 ^ i :=
  bits_mask .u64 64 (by decide) (fun n a b => u64_same a b) i hi x h0 h1
theorem u64_or (i : Nat) {x y : Int} (hx0 : 0≤x) (hx : x % 2 ^ i = 0) (hx1 : x < 18446744073709551616) (hy0 : 0≤y) (hy : y < 2 ^ i) (hy1 : y < 18446744073709551616) : bits .or .u64 x y = x + y :=
  bits_join .u64 64 (by decide) (fun n a b => u64_same a b) i x y hx0 hx hx1 hy0 hy hy1
theorem u64_or' (i : Nat) {x y : Int} (hx0 : 0≤x) (hx : x < 2 ^ i) (hx1 : x < 18446744073709551616) (hy0 : 0≤y) (hy : y % 2 ^ i = 0) (hy1 : y < 18446744073709551616) : bits .or .u64 x y = x + y := by
  have : bits .or .u64 x y = bits .or .u64 y x := by simp only [bits,BitVec.or_comm]
  rw [this,u64_or i hy0 hy hy1 hx0 hx hx1,Int.add_comm]
theorem u64_and4 {x : Int} (h0 : 0≤x) (h1 : x < 18446744073709551616) : (bits .and .u64 x 4 = 0) ↔ x / 4 % 2 = 0 := by
  obtain ⟨a,rfl⟩ := Int.eq_ofNat_of_zero_le h0
  have h2 := bits_and_u64_nat a 4 (by omega) (by omega)
  have h3 : bits .and .u64 (a : Int) 4 = ((a &&& 4 : Nat) : Int) := h2
  rw [h3]
  have h4 : a &&& 4 = 4 * (a / 4 % 2) := by
    have e : a &&& 4 = (a % 8) &&& 4 := by
      rw [show a % 8 = a &&& 7 from (Nat.and_two_pow_sub_one_eq_mod a 3).symm,Nat.and_assoc]; rfl
    have d : ∀ r,r < 8→r &&& 4 = 4 * (r / 4 % 2) := by decide
    rw [e,d _ (by omega)]
    omega
  rw [h4]
  omega
theorem i32_shr2 {w : Int} : (IntKind.i32.wrap (IntKind.u32.wrap w)) / 4 = offs w := by
  rw [IntKind.wrap_i32,IntKind.wrap_u32,offs]
  split <;> omega
theorem Decode_spec {w : Int} (h0 : 0≤w) (h1 : w < 18446744073709551616) : G.Spec Tryz.prog 154 [uv w] (dec w).a := by
  refine spec_of t_ptr_Decode (by simp) fun w0 I0 => ?_
  unfold c_ptr_Decode
  simp [convA_int]
  have e3 : bits .and .u64 w 3 = w % 4 := u64_mask 2 (by decide) h0 h1
  have e1 : IntKind.i64.wrap (bits .and .u64 (w / 2 ^ min 32 IntKind.u64.bits) 65535) = w / 4294967296 % 65536 := by
    rw [show w / 2 ^ min 32 IntKind.u64.bits = w / 4294967296 from rfl,show bits .and .u64 (w / 4294967296) 65535 = w / 4294967296 % 65536 from u64_mask 16 (by decide) (by omega) (by omega)]
    exact i64_same (by omega) (by omega)
  have e2 : IntKind.i64.wrap (w / 2 ^ min 48 IntKind.u64.bits) = w / 281474976710656 := by
    rw [show w / 2 ^ min 48 IntKind.u64.bits = w / 281474976710656 from rfl]
    exact i64_same (by omega) (by omega)
  have e4 : IntKind.i64.wrap (bits .and .u64 (w / 2 ^ min 32 IntKind.u64.bits) 7) = w / 4294967296 % 8 := by
    rw [show w / 2 ^ min 32 IntKind.u64.bits = w / 4294967296 from rfl,show bits .and .u64 (w / 4294967296) 7 = w / 4294967296 % 8 from u64_mask 3 (by decide) (by omega) (by omega)]
    exact i64_same (by omega) (by omega)
  have e5 : IntKind.i64.wrap (w / 2 ^ min 35 IntKind.u64.bits) = w / 34359738368 := by
    rw [show w / 2 ^ min 35 IntKind.u64.bits = w / 34359738368 from rfl]
    exact i64_same (by omega) (by omega)
  have e6 : IntKind.i64.wrap (bits .and .u64 (w / 2 ^ min 3 IntKind.u64.bits) 536870911) = w / 8 % 536870912 := by
    rw [show w / 2 ^ min 3 IntKind.u64.bits = w / 8 from rfl,show bits .and .u64 (w / 8) 536870911 = w / 8 % 536870912 from u64_mask 29 (by decide) (by omega) (by omega)]
    exact i64_same (by omega) (by omega)
  have e7 : IntKind.i64.wrap (w / 2 ^ min 32 IntKind.u64.bits) = w / 4294967296 := by
    rw [show w / 2 ^ min 32 IntKind.u64.bits = w / 4294967296 from rfl]
    exact i64_same (by omega) (by omega)
  have e8 : (!decide (bits .and .u64 w 4 = 0)) = decide (w / 4 % 2 = 1) := by
    have := u64_and4 h0 h1
    by_cases h : w / 4 % 2 = 1
    · rw [decide_eq_true h,decide_eq_false (by rw [this]; omega)]; rfl
    · rw [decide_eq_false h,decide_eq_true (by rw [this]; omega)]; rfl
  have e9 : IntKind.i64.wrap (IntKind.i32.wrap (IntKind.u32.wrap w)) / 2 ^ min 2 IntKind.i64.bits = offs w := by
    rw [← i32_shr2,IntKind.wrap_i32,i64_same (by omega) (by omega)]
    rfl
  rw [e1,e2,e3,e4,e5,e6,e7,e8,e9]
  refine ⟨fun h => ?_,fun h => ⟨fun h2 => ?_,fun h2 => ⟨fun h3 => ?_,fun h3 => ⟨fun h4 => ?_,fun h4 => ?_⟩⟩⟩⟩
  · subst h; exact frz_bare rfl
  · rw [show dec w = _ from (if_neg h).trans (if_pos h2)]; exact frz_bare rfl
  · rw [show dec w = _ from (if_neg h).trans ((if_neg h2).trans (if_pos h3))]; exact frz_bare rfl
  · rw [show dec w = _ from (if_neg h).trans ((if_neg h2).trans ((if_neg h3).trans (if_pos h4)))]; exact frz_bare rfl
  · rw [show dec w = _ from (if_neg h).trans ((if_neg h2).trans ((if_neg h3).trans (if_neg h4)))]; exact frz_bare rfl
theorem u64_or4 {x : Int} (h0 : 0≤x) (h1 : x < 18446744073709551616) (h2 : x % 8 < 4) : bits .or .u64 x 4 = x + 4 := by
  obtain ⟨a,rfl⟩ := Int.eq_ofNat_of_zero_le h0
  have h3 : bits .or .u64 (a : Int) 4 = ((a ||| 4 : Nat) : Int) := bits_or_u64_nat a 4 (by omega) (by omega)
  rw [h3]
  have h4 : a = 2 ^ 3 * (a / 8) + a % 8 := by omega
  have h5 : a ||| 4 = a + 4 := by
    have e1 : 2 ^ 3 * (a / 8) + a % 8 = 2 ^ 3 * (a / 8) ||| a % 8 := Nat.two_pow_add_eq_or_of_lt (by omega) _
    have d : ∀ r,r < 4→(r ||| 4) = r + 4∧r ||| 4 < 8 := by decide
    obtain ⟨d1,d2⟩ := d (a % 8) (by omega)
    have e2 : 2 ^ 3 * (a / 8) + (a % 8 ||| 4) = 2 ^ 3 * (a / 8) ||| (a % 8 ||| 4) := Nat.two_pow_add_eq_or_of_lt (by omega) _
    have e3 : a ||| 4 = 2 ^ 3 * (a / 8) ||| (a % 8 ||| 4) := by rw [← Nat.or_assoc,← e1,← h4]
    rw [e3,← e2,d1]
    omega
  rw [h5]
  rfl
theorem offs_in (w : Int) : -536870912≤offs w∧offs w < 536870912∧offs w * 4 % 4294967296 = w / 4 % 1073741824 * 4 := by
  unfold offs
  split <;> omega
theorem low_spec {a b : Int} (ha : -536870912≤a) (ha1 : a < 536870912) (hb : 0≤b) (hb1 : b < 4) : G.Spec Tryz.prog 153 [iv a,iv b] (uv (a * 4 % 4294967296 + b)) := by
  refine spec_of t_ptr_low (by simp) fun w0 I0 => ?_
  unfold c_ptr_low
  simp [convA_int]
  have e1 : IntKind.u32.wrap (IntKind.u32.wrap a * 2 ^ min 2 IntKind.u32.bits) = a * 4 % 4294967296 := by
    rw [show IntKind.u32.wrap a * 2 ^ min 2 IntKind.u32.bits = IntKind.u32.wrap a * 4 from rfl,IntKind.wrap_u32,IntKind.wrap_u32]
    omega
  have e2 : IntKind.u32.wrap b = b := by rw [IntKind.wrap_u32]; omega
  have e3 : bits .or .u32 (a * 4 % 4294967296) b = a * 4 % 4294967296 + b :=
    bits_join .u32 32 (by decide) (fun n h0 h1 => by rw [IntKind.wrap_u32]; omega) 2 _ _ (by omega) (by omega) (by omega) hb (by omega) (by omega)
  rw [e1,e2,e3,u64_same (by omega) (by omega)]
  exact frz_bare rfl
def encW (p : Pt) : Int :=
  if p.kind = 1 then if -536870912≤p.off∧p.off < 536870912∧0≤p.data∧p.data≤65535∧0≤p.ptrs∧p.ptrs≤65535 then p.off * 4 % 4294967296 + p.data * 4294967296 + p.ptrs * 281474976710656 else 0
  else if p.kind = 2 then if -536870912≤p.off∧p.off < 536870912∧0≤p.code∧p.code≤7∧0≤p.count∧p.count≤536870911 then p.off * 4 % 4294967296 + 1 + p.code * 4294967296 + p.count * 34359738368 else 0
  else if p.kind = 3 then if 0≤p.off∧p.off≤536870911∧0≤p.seg∧p.seg≤4294967295 then p.off * 8 + 2 + p.seg * 4294967296 + (if p.dbl = true then 4 else 0) else 0
  else 0
def encB (p : Pt) : Bool := decide (dec (encW p) = p) && !decide (p.kind = 4)
theorem pt_eq (q p : Pt) : (q.kind == p.kind && (q.off == p.off && (q.data == p.data && (q.ptrs == p.ptrs && (q.code == p.code && (q.count == p.count && (q.seg == p.seg && q.dbl == p.dbl))))))) = decide (q = p) := by
  obtain ⟨a1,a2,a3,a4,a5,a6,a7,a8⟩ := q
  obtain ⟨b1,b2,b3,b4,b5,b6,b7,b8⟩ := p
  rw [Bool.eq_iff_iff]
  simp
theorem encW_range (p : Pt) : 0≤encW p∧encW p < 18446744073709551616 := by
  unfold encW
  repeat' split
  all_goals omega
theorem Encode_k1 {n : Nat} {w0 : World} {I0 : Nat→Prop} {p : Pt} {W : Int} (hW : W = encW p) : WPC (cx Tryz.prog w0 I0 n) k1_ptr_Encode (RetC Tryz.prog [.tmp 2,.tmp 3] (.tup [uv (encW p),bv (encB p)]))
    ⟨lk [(1,.pob [0] 1 0),(4,uv W),(93,.any),(94,.any),(95,.any)],lkH [([0],⟨1,.cells [iv p.kind,iv p.off,iv p.data,iv p.ptrs,iv p.code,iv p.count,iv p.seg,bv p.dbl]⟩)]⟩ := by
  subst hW
  unfold k1_ptr_Encode
  simp
  refine sc_call (Decode_spec (encW_range p).1 (encW_range p).2) rfl ?_
  simp
  rw [pt_eq]
  exact frz_bare rfl
theorem u64_of_i64 {n : Int} (h0 : 0≤n) (h1 : n < 18446744073709551616) (k : Nat) (h2 : n * 2 ^ k < 18446744073709551616) (hk : k≤63) : IntKind.u64.wrap (IntKind.u64.wrap n * 2 ^ min k IntKind.u64.bits) = n * 2 ^ k := by
  have : (0 : Int) < 2 ^ k := Int.pow_pos (by decide)
  rw [show min k IntKind.u64.bits = k from by simp [IntKind.bits]; omega,u64_same h0 h1,u64_same (Int.mul_nonneg h0 (by omega)) h2]
theorem Encode_spec (p : Pt) : G.Spec Tryz.prog 132 [p.a] (.tup [uv (encW p),bv (encB p)]) := by
  refine spec_of t_ptr_Encode (by simp) fun w0 I0 => ?_
  unfold c_ptr_Encode
  simp
  refine ⟨fun h => ?_,fun h => ⟨fun h2 => ?_,fun h2 => ⟨fun h3 => ?_,fun h3 => ?_⟩⟩⟩
  · refine sc_call (near_spec _) rfl ?_
    simp
    refine sc_call_gt rfl (fun _ => within_spec p.data 65535) (fun e => by simp [e]) rfl ?_
    simp
    refine sc_call_gt rfl (fun _ => within_spec p.ptrs 65535) (fun e => by simp [e]) rfl ?_
    simp
    refine ⟨fun a1 a2 a3 a4 a5 a6 => ?_,fun hn => ?_⟩
    · refine sc_call (low_spec a1 a2 (by decide) (by decide)) rfl ?_
      try simp
      refine Encode_k1 ?_
      rw [u64_of_i64 a3 (by omega) 32 (by omega) (by decide),u64_of_i64 a5 (by omega) 48 (by omega) (by decide)]
      rw [show bits .or .u64 (p.off * 4 % 4294967296) (p.data * 2 ^ 32) = p.off * 4 % 4294967296 + p.data * 2 ^ 32 from u64_or' 32 (by omega) (by omega) (by omega) (by omega) (by omega) (by omega)]
      rw [show bits .or .u64 (p.off * 4 % 4294967296 + p.data * 2 ^ 32) (p.ptrs * 2 ^ 48) = p.off * 4 % 4294967296 + p.data * 2 ^ 32 + p.ptrs * 2 ^ 48 from u64_or' 48 (by omega) (by omega) (by omega) (by omega) (by omega) (by omega)]
      rw [encW,if_pos h,if_pos ⟨a1,a2,a3,a4,a5,a6⟩]
      rfl
    · refine Encode_k1 ?_
      rw [encW,if_pos h,if_neg (by omega)]
  · refine sc_call (near_spec _) rfl ?_
    simp
    refine sc_call_gt rfl (fun _ => within_spec p.code 7) (fun e => by simp [e]) rfl ?_
    simp
    refine sc_call_gt rfl (fun _ => within_spec p.count 536870911) (fun e => by simp [e]) rfl ?_
    simp
    refine ⟨fun a1 a2 a3 a4 a5 a6 => ?_,fun hn => ?_⟩
    · refine sc_call (low_spec a1 a2 (by decide) (by decide)) rfl ?_
      try simp
      refine Encode_k1 ?_
      rw [u64_of_i64 a3 (by omega) 32 (by omega) (by decide),u64_of_i64 a5 (by omega) 35 (by omega) (by decide)]
      rw [show bits .or .u64 (p.off * 4 % 4294967296 + 1) (p.code * 2 ^ 32) = p.off * 4 % 4294967296 + 1 + p.code * 2 ^ 32 from u64_or' 32 (by omega) (by omega) (by omega) (by omega) (by omega) (by omega)]
      rw [show bits .or .u64 (p.off * 4 % 4294967296 + 1 + p.code * 2 ^ 32) (p.count * 2 ^ 35) = p.off * 4 % 4294967296 + 1 + p.code * 2 ^ 32 + p.count * 2 ^ 35 from u64_or' 35 (by omega) (by omega) (by omega) (by omega) (by omega) (by omega)]
      rw [encW,if_neg h,if_pos h2,if_pos ⟨a1,a2,a3,a4,a5,a6⟩]
      rfl
    · refine Encode_k1 ?_
      rw [encW,if_neg h,if_pos h2,if_neg (by omega)]
  · refine sc_call (within_spec _ 536870911) rfl ?_
    simp
    refine sc_call_gt rfl (fun _ => within_spec p.seg 4294967295) (fun e => by simp [e]) rfl ?_
    simp
    refine ⟨fun a1 a2 a3 a4 => ?_,fun hn => ?_⟩
    · try simp
      rw [u64_of_i64 a1 (by omega) 3 (by omega) (by decide),u64_of_i64 a3 (by omega) 32 (by omega) (by decide)]
      rw [show bits .or .u64 (p.off * 2 ^ 3) 2 = p.off * 2 ^ 3 + 2 from u64_or 3 (by omega) (by omega) (by omega) (by omega) (by omega) (by omega)]
      rw [show bits .or .u64 (p.off * 2 ^ 3 + 2) (p.seg * 2 ^ 32) = p.off * 2 ^ 3 + 2 + p.seg * 2 ^ 32 from u64_or' 32 (by omega) (by omega) (by omega) (by omega) (by omega) (by omega)]
      rw [u64_or4 (by omega) (by omega) (by omega)]
      have e : encW p = p.off * 8 + 2 + p.seg * 4294967296 + (if p.dbl = true then 4 else 0) := by
        rw [encW,if_neg h,if_neg h2,if_pos h3,if_pos ⟨a1,a2,a3,a4⟩]
      cases hd : p.dbl with
      | true =>
        rw [hd] at e
        simp
        have := Encode_k1 (n := 97) (w0 := w0) (I0 := I0) (p := p) (W := p.off * 2 ^ 3 + 2 + p.seg * 2 ^ 32 + 4) (by rw [e]; rfl)
        rw [hd] at this
        exact this
      | false =>
        rw [hd] at e
        simp
        have := Encode_k1 (n := 97) (w0 := w0) (I0 := I0) (p := p) (W := p.off * 2 ^ 3 + 2 + p.seg * 2 ^ 32) (by rw [e]; simp)
        rw [hd] at this
        exact this
    · refine Encode_k1 ?_
      rw [encW,if_neg h,if_neg h2,if_pos h3,if_neg (by omega)]
  · refine Encode_k1 ?_
    rw [encW,if_neg h,if_neg h2,if_neg h3]
end Go.Proofs.YthfiijdbnkaabaaGreat

namespace Go.Proofs.YthfiijdbnkaabaaGreat
set_option linter.unusedVariables false
set_option linter.unusedSimpArgs false
set_option maxRecDepth 20000
open Go Go.G Go.Proofs
@[simp] theorem und_5 : Tryz.prog.underlying 5 = some (.int .u8) := by kernel_rfl
@[simp] theorem und_22 : Tryz.prog.underlying 22 = some (.slice 60) := by kernel_rfl
@[simp] theorem und_129 : Tryz.prog.underlying 129 = some (.array 8 5) := by kernel_rfl
@[simp] theorem und_133 : Tryz.prog.underlying 133 = some (.slice 5) := by kernel_rfl
@[simp] theorem und_170 : Tryz.prog.underlying 170 = some (.array 6 3) := by kernel_rfl
@[simp] theorem szT_5 : szT Tryz.prog 5 = some 1 := by kernel_rfl
@[simp] theorem szT_60 : szT Tryz.prog 60 = some 1 := by kernel_rfl
@[simp] theorem szT_129 : szT Tryz.prog 129 = some 8 := by kernel_rfl
@[simp] theorem szT_170 : szT Tryz.prog 170 = some 6 := by kernel_rfl
@[simp] theorem aggT_5 : aggT Tryz.prog 5 = some false := by kernel_rfl
@[simp] theorem aggT_60 : aggT Tryz.prog 60 = some false := by kernel_rfl
@[simp] theorem aggT_129 : aggT Tryz.prog 129 = some true := by kernel_rfl
@[simp] theorem zeroT_60 : zeroT Tryz.prog 60 = some (Value.int IntKind.u64 0) := by kernel_rfl
@[simp] theorem zeroT_129 : zeroT Tryz.prog 129 = some (Value.agg #[Value.int IntKind.u8 0,Value.int IntKind.u8 0,Value.int IntKind.u8 0,Value.int IntKind.u8 0,Value.int IntKind.u8 0,Value.int IntKind.u8 0,Value.int IntKind.u8 0,Value.int IntKind.u8 0]) := by kernel_rfl
@[simp] theorem zeroT_170 : zeroT Tryz.prog 170 = some (Value.agg #[Value.int IntKind.i64 0,Value.int IntKind.i64 0,Value.int IntKind.i64 0,Value.int IntKind.i64 0,Value.int IntKind.i64 0,Value.int IntKind.i64 0]) := by kernel_rfl
@[simp] theorem bytesT_60 : bytesT Tryz.prog 60 = some 8 := by kernel_rfl
@[simp] theorem buildA_129 (ps : List (Nat × A)) : buildA Tryz.prog 129 ps = (fillA (fun i => some (i * 1,1)) [A.v (Value.int IntKind.u8 0),A.v (Value.int IntKind.u8 0),A.v (Value.int IntKind.u8 0),A.v (Value.int IntKind.u8 0),A.v (Value.int IntKind.u8 0),A.v (Value.int IntKind.u8 0),A.v (Value.int IntKind.u8 0),A.v (Value.int IntKind.u8 0)] ps).map A.agg := by kernel_rfl
@[simp] theorem buildA_170 (ps : List (Nat × A)) : buildA Tryz.prog 170 ps = (fillA (fun i => some (i * 1,1)) [A.v (Value.int IntKind.i64 0),A.v (Value.int IntKind.i64 0),A.v (Value.int IntKind.i64 0),A.v (Value.int IntKind.i64 0),A.v (Value.int IntKind.i64 0),A.v (Value.int IntKind.i64 0)] ps).map A.agg := by kernel_rfl
def c_centoref01_Width : CC := sR [oO 2 (.assign (nI 0))] [0] (.seq (sR [mO 3 0] [3] (.block 0 (sR [oO 5 (.binOp .eql 3 (xT 3) (nI 0) 3),aO 4 5] [3,4] (cD 4 (sR [oO 2 (.assign (nI 0))] [2] (.ret)) (sR [oO 7 (.binOp .eql 3 (xT 3) (nI 1) 3),aO 6 7] [3,6] (cD 6 (sR [oO 2 (.assign (nI 1))] [2] (.ret)) (sR [oO 9 (.binOp .eql 3 (xT 3) (nI 2) 3),aO 8 9] [3,8] (cD 8 (sR [oO 2 (.assign (nI 8))] [2] (.ret)) (sR [oO 11 (.binOp .eql 3 (xT 3) (nI 3) 3),aO 10 11] [3,10] (cD 10 (sR [oO 2 (.assign (nI 16))] [2] (.ret)) (sR [oO 13 (.binOp .eql 3 (xT 3) (nI 4) 3),aO 12 13] [3,12] (cD 12 (sR [oO 2 (.assign (nI 32))] [2] (.ret)) (sR [oO 15 (.binOp .eql 3 (xT 3) (nI 5) 3),aO 14 15] [14] (cD 14 (sR [oO 2 (.assign (nI 64))] [2] (.ret)) (.skip))))))))))))))) (.keep [] (sR [oO 2 (.assign (.const (.int .i64 (-1))))] [2] (.ret))))
theorem t_centoref01_Width : Txt Tryz.prog 75 16 [(.tmp 2)] c_centoref01_Width := txt_of (code := Tryz.f75.body.getD .ret) mixed (by kernel_rfl) Tryz.func75 (by kernel_rfl) Tryz.ntmps75 (by kernel_rfl) (ls := lsOf c_centoref01_Width) (by kernel_rfl)
def l1_centoref01_Fits : CC := .seq (sR [mO 11 6,mO 12 5,oO 13 (bO .lss 3 11 12 3)] [1,5,6,13] (cD 13 (.skip) (.exit 0))) (.keep [1,5,6] (.seq (.block 1 (.reg [mO 16 1,oO 17 (.binOp .quo 60 (xT 16) (.const (.int .u64 2)) 60),aO 1 17] [1,5,6])) (.reg [mO 14 6,oO 15 (.binOp .add 3 (xT 14) (nI 1) 3),aO 6 15] [1,5,6]))) 
def c_centoref01_Fits : CC := sR [oO 4 (.assign (nB false))] [0,1] (sR [mO 7 0,oO 8 (cL 75 #[(xT 7)] #[3]),aO 5 8] [1,5] (.seq (sR [mO 9 5,oO 10 (.binOp .lss 3 (xT 9) (nI 0) 3)] [1,5,10] (cD 10 (sR [oO 4 (.assign (nB false))] [4] (.ret)) (.skip))) (.keep [1,5] (.seq (sR [oO 6 (.assign (nI 0))] [1,5,6] (.block 0 (.loop l1_centoref01_Fits))) (.keep [1] (sR [mO 18 1,oO 19 (.binOp .eql 60 (xT 18) (.const (.int .u64 0)) 60),aO 4 19] [4] (.ret)))))))
theorem t_centoref01_Fits : Txt Tryz.prog 42 20 [(.tmp 4)] c_centoref01_Fits := txt_of (code := Tryz.f42.body.getD .ret) mixed (by kernel_rfl) Tryz.func42 (by kernel_rfl) Tryz.ntmps42 (by kernel_rfl) (ls := lsOf c_centoref01_Fits) (by kernel_rfl)
def c_centoref01_Room : CC := sR [oO 4 (.assign (nI 0))] [0,1] (.seq (sR [mO 6 0,oO 7 (cL 75 #[(xT 6)] #[3]),oO 8 (.binOp .lss 3 (xT 7) (nI 1) 3),mO 9 8,oG 10 (mV 1) 9 false,oG 11 (.binOp .lss 3 (xT 10) (nI 0) 3) 9 false,oO 12 (.pick (xT 9) (nB true) (xT 11)),mO 13 12,oG 14 (mV 1) 13 false,oG 15 (.binOp .gtr 3 (xT 14) (nI 1099511627776) 3) 13 false,oO 16 (.pick (xT 13) (nB true) (xT 15))] [0,1,16] (cD 16 (sR [oO 4 (.assign (nI 0))] [4] (.ret)) (.skip))) (.keep [0,1] (sR [mO 17 0,oO 18 (cL 75 #[(xT 17)] #[3]),oO 19 (.binOp .quo 3 (nI 64) (xT 18) 3),aO 5 19] [1,5] (.seq (sR [mO 20 1,mO 21 5,oO 22 (bO .rem 3 20 21 3),oO 23 (.binOp .gtr 3 (xT 22) (nI 0) 3)] [1,5,23] (cD 23 (sR [mO 24 1,mO 25 5,oO 26 (bO .quo 3 24 25 3),oO 27 (.binOp .add 3 (xT 26) (nI 1) 3),aO 4 27] [4] (.ret)) (.skip))) (.keep [1,5] (sR [mO 28 1,mO 29 5,oO 30 (bO .quo 3 28 29 3),aO 4 30] [4] (.ret)))))))
theorem t_centoref01_Room : Txt Tryz.prog 111 31 [(.tmp 4)] c_centoref01_Room := txt_of (code := Tryz.f111.body.getD .ret) mixed (by kernel_rfl) Tryz.func111 (by kernel_rfl) Tryz.ntmps111 (by kernel_rfl) (ls := lsOf c_centoref01_Room) (by kernel_rfl)
def l1_centoref01_Same : CC := .seq (sR [mO 11 5,mO 12 0,oO 13 (bL 12 22),oO 14 (bO .lss 3 11 13 3)] [0,1,5,14] (cD 14 (.skip) (.exit 0))) (.keep [0,1,5] (.seq (.block 1 (sR [mO 17 0,mO 18 5,oO 19 (iA 22 17 18),lO 20 60 19,mO 21 1,mO 22 5,oO 23 (iA 22 21 22),lO 24 60 23,oO 25 (bO .neq 60 20 24 60)] [0,1,5,25] (cD 25 (sR [oO 4 (.assign (nB false))] [4] (.ret)) (.skip)))) (.keep [0,1,5] (.reg [mO 15 5,oO 16 (.binOp .add 3 (xT 15) (nI 1) 3),aO 5 16] [0,1,5])))) 
def c_centoref01_Same : CC := sR [oO 4 (.assign (nB false))] [0,1] (.seq (sR [mO 6 0,oO 7 (bL 6 22),mO 8 1,oO 9 (bL 8 22),oO 10 (bO .neq 3 7 9 3)] [0,1,10] (cD 10 (sR [oO 4 (.assign (nB false))] [4] (.ret)) (.skip))) (.keep [0,1] (.seq (sR [oO 5 (.assign (nI 0))] [0,1,5] (.block 0 (.loop l1_centoref01_Same))) (.keep [] (sR [oO 4 (.assign (nB true))] [4] (.ret))))))
theorem t_centoref01_Same : Txt Tryz.prog 26 26 [(.tmp 4)] c_centoref01_Same := txt_of (code := Tryz.f26.body.getD .ret) mixed (by kernel_rfl) Tryz.func26 (by kernel_rfl) Tryz.ntmps26 (by kernel_rfl) (ls := lsOf c_centoref01_Same) (by kernel_rfl)
def l1_centoref01_Bytes : CC := .seq (sR [mO 6 4,oO 7 (.binOp .lss 3 (xT 6) (nI 8) 3)] [0,2,3,4,7] (cD 7 (.skip) (.exit 0))) (.keep [0,2,3,4] (.seq (.block 1 (sR [mO 10 4,mO 11 0,oO 12 (.binOp .rem 60 (xT 11) (.const (.int .u64 256)) 60),oO 13 (.convert 60 5 (xT 12)),oO 14 (iA 129 3 10),oS (.store 5 (xT 14) (xT 13))] [0,2,3,4] (.reg [mO 15 0,oO 16 (.binOp .quo 60 (xT 15) (.const (.int .u64 256)) 60),aO 0 16] [0,2,3,4]))) (.reg [mO 8 4,oO 9 (.binOp .add 3 (xT 8) (nI 1) 3),aO 4 9] [0,2,3,4]))) 
def c_centoref01_Bytes : CC := sR [oN 2 (.alloc 129) [0]] [0,2] (sR [oO 5 (.build 129 #[]),oN 3 (.alloc 129) [1],oS (.store 129 (xT 3) (xT 5))] [0,2,3] (.seq (sR [oO 4 (.assign (nI 0))] [0,2,3,4] (.block 0 (.loop l1_centoref01_Bytes))) (.keep [2,3] (sR [lO 17 129 3,oS (.store 129 (xT 2) (xT 17))] [2] (.ret)))))
theorem t_centoref01_Bytes : Txt Tryz.prog 108 18 [(.cell 2 129)] c_centoref01_Bytes := txt_of (code := Tryz.f108.body.getD .ret) mixed (by kernel_rfl) Tryz.func108 (by kernel_rfl) Tryz.ntmps108 (by kernel_rfl) (ls := lsOf c_centoref01_Bytes) (by kernel_rfl)
def l1_centoref01_Named : CC := .seq (sR [mO 6 5,mO 7 1,oO 8 (bO .lss 3 6 7 3)] [0,1,5,8] (cD 8 (.skip) (.exit 0))) (.keep [0,1,5] (.seq (.block 1 (.reg [mO 11 0,oO 12 (.binOp .quo 5 (xT 11) (.const (.int .u8 2)) 5),aO 0 12] [0,1,5])) (.reg [mO 9 5,oO 10 (.binOp .add 3 (xT 9) (nI 1) 3),aO 5 10] [0,1,5]))) 
def c_centoref01_Named : CC := sR [oO 4 (.assign (nB false))] [0,1] (.seq (sR [oO 5 (.assign (nI 0))] [0,1,5] (.block 0 (.loop l1_centoref01_Named))) (.keep [0] (sR [mO 13 0,oO 14 (.binOp .rem 5 (xT 13) (.const (.int .u8 2)) 5),oO 15 (.binOp .eql 5 (xT 14) (.const (.int .u8 1)) 5),aO 4 15] [4] (.ret))))
theorem t_centoref01_Named : Txt Tryz.prog 109 16 [(.tmp 4)] c_centoref01_Named := txt_of (code := Tryz.f109.body.getD .ret) mixed (by kernel_rfl) Tryz.func109 (by kernel_rfl) Tryz.ntmps109 (by kernel_rfl) (ls := lsOf c_centoref01_Named) (by kernel_rfl)
def l1_centoref01_Of : CC := .seq (sR [mO 7 6,oO 8 (.binOp .geq 3 (xT 7) (nI 0) 3)] [0,1,5,6,8] (cD 8 (.skip) (.exit 0))) (.keep [0,1,5,6] (.seq (.block 1 (.reg [mO 11 5,oO 12 (.binOp .mul 60 (xT 11) (.const (.int .u64 256)) 60),mO 13 0,mO 14 1,mO 15 6,oO 16 (bO .add 3 14 15 3),oO 17 (iA 133 13 16),lO 18 5 17,oO 19 (.convert 5 60 (xT 18)),oO 20 (bO .add 60 12 19 60),aO 5 20] [0,1,5,6])) (.reg [mO 9 6,oO 10 (.binOp .sub 3 (xT 9) (nI 1) 3),aO 6 10] [0,1,5,6]))) 
def c_centoref01_Of : CC := sR [oO 4 (.assign (.const (.int .u64 0)))] [0,1] (sR [oO 5 (.assign (.const (.int .u64 0)))] [0,1,5] (.seq (sR [oO 6 (.assign (nI 7))] [0,1,5,6] (.block 0 (.loop l1_centoref01_Of))) (.keep [5] (sR [mO 21 5,aO 4 21] [4] (.ret)))))
theorem t_centoref01_Of : Txt Tryz.prog 110 22 [(.tmp 4)] c_centoref01_Of := txt_of (code := Tryz.f110.body.getD .ret) mixed (by kernel_rfl) Tryz.func110 (by kernel_rfl) Tryz.ntmps110 (by kernel_rfl) (ls := lsOf c_centoref01_Of) (by kernel_rfl)
def l1_centoref01_Mix : CC := .seq (sR [mO 14 9,oO 15 (.binOp .lss 3 (xT 14) (nI 8) 3)] [2,7,8,9,15] (cD 15 (.skip) (.exit 0))) (.keep [2,7,8,9] (.seq (.block 1 (sR [mO 18 2,mO 19 9,oO 20 (cL 109 #[(xT 18),(xT 19)] #[5,3])] [2,7,8,9,20] (cD 20 (.reg [mO 21 9,mO 22 9,oO 23 (iA 129 8 22),lO 24 5 23,oO 25 (iA 129 7 21),oS (.store 5 (xT 25) (xT 24))] [2,7,8,9]) (.skip)))) (.keep [2,7,8,9] (.reg [mO 16 9,oO 17 (.binOp .add 3 (xT 16) (nI 1) 3),aO 9 17] [2,7,8,9])))) 
def c_centoref01_Mix : CC := sR [oO 6 (.assign (.const (.int .u64 0)))] [0,1,2] (sR [mO 10 0,oO 11 (cL 108 #[(xT 10)] #[60]),mO 12 1,oO 13 (cL 108 #[(xT 12)] #[60]),oN 7 (.alloc 129) [0],oN 8 (.alloc 129) [1],oS (.store 129 (xT 7) (xT 11)),oS (.store 129 (xT 8) (xT 13))] [2,7,8] (.seq (sR [oO 9 (.assign (nI 0))] [2,7,8,9] (.block 0 (.loop l1_centoref01_Mix))) (.keep [7] (.stop (sR [oO 26 (.slice 129 (xT 7) none none none),oO 27 (cL 110 #[(xT 26),(nI 0)] #[133,3]),aO 6 27] [6] (.ret))))))
theorem t_centoref01_Mix : Txt Tryz.prog 78 28 [(.tmp 6)] c_centoref01_Mix := txt_of (code := Tryz.f78.body.getD .ret) mixed (by kernel_rfl) Tryz.func78 (by kernel_rfl) Tryz.ntmps78 (by kernel_rfl) (ls := lsOf c_centoref01_Mix) (by kernel_rfl)
def l1_centoref01_Bit : CC := .seq (sR [mO 21 6,mO 22 1,oO 23 (.binOp .rem 3 (xT 22) (nI 64) 3),oO 24 (bO .lss 3 21 23 3)] [1,5,6,24] (cD 24 (.skip) (.exit 0))) (.keep [1,5,6] (.seq (.block 1 (.reg [mO 27 5,oO 28 (.binOp .quo 60 (xT 27) (.const (.int .u64 2)) 60),aO 5 28] [1,5,6])) (.reg [mO 25 6,oO 26 (.binOp .add 3 (xT 25) (nI 1) 3),aO 6 26] [1,5,6]))) 
def c_centoref01_Bit : CC := sR [oO 4 (.assign (.const (.int .u64 0)))] [0,1] (.seq (sR [mO 7 1,oO 8 (.binOp .lss 3 (xT 7) (nI 0) 3),mO 9 8,oG 10 (mV 1) 9 false,oG 11 (.binOp .quo 3 (xT 10) (nI 64) 3) 9 false,oG 12 (mV 0) 9 false,oG 13 (bL 12 22) 9 false,oG 14 (bO .geq 3 11 13 3) 9 false,oO 15 (.pick (xT 9) (nB true) (xT 14))] [0,1,15] (cD 15 (sR [oO 4 (.assign (.const (.int .u64 0)))] [4] (.ret)) (.skip))) (.keep [0,1] (sR [mO 16 0,mO 17 1,oO 18 (.binOp .quo 3 (xT 17) (nI 64) 3),oO 19 (iA 22 16 18),lO 20 60 19,aO 5 20] [1,5] (.seq (sR [oO 6 (.assign (nI 0))] [1,5,6] (.block 0 (.loop l1_centoref01_Bit))) (.keep [5] (sR [mO 29 5,oO 30 (.binOp .rem 60 (xT 29) (.const (.int .u64 2)) 60),aO 4 30] [4] (.ret)))))))
theorem t_centoref01_Bit : Txt Tryz.prog 160 31 [(.tmp 4)] c_centoref01_Bit := txt_of (code := Tryz.f160.body.getD .ret) mixed (by kernel_rfl) Tryz.func160 (by kernel_rfl) Tryz.ntmps160 (by kernel_rfl) (ls := lsOf c_centoref01_Bit) (by kernel_rfl)
def l1_centoref01_Get : CC := .seq (sR [mO 24 9,oO 25 (.binOp .geq 3 (xT 24) (nI 0) 3)] [0,2,7,8,9,25] (cD 25 (.skip) (.exit 0))) (.keep [0,2,7,8,9] (.seq (.block 1 (.reg [mO 28 8,oO 29 (.binOp .mul 60 (xT 28) (.const (.int .u64 2)) 60),mO 30 0,mO 31 2,mO 32 7,oO 33 (bO .mul 3 31 32 3),mO 34 9,oO 35 (bO .add 3 33 34 3),oO 36 (cL 160 #[(xT 30),(xT 35)] #[22,3]),oO 37 (bO .add 60 29 36 60),aO 8 37] [0,2,7,8,9])) (.reg [mO 26 9,oO 27 (.binOp .sub 3 (xT 26) (nI 1) 3),aO 9 27] [0,2,7,8,9]))) 
def c_centoref01_Get : CC := sR [oO 6 (.assign (.const (.int .u64 0)))] [0,1,2] (sR [mO 10 1,oO 11 (cL 75 #[(xT 10)] #[3]),aO 7 11] [0,2,7] (.seq (sR [mO 12 7,oO 13 (.binOp .lss 3 (xT 12) (nI 1) 3),mO 14 13,oG 15 (mV 2) 14 false,oG 16 (.binOp .lss 3 (xT 15) (nI 0) 3) 14 false,oO 17 (.pick (xT 14) (nB true) (xT 16)),mO 18 17,oG 19 (mV 2) 18 false,oG 20 (.binOp .gtr 3 (xT 19) (nI 1099511627776) 3) 18 false,oO 21 (.pick (xT 18) (nB true) (xT 20))] [0,2,7,21] (cD 21 (sR [oO 6 (.assign (.const (.int .u64 0)))] [6] (.ret)) (.skip))) (.keep [0,2,7] (sR [oO 8 (.assign (.const (.int .u64 0)))] [0,2,7,8] (.seq (sR [mO 22 7,oO 23 (.binOp .sub 3 (xT 22) (nI 1) 3),aO 9 23] [0,2,7,8,9] (.block 0 (.loop l1_centoref01_Get))) (.keep [8] (sR [mO 38 8,aO 6 38] [6] (.ret))))))))
theorem t_centoref01_Get : Txt Tryz.prog 144 39 [(.tmp 6)] c_centoref01_Get := txt_of (code := Tryz.f144.body.getD .ret) mixed (by kernel_rfl) Tryz.func144 (by kernel_rfl) Tryz.ntmps144 (by kernel_rfl) (ls := lsOf c_centoref01_Get) (by kernel_rfl)
def c_word_width : CC := sR [oO 2 (.assign (nI 0)),oO 3 (.assign (nB false))] [0] (sR [oO 5 (.build 170 #[(0,(nI 0)),(1,(nI 1)),(2,(nI 8)),(3,(nI 16)),(4,(nI 32)),(5,(nI 64))]),oN 4 (.alloc 170) [0],oS (.store 170 (xT 4) (xT 5))] [0,4] (.seq (sR [mO 6 0,oO 7 (.binOp .lss 3 (xT 6) (nI 0) 3),mO 8 7,oG 9 (mV 0) 8 false,oG 10 (.binOp .geq 3 (xT 9) (nI 6) 3) 8 false,oO 11 (.pick (xT 8) (nB true) (xT 10))] [0,4,11] (cD 11 (sR [oO 2 (.assign (nI 0)),oO 3 (.assign (nB false))] [2,3] (.ret)) (.skip))) (.keep [0,4] (sR [mO 12 0,oO 13 (iA 170 4 12),lO 14 3 13,aO 2 14,oO 3 (.assign (nB true))] [2,3] (.ret)))))
theorem t_word_width : Txt Tryz.prog 133 15 [(.tmp 2),(.tmp 3)] c_word_width := txt_of (code := Tryz.f133.body.getD .ret) mixed (by kernel_rfl) Tryz.func133 (by kernel_rfl) Tryz.ntmps133 (by kernel_rfl) (ls := lsOf c_word_width) (by kernel_rfl)
def c_word_Width : CC := sR [oO 2 (.assign (nI 0)),oO 3 (.assign (nB false))] [0] (sR [mO 4 0,oO 5 (cL 133 #[(xT 4)] #[3]),xO 6 5 0,xO 7 5 1,aO 2 6,aO 3 7] [2,3] (.ret))
theorem t_word_Width : Txt Tryz.prog 165 8 [(.tmp 2),(.tmp 3)] c_word_Width := txt_of (code := Tryz.f165.body.getD .ret) mixed (by kernel_rfl) Tryz.func165 (by kernel_rfl) Tryz.ntmps165 (by kernel_rfl) (ls := lsOf c_word_Width) (by kernel_rfl)
def c_word_Room : CC := sR [oO 4 (.assign (nI 0))] [0,1] (sR [mO 8 0,oO 9 (cL 133 #[(xT 8)] #[3]),mO 7 9,xO 10 7 0,xO 11 7 1,aO 5 10,aO 6 11] [1,5,6] (.seq (sR [mO 12 6,oO 13 (.unOp .not 4 (xT 12)),mO 14 13,oG 15 (mV 1) 14 false,oG 16 (.binOp .lss 3 (xT 15) (nI 0) 3) 14 false,oO 17 (.pick (xT 14) (nB true) (xT 16)),mO 18 17,oG 19 (mV 1) 18 false,oG 20 (.binOp .gtr 3 (xT 19) (nI 1099511627776) 3) 18 false,oO 21 (.pick (xT 18) (nB true) (xT 20))] [1,5,21] (cD 21 (sR [oO 4 (.assign (nI 0))] [4] (.ret)) (.skip))) (.keep [1,5] (sR [mO 22 1,mO 23 5,oO 24 (bO .mul 3 22 23 3),oO 25 (.binOp .add 3 (xT 24) (nI 63) 3),oO 26 (.binOp .quo 3 (xT 25) (nI 64) 3),aO 4 26] [4] (.ret)))))
theorem t_word_Room : Txt Tryz.prog 130 27 [(.tmp 4)] c_word_Room := txt_of (code := Tryz.f130.body.getD .ret) mixed (by kernel_rfl) Tryz.func130 (by kernel_rfl) Tryz.ntmps130 (by kernel_rfl) (ls := lsOf c_word_Room) (by kernel_rfl)
def c_word_Get : CC := sR [oO 6 (.assign (.const (.int .u64 0)))] [0,1,2] (sR [mO 11 1,oO 12 (cL 133 #[(xT 11)] #[3]),mO 10 12,xO 13 10 0,xO 14 10 1,aO 7 13,aO 8 14] [0,2,7,8] (.seq (sR [mO 15 8,oO 16 (.unOp .not 4 (xT 15)),mO 17 16,oG 18 (mV 7) 17 false,oG 19 (.binOp .eql 3 (xT 18) (nI 0) 3) 17 false,oO 20 (.pick (xT 17) (nB true) (xT 19)),mO 21 20,oG 22 (mV 2) 21 false,oG 23 (.binOp .lss 3 (xT 22) (nI 0) 3) 21 false,oO 24 (.pick (xT 21) (nB true) (xT 23)),mO 25 24,oG 26 (mV 2) 25 false,oG 27 (.binOp .gtr 3 (xT 26) (nI 1099511627776) 3) 25 false,oO 28 (.pick (xT 25) (nB true) (xT 27)),mO 29 28,oG 30 (mV 2) 29 false,oG 31 (mV 7) 29 false,oG 32 (bO .mul 3 30 31 3) 29 false,oG 33 (.binOp .quo 3 (xT 32) (nI 64) 3) 29 false,oG 34 (mV 0) 29 false,oG 35 (bL 34 22) 29 false,oG 36 (bO .geq 3 33 35 3) 29 false,oO 37 (.pick (xT 29) (nB true) (xT 36))] [0,2,7,37] (cD 37 (sR [oO 6 (.assign (.const (.int .u64 0)))] [6] (.ret)) (.skip))) (.keep [0,2,7] (sR [mO 38 0,mO 39 2,mO 40 7,oO 41 (bO .mul 3 39 40 3),oO 42 (.binOp .quo 3 (xT 41) (nI 64) 3),oO 43 (iA 22 38 42),lO 44 60 43,mO 45 2,mO 46 7,oO 47 (bO .mul 3 45 46 3),oO 48 (.binOp .rem 3 (xT 47) (nI 64) 3),oO 49 (bO .shr 60 44 48 3),aO 9 49] [7,9] (.seq (sR [mO 50 7,oO 51 (.binOp .eql 3 (xT 50) (nI 64) 3)] [7,9,51] (cD 51 (sR [mO 52 9,aO 6 52] [6] (.ret)) (.skip))) (.keep [7,9] (sR [mO 53 9,mO 54 7,oO 55 (.binOp .shl 60 (.const (.int .u64 1)) (xT 54) 3),oO 56 (.binOp .sub 60 (xT 55) (.const (.int .u64 1)) 60),oO 57 (bO .and 60 53 56 60),aO 6 57] [6] (.ret))))))))
theorem t_word_Get : Txt Tryz.prog 166 58 [(.tmp 6)] c_word_Get := txt_of (code := Tryz.f166.body.getD .ret) mixed (by kernel_rfl) Tryz.func166 (by kernel_rfl) Tryz.ntmps166 (by kernel_rfl) (ls := lsOf c_word_Get) (by kernel_rfl)
def c_tree_Data : CC := sR [oO 2 (.assign (nB false))] [0] (sR [mO 3 0,oO 4 (.binOp .geq 3 (xT 3) (nI 2) 3),mO 5 4,oG 6 (mV 0) 5 true,oG 7 (.binOp .leq 3 (xT 6) (nI 7) 3) 5 true,oO 8 (.pick (xT 5) (xT 7) (nB false)),aO 2 8] [2] (.ret))
theorem t_tree_Data : Txt Tryz.prog 105 9 [(.tmp 2)] c_tree_Data := txt_of (code := Tryz.f105.body.getD .ret) mixed (by kernel_rfl) Tryz.func105 (by kernel_rfl) Tryz.ntmps105 (by kernel_rfl) (ls := lsOf c_tree_Data) (by kernel_rfl)
def l1_centoref07_Trim : CC := .seq (sR [mO 7 3,oO 8 (.binOp .gtr 3 (xT 7) (nI 0) 3),mO 9 8,oG 10 (mV 0) 9 true,oG 11 (mV 3) 9 true,oG 12 (.binOp .sub 3 (xT 11) (nI 1) 3) 9 true,oG 13 (iA 22 10 12) 9 true,oG 14 (lD 60 13) 9 true,oG 15 (.binOp .eql 60 (xT 14) (.const (.int .u64 0)) 60) 9 true,oO 16 (.pick (xT 9) (xT 15) (nB false))] [0,3,16] (cD 16 (.skip) (.exit 0))) (.keep [0,3] (.block 1 (.reg [mO 17 3,oO 18 (.binOp .sub 3 (xT 17) (nI 1) 3),aO 3 18] [0,3]))) 
def c_centoref07_Trim : CC := sR [oO 2 (.assign nS)] [0] (sR [mO 5 0,oO 6 (bL 5 22),aO 3 6] [0,3] (.seq (.block 0 (.loop l1_centoref07_Trim)) (.keep [0,3] (sR [oO 4 (.assign nS)] [0,3,4] (sR [mO 19 4,mO 20 0,mO 21 3,oO 22 (.slice 22 (xT 20) none (some (xT 21)) none),oN 23 (bC .append #[(xT 19),(xT 22)] #[22,22]) [0],aO 2 23] [2] (.ret))))))
theorem t_centoref07_Trim : Txt Tryz.prog 86 24 [(.tmp 2)] c_centoref07_Trim := txt_of (code := Tryz.f86.body.getD .ret) mixed (by kernel_rfl) Tryz.func86 (by kernel_rfl) Tryz.ntmps86 (by kernel_rfl) (ls := lsOf c_centoref07_Trim) (by kernel_rfl)
end Go.Proofs.YthfiijdbnkaabaaGreat

namespace Go.Proofs.YthfiijdbnkaabaaGreat
set_option linter.unusedVariables false
set_option linter.unusedSimpArgs false
set_option maxRecDepth 20000
open Go Go.G Go.Proofs
@[simp] theorem und_54 : Tryz.prog.underlying 54 = some (.pointer 101) := by kernel_rfl
@[simp] theorem und_56 : Tryz.prog.underlying 56 = some (.slice 22) := by kernel_rfl
@[simp] theorem und_180 : Tryz.prog.underlying 180 = some (.array 7 3) := by kernel_rfl
@[simp] theorem szT_22 : szT Tryz.prog 22 = some 1 := by kernel_rfl
@[simp] theorem szT_56 : szT Tryz.prog 56 = some 1 := by kernel_rfl
@[simp] theorem szT_141 : szT Tryz.prog 141 = some 10 := by kernel_rfl
@[simp] theorem szT_153 : szT Tryz.prog 153 = some 10 := by kernel_rfl
@[simp] theorem szT_180 : szT Tryz.prog 180 = some 7 := by kernel_rfl
@[simp] theorem aggT_22 : aggT Tryz.prog 22 = some false := by kernel_rfl
@[simp] theorem aggT_56 : aggT Tryz.prog 56 = some false := by kernel_rfl
@[simp] theorem aggT_141 : aggT Tryz.prog 141 = some true := by kernel_rfl
@[simp] theorem aggT_153 : aggT Tryz.prog 153 = some true := by kernel_rfl
@[simp] theorem zeroT_22 : zeroT Tryz.prog 22 = some (Value.slice none 0 0) := by kernel_rfl
@[simp] theorem zeroT_141 : zeroT Tryz.prog 141 = some (Value.agg #[Value.int IntKind.i64 0,Value.int IntKind.i64 0,Value.int IntKind.i64 0,Value.int IntKind.i64 0,Value.int IntKind.i64 0,Value.int IntKind.i64 0,Value.int IntKind.i64 0,Value.bool false,Value.int IntKind.i64 0,Value.int IntKind.i64 0]) := by kernel_rfl
@[simp] theorem zeroT_153 : zeroT Tryz.prog 153 = some (Value.agg #[Value.int IntKind.i64 0,Value.int IntKind.i64 0,Value.int IntKind.i64 0,Value.int IntKind.i64 0,Value.int IntKind.i64 0,Value.int IntKind.i64 0,Value.int IntKind.i64 0,Value.bool false,Value.int IntKind.i64 0,Value.int IntKind.i64 0]) := by kernel_rfl
@[simp] theorem zeroT_180 : zeroT Tryz.prog 180 = some (Value.agg #[Value.int IntKind.i64 0,Value.int IntKind.i64 0,Value.int IntKind.i64 0,Value.int IntKind.i64 0,Value.int IntKind.i64 0,Value.int IntKind.i64 0,Value.int IntKind.i64 0]) := by kernel_rfl
@[simp] theorem bytesT_22 : bytesT Tryz.prog 22 = some 24 := by kernel_rfl
@[simp] theorem fieldOffT_101_0 : fieldOffT Tryz.prog 101 0 = some 0 := by kernel_rfl
@[simp] theorem fieldOffT_139_0 : fieldOffT Tryz.prog 139 0 = some 0 := by kernel_rfl
@[simp] theorem fieldOffT_139_1 : fieldOffT Tryz.prog 139 1 = some 1 := by kernel_rfl
@[simp] theorem fieldOffT_139_2 : fieldOffT Tryz.prog 139 2 = some 2 := by kernel_rfl
@[simp] theorem fieldOffT_139_3 : fieldOffT Tryz.prog 139 3 = some 3 := by kernel_rfl
@[simp] theorem fieldOffT_139_4 : fieldOffT Tryz.prog 139 4 = some 4 := by kernel_rfl
@[simp] theorem fieldOffT_139_5 : fieldOffT Tryz.prog 139 5 = some 5 := by kernel_rfl
@[simp] theorem fieldOffT_139_6 : fieldOffT Tryz.prog 139 6 = some 6 := by kernel_rfl
@[simp] theorem fieldOffT_139_7 : fieldOffT Tryz.prog 139 7 = some 7 := by kernel_rfl
@[simp] theorem fieldOffT_141_0 : fieldOffT Tryz.prog 141 0 = some 0 := by kernel_rfl
@[simp] theorem fieldOffT_141_1 : fieldOffT Tryz.prog 141 1 = some 8 := by kernel_rfl
@[simp] theorem fieldOffT_141_2 : fieldOffT Tryz.prog 141 2 = some 9 := by kernel_rfl
@[simp] theorem fieldOffT_153_0 : fieldOffT Tryz.prog 153 0 = some 0 := by kernel_rfl
@[simp] theorem fieldOffT_153_1 : fieldOffT Tryz.prog 153 1 = some 8 := by kernel_rfl
@[simp] theorem fieldOffT_153_2 : fieldOffT Tryz.prog 153 2 = some 9 := by kernel_rfl
@[simp] theorem buildA_101 (ps : List (Nat × A)) : buildA Tryz.prog 101 ps = (fillA (fun i => ([(0,1),(1,1),(2,1),(3,1)] : List (Nat × Nat))[i]?) [A.sl true [],A.v (Value.int IntKind.i64 0),A.v (Value.int IntKind.i64 0),A.v (Value.int IntKind.i64 0)] ps).map A.agg := by kernel_rfl
@[simp] theorem buildA_141 (ps : List (Nat × A)) : buildA Tryz.prog 141 ps = (fillA (fun i => ([(0,8),(8,1),(9,1)] : List (Nat × Nat))[i]?) [A.v (Value.int IntKind.i64 0),A.v (Value.int IntKind.i64 0),A.v (Value.int IntKind.i64 0),A.v (Value.int IntKind.i64 0),A.v (Value.int IntKind.i64 0),A.v (Value.int IntKind.i64 0),A.v (Value.int IntKind.i64 0),A.v (Value.bool false),A.v (Value.int IntKind.i64 0),A.v (Value.int IntKind.i64 0)] ps).map A.agg := by kernel_rfl
@[simp] theorem buildA_153 (ps : List (Nat × A)) : buildA Tryz.prog 153 ps = (fillA (fun i => ([(0,8),(8,1),(9,1)] : List (Nat × Nat))[i]?) [A.v (Value.int IntKind.i64 0),A.v (Value.int IntKind.i64 0),A.v (Value.int IntKind.i64 0),A.v (Value.int IntKind.i64 0),A.v (Value.int IntKind.i64 0),A.v (Value.int IntKind.i64 0),A.v (Value.int IntKind.i64 0),A.v (Value.bool false),A.v (Value.int IntKind.i64 0),A.v (Value.int IntKind.i64 0)] ps).map A.agg := by kernel_rfl
@[simp] theorem buildA_180 (ps : List (Nat × A)) : buildA Tryz.prog 180 ps = (fillA (fun i => some (i * 1,1)) [A.v (Value.int IntKind.i64 0),A.v (Value.int IntKind.i64 0),A.v (Value.int IntKind.i64 0),A.v (Value.int IntKind.i64 0),A.v (Value.int IntKind.i64 0),A.v (Value.int IntKind.i64 0),A.v (Value.int IntKind.i64 0)] ps).map A.agg := by kernel_rfl
def c_slices_Clone_uint64_uint64 : CC := sR [oO 2 (.assign nS)] [0] (.seq (sR [mO 3 0,oO 4 (.binOp .eql 22 (xT 3) nS 22)] [0,4] (cD 4 (sR [oO 2 (.assign nS)] [2] (.ret)) (.skip))) (.keep [0] (sR [oO 5 (.buildSlice 22 0 #[]),mO 6 0,oN 7 (bC .append #[(xT 5),(xT 6)] #[22,22]) [0],aO 2 7] [2] (.ret))))
theorem t_slices_Clone_uint64_uint64 : Txt Tryz.prog 66 8 [(.tmp 2)] c_slices_Clone_uint64_uint64 := txt_of (code := Tryz.f66.body.getD .ret) mixed (by kernel_rfl) Tryz.func66 (by kernel_rfl) Tryz.ntmps66 (by kernel_rfl) (ls := lsOf c_slices_Clone_uint64_uint64) (by kernel_rfl)
def l1_arena_Of : CC := sR [oO 11 (bO .lss 3 10 9 3)] [3,8,9,10,11] (.seq (cD 11 (.skip) (.exit 0)) (.keep [3,8,9,10] (.seq (.block 1 (sR [oO 12 (iA 56 8 10),lO 13 22 12,aO 5 13] [3,5,8,9,10] (.reg [mO 14 3,mO 15 3,oO 16 (.nilCheck (xT 15)),fO 17 101 16 0,⟨some 18,(lD 56 17),none,[],4,[],true⟩,mO 19 5,⟨some 20,(cL 66 #[(xT 19)] #[22]),none,[],6,[4],false⟩,⟨some 21,(.buildSlice 56 1 #[(0,(xT 20))]),none,[],7,[4],false⟩,oN 22 (bC .append #[(xT 18),(xT 21)] #[56,56]) [1],oO 23 (.nilCheck (xT 14)),fO 24 101 23 0,oS (.store 56 (xT 24) (xT 22))] [3,8,9,10]))) (.reg [oO 25 (.binOp .add 3 (xT 10) (nI 1) 3),mO 10 25] [3,8,9,10])))) 
def c_arena_Of : CC := sR [oO 2 (.assign (.const (.pointer none)))] [0] (sR [oO 6 (.build 101 #[]),oN 7 (.box 101 (xT 6)) [0],aO 3 7] [0,3] (.seq (sR [mO 8 0,oO 9 (bL 8 56),oO 10 (.move (nI 0))] [3,8,9,10] (.block 0 (.loop l1_arena_Of))) (.keep [3] (sR [mO 26 3,aO 2 26] [2] (.ret)))))
theorem t_arena_Of : Txt Tryz.prog 32 27 [(.tmp 2)] c_arena_Of := txt_of (code := Tryz.f32.body.getD .ret) mixed (by kernel_rfl) Tryz.func32 (by kernel_rfl) Tryz.ntmps32 (by kernel_rfl) (ls := lsOf c_arena_Of) (by kernel_rfl)
def c_arena_Arena_Len : CC := sR [oO 2 (.assign (nI 0))] [0] (.seq (sR [mO 3 0,oO 4 (.binOp .eql 54 (xT 3) (.const (.pointer none)) 54)] [0,4] (cD 4 (sR [oO 2 (.assign (nI 0))] [2] (.ret)) (.skip))) (.keep [0] (sR [mO 5 0,oO 6 (.nilCheck (xT 5)),fO 7 101 6 0,lO 8 56 7,oO 9 (bL 8 56),aO 2 9] [2] (.ret))))
theorem t_arena_Arena_Len : Txt Tryz.prog 168 10 [(.tmp 2)] c_arena_Arena_Len := txt_of (code := Tryz.f168.body.getD .ret) mixed (by kernel_rfl) Tryz.func168 (by kernel_rfl) Tryz.ntmps168 (by kernel_rfl) (ls := lsOf c_arena_Arena_Len) (by kernel_rfl)
def c_arena_Arena_Size : CC := sR [oO 4 (.assign (nI 0))] [0,1] (.seq (sR [mO 5 1,oO 6 (.binOp .lss 3 (xT 5) (nI 0) 3),mO 7 6,oG 8 (mV 1) 7 false,oG 9 (mV 0) 7 false,oG 10 (cL 168 #[(xT 9)] #[54]) 7 false,oG 11 (bO .geq 3 8 10 3) 7 false,oO 12 (.pick (xT 7) (nB true) (xT 11))] [0,1,12] (cD 12 (sR [oO 4 (.assign (nI 0))] [4] (.ret)) (.skip))) (.keep [0,1] (sR [mO 13 0,oO 14 (.nilCheck (xT 13)),fO 15 101 14 0,lO 16 56 15,mO 17 1,oO 18 (iA 56 16 17),lO 19 22 18,oO 20 (bL 19 22),aO 4 20] [4] (.ret))))
theorem t_arena_Arena_Size : Txt Tryz.prog 167 21 [(.tmp 4)] c_arena_Arena_Size := txt_of (code := Tryz.f167.body.getD .ret) mixed (by kernel_rfl) Tryz.func167 (by kernel_rfl) Tryz.ntmps167 (by kernel_rfl) (ls := lsOf c_arena_Arena_Size) (by kernel_rfl)
def c_arena_Arena_Has : CC := sR [oO 8 (.assign (nB false))] [0,1,2,3] (sR [mO 10 0,mO 11 1,oO 12 (cL 167 #[(xT 10),(xT 11)] #[54,3]),aO 9 12] [0,1,2,3,9] (sR [mO 13 1,oO 14 (.binOp .geq 3 (xT 13) (nI 0) 3),mO 15 14,oG 16 (mV 1) 15 true,oG 17 (mV 0) 15 true,oG 18 (cL 168 #[(xT 17)] #[54]) 15 true,oG 19 (bO .lss 3 16 18 3) 15 true,oO 20 (.pick (xT 15) (xT 19) (nB false)),mO 21 20,oG 22 (mV 2) 21 true,oG 23 (.binOp .geq 3 (xT 22) (nI 0) 3) 21 true,oO 24 (.pick (xT 21) (xT 23) (nB false)),mO 25 24,oG 26 (mV 3) 25 true,oG 27 (.binOp .geq 3 (xT 26) (nI 0) 3) 25 true,oO 28 (.pick (xT 25) (xT 27) (nB false)),mO 29 28,oG 30 (mV 3) 29 true,oG 31 (mV 9) 29 true,oG 32 (bO .leq 3 30 31 3) 29 true,oO 33 (.pick (xT 29) (xT 32) (nB false)),mO 34 33,oG 35 (mV 2) 34 true,oG 36 (mV 9) 34 true,oG 37 (mV 3) 34 true,oG 38 (bO .sub 3 36 37 3) 34 true,oG 39 (bO .leq 3 35 38 3) 34 true,oO 40 (.pick (xT 34) (xT 39) (nB false)),aO 8 40] [8] (.ret)))
theorem t_arena_Arena_Has : Txt Tryz.prog 162 41 [(.tmp 8)] c_arena_Arena_Has := txt_of (code := Tryz.f162.body.getD .ret) mixed (by kernel_rfl) Tryz.func162 (by kernel_rfl) Tryz.ntmps162 (by kernel_rfl) (ls := lsOf c_arena_Arena_Has) (by kernel_rfl)
def c_arena_Arena_Get : CC := sR [oO 6 (.assign (.const (.int .u64 0))),oO 7 (.assign (nB false))] [0,1,2] (.seq (sR [mO 8 0,mO 9 1,mO 10 2,oO 11 (cL 162 #[(xT 8),(xT 9),(xT 10),(nI 1)] #[54,3,3,3]),oO 12 (.unOp .not 4 (xT 11))] [0,1,2,12] (cD 12 (sR [oO 6 (.assign (.const (.int .u64 0))),oO 7 (.assign (nB false))] [6,7] (.ret)) (.skip))) (.keep [0,1,2] (sR [mO 13 0,oO 14 (.nilCheck (xT 13)),fO 15 101 14 0,lO 16 56 15,mO 17 1,oO 18 (iA 56 16 17),lO 19 22 18,mO 20 2,oO 21 (iA 22 19 20),lO 22 60 21,aO 6 22,oO 7 (.assign (nB true))] [6,7] (.ret))))
theorem t_arena_Arena_Get : Txt Tryz.prog 155 23 [(.tmp 6),(.tmp 7)] c_arena_Arena_Get := txt_of (code := Tryz.f155.body.getD .ret) mixed (by kernel_rfl) Tryz.func155 (by kernel_rfl) Tryz.ntmps155 (by kernel_rfl) (ls := lsOf c_arena_Arena_Get) (by kernel_rfl)
def c_arena_Arena_Part : CC := sR [oO 8 (.assign nS),oO 9 (.assign (nB false))] [0,1,2,3] (.seq (sR [mO 10 0,mO 11 1,mO 12 2,mO 13 3,oO 14 (cL 162 #[(xT 10),(xT 11),(xT 12),(xT 13)] #[54,3,3,3]),oO 15 (.unOp .not 4 (xT 14))] [0,1,2,3,15] (cD 15 (sR [oO 8 (.assign nS),oO 9 (.assign (nB false))] [8,9] (.ret)) (.skip))) (.keep [0,1,2,3] (sR [mO 16 0,oO 17 (.nilCheck (xT 16)),fO 18 101 17 0,lO 19 56 18,mO 20 1,oO 21 (iA 56 19 20),lO 22 22 21,mO 23 2,mO 24 2,mO 25 3,oO 26 (bO .add 3 24 25 3),oO 27 (.slice 22 (xT 22) (some (xT 23)) (some (xT 26)) none),oO 28 (cL 66 #[(xT 27)] #[22]),aO 8 28,oO 9 (.assign (nB true))] [8,9] (.ret))))
theorem t_arena_Arena_Part : Txt Tryz.prog 164 29 [(.tmp 8),(.tmp 9)] c_arena_Arena_Part := txt_of (code := Tryz.f164.body.getD .ret) mixed (by kernel_rfl) Tryz.func164 (by kernel_rfl) Tryz.ntmps164 (by kernel_rfl) (ls := lsOf c_arena_Arena_Part) (by kernel_rfl)
def c_ptr_Ptr_Words : CC := sR [oN 1 (.box 121 (xT 0)) [0],oO 2 (.assign (nI 0)),oO 3 (.assign (nB false))] [1] (sR [oO 5 (.build 180 #[(0,(nI 0)),(1,(nI 1)),(2,(nI 8)),(3,(nI 16)),(4,(nI 32)),(5,(nI 64)),(6,(nI 64))]),oN 4 (.alloc 180) [1],oS (.store 180 (xT 4) (xT 5))] [1,4] (.seq (.block 0 (sR [fO 7 121 1 0,lO 8 3 7,oO 9 (.binOp .eql 3 (xT 8) (nI 1) 3),aO 6 9] [1,4,6] (cD 6 (sR [fO 10 121 1 2,lO 11 3 10,fO 12 121 1 3,lO 13 3 12,oO 14 (bO .add 3 11 13 3),aO 2 14,oO 3 (.assign (nB true))] [2,3] (.ret)) (sR [fO 16 121 1 0,lO 17 3 16,oO 18 (.binOp .eql 3 (xT 17) (nI 2) 3),mO 19 18,oG 20 (fA 121 1 4) 19 true,oG 21 (lD 3 20) 19 true,oG 22 (.binOp .eql 3 (xT 21) (nI 7) 3) 19 true,oO 23 (.pick (xT 19) (xT 22) (nB false)),aO 15 23] [1,4,15] (cD 15 (sR [fO 24 121 1 5,lO 25 3 24,oO 26 (.binOp .add 3 (xT 25) (nI 1) 3),aO 2 26,oO 3 (.assign (nB true))] [2,3] (.ret)) (sR [fO 28 121 1 0,lO 29 3 28,oO 30 (.binOp .eql 3 (xT 29) (nI 2) 3),mO 31 30,oG 32 (fA 121 1 4) 31 true,oG 33 (lD 3 32) 31 true,oG 34 (cL 152 #[(xT 33),(nI 6)] #[3,3]) 31 true,oO 35 (.pick (xT 31) (xT 34) (nB false)),mO 36 35,oG 37 (fA 121 1 5) 36 true,oG 38 (lD 3 37) 36 true,oG 39 (cL 152 #[(xT 38),(nI 536870911)] #[3,3]) 36 true,oO 40 (.pick (xT 36) (xT 39) (nB false)),aO 27 40] [1,4,27] (cD 27 (sR [fO 41 121 1 5,lO 42 3 41,fO 43 121 1 4,lO 44 3 43,oO 45 (iA 180 4 44),lO 46 3 45,oO 47 (bO .mul 3 42 46 3),oO 48 (.binOp .add 3 (xT 47) (nI 63) 3),oO 49 (.binOp .quo 3 (xT 48) (nI 64) 3),aO 2 49,oO 3 (.assign (nB true))] [2,3] (.ret)) (.skip)))))))) (.keep [] (sR [oO 2 (.assign (nI 0)),oO 3 (.assign (nB false))] [2,3] (.ret)))))
theorem t_ptr_Ptr_Words : Txt Tryz.prog 169 50 [(.tmp 2),(.tmp 3)] c_ptr_Ptr_Words := txt_of (code := Tryz.f169.body.getD .ret) mixed (by kernel_rfl) Tryz.func169 (by kernel_rfl) Tryz.ntmps169 (by kernel_rfl) (ls := lsOf c_ptr_Ptr_Words) (by kernel_rfl)
def c_far_inside : CC := sR [oN 3 (.box 153 (xT 1)) [0],oN 4 (.alloc 153) [1],oO 5 (.assign (nI 0))] [0,3,4] (sR [fO 9 153 3 0,lO 10 121 9,oO 11 (cL 169 #[(xT 10)] #[121]),mO 8 11,xO 12 8 0,xO 13 8 1,aO 6 12,aO 7 13] [0,3,4,6] (.seq (sR [mO 14 0,fO 15 153 3 1,lO 16 3 15,fO 17 153 3 2,lO 18 3 17,mO 19 6,oO 20 (cL 162 #[(xT 14),(xT 16),(xT 18),(xT 19)] #[54,3,3,3]),oO 21 (.unOp .not 4 (xT 20))] [3,4,21] (cD 21 (sR [oO 22 (.build 153 #[]),oS (.store 153 (xT 4) (xT 22)),oO 5 (.assign (nI 7))] [4,5] (.ret)) (.skip))) (.keep [3,4] (sR [fO 23 153 3 0,fO 24 121 23 1,oS (.store 3 (xT 24) (nI 0))] [3,4] (sR [lO 25 153 3,oS (.store 153 (xT 4) (xT 25)),oO 5 (.assign (nI 0))] [4,5] (.ret))))))
theorem t_far_inside : Txt Tryz.prog 163 26 [(.cell 4 153),(.tmp 5)] c_far_inside := txt_of (code := Tryz.f163.body.getD .ret) mixed (by kernel_rfl) Tryz.func163 (by kernel_rfl) Tryz.ntmps163 (by kernel_rfl) (ls := lsOf c_far_inside) (by kernel_rfl)
def k1_far_near : CC := cD 12 (sR [mO 15 0,lO 16 121 5,mO 17 2,mO 18 3,oO 19 (.binOp .add 3 (xT 18) (nI 1) 3),fO 20 121 5 1,lO 21 3 20,oO 22 (bO .add 3 19 21 3),oO 23 (.build 153 #[(0,(xT 16)),(1,(xT 17)),(2,(xT 22))]),oO 24 (cL 163 #[(xT 15),(xT 23)] #[54,153]),xO 25 24 0,xO 26 24 1,oS (.store 153 (xT 8) (xT 25)),aO 9 26] [8,9] (.ret)) (sR [oO 28 (.binOp .eql 3 (xT 11) (nI 4) 3),aO 27 28] [8,27] (cD 27 (sR [oO 29 (.build 153 #[]),oS (.store 153 (xT 8) (xT 29)),oO 9 (.assign (nI 9))] [8,9] (.ret)) (.skip))) 
def c_far_near : CC := sR [oN 5 (.box 121 (xT 1)) [0],oN 8 (.alloc 153) [1],oO 9 (.assign (nI 0))] [0,2,3,5,8] (.seq (sR [fO 10 121 5 0,lO 11 3 10] [0,2,3,5,8,11] (.block 0 (.seq (sR [oO 13 (.binOp .eql 3 (xT 11) (nI 1) 3),aO 12 13] [0,2,3,5,8,11,12] (cD 12 (.skip) (.reg [oO 14 (.binOp .eql 3 (xT 11) (nI 2) 3),aO 12 14] [0,2,3,5,8,11,12]))) (.keep [0,2,3,5,8,11,12] k1_far_near)))) (.keep [8] (sR [oO 30 (.build 153 #[]),oS (.store 153 (xT 8) (xT 30)),oO 9 (.assign (nI 8))] [8,9] (.ret))))
theorem t_far_near : Txt Tryz.prog 156 31 [(.cell 8 153),(.tmp 9)] c_far_near := txt_of (code := Tryz.f156.body.getD .ret) mixed (by kernel_rfl) Tryz.func156 (by kernel_rfl) Tryz.ntmps156 (by kernel_rfl) (ls := lsOf c_far_near) (by kernel_rfl)
def c_far_double : CC := sR [oN 6 (.alloc 153) [0],oO 7 (.assign (nI 0))] [0,1,2,6] (sR [mO 13 0,mO 14 1,mO 15 2,oO 16 (cL 164 #[(xT 13),(xT 14),(xT 15),(nI 2)] #[54,3,3,3]),mO 12 16,xO 17 12 0,xO 18 12 1,aO 8 17,aO 9 18] [0,6,8,9] (.seq (sR [mO 19 9,oO 20 (.unOp .not 4 (xT 19))] [0,6,8,20] (cD 20 (sR [oO 21 (.build 153 #[]),oS (.store 153 (xT 6) (xT 21)),oO 7 (.assign (nI 7))] [6,7] (.ret)) (.skip))) (.keep [0,6,8] (sR [mO 22 8,oO 23 (.indexAddr 22 (xT 22) (nI 0)),⟨some 24,(lD 60 23),none,[],2,[],true⟩,⟨some 25,(cL 154 #[(xT 24)] #[60]),none,[],3,[],true⟩,mO 26 8,oO 27 (.indexAddr 22 (xT 26) (nI 1)),⟨some 28,(lD 60 27),none,[],6,[3],true⟩,⟨some 29,(cL 154 #[(xT 28)] #[60]),none,[],7,[],true⟩,⟨some 10,(.alloc 121),none,[1],8,[2,3,6,7],true⟩,⟨some 11,(.alloc 121),none,[2],9,[2,3,6,7,8],false⟩,oS (.store 121 (xT 10) (xT 25)),oS (.store 121 (xT 11) (xT 29))] [0,6,10,11] (.seq (.block 0 (sR [fO 31 121 10 0,lO 32 3 31,oO 33 (.binOp .neq 3 (xT 32) (nI 3) 3),mO 34 33,oG 35 (fA 121 10 7) 34 false,oG 36 (lD 4 35) 34 false,oO 37 (.pick (xT 34) (nB true) (xT 36)),aO 30 37] [0,6,10,11,30] (cD 30 (sR [oO 38 (.build 153 #[]),oS (.store 153 (xT 6) (xT 38)),oO 7 (.assign (nI 8))] [6,7] (.ret)) (sR [fO 40 121 11 0,lO 41 3 40,oO 42 (.binOp .eql 3 (xT 41) (nI 4) 3),aO 39 42] [0,6,10,11,39] (cD 39 (sR [oO 43 (.build 153 #[]),oS (.store 153 (xT 6) (xT 43)),oO 7 (.assign (nI 9))] [6,7] (.ret)) (sR [fO 45 121 11 0,lO 46 3 45,oO 47 (.binOp .neq 3 (xT 46) (nI 1) 3),mO 48 47,oG 49 (fA 121 11 0) 48 true,oG 50 (lD 3 49) 48 true,oG 51 (.binOp .neq 3 (xT 50) (nI 2) 3) 48 true,oO 52 (.pick (xT 48) (xT 51) (nB false)),mO 53 52,oG 54 (fA 121 11 1) 53 false,oG 55 (lD 3 54) 53 false,oG 56 (.binOp .neq 3 (xT 55) (nI 0) 3) 53 false,oO 57 (.pick (xT 53) (nB true) (xT 56)),aO 44 57] [0,6,10,11,44] (cD 44 (sR [oO 58 (.build 153 #[]),oS (.store 153 (xT 6) (xT 58)),oO 7 (.assign (nI 8))] [6,7] (.ret)) (.skip)))))))) (.keep [0,6,10,11] (sR [mO 59 0,lO 60 121 11,fO 61 121 10 6,lO 62 3 61,fO 63 121 10 1,lO 64 3 63,oO 65 (.build 153 #[(0,(xT 60)),(1,(xT 62)),(2,(xT 64))]),oO 66 (cL 163 #[(xT 59),(xT 65)] #[54,153]),xO 67 66 0,xO 68 66 1,oS (.store 153 (xT 6) (xT 67)),aO 7 68] [6,7] (.ret))))))))
theorem t_far_double : Txt Tryz.prog 157 69 [(.cell 6 153),(.tmp 7)] c_far_double := txt_of (code := Tryz.f157.body.getD .ret) mixed (by kernel_rfl) Tryz.func157 (by kernel_rfl) Tryz.ntmps157 (by kernel_rfl) (ls := lsOf c_far_double) (by kernel_rfl)
def c_far_Follow : CC := sR [oN 6 (.alloc 153) [0],oO 7 (.assign (nI 0))] [0,1,2,6] (sR [mO 13 0,mO 14 1,mO 15 2,oO 16 (cL 155 #[(xT 13),(xT 14),(xT 15)] #[54,3,3]),mO 12 16,xO 17 12 0,xO 18 12 1,aO 8 17,aO 9 18] [0,1,2,6,8,9] (.seq (sR [mO 19 9,oO 20 (.unOp .not 4 (xT 19))] [0,1,2,6,8,20] (cD 20 (sR [oO 21 (.build 153 #[]),oS (.store 153 (xT 6) (xT 21)),oO 7 (.assign (nI 7))] [6,7] (.ret)) (.skip))) (.keep [0,1,2,6,8] (sR [mO 22 8,oO 23 (cL 154 #[(xT 22)] #[60]),oN 10 (.alloc 121) [1],oS (.store 121 (xT 10) (xT 23))] [0,1,2,6,10] (.seq (.block 0 (sR [fO 25 121 10 0,lO 26 3 25,oO 27 (.binOp .eql 3 (xT 26) (nI 0) 3),aO 24 27] [0,1,2,6,10,24] (cD 24 (sR [oO 28 (.build 153 #[]),oS (.store 153 (xT 6) (xT 28)),oO 7 (.assign (nI 0))] [6,7] (.ret)) (sR [fO 30 121 10 0,lO 31 3 30,oO 32 (.binOp .neq 3 (xT 31) (nI 3) 3),aO 29 32] [0,1,2,6,10,29] (cD 29 (sR [mO 33 0,lO 34 121 10,mO 35 1,mO 36 2,oO 37 (cL 156 #[(xT 33),(xT 34),(xT 35),(xT 36)] #[54,121,3,3]),xO 38 37 0,xO 39 37 1,oS (.store 153 (xT 6) (xT 38)),aO 7 39] [6,7] (.ret)) (sR [fO 41 121 10 7,lO 42 4 41,aO 40 42] [0,6,10,40] (cD 40 (sR [mO 43 0,fO 44 121 10 6,lO 45 3 44,fO 46 121 10 1,lO 47 3 46,oO 48 (cL 157 #[(xT 43),(xT 45),(xT 47)] #[54,3,3]),xO 49 48 0,xO 50 48 1,oS (.store 153 (xT 6) (xT 49)),aO 7 50] [6,7] (.ret)) (.skip)))))))) (.keep [0,6,10] (sR [mO 52 0,fO 53 121 10 6,lO 54 3 53,fO 55 121 10 1,lO 56 3 55,oO 57 (cL 155 #[(xT 52),(xT 54),(xT 56)] #[54,3,3]),mO 51 57,xO 58 51 0,xO 59 51 1,aO 11 58,aO 9 59] [0,6,9,10,11] (.seq (sR [mO 60 9,oO 61 (.unOp .not 4 (xT 60))] [0,6,10,11,61] (cD 61 (sR [oO 62 (.build 153 #[]),oS (.store 153 (xT 6) (xT 62)),oO 7 (.assign (nI 7))] [6,7] (.ret)) (.skip))) (.keep [0,6,10,11] (sR [mO 63 0,mO 64 11,⟨some 65,(cL 154 #[(xT 64)] #[60]),none,[],2,[],true⟩,fO 66 121 10 6,⟨some 67,(lD 3 66),none,[],4,[2],false⟩,fO 68 121 10 1,⟨some 69,(lD 3 68),none,[],6,[2],false⟩,oO 70 (cL 156 #[(xT 63),(xT 65),(xT 67),(xT 69)] #[54,121,3,3]),xO 71 70 0,xO 72 70 1,oS (.store 153 (xT 6) (xT 71)),aO 7 72] [6,7] (.ret)))))))))))
theorem t_far_Follow : Txt Tryz.prog 135 73 [(.cell 6 153),(.tmp 7)] c_far_Follow := txt_of (code := Tryz.f135.body.getD .ret) mixed (by kernel_rfl) Tryz.func135 (by kernel_rfl) Tryz.ntmps135 (by kernel_rfl) (ls := lsOf c_far_Follow) (by kernel_rfl)
def k1_centoref04_Words : CC := .seq (sR [fO 51 139 1 5,lO 52 3 51,mO 53 3,oO 54 (bO .rem 3 52 53 3),oO 55 (.binOp .gtr 3 (xT 54) (nI 0) 3)] [1,3,55] (cD 55 (sR [fO 56 139 1 5,lO 57 3 56,mO 58 3,oO 59 (bO .quo 3 57 58 3),oO 60 (.binOp .add 3 (xT 59) (nI 1) 3),aO 2 60] [2] (.ret)) (.skip))) (.keep [1,3] (sR [fO 61 139 1 5,lO 62 3 61,mO 63 3,oO 64 (bO .quo 3 62 63 3),aO 2 64] [2] (.ret))) 
def c_centoref04_Words : CC := sR [oN 1 (.box 139 (xT 0)) [0],oO 2 (.assign (nI 0))] [1] (.seq (sR [fO 4 139 1 0,lO 5 3 4,oO 6 (.binOp .eql 3 (xT 5) (nI 1) 3)] [1,6] (cD 6 (sR [fO 7 139 1 2,lO 8 3 7,fO 9 139 1 3,lO 10 3 9,oO 11 (bO .add 3 8 10 3),aO 2 11] [2] (.ret)) (.skip))) (.keep [1] (.seq (sR [fO 12 139 1 0,lO 13 3 12,oO 14 (.binOp .neq 3 (xT 13) (nI 2) 3)] [1,14] (cD 14 (sR [oO 2 (.assign (.const (.int .i64 (-1))))] [2] (.ret)) (.skip))) (.keep [1] (.seq (sR [fO 15 139 1 4,lO 16 3 15,oO 17 (.binOp .eql 3 (xT 16) (nI 7) 3)] [1,17] (cD 17 (sR [fO 18 139 1 5,lO 19 3 18,oO 20 (.binOp .add 3 (xT 19) (nI 1) 3),aO 2 20] [2] (.ret)) (.skip))) (.keep [1] (.seq (sR [fO 21 139 1 4,lO 22 3 21,oO 23 (.binOp .lss 3 (xT 22) (nI 0) 3),mO 24 23,oG 25 (fA 139 1 4) 24 false,oG 26 (lD 3 25) 24 false,oG 27 (.binOp .gtr 3 (xT 26) (nI 6) 3) 24 false,oO 28 (.pick (xT 24) (nB true) (xT 27)),mO 29 28,oG 30 (fA 139 1 5) 29 false,oG 31 (lD 3 30) 29 false,oG 32 (.binOp .lss 3 (xT 31) (nI 0) 3) 29 false,oO 33 (.pick (xT 29) (nB true) (xT 32)),mO 34 33,oG 35 (fA 139 1 5) 34 false,oG 36 (lD 3 35) 34 false,oG 37 (.binOp .geq 3 (xT 36) (nI 536870912) 3) 34 false,oO 38 (.pick (xT 34) (nB true) (xT 37))] [1,38] (cD 38 (sR [oO 2 (.assign (.const (.int .i64 (-1))))] [2] (.ret)) (.skip))) (.keep [1] (sR [oO 3 (.assign (nI 1))] [1,3] (.seq (sR [fO 39 139 1 4,lO 40 3 39] [1,3,40] (.block 0 (sR [oO 42 (.binOp .eql 3 (xT 40) (nI 0) 3),aO 41 42] [1,3,40,41] (cD 41 (sR [oO 2 (.assign (nI 0))] [2] (.ret)) (sR [oO 44 (.binOp .eql 3 (xT 40) (nI 1) 3),aO 43 44] [1,3,40,43] (cD 43 (.reg [oO 3 (.assign (nI 64))] [1,3]) (sR [oO 46 (.binOp .eql 3 (xT 40) (nI 2) 3),aO 45 46] [1,3,40,45] (cD 45 (.reg [oO 3 (.assign (nI 8))] [1,3]) (sR [oO 48 (.binOp .eql 3 (xT 40) (nI 3) 3),aO 47 48] [1,3,40,47] (cD 47 (.reg [oO 3 (.assign (nI 4))] [1,3]) (sR [oO 50 (.binOp .eql 3 (xT 40) (nI 4) 3),aO 49 50] [1,3,49] (cD 49 (.reg [oO 3 (.assign (nI 2))] [1,3]) (.skip))))))))))))) (.keep [1,3] k1_centoref04_Words)))))))))))
theorem t_centoref04_Words : Txt Tryz.prog 159 65 [(.tmp 2)] c_centoref04_Words := txt_of (code := Tryz.f159.body.getD .ret) mixed (by kernel_rfl) Tryz.func159 (by kernel_rfl) Tryz.ntmps159 (by kernel_rfl) (ls := lsOf c_centoref04_Words) (by kernel_rfl)
def c_centoref06_has : CC := sR [oO 6 (.assign (nB false))] [0,1,2] (sR [mO 7 1,oO 8 (.binOp .geq 3 (xT 7) (nI 0) 3),mO 9 8,oG 10 (mV 1) 9 true,oG 11 (mV 0) 9 true,oG 12 (bL 11 56) 9 true,oG 13 (bO .lss 3 10 12 3) 9 true,oO 14 (.pick (xT 9) (xT 13) (nB false)),mO 15 14,oG 16 (mV 2) 15 true,oG 17 (.binOp .geq 3 (xT 16) (nI 0) 3) 15 true,oO 18 (.pick (xT 15) (xT 17) (nB false)),mO 19 18,oG 20 (mV 2) 19 true,oG 21 (mV 0) 19 true,oG 22 (mV 1) 19 true,oG 23 (iA 56 21 22) 19 true,oG 24 (lD 22 23) 19 true,oG 25 (bL 24 22) 19 true,oG 26 (bO .lss 3 20 25 3) 19 true,oO 27 (.pick (xT 19) (xT 26) (nB false)),aO 6 27] [6] (.ret))
theorem t_centoref06_has : Txt Tryz.prog 140 28 [(.tmp 6)] c_centoref06_has := txt_of (code := Tryz.f140.body.getD .ret) mixed (by kernel_rfl) Tryz.func140 (by kernel_rfl) Tryz.ntmps140 (by kernel_rfl) (ls := lsOf c_centoref06_has) (by kernel_rfl)
def c_centoref06_whole : CC := sR [oN 3 (.box 141 (xT 1)) [0],oN 4 (.alloc 141) [1],oO 5 (.assign (nI 0))] [0,3,4] (sR [fO 7 141 3 0,lO 8 139 7,oO 9 (cL 159 #[(xT 8)] #[139]),aO 6 9] [0,3,4,6] (.seq (sR [fO 10 141 3 1,lO 11 3 10,oO 12 (.binOp .lss 3 (xT 11) (nI 0) 3),mO 13 12,oG 14 (fA 141 3 1) 13 false,oG 15 (lD 3 14) 13 false,oG 16 (mV 0) 13 false,oG 17 (bL 16 56) 13 false,oG 18 (bO .geq 3 15 17 3) 13 false,oO 19 (.pick (xT 13) (nB true) (xT 18)),mO 20 19,oG 21 (fA 141 3 2) 20 false,oG 22 (lD 3 21) 20 false,oG 23 (.binOp .lss 3 (xT 22) (nI 0) 3) 20 false,oO 24 (.pick (xT 20) (nB true) (xT 23)),mO 25 24,oG 26 (fA 141 3 2) 25 false,oG 27 (lD 3 26) 25 false,oG 28 (mV 0) 25 false,oG 29 (fA 141 3 1) 25 false,oG 30 (lD 3 29) 25 false,oG 31 (iA 56 28 30) 25 false,oG 32 (lD 22 31) 25 false,oG 33 (bL 32 22) 25 false,oG 34 (bO .gtr 3 27 33 3) 25 false,oO 35 (.pick (xT 25) (nB true) (xT 34)),mO 36 35,oG 37 (mV 6) 36 false,oG 38 (mV 0) 36 false,oG 39 (fA 141 3 1) 36 false,oG 40 (lD 3 39) 36 false,oG 41 (iA 56 38 40) 36 false,oG 42 (lD 22 41) 36 false,oG 43 (bL 42 22) 36 false,oG 44 (fA 141 3 2) 36 false,oG 45 (lD 3 44) 36 false,oG 46 (bO .sub 3 43 45 3) 36 false,oG 47 (bO .gtr 3 37 46 3) 36 false,oO 48 (.pick (xT 36) (nB true) (xT 47))] [3,4,48] (cD 48 (sR [oO 49 (.build 141 #[]),oS (.store 141 (xT 4) (xT 49)),oO 5 (.assign (nI 7))] [4,5] (.ret)) (.skip))) (.keep [3,4] (sR [fO 50 141 3 0,fO 51 139 50 1,oS (.store 3 (xT 51) (nI 0))] [3,4] (sR [lO 52 141 3,oS (.store 141 (xT 4) (xT 52)),oO 5 (.assign (nI 0))] [4,5] (.ret))))))
theorem t_centoref06_whole : Txt Tryz.prog 142 53 [(.cell 4 141),(.tmp 5)] c_centoref06_whole := txt_of (code := Tryz.f142.body.getD .ret) mixed (by kernel_rfl) Tryz.func142 (by kernel_rfl) Tryz.ntmps142 (by kernel_rfl) (ls := lsOf c_centoref06_whole) (by kernel_rfl)
def c_centoref06_shape : CC := sR [oN 1 (.box 139 (xT 0)) [0],oO 2 (.assign (nI 0))] [1] (.seq (sR [fO 3 139 1 0,lO 4 3 3,oO 5 (.binOp .eql 3 (xT 4) (nI 4) 3)] [1,5] (cD 5 (sR [oO 2 (.assign (nI 9))] [2] (.ret)) (.skip))) (.keep [1] (.seq (sR [fO 6 139 1 0,lO 7 3 6,oO 8 (.binOp .neq 3 (xT 7) (nI 1) 3),mO 9 8,oG 10 (fA 139 1 0) 9 true,oG 11 (lD 3 10) 9 true,oG 12 (.binOp .neq 3 (xT 11) (nI 2) 3) 9 true,oO 13 (.pick (xT 9) (xT 12) (nB false))] [13] (cD 13 (sR [oO 2 (.assign (nI 8))] [2] (.ret)) (.skip))) (.keep [] (sR [oO 2 (.assign (nI 0))] [2] (.ret))))))
theorem t_centoref06_shape : Txt Tryz.prog 141 14 [(.tmp 2)] c_centoref06_shape := txt_of (code := Tryz.f141.body.getD .ret) mixed (by kernel_rfl) Tryz.func141 (by kernel_rfl) Tryz.ntmps141 (by kernel_rfl) (ls := lsOf c_centoref06_shape) (by kernel_rfl)
def k1_centoref06_Follow : CC := .seq (sR [mO 94 11,oO 95 (.binOp .neq 3 (xT 94) (nI 0) 3)] [0,6,9,10,11,95] (cD 95 (sR [oO 96 (.build 141 #[]),mO 97 11,oS (.store 141 (xT 6) (xT 96)),aO 7 97] [6,7] (.ret)) (.skip))) (.keep [0,6,9,10] (sR [mO 98 0,lO 99 139 10,fO 100 139 9 6,lO 101 3 100,fO 102 139 9 1,lO 103 3 102,oO 104 (.build 141 #[(0,(xT 99)),(1,(xT 101)),(2,(xT 103))]),oO 105 (cL 142 #[(xT 98),(xT 104)] #[56,141]),xO 106 105 0,xO 107 105 1,oS (.store 141 (xT 6) (xT 106)),aO 7 107] [6,7] (.ret)))
def k2_centoref06_Follow : CC := sR [lO 129 139 8,oO 130 (cL 141 #[(xT 129)] #[139]),aO 12 130] [0,1,2,6,8,12] (.seq (sR [mO 131 12,oO 132 (.binOp .neq 3 (xT 131) (nI 0) 3)] [0,1,2,6,8,12,132] (cD 132 (sR [oO 133 (.build 141 #[]),mO 134 12,oS (.store 141 (xT 6) (xT 133)),aO 7 134] [6,7] (.ret)) (.skip))) (.keep [0,1,2,6,8] (sR [mO 135 0,lO 136 139 8,mO 137 1,mO 138 2,oO 139 (.binOp .add 3 (xT 138) (nI 1) 3),fO 140 139 8 1,lO 141 3 140,oO 142 (bO .add 3 139 141 3),oO 143 (.build 141 #[(0,(xT 136)),(1,(xT 137)),(2,(xT 142))]),oO 144 (cL 142 #[(xT 135),(xT 143)] #[56,141]),xO 145 144 0,xO 146 144 1,oS (.store 141 (xT 6) (xT 145)),aO 7 146] [6,7] (.ret)))) 
def c_centoref06_Follow : CC := sR [oN 6 (.alloc 141) [0],oO 7 (.assign (nI 0))] [0,1,2,6] (.seq (sR [mO 13 0,mO 14 1,mO 15 2,oO 16 (cL 140 #[(xT 13),(xT 14),(xT 15)] #[56,3,3]),oO 17 (.unOp .not 4 (xT 16))] [0,1,2,6,17] (cD 17 (sR [oO 18 (.build 141 #[]),oS (.store 141 (xT 6) (xT 18)),oO 7 (.assign (nI 7))] [6,7] (.ret)) (.skip))) (.keep [0,1,2,6] (sR [mO 19 0,mO 20 1,oO 21 (iA 56 19 20),lO 22 22 21,mO 23 2,oO 24 (iA 22 22 23),lO 25 60 24,oO 26 (cL 119 #[(xT 25)] #[60]),oN 8 (.alloc 139) [1],oS (.store 139 (xT 8) (xT 26))] [0,1,2,6,8] (.seq (sR [fO 27 139 8 0,lO 28 3 27,oO 29 (.binOp .eql 3 (xT 28) (nI 0) 3)] [0,1,2,6,8,29] (cD 29 (sR [oO 30 (.build 141 #[]),oS (.store 141 (xT 6) (xT 30)),oO 7 (.assign (nI 0))] [6,7] (.ret)) (.skip))) (.keep [0,1,2,6,8] (.seq (sR [fO 31 139 8 0,lO 32 3 31,oO 33 (.binOp .eql 3 (xT 32) (nI 3) 3),mO 34 33,oG 35 (fA 139 8 7) 34 true,oG 36 (lD 4 35) 34 true,oO 37 (.pick (xT 34) (xT 36) (nB false))] [0,1,2,6,8,37] (cD 37 (.seq (sR [mO 38 0,fO 39 139 8 6,lO 40 3 39,fO 41 139 8 1,lO 42 3 41,oO 43 (cL 140 #[(xT 38),(xT 40),(xT 42)] #[56,3,3]),oO 44 (.unOp .not 4 (xT 43)),mO 45 44,oG 46 (mV 0) 45 false,oG 47 (fA 139 8 6) 45 false,oG 48 (lD 3 47) 45 false,oG 49 (fA 139 8 1) 45 false,oG 50 (lD 3 49) 45 false,oG 51 (.binOp .add 3 (xT 50) (nI 1) 3) 45 false,oG 52 (cL 140 #[(xT 46),(xT 48),(xT 51)] #[56,3,3]) 45 false,oG 53 (.unOp .not 4 (xT 52)) 45 false,oO 54 (.pick (xT 45) (nB true) (xT 53))] [0,6,8,54] (cD 54 (sR [oO 55 (.build 141 #[]),oS (.store 141 (xT 6) (xT 55)),oO 7 (.assign (nI 7))] [6,7] (.ret)) (.skip))) (.keep [0,6,8] (sR [mO 56 0,fO 57 139 8 6,⟨some 58,(lD 3 57),none,[],2,[],true⟩,oO 59 (iA 56 56 58),⟨some 60,(lD 22 59),none,[],4,[],true⟩,fO 61 139 8 1,⟨some 62,(lD 3 61),none,[],6,[],true⟩,oO 63 (iA 22 60 62),⟨some 64,(lD 60 63),none,[],8,[],true⟩,⟨some 65,(cL 119 #[(xT 64)] #[60]),none,[],9,[],true⟩,mO 66 0,fO 67 139 8 6,⟨some 68,(lD 3 67),none,[],12,[9],true⟩,oO 69 (iA 56 66 68),⟨some 70,(lD 22 69),none,[],14,[9],true⟩,fO 71 139 8 1,⟨some 72,(lD 3 71),none,[],16,[9],true⟩,oO 73 (.binOp .add 3 (xT 72) (nI 1) 3),oO 74 (iA 22 70 73),⟨some 75,(lD 60 74),none,[],19,[9],true⟩,⟨some 76,(cL 119 #[(xT 75)] #[60]),none,[],20,[],true⟩,⟨some 9,(.alloc 139),none,[2],21,[2,4,6,8,9,12,14,16,19,20],true⟩,⟨some 10,(.alloc 139),none,[3],22,[2,4,6,8,9,12,14,16,19,20,21],false⟩,oS (.store 139 (xT 9) (xT 65)),oS (.store 139 (xT 10) (xT 76))] [0,6,9,10] (.seq (sR [fO 77 139 9 0,lO 78 3 77,oO 79 (.binOp .neq 3 (xT 78) (nI 3) 3),mO 80 79,oG 81 (fA 139 9 7) 80 false,oG 82 (lD 4 81) 80 false,oO 83 (.pick (xT 80) (nB true) (xT 82))] [0,6,9,10,83] (cD 83 (sR [oO 84 (.build 141 #[]),oS (.store 141 (xT 6) (xT 84)),oO 7 (.assign (nI 8))] [6,7] (.ret)) (.skip))) (.keep [0,6,9,10] (sR [lO 85 139 10,oO 86 (cL 141 #[(xT 85)] #[139]),aO 11 86] [0,6,9,10,11] (.seq (sR [mO 87 11,oO 88 (.binOp .eql 3 (xT 87) (nI 0) 3),mO 89 88,oG 90 (fA 139 10 1) 89 true,oG 91 (lD 3 90) 89 true,oG 92 (.binOp .neq 3 (xT 91) (nI 0) 3) 89 true,oO 93 (.pick (xT 89) (xT 92) (nB false))] [0,6,9,10,11,93] (cD 93 (.reg [oO 11 (.assign (nI 8))] [0,6,9,10,11]) (.skip))) (.keep [0,6,9,10,11] k1_centoref06_Follow)))))))) (.skip))) (.keep [0,1,2,6,8] (.seq (sR [fO 108 139 8 0,lO 109 3 108,oO 110 (.binOp .eql 3 (xT 109) (nI 3) 3)] [0,1,2,6,8,110] (cD 110 (sR [fO 111 139 8 6,lO 112 3 111,aO 1 112] [0,1,6,8] (sR [fO 113 139 8 1,lO 114 3 113,aO 2 114] [0,1,2,6,8] (.seq (sR [mO 115 0,mO 116 1,mO 117 2,oO 118 (cL 140 #[(xT 115),(xT 116),(xT 117)] #[56,3,3]),oO 119 (.unOp .not 4 (xT 118))] [0,1,2,6,8,119] (cD 119 (sR [oO 120 (.build 141 #[]),oS (.store 141 (xT 6) (xT 120)),oO 7 (.assign (nI 7))] [6,7] (.ret)) (.skip))) (.keep [0,1,2,6,8] (.reg [mO 121 0,mO 122 1,oO 123 (iA 56 121 122),lO 124 22 123,mO 125 2,oO 126 (iA 22 124 125),lO 127 60 126,oO 128 (cL 119 #[(xT 127)] #[60]),oS (.store 139 (xT 8) (xT 128))] [0,1,2,6,8]))))) (.skip))) (.keep [0,1,2,6,8] k2_centoref06_Follow)))))))))
theorem t_centoref06_Follow : Txt Tryz.prog 118 147 [(.cell 6 141),(.tmp 7)] c_centoref06_Follow := txt_of (code := Tryz.f118.body.getD .ret) mixed (by kernel_rfl) Tryz.func118 (by kernel_rfl) Tryz.ntmps118 (by kernel_rfl) (ls := lsOf c_centoref06_Follow) (by kernel_rfl)
end Go.Proofs.YthfiijdbnkaabaaGreat

namespace Go.G
set_option linter.unusedVariables false
set_option linter.unusedSimpArgs false
open Go.RowKit
def FrzN (H : Hp) (a a' : A) : Prop := ∀ (c : Cx) (w : World) (I : Nat→Prop) (μ : Mu) (v : Value),Sim c w I μ H→Rel w I μ a v→Rel w (fun b => Owned H μ b) mu0 a' v
def RetN (P : Program) (rs : List ResultVar) (r : A) : Exit→Sta→Prop := RetG P rs fun r0 H => FrzN H r0 r
theorem specB_of {P : Program} {f : FuncId} {n : Nat} {rs : List ResultVar} {cc : CC} {args : List A} {r : A} (t : Txt P f n rs cc) (ha : args.length≤n) (h : ∀ w0 I0,WPC (cx P w0 I0 n) cc (RetN P rs r) ⟨argS args,H0⟩) : SpecB P f args r := by
  obtain ⟨hm,hk,fn,code,hf,hb,hn,hrs,hc⟩ := t
  refine ⟨hk,fun w I J vs hI hJ hl hr => ?_⟩
  have hIJ : ∀ b,(I b∨J b)→b < w.heap.size := fun b hb => hb.elim (hI b) (hJ b)
  have h1 : AWP (cx P w (fun b => I b∨J b) n) code (RetG P fn.results.toList fun r0 H => FrzN H r0 r) ⟨argS args,H0⟩ := wpc_sound (c := cx P w _ n) hm hc (by rw [hrs]; exact h w _)
  refine (body_run hf hb (c := cx P w (fun b => I b∨J b) n) rfl hn.symm hl (by omega) (sim_start hIJ) hr h1).mono fun e w' ⟨v,r0,H',I',μ',he,h1,h2,h3⟩ => ⟨v,he,?_,?_⟩
  · have k := h1.kept
    exact ⟨k.os,k.tape,k.output,k.size,fun b hb => k.block b hb (fun ⟨_,h⟩ => h)⟩
  · refine (h3 _ w' I' μ' v h1 h2).mono0 (fun b hb => ?_) (fun _ _ => rfl)
    obtain ⟨o,g1,rfl⟩ := hb
    obtain ⟨_,g4,g5⟩ := h1.own o g1
    rcases g4 with g4 | g4
    · exact g4.elim
    · exact .inr ⟨g4,g5⟩
@[simp] theorem retN_normal {P : Program} {rs : List ResultVar} {r : A} {st : Sta} : RetN P rs r .normal st = Gt (resA P st rs) fun r0 => FrzN st.H r0 r := rfl
@[simp] theorem retN_ret {P : Program} {rs : List ResultVar} {r : A} {st : Sta} : RetN P rs r .ret st = Gt (resA P st rs) fun r0 => FrzN st.H r0 r := rfl
theorem frzN_nil {H : Hp} {f : Bool} : FrzN H (.sl f []) (.sl false []) := fun c w I μ v hs hr => by
  cases hr with
  | slN _ _ a cap _ => exact .slN _ _ _ _ (fun h => by cases h)
  | sl _ _ b off n cap sz _ g h1 h2 =>
    have : n = 0 := h2
    subst this
    exact .slN _ _ _ _ (fun h => by cases h)
theorem frzN_osl {H : Hp} {o : Nm} {u off len sz : Nat} {xs : List A} (ho : getR H o u = some (sz,xs)) (hl : off + len≤xs.length) (hb : ((xs.drop off).take len).all (fun x => x.cells.length == sz && x.cells.all fun y => A.flat1 y && y.one) = true) : FrzN H (.osl o u sz off len) (.sl false ((xs.drop off).take len)) := by
  simp only [List.all_eq_true,Bool.and_eq_true,beq_iff_eq] at hb
  intro c w I μ v hs hr
  have hlen : ((xs.drop off).take len).length = len := by simp; omega
  have hcell : ∀ (k : Nat) (y : A),(((xs.drop off).take len).flatMap A.cells)[k]? = some y→y.flat1 = true∧y.one = true := fun k y hk => by
    obtain ⟨x,hx,hy⟩ := List.mem_flatMap.1 (List.mem_of_getElem? hk)
    exact (hb x hx).2 y hy
  cases hr with
  | osl _ _ _ _ _ _ a cap g1 g2 g4 g5 g3 =>
    obtain ⟨hu,k2,hrow⟩ := hs.row ho
    obtain ⟨_,hcur⟩ := g3 hu.symm
    by_cases h0 : len = 0
    · subst h0
      simp only [List.take_zero]
      exact .slN _ _ _ _ (fun h => by cases h)
    rcases hcur with ⟨e,_⟩ | ⟨p1,rfl,p3⟩
    · exact (h0 e).elim
    rcases hrow with ⟨q1,_⟩ | ⟨q1,vs,k3,k4,k5,k6,k7⟩
    · rw [p1] at q1; cases q1
    subst k2
    have hB : hasB (μ o) (H o).ob = true := by rw [(getR_some ho).2]; exact q1
    have hg : ∀ (k : Nat) (y : A),(((xs.drop off).take len).flatMap A.cells)[k]? = some y→(xs.flatMap A.cells)[off * (μ o).sz + k]? = some y := fun k y hk => flat_take_drop k6 hk
    refine .sl _ _ (μ o).b (off * (μ o).sz) _ _ (μ o).sz _ (fun k => vs.getD (off * (μ o).sz + k) undef) ⟨o,hB,rfl⟩ hlen.symm (by omega) (fun h => by cases h) (fun z hz => k6 z (List.mem_of_mem_drop (List.mem_of_mem_take hz)))
      (fun k y hk => (hcell k y hk).2) (fun k y hk => ?_) (fun k y hk => (k7 _ y (hg k y hk)).2.of_flat1 (hcell k y hk).1)
    have h3 := hg k y hk
    have h4 := flat_len k6
    have h5 : xs.length * (μ o).sz≤(μ o).cap * (μ o).sz := Nat.mul_le_mul_right _ k5
    have h6 := (List.getElem?_eq_some_iff.1 h3).1
    rw [cell_of_row w (μ o).b _ vs (μ o).e (0,0) k3]
    have : off * (μ o).sz + k < vs.size := by rw [k4]; omega
    simp [this]
theorem specB_nil {P : Program} {f : FuncId} {fl : Bool} {r : A} (h1 : ∀ cap,SpecB P f [.v (.slice none 0 cap)] r) (h2 : ∀ a cap,SpecB P f [.v (.slice (some a) 0 cap)] r) : SpecB P f [.sl fl []] r := by
  refine ⟨(h1 0).1,fun w I J vs hI hJ hl hr => ?_⟩
  have h := hr 0 _ rfl
  have go : ∀ x,vs.getD 0 undef = x→∀ (k : Nat) (y : A),[A.v x][k]? = some y→Rel w (fun b => I b∨J b) mu0 y (vs.getD k undef) := fun x hx k y hk => by
    cases k with
    | zero => cases hk; rw [hx]; exact .v _ _
    | succ k => simp at hk
  generalize hq : vs.getD 0 undef = x at h
  cases h with
  | slN _ _ a cap _ =>
    cases a with
    | none => exact (h1 cap).2 w I J vs hI hJ hl (go _ hq)
    | some a => exact (h2 a cap).2 w I J vs hI hJ hl (go _ hq)
  | sl _ _ b off n cap sz _ g k1 k2 =>
    have : n = 0 := k2
    subst this
    exact (h2 _ cap).2 w I J vs hI hJ hl (go _ hq)
end Go.G

namespace Go.G
set_option linter.unusedVariables false
set_option linter.unusedSimpArgs false
open Go.RowKit
theorem blank_rel {w : World} {I : Nat→Prop} {μ : Mu} {d : Nm} {u sz : Nat} {v : Value} (h1 : Rel w I μ (.sl true []) v) (hu : (μ d).u = u) (h0 : 1≤u) (hz : (μ d).sz = sz) : Rel w I μ (.osl d u sz 0 0) v := by
  subst hu
  cases h1 with
  | slN _ _ q cap hc =>
    have := hc rfl
    subst this
    exact .osl _ _ _ _ _ _ _ _ h0 (Nat.le_refl _) (Nat.le_refl _) (fun h => by omega) (fun _ => ⟨hz,.inl ⟨rfl,rfl⟩⟩)
  | sl _ _ b off n cap z _ g h1 h2 h3 h4 =>
    have h5 : n = 0 := h2
    have h6 : cap = 0 := h4 rfl
    subst h5 h6
    exact .osl _ _ _ _ _ _ _ _ h0 (Nat.le_refl _) (Nat.le_refl _) (fun h => by omega) (fun _ => ⟨hz,.inl ⟨rfl,rfl⟩⟩)
theorem le_blankC {c : Cx} {s : Nat→A} {H : Hp} {d : Nm} {u : Nat} {cs : List A} (i : Nat) (d' : Nm) (sz : Nat) (hd : H d = ⟨u,.cells cs⟩) (hi : cs[i]? = some (.sl true [])) (hne : d ≠ d') :
    Le c ⟨s,H⟩ ⟨s,updF (updF H d' ⟨(H d').u + 1,.arr sz []⟩) d ⟨u,.cells (cs.set i (.osl d' ((H d').u + 1) sz 0 0))⟩⟩ := fun a w I μ hs => by
  obtain ⟨hx,hs'⟩ := hs.sim.upd (grownBy_refl w none) d' ⟨(H d').u + 1,false,0,0,sz,0⟩ (.arr sz []) (.inl rfl) (.inl (by rw [hs.sim.ver]; exact Nat.lt_succ_self _)) (fun h => nomatch h) (fun hx => ⟨rfl,.inl ⟨rfl,rfl⟩⟩)
  have hd1 : (updF H d' ⟨(H d').u + 1,.arr sz []⟩ : Hp) d = ⟨u,.cells cs⟩ := by rw [updF_ne hne]; exact hd
  have hob := hs'.ob d
  rw [hd1] at hob
  obtain ⟨vs,k1,k2,k3⟩ := hob
  have hB : hasB (updF μ d' ⟨(H d').u + 1,false,0,0,sz,0⟩ d) ((updF H d' ⟨(H d').u + 1,.arr sz []⟩ : Hp) d).ob = true := by rw [hd1]; rfl
  obtain ⟨hx2,hs2⟩ := hs'.upd (grownBy_refl w none) d (updF μ d' ⟨(H d').u + 1,false,0,0,sz,0⟩ d) (.cells (cs.set i (.osl d' ((H d').u + 1) sz 0 0))) (.inl rfl) (.inr rfl) (fun _ => .inr ⟨hB,rfl⟩) (fun hx2 => by
    refine ⟨vs,k1,by simpa using k2,fun k y hk => ?_⟩
    rw [updM_self]
    by_cases hki : k = i
    · subst hki
      have hlt : k < cs.length := (List.getElem?_eq_some_iff.1 hi).1
      rw [List.getElem?_set_self hlt] at hk
      cases hk
      exact ⟨rfl,blank_rel (k3 k _ hi).2 (by simp) (by omega) (by simp)⟩
    · rw [List.getElem?_set_ne (Ne.symm hki)] at hk
      exact k3 k y hk)
  have hu : (updF μ d' ⟨(H d').u + 1,false,0,0,sz,0⟩ d).u = u := by rw [hs'.ver,hd1]
  rw [hu] at hs2
  exact ⟨I,_,hs2,hs.size,hs.defers,fun t => hx2.rel (hx.rel (hs.rel t))⟩
def Part (H H' : Hp) : Prop := ∀ o,H' o = H o∨H' o = ⟨(H o).u,.none⟩
theorem Part.has {H H' : Hp} (h : Part H H') {L : Loc} {o : Nm} (k : hasB L (H' o).ob = true) : hasB L (H o).ob = true := by
  rcases h o with e | e
  · rw [← e]; exact k
  · rw [e] at k; cases k
theorem Part.ver {H H' : Hp} (h : Part H H') (o : Nm) : (H' o).u = (H o).u := by rcases h o with e | e <;> rw [e]
theorem Sim.part {c : Cx} {w : World} {I : Nat→Prop} {μ : Mu} {H H' : Hp} (hs : Sim c w I μ H) (h : Part H H') : Sim c w I μ H' :=
  ⟨hs.kept,hs.lt,hs.old,hs.new,fun o => by rw [h.ver,hs.ver],fun o => by
    rcases h o with e | e
    · rw [e]; exact hs.ob o
    · rw [e]; trivial,fun o o' k k' => hs.apart o o' (h.has k) (h.has k'),fun o k => hs.own o (h.has k),hs.mle⟩
theorem Sim.freezeAll {c : Cx} {w : World} {I : Nat→Prop} {μ : Mu} {H H1 H2 : Hp} (hs : Sim c w I μ H) (h1 : Part H H1) (h2 : Part H H2) (hd : ∀ o,(H1 o).ob = .none∨(H2 o).ob = .none) (hM : ∀ o b,(H1 o).ob ≠ .none→¬ c.M0 o b) :
    Sim c w (fun b => I b∨Owned H1 μ b) μ H2 := by
  have hx : Ext I μ w (fun b => I b∨Owned H1 μ b) μ w := ⟨fun b h => .inl h,fun b h => rfl,MuLe.refl _⟩
  refine ⟨hs.kept,fun b h => ?_,fun b h => .inl (hs.old b h),fun b h => ?_,fun o => by rw [h2.ver,hs.ver],fun o => ?_,fun o o' k k' => hs.apart o o' (h2.has k) (h2.has k'),fun o k => ?_,hs.mle⟩
  · rcases h with h | ⟨o,k,rfl⟩
    · exact hs.lt b h
    · exact (hs.own o (h1.has k)).2.2
  · rcases h with h | ⟨o,k,rfl⟩
    · exact hs.new b h
    · rcases (hs.own o (h1.has k)).2.1 with h | h
      · exact (hM _ _ (fun e => by rw [e] at k; cases k) h).elim
      · exact .inr h
  · rcases h2 o with e | e
    · rw [e]; exact OSim.keep hx (fun _ => rfl) (hs.ob o)
    · rw [e]; trivial
  · obtain ⟨k1,k2,k3⟩ := hs.own o (h2.has k)
    refine ⟨fun hh => ?_,k2,k3⟩
    rcases hh with hh | ⟨o',k',e⟩
    · exact k1 hh
    · refine hs.apart o o' (h2.has k) (h1.has k') (fun e => ?_) e.symm
      subst e
      rcases hd o with e | e
      · rw [e] at k'; cases k'
      · rw [e] at k; cases k
theorem le_freeze {c : Cx} {s : Nat→A} {H H1 H2 : Hp} (hM : ∀ o b,(H1 o).ob ≠ .none→¬ c.M0 o b) (t : Nat) (a : A) (h1 : Part H H1) (h2 : Part H H2) (hd : ∀ o,(H1 o).ob = .none∨(H2 o).ob = .none) (hf : Frz H1 (s t) a) : Le c ⟨s,H⟩ ⟨upd s t a,H2⟩ := fun x w I μ hs => by
  have h3 := hs.sim.freezeAll h1 h2 hd hM
  refine ⟨_,μ,h3,hs.size,hs.defers,fun k => ?_⟩
  show Rel w _ μ (upd s t a k) _
  unfold upd
  split
  · rename_i e
    subst e
    exact (hf c w I μ _ (hs.sim.part h1) (hs.rel k)).ofI
  · exact (hs.rel k).mono0 (fun b h => .inl h) (fun _ _ => rfl)
def onlyH (D : List Nm) (l : List (Nm × VOb)) : List (Nm × VOb) := l.map fun p => if D.contains p.1 then p else (p.1,⟨p.2.u,.none⟩)
def lessH (D : List Nm) (l : List (Nm × VOb)) : List (Nm × VOb) := l.map fun p => if D.contains p.1 then (p.1,⟨p.2.u,.none⟩) else p
theorem lkH_only (D : List Nm) : ∀ (l : List (Nm × VOb)) (o : Nm),lkH (onlyH D l) o = if D.contains o = true then lkH l o else ⟨(lkH l o).u,.none⟩
  | [],o => by simp [onlyH,lkH]
  | (k,x) :: l,o => by
    have ih := lkH_only D l o
    simp only [onlyH,List.map_cons] at ih ⊢
    by_cases hk : k = o
    · subst hk
      by_cases h : D.contains k = true <;> simp only [h,if_true,lkH] <;> simp
    · by_cases h : D.contains k = true <;> simp only [h,if_true,if_false,Bool.false_eq_true,lkH,hk] <;> exact ih
theorem lkH_less (D : List Nm) : ∀ (l : List (Nm × VOb)) (o : Nm),lkH (lessH D l) o = if D.contains o = true then ⟨(lkH l o).u,.none⟩ else lkH l o
  | [],o => by simp [lessH,lkH]
  | (k,x) :: l,o => by
    have ih := lkH_less D l o
    simp only [lessH,List.map_cons] at ih ⊢
    by_cases hk : k = o
    · subst hk
      by_cases h : D.contains k = true <;> simp only [h,if_true,lkH] <;> simp
    · by_cases h : D.contains k = true <;> simp only [h,if_true,if_false,Bool.false_eq_true,lkH,hk] <;> exact ih
theorem le_freezeL {c : Cx} {s : Nat→A} {l : List (Nm × VOb)} (D : List Nm) (t : Nat) (a : A) (hM : ∀ o b,¬ c.M0 o b) (hf : Frz (lkH (onlyH D l)) (s t) a) : Le c ⟨s,lkH l⟩ ⟨upd s t a,lkH (lessH D l)⟩ := by
  refine le_freeze (fun o b _ => hM o b) t a (H1 := lkH (onlyH D l)) (fun o => ?_) (fun o => ?_) (fun o => ?_) hf
  · rw [lkH_only]; split
    · exact .inl rfl
    · exact .inr rfl
  · rw [lkH_less]; split
    · exact .inr rfl
    · exact .inl rfl
  · rw [lkH_only,lkH_less]; split
    · exact .inr rfl
    · exact .inl rfl
theorem le_freezeD {c : Cx} {s : Nat→A} {H : Hp} {d : Nm} (hM : ∀ b,¬ c.M0 d b) (t : Nat) (a : A) (hf : ∀ H1 : Hp,H1 d = H d→Frz H1 (s t) a) : Le c ⟨s,H⟩ ⟨upd s t a,updF H d ⟨(H d).u,.none⟩⟩ := by
  refine le_freeze (fun o b h => by
    by_cases e : o = d
    · subst e; exact hM b
    · exact absurd (by simp [e]) h) t a (H1 := fun o => if o = d then H o else ⟨(H o).u,.none⟩) (fun o => ?_) (fun o => ?_) (fun o => ?_) (hf _ (by simp))
  · by_cases h : o = d
    · exact .inl (by simp [h])
    · exact .inr (by simp [h])
  · by_cases h : o = d
    · subst h; exact .inr (by simp)
    · exact .inl (updF_ne h)
  · by_cases h : o = d
    · subst h; exact .inr (by simp)
    · exact .inl (by simp [h])
end Go.G

namespace Go.Proofs.YthfiijdbnkaabaaGreat
set_option linter.unusedVariables false
set_option linter.unusedSimpArgs false
open Go Go.G Go.Proofs
abbrev ws (l : List Int) : A := .sl false (l.map uv)
abbrev sgs (l : List (List Int)) : A := .sl false (l.map ws)
@[simp] theorem lens_uv (l : List Int) : lens 1 (l.map uv) = true := by simp [lens]
@[simp] theorem lens_ws (l : List (List Int)) : lens 1 (l.map ws) = true := by simp [lens]
theorem clone_spec (f : Bool) (l : List Int) (h : l.length * 8≤140737488355328) : SpecB Tryz.prog 66 [.sl f (l.map uv)] (ws l) := by
  cases l with
  | nil =>
    refine specB_nil (fun cap => ?_) (fun a cap => ?_)
    · refine specB_of t_slices_Clone_uint64_uint64 (by simp) fun w0 I0 => ?_
      unfold c_slices_Clone_uint64_uint64
      simp
      exact frzN_nil
    · refine specB_of t_slices_Clone_uint64_uint64 (by simp) fun w0 I0 => ?_
      unfold c_slices_Clone_uint64_uint64
      simp
      exact frzN_osl (sz := 1) (xs := []) (by simp) (by simp) (by simp)
  | cons x l =>
    refine specB_of t_slices_Clone_uint64_uint64 (by simp) fun w0 I0 => ?_
    unfold c_slices_Clone_uint64_uint64
    simp at h ⊢
    refine ⟨h,?_⟩
    have := frzN_osl (H := lkH [([0],{ u := 1,ob := Ob.arr 1 (uv x :: l.map uv) })]) (o := [0]) (u := 1) (off := 0) (len := l.length + 1) (sz := 1) (xs := uv x :: l.map uv) (by simp) (by simp) (by simp [A.flat1,List.take_of_length_le])
    simp [List.take_of_length_le] at this
    exact this
theorem of_loop {n : Nat} {w0 : World} {I0 : Nat→Prop} {Q : Exit→Sta→Prop} {l : List (List Int)} (hl : l.length * 24≤140737488355328) (hb : ∀ x,x ∈ l→x.length * 8≤140737488355328) : ∀ (k i u : Nat),i + k = l.length →
    (∀ u',Q (.exit 0) ⟨lk [(3,.pob [0] 1 0),(8,sgs l),(9,iv l.length),(10,iv l.length),(11,bv false)],lkH [([0],⟨1,.cells [.osl [1] u' 1 0 l.length,iv 0,iv 0,iv 0]⟩),([1],⟨u',.arr 1 (l.map ws)⟩)]⟩) →
    LoopC (cx Tryz.prog w0 I0 n) l1_arena_Of Q ⟨lk [(3,.pob [0] 1 0),(8,sgs l),(9,iv l.length),(10,iv i)],lkH [([0],⟨1,.cells [.osl [1] u 1 0 i,iv 0,iv 0,iv 0]⟩),([1],⟨u,.arr 1 ((l.map ws).take i)⟩)]⟩ := by
  intro k
  induction k with
  | zero =>
    intro i u hi hq
    have : i = l.length := by omega
    subst this
    refine loopC_once mixed l1_arena_Of.eq_1 ?_
    simp
    simpa [List.take_of_length_le] using hq u
  | succ k ih =>
    intro i u hi hq
    have hlt : i < l.length := by omega
    refine loopC_once mixed l1_arena_Of.eq_1 ?_
    simp [hlt]
    refine sc_call (clone_spec false _ (hb _ (List.getElem_mem _))).spec rfl ?_
    simp
    have h24 : (i + 1) * 24≤140737488355328 := by omega
    refine ⟨⟨by omega,h24⟩,?_⟩
    rw [i64_same (by omega) (by omega)]
    have := ih (i + 1) (u + 1) (by omega) hq
    rw [List.take_succ_eq_append_getElem (by simpa using hlt)] at this
    simpa [List.take_take] using this
abbrev arX (l : List (List Int)) (z m u : Int) : A := .pim [sgs l,iv z,iv m,iv u]
abbrev arn (l : List (List Int)) : A := arX l 0 0 0
theorem frz_sgs {H : Hp} {o : Nm} {u n : Nat} {l : List (List Int)} (h : vr (H o) u = some (1,l.map ws)) (hn : n = l.length) : Frz H (.osl o u 1 0 n) (sgs l) := by
  subst hn
  have := frz_osl (H := H) (o := o) (u := u) (off := 0) (len := l.length) (sz := 1) (xs := l.map ws) (by simpa using h) (by simp) (by simp [List.take_of_length_le])
  simp [List.take_of_length_le] at this
  exact this
theorem of_spec (l : List (List Int)) (hl : l.length * 24≤140737488355328) (hb : ∀ x,x ∈ l→x.length * 8≤140737488355328) : G.Spec Tryz.prog 32 [sgs l] (arn l) := by
  refine spec_of t_arena_Of (by simp) fun w0 I0 => ?_
  unfold c_arena_Of
  simp
  refine LoopC.le (le_blankC (d := [0]) 0 [1] 1 rfl rfl (by simp)) ?_
  simp
  refine of_loop hl hb l.length 0 1 (by omega) (fun u' => ?_)
  simp
  refine frz_pob (by simp; rfl) ?_ (by simp)
  simp
  exact ⟨frz_sgs (by simp) rfl,frz_bare rfl⟩
theorem len_spec {z m u : Int} (l : List (List Int)) : G.Spec Tryz.prog 168 [arX l z m u] (iv l.length) := by
  refine spec_of t_arena_Arena_Len (by simp) fun w0 I0 => ?_
  unfold c_arena_Arena_Len
  simp
  exact frz_bare rfl
def seg (l : List (List Int)) (s : Int) : Option (List Int) := if 0≤s then l[s.toNat]? else none
def szAt (l : List (List Int)) (s : Int) : Nat := ((seg l s).map List.length).getD 0
theorem seg_in {l : List (List Int)} {s : Int} (h0 : 0≤s) (h1 : s < l.length) : ∃ h : s.toNat < l.length,seg l s = some l[s.toNat] := by
  have : s.toNat < l.length := by omega
  exact ⟨this,by simp [seg,h0,this]⟩
theorem seg_out {l : List (List Int)} {s : Int} (h : s < 0∨l.length≤s) : seg l s = none := by
  unfold seg
  split
  · rw [List.getElem?_eq_none_iff]; omega
  · rfl
theorem seg_some {l : List (List Int)} {s : Int} {g : List Int} (h : seg l s = some g) : 0≤s∧s < l.length∧∃ h : s.toNat < l.length,g = l[s.toNat] := by
  unfold seg at h
  split at h
  · obtain ⟨h1,h2⟩ := List.getElem?_eq_some_iff.1 h
    exact ⟨by assumption,by omega,h1,h2.symm⟩
  · cases h
theorem size_spec {z m u : Int} (l : List (List Int)) (s : Int) : G.Spec Tryz.prog 167 [arX l z m u,iv s] (iv (szAt l s)) := by
  refine spec_of t_arena_Arena_Size (by simp) fun w0 I0 => ?_
  unfold c_arena_Arena_Size
  simp
  refine sc_call_gf rfl (fun _ => len_spec (z := z) (m := m) (u := u) l) (fun e => by simp [e]) rfl ?_
  simp
  refine ⟨fun h => ?_,fun h0 h1 => ?_⟩
  · rw [szAt,seg_out h]
    exact frz_bare rfl
  · obtain ⟨h2,e1⟩ := seg_in h0 h1
    simp [h0,h1,h2]
    rw [szAt,e1]
    exact frz_int rfl
def hasW (l : List (List Int)) (s a n : Int) : Bool := decide (0≤s∧s < l.length∧0≤a∧0≤n∧a + n≤szAt l s)
theorem has_spec {z m u : Int} (l : List (List Int)) (hb : ∀ x,x ∈ l→x.length * 8≤140737488355328) (s a n : Int) : G.Spec Tryz.prog 162 [arX l z m u,iv s,iv a,iv n] (bv (hasW l s a n)) := by
  have hz : szAt l s * 8≤140737488355328 := by
    unfold szAt
    cases h : seg l s with
    | none => simp
    | some g =>
      obtain ⟨_,_,h2,rfl⟩ := seg_some h
      simpa using hb _ (List.getElem_mem h2)
  refine spec_of t_arena_Arena_Has (by simp) fun w0 I0 => ?_
  unfold c_arena_Arena_Has
  simp
  refine sc_call (size_spec l s) rfl ?_
  simp
  refine sc_call_gt rfl (fun _ => len_spec (z := z) (m := m) (u := u) l) (fun e => by simp [e]) rfl ?_
  simp
  refine frz_bool ?_
  rw [Bool.eq_iff_iff]
  simp only [Bool.and_eq_true,decide_eq_true_eq,hasW]
  constructor
  · rintro ⟨⟨⟨⟨⟨h1,h2⟩,h3⟩,h4⟩,h5⟩,h6⟩
    rw [i64_same (by omega) (by omega)] at h6
    omega
  · rintro ⟨h1,h2,h3,h4,h5⟩
    rw [i64_same (by omega) (by omega)]
    omega
def word (l : List (List Int)) (s a : Int) : Option Int := if 0≤a then (seg l s).bind fun g => g[a.toNat]? else none
theorem hasW_one {l : List (List Int)} {s a : Int} : hasW l s a 1 = (word l s a).isSome := by
  rw [Bool.eq_iff_iff]
  simp only [hasW,decide_eq_true_eq]
  simp only [word,szAt]
  constructor
  · rintro ⟨h1,h2,h3,h4,h5⟩
    obtain ⟨h6,e1⟩ := seg_in h1 h2
    rw [e1] at h5
    simp at h5
    simp [h3,e1]
    omega
  · intro h
    split at h
    · rename_i h3
      cases e : seg l s with
      | none => simp [e] at h
      | some g =>
        obtain ⟨k1,k2,_⟩ := seg_some e
        simp [e] at h
        simp
        omega
    · simp at h
theorem word_some {l : List (List Int)} {s a x : Int} (h : word l s a = some x) : 0≤s∧s < l.length∧0≤a∧∃ (h1 : s.toNat < l.length) (h2 : a.toNat < l[s.toNat].length),x = l[s.toNat][a.toNat] := by
  unfold word at h
  split at h
  · rename_i h3
    cases e : seg l s with
    | none => simp [e] at h
    | some g =>
      obtain ⟨k1,k2,k3,rfl⟩ := seg_some e
      simp only [e,Option.bind_some] at h
      obtain ⟨h1,h2⟩ := List.getElem?_eq_some_iff.1 h
      exact ⟨k1,k2,h3,k3,h1,h2.symm⟩
  · cases h
theorem get_spec {z m u : Int} (l : List (List Int)) (hb : ∀ x,x ∈ l→x.length * 8≤140737488355328) (s a : Int) : G.Spec Tryz.prog 155 [arX l z m u,iv s,iv a] (.tup [uv ((word l s a).getD 0),bv (word l s a).isSome]) := by
  refine spec_of t_arena_Arena_Get (by simp) fun w0 I0 => ?_
  unfold c_arena_Arena_Get
  simp
  refine sc_call (has_spec l hb s a 1) rfl ?_
  simp [hasW_one]
  cases h : word l s a with
  | none =>
    simp
    exact frz_bare rfl
  | some x =>
    obtain ⟨k1,k2,k3,k4,k5,rfl⟩ := word_some h
    have k6 : a < l[s.toNat].length := by omega
    simp [k1,k2,k3,k4,k5,k6]
    exact frz_bare rfl
def part (l : List (List Int)) (s a n : Int) : List Int := (((seg l s).getD []).drop a.toNat).take n.toNat
theorem hasW_in {l : List (List Int)} {s a n : Int} (h : hasW l s a n = true) : 0≤s∧s < l.length∧0≤a∧0≤n∧∃ h : s.toNat < l.length,seg l s = some l[s.toNat]∧a + n≤l[s.toNat].length := by
  simp only [hasW,decide_eq_true_eq] at h
  obtain ⟨h1,h2,h3,h4,h5⟩ := h
  obtain ⟨h6,e1⟩ := seg_in h1 h2
  rw [szAt,e1] at h5
  exact ⟨h1,h2,h3,h4,h6,e1,h5⟩
theorem part_spec {z m u : Int} (l : List (List Int)) (hb : ∀ x,x ∈ l→x.length * 8≤140737488355328) (s a n : Int) : G.Spec Tryz.prog 164 [arX l z m u,iv s,iv a,iv n] (if hasW l s a n = true then .tup [ws (part l s a n),bv true] else .tup [ws [],bv false]) := by
  refine spec_of t_arena_Arena_Part (by simp) fun w0 I0 => ?_
  unfold c_arena_Arena_Part
  simp
  refine sc_call (has_spec l hb s a n) rfl ?_
  cases h : hasW l s a n with
  | false =>
    simp
    refine frz_tup ?_
    simp
    exact ⟨frz_sl,frz_bare rfl⟩
  | true =>
    obtain ⟨h1,h2,h3,h4,h5,e1,h6⟩ := hasW_in h
    have hg := hb _ (List.getElem_mem h5)
    simp [h1,h2,h5]
    rw [i64_same (by omega) (by omega)]
    have h7 : 0≤a + n := by omega
    have h8 : a≤max (a + n) 0 := by omega
    simp [h3,h6,h7,h4,h8]
    have e : List.take ((a + n).toNat - a.toNat) (List.drop a.toNat (List.map uv l[s.toNat])) = (part l s a n).map uv := by
      rw [part,e1,show (a + n).toNat - a.toNat = n.toNat from by omega]
      simp
    rw [e]
    have hl : (part l s a n).length * 8≤140737488355328 := by
      rw [part,e1]
      simp
      omega
    refine sc_call (clone_spec _ _ hl).spec rfl ?_
    simp
    exact frz_bare rfl
end Go.Proofs.YthfiijdbnkaabaaGreat

namespace Go.Proofs.YthfiijdbnkaabaaGreat
set_option linter.unusedVariables false
set_option linter.unusedSimpArgs false
open Go Go.G Go.Proofs
def bitsOf (c : Int) : Int := if c = 0 then 0 else if c = 1 then 1 else if c = 2 then 8 else if c = 3 then 16 else if c = 4 then 32 else 64
def wordsP (p : Pt) : Option Int :=
  if p.kind = 1 then some (p.data + p.ptrs)
  else if p.kind = 2∧p.code = 7 then some (p.count + 1)
  else if p.kind = 2∧0≤p.code∧p.code≤6∧0≤p.count∧p.count≤536870911 then some ((p.count * bitsOf p.code + 63) / 64)
  else none
def Sums (p : Pt) : Prop := -9223372036854775808≤p.data + p.ptrs∧p.data + p.ptrs < 9223372036854775808∧-9223372036854775808≤p.count + 1∧p.count + 1 < 9223372036854775808
set_option maxRecDepth 8000 in
theorem words_spec (p : Pt) (hs : Sums p) : G.Spec Tryz.prog 169 [p.a] (.tup [iv ((wordsP p).getD 0),bv (wordsP p).isSome]) := by
  obtain ⟨s1,s2,s3,s4⟩ := hs
  refine spec_of t_ptr_Ptr_Words (by simp) fun w0 I0 => ?_
  unfold c_ptr_Ptr_Words
  simp
  refine ⟨fun h => ?_,fun h => ⟨fun h2 h3 => ?_,fun h2 => ?_⟩⟩
  · rw [i64_same s1 s2]
    refine frz_is rfl ?_
    simp [wordsP,h]
  · rw [i64_same s3 s4]
    refine frz_is rfl ?_
    simp [wordsP,h,h2,h3]
  · refine sc_call_gt rfl (fun _ => within_spec p.code 6) (fun e => by simp [e]) rfl ?_
    simp
    refine sc_call_gt rfl (fun _ => within_spec p.count 536870911) (fun e => by simp [e]) rfl ?_
    simp
    refine ⟨fun a1 a2 a3 a4 a5 => ?_,fun hn => ?_⟩
    · obtain ⟨k,o,d,q,co,n,sg,b⟩ := p
      simp only at *
      have hc : co = 0∨co = 1∨co = 2∨co = 3∨co = 4∨co = 5∨co = 6 := by omega
      rcases hc with rfl | rfl | rfl | rfl | rfl | rfl | rfl
      all_goals
        simp
        simp (disch := omega) only [i64_same,Int.tdiv_eq_ediv_of_nonneg]
        refine frz_is rfl ?_
        simp [wordsP,a1,a4,a5,bitsOf]
    · refine frz_is rfl ?_
      have e : wordsP p = none := by
        rw [wordsP,if_neg h,if_neg (fun ⟨h3,h4⟩ => h2 h3 h4),if_neg (fun ⟨b1,b2,b3,b4,b5⟩ => by have := hn b1 b2 b3 b4; omega)]
      simp [e]
structure Lc where
  p : Pt
  s : Int
  at_ : Int
deriving DecidableEq
def Pt.l (p : Pt) : List A := [iv p.kind,iv p.off,iv p.data,iv p.ptrs,iv p.code,iv p.count,iv p.seg,bv p.dbl]
@[simp] theorem Pt.l_eq (p : Pt) : p.l = [iv p.kind,iv p.off,iv p.data,iv p.ptrs,iv p.code,iv p.count,iv p.seg,bv p.dbl] := rfl
def Pt.zero : Pt := ⟨0,0,0,0,0,0,0,false⟩
def Lc.zero : Lc := ⟨Pt.zero,0,0⟩
abbrev Lc.a (x : Lc) : A := .agg [iv x.p.kind,iv x.p.off,iv x.p.data,iv x.p.ptrs,iv x.p.code,iv x.p.count,iv x.p.seg,bv x.p.dbl,iv x.s,iv x.at_]
def insideP (l : List (List Int)) (x : Lc) : Lc × Int := if hasW l x.s x.at_ ((wordsP x.p).getD 0) = true then (⟨{ x.p with off := 0 },x.s,x.at_⟩,0) else (Lc.zero,7)
theorem inside_spec (l : List (List Int)) (hb : ∀ x,x ∈ l→x.length * 8≤140737488355328) (x : Lc) (hs : Sums x.p) : G.Spec Tryz.prog 163 [arn l,x.a] (.tup [(insideP l x).1.a,iv (insideP l x).2]) := by
  refine spec_of t_far_inside (by simp) fun w0 I0 => ?_
  unfold c_far_inside
  simp
  refine sc_call (words_spec x.p hs) rfl ?_
  simp
  refine sc_call (has_spec l hb _ _ _) rfl ?_
  simp
  refine ⟨fun h => ?_,fun h => ?_⟩
  · refine frz_is rfl ?_
    simp [insideP,h]
  · refine frz_is rfl ?_
    simp [insideP,h,Lc.zero,Pt.zero]
def nearP (l : List (List Int)) (p : Pt) (s a : Int) : Lc × Int :=
  if p.kind = 1∨p.kind = 2 then insideP l ⟨p,s,a + 1 + p.off⟩ else if p.kind = 4 then (Lc.zero,9) else (Lc.zero,8)
theorem far_near_spec (l : List (List Int)) (hb : ∀ x,x ∈ l→x.length * 8≤140737488355328) (p : Pt) (s a : Int) (hs : Sums p) (h1 : -1000000000000000000≤a) (h2 : a≤1000000000000000000) (h3 : -1000000000000000000≤p.off) (h4 : p.off≤1000000000000000000) :
    G.Spec Tryz.prog 156 [arn l,p.a,iv s,iv a] (.tup [(nearP l p s a).1.a,iv (nearP l p s a).2]) := by
  refine spec_of t_far_near (by simp) fun w0 I0 => ?_
  unfold c_far_near
  simp
  have go : p.kind = 1∨p.kind = 2→nearP l p s a = insideP l ⟨p,s,a + 1 + p.off⟩ := fun h => by rw [nearP,if_pos h]
  refine ⟨fun h => ?_,fun h => ?_⟩
  · have hd : decide (p.kind = 1) = true := by simp [h]
    rw [k1_far_near.eq_1]
    simp [hd]
    simp (disch := omega) only [i64_same]
    refine sc_call (inside_spec l hb ⟨p,s,a + 1 + p.off⟩ hs) rfl ?_
    simp
    rw [go (.inl h)]
    exact frz_bare rfl
  · rw [k1_far_near.eq_1]
    simp
    refine ⟨fun h2 => ?_,fun h2 => ⟨fun h4 => ?_,fun h4 => ?_⟩⟩
    · simp (disch := omega) only [i64_same]
      refine sc_call (inside_spec l hb ⟨p,s,a + 1 + p.off⟩ hs) rfl ?_
      simp
      rw [go (.inr h2)]
      exact frz_bare rfl
    · refine frz_is rfl ?_
      simp [nearP,h4,Lc.zero,Pt.zero]
    · refine frz_is rfl ?_
      simp [nearP,h,h2,h4,Lc.zero,Pt.zero]
def Wds (l : List (List Int)) : Prop := ∀ x,x ∈ l→∀ y,y ∈ x→0≤y∧y < 18446744073709551616
theorem dec_sums {w : Int} (h0 : 0≤w) (h1 : w < 18446744073709551616) : Sums (dec w) := by
  unfold Sums dec
  repeat' split
  all_goals simp only
  all_goals omega
theorem dec_off {w : Int} (h0 : 0≤w) (h1 : w < 18446744073709551616) : -536870912≤(dec w).off∧(dec w).off≤536870912∧0≤(dec w).seg∧(dec w).seg < 4294967296 := by
  obtain ⟨o1,o2,_⟩ := offs_in w
  unfold dec
  repeat' split
  all_goals simp only
  all_goals omega
theorem word_in {l : List (List Int)} (hw : Wds l) {s a x : Int} (h : word l s a = some x) : 0≤x∧x < 18446744073709551616 := by
  obtain ⟨_,_,_,h1,h2,rfl⟩ := word_some h
  exact hw _ (List.getElem_mem h1) _ (List.getElem_mem h2)
def doubleP (l : List (List Int)) (s a : Int) : Lc × Int :=
  match word l s a,word l s (a + 1) with
  | some v,some w =>
    if (dec v).kind ≠ 3∨(dec v).dbl = true then (Lc.zero,8)
    else if (dec w).kind = 4 then (Lc.zero,9)
    else if ((dec w).kind ≠ 1∧(dec w).kind ≠ 2)∨(dec w).off ≠ 0 then (Lc.zero,8)
    else insideP l ⟨dec w,(dec v).seg,(dec v).off⟩
  | _,_ => (Lc.zero,7)
theorem hasW_two {l : List (List Int)} {s a : Int} : hasW l s a 2 = ((word l s a).isSome && (word l s (a + 1)).isSome) := by
  rw [← hasW_one,← hasW_one,Bool.eq_iff_iff]
  simp only [hasW,Bool.and_eq_true,decide_eq_true_eq]
  omega
theorem part_two {l : List (List Int)} {s a v w : Int} (h1 : word l s a = some v) (h2 : word l s (a + 1) = some w) : part l s a 2 = [v,w] := by
  obtain ⟨k1,k2,k3,k4,k5,rfl⟩ := word_some h1
  obtain ⟨_,_,k6,_,k7,rfl⟩ := word_some h2
  obtain ⟨_,e⟩ := seg_in k1 k2
  have e1 : (a + 1).toNat = a.toNat + 1 := by omega
  simp only [e1] at k7
  rw [part,e]
  simp only [Option.getD_some,e1]
  rw [List.drop_eq_getElem_cons k5,List.drop_eq_getElem_cons k7]
  rfl
theorem double_spec (l : List (List Int)) (hb : ∀ x,x ∈ l→x.length * 8≤140737488355328) (hw : Wds l) (s a : Int) :
    G.Spec Tryz.prog 157 [arn l,iv s,iv a] (.tup [(doubleP l s a).1.a,iv (doubleP l s a).2]) := by
  refine spec_of t_far_double (by simp) fun w0 I0 => ?_
  unfold c_far_double
  simp
  refine sc_call (part_spec l hb s a 2) rfl ?_
  rw [hasW_two]
  cases h1 : word l s a with
  | none =>
    simp
    refine frz_is rfl ?_
    simp [doubleP,h1,Lc.zero,Pt.zero]
  | some v =>
    cases h2 : word l s (a + 1) with
    | none =>
      simp
      refine frz_is rfl ?_
      simp [doubleP,h1,h2,Lc.zero,Pt.zero]
    | some w =>
      obtain ⟨v0,v1⟩ := word_in hw h1
      obtain ⟨w0',w1⟩ := word_in hw h2
      rw [part_two h1 h2]
      simp
      refine sc_call (Decode_spec v0 v1) rfl ?_
      simp
      refine sc_call (Decode_spec w0' w1) rfl ?_
      simp
      have hs := dec_sums w0' w1
      generalize hv : dec v = p
      generalize hq : dec w = q at hs
      have e : doubleP l s a = if p.kind ≠ 3∨p.dbl = true then (Lc.zero,8) else if q.kind = 4 then (Lc.zero,9) else if (q.kind ≠ 1∧q.kind ≠ 2)∨q.off ≠ 0 then (Lc.zero,8) else insideP l ⟨q,p.seg,p.off⟩ := by
        simp only [doubleP,h1,h2,hv,hq]
      refine ⟨fun h => ?_,fun a1 a2 => ⟨fun h3 => ?_,fun h3 => ⟨fun h4 => ?_,fun h4 h5 => ?_⟩⟩⟩
      · rw [e,if_pos h]
        exact frz_bare rfl
      · rw [e,if_neg (by simp [a1,a2]),if_pos h3]
        exact frz_bare rfl
      · rw [e,if_neg (by simp [a1,a2]),if_neg h3,if_pos (by simpa using h4)]
        exact frz_bare rfl
      · refine sc_call (inside_spec l hb ⟨q,p.seg,p.off⟩ hs) rfl ?_
        simp
        rw [e,if_neg (by simp [a1,a2]),if_neg h3,if_neg (by simp [h5]; omega)]
        exact frz_bare rfl
def followP (l : List (List Int)) (s a : Int) : Lc × Int :=
  match word l s a with
  | none => (Lc.zero,7)
  | some w =>
    if (dec w).kind = 0 then (Lc.zero,0)
    else if (dec w).kind ≠ 3 then nearP l (dec w) s a
    else if (dec w).dbl = true then doubleP l (dec w).seg (dec w).off
    else match word l (dec w).seg (dec w).off with
      | none => (Lc.zero,7)
      | some v => nearP l (dec v) (dec w).seg (dec w).off
theorem follow_spec (l : List (List Int)) (hb : ∀ x,x ∈ l→x.length * 8≤140737488355328) (hw : Wds l) (s a : Int) :
    G.Spec Tryz.prog 135 [arn l,iv s,iv a] (.tup [(followP l s a).1.a,iv (followP l s a).2]) := by
  refine spec_of t_far_Follow (by simp) fun w0 I0 => ?_
  unfold c_far_Follow
  simp
  refine sc_call (get_spec l hb s a) rfl ?_
  simp
  cases h1 : word l s a with
  | none =>
    simp
    refine frz_is rfl ?_
    simp [followP,h1,Lc.zero,Pt.zero]
  | some w =>
    obtain ⟨k1,k2,k3,k4,k5,_⟩ := word_some h1
    have hla := hb _ (List.getElem_mem k4)
    obtain ⟨v0,v1⟩ := word_in hw h1
    simp
    refine sc_call (Decode_spec v0 v1) rfl ?_
    simp
    have hs := dec_sums v0 v1
    obtain ⟨o1,o2,o3,o4⟩ := dec_off v0 v1
    generalize hv : dec w = p at *
    have e : followP l s a = if p.kind = 0 then (Lc.zero,0) else if p.kind ≠ 3 then nearP l p s a else if p.dbl = true then doubleP l p.seg p.off else match word l p.seg p.off with | none => (Lc.zero,7) | some v => nearP l (dec v) p.seg p.off := by
      simp only [followP,h1,hv]
    refine ⟨fun h0 => ?_,fun h0 => ⟨fun h3 => ⟨fun hd => ?_,fun hd => ?_⟩,fun h3 => ?_⟩⟩
    · rw [e,if_pos h0]
      exact frz_bare rfl
    · refine sc_call (double_spec l hb hw p.seg p.off) rfl ?_
      simp
      rw [e,if_neg h0,if_neg (by simp [h3]),if_pos hd]
      exact frz_bare rfl
    · rw [if_neg h0,if_neg (by simp [h3]),if_neg (by simp [hd])] at e
      refine sc_call (get_spec l hb p.seg p.off) rfl ?_
      simp
      cases h2 : word l p.seg p.off with
      | none =>
        simp [h2] at e
        simp
        rw [e]
        exact frz_bare rfl
      | some v =>
        simp [h2] at e
        simp
        obtain ⟨j0,j1⟩ := word_in hw h2
        obtain ⟨q1,q2,q3,q4⟩ := dec_off j0 j1
        refine sc_call (Decode_spec j0 j1) rfl ?_
        simp
        refine sc_call (far_near_spec l hb (dec v) p.seg p.off (dec_sums j0 j1) (by omega) (by omega) (by omega) (by omega)) rfl ?_
        simp
        rw [e]
        exact frz_bare rfl
    · refine sc_call (far_near_spec l hb p s a hs (by omega) (by omega) (by omega) (by omega)) rfl ?_
      simp
      rw [e,if_neg h0,if_pos (by simpa using h3)]
      exact frz_bare rfl
end Go.Proofs.YthfiijdbnkaabaaGreat

namespace Go.Proofs.YthfiijdbnkaabaaGreat
set_option linter.unusedVariables false
set_option linter.unusedSimpArgs false
open Go Go.G Go.Proofs
theorem refWords_k1 {n : Nat} {w0 : World} {I0 : Nat→Prop} {p : Pt} {m r : Int} (m0 : 0 < m) (m1 : m≤64) (n0 : 0≤p.count) (n1 : p.count < 536870912) (hr : r = if 0 < p.count % m then p.count / m + 1 else p.count / m) :
    WPC (cx Tryz.prog w0 I0 n) k1_centoref04_Words (RetC Tryz.prog [.tmp 2] (iv r)) ⟨lk [(1,.pob [0] 1 0),(3,iv m)],lkH [([0],⟨1,.cells [iv p.kind,iv p.off,iv p.data,iv p.ptrs,iv p.code,iv p.count,iv p.seg,bv p.dbl]⟩)]⟩ := by
  have hm : ¬ m = 0 := by omega
  have d1 : 0≤p.count / m := Int.ediv_nonneg n0 (by omega)
  have d2 : p.count / m≤p.count := Int.ediv_le_self _ n0
  unfold k1_centoref04_Words
  simp [hm,Int.tmod_eq_emod_of_nonneg n0,Int.tdiv_eq_ediv_of_nonneg n0]
  simp (disch := omega) only [i64_same]
  refine ⟨fun h => ?_,fun h => ?_⟩
  · rw [hr,if_pos h]
    exact frz_bare rfl
  · rw [hr,if_neg (by omega)]
    exact frz_bare rfl
theorem refWords_spec (p : Pt) (hs : Sums p) : G.Spec Tryz.prog 159 [p.a] (iv ((wordsP p).getD (-1))) := by
  obtain ⟨s1,s2,s3,s4⟩ := hs
  refine spec_of t_centoref04_Words (by simp) fun w0 I0 => ?_
  unfold c_centoref04_Words
  simp
  have go : p.kind = 2→0≤p.code→p.code≤6→0≤p.count→p.count < 536870912→(wordsP p).getD (-1) = (p.count * bitsOf p.code + 63) / 64 := fun h2 b1 b2 b3 b4 => by
    rw [wordsP,if_neg (by omega),if_neg (by omega),if_pos ⟨h2,b1,b2,b3,by omega⟩]
    rfl
  refine ⟨fun h => ?_,fun h => ⟨fun h2 => ⟨fun h7 => ?_,fun h7 => ⟨fun hx => ?_,fun b1 b2 b3 b4 => ⟨fun c0 => ?_,fun c0 => ⟨fun c1 => ?_,fun c1 => ⟨fun c2 => ?_,fun c2 => ⟨fun c3 => ?_,fun c3 => ⟨fun c4 => ?_,fun c4 => ?_⟩⟩⟩⟩⟩⟩⟩,fun h2 => ?_⟩⟩
  · rw [i64_same s1 s2]
    exact frz_int (by simp [wordsP,h])
  · rw [i64_same s3 s4]
    exact frz_int (by simp [wordsP,h2,h7])
  · refine frz_int ?_
    rw [wordsP,if_neg h,if_neg (by omega),if_neg (by omega)]
    rfl
  · refine frz_int ?_
    rw [go h2 b1 b2 b3 b4,c0]
    simp [bitsOf]
  · refine refWords_k1 (m := 64) (by omega) (by omega) b3 b4 ?_
    rw [go h2 b1 b2 b3 b4,c1,show bitsOf 1 = 1 from rfl]
    split <;> omega
  · refine refWords_k1 (m := 8) (by omega) (by omega) b3 b4 ?_
    rw [go h2 b1 b2 b3 b4,c2,show bitsOf 2 = 8 from rfl]
    split <;> omega
  · refine refWords_k1 (m := 4) (by omega) (by omega) b3 b4 ?_
    rw [go h2 b1 b2 b3 b4,c3,show bitsOf 3 = 16 from rfl]
    split <;> omega
  · refine refWords_k1 (m := 2) (by omega) (by omega) b3 b4 ?_
    rw [go h2 b1 b2 b3 b4,c4,show bitsOf 4 = 32 from rfl]
    split <;> omega
  · refine refWords_k1 (m := 1) (by omega) (by omega) b3 b4 ?_
    have h56 : p.code = 5∨p.code = 6 := by omega
    rw [go h2 b1 b2 b3 b4]
    have hb : bitsOf p.code = 64 := by rcases h56 with h | h <;> rw [h] <;> rfl
    rw [hb]; split <;> omega
  · refine frz_int ?_
    rw [wordsP,if_neg h,if_neg (by omega),if_neg (by omega)]
    rfl
theorem refHas_spec (l : List (List Int)) (s a : Int) : G.Spec Tryz.prog 140 [sgs l,iv s,iv a] (bv (word l s a).isSome) := by
  refine spec_of t_centoref06_has (by simp) fun w0 I0 => ?_
  unfold c_centoref06_has
  simp
  by_cases h : 0≤s∧s < l.length∧0≤a
  · obtain ⟨h0,h1,h2⟩ := h
    obtain ⟨h3,e1⟩ := seg_in h0 h1
    simp [h0,h1,h2,h3]
    refine frz_bool ?_
    rw [Bool.eq_iff_iff]
    simp [word,h2,e1]
  · have hd : (decide (0≤s) && decide (s < l.length) && decide (0≤a)) = false := by
      rw [Bool.eq_false_iff]
      intro h'
      simp at h'
      exact h ⟨h'.1.1,h'.1.2,h'.2⟩
    simp [hd]
    refine ⟨fun h0 h1 h2 => absurd ⟨h0,h1,h2⟩ h,?_⟩
    refine frz_bool ?_
    cases e : word l s a with
    | none => rfl
    | some x =>
      obtain ⟨k1,k2,k3,_⟩ := word_some e
      exact absurd ⟨k1,k2,k3⟩ h
set_option maxRecDepth 8000 in
theorem whole_spec (l : List (List Int)) (hb : ∀ x,x ∈ l→x.length * 8≤140737488355328) (x : Lc) (hs : Sums x.p) (h0 : ∀ n,wordsP x.p = some n→0≤n) : G.Spec Tryz.prog 142 [sgs l,x.a] (.tup [(insideP l x).1.a,iv (insideP l x).2]) := by
  refine spec_of t_centoref06_whole (by simp) fun w0 I0 => ?_
  unfold c_centoref06_whole
  simp
  refine sc_call (refWords_spec x.p hs) rfl ?_
  by_cases h : x.s < 0∨l.length≤x.s∨x.at_ < 0
  · have hd : (decide (x.s < 0) || decide ((l.length : Int)≤x.s) || decide (x.at_ < 0)) = true := by
      simp
      omega
    have hh : hasW l x.s x.at_ ((wordsP x.p).getD 0) = false := by
      simp only [hasW,decide_eq_false_iff_not]
      omega
    simp [hd]
    refine frz_is rfl ?_
    simp [insideP,hh,Lc.zero,Pt.zero]
  · have k1 : 0≤x.s := by omega
    have k2 : x.s < l.length := by omega
    have k3 : 0≤x.at_ := by omega
    have k4 : ¬ (x.s < 0) := by omega
    have k5 : ¬ ((l.length : Int)≤x.s) := by omega
    have k6 : ¬ (x.at_ < 0) := by omega
    obtain ⟨k7,e1⟩ := seg_in k1 k2
    have hg := hb _ (List.getElem_mem k7)
    have hsz : szAt l x.s = l[x.s.toNat].length := by simp [szAt,e1]
    simp [k1,k2,k3,k4,k5,k6,k7]
    have hg2 : x.at_≤l[x.s.toNat].length→IntKind.i64.wrap (l[x.s.toNat].length - x.at_) = l[x.s.toNat].length - x.at_ := fun h => i64_same (by omega) (by omega)
    have hw : hasW l x.s x.at_ ((wordsP x.p).getD 0) = true ↔ x.at_≤l[x.s.toNat].length∧(wordsP x.p).getD (-1)≤l[x.s.toNat].length - x.at_ := by
      simp only [hasW,decide_eq_true_eq,hsz]
      cases e : wordsP x.p with
      | none => simp only [Option.getD_none]; omega
      | some n =>
        have := h0 n e
        simp only [Option.getD_some]; omega
    refine ⟨fun q => ?_,fun q1 q2 => ?_⟩
    · refine frz_is rfl ?_
      have hn : ¬ hasW l x.s x.at_ ((wordsP x.p).getD 0) = true := by
        rw [hw]
        rintro ⟨q1,q2⟩
        rw [hg2 q1] at q
        omega
      simp [insideP,hn,Lc.zero,Pt.zero]
    · refine frz_is rfl ?_
      rw [hg2 q1] at q2
      have hn := hw.2 ⟨q1,q2⟩
      simp [insideP,hn]
def shapeE (p : Pt) : Int := if p.kind = 4 then 9 else if p.kind ≠ 1∧p.kind ≠ 2 then 8 else 0
theorem shape_spec (p : Pt) : G.Spec Tryz.prog 141 [p.a] (iv (shapeE p)) := by
  refine spec_of t_centoref06_shape (by simp) fun w0 I0 => ?_
  unfold c_centoref06_shape
  simp
  refine ⟨fun h => ?_,fun h => ⟨fun h1 h2 => ?_,fun h1 => ?_⟩⟩
  · exact frz_int (by simp [shapeE,h])
  · exact frz_int (by simp [shapeE,h,h1,h2])
  · refine frz_int ?_
    rw [shapeE,if_neg h,if_neg (by omega)]
theorem dec_words {w : Int} (h0 : 0≤w) (h1 : w < 18446744073709551616) : ∀ n,wordsP (dec w) = some n→0≤n := by
  unfold dec
  repeat' split
  all_goals intro n
  all_goals simp only [wordsP,bitsOf]
  all_goals repeat' split
  all_goals intro h
  all_goals first | cases h | skip
  all_goals first | omega | skip
abbrev zs : List A := [iv 0,iv 0,iv 0,iv 0,iv 0,iv 0,iv 0,bv false,iv 0,iv 0]
theorem shapeE_is {p : Pt} : (shapeE p = 9∧p.kind = 4)∨(shapeE p = 8∧p.kind ≠ 4∧p.kind ≠ 1∧p.kind ≠ 2)∨(shapeE p = 0∧(p.kind = 1∨p.kind = 2)) := by
  unfold shapeE
  repeat' split
  all_goals omega
set_option maxRecDepth 8000 in
theorem refFollow_k2 {n : Nat} {w0 : World} {I0 : Nat→Prop} {l : List (List Int)} (hb : ∀ x,x ∈ l→x.length * 8≤140737488355328) {p : Pt} {s a : Int} (hs : Sums p) (h0 : ∀ n,wordsP p = some n→0≤n) (h1 : -1000000000000000000≤a) (h2 : a≤1000000000000000000) (h3 : -1000000000000000000≤p.off) (h4 : p.off≤1000000000000000000) :
    WPC (cx Tryz.prog w0 I0 n) k2_centoref06_Follow (RetC Tryz.prog [.cell 6 141,.tmp 7] (.tup [(nearP l p s a).1.a,iv (nearP l p s a).2])) ⟨lk [(0,sgs l),(1,iv s),(2,iv a),(6,.pob [0] 1 0),(8,.pob [1] 1 0)],lkH [([0],⟨1,.cells zs⟩),([1],⟨1,.cells [iv p.kind,iv p.off,iv p.data,iv p.ptrs,iv p.code,iv p.count,iv p.seg,bv p.dbl]⟩)]⟩ := by
  unfold k2_centoref06_Follow
  simp
  refine sc_call (shape_spec p) rfl ?_
  simp
  rcases shapeE_is (p := p) with ⟨e,k⟩ | ⟨e,k⟩ | ⟨e,k⟩
  · simp [e]
    refine frz_is rfl ?_
    simp [nearP,k,Lc.zero,Pt.zero]
  · simp [e]
    refine frz_is rfl ?_
    simp [nearP,k,Lc.zero,Pt.zero]
  · simp [e]
    rw [i64_same (n := a + 1) (by omega) (by omega),i64_same (by omega) (by omega)]
    refine sc_call (whole_spec l hb ⟨p,s,a + 1 + p.off⟩ hs h0) rfl ?_
    simp
    refine frz_is rfl ?_
    simp [nearP,k]
set_option maxRecDepth 8000 in
theorem refFollow_k1 {n : Nat} {w0 : World} {I0 : Nat→Prop} {l : List (List Int)} (hb : ∀ x,x ∈ l→x.length * 8≤140737488355328) {p q : Pt} (hs : Sums q) (h0 : ∀ n,wordsP q = some n→0≤n) {e : Int} {x : Lc × Int} (hx : x = if e = 0 then insideP l ⟨q,p.seg,p.off⟩ else (Lc.zero,e)) {X : Sta→Prop} {v : VOb} :
    WPC (cx Tryz.prog w0 I0 n) k1_centoref06_Follow (ThenC X (RetC Tryz.prog [.cell 6 141,.tmp 7] (.tup [x.1.a,iv x.2]))) ⟨lk [(0,sgs l),(6,.pob [0] 1 0),(9,.pob [2] 1 0),(10,.pob [3] 1 0),(11,iv e)],lkH [([0],⟨1,.cells zs⟩),([1],v),([2],⟨1,.cells [iv p.kind,iv p.off,iv p.data,iv p.ptrs,iv p.code,iv p.count,iv p.seg,bv p.dbl]⟩),([3],⟨1,.cells [iv q.kind,iv q.off,iv q.data,iv q.ptrs,iv q.code,iv q.count,iv q.seg,bv q.dbl]⟩)]⟩ := by
  unfold k1_centoref06_Follow
  simp
  refine ⟨fun he => ?_,fun he => ?_⟩
  rotate_left
  · refine frz_is rfl ?_
    simp [hx,he,Lc.zero,Pt.zero]
  · refine sc_call (whole_spec l hb ⟨q,p.seg,p.off⟩ hs h0) rfl ?_
    simp
    refine frz_is rfl ?_
    simp [hx,he]
set_option maxRecDepth 8000 in
theorem refFollow_spec (l : List (List Int)) (hb : ∀ x,x ∈ l→x.length * 8≤140737488355328) (hw : Wds l) (s a : Int) :
    G.Spec Tryz.prog 118 [sgs l,iv s,iv a] (.tup [(followP l s a).1.a,iv (followP l s a).2]) := by
  refine spec_of t_centoref06_Follow (by simp) fun w0 I0 => ?_
  unfold c_centoref06_Follow
  simp
  refine sc_call (refHas_spec l s a) rfl ?_
  cases e1 : word l s a with
  | none =>
    simp
    refine frz_is rfl ?_
    simp [followP,e1,Lc.zero,Pt.zero]
  | some w =>
    obtain ⟨k1,k2,k3,k4,k5,rfl⟩ := word_some e1
    obtain ⟨v0,v1⟩ := word_in hw e1
    have hla := hb _ (List.getElem_mem k4)
    simp [k1,k2,k3,k4,k5]
    refine ⟨by omega,?_⟩
    refine sc_call (refDecode_spec v0 v1) rfl ?_
    have hs := dec_sums v0 v1
    have hn := dec_words v0 v1
    obtain ⟨o1,o2,o3,o4⟩ := dec_off v0 v1
    generalize hv : dec l[s.toNat][a.toNat] = p at *
    have e : followP l s a = if p.kind = 0 then (Lc.zero,0) else if p.kind ≠ 3 then nearP l p s a else if p.dbl = true then doubleP l p.seg p.off else match word l p.seg p.off with | none => (Lc.zero,7) | some v => nearP l (dec v) p.seg p.off := by
      simp only [followP,e1,hv] <;> rfl
    by_cases h0 : p.kind = 0
    · simp [h0]
      refine frz_is rfl ?_
      simp [e,h0,Lc.zero,Pt.zero]
    by_cases h3 : p.kind = 3
    · cases hd : p.dbl with
      | true =>
        simp [h3,hd]
        rw [if_neg h0,if_neg (by simp [h3]),if_pos hd] at e
        refine sc_call (refHas_spec l p.seg p.off) rfl ?_
        cases e2 : word l p.seg p.off with
        | none =>
          simp
          refine sc_call_gf rfl (fun _ => refHas_spec l p.seg (p.off + 1)) (fun e => by simp at e) rfl ?_
          simp
          refine frz_is rfl ?_
          simp [e,doubleP,e2,Lc.zero,Pt.zero]
        | some v =>
          simp
          rw [i64_same (by omega) (by omega)]
          refine sc_call_gf rfl (fun _ => refHas_spec l p.seg (p.off + 1)) (fun e => by simp [e]) rfl ?_
          cases e3 : word l p.seg (p.off + 1) with
          | none =>
            simp
            refine frz_is rfl ?_
            simp [e,doubleP,e2,e3,Lc.zero,Pt.zero]
          | some w =>
            obtain ⟨k1,k2,k3,k4,k5,rfl⟩ := word_some e2
            obtain ⟨_,_,k6,_,k7,rfl⟩ := word_some e3
            obtain ⟨v0,v1⟩ := word_in hw e2
            obtain ⟨w0',w1⟩ := word_in hw e3
            have dd : doubleP l p.seg p.off = if (dec l[p.seg.toNat][p.off.toNat]).kind ≠ 3∨(dec l[p.seg.toNat][p.off.toNat]).dbl = true then (Lc.zero,8) else if shapeE (dec l[p.seg.toNat][(p.off + 1).toNat]) = 0∧(dec l[p.seg.toNat][(p.off + 1).toNat]).off = 0 then insideP l ⟨dec l[p.seg.toNat][(p.off + 1).toNat],(dec l[p.seg.toNat][p.off.toNat]).seg,(dec l[p.seg.toNat][p.off.toNat]).off⟩ else (Lc.zero,if shapeE (dec l[p.seg.toNat][(p.off + 1).toNat]) = 0 then 8 else shapeE (dec l[p.seg.toNat][(p.off + 1).toNat])) := by
              simp only [doubleP,e2,e3]
              generalize dec l[p.seg.toNat][p.off.toNat] = x
              generalize dec l[p.seg.toNat][(p.off + 1).toNat] = y
              split
              · rfl
              · rcases shapeE_is (p := y) with ⟨e,k⟩ | ⟨e,k⟩ | ⟨e,k⟩
                · simp [e,k]
                · simp [e,k]
                · rw [if_neg (by omega)]
                  simp [e]
                  by_cases ho : y.off = 0
                  · rw [if_neg (by omega),if_pos ho]
                  · rw [if_pos (by omega),if_neg ho]
            rw [e,dd]
            simp [k1,k2,k3,k4,k5,k6,k7]
            have hs := dec_sums w0' w1
            have hn := dec_words w0' w1
            refine ⟨by omega,?_⟩
            refine sc_call (refDecode_spec v0 v1) rfl ?_
            simp [k1,k2,k3,k4,k5,k6,k7]
            rw [i64_same (by omega) (by omega)]
            simp [k6,k7]
            refine ⟨by omega,?_⟩
            refine sc_call (refDecode_spec w0' w1) rfl ?_
            generalize dec l[p.seg.toNat][p.off.toNat] = x
            generalize dec l[p.seg.toNat][(p.off + 1).toNat] = y at *
            simp
            refine ⟨fun h => ?_,fun a1 a2 => ?_⟩
            · refine frz_is rfl ?_
              rw [if_pos h]
              rfl
            · rw [if_neg (by simp [a1,a2])]
              refine sc_call (shape_spec y) rfl ?_
              simp
              refine ⟨fun h1 h2 => ?_,fun h => ?_⟩
              · exact refFollow_k1 hb hs hn (by simp [h1,h2])
              · refine refFollow_k1 hb hs hn ?_
                by_cases h1 : shapeE y = 0
                · simp [h1,h h1]
                · simp [h1]
      | false =>
        simp [h3,hd]
        rw [if_neg h0,if_neg (by simp [h3]),if_neg (by simp [hd])] at e
        refine sc_call (refHas_spec l p.seg p.off) rfl ?_
        cases e2 : word l p.seg p.off with
        | none =>
          simp
          refine frz_is rfl ?_
          simp [e,e2,Lc.zero,Pt.zero]
        | some w =>
          obtain ⟨k1,k2,k3,k4,k5,rfl⟩ := word_some e2
          obtain ⟨v0,v1⟩ := word_in hw e2
          have hla := hb _ (List.getElem_mem k4)
          simp [k1,k2,k3,k4,k5]
          refine ⟨by omega,?_⟩
          refine sc_call (refDecode_spec v0 v1) rfl ?_
          have hs := dec_sums v0 v1
          have hn := dec_words v0 v1
          obtain ⟨q1,q2,q3,q4⟩ := dec_off v0 v1
          rw [e2] at e
          simp only at e
          rw [e]
          simp
          exact refFollow_k2 hb hs hn (by omega) (by omega) (by omega) (by omega)
    · simp [h0,h3]
      rw [e,if_neg h0,if_pos h3]
      exact refFollow_k2 hb hs hn (by omega) (by omega) (by omega) (by omega)
end Go.Proofs.YthfiijdbnkaabaaGreat
