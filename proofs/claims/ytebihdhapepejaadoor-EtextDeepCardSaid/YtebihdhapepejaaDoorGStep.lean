/-
  One operation in an abstract state: what it yields, what it looks at and turns; calls by contracts.
-/
import Derived.Lib.ConvBytes
import Derived.Test.YtebihdhapepejaaDoorGScalar
import Derived.Test.YtebihdhapepejaaDoorGCopy
import Derived.Test.YtebihdhapepejaaDoorGMap
import Derived.Deep.Quiet
namespace Go.G
set_option linter.unusedVariables false
set_option linter.unusedSimpArgs false
open Go.RowKit

structure Sta where
  s : Nat → A
  H : Hp

def upd (s : Nat → A) (d : Nat) (x : A) : Nat → A := fun t => if t = d then x else s t

def Sta.put (st : Sta) (dst : Option Tmp) (x : A) (H : Hp) : Sta :=
  match dst with
  | some d => ⟨upd st.s d x, H⟩
  | none => ⟨st.s, H⟩

def evs (s : Nat → A) : Operand → A
  | .tmp t => s t
  | .const x => ofV x
  | .global g => .v (.pointer (some ⟨g, 0, none⟩))
  | .func f => .fnc f [] []

/-! ### names that are looked at, or turned: a name alone, or all below it -/
abbrev Fp := List (Nm × Bool)
def hit1 (p : Nm × Bool) (o : Nm) : Bool := if p.2 = true then p.1.isPrefixOf o else p.1 == o
def hit (l : Fp) (o : Nm) : Bool := l.any fun p => hit1 p o
def dis1 (p q : Nm × Bool) : Bool :=
  match p.2, q.2 with
  | false, false => p.1 != q.1
  | true, false => !p.1.isPrefixOf q.1
  | false, true => !q.1.isPrefixOf p.1
  | true, true => !p.1.isPrefixOf q.1 && !q.1.isPrefixOf p.1
def dis (l m : Fp) : Bool := l.all fun p => m.all fun q => dis1 p q
def Agree (l : Fp) (H H' : Hp) : Prop := ∀ o, hit l o = true → H' o = H o

theorem prefix_two {a b o : Nm} (h1 : a <+: o) (h2 : b <+: o) : a <+: b ∨ b <+: a := by
  rcases Nat.le_total a.length b.length with h | h
  · exact .inl (List.prefix_of_prefix_length_le h1 h2 h)
  · exact .inr (List.prefix_of_prefix_length_le h2 h1 h)
theorem pre_not {a b : Nm} (h : a.isPrefixOf b = false) (k : a <+: b) : False := by
  have := List.isPrefixOf_iff_prefix.2 k
  rw [h] at this
  cases this
theorem dis1_spec {p q : Nm × Bool} {o : Nm} (h : dis1 p q = true) (h1 : hit1 p o = true) (h2 : hit1 q o = true) : False := by
  obtain ⟨p, bp⟩ := p
  obtain ⟨q, bq⟩ := q
  cases bp <;> cases bq <;> simp [dis1, hit1] at h h1 h2
  · exact h (h1.trans h2.symm)
  · subst h1; exact pre_not h h2
  · subst h2; exact pre_not h h1
  · rcases prefix_two h1 h2 with k | k
    · exact pre_not h.1 k
    · exact pre_not h.2 k
theorem dis_spec {l m : Fp} {o : Nm} (h : dis l m = true) (h1 : hit l o = true) (h2 : hit m o = true) : False := by
  simp only [hit, List.any_eq_true] at h1 h2
  obtain ⟨p, hp, h1⟩ := h1
  obtain ⟨q, hq, h2⟩ := h2
  simp only [dis, List.all_eq_true] at h
  exact dis1_spec (h p hp q hq) h1 h2
theorem dis1_symm {p q : Nm × Bool} : dis1 p q = dis1 q p := by
  obtain ⟨p, bp⟩ := p
  obtain ⟨q, bq⟩ := q
  cases bp <;> cases bq <;> simp [dis1]
  · rw [Bool.eq_iff_iff]; simp only [bne_iff_ne]; exact ⟨Ne.symm, Ne.symm⟩
  · rw [Bool.and_comm]
theorem dis_symm {l m : Fp} : dis l m = dis m l := by
  rw [Bool.eq_iff_iff]
  simp only [dis, List.all_eq_true]
  exact ⟨fun h q hq p hp => by rw [dis1_symm]; exact h p hp q hq, fun h q hq p hp => by rw [dis1_symm]; exact h p hp q hq⟩
theorem hit_append {l m : Fp} {o : Nm} : hit (l ++ m) o = (hit l o || hit m o) := by simp [hit]
theorem dis_append_right {l m n : Fp} : dis l (m ++ n) = (dis l m && dis l n) := by
  rw [Bool.eq_iff_iff]
  simp only [dis, List.all_eq_true, List.all_append, Bool.and_eq_true]
  exact ⟨fun h => ⟨fun p hp => (h p hp).1, fun p hp => (h p hp).2⟩, fun h p hp => ⟨h.1 p hp, h.2 p hp⟩⟩
theorem Agree.all {H H' : Hp} {l : Fp} (h : Agree (([], true) :: l) H H') : H' = H := by
  funext o
  exact h o (by simp [hit, hit1])

/-- The object that it lies in. -/
def refs : A → Fp
  | .pob o _ _ | .osl o _ _ _ _ | .pel o _ _ _ | .mo o _ => [(o, false)]
  | _ => []
/-- Which object append turns. -/
def wrA (nm : Nm) : A → Fp
  | .osl o _ _ _ _ => [(o, false)]
  | _ => [(nm, false)]

/-! ### an operation's result does not hang on more than it looks at -/
theorem getC_agree {H H' : Hp} {o : Nm} {u : Nat} (h : H' o = H o) : getC H' o u = getC H o u := by simp [getC, h]
theorem getR_agree {H H' : Hp} {o : Nm} {u : Nat} (h : H' o = H o) : getR H' o u = getR H o u := by simp [getR, h]
theorem agree_one {H H' : Hp} {o : Nm} {l : Fp} (h : Agree l H H') (ho : (o, false) ∈ l) : H' o = H o := h o (by
  simp only [hit, List.any_eq_true]
  exact ⟨_, ho, by simp [hit1]⟩)
theorem agree_refs {H H' : Hp} {a : A} {l : Fp} (h : Agree l H H') (hs : ∀ p, p ∈ refs a → p ∈ l) :
    (∀ o u off, a = .pob o u off → H' o = H o) ∧ (∀ o u i j, a = .pel o u i j → H' o = H o) ∧ (∀ o u s off n, a = .osl o u s off n → H' o = H o) :=
  ⟨fun o u off e => by subst e; exact agree_one h (hs _ (by simp [refs])), fun o u i j e => by subst e; exact agree_one h (hs _ (by simp [refs])), fun o u s off n e => by subst e; exact agree_one h (hs _ (by simp [refs]))⟩
theorem loadA_agree {P : Program} {H H' : Hp} {t : TypeId} {a : A} (h : Agree (refs a) H H') : loadA P H' t a = loadA P H t a := by
  obtain ⟨h1, h2, h3⟩ := agree_refs h (fun _ hp => hp)
  unfold loadA
  cases a <;> try rfl
  · rename_i o u off; simp only [getC_agree (h1 o u off rfl)]
  · rename_i o u i j; simp only [getR_agree (h2 o u i j rfl)]
theorem storeA_agree {P : Program} {H H' : Hp} {t : TypeId} {a v : A} (h : Agree (refs a) H H') : storeA P H' t a v = storeA P H t a v := by
  obtain ⟨h1, h2, h3⟩ := agree_refs h (fun _ hp => hp)
  unfold storeA
  cases a <;> try rfl
  · rename_i o u off; simp only [getC_agree (h1 o u off rfl)]
  · rename_i o u i j; simp only [getR_agree (h2 o u i j rfl)]
theorem getM_agree {H H' : Hp} {o : Nm} {u : Nat} (h : H' o = H o) : getM H' o u = getM H o u := by simp [getM, h]
theorem mapGetA_agree {P : Program} {H H' : Hp} {t : TypeId} {m k : A} {ok : Bool} (h : Agree (refs m) H H') : mapGetA P H' t m k ok = mapGetA P H t m k ok := by
  unfold mapGetA
  cases m <;> try rfl
  · rename_i o u
    have e := getM_agree (u := u) (agree_one (o := o) h (by simp [refs]))
    cases k <;> try rfl
    rename_i x
    cases x <;> try rfl
    simp only [e]
theorem mapUpdA_agree {P : Program} {H H' : Hp} {t : TypeId} {m k v : A} (h : Agree (refs m) H H') : mapUpdA P H' t m k v = mapUpdA P H t m k v := by
  unfold mapUpdA
  cases m <;> try rfl
  · rename_i o u
    have e := getM_agree (u := u) (agree_one (o := o) h (by simp [refs]))
    cases k <;> try rfl
    rename_i x
    cases x <;> try rfl
    cases v <;> try rfl
    simp only [e]
theorem elemsA_agree {H H' : Hp} {s : Nat} {a : A} {l : Fp} (h : Agree l H H') (hs : ∀ p, p ∈ refs a → p ∈ l) : elemsA H' s a = elemsA H s a := by
  obtain ⟨h1, h2, h3⟩ := agree_refs h hs
  unfold elemsA
  cases a <;> try rfl
  · rename_i x
    cases x <;> try rfl
    rename_i a n c
    cases n <;> rfl
  · rename_i o u z off n; simp only [getR_agree (h3 o u z off n rfl)]
theorem srcA_agree {P : Program} {H H' : Hp} {s : Nat} {e t : TypeId} {a : A} {l : Fp} (h : Agree l H H') (hs : ∀ p, p ∈ refs a → p ∈ l) : srcA P H' s e t a = srcA P H s e t a := by
  unfold srcA
  rw [elemsA_agree h hs]
theorem appendA_agree {P : Program} {H H' : Hp} {nm : Nm} {t u : TypeId} {a b : A} (h : Agree (refs b ++ wrA nm a) H H') : appendA P H' nm t u a b = appendA P H nm t u a b := by
  have hn : (∀ o u s off n, a ≠ .osl o u s off n) → H' nm = H nm := fun hne => agree_one h (by
    refine List.mem_append_right _ ?_
    cases a <;> simp [wrA]
    rename_i o u s off n
    exact (hne o u s off n rfl).elim)
  have hsrc : ∀ s e, srcA P H' s e u b = srcA P H s e u b := fun s e => srcA_agree h (fun p hp => List.mem_append_left _ hp)
  unfold appendA
  simp only [hsrc]
  cases a with
  | osl o u' s off n =>
    have := agree_one (o := o) h (List.mem_append_right _ (by simp [wrA]))
    simp only [getR_agree this]
  | sl f xs => cases f <;> simp only [hn (by intros; simp)]
  | _ => rfl

theorem copyA_agree {P : Program} {H H' : Hp} {t : TypeId} {a b : A} (h : Agree (refs b ++ refs a) H H') : copyA P H' t a b = copyA P H t a b := by
  have hel : ∀ s, elemsA H' s b = elemsA H s b := fun s => elemsA_agree h (fun p hp => List.mem_append_left _ hp)
  obtain ⟨_, _, h3⟩ := agree_refs (a := a) h (fun p hp => List.mem_append_right _ hp)
  unfold copyA
  simp only [hel]
  cases a with
  | osl o u s off n => simp only [getR_agree (h3 o u s off n rfl)]
  | _ => rfl

theorem clearA_agree {P : Program} {H H' : Hp} {t : TypeId} {a : A} (h : Agree (refs a) H H') : clearA P H' t a = clearA P H t a := by
  obtain ⟨_, _, h3⟩ := agree_refs (a := a) h (fun p hp => hp)
  unfold clearA
  cases a with
  | osl o u s off n => simp only [getR_agree (h3 o u s off n rfl)]
  | _ => rfl

/-! ### contracts of functions -/
def okFn (P : Program) (f : FuncId) : Bool :=
  match P.funcs[f]? with
  | some fn => fn.body.isSome && !(fn.name == "runtime.NumGoroutine")
  | none => false

def Fresh (w : World) (I : Nat → Prop) (w' : World) : Nat → Prop := fun b => I b ∨ (w.heap.size ≤ b ∧ b < w'.heap.size)

/-- Pure data in, pure data out. -/
def Spec (P : Program) (f : FuncId) (args : List A) (r : A) : Prop :=
  okFn P f = true ∧ ∀ (w : World) (I : Nat → Prop) (vs : Array Value), (∀ b, I b → b < w.heap.size) → Tabs P w I → vs.size = args.length → (∀ (k : Nat) (y : A), args[k]? = some y → Rel w I mu0 y (vs.getD k undef)) →
    Calls P f vs w fun e w' => ∃ v, e = .returned v ∧ Below w.heap.size w w' ∧ Rel w' (Fresh w I w') mu0 r v

/-- Likewise; what comes back shares nothing with what goes in. -/
def SpecB (P : Program) (f : FuncId) (args : List A) (r : A) : Prop :=
  okFn P f = true ∧ ∀ (w : World) (I J : Nat → Prop) (vs : Array Value), (∀ b, I b → b < w.heap.size) → (∀ b, J b → b < w.heap.size) → Tabs P w I → vs.size = args.length → (∀ (k : Nat) (y : A), args[k]? = some y → Rel w (fun b => I b ∨ J b) mu0 y (vs.getD k undef)) →
    Calls P f vs w fun e w' => ∃ v, e = .returned v ∧ Below w.heap.size w w' ∧ Rel w' (Fresh w I w') mu0 r v

/-- The blocks of the call's own. -/
def Owned (H : Hp) (μ : Mu) (b : Nat) : Prop := ∃ o, hasB (μ o) (H o).ob = true ∧ (μ o).b = b

/-- A value of the call's own memory, seen as immutable while nothing is written. -/
def Frz (H : Hp) (a a' : A) : Prop := ∀ (c : Cx) (w : World) (I : Nat → Prop) (μ : Mu) (v : Value), Sim c w I μ H → Rel w I μ a v → Rel w (fun b => I b ∨ Owned H μ b) mu0 a' v

def FrzL (H : Hp) : List A → List A → Prop
  | [], [] => True
  | a :: l, a' :: l' => Frz H a a' ∧ FrzL H l l'
  | _, _ => False

def A.flat1 : A → Bool
  | .v _ | .any => true
  | _ => false
def A.flat : A → Bool
  | .agg cs => cs.all A.flat1
  | .tup xs => xs.all fun x => match x with
    | .agg cs => cs.all A.flat1
    | x => x.flat1
  | x => x.flat1

theorem Rel.of_flat1 {w w' : World} {I I' : Nat → Prop} {μ μ' : Mu} {a : A} {x : Value} (h : Rel w I μ a x) (hb : a.flat1 = true) : Rel w' I' μ' a x := by
  cases a <;> simp [A.flat1] at hb
  · exact .any _ _
  · cases h; exact .v _ _
theorem Rel.of_flat {w w' : World} {I I' : Nat → Prop} {μ μ' : Mu} {a : A} {x : Value} (h : Rel w I μ a x) (hb : a.flat = true) : Rel w' I' μ' a x := by
  cases a with
  | agg cs =>
    cases h with
    | agg _ _ vs hl hr =>
      refine .agg _ _ _ hl fun k y hk => (hr k y hk).of_flat1 ?_
      simp only [A.flat, List.all_eq_true] at hb
      exact hb _ (List.mem_of_getElem? hk)
  | tup xs =>
    cases h with
    | tup _ _ vs hl hr =>
      refine .tup _ _ _ hl fun k y hk => ?_
      simp only [A.flat, List.all_eq_true] at hb
      have h1 := hb _ (List.mem_of_getElem? hk)
      have h2 := hr k y hk
      generalize vs.getD k undef = u at h2 ⊢
      cases y with
      | agg cs =>
        cases h2 with
        | agg _ _ vs' hl' hr' =>
          refine .agg _ _ _ hl' fun k' y' hk' => (hr' k' y' hk').of_flat1 ?_
          simp only [List.all_eq_true] at h1
          exact h1 _ (List.mem_of_getElem? hk')
      | _ => exact h2.of_flat1 (by simpa using h1)
  | _ => exact h.of_flat1 (by simpa [A.flat] using hb)

theorem SpecB.of_flat {P : Program} {f : FuncId} {args : List A} {r : A} (h : Spec P f args r) (hr : r.flat = true) : SpecB P f args r :=
  ⟨h.1, fun w I J vs hI hJ ht hl ha => (h.2 w (fun b => I b ∨ J b) vs (fun b hb => hb.elim (hI b) (hJ b)) (ht.mono (fun _ h => .inl h) (fun _ _ => rfl)) hl ha).mono fun e w' ⟨v, h1, h2, h3⟩ => ⟨v, h1, h2, h3.of_flat hr⟩⟩
theorem SpecB.spec {P : Program} {f : FuncId} {args : List A} {r : A} (h : SpecB P f args r) : Spec P f args r :=
  ⟨h.1, fun w I vs hI ht hl ha => h.2 w I (fun _ => False) vs hI (fun _ h => h.elim) ht hl (fun k y hk => (ha k y hk).mono0 (fun b hb => .inl hb) (fun _ _ => rfl))⟩

/-- A call that looks at objects of the call's own, and turns them. -/
def CallOK (P : Program) (H : Hp) (g : FuncId) (args : List A) (x : A) (E : Eff) : Prop :=
  okFn P g = true ∧ ∀ (c : Cx) (w : World) (I : Nat → Prop) (μ : Mu) (vs : Array Value), c.P = P → Sim c w I μ H → vs.size = args.length → (∀ (k : Nat) (y : A), args[k]? = some y → Rel w I μ y (vs.getD k undef)) →
    Calls P g vs w fun e w' => ∃ v, e = .returned v ∧ ∃ I' μ', Ext I μ w I' μ' w' ∧ Sim c w' I' μ' (E.app H) ∧ Rel w' I' μ' x v

/-- What a function panics with that gives up: an empty struct of this type. -/
def dieE (t : TypeId) : PanicEntry := { v := .iface t (.agg #[]), recovered := false }
/-- The same of a call that returns so, or panics so. -/
def CallOKG (D : TypeId → Prop) (P : Program) (H : Hp) (g : FuncId) (args : List A) (x : A) (E : Eff) : Prop :=
  okFn P g = true ∧ ∀ (c : Cx) (w : World) (I : Nat → Prop) (μ : Mu) (vs : Array Value), c.P = P → Sim c w I μ H → vs.size = args.length → (∀ (k : Nat) (y : A), args[k]? = some y → Rel w I μ y (vs.getD k undef)) →
    Calls P g vs w fun e w' => (∃ v, e = .returned v ∧ ∃ I' μ', Ext I μ w I' μ' w' ∧ Sim c w' I' μ' (E.app H) ∧ Rel w' I' μ' x v) ∨ ∃ t, D t ∧ e = .panicked [dieE t] ∧ Kept c.Mb c.w0 w'

/-- It turns nothing else. -/
def Supp (E : Eff) (W : Fp) : Prop := ∀ (o : Nm) (H : Hp), hit W o = false → E.app H o = H o

/-- What stands in an interface's value, if its type is the one that is asked for. -/
def assertA (P : Program) (u : TypeId) (ok : Bool) : A → Option A
  | .ifc t a => if t = u then (match P.underlying u with
    | none => none
    | some (.interface _) => none
    | some _ => some (if ok = true then .tup [a, .v (.bool true)] else a)) else none
  | _ => none
/-- A method of a pointer's type: the function, and what is loaded for it (none: the pointer itself is its receiver). -/
def methA (P : Program) (t : TypeId) (name : String) : Option (FuncId × Option TypeId) :=
  match P.info? t with
  | some i => (match i.methods.find? (·.name == name) with
    | some m => if m.path.toList.isEmpty = true then (match m.func, P.underlying t with
      | some (f, true), some (.pointer _) => some (f, none)
      | some (f, false), some (.pointer e) => some (f, some e)
      | _, _ => none) else none
    | none => none)
  | none => none
def recvA (P : Program) (H : Hp) (d : Option TypeId) (a : A) : Option A :=
  match d with
  | none => some a
  | some e => loadA P H e a

/-- A call of a function by its contract. -/
def CallR (P : Program) (H : Hp) (g : FuncId) (args : List A) (x : A) (E : Eff) (R W : Fp) : Prop :=
  (args.all A.bare = true ∧ Spec P g args x ∧ E = .nil ∧ R = [] ∧ W = []) ∨
  ((∃ args', FrzL H args args' ∧ SpecB P g args' x) ∧ E = .nil ∧ R = [([], true)] ∧ W = []) ∨
  ((∀ H2, Agree (R ++ W) H H2 → CallOK P H2 g args x E) ∧ Supp E W)

/-- A call that may panic. -/
def CallD (D : TypeId → Prop) (P : Program) (H : Hp) (g : FuncId) (args : List A) (x : A) (E : Eff) (R W : Fp) : Prop :=
  (∀ H2, Agree (R ++ W) H H2 → CallOKG D P H2 g args x E) ∧ Supp E W

/-! ### one operation -/
def boolA : A → Option Bool
  | .v (.bool b) => some b
  | _ => none
theorem boolA_some {a : A} {b : Bool} (h : boolA a = some b) : a = .v (.bool b) := by
  unfold boolA at h
  split at h
  · cases h; rfl
  · cases h
def selA (c x y : A) : Option A := (boolA c).map fun q => bif q then x else y
def ptrA (a : A) : Option A := if a.isPtr = true then some a else none
def ifcA (P : Program) (t : TypeId) (a : A) : Option A := match P.underlying t with
  | some (.interface _) => none
  | some _ => some (.ifc t a)
  | none => none

/-- The literal nil, of a slice's type. -/
def isNilC : Operand → Bool
  | .const (.slice none 0 0) => true
  | _ => false
def nilA : A → Option Bool
  | .sl _ (_ :: _) => some false
  | .v (.slice a _ _) => some a.isNone
  | _ => none
def nilBin (P : Program) (op : BinOp) (t : TypeId) (x : A) : Option A := match P.underlying t, op with
  | some (.slice _), .eql => (nilA x).map fun b => .v (.bool b)
  | some (.slice _), .neq => (nilA x).map fun b => .v (.bool (!b))
  | _, _ => none
/-- The literal nil, of an interface's type. -/
def isNilI : Operand → Bool
  | .const .nilIface => true
  | _ => false
def nilIA : A → Option Bool
  | .v .nilIface => some true
  | .ifc _ _ => some false
  | _ => none
def nilBinI (P : Program) (op : BinOp) (t : TypeId) (x : A) : Option A := match P.underlying t, op with
  | some (.interface _), .eql => (nilIA x).map fun b => .v (.bool b)
  | some (.interface _), .neq => (nilIA x).map fun b => .v (.bool (!b))
  | _, _ => none
theorem isNilI_some {b : Operand} (h : isNilI b = true) : b = .const .nilIface := by
  unfold isNilI at h
  split at h
  · rfl
  · cases h
theorem nilBinI_sound {P : Program} {w : World} {I : Nat → Prop} {μ : Mu} {op : BinOp} {t : TypeId} {ox : Operand} {a r : A} {x : Value} (ha : Rel w I μ a x) (h : nilBinI P op t a = some r) :
    ∃ v, (do eqGuard op t ox (.const .nilIface) x .nilIface; binOp op t x .nilIface : Sem Value).run P w = .ok v w ∧ Rel w I μ r v := by
  have main : ∀ {q : Bool}, nilIA a = some q → (∃ ms, P.underlying t = some (.interface ms)) → (eqGuard op t ox (.const .nilIface) x .nilIface).run P w = .ok () w ∧ ∀ D, (Op.equalIn (D + 1) t x .nilIface).run P w = .ok q w := fun {q} hq ⟨ms, hu⟩ => by
    unfold nilIA at hq
    split at hq
    · cases hq
      cases ha
      refine ⟨?_, fun D => by simp [Op.equalIn, run_underlying hu]⟩
      unfold eqGuard
      cases op <;> cases ox <;> rfl
    · cases hq
      cases ha
      refine ⟨?_, fun D => by simp [Op.equalIn, run_underlying hu]⟩
      unfold eqGuard
      cases op <;> rfl
    · cases hq
  unfold nilBinI at h
  split at h
  · rename_i ms hu
    simp only [Option.map_eq_some_iff] at h
    obtain ⟨q, hq, rfl⟩ := h
    obtain ⟨hg, he'⟩ := main hq ⟨ms, hu⟩
    have he := he' 9999
    have hb : (binOp .eql t x .nilIface).run P w = .ok (.bool q) w := by
      have : binOp .eql t x .nilIface = (do pure (.bool (← Op.equal t x .nilIface))) := by cases x <;> rfl
      rw [this]
      simp only [Op.equal, Op.maxDepth, Sem.run_bind, he, Result.andThen_ok, Sem.run_pure]
    exact ⟨_, by rw [Sem.run_bind, hg]; exact hb, .v _ _⟩
  · rename_i ms hu
    simp only [Option.map_eq_some_iff] at h
    obtain ⟨q, hq, rfl⟩ := h
    obtain ⟨hg, he'⟩ := main hq ⟨ms, hu⟩
    have he := he' 9999
    have hb : (binOp .neq t x .nilIface).run P w = .ok (.bool (!q)) w := by
      have : binOp .neq t x .nilIface = (do pure (.bool (!(← Op.equal t x .nilIface)))) := by cases x <;> rfl
      rw [this]
      simp only [Op.equal, Op.maxDepth, Sem.run_bind, he, Result.andThen_ok, Sem.run_pure]
    exact ⟨_, by rw [Sem.run_bind, hg]; exact hb, .v _ _⟩
  · cases h
theorem isNilC_some {b : Operand} (h : isNilC b = true) : b = .const (.slice none 0 0) := by
  unfold isNilC at h
  split at h
  · rfl
  · cases h
theorem nilBin_sound {P : Program} {w : World} {I : Nat → Prop} {μ : Mu} {op : BinOp} {t : TypeId} {ox oy : Operand} {a r : A} {x : Value} (ha : Rel w I μ a x) (h : nilBin P op t a = some r) :
    ∃ v, (do eqGuard op t ox oy x (.slice none 0 0); binOp op t x (.slice none 0 0) : Sem Value).run P w = .ok v w ∧ Rel w I μ r v := by
  have main : ∀ {q : Bool}, nilA a = some q → ∃ p n k, x = .slice p n k ∧ q = p.isNone := fun {q} hq => by
    unfold nilA at hq
    split at hq
    · cases hq
      cases ha with
      | sl => exact ⟨_, _, _, rfl, rfl⟩
    · cases hq
      cases ha
      exact ⟨_, _, _, rfl, rfl⟩
    · cases hq
  unfold nilBin at h
  cases hu : P.underlying t with
  | none => rw [hu] at h; cases op <;> cases h
  | some d =>
    rw [hu] at h
    cases d <;> cases op <;> simp only [reduceCtorEq, Option.map_eq_some_iff] at h
    all_goals
      obtain ⟨q, hq, rfl⟩ := h
      obtain ⟨p, n, k, rfl, rfl⟩ := main hq
      have hg : ∀ op, (eqGuard op t ox oy (.slice p n k) (.slice none 0 0)).run P w = .ok () w := fun op => eqGuard_plain (by simp) (by simp)
      have he' : ∀ D, (Op.equalIn (D + 1) t (.slice p n k) (.slice none 0 0)).run P w = .ok p.isNone w := fun D => by cases p <;> simp [Op.equalIn, run_underlying hu]
      have he := he' 9999
      refine ⟨_, ?_, .v _ _⟩
      rw [Sem.run_bind, hg]
      simp only [binOp, Op.equal, Op.maxDepth, Sem.run_bind, he, Result.andThen_ok, Sem.run_pure]

/-! ### bytes of a text: a new row, immutable -/
def convX (P : Program) (t u : TypeId) : A → Option A
  | .v (.string s) => match P.underlying t, P.underlying u with
    | some .string, some (.slice e) => match P.underlying e with
      | some (.int .u8) => some (.sl false (s.data.toList.map fun b => .v (.int .u8 b.toNat)))
      | _ => none
    | _, _ => convA P t u (.v (.string s))
  | a => convA P t u a
theorem bytes_grown (w : World) (e : TypeId) (s : ByteArray) : w.grownBy (Lib.bytesWorld w e s) none where
  os := by simp [Lib.bytesWorld, World.freeze, World.alloc, World.drew, -World.alloc_eq, -World.drew_eq]
  tape := by simp [Lib.bytesWorld, World.freeze, World.alloc, World.drew, -World.alloc_eq, -World.drew_eq]
  output := by simp [Lib.bytesWorld, World.freeze, World.alloc, World.drew, -World.alloc_eq, -World.drew_eq]
  size := by rw [Lib.bytesWorld_size]; omega
  block := fun k hk _ => Lib.bytesWorld_at_old w e s k hk
theorem cells_u8 : ∀ (l : List UInt8), (l.map fun b => A.v (.int .u8 b.toNat)).flatMap A.cells = l.map fun b => A.v (.int .u8 b.toNat)
  | [] => rfl
  | a :: l => by rw [List.map_cons, List.flatMap_cons, cells_u8 l]; rfl
theorem convX_sound {c : Cx} {w : World} {I : Nat → Prop} {μ : Mu} {H : Hp} (hs : Sim c w I μ H) {t u : TypeId} {a r : A} {x : Value} (ha : Rel w I μ a x) (h : convX c.P t u a = some r) :
    ∃ v w', (convert t u x).run c.P w = .ok v w' ∧ ∃ I' μ', Ext I μ w I' μ' w' ∧ Sim c w' I' μ' H ∧ Rel w' I' μ' r v := by
  unfold convX at h
  split at h
  · rename_i s
    split at h
    · rename_i e hu hd
      split at h
      · rename_i he
        cases h
        cases ha
        obtain ⟨hx, hs'⟩ := hs.same (I' := fun b => I b ∨ b = w.heap.size) (bytes_grown w e s) (fun b hb => .inl hb) (fun b hb => hb.imp id fun e' => ⟨by omega, by rw [Lib.bytesWorld_size]; omega⟩)
        refine ⟨_, _, Lib.run_convert_string_bytes w t u e s hu hd he, _, μ, hx, hs', ?_⟩
        have hsz : s.size = s.data.toList.length := by show s.data.size = _; exact Array.length_toList.symm
        by_cases hn : s.data.toList = []
        · rw [hn, show s.size = 0 by rw [hsz, hn]; rfl]
          exact .slN _ _ _ _ (fun h => by cases h)
        · refine Rel.sl (I := fun b => I b ∨ b = w.heap.size) _ _ w.heap.size 0 _ _ 1 _ (fun k => .int .u8 (s.data.toList.getD k 0).toNat) (Or.inr rfl) (by rw [List.length_map]; exact hsz) (by rw [List.length_map, ← hsz]; exact grownCap_ge _ _ _ _) (fun h => by cases h) (fun q hq => by
              obtain ⟨p, _, rfl⟩ := List.mem_map.1 hq
              rfl) (fun k y hk => ?_) (fun k y hk => ?_) (fun k y hk => ?_)
          · rw [cells_u8, List.getElem?_map] at hk
            obtain ⟨b, _, rfl⟩ := Option.map_eq_some_iff.1 hk
            rfl
          · rw [cells_u8, List.getElem?_map] at hk
            obtain ⟨b, hb, rfl⟩ := Option.map_eq_some_iff.1 hk
            rw [Nat.zero_add]
            exact Lib.bytesWorld_cell w e s k (by rw [hsz]; exact (List.getElem?_eq_some_iff.1 hb).1)
          · rw [cells_u8, List.getElem?_map] at hk
            obtain ⟨b, hb, rfl⟩ := Option.map_eq_some_iff.1 hk
            rw [List.getD_eq_getElem?_getD, hb]
            exact .v _ _
      · cases h
    · obtain ⟨v, h1, h2⟩ := convA_sound (P := c.P) ha h
      exact ⟨v, w, h1, I, μ, Ext.refl _ _ _, hs, h2⟩
  · obtain ⟨v, h1, h2⟩ := convA_sound (P := c.P) ha h
    exact ⟨v, w, h1, I, μ, Ext.refl _ _ _, hs, h2⟩

def Pur (F : Option A) (x : A) (E : Eff) (R W : Fp) : Prop := F = some x ∧ E = .nil ∧ R = [] ∧ W = []
def Mak (F : Option (A × Eff)) (nm : Nm) (x : A) (E : Eff) (R W : Fp) : Prop := F = some (x, E) ∧ R = [] ∧ W = [(nm, false)]

def OpR (P : Program) (D : TypeId → Prop) (nm : Nm) (op : Op) (ρ : Operand → A) (H : Hp) (x : A) (E : Eff) (R W : Fp) : Prop :=
  match op with
  | .move a | .assign a => Pur (some (ρ a)) x E R W
  | .pick c a b => Pur (selA (ρ c) (ρ a) (ρ b)) x E R W
  | .alloc e => Mak (allocA P H nm e) nm x E R W
  | .box e a => Mak (boxA H nm e (ρ a)) nm x E R W
  | .build t ps => Pur (buildA P t (ps.toList.map fun p => (p.1, ρ p.2))) x E R W
  | .buildSlice t n ps => match nm with
    | [] => Pur (buildSliceA P t n (ps.toList.map fun p => (p.1, ρ p.2))) x E R W
    | a :: d => Mak (buildSliceO P H (a :: d) t n (ps.toList.map fun p => (p.1, ρ p.2))) (a :: d) x E R W
  | .load t a => loadA P H t (ρ a) = some x ∧ E = .nil ∧ R = refs (ρ a) ∧ W = []
  | .store t a v => storeA P H t (ρ a) (ρ v) = some E ∧ x = .any ∧ R = [] ∧ W = refs (ρ a)
  | .nilCheck a => Pur (ptrA (ρ a)) x E R W
  | .binOp op t a b _ => Pur (if isNilC b = true then nilBin P op t (ρ a) else if isNilI b = true then nilBinI P op t (ρ a) else binA P op t (ρ a) (ρ b)) x E R W
  | .unOp op _ a => Pur (unA op (ρ a)) x E R W
  | .convert s d a => Pur (convX P s d (ρ a)) x E R W
  | .makeSlice t l c => Mak (makeSliceA P H nm t (ρ l) (ρ c)) nm x E R W
  | .slice t a lo hi mx => Pur (sliceA P t (ρ a) (lo.map ρ) (hi.map ρ) (mx.map ρ)) x E R W
  | .fieldAddr s a f => Pur (fieldAddrA P s (ρ a) f) x E R W
  | .field s a f => Pur (fieldA P s (ρ a) f) x E R W
  | .indexAddr t a i => Pur (indexAddrA P t (ρ a) (ρ i)) x E R W
  | .index t a i => Pur (indexA P t (ρ a) (ρ i)) x E R W
  | .extract a i => Pur (extractA (ρ a) i) x E R W
  | .makeFunc (.func f) fs caps => Pur (some (.fnc f (fs.toList.map ρ) (caps.toList.map ρ))) x E R W
  | .makeInterface t a => Pur (ifcA P t (ρ a)) x E R W
  | .typeAssert a _ u ok => Pur (assertA P u ok (ρ a)) x E R W
  | .makeMap _ none => Mak (makeMapA H nm) nm x E R W
  | .mapUpdate t m k v => mapUpdA P H t (ρ m) (ρ k) (ρ v) = some E ∧ x = .any ∧ R = [] ∧ W = refs (ρ m)
  | .lookup t m k ok => mapGetA P H t (ρ m) (ρ k) ok = some x ∧ E = .nil ∧ R = refs (ρ m) ∧ W = []
  | .call c => match c.callee with
    | .builtin .len => ∃ a t, c.args = #[a] ∧ c.argTypes = #[t] ∧ Pur (lenA P t (ρ a)) x E R W
    | .builtin .append => ∃ a b t u, c.args = #[a, b] ∧ c.argTypes = #[t, u] ∧ appendA P H nm t u (ρ a) (ρ b) = some (x, E) ∧ R = refs (ρ b) ∧ W = wrA nm (ρ a)
    | .builtin .copy => ∃ a b t u, c.args = #[a, b] ∧ c.argTypes = #[t, u] ∧ copyA P H t (ρ a) (ρ b) = some (x, E) ∧ R = refs (ρ b) ∧ W = refs (ρ a)
    | .builtin .clear => ∃ a t, c.args = #[a] ∧ c.argTypes = #[t] ∧ clearA P H t (ρ a) = some (x, E) ∧ R = [] ∧ W = refs (ρ a)
    | .builtin .min => Pur (minmaxA false (c.args.toList.map ρ)) x E R W
    | .builtin .max => Pur (minmaxA true (c.args.toList.map ρ)) x E R W
    | .value f => ∃ g fs caps, ρ f = .fnc g fs caps ∧ (CallR P H g (fs ++ (c.args.toList.map ρ ++ caps)) x E R W ∨ CallD D P H g (fs ++ (c.args.toList.map ρ ++ caps)) x E R W)
    | .invoke r name => ∃ t a g d a' R0, ρ r = .ifc t a ∧ methA P t name = some (g, d) ∧ recvA P H d a = some a' ∧ CallR P H g (a' :: c.args.toList.map ρ) x E R0 W ∧ R = refs a ++ R0
    | _ => False
  | _ => False

/-- What is asked of the model's operation. -/
def ROK (c : Cx) (w : World) (I : Nat → Prop) (μ : Mu) (x : A) (H' : Hp) : Result Next → Prop
  | .ok (.value v) w' => ∃ I' μ', Ext I μ w I' μ' w' ∧ Sim c w' I' μ' H' ∧ Rel w' I' μ' x v
  | .ok .skip w' => ∃ I' μ', Ext I μ w I' μ' w' ∧ Sim c w' I' μ' H' ∧ x = .any
  | .ok (.enter f args) w' => w' = w ∧ Calls c.P f args w fun e w'' => (∃ v, e = .returned v ∧ ∃ I' μ', Ext I μ w I' μ' w'' ∧ Sim c w'' I' μ' H' ∧ Rel w'' I' μ' x v) ∨ ∃ t, c.die t ∧ e = .panicked [dieE t] ∧ Kept c.Mb c.w0 w''
  | _ => False

theorem ROK.value {c : Cx} {w : World} {I : Nat → Prop} {μ : Mu} {x : A} {H : Hp} {E : Eff} (hs : Sim c w I μ H) {m : Sem Value} (hE : E = .nil) (h : ∃ v, m.run c.P w = .ok v w ∧ Rel w I μ x v) :
    ROK c w I μ x (E.app H) ((do pure (.value (← m)) : Sem Next).run c.P w) := by
  obtain ⟨v, h1, h2⟩ := h
  subst hE
  simp only [Sem.run_bind, h1, Result.andThen_ok, Sem.run_pure]
  exact ⟨I, μ, Ext.refl _ _ _, hs, h2⟩

theorem ROK.value' {c : Cx} {w : World} {I : Nat → Prop} {μ : Mu} {x : A} {H' : Hp} {m : Sem Value} (h : ∃ v w', m.run c.P w = .ok v w' ∧ ∃ I' μ', Ext I μ w I' μ' w' ∧ Sim c w' I' μ' H' ∧ Rel w' I' μ' x v) :
    ROK c w I μ x H' ((do pure (.value (← m)) : Sem Next).run c.P w) := by
  obtain ⟨v, w', h1, I', μ', h2, h3, h4⟩ := h
  simp only [Sem.run_bind, h1, Result.andThen_ok, Sem.run_pure]
  exact ⟨I', μ', h2, h3, h4⟩

theorem ROK.run {c : Cx} {w : World} {I : Nat → Prop} {μ : Mu} {x : A} {H : Hp} {E : Eff} (hs : Sim c w I μ H) {r : Result Value} (hE : E = .nil) (h : ∃ v, r = .ok v w ∧ Rel w I μ x v) :
    ROK c w I μ x (E.app H) (r.andThen fun a w' => .ok (.value a) w') := by
  obtain ⟨v, rfl, h2⟩ := h
  subst hE
  exact ⟨I, μ, Ext.refl _ _ _, hs, h2⟩

theorem ROK.run' {c : Cx} {w : World} {I : Nat → Prop} {μ : Mu} {x : A} {H' : Hp} {r : Result Value} (h : ∃ v w', r = .ok v w' ∧ ∃ I' μ', Ext I μ w I' μ' w' ∧ Sim c w' I' μ' H' ∧ Rel w' I' μ' x v) :
    ROK c w I μ x H' (r.andThen fun a w' => .ok (.value a) w') := by
  obtain ⟨v, w', rfl, h⟩ := h
  exact h

theorem relO {w : World} {I : Nat → Prop} {μ : Mu} {ρ : Operand → A} {σ : Operand → Value} (h : ∀ x, Rel w I μ (ρ x) (σ x)) (o : Option Operand) : RelO w I μ (o.map ρ) (o.map σ) := by
  cases o with
  | none => trivial
  | some x => exact h x

theorem below_same {c : Cx} {w w' : World} {I : Nat → Prop} {μ : Mu} {H : Hp} (hs : Sim c w I μ H) (hb : Below w.heap.size w w') : Ext I μ w (Fresh w I w') μ w' ∧ Sim c w' (Fresh w I w') μ H :=
  hs.same (I' := Fresh w I w') ⟨hb.os, hb.tape, hb.output, hb.size, fun k hk _ => hb.block k hk⟩ (fun b hb => .inl hb) (fun b hb => hb)

theorem frzL_get {H : Hp} : ∀ {l l' : List A}, FrzL H l l' → l'.length = l.length ∧ ∀ (k : Nat) (a' : A), l'[k]? = some a' → ∃ a, l[k]? = some a ∧ Frz H a a'
  | [], [], _ => ⟨rfl, fun k a' h => by simp at h⟩
  | a :: l, a' :: l', h => by
    obtain ⟨h1, h2⟩ := frzL_get h.2
    refine ⟨by simp [h1], fun k x hk => ?_⟩
    cases k with
    | zero => simp at hk; subst hk; exact ⟨a, rfl, h.1⟩
    | succ k => exact h2 k x (by simpa using hk)
  | [], _ :: _, h => h.elim
  | _ :: _, [], h => h.elim

theorem call_sound {c : Cx} {w : World} {I : Nat → Prop} {μ : Mu} {H : Hp} (hs : Sim c w I μ H) {g : FuncId} {args : List A} {vs : Array Value} {x : A} {E : Eff} {R W : Fp} (hl : vs.size = args.length)
    (hr : ∀ (k : Nat) (y : A), args[k]? = some y → Rel w I μ y (vs.getD k undef)) (h : CallR c.P H g args x E R W) : ROK c w I μ x (E.app H) ((callFunc g vs).run c.P w) := by
  have enter : okFn c.P g = true → (callFunc g vs).run c.P w = .ok (.enter g vs) w := fun hk => by
    unfold okFn at hk
    cases hf : c.P.funcs[g]? with
    | none => simp [hf] at hk
    | some fn =>
      simp only [hf, Bool.and_eq_true, Bool.not_eq_true'] at hk
      have hb : fn.body.isNone = false := by cases hq : fn.body <;> simp_all
      simp only [callFunc, Sem.run_bind, run_program, Result.andThen_ok, hf, hk.2, hb, Bool.false_eq_true, if_false, Sem.run_pure]
  rcases h with ⟨hb, ⟨hk, h⟩, rfl, _, _⟩ | ⟨⟨args', hf, hk, h⟩, rfl, _, _⟩ | ⟨h, _⟩
  · rw [enter hk]
    refine ⟨rfl, (h w I vs hs.lt hs.tab hl (fun k y hy => (hr k y hy).of_bare (by simp only [List.all_eq_true] at hb; exact hb _ (List.mem_of_getElem? hy)))).mono fun e w' ⟨v, he, hbl, hv⟩ => .inl ⟨v, he, ?_⟩⟩
    obtain ⟨h1, h2⟩ := below_same hs hbl
    exact ⟨_, μ, h1, h2, hv.ofI⟩
  · rw [enter hk]
    obtain ⟨hl', hg⟩ := frzL_get hf
    refine ⟨rfl, (h w I (Owned H μ) vs hs.lt (fun b hb => by
      obtain ⟨o, h1, rfl⟩ := hb
      exact (hs.own o h1).2.2) hs.tab (by omega) (fun k y hy => ?_)).mono fun e w' ⟨v, he, hbl, hv⟩ => .inl ⟨v, he, ?_⟩⟩
    · obtain ⟨a, ha, hfa⟩ := hg k y hy
      exact hfa c w I μ _ hs (hr k a ha)
    · obtain ⟨h1, h2⟩ := below_same hs hbl
      exact ⟨_, μ, h1, h2, hv.ofI⟩
  · obtain ⟨hk, h⟩ := h H (fun _ _ => rfl)
    rw [enter hk]
    exact ⟨rfl, (h c w I μ vs rfl hs hl hr).mono fun e w' h => .inl h⟩
theorem callD_sound {c : Cx} {w : World} {I : Nat → Prop} {μ : Mu} {H : Hp} (hs : Sim c w I μ H) {g : FuncId} {args : List A} {vs : Array Value} {x : A} {E : Eff} {R W : Fp} (hl : vs.size = args.length)
    (hr : ∀ (k : Nat) (y : A), args[k]? = some y → Rel w I μ y (vs.getD k undef)) (h : CallD c.die c.P H g args x E R W) : ROK c w I μ x (E.app H) ((callFunc g vs).run c.P w) := by
  obtain ⟨h, _⟩ := h
  obtain ⟨hk, h⟩ := h H (fun _ _ => rfl)
  have e : (callFunc g vs).run c.P w = .ok (.enter g vs) w := by
    unfold okFn at hk
    cases hf : c.P.funcs[g]? with
    | none => simp [hf] at hk
    | some fn =>
      simp only [hf, Bool.and_eq_true, Bool.not_eq_true'] at hk
      have hb : fn.body.isNone = false := by cases hq : fn.body <;> simp_all
      simp only [callFunc, Sem.run_bind, run_program, Result.andThen_ok, hf, hk.2, hb, Bool.false_eq_true, if_false, Sem.run_pure]
  rw [e]
  exact ⟨rfl, (h c w I μ vs rfl hs hl hr).mono fun e w' h => h⟩

theorem selA_iff {c x y z : A} : selA c x y = some z ↔ ∃ q, c = .v (.bool q) ∧ z = bif q then x else y := by
  constructor
  · intro h
    unfold selA at h
    simp only [Option.map_eq_some_iff] at h
    obtain ⟨q, h1, h2⟩ := h
    exact ⟨q, boolA_some h1, h2.symm⟩
  · rintro ⟨q, rfl, rfl⟩; rfl

theorem map_rel {w : World} {I : Nat → Prop} {μ : Mu} {ρ : Operand → A} {σ : Operand → Value} (hρ : ∀ y, Rel w I μ (ρ y) (σ y)) (l : Array Operand) (k : Nat) (y : A) (hk : (l.toList.map ρ)[k]? = some y) : Rel w I μ y ((l.map σ).getD k undef) := by
  simp only [List.getElem?_map, Option.map_eq_some_iff] at hk
  obtain ⟨z, hz, rfl⟩ := hk
  have hz' : l[k]? = some z := by simpa using hz
  have e : (l.map σ).getD k undef = σ z := by simp [Array.getD_eq_getD_getElem?, hz']
  rw [e]; exact hρ z

theorem app_rel {w : World} {I : Nat → Prop} {μ : Mu} {xs ys : List A} {us vs : Array Value} (h1 : us.size = xs.length) (h2 : ∀ (k : Nat) (y : A), xs[k]? = some y → Rel w I μ y (us.getD k undef)) (h3 : ∀ (k : Nat) (y : A), ys[k]? = some y → Rel w I μ y (vs.getD k undef)) :
    ∀ (k : Nat) (y : A), (xs ++ ys)[k]? = some y → Rel w I μ y ((us ++ vs).getD k undef) := by
  intro k y hk
  rcases Nat.lt_or_ge k xs.length with hlt | hge
  · rw [List.getElem?_append_left hlt] at hk
    have e : (us ++ vs).getD k undef = us.getD k undef := by
      simp only [Array.getD_eq_getD_getElem?]
      rw [Array.getElem?_append_left (by omega)]
    rw [e]; exact h2 k y hk
  · rw [List.getElem?_append_right hge] at hk
    have e : (us ++ vs).getD k undef = vs.getD (k - xs.length) undef := by
      simp only [Array.getD_eq_getD_getElem?]
      rw [Array.getElem?_append_right (by omega), h1]
    rw [e]; exact h3 _ y hk

theorem assertA_sound {P : Program} {w : World} {I : Nat → Prop} {μ : Mu} {t u : TypeId} {ok : Bool} {a r : A} {x : Value} (ha : Rel w I μ a x) (h : assertA P u ok a = some r) :
    ∃ v, (Instr.typeAssert x t u ok).run P w = .ok v w ∧ Rel w I μ r v := by
  unfold assertA at h
  split at h
  · rename_i t' a'
    cases ha with
    | ifc _ _ _ y hy =>
      split at h
      · rename_i he
        subst he
        have fin : ∀ (D : TypeDesc), P.underlying t' = some D → (∀ m, D ≠ .interface m) → r = (if ok = true then .tup [a', .v (.bool true)] else a') → ∃ v, (Instr.typeAssert (.iface t' y) t t' ok).run P w = .ok v w ∧ Rel w I μ r v := fun D hD hn hr => by
          subst hr
          refine ⟨if ok = true then .tuple #[y, .bool true] else y, ?_, ?_⟩
          · unfold Instr.typeAssert
            simp only [Sem.run_bind, run_underlying hD, Result.andThen_ok]
            cases D <;> first
              | exact absurd rfl (hn _)
              | simp [Sem.run_pure]
          · cases ok
            · exact hy
            · refine .tup _ _ _ rfl fun k z hk => ?_
              match k with
              | 0 => simp at hk; subst hk; exact hy
              | 1 => simp at hk; subst hk; exact .v _ _
              | k + 2 => simp at hk
        cases hu : P.underlying t' with
        | none => rw [hu] at h; cases h
        | some D =>
          rw [hu] at h
          cases D <;> first
            | (cases h; done)
            | (cases h; exact fin _ hu (fun m e => by cases e) rfl)
      · cases h
  · cases h
theorem loadA_ptr {P : Program} {H : Hp} {t : TypeId} {a r : A} (h : loadA P H t a = some r) : a.isPtr = true := by
  unfold loadA at h
  split at h
  · cases a <;> first | rfl | cases h
  · cases h

theorem wrapNil_run {P : Program} {w : World} {t : TypeId} {q : Addr} {x y : String} : (Builtin.ssaWrapNilChk_ #[t] t #[.pointer (some q), strVal x, strVal y]).run P w = .ok (.pointer (some q)) w := rfl
theorem methA_run {c : Cx} {w : World} {I : Nat → Prop} {μ : Mu} {H : Hp} (hs : Sim c w I μ H) {t : TypeId} {name : String} {g : FuncId} {d : Option TypeId} {a a' : A} {v : Value} (hv : Rel w I μ a v) (hm : methA c.P t name = some (g, d)) (hr : recvA c.P H d a = some a') (n : Nat) :
    ∃ v', (method (n + 1) t v name).run c.P w = .ok (g, v') w ∧ Rel w I μ a' v' := by
  unfold methA at hm
  cases hi : c.P.info? t with
  | none => rw [hi] at hm; cases hm
  | some i =>
    rw [hi] at hm
    simp only at hm
    cases hf : i.methods.find? (·.name == name) with
    | none => rw [hf] at hm; cases hm
    | some m =>
      rw [hf] at hm
      simp only at hm
      by_cases hp : m.path.toList.isEmpty = true
      · rw [if_pos hp] at hm
        have hp' : m.path.toList = [] := by simpa using hp
        have hpe : m.path.isEmpty = true := by
          have : m.path = #[] := by apply Array.ext'; simpa using hp'
          rw [this]; rfl
        have hti : (typeInfo t).run c.P w = .ok i w := by
          unfold typeInfo
          simp only [Sem.run_bind, run_program, Result.andThen_ok, hi, Sem.run_pure]
        cases hF : m.func with
        | none => rw [hF] at hm; cases hm
        | some fb =>
          obtain ⟨f, b⟩ := fb
          rw [hF] at hm
          cases hu : c.P.underlying t with
          | none => rw [hu] at hm; cases b <;> cases hm
          | some D =>
            rw [hu] at hm
            cases D <;> cases b <;> simp only [reduceCtorEq, Option.some.injEq, Prod.mk.injEq] at hm
            · obtain ⟨rfl, rfl⟩ := hm
              rename_i e
              have hr : loadA c.P H e a = some a' := hr
              obtain ⟨v', h1, h2⟩ := loadA_sound hs hv hr
              obtain ⟨q, hq⟩ := isPtr_some hv (loadA_ptr hr)
              refine ⟨v', ?_, h2⟩
              subst hq
              have hl : (loadVar e q).run c.P w = .ok v' w := by
                simpa [Instr.loadAt, Instr.sureAddr, Sem.run_bind, Sem.run_pure] using h1
              unfold method
              simp only [Sem.run_bind, hti, Result.andThen_ok, hf, hp', follow, Sem.run_pure, hF, hpe, if_true, receiverAt, run_underlying hu, Place.get, wrapNil_run, asAddr, hl]
            · obtain ⟨rfl, rfl⟩ := hm
              have hr : a = a' := Option.some.inj hr
              subst hr
              refine ⟨v, ?_, hv⟩
              unfold method
              simp only [Sem.run_bind, hti, Result.andThen_ok, hf, hp', follow, Sem.run_pure, hF, hpe, if_true, receiverAt, run_underlying hu, Place.get]
      · rw [if_neg hp] at hm; cases hm
theorem opR_sound {c : Cx} {w : World} {I : Nat → Prop} {μ : Mu} {H : Hp} (hs : Sim c w I μ H) {o : Oper} {nm : Nm} {ρ : Operand → A} {σ : Operand → Value} {x : A} {E : Eff} {R W : Fp} (hρ : ∀ y, Rel w I μ (ρ y) (σ y)) (hσ : ∀ z, σ (.const z) = z) (h : OpR c.P c.die nm o.op ρ H x E R W) :
    ROK c w I μ x (E.app H) ((execOp σ o).run c.P w) := by
  unfold OpR at h
  unfold execOp
  split at h
  · rename_i a ho
    obtain ⟨h, rfl, _, _⟩ := h
    cases h
    simp only [ho]
    exact ⟨I, μ, Ext.refl _ _ _, hs, hρ a⟩
  · rename_i a ho
    obtain ⟨h, rfl, _, _⟩ := h
    cases h
    simp only [ho]
    exact ⟨I, μ, Ext.refl _ _ _, hs, hρ a⟩
  · rename_i d a b ho
    obtain ⟨h, rfl, _, _⟩ := h
    obtain ⟨q, h1, rfl⟩ := selA_iff.1 h
    have h2 := hρ d
    rw [h1] at h2
    generalize hd : σ d = u at h2
    cases h2
    simp only [ho, hd, asBool, Sem.run_bind, Sem.run_pure, Result.andThen_ok]
    refine ⟨I, μ, Ext.refl _ _ _, hs, ?_⟩
    cases q
    · exact hρ b
    · exact hρ a
  · rename_i e ho
    simp only [ho]
    exact ROK.value' (allocA_sound hs h.1)
  · rename_i e a ho
    simp only [ho]
    exact ROK.value' (boxA_sound hs (hρ a) h.1)
  · rename_i t ps ho
    obtain ⟨h, hE, _, _⟩ := h
    simp only [ho]
    exact ROK.value hs hE (buildA_sound (P := c.P) (by simp [Function.comp_def]) (fun k p q hp hq => by
      simp only [Array.toList_map, List.getElem?_map, Option.map_eq_some_iff] at hp hq
      obtain ⟨u, hu, rfl⟩ := hp
      obtain ⟨u', hu', rfl⟩ := hq
      rw [hu] at hu'
      cases hu'
      exact hρ _) h)
  · rename_i t n ps ho
    simp only [ho]
    split at h
    · obtain ⟨h, rfl, _, _⟩ := h
      exact ROK.value' (buildSliceA_sound hs (by simp [Function.comp_def]) (fun k p q hp hq => by
        simp only [Array.toList_map, List.getElem?_map, Option.map_eq_some_iff] at hp hq
        obtain ⟨u, hu, rfl⟩ := hp
        obtain ⟨u', hu', rfl⟩ := hq
        rw [hu] at hu'
        cases hu'
        exact hρ _) h)
    · exact ROK.value' (buildSliceO_sound hs (by simp [Function.comp_def]) (fun k p q hp hq => by
        simp only [Array.toList_map, List.getElem?_map, Option.map_eq_some_iff] at hp hq
        obtain ⟨u, hu, rfl⟩ := hp
        obtain ⟨u', hu', rfl⟩ := hq
        rw [hu] at hu'
        cases hu'
        exact hρ _) h.1)
  · rename_i t a ho
    obtain ⟨h, hE, _, _⟩ := h
    simp only [ho]
    exact ROK.value hs hE (loadA_sound hs (hρ a) h)
  · rename_i t a v ho
    obtain ⟨h, rfl, _, _⟩ := h
    simp only [ho]
    obtain ⟨w', h1, h2, h3⟩ := storeA_sound hs (hρ a) (hρ v) h
    simp only [Sem.run_bind, h1, Result.andThen_ok, Sem.run_pure]
    exact ⟨I, μ, h2, h3, rfl⟩
  · rename_i a ho
    obtain ⟨h, rfl, _, _⟩ := h
    unfold ptrA at h
    split at h
    · rename_i h1
      cases h
      obtain ⟨q, hq⟩ := isPtr_some (hρ a) h1
      have h2 := hρ a
      rw [hq] at h2
      simp only [ho, hq, Sem.run_pure]
      exact ⟨I, μ, Ext.refl _ _ _, hs, h2⟩
    · cases h
  · rename_i op t a b yt ho
    obtain ⟨h, hE, _, _⟩ := h
    simp only [ho]
    split at h
    · rename_i hn
      rw [isNilC_some hn, hσ]
      exact ROK.value hs hE (nilBin_sound (P := c.P) (hρ a) h)
    · split at h
      · rename_i hn
        rw [isNilI_some hn, hσ]
        exact ROK.value hs hE (nilBinI_sound (P := c.P) (hρ a) h)
      · exact ROK.value hs hE (binA_sound (P := c.P) (hρ a) (hρ b) h)
  · rename_i op t a ho
    obtain ⟨h, hE, _, _⟩ := h
    simp only [ho]
    exact ROK.value hs hE (unA_sound (P := c.P) (hρ a) h)
  · rename_i s d a ho
    obtain ⟨h, rfl, _, _⟩ := h
    simp only [ho]
    exact ROK.value' (convX_sound hs (hρ a) h)
  · rename_i t l k ho
    simp only [ho]
    exact ROK.value' (makeSliceA_sound hs (hρ l) (hρ k) h.1)
  · rename_i t a lo hi mx ho
    obtain ⟨h, hE, _, _⟩ := h
    simp only [ho]
    exact ROK.value hs hE (sliceA_sound (hρ a) (relO hρ lo) (relO hρ hi) (relO hρ mx) h)
  · rename_i s a f ho
    obtain ⟨h, hE, _, _⟩ := h
    simp only [ho]
    exact ROK.value hs hE (fieldAddrA_sound (P := c.P) (hρ a) h)
  · rename_i s a f ho
    obtain ⟨h, hE, _, _⟩ := h
    simp only [ho]
    exact ROK.value hs hE (fieldA_sound (P := c.P) (hρ a) h)
  · rename_i t a i ho
    obtain ⟨h, hE, _, _⟩ := h
    simp only [ho]
    exact ROK.value hs hE (indexAddrA_sound (hρ a) (hρ i) h)
  · rename_i t a i ho
    obtain ⟨h, hE, _, _⟩ := h
    simp only [ho]
    exact ROK.value hs hE (indexA_sound (P := c.P) (hρ a) (hρ i) h)
  · rename_i a i ho
    obtain ⟨h, hE, _, _⟩ := h
    simp only [ho]
    exact ROK.value hs hE (extractA_sound (P := c.P) (hρ a) h)
  · rename_i f fs caps ho
    obtain ⟨h, hE, _, _⟩ := h
    cases h
    simp only [ho]
    exact ROK.value hs hE ⟨_, rfl, .fnc _ _ _ _ _ _ (by simp) (map_rel hρ fs) (by simp) (map_rel hρ caps)⟩
  · rename_i t a ho
    obtain ⟨h, hE, _, _⟩ := h
    simp only [ho]
    refine ROK.value hs hE ?_
    unfold ifcA at h
    cases hu : c.P.underlying t with
    | none => rw [hu] at h; cases h
    | some d => rw [hu] at h; cases d <;> first | (cases h; done) | (cases h; exact ⟨_, by simp [Instr.makeInterface, run_underlying hu], .ifc _ _ _ _ (hρ a)⟩)
  · rename_i a t u ok ho
    obtain ⟨h, hE, _, _⟩ := h
    simp only [ho]
    exact ROK.value hs hE (assertA_sound (P := c.P) (hρ a) h)
  · rename_i t ho
    simp only [ho]
    exact ROK.value' (makeMapA_sound hs h.1)
  · rename_i t m k v ho
    obtain ⟨h, rfl, _, _⟩ := h
    simp only [ho]
    obtain ⟨w', h1, h2, h3⟩ := mapUpdA_sound hs (hρ m) (hρ k) (hρ v) h
    simp only [Sem.run_bind, h1, Result.andThen_ok, Sem.run_pure]
    exact ⟨I, μ, h2, h3, rfl⟩
  · rename_i t m k ok ho
    obtain ⟨h, hE, _, _⟩ := h
    simp only [ho]
    exact ROK.value hs hE (mapGetA_sound hs (hρ m) (hρ k) h)
  · rename_i q ho
    split at h
    · rename_i hc
      obtain ⟨a, t, ha, ht, h, hE, _, _⟩ := h
      simp only [ho, resolve, hc, ha, ht, Sem.run_bind, Sem.run_pure, Result.andThen_ok, invoke, builtin]
      exact ROK.run hs hE (by simpa using lenA_sound (P := c.P) (ty := o.type) (hρ a) h)
    · rename_i hc
      obtain ⟨a, b, t, u, ha, ht, h, _, _⟩ := h
      simp only [ho, resolve, hc, ha, ht, Sem.run_bind, Sem.run_pure, Result.andThen_ok, invoke, builtin]
      exact ROK.run' (by simpa using appendA_sound (ty := o.type) hs (hρ a) (hρ b) h)
    · rename_i hc
      obtain ⟨a, b, t, u, ha, ht, h, _, _⟩ := h
      simp only [ho, resolve, hc, ha, ht, Sem.run_bind, Sem.run_pure, Result.andThen_ok, invoke, builtin]
      exact ROK.run' (by simpa using copyA_sound (u := u) (ty := o.type) hs (hρ a) (hρ b) h)
    · rename_i hc
      obtain ⟨a, t, ha, ht, h, _, _⟩ := h
      simp only [ho, resolve, hc, ha, ht, Sem.run_bind, Sem.run_pure, Result.andThen_ok, invoke, builtin]
      exact ROK.run' (by simpa using clearA_sound (ty := o.type) hs (hρ a) h)
    · rename_i hc
      obtain ⟨h, hE, _, _⟩ := h
      simp only [ho, resolve, hc, Sem.run_bind, Sem.run_pure, Result.andThen_ok, invoke, builtin]
      exact ROK.run hs hE (by
        have := min_sound (P := c.P) (w := w) (I := I) (μ := μ) (as := q.args.toList.map ρ) (xs := q.args.toList.map σ) (ts := q.argTypes) (ty := o.type) (by simp) (fun k a x ha hx => by
          simp only [List.getElem?_map, Option.map_eq_some_iff] at ha hx
          obtain ⟨u, hu, rfl⟩ := ha
          obtain ⟨u', hu', rfl⟩ := hx
          rw [hu] at hu'
          cases hu'
          exact hρ _) h
        have e : (q.args.toList.map σ).toArray = q.args.map σ := by apply Array.ext'; simp
        rwa [e] at this)
    · rename_i hc
      obtain ⟨h, hE, _, _⟩ := h
      simp only [ho, resolve, hc, Sem.run_bind, Sem.run_pure, Result.andThen_ok, invoke, builtin]
      exact ROK.run hs hE (by
        have := max_sound (P := c.P) (w := w) (I := I) (μ := μ) (as := q.args.toList.map ρ) (xs := q.args.toList.map σ) (ts := q.argTypes) (ty := o.type) (by simp) (fun k a x ha hx => by
          simp only [List.getElem?_map, Option.map_eq_some_iff] at ha hx
          obtain ⟨u, hu, rfl⟩ := ha
          obtain ⟨u', hu', rfl⟩ := hx
          rw [hu] at hu'
          cases hu'
          exact hρ _) h
        have e : (q.args.toList.map σ).toArray = q.args.map σ := by apply Array.ext'; simp
        rwa [e] at this)
    · rename_i f hc
      obtain ⟨g, fs, caps, hf, h⟩ := h
      have h2 := hρ f
      rw [hf] at h2
      generalize hdf : σ f = u at h2
      cases h2 with
      | fnc _ _ _ _ fv cv hfl hfr hcl hcr =>
        simp only [ho, resolve, hc, hdf, Deferred.ofValue, Sem.run_bind, Sem.run_pure, Result.andThen_ok, invoke]
        rcases h with h | h
        · have := call_sound (vs := fv ++ (q.args.map σ ++ cv)) hs (by simp [hcl, hfl]) (app_rel hfl hfr (app_rel (by simp) (map_rel hρ q.args) hcr)) h
          rwa [← Array.append_assoc] at this
        · have := callD_sound (vs := fv ++ (q.args.map σ ++ cv)) hs (by simp [hcl, hfl]) (app_rel hfl hfr (app_rel (by simp) (map_rel hρ q.args) hcr)) h
          rwa [← Array.append_assoc] at this
    · rename_i r name hc
      obtain ⟨t, a, g, d, a', R0, hr, hm, ha, h, _⟩ := h
      have h2 := hρ r
      rw [hr] at h2
      generalize hd : σ r = u at h2
      cases h2 with
      | ifc _ _ _ y hy =>
        obtain ⟨v', hm1, hm2⟩ := methA_run hs hy hm ha (c.P.types.size + Made.depth - 1)
        have en : c.P.types.size + Made.depth - 1 + 1 = c.P.types.size + Made.depth := by
          have : 1 ≤ Made.depth := by decide
          omega
        rw [en] at hm1
        have := call_sound (vs := #[v'] ++ q.args.map σ) hs (args := a' :: q.args.toList.map ρ) (by simp; omega) (fun k z hk => by
          cases k with
          | zero =>
            simp at hk; subst hk
            rw [Array.getD_eq_getD_getElem?, Array.getElem?_append_left (by simp)]
            exact hm2
          | succ k =>
            have := map_rel hρ q.args k z (by simpa using hk)
            rw [Array.getD_eq_getD_getElem?] at this ⊢
            rw [Array.getElem?_append_right (by simp)]
            simpa using this) h
        have e0 : (#[Value.iface t y] ++ q.args.map σ)[0]? = some (.iface t y) := by rw [Array.getElem?_append_left (by simp)]; rfl
        have e1 : (#[Value.iface t y] ++ q.args.map σ).extract 1 (#[Value.iface t y] ++ q.args.map σ).size = q.args.map σ := by
          apply Array.ext'
          simp only [Array.toList_extract, Array.toList_append, Array.toList_map, List.size_toArray]
          simp [List.take_of_length_le]
        simp only [ho, resolve, hc, hd, Sem.run_bind, Sem.run_pure, Result.andThen_ok, invoke, e0, callMethod, run_program, hm1, e1]
        exact this
    · exact h.elim
  · exact h.elim

end Go.G
