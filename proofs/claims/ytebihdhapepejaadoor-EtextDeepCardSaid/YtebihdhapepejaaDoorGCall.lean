/-
  Calls that turn the caller's objects: the callee knows them by names of its own.
-/
import Derived.Test.YtebihdhapepejaaDoorGLo
namespace Go.G
set_option linter.unusedVariables false
set_option linter.unusedSimpArgs false
open Go.RowKit

/-! ### other names -/
mutual
def A.ren (g : Nm → Nm) (δ : Nm → Nat) : A → A
  | .pob o u off => .pob (g o) (u + δ o) off
  | .osl o u sz off len => .osl (g o) (u + δ o) sz off len
  | .pel o u i j => .pel (g o) (u + δ o) i j
  | .mo o u => .mo (g o) (u + δ o)
  | .agg cs => .agg (A.renL g δ cs)
  | .tup cs => .tup (A.renL g δ cs)
  | .fnc f fs cs => .fnc f (A.renL g δ fs) (A.renL g δ cs)
  | .ifc t x => .ifc t (A.ren g δ x)
  | .any => .any
  | .v x => .v x
  | .sl f xs => .sl f xs
  | .pim cs => .pim cs
def A.renL (g : Nm → Nm) (δ : Nm → Nat) : List A → List A
  | [] => []
  | x :: xs => A.ren g δ x :: A.renL g δ xs
end
mutual
/-- What it points to has such names. -/
def A.refs (S : Nm → Prop) : A → Prop
  | .pob o u off => S o
  | .osl o u sz off len => S o
  | .pel o u i j => S o
  | .mo o u => S o
  | .agg cs => A.refsL S cs
  | .tup cs => A.refsL S cs
  | .fnc f fs cs => A.refsL S fs ∧ A.refsL S cs
  | .ifc t x => A.refs S x
  | .any => True
  | .v x => True
  | .sl f xs => True
  | .pim cs => True
def A.refsL (S : Nm → Prop) : List A → Prop
  | [] => True
  | x :: xs => A.refs S x ∧ A.refsL S xs
end
theorem renL_map {g : Nm → Nm} {δ : Nm → Nat} : ∀ l : List A, A.renL g δ l = l.map (A.ren g δ)
  | [] => by simp [A.renL]
  | x :: l => by simp [A.renL, renL_map l]
theorem refsL_iff {S : Nm → Prop} : ∀ {l : List A}, A.refsL S l ↔ ∀ x, x ∈ l → x.refs S
  | [] => by simp [A.refsL]
  | x :: l => by simp [A.refsL, refsL_iff (l := l)]
theorem ren_cells {g : Nm → Nm} {δ : Nm → Nat} (a : A) : (a.ren g δ).cells = a.cells.map (A.ren g δ) := by cases a <;> simp [A.ren, A.cells, renL_map]
theorem ren_flat {g : Nm → Nm} {δ : Nm → Nat} : ∀ l : List A, (l.map (A.ren g δ)).flatMap A.cells = (l.flatMap A.cells).map (A.ren g δ)
  | [] => rfl
  | x :: l => by simp [ren_cells, ren_flat l]
theorem ren_one {g : Nm → Nm} {δ : Nm → Nat} (a : A) : (a.ren g δ).one = a.one := by cases a <;> simp [A.ren, A.one]
theorem refs_cells {S : Nm → Prop} {a y : A} (h : a.refs S) (hy : y ∈ a.cells) : y.refs S := by
  cases a <;> simp [A.cells] at hy <;> first | (subst hy; exact h) | exact refsL_iff.1 (by simpa [A.refs] using h) y hy

theorem Rel.ren {w : World} {I : Nat → Prop} {μ : Mu} {a : A} {v : Value} (h : Rel w I μ a v) : ∀ {μ' : Mu} {S : Nm → Prop} {g : Nm → Nm} {δ : Nm → Nat}, a.refs S → (∀ o, S o → 1 ≤ (μ o).u → μ' (g o) = { μ o with u := (μ o).u + δ o }) → Rel w I μ' (a.ren g δ) v := by
  induction h with
  | any => intro μ' S g δ _ _; simpa [A.ren] using Rel.any _ _
  | v => intro μ' S g δ _ _; simpa [A.ren] using Rel.v _ _
  | slN _ _ _ _ h => intro μ' S g δ _ _; simpa [A.ren] using Rel.slN _ _ _ _ h
  | sl μ f b off n cap sz xs g hb hn hc hf hs h1 hcell hr _ => intro μ' S g' δ _ _; simpa [A.ren] using Rel.sl _ f b off n cap sz xs g hb hn hc hf hs h1 hcell hr
  | pim μ b off cs g hb h1 hcell hr _ => intro μ' S g' δ _ _; simpa [A.ren] using Rel.pim _ b off cs g hb h1 hcell hr
  | agg μ cs vs hl _ ih =>
    intro μ' S g δ hS hμ
    simp only [A.ren, renL_map]
    refine .agg _ _ _ (by simpa using hl) fun k y hk => ?_
    rw [List.getElem?_map, Option.map_eq_some_iff] at hk
    obtain ⟨y', hy, rfl⟩ := hk
    exact ih k y' hy (refsL_iff.1 (by simpa [A.refs] using hS) y' (List.mem_of_getElem? hy)) hμ
  | tup μ cs vs hl _ ih =>
    intro μ' S g δ hS hμ
    simp only [A.ren, renL_map]
    refine .tup _ _ _ (by simpa using hl) fun k y hk => ?_
    rw [List.getElem?_map, Option.map_eq_some_iff] at hk
    obtain ⟨y', hy, rfl⟩ := hk
    exact ih k y' hy (refsL_iff.1 (by simpa [A.refs] using hS) y' (List.mem_of_getElem? hy)) hμ
  | fnc μ f fs caps us vs hl0 _ hl _ ih0 ih =>
    intro μ' S g δ hS hμ
    simp only [A.refs] at hS
    simp only [A.ren, renL_map]
    refine .fnc _ _ _ _ _ _ (by simpa using hl0) (fun k y hk => ?_) (by simpa using hl) fun k y hk => ?_
    · rw [List.getElem?_map, Option.map_eq_some_iff] at hk
      obtain ⟨y', hy, rfl⟩ := hk
      exact ih0 k y' hy (refsL_iff.1 hS.1 y' (List.mem_of_getElem? hy)) hμ
    · rw [List.getElem?_map, Option.map_eq_some_iff] at hk
      obtain ⟨y', hy, rfl⟩ := hk
      exact ih k y' hy (refsL_iff.1 hS.2 y' (List.mem_of_getElem? hy)) hμ
  | ifc _ _ _ _ _ ih =>
    intro μ' S g δ hS hμ
    simp only [A.ren]
    exact .ifc _ _ _ _ (ih (by simpa [A.refs] using hS) hμ)
  | pob μ o u off b k h1 h2 h3 =>
    intro μ' S g δ hS hμ
    have e := hμ o (by simpa [A.refs] using hS) (by omega)
    simp only [A.ren]
    exact .pob _ _ _ _ _ _ (by omega) (by rw [e]; simpa using h2) fun hu => by rw [e] at hu ⊢; exact h3 (by simpa using hu)
  | osl μ o u sz off len a cap h1 h2 h4 h5 h3 =>
    intro μ' S g δ hS hμ
    have e := hμ o (by simpa [A.refs] using hS) (by omega)
    simp only [A.ren]
    exact .osl _ _ _ _ _ _ _ _ (by omega) (by rw [e]; simpa using h2) h4 h5 fun hu => by rw [e] at hu ⊢; exact h3 (by simpa using hu)
  | pel μ o u i j b k h1 h2 h3 =>
    intro μ' S g δ hS hμ
    have e := hμ o (by simpa [A.refs] using hS) (by omega)
    simp only [A.ren]
    exact .pel _ _ _ _ _ _ _ (by omega) (by rw [e]; simpa using h2) fun hu => by rw [e] at hu ⊢; exact h3 (by simpa using hu)
  | mo μ o u b h1 h2 h3 =>
    intro μ' S g δ hS hμ
    have e := hμ o (by simpa [A.refs] using hS) (by omega)
    simp only [A.ren]
    exact .mo _ _ _ _ (by omega) (by rw [e]; simpa using h2) fun hu => by rw [e] at hu ⊢; exact h3 (by simpa using hu)

def Ob.ren (g : Nm → Nm) (δ : Nm → Nat) : Ob → Ob
  | .none => .none
  | .cells cs => .cells (A.renL g δ cs)
  | .arr sz xs => .arr sz (A.renL g δ xs)
  | .mp es => .mp es
def Ob.refs (S : Nm → Prop) : Ob → Prop
  | .none => True
  | .cells cs => A.refsL S cs
  | .arr sz xs => A.refsL S xs
  | .mp _ => True
theorem hasB_ren {g : Nm → Nm} {δ : Nm → Nat} {L : Loc} {ob : Ob} : hasB L (ob.ren g δ) = hasB L ob := by cases ob <;> rfl

theorem OSim.ren {w : World} {I : Nat → Prop} {μ μ' : Mu} {L L' : Loc} {ob : Ob} {S : Nm → Prop} {g : Nm → Nm} {δ : Nm → Nat} (h : OSim w I μ L ob) (hS : ob.refs S) (hμ : ∀ o, S o → 1 ≤ (μ o).u → μ' (g o) = { μ o with u := (μ o).u + δ o }) (hL : L' = { L with u := L'.u }) :
    OSim w I μ' L' (ob.ren g δ) := by
  rw [hL]
  cases ob with
  | none => trivial
  | mp es => exact h
  | cells cs =>
    obtain ⟨vs, h1, h2, h3⟩ := h
    simp only [Ob.ren, renL_map]
    refine ⟨vs, h1, by simpa using h2, fun k y hk => ?_⟩
    rw [List.getElem?_map, Option.map_eq_some_iff] at hk
    obtain ⟨y', hy, rfl⟩ := hk
    exact ⟨by rw [ren_one]; exact (h3 k y' hy).1, (h3 k y' hy).2.ren (refsL_iff.1 hS y' (List.mem_of_getElem? hy)) hμ⟩
  | arr sz xs =>
    simp only [Ob.ren, renL_map]
    obtain ⟨h0, ⟨h1, h2⟩ | ⟨h1, vs, h3, h4, h5, h6, h7⟩⟩ := h
    · exact ⟨h0, .inl ⟨h1, by rw [h2]; rfl⟩⟩
    · refine ⟨h0, .inr ⟨h1, vs, h3, h4, by simpa using h5, fun x hx => ?_, fun k y hk => ?_⟩⟩
      · obtain ⟨x', hx', rfl⟩ := List.mem_map.1 hx
        simpa [ren_cells] using h6 x' hx'
      · rw [ren_flat, List.getElem?_map, Option.map_eq_some_iff] at hk
        obtain ⟨y', hy, rfl⟩ := hk
        obtain ⟨x, hx, hy'⟩ := List.mem_flatMap.1 (List.mem_of_getElem? hy)
        exact ⟨by rw [ren_one]; exact (h7 k y' hy).1, (h7 k y' hy).2.ren (refs_cells (refsL_iff.1 hS x hx) hy') hμ⟩

/-! ### the contract -/
def cxh (P : Program) (w0 : World) (I0 : Nat → Prop) (M0 : Nm → Nat → Prop) (n : Nat) (m0 : Mu) : Cx := ⟨P, w0, I0, M0, n, m0, fun _ => False, []⟩

@[simp] theorem cxh_P {P : Program} {w0 : World} {I0 : Nat → Prop} {M0 : Nm → Nat → Prop} {n : Nat} {m0 : Mu} : (cxh P w0 I0 M0 n m0).P = P := rfl
/-- With such objects at its roots it tells this, and its first roots' objects are then these. -/
def SpecH (P : Program) (f : FuncId) (k : Nat) (args : List A) (Hc : Hp) (r : A) (Hr : Hp) : Prop :=
  okFn P f = true ∧ ∀ (w : World) (I : Nat → Prop) (M0 : Nm → Nat → Prop) (n : Nat) (μ : Mu) (vs : Array Value), (∀ (o : Nm) (b : Nat), (Hc o).ob = .none → ¬ M0 o b) → Sim (cxh P w I M0 n μ) w I μ Hc → vs.size = args.length → (∀ (k : Nat) (y : A), args[k]? = some y → Rel w I μ y (vs.getD k undef)) →
    Calls P f vs w fun e w' => ∃ v, e = .returned v ∧ ∃ H' I' μ', Sim (cxh P w I M0 n μ) w' I' μ' H' ∧ Rel w' I' μ' r v ∧ ∀ (i : Nat) (p : Nm), i < k → H' (i :: p) = Hr (i :: p)

theorem Sim.of_n {P : Program} {w0 w : World} {I0 I : Nat → Prop} {M0 : Nm → Nat → Prop} {n n' : Nat} {m0 μ : Mu} {H : Hp} (h : Sim (cxh P w0 I0 M0 n m0) w I μ H) : Sim (cxh P w0 I0 M0 n' m0) w I μ H :=
  ⟨h.kept, h.lt, h.old, h.new, h.ver, h.ob, h.apart, h.own, h.mle, h.tag, h.tab⟩

/-- The function's end: what it tells, and what its first roots' objects are then; the state may be told otherwise. -/
def RetH (c : Cx) (rs : List ResultVar) (k : Nat) (r : A) (Hr : Hp) : Exit → Sta → Prop := fun e st => StopK c (RetG c.P rs (fun r0 H => r0 = r ∧ ∀ (i : Nat) (p : Nm), i < k → H (i :: p) = Hr (i :: p)) e) st

theorem reth_le {c : Cx} {rs : List ResultVar} {k : Nat} {r : A} {Hr : Hp} {e : Exit} {st st' : Sta} (h : Le c st st') (k' : RetH c rs k r Hr e st') : RetH c rs k r Hr e st := stop_le h k'
theorem reth_ret {c : Cx} {rs : List ResultVar} {k : Nat} {r r0 : A} {Hr : Hp} {st : Sta} (h : resA c.P st rs = some r0) (he : r0 = r) (hh : ∀ (i : Nat) (p : Nm), i < k → st.H (i :: p) = Hr (i :: p)) : RetH c rs k r Hr .ret st := stop_go ⟨r0, h, he, hh⟩
theorem reth_normal {c : Cx} {rs : List ResultVar} {k : Nat} {r r0 : A} {Hr : Hp} {st : Sta} (h : resA c.P st rs = some r0) (he : r0 = r) (hh : ∀ (i : Nat) (p : Nm), i < k → st.H (i :: p) = Hr (i :: p)) : RetH c rs k r Hr .normal st := stop_go ⟨r0, h, he, hh⟩

theorem specH_of' {P : Program} {f : FuncId} {n k : Nat} {rs : List ResultVar} {cc : CC} {args : List A} {Hc : Hp} {r : A} {Hr : Hp} (t : Txt P f n rs cc) (ha : args.length ≤ n)
    (h : ∀ w0 I0 M0 m0, (∀ (o : Nm) (b : Nat), (Hc o).ob = .none → ¬ M0 o b) → WPC (cxh P w0 I0 M0 n m0) cc (RetH (cxh P w0 I0 M0 n m0) rs k r Hr) ⟨argS args, Hc⟩) : SpecH P f k args Hc r Hr := by
  obtain ⟨hm, hk, fn, code, hf, hb, hn, hrs, hc⟩ := t
  refine ⟨hk, fun w I M0 n' μ vs hN hs hl har => ?_⟩
  refine (body_run (Q := fun r0 H => r0 = r ∧ ∀ (i : Nat) (p : Nm), i < k → H (i :: p) = Hr (i :: p)) hf hb (c := cxh P w I M0 n μ) rfl hn.symm rfl hl (by omega) (Sim.of_n hs) har (fun a w1 I1 μ1 hsr => wp_mono (wpc_sound (c := cxh P w I M0 n μ) hm hc (h w I M0 μ hN) a w1 I1 μ1 hsr) fun e a' w' hh => by
      rcases hh with ⟨st', I', μ', g1, g2⟩ | ⟨t, k, _⟩
      · rcases g2 with g2 | ⟨st2, g2, g3⟩
        · exact (g2 _ _ _ _ g1).elim
        · obtain ⟨I2, μ2, g4⟩ := g2 a' w' I' μ' g1
          exact .inl ⟨st2, I2, μ2, g4, by rw [hrs]; exact g3⟩
      · exact k.elim)).mono fun e w' hh => ?_
  rcases hh with ⟨v, r0, H', I', μ', he, h1, h2, h3, h4⟩ | ⟨t, k, _⟩
  case inr => exact k.elim
  subst h3
  exact ⟨v, he, H', I', μ', h1.of_n, h2, h4⟩
theorem specH_of {P : Program} {f : FuncId} {n k : Nat} {rs : List ResultVar} {cc : CC} {args : List A} {Hc : Hp} {r : A} {Hr : Hp} (t : Txt P f n rs cc) (ha : args.length ≤ n)
    (h : ∀ w0 I0 M0 m0, WPC (cxh P w0 I0 M0 n m0) cc (RetH (cxh P w0 I0 M0 n m0) rs k r Hr) ⟨argS args, Hc⟩) : SpecH P f k args Hc r Hr := specH_of' t ha fun w0 I0 M0 m0 _ => h w0 I0 M0 m0

/-! ### from the callee's names to the caller's -/
def upN (rs : List Nat) : Nm → Nm
  | i :: p => rs.getD i 0 :: p
  | [] => []
def dnN (rs : List Nat) : Nm → Nm
  | j :: p => rs.idxOf j :: p
  | [] => []
def inS (rs : List Nat) (m : Nat) : Nm → Prop
  | j :: p => rs.idxOf j < m
  | [] => False
def outS (k : Nat) : Nm → Prop
  | i :: p => i < k
  | [] => False
def dlt (rs : List Nat) (m : Nat) (H : Hp) : Nm → Nat
  | i :: p => if i < m then 0 else if i < rs.length then (H (rs.getD i 0 :: p)).u else 0
  | [] => 0
def VOb.ren (g : Nm → Nm) (δ : Nm → Nat) (d : Nat) (x : VOb) : VOb := ⟨x.u + d, x.ob.ren g δ⟩
def outH (rs : List Nat) (m : Nat) (H Hr : Hp) : Hp
  | j :: p => (Hr (rs.idxOf j :: p)).ren (upN rs) (dlt rs m H) (dlt rs m H (rs.idxOf j :: p))
  | [] => ⟨0, .none⟩

theorem idx_getD {rs : List Nat} (hnd : rs.Nodup) {i : Nat} (h : i < rs.length) : rs.idxOf (rs.getD i 0) = i := by
  have e : rs.getD i 0 = rs[i] := by simp [List.getD, h]
  rw [e]
  exact hnd.idxOf_getElem i h
theorem getD_idx {rs : List Nat} {j : Nat} (h : j ∈ rs) : rs.getD (rs.idxOf j) 0 = j := by
  have hl := List.idxOf_lt_length_iff.2 h
  simp [List.getD, hl]
theorem idx_mem {rs : List Nat} {j : Nat} : rs.idxOf j < rs.length ↔ j ∈ rs := List.idxOf_lt_length_iff

theorem obren_none {g : Nm → Nm} {δ : Nm → Nat} {d : Nat} {x : VOb} (h : (x.ren g δ d).ob = .none) : x.ob = .none := by
  cases x with
  | mk u ob => cases ob <;> first | rfl | cases h
theorem callOK_of {P : Program} {f : FuncId} {rs : List Nat} {m : Nat} {args : List A} {Hc Hr : Hp} {r : A} {H : Hp} (hnd : rs.Nodup) (hm : m ≤ rs.length)
    (hS : SpecH P f rs.length (A.renL (dnN rs) (fun _ => 0) args) Hc r Hr)
    (h1 : ∀ (i : Nat) (p : Nm), i < m → Hc (i :: p) = (H (rs.getD i 0 :: p)).ren (dnN rs) (fun _ => 0) 0) (h2 : ∀ (i : Nat) (p : Nm), m ≤ i → Hc (i :: p) = ⟨0, .none⟩) (h3 : Hc [] = ⟨0, .none⟩)
    (ha : A.refsL (inS rs m) args) (hc : ∀ (i : Nat) (p : Nm), i < m → (H (rs.getD i 0 :: p)).ob.refs (inS rs m))
    (hr : r.refs (outS rs.length)) (ho : ∀ (i : Nat) (p : Nm), i < rs.length → (Hr (i :: p)).ob.refs (outS rs.length))
    (hv : ∀ (i : Nat) (p : Nm), m ≤ i → i < rs.length → (Hr (i :: p)).ob = .none ∨ 1 ≤ (Hr (i :: p)).u) :
    CallOK P H f args (r.ren (upN rs) (dlt rs m H)) (.fn rs (outH rs m H Hr)) := by
  refine ⟨hS.1, fun c w I μ vs hP hs hl har => ?_⟩
  let nm : Nat → Nm → Nm := fun i p => rs.getD i 0 :: p
  let μc : Mu := fun o => match o with
    | i :: p => if i < m then μ (nm i p) else mu0 (i :: p)
    | [] => mu0 []
  let M1 : Nm → Nat → Prop := fun o b => ∃ i p, o = i :: p ∧ i < m ∧ hasB (μ (nm i p)) (H (nm i p)).ob = true ∧ b = (μ (nm i p)).b
  have hμ : ∀ o, inS rs m o → 1 ≤ (μ o).u → μc (dnN rs o) = { μ o with u := (μ o).u + (fun _ => 0) o } := fun o ho _ => by
    cases o with
    | nil => exact ho.elim
    | cons j p =>
      have hj : rs.idxOf j < m := ho
      show (if rs.idxOf j < m then μ (nm (rs.idxOf j) p) else _) = _
      rw [if_pos hj]
      have : nm (rs.idxOf j) p = j :: p := by show rs.getD (rs.idxOf j) 0 :: p = _; rw [getD_idx (idx_mem.1 (by omega))]
      rw [this]
      rfl
  have nm_ne : ∀ {i i' : Nat} {p p' : Nm}, i < rs.length → i' < rs.length → i :: p ≠ i' :: p' → nm i p ≠ nm i' p' := fun {i i' p p'} hi hi' hne e => by
    have e1 : rs.getD i 0 = rs.getD i' 0 := by injection e
    have e2 : p = p' := by injection e
    have := idx_getD hnd hi
    rw [e1, idx_getD hnd hi'] at this
    exact hne (by rw [this, e2])
  have own1 : ∀ (i : Nat) (p : Nm), hasB (μc (i :: p)) (Hc (i :: p)).ob = true → i < m ∧ hasB (μ (nm i p)) (H (nm i p)).ob = true ∧ μc (i :: p) = μ (nm i p) := fun i p h => by
    by_cases hi : i < m
    · have e : μc (i :: p) = μ (nm i p) := if_pos hi
      rw [e, h1 i p hi] at h
      simp only [VOb.ren, hasB_ren] at h
      exact ⟨hi, h, e⟩
    · rw [h2 i p (by omega)] at h; cases h
  have start : Sim (cxh P w I M1 0 μc) w I μc Hc := by
    refine ⟨⟨rfl, rfl, rfl, Nat.le_refl _, fun _ _ _ => rfl⟩, hs.lt, fun _ h => h, fun b hb => .inl hb, fun o => ?_, fun o => ?_, fun o o' k k' hne => ?_, fun o k => ?_, MuLe.refl _, fun o k => ?_, by subst hP; exact hs.tab⟩
    · cases o with
      | nil => rw [h3]; rfl
      | cons i p =>
        by_cases hi : i < m
        · have e : μc (i :: p) = μ (nm i p) := if_pos hi
          rw [e, h1 i p hi, hs.ver]; rfl
        · have e : μc (i :: p) = mu0 (i :: p) := if_neg hi
          rw [e, h2 i p (by omega)]; rfl
    · cases o with
      | nil => rw [h3]; trivial
      | cons i p =>
        by_cases hi : i < m
        · have e : μc (i :: p) = μ (nm i p) := if_pos hi
          rw [e, h1 i p hi]
          exact (hs.ob (nm i p)).ren (hc i p hi) hμ rfl
        · rw [h2 i p (by omega)]; trivial
    · cases o with
      | nil => rw [h3] at k; cases k
      | cons i p =>
        cases o' with
        | nil => rw [h3] at k'; cases k'
        | cons i' p' =>
          obtain ⟨q1, q2, q3⟩ := own1 i p k
          obtain ⟨r1, r2, r3⟩ := own1 i' p' k'
          rw [q3, r3]
          exact hs.apart _ _ q2 r2 (nm_ne (by omega) (by omega) hne)
    · cases o with
      | nil => rw [h3] at k; cases k
      | cons i p =>
        obtain ⟨q1, q2, q3⟩ := own1 i p k
        rw [q3]
        obtain ⟨g1, g2, g3⟩ := hs.own _ q2
        exact ⟨g1, .inl ⟨i, p, rfl, q1, q2, rfl⟩, g3⟩
    · cases o with
      | nil => rw [h3] at k; cases k
      | cons i p =>
        obtain ⟨q1, q2, q3⟩ := own1 i p k
        rw [q3]
        exact hs.tag _ q2
  have harg : ∀ (k : Nat) (y : A), (A.renL (dnN rs) (fun _ => 0) args)[k]? = some y → Rel w I μc y (vs.getD k undef) := fun k y hk => by
    rw [renL_map, List.getElem?_map, Option.map_eq_some_iff] at hk
    obtain ⟨y', hy, rfl⟩ := hk
    exact (har k y' hy).ren (refsL_iff.1 ha y' (List.mem_of_getElem? hy)) hμ
  refine (hS.2 w I M1 0 μc vs (fun o b h ⟨i, p, e, hi, hb, _⟩ => by
    subst e
    rw [h1 i p hi] at h
    rw [show (H (nm i p)).ob = .none from obren_none h] at hb
    cases hb) start (by simpa [renL_map] using hl) harg).mono fun e w' ⟨v, he, H', I', μ', hs', hrel, hH'⟩ => ⟨v, he, I', ?_⟩
  let δ := dlt rs m H
  let μ2 : Mu := fun n => match n with
    | j :: p => if j ∈ rs then (if rs.idxOf j < m ∨ 1 ≤ (μ' (rs.idxOf j :: p)).u then { μ' (rs.idxOf j :: p) with u := (μ' (rs.idxOf j :: p)).u + δ (rs.idxOf j :: p) } else μ (j :: p)) else μ (j :: p)
    | [] => μ []
  have δ0 : ∀ {i : Nat} {p : Nm}, i < m → δ (i :: p) = 0 := fun {i p} h => if_pos h
  have δ1 : ∀ {i : Nat} {p : Nm}, ¬ i < m → i < rs.length → δ (i :: p) = (H (nm i p)).u := fun {i p} h h' => by
    show (if i < m then _ else _) = _
    rw [if_neg h, if_pos h']
  have nmj : ∀ {j : Nat} {p : Nm}, j ∈ rs → nm (rs.idxOf j) p = j :: p := fun {j p} h => by show rs.getD (rs.idxOf j) 0 :: p = _; rw [getD_idx h]
  have app_in : ∀ {j : Nat} {p : Nm}, j ∈ rs → (Eff.fn rs (outH rs m H Hr)).app H (j :: p) = outH rs m H Hr (j :: p) := fun {j p} h => by simp [Eff.app, h]
  have app_out : ∀ {j : Nat} {p : Nm}, j ∉ rs → (Eff.fn rs (outH rs m H Hr)).app H (j :: p) = H (j :: p) := fun {j p} h => by simp [Eff.app, h]
  have app_nil' : (Eff.fn rs (outH rs m H Hr)).app H [] = H [] := rfl
  have mu_in : ∀ {j : Nat} {p : Nm}, j ∈ rs → (rs.idxOf j < m ∨ 1 ≤ (μ' (rs.idxOf j :: p)).u) → μ2 (j :: p) = { μ' (rs.idxOf j :: p) with u := (μ' (rs.idxOf j :: p)).u + δ (rs.idxOf j :: p) } := fun {j p} h h' => by
    show (if j ∈ rs then _ else _) = _
    rw [if_pos h, if_pos h']
  have mu_old : ∀ {j : Nat} {p : Nm}, j ∈ rs → ¬ (rs.idxOf j < m ∨ 1 ≤ (μ' (rs.idxOf j :: p)).u) → μ2 (j :: p) = μ (j :: p) := fun {j p} h h' => by
    show (if j ∈ rs then _ else _) = _
    rw [if_pos h, if_neg h']
  have mu_out : ∀ {j : Nat} {p : Nm}, j ∉ rs → μ2 (j :: p) = μ (j :: p) := fun {j p} h => by
    show (if j ∈ rs then _ else _) = _
    rw [if_neg h]
  have hle : MuLe μ μ2 := fun o => by
    cases o with
    | nil => exact ⟨Nat.le_refl _, fun _ => rfl⟩
    | cons j p =>
      by_cases hj : j ∈ rs
      · by_cases hi : rs.idxOf j < m
        · rw [mu_in hj (.inl hi), δ0 hi]
          have e : μc (rs.idxOf j :: p) = μ (j :: p) := by
            show (if rs.idxOf j < m then _ else _) = _
            rw [if_pos hi, nmj hj]
          have := hs'.mle (rs.idxOf j :: p)
          change (μc (rs.idxOf j :: p)).u ≤ _ ∧ (_ = (μc (rs.idxOf j :: p)).u → _ = μc (rs.idxOf j :: p)) at this
          rw [e] at this
          exact ⟨this.1, fun q => by rw [← this.2 q]; rfl⟩
        · by_cases hu : 1 ≤ (μ' (rs.idxOf j :: p)).u
          · rw [mu_in hj (.inr hu), δ1 hi (idx_mem.2 hj), nmj hj, ← hs.ver]
            exact ⟨by simp, fun q => by simp at q; omega⟩
          · rw [mu_old hj (by omega)]; exact ⟨Nat.le_refl _, fun _ => rfl⟩
      · rw [mu_out hj]; exact ⟨Nat.le_refl _, fun _ => rfl⟩
  have notM1 : ∀ {n : Nm} {b : Nat}, hasB (μ n) (H n).ob = true → b = (μ n).b → (∀ j p, n = j :: p → j ∉ rs) → ¬ ∃ o, M1 o b := fun {n b} hb e hn ⟨_, i, p, _, q1, q2, q3⟩ => by
    refine hs.apart n (nm i p) hb q2 (fun e' => ?_) (by rw [← e, q3])
    refine hn _ _ e' ?_
    have : i < rs.length := by omega
    simp [List.getD, this]
  have hx : Ext I μ w I' μ2 w' := ⟨fun b h => hs'.old b h, fun b h => hs'.kept.block b (hs.lt b h) (fun ⟨_, i, p, _, q1, q2, q3⟩ => (hs.own _ q2).1 (by rw [← q3]; exact h)), hle⟩
  have hμ2 : ∀ o, outS rs.length o → 1 ≤ (μ' o).u → μ2 (upN rs o) = { μ' o with u := (μ' o).u + δ o } := fun o ho h1 => by
    cases o with
    | nil => exact ho.elim
    | cons i p =>
      have hi : i < rs.length := ho
      have e := idx_getD hnd hi
      have hmem : rs.getD i 0 ∈ rs := idx_mem.1 (by rw [e]; exact hi)
      show μ2 (rs.getD i 0 :: p) = _
      rw [mu_in hmem (.inr (by rw [e]; exact h1)), e]
  have oH : ∀ {j : Nat} {p : Nm}, j ∈ rs → (H' (rs.idxOf j :: p)) = Hr (rs.idxOf j :: p) := fun {j p} h => hH' _ _ (idx_mem.2 h)
  have own2 : ∀ {j : Nat} {p : Nm}, j ∈ rs → hasB (μ2 (j :: p)) (outH rs m H Hr (j :: p)).ob = true → hasB (μ' (rs.idxOf j :: p)) (H' (rs.idxOf j :: p)).ob = true ∧ (μ2 (j :: p)).b = (μ' (rs.idxOf j :: p)).b := fun {j p} hj h => by
    simp only [outH, VOb.ren, hasB_ren] at h
    by_cases hi : rs.idxOf j < m ∨ 1 ≤ (μ' (rs.idxOf j :: p)).u
    · rw [mu_in hj hi] at h ⊢
      rw [oH hj]
      exact ⟨by cases hq : (Hr (rs.idxOf j :: p)).ob <;> rw [hq] at h <;> exact h, rfl⟩
    · rcases hv (rs.idxOf j) p (by omega) (idx_mem.2 hj) with e | e
      · rw [e] at h; cases h
      · rw [← oH hj, ← hs'.ver] at e; omega
  have own3 : ∀ {j : Nat} {p : Nm}, j ∈ rs → hasB (μ2 (j :: p)) (outH rs m H Hr (j :: p)).ob = true → (μ2 (j :: p)).e = (μ' (rs.idxOf j :: p)).e := fun {j p} hj h => by
    simp only [outH, VOb.ren, hasB_ren] at h
    by_cases hi : rs.idxOf j < m ∨ 1 ≤ (μ' (rs.idxOf j :: p)).u
    · rw [mu_in hj hi]
    · rcases hv (rs.idxOf j) p (by omega) (idx_mem.2 hj) with e | e
      · rw [e] at h; cases h
      · rw [← oH hj, ← hs'.ver] at e; omega
  have blk : ∀ {i : Nat} {p : Nm}, hasB (μ' (i :: p)) (H' (i :: p)).ob = true → ¬ I' (μ' (i :: p)).b ∧ (M1 (i :: p) (μ' (i :: p)).b ∨ w.heap.size ≤ (μ' (i :: p)).b) ∧ (μ' (i :: p)).b < w'.heap.size := fun {i p} h => hs'.own _ h
  refine ⟨μ2, hx, ⟨?_, hs'.lt, fun b h => hs'.old b (hs.old b h), fun b h => ?_, fun o => ?_, fun o => ?_, fun o o' k k' hne => ?_, fun o k => ?_, hs.mle.trans hle, fun o k => ?_, by subst hP; exact hs'.tab⟩, hrel.ren hr hμ2⟩
  · have k1 := hs.kept
    have k2 := hs'.kept
    refine ⟨k2.os.trans k1.os, k2.tape.trans k1.tape, k2.output.trans k1.output, Nat.le_trans k1.size k2.size, fun b hb hM => ?_⟩
    refine (k2.block b (Nat.lt_of_lt_of_le hb k1.size) (fun ⟨_, i, p, _, q1, q2, q3⟩ => ?_)).trans (k1.block b hb hM)
    rcases (hs.own _ q2).2.1 with g | g
    · rw [← q3] at g; exact hM ⟨_, g⟩
    · rw [← q3] at g; omega
  · rcases hs'.new b h with g | g
    · exact hs.new b g
    · exact .inr (Nat.le_trans hs.kept.size g)
  · cases o with
    | nil => exact hs.ver []
    | cons j p =>
      by_cases hj : j ∈ rs
      · rw [app_in hj]
        show _ = (Hr (rs.idxOf j :: p)).u + δ (rs.idxOf j :: p)
        rw [← oH hj, ← hs'.ver]
        by_cases hi : rs.idxOf j < m ∨ 1 ≤ (μ' (rs.idxOf j :: p)).u
        · rw [mu_in hj hi]
        · rw [mu_old hj hi, δ1 (by omega) (idx_mem.2 hj), nmj hj, hs.ver]; omega
      · rw [app_out hj, mu_out hj]; exact hs.ver _
  · cases o with
    | nil => exact OSim.keep hx (fun hb => hs'.kept.block _ (hs.own _ hb).2.2 (notM1 hb rfl (fun j p e => nomatch e))) (hs.ob [])
    | cons j p =>
      by_cases hj : j ∈ rs
      · rw [app_in hj]
        by_cases hi : rs.idxOf j < m ∨ 1 ≤ (μ' (rs.idxOf j :: p)).u
        · rw [mu_in hj hi]
          have := hs'.ob (rs.idxOf j :: p)
          rw [oH hj] at this
          exact this.ren (ho _ _ (idx_mem.2 hj)) hμ2 rfl
        · rcases hv (rs.idxOf j) p (by omega) (idx_mem.2 hj) with e | e
          · simp only [outH, VOb.ren, e]; trivial
          · rw [← oH hj, ← hs'.ver] at e; omega
      · rw [app_out hj, mu_out hj]
        exact OSim.keep hx (fun hb => hs'.kept.block _ (hs.own _ hb).2.2 (notM1 hb rfl (fun j' p' e => by cases e; exact hj))) (hs.ob _)
  · have cross : ∀ {j : Nat} {p : Nm} {n : Nm}, j ∈ rs → hasB (μ2 (j :: p)) (outH rs m H Hr (j :: p)).ob = true → hasB (μ n) (H n).ob = true → (∀ j p, n = j :: p → j ∉ rs) → (μ2 (j :: p)).b ≠ (μ n).b := fun {j p n} hj h h' hn e => by
      obtain ⟨q1, q2⟩ := own2 hj h
      obtain ⟨_, g, _⟩ := blk q1
      rw [q2] at e
      rcases g with g | g
      · exact notM1 h' e hn ⟨_, g⟩
      · have := (hs.own _ h').2.2; omega
    cases o with
    | nil =>
      cases o' with
      | nil => exact (hne rfl).elim
      | cons j' p' =>
        by_cases hj' : j' ∈ rs
        · rw [app_in hj'] at k'
          exact Ne.symm (cross hj' k' k (fun j p e => nomatch e))
        · rw [app_out hj', mu_out hj'] at k'
          rw [mu_out hj']
          exact hs.apart _ _ k k' hne
    | cons j p =>
      by_cases hj : j ∈ rs
      · rw [app_in hj] at k
        cases o' with
        | nil => exact cross hj k k' (fun j p e => nomatch e)
        | cons j' p' =>
          by_cases hj' : j' ∈ rs
          · rw [app_in hj'] at k'
            obtain ⟨q1, q2⟩ := own2 hj k
            obtain ⟨r1, r2⟩ := own2 hj' k'
            rw [q2, r2]
            refine hs'.apart _ _ q1 r1 (fun e => hne ?_)
            have e1 : rs.idxOf j = rs.idxOf j' := by injection e
            have e2 : p = p' := by injection e
            rw [← getD_idx hj, ← getD_idx hj', e1, e2]
          · rw [app_out hj', mu_out hj'] at k'
            rw [mu_out hj']
            exact cross hj k k' (fun j'' p'' e => by cases e; exact hj')
      · rw [app_out hj, mu_out hj] at k
        rw [mu_out hj]
        cases o' with
        | nil => exact hs.apart _ _ k k' hne
        | cons j' p' =>
          by_cases hj' : j' ∈ rs
          · rw [app_in hj'] at k'
            exact Ne.symm (cross hj' k' k (fun j'' p'' e => by cases e; exact hj))
          · rw [app_out hj', mu_out hj'] at k'
            rw [mu_out hj']
            exact hs.apart _ _ k k' hne
  · have far : ∀ {n : Nm}, hasB (μ n) (H n).ob = true → ¬ I' (μ n).b ∧ (c.M0 n (μ n).b ∨ c.w0.heap.size ≤ (μ n).b) ∧ (μ n).b < w'.heap.size := fun {n} h => by
      obtain ⟨g1, g2, g3⟩ := hs.own _ h
      refine ⟨fun h' => ?_, g2, Nat.lt_of_lt_of_le g3 hs'.kept.size⟩
      rcases hs'.new _ h' with g | g
      · exact g1 g
      · exact absurd (show w.heap.size ≤ _ from g) (by omega)
    cases o with
    | nil => exact far k
    | cons j p =>
      by_cases hj : j ∈ rs
      · rw [app_in hj] at k
        obtain ⟨q1, q2⟩ := own2 hj k
        rw [q2]
        obtain ⟨g1, g2, g3⟩ := blk q1
        refine ⟨g1, ?_, g3⟩
        rcases g2 with ⟨i, p', r0, r1, r2, r3⟩ | g2
        · have e1 : rs.idxOf j = i := by injection r0
          have e2 : p = p' := by injection r0
          rw [← e1, ← e2, nmj hj] at r2 r3
          rw [r3]
          exact (hs.own _ r2).2.1
        · exact .inr (Nat.le_trans hs.kept.size g2)
      · rw [app_out hj, mu_out hj] at k
        rw [mu_out hj]
        exact far k
  · cases o with
    | nil => exact hs.tag _ k
    | cons j p =>
      by_cases hj : j ∈ rs
      · rw [app_in hj] at k
        rw [own3 hj k]
        exact hs'.tag _ (own2 hj k).1
      · rw [app_out hj, mu_out hj] at k
        rw [mu_out hj]
        exact hs.tag _ k
/-! ### calls that give up -/
/-- With such objects at its roots it panics so; nothing turns but what it was handed. -/
def DiesH (dt : TypeId) (P : Program) (f : FuncId) (args : List A) (Hc : Hp) : Prop :=
  okFn P f = true ∧ ∀ (w : World) (I : Nat → Prop) (M0 : Nm → Nat → Prop) (n : Nat) (μ : Mu) (vs : Array Value), (∀ (o : Nm) (b : Nat), (Hc o).ob = .none → ¬ M0 o b) → Sim (cxh P w I M0 n μ) w I μ Hc → vs.size = args.length → (∀ (k : Nat) (y : A), args[k]? = some y → Rel w I μ y (vs.getD k undef)) →
    Calls P f vs w fun e w' => e = .panicked [dieE dt] ∧ Kept (fun b => ∃ o, M0 o b) w w'
def cxd (dt : TypeId) (φ : Prop) (P : Program) (w0 : World) (I0 : Nat → Prop) (M0 : Nm → Nat → Prop) (n : Nat) (m0 : Mu) : Cx := ⟨P, w0, I0, M0, n, m0, fun t => t = dt ∧ φ, []⟩
@[simp] theorem cxd_P {dt : TypeId} {φ : Prop} {P : Program} {w0 : World} {I0 : Nat → Prop} {M0 : Nm → Nat → Prop} {n : Nat} {m0 : Mu} : (cxd dt φ P w0 I0 M0 n m0).P = P := rfl
theorem Sim.to_d {dt : TypeId} {φ : Prop} {P : Program} {w0 w : World} {I0 I : Nat → Prop} {M0 : Nm → Nat → Prop} {n n' : Nat} {m0 μ : Mu} {H : Hp} (hs : Sim (cxh P w0 I0 M0 n m0) w I μ H) : Sim (cxd dt φ P w0 I0 M0 n' m0) w I μ H :=
  ⟨hs.kept, hs.lt, hs.old, hs.new, hs.ver, hs.ob, hs.apart, hs.own, hs.mle, hs.tag, hs.tab⟩
theorem Sim.of_d {dt : TypeId} {φ : Prop} {P : Program} {w0 w : World} {I0 I : Nat → Prop} {M0 : Nm → Nat → Prop} {n n' : Nat} {m0 μ : Mu} {H : Hp} (hs : Sim (cxd dt φ P w0 I0 M0 n m0) w I μ H) : Sim (cxh P w0 I0 M0 n' m0) w I μ H :=
  ⟨hs.kept, hs.lt, hs.old, hs.new, hs.ver, hs.ob, hs.apart, hs.own, hs.mle, hs.tag, hs.tab⟩
/-- Its end is never come to. -/
def QDead (c : Cx) : Exit → Sta → Prop := fun _ st => Dead c st
theorem diesH_of {dt : TypeId} {P : Program} {f : FuncId} {n : Nat} {rs : List ResultVar} {cc : CC} {args : List A} {Hc : Hp} (t : Txt P f n rs cc) (ha : args.length ≤ n)
    (h : ∀ w0 I0 M0 m0, (∀ (o : Nm) (b : Nat), (Hc o).ob = .none → ¬ M0 o b) → WPC (cxd dt True P w0 I0 M0 n m0) cc (QDead (cxd dt True P w0 I0 M0 n m0)) ⟨argS args, Hc⟩) : DiesH dt P f args Hc := by
  obtain ⟨hm, hk, fn, code, hf, hb, hn, hrs, hc⟩ := t
  refine ⟨hk, fun w I M0 n' μ vs hN hs hl har => ?_⟩
  refine (body_run (Q := fun _ _ => False) hf hb (c := cxd dt True P w I M0 n μ) rfl hn.symm rfl hl (by omega) hs.to_d har (fun a w1 I1 μ1 hsr => wp_mono (wpc_sound (c := cxd dt True P w I M0 n μ) hm hc (h w I M0 μ hN) a w1 I1 μ1 hsr) fun e a' w' hh => by
      rcases hh with ⟨st', I', μ', g1, g2⟩ | k
      · exact (g2 _ _ _ _ g1).elim
      · exact .inr k)).mono fun e w' hh => ?_
  rcases hh with ⟨v, r0, H', I', μ', he, h1, h2, h3⟩ | ⟨t, ⟨rfl, _⟩, k2, k3⟩
  · exact h3.elim
  · exact ⟨k2, k3⟩
/-- In the text of a function that may give up, where it does not. -/
theorem specH_ofD {dt : TypeId} {P : Program} {f : FuncId} {n k : Nat} {rs : List ResultVar} {cc : CC} {args : List A} {Hc : Hp} {r : A} {Hr : Hp} (t : Txt P f n rs cc) (ha : args.length ≤ n)
    (h : ∀ w0 I0 M0 m0, (∀ (o : Nm) (b : Nat), (Hc o).ob = .none → ¬ M0 o b) → WPC (cxd dt False P w0 I0 M0 n m0) cc (RetH (cxd dt False P w0 I0 M0 n m0) rs k r Hr) ⟨argS args, Hc⟩) : SpecH P f k args Hc r Hr := by
  obtain ⟨hm, hk, fn, code, hf, hb, hn, hrs, hc⟩ := t
  refine ⟨hk, fun w I M0 n' μ vs hN hs hl har => ?_⟩
  refine (body_run (Q := fun r0 H => r0 = r ∧ ∀ (i : Nat) (p : Nm), i < k → H (i :: p) = Hr (i :: p)) hf hb (c := cxd dt False P w I M0 n μ) rfl hn.symm rfl hl (by omega) hs.to_d har (fun a w1 I1 μ1 hsr => wp_mono (wpc_sound (c := cxd dt False P w I M0 n μ) hm hc (h w I M0 μ hN) a w1 I1 μ1 hsr) fun e a' w' hh => by
      rcases hh with ⟨st', I', μ', g1, g2⟩ | ⟨t, ⟨_, k⟩, _⟩
      · rcases g2 with g2 | ⟨st2, g2, g3⟩
        · exact (g2 _ _ _ _ g1).elim
        · obtain ⟨I2, μ2, g4⟩ := g2 a' w' I' μ' g1
          exact .inl ⟨st2, I2, μ2, g4, by rw [hrs]; exact g3⟩
      · exact k.elim)).mono fun e w' hh => ?_
  rcases hh with ⟨v, r0, H', I', μ', he, h1, h2, h3, h4⟩ | ⟨t, ⟨_, k⟩, _⟩
  case inr => exact k.elim
  subst h3
  exact ⟨v, he, H', I', μ', h1.of_d, h2, h4⟩
theorem callD_of {dt : TypeId} {P : Program} {f : FuncId} {rs : List Nat} {m : Nat} {args : List A} {Hc : Hp} {H : Hp} (hnd : rs.Nodup) (hm : m ≤ rs.length)
    (hS : DiesH dt P f (A.renL (dnN rs) (fun _ => 0) args) Hc)
    (h1 : ∀ (i : Nat) (p : Nm), i < m → Hc (i :: p) = (H (rs.getD i 0 :: p)).ren (dnN rs) (fun _ => 0) 0) (h2 : ∀ (i : Nat) (p : Nm), m ≤ i → Hc (i :: p) = ⟨0, .none⟩) (h3 : Hc [] = ⟨0, .none⟩)
    (ha : A.refsL (inS rs m) args) (hc : ∀ (i : Nat) (p : Nm), i < m → (H (rs.getD i 0 :: p)).ob.refs (inS rs m)) {x : A} {E : Eff} :
    CallOKG (fun t => t = dt) P H f args x E := by
  refine ⟨hS.1, fun c w I μ vs hP hs hl har => ?_⟩
  let nm : Nat → Nm → Nm := fun i p => rs.getD i 0 :: p
  let μc : Mu := fun o => match o with
    | i :: p => if i < m then μ (nm i p) else mu0 (i :: p)
    | [] => mu0 []
  let M1 : Nm → Nat → Prop := fun o b => ∃ i p, o = i :: p ∧ i < m ∧ hasB (μ (nm i p)) (H (nm i p)).ob = true ∧ b = (μ (nm i p)).b
  have hμ : ∀ o, inS rs m o → 1 ≤ (μ o).u → μc (dnN rs o) = { μ o with u := (μ o).u + (fun _ => 0) o } := fun o ho _ => by
    cases o with
    | nil => exact ho.elim
    | cons j p =>
      have hj : rs.idxOf j < m := ho
      show (if rs.idxOf j < m then μ (nm (rs.idxOf j) p) else _) = _
      rw [if_pos hj]
      have : nm (rs.idxOf j) p = j :: p := by show rs.getD (rs.idxOf j) 0 :: p = _; rw [getD_idx (idx_mem.1 (by omega))]
      rw [this]
      rfl
  have nm_ne : ∀ {i i' : Nat} {p p' : Nm}, i < rs.length → i' < rs.length → i :: p ≠ i' :: p' → nm i p ≠ nm i' p' := fun {i i' p p'} hi hi' hne e => by
    have e1 : rs.getD i 0 = rs.getD i' 0 := by injection e
    have e2 : p = p' := by injection e
    have := idx_getD hnd hi
    rw [e1, idx_getD hnd hi'] at this
    exact hne (by rw [this, e2])
  have own1 : ∀ (i : Nat) (p : Nm), hasB (μc (i :: p)) (Hc (i :: p)).ob = true → i < m ∧ hasB (μ (nm i p)) (H (nm i p)).ob = true ∧ μc (i :: p) = μ (nm i p) := fun i p h => by
    by_cases hi : i < m
    · have e : μc (i :: p) = μ (nm i p) := if_pos hi
      rw [e, h1 i p hi] at h
      simp only [VOb.ren, hasB_ren] at h
      exact ⟨hi, h, e⟩
    · rw [h2 i p (by omega)] at h; cases h
  have start : Sim (cxh P w I M1 0 μc) w I μc Hc := by
    refine ⟨⟨rfl, rfl, rfl, Nat.le_refl _, fun _ _ _ => rfl⟩, hs.lt, fun _ h => h, fun b hb => .inl hb, fun o => ?_, fun o => ?_, fun o o' k k' hne => ?_, fun o k => ?_, MuLe.refl _, fun o k => ?_, by subst hP; exact hs.tab⟩
    · cases o with
      | nil => rw [h3]; rfl
      | cons i p =>
        by_cases hi : i < m
        · have e : μc (i :: p) = μ (nm i p) := if_pos hi
          rw [e, h1 i p hi, hs.ver]; rfl
        · have e : μc (i :: p) = mu0 (i :: p) := if_neg hi
          rw [e, h2 i p (by omega)]; rfl
    · cases o with
      | nil => rw [h3]; trivial
      | cons i p =>
        by_cases hi : i < m
        · have e : μc (i :: p) = μ (nm i p) := if_pos hi
          rw [e, h1 i p hi]
          exact (hs.ob (nm i p)).ren (hc i p hi) hμ rfl
        · rw [h2 i p (by omega)]; trivial
    · cases o with
      | nil => rw [h3] at k; cases k
      | cons i p =>
        cases o' with
        | nil => rw [h3] at k'; cases k'
        | cons i' p' =>
          obtain ⟨q1, q2, q3⟩ := own1 i p k
          obtain ⟨r1, r2, r3⟩ := own1 i' p' k'
          rw [q3, r3]
          exact hs.apart _ _ q2 r2 (nm_ne (by omega) (by omega) hne)
    · cases o with
      | nil => rw [h3] at k; cases k
      | cons i p =>
        obtain ⟨q1, q2, q3⟩ := own1 i p k
        rw [q3]
        obtain ⟨g1, g2, g3⟩ := hs.own _ q2
        exact ⟨g1, .inl ⟨i, p, rfl, q1, q2, rfl⟩, g3⟩
    · cases o with
      | nil => rw [h3] at k; cases k
      | cons i p =>
        obtain ⟨q1, q2, q3⟩ := own1 i p k
        rw [q3]
        exact hs.tag _ q2
  have harg : ∀ (k : Nat) (y : A), (A.renL (dnN rs) (fun _ => 0) args)[k]? = some y → Rel w I μc y (vs.getD k undef) := fun k y hk => by
    rw [renL_map, List.getElem?_map, Option.map_eq_some_iff] at hk
    obtain ⟨y', hy, rfl⟩ := hk
    exact (har k y' hy).ren (refsL_iff.1 ha y' (List.mem_of_getElem? hy)) hμ
  refine (hS.2 w I M1 0 μc vs (fun o b h ⟨i, p, e, hi, hb, _⟩ => by
    subst e
    rw [h1 i p hi] at h
    rw [show (H (nm i p)).ob = .none from obren_none h] at hb
    cases hb) start (by simpa [renL_map] using hl) harg).mono fun e w' ⟨he, k2⟩ => .inr ⟨dt, rfl, he, ?_⟩
  have k1 := hs.kept
  refine ⟨k2.os.trans k1.os, k2.tape.trans k1.tape, k2.output.trans k1.output, Nat.le_trans k1.size k2.size, fun b hb hM => ?_⟩
  refine (k2.block b (Nat.lt_of_lt_of_le hb k1.size) (fun ⟨_, i, p, _, q1, q2, q3⟩ => ?_)).trans (k1.block b hb hM)
  rcases (hs.own _ q2).2.1 with g | g
  · rw [← q3] at g; exact hM ⟨_, g⟩
  · rw [← q3] at g; omega
end Go.G
