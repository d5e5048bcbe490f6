/-
  Results that share nothing with what goes in; a slice without elements, by cases: nil, or not.
-/
import Derived.Test.YtebihdhapepejaaDoorGSimp
namespace Go.G
set_option linter.unusedVariables false
set_option linter.unusedSimpArgs false
open Go.RowKit

/-- As it reads when nothing but the call's own memory is looked at. -/
def FrzN (H : Hp) (a a' : A) : Prop := ∀ (c : Cx) (w : World) (I : Nat → Prop) (μ : Mu) (v : Value), Sim c w I μ H → Rel w I μ a v → Rel w (fun b => Owned H μ b) mu0 a' v

/-- The function's end: its results share nothing with what went in. -/
def RetN (P : Program) (rs : List ResultVar) (r : A) : Exit → Sta → Prop := RetG P rs fun r0 H => FrzN H r0 r

theorem specB_of {P : Program} {f : FuncId} {n : Nat} {rs : List ResultVar} {cc : CC} {args : List A} {r : A} (t : Txt P f n rs cc) (ha : args.length ≤ n) (h : ∀ w0 I0, WPC (cx P w0 I0 n) cc (RetN P rs r) ⟨argS args, H0⟩) : SpecB P f args r := by
  obtain ⟨hm, hk, fn, code, hf, hb, hn, hrs, hc⟩ := t
  refine ⟨hk, fun w I J vs hI hJ htb hl hr => ?_⟩
  have hIJ : ∀ b, (I b ∨ J b) → b < w.heap.size := fun b hb => hb.elim (hI b) (hJ b)
  have h1 : AWP (cx P w (fun b => I b ∨ J b) n) code (RetG P fn.results.toList fun r0 H => FrzN H r0 r) ⟨argS args, H0⟩ := wpc_sound (c := cx P w _ n) hm hc (by rw [hrs]; exact h w _)
  refine (body_run hf hb (c := cx P w (fun b => I b ∨ J b) n) rfl hn.symm rfl hl (by omega) (sim_start hIJ (htb.mono (fun _ h => .inl h) (fun _ _ => rfl))) hr h1).mono fun e w' hh => ?_
  rcases hh with ⟨v, r0, H', I', μ', he, h1, h2, h3⟩ | ⟨t, k, _⟩
  case inr => exact k.elim
  refine ⟨v, he, ?_, ?_⟩
  · have k := h1.kept
    exact ⟨k.os, k.tape, k.output, k.size, fun b hb => k.block b hb (fun ⟨_, h⟩ => h)⟩
  · refine (h3 _ w' I' μ' v h1 h2).mono0 (fun b hb => ?_) (fun _ _ => rfl)
    obtain ⟨o, g1, rfl⟩ := hb
    obtain ⟨_, g4, g5⟩ := h1.own o g1
    rcases g4 with g4 | g4
    · exact g4.elim
    · exact .inr ⟨g4, g5⟩

@[simp] theorem retN_normal {P : Program} {rs : List ResultVar} {r : A} {st : Sta} : RetN P rs r .normal st = Gt (resA P st rs) fun r0 => FrzN st.H r0 r := rfl
@[simp] theorem retN_ret {P : Program} {rs : List ResultVar} {r : A} {st : Sta} : RetN P rs r .ret st = Gt (resA P st rs) fun r0 => FrzN st.H r0 r := rfl

theorem frzN_flat {H : Hp} {a : A} (h : a.flat = true) : FrzN H a a := fun c w I μ v hs hr => hr.of_flat h
theorem frzN_nil {H : Hp} {f : Bool} : FrzN H (.sl f []) (.sl false []) := fun c w I μ v hs hr => by
  cases hr with
  | slN _ _ a cap _ => exact .slN _ _ _ _ (fun h => by cases h)
  | sl _ _ b off n cap sz _ g h1 h2 =>
    have : n = 0 := h2
    subst this
    exact .slN _ _ _ _ (fun h => by cases h)
theorem frzN_v0 {H : Hp} {a : Option Addr} {c : Nat} : FrzN H (.v (.slice a 0 c)) (.sl false []) := fun c w I μ v hs hr => by
  cases hr
  exact .slN _ _ _ _ (fun h => by cases h)

/-- A row of plain cells. -/
theorem frzN_osl {H : Hp} {o : Nm} {u off len sz : Nat} {xs : List A} (ho : getR H o u = some (sz, xs)) (hl : off + len ≤ xs.length) (hb : ((xs.drop off).take len).all (fun x => x.cells.length == sz && x.cells.all fun y => A.flat1 y && y.one) = true) : FrzN H (.osl o u sz off len) (.sl false ((xs.drop off).take len)) := by
  simp only [List.all_eq_true, Bool.and_eq_true, beq_iff_eq] at hb
  intro c w I μ v hs hr
  have hlen : ((xs.drop off).take len).length = len := by simp; omega
  have hcell : ∀ (k : Nat) (y : A), (((xs.drop off).take len).flatMap A.cells)[k]? = some y → y.flat1 = true ∧ y.one = true := fun k y hk => by
    obtain ⟨x, hx, hy⟩ := List.mem_flatMap.1 (List.mem_of_getElem? hk)
    exact (hb x hx).2 y hy
  cases hr with
  | osl _ _ _ _ _ _ a cap g1 g2 g4 g5 g3 =>
    obtain ⟨hu, k2, hrow⟩ := hs.row ho
    obtain ⟨_, hcur⟩ := g3 hu.symm
    by_cases h0 : len = 0
    · subst h0
      simp only [List.take_zero]
      exact .slN _ _ _ _ (fun h => by cases h)
    rcases hcur with ⟨e, _⟩ | ⟨p1, rfl, p3⟩
    · exact (h0 e).elim
    rcases hrow with ⟨q1, _⟩ | ⟨q1, vs, k3, k4, k5, k6, k7⟩
    · rw [p1] at q1; cases q1
    subst k2
    have hB : hasB (μ o) (H o).ob = true := by rw [(getR_some ho).2]; exact q1
    have hg : ∀ (k : Nat) (y : A), (((xs.drop off).take len).flatMap A.cells)[k]? = some y → (xs.flatMap A.cells)[off * (μ o).sz + k]? = some y := fun k y hk => flat_take_drop k6 hk
    refine .sl _ _ (μ o).b (off * (μ o).sz) _ _ (μ o).sz _ (fun k => vs.getD (off * (μ o).sz + k) undef) ⟨o, hB, rfl⟩ hlen.symm (by omega) (fun h => by cases h) (fun z hz => k6 z (List.mem_of_mem_drop (List.mem_of_mem_take hz)))
      (fun k y hk => (hcell k y hk).2) (fun k y hk => ?_) (fun k y hk => (k7 _ y (hg k y hk)).2.of_flat1 (hcell k y hk).1)
    have h3 := hg k y hk
    have h4 := flat_len k6
    have h5 : xs.length * (μ o).sz ≤ (μ o).cap * (μ o).sz := Nat.mul_le_mul_right _ k5
    have h6 := (List.getElem?_eq_some_iff.1 h3).1
    rw [cell_of_row w (μ o).b _ vs (μ o).e (0, 0) k3]
    have : off * (μ o).sz + k < vs.size := by rw [k4]; omega
    simp [this]

theorem specB_nil {P : Program} {f : FuncId} {fl : Bool} {r : A} (h1 : ∀ cap, SpecB P f [.v (.slice none 0 cap)] r) (h2 : ∀ a cap, SpecB P f [.v (.slice (some a) 0 cap)] r) : SpecB P f [.sl fl []] r := by
  refine ⟨(h1 0).1, fun w I J vs hI hJ htb hl hr => ?_⟩
  have h := hr 0 _ rfl
  have go : ∀ x, vs.getD 0 undef = x → ∀ (k : Nat) (y : A), [A.v x][k]? = some y → Rel w (fun b => I b ∨ J b) mu0 y (vs.getD k undef) := fun x hx k y hk => by
    cases k with
    | zero => cases hk; rw [hx]; exact .v _ _
    | succ k => simp at hk
  generalize hq : vs.getD 0 undef = x at h
  cases h with
  | slN _ _ a cap _ =>
    cases a with
    | none => exact (h1 cap).2 w I J vs hI hJ htb hl (go _ hq)
    | some a => exact (h2 a cap).2 w I J vs hI hJ htb hl (go _ hq)
  | sl _ _ b off n cap sz _ g k1 k2 =>
    have : n = 0 := k2
    subst this
    exact (h2 _ cap).2 w I J vs hI hJ htb hl (go _ hq)
end Go.G
