/-
  Calls that give up (they panic with an empty struct), of functions that turn a root's family.
-/
import Derived.Test.YtebihdhapepejaaDoorGFam
namespace Go.G
set_option linter.unusedVariables false
set_option linter.unusedSimpArgs false
open Go.RowKit

/-- A family that is none. -/
def Fam.dead : Fam := ⟨fun _ p => if p = [] then ⟨1, .cells [.any]⟩ else ⟨0, .none⟩, fun {g δ r r'} h1 h2 p => by
  by_cases hp : p = []
  · subst hp; simp [VOb.ren, Ob.ren, A.renL, A.ren]
  · rw [if_neg hp]; rfl, fun {D r} h p => by
  by_cases hp : p = []
  · subst hp; simp [Ob.refs, A.refsL, A.refs]
  · rw [if_neg hp]; trivial⟩
theorem dead_F {r : Nat} : Fam.dead.F r [] = ⟨1, .cells [.any]⟩ := rfl
theorem dead_of {c : Cx} {s : Nat → A} {H : Hp} (r : Nat) (h : H [r] = ⟨1, .cells [.any]⟩) : Dead c ⟨s, H⟩ := fun a w I μ hs => by
  have := hs.sim.ob [r]
  rw [show (⟨s, H⟩ : Sta).H = H from rfl, h] at this
  obtain ⟨vs, _, _, h3⟩ := this
  have := (h3 0 .any rfl).1
  cases this
/-- With such objects below its root it gives up. -/
structure DiesF (dt : TypeId) (P : Program) (f : FuncId) (as : Nat → List A) (F : Fam) : Prop where
  fa : FamL as
  h : DiesH dt P f (as 0) (ov 0 (F.F 0) (lkH []))
theorem diesF_of {dt : TypeId} {P : Program} {f : FuncId} {n : Nat} {rs : List ResultVar} {cc : CC} {as : Nat → List A} {F : Fam} (t : Txt P f n rs cc) (ha : (as 0).length ≤ n) (h0 : FamL as)
    (h : ∀ w0 I0 M0 m0, WPC (cxd dt True P w0 I0 M0 n m0) cc (QDead (cxd dt True P w0 I0 M0 n m0)) ⟨argS (as 0), ov 0 (F.F 0) (lkH [])⟩) : DiesF dt P f as F :=
  ⟨h0, diesH_of t ha fun w0 I0 M0 m0 _ => h w0 I0 M0 m0⟩
/-- What becomes of a call: what it tells, and what the family is then; or it gives up. -/
def OutF (dt : TypeId) (P : Program) (f : FuncId) (as : Nat → List A) (F : Fam) : Option ((Nat → A) × Fam) → Prop
  | some o => SpecF P f as F o.1 o.2
  | none => DiesF dt P f as F
def RetO (c : Cx) (rs : List ResultVar) : Option ((Nat → A) × Fam) → Exit → Sta → Prop
  | some o => RetH c rs 1 (o.1 0) (ov 0 (o.2.F 0) (lkH []))
  | none => QDead c
theorem outF_of' {dt : TypeId} {P : Program} {f : FuncId} {n : Nat} {rs : List ResultVar} {cc : CC} {as : Nat → List A} {F : Fam} {o : Option ((Nat → A) × Fam)} (t : Txt P f n rs cc) (ha : (as 0).length ≤ n) (h0 : FamL as) (h1 : ∀ q, o = some q → FamA q.1)
    (h : ∀ w0 I0 M0 m0, (∀ r p b, 1 ≤ r → ¬ M0 (r :: p) b) → WPC (cxd dt (o = none) P w0 I0 M0 n m0) cc (RetO (cxd dt (o = none) P w0 I0 M0 n m0) rs o) ⟨argS (as 0), ov 0 (F.F 0) (lkH [])⟩) : OutF dt P f as F o := by
  have hM : ∀ {M0 : Nm → Nat → Prop}, (∀ (o : Nm) (b : Nat), ((ov 0 (F.F 0) (lkH []) : Hp) o).ob = .none → ¬ M0 o b) → ∀ r p b, 1 ≤ r → ¬ M0 (r :: p) b := fun hM r p b hr => hM (r :: p) b (by
    simp only [ov_cons]
    rw [if_neg (by omega)]
    rfl)
  cases o with
  | none =>
    refine ⟨h0, diesH_of t ha fun w0 I0 M0 m0 hN => ?_⟩
    have := h w0 I0 M0 m0 (hM hN)
    rw [show ((none : Option ((Nat → A) × Fam)) = none) = True from eq_true rfl] at this
    exact this
  | some q =>
    refine ⟨h0, h1 q rfl, specH_ofD (dt := dt) t ha fun w0 I0 M0 m0 hN => ?_⟩
    have := h w0 I0 M0 m0 (hM hN)
    rw [show (some q = none) = False from eq_false (fun e => nomatch e)] at this
    exact this
theorem outF_of {dt : TypeId} {P : Program} {f : FuncId} {n : Nat} {rs : List ResultVar} {cc : CC} {as : Nat → List A} {F : Fam} {o : Option ((Nat → A) × Fam)} (t : Txt P f n rs cc) (ha : (as 0).length ≤ n) (h0 : FamL as) (h1 : ∀ q, o = some q → FamA q.1)
    (h : ∀ w0 I0 M0 m0, WPC (cxd dt (o = none) P w0 I0 M0 n m0) cc (RetO (cxd dt (o = none) P w0 I0 M0 n m0) rs o) ⟨argS (as 0), ov 0 (F.F 0) (lkH [])⟩) : OutF dt P f as F o := outF_of' t ha h0 h1 fun w0 I0 M0 m0 _ => h w0 I0 M0 m0
section
variable {P : Program} {K : Kont} {rest : List CO} {s : Nat → A} {H : Hp} {dd : Option Nat} {nm : Nm} {ix : Nat} {un : List Nat} {l : Bool} {lg : Lg} {g : FuncId} {aa : Array Operand} {ts : Array TypeId}
/-- A call that gives up, where one may. What it tells is no matter. -/
theorem sc_famX {dt : TypeId} {as : Nat → List A} {F : Fam} (x : A) (r : Nat) (hS : DiesF dt P g as F) (hD : K.D dt) (hF : ∀ p, H (r :: p) = F.F r p) (ha : aa.toList.map (evs s) = as r) (hck : Ck un lg ⟨[], [([r], true)]⟩)
    (h : SeqC P K rest (addL l ix ⟨[], [([r], true)]⟩ lg) (Sta.put ⟨s, H⟩ dd x (ov r (Fam.dead.F r) H))) :
    SeqC P K (⟨dd, .call { callee := .value (.func g), args := aa, argTypes := ts }, none, nm, ix, un, l⟩ :: rest) lg ⟨s, H⟩ := by
  have hE : (Eff.fn [r] (ov r (Fam.dead.F r) H)).app H = ov r (Fam.dead.F r) H := by
    funext o
    cases o with
    | nil => rfl
    | cons j p =>
      by_cases hj : j = r
      · subst hj; simp [Eff.app]
      · simp [Eff.app, hj]
  rw [← hE] at h
  refine ⟨x, Eff.fn [r] (ov r (Fam.dead.F r) H), ⟨[], [([r], true)]⟩, ⟨g, [], [], rfl, .inr ⟨fun H2 hag => ?_, fun o H2 ho => ?_⟩⟩, hck, h⟩
  · have ag : ∀ p, H2 (r :: p) = H (r :: p) := fun p => hag _ (by simp [hit, hit1, List.isPrefixOf])
    have hF2 : ∀ p, H2 (r :: p) = F.F r p := fun p => (ag p).trans (hF p)
    have hH := fam_in hF2
    have hcl := fam_closed hF2
    have ha' : aa.toList.map (evs s) = as r := ha
    have e1 : A.renL (dnN [r]) (fun _ => 0) (as r) = as 0 := hS.fa.ren (fun q => by simp [dnN]) (fun _ => rfl)
    have e2 : A.refsL (inS [r] 1) (as r) := hS.fa.refs (fun q => by simp [inS])
    have := callD_of (dt := dt) (P := P) (f := g) (rs := [r]) (m := 1) (args := as r) (Hc := ov 0 (F.F 0) (lkH [])) (H := H2) (by simp) (by simp) (by rw [e1]; exact hS.h)
      (fun i p hi => by
        have : i = 0 := by omega
        subst this
        rw [← hH]; simp only [inHp, if_pos hi])
      (fun i p hi => by rw [← hH]; simp only [inHp]; rw [if_neg (by omega)]) (by rw [← hH]; rfl) e2
      (fun i p hi => by
        have : i = 0 := by omega
        subst this
        exact hcl _ _ (by simp)) (x := x) (E := Eff.fn [r] (ov r (Fam.dead.F r) H))
    simp only [List.nil_append, List.append_nil, ha']
    exact ⟨this.1, fun c w I μ vs hP hs hl hr => (this.2 c w I μ vs hP hs hl hr).mono fun e w' hh => hh.imp id fun ⟨t, ht, k⟩ => ⟨t, by rw [show t = dt from ht]; exact hD, k⟩⟩
  · cases o with
    | nil => rfl
    | cons j p =>
      have : ¬ j = r := fun hj => by subst hj; simp [hit, hit1, List.isPrefixOf] at ho
      simp [Eff.app, this]
end
end Go.G
