/-
  Calls of functions' values that turn the caller's objects.
-/
import Derived.Test.YtebihdhapepejaaDoorGCall2
namespace Go.G
set_option linter.unusedVariables false
set_option linter.unusedSimpArgs false
open Go.RowKit

/-- A call of a function's value that turns objects of the call's own. -/
theorem sc_callhv {P : Program} {K : Kont} {rest : List CO} {s : Nat → A} {H : Hp} {dd : Option Nat} {nm : Nm} {ix : Nat} {un : List Nat} {l : Bool} {lg : Lg} {g : FuncId} {fo : Operand} {fs caps L : List A} {as : Array Operand} {ts : Array TypeId} {x : A} (hv0 : evs s fo = .fnc g fs caps) (hL : fs ++ (as.toList.map (evs s) ++ caps) = L) (E : Eff) (R W : Fp) (hs : ∀ H2, Agree (R ++ W) H H2 → CallOK P H2 g L x E) (hw : Supp E W) (hc : Ck un lg ⟨R, W⟩) (h : SeqC P K rest (addL l ix ⟨R, W⟩ lg) (Sta.put ⟨s, H⟩ dd x (E.app H))) :
    SeqC P K (⟨dd, .call { callee := .value fo, args := as, argTypes := ts }, none, nm, ix, un, l⟩ :: rest) lg ⟨s, H⟩ := by
  subst hL
  exact ⟨x, E, ⟨R, W⟩, ⟨g, fs, caps, hv0, .inl (.inr (.inr ⟨hs, hw⟩))⟩, hc, h⟩
/-- A call of a function's value that turns the caller's objects. -/
theorem sc_callHv {P : Program} {K : Kont} {rest : List CO} {s : Nat → A} {H : Hp} {dd : Option Nat} {nm : Nm} {ix : Nat} {un : List Nat} {l : Bool} {lg : Lg} {g : FuncId} {fo : Operand} {fs caps L : List A} {as : Array Operand} {ts : Array TypeId}
    (hv0 : evs s fo = .fnc g fs caps) (hL : fs ++ (as.toList.map (evs s) ++ caps) = L) (rs : List Nat) (m : Nat) {args : List A} {Hc Hr H' : Hp} {r x : A} (hS : SpecH P g rs.length args Hc r Hr) (hnd : rs.Nodup) (hm : m ≤ rs.length)
    (ha : A.renL (dnN rs) (fun _ => 0) L = args) (har : A.refsL (inS rs m) L) (hH : inHp rs m H = Hc) (hcl : ClosedH rs m H)
    (hr : r.refs (outS rs.length)) (ho : ∀ (i : Nat) (p : Nm), i < rs.length → (Hr (i :: p)).ob.refs (outS rs.length)) (hv : ∀ (i : Nat) (p : Nm), m ≤ i → i < rs.length → (Hr (i :: p)).ob = .none ∨ 1 ≤ (Hr (i :: p)).u)
    (hx : r.ren (upN rs) (dlt rs m H) = x) (hH' : outG rs (dlt rs m H) H Hr = H') (hck : Ck un lg ⟨[], rs.map fun r => ([r], true)⟩)
    (h : SeqC P K rest (addL l ix ⟨[], rs.map fun r => ([r], true)⟩ lg) (Sta.put ⟨s, H⟩ dd x H')) :
    SeqC P K (⟨dd, .call { callee := .value fo, args := as, argTypes := ts }, none, nm, ix, un, l⟩ :: rest) lg ⟨s, H⟩ := by
  have hit_in : ∀ {j : Nat} {p : Nm}, j ∈ rs → hit (rs.map fun r => ([r], true)) (j :: p) = true := fun {j p} hj => by
    simp only [hit, List.any_map, List.any_eq_true]
    exact ⟨j, hj, by simp [hit1, List.isPrefixOf]⟩
  have hnil : (Eff.fn rs (outH rs m H Hr)).app H = H' := by rw [app_outH]; exact hH'
  subst hx
  rw [← hnil] at h
  refine sc_callhv hv0 hL (Eff.fn rs (outH rs m H Hr)) [] (rs.map fun r => ([r], true)) (fun H2 hag => ?_) (fun o H2 ho' => ?_) hck h
  · have ag : ∀ {j : Nat} {p : Nm}, j ∈ rs → H2 (j :: p) = H (j :: p) := fun {j p} hj => hag _ (by simpa using hit_in hj)
    have agi : ∀ {i : Nat} {p : Nm}, i < rs.length → H2 (rs.getD i 0 :: p) = H (rs.getD i 0 :: p) := fun {i p} hi => ag (by simp [List.getD, hi])
    have hd : dlt rs m H2 = dlt rs m H := by
      funext o
      cases o with
      | nil => rfl
      | cons i p =>
        simp only [dlt]
        by_cases hi : i < rs.length
        · rw [agi hi]
        · rw [if_neg hi, if_neg hi]
    have hoH : outH rs m H2 Hr = outH rs m H Hr := by
      funext o
      cases o with
      | nil => rfl
      | cons j p => simp only [outH, hd]
    subst ha
    have := callOK_of (P := P) (f := g) (rs := rs) (m := m) (args := L) (Hc := Hc) (Hr := Hr) (r := r) (H := H2) hnd hm hS
      (fun i p hi => by rw [← hH, agi (by omega)]; simp only [inHp, if_pos hi]) (fun i p hi => by rw [← hH]; simp only [inHp]; rw [if_neg (by omega)]) (by rw [← hH]; rfl) har
      (fun i p hi => by rw [agi (by omega)]; exact hcl _ _ (by rw [idx_getD hnd (by omega)]; exact hi)) hr ho hv
    rwa [hd, hoH] at this
  · cases o with
    | nil => rfl
    | cons j p =>
      have : ¬ j ∈ rs := fun hj => by rw [hit_in hj] at ho'; cases ho'
      simp [Eff.app, this]
/-- What such a call does, whoever calls. -/
theorem callR_H {P : Program} {H : Hp} {g : FuncId} {L : List A} (rs : List Nat) (m : Nat) {args : List A} {Hc Hr H' : Hp} {r : A} (hS : SpecH P g rs.length args Hc r Hr) (hnd : rs.Nodup) (hm : m ≤ rs.length)
    (ha : A.renL (dnN rs) (fun _ => 0) L = args) (har : A.refsL (inS rs m) L) (hH : inHp rs m H = Hc) (hcl : ClosedH rs m H)
    (hr : r.refs (outS rs.length)) (ho : ∀ (i : Nat) (p : Nm), i < rs.length → (Hr (i :: p)).ob.refs (outS rs.length)) (hv : ∀ (i : Nat) (p : Nm), m ≤ i → i < rs.length → (Hr (i :: p)).ob = .none ∨ 1 ≤ (Hr (i :: p)).u)
    (hH' : outG rs (dlt rs m H) H Hr = H') : ∃ E, CallR P H g L (r.ren (upN rs) (dlt rs m H)) E [] (rs.map fun r => ([r], true)) ∧ E.app H = H' := by
  have hit_in : ∀ {j : Nat} {p : Nm}, j ∈ rs → hit (rs.map fun r => ([r], true)) (j :: p) = true := fun {j p} hj => by
    simp only [hit, List.any_map, List.any_eq_true]
    exact ⟨j, hj, by simp [hit1, List.isPrefixOf]⟩
  have hnil : (Eff.fn rs (outH rs m H Hr)).app H = H' := by rw [app_outH]; exact hH'
  refine ⟨Eff.fn rs (outH rs m H Hr), .inr (.inr ⟨fun H2 hag => ?_, fun o H2 ho' => ?_⟩), hnil⟩
  · have ag : ∀ {j : Nat} {p : Nm}, j ∈ rs → H2 (j :: p) = H (j :: p) := fun {j p} hj => hag _ (by simpa using hit_in hj)
    have agi : ∀ {i : Nat} {p : Nm}, i < rs.length → H2 (rs.getD i 0 :: p) = H (rs.getD i 0 :: p) := fun {i p} hi => ag (by simp [List.getD, hi])
    have hd : dlt rs m H2 = dlt rs m H := by
      funext o
      cases o with
      | nil => rfl
      | cons i p =>
        simp only [dlt]
        by_cases hi : i < rs.length
        · rw [agi hi]
        · rw [if_neg hi, if_neg hi]
    have hoH : outH rs m H2 Hr = outH rs m H Hr := by
      funext o
      cases o with
      | nil => rfl
      | cons j p => simp only [outH, hd]
    subst ha
    have := callOK_of (P := P) (f := g) (rs := rs) (m := m) (args := L) (Hc := Hc) (Hr := Hr) (r := r) (H := H2) hnd hm hS
      (fun i p hi => by rw [← hH, agi (by omega)]; simp only [inHp, if_pos hi]) (fun i p hi => by rw [← hH]; simp only [inHp]; rw [if_neg (by omega)]) (by rw [← hH]; rfl) har
      (fun i p hi => by rw [agi (by omega)]; exact hcl _ _ (by rw [idx_getD hnd (by omega)]; exact hi)) hr ho hv
    rwa [hd, hoH] at this
  · cases o with
    | nil => rfl
    | cons j p =>
      have : ¬ j ∈ rs := fun hj => by rw [hit_in hj] at ho'; cases ho'
      simp [Eff.app, this]
/-- A method of an interface's value, called. -/
theorem sc_inv {P : Program} {K : Kont} {rest : List CO} {s : Nat → A} {H H' : Hp} {dd : Option Nat} {nm : Nm} {ix : Nat} {un : List Nat} {l : Bool} {lg : Lg} {ro : Operand} {name : String} {t : TypeId} {a a' : A} {g : FuncId} {d : Option TypeId} {L : List A} {as : Array Operand} {ts : Array TypeId} {x : A} {R W : Fp}
    (hr : evs s ro = .ifc t a) (hm : methA P t name = some (g, d)) (ha : recvA P H d a = some a') (hL : a' :: as.toList.map (evs s) = L) (hc : ∃ E, CallR P H g L x E R W ∧ E.app H = H') (hck : Ck un lg ⟨refs a ++ R, W⟩)
    (h : SeqC P K rest (addL l ix ⟨refs a ++ R, W⟩ lg) (Sta.put ⟨s, H⟩ dd x H')) :
    SeqC P K (⟨dd, .call { callee := .invoke ro name, args := as, argTypes := ts }, none, nm, ix, un, l⟩ :: rest) lg ⟨s, H⟩ := by
  obtain ⟨E, h1, rfl⟩ := hc
  subst hL
  exact ⟨x, E, ⟨refs a ++ R, W⟩, ⟨t, a, g, d, a', R, hr, hm, ha, h1, rfl⟩, hck, h⟩
end Go.G
