/-
  What the operations yield, by the operands' shape.
-/
import Derived.Test.YtebihdhapepejaaDoorGCode
namespace Go.G
set_option linter.unusedVariables false
set_option linter.unusedSimpArgs false
open Go.RowKit

section
variable {P : Program} {H : Hp} {t u : TypeId}
/-- An entry's cells, its row, at a version. -/
def vc (x : VOb) (u : Nat) : Option (List A) := match x with | ⟨u', .cells cs⟩ => if u' = u then some cs else none | _ => none
def vr (x : VOb) (u : Nat) : Option (Nat × List A) := match x with | ⟨u', .arr s xs⟩ => if u' = u then some (s, xs) else none | _ => none
@[simp] theorem vc_cells {u' u : Nat} {cs : List A} : vc ⟨u', .cells cs⟩ u = if u' = u then some cs else none := rfl
@[simp] theorem vr_arr {u' u s : Nat} {xs : List A} : vr ⟨u', .arr s xs⟩ u = if u' = u then some (s, xs) else none := rfl
@[simp] theorem getC_at {o : Nm} {u : Nat} : getC H o u = vc (H o) u := rfl
@[simp] theorem getR_at {o : Nm} {u : Nat} : getR H o u = vr (H o) u := rfl
@[simp] theorem load_pob {o : Nm} {u off : Nat} : loadA P H t (.pob o u off) = match aggT P t, szT P t with | some g, some sz => (match vc (H o) u with | some cs => pickA g sz (cs.drop off) | none => none) | _, _ => none := by
  unfold loadA
  cases aggT P t with
  | none => rfl
  | some g =>
    cases szT P t with
    | none => rfl
    | some sz => rfl
@[simp] theorem load_pel {o : Nm} {u i j : Nat} : loadA P H t (.pel o u i j) = match aggT P t, szT P t with | some g, some sz => (match vr (H o) u with | some (_, xs) => (match xs[i]? with | some x => pickA g sz (x.cells.drop j) | none => none) | none => none) | _, _ => none := by
  unfold loadA
  cases aggT P t with
  | none => rfl
  | some g =>
    cases szT P t with
    | none => rfl
    | some sz => rfl
@[simp] theorem store_pob {o : Nm} {u off : Nat} {val : A} : storeA P H t (.pob o u off) val = match szT P t with
    | some sz => if val.cells.length = sz ∧ A.ones val.cells = true then (match vc (H o) u with | some cs => if off + sz ≤ cs.length then some (.one o ⟨u, .cells (splice cs off val.cells)⟩) else none | none => none) else none
    | none => none := by
  unfold storeA
  cases szT P t <;> rfl
def stElem (o : Nm) (u i j s sz : Nat) (xs : List A) (val : A) : Option A → Option Eff
  | some x => if j = 0 ∧ sz = s then some (.one o ⟨u, .arr s (xs.set i val)⟩)
    else if j + sz ≤ s ∧ x.isAgg = true then some (.one o ⟨u, .arr s (xs.set i (x.remake (splice x.cells j val.cells)))⟩) else none
  | none => none
def stRow (o : Nm) (u i j sz : Nat) (val : A) : Option (Nat × List A) → Option Eff
  | some (s, xs) => stElem o u i j s sz xs val xs[i]?
  | none => none
@[simp] theorem stRow_some {o : Nm} {u i j s sz : Nat} {xs : List A} {val : A} : stRow o u i j sz val (some (s, xs)) = stElem o u i j s sz xs val xs[i]? := rfl
@[simp] theorem stElem_some {o : Nm} {u i j s sz : Nat} {xs : List A} {x val : A} : stElem o u i j s sz xs val (some x) = if j = 0 ∧ sz = s then some (.one o ⟨u, .arr s (xs.set i val)⟩)
    else if j + sz ≤ s ∧ x.isAgg = true then some (.one o ⟨u, .arr s (xs.set i (x.remake (splice x.cells j val.cells)))⟩) else none := rfl
@[simp] theorem store_pel {o : Nm} {u i j : Nat} {val : A} : storeA P H t (.pel o u i j) val = match szT P t with
    | some sz => if val.cells.length = sz ∧ A.ones val.cells = true then stRow o u i j sz val (vr (H o) u) else none
    | none => none := by
  unfold storeA
  cases szT P t with
  | none => rfl
  | some sz =>
    simp only [getR_at]
    cases vr (H o) u with
    | none => rfl
    | some p =>
      obtain ⟨s, xs⟩ := p
      simp only [stRow_some]
      cases xs[i]? <;> rfl
@[simp] theorem alloc_eq {d : Nm} {e : TypeId} : allocA P H d e = match zeroT P e with | some z => if A.ones (ofV z).cells = true ∧ tagOK d e = true then some (.pob d ((H d).u + 1) 0, .one d ⟨(H d).u + 1, .cells (ofV z).cells⟩) else none | none => none := rfl
@[simp] theorem box_eq {d : Nm} {e : TypeId} {a : A} : boxA H d e a = if A.ones a.cells = true ∧ tagOK d e = true then some (.pob d ((H d).u + 1) 0, .one d ⟨(H d).u + 1, .cells a.cells⟩) else none := rfl
@[simp] theorem ptrA_eq {a : A} : ptrA a = if a.isPtr = true then some a else none := rfl
def mkRow (H : Hp) (d : Nm) (e : TypeId) (n c : Int) : Option Nat → Option Value → Option Nat → Option (A × Eff)
  | some s, some z, some b => if 0 ≤ n ∧ n ≤ c ∧ b * c ≤ 140737488355328 ∧ 0 < b ∧ (ofV z).cells.length = s ∧ A.ones (ofV z).cells = true ∧ tagOK d e = true then some (.osl d ((H d).u + 1) s 0 n.toNat, .one d ⟨(H d).u + 1, .arr s (List.replicate n.toNat (ofV z))⟩) else none
  | _, _, _ => none
@[simp] theorem mkRow_some {d : Nm} {e : TypeId} {n c : Int} {s b : Nat} {z : Value} : mkRow H d e n c (some s) (some z) (some b) = if 0 ≤ n ∧ n ≤ c ∧ b * c ≤ 140737488355328 ∧ 0 < b ∧ (ofV z).cells.length = s ∧ A.ones (ofV z).cells = true ∧ tagOK d e = true then some (.osl d ((H d).u + 1) s 0 n.toNat, .one d ⟨(H d).u + 1, .arr s (List.replicate n.toNat (ofV z))⟩) else none := rfl
@[simp] theorem makeSlice_eq {d : Nm} {k k' : IntKind} {n c : Int} : makeSliceA P H d t (.v (.int k n)) (.v (.int k' c)) = match P.underlying t with | some (.slice e) => mkRow H d e n c (szT P e) (zeroT P e) (bytesT P e) | _ => none := by
  unfold makeSliceA
  cases P.underlying t with
  | none => rfl
  | some q =>
    cases q <;> first
      | rfl
      | (rename_i e; cases szT P e <;> cases zeroT P e <;> cases bytesT P e <;> rfl)
def apS (H : Hp) (d : Nm) (e : TypeId) (xs : List A) : Option (List A) → Option Nat → Option Value → Option Nat → Option (A × Eff)
  | some zs, some s, some z, some b => if 0 < b ∧ (ofV z).cells.length = s ∧ A.ones (ofV z).cells = true then if lens s xs = true ∧ (xs.length = 0 ∨ 0 < zs.length) ∧ (xs.length + zs.length) * b ≤ 140737488355328 ∧ tagOK d e = true then some (.osl d ((H d).u + 1) s 0 (xs.length + zs.length), .one d ⟨(H d).u + 1, .arr s (xs ++ zs)⟩) else none else none
  | _, _, _, _ => none
@[simp] theorem apS_some {d : Nm} {e : TypeId} {xs zs : List A} {s b : Nat} {z : Value} : apS H d e xs (some zs) (some s) (some z) (some b) = if 0 < b ∧ (ofV z).cells.length = s ∧ A.ones (ofV z).cells = true then if lens s xs = true ∧ (xs.length = 0 ∨ 0 < zs.length) ∧ (xs.length + zs.length) * b ≤ 140737488355328 ∧ tagOK d e = true then some (.osl d ((H d).u + 1) s 0 (xs.length + zs.length), .one d ⟨(H d).u + 1, .arr s (xs ++ zs)⟩) else none else none := rfl
def apO (o : Nm) (e : TypeId) (v sz off len : Nat) : Option (Nat × List A) → Option (List A) → Option Nat → Option Value → Option Nat → Option (A × Eff)
  | some (s', ys), some zs, some s, some z, some b => if 0 < b ∧ (ofV z).cells.length = s ∧ A.ones (ofV z).cells = true then if off = 0 ∧ s' = s ∧ sz = s ∧ len ≤ ys.length ∧ (len + zs.length) * b ≤ 140737488355328 ∧ tagOK o e = true then some (.osl o (v + 1) s 0 (len + zs.length), .one o ⟨v + 1, .arr s (ys.take len ++ zs)⟩) else none else none
  | _, _, _, _, _ => none
@[simp] theorem apO_some {o : Nm} {e : TypeId} {v sz off len s' s b : Nat} {ys zs : List A} {z : Value} : apO o e v sz off len (some (s', ys)) (some zs) (some s) (some z) (some b) = if 0 < b ∧ (ofV z).cells.length = s ∧ A.ones (ofV z).cells = true then if off = 0 ∧ s' = s ∧ sz = s ∧ len ≤ ys.length ∧ (len + zs.length) * b ≤ 140737488355328 ∧ tagOK o e = true then some (.osl o (v + 1) s 0 (len + zs.length), .one o ⟨v + 1, .arr s (ys.take len ++ zs)⟩) else none else none := rfl
def srcT (P : Program) (H : Hp) (t u : TypeId) (x : A) : Option (List A) := match P.underlying t with
  | some (.slice e) => match szT P e with
    | some s => srcA P H s e u x
    | none => none
  | _ => none
def elT (P : Program) (t : TypeId) : Option TypeId := match P.underlying t with | some (.slice e) => some e | _ => none
@[simp] theorem append_sl {d : Nm} {xs : List A} {x : A} : appendA P H d t u (.sl true xs) x = match P.underlying t with | some (.slice e) => (match szT P e with | some s => apS H d e xs (srcA P H s e u x) (some s) (zeroT P e) (bytesT P e) | none => none) | _ => none := by
  unfold appendA
  cases P.underlying t with
  | none => rfl
  | some q =>
    cases q <;> try rfl
    rename_i e
    simp only
    cases szT P e with
    | none => rfl
    | some s =>
      cases zeroT P e with
      | none => simp only; cases srcA P H s e u x <;> rfl
      | some z =>
        cases bytesT P e with
        | none => simp only; cases srcA P H s e u x <;> rfl
        | some b => simp only; cases srcA P H s e u x <;> rfl
def apF (xs : List A) : Option (List A) → Option Nat → Option Value → Option Nat → Option (A × Eff)
  | some zs, some s, some z, some b => if 0 < b ∧ (ofV z).cells.length = s ∧ A.ones (ofV z).cells = true then if zs.length = 0 then some (.sl false xs, .nil) else none else none
  | _, _, _, _ => none
@[simp] theorem apF_some {xs zs : List A} {s b : Nat} {z : Value} : apF xs (some zs) (some s) (some z) (some b) = if 0 < b ∧ (ofV z).cells.length = s ∧ A.ones (ofV z).cells = true then if zs.length = 0 then some (.sl false xs, .nil) else none else none := rfl
@[simp] theorem append_slF {d : Nm} {xs : List A} {x : A} : appendA P H d t u (.sl false xs) x = match P.underlying t with | some (.slice e) => (match szT P e with | some s => apF xs (srcA P H s e u x) (some s) (zeroT P e) (bytesT P e) | none => none) | _ => none := by
  unfold appendA
  cases P.underlying t with
  | none => rfl
  | some q =>
    cases q <;> try rfl
    rename_i e
    simp only
    cases szT P e with
    | none => rfl
    | some s =>
      cases zeroT P e with
      | none => simp only; cases srcA P H s e u x <;> rfl
      | some z =>
        cases bytesT P e with
        | none => simp only; cases srcA P H s e u x <;> rfl
        | some b => simp only; cases srcA P H s e u x <;> rfl
def cpO (o : Nm) (v sz off len s : Nat) : Option (Nat × List A) → Option (List A) → Option (A × Eff)
  | some (s', ys), some zs => if s' = s ∧ sz = s ∧ off + len ≤ ys.length then
      some (.v (.int .i64 (min zs.length len : Nat)), .one o ⟨v, .arr s (ys.take off ++ zs.take (min zs.length len) ++ ys.drop (off + min zs.length len))⟩) else none
  | _, _ => none
@[simp] theorem cpO_some {o : Nm} {v sz off len s s' : Nat} {ys zs : List A} : cpO o v sz off len s (some (s', ys)) (some zs) = if s' = s ∧ sz = s ∧ off + len ≤ ys.length then
      some (.v (.int .i64 (min zs.length len : Nat)), .one o ⟨v, .arr s (ys.take off ++ zs.take (min zs.length len) ++ ys.drop (off + min zs.length len))⟩) else none := rfl
@[simp] theorem copy_osl {o : Nm} {v sz off len : Nat} {x : A} : copyA P H t (.osl o v sz off len) x = match P.underlying t with | some (.slice e) => (match szT P e with | some s => cpO o v sz off len s (vr (H o) v) (elemsA H s x) | none => none) | _ => none := by
  unfold copyA
  cases P.underlying t with
  | none => rfl
  | some q =>
    cases q <;> try rfl
    rename_i e
    simp only [getR_at]
    generalize vr (H o) v = r
    cases szT P e with
    | none => rfl
    | some s => simp only; cases elemsA H s x <;> cases r <;> rfl
def clO (o : Nm) (v sz off len s : Nat) (z : Value) : Option (Nat × List A) → Option (A × Eff)
  | some (s', ys) => if s' = s ∧ sz = s ∧ off + len ≤ ys.length ∧ (ofV z).cells.length = s ∧ A.ones (ofV z).cells = true then
      some (.any, .one o ⟨v, .arr s (ys.take off ++ List.replicate len (ofV z) ++ ys.drop (off + len))⟩) else none
  | none => none
@[simp] theorem clO_some {o : Nm} {v sz off len s s' : Nat} {z : Value} {ys : List A} : clO o v sz off len s z (some (s', ys)) = if s' = s ∧ sz = s ∧ off + len ≤ ys.length ∧ (ofV z).cells.length = s ∧ A.ones (ofV z).cells = true then
      some (.any, .one o ⟨v, .arr s (ys.take off ++ List.replicate len (ofV z) ++ ys.drop (off + len))⟩) else none := rfl
@[simp] theorem clear_osl {o : Nm} {v sz off len : Nat} : clearA P H t (.osl o v sz off len) = match P.underlying t with | some (.slice e) => (match szT P e, zeroT P e with | some s, some z => clO o v sz off len s z (vr (H o) v) | _, _ => none) | _ => none := by
  unfold clearA
  cases P.underlying t with
  | none => rfl
  | some q =>
    cases q <;> try rfl
@[simp] theorem append_osl {d o : Nm} {v sz off len : Nat} {x : A} : appendA P H d t u (.osl o v sz off len) x = match P.underlying t with | some (.slice e) => (match szT P e with | some s => apO o e v sz off len (vr (H o) v) (srcA P H s e u x) (some s) (zeroT P e) (bytesT P e) | none => none) | _ => none := by
  unfold appendA
  cases P.underlying t with
  | none => rfl
  | some q =>
    cases q <;> try rfl
    rename_i e
    simp only [getR_at]
    generalize vr (H o) v = r
    cases szT P e with
    | none => rfl
    | some s =>
      cases zeroT P e with
      | none => simp only; cases srcA P H s e u x <;> cases r <;> rfl
      | some z =>
        cases bytesT P e with
        | none => simp only; cases srcA P H s e u x <;> cases r <;> rfl
        | some b =>
          simp only
          cases srcA P H s e u x with
          | none => cases r <;> rfl
          | some zs => cases r <;> simp only [apO] <;> (try split) <;> rfl
def zerosA (n : Int) (s : Nat) : Option Value → Option Nat → Option (List A)
  | some z, some b => if 0 ≤ n ∧ n * b ≤ 140737488355328 ∧ 0 < b ∧ (ofV z).cells.length = s ∧ A.ones (ofV z).cells = true then some (List.replicate n.toNat (ofV z)) else none
  | _, _ => none
@[simp] theorem zerosA_some {n : Int} {s b : Nat} {z : Value} : zerosA n s (some z) (some b) = if 0 ≤ n ∧ n * b ≤ 140737488355328 ∧ 0 < b ∧ (ofV z).cells.length = s ∧ A.ones (ofV z).cells = true then some (List.replicate n.toNat (ofV z)) else none := rfl
@[simp] theorem src_int {s e : Nat} {k : IntKind} {n : Int} : srcA P H s e t (.v (.int k n)) = match P.underlying t with | some (.int _) => zerosA n s (zeroT P e) (bytesT P e) | _ => none := by
  unfold srcA
  cases P.underlying t with
  | none => rfl
  | some q =>
    cases q <;> first
      | rfl
      | (cases zeroT P e <;> cases bytesT P e <;> rfl)
@[simp] theorem src_str {s e : Nat} {x : ByteArray} : srcA P H s e t (.v (.string x)) = match P.underlying t with | some .string => if s = 1 then some (x.data.toList.map fun b => .v (.int .u8 b.toNat)) else none | _ => none := by
  unfold srcA
  cases P.underlying t with
  | none => rfl
  | some q => cases q <;> rfl
@[simp] theorem src_sl {s e : Nat} {f : Bool} {xs : List A} : srcA P H s e t (.sl f xs) = match P.underlying t with | some (.slice _) => if lens s xs = true then some xs else none | _ => none := by
  unfold srcA
  cases P.underlying t with
  | none => rfl
  | some q => cases q <;> rfl
def elO (s z off n : Nat) : Option (Nat × List A) → Option (List A)
  | some (s', ys) => if s' = s ∧ z = s ∧ off + n ≤ ys.length then some ((ys.drop off).take n) else none
  | none => none
@[simp] theorem elO_some {s z off n s' : Nat} {ys : List A} : elO s z off n (some (s', ys)) = if s' = s ∧ z = s ∧ off + n ≤ ys.length then some ((ys.drop off).take n) else none := rfl
@[simp] theorem src_osl {s e u' z off n : Nat} {o : Nm} : srcA P H s e t (.osl o u' z off n) = match P.underlying t with | some (.slice _) => elO s z off n (vr (H o) u') | _ => none := by
  unfold srcA
  cases P.underlying t with
  | none => rfl
  | some q =>
    cases q <;> first
      | rfl
      | (simp only [elemsA, getR_at]; cases vr (H o) u' <;> rfl)
def ixS (xs : List A) (i : Int) : Option Nat → Option A
  | some m => if 0 ≤ i ∧ i < xs.length then (match xs[i.toNat]? with
          | some x => if x.cells.length = m then some (.pim x.cells) else none
          | none => none) else none
  | none => none
@[simp] theorem ixS_some {xs : List A} {i : Int} {m : Nat} : ixS xs i (some m) = if 0 ≤ i ∧ i < xs.length then (match xs[i.toNat]? with
          | some x => if x.cells.length = m then some (.pim x.cells) else none
          | none => none) else none := rfl
@[simp] theorem indexAddr_sl {k : IntKind} {i : Int} {f : Bool} {xs : List A} : indexAddrA P t (.sl f xs) (.v (.int k i)) = match P.underlying t with | some (.slice e) => ixS xs i (szT P e) | _ => none := by
  unfold indexAddrA
  cases P.underlying t with
  | none => rfl
  | some q =>
    cases q <;> first
      | rfl
      | (rename_i e; cases h : szT P e <;> first | rfl | simp [A.shift, h] | (simp only [h]; rfl))
def ixO (o : Nm) (u z off n : Nat) (i : Int) : Option Nat → Option A
  | some m => if 0 ≤ i ∧ i < n ∧ z = m then some (.pel o u (off + i.toNat) 0) else none
  | none => none
@[simp] theorem ixO_some {o : Nm} {u z off n m : Nat} {i : Int} : ixO o u z off n i (some m) = if 0 ≤ i ∧ i < n ∧ z = m then some (.pel o u (off + i.toNat) 0) else none := rfl
@[simp] theorem indexAddr_osl {u z off n : Nat} {o : Nm} {k : IntKind} {i : Int} : indexAddrA P t (.osl o u z off n) (.v (.int k i)) = match P.underlying t with | some (.slice e) => ixO o u z off n i (szT P e) | _ => none := by
  unfold indexAddrA
  cases P.underlying t with
  | none => rfl
  | some q =>
    cases q <;> first
      | rfl
      | (rename_i e; cases h : szT P e <;> first | rfl | simp [A.shift, h] | (simp only [h]; rfl))
def ixA (a : A) (n : Nat) (i : Int) : Option Nat → Option A
  | some m => if 0 ≤ i ∧ i < n then a.shift (i.toNat * m) else none
  | none => none
@[simp] theorem ixA_some {a : A} {n m : Nat} {i : Int} : ixA a n i (some m) = if 0 ≤ i ∧ i < n then a.shift (i.toNat * m) else none := rfl
@[simp] theorem indexAddr_pob {u p : Nat} {o : Nm} {k : IntKind} {i : Int} : indexAddrA P t (.pob o u p) (.v (.int k i)) = match P.underlying t with | some (.array n e) => ixA (.pob o u p) n i (szT P e) | _ => none := by
  unfold indexAddrA
  cases P.underlying t with
  | none => rfl
  | some q =>
    cases q <;> first
      | rfl
      | (rename_i e; cases h : szT P e <;> first | rfl | simp [A.shift, h] | (simp only [h]; rfl))
@[simp] theorem indexAddr_pim {cs : List A} {k : IntKind} {i : Int} : indexAddrA P t (.pim cs) (.v (.int k i)) = match P.underlying t with | some (.array n e) => ixA (.pim cs) n i (szT P e) | _ => none := by
  unfold indexAddrA
  cases P.underlying t with
  | none => rfl
  | some q =>
    cases q <;> first
      | rfl
      | (rename_i e; cases h : szT P e <;> first | rfl | simp [A.shift, h] | (simp only [h]; rfl))
@[simp] theorem indexAddr_pel {u p q' : Nat} {o : Nm} {k : IntKind} {i : Int} : indexAddrA P t (.pel o u p q') (.v (.int k i)) = match P.underlying t with | some (.array n e) => ixA (.pel o u p q') n i (szT P e) | _ => none := by
  unfold indexAddrA
  cases P.underlying t with
  | none => rfl
  | some q =>
    cases q <;> first
      | rfl
      | (rename_i e; cases h : szT P e <;> first | rfl | simp [A.shift, h] | (simp only [h]; rfl))
def ixV (P : Program) (e : TypeId) (cs : List A) (n : Nat) (i : Int) : Option Nat → Option A
  | some m => if 0 ≤ i ∧ i < n then partA P e cs (i.toNat * m) else none
  | none => none
@[simp] theorem ixV_some {e : TypeId} {cs : List A} {n m : Nat} {i : Int} : ixV P e cs n i (some m) = if 0 ≤ i ∧ i < n then partA P e cs (i.toNat * m) else none := rfl
@[simp] theorem partA_eq {cs : List A} {off : Nat} : partA P t cs off = match aggT P t, szT P t with | some g, some sz => pickA g sz (cs.drop off) | _, _ => none := rfl
@[simp] theorem index_agg {cs : List A} {k : IntKind} {i : Int} : indexA P t (.agg cs) (.v (.int k i)) = match P.underlying t with | some (.array n e) => ixV P e cs n i (szT P e) | _ => none := by
  unfold indexA
  cases P.underlying t with
  | none => rfl
  | some q =>
    cases q <;> first
      | rfl
      | (rename_i e; cases h : szT P e <;> first | rfl | simp [A.shift, h] | (simp only [h]; rfl))
@[simp] theorem index_str {s : ByteArray} {k : IntKind} {i : Int} : indexA P t (.v (.string s)) (.v (.int k i)) = match P.underlying t with | some .string => if 0 ≤ i then (s[i.toNat]?).map (fun b => .v (.int .u8 b.toNat)) else none | _ => none := by
  unfold indexA
  cases P.underlying t with
  | none => rfl
  | some q => cases q <;> rfl
@[simp] theorem len_sl {f : Bool} {xs : List A} : lenA P t (.sl f xs) = match P.underlying t with | some (.slice _) => some (.v (.int .i64 xs.length)) | some (.array n _) => some (.v (.int .i64 n)) | _ => none := by
  unfold lenA
  cases P.underlying t with
  | none => rfl
  | some q => cases q <;> rfl
@[simp] theorem len_osl {u z off n : Nat} {o : Nm} : lenA P t (.osl o u z off n) = match P.underlying t with | some (.slice _) => some (.v (.int .i64 n)) | some (.array n _) => some (.v (.int .i64 n)) | _ => none := by
  unfold lenA
  cases P.underlying t with
  | none => rfl
  | some q => cases q <;> rfl
@[simp] theorem len_str {s : ByteArray} : lenA P t (.v (.string s)) = match P.underlying t with | some .string => some (.v (.int .i64 s.size)) | some (.array n _) => some (.v (.int .i64 n)) | _ => none := by
  unfold lenA
  cases P.underlying t with
  | none => rfl
  | some q => cases q <;> rfl
@[simp] theorem len_agg {cs : List A} : lenA P t (.agg cs) = match P.underlying t with | some (.array n _) => some (.v (.int .i64 n)) | _ => none := by
  unfold lenA
  cases P.underlying t with
  | none => rfl
  | some q => cases q <;> rfl
@[simp] theorem len_pob {o : Nm} {u p : Nat} : lenA P t (.pob o u p) = match P.underlying t with | some (.array n _) => some (.v (.int .i64 n)) | _ => none := by
  unfold lenA
  cases P.underlying t with
  | none => rfl
  | some q => cases q <;> rfl
def slS (f : Bool) (xs : List A) : Option (Nat × Nat × Option Nat) → Option Nat → Option A
  | some (l, h, m), some s => if lens s xs = true then some (.sl (fullA m f h xs.length) ((xs.drop l).take (h - l))) else none
  | _, _ => none
@[simp] theorem slS_some {f : Bool} {xs : List A} {l h s : Nat} {m : Option Nat} : slS f xs (some (l, h, m)) (some s) = if lens s xs = true then some (.sl (fullA m f h xs.length) ((xs.drop l).take (h - l))) else none := rfl
@[simp] theorem slS_none {f : Bool} {xs : List A} {s : Option Nat} : slS f xs none s = none := by cases s <;> rfl
@[simp] theorem slice_sl {f : Bool} {xs : List A} {lo hi mx : Option A} : sliceA P t (.sl f xs) lo hi mx = match P.underlying t with | some (.slice e) => slS f xs (boundsA xs.length lo hi mx) (szT P e) | _ => none := by
  unfold sliceA
  cases P.underlying t with
  | none => rfl
  | some q =>
    cases q <;> first
      | rfl
      | (rename_i e; cases boundsA xs.length lo hi mx <;> cases szT P e <;> rfl)
def slO (o : Nm) (u z off : Nat) : Option (Nat × Nat × Option Nat) → Option Nat → Option A
  | some (l, h, _), some s => if s = z then some (.osl o u z (off + l) (h - l)) else none
  | _, _ => none
@[simp] theorem slO_some {o : Nm} {u z off l h s : Nat} {m : Option Nat} : slO o u z off (some (l, h, m)) (some s) = if s = z then some (.osl o u z (off + l) (h - l)) else none := rfl
@[simp] theorem slO_none {o : Nm} {u z off : Nat} {s : Option Nat} : slO o u z off none s = none := by cases s <;> rfl
@[simp] theorem slice_osl {u z off n : Nat} {o : Nm} {lo hi mx : Option A} : sliceA P t (.osl o u z off n) lo hi mx = match P.underlying t with | some (.slice e) => slO o u z off (boundsA n lo hi mx) (szT P e) | _ => none := by
  unfold sliceA
  cases P.underlying t with
  | none => rfl
  | some q =>
    cases q <;> first
      | rfl
      | (rename_i e; cases boundsA n lo hi mx <;> cases szT P e <;> rfl)
def slP (cs : List A) (n : Nat) : Option (Nat × Nat × Option Nat) → Option Nat → Option A
  | some (l, h, m), some s => if s = 1 ∧ n ≤ cs.length then some (.sl (fullA m true h n) ((cs.drop l).take (h - l))) else none
  | _, _ => none
@[simp] theorem slP_some {cs : List A} {n l h s : Nat} {m : Option Nat} : slP cs n (some (l, h, m)) (some s) = if s = 1 ∧ n ≤ cs.length then some (.sl (fullA m true h n) ((cs.drop l).take (h - l))) else none := rfl
@[simp] theorem slP_none {cs : List A} {n : Nat} {s : Option Nat} : slP cs n none s = none := by cases s <;> rfl
@[simp] theorem slice_pim {cs : List A} {lo hi mx : Option A} : sliceA P t (.pim cs) lo hi mx = match P.underlying t with | some (.array n e) => slP cs n (boundsA n lo hi mx) (szT P e) | _ => none := by
  unfold sliceA
  cases P.underlying t with
  | none => rfl
  | some q =>
    cases q <;> first
      | rfl
      | (rename_i n e; cases boundsA n lo hi mx <;> cases szT P e <;> rfl)
@[simp] theorem slice_str {s : ByteArray} {lo hi mx : Option A} : sliceA P t (.v (.string s)) lo hi mx = match P.underlying t with | some .string => (match boundsA s.size lo hi mx with | some (l, h, none) => some (.v (.string (s.extract l h))) | _ => none) | _ => none := by
  unfold sliceA
  cases P.underlying t with
  | none => rfl
  | some q => cases q <;> rfl
@[simp] theorem convA_v {r : IntKind} {n : Int} : convA P t u (.v (.int r n)) = match P.underlying t, P.underlying u with | some _, some (.int k) => some (.v (.int k (k.wrap n))) | _, _ => none := by
  unfold convA
  cases P.underlying t with
  | none => rfl
  | some q => cases P.underlying u with
    | none => rfl
    | some d => cases d <;> rfl
@[simp] theorem convA_s {x : ByteArray} : convA P t u (.v (.string x)) = match P.underlying t, P.underlying u with | some _, some .string => some (.v (.string x)) | _, _ => none := by
  unfold convA
  cases P.underlying t with
  | none => rfl
  | some q => cases P.underlying u with
    | none => rfl
    | some d => cases d <;> rfl
/-- A field's type, and its place. -/
def fieldT (P : Program) (s : TypeId) (f : Nat) : Option (TypeId × Nat) := match P.underlying s with
  | some (.struct fs) => (fs[f]?).map fun fd => (fd.type, fd.offset)
  | _ => none
@[simp] theorem field_agg {cs : List A} {f : Nat} : fieldA P t (.agg cs) f = match fieldT P t f with | some (ft, off) => partA P ft cs off | none => none := by
  unfold fieldA fieldT
  cases P.underlying t with
  | none => rfl
  | some q =>
    cases q <;> first
      | rfl
      | (rename_i fs; simp only; cases fs[f]? <;> rfl)
@[simp] theorem src_v0 {s e : Nat} {a : Option Addr} {c : Nat} : srcA P H s e t (.v (.slice a 0 c)) = match P.underlying t with | some (.slice _) => some [] | _ => none := by
  unfold srcA
  cases P.underlying t with
  | none => rfl
  | some q => cases q <;> rfl
def idxOK : Nat → List (Nat × A) → Bool
  | _, [] => true
  | k, (i, _) :: l => i == k && idxOK (k + 1) l
@[simp] theorem idxOK_nil {k : Nat} : idxOK k [] = true := rfl
@[simp] theorem idxOK_cons {k i : Nat} {x : A} {l : List (Nat × A)} : idxOK k ((i, x) :: l) = (i == k && idxOK (k + 1) l) := rfl
theorem idxOK_range : ∀ (l : List (Nat × A)) (k : Nat), idxOK k l = true → l.map (·.1) = List.range' k l.length
  | [], k, _ => rfl
  | (i, x) :: l, k, h => by
    simp only [idxOK_cons, Bool.and_eq_true, beq_iff_eq] at h
    simp only [List.map_cons, List.length_cons, List.range'_succ]
    rw [h.1, idxOK_range l (k + 1) h.2]
def litS (len : Nat) (ps : List (Nat × A)) : Option Nat → Option Value → Option A
  | some s, some z => if idxOK 0 ps = true ∧ ps.length = len ∧ len * s ≤ 16777216 ∧ (ofV z).cells.length = s ∧ A.ones (ofV z).cells = true ∧ (ps.all fun p => p.2.cells.length == s && A.ones p.2.cells && p.2.cells.all A.bare1) = true then some (.sl true (ps.map (·.2))) else none
  | _, _ => none
@[simp] theorem litS_some {len s : Nat} {z : Value} {ps : List (Nat × A)} : litS len ps (some s) (some z) = if idxOK 0 ps = true ∧ ps.length = len ∧ len * s ≤ 16777216 ∧ (ofV z).cells.length = s ∧ A.ones (ofV z).cells = true ∧ (ps.all fun p => p.2.cells.length == s && A.ones p.2.cells && p.2.cells.all A.bare1) = true then some (.sl true (ps.map (·.2))) else none := rfl
theorem range_idxOK : ∀ (l : List (Nat × A)) (k : Nat), l.map (·.1) = List.range' k l.length → idxOK k l = true
  | [], k, _ => rfl
  | (i, x) :: l, k, h => by
    simp only [List.map_cons, List.length_cons, List.range'_succ, List.cons.injEq] at h
    simp only [idxOK_cons, Bool.and_eq_true, beq_iff_eq]
    exact ⟨h.1, range_idxOK l (k + 1) h.2⟩
@[simp] theorem buildSlice_eq {len : Nat} {ps : List (Nat × A)} : buildSliceA P t len ps = match P.underlying t with | some (.slice e) => litS len ps (szT P e) (zeroT P e) | _ => none := by
  unfold buildSliceA
  cases P.underlying t with
  | none => rfl
  | some q =>
    cases q <;> try rfl
    rename_i e
    simp only
    cases szT P e with
    | none => rfl
    | some s =>
      cases zeroT P e with
      | none => rfl
      | some z =>
        have he : (ps.map (·.1) = List.range len) ↔ (idxOK 0 ps = true ∧ ps.length = len) := by
          constructor
          · intro h
            have hl : ps.length = len := by have := congrArg List.length h; simpa using this
            exact ⟨range_idxOK ps 0 (by rw [h, hl, List.range_eq_range']), hl⟩
          · rintro ⟨h1, h2⟩
            rw [idxOK_range _ _ h1, h2, List.range_eq_range']
        simp only [litS_some, he, and_assoc]
def litO (H : Hp) (d : Nm) (e : TypeId) (len : Nat) (ps : List (Nat × A)) : Option Nat → Option Value → Option (A × Eff)
  | some s, some z => if idxOK 0 ps = true ∧ ps.length = len ∧ len * s ≤ 16777216 ∧ (ofV z).cells.length = s ∧ A.ones (ofV z).cells = true ∧ (ps.all fun p => p.2.cells.length == s && A.ones p.2.cells) = true ∧ tagOK d e = true then some (.osl d ((H d).u + 1) s 0 len, .one d ⟨(H d).u + 1, .arr s (ps.map (·.2))⟩) else none
  | _, _ => none
@[simp] theorem litO_some {H : Hp} {d : Nm} {e : TypeId} {len s : Nat} {z : Value} {ps : List (Nat × A)} : litO H d e len ps (some s) (some z) = if idxOK 0 ps = true ∧ ps.length = len ∧ len * s ≤ 16777216 ∧ (ofV z).cells.length = s ∧ A.ones (ofV z).cells = true ∧ (ps.all fun p => p.2.cells.length == s && A.ones p.2.cells) = true ∧ tagOK d e = true then some (.osl d ((H d).u + 1) s 0 len, .one d ⟨(H d).u + 1, .arr s (ps.map (·.2))⟩) else none := rfl
@[simp] theorem buildSliceO_eq {H : Hp} {d : Nm} {len : Nat} {ps : List (Nat × A)} : buildSliceO P H d t len ps = match P.underlying t with | some (.slice e) => litO H d e len ps (szT P e) (zeroT P e) | _ => none := by
  unfold buildSliceO
  cases P.underlying t with
  | none => rfl
  | some q =>
    cases q <;> try rfl
    rename_i e
    simp only
    cases szT P e with
    | none => rfl
    | some s =>
      cases zeroT P e with
      | none => rfl
      | some z =>
        have he : (ps.map (·.1) = List.range len) ↔ (idxOK 0 ps = true ∧ ps.length = len) := by
          constructor
          · intro h
            have hl : ps.length = len := by have := congrArg List.length h; simpa using this
            exact ⟨range_idxOK ps 0 (by rw [h, hl, List.range_eq_range']), hl⟩
          · rintro ⟨h1, h2⟩
            rw [idxOK_range _ _ h1, h2, List.range_eq_range']
        simp only [litO_some, he, and_assoc]
@[simp] theorem binA_eql_pim {cs : List A} : binA P .eql t (.pim cs) (.v (.pointer none)) = match P.underlying t with | some (.pointer _) => some (.v (.bool false)) | _ => none := by
  show (eqA P 100 t _ _).map _ = _
  unfold eqA
  cases P.underlying t with
  | none => rfl
  | some q => cases q <;> rfl
@[simp] theorem binA_neq_pim {cs : List A} : binA P .neq t (.pim cs) (.v (.pointer none)) = match P.underlying t with | some (.pointer _) => some (.v (.bool true)) | _ => none := by
  show (eqA P 100 t _ _).map _ = _
  unfold eqA
  cases P.underlying t with
  | none => rfl
  | some q => cases q <;> rfl
@[simp] theorem binA_eql_pob {o : Nm} {v p : Nat} : binA P .eql t (.pob o v p) (.v (.pointer none)) = match P.underlying t with | some (.pointer _) => some (.v (.bool false)) | _ => none := by
  show (eqA P 100 t _ _).map _ = _
  unfold eqA
  cases P.underlying t with
  | none => rfl
  | some q => cases q <;> rfl
@[simp] theorem binA_neq_pob {o : Nm} {v p : Nat} : binA P .neq t (.pob o v p) (.v (.pointer none)) = match P.underlying t with | some (.pointer _) => some (.v (.bool true)) | _ => none := by
  show (eqA P 100 t _ _).map _ = _
  unfold eqA
  cases P.underlying t with
  | none => rfl
  | some q => cases q <;> rfl
@[simp] theorem binA_eql_pel {o : Nm} {v p q' : Nat} : binA P .eql t (.pel o v p q') (.v (.pointer none)) = match P.underlying t with | some (.pointer _) => some (.v (.bool false)) | _ => none := by
  show (eqA P 100 t _ _).map _ = _
  unfold eqA
  cases P.underlying t with
  | none => rfl
  | some q => cases q <;> rfl
@[simp] theorem binA_neq_pel {o : Nm} {v p q' : Nat} : binA P .neq t (.pel o v p q') (.v (.pointer none)) = match P.underlying t with | some (.pointer _) => some (.v (.bool true)) | _ => none := by
  show (eqA P 100 t _ _).map _ = _
  unfold eqA
  cases P.underlying t with
  | none => rfl
  | some q => cases q <;> rfl
@[simp] theorem binA_eql_nil : binA P .eql t (.v (.pointer none)) (.v (.pointer none)) = match P.underlying t with | some (.pointer _) => some (.v (.bool true)) | _ => none := by
  show (eqA P 100 t _ _).map _ = _
  unfold eqA
  cases P.underlying t with
  | none => rfl
  | some q => cases q <;> rfl
@[simp] theorem binA_neq_nil : binA P .neq t (.v (.pointer none)) (.v (.pointer none)) = match P.underlying t with | some (.pointer _) => some (.v (.bool false)) | _ => none := by
  show (eqA P 100 t _ _).map _ = _
  unfold eqA
  cases P.underlying t with
  | none => rfl
  | some q => cases q <;> rfl
@[simp] theorem binA_eql_bool {a b : Bool} : binA P .eql t (.v (.bool a)) (.v (.bool b)) = match P.underlying t with | some .bool => some (.v (.bool (a == b))) | _ => none := by
  show (eqA P 100 t _ _).map _ = _
  unfold eqA
  cases P.underlying t with
  | none => rfl
  | some q => cases q <;> rfl
@[simp] theorem binA_neq_bool {a b : Bool} : binA P .neq t (.v (.bool a)) (.v (.bool b)) = match P.underlying t with | some .bool => some (.v (.bool (!(a == b)))) | _ => none := by
  show (eqA P 100 t _ _).map _ = _
  unfold eqA
  cases P.underlying t with
  | none => rfl
  | some q => cases q <;> rfl
end
end Go.G
