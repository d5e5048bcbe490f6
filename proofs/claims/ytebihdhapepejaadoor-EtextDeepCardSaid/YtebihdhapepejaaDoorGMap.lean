/-
  Maps of the call's own, from texts to bare values.
-/
import Derived.Test.YtebihdhapepejaaDoorGStore
import Derived.MapKept
import Derived.Carry
namespace Go.G
set_option linter.unusedVariables false
set_option linter.unusedSimpArgs false
open Go.RowKit

def getM (H : Hp) (o : Nm) (u : Nat) : Option (List (Value × Value)) :=
  match H o with
  | ⟨u', .mp es⟩ => if u' = u then some es else none
  | _ => none
theorem getM_some {H : Hp} {o : Nm} {u : Nat} {es : List (Value × Value)} (h : getM H o u = some es) : (H o).u = u ∧ (H o).ob = .mp es := by
  unfold getM at h
  split at h
  · rename_i hq
    split at h
    · cases h; rw [hq]; exact ⟨‹_›, rfl⟩
    · cases h
  · cases h
/-- A text's key. -/
def strKey : Value → Option ByteArray
  | .string s => some s
  | _ => none
def allStr (es : List (Value × Value)) : Bool := es.all fun e => (strKey e.1).isSome
def putM : List (Value × Value) → ByteArray → Value → List (Value × Value)
  | [], k, v => [(.string k, v)]
  | (k', v') :: es, k, v => if strKey k' = some k then (k', v) :: es else (k', v') :: putM es k v
def findM : List (Value × Value) → ByteArray → Option Value
  | [], _ => none
  | (k', v') :: es, k => if strKey k' = some k then some v' else findM es k

theorem isKey_str {v : Value} (h : (strKey v).isSome = true) : Go.MapKept.IsKey .string v := by
  cases v <;> simp [strKey] at h
  trivial
theorem strKey_iff {v : Value} {s : ByteArray} : strKey v = some s ↔ v = .string s := by
  cases v <;> simp [strKey]

theorem find_miss {es : List (Value × Value)} {k : ByteArray} (h : ∀ e, e ∈ es → e.1 ≠ .string k) (v : Value) : findM es k = none ∧ putM es k v = es ++ [(.string k, v)] := by
  induction es with
  | nil => exact ⟨rfl, rfl⟩
  | cons e es ih =>
    obtain ⟨k', v'⟩ := e
    have h0 := h (k', v') (by simp)
    have hn : ¬ strKey k' = some k := fun e => h0 (strKey_iff.1 e)
    obtain ⟨i1, i2⟩ := ih fun e he => h e (by simp [he])
    rw [findM, putM, if_neg hn, if_neg hn, i1, i2]
    exact ⟨rfl, rfl⟩
theorem find_hit {k : ByteArray} : ∀ {l : List MapEntry} {j : Nat} {e : MapEntry}, (∀ (i : Nat) (x : MapEntry), i < j → l[i]? = some x → x.key ≠ .string k) → l[j]? = some e → e.key = .string k → ∀ (v : Value) (f : MapEntry → MapEntry), (∀ x, (f x).val = v) → (∀ x, x.key = .string k → (f x).key = .string k) →
    findM (l.map fun e => (e.key, e.val)) k = some e.val ∧ (l.modify j f).map (fun e => (e.key, e.val)) = putM (l.map fun e => (e.key, e.val)) k v
  | [], j, e, _, h, _, _, _, _, _ => by simp at h
  | x :: l, 0, e, _, h, hk, v, f, hf, hg => by
    simp at h
    subst h
    simp only [List.map_cons, findM, putM]
    rw [if_pos (strKey_iff.2 hk), if_pos (strKey_iff.2 hk)]
    refine ⟨rfl, ?_⟩
    simp [hf, hg x hk, hk]
  | x :: l, j + 1, e, h0, h, hk, v, f, hf, hg => by
    have hn : ¬ strKey x.key = some k := fun e => h0 0 x (by omega) rfl (strKey_iff.1 e)
    obtain ⟨i1, i2⟩ := find_hit (l := l) (j := j) (e := e) (fun i y hi hy => h0 (i + 1) y (by omega) (by simpa using hy)) (by simpa using h) hk v f hf hg
    simp only [List.map_cons, findM, putM]
    rw [if_neg hn, if_neg hn]
    refine ⟨i1, ?_⟩
    rw [List.modify_succ_cons, List.map_cons, i2]
/-- The first entry of a key. -/
theorem findNow_str {k : ByteArray} : ∀ (l : List MapEntry) (i : Nat), allStr (l.map fun e => (e.key, e.val)) = true → (Instr.findNow .string (.string k) l i = some none ∧ ∀ x ∈ l, x.key ≠ .string k) ∨
    ∃ j e, Instr.findNow .string (.string k) l i = some (some (i + j, e.val)) ∧ l[j]? = some e ∧ e.key = .string k ∧ ∀ (i : Nat) (x : MapEntry), i < j → l[i]? = some x → x.key ≠ .string k
  | [], _, _ => .inl ⟨rfl, by simp⟩
  | x :: l, i, h => by
    simp only [List.map_cons, allStr, List.all_cons, Bool.and_eq_true] at h
    obtain ⟨h1, h2⟩ := h
    obtain ⟨r, hr, hiff⟩ := Go.MapKept.sameNow_of_keys (d := .string) (a := .string k) (b := x.key) trivial (isKey_str h1)
    cases r with
    | true => exact .inr ⟨0, x, by simp [Instr.findNow, hr], rfl, (hiff.1 rfl).symm, fun i x hi _ => by omega⟩
    | false =>
      have hn : x.key ≠ .string k := fun e => by simpa using hiff.2 e.symm
      rcases findNow_str (k := k) l (i + 1) h2 with ⟨q1, q2⟩ | ⟨j, e, q1, q2, q3, q4⟩
      · refine .inl ⟨by simp [Instr.findNow, hr, q1], fun y hy => ?_⟩
        rcases List.mem_cons.1 hy with rfl | hy
        · exact hn
        · exact q2 y hy
      · refine .inr ⟨j + 1, e, ?_, by simpa using q2, q3, fun a y ha hy => ?_⟩
        · simp [Instr.findNow, hr, q1]; omega
        · cases a with
          | zero => simp at hy; subst hy; exact hn
          | succ a => exact q4 a y (by omega) (by simpa using hy)
def mapT (P : Program) (t : TypeId) : Option TypeId := match P.underlying t with
  | some (.map k e) => (match P.underlying k with
    | some .string => some e
    | _ => none)
  | _ => none
theorem mapT_some {P : Program} {t e : TypeId} (h : mapT P t = some e) : ∃ k, P.underlying t = some (.map k e) ∧ P.underlying k = some .string := by
  unfold mapT at h
  split at h
  · split at h
    · cases h; exact ⟨_, by assumption, by assumption⟩
    · cases h
  · cases h

/-! ### the operations -/
def makeMapA (H : Hp) (d : Nm) : Option (A × Eff) := if tagOK d 0 = true then some (.mo d ((H d).u + 1), .one d ⟨(H d).u + 1, .mp []⟩) else none
def mapUpdA (P : Program) (H : Hp) (t : TypeId) (m k v : A) : Option Eff := match m, k, v with
  | .mo o u, .v (.string s), .v x => match mapT P t, getM H o u with
    | some _, some es => if allStr es = true then some (.one o ⟨u, .mp (putM es s x)⟩) else none
    | _, _ => none
  | _, _, _ => none
def mapGetA (P : Program) (H : Hp) (t : TypeId) (m k : A) (ok : Bool) : Option A := match m, k with
  | .mo o u, .v (.string s) => match mapT P t, getM H o u with
    | some e, some es => match zeroT P e with
      | some z => if allStr es = true then some (if ok = true then .tup [.v ((findM es s).getD z), .v (.bool (findM es s).isSome)] else .v ((findM es s).getD z)) else none
      | none => none
    | _, _ => none
  | _, _ => none
section
variable {c : Cx} {w : World} {I : Nat → Prop} {μ : Mu} {H : Hp}
theorem makeMapA_sound (hs : Sim c w I μ H) {d : Nm} {t : TypeId} {r : A} {E : Eff} (h : makeMapA H d = some (r, E)) :
    ∃ v w', (Instr.makeMap t none).run c.P w = .ok v w' ∧ ∃ I' μ', Ext I μ w I' μ' w' ∧ Sim c w' I' μ' (E.app H) ∧ Rel w' I' μ' r v := by
  unfold makeMapA at h
  split at h
  · rename_i ht
    cases h
    obtain ⟨hx, hs'⟩ := hs.upd (World.grownBy_alloc w (.map #[] 0) none) d ⟨(H d).u + 1, true, w.heap.size, 0, 0, 0⟩ (.mp []) (.inl rfl) (.inl (by rw [hs.ver]; exact Nat.lt_succ_self _)) (fun _ => .inl (by simp)) (fun _ => ht) (fun hx =>
      ⟨#[], 0, heap_alloc_new w _, rfl⟩)
    exact ⟨_, _, run_makeMap t w, _, _, hx, hs', .mo _ _ _ _ (by omega) (by simp) (fun _ => by simp)⟩
  · cases h
theorem mapGetA_sound (hs : Sim c w I μ H) {t : TypeId} {m k r : A} {x y : Value} {ok : Bool} (hm : Rel w I μ m x) (hk : Rel w I μ k y) (h : mapGetA c.P H t m k ok = some r) :
    ∃ v, (Instr.lookup t x y ok).run c.P w = .ok v w ∧ Rel w I μ r v := by
  unfold mapGetA at h
  split at h
  · rename_i o u s
    split at h
    · rename_i e es ht hg
      split at h
      · rename_i z hz
        split at h
        · rename_i ha
          cases h
          obtain ⟨g1, g2⟩ := getM_some hg
          obtain ⟨kt, t1, t2⟩ := mapT_some ht
          cases hm with
          | mo _ _ _ b m1 m2 m3 =>
          cases hk
          have hv := hs.ver o
          have hb := m3 (by omega)
          have hob := hs.ob o
          rw [g2] at hob
          obtain ⟨l, clock, q1, q2⟩ := hob
          rw [← hb] at q1
          have hkey : Go.MapKept.IsKey .string (.string s) := trivial
          rcases findNow_str (k := s) l.toList 0 (by rw [q2]; exact ha) with ⟨f1, f2⟩ | ⟨j, e0, f1, f2, f3, f4⟩
          · obtain ⟨p1, p2⟩ := find_miss (es := es) (k := s) (fun e he => by
              rw [← q2] at he
              obtain ⟨y, hy, rfl⟩ := List.mem_map.1 he
              exact f2 y hy) z
            rw [p1]
            refine ⟨_, by simp [Instr.lookup, run_underlying t1, Go.MapKept.run_getObj_map q1, Go.MapKept.run_checkKey t2 hkey, Go.MapKept.run_findKey t2 f1, run_zeroT hz, Result.andThen]; rfl, ?_⟩
            cases ok
            · exact .v _ _
            · exact .tup _ _ _ rfl fun k y hk => by
                match k with
                | 0 => simp at hk; subst hk; exact .v _ _
                | 1 => simp at hk; subst hk; exact .v _ _
                | k + 2 => simp at hk
          · obtain ⟨p1, _⟩ := find_hit f4 f2 f3 z (fun x => { x with val := z }) (fun _ => rfl) (fun _ h => h)
            rw [q2] at p1
            rw [p1]
            refine ⟨_, by simp [Instr.lookup, run_underlying t1, Go.MapKept.run_getObj_map q1, Go.MapKept.run_checkKey t2 hkey, Go.MapKept.run_findKey t2 f1, Result.andThen]; rfl, ?_⟩
            cases ok
            · exact .v _ _
            · exact .tup _ _ _ rfl fun k y hk => by
                match k with
                | 0 => simp at hk; subst hk; exact .v _ _
                | 1 => simp at hk; subst hk; exact .v _ _
                | k + 2 => simp at hk
        · cases h
      · cases h
    · cases h
  · cases h
theorem mapUpdA_sound (hs : Sim c w I μ H) {t : TypeId} {m k v : A} {x y z : Value} {E : Eff} (hm : Rel w I μ m x) (hk : Rel w I μ k y) (hv : Rel w I μ v z) (h : mapUpdA c.P H t m k v = some E) :
    ∃ w', (Instr.mapUpdate t x y z).run c.P w = .ok () w' ∧ Ext I μ w I μ w' ∧ Sim c w' I μ (E.app H) := by
  unfold mapUpdA at h
  split at h
  · rename_i o u s z0
    split at h
    · rename_i e es ht hg
      split at h
      · rename_i ha
        cases h
        obtain ⟨g1, g2⟩ := getM_some hg
        obtain ⟨kt, t1, t2⟩ := mapT_some ht
        cases hm with
        | mo _ _ _ b m1 m2 m3 =>
        cases hk
        cases hv
        have hver := hs.ver o
        have hb := m3 (by omega)
        have hob := hs.ob o
        have hB : hasB (μ o) (H o).ob = true := by rw [g2]; rfl
        rw [g2] at hob
        obtain ⟨l, clock, q1, q2⟩ := hob
        rw [← hb] at q1
        have hlt : b < w.heap.size := (Array.getElem?_eq_some_iff.1 q1).1
        have hkey : Go.MapKept.IsKey .string (.string s) := trivial
        have fin : ∀ (l' : Array MapEntry) (clock' : Nat), l'.toList.map (fun e => (e.key, e.val)) = putM es s z → Ext I μ w I μ { w with heap := w.heap.setIfInBounds b (.map l' clock') } ∧ Sim c { w with heap := w.heap.setIfInBounds b (.map l' clock') } I μ (updF H o ⟨u, .mp (putM es s z)⟩) := fun l' clock' hl' => by
          have hg : w.grownBy { w with heap := w.heap.setIfInBounds b (.map l' clock') } (some b) := ⟨rfl, rfl, rfl, by simp, fun k _ hk => by
            have : k ≠ b := fun e => hk (by rw [e])
            simp [Ne.symm this]⟩
          have hμ : updF μ o (μ o) = μ := by
            funext p
            unfold updF
            split
            · rename_i e; rw [e]
            · rfl
          have := hs.upd hg o (μ o) (.mp (putM es s z)) (.inr ⟨by rw [hb], hB⟩) (.inr rfl) (fun _ => .inr ⟨hB, rfl⟩) (fun _ => hs.tag _ hB) (fun hx => ⟨l', clock', by rw [← hb]; simp [hlt], hl'⟩)
          rw [hμ] at this
          have hu : (μ o).u = u := by omega
          rw [hu] at this
          exact this
        rcases findNow_str (k := s) l.toList 0 (by rw [q2]; exact ha) with ⟨f1, f2⟩ | ⟨j, e0, f1, f2, f3, f4⟩
        · obtain ⟨p1, p2⟩ := find_miss (es := es) (k := s) (fun e he => by
            rw [← q2] at he
            obtain ⟨y, hy, rfl⟩ := List.mem_map.1 he
            exact f2 y hy) z
          refine ⟨_, by simp [Instr.mapUpdate, run_underlying t1, Go.MapKept.run_getObj_map q1, Go.MapKept.run_checkKey t2 hkey, Go.MapKept.run_findKey t2 f1, Go.MapKept.run_setObj_map _ q1, Result.andThen]; rfl, fin _ _ ?_⟩
          rw [p2]
          simp [q2]
        · obtain ⟨_, p2⟩ := find_hit f4 f2 f3 z (fun x => { x with key := .string s, val := z }) (fun _ => rfl) (fun _ _ => rfl)
          have hj : l[j]? = some e0 := by simpa using f2
          refine ⟨_, by simp [Instr.mapUpdate, run_underlying t1, Go.MapKept.run_getObj_map q1, Go.MapKept.run_checkKey t2 hkey, Go.MapKept.run_findKey t2 f1, hj, f3, Go.MapKept.run_keyThatStays hkey, Go.MapKept.run_setObj_map _ q1, Result.andThen]; rfl, fin _ _ ?_⟩
          rw [Array.toList_modify, p2, q2]
      · cases h
    · cases h
  · cases h
end
/-! ### what the operations yield -/
section
variable {P : Program} {H : Hp} {o : Nm} {u : Nat} {t : TypeId}
def vm (x : VOb) (u : Nat) : Option (List (Value × Value)) := match x with | ⟨u', .mp es⟩ => if u' = u then some es else none | _ => none
@[simp] theorem vm_mp {u' u : Nat} {es : List (Value × Value)} : vm ⟨u', .mp es⟩ u = if u' = u then some es else none := rfl
@[simp] theorem makeMap_eq {d : Nm} : makeMapA H d = if tagOK d 0 = true then some (.mo d ((H d).u + 1), .one d ⟨(H d).u + 1, .mp []⟩) else none := rfl
@[simp] theorem mapUpd_mo {s : ByteArray} {x : Value} : mapUpdA P H t (.mo o u) (.v (.string s)) (.v x) = match mapT P t, vm (H o) u with
    | some _, some es => if allStr es = true then some (.one o ⟨u, .mp (putM es s x)⟩) else none
    | _, _ => none := rfl
@[simp] theorem mapGet_mo {s : ByteArray} {ok : Bool} : mapGetA P H t (.mo o u) (.v (.string s)) ok = match mapT P t, vm (H o) u with
    | some e, some es => match zeroT P e with
      | some z => if allStr es = true then some (if ok = true then .tup [.v ((findM es s).getD z), .v (.bool (findM es s).isSome)] else .v ((findM es s).getD z)) else none
      | none => none
    | _, _ => none := rfl
/-- Keys as lists of bytes. -/
def kvs (l : List (List UInt8 × Value)) : List (Value × Value) := l.map fun p => (.string ⟨p.1.toArray⟩, p.2)
def putK : List (List UInt8 × Value) → List UInt8 → Value → List (List UInt8 × Value)
  | [], k, v => [(k, v)]
  | (k', v') :: es, k, v => if k' = k then (k', v) :: es else (k', v') :: putK es k v
def findK : List (List UInt8 × Value) → List UInt8 → Option Value
  | [], _ => none
  | (k', v') :: es, k => if k' = k then some v' else findK es k
theorem bytes_inj {l m : List UInt8} : (⟨l.toArray⟩ : ByteArray) = ⟨m.toArray⟩ ↔ l = m := by simp
@[simp] theorem allStr_kvs (l : List (List UInt8 × Value)) : allStr (kvs l) = true := by
  simp [allStr, kvs, strKey]
@[simp] theorem put_kvs : ∀ (l : List (List UInt8 × Value)) (k : List UInt8) (v : Value), putM (kvs l) ⟨k.toArray⟩ v = kvs (putK l k v)
  | [], k, v => rfl
  | (k', v') :: l, k, v => by
    have ih := put_kvs l k v
    simp only [kvs, List.map_cons, putM, putK, strKey, Option.some.injEq] at ih ⊢
    by_cases h : k' = k
    · rw [if_pos (bytes_inj.2 h), if_pos h]; rfl
    · rw [if_neg (fun e => h (bytes_inj.1 e)), if_neg h, ih]; rfl
@[simp] theorem find_kvs : ∀ (l : List (List UInt8 × Value)) (k : List UInt8), findM (kvs l) ⟨k.toArray⟩ = findK l k
  | [], k => rfl
  | (k', v') :: l, k => by
    have ih := find_kvs l k
    simp only [kvs, List.map_cons, findM, findK, strKey, Option.some.injEq] at ih ⊢
    by_cases h : k' = k
    · rw [if_pos (bytes_inj.2 h), if_pos h]
    · rw [if_neg (fun e => h (bytes_inj.1 e)), if_neg h, ih]
theorem kvs_nil : ([] : List (Value × Value)) = kvs [] := rfl
end
end Go.G
