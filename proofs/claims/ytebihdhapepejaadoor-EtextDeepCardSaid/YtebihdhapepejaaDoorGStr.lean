/-
  Strings as lists of bytes; what the operations yield on them; functions that turn nothing, met by the model's own run.
-/
import Derived.Test.YtebihdhapepejaaDoorGMove
import Derived.Test.YtebihdhapepejaaDoorGCopy
import Derived.Laws.Concat
import Derived.Laws.Closers25b
namespace Go.G
set_option linter.unusedVariables false
set_option linter.unusedSimpArgs false
open Go.RowKit

/-- A text. -/
abbrev S (l : List UInt8) : A := .v (.string ⟨l.toArray⟩)
abbrev u8v (b : UInt8) : A := .v (.int .u8 b.toNat)
theorem str_eta (s : ByteArray) : (⟨s.data.toList.toArray⟩ : ByteArray) = s := by cases s; simp
@[simp] theorem str_size (l : List UInt8) : (ByteArray.mk l.toArray).size = l.length := by simp [ByteArray.size]
@[simp] theorem str_get (l : List UInt8) (i : Nat) : (ByteArray.mk l.toArray)[i]? = l[i]? := by
  by_cases h : i < l.length
  · have h' : i < (ByteArray.mk l.toArray).size := by simpa using h
    rw [getElem?_pos (ByteArray.mk l.toArray) i h', List.getElem?_eq_getElem h]
    rfl
  · have h' : ¬ i < (ByteArray.mk l.toArray).size := by simpa using h
    rw [getElem?_neg (ByteArray.mk l.toArray) i h', List.getElem?_eq_none (by omega)]
@[simp] theorem str_getE (l : List UInt8) (i : Nat) (h : i < (ByteArray.mk l.toArray).size) : (ByteArray.mk l.toArray)[i]'h = l[i]'(by simpa using h) := rfl
@[simp] theorem str_extract (l : List UInt8) (a b : Nat) : (ByteArray.mk l.toArray).extract a b = ByteArray.mk ((l.drop a).take (b - a)).toArray := by
  have h : ((ByteArray.mk l.toArray).extract a b).data = ((l.drop a).take (b - a)).toArray := by
    rw [ByteArray.data_extract]
    simp
  cases hq : (ByteArray.mk l.toArray).extract a b with
  | mk d => rw [hq] at h; simpa using h
@[simp] theorem str_append (l m : List UInt8) : ByteArray.mk l.toArray ++ ByteArray.mk m.toArray = ByteArray.mk (l ++ m).toArray := Go.ByteArray.mk_append_mk l m
@[simp] theorem str_toList (l : List UInt8) : (ByteArray.mk l.toArray).toList = l := Go.ByteArray.toList_eq _
theorem str_inj {l m : List UInt8} : (ByteArray.mk l.toArray = ByteArray.mk m.toArray) = (l = m) := by simp
@[simp] theorem bytesA_map (l : List UInt8) : bytesA (l.map u8v) = some l := by
  induction l with
  | nil => rfl
  | cons b l ih =>
    have h : byteA (u8v b) = some b := by
      have := b.toNat_lt
      simp [byteA]
      omega
    simp [bytesA, h, ih]
@[simp] theorem convA_sl {P : Program} {t u : TypeId} {f : Bool} {xs : List A} : convA P t u (.sl f xs) = match P.underlying t, P.underlying u with
    | some (.slice e), some .string => (match P.underlying e, bytesA xs with | some (.int .u8), some l => some (S l) | _, _ => none)
    | _, _ => none := by
  unfold convA
  cases P.underlying t with
  | none => rfl
  | some d =>
    cases P.underlying u with
    | none => cases d <;> rfl
    | some d' => cases d <;> cases d' <;> rfl
end Go.G
