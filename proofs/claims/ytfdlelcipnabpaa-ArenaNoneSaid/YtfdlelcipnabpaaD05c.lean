/-
  Chapter 5: words are given.
-/
import Derived.Test.YtfdlelcipnabpaaD05b
namespace Go.Proofs.Ytfdlelcipnabpaa
set_option linter.unusedVariables false
set_option linter.unusedSimpArgs false
open Go Go.G Go.Proofs

/-- A new segment is wanted; it is there; so much is given. -/
def newSeg (S : Ar) (n : Int) : Bool := decide (S.l.length = 0) || (!decide (n ≤ S.size - szAt S.w ((S.l.length : Int) - 1)) && decide (S.l.length < 16))
def moreS (S : Ar) : Ar := { S with l := S.l ++ [(1, [])], ur := S.ur + 1 }
def okGive (S : Ar) (n : Int) : Bool := decide (0 ≤ n ∧ n ≤ S.most - S.used)
def atS (S : Ar) (n : Int) : Ar := if newSeg S n = true then moreS S else S
def giveS (S : Ar) (n : Int) : Ar := if okGive S n = true then growS (atS S n) ((atS S n).l.length - 1) n.toNat else S

theorem rowS_append {r : Nat} {l : List (Nat × List Int)} {e : Nat × List Int} : rowS r (l ++ [e]) = rowS r l ++ [.osl [r, 0, l.length] e.1 1 0 e.2.length] := by simp [rowS, List.mapIdx_append]
theorem seg_none {r : Nat} {S : Ar} {i : Nat} (h : S.l.length ≤ i) : arF r S [0, i] = ⟨0, .none⟩ := by simp [h]
theorem le_more {c : Cx} {s : Nat → A} {S : Ar} : ∃ G : Hp, Le c ⟨s, ov 0 (updF (updF (arF 0 S) [0] ⟨S.ur + 1, .arr 1 (List.take S.l.length (rowS 0 S.l) ++ [A.sl true []])⟩) [] ⟨S.u, .cells [A.osl [0, 0] (S.ur + 1) 1 0 (S.l.length + 1), iv S.size, iv S.most, iv S.used]⟩) (lkH [])⟩ ⟨s, G⟩ ∧
    ∀ o, G o = ov 0 (arF 0 (moreS S)) (lkH []) o := by
  refine ⟨_, le_blankR (d := [0, 0]) (u := S.ur + 1) (xs := List.take S.l.length (rowS 0 S.l) ++ [A.sl true []]) S.l.length [0, 0, S.l.length] 1 (by simp [updF_app]) (by simp) (by simp), fun o => ?_⟩
  rw [updF_ov, if_pos rfl, updF_ov, if_pos rfl]
  cases o with
  | nil => rfl
  | cons j p =>
    by_cases hj : j = 0
    · subst hj
      simp only [ov_cons, if_true]
      refine updF_is ?_ (fun h1 => updF_is ?_ (fun h2 => updF_is ?_ (fun h3 => ?_)))
      · simp [moreS, rowS_append, List.take_of_length_le, updF_app]
      · simp [moreS, updF_app]
      · simp [moreS]
      · rw [updF_ne h1]
        refine arF_but h3 h1 fun i hi => ?_
        have : i ≠ S.l.length := fun e => h2 (by rw [hi, e])
        simp only [moreS, List.getElem?_append]
        split
        · rfl
        · rw [List.getElem?_eq_none (by omega), List.getElem?_eq_none (by simp; omega)]
    · simp [hj]

theorem Give_k1 {n : Nat} {w0 : World} {I0 M0 : Nat → Prop} {m0 : Mu} {S : Ar} {k m : Nat} (hk : k < S.l.length) (h0 : 0 ≤ S.used) (h1 : S.used + m ≤ 131072) (h2 : (S.l[k].2.length : Int) ≤ S.used) {r : A} {Hr : Hp}
    {G : Hp} (hG : ∀ o, G o = ov 0 (arF 0 S) (lkH []) o) (hr : r = .tup [iv k, iv S.l[k].2.length, bv true]) (hH : Hr = ov 0 (arF 0 (growS S k m)) (lkH [])) :
    WPC (cxh Try.prog w0 I0 M0 n m0) k1_arena_Arena_Give (RetH (cxh Try.prog w0 I0 M0 n m0) [.tmp 4, .tmp 5, .tmp 6] 1 r Hr) ⟨lk [(0, .pob [0] S.u 0), (1, iv m), (7, iv k)], G⟩ := by
  have hG := funext hG
  subst hr hH hG
  unfold k1_arena_Arena_Give
  simp
  refine sc_ar (r := 0) (grow_spec S k m S.l[k] (List.getElem?_eq_getElem hk) (by omega) h0 (by omega)) (fun p => rfl) rfl (fun _ _ => rfl) (fun _ => ⟨trivial, trivial, trivial⟩) (fun _ _ => rfl) (fun _ => trivial) (by simp) ?_
  simp
  exact reth_ret rfl rfl (fun i p hi => rfl)

set_option pp.deepTerms true in
set_option pp.maxSteps 1000000 in
theorem Give_spec (S : Ar) (h : S.Ok) (n : Int) : SpecH Try.prog 19 1 [.pob [0] S.u 0, iv n] (ov 0 (arF 0 S) (lkH []))
    (.tup [iv (if okGive S n = true then ((atS S n).l.length : Int) - 1 else 0), iv (if okGive S n = true then (szAt (atS S n).w (((atS S n).l.length : Int) - 1) : Int) else 0), bv (okGive S n)]) (ov 0 (arF 0 (giveS S n)) (lkH [])) := by
  refine specH_of t_arena_Arena_Give (by simp) fun w0 I0 M0 m0 => ?_
  unfold c_arena_Arena_Give
  simp
  have o1 := h.used0
  have o2 := h.used1
  have o3 := h.most1
  refine sc_callb_gf [S.a] rfl (fun _ => (left_spec S.w S.size S.most S.used (by omega) (by omega)).toB rfl) (fun e => by simp [e]; exact frz_ar) (by simp) ?_
  simp
  have o4 := h.len
  have oz0 := h.size0
  have oz1 := h.size1
  have oz := h.szAt ((S.l.length : Int) - 1)
  refine ⟨fun hc => ?_, fun a1 a2 => ?_⟩
  · have hk : okGive S n = false := by simp only [okGive, decide_eq_false_iff_not]; omega
    refine reth_ret rfl ?_ (fun i p hi => ?_)
    · simp [hk]
    · simp [giveS, hk]
  have hk : okGive S n = true := by simp only [okGive, decide_eq_true_eq]; omega
  rw [i64_same (n := (S.l.length : Int) - 1) (by omega) (by omega)]
  refine sc_callb_gf [S.a, iv ((S.l.length : Int) - 1), iv n] rfl (fun _ => (room_spec S.w S.size S.most S.used ((S.l.length : Int) - 1) n (by omega) (by omega)).toB rfl) (fun e => by simp only [decide_eq_false_iff_not] at e; simp [e]; exact ⟨frz_ar, frz_bare rfl, frz_bare rfl⟩) (by simp) ?_
  obtain ⟨m, rfl⟩ := Int.eq_ofNat_of_zero_le a1
  have e7 : IntKind.i64.wrap S.l.length = S.l.length := i64_same (by omega) (by omega)
  have e8 : IntKind.i64.wrap ((S.l.length : Int) - 1 + 1) = S.l.length := i64_same (n := (S.l.length : Int) - 1 + 1) (by omega) (by omega) |>.trans (by omega)
  have hmm : ((m : Int)).toNat = m := by omega
  have new : newSeg S m = true → ∀ G : Hp, (∀ o, G o = ov 0 (arF 0 (moreS S)) (lkH []) o) → WPC (cxh Try.prog w0 I0 M0 59 m0) k1_arena_Arena_Give (RetH (cxh Try.prog w0 I0 M0 59 m0) [.tmp 4, .tmp 5, .tmp 6] 1 (A.tup
          [iv (if okGive S m = true then ((atS S m).l.length : Int) - 1 else 0), iv (if okGive S m = true then (szAt (atS S m).w (((atS S m).l.length : Int) - 1) : Int) else 0), bv (okGive S m)]) (ov 0 (arF 0 (giveS S m)) (lkH []))) ⟨lk [(0, .pob [0] S.u 0), (1, iv m), (7, iv (S.l.length : Int))], G⟩ := fun hs G hG => by
    have hat : atS S m = moreS S := by simp [atS, hs]
    have hl : (moreS S).l.length = S.l.length + 1 := by simp [moreS]
    have hlt : S.l.length < (moreS S).l.length := by omega
    have hg : (moreS S).l[S.l.length].2 = [] := by simp [moreS]
    refine Give_k1 (S := moreS S) (k := S.l.length) (m := m) hlt (by simpa [moreS] using o1) (by simp only [moreS]; omega) (by rw [hg]; simpa [moreS] using o1) hG ?_ ?_
    · have hz := szAt_get hlt
      rw [hat, hk, hl]
      simp only [if_true]
      rw [show ((S.l.length + 1 : Nat) : Int) - 1 = (S.l.length : Int) from by omega, hz]
    · rw [giveS, hk, if_pos rfl, hat, hl, hmm]
      rfl
  have old : newSeg S m = false → WPC (cxh Try.prog w0 I0 M0 59 m0) k1_arena_Arena_Give (RetH (cxh Try.prog w0 I0 M0 59 m0) [.tmp 4, .tmp 5, .tmp 6] 1 (A.tup
          [iv (if okGive S m = true then ((atS S m).l.length : Int) - 1 else 0), iv (if okGive S m = true then (szAt (atS S m).w (((atS S m).l.length : Int) - 1) : Int) else 0), bv (okGive S m)]) (ov 0 (arF 0 (giveS S m)) (lkH []))) ⟨lk [(0, .pob [0] S.u 0), (1, iv m), (7, iv ((S.l.length : Int) - 1))], ov 0 (arF 0 S) (lkH [])⟩ := fun hs => by
    have hat : atS S m = S := by simp [atS, hs]
    have h0 : S.l.length ≠ 0 := fun e => by simp [newSeg, e] at hs
    have ec : (S.l.length : Int) - 1 = ((S.l.length - 1 : Nat) : Int) := by omega
    have hlt : S.l.length - 1 < S.l.length := by omega
    rw [hat, hk, ec]
    refine Give_k1 (S := S) (k := S.l.length - 1) (m := m) hlt o1 (by omega) (h.seg _ (List.getElem_mem _)) (fun o => rfl) ?_ ?_
    · simp only [if_true]
      rw [szAt_get hlt]
    · rw [giveS, hk, if_pos rfl, hat, hmm]
  have step : (if (4 : Nat) = 4 then True else False) := trivial
  by_cases h0 : S.l.length = 0
  · have hd : ((S.l.length : Int) - 1 < 0) := by omega
    have hs : newSeg S m = true := by simp [newSeg, h0]
    simp [hd, e7, e8, updF_app]
    refine ⟨by omega, ?_⟩
    obtain ⟨G, g1, g2⟩ := le_more (c := cxh Try.prog w0 I0 M0 59 m0) (s := lk [(0, .pob [0] S.u 0), (1, iv m), (7, iv (S.l.length : Int))]) (S := S)
    exact stop_le g1 (stop_go (new hs G g2))
  · have hd : ¬ ((S.l.length : Int) - 1 < 0) := by omega
    by_cases hr : (m : Int) ≤ S.size - szAt S.w ((S.l.length : Int) - 1)
    · have hs : newSeg S m = false := by simp [newSeg, h0, hr]
      simp [hd, hr, e7, e8, updF_app]
      exact stop_go (old hs)
    · by_cases h16 : S.l.length < 16
      · have hs : newSeg S m = true := by simp [newSeg, h0, hr, h16]
        have h16' : (S.l.length : Int) < 16 := by omega
        simp [hd, hr, h16', e7, e8, updF_app]
        refine ⟨by omega, ?_⟩
        obtain ⟨G, g1, g2⟩ := le_more (c := cxh Try.prog w0 I0 M0 59 m0) (s := lk [(0, .pob [0] S.u 0), (1, iv m), (7, iv (S.l.length : Int))]) (S := S)
        exact stop_le g1 (stop_go (new hs G g2))
      · have hs : newSeg S m = false := by simp [newSeg, h0, hr, h16]
        have h16' : ¬ (S.l.length : Int) < 16 := by omega
        simp [hd, hr, h16', e7, e8, updF_app]
        exact stop_go (old hs)
end Go.Proofs.Ytfdlelcipnabpaa
