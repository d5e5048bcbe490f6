/-
  Chapter 10's reference: what a value means, whole.
-/
import Derived.Test.YtigdcnlhgelkaaaD10b
namespace Go.Proofs.Ytigdcnlhgelkaaa
set_option linter.unusedVariables false
set_option linter.unusedSimpArgs false
open Go Go.G Go.Proofs Go.PL

/-- A tree whose kids were never made. -/
def rawT (b : Bool) (t : T) : A := if b = true then .agg [iv t.kind, uws t.words, .sl true []] else tA t
theorem frz_raw {H : Hp} {o : Nm} {u n : Nat} {b : Bool} {l : List T} (h : vr (H o) u = some (3, l.map (rawT b))) (hn : n = l.length) (hb : b = true → ∀ t, t ∈ l → t.kids = []) : Frz H (.osl o u 3 0 n) (tKs l) := by
  subst hn
  cases b with
  | false =>
    have e : rawT false = tA := by funext t; simp [rawT]
    rw [e] at h
    exact frz_row (by simpa using h) rfl (by simp)
  | true =>
    refine frz_osl' (xs := l.map (rawT true)) (by simpa using h) (by simp) (by simp) (fun y hy => ?_) ?_ ?_
    · obtain ⟨x, hx, rfl⟩ := List.mem_map.1 hy
      simp
    · simp only [A.ones, List.all_eq_true, List.mem_flatMap]
      rintro y ⟨z, hz, hy⟩
      obtain ⟨x, hx, rfl⟩ := List.mem_map.1 hz
      simp at hy
      rcases hy with rfl | rfl | rfl <;> rfl
    · rw [List.drop_zero, List.take_of_length_le (by simp)]
      have : ∀ (m : List T), (∀ x, x ∈ m → x ∈ l) → FrzL H ((m.map (rawT true)).flatMap A.cells) ((m.map tA).flatMap A.cells) := by
        intro m
        induction m with
        | nil => intro _; simp
        | cons x m ih =>
          intro hm
          have := hb rfl x (hm x (by simp))
          have := ih fun y hy => hm y (by simp [hy])
          simp [rawT] at this ⊢
          exact ⟨frz_bare rfl, frz_bare rfl, by rw [hb rfl x (hm x (by simp))]; exact frz_sl, this⟩
      exact this l fun x hx => hx

def recM (l : List (List Int)) (r : Rf) (rec1 rec2 : Rf → Int → T × Int × Int) : Rf → Int → T × Int × Int := if r.kind = 9 then kidsM l rec2 else if r.kind = 1 ∨ r.kind = 8 then rec1 else leafM l
def leafB (r : Rf) : Bool := !(decide (r.kind = 9) || decide (r.kind = 1) || decide (r.kind = 8))
theorem leaf_kids {l : List (List Int)} {r : Rf} {rec1 rec2 : Rf → Int → T × Int × Int} (hb : leafB r = true) : ∀ (m i : Nat) (acc : List T) (left : Int), (∀ t, t ∈ acc → t.kids = []) → ∀ t, t ∈ (loopM (stepM l (recM l r rec1 rec2) r) m i acc left).1 → t.kids = []
  | 0, i, acc, left, ha, t, ht => ha t ht
  | m + 1, i, acc, left, ha, t, ht => by
    have e : recM l r rec1 rec2 = leafM l := by
      simp [leafB] at hb
      rw [recM, if_neg hb.1.1, if_neg (by omega)]
    rw [loopM] at ht
    split at ht
    · exact ha t ht
    · refine leaf_kids hb m _ _ _ (fun t ht => ?_) t ht
      rcases List.mem_append.1 ht with h | h
      · exact ha t h
      · simp only [List.mem_singleton] at h
        subst h
        rw [e]
        unfold stepM
        split
        · rfl
        · rfl

section
variable {n0 : Nat} {w0 : World} {I0 : Nat → Prop} {Q : Exit → Sta → Prop}
theorem meaning_l1 {l : List (List Int)} (hs : Sg l) {r : Rf} (hr : RfOk l r) {rec1 rec2 : Rf → Int → T × Int × Int} {d : Nat} (hd : d ≤ 1000) {B : Int}
    (h1 : r.kind = 1 ∨ r.kind = 8 → ∃ d1 : Nat, d = d1 + 1 ∧ RecS l 57 d1 B rec1 ∧ LB l B rec1)
    (h2 : r.kind = 9 → 0 < r.count → ∃ d2 : Nat, d = d2 + 2 ∧ RecS l 94 d2 B (kidsM l rec2) ∧ LB l B (kidsM l rec2))
    {W : List Int} {ks : List T} {lf e : Int} : ∀ (m i u : Nat) (acc : List T) (left : Int) (H : Hp), (i : Int) + m = nk r → acc.length = i → 0 ≤ left → left ≤ B → H [0] = ⟨1, .cells (raL r)⟩ → H [1] = ⟨1, .cells zT⟩ → H [2] = ⟨1, .cells [iv r.kind, uws W, .osl [5] u 3 0 i]⟩ → H [5] = ⟨u, .arr 3 (acc.map (rawT (leafB r)))⟩ → loopM (stepM l (recM l r rec1 rec2) r) m i acc left = (ks, lf, e) →
    (e = 0 → ∀ i' q u' H', H' [1] = ⟨1, .cells zT⟩ → H' [2] = ⟨1, .cells [iv r.kind, uws W, .osl [5] u' 3 0 ks.length]⟩ → H' [5] = ⟨u', .arr 3 (ks.map (rawT (leafB r)))⟩ → Q (.exit 0) ⟨lk [(0, sgs l), (2, iv d), (3, iv lf), (5, .pob [0] 1 0), (8, .pob [1] 1 0), (11, .pob [2] 1 0), (13, iv i'), (82, bv q)], H'⟩) →
    (e ≠ 0 → ∀ u' H', H' [1] = ⟨1, .cells [iv r.kind, uws W, .osl [5] u' 3 0 ks.length]⟩ → H' [5] = ⟨u', .arr 3 (ks.map (rawT (leafB r)))⟩ → Q .ret ⟨lk [(8, .pob [1] 1 0), (9, iv lf), (10, iv e)], H'⟩) →
    LoopC (cx Try.prog w0 I0 n0) l1_centoref10_Meaning Q ⟨lk [(0, sgs l), (2, iv d), (3, iv left), (5, .pob [0] 1 0), (8, .pob [1] 1 0), (11, .pob [2] 1 0), (13, iv i)], H⟩ := by
  have hb := nk_nonneg hr
  intro m
  induction m with
  | zero =>
    intro i u acc left H hi ha h0 hl hA hR hO hK hX hq hq2
    have : (i : Int) = nk r := by omega
    rw [loopM] at hX
    cases hX
    refine loopC_once mixed l1_centoref10_Meaning.eq_1 ?_
    simp [hA]
    refine sc_call (raKids_spec r) (by simp) ?_
    simp [this]
    refine hq rfl _ _ u H hR (by rw [hO, ha]) hK
  | succ m ihm =>
    intro i u acc left H hi ha h0 hl hA hR hO hK hX hq hq2
    have hlt : (i : Int) < nk r := by omega
    have ei : IntKind.i64.wrap ((i : Int) + 1) = ((i + 1 : Nat) : Int) := i64_same (by omega) (by omega)
    have hrow : List.take i (acc.map (rawT (leafB r))) = acc.map (rawT (leafB r)) := List.take_of_length_le (by simp; omega)
    rw [loopM] at hX
    refine loopC_once mixed l1_centoref10_Meaning.eq_1 ?_
    simp [hA]
    refine sc_call (raKids_spec r) (by simp) ?_
    simp [hA, hlt]
    refine sc_call (raKid_spec hs hr i) (by simp) ?_
    have hok := kid_ok hs.w hr i
    have next : ∀ (y : T) (yl ye : Int), stepM l (recM l r rec1 rec2) r i left = (y, yl, ye) → ye = 0 → 0 ≤ yl → yl ≤ B → ∀ (x : A) (H' : Hp), rawT (leafB r) y = x → H' [0] = ⟨1, .cells (raL r)⟩ → H' [1] = ⟨1, .cells zT⟩ → H' [2] = ⟨1, .cells [iv r.kind, uws W, .osl [5] (u + 1) 3 0 (i + 1)]⟩ → H' [5] = ⟨u + 1, .arr 3 (acc.map (rawT (leafB r)) ++ [x])⟩ →
        LoopC (cx Try.prog w0 I0 n0) l1_centoref10_Meaning Q ⟨lk [(0, sgs l), (2, iv d), (3, iv yl), (5, .pob [0] 1 0), (8, .pob [1] 1 0), (11, .pob [2] 1 0), (13, iv ((i + 1 : Nat) : Int))], H'⟩ := fun y yl ye hy he y0 y1 x H' hx a0 a1 a2 a5 => by
      rw [hy, if_neg (by simp [he])] at hX
      exact ihm (i + 1) (u + 1) (acc ++ [y]) yl H' (by omega) (by simp [ha]) y0 y1 a0 a1 a2 (by rw [a5, ← hx]; simp) hX hq hq2
    by_cases he : (kidP l r i).2 = 0
    · have hst : stepM l (recM l r rec1 rec2) r i left = recM l r rec1 rec2 (kidP l r i).1 left := by rw [stepM, if_neg (by omega)]
      rw [hst] at hX next
      simp [he, hA, hR, hO, hK, updF_app]
      refine sc_call (raWords_spec hs hok) (by simp) ?_
      simp [he, hA, hR, hO, hK, updF_app]
      by_cases h9 : r.kind = 9
      · have hrec : recM l r rec1 rec2 = kidsM l rec2 := by rw [recM, if_pos h9]
        have hlf : leafB r = false := by simp [leafB, h9]
        rw [hrec] at hX next
        obtain ⟨d2, ed, hsp, hlb⟩ := h2 h9 (by unfold nk at hlt; rw [if_neg (by omega)] at hlt; omega)
        have e2 : IntKind.i64.wrap ((d : Int) - 2) = (d2 : Int) := by rw [i64_same (by omega) (by omega)]; omega
        have hlb' := hlb _ hok left h0 hl
        simp [h9, e2, hA, updF_app]
        refine sc_call (hsp _ hok left h0 hl) (by simp) ?_
        generalize hy : kidsM l rec2 (kidP l r i).1 left = y at hX hlb' next
        obtain ⟨y, yl, ye⟩ := y
        simp only at hX hlb'
        rw [k1_centoref10_Meaning.eq_1]
        by_cases hye : ye = 0
        · simp [hye, hA, hR, hO, hK, updF_app, hrow]
          rw [ei]
          refine ⟨⟨by omega, by omega⟩, ?_⟩
          refine next y yl ye rfl hye hlb'.1 hlb'.2 _ _ rfl ?_ ?_ ?_ ?_
          · simp [updF_app, hA]
          · simp [updF_app, hR]
          · simp [updF_app, h9]
          · simp [updF_app, hlf, rawT]
        · rw [if_pos hye] at hX
          simp only [Prod.mk.injEq] at hX
          obtain ⟨rfl, rfl, rfl⟩ := hX
          simp [hye, hA, hR, hO, hK, updF_app]
          refine hq2 hye u _ ?_ ?_
          · simp [updF_app, hR, ha, h9]
          · simp [updF_app, hK]
      · by_cases h18 : r.kind = 1 ∨ r.kind = 8
        · have hrec : recM l r rec1 rec2 = rec1 := by rw [recM, if_neg h9, if_pos h18]
          have hlf : leafB r = false := by rcases h18 with h | h <;> simp [leafB, h]
          have hdc : (decide (r.kind = 1) || decide (r.kind = 8)) = true := by simpa using h18
          rw [hrec] at hX next
          obtain ⟨d1, ed, hsp, hlb⟩ := h1 h18
          have e2 : IntKind.i64.wrap ((d : Int) - 1) = (d1 : Int) := by rw [i64_same (by omega) (by omega)]; omega
          have hlb' := hlb _ hok left h0 hl
          simp [h9, hdc, e2, hA, updF_app]
          refine ⟨fun _ => ?_, fun a b => by omega⟩
          refine sc_call (hsp _ hok left h0 hl) (by simp) ?_
          generalize hy : rec1 (kidP l r i).1 left = y at hX hlb' next
          obtain ⟨y, yl, ye⟩ := y
          simp only at hX hlb'
          rw [k1_centoref10_Meaning.eq_1]
          by_cases hye : ye = 0
          · simp [hye, hA, hR, hO, hK, updF_app, hrow]
            rw [ei]
            refine ⟨⟨by omega, by omega⟩, ?_⟩
            refine next y yl ye rfl hye hlb'.1 hlb'.2 _ _ rfl ?_ ?_ ?_ ?_
            · simp [updF_app, hA]
            · simp [updF_app, hR]
            · simp [updF_app]
            · simp [updF_app, hlf, rawT]
          · rw [if_pos hye] at hX
            simp only [Prod.mk.injEq] at hX
            obtain ⟨rfl, rfl, rfl⟩ := hX
            simp [hye, hA, hR, hO, hK, updF_app]
            refine hq2 hye u _ ?_ ?_
            · simp [updF_app, hR, ha]
            · simp [updF_app, hK]
        · have hrec : recM l r rec1 rec2 = leafM l := by rw [recM, if_neg h9, if_neg h18]
          have hlf : leafB r = true := by simp [leafB]; omega
          have hdc : (decide (r.kind = 1) || decide (r.kind = 8)) = false := by simpa using h18
          rw [hrec] at next
          simp [h9, hdc, hA, updF_app]
          rw [k1_centoref10_Meaning.eq_1]
          simp [he, hA, hR, hO, hK, updF_app, hrow]
          rw [ei]
          refine ⟨fun h => absurd h h18, fun _ _ => ⟨⟨by omega, by omega⟩, ?_⟩⟩
          refine next _ _ _ rfl rfl h0 hl _ _ rfl ?_ ?_ ?_ ?_
          · simp [updF_app, hA]
          · simp [updF_app, hR]
          · simp [updF_app]
          · simp [updF_app, hlf, rawT]
    · have hst : stepM l (recM l r rec1 rec2) r i left = (T0, left, (kidP l r i).2) := by rw [stepM, if_pos he]
      rw [hst, if_pos he] at hX
      simp only [Prod.mk.injEq] at hX
      obtain ⟨rfl, rfl, rfl⟩ := hX
      simp [he, hA, hR, hO, hK, updF_app]
      refine hq2 he u _ ?_ ?_
      · simp [updF_app, hR, ha]
      · simp [updF_app, hK]
end
theorem meaning_step {l : List (List Int)} (hs : Sg l) {r : Rf} (hr : RfOk l r) {rec1 rec2 : Rf → Int → T × Int × Int} {d : Nat} (hd : d ≤ 1000) {B : Int} (hB : B ≤ 1000000)
    (h1 : r.kind = 1 ∨ r.kind = 8 → 0 < d → ∃ d1 : Nat, d = d1 + 1 ∧ RecS l 57 d1 B rec1 ∧ LB l B rec1)
    (h2 : r.kind = 9 → 0 < r.count → 1 < d → ∃ d2 : Nat, d = d2 + 2 ∧ RecS l 94 d2 B (kidsM l rec2) ∧ LB l B (kidsM l rec2))
    {left : Int} (h0 : 0 ≤ left) (hl : left ≤ B) {X : T × Int × Int} (hX : X = if r.kind = 0 then leafM l r left else if d < 1 ∨ (r.kind = 9 ∧ 0 < r.count ∧ d < 2) then stopM l r left else if left < costM r then stopM l r left else restM l r rec1 rec2 left) : G.Spec Try.prog 57 [sgs l, raX r, iv d, iv left] (M3 X) := by
  have hb := nk_nonneg hr
  have hc := costM_pos hr
  refine spec_of t_centoref10_Meaning (by simp) fun w0 I0 => ?_
  unfold c_centoref10_Meaning
  simp
  refine sc_call (raWords_spec hs hr) (by simp) ?_
  have leaf : ∀ (H : Hp) (k lf e : Int) (X : T × Int × Int), X = (.mk k (wordsR l r) [], lf, e) → Frz H (.tup [.agg [iv k, uws (wordsR l r), .sl true []], iv lf, iv e]) (M3 X) := fun H k lf e X hX => by
    rw [hX]
    exact frz_tup (by simp; exact ⟨frz_agg (by simp; exact ⟨frz_bare rfl, frz_bare rfl, frz_sl⟩), frz_bare rfl, frz_bare rfl⟩)
  by_cases k0 : r.kind = 0
  · rw [if_pos k0, leafM, k0] at hX
    simp [k0]
    exact leaf _ _ _ _ _ hX
  rw [if_neg k0] at hX
  by_cases hst : d < 1 ∨ (r.kind = 9 ∧ 0 < r.count ∧ d < 2)
  · have hd : (decide ((d : Int) < 1) || ((decide (r.kind = 9) && decide (0 < r.count)) && decide ((d : Int) < 2))) = true := by simp; omega
    rw [if_pos hst, stopM] at hX
    by_cases d0 : (d : Int) < 1
    · simp [k0, d0]
      exact leaf _ _ _ _ _ hX
    · have h9 : r.kind = 9 := by omega
      have hcn : 0 < r.count := by omega
      have d2 : (d : Int) < 2 := by omega
      simp [k0, d0, h9, hcn, d2]
      rw [h9] at hX
      exact leaf _ _ _ _ _ hX
  rw [if_neg hst] at hX
  have d0 : ¬ (d : Int) < 1 := by omega
  have fin : ∀ (H : Hp), H [0] = ⟨1, .cells (raL r)⟩ → H [1] = ⟨1, .cells zT⟩ → H [2] = ⟨1, .cells [iv r.kind, uws (wordsR l r), .sl true []]⟩ → H [5] = ⟨0, .none⟩ → WPC (cx Try.prog w0 I0 149) k2_centoref10_Meaning (RetC Try.prog [.cell 8 25, .tmp 9, .tmp 10] (M3 X)) ⟨lk [(0, sgs l), (2, iv d), (3, iv left), (5, .pob [0] 1 0), (8, .pob [1] 1 0), (11, .pob [2] 1 0), (12, iv (costM r))], H⟩ := fun H hA hR hO hN => by
    rw [k2_centoref10_Meaning.eq_1]
    by_cases hlc : left < costM r
    · rw [if_pos hlc, stopM] at hX
      simp [hlc, hA, hR, hO, updF_app]
      exact leaf _ _ _ _ _ hX
    · rw [if_neg hlc, restM] at hX
      have ew : IntKind.i64.wrap (left - costM r) = left - costM r := i64_same (by omega) (by omega)
      simp [hlc, hA, hR, hO, updF_app, ew]
      have hX' : X = (.mk r.kind (wordsR l r) (loopM (stepM l (recM l r rec1 rec2) r) (nk r).toNat 0 [] (left - costM r)).1, (loopM (stepM l (recM l r rec1 rec2) r) (nk r).toNat 0 [] (left - costM r)).2.1, (loopM (stepM l (recM l r rec1 rec2) r) (nk r).toNat 0 [] (left - costM r)).2.2) := hX
      have hleaf := fun hb => leaf_kids (rec1 := rec1) (rec2 := rec2) (l := l) (r := r) hb (nk r).toNat 0 [] (left - costM r) (by simp)
      generalize hY : loopM (stepM l (recM l r rec1 rec2) r) (nk r).toNat 0 [] (left - costM r) = Y at hX' hleaf
      obtain ⟨ks, lf, e⟩ := Y
      have done : ∀ (H : Hp) (u : Nat), H [5] = ⟨u, .arr 3 (ks.map (rawT (leafB r)))⟩ → Frz H (.tup [.agg [iv r.kind, uws (wordsR l r), .osl [5] u 3 0 ks.length], iv lf, iv e]) (M3 X) := fun H u hH => by
        rw [hX']
        exact frz_tup (by simp; exact ⟨frz_agg (by simp; exact ⟨frz_bare rfl, frz_bare rfl, frz_raw (by simp [hH]) rfl hleaf⟩), frz_bare rfl, frz_bare rfl⟩)
      refine LoopC.le (le_blankC (d := [2]) 2 [5] 3 hO rfl (by simp)) ?_
      refine meaning_l1 (W := wordsR l r) hs hr hd (fun k => h1 k (by omega)) (fun k k' => h2 k k' (by omega)) (nk r).toNat 0 1 [] (left - costM r) _ (by omega) rfl (by omega) (by omega) (by simp [updF_app, hA]) (by simp [updF_app, hR]) (by simp [updF_app, hN]) (by simp [updF_app, hN]) hY (fun he i' q u' H' hR hO hK => ?_) (fun he u' H' hR hK => ?_)
      · simp [hR, hO, hK, updF_app]
        rw [← he]
        exact done _ u' (by simp [updF_app, hK])
      · simp [hR, hK, updF_app]
        exact done _ u' hK
  have b0 : decide (r.kind = 0) = false := by simpa using k0
  have hst' : ((decide (r.kind = 9) && decide (0 < r.count)) && decide ((d : Int) < 2)) = false := by
    simp only [Bool.and_eq_false_iff, decide_eq_false_iff_not]
    omega
  simp [b0, d0, hst']
  refine sc_call (raKids_spec r) (by simp) ?_
  have ek : IntKind.i64.wrap (1 + nk r) = 1 + nk r := i64_same (by omega) (by omega)
  by_cases k1 : r.kind = 1
  · have b1 : decide (r.kind = 1) = true := by simpa using k1
    have b9 : decide (r.kind = 9) = false := by simp [k1]
    have ec : IntKind.i64.wrap (IntKind.i64.wrap (1 + r.data) + r.kids) = costM r := by
      cases hr with
      | str s a d k a1 a2 a3 a4 h =>
        rw [i64_same (n := 1 + _) (by simp; omega) (by simp; omega), i64_same (by simp; omega) (by simp; omega)]
        simp [costM]
      | dat c s a n a1 a2 a3 a4 h => simp at k1; omega
      | _ => simp [Rf.zero] at k1
    simp [b1]
    rw [k3_centoref10_Meaning.eq_1]
    simp [b9, ec]
    exact fin _ (by simp) (by simp) (by simp) (by simp)
  · have b1 : decide (r.kind = 1) = false := by simpa using k1
    by_cases k9 : r.kind = 9
    · have b9 : decide (r.kind = 9) = true := by simpa using k9
      have ec : IntKind.i64.wrap (1 + IntKind.i64.wrap (r.count * IntKind.i64.wrap (IntKind.i64.wrap (1 + r.data) + r.kids))) = costM r := by
        have e : costM r = 1 + r.count * (1 + r.data + r.kids) := by simp [costM, k9]
        have hd : 0 ≤ r.data ∧ r.data < 65536 ∧ 0 ≤ r.kids ∧ r.kids < 65536 := by
          cases hr with
          | comp s a d k n a1 a2 a3 a4 a5 a6 h => exact ⟨a1, a2, a3, a4⟩
          | dat c s a n a1 a2 a3 a4 h => simp at k9; omega
          | _ => simp [Rf.zero] at k9
        rw [i64_same (n := 1 + r.data) (by omega) (by omega), i64_same (n := 1 + r.data + r.kids) (by omega) (by omega), i64_same (n := r.count * _) (by omega) (by omega), i64_same (by omega) (by omega), e]
      simp [b1, ek]
      rw [k3_centoref10_Meaning.eq_1]
      simp [b9, ec]
      exact fin _ (by simp) (by simp) (by simp) (by simp)
    · have b9 : decide (r.kind = 9) = false := by simpa using k9
      have ec : 1 + nk r = costM r := by simp [costM, k1, k9]
      have ek' : IntKind.i64.wrap (1 + nk r) = costM r := by rw [ek, ec]
      simp [b1, ek']
      rw [k3_centoref10_Meaning.eq_1]
      simp [b9]
      refine fin _ ?_ ?_ ?_ ?_ <;> simp
theorem meaning_spec {l : List (List Int)} (hs : Sg l) {B : Int} (hB : B ≤ 1000000) : ∀ d : Nat, d ≤ 1000 → RecS l 57 d B (meaning l d)
  | 0, hd, r, hr, left, h0, hl => by
    refine meaning_step hs hr hd hB (rec1 := leafM l) (rec2 := leafM l) (fun _ h => absurd h (by omega)) (fun _ _ h => absurd h (by omega)) h0 hl ?_
    rw [meaning]
    simp
  | 1, hd, r, hr, left, h0, hl => by
    refine meaning_step hs hr hd hB (rec1 := meaning l 0) (rec2 := fun r left => stopM l r left) (fun _ _ => ⟨0, rfl, meaning_spec hs hB 0 (by omega), meaning_lb hs.w 0⟩) (fun _ _ h => absurd h (by omega)) h0 hl ?_
    rw [meaning]
    simp
  | d + 2, hd, r, hr, left, h0, hl => by
    refine meaning_step hs hr hd hB (rec1 := meaning l (d + 1)) (rec2 := meaning l d) (fun _ _ => ⟨d + 1, rfl, meaning_spec hs hB (d + 1) (by omega), meaning_lb hs.w (d + 1)⟩) (fun _ _ _ => ⟨d, rfl, rkids_spec hs (meaning_spec hs hB d (by omega)) (meaning_lb hs.w d), kidsM_lb hs.w (meaning_lb hs.w d)⟩) h0 hl ?_
    have n1 : ¬ (d + 2 < 1 ∨ r.kind = 9 ∧ 0 < r.count ∧ d + 2 < 2) := by omega
    rw [meaning, if_neg n1]
end Go.Proofs.Ytigdcnlhgelkaaa
