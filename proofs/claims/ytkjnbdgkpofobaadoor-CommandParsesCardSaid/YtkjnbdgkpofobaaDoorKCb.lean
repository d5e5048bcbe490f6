/-
  Texts, merged, without what is not reached.
-/
import Derived.Test.YtkjnbdgkpofobaaDoorKCa
/-
  A command's line, by the program.
-/
namespace Go.Proofs.YtkjnbdgkpofobaaDoor
set_option linter.unusedVariables false
set_option linter.unusedSimpArgs false
open Go Go.G Go.Proofs Go.PL
theorem join_len : ∀ (l : List (List UInt8)) (B : Nat), (∀ x, x ∈ l → x.length ≤ B) → (Lib.join l [32]).length ≤ l.length * (B + 1)
  | [], B, _ => by simp [Lib.join, List.intercalate]
  | [x], B, h => by rw [join_one']; have := h x (by simp); simp; omega
  | x :: y :: l, B, h => by
    have h1 := h x (by simp)
    have ih := join_len (y :: l) B (fun z hz => h z (List.mem_cons_of_mem _ hz))
    rw [join_cons2, List.length_append, List.length_append, List.length_singleton]
    have e : (x :: y :: l).length * (B + 1) = (y :: l).length * (B + 1) + (B + 1) := by rw [List.length_cons, Nat.add_mul, Nat.one_mul]
    omega
theorem na34_le (op : Nat) : na34 op ≤ 5 := by
  by_cases h : op < 15
  · have : ∀ op, op < 15 → na34 op ≤ 5 := by decide
    exact this op h
  · rw [na34, List.getD_eq_getElem?_getD, List.getElem?_eq_none (by simp; omega)]; decide
theorem na34_ge {op : Nat} (h : op < 15) : 1 ≤ na34 op := by
  have : ∀ op, op < 15 → 1 ≤ na34 op := by decide
  exact this op h
theorem nm34_len (op : Nat) : (nm34 op).length ≤ 7 := by
  by_cases h : op < 15
  · have : ∀ op, op < 15 → (nm34 op).length ≤ 7 := by decide
    exact this op h
  · rw [nm34, List.getD_eq_getElem?_getD, List.getElem?_eq_none (by simp [names34]; omega)]; decide
theorem hexB_len (bs : List UInt8) : (hexB bs).length ≤ 2 * bs.length + 1 := by
  unfold hexB
  split
  · simp
  · rw [hex2_len]; omega
theorem line34_len {op : Nat} {xs : List Int} {bs : List UInt8} (h : right34 op xs bs = true) (hb : bs.length ≤ 1000000) : (line34 op xs bs).length ≤ 7 ∧ (Lib.join (line34 op xs bs) [32]).length ≤ 100000000 := by
  obtain ⟨h0, h1, h2, h3, h4, h5⟩ := right34_iff.1 h
  have hn := na34_le op
  have hl : (line34 op xs bs).length ≤ 7 := by
    unfold line34 tail34
    simp only [Int.toNat_natCast] at h2
    split
    · simp; omega
    · split <;> simp <;> omega
  refine ⟨hl, ?_⟩
  have := join_len (line34 op xs bs) 2000001 (fun x hx => by
    unfold line34 at hx
    rcases List.mem_append.1 hx with hx | hx
    · rcases List.mem_cons.1 hx with e | hx
      · subst e; have := nm34_len op; omega
      · obtain ⟨n, hn, rfl⟩ := List.mem_map.1 hx
        have h6 := h3 n hn
        rw [itoa_small h6.1]
        have := dd_len (k := 10) (u := n.toNat) (by omega) (by omega)
        omega
    · unfold tail34 at hx
      split at hx
      · rw [List.mem_singleton] at hx; subst hx; have := hexB_len bs; omega
      · split at hx
        · rw [List.mem_singleton] at hx; subst hx; omega
        · cases hx)
  calc _ ≤ _ := this
    _ ≤ 7 * 2000002 := Nat.mul_le_mul_right _ hl
    _ ≤ _ := by decide
theorem frz_S {H : Hp} {o : Nm} {v : Nat} {l : List (List UInt8)} (h : H o = ⟨v, .arr 1 (l.map S)⟩) : Frz H (.osl o v 1 0 l.length) (.sl false (l.map S)) := by
  have := frz_osl (H := H) (o := o) (u := v) (off := 0) (len := l.length) (sz := 1) (xs := l.map S) (by simp [h]) (by simp) (by simp [List.take_of_length_le])
  simpa [List.take_of_length_le] using this
section
variable {n0 : Nat} {w0 : World} {I0 : Nat → Prop} {Q : Exit → Sta → Prop}
theorem print_l1 {nm : List UInt8} {f : Bool} {xs : List Int} {C : List A} (hl : xs.length ≤ 1000) (hs : ∀ n, n ∈ xs → 0 ≤ n ∧ n ≤ 1073741824) : ∀ (m i v : Nat) (H : Hp), i + m = xs.length → 1 ≤ i → H [0] = ⟨1, .cells C⟩ → H [1] = ⟨v, .arr 1 ((nm :: (xs.take i).map Lib.itoa).map S)⟩ →
    (∀ (H' : Hp) (v' : Nat), H' [0] = ⟨1, .cells C⟩ → H' [1] = ⟨v', .arr 1 ((nm :: xs.map Lib.itoa).map S)⟩ → Q (.exit 0) ⟨lk [(1, .pob [0] 1 0), (3, .osl [1] v' 1 0 (xs.length + 1)), (16, ivs f xs), (17, iv xs.length), (18, iv xs.length), (19, bv false)], H'⟩) →
    LoopC (cx Tryd.prog w0 I0 n0) l1_command_Print Q ⟨lk [(1, .pob [0] 1 0), (3, .osl [1] v 1 0 (i + 1)), (16, ivs f xs), (17, iv xs.length), (18, iv i)], H⟩ := by
  intro m
  induction m with
  | zero =>
    intro i v H hi h1 hH0 hH hq
    have : i = xs.length := by omega
    subst this
    refine loopC_once mixed l1_command_Print.eq_1 ?_
    simp
    rw [List.take_length] at hH
    exact hq H v hH0 hH
  | succ m ih =>
    intro i v H hi h1 hH0 hH hq
    have hlt : i < xs.length := by omega
    have ei : IntKind.i64.wrap ((i : Int) + 1) = ((i + 1 : Nat) : Int) := i64q (by omega) (by omega)
    have hx := hs xs[i] (List.getElem_mem hlt)
    have hc := itoa_spec xs[i] (by omega) (by omega)
    refine loopC_once mixed l1_command_Print.eq_1 ?_
    simp [hlt]
    refine sc_call hc rfl ?_
    simp [hH, ei]
    refine ⟨⟨by omega, by omega⟩, ?_⟩
    have e : (S nm :: (List.take i (List.take i (List.map (S ∘ Lib.itoa) xs)) ++ [S (Lib.itoa xs[i])])) = (nm :: (xs.take (i + 1)).map Lib.itoa).map S := by
      rw [List.take_take, Nat.min_self, List.map_cons, List.map_map, List.take_succ_eq_append_getElem hlt, List.map_append, List.map_take]; rfl
    rw [e]
    have := ih (i + 1) (v + 1) (updF H [1] ⟨v + 1, .arr 1 ((nm :: (xs.take (i + 1)).map Lib.itoa).map S)⟩) (by omega) (by omega) (by simp [updF, hH0]) (by simp) hq
    simpa using this
end
set_option maxHeartbeats 2000000 in
theorem cprint_spec (f g : Bool) (op : Int) (xs : List Int) (bs : List UInt8) (hx : xs.length ≤ 1000000) (hb : bs.length ≤ 1000000) : G.Spec Tryd.prog 7 [cmd f g op xs bs] (S (print34 op xs bs)) := by
  refine spec_of t_command_Print (by simp) fun w0 I0 => ?_
  unfold c_command_Print print34
  have R := right_spec f g op xs bs hx hb
  simp
  refine sc_call R rfl ?_
  cases hr : right34 op xs bs with
  | false =>
    simp
    exact frz_bare rfl
  | true =>
    obtain ⟨h0, h1, h2, h3, h4, h5⟩ := right34_iff.1 hr
    obtain ⟨k, rfl⟩ : ∃ k : Nat, op = k := ⟨op.toNat, by omega⟩
    simp only [Int.toNat_natCast] at h2 h4 h5
    obtain ⟨l1, l2⟩ := line34_len hr hb
    have hk : k < 15 := by omega
    have hn := na34_le k
    have hn1 := na34_ge hk
    have hnm : names34[k]? = some (nm34 k) := by
      have : ∀ k, k < 15 → names34[k]? = some (nm34 k) := by decide
      exact this k hk
    simp
    refine sc_call names_spec rfl ?_
    simp [hnm]
    refine ⟨by show k < 15; exact hk, ?_⟩
    cases xs with
    | nil => simp at h2; omega
    | cons a t =>
      have ha := h3 a (by simp)
      have hc := itoa_spec a (by omega) (by omega)
      refine loopC_once mixed l1_command_Print.eq_1 ?_
      simp
      refine sc_call hc rfl ?_
      simp [i64q]
      refine LoopC.le (le_list [(1, .pob [0] 1 0), (3, .osl [1] 1 1 0 (1 + 1)), (16, ivs f (a :: t)), (17, iv ((a :: t).length : Nat)), (18, iv (1 : Nat))] (by simp)) ?_
      refine print_l1 (nm := nm34 k) (f := f) (xs := a :: t) (C := [iv k, ivs f (a :: t), u8s g bs]) (by omega) h3 t.length 1 1 _ (by simp; omega) (by omega) (by simp) (by simp) (fun H' v' g0 g1 => ?_)
      generalize hxs : a :: t = xs at *
      have hJ := join_spec false (line34 k xs bs) [32] (by omega) (by omega)
      simp [g0]
      refine sc_call (loads_spec k) rfl ?_
      by_cases h6 : k = 1 ∨ k = 2
      · have e6 : (decide ((k : Int) = 1) || decide ((k : Int) = 2)) = true := by simp; omega
        have hbk : bk34 k = 1 := by rcases h6 with rfl | rfl <;> rfl
        rw [e6]
        simp [g0]
        refine sc_call (hex_spec g bs hb) rfl ?_
        simp [g1]
        refine ⟨by omega, ?_⟩
        have el : xs.length + 1 + 1 = (line34 k xs bs).length := by simp [line34, tail34, hbk]
        have eh : S (nm34 k) :: (List.take xs.length (List.map (S ∘ Lib.itoa) xs) ++ [S (hexB bs)]) = (line34 k xs bs).map S := by
          rw [List.take_of_length_le (by simp)]; simp [line34, tail34, hbk]
        rw [eh, el]
        refine sc_callb [.sl false ((line34 k xs bs).map S), S [32]] (hJ.toB rfl) ?_ (by simp) ?_
        · simp
          exact ⟨frz_S (by simp), frz_bare rfl⟩
        · simp
          exact frz_bare rfl
      · have e6 : (decide ((k : Int) = 1) || decide ((k : Int) = 2)) = false := by simp; omega
        rw [e6]
        simp [g0]
        refine sc_call (says_spec k) rfl ?_
        by_cases h7 : k = 3
        · subst h7
          simp [g0, g1]
          refine ⟨by omega, ?_⟩
          have el : xs.length + 1 + 1 = (line34 3 xs bs).length := by simp [line34, tail34, bk34]
          have eh : S (nm34 3) :: (List.take xs.length (List.map (S ∘ Lib.itoa) xs) ++ [S bs]) = (line34 3 xs bs).map S := by
            rw [List.take_of_length_le (by simp)]; simp [line34, tail34, bk34]
          rw [eh, el]
          refine sc_callb [.sl false ((line34 3 xs bs).map S), S [32]] (hJ.toB rfl) ?_ (by simp) ?_
          · simp
            exact ⟨frz_S (by simp), frz_bare rfl⟩
          · simp
            exact frz_bare rfl
        · have hbk : bk34 k = 0 := by
            have : ∀ k, k < 15 → ¬ (k = 1 ∨ k = 2) → ¬ k = 3 → bk34 k = 0 := by decide
            exact this k hk h6 h7
          simp [show ¬ (k : Int) = 3 by omega]
          have el : xs.length + 1 = (line34 k xs bs).length := by simp [line34, tail34, hbk]
          have eh : (nm34 k :: xs.map Lib.itoa) = line34 k xs bs := by simp [line34, tail34, hbk]
          rw [eh] at g1
          rw [el]
          refine sc_callb [.sl false ((line34 k xs bs).map S), S [32]] (hJ.toB rfl) ?_ (by simp) ?_
          · simp
            exact ⟨frz_S g1, frz_bare rfl⟩
          · simp
            exact frz_bare rfl
end Go.Proofs.YtkjnbdgkpofobaaDoor

/-
  The map of the commands' names.
-/
namespace Go.Proofs.YtkjnbdgkpofobaaDoor
set_option linter.unusedVariables false
set_option linter.unusedSimpArgs false
open Go Go.G Go.Proofs Go.PL
def ixs (l : List (List UInt8)) (k : Nat) : List (List UInt8 × Value) := (l.zipIdx k).map fun p => (p.1, Value.int .i64 (p.2 : Int))
theorem find_ixs : ∀ (l : List (List UInt8)) (k : Nat) (h : List UInt8), findK (ixs l k) h = (l.findIdx? (· == h)).map fun j => Value.int .i64 ((j + k : Nat) : Int)
  | [], k, h => rfl
  | x :: l, k, h => by
    have ih := find_ixs l (k + 1) h
    have e : ixs (x :: l) k = (x, Value.int .i64 (k : Int)) :: ixs l (k + 1) := by simp [ixs, List.zipIdx_cons]
    rw [e, findK, List.findIdx?_cons]
    by_cases hx : x = h
    · rw [if_pos hx, if_pos (by simp [hx])]; simp
    · rw [if_neg hx, if_neg (by simp [hx]), ih, Option.map_map]
      congr 1
      funext j
      simp only [Function.comp]
      congr 1
      omega
theorem put_new : ∀ (es : List (List UInt8 × Value)) (k : List UInt8) (v : Value), (∀ e, e ∈ es → e.1 ≠ k) → putK es k v = es ++ [(k, v)]
  | [], k, v, _ => rfl
  | e :: es, k, v, h => by
    rw [putK, if_neg (h e (by simp)), put_new es k v (fun x hx => h x (List.mem_cons_of_mem _ hx))]; rfl
theorem ixs_step {i : Nat} (h : i < names34.length) : putK (ixs (names34.take i) 0) names34[i] (Value.int .i64 (i : Int)) = ixs (names34.take (i + 1)) 0 := by
  have hd : ∀ i, i < names34.length → ∀ x, x ∈ names34.take i → x ≠ names34.getD i [] := by decide
  rw [put_new]
  · rw [List.take_succ_eq_append_getElem h]
    unfold ixs
    rw [List.zipIdx_append, List.map_append]
    simp
    omega
  · intro e he
    unfold ixs at he
    obtain ⟨p, hp, rfl⟩ := List.mem_map.1 he
    have h1 : p.1 ∈ names34.take i := by
      obtain ⟨h5, h6⟩ := List.mem_zipIdx' hp
      rw [h6]; exact List.getElem_mem _
    have := hd i h p.1 h1
    rwa [List.getD_eq_getElem?_getD, List.getElem?_eq_getElem h] at this
section
variable {n0 : Nat} {w0 : World} {I0 : Nat → Prop} {Q : Exit → Sta → Prop}
theorem parse_m1 {ps : List (List UInt8)} {C : List A} : ∀ (m i u : Nat) (H : Hp), i + m = 15 → H [0] = ⟨1, .cells C⟩ → H [1] = ⟨u, .mp (kvs (ixs (names34.take i) 0))⟩ →
    (∀ (H' : Hp) (u' : Nat), H' [0] = ⟨1, .cells C⟩ → H' [1] = ⟨u', .mp (kvs (ixs names34 0))⟩ → Q (.exit 0) ⟨lk [(2, .pob [0] 1 0), (4, .sl true (ps.map S)), (5, .mo [1] u'), (21, .sl true (names34.map S)), (22, iv 15), (23, iv 15), (24, bv false)], H'⟩) →
    LoopC (cx Tryd.prog w0 I0 n0) l1_command_Parse Q ⟨lk [(2, .pob [0] 1 0), (4, .sl true (ps.map S)), (5, .mo [1] u), (21, .sl true (names34.map S)), (22, iv 15), (23, iv i)], H⟩ := by
  intro m
  induction m with
  | zero =>
    intro i u H hi h0 h1 hq
    have : i = 15 := by omega
    subst this
    refine loopC_once mixed l1_command_Parse.eq_1 ?_
    simp
    exact hq H u h0 h1
  | succ m ih =>
    intro i u H hi h0 h1 hq
    have hlt : i < names34.length := by show i < 15; omega
    have ei : IntKind.i64.wrap ((i : Int) + 1) = ((i + 1 : Nat) : Int) := i64q (by omega) (by omega)
    refine loopC_once mixed l1_command_Parse.eq_1 ?_
    simp [hlt, h1, show i < 15 by omega, ixs_step, show (i : Int) < 15 by omega, show ¬ 15 ≤ (i : Int) by omega]
    rw [ei]
    exact ih (i + 1) u _ (by omega) (by simp [updF, h0]) (by simp) hq
/-- the numbers' loop -/
theorem parse_n1 {f : Bool} {ps : List (List UInt8)} {op : Nat} {x4 x11 : A} (hps : ∀ x, x ∈ ps → x.length ≤ 1000000) (hl : ps.length ≤ 1000) : ∀ (m i v u : Nat) (acc : List Int) (H : Hp), i + m = ps.length → acc.length ≤ i → H [0] = ⟨1, .cells [iv 0, .sl true [], .sl true []]⟩ → H [2] = ⟨u, .cells [iv op, .osl [3] v 1 0 acc.length, .sl true []]⟩ → H [3] = ⟨v, .arr 1 (acc.map iv)⟩ →
    (nums34 (ps.drop i) = none → ∀ H' : Hp, H' [0] = ⟨1, .cells [iv 0, .sl true [], .sl true []]⟩ → Q .ret ⟨lk [(2, .pob [0] 1 0), (3, iv 16)], H'⟩) →
    (∀ r, nums34 (ps.drop i) = some r → ∀ (H' : Hp) (v' u' : Nat), H' [0] = ⟨1, .cells [iv 0, .sl true [], .sl true []]⟩ → H' [2] = ⟨u', .cells [iv op, .osl [3] v' 1 0 (acc ++ r).length, .sl true []]⟩ → H' [3] = ⟨v', .arr 1 ((acc ++ r).map iv)⟩ → Q (.exit 2) ⟨lk [(2, .pob [0] 1 0), (4, x4), (10, .pob [2] u' 0), (11, x11), (79, .sl f (ps.map S)), (80, iv ps.length), (81, iv ps.length), (82, bv false)], H'⟩) →
    LoopC (cx Tryd.prog w0 I0 n0) l2_command_Parse Q ⟨lk [(2, .pob [0] 1 0), (4, x4), (10, .pob [2] u 0), (11, x11), (79, .sl f (ps.map S)), (80, iv ps.length), (81, iv i)], H⟩ := by
  intro m
  induction m with
  | zero =>
    intro i v u acc H hi ha h0 h2 h3 q0 q1
    have : i = ps.length := by omega
    subst this
    refine loopC_once mixed l2_command_Parse.eq_1 ?_
    simp
    have := q1 [] (by simp [nums34]) H v u h0 (by simpa using h2) (by simpa using h3)
    simpa using this
  | succ m ih =>
    intro i v u acc H hi ha h0 h2 h3 q0 q1
    have hlt : i < ps.length := by omega
    have ei : IntKind.i64.wrap ((i : Int) + 1) = ((i + 1 : Nat) : Int) := i64q (by omega) (by omega)
    have hc := number_spec ps[i] (hps _ (List.getElem_mem hlt))
    rw [List.drop_eq_getElem_cons hlt, nums34] at q0 q1
    generalize hx : ps[i] = x at *
    refine loopC_once mixed l2_command_Parse.eq_1 ?_
    simp [hlt, hx]
    refine sc_call hc rfl ?_
    unfold numA
    cases e : num34 x with
    | none =>
      simp [h0, h2]
      exact q0 (by rw [e]) _ (by simp)
    | some n =>
      rw [e] at q0 q1
      have hv : ∀ X, (updF H [3] X) [2] = ⟨u, .cells [iv op, .osl [3] v 1 0 acc.length, .sl true []]⟩ := fun X => by simp [updF, h2]
      simp [h0, h2, h3, hv]
      refine ⟨by omega, ?_⟩
      rw [ei, List.take_of_length_le (by simp)]
      have := ih (i + 1) (v + 1) u (acc ++ [(n : Int)]) (updF (updF H [3] ⟨v + 1, .arr 1 ((acc ++ [(n : Int)]).map iv)⟩) [2] ⟨u, .cells [iv op, .osl [3] (v + 1) 1 0 (acc ++ [(n : Int)]).length, .sl true []]⟩) (by omega) (by simp; omega) (by simp [updF, h0]) (by simp) (by simp [updF]) (fun h => q0 (by simp [h])) (fun r h H' v' u' g0 g2 g3 => by
        have := q1 (n :: r) (by simp [h]) H' v' u' g0 (by simpa using g2) (by simpa using g3)
        simpa using this)
      simpa using this
end
end Go.Proofs.YtkjnbdgkpofobaaDoor

/-
  A line is read, by the program.
-/
namespace Go.Proofs.YtkjnbdgkpofobaaDoor
set_option linter.unusedVariables false
set_option linter.unusedSimpArgs false
open Go Go.G Go.Proofs Go.PL
theorem join_mem : ∀ (l : List (List UInt8)) (x : List UInt8), x ∈ l → x.length ≤ (Lib.join l [32]).length
  | [], x, h => by cases h
  | [y], x, h => by rw [join_one', List.mem_singleton.1 h]; exact Nat.le_refl _
  | y :: z :: l, x, h => by
    rw [join_cons2, List.length_append, List.length_append]
    rcases List.mem_cons.1 h with e | h
    · subst e; omega
    · have := join_mem (z :: l) x h; omega
theorem split_mem {s x : List UInt8} (h : x ∈ split32 s) : x.length ≤ s.length := by
  have := join_mem _ x h
  rwa [join_split] at this
theorem join_cnt : ∀ (l : List (List UInt8)), l.length ≤ (Lib.join l [32]).length + 1
  | [] => by simp
  | [y] => by simp
  | y :: z :: l => by
    have := join_cnt (z :: l)
    rw [join_cons2, List.length_append, List.length_append]
    simp at this ⊢; omega
theorem split_cnt (s : List UInt8) : (split32 s).length ≤ s.length + 1 := by
  have := join_cnt (split32 s)
  rwa [join_split] at this
theorem frz_none {H : Hp} : Frz H (A.tup [A.agg [A.v (Value.int IntKind.i64 0), A.sl true [], A.sl true []], A.v (Value.int IntKind.i64 16)]) (A.tup [cmd false false 0 [] [], iv 16]) :=
  frz_tup ⟨frz_agg ⟨frz_bare rfl, frz_sl, frz_sl, trivial⟩, frz_bare rfl, trivial⟩
theorem lens_S (xs : List (List UInt8)) : lens 1 (xs.map S) = true := by
  unfold lens
  rw [List.all_eq_true]
  intro x hx
  obtain ⟨l, _, rfl⟩ := List.mem_map.1 hx
  rfl
/-- what Parse answers -/
def resA : Option (Nat × List Int × List UInt8) → A
  | some (op, xs, bs) => .tup [cmd false false op xs bs, iv 0]
  | none => .tup [cmd false false 0 [] [], iv 16]
theorem resA_none : resA none = .tup [cmd false false 0 [] [], iv 16] := rfl
theorem resA_some {op : Nat} {xs : List Int} {bs : List UInt8} : resA (some (op, xs, bs)) = .tup [cmd false false op xs bs, iv 0] := rfl
def rest34 (op : Nat) (tl : List (List UInt8)) : Option (Nat × List Int × List UInt8) := match args34 op tl, bytes34 op (tl.drop (na34 op)) with
  | some xs, some bs => some (op, xs, bs)
  | _, _ => none
theorem parse34_eq (s : List UInt8) : parse34 s = match ix34 ((split32 s).headD []) with
    | none => none
    | some op => if (split32 s).tail.length ≠ len34 op then none else rest34 op (split32 s).tail := rfl
theorem frz_ivs {H : Hp} {o : Nm} {v : Nat} {l : List Int} (h : H o = ⟨v, .arr 1 (l.map iv)⟩) : Frz H (.osl o v 1 0 l.length) (ivs false l) := by
  have := frz_osl (H := H) (o := o) (u := v) (off := 0) (len := l.length) (sz := 1) (xs := l.map iv) (by simp [h]) (by simp) (by simp [List.take_of_length_le])
  simpa [List.take_of_length_le] using this
theorem hexB_ge (bs : List UInt8) : bs.length ≤ (hexB bs).length := by
  unfold hexB
  split
  · rename_i h; subst h; simp
  · rw [hex2_len]; omega
theorem parse_end {n0 : Nat} {w0 : World} {I0 : Nat → Prop} {op : Nat} {r : List Int} {bs : List UInt8} {q f : Bool} {u v : Nat} {H : Hp} (hr : r.length ≤ 1000000) (hb : bs.length ≤ 1000000) (h0 : H [0] = ⟨1, .cells [iv 0, .sl true [], .sl true []]⟩) (h2 : H [2] = ⟨u, .cells [iv op, .osl [3] v 1 0 r.length, u8s f bs]⟩) (h3 : H [3] = ⟨v, .arr 1 (r.map iv)⟩) :
    WPC (cx Tryd.prog w0 I0 n0) k1_command_Parse (RetC Tryd.prog [.cell 2 28, .tmp 3] (resA (if q = true ∧ right34 op r bs = true then some (op, r, bs) else none))) ⟨lk [(2, .pob [0] 1 0), (10, .pob [2] u 0), (17, bv q)], H⟩ := by
  rw [k1_command_Parse.eq_1]
  cases q with
  | false =>
    simp [h0, h2]
    refine sc_callb_gf (x := bv false) (q := true) [cmd false f op r bs] rfl (fun h => by cases h) (fun h => by cases h) (by simp) ?_
    simp [h0, h2]
    exact frz_none
  | true =>
    simp [h0, h2]
    refine sc_callb_gf (q := false) [cmd false f op r bs] rfl (fun _ => (right_spec false f op r bs hr hb).toB rfl) (fun _ => ?_) (by simp) ?_
    · simp
      exact frz_agg ⟨frz_bare rfl, frz_ivs h3, frz_bare rfl, trivial⟩
    · cases hR : right34 op r bs with
      | false =>
        simp [h0, h2]
        exact frz_none
      | true =>
        simp [h0, h2]
        exact frz_tup ⟨frz_agg ⟨frz_bare rfl, frz_ivs (by simp [updF, h3]), frz_sl, trivial⟩, frz_bare rfl, trivial⟩
theorem parse_k {n0 : Nat} {w0 : World} {I0 : Nat → Prop} {op : Nat} (ho : op < 15) {tl : List (List UInt8)} (hm : ∀ x, x ∈ tl → x.length ≤ 1000000) (hl : tl.length = len34 op) {u : Nat} {H : Hp} (h0 : H [0] = ⟨1, .cells [iv 0, .sl true [], .sl true []]⟩) (h2 : H [2] = ⟨u, .cells [iv op, .sl true [], .sl true []]⟩) :
    WPC (cx Tryd.prog w0 I0 n0) k2_command_Parse (RetC Tryd.prog [.cell 2 28, .tmp 3] (resA (rest34 op tl))) ⟨lk [(2, .pob [0] 1 0), (4, .sl true (tl.map S)), (10, .pob [2] u 0), (11, iv (na34 op))], H⟩ := by
  have hn : na34 op ≤ tl.length := by rw [hl]; unfold len34; split <;> omega
  have hn5 := na34_le op
  rw [k2_command_Parse.eq_1]
  simp [show (na34 op : Int) ≤ tl.length by omega, lens_S]
  refine LoopC.le (le_blankC (d := [2]) 1 [3] 1 h2 rfl (by simp)) ?_
  refine LoopC.le (le_list [(2, .pob [0] 1 0), (4, .sl true (tl.map S)), (10, .pob [2] u 0), (11, iv (na34 op)), (79, .sl (na34 op == tl.length) ((tl.take (na34 op)).map S)), (80, iv ((tl.take (na34 op)).length : Nat)), (81, iv (0 : Nat))] (by simp)) ?_
  refine parse_n1 (op := op) (fun x hx => hm x (List.mem_of_mem_take hx)) (by simp; omega) (tl.take (na34 op)).length 0 ((H [3]).u + 1) u [] _ (by omega) (by simp) (by simp [updF, h0]) (by simp [updF]) (by simp [updF]) (fun h H' g0 => ?_) (fun r h H' v' u' g0 g2 g3 => ?_)
  · rw [List.drop_zero] at h
    have hR : rest34 op tl = none := by unfold rest34 args34; rw [h]
    rw [hR]
    simp [g0]
    exact frz_none
  · rw [List.drop_zero] at h
    rw [List.nil_append] at g2 g3
    obtain ⟨a1, a2⟩ := itoa_nums _ _ h
    have hrl : r.length = na34 op := by
      have := congrArg List.length a1
      rw [List.length_map, List.length_take] at this; omega
    have hall : r.all smallI = true := List.all_eq_true.2 fun n hn => by have := a2 n hn; simp [smallI, this]
    have hright : ∀ bs, right34 op r bs = (if op = 3 then decide (bs ≠ []) && bs.all prn else (decide (op = 1) || decide (op = 2)) || decide (bs = [])) := fun bs => by
      rw [right34_eq ho, hall]; simp [hrl]
    simp [g0, g2]
    refine sc_call (loads_spec op) rfl ?_
    by_cases h6 : op = 1 ∨ op = 2
    · have e6 : (decide ((op : Int) = 1) || decide ((op : Int) = 2)) = true := by simp; omega
      have hk : len34 op = na34 op + 1 := by rcases h6 with rfl | rfl <;> rfl
      have hbk : bk34 op = 1 := by rcases h6 with rfl | rfl <;> rfl
      have hlt : na34 op < tl.length := by omega
      have hx : (tl.drop (na34 op)).headD [] = tl[na34 op] := by rw [List.drop_eq_getElem_cons hlt]; rfl
      have hu := unhex_spec tl[na34 op] (hm _ (List.getElem_mem hlt))
      rw [e6]
      simp [hlt]
      refine sc_call hu rfl ?_
      unfold unA34
      have hR : rest34 op tl = match unhexB tl[na34 op] with | some bs => some (op, r, bs) | none => none := by
        unfold rest34 args34 bytes34
        rw [h, if_pos hbk, hx]
        cases unhexB tl[na34 op] <;> rfl
      rw [hR]
      cases ex : unhexB tl[na34 op] with
      | none =>
        simp [g0, g2]
        have := parse_end (w0 := w0) (I0 := I0) (n0 := n0) (op := op) (r := r) (bs := []) (q := false) (f := false) (u := u') (v := v') (H := updF H' [2] ⟨u', .cells [iv op, .osl [3] v' 1 0 r.length, u8s false []]⟩) (by omega) (by simp) (by simp [updF, g0]) (by simp) (by simp [updF, g3])
        rw [if_neg (by simp)] at this
        exact this
      | some bs =>
        simp [g0, g2]
        have hb := hexB_ge bs
        rw [hexB_unhexB ex] at hb
        have hb2 := hm _ (List.getElem_mem hlt)
        have hR1 : right34 op r bs = true := by rw [hright]; rcases h6 with rfl | rfl <;> simp
        have := parse_end (w0 := w0) (I0 := I0) (n0 := n0) (op := op) (r := r) (bs := bs) (q := true) (f := false) (u := u') (v := v') (H := updF H' [2] ⟨u', .cells [iv op, .osl [3] v' 1 0 r.length, u8s false bs]⟩) (by omega) (by omega) (by simp [updF, g0]) (by simp) (by simp [updF, g3])
        rw [if_pos ⟨rfl, hR1⟩] at this
        simpa using this
    · have e6 : (decide ((op : Int) = 1) || decide ((op : Int) = 2)) = false := by simp; omega
      rw [e6]
      simp [g0, g2]
      refine sc_call (says_spec op) rfl ?_
      by_cases h7 : op = 3
      · have hk : len34 op = na34 op + 1 := by subst h7; rfl
        have hbk : bk34 op = 2 := by subst h7; rfl
        have e8 : decide ((op : Int) = 3) = true := by simp; omega
        have hlt : na34 op < tl.length := by omega
        have hx : (tl.drop (na34 op)).headD [] = tl[na34 op] := by rw [List.drop_eq_getElem_cons hlt]; rfl
        have hR : rest34 op tl = if true = true ∧ right34 op r tl[na34 op] = true then some (op, r, tl[na34 op]) else none := by
          rw [hright, if_pos h7]
          unfold rest34 args34 bytes34
          rw [h, if_neg (by omega), if_pos hbk, hx]
          by_cases hc : tl[na34 op] ≠ [] ∧ tl[na34 op].all prn = true
          · rw [if_pos hc, if_pos ⟨rfl, by simp only [Bool.and_eq_true, decide_eq_true_eq]; exact hc⟩]
          · rw [if_neg hc, if_neg (fun hh => hc (by have := hh.2; simp only [Bool.and_eq_true, decide_eq_true_eq] at this; exact this))]
        rw [e8, hR]
        simp [hlt, g0, g2]
        have := parse_end (w0 := w0) (I0 := I0) (n0 := n0) (op := op) (r := r) (bs := tl[na34 op]) (q := true) (f := false) (u := u') (v := v') (H := updF H' [2] ⟨u', .cells [iv op, .osl [3] v' 1 0 r.length, u8s false tl[na34 op]]⟩) (by omega) (hm _ (List.getElem_mem hlt)) (by simp [updF, g0]) (by simp) (by simp [updF, g3])
        simpa using this
      · have hk : len34 op = na34 op := by
          have : ∀ k, k < 15 → ¬ (k = 1 ∨ k = 2) → ¬ k = 3 → len34 k = na34 k := by decide
          exact this op ho h6 h7
        have hbk : bk34 op = 0 := by
          have : ∀ k, k < 15 → ¬ (k = 1 ∨ k = 2) → ¬ k = 3 → bk34 k = 0 := by decide
          exact this op ho h6 h7
        have e8 : decide ((op : Int) = 3) = false := by simp; omega
        have hR1 : right34 op r [] = true := by rw [hright, if_neg h7]; simp
        have hR : rest34 op tl = some (op, r, []) := by
          unfold rest34 args34 bytes34
          rw [h, if_neg (by omega), if_neg (by omega)]
        rw [e8, hR]
        simp
        have := parse_end (w0 := w0) (I0 := I0) (n0 := n0) (op := op) (r := r) (bs := []) (q := true) (f := true) (u := u') (v := v') (H := H') (by omega) (by simp) g0 g2 g3
        rw [if_pos ⟨rfl, hR1⟩] at this
        simpa using this
set_option maxHeartbeats 4000000 in
theorem cparse_spec (s : List UInt8) (hl : s.length ≤ 1000000) : G.Spec Tryd.prog 12 [S s] (resA (parse34 s)) := by
  refine spec_of t_command_Parse (by simp) fun w0 I0 => ?_
  unfold c_command_Parse
  simp
  refine sc_call (split_spec s (by omega)) rfl ?_
  simp
  refine sc_call names_spec rfl ?_
  simp
  refine LoopC.le (le_list [(2, .pob [0] 1 0), (4, .sl true ((split32 s).map S)), (5, .mo [1] 1), (21, .sl true (names34.map S)), (22, iv 15), (23, iv (0 : Nat))] (by simp [names34])) ?_
  refine parse_m1 (C := [iv 0, .sl true [], .sl true []]) 15 0 1 _ (by omega) (by simp) (by simp [ixs, kvs]) (fun H' u' g0 g1 => ?_)
  have hp := split_cnt s
  have hm : ∀ x, x ∈ split32 s → x.length ≤ 1000000 := fun x hx => Nat.le_trans (split_mem hx) hl
  rw [split32_cons s] at hp hm
  rw [parse34_eq]
  rw [split32_cons s]
  generalize (split32 s).headD [] = h at *
  generalize (split32 s).tail = tl at *
  have hf : findK (ixs names34 0) h = (ix34 h).map fun j => Value.int .i64 ((j + 0 : Nat) : Int) := find_ixs names34 0 h
  simp only [List.headD_cons, List.tail_cons]
  cases e : ix34 h with
  | none =>
    rw [e] at hf
    simp [g0, g1, hf]
    exact frz_none
  | some op =>
    obtain ⟨o1, o2⟩ := nm34_ix e
    rw [e] at hf
    simp [g0, g1, hf]
    refine sc_call (numbers_spec op o1) rfl ?_
    simp [show (1 : Int) ≤ (tl.length : Int) + 1 by omega, lens_S]
    refine sc_call (loads_spec op) rfl ?_
    have hm' : ∀ x, x ∈ tl → x.length ≤ 1000000 := fun x hx => hm x (List.mem_cons_of_mem _ hx)
    have hn5 := na34_le op
    have e7 : IntKind.i64.wrap ((na34 op : Int) + 1) = ((na34 op + 1 : Nat) : Int) := i64q (by omega) (by omega)
    have fin : tl.length = len34 op → ∀ (st : Nat → A), st 2 = .pob [0] 1 0 → st 4 = .sl true (tl.map S) → st 10 = .pob [2] ((H' [2]).u + 1) 0 → st 11 = iv (na34 op) →
        StopK (cx Tryd.prog w0 I0 132) (WPC (cx Tryd.prog w0 I0 132) k2_command_Parse (RetC Tryd.prog [.cell 2 28, .tmp 3] (resA (rest34 op tl)))) ⟨st, updF H' [2] ⟨(H' [2]).u + 1, .cells [iv op, .sl true [], .sl true []]⟩⟩ := fun hl0 st q2 q4 q10 q11 => by
      refine stop_le (le_list [(2, .pob [0] 1 0), (4, .sl true (tl.map S)), (10, .pob [2] ((H' [2]).u + 1) 0), (11, iv (na34 op))] (by simp [q2, q4, q10, q11])) (stop_go ?_)
      exact parse_k o1 hm' hl0 (by simp [updF, g0]) (by simp)
    have hT : List.take tl.length (tl.map S) = tl.map S := List.take_of_length_le (by simp)
    have hv : ∀ X, (updF H' [2] X) [0] = ⟨1, .cells [iv 0, .sl true [], .sl true []]⟩ := fun X => by simp [updF, g0]
    by_cases h6 : op = 1 ∨ op = 2
    · have e6 : (decide ((op : Int) = 1) || decide ((op : Int) = 2)) = true := by simp; omega
      have hk : len34 op = na34 op + 1 := by rcases h6 with rfl | rfl <;> rfl
      rw [e6]
      simp
      refine sc_call_gf (L := []) (x := bv false) (q := true) rfl (fun h => by cases h) (fun h => by cases h) rfl ?_
      by_cases hl0 : tl.length = len34 op
      · have p1 : (tl.length = len34 op) = True := eq_true hl0
        have p2 : ((tl.length : Int) = (na34 op : Int) + 1) = True := eq_true (by omega)
        simp [p1, p2, hT, e7]
        exact fin hl0 _ (by simp) (by simp) (by simp) (by simp)
      · have p1 : (tl.length = len34 op) = False := eq_false hl0
        have p2 : ((tl.length : Int) = (na34 op : Int) + 1) = False := eq_false (by omega)
        simp [p1, p2, hT, e7, hv]
        exact frz_none
    · have e6 : (decide ((op : Int) = 1) || decide ((op : Int) = 2)) = false := by simp; omega
      rw [e6]
      simp
      refine sc_call_gf (q := false) rfl (fun _ => says_spec op) (fun _ => rfl) rfl ?_
      by_cases h7 : op = 3
      · have hk : len34 op = na34 op + 1 := by subst h7; rfl
        have e8 : decide ((op : Int) = 3) = true := by simp; omega
        rw [e8]
        by_cases hl0 : tl.length = len34 op
        · have p1 : (tl.length = len34 op) = True := eq_true hl0
          have p2 : ((tl.length : Int) = (na34 op : Int) + 1) = True := eq_true (by omega)
          simp [p1, p2, hT, e7]
          exact fin hl0 _ (by simp) (by simp) (by simp) (by simp)
        · have p1 : (tl.length = len34 op) = False := eq_false hl0
          have p2 : ((tl.length : Int) = (na34 op : Int) + 1) = False := eq_false (by omega)
          simp [p1, p2, hT, e7, hv]
          exact frz_none
      · have hk : len34 op = na34 op := by
          have : ∀ k, k < 15 → ¬ (k = 1 ∨ k = 2) → ¬ k = 3 → len34 k = na34 k := by decide
          exact this op o1 h6 h7
        have e8 : decide ((op : Int) = 3) = false := by simp; omega
        rw [e8]
        by_cases hl0 : tl.length = len34 op
        · have p1 : (tl.length = len34 op) = True := eq_true hl0
          have p2 : ((tl.length : Int) = (na34 op : Int)) = True := eq_true (by omega)
          have p3 : (tl.length = na34 op) = True := eq_true (by omega)
          simp [p1, p2, p3, hT, e7]
          exact fin hl0 _ (by simp) (by simp) (by simp) (by simp)
        · have p1 : (tl.length = len34 op) = False := eq_false hl0
          have p2 : ((tl.length : Int) = (na34 op : Int)) = False := eq_false (by omega)
          have p3 : (tl.length = na34 op) = False := eq_false (by omega)
          simp [p1, p2, p3, hT, e7, hv]
          exact frz_none
end Go.Proofs.YtkjnbdgkpofobaaDoor

/-
  The document's commands: names, numbers, digits.
-/
namespace Go.Proofs.YtkjnbdgkpofobaaDoor
set_option linter.unusedVariables false
set_option linter.unusedSimpArgs false
open Go Go.G Go.Proofs Go.PL
def nameA (op : Int) : A := if 0 ≤ op ∧ op < 15 then .tup [S (nm34 op.toNat), iv (na34 op.toNat), iv (bk34 op.toNat)] else .tup [S [], iv 0, iv 0]
set_option maxHeartbeats 4000000 in
theorem rname_spec (op : Int) : G.Spec Tryd.prog 26 [iv op] (nameA op) := by
  refine spec_of t_centoref34_Name (by simp) fun w0 I0 => ?_
  unfold c_centoref34_Name
  by_cases h : 0 ≤ op ∧ op < 15
  · have : op = 0 ∨ op = 1 ∨ op = 2 ∨ op = 3 ∨ op = 4 ∨ op = 5 ∨ op = 6 ∨ op = 7 ∨ op = 8 ∨ op = 9 ∨ op = 10 ∨ op = 11 ∨ op = 12 ∨ op = 13 ∨ op = 14 := by omega
    rcases this with rfl | rfl | rfl | rfl | rfl | rfl | rfl | rfl | rfl | rfl | rfl | rfl | rfl | rfl | rfl <;> simp <;> exact frz_bare rfl
  · unfold nameA
    rw [if_neg h]
    simp [show ¬ op = 0 by omega, show ¬ op = 1 by omega, show ¬ op = 2 by omega, show ¬ op = 3 by omega, show ¬ op = 4 by omega, show ¬ op = 5 by omega, show ¬ op = 6 by omega, show ¬ op = 7 by omega, show ¬ op = 8 by omega, show ¬ op = 9 by omega, show ¬ op = 10 by omega, show ¬ op = 11 by omega, show ¬ op = 12 by omega, show ¬ op = 13 by omega, show ¬ op = 14 by omega]
    exact frz_bare rfl
theorem dig10 (m : Nat) (h : m < 10) : (([48, 49, 50, 51, 52, 53, 54, 55, 56, 57] : List UInt8).drop m).take 1 = [UInt8.ofNat (48 + m)] := by
  have : ∀ m : Nat, m < 10 → (([48, 49, 50, 51, 52, 53, 54, 55, 56, 57] : List UInt8).drop m).take 1 = [UInt8.ofNat (48 + m)] := by decide
  exact this m h
theorem str_add34 {l m : List UInt8} (h : l.length + m.length ≤ 9223372036854775807) : strA .add ⟨l.toArray⟩ ⟨m.toArray⟩ = some (S (l ++ m)) := by
  unfold strA
  simp [h]
theorem rdec_spec : ∀ n : Nat, n ≤ 1073741824 → G.Spec Tryd.prog 27 [iv n] (S (Lib.decDigits n)) := by
  intro n
  induction n using Nat.strongRecOn with
  | _ n ih =>
    intro hn
    refine spec_of t_centoref34_decimal (by simp) fun w0 I0 => ?_
    unfold c_centoref34_decimal
    by_cases h : n < 10
    · have e1 : IntKind.i64.wrap ((n : Int) + 1) = ((n + 1 : Nat) : Int) := i64q (by omega) (by omega)
      have hd := dig10 n h
      rw [dd_lt h]
      simp [show (n : Int) < 10 by omega, e1, show (0 : Int) ≤ (n : Int) + 1 by omega, show ((n : Int) + 1).toNat = n + 1 by omega, show (n : Int) + 1 ≤ 10 by omega, show (n : Int) ≤ (n : Int) + 1 by omega, hd]
      exact frz_bare rfl
    · obtain ⟨q, hq⟩ : ∃ q, q = n / 10 := ⟨_, rfl⟩
      obtain ⟨m, hm⟩ : ∃ m, m = n % 10 := ⟨_, rfl⟩
      have e2 : IntKind.i64.wrap ((n : Int).tdiv 10) = (q : Int) := by
        rw [Int.tdiv_eq_ediv_of_nonneg (by omega), i64q (by omega) (by omega)]; omega
      have e3 : (n : Int).tmod 10 = (m : Int) := by rw [Int.tmod_eq_emod_of_nonneg (by omega)]; omega
      have e4 : IntKind.i64.wrap ((n : Int) / 10) = (q : Int) := by rw [i64q (by omega) (by omega)]; omega
      have e5 : (n : Int) % 10 = (m : Int) := by omega
      have c1 := ih q (by omega) (by omega)
      have c2 := ih m (by omega) (by omega)
      have l1 := dd_len (k := 10) (u := q) (by omega) (by omega)
      have l2 := dd_len (k := 10) (u := m) (by omega) (by omega)
      rw [dd_ge h, ← hq, ← dd_lt (u := n % 10) (by omega), ← hm]
      simp [show ¬ (n : Int) < 10 by omega, e2, e3, e4, e5]
      refine sc_call c1 rfl ?_
      simp [e3, e5]
      refine sc_call c2 rfl ?_
      simp [str_add34 (l := Lib.decDigits q) (m := Lib.decDigits m) (by omega)]
      exact frz_bare rfl
theorem hexD_sub (m : Nat) (h : m < 16) : (([48, 49, 50, 51, 52, 53, 54, 55, 56, 57, 97, 98, 99, 100, 101, 102] : List UInt8).drop m).take 1 = [hexD m] := by
  have : ∀ m : Nat, m < 16 → (([48, 49, 50, 51, 52, 53, 54, 55, 56, 57, 97, 98, 99, 100, 101, 102] : List UInt8).drop m).take 1 = [hexD m] := by decide
  exact this m h
section
variable {n0 : Nat} {w0 : World} {I0 : Nat → Prop} {Q : Exit → Sta → Prop}
theorem rhex_l1 {f : Bool} {bs : List UInt8} (hl : bs.length ≤ 1000000) {H : Hp} (hq : Q (.exit 0) ⟨lk [(0, u8s f bs), (3, S (bs.flatMap hex2)), (4, iv bs.length), (12, bv false)], H⟩) : ∀ (m i : Nat), i + m = bs.length →
    LoopC (cx Tryd.prog w0 I0 n0) l1_centoref34_Hex Q ⟨lk [(0, u8s f bs), (3, S ((bs.take i).flatMap hex2)), (4, iv i)], H⟩ := by
  intro m
  induction m with
  | zero =>
    intro i hi
    have : i = bs.length := by omega
    subst this
    refine loopC_once mixed l1_centoref34_Hex.eq_1 ?_
    simp
    exact hq
  | succ m ih =>
    intro i hi
    have hlt : i < bs.length := by omega
    have ei : IntKind.i64.wrap ((i : Int) + 1) = ((i + 1 : Nat) : Int) := i64q (by omega) (by omega)
    have hgo := ih (i + 1) (by omega)
    have et : (bs.take (i + 1)).flatMap hex2 = (bs.take i).flatMap hex2 ++ [hexD (bs[i].toNat / 16)] ++ [hexD (bs[i].toNat % 16)] := by
      rw [List.take_succ_eq_append_getElem hlt, List.flatMap_append]; simp [hex2]
    have hlen : ((bs.take i).flatMap hex2).length ≤ 2000000 := by rw [hex2_len]; simp; omega
    have hc := bs[i].toNat_lt
    rw [et] at hgo
    generalize hx : bs[i] = x at *
    generalize (bs.take i).flatMap hex2 = L at *
    obtain ⟨a, ha⟩ : ∃ a, a = x.toNat / 16 := ⟨_, rfl⟩
    obtain ⟨b, hb⟩ : ∃ b, b = x.toNat % 16 := ⟨_, rfl⟩
    have f0 : IntKind.i64.wrap (x.toNat : Int) = x.toNat := i64q (by omega) (by omega)
    have f1 : IntKind.i64.wrap ((x.toNat : Int) / 16) = (a : Int) := by rw [i64q (by omega) (by omega)]; omega
    have f2 : (x.toNat : Int) % 16 = (b : Int) := by omega
    have f5 : (x.toNat : Int).tmod 16 = (b : Int) := by rw [Int.tmod_eq_emod_of_nonneg (by omega)]; omega
    have f3 : IntKind.i64.wrap ((a : Int) + 1) = ((a + 1 : Nat) : Int) := i64q (by omega) (by omega)
    have f4 : IntKind.i64.wrap ((b : Int) + 1) = ((b + 1 : Nat) : Int) := i64q (by omega) (by omega)
    have d1 := hexD_sub a (by omega)
    have d2 := hexD_sub b (by omega)
    rw [← ha, ← hb] at hgo
    refine loopC_once mixed l1_centoref34_Hex.eq_1 ?_
    simp [hlt, hx, f0, f1, f2, f5, f3, f4, ei, show (0 : Int) ≤ (a : Int) + 1 by omega, show ((a : Int) + 1).toNat = a + 1 by omega, show (a : Int) + 1 ≤ 16 by omega, show (a : Int) ≤ (a : Int) + 1 by omega, show (b : Int) ≤ (b : Int) + 1 by omega, show (0 : Int) ≤ (b : Int) + 1 by omega, show ((b : Int) + 1).toNat = b + 1 by omega, show (b : Int) + 1 ≤ 16 by omega, d1, d2, str_add34 (l := L) (m := [hexD a]) (by simp; omega), str_add34 (l := L ++ [hexD a]) (m := [hexD b]) (by simp; omega)]
    simpa using hgo
end
theorem rhexB_spec (f : Bool) (bs : List UInt8) (hl : bs.length ≤ 1000000) : G.Spec Tryd.prog 18 [u8s f bs] (S (hexB bs)) := by
  refine spec_of t_centoref34_Hex (by simp) fun w0 I0 => ?_
  unfold c_centoref34_Hex hexB
  by_cases h0 : bs = []
  · subst h0
    simp
    exact frz_bare rfl
  · have hp : 0 < bs.length := List.length_pos_iff.2 h0
    simp [h0, show ¬ (bs.length : Int) = 0 by omega]
    refine rhex_l1 hl ?_ bs.length 0 (by omega)
    simp
    exact frz_bare rfl
/-- a hexadecimal digit's value, or -1 -/
def digI (c : UInt8) : Int := match hexV c with | some d => (d : Int) | none => -1
theorem dig_get {i : Nat} (h : i < 16) : hexDs[i]? = some (hexD i) := by
  have : ∀ i, i < 16 → hexDs[i]? = some (hexD i) := by decide
  exact this i h
section
variable {n0 : Nat} {w0 : World} {I0 : Nat → Prop} {Q : Exit → Sta → Prop}
theorem rdig_l1 {c : UInt8} {H : Hp} (h1 : ∀ d, hexV c = some d → Q .ret ⟨lk [(2, iv d)], H⟩) (h2 : hexV c = none → Q (.exit 0) ⟨lk [(0, u8v c), (3, iv 16), (5, bv false)], H⟩) : ∀ (m i : Nat), i + m = 16 → (∀ d, hexV c = some d → i ≤ d) →
    LoopC (cx Tryd.prog w0 I0 n0) l1_centoref34_digit Q ⟨lk [(0, u8v c), (3, iv i)], H⟩ := by
  intro m
  induction m with
  | zero =>
    intro i hi hd
    have : i = 16 := by omega
    subst this
    refine loopC_once mixed l1_centoref34_digit.eq_1 ?_
    simp
    refine h2 ?_
    cases e : hexV c with
    | none => rfl
    | some d => have := hd d e; have := hexV_lt e; omega
  | succ m ih =>
    intro i hi hd
    have ei : IntKind.i64.wrap ((i : Int) + 1) = ((i + 1 : Nat) : Int) := i64q (by omega) (by omega)
    have hg := dig_get (i := i) (by omega)
    unfold hexDs at hg
    refine loopC_once mixed l1_centoref34_digit.eq_1 ?_
    by_cases hc : hexD i = c
    · have e : hexV c = some i := by rw [← hc]; exact hexV_D (by omega)
      simp [show (i : Int) < 16 by omega, show ¬ 16 ≤ (i : Int) by omega, hg, hc]
      exact h1 i e
    · have hne : ¬ ((hexD i).toNat : Int) = c.toNat := fun e => hc (UInt8.toNat.inj (by omega))
      have hne2 : ¬ (hexD i).toNat = c.toNat := fun e => hc (UInt8.toNat.inj e)
      simp [show (i : Int) < 16 by omega, show ¬ 16 ≤ (i : Int) by omega, hg, hne, hne2, ei]
      refine ih (i + 1) (by omega) fun d e => ?_
      have h3 := hd d e
      rcases Nat.lt_or_ge i d with h4 | h4
      · omega
      · exfalso
        have : d = i := by omega
        subst this
        exact hc (hexD_V e).2
end
theorem rdig_spec (c : UInt8) : G.Spec Tryd.prog 40 [u8v c] (iv (digI c)) := by
  refine spec_of t_centoref34_digit (by simp) fun w0 I0 => ?_
  unfold c_centoref34_digit
  simp
  refine rdig_l1 (fun d e => ?_) (fun e => ?_) 16 0 (by omega) (fun d e => by omega)
  · simp
    exact frz_int (by unfold digI; rw [e])
  · simp
    exact frz_int (by unfold digI; rw [e])
end Go.Proofs.YtkjnbdgkpofobaaDoor

/-
  Digits as bytes, by the document.
-/
namespace Go.Proofs.YtkjnbdgkpofobaaDoor
set_option linter.unusedVariables false
set_option linter.unusedSimpArgs false
open Go Go.G Go.Proofs Go.PL
section
variable {n0 : Nat} {w0 : World} {I0 : Nat → Prop} {Q : Exit → Sta → Prop}
theorem runhex_l1 {s : List UInt8} (hl : s.length ≤ 1000000) : ∀ (m i v : Nat) (acc : List UInt8) (H : Hp), i + 2 * m = s.length → acc.length ≤ i → H [0] = ⟨v, .arr 1 (acc.map u8v)⟩ →
    (unGo (s.drop i) = none → ∀ H', Q .ret ⟨lk [(2, .sl true []), (3, bv false)], H'⟩) →
    (∀ r, unGo (s.drop i) = some r → ∀ (H' : Hp) (v' : Nat), H' [0] = ⟨v', .arr 1 ((acc ++ r).map u8v)⟩ → Q (.exit 0) ⟨lk [(0, S s), (4, .osl [0] v' 1 0 (acc ++ r).length), (5, iv s.length), (21, bv false)], H'⟩) →
    LoopC (cx Tryd.prog w0 I0 n0) l1_centoref34_Unhex Q ⟨lk [(0, S s), (4, .osl [0] v 1 0 acc.length), (5, iv i)], H⟩ := by
  intro m
  induction m with
  | zero =>
    intro i v acc H hi ha hH h1 h2
    have : i = s.length := by omega
    subst this
    refine loopC_once mixed l1_centoref34_Unhex.eq_1 ?_
    simp
    have := h2 [] (by simp [unGo]) H v (by simpa using hH)
    simpa using this
  | succ m ih =>
    intro i v acc H hi ha hH h1 h2
    have hlt : i < s.length := by omega
    have hlt2 : i + 1 < s.length := by omega
    have e1 : IntKind.i64.wrap ((i : Int) + 1) = ((i + 1 : Nat) : Int) := i64q (by omega) (by omega)
    have e2 : IntKind.i64.wrap ((i : Int) + 2) = ((i + 2 : Nat) : Int) := i64q (by omega) (by omega)
    have ed : s.drop i = s[i] :: s[i + 1] :: s.drop (i + 2) := by
      rw [List.drop_eq_getElem_cons hlt, List.drop_eq_getElem_cons hlt2]
    rw [ed] at h1 h2
    have c1 := rdig_spec s[i]
    have c2 := rdig_spec s[i + 1]
    unfold digI at c1 c2
    generalize hx : s[i] = x at *
    generalize hy : s[i + 1] = y at *
    refine loopC_once mixed l1_centoref34_Unhex.eq_1 ?_
    simp [hlt, hx]
    refine sc_call c1 rfl ?_
    cases ex : hexV x with
    | none =>
      simp
      refine sc_call_gf (L := []) (x := iv 0) (q := true) rfl (fun h => by cases h) (fun h => by cases h) rfl ?_
      simp
      exact h1 (by simp [unGo, ex]) _
    | some a =>
      have ha16 := hexV_lt ex
      rw [ex] at c1
      simp only at c1
      simp [show ¬ (a : Int) < 0 by omega, e1, hlt2, hy, show (0 : Int) ≤ (i : Int) + 1 by omega, show ((i : Int) + 1).toNat = i + 1 by omega]
      refine sc_call_gf (q := false) rfl (fun _ => c2) (fun _ => rfl) rfl ?_
      cases ey : hexV y with
      | none =>
        simp
        exact h1 (by simp [unGo, ex, ey]) _
      | some b =>
        have hb16 := hexV_lt ey
        have f1 : IntKind.i64.wrap (16 * (a : Int)) = 16 * (a : Int) := i64q (by omega) (by omega)
        have f2 : IntKind.i64.wrap (16 * (a : Int) + b) = 16 * (a : Int) + b := i64q (by omega) (by omega)
        have eg : unGo (x :: y :: s.drop (i + 2)) = (unGo (s.drop (i + 2))).map fun r => UInt8.ofNat (16 * a + b) :: r := by
          rw [unGo, ex, ey]
        have f3 : IntKind.u8.wrap (16 * (a : Int) + b) = ((UInt8.ofNat (16 * a + b)).toNat : Int) := by
          rw [IntKind.wrap_u8, UInt8.toNat_ofNat']; omega
        rw [eg] at h1 h2
        generalize UInt8.ofNat (16 * a + b) = z at *
        rw [ey] at c2
        simp only at c2
        simp [show ¬ (b : Int) < 0 by omega, hlt, hx]
        refine sc_call c1 rfl ?_
        simp [e1, hlt2, hy, f1, show (0 : Int) ≤ (i : Int) + 1 by omega, show ((i : Int) + 1).toNat = i + 1 by omega]
        refine sc_call c2 rfl ?_
        simp [f1, f2, f3, hH]
        refine ⟨by omega, ?_⟩
        rw [e2]
        have := ih (i + 2) (v + 1) (acc ++ [z]) (updF H [0] ⟨v + 1, .arr 1 ((acc ++ [z]).map u8v)⟩) (by omega) (by simp; omega) (by simp) (fun h => h1 (by rw [h]; rfl)) (fun r h H' v' g => by
          have := h2 (z :: r) (by rw [h]; rfl) H' v' (by simpa using g)
          simpa using this)
        rw [List.take_of_length_le (by simp)]
        simpa using this
end
theorem runhex_spec (s : List UInt8) (hl : s.length ≤ 1000000) : G.Spec Tryd.prog 17 [S s] (unA34 s) := by
  refine spec_of t_centoref34_Unhex (by simp) fun w0 I0 => ?_
  unfold c_centoref34_Unhex unA34 unhexB
  by_cases h0 : s = [45]
  · subst h0
    simp [str_eql]
    exact frz_tup ⟨frz_sl, frz_bare rfl, trivial⟩
  · have hm : (s.length : Int).tmod 2 = ((s.length % 2 : Nat) : Int) := by rw [Int.tmod_eq_emod_of_nonneg (by omega)]; omega
    by_cases h1 : s = []
    · subst h1
      simp [str_eql]
      exact frz_tup ⟨frz_sl, frz_bare rfl, trivial⟩
    · by_cases h2 : s.length % 2 = 0
      · simp [str_eql, h0, h1, hm, h2]
        refine LoopC.le (le_blank 4 [0] 1 (by simp)) ?_
        refine LoopC.le (le_list [(0, S s), (4, .osl [0] 1 1 0 ([] : List UInt8).length), (5, iv (0 : Nat))] (by simp [upd])) ?_
        refine runhex_l1 hl (s.length / 2) 0 1 [] _ (by omega) (by simp) (by simp) (fun h H' => ?_) (fun r h H' v' g => ?_)
        · rw [List.drop_zero] at h
          rw [h]
          simp
          exact frz_tup ⟨frz_sl, frz_bare rfl, trivial⟩
        · rw [List.drop_zero] at h
          rw [h]
          simp
          rw [List.nil_append] at g
          exact frz_tup ⟨frz_u8 g, frz_bare rfl, trivial⟩
      · have h3 : s.length % 2 = 1 := by omega
        rw [h3] at hm
        simp [str_eql, h0, h1, hm, h2]
        exact frz_tup ⟨frz_sl, frz_bare rfl, trivial⟩
end Go.Proofs.YtkjnbdgkpofobaaDoor

/-
  A number's text, by the document.
-/
namespace Go.Proofs.YtkjnbdgkpofobaaDoor
set_option linter.unusedVariables false
set_option linter.unusedSimpArgs false
open Go Go.G Go.Proofs Go.PL
def rnum34 (s : List UInt8) : Int := if s.length = 0 ∨ s.length > 10 ∨ s.length > 1 ∧ s.head? = some 48 then -1 else match dval 0 s with
  | some n => (n : Int)
  | none => -1
theorem num34_rnum (s : List UInt8) : num34 s = if 0 ≤ rnum34 s ∧ rnum34 s ≤ 1073741824 then some (rnum34 s).toNat else none := by
  unfold num34 rnum34
  split
  · rfl
  · cases dval 0 s with
    | none => rfl
    | some n =>
      simp only [Int.toNat_natCast]
      by_cases h : n ≤ 1073741824
      · rw [if_pos h, if_pos (by omega)]
      · rw [if_neg h, if_neg (by omega)]
section
variable {n0 : Nat} {w0 : World} {I0 : Nat → Prop} {Q : Exit → Sta → Prop}
theorem rnum_l1 {s : List UInt8} (hl : s.length ≤ 10) {H : Hp} : ∀ (m i n : Nat), i + m = s.length → n < 10 ^ i → (dval n (s.drop i) = none → Q .ret ⟨lk [(2, iv (-1))], H⟩) →
    (∀ k, dval n (s.drop i) = some k → Q (.exit 0) ⟨lk [(0, S s), (3, iv k), (4, iv s.length), (26, bv false)], H⟩) →
    LoopC (cx Tryd.prog w0 I0 n0) l1_centoref34_number Q ⟨lk [(0, S s), (3, iv n), (4, iv i)], H⟩ := by
  intro m
  induction m with
  | zero =>
    intro i n hi hn h1 h2
    have : i = s.length := by omega
    subst this
    refine loopC_once mixed l1_centoref34_number.eq_1 ?_
    simp
    exact h2 n (by simp [dval])
  | succ m ih =>
    intro i n hi hn h1 h2
    have hlt : i < s.length := by omega
    have ei : IntKind.i64.wrap ((i : Int) + 1) = ((i + 1 : Nat) : Int) := i64q (by omega) (by omega)
    have hp : 10 ^ (i + 1) ≤ 10 ^ 10 := Nat.pow_le_pow_right (by decide) (by omega)
    rw [Nat.pow_succ] at hp
    rw [List.drop_eq_getElem_cons hlt, dval] at h1 h2
    generalize hx : s[i] = x at *
    have hx8 := x.toNat_lt
    refine loopC_once mixed l1_centoref34_number.eq_1 ?_
    by_cases hd : isDg x = true
    · rw [if_pos hd] at h1 h2
      have h3 := hd
      simp only [isDg, Bool.and_eq_true, decide_eq_true_eq] at h3
      have f1 : IntKind.i64.wrap (10 * (n : Int)) = 10 * (n : Int) := i64q (by omega) (by omega)
      have f2 : IntKind.u8.wrap ((x.toNat : Int) - 48) = (x.toNat : Int) - 48 := by rw [IntKind.wrap_u8]; omega
      have f3 : IntKind.i64.wrap ((x.toNat : Int) - 48) = (x.toNat : Int) - 48 := i64q (by omega) (by omega)
      have f4 : IntKind.i64.wrap (10 * (n : Int) + ((x.toNat : Int) - 48)) = ((10 * n + (x.toNat - 48) : Nat) : Int) := by rw [i64q (by omega) (by omega)]; omega
      simp [hlt, hx, show ¬ (x.toNat : Int) < 48 by omega, show ¬ (57 : Int) < x.toNat by omega, f1, f2, f3, ei]
      rw [f4]
      exact ih (i + 1) (10 * n + (x.toNat - 48)) (by omega) (by rw [Nat.pow_succ]; omega) h1 h2
    · rw [if_neg hd] at h1 h2
      by_cases h4 : x.toNat < 48
      · simp [hlt, hx, show (x.toNat : Int) < 48 by omega]
        exact h1 rfl
      · have h5 : 57 < x.toNat := by
          have : ¬ (48 ≤ x.toNat ∧ x.toNat ≤ 57) := fun hh => hd (by simp [isDg, hh])
          omega
        simp [hlt, hx, show ¬ (x.toNat : Int) < 48 by omega, show (57 : Int) < x.toNat by omega]
        exact h1 rfl
end
theorem rnumber_spec (s : List UInt8) (hl : s.length ≤ 1000000) : G.Spec Tryd.prog 36 [S s] (iv (rnum34 s)) := by
  refine spec_of t_centoref34_number (by simp) fun w0 I0 => ?_
  unfold c_centoref34_number rnum34
  by_cases h1 : s.length = 0
  · rw [if_pos (Or.inl h1)]
    simp [h1]
    exact frz_bare rfl
  · by_cases h2 : s.length > 10
    · rw [if_pos (Or.inr (Or.inl h2))]
      simp [h1, show (10 : Int) < s.length by omega, show ¬ (s.length : Int) = 0 by omega]
      exact frz_bare rfl
    · have fin : ∀ (H : Hp) (K : Exit → Sta → Prop), (∀ k : Int, k = (match dval 0 s with | some n => (n : Int) | none => -1) → (k = -1 → K .ret ⟨lk [(2, iv (-1))], H⟩) ∧ (0 ≤ k → K (.exit 0) ⟨lk [(0, S s), (3, iv k), (4, iv s.length), (26, bv false)], H⟩)) → LoopC (cx Tryd.prog w0 I0 48) l1_centoref34_number K ⟨lk [(0, S s), (3, iv (0 : Nat)), (4, iv (0 : Nat))], H⟩ := fun H K hK => by
        refine rnum_l1 (by omega) s.length 0 0 (by omega) (by decide) (fun h => ?_) (fun k h => ?_)
        · rw [List.drop_zero] at h
          exact (hK (-1) (by rw [h])).1 rfl
        · rw [List.drop_zero] at h
          exact (hK k (by rw [h])).2 (by omega)
      cases s with
      | nil => simp at h1
      | cons c l =>
        by_cases h3 : l.length > 0 ∧ c = 48
        · rw [if_pos (Or.inr (Or.inr ⟨by simp; omega, by simp [h3.2]⟩))]
          have h4 : l.length ≤ 9 := by simp at h2; omega
          simp [h3.2, show ¬ (l.length : Int) + 1 = 0 by omega, show ¬ (10 : Int) < (l.length : Int) + 1 by omega, show (1 : Int) < (l.length : Int) + 1 by omega, show (0 : Int) < l.length by omega, show 0 < l.length by omega, h4]
          exact frz_bare rfl
        · have h4 : l.length ≤ 9 := by simp at h2; omega
          rw [if_neg (by
            rintro (e | e | ⟨e1, e2⟩)
            · exact h1 e
            · exact h2 e
            · exact h3 ⟨by simp at e1; omega, by simpa using e2⟩)]
          have go : LoopC (cx Tryd.prog w0 I0 48) l1_centoref34_number (InBlock 0 (ThenC (WPC (cx Tryd.prog w0 I0 48) (.keep [3] (.seq (.reg [co (some 47) (.move (.tmp 3)) none, co (some 2) (.assign (.tmp 47)) none] [2]) (.ret))) (RetC Tryd.prog [.tmp 2] (iv (match dval 0 (c :: l) with | some n => (n : Int) | none => -1)))) (RetC Tryd.prog [.tmp 2] (iv (match dval 0 (c :: l) with | some n => (n : Int) | none => -1))))) ⟨lk [(0, S (c :: l)), (3, iv (0 : Nat)), (4, iv (0 : Nat))], H0⟩ := by
            refine fin _ _ (fun k hk => ⟨fun e => ?_, fun e => ?_⟩)
            · simp
              exact frz_int (by rw [← hk, e])
            · simp
              exact frz_int hk
          by_cases h5 : l.length = 0
          · simp [show ¬ (l.length : Int) + 1 = 0 by omega, show ¬ (10 : Int) < (l.length : Int) + 1 by omega, show ¬ (1 : Int) < (l.length : Int) + 1 by omega, h5]
            exact go
          · have h6 : ¬ c = 48 := fun e => h3 ⟨by omega, e⟩
            have h7 : ¬ (c.toNat : Int) = 48 := fun e => h6 (UInt8.toNat.inj (by show c.toNat = 48; omega))
            simp [show ¬ (l.length : Int) + 1 = 0 by omega, show ¬ (10 : Int) < (l.length : Int) + 1 by omega, show (1 : Int) < (l.length : Int) + 1 by omega, h6, h7]
            exact go
end Go.Proofs.YtkjnbdgkpofobaaDoor

/-
  The words of a line, by the document.
-/
namespace Go.Proofs.YtkjnbdgkpofobaaDoor
set_option linter.unusedVariables false
set_option linter.unusedSimpArgs false
open Go Go.G Go.Proofs Go.PL
section
variable {n0 : Nat} {w0 : World} {I0 : Nat → Prop} {Q : Exit → Sta → Prop}
theorem words_l34 {s : List UInt8} (hl : s.length ≤ 1000000) {F : List (List UInt8)} (hq : ∀ (fr : Int) (v : Nat) (H : Hp), H [0] = ⟨v, .arr 1 (F.map S)⟩ → Q (.exit 0) ⟨lk [(0, S s), (3, .osl [0] v 1 0 F.length), (4, iv fr), (5, iv ((s.length : Int) + 1)), (9, bv false)], H⟩) : ∀ (m i fr v : Nat) (acc : List (List UInt8)) (H : Hp), i + m = s.length → fr ≤ i → acc.length ≤ i → H [0] = ⟨v, .arr 1 (acc.map S)⟩ →
    F = acc ++ (((s.drop fr).take (i - fr) ++ (split32 (s.drop i)).headD []) :: (split32 (s.drop i)).tail) →
    LoopC (cx Tryd.prog w0 I0 n0) l1_centoref34_words Q ⟨lk [(0, S s), (3, .osl [0] v 1 0 acc.length), (4, iv fr), (5, iv i)], H⟩ := by
  intro m
  induction m with
  | zero =>
    intro i fr v acc H hi hf ha hH hF
    have : i = s.length := by omega
    subst this
    rw [List.drop_length] at hF
    simp only [split32, List.headD_cons, List.tail_cons, List.append_nil] at hF
    have ei : IntKind.i64.wrap ((s.length : Int) + 1) = (s.length : Int) + 1 := i64q (by omega) (by omega)
    refine loopC_once mixed l1_centoref34_words.eq_1 ?_
    simp [hH, ei, show (fr : Int) ≤ s.length by omega, hf]
    refine ⟨by omega, ?_⟩
    have h2 : acc.map S ++ [S ((s.drop fr).take (s.length - fr))] = F.map S := by rw [hF]; simp
    have h3 : acc.length + 1 = F.length := by rw [hF]; simp
    rw [List.take_of_length_le (by simp), h2, h3]
    refine loopC_once mixed l1_centoref34_words.eq_1 ?_
    simp [show ¬ (s.length : Int) + 1 ≤ s.length by omega]
    exact hq _ (v + 1) _ (by simp)
  | succ m ih =>
    intro i fr v acc H hi hf ha hH hF
    have hlt : i < s.length := by omega
    have ei : IntKind.i64.wrap ((i : Int) + 1) = ((i + 1 : Nat) : Int) := i64q (by omega) (by omega)
    have ed := List.drop_eq_getElem_cons hlt
    have et : (s.drop fr).take (i + 1 - fr) = (s.drop fr).take (i - fr) ++ [s[i]] := by
      rw [show i + 1 - fr = (i - fr) + 1 by omega, List.take_succ_eq_append_getElem (by simp; omega)]
      simp [show fr + (i - fr) = i by omega]
    rw [ed] at hF
    generalize hx : s[i] = x at *
    refine loopC_once mixed l1_centoref34_words.eq_1 ?_
    by_cases h32 : x = 32
    · subst h32
      rw [split32, if_pos rfl] at hF
      simp [hlt, hx, hH, ei, show (i : Int) ≤ s.length by omega, show ¬ (i : Int) = s.length by omega, show ¬ i = s.length by omega, show (fr : Int) ≤ i by omega, hf]
      refine ⟨by omega, ?_⟩
      rw [List.take_of_length_le (by simp)]
      have := ih (i + 1) (i + 1) (v + 1) (acc ++ [(s.drop fr).take (i - fr)]) (updF H [0] ⟨v + 1, .arr 1 ((acc ++ [(s.drop fr).take (i - fr)]).map S)⟩) (by omega) (by omega) (by simp; omega) (by simp) (by rw [hF]; simp only [Nat.sub_self, List.take_zero, List.nil_append]; rw [← split32_cons]; simp)
      simpa using this
    · have h33 : ¬ (x.toNat : Int) = 32 := fun e => h32 (UInt8.toNat.inj (by show x.toNat = 32; omega))
      rw [split32, if_neg h32] at hF
      simp [hlt, hx, hH, ei, show (i : Int) ≤ s.length by omega, show ¬ (i : Int) = s.length by omega, show ¬ i = s.length by omega, h32, h33]
      have := ih (i + 1) fr v acc H (by omega) (by omega) (by omega) hH (by rw [hF, et]; simp)
      simpa using this
end
theorem rwords_spec (s : List UInt8) (hl : s.length ≤ 1000000) : G.Spec Tryd.prog 35 [S s] (.sl false ((split32 s).map S)) := by
  refine spec_of t_centoref34_words (by simp) fun w0 I0 => ?_
  unfold c_centoref34_words
  simp
  refine LoopC.le (le_blank 3 [0] 1 (by simp)) ?_
  refine LoopC.le (le_list [(0, S s), (3, .osl [0] 1 1 0 ([] : List (List UInt8)).length), (4, iv (0 : Nat)), (5, iv (0 : Nat))] (by simp [upd])) ?_
  refine words_l34 hl (F := split32 s) (fun fr v H hH => ?_) s.length 0 0 1 [] _ (by omega) (by omega) (by simp) (by simp) (by simp only [List.drop_zero, Nat.sub_self, List.take_zero, List.nil_append]; exact split32_cons s)
  simp
  exact frz_S hH
end Go.Proofs.YtkjnbdgkpofobaaDoor

/-
  May a command be, by the document?
-/
namespace Go.Proofs.YtkjnbdgkpofobaaDoor
set_option linter.unusedVariables false
set_option linter.unusedSimpArgs false
open Go Go.G Go.Proofs Go.PL
section
variable {n0 : Nat} {w0 : World} {I0 : Nat → Prop} {Q : Exit → Sta → Prop}
theorem rr_l1 {f g : Bool} {op kd : Int} {xs : List Int} {bs : List UInt8} (hl : xs.length ≤ 1000000) {H : Hp} (hH : H [0] = ⟨1, .cells [iv op, ivs f xs, u8s g bs]⟩) : ∀ (m i : Nat), i + m = xs.length → ((xs.drop i).all smallI = false → Q .ret ⟨lk [(2, bv false)], H⟩) →
    ((xs.drop i).all smallI = true → Q (.exit 0) ⟨lk [(1, .pob [0] 1 0), (4, iv xs.length), (5, iv kd), (6, iv xs.length), (46, bv false)], H⟩) →
    LoopC (cx Tryd.prog w0 I0 n0) l1_centoref34_Right Q ⟨lk [(1, .pob [0] 1 0), (4, iv xs.length), (5, iv kd), (6, iv i)], H⟩ := by
  intro m
  induction m with
  | zero =>
    intro i hi h1 h2
    have : i = xs.length := by omega
    subst this
    refine loopC_once mixed l1_centoref34_Right.eq_1 ?_
    simp
    exact h2 (by simp)
  | succ m ih =>
    intro i hi h1 h2
    have hlt : i < xs.length := by omega
    have ei : IntKind.i64.wrap ((i : Int) + 1) = ((i + 1 : Nat) : Int) := i64q (by omega) (by omega)
    rw [List.drop_eq_getElem_cons hlt, List.all_cons] at h1 h2
    generalize hx : xs[i] = x at *
    refine loopC_once mixed l1_centoref34_Right.eq_1 ?_
    by_cases a1 : x < 0
    · simp [hlt, hx, hH, a1]
      exact h1 (by simp [smallI, show ¬ 0 ≤ x by omega])
    · by_cases a2 : 1073741824 < x
      · simp [hlt, hx, hH, a1, a2]
        exact h1 (by simp [smallI, show ¬ x ≤ 1073741824 by omega])
      · have e : smallI x = true := by simp [smallI]; omega
        rw [e, Bool.true_and] at h1 h2
        simp [hlt, hx, hH, a1, a2, ei]
        exact ih (i + 1) (by omega) h1 h2
theorem rr_l2 {f g : Bool} {op : Int} {kd : Nat} {xs : List Int} {bs : List UInt8} (hl : bs.length ≤ 1000000) {H : Hp} (hH : H [0] = ⟨1, .cells [iv op, ivs f xs, u8s g bs]⟩) : ∀ (m i : Nat), i + m = bs.length → ((bs.drop i).all (fun c => decide (¬ kd = 2) || prn c) = false → Q .ret ⟨lk [(2, bv false)], H⟩) →
    ((bs.drop i).all (fun c => decide (¬ kd = 2) || prn c) = true → Q (.exit 2) ⟨lk [(1, .pob [0] 1 0), (5, iv kd), (7, iv bs.length), (67, bv false)], H⟩) →
    LoopC (cx Tryd.prog w0 I0 n0) l2_centoref34_Right Q ⟨lk [(1, .pob [0] 1 0), (5, iv kd), (7, iv i)], H⟩ := by
  intro m
  induction m with
  | zero =>
    intro i hi h1 h2
    have : i = bs.length := by omega
    subst this
    refine loopC_once mixed l2_centoref34_Right.eq_1 ?_
    simp [hH]
    exact h2 (by simp)
  | succ m ih =>
    intro i hi h1 h2
    have hlt : i < bs.length := by omega
    have ei : IntKind.i64.wrap ((i : Int) + 1) = ((i + 1 : Nat) : Int) := i64q (by omega) (by omega)
    rw [List.drop_eq_getElem_cons hlt, List.all_cons] at h1 h2
    generalize hx : bs[i] = x at *
    refine loopC_once mixed l2_centoref34_Right.eq_1 ?_
    by_cases a0 : kd = 2
    · subst a0
      by_cases a1 : x.toNat < 33
      · simp [hlt, hx, hH, show (x.toNat : Int) < 33 by omega]
        exact h1 (by simp [prn, show ¬ 33 ≤ x.toNat by omega])
      · by_cases a2 : 126 < x.toNat
        · simp [hlt, hx, hH, show ¬ (x.toNat : Int) < 33 by omega, show (126 : Int) < x.toNat by omega]
          exact h1 (by simp [prn, show ¬ x.toNat ≤ 126 by omega])
        · have e : prn x = true := by simp [prn]; omega
          simp only [e, Bool.or_true, Bool.true_and] at h1 h2
          simp [hlt, hx, hH, show ¬ (x.toNat : Int) < 33 by omega, show ¬ (126 : Int) < x.toNat by omega, ei]
          exact ih (i + 1) (by omega) h1 h2
    · have e : decide (¬ kd = 2) = true := by simp [a0]
      simp only [e, Bool.true_or, Bool.true_and] at h1 h2
      simp [hlt, hx, hH, a0, show ¬ (kd : Int) = 2 by omega, ei]
      exact ih (i + 1) (by omega) (by simpa only [e, Bool.true_or] using h1) (by simpa only [e, Bool.true_or] using h2)
end
theorem nm34_ne {k : Nat} (h : k < 15) : nm34 k ≠ [] := by
  have : ∀ k, k < 15 → nm34 k ≠ [] := by decide
  exact this k h
set_option maxHeartbeats 2000000 in
theorem rright_spec (f g : Bool) (op : Int) (xs : List Int) (bs : List UInt8) (hx : xs.length ≤ 1000000) (hb : bs.length ≤ 1000000) : G.Spec Tryd.prog 11 [cmd f g op xs bs] (bv (right34 op xs bs)) := by
  refine spec_of t_centoref34_Right (by simp) fun w0 I0 => ?_
  unfold c_centoref34_Right
  simp
  refine sc_call (rname_spec op) rfl ?_
  unfold nameA
  by_cases h : 0 ≤ op ∧ op < 15
  · obtain ⟨k, rfl⟩ : ∃ k : Nat, op = k := ⟨op.toNat, by omega⟩
    have hk : k < 15 := by omega
    have hne := nm34_ne hk
    rw [if_pos h, Int.toNat_natCast]
    by_cases hl : xs.length = na34 k
    · have fin : ∀ (K : Exit → Sta → Prop) (kd : Nat), kd = bk34 k → (kd = 0 → bs = []) → (kd = 2 → bs ≠ []) → right34 k xs bs = (xs.all smallI && bs.all (fun c => decide (¬ kd = 2) || prn c)) := fun K kd e1 e2 e3 => by
        rw [e1] at e2 e3 ⊢
        unfold right34
        rw [Int.toNat_natCast, show decide (0 ≤ (k : Int)) = true by simp, show decide ((k : Int) < 15) = true by simp; omega, show decide (xs.length = na34 k) = true by simp [hl]]
        simp only [Bool.true_and]
        congr 1
        rcases bk34_is k with e | e | e
        · rw [e2 e, e]; rfl
        · rw [e]; simp
        · rw [e]; simp [e3 e]
      rcases bk34_is k with e | e | e
      · by_cases hz : bs = []
        · simp [str_eql, hne, hl, e, hz]
          rw [← hz]
          refine LoopC.le (le_list [(1, .pob [0] 1 0), (4, iv xs.length), (5, iv (0 : Nat)), (6, iv (0 : Nat))] (by simp [hl])) ?_
          have fi := fin (fun _ _ => True) 0 e.symm (by exact fun _ => hz) (by omega)
          refine rr_l1 (f := f) (g := g) (op := k) (bs := bs) hx (by simp) xs.length 0 (by omega) (fun h1 => ?_) (fun h1 => ?_)
          · rw [List.drop_zero] at h1
            simp
            exact frz_bool (by rw [fi, h1]; rfl)
          · rw [List.drop_zero] at h1
            simp
            refine LoopC.le (le_list [(1, .pob [0] 1 0), (5, iv (0 : Nat)), (7, iv (0 : Nat))] (by simp)) ?_
            refine rr_l2 (f := f) (g := g) (op := k) (kd := 0) (xs := xs) hb (by simp) bs.length 0 (by omega) (fun h2 => ?_) (fun h2 => ?_)
            · rw [List.drop_zero] at h2
              simp
              exact frz_bool (by rw [fi, h1, h2]; rfl)
            · rw [List.drop_zero] at h2
              simp
              exact frz_bool (by rw [fi, h1, h2]; rfl)
        · have hp : 0 < bs.length := List.length_pos_iff.2 hz
          simp [str_eql, hne, hl, e, hp]
          exact frz_bool (by unfold right34; simp [e, hz])
      · simp [str_eql, hne, hl, e]
        refine LoopC.le (le_list [(1, .pob [0] 1 0), (4, iv xs.length), (5, iv (1 : Nat)), (6, iv (0 : Nat))] (by simp [hl])) ?_
        have fi := fin (fun _ _ => True) 1 e.symm (by omega) (by omega)
        refine rr_l1 (f := f) (g := g) (op := k) (bs := bs) hx (by simp) xs.length 0 (by omega) (fun h1 => ?_) (fun h1 => ?_)
        · rw [List.drop_zero] at h1
          simp
          exact frz_bool (by rw [fi, h1]; rfl)
        · rw [List.drop_zero] at h1
          simp
          refine LoopC.le (le_list [(1, .pob [0] 1 0), (5, iv (1 : Nat)), (7, iv (0 : Nat))] (by simp)) ?_
          refine rr_l2 (f := f) (g := g) (op := k) (kd := 1) (xs := xs) hb (by simp) bs.length 0 (by omega) (fun h2 => ?_) (fun h2 => ?_)
          · rw [List.drop_zero] at h2
            simp
            exact frz_bool (by rw [fi, h1, h2]; rfl)
          · rw [List.drop_zero] at h2
            simp
            exact frz_bool (by rw [fi, h1, h2]; rfl)
      · by_cases hz : bs = []
        · simp [str_eql, hne, hl, e, hz]
          exact frz_bool (by unfold right34; simp [e])
        · have hp : ¬ bs.length = 0 := fun q => hz (List.length_eq_zero_iff.1 q)
          simp [str_eql, hne, hl, e, hp, hz]
          refine LoopC.le (le_list [(1, .pob [0] 1 0), (4, iv xs.length), (5, iv (2 : Nat)), (6, iv (0 : Nat))] (by simp [hl])) ?_
          have fi := fin (fun _ _ => True) 2 e.symm (by omega) (by exact fun _ => hz)
          refine rr_l1 (f := f) (g := g) (op := k) (bs := bs) hx (by simp) xs.length 0 (by omega) (fun h1 => ?_) (fun h1 => ?_)
          · rw [List.drop_zero] at h1
            simp
            exact frz_bool (by rw [fi, h1]; rfl)
          · rw [List.drop_zero] at h1
            simp
            refine LoopC.le (le_list [(1, .pob [0] 1 0), (5, iv (2 : Nat)), (7, iv (0 : Nat))] (by simp)) ?_
            refine rr_l2 (f := f) (g := g) (op := k) (kd := 2) (xs := xs) hb (by simp) bs.length 0 (by omega) (fun h2 => ?_) (fun h2 => ?_)
            · rw [List.drop_zero] at h2
              simp
              exact frz_bool (by rw [fi, h1, h2]; rfl)
            · rw [List.drop_zero] at h2
              simp
              exact frz_bool (by rw [fi, h1, h2]; rfl)
    · simp [str_eql, hne, hl, show ¬ (xs.length : Int) = (na34 k : Int) by omega]
      exact frz_bool (by unfold right34; simp [hl])
  · rw [if_neg h]
    simp [str_eql]
    refine frz_bool ?_
    by_cases h1 : op < 0
    · rw [right34_lo h1]
    · rw [right34_hi (by omega)]
end Go.Proofs.YtkjnbdgkpofobaaDoor

/-
  A command's line, by the document.
-/
namespace Go.Proofs.YtkjnbdgkpofobaaDoor
set_option linter.unusedVariables false
set_option linter.unusedSimpArgs false
open Go Go.G Go.Proofs Go.PL
theorem join_snoc : ∀ (l : List (List UInt8)) (x : List UInt8), l ≠ [] → Lib.join (l ++ [x]) [32] = Lib.join l [32] ++ [32] ++ x
  | [], x, h => (h rfl).elim
  | [y], x, _ => by
    show Lib.join [y, x] [32] = _
    rw [join_cons2, join_one', join_one']
  | y :: z :: l, x, _ => by
    have ih := join_snoc (z :: l) x (by simp)
    show Lib.join (y :: z :: (l ++ [x])) [32] = _
    rw [join_cons2, join_cons2, show z :: (l ++ [x]) = (z :: l) ++ [x] from rfl, ih]
    simp
section
variable {n0 : Nat} {w0 : World} {I0 : Nat → Prop} {Q : Exit → Sta → Prop}
theorem rp_l1 {f g : Bool} {op kd : Int} {xs : List Int} {bs nm : List UInt8} (hl : xs.length ≤ 1000) (hs : ∀ n, n ∈ xs → 0 ≤ n ∧ n ≤ 1073741824) (hB : ∀ i, (Lib.join (nm :: (xs.take i).map Lib.itoa) [32]).length ≤ 100000000) {H : Hp} (hH : H [0] = ⟨1, .cells [iv op, ivs f xs, u8s g bs]⟩)
    (hq : Q (.exit 0) ⟨lk [(1, .pob [0] 1 0), (3, S (Lib.join (nm :: xs.map Lib.itoa) [32])), (4, iv xs.length), (5, iv kd), (6, iv xs.length), (19, bv false)], H⟩) : ∀ (m i : Nat), i + m = xs.length →
    LoopC (cx Tryd.prog w0 I0 n0) l1_centoref34_Print Q ⟨lk [(1, .pob [0] 1 0), (3, S (Lib.join (nm :: (xs.take i).map Lib.itoa) [32])), (4, iv xs.length), (5, iv kd), (6, iv i)], H⟩ := by
  intro m
  induction m with
  | zero =>
    intro i hi
    have : i = xs.length := by omega
    subst this
    refine loopC_once mixed l1_centoref34_Print.eq_1 ?_
    simp
    exact hq
  | succ m ih =>
    intro i hi
    have hlt : i < xs.length := by omega
    have ei : IntKind.i64.wrap ((i : Int) + 1) = ((i + 1 : Nat) : Int) := i64q (by omega) (by omega)
    have hx := hs xs[i] (List.getElem_mem hlt)
    have hb := hB (i + 1)
    have hgo := ih (i + 1) (by omega)
    have et : Lib.join (nm :: (xs.take (i + 1)).map Lib.itoa) [32] = Lib.join (nm :: (xs.take i).map Lib.itoa) [32] ++ [32] ++ Lib.itoa xs[i] := by
      rw [List.take_succ_eq_append_getElem hlt, List.map_append, List.map_singleton]
      exact join_snoc (nm :: (xs.take i).map Lib.itoa) _ (by simp)
    rw [et] at hb hgo
    have hc := rdec_spec xs[i].toNat (by omega)
    rw [← itoa_small hx.1, Int.toNat_of_nonneg hx.1] at hc
    generalize Lib.join (nm :: (xs.take i).map Lib.itoa) [32] = J at *
    simp only [List.length_append, List.length_singleton] at hb
    refine loopC_once mixed l1_centoref34_Print.eq_1 ?_
    simp [hlt, hH, str_add34 (l := J) (m := [32]) (by simp; omega)]
    refine sc_call hc rfl ?_
    simp [ei, str_add34 (l := J ++ [32]) (m := Lib.itoa xs[i]) (by simp; omega)]
    simpa using hgo
end
set_option maxHeartbeats 2000000 in
theorem rprint_spec (f g : Bool) (op : Int) (xs : List Int) (bs : List UInt8) (hx : xs.length ≤ 1000000) (hb : bs.length ≤ 1000000) : G.Spec Tryd.prog 9 [cmd f g op xs bs] (S (print34 op xs bs)) := by
  refine spec_of t_centoref34_Print (by simp) fun w0 I0 => ?_
  unfold c_centoref34_Print print34
  simp
  refine sc_call (rright_spec f g op xs bs hx hb) rfl ?_
  cases hr : right34 op xs bs with
  | false =>
    simp
    exact frz_bare rfl
  | true =>
    obtain ⟨h0, h1, h2, h3, h4, h5⟩ := right34_iff.1 hr
    obtain ⟨k, rfl⟩ : ∃ k : Nat, op = k := ⟨op.toNat, by omega⟩
    simp only [Int.toNat_natCast] at h2 h4 h5
    have hk : k < 15 := by omega
    have hn := na34_le k
    have hB : ∀ i, (Lib.join (nm34 k :: (xs.take i).map Lib.itoa) [32]).length ≤ 100000000 := fun i => by
      have := join_len (nm34 k :: (xs.take i).map Lib.itoa) 10 (fun x hx => by
        rcases List.mem_cons.1 hx with e | hx
        · subst e; have := nm34_len k; omega
        · obtain ⟨n, hn, rfl⟩ := List.mem_map.1 hx
          have h6 := h3 n (List.mem_of_mem_take hn)
          rw [itoa_small h6.1]
          exact dd_len (k := 10) (u := n.toNat) (by omega) (by omega))
      simp at this ⊢
      omega
    simp
    refine sc_call (rname_spec k) rfl ?_
    unfold nameA
    rw [if_pos ⟨h0, h1⟩, Int.toNat_natCast]
    simp
    refine LoopC.le (le_list [(1, .pob [0] 1 0), (3, S (Lib.join (nm34 k :: (xs.take 0).map Lib.itoa) [32])), (4, iv xs.length), (5, iv (bk34 k)), (6, iv (0 : Nat))] (by simp [h2, join_one'])) ?_
    refine rp_l1 (f := f) (g := g) (op := k) (bs := bs) (by omega) h3 hB (by simp) ?_ xs.length 0 (by omega)
    have hJ := hB xs.length
    rw [List.take_length] at hJ
    have hX := hexB_len bs
    rcases bk34_is k with e | e | e
    · simp [e]
      rw [k1_centoref34_Print.eq_1]
      simp
      exact frz_is rfl (by simp [line34, tail34, e])
    · simp [e, str_add34 (l := Lib.join (nm34 k :: xs.map Lib.itoa) [32]) (m := [32]) (by simp; omega)]
      refine sc_call (rhexB_spec g bs hb) rfl ?_
      have et : Lib.join (line34 k xs bs) [32] = Lib.join (nm34 k :: xs.map Lib.itoa) [32] ++ [32] ++ hexB bs := by
        rw [← join_snoc _ _ (by simp)]; simp [line34, tail34, e]
      rw [et]
      simp [str_add34 (l := Lib.join (nm34 k :: xs.map Lib.itoa) [32] ++ [32]) (m := hexB bs) (by simp; omega)]
      rw [k1_centoref34_Print.eq_1]
      simp
      exact frz_is rfl (by simp)
    · have et : Lib.join (line34 k xs bs) [32] = Lib.join (nm34 k :: xs.map Lib.itoa) [32] ++ [32] ++ bs := by
        rw [← join_snoc _ _ (by simp)]; simp [line34, tail34, e]
      rw [et]
      simp [e]
      rw [k1_centoref34_Print.eq_1]
      simp [str_add34 (l := Lib.join (nm34 k :: xs.map Lib.itoa) [32]) (m := [32]) (by simp; omega), str_add34 (l := Lib.join (nm34 k :: xs.map Lib.itoa) [32] ++ [32]) (m := bs) (by simp; omega)]
      exact frz_is rfl (by simp)
end Go.Proofs.YtkjnbdgkpofobaaDoor

/-
  A line is read, by the document: the numbers' loop.
-/
namespace Go.Proofs.YtkjnbdgkpofobaaDoor
set_option linter.unusedVariables false
set_option linter.unusedSimpArgs false
open Go Go.G Go.Proofs Go.PL
section
variable {n0 : Nat} {w0 : World} {I0 : Nat → Prop} {Q : Exit → Sta → Prop}
theorem rparse_n1 {h : List UInt8} {tl : List (List UInt8)} {op kd : Int} {n : Nat} (hm : ∀ x, x ∈ tl → x.length ≤ 1000000) (hn : n ≤ tl.length) (hn5 : n ≤ 5) {O : VOb} : ∀ (m i v u : Nat) (H : Hp), i + m = n → H [0] = O → H [1] = ⟨u, .cells [iv op, .osl [2] v 1 0 i, .sl true []]⟩ → H [2] = ⟨v, .arr 1 (((tl.take i).map rnum34).map iv)⟩ →
    (∀ (H' : Hp) (v' : Nat), H' [0] = O → H' [1] = ⟨u, .cells [iv op, .osl [2] v' 1 0 n, .sl true []]⟩ → H' [2] = ⟨v', .arr 1 (((tl.take n).map rnum34).map iv)⟩ → Q (.exit 2) ⟨lk [(2, .pob [0] 1 0), (4, .sl false ((h :: tl).map S)), (5, iv op), (7, iv n), (8, iv kd), (9, .pob [1] u 0), (10, iv n), (55, bv false)], H'⟩) →
    LoopC (cx Tryd.prog w0 I0 n0) l1_centoref34_Parse Q ⟨lk [(2, .pob [0] 1 0), (4, .sl false ((h :: tl).map S)), (5, iv op), (7, iv n), (8, iv kd), (9, .pob [1] u 0), (10, iv i)], H⟩ := by
  intro m
  induction m with
  | zero =>
    intro i v u H hi h0 h1 h2 hq
    have : i = n := by omega
    subst this
    refine loopC_once mixed l1_centoref34_Parse.eq_1 ?_
    simp
    exact hq H v h0 h1 h2
  | succ m ih =>
    intro i v u H hi h0 h1 h2 hq
    have hlt : i < n := by omega
    have hlt2 : i < tl.length := by omega
    have ei : IntKind.i64.wrap ((i : Int) + 1) = ((i + 1 : Nat) : Int) := i64q (by omega) (by omega)
    have hc := rnumber_spec tl[i] (hm _ (List.getElem_mem hlt2))
    refine loopC_once mixed l1_centoref34_Parse.eq_1 ?_
    simp [hlt, hlt2, h1, ei, show (i : Int) < n by omega, show (0 : Int) ≤ (i : Int) + 1 by omega, show ((i : Int) + 1).toNat = i + 1 by omega]
    refine sc_call hc rfl ?_
    have hv : ∀ X, (updF H [2] X) [1] = ⟨u, .cells [iv op, .osl [2] v 1 0 i, .sl true []]⟩ := fun X => by simp [updF, h1]
    simp [h1, h2, hv, ei]
    refine ⟨⟨by omega, by omega⟩, ?_⟩
    have e : (List.take i (List.take i (List.map (iv ∘ rnum34) tl)) ++ [iv (rnum34 tl[i])]) = ((tl.take (i + 1)).map rnum34).map iv := by
      rw [List.take_take, Nat.min_self, List.map_map, List.take_succ_eq_append_getElem hlt2, List.map_append, List.map_take]; rfl
    rw [e]
    exact ih (i + 1) (v + 1) u _ (by omega) (by simp [updF, h0]) (by simp) (by simp [updF]) hq
end
theorem nums_rnum : ∀ (l : List (List UInt8)), nums34 l = if (l.map rnum34).all smallI = true then some (l.map rnum34) else none
  | [] => rfl
  | x :: l => by
    have ih := nums_rnum l
    unfold nums34
    rw [num34_rnum, ih, List.map_cons, List.all_cons]
    by_cases h : 0 ≤ rnum34 x ∧ rnum34 x ≤ 1073741824
    · have e : smallI (rnum34 x) = true := by simp [smallI, h]
      rw [if_pos h, e, Bool.true_and]
      simp only
      split
      · simp only [Option.map_some, Option.some.injEq, List.cons.injEq, and_true]
        omega
      · rfl
    · have e : smallI (rnum34 x) = false := by
        unfold smallI
        by_cases h1 : 0 ≤ rnum34 x
        · simp [show ¬ rnum34 x ≤ 1073741824 by omega]
        · simp [h1]
      rw [if_neg h, e]
      rfl
/-- what the document tries for one command -/
def try34 (op : Nat) (h : List UInt8) (tl : List (List UInt8)) : Option (Nat × List Int × List UInt8) :=
  if h = nm34 op ∧ tl.length = len34 op then rest34 op tl else none
theorem parse34_try (s : List UInt8) : parse34 s = match ix34 ((split32 s).headD []) with
    | none => none
    | some op => try34 op ((split32 s).headD []) (split32 s).tail := by
  rw [parse34_eq]
  cases e : ix34 ((split32 s).headD []) with
  | none => rfl
  | some op =>
    obtain ⟨_, h⟩ := nm34_ix e
    simp only [try34]
    by_cases hl : (split32 s).tail.length = len34 op
    · rw [if_neg (by simp [hl]), if_pos ⟨h.symm, hl⟩]
    · rw [if_pos hl, if_neg (fun q => hl q.2)]
theorem try34_other {op k : Nat} {h : List UInt8} {tl : List (List UInt8)} (hk : k < 15) (e : ix34 h ≠ some k) : try34 k h tl = none := by
  unfold try34
  rw [if_neg]
  rintro ⟨h1, _⟩
  exact e (by rw [h1]; exact ix34_nm hk)
end Go.Proofs.YtkjnbdgkpofobaaDoor

/-
  Chapter 34's laws: small functions.
-/
namespace Go.Proofs.YtkjnbdgkpofobaaDoor
set_option linter.unusedVariables false
set_option linter.unusedSimpArgs false
open Go Go.G Go.Proofs Go.PL
theorem mine_spec (f g : Bool) (op : Int) (xs : List Int) (bs : List UInt8) : G.Spec Tryd.prog 8 [cmd f g op xs bs] (cmd false false op xs bs) := by
  refine spec_of t_centolaw34_Mine (by simp) fun w0 I0 => ?_
  unfold c_centolaw34_Mine
  simp
  exact frz_agg ⟨frz_bare rfl, frz_sl, frz_sl, trivial⟩
section
variable {n0 : Nat} {w0 : World} {I0 : Nat → Prop} {Q : Exit → Sta → Prop} {H : Hp}
theorem sameJ_l1 {f g : Bool} {a b : List Int} (hl : a.length ≤ 1000000) (he : a.length = b.length) (hq : a = b → ∀ q, Q (.exit 0) ⟨lk [(0, ivs f a), (1, ivs g b), (5, iv a.length), (14, bv q)], H⟩) (hq2 : a ≠ b → Q .ret ⟨lk [(4, bv false)], H⟩) :
    ∀ (j i : Nat), i + j = a.length → (∀ x : Nat, x < i → a[x]? = b[x]?) → LoopC (cx Tryd.prog w0 I0 n0) l1_centoref16_SameInts Q ⟨lk [(0, ivs f a), (1, ivs g b), (5, iv i)], H⟩ := by
  intro j
  induction j with
  | zero =>
    intro i hi hb
    have : i = a.length := by omega
    subst this
    refine loopC_once mixed l1_centoref16_SameInts.eq_1 ?_
    simp
    refine hq (List.ext_getElem? fun x => ?_) _
    by_cases hx : x < a.length
    · exact hb x hx
    · rw [List.getElem?_eq_none (by omega), List.getElem?_eq_none (by omega)]
  | succ j ih =>
    intro i hi hb
    have hlt : i < a.length := by omega
    have hlt2 : i < b.length := by omega
    have ei : IntKind.i64.wrap ((i : Int) + 1) = ((i + 1 : Nat) : Int) := i64q (by omega) (by omega)
    refine loopC_once mixed l1_centoref16_SameInts.eq_1 ?_
    simp [hlt, hlt2]
    refine ⟨fun h => ?_, fun h => hq2 fun e => h (by subst e; rfl)⟩
    rw [ei]
    refine ih (i + 1) (by omega) fun x hx => ?_
    by_cases e : x = i
    · subst e; rw [List.getElem?_eq_getElem hlt, List.getElem?_eq_getElem hlt2]; congr 1
    · exact hb x (by omega)
end
theorem sameInts_spec {f g : Bool} {a b : List Int} (hl : a.length ≤ 1000000) : G.Spec Tryd.prog 20 [ivs f a, ivs g b] (bv (decide (a = b))) := by
  refine spec_of t_centoref16_SameInts (by simp) fun w0 I0 => ?_
  unfold c_centoref16_SameInts
  by_cases he : a.length = b.length
  · simp [he]
    refine sameJ_l1 hl he (fun h q => ?_) (fun h => ?_) a.length 0 (by omega) (fun x hx => by omega)
    · simp
      exact frz_is rfl (by simp [h])
    · simp
      exact frz_is rfl (by simp [h])
  · have hne : a ≠ b := fun e => he (by rw [e])
    simp [he]
    refine ⟨fun h => absurd (by omega) he, fun _ => ?_⟩
    exact frz_is rfl (by simp [hne])
section
variable {n0 : Nat} {w0 : World} {I0 : Nat → Prop} {Q : Exit → Sta → Prop} {H : Hp}
theorem sameB_l1 {f g : Bool} {a b : List UInt8} (hl : a.length ≤ 1000000) (he : a.length = b.length) (hq : a = b → ∀ q, Q (.exit 0) ⟨lk [(0, u8s f a), (1, u8s g b), (5, iv a.length), (14, bv q)], H⟩) (hq2 : a ≠ b → Q .ret ⟨lk [(4, bv false)], H⟩) :
    ∀ (j i : Nat), i + j = a.length → (∀ x : Nat, x < i → a[x]? = b[x]?) → LoopC (cx Tryd.prog w0 I0 n0) l1_centoref01_SameBytes Q ⟨lk [(0, u8s f a), (1, u8s g b), (5, iv i)], H⟩ := by
  intro j
  induction j with
  | zero =>
    intro i hi hb
    have : i = a.length := by omega
    subst this
    refine loopC_once mixed l1_centoref01_SameBytes.eq_1 ?_
    simp
    refine hq (List.ext_getElem? fun x => ?_) _
    by_cases hx : x < a.length
    · exact hb x hx
    · rw [List.getElem?_eq_none (by omega), List.getElem?_eq_none (by omega)]
  | succ j ih =>
    intro i hi hb
    have hlt : i < a.length := by omega
    have hlt2 : i < b.length := by omega
    have ei : IntKind.i64.wrap ((i : Int) + 1) = ((i + 1 : Nat) : Int) := i64q (by omega) (by omega)
    refine loopC_once mixed l1_centoref01_SameBytes.eq_1 ?_
    simp [hlt, hlt2]
    refine ⟨fun h => ?_, fun h => hq2 fun e => h (by subst e; rfl)⟩
    rw [ei]
    refine ih (i + 1) (by omega) fun x hx => ?_
    by_cases e : x = i
    · subst e; rw [List.getElem?_eq_getElem hlt, List.getElem?_eq_getElem hlt2]; congr 1; first | exact h | exact UInt8.toNat.inj (by omega) | (apply UInt8.toNat.inj; simpa using h)
    · exact hb x (by omega)
end
theorem sameBytes_spec {f g : Bool} {a b : List UInt8} (hl : a.length ≤ 1000000) : G.Spec Tryd.prog 19 [u8s f a, u8s g b] (bv (decide (a = b))) := by
  refine spec_of t_centoref01_SameBytes (by simp) fun w0 I0 => ?_
  unfold c_centoref01_SameBytes
  by_cases he : a.length = b.length
  · simp [he]
    refine sameB_l1 hl he (fun h q => ?_) (fun h => ?_) a.length 0 (by omega) (fun x hx => by omega)
    · simp
      exact frz_is rfl (by simp [h])
    · simp
      exact frz_is rfl (by simp [h])
  · have hne : a ≠ b := fun e => he (by rw [e])
    simp [he]
    refine ⟨fun h => absurd (by omega) he, fun _ => ?_⟩
    exact frz_is rfl (by simp [hne])
end Go.Proofs.YtkjnbdgkpofobaaDoor

/-
  Chapter 34's laws: is a command the document's?
-/
namespace Go.Proofs.YtkjnbdgkpofobaaDoor
set_option linter.unusedVariables false
set_option linter.unusedSimpArgs false
open Go Go.G Go.Proofs Go.PL
theorem same_spec (f g f' g' : Bool) (op op' : Int) (xs xs' : List Int) (bs bs' : List UInt8) (hx : xs.length ≤ 1000000) (hb : bs.length ≤ 1000000) : G.Spec Tryd.prog 13 [cmd f g op xs bs, cmd f' g' op' xs' bs'] (bv (decide (op = op' ∧ xs = xs' ∧ bs = bs'))) := by
  refine spec_of t_centolaw34_same (by simp) fun w0 I0 => ?_
  unfold c_centolaw34_same
  by_cases h1 : op = op'
  · simp [h1]
    refine sc_call_gt (q := true) rfl (fun _ => sameInts_spec (f := f) (g := f') (a := xs) (b := xs') hx) (fun _ => rfl) rfl ?_
    by_cases h2 : xs = xs'
    · simp [h2]
      refine sc_call_gt (q := true) rfl (fun _ => sameBytes_spec (f := g) (g := g') (a := bs) (b := bs') hb) (fun _ => rfl) rfl ?_
      simp
      exact frz_bool (by simp)
    · simp [h2]
      refine sc_call_gt (L := []) (x := bv false) (q := false) rfl (fun h => by cases h) (fun h => by cases h) rfl ?_
      simp
      exact frz_bool (by simp)
  · simp [h1]
    refine sc_call_gt (L := []) (x := bv false) (q := false) rfl (fun h => by cases h) (fun h => by cases h) rfl ?_
    simp
    refine sc_call_gt (L := []) (x := bv false) (q := false) rfl (fun h => by cases h) (fun h => by cases h) rfl ?_
    simp
    exact frz_bool (by simp)
end Go.Proofs.YtkjnbdgkpofobaaDoor

/-
  Chapter 34's laws: the bytes as digits.
-/
namespace Go.Proofs.YtkjnbdgkpofobaaDoor
set_option linter.unusedVariables false
set_option linter.unusedSimpArgs false
open Go Go.G Go.Proofs Go.PL
def lineA : List UInt8 := [100, 105, 102, 102, 32, 50, 32, 48, 32, 49]
theorem awake_parse : parse34 lineA = some (4, [2, 0, 1], []) := by
  have h : right34 (4 : Nat) [2, 0, 1] [] = true := by decide
  have := parse_print h
  rw [show print34 (4 : Nat) [2, 0, 1] [] = lineA by
    unfold print34
    rw [if_pos h]
    simp [line34, tail34, Lib.itoa, dd_lt]
    decide] at this
  exact this
theorem awake34_spec : G.Spec Tryd.prog 6 [] (bv true) := by
  have hP := cparse_spec lineA (by decide)
  rw [awake_parse, resA_some] at hP
  have hR := cprint_spec false false 4 [2, 0, 1] [] (by decide) (by decide)
  have e : print34 4 [2, 0, 1] [] = lineA := (print_parse awake_parse).2
  rw [e] at hR
  refine spec_of t_centolaw34_awake (by simp) fun w0 I0 => ?_
  unfold c_centolaw34_awake
  unfold lineA at hP hR
  simp
  refine sc_call hP rfl ?_
  simp
  refine sc_call_gt (q := true) rfl (fun _ => sameInts_spec (f := false) (g := true) (a := [2, 0, 1]) (b := [2, 0, 1]) (by decide)) (fun _ => rfl) rfl ?_
  simp
  refine sc_call_gt (q := true) rfl (fun _ => hR) (fun _ => rfl) rfl ?_
  simp [str_eql]
  exact frz_bare rfl
end Go.Proofs.YtkjnbdgkpofobaaDoor

/-
  Chapter 34's laws: CommandHex.
-/
namespace Go.Proofs.YtkjnbdgkpofobaaDoor
set_option linter.unusedVariables false
set_option linter.unusedSimpArgs false
open Go Go.G Go.Proofs Go.PL
theorem CommandHex_spec (f : Bool) (bs s : List UInt8) : G.Spec Tryd.prog 5 [u8s f bs, S s] (bv true) := by
  refine spec_of t_centolaw34_CommandHex (by simp) fun w0 I0 => ?_
  unfold c_centolaw34_CommandHex
  by_cases h1 : (2000 : Int) < bs.length
  · simp [h1]
    refine sc_call awake34_spec rfl ?_
    simp
    exact frz_bare rfl
  · by_cases h2 : (2000 : Int) < s.length
    · simp [h1, h2]
      refine sc_call awake34_spec rfl ?_
      simp
      exact frz_bare rfl
    · have hl := hexB_len bs
      have hu := unhex_spec (hexB bs) (by omega)
      unfold unA34 at hu
      rw [unhexB_hexB] at hu
      have hu2 := unhex_spec s (by omega)
      have hr2 := runhex_spec s (by omega)
      simp [h1, h2]
      refine sc_call (hex_spec f bs (by omega)) rfl ?_
      simp
      refine sc_call hu rfl ?_
      simp
      refine sc_call hu2 rfl ?_
      unfold unA34
      cases e : unhexB s with
      | none =>
        unfold unA34 at hr2
        rw [e] at hr2
        simp
        refine sc_call hr2 rfl ?_
        simp
        refine sc_call (rhexB_spec f bs (by omega)) rfl ?_
        simp [str_eql]
        refine sc_call_gt (q := true) rfl (fun _ => sameBytes_spec (f := false) (g := f) (a := bs) (b := bs) (by omega)) (fun _ => rfl) rfl ?_
        simp
        refine sc_call_gt (q := true) rfl (fun _ => sameBytes_spec (f := false) (g := false) (a := []) (b := []) (by decide)) (fun _ => rfl) rfl ?_
        simp
        refine sc_call_gf (L := []) (x := S []) (q := true) rfl (fun h => by cases h) (fun h => by cases h) rfl ?_
        simp
        refine sc_call_gt (q := true) rfl (fun _ => awake34_spec) (fun _ => rfl) rfl ?_
        simp
        exact frz_bare rfl
      | some r =>
        have hr3 := hexB_ge r
        rw [hexB_unhexB e] at hr3
        have hh := hex_spec false r (by omega)
        rw [hexB_unhexB e] at hh
        unfold unA34 at hr2
        rw [e] at hr2
        simp
        refine sc_call hr2 rfl ?_
        simp
        refine sc_call (rhexB_spec f bs (by omega)) rfl ?_
        simp [str_eql]
        refine sc_call_gt (q := true) rfl (fun _ => sameBytes_spec (f := false) (g := f) (a := bs) (b := bs) (by omega)) (fun _ => rfl) rfl ?_
        simp
        refine sc_call_gt (q := true) rfl (fun _ => sameBytes_spec (f := false) (g := false) (a := r) (b := r) (by omega)) (fun _ => rfl) rfl ?_
        simp
        refine sc_call_gf (q := false) rfl (fun _ => hh) (fun _ => rfl) rfl ?_
        simp [str_eql]
        refine sc_call_gt (q := true) rfl (fun _ => awake34_spec) (fun _ => rfl) rfl ?_
        simp
        exact frz_bare rfl
end Go.Proofs.YtkjnbdgkpofobaaDoor

/-
  Chapter 34's laws: CommandPrints.
-/
namespace Go.Proofs.YtkjnbdgkpofobaaDoor
set_option linter.unusedVariables false
set_option linter.unusedSimpArgs false
open Go Go.G Go.Proofs Go.PL
theorem str_neq {l m : List UInt8} : strA .neq ⟨l.toArray⟩ ⟨m.toArray⟩ = some (bv (decide (l ≠ m))) := by
  by_cases h : l = m
  · subst h; simp [strA]
  · have : ¬ (ByteArray.mk l.toArray = ByteArray.mk m.toArray) := by rw [str_inj]; exact h
    simp [strA, h]
theorem print34_len {op : Int} {xs : List Int} {bs : List UInt8} (hx : xs.length ≤ 10) (hb : bs.length ≤ 2000) : (print34 op xs bs).length ≤ 1000000 := by
  unfold print34
  split
  · rename_i h
    obtain ⟨h0, h1, h2, h3, h4, h5⟩ := right34_iff.1 h
    have hj : ∀ (l : List (List UInt8)) (k : Nat), (∀ x, x ∈ l → x.length ≤ k) → (Lib.join l [32]).length ≤ l.length * (k + 1) := by
      intro l
      induction l with
      | nil => intro k _; simp [Lib.join]
      | cons x l ih =>
        intro k hk
        cases l with
        | nil => rw [join_one']; have := hk x (by simp); simp; omega
        | cons y l =>
          have e1 := ih k (fun z hz => hk z (List.mem_cons_of_mem _ hz))
          have e2 := hk x (by simp)
          rw [join_cons2, List.length_append, List.length_append]
          simp only [List.length_cons, List.length_nil] at e1 ⊢
          rw [Nat.add_mul (l.length + 1) 1]
          omega
    have hl : (line34 op.toNat xs bs).length ≤ 12 := by
      unfold line34 tail34
      split
      · simp; omega
      · split <;> simp <;> omega
    have hk : ∀ x, x ∈ line34 op.toNat xs bs → x.length ≤ 5000 := by
      intro x hx'
      unfold line34 at hx'
      rcases List.mem_append.1 hx' with hx' | hx'
      · rcases List.mem_cons.1 hx' with e | hx'
        · subst e
          have : ∀ k, k < 15 → (nm34 k).length ≤ 5000 := by decide
          exact this _ (by omega)
        · obtain ⟨n, hn, rfl⟩ := List.mem_map.1 hx'
          rw [itoa_small (h3 n hn).1]
          have := h3 n hn
          have := dd_len (k := 10) (u := n.toNat) (by omega) (by omega)
          omega
      · unfold tail34 at hx'
        split at hx'
        · rw [List.mem_singleton] at hx'; subst hx'
          unfold hexB
          split
          · simp
          · rw [hex2_len]; omega
        · split at hx'
          · rw [List.mem_singleton] at hx'; subst hx'; omega
          · cases hx'
    have := hj _ 5000 hk
    have h6 : (line34 op.toNat xs bs).length * (5000 + 1) ≤ 12 * (5000 + 1) := Nat.mul_le_mul_right _ hl
    omega
  · simp
theorem CommandPrints_spec (f g : Bool) (op : Int) (xs : List Int) (bs : List UInt8) : G.Spec Tryd.prog 3 [cmd f g op xs bs] (bv true) := by
  refine spec_of t_centolaw34_CommandPrints (by simp) fun w0 I0 => ?_
  unfold c_centolaw34_CommandPrints
  by_cases h1 : (10 : Int) < xs.length
  · simp [h1]
    refine sc_call awake34_spec rfl ?_
    simp
    exact frz_bare rfl
  · by_cases h2 : (2000 : Int) < bs.length
    · simp [h1, h2]
      refine sc_call awake34_spec rfl ?_
      simp
      exact frz_bare rfl
    · have hx : xs.length ≤ 1000000 := by omega
      have hb : bs.length ≤ 1000000 := by omega
      have hl := print34_len (op := op) (xs := xs) (bs := bs) (by omega) (by omega)
      simp [h1, h2]
      refine sc_call (mine_spec f g op xs bs) rfl ?_
      simp
      refine sc_call (cprint_spec false false op xs bs hx hb) rfl ?_
      simp
      refine sc_call (rprint_spec f g op xs bs hx hb) rfl ?_
      simp [str_neq]
      refine sc_call_gf (q := false) rfl (fun _ => mine_spec f g op xs bs) (fun _ => rfl) rfl ?_
      simp
      refine sc_call_gf (q := false) rfl (fun _ => right_spec false false op xs bs hx hb) (fun _ => rfl) rfl ?_
      simp
      refine sc_call_gf (q := false) rfl (fun _ => rright_spec f g op xs bs hx hb) (fun _ => rfl) rfl ?_
      simp
      refine sc_call (rright_spec f g op xs bs hx hb) rfl ?_
      cases hr : right34 op xs bs with
      | false =>
        simp
        refine sc_call awake34_spec rfl ?_
        simp
        exact frz_bare rfl
      | true =>
        obtain ⟨h0, h3, _⟩ := right34_iff.1 hr
        obtain ⟨k, rfl⟩ : ∃ k : Nat, op = k := ⟨op.toNat, by omega⟩
        have hp := cparse_spec (print34 k xs bs) hl
        rw [parse_print hr, resA_some] at hp
        simp
        refine sc_call hp rfl ?_
        simp
        refine sc_call_gt (q := true) rfl (fun _ => same_spec false false f g k k xs xs bs bs hx hb) (fun _ => rfl) rfl ?_
        simp
        refine sc_call_gt (q := true) rfl (fun _ => awake34_spec) (fun _ => rfl) rfl ?_
        simp
        exact frz_bare rfl
end Go.Proofs.YtkjnbdgkpofobaaDoor

/-
  A line is read, by the document: the loop over the commands.
-/
namespace Go.Proofs.YtkjnbdgkpofobaaDoor
set_option linter.unusedVariables false
set_option linter.unusedSimpArgs false
open Go Go.G Go.Proofs Go.PL
section
variable {n0 : Nat} {w0 : World} {I0 : Nat → Prop} {Q : Exit → Sta → Prop}
theorem rparse_k1 {op : Nat} {r : List Int} {bs : List UInt8} {q f : Bool} {u v : Nat} {row : A} {H : Hp} (hr : r.length ≤ 1000000) (hb : bs.length ≤ 1000000) (h0 : H [0] = ⟨1, .cells [iv 0, .sl true [], .sl true []]⟩) (h1 : H [1] = ⟨u, .cells [iv op, .osl [2] v 1 0 r.length, u8s f bs]⟩) (h2 : H [2] = ⟨v, .arr 1 (r.map iv)⟩)
    (hy : q = true → right34 op r bs = true → ∀ H' : Hp, H' [0] = ⟨1, .cells [iv op, .osl [2] v 1 0 r.length, u8s f bs]⟩ → H' [2] = ⟨v, .arr 1 (r.map iv)⟩ → Q .ret ⟨lk [(2, .pob [0] 1 0), (3, bv true)], H'⟩)
    (hn : ¬ (q = true ∧ right34 op r bs = true) → Q .normal ⟨lk [(2, .pob [0] 1 0), (4, row), (5, iv op), (9, .pob [1] u 0), (94, bv false)], H⟩) :
    WPC (cx Tryd.prog w0 I0 n0) k1_centoref34_Parse Q ⟨lk [(2, .pob [0] 1 0), (4, row), (5, iv op), (9, .pob [1] u 0), (11, bv q)], H⟩ := by
  rw [k1_centoref34_Parse.eq_1]
  cases q with
  | false =>
    simp [h0, h1]
    refine sc_callb_gt (x := bv false) (q := false) [cmd false f op r bs] rfl (fun h => by cases h) (fun h => by cases h) (by simp) ?_
    simp [h0, h1]
    exact hn (by simp)
  | true =>
    simp [h0, h1]
    refine sc_callb_gt (q := true) [cmd false f op r bs] rfl (fun _ => (rright_spec false f op r bs hr hb).toB rfl) (fun _ => ?_) (by simp) ?_
    · simp
      exact frz_agg ⟨frz_bare rfl, frz_ivs h2, frz_bare rfl, trivial⟩
    · cases hR : right34 op r bs with
      | false =>
        simp [h0, h1]
        exact hn (by simp [hR])
      | true =>
        simp [h0, h1]
        exact hy rfl hR _ (by simp) (by simp [updF, h2])
theorem rest34_eq {op : Nat} {tl : List (List UInt8)} {bs : Option (List UInt8)} (hb : bytes34 op (tl.drop (na34 op)) = bs) : rest34 op tl = if ((tl.take (na34 op)).map rnum34).all smallI = true then bs.map (fun b => (op, (tl.take (na34 op)).map rnum34, b)) else none := by
  unfold rest34 args34
  rw [hb, nums_rnum]
  by_cases h : ((tl.take (na34 op)).map rnum34).all smallI = true
  · rw [if_pos h, if_pos h]
    cases bs <;> rfl
  · rw [if_neg h, if_neg h]
/-- behind the numbers: the bytes, and is it right? -/
theorem rparse_k2 {op : Nat} (ho : op < 15) {h : List UInt8} {tl : List (List UInt8)} (hm : ∀ x, x ∈ tl → x.length ≤ 1000000) (hl : tl.length = len34 op) {q f : Bool} {bs : List UInt8} {u v : Nat} {H : Hp} {kd : Int} (hkd : kd = bk34 op) (hb : bs.length ≤ 1000000)
    (hk : bk34 op = 2 ∧ q = true ∨ bk34 op ≠ 2 ∧ bytes34 op (tl.drop (na34 op)) = (if q = true then some bs else none) ∧ (bk34 op = 0 → bs = []))
    (h0 : H [0] = ⟨1, .cells [iv 0, .sl true [], .sl true []]⟩) (h1 : H [1] = ⟨u, .cells [iv op, .osl [2] v 1 0 (na34 op), u8s f bs]⟩) (h2 : H [2] = ⟨v, .arr 1 (((tl.take (na34 op)).map rnum34).map iv)⟩)
    (hy : ∀ (r : List Int) (b : List UInt8) (g : Bool), rest34 op tl = some (op, r, b) → ∀ H' : Hp, H' [0] = ⟨1, .cells [iv op, .osl [2] v 1 0 r.length, u8s g b]⟩ → H' [2] = ⟨v, .arr 1 (r.map iv)⟩ → Q .ret ⟨lk [(2, .pob [0] 1 0), (3, bv true)], H'⟩)
    (hn : rest34 op tl = none → ∀ H' : Hp, H' [0] = ⟨1, .cells [iv 0, .sl true [], .sl true []]⟩ → Q .normal ⟨lk [(2, .pob [0] 1 0), (4, .sl false ((h :: tl).map S)), (5, iv op), (9, .pob [1] u 0), (94, bv false)], H'⟩) :
    WPC (cx Tryd.prog w0 I0 n0) k2_centoref34_Parse Q ⟨lk [(2, .pob [0] 1 0), (4, .sl false ((h :: tl).map S)), (5, iv op), (7, iv (na34 op)), (8, iv kd), (9, .pob [1] u 0), (11, bv q)], H⟩ := by
  subst hkd
  have hnl : na34 op ≤ tl.length := by rw [hl]; unfold len34; split <;> omega
  have hn5 := na34_le op
  have hrl : ((tl.take (na34 op)).map rnum34).length = na34 op := by simp; omega
  have hR : ∀ b, right34 op ((tl.take (na34 op)).map rnum34) b = (((tl.take (na34 op)).map rnum34).all smallI && (if bk34 op = 2 then decide (b ≠ []) && b.all prn else decide (bk34 op = 1) || decide (b = []))) := fun b => by
    unfold right34
    rw [Int.toNat_natCast, show decide (0 ≤ (op : Int)) = true by simp, show decide ((op : Int) < 15) = true by simp; omega, hrl]
    simp
  have fin : ∀ (q' g : Bool) (b : List UInt8) (H1 : Hp), b.length ≤ 1000000 → H1 [0] = ⟨1, .cells [iv 0, .sl true [], .sl true []]⟩ → H1 [1] = ⟨u, .cells [iv op, .osl [2] v 1 0 (na34 op), u8s g b]⟩ → H1 [2] = ⟨v, .arr 1 (((tl.take (na34 op)).map rnum34).map iv)⟩ →
      (rest34 op tl = if q' = true ∧ right34 op ((tl.take (na34 op)).map rnum34) b = true then some (op, (tl.take (na34 op)).map rnum34, b) else none) →
      WPC (cx Tryd.prog w0 I0 n0) k1_centoref34_Parse Q ⟨lk [(2, .pob [0] 1 0), (4, .sl false ((h :: tl).map S)), (5, iv op), (9, .pob [1] u 0), (11, bv q')], H1⟩ := fun q' g b H1 hb' g0 g1 g2 hr => by
    refine rparse_k1 (r := (tl.take (na34 op)).map rnum34) (bs := b) (f := g) (u := u) (v := v) (by omega) hb' g0 (by rw [hrl]; exact g1) g2 (fun e1 e2 H' a0 a2 => ?_) (fun e => ?_)
    · rw [if_pos ⟨e1, e2⟩] at hr
      exact hy _ b g hr H' a0 a2
    · rw [if_neg e] at hr
      exact hn hr _ g0
  rw [k2_centoref34_Parse.eq_1]
  rcases hk with ⟨e2, rfl⟩ | ⟨e2, e3, e4⟩
  · have hlt : na34 op < tl.length := by rw [hl]; unfold len34; rw [if_neg (by omega)]; omega
    have ew : IntKind.i64.wrap ((na34 op : Int) + 1) = ((na34 op + 1 : Nat) : Int) := i64q (by omega) (by omega)
    have hx : (tl.drop (na34 op)).headD [] = tl[na34 op] := by rw [List.drop_eq_getElem_cons hlt]; rfl
    have hbt : bytes34 op (tl.drop (na34 op)) = if tl[na34 op] ≠ [] ∧ tl[na34 op].all prn = true then some tl[na34 op] else none := by
      unfold bytes34
      rw [if_neg (by omega), if_pos e2, hx]
    have hr := rest34_eq hbt
    simp [e2, hlt, h1, ew, show (0 : Int) ≤ (na34 op : Int) + 1 by omega, show ((na34 op : Int) + 1).toNat = na34 op + 1 by omega]
    refine fin true false tl[na34 op] _ (hm _ (List.getElem_mem hlt)) (by simp [updF, h0]) (by simp) (by simp [updF, h2]) ?_
    rw [hr, hR, if_pos e2]
    by_cases a1 : ((tl.take (na34 op)).map rnum34).all smallI = true
    · rw [if_pos a1, a1]
      by_cases a2 : tl[na34 op] ≠ [] ∧ tl[na34 op].all prn = true
      · rw [if_pos a2, if_pos (by simp only [true_and, Bool.true_and, Bool.and_eq_true, decide_eq_true_eq]; exact a2)]
        rfl
      · rw [if_neg a2, if_neg (by simp only [true_and, Bool.true_and, Bool.and_eq_true, decide_eq_true_eq]; exact a2)]
        rfl
    · rw [if_neg a1, if_neg (by simp only [Bool.and_eq_true]; exact fun q => a1 q.2.1)]
  · simp [show ¬ ((bk34 op : Int) = 2) by omega]
    refine fin q f bs H hb h0 h1 h2 ?_
    rw [rest34_eq e3, hR, if_neg e2]
    have : (decide (bk34 op = 1) || decide (bs = [])) = true := by
      rcases bk34_is op with e | e | e
      · simp [e4 e]
      · simp [e]
      · exact (e2 e).elim
    rw [this, Bool.and_true]
    cases q <;> cases (((tl.take (na34 op)).map rnum34).all smallI) <;> simp
set_option maxHeartbeats 4000000 in
theorem rparse_l2 {h : List UInt8} {tl : List (List UInt8)} (hm : ∀ x, x ∈ tl → x.length ≤ 1000000) (htl : tl.length ≤ 1000000)
    (hn : (∀ k, k < 15 → try34 k h tl = none) → ∀ H' : Hp, H' [0] = ⟨1, .cells [iv 0, .sl true [], .sl true []]⟩ → Q (.exit 0) ⟨lk [(2, .pob [0] 1 0), (4, .sl false ((h :: tl).map S)), (5, iv 15), (15, bv false)], H'⟩)
    (hy : ∀ (k v : Nat) (r : List Int) (b : List UInt8) (g : Bool), k < 15 → try34 k h tl = some (k, r, b) → ∀ H' : Hp, H' [0] = ⟨1, .cells [iv k, .osl [2] v 1 0 r.length, u8s g b]⟩ → H' [2] = ⟨v, .arr 1 (r.map iv)⟩ → Q .ret ⟨lk [(2, .pob [0] 1 0), (3, bv true)], H'⟩) :
    ∀ (m op : Nat) (H : Hp), op + m = 15 → (∀ k, k < op → try34 k h tl = none) → H [0] = ⟨1, .cells [iv 0, .sl true [], .sl true []]⟩ →
    LoopC (cx Tryd.prog w0 I0 n0) l2_centoref34_Parse Q ⟨lk [(2, .pob [0] 1 0), (4, .sl false ((h :: tl).map S)), (5, iv op)], H⟩ := by
  intro m
  induction m with
  | zero =>
    intro op H hi hb h0
    have : op = 15 := by omega
    subst this
    refine loopC_once mixed l2_centoref34_Parse.eq_1 ?_
    simp
    exact hn hb H h0
  | succ m ih =>
    intro op H hi hb h0
    have ho : op < 15 := by omega
    have hn5 := na34_le op
    have e1 : IntKind.i64.wrap ((op : Int) + 1) = ((op + 1 : Nat) : Int) := i64q (by omega) (by omega)
    have e2 : IntKind.i64.wrap ((na34 op : Int) + 1) = ((na34 op + 1 : Nat) : Int) := i64q (by omega) (by omega)
    have e3 : IntKind.i64.wrap ((na34 op : Int) + 2) = ((na34 op + 2 : Nat) : Int) := i64q (by omega) (by omega)
    have next : try34 op h tl = none → ∀ H' : Hp, H' [0] = ⟨1, .cells [iv 0, .sl true [], .sl true []]⟩ → LoopC (cx Tryd.prog w0 I0 n0) l2_centoref34_Parse Q ⟨lk [(2, .pob [0] 1 0), (4, .sl false ((h :: tl).map S)), (5, iv ((op + 1 : Nat) : Int))], H'⟩ := fun e H' g0 =>
      ih (op + 1) H' (by omega) (fun k hk => by
        by_cases ek : k = op
        · subst ek; exact e
        · exact hb k (by omega)) g0
    refine loopC_once mixed l2_centoref34_Parse.eq_1 ?_
    simp [show (op : Int) < 15 by omega]
    refine sc_call (rname_spec op) rfl ?_
    unfold nameA
    rw [if_pos (by omega), Int.toNat_natCast]
    by_cases a1 : h = nm34 op
    · subst a1
      by_cases a2 : tl.length = len34 op
      · have hT : try34 op (nm34 op) tl = rest34 op tl := by unfold try34; rw [if_pos ⟨rfl, a2⟩]
        have hll : len34 op = if bk34 op = 0 then na34 op else na34 op + 1 := rfl
        have hnl : na34 op ≤ tl.length := by rw [a2, hll]; split <;> omega
        have loop : ∀ (kd : Int) (H1 : Hp) (u : Nat), H1 [0] = ⟨1, .cells [iv 0, .sl true [], .sl true []]⟩ → H1 [1] = ⟨u, .cells [iv op, .sl true [], .sl true []]⟩ → ∀ (Q' : Exit → Sta → Prop),
            (∀ (H' : Hp) (v' : Nat), H' [0] = ⟨1, .cells [iv 0, .sl true [], .sl true []]⟩ → H' [1] = ⟨u, .cells [iv op, .osl [2] v' 1 0 (na34 op), .sl true []]⟩ → H' [2] = ⟨v', .arr 1 (((tl.take (na34 op)).map rnum34).map iv)⟩ → Q' (.exit 2) ⟨lk [(2, .pob [0] 1 0), (4, .sl false ((nm34 op :: tl).map S)), (5, iv op), (7, iv (na34 op)), (8, iv kd), (9, .pob [1] u 0), (10, iv (na34 op)), (55, bv false)], H'⟩) →
            LoopC (cx Tryd.prog w0 I0 n0) l1_centoref34_Parse Q' ⟨lk [(2, .pob [0] 1 0), (4, .sl false ((nm34 op :: tl).map S)), (5, iv op), (7, iv (na34 op)), (8, iv kd), (9, .pob [1] u 0), (10, iv (0 : Nat))], H1⟩ := fun kd H1 u g0 g1 Q' k => by
          refine LoopC.le (le_blankC (d := [1]) 1 [2] 1 g1 rfl (by simp)) ?_
          exact rparse_n1 hm hnl hn5 (na34 op) 0 ((H1 [2]).u + 1) u _ (by omega) (by simp [updF, g0]) (by simp [updF]) (by simp [updF]) k
        rcases bk34_is op with e | e | e
        · rw [if_pos e] at hll
          have p2 : ((tl.length : Int) = (na34 op : Int)) = True := eq_true (by omega)
          have p3 : (tl.length = na34 op) = True := eq_true (by omega)
          simp [str_neq, e, e1, e2, e3, p2, p3]
          refine LoopC.le (le_list [(2, .pob [0] 1 0), (4, .sl false ((nm34 op :: tl).map S)), (5, iv op), (7, iv (na34 op)), (8, iv 0), (9, .pob [1] ((H [1]).u + 1) 0), (10, iv (0 : Nat))] (by simp)) ?_
          refine loop 0 _ _ (by simp [updF, h0]) (by simp) _ fun H' v' g0 g1 g2 => ?_
          simp
          refine rparse_k2 (h := nm34 op) ho hm a2 (q := true) (f := true) (bs := []) (kd := 0) (by rw [e]; rfl) (by simp) (.inr ⟨by omega, by unfold bytes34; rw [if_neg (by omega), if_neg (by omega)]; rfl, fun _ => rfl⟩) g0 g1 g2 (fun r b g hr H2 a0 a2' => ?_) (fun hr H2 a0 => ?_)
          · simp
            exact hy op _ r b g ho (hT.trans hr) H2 a0 a2'
          · simp [e1]
            exact next (hT.trans hr) H2 a0
        · rw [if_neg (by omega)] at hll
          have p2 : ((tl.length : Int) + 1 = (na34 op : Int) + 2) = True := eq_true (by omega)
          have p3 : (tl.length = na34 op + 1) = True := eq_true (by omega)
          simp [str_neq, e, e1, e2, e3, p2, p3]
          refine LoopC.le (le_list [(2, .pob [0] 1 0), (4, .sl false ((nm34 op :: tl).map S)), (5, iv op), (7, iv (na34 op)), (8, iv 1), (9, .pob [1] ((H [1]).u + 1) 0), (10, iv (0 : Nat))] (by simp)) ?_
          refine loop 1 _ _ (by simp [updF, h0]) (by simp) _ fun H' v' g0 g1 g2 => ?_
          have hlt : na34 op < tl.length := by omega
          have hx : (tl.drop (na34 op)).headD [] = tl[na34 op] := by rw [List.drop_eq_getElem_cons hlt]; rfl
          have hu := runhex_spec tl[na34 op] (hm _ (List.getElem_mem hlt))
          simp [hlt, e2, show (0 : Int) ≤ (na34 op : Int) + 1 by omega, show ((na34 op : Int) + 1).toNat = na34 op + 1 by omega]
          refine sc_call hu rfl ?_
          unfold unA34
          have hbt : bytes34 op (tl.drop (na34 op)) = unhexB tl[na34 op] := by unfold bytes34; rw [if_pos e, hx]
          cases ex : unhexB tl[na34 op] with
          | none =>
            rw [ex] at hbt
            simp [g1]
            refine rparse_k2 (h := nm34 op) ho hm a2 (q := false) (f := false) (bs := []) (v := v') (kd := 1) (by rw [e]; rfl) (by simp) (.inr ⟨by omega, hbt, fun q => by omega⟩) (by simp [updF, g0]) (by simp) (by simp [updF, g2]) (fun r b g hr H2 a0 a2' => ?_) (fun hr H2 a0 => ?_)
            · simp
              exact hy op _ r b g ho (hT.trans hr) H2 a0 a2'
            · simp [e1]
              exact next (hT.trans hr) H2 a0
          | some bs =>
            rw [ex] at hbt
            have hb1 := hexB_ge bs
            rw [hexB_unhexB ex] at hb1
            have hb2 := hm _ (List.getElem_mem hlt)
            simp [g1]
            refine rparse_k2 (h := nm34 op) ho hm a2 (q := true) (f := false) (bs := bs) (v := v') (kd := 1) (by rw [e]; rfl) (by omega) (.inr ⟨by omega, hbt, fun q => by omega⟩) (by simp [updF, g0]) (by simp) (by simp [updF, g2]) (fun r b g hr H2 a0 a2' => ?_) (fun hr H2 a0 => ?_)
            · simp
              exact hy op _ r b g ho (hT.trans hr) H2 a0 a2'
            · simp [e1]
              exact next (hT.trans hr) H2 a0
        · rw [if_neg (by omega)] at hll
          have p2 : ((tl.length : Int) + 1 = (na34 op : Int) + 2) = True := eq_true (by omega)
          have p3 : (tl.length = na34 op + 1) = True := eq_true (by omega)
          simp [str_neq, e, e1, e2, e3, p2, p3]
          refine LoopC.le (le_list [(2, .pob [0] 1 0), (4, .sl false ((nm34 op :: tl).map S)), (5, iv op), (7, iv (na34 op)), (8, iv 2), (9, .pob [1] ((H [1]).u + 1) 0), (10, iv (0 : Nat))] (by simp)) ?_
          refine loop 2 _ _ (by simp [updF, h0]) (by simp) _ fun H' v' g0 g1 g2 => ?_
          simp
          refine rparse_k2 (h := nm34 op) ho hm a2 (q := true) (f := true) (bs := []) (kd := 2) (by rw [e]; rfl) (by simp) (.inl ⟨e, rfl⟩) g0 g1 g2 (fun r b g hr H2 a0 a2' => ?_) (fun hr H2 a0 => ?_)
          · simp
            exact hy op _ r b g ho (hT.trans hr) H2 a0 a2'
          · simp [e1]
            exact next (hT.trans hr) H2 a0
      · have hT : try34 op (nm34 op) tl = none := by unfold try34; rw [if_neg (fun q => a2 q.2)]
        have hll : len34 op = if bk34 op = 0 then na34 op else na34 op + 1 := rfl
        rcases bk34_is op with e | e | e
        · rw [if_pos e] at hll
          have p2 : ¬ ((tl.length : Int) = (na34 op : Int)) := by omega
          have p3 : ¬ (tl.length = na34 op) := by omega
          simp [str_neq, e, e1, e2, e3, p2, p3]
          exact next hT H h0
        · rw [if_neg (by omega)] at hll
          have p2 : ¬ ((tl.length : Int) + 1 = (na34 op : Int) + 2) := by omega
          have p3 : ¬ (tl.length = na34 op + 1) := by omega
          simp [str_neq, e, e1, e2, e3, p2, p3]
          exact next hT H h0
        · rw [if_neg (by omega)] at hll
          have p2 : ¬ ((tl.length : Int) + 1 = (na34 op : Int) + 2) := by omega
          have p3 : ¬ (tl.length = na34 op + 1) := by omega
          simp [str_neq, e, e1, e2, e3, p2, p3]
          exact next hT H h0
    · have hT : try34 op h tl = none := by unfold try34; rw [if_neg (fun q => a1 q.1)]
      simp [str_neq, a1, e1]
      exact next hT H h0
end
/-- what the document's Parse answers -/
def rresA (o : Option (Nat × List Int × List UInt8)) : A := match o with
  | some (op, xs, bs) => .tup [cmd false false op xs bs, bv true]
  | none => .tup [cmd false false 0 [] [], bv false]
def par34 (h : List UInt8) (tl : List (List UInt8)) : Option (Nat × List Int × List UInt8) := match ix34 h with
  | none => none
  | some op => try34 op h tl
theorem parse34_par (s : List UInt8) : parse34 s = par34 ((split32 s).headD []) (split32 s).tail := parse34_try s
set_option maxHeartbeats 1000000 in
theorem rparse_spec (s : List UInt8) (hl : s.length ≤ 1000000) : G.Spec Tryd.prog 14 [S s] (rresA (parse34 s)) := by
  refine spec_of t_centoref34_Parse (by simp) fun w0 I0 => ?_
  unfold c_centoref34_Parse
  simp
  refine sc_call (rwords_spec s hl) rfl ?_
  have hp := split_cnt s
  have hm : ∀ x, x ∈ split32 s → x.length ≤ 1000000 := fun x hx => Nat.le_trans (split_mem hx) hl
  rw [parse34_par]
  rw [split32_cons s] at hp hm ⊢
  generalize (split32 s).headD [] = h at *
  generalize (split32 s).tail = tl at *
  simp only [List.headD_cons, List.tail_cons]
  simp
  refine LoopC.le (le_list [(2, .pob [0] 1 0), (4, .sl false ((h :: tl).map S)), (5, iv (0 : Nat))] (by simp)) ?_
  have hix : ∀ k r b, k < 15 → try34 k h tl = some (k, r, b) → par34 h tl = some (k, r, b) := fun k r b hk e => by
    have : ix34 h = some k := by
      by_cases q : ix34 h = some k
      · exact q
      · rw [try34_other (op := 0) hk q] at e; cases e
    unfold par34; rw [this]; exact e
  have hno : (∀ k, k < 15 → try34 k h tl = none) → par34 h tl = none := fun q => by
    unfold par34
    cases e : ix34 h with
    | none => rfl
    | some k => exact q k (nm34_ix e).1
  refine rparse_l2 (fun x hx => hm x (List.mem_cons_of_mem _ hx)) (by simp at hp; omega) (fun hn H' g0 => ?_) (fun k v r b g hk e H' g0 g2 => ?_) 15 0 _ (by omega) (fun k hk => by omega) (by simp)
  · rw [hno hn]
    simp [g0]
    exact frz_tup ⟨frz_agg ⟨frz_bare rfl, frz_sl, frz_sl, trivial⟩, frz_bare rfl, trivial⟩
  · rw [hix k r b hk e]
    simp [g0]
    exact frz_tup ⟨frz_agg ⟨frz_bare rfl, frz_ivs g2, frz_sl, trivial⟩, frz_bare rfl, trivial⟩
end Go.Proofs.YtkjnbdgkpofobaaDoor

/-
  Chapter 34's laws: CommandParses.
-/
namespace Go.Proofs.YtkjnbdgkpofobaaDoor
set_option linter.unusedVariables false
set_option linter.unusedSimpArgs false
open Go Go.G Go.Proofs Go.PL
theorem parse34_lens {s : List UInt8} {op : Nat} {xs : List Int} {bs : List UInt8} (h : parse34 s = some (op, xs, bs)) : xs.length ≤ 5 ∧ bs.length ≤ s.length := by
  obtain ⟨hr, hp⟩ := print_parse h
  obtain ⟨h0, h1, h2, h3, h4, h5⟩ := right34_iff.1 hr
  refine ⟨by rw [h2]; exact na34_le _, ?_⟩
  unfold print34 at hp
  rw [if_pos hr] at hp
  have hj : ∀ x, x ∈ line34 ((op : Int)).toNat xs bs → x.length ≤ s.length := fun x hx => by rw [← hp]; exact join_mem _ x hx
  rw [Int.toNat_natCast] at hj h4 h5
  rcases bk34_is op with e | e | e
  · rw [h5 e]; simp
  · have := hj (hexB bs) (by unfold line34 tail34; rw [if_pos e]; simp)
    have := hexB_ge bs
    omega
  · exact hj bs (by unfold line34 tail34; rw [if_neg (by omega), if_pos e]; simp)
theorem parses_k1 (s : List UInt8) (hl : s.length ≤ 2000) {w0 : World} {I0 : Nat → Prop} : WPC (cx Tryd.prog w0 I0 51) k1_centolaw34_CommandParses (RetC Tryd.prog [.tmp 2] (bv true)) ⟨lk [(0, S s)], lkH []⟩ := by
  have hc := cparse_spec s (by omega)
  have hr := rparse_spec s (by omega)
  rw [k1_centolaw34_CommandParses.eq_1]
  cases e : parse34 s with
  | none =>
    rw [e, resA_none] at hc
    rw [e] at hr
    unfold rresA at hr
    simp
    refine sc_call hc rfl ?_
    simp
    refine sc_call hr rfl ?_
    simp
    refine sc_call (same_spec false false false false 0 0 [] [] [] [] (by simp) (by simp)) rfl ?_
    simp
    refine sc_call_gf (x := bv false) (L := []) (q := true) rfl (fun h => by cases h) (fun h => by cases h) rfl ?_
    simp
    refine sc_call_gt (q := true) rfl (fun _ => awake34_spec) (fun _ => rfl) rfl ?_
    simp
    exact frz_bare rfl
  | some x =>
    obtain ⟨op, xs, bs⟩ := x
    obtain ⟨l1, l2⟩ := parse34_lens e
    obtain ⟨p1, p2⟩ := print_parse e
    rw [e, resA_some] at hc
    rw [e] at hr
    unfold rresA at hr
    have hp := cprint_spec false false op xs bs (by omega) (by omega)
    rw [p2] at hp
    simp
    refine sc_call hc rfl ?_
    simp
    refine sc_call hr rfl ?_
    simp
    refine sc_call (same_spec false false false false op op xs xs bs bs (by omega) (by omega)) rfl ?_
    simp
    refine sc_call_gf (q := false) rfl (fun _ => hp) (fun _ => rfl) rfl ?_
    simp [str_eql]
    refine sc_call_gt (q := true) rfl (fun _ => awake34_spec) (fun _ => rfl) rfl ?_
    simp
    exact frz_bare rfl
theorem CommandParses_spec (s : List UInt8) : G.Spec Tryd.prog 4 [S s] (bv true) := by
  refine spec_of t_centolaw34_CommandParses (by simp) fun w0 I0 => ?_
  unfold c_centolaw34_CommandParses
  by_cases h2 : (2000 : Int) < s.length
  · simp [h2, show (2000 : Int) ≤ s.length by omega]
    have := parses_k1 (s.take 2000) (by simp; omega) (w0 := w0) (I0 := I0)
    exact this
  · simp [h2]
    have := parses_k1 s (by omega) (w0 := w0) (I0 := I0)
    exact this
end Go.Proofs.YtkjnbdgkpofobaaDoor

/-
  Chapter 34: each law, whatever its arguments hold.
-/
namespace Go.Proofs.YtkjnbdgkpofobaaDoor
set_option linter.unusedVariables false
set_option linter.unusedSimpArgs false
open Go Go.G Go.Proofs Go.PL Go.RowKit
theorem und41_i : Tryd.prog.underlying 3 = some (.int .i64) := by kernel_rfl
theorem und41_b : Tryd.prog.underlying 5 = some (.int .u8) := by kernel_rfl
theorem und41_s : Tryd.prog.underlying 9 = some .string := by kernel_rfl
theorem has41_i {n : Nat} {b : List A} (h : Has Tryd.prog n 3 b) : ∃ m : Int, b = [iv m] := by
  cases n with
  | zero => exact h.elim
  | succ n =>
    unfold Has at h
    rw [und41_i] at h
    obtain ⟨m, hm, rfl⟩ := h
    exact ⟨m, rfl⟩
theorem has41_b {n : Nat} {b : List A} (h : Has Tryd.prog n 5 b) : ∃ c : UInt8, b = [u8v c] := by
  cases n with
  | zero => exact h.elim
  | succ n =>
    unfold Has at h
    rw [und41_b] at h
    obtain ⟨m, hm, rfl⟩ := h
    have h2 : 0 ≤ m ∧ m < 256 := by
      simp [Lit.wf, IntKind.min, IntKind.max, IntKind.bits, IntKind.signed] at hm
      omega
    refine ⟨UInt8.ofNat m.toNat, ?_⟩
    have : ((UInt8.ofNat m.toNat).toNat : Int) = m := by
      rw [UInt8.toNat_ofNat']; omega
    show [A.v (.int .u8 m)] = [A.v (.int .u8 ((UInt8.ofNat m.toNat).toNat : Int))]
    rw [this]
theorem has41_s {n : Nat} {b : List A} (h : Has Tryd.prog n 9 b) : ∃ l, b = [S l] := by
  cases n with
  | zero => exact h.elim
  | succ n =>
    unfold Has at h
    rw [und41_s] at h
    obtain ⟨s, _, _, rfl⟩ := h
    exact ⟨s.data.toList, by unfold S; rw [str_eta]⟩
theorem mk41_i (b : List A) : mk Tryd.prog 3 b = b.headD .any := by unfold mk; rw [und41_i]
theorem mk41_b (b : List A) : mk Tryd.prog 5 b = b.headD .any := by unfold mk; rw [und41_b]
theorem mk41_s (b : List A) : mk Tryd.prog 9 b = b.headD .any := by unfold mk; rw [und41_s]
theorem row41 {α : Type} {xs : List A} {g : α → A} (h : ∀ x, x ∈ xs → ∃ y, x = g y) : ∃ l : List α, xs = l.map g := by
  induction xs with
  | nil => exact ⟨[], rfl⟩
  | cons x xs ih =>
    obtain ⟨y, rfl⟩ := h x (by simp)
    obtain ⟨l, rfl⟩ := ih fun z hz => h z (by simp [hz])
    exact ⟨y :: l, rfl⟩
theorem has41_sl {P : Program} {t e : TypeId} (u : P.underlying t = some (.slice e)) {n : Nat} {b : List A} (h : Has P n t b) {α : Type} {g : α → A} (hx : ∀ k b, Has P k e b → ∃ y, mk P e b = g y) : ∃ (f : Bool) (l : List α), b = [.sl f (l.map g)] := by
  cases n with
  | zero => exact h.elim
  | succ n =>
    unfold Has at h
    rw [u] at h
    obtain ⟨f, xs, rfl, _, hz, hf, hx'⟩ := h
    obtain ⟨l, rfl⟩ := row41 (g := g) (xs := xs) fun x hxx => by
      obtain ⟨b, hb', rfl⟩ := hx' x hxx
      exact hx n b hb'
    exact ⟨f, l, rfl⟩
theorem has41_bs {n : Nat} {b : List A} (h : Has Tryd.prog n 23 b) : ∃ (f : Bool) (l : List UInt8), b = [u8s f l] :=
  has41_sl (e := 5) (by kernel_rfl) h fun k b hb => by
    obtain ⟨c, rfl⟩ := has41_b hb
    exact ⟨c, by rw [mk41_b]; rfl⟩
theorem has41_is {n : Nat} {b : List A} (h : Has Tryd.prog n 22 b) : ∃ (f : Bool) (l : List Int), b = [ivs f l] :=
  has41_sl (e := 3) (by kernel_rfl) h fun k b hb => by
    obtain ⟨c, rfl⟩ := has41_i hb
    exact ⟨c, by rw [mk41_i]; rfl⟩
theorem mk41_bs (b : List A) : mk Tryd.prog 23 b = b.headD .any := by unfold mk; rw [show Tryd.prog.underlying 23 = some (.slice 5) by kernel_rfl]
theorem und41_c : Tryd.prog.underlying 25 = some (.struct (Tryd.prog.fieldsOf 25)) := by kernel_rfl
theorem fld41_c : (Tryd.prog.fieldsOf 25).toList.map Field.type = [3, 22, 23] := by kernel_rfl
theorem mk41_c (b : List A) : mk Tryd.prog 25 b = .agg b := by unfold mk; rw [und41_c]
theorem has41_c {n : Nat} {b : List A} (h : Has Tryd.prog n 25 b) : ∃ f g op xs bs, A.agg b = cmd f g op xs bs := by
  cases n with
  | zero => exact h.elim
  | succ n =>
    unfold Has at h
    rw [und41_c] at h
    simp only at h
    rw [hasL_types, fld41_c] at h
    obtain ⟨_, _, rfl, h1, _, _, rfl, h2, _, _, rfl, h3, rfl⟩ := h
    obtain ⟨op, rfl⟩ := has41_i h1
    obtain ⟨f, xs, rfl⟩ := has41_is h2
    obtain ⟨g, bs, rfl⟩ := has41_bs h3
    exact ⟨f, g, op, xs, bs, rfl⟩
set_option maxRecDepth 100000 in
theorem said_commandHex (xs : List A) (h : ArgsHas Tryd.prog Tryd.f5.params.toList xs) : G.Spec Tryd.prog 5 xs (.v (.bool true)) := by
  have h : ArgsHas Tryd.prog [23, 9] xs := h
  match xs, h with
  | [a, a2], ⟨⟨n, b, h1, h2⟩, ⟨n2, b2, h12, h22⟩, _⟩ =>
    obtain ⟨f, l, rfl⟩ := has41_bs h1
    obtain ⟨s, rfl⟩ := has41_s h12
    rw [h2, mk41_bs, h22, mk41_s]
    exact CommandHex_spec f l s
set_option maxRecDepth 100000 in
theorem said_commandPrints (xs : List A) (h : ArgsHas Tryd.prog Tryd.f3.params.toList xs) : G.Spec Tryd.prog 3 xs (.v (.bool true)) := by
  have h : ArgsHas Tryd.prog [25] xs := h
  match xs, h with
  | [a], ⟨⟨n, b, h1, h2⟩, _⟩ =>
    obtain ⟨f, g, op, xs, bs, e⟩ := has41_c h1
    rw [h2, mk41_c, e]
    exact CommandPrints_spec f g op xs bs
set_option maxRecDepth 100000 in
theorem said_commandParses (xs : List A) (h : ArgsHas Tryd.prog Tryd.f4.params.toList xs) : G.Spec Tryd.prog 4 xs (.v (.bool true)) := by
  have h : ArgsHas Tryd.prog [9] xs := h
  match xs, h with
  | [a], ⟨⟨n, b, h1, h2⟩, _⟩ =>
    obtain ⟨s, rfl⟩ := has41_s h1
    rw [h2, mk41_s]
    exact CommandParses_spec s
end Go.Proofs.YtkjnbdgkpofobaaDoor
