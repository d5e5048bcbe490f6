/-
  Chapter 5: ArenaApart.
-/
import Derived.Test.YtfdlelcipnabpaaD05e
namespace Go.Proofs.Ytfdlelcipnabpaa
set_option linter.unusedVariables false
set_option linter.unusedSimpArgs false
open Go Go.G Go.Proofs

/-- What was given: a segment, a place, how much. -/
structure Tri where
  s : Int
  at_ : Int
  n : Int
abbrev Tri.a (g : Tri) : A := .agg [iv g.s, iv g.at_, iv g.n]

set_option pp.deepTerms true in
set_option pp.maxSteps 1000000 in
theorem apart_l1 {n0 : Nat} {w0 : World} {I0 : Nat → Prop} {Q : Exit → Sta → Prop} {F : Nm → VOb} {xs : A} {G : List Tri} {u : Nat} {i s at_ n : Int} (hGl : G.length < 1000) (hn : 0 ≤ n) (hn1 : n ≤ 31) (ha : 0 ≤ at_) (ha1 : at_ ≤ 131072)
    (hG : ∀ g, g ∈ G → 0 ≤ g.at_ ∧ 0 ≤ g.n ∧ g.at_ + g.n ≤ 131072 ∧ (g.s = s → g.at_ + g.n ≤ at_)) : ∀ (j k : Nat), k + j = G.length → ∀ H1 : Hp, H1 [1] = ⟨u, .arr 3 (G.map Tri.a)⟩ →
    (∀ H2 : Hp, H2 [1] = ⟨u, .arr 3 (G.map Tri.a)⟩ → Q (.exit 2) ⟨lk [(2, xs), (7, .pob [2] 1 0), (8, .osl [1] u 3 0 G.length), (9, iv i), (10, iv n), (11, iv s), (12, iv at_), (14, iv G.length), (46, bv false)], ov 2 F H2⟩) →
    LoopC (cx Try.prog w0 I0 n0) l1_centolaw05_ArenaApart Q ⟨lk [(2, xs), (7, .pob [2] 1 0), (8, .osl [1] u 3 0 G.length), (9, iv i), (10, iv n), (11, iv s), (12, iv at_), (14, iv k)], ov 2 F H1⟩ := by
  intro j
  induction j with
  | zero =>
    intro k hk H1 h1 hq
    have : k = G.length := by omega
    subst this
    refine loopC_once mixed l1_centolaw05_ArenaApart.eq_1 ?_
    simp
    exact hq H1 h1
  | succ j ih =>
    intro k hk H1 h1 hq
    have hlen : G.length < 1000 := hGl
    have hlt : k < G.length := by omega
    refine loopC_once mixed l1_centolaw05_ArenaApart.eq_1 ?_
    simp [hlt, h1]
    obtain ⟨g1, g2, g3, g4⟩ := hG G[k] (List.getElem_mem hlt)
    rw [i64_same (n := G[k].at_ + G[k].n) (by omega) (by omega), i64_same (n := (k : Int) + 1) (by omega) (by omega)]
    refine ⟨fun a b c d e => ?_, fun _ => ?_⟩
    · have := g4 a
      omega
    · have := ih (k + 1) (by omega) (updF H1 [0] ⟨(H1 [0]).u + 1, .cells [iv G[k].s, iv G[k].at_, iv G[k].n]⟩) (by simp [updF_app, h1]) hq
      simpa using this

/-- What was given lies in its segment. -/
def InvG (S : Ar) (G : List Tri) : Prop := ∀ g, g ∈ G → 0 ≤ g.s ∧ g.s < S.l.length ∧ 0 ≤ g.at_ ∧ 0 ≤ g.n ∧ g.at_ + g.n ≤ szAt S.w g.s
theorem i64_and31 (n : Int) : bits .and .i64 n 31 = n % 32 := by
  have h7 : (BitVec.ofInt 64 31).toNat = 2 ^ 5 - 1 := by decide
  have key : (BitVec.ofInt 64 n &&& BitVec.ofInt 64 31).toNat = (n % ((2 ^ 64 : Nat) : Int)).toNat % 2 ^ 5 := by
    rw [BitVec.toNat_and, BitVec.toNat_ofInt, h7, Nat.and_two_pow_sub_one_eq_mod]
  show IntKind.i64.wrap ((BitVec.ofInt 64 n &&& BitVec.ofInt 64 31).toNat : Nat) = n % 32
  rw [key, IntKind.wrap_i64]
  omega
theorem szAt_nat {S : Ar} {k : Nat} : Go.Proofs.Ytfdlelcipnabpaa.szAt S.w k = ((S.l[k]?).map fun e => e.2.length).getD 0 := by
  simp [Go.Proofs.Ytfdlelcipnabpaa.szAt, Go.Proofs.Ytfdlelcipnabpaa.seg, Ar.w]
  cases S.l[k]? <;> rfl
/-- What Give does to the sizes. -/
theorem give_sizes {S : Ar} (h : S.Ok) {n : Int} (ho : okGive S n = true) : ∃ k : Nat, ((atS S n).l.length : Int) - 1 = k ∧ k < (giveS S n).l.length ∧ S.l.length ≤ (giveS S n).l.length ∧ (giveS S n).u = S.u ∧
    (szAt (giveS S n).w k : Int) = szAt (atS S n).w k + n ∧ (∀ j : Nat, j < S.l.length → szAt S.w j ≤ szAt (giveS S n).w j) ∧ (k < S.l.length → szAt (atS S n).w k = szAt S.w k) := by
  have hg : giveS S n = growS (atS S n) ((atS S n).l.length - 1) n.toNat := by rw [giveS, if_pos ho]
  have hn : 0 ≤ n := by simp [okGive] at ho; exact ho.1
  have hl : (atS S n).l.length ≠ 0 ∧ S.l.length ≤ (atS S n).l.length ∧ ∀ j : Nat, j < S.l.length → (atS S n).l[j]? = S.l[j]? := by
    unfold atS
    split
    · refine ⟨by simp [moreS], by simp [moreS], fun j hj => ?_⟩
      simp [moreS, List.getElem?_append, hj]
    · rename_i hs
      refine ⟨fun e => hs (by simp [newSeg, e]), Nat.le_refl _, fun j hj => rfl⟩
  have hu : (atS S n).u = S.u := by unfold atS; split <;> rfl
  obtain ⟨l0, l1, l2⟩ := hl
  refine ⟨(atS S n).l.length - 1, by omega, by rw [hg]; simp [growS]; omega, by rw [hg]; simpa [growS] using l1, by rw [hg]; exact hu, ?_, fun j hj => ?_, fun hk => ?_⟩
  · rw [hg, szAt_nat, szAt_nat]
    have hlt : (atS S n).l.length - 1 < (atS S n).l.length := by omega
    simp [growS, List.getElem?_modify, hlt]
    omega
  · rw [hg, szAt_nat, szAt_nat]
    simp only [growS, List.getElem?_modify, l2 j hj]
    cases S.l[j]? with
    | none => simp
    | some e =>
      simp
      split <;> simp
  · rw [szAt_nat, szAt_nat, l2 _ hk]

theorem give_inv {S : Ar} (h : S.Ok) {n : Int} (ho : okGive S n = true) {G : List Tri} (hG : InvG S G) : InvG (giveS S n) (G ++ [⟨((atS S n).l.length : Int) - 1, szAt (atS S n).w (((atS S n).l.length : Int) - 1), n⟩]) := by
  obtain ⟨k, e, k1, k2, _, k3, k4, k5⟩ := give_sizes h ho
  have hn : 0 ≤ n := by simp [okGive] at ho; exact ho.1
  intro g hg
  rcases List.mem_append.1 hg with hg | hg
  · obtain ⟨a1, a2, a3, a4, a5⟩ := hG g hg
    obtain ⟨j, hj⟩ := Int.eq_ofNat_of_zero_le a1
    rw [hj] at a2 a5
    have := k4 j (by omega)
    refine ⟨a1, by omega, a3, a4, ?_⟩
    rw [hj]
    omega
  · simp at hg
    subst hg
    simp only [e]
    refine ⟨by omega, by omega, by omega, hn, by omega⟩

theorem apart_l2 {n0 : Nat} {w0 : World} {I0 : Nat → Prop} {Q : Exit → Sta → Prop} {f : Bool} {L : List Int} (hL : L.length * 8 ≤ 140737488355328) : ∀ (j i : Nat), i + j = L.length → ∀ (S : Ar) (G : List Tri) (u : Nat) (H1 : Hp), S.Ok → S.u = 1 → InvG S G → G.length ≤ i → i ≤ 60 → H1 [1] = ⟨u, .arr 3 (G.map Tri.a)⟩ →
    (∀ (i' : Nat) (A8 : A) (q : Bool) (H2 : Hp), Q (.exit 0) ⟨lk [(2, .sl f (L.map iv)), (7, .pob [2] 1 0), (8, A8), (9, iv i'), (26, bv q)], H2⟩) →
    LoopC (cx Try.prog w0 I0 n0) l2_centolaw05_ArenaApart Q ⟨lk [(2, .sl f (L.map iv)), (7, .pob [2] 1 0), (8, .osl [1] u 3 0 G.length), (9, iv i)], ov 2 (arF 2 S) H1⟩ := by
  intro j
  induction j with
  | zero =>
    intro i hi S G u H1 hS hu hG hGl h60 h1 hq
    have : i = L.length := by omega
    subst this
    refine loopC_once mixed l2_centolaw05_ArenaApart.eq_1 ?_
    simp
    exact hq _ _ _ _
  | succ j ih =>
    intro i hi S G u H1 hS hu hG hGl h60 h1 hq
    have hlt : i < L.length := by omega
    refine loopC_once mixed l2_centolaw05_ArenaApart.eq_1 ?_
    by_cases h6 : i = 60
    · subst h6
      simp [hlt]
      exact hq _ _ _ _
    have h6' : (i : Int) < 60 := by omega
    simp [hlt, h6', i64_and31]
    have n0 : 0 ≤ L[i] % 32 := by omega
    have n1 : L[i] % 32 ≤ 31 := by omega
    generalize L[i] % 32 = n at n0 n1
    have hF : ∀ p, (ov 2 (arF 2 S) H1) (2 :: p) = arF 2 S p := fun p => rfl
    have hgive := Give_spec S hS n
    refine sc_ar (r := 2) hgive hF (by rw [hu]; rfl) (fun _ _ => rfl) (fun _ => ⟨trivial, trivial⟩) (fun _ _ => rfl) (fun _ => ⟨trivial, trivial, trivial, trivial⟩) (by simp) ?_
    have e9 : IntKind.i64.wrap ((i : Int) + 1) = ((i + 1 : Nat) : Int) := by rw [i64_same (by omega) (by omega)]; rfl
    cases ho : okGive S n with
    | false =>
      have hg : giveS S n = S := by simp [giveS, ho]
      simp [hg, e9]
      have := ih (i + 1) (by omega) S G u H1 hS hu hG (by omega) (by omega) h1 hq
      simpa using this
    | true =>
      obtain ⟨k, e, k1, k2, k3, k4, k5, k6⟩ := give_sizes hS ho
      have hS' := giveS_ok hS n
      have hat := atS_ok hS n
      have hat2 := hat.szAt (k : Int)
      have hused : (atS S n).used ≤ 131072 := by have := hat.used1; have := hat.most1; omega
      have hinv := give_inv hS ho hG
      simp [e]
      refine LoopC.le Le.refl (apart_l1 (G := G) (u := u) (by omega) n0 n1 hat2.1 (by omega) (fun g hg => ?_) G.length 0 (by omega) H1 h1 (fun H2 h2 => ?_))
      · obtain ⟨a1, a2, a3, a4, a5⟩ := hG g hg
        have hb := hS.szAt g.s
        have := hS.used1
        have := hS.most1
        refine ⟨a3, a4, by omega, fun hs => ?_⟩
        have hk : k < S.l.length := by omega
        rw [k6 hk, ← hs]
        exact a5
      · have hu' : (giveS S n).u = 1 := by rw [k3, hu]
        have hfr : Frz (ov 2 (arF 2 (giveS S n)) H2) (.pob [2] 1 0) (giveS S n).a := by
          have := frz_ar (r := 2) (S := giveS S n) (H := H2)
          rwa [hu'] at this
        have hbb : ∀ x, x ∈ (giveS S n).w → x.length * 8 ≤ 140737488355328 := fun x hx => by
          obtain ⟨e', he', rfl⟩ := List.mem_map.1 hx
          have := hS'.seg e' he'
          have := hS'.used1
          have := hS'.most1
          omega
        have hl16 := hS'.len
        simp
        refine sc_callb [(giveS S n).a, iv k, iv (szAt (atS S n).w k), iv n] ((has_spec _ hbb _ _ _).toB rfl) (by simp; exact ⟨hfr, frz_bare rfl, frz_bare rfl, frz_bare rfl⟩) (by simp) ?_
        have hh : hasW (giveS S n).w k (szAt (atS S n).w k) n = true := by
          simp only [hasW, decide_eq_true_eq]
          simp [Ar.w] at k4 ⊢
          refine ⟨k1, n0, ?_⟩
          have := k4
          simp [Ar.w]
          omega
        simp [hh]
        refine sc_callb_gf [(giveS S n).a] rfl (fun _ => (len_spec _).toB rfl) (fun _ => by simp; exact hfr) (by simp) ?_
        have hl : ¬ (16 : Int) < (giveS S n).w.length := by simp [Ar.w]; omega
        simp [hl, h2]
        refine ⟨by omega, ?_⟩
        rw [e9]
        have hiv : InvG (giveS S n) (G ++ [Tri.mk k (szAt (atS S n).w k) n]) := by rw [e] at hinv; exact hinv
        have := ih (i + 1) (by omega) (giveS S n) (G ++ [Tri.mk k (szAt (atS S n).w k) n]) (u + 1) (updF H2 [1] ⟨u + 1, .arr 3 ((G ++ [Tri.mk k (szAt (atS S n).w k) n]).map Tri.a)⟩) hS' hu' hiv (by simp; omega) (by omega) (by simp) hq
        simpa [List.take_of_length_le] using this

theorem ArenaApart_spec (z m : Int) (hz : z < 9223372036854775808) (f : Bool) (L : List Int) (hL : L.length * 8 ≤ 140737488355328) : G.Spec Try.prog 5 [iv z, iv m, .sl f (L.map iv)] (bv true) := by
  refine spec_of t_centolaw05_ArenaApart (by simp) fun w0 I0 => ?_
  unfold c_centolaw05_ArenaApart
  simp
  refine sc_new 2 rfl (New_spec z m) (fun p => rfl) rfl (fun _ _ => rfl) (fun _ => ⟨trivial, trivial, trivial⟩) newAr_fam (by simp) ?_
  simp
  refine LoopC.le (le_blank 8 [1] 3 (by simp)) ?_
  simp
  refine LoopC.le (le_list [(2, .sl f (L.map iv)), (7, .pob [2] 1 0), (8, .osl [1] 1 3 0 0), (9, iv 0)] (by simp [upd])) ?_
  refine apart_l2 hL L.length 0 (by omega) (newAr z m) [] 1 (lkH [([1], ⟨1, .arr 3 []⟩)]) (newAr_ok hz) rfl (fun g hg => nomatch hg) (by simp) (by omega) (by simp) (fun i' A8 q H2 => ?_)
  simp
  refine sc_call awake5_spec rfl ?_
  simp
  exact frz_bare rfl
end Go.Proofs.Ytfdlelcipnabpaa
