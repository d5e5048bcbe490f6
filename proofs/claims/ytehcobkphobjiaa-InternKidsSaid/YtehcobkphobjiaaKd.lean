/-
  Texts, merged, without what is not reached.
-/
import Derived.Test.YtehcobkphobjiaaKc
/-
  Chapter 13's definition: a builder over an arena.
-/
namespace Go.Proofs.Ytehcobkphobjiaa
set_option linter.unusedVariables false
set_option linter.unusedSimpArgs false
open Go Go.G Go.Proofs
/-- A builder and its arena, each at a root of its own. -/
def bdM (u : Nat) (S : Ar) (ok : Bool) : Fam2 := ⟨fun r q p => if p = [] then ⟨u, .cells [.pob [q] S.u 0, bv ok]⟩ else ⟨0, .none⟩, fun _ q => arF q S, fun {g δ r r' q q'} h1 h2 h3 h4 p => ⟨by
    by_cases hp : p = []
    · subst hp
      simp only [if_true]
      exact Fam.cells_ren (by simp [A.renL, A.ren, h3, h4])
    · rw [if_neg hp, if_neg hp]; rfl, arF_ren h3 h4 S p⟩, fun {D r q} h1 h2 p => ⟨by
    by_cases hp : p = []
    · subst hp
      simp only [if_true]
      simp [Ob.refs, A.refsL, A.refs, h2]
    · rw [if_neg hp]; trivial, arF_refs h2 S p⟩⟩
@[simp] theorem bdM_B {u : Nat} {S : Ar} {ok : Bool} {r q : Nat} {p : Nm} : (bdM u S ok).B r q p = if p = [] then ⟨u, .cells [.pob [q] S.u 0, bv ok]⟩ else ⟨0, .none⟩ := rfl
@[simp] theorem bdM_C {u : Nat} {S : Ar} {ok : Bool} {r q : Nat} : (bdM u S ok).C r q = arF q S := rfl
/-- How many words a segment holds. -/
def wl (S : Ar) (k : Nat) : Nat := ((S.l[k]?).map fun e => e.2.length).getD 0
theorem wl_get {S : Ar} {k : Nat} (h : k < S.l.length) : wl S k = S.l[k].2.length := by simp [wl, h]
theorem wl_lt {S : Ar} {k b : Nat} (h : b < wl S k) : ∃ hk : k < S.l.length, b < S.l[k].2.length := by
  by_cases hk : k < S.l.length
  · exact ⟨hk, by rwa [wl_get hk] at h⟩
  · simp [wl, List.getElem?_eq_none (Nat.le_of_not_lt hk)] at h
/-- All its words are words. -/
def Wd (S : Ar) : Prop := ∀ e, e ∈ S.l → ∀ x, x ∈ e.2 → u64R x
/-- It is good, and holds no less. -/
structure Gr (S S' : Ar) : Prop where
  ok : S'.Ok
  wd : Wd S'
  wl : ∀ k, Go.Proofs.Ytehcobkphobjiaa.wl S k ≤ Go.Proofs.Ytehcobkphobjiaa.wl S' k
theorem Gr.refl {S : Ar} (h : S.Ok) (w : Wd S) : Gr S S := ⟨h, w, fun _ => Nat.le_refl _⟩
theorem Gr.trans {S S' S2 : Ar} (h : Gr S S') (k : Gr S' S2) : Gr S S2 := ⟨k.ok, k.wd, fun i => Nat.le_trans (h.wl i) (k.wl i)⟩
theorem atS_pos (S : Ar) (n : Int) : 1 ≤ (atS S n).l.length := by
  unfold atS
  split
  · simp [moreS]
  · rename_i h
    simp [newSeg] at h
    cases e : S.l with
    | nil => simp [e] at h
    | cons a l => simp
theorem rgiveS_u (S : Ar) (n : Int) : (rgiveS S n).u = S.u := by
  have : (atS S n).u = S.u := by unfold atS; split <;> rfl
  unfold rgiveS
  split
  · exact this
  · rfl
theorem rinS_u (S : Ar) (s n : Int) : (rinS S s n).u = S.u := by
  unfold rinS
  split <;> rfl
theorem bGive_spec (u : Nat) (S : Ar) (h : S.Ok) (ok : Bool) (n : Int) : SpecF2 Try.prog 70 (fun r _ => [.pob [r] u 0, iv n]) (bdM u S ok)
    (fun _ _ => .tup [iv (if okGive S n = true then ((atS S n).l.length : Int) - 1 else -1), iv (if okGive S n = true then (szAt (atS S n).w (((atS S n).l.length : Int) - 1) : Int) else -1)]) (bdM u (rgiveS S n) (ok && okGive S n)) := by
  refine specF2_of t_centoref13_Builder_give (by simp) (famL2_cons (famA2_l famA_pob) (famL2_cons (famA2_l famA_v) famL2_nil)) (famA2_tup (famL2_cons (famA2_l famA_v) (famL2_cons (famA2_l famA_v) famL2_nil))) fun w0 I0 M0 m0 => ?_
  unfold c_centoref13_Builder_give
  simp
  refine sc_ar (r := 1) (rGive_spec S h n) (fun p => by simp) rfl (fun _ _ => rfl) (fun _ => ⟨trivial, trivial⟩) (fun _ _ => rfl) (fun _ => ⟨trivial, trivial, trivial⟩) (by simp) ?_
  simp
  have hp := atS_pos S n
  have hu := rgiveS_u S n
  refine ⟨fun hc => ?_, fun hc => ?_⟩
  · have hk : okGive S n = false := by
      cases e : okGive S n with
      | false => rfl
      | true => rw [if_pos e] at hc; omega
    refine reth_fam2 rfl rfl (fun p => ?_) (fun p => ?_)
    · by_cases hp : p = []
      · subst hp; simp [updF_app, hk, hu]
      · simp [updF_app, hp, hk]
    · simp
  · have hk : okGive S n = true := by
      cases e : okGive S n with
      | true => rfl
      | false => simp [e] at hc
    refine reth_fam2 rfl rfl (fun p => ?_) (fun p => ?_)
    · simp [hk, hu]
    · simp
/-- A word is written. -/
def wrS (S : Ar) (k b : Nat) (w : Int) : Ar := { S with l := S.l.modify k fun e => (e.1, e.2.set b w) }
theorem wrS_gr {S : Ar} (h : S.Ok) (hw : Wd S) (k b : Nat) {w : Int} (hu : u64R w) : Gr S (wrS S k b w) := by
  refine ⟨⟨h.used0, h.used1, h.most1, h.size0, h.size1, by simpa [wrS] using h.len, fun e he => ?_⟩, fun e he x hx => ?_, fun i => ?_⟩
  · simp only [wrS] at he ⊢
    obtain ⟨i, hi, rfl⟩ := List.getElem_of_mem he
    simp only [List.getElem_modify]
    simp at hi
    have := h.seg _ (List.getElem_mem hi)
    split
    · simpa using this
    · exact this
  · simp only [wrS] at he
    obtain ⟨i, hi, rfl⟩ := List.getElem_of_mem he
    simp only [List.getElem_modify] at hx
    simp at hi
    split at hx
    · rcases List.mem_or_eq_of_mem_set hx with hx | rfl
      · exact hw _ (List.getElem_mem hi) x hx
      · exact hu
    · exact hw _ (List.getElem_mem hi) x hx
  · unfold wl
    simp only [wrS, List.getElem?_modify]
    cases e : S.l[i]? with
    | none => simp
    | some e =>
      by_cases hk : k = i
      · simp [hk]
      · simp [hk]
theorem reth_fam2N {c : Cx} {rs : List ResultVar} {x : A} {F' N : Nm → VOb} {r0 : A} {st : Sta} (h : resA c.P st rs = some r0) (he : r0 = x) (hh : ∀ p, st.H (0 :: p) = F' p) (hn : ∀ p, st.H (1 :: p) = N p) : RetH c rs 2 x (ov 0 F' (ov 1 N (lkH []))) .normal st :=
  reth_normal h he fun i p hi => by
    by_cases h0 : i = 0
    · subst h0
      rw [hh]
      simp
    · have : i = 1 := by omega
      subst this
      rw [hn]
      simp
/-- Alike but for one segment's words. -/
theorem arF_wr {r : Nat} {S : Ar} {k b : Nat} {w : Int} (hk : k < S.l.length) : updF (arF r S) [0, k] ⟨S.l[k].1, .arr 1 ((S.l[k].2.map uv).set b (uv w))⟩ = arF r (wrS S k b w) := by
  funext p
  refine updF_is ?_ (fun h1 => ?_)
  · simp [wrS, List.getElem?_modify, hk]
  · match p, h1 with
    | [], _ => simp [wrS]
    | [0], _ =>
      have e : rowS r (S.l.modify k fun e => (e.1, e.2.set b w)) = rowS r S.l := by
        apply List.ext_getElem
        · simp
        · intro i g1 g2
          simp only [rowS_get, List.getElem_modify]
          by_cases e : k = i
          · subst e; simp
          · simp [e]
      simp [e, wrS]
    | [0, i], h1 =>
      have : k ≠ i := fun e => h1 (by rw [e])
      simp [List.getElem?_modify, this, wrS]
    | (a + 1) :: q, _ => rfl
    | 0 :: a :: b :: q, _ => rfl
theorem bPut_off (u : Nat) (S : Ar) (s a w : Int) : SpecF2 Try.prog 112 (fun r _ => [.pob [r] u 0, iv s, iv a, uv w]) (bdM u S false) (fun _ _ => .tup []) (bdM u S false) := by
  refine specF2_of t_centoref13_Builder_put (by simp) (famL2_cons (famA2_l famA_pob) (famL2_cons (famA2_l famA_v) (famL2_cons (famA2_l famA_v) (famL2_cons (famA2_l famA_v) famL2_nil)))) (famA2_tup famL2_nil) fun w0 I0 M0 m0 => ?_
  unfold c_centoref13_Builder_put
  simp
  exact reth_fam2N rfl rfl (fun p => by simp) (fun p => by simp)
theorem bPut_on (u : Nat) (S : Ar) (k b : Nat) (w : Int) (hb : b < wl S k) : SpecF2 Try.prog 112 (fun r _ => [.pob [r] u 0, iv k, iv b, uv w]) (bdM u S true) (fun _ _ => .tup []) (bdM u (wrS S k b w) true) := by
  refine specF2_of t_centoref13_Builder_put (by simp) (famL2_cons (famA2_l famA_pob) (famL2_cons (famA2_l famA_v) (famL2_cons (famA2_l famA_v) (famL2_cons (famA2_l famA_v) famL2_nil)))) (famA2_tup famL2_nil) fun w0 I0 M0 m0 => ?_
  unfold c_centoref13_Builder_put
  obtain ⟨hk, hb'⟩ := wl_lt hb
  have hb2 : (b : Int) < S.l[k].2.length := by omega
  simp [hk, hb', hb2]
  rw [arF_wr hk]
  exact reth_fam2N rfl rfl (fun p => by simp [wrS]) (fun p => by simp)
def nearV (z kd up : Int) : Int := IntKind.u64.wrap (IntKind.u64.wrap (IntKind.u64.wrap (IntKind.i64.wrap (4 * z)) + kd) + IntKind.u64.wrap (up * 4294967296))
theorem near_k1 {w0 : World} {I0 : Nat → Prop} (z kd up : Int) : WPC (cx Try.prog w0 I0 26) k1_centoref13_near (RetC Try.prog [.tmp 8] (uv (nearV z kd up))) ⟨lk [(2, uv kd), (3, uv up), (9, iv z)], lkH []⟩ := by
  unfold k1_centoref13_near
  simp
  exact frz_bare rfl
theorem bNear_spec (f t kd up : Int) : ∃ x, u64R x ∧ G.Spec Try.prog 161 [iv f, iv t, uv kd, uv up] (uv x) := by
  have hu : ∀ z, u64R (nearV z kd up) := fun z => u64_wrap_in _
  by_cases hc : IntKind.i64.wrap (IntKind.i64.wrap (t - f) - 1) < 0
  · refine ⟨nearV (IntKind.i64.wrap (IntKind.i64.wrap (IntKind.i64.wrap (t - f) - 1) + 1073741824)) kd up, hu _, spec_of t_centoref13_near (by simp) fun w0 I0 => ?_⟩
    unfold c_centoref13_near
    simp [hc]
    exact near_k1 _ kd up
  · refine ⟨nearV (IntKind.i64.wrap (IntKind.i64.wrap (t - f) - 1)) kd up, hu _, spec_of t_centoref13_near (by simp) fun w0 I0 => ?_⟩
    unfold c_centoref13_near
    simp [hc]
    exact near_k1 _ kd up
end Go.Proofs.Ytehcobkphobjiaa

/-
  Chapter 13's definition: words one behind the other; pointers.
-/
namespace Go.Proofs.Ytehcobkphobjiaa
set_option linter.unusedVariables false
set_option linter.unusedSimpArgs false
open Go Go.G Go.Proofs
section
variable {n0 : Nat} {w0 : World} {I0 M0 : Nat → Prop} {m0 : Mu} {u : Nat} {W : List Int}
theorem bAll_l1 {k b : Nat} (hW : ∀ x, x ∈ W → u64R x) (hn : W.length ≤ 1000000000) (hb0 : b ≤ 1000000) : ∀ (j i : Nat) (S : Ar), S.Ok → Wd S → i + j = W.length → b + W.length ≤ wl S k →
    ∃ S', Gr S S' ∧ ∀ {n0 : Nat} {w0 : World} {I0 M0 : Nat → Prop} {m0 : Mu} {Q : Exit → Sta → Prop} {H : Hp}, (∀ p, H (0 :: p) = (bdM u S true).B 0 1 p) → (∀ p, H (1 :: p) = arF 1 S p) →
      (∀ s H', (∀ p, H' (0 :: p) = (bdM u S' true).B 0 1 p) → (∀ p, H' (1 :: p) = arF 1 S' p) → Q (.exit 0) ⟨s, H'⟩) →
      LoopC (cxh Try.prog w0 I0 M0 n0 m0) l1_centoref13_Builder_all Q ⟨lk [(0, .pob [0] u 0), (1, iv k), (2, iv b), (3, uws W), (8, iv i)], H⟩ := by
  intro j
  induction j with
  | zero =>
    intro i S h hw hi hb
    refine ⟨S, Gr.refl h hw, fun {n0 w0 I0 M0 m0 Q H} g0 g1 q => ?_⟩
    have : i = W.length := by omega
    subst this
    refine loopC_once mixed l1_centoref13_Builder_all.eq_1 ?_
    simp
    exact q _ _ g0 g1
  | succ j ih =>
    intro i S h hw hi hb
    have hlt : i < W.length := by omega
    have hx : u64R W[i] := hW _ (List.getElem_mem hlt)
    have g := wrS_gr h hw k (b + i) hx
    obtain ⟨S', g', hl⟩ := ih (i + 1) (wrS S k (b + i) W[i]) g.ok g.wd (by omega) (Nat.le_trans hb (g.wl k))
    refine ⟨S', g.trans g', fun {n0 w0 I0 M0 m0 Q H} g0 g1 q => ?_⟩
    refine loopC_once mixed l1_centoref13_Builder_all.eq_1 ?_
    have hlt2 : (i : Int) < W.length := by omega
    have e1 : IntKind.i64.wrap ((b : Int) + i) = ((b + i : Nat) : Int) := (i64_same (n := (b : Int) + i) (by omega) (by omega)).trans (by omega)
    have e2 : IntKind.i64.wrap ((i : Int) + 1) = ((i + 1 : Nat) : Int) := (i64_same (n := (i : Int) + 1) (by omega) (by omega)).trans (by omega)
    simp [hlt, hlt2, e1]
    refine sc_fam2 0 1 (by simp) (bPut_on u S k (b + i) W[i] (by omega)) g0 g1 (by simp [e1]) (by simp) ?_
    simp [e2]
    refine hl (fun p => by simp) (fun p => by simp) q
theorem bAll_l1off {k b : Int} {S : Ar} (hn : W.length ≤ 1000000000) : ∀ (j i : Nat), i + j = W.length → 
    ∀ {Q : Exit → Sta → Prop} {H : Hp}, (∀ p, H (0 :: p) = (bdM u S false).B 0 1 p) → (∀ p, H (1 :: p) = arF 1 S p) →
      (∀ s H', (∀ p, H' (0 :: p) = (bdM u S false).B 0 1 p) → (∀ p, H' (1 :: p) = arF 1 S p) → Q (.exit 0) ⟨s, H'⟩) →
      LoopC (cxh Try.prog w0 I0 M0 n0 m0) l1_centoref13_Builder_all Q ⟨lk [(0, .pob [0] u 0), (1, iv k), (2, iv b), (3, uws W), (8, iv i)], H⟩ := by
  intro j
  induction j with
  | zero =>
    intro i hi Q H g0 g1 q
    have : i = W.length := by omega
    subst this
    refine loopC_once mixed l1_centoref13_Builder_all.eq_1 ?_
    simp
    exact q _ _ g0 g1
  | succ j ih =>
    intro i hi Q H g0 g1 q
    have hlt : i < W.length := by omega
    refine loopC_once mixed l1_centoref13_Builder_all.eq_1 ?_
    have hlt2 : (i : Int) < W.length := by omega
    have e2 : IntKind.i64.wrap ((i : Int) + 1) = ((i + 1 : Nat) : Int) := (i64_same (n := (i : Int) + 1) (by omega) (by omega)).trans (by omega)
    simp [hlt, hlt2]
    refine sc_fam2 0 1 (by simp) (bPut_off u S k (IntKind.i64.wrap (b + i)) W[i]) g0 g1 (by simp) (by simp) ?_
    simp [e2]
    refine ih (i + 1) (by omega) (fun p => by simp) (fun p => by simp) q
end
/-- Words laid one behind the other; nothing where there was no room. -/
theorem bAll_spec (u : Nat) {S : Ar} (h : S.Ok) (hw : Wd S) {W : List Int} (hW : ∀ x, x ∈ W → u64R x) (hn : W.length ≤ 1000000000) (ok : Bool) (s a : Int) (hp : ok = true → ∃ k b : Nat, s = k ∧ a = b ∧ b + W.length ≤ wl S k ∧ b ≤ 1000000) :
    ∃ S', Gr S S' ∧ SpecF2 Try.prog 109 (fun r _ => [.pob [r] u 0, iv s, iv a, uws W]) (bdM u S ok) (fun _ _ => .tup []) (bdM u S' ok) := by
  have fa : FamL2 (fun r _ => [.pob [r] u 0, iv s, iv a, uws W]) := famL2_cons (famA2_l famA_pob) (famL2_cons (famA2_l famA_v) (famL2_cons (famA2_l famA_v) (famL2_cons (famA2_l famA_sl) famL2_nil)))
  cases ok with
  | false =>
    refine ⟨S, Gr.refl h hw, specF2_of t_centoref13_Builder_all (by simp) fa (famA2_tup famL2_nil) fun w0 I0 M0 m0 => ?_⟩
    unfold c_centoref13_Builder_all
    simp
    refine bAll_l1off (S := S) hn W.length 0 (by omega) (fun p => by simp) (fun p => by simp) fun s H' g0 g1 => ?_
    simp
    exact reth_fam2N rfl rfl g0 g1
  | true =>
    obtain ⟨k, b, rfl, rfl, hb, hb0⟩ := hp rfl
    obtain ⟨S', g, hl⟩ := bAll_l1 (u := u) hW hn hb0 W.length 0 S h hw (by omega) hb
    refine ⟨S', g, specF2_of t_centoref13_Builder_all (by simp) fa (famA2_tup famL2_nil) fun w0 I0 M0 m0 => ?_⟩
    unfold c_centoref13_Builder_all
    simp
    refine hl (fun p => by simp) (fun p => by simp) fun s H' g0 g1 => ?_
    simp
    exact reth_fam2N rfl rfl g0 g1
/-! ### what is given -/
theorem addS_wl {S : Ar} {k n i : Nat} (hk : k < S.l.length) : wl (addS S k n) i = wl S i + if i = k then n else 0 := by
  unfold wl
  simp only [addS, segS, List.getElem?_modify]
  by_cases e : k = i
  · subst e
    simp [hk]
  · cases h : S.l[i]? <;> simp [e, Ne.symm e]
theorem addS_gr {S : Ar} (h : S.Ok) (hw : Wd S) {k n : Nat} (hk : k < S.l.length) (hn : S.used + n ≤ S.most) : Gr S (addS S k n) := by
  refine ⟨⟨?_, ?_, h.most1, h.size0, h.size1, by simpa [addS, segS] using h.len, fun e he => ?_⟩, fun e he x hx => ?_, fun i => by rw [addS_wl hk]; omega⟩
  · have := h.used0; simp only [addS]; omega
  · simpa [addS] using hn
  · simp only [addS, segS] at he ⊢
    obtain ⟨i, hi, rfl⟩ := List.getElem_of_mem he
    simp only [List.getElem_modify]
    simp at hi
    have := h.seg _ (List.getElem_mem hi)
    split
    · simp; omega
    · omega
  · simp only [addS, segS] at he
    obtain ⟨i, hi, rfl⟩ := List.getElem_of_mem he
    simp only [List.getElem_modify] at hx
    simp at hi
    split at hx
    · simp only [List.mem_append] at hx
      rcases hx with hx | hx
      · exact hw _ (List.getElem_mem hi) x hx
      · have := List.eq_of_mem_replicate hx
        subst this
        exact ⟨by omega, by omega⟩
    · exact hw _ (List.getElem_mem hi) x hx
theorem atS_gr {S : Ar} (h : S.Ok) (hw : Wd S) (n : Int) : Gr S (atS S n) := by
  refine ⟨atS_ok h n, fun e he x hx => ?_, fun i => ?_⟩
  · unfold atS at he
    split at he
    · simp only [moreS, List.mem_append, List.mem_singleton] at he
      rcases he with he | rfl
      · exact hw e he x hx
      · simp at hx
    · exact hw e he x hx
  · unfold atS
    split
    · unfold wl
      simp only [moreS, List.getElem?_append]
      split
      · exact Nat.le_refl _
      · rw [List.getElem?_eq_none (by omega)]; simp
    · exact Nat.le_refl _
theorem rgive_gr {S : Ar} (h : S.Ok) (hw : Wd S) (n : Int) : Gr S (rgiveS S n) := by
  unfold rgiveS
  split
  · rename_i hg
    simp [okGive] at hg
    have hu : (atS S n).used = S.used ∧ (atS S n).most = S.most := by unfold atS; split <;> exact ⟨rfl, rfl⟩
    have g := atS_gr h hw n
    have hp := atS_pos S n
    refine g.trans (addS_gr g.ok g.wd (by omega) ?_)
    rw [hu.1, hu.2]
    omega
  · exact Gr.refl h hw
/-- What is given lies in the segment. -/
theorem rgive_in {S : Ar} (h : S.Ok) (hw : Wd S) {n : Nat} (hg : okGive S n = true) : ∃ k b : Nat, ((atS S n).l.length : Int) - 1 = k ∧ (szAt (atS S n).w (((atS S n).l.length : Int) - 1) : Int) = b ∧ b + n ≤ wl (rgiveS S n) k ∧ b ≤ 131072 := by
  have hp := atS_pos S n
  have g := atS_gr h hw n
  refine ⟨(atS S n).l.length - 1, wl (atS S n) ((atS S n).l.length - 1), by omega, ?_, ?_, ?_⟩
  · rw [show ((atS S n).l.length : Int) - 1 = (((atS S n).l.length - 1 : Nat) : Int) from by omega, szAt_get (by omega), wl_get (by omega)]
  · simp only [rgiveS, hg, if_true, Int.toNat_natCast]
    rw [addS_wl (by omega)]
    simp
  · rw [wl_get (by omega)]
    have := g.ok.seg _ (List.getElem_mem (show (atS S n).l.length - 1 < (atS S n).l.length by omega))
    have := g.ok.used1
    have := g.ok.most1
    omega
theorem rin_gr {S : Ar} (h : S.Ok) (hw : Wd S) (s n : Int) : Gr S (rinS S s n) := by
  unfold rinS
  split
  · rename_i hg
    simp [okIn] at hg
    exact addS_gr h hw (by omega) (by omega)
  · exact Gr.refl h hw
theorem rin_in {S : Ar} {s : Int} {n : Nat} (hg : okIn S s n = true) : ∃ k : Nat, s = k ∧ (szAt S.w s : Int) = wl S k ∧ wl S k + n ≤ wl (rinS S s n) k := by
  have hg' := hg
  simp [okIn] at hg'
  obtain ⟨k, rfl⟩ := Int.eq_ofNat_of_zero_le hg'.1
  have hk : k < S.l.length := by omega
  refine ⟨k, rfl, ?_, ?_⟩
  · rw [szAt_get hk, wl_get hk]
  · simp only [rinS, hg, if_true, Int.toNat_natCast]
    rw [addS_wl hk]
    simp
end Go.Proofs.Ytehcobkphobjiaa

/-
  Chapter 13's definition: pointers.
-/
namespace Go.Proofs.Ytehcobkphobjiaa
set_option linter.unusedVariables false
set_option linter.unusedSimpArgs false
open Go Go.G Go.Proofs
theorem fa_point {u : Nat} {s a g t kd up : Int} : FamL2 (fun r _ => [.pob [r] u 0, iv s, iv a, iv g, iv t, uv kd, uv up]) := famL2_cons (famA2_l famA_pob) (famL2_cons (famA2_l famA_v) (famL2_cons (famA2_l famA_v) (famL2_cons (famA2_l famA_v) (famL2_cons (famA2_l famA_v) (famL2_cons (famA2_l famA_v) (famL2_cons (famA2_l famA_v) famL2_nil))))))
def farV (c x y : Int) : Int := IntKind.u64.wrap (IntKind.u64.wrap (c + IntKind.u64.wrap (8 * IntKind.u64.wrap x)) + IntKind.u64.wrap (4294967296 * IntKind.u64.wrap y))
theorem farV_in (c x y : Int) : u64R (farV c x y) := u64_wrap_in _
/-- A pointer is laid; nothing where there was no room. -/
theorem bPoint_spec (u : Nat) {S : Ar} (h : S.Ok) (hw : Wd S) (ok : Bool) (s a g t kd up : Int) (hp : ok = true → ∃ k b : Nat, s = k ∧ a = b ∧ b + 1 ≤ wl S k ∧ b ≤ 1000000) :
    ∃ S' ok', Gr S S' ∧ (ok' = true → ok = true) ∧ SpecF2 Try.prog 108 (fun r _ => [.pob [r] u 0, iv s, iv a, iv g, iv t, uv kd, uv up]) (bdM u S ok) (fun _ _ => .tup []) (bdM u S' ok') := by
  cases ok with
  | false =>
    refine ⟨S, false, Gr.refl h hw, id, specF2_of t_centoref13_Builder_point (by simp) fa_point (famA2_tup famL2_nil) fun w0 I0 M0 m0 => ?_⟩
    unfold c_centoref13_Builder_point
    simp
    exact reth_fam2 rfl rfl (fun p => by simp) (fun p => by simp)
  | true =>
    obtain ⟨k, b, rfl, rfl, hb, hb0⟩ := hp rfl
    by_cases h0 : (decide (kd = 0) && decide (up = 0)) = true
    · have g1 := wrS_gr h hw k b (w := 4294967292) ⟨by omega, by omega⟩
      refine ⟨_, true, g1, id, specF2_of t_centoref13_Builder_point (by simp) fa_point (famA2_tup famL2_nil) fun w0 I0 M0 m0 => ?_⟩
      unfold c_centoref13_Builder_point
      simp [h0]
      refine sc_fam2 0 1 (by simp) (bPut_on u S k b 4294967292 (by omega)) (fun p => by simp) (fun p => by simp) (by simp) (by simp) ?_
      simp
      exact reth_fam2 rfl rfl (fun p => by simp) (fun p => by simp)
    have h0 := Bool.eq_false_iff.2 h0
    by_cases hs : g = (k : Int)
    · subst hs
      obtain ⟨x, hx, hN⟩ := bNear_spec b t kd up
      have g1 := wrS_gr h hw k b hx
      refine ⟨_, true, g1, id, specF2_of t_centoref13_Builder_point (by simp) fa_point (famA2_tup famL2_nil) fun w0 I0 M0 m0 => ?_⟩
      unfold c_centoref13_Builder_point
      simp [h0]
      refine sc_call hN (by simp) ?_
      simp
      refine sc_fam2 0 1 (by simp) (bPut_on u S k b x (by omega)) (fun p => by simp) (fun p => by simp) (by simp) (by simp) ?_
      simp
      exact reth_fam2 rfl rfl (fun p => by simp) (fun p => by simp)
    have hs' : ¬ (k : Int) = g := fun e => hs e.symm
    by_cases hi : okIn S g 1 = true
    · obtain ⟨k2, rfl, e1, e2⟩ := rin_in (n := 1) hi
      have gi := rin_gr h hw k2 1
      obtain ⟨x, hx, hN⟩ := bNear_spec (wl S k2) t kd up
      have ga := wrS_gr gi.ok gi.wd k b (farV_in 2 (wl S k2) k2)
      have gb := wrS_gr ga.ok ga.wd k2 (wl S k2) hx
      have hu := rinS_u S k2 1
      have hr1 : b < wl (rinS S k2 1) k := by have := gi.wl k; omega
      have e2 : wl S k2 + 1 ≤ wl (rinS S k2 1) k2 := e2
      have hr2 : wl S k2 < wl (wrS (rinS S k2 1) k b (farV 2 (wl S k2) k2)) k2 := by have := ga.wl k2; omega
      refine ⟨_, true, (gi.trans ga).trans gb, id, specF2_of t_centoref13_Builder_point (by simp) fa_point (famA2_tup famL2_nil) fun w0 I0 M0 m0 => ?_⟩
      unfold c_centoref13_Builder_point
      simp [h0, hs']
      refine sc_ar (r := 1) (rIn_spec S h k2 1) (fun p => by simp) rfl (fun _ _ => rfl) (fun _ => ⟨trivial, trivial, trivial⟩) (fun _ _ => rfl) (fun _ => trivial) (by simp) ?_
      rw [if_pos hi, e1]
      simp
      refine sc_fam2 0 1 (by simp) (bPut_on u (rinS S k2 1) k b (farV 2 (wl S k2) k2) hr1) (fun p => by simp [hu]) (fun p => by simp) (by simp [farV]) (by simp) ?_
      simp
      refine sc_call hN (by simp) ?_
      simp
      refine sc_fam2 0 1 (by simp) (bPut_on u _ k2 (wl S k2) x hr2) (fun p => by simp) (fun p => by simp) (by simp) (by simp) ?_
      simp
      exact reth_fam2 rfl rfl (fun p => by simp) (fun p => by simp)
    · have hi := Bool.eq_false_iff.2 hi
      have hin : rinS S g 1 = S := by simp [rinS, hi]
      by_cases hgv : okGive S 2 = true
      · obtain ⟨k3, b3, e1, e2, e3, e4⟩ := rgive_in h hw (n := 2) hgv
        have gi := rgive_gr h hw 2
        have ga := wrS_gr gi.ok gi.wd k b (farV_in 6 b3 k3)
        have gb := wrS_gr ga.ok ga.wd k3 b3 (farV_in 2 t g)
        have gc := wrS_gr gb.ok gb.wd k3 (b3 + 1) (u64_wrap_in (kd + IntKind.u64.wrap (up * 4294967296)))
        have e1 : ((atS S 2).l.length : Int) - 1 = k3 := e1
        have e2 : (szAt (atS S 2).w (((atS S 2).l.length : Int) - 1) : Int) = b3 := e2
        have e3 : b3 + 2 ≤ wl (rgiveS S 2) k3 := e3
        have hr1 : b < wl (rgiveS S 2) k := by have := gi.wl k; omega
        have hr2 : b3 < wl (wrS (rgiveS S 2) k b (farV 6 b3 k3)) k3 := by have := ga.wl k3; omega
        have hr3 : b3 + 1 < wl (wrS (wrS (rgiveS S 2) k b (farV 6 b3 k3)) k3 b3 (farV 2 t g)) k3 := by have := ga.wl k3; have := gb.wl k3; omega
        refine ⟨_, true, ((gi.trans ga).trans gb).trans gc, id, specF2_of t_centoref13_Builder_point (by simp) fa_point (famA2_tup famL2_nil) fun w0 I0 M0 m0 => ?_⟩
        unfold c_centoref13_Builder_point
        simp [h0, hs']
        refine sc_ar (r := 1) (rIn_spec S h g 1) (fun p => by simp) rfl (fun _ _ => rfl) (fun _ => ⟨trivial, trivial, trivial⟩) (fun _ _ => rfl) (fun _ => trivial) (by simp) ?_
        rw [hi, hin]
        simp
        refine sc_fam2 0 1 (by simp) (bGive_spec u S h true 2) (fun p => by simp) (fun p => by simp) (by simp) (by simp) ?_
        rw [if_pos hgv, if_pos hgv, e2, e1, hgv]
        have ew : IntKind.i64.wrap ((b3 : Int) + 1) = ((b3 + 1 : Nat) : Int) := (i64_same (n := (b3 : Int) + 1) (by omega) (by omega)).trans (by omega)
        simp [ew]
        refine sc_fam2 0 1 (by simp) (bPut_on u (rgiveS S 2) k b (farV 6 b3 k3) hr1) (fun p => by simp) (fun p => by simp) (by simp [farV]) (by simp) ?_
        simp [ew]
        refine sc_fam2 0 1 (by simp) (bPut_on u _ k3 b3 (farV 2 t g) hr2) (fun p => by simp) (fun p => by simp) (by simp [farV]) (by simp) ?_
        simp [ew]
        refine sc_fam2 0 1 (by simp) (bPut_on u _ k3 (b3 + 1) (IntKind.u64.wrap (kd + IntKind.u64.wrap (up * 4294967296))) hr3) (fun p => by simp) (fun p => by simp) (by simp [ew]) (by simp) ?_
        simp
        exact reth_fam2N rfl rfl (fun p => by simp) (fun p => by simp)
      · have hgv := Bool.eq_false_iff.2 hgv
        refine ⟨_, false, rgive_gr h hw 2, (fun e => by cases e), specF2_of t_centoref13_Builder_point (by simp) fa_point (famA2_tup famL2_nil) fun w0 I0 M0 m0 => ?_⟩
        unfold c_centoref13_Builder_point
        simp [h0, hs']
        refine sc_ar (r := 1) (rIn_spec S h g 1) (fun p => by simp) rfl (fun _ _ => rfl) (fun _ => ⟨trivial, trivial, trivial⟩) (fun _ _ => rfl) (fun _ => trivial) (by simp) ?_
        rw [hi, hin]
        simp
        refine sc_fam2 0 1 (by simp) (bGive_spec u S h true 2) (fun p => by simp) (fun p => by simp) (by simp) (by simp) ?_
        simp [hgv]
        exact reth_fam2 rfl rfl (fun p => by simp) (fun p => by simp)
end Go.Proofs.Ytehcobkphobjiaa

/-
  Chapters 12 and 14, plain: trees as words.
-/
namespace Go.PL
set_option linter.unusedVariables false
set_option linter.unusedSimpArgs false
/-- Numbers side by side, of so many bits each. -/
def putL (w : Nat) : List Int → Nat → List Int → List Int
  | [], _, out => out
  | n :: ns, i, out => putL w ns (i + 1) (if w = 0 then out else out.set (i * w / 64) (out.getD (i * w / 64) 0 + n * 2 ^ (i * w % 64)))
def putZ (c : Int) (ns : List Int) : List Int := putL (widthZ c).toNat ns 0 (List.replicate (roomZ c ns.length).toNat 0)
def hd (t : T) : Int := t.words.headD 0
theorem putL_length : ∀ (w : Nat) (ns : List Int) (i : Nat) (out : List Int), (putL w ns i out).length = out.length
  | w, [], i, out => rfl
  | w, n :: ns, i, out => by
    rw [putL, putL_length]
    split <;> simp
@[simp] theorem putZ_length (c : Int) (ns : List Int) : (putZ c ns).length = (roomZ c ns.length).toNat := by simp [putZ, putL_length]
/-! ### numbers side by side -/
/-- So far nothing stands behind. -/
structure PutI (w i : Nat) (out : List Int) : Prop where
  rng : ∀ (j : Nat) (h : j < out.length), 0 ≤ out[j] ∧ out[j] < 18446744073709551616
  here : ∀ (h : i * w / 64 < out.length), out[i * w / 64] < 2 ^ (i * w % 64)
  zero : ∀ (j : Nat) (h : j < out.length), i * w / 64 < j → out[j] = 0
theorem PutI.start (w m : Nat) : PutI w 0 (List.replicate m 0) := ⟨fun j h => by simp, fun h => by simp, fun j h _ => by simp⟩
theorem putI_step {w i : Nat} {out : List Int} (h : PutI w i out) (hw : w = 1 ∨ w = 8 ∨ w = 16 ∨ w = 32 ∨ w = 64) {n : Int} (h0 : 0 ≤ n) (h1 : n < 2 ^ w) (hl : i * w / 64 < out.length) : PutI w (i + 1) (out.set (i * w / 64) (out.getD (i * w / 64) 0 + n * 2 ^ (i * w % 64))) ∧
    0 ≤ out.getD (i * w / 64) 0 ∧ out.getD (i * w / 64) 0 < 2 ^ (i * w % 64) ∧ n * 2 ^ (i * w % 64) < 18446744073709551616 ∧ out.getD (i * w / 64) 0 + n * 2 ^ (i * w % 64) < 18446744073709551616 := by
  have hg : out.getD (i * w / 64) 0 = out[i * w / 64] := by simp [hl]
  rw [hg]
  obtain ⟨r0, r1⟩ := h.rng _ hl
  have hh := h.here hl
  have hs : i * w % 64 + w ≤ 64 := by
    rcases hw with rfl | rfl | rfl | rfl | rfl <;> omega
  have hp : (0 : Int) < 2 ^ (i * w % 64) := Int.pow_pos (by decide)
  have hsum : out[i * w / 64] + n * 2 ^ (i * w % 64) < 2 ^ (i * w % 64 + w) := by
    have e1 : n * 2 ^ (i * w % 64) ≤ (2 ^ w - 1) * 2 ^ (i * w % 64) := Int.mul_le_mul_of_nonneg_right (by omega) (by omega)
    have e2 : (2 ^ w - 1) * 2 ^ (i * w % 64) = (2 : Int) ^ (i * w % 64 + w) - 2 ^ (i * w % 64) := by
      rw [Int.sub_mul, Int.one_mul, Int.pow_add, Int.mul_comm]
    omega
  have hle : (2 : Int) ^ (i * w % 64 + w) ≤ 2 ^ 64 := by
    have e : ∀ k : Nat, (2 : Int) ^ k = ((2 ^ k : Nat) : Int) := fun k => by simp
    rw [e, e]
    exact Int.ofNat_le.2 (Nat.pow_le_pow_right (by decide) hs)
  have hnn : 0 ≤ n * 2 ^ (i * w % 64) := Int.mul_nonneg h0 (by omega)
  have h64 : (2 : Int) ^ 64 = 18446744073709551616 := by decide
  refine ⟨⟨fun j hj => ?_, fun hj => ?_, fun j hj hlt => ?_⟩, r0, hh, by omega, by omega⟩
  · rw [List.getElem_set]
    split
    · omega
    · exact h.rng j (by simpa using hj)
  · rw [List.getElem_set]
    split
    · rename_i e
      have e3 : (i + 1) * w % 64 = i * w % 64 + w := by
        rw [Nat.add_mul, Nat.one_mul] at e ⊢
        rcases hw with rfl | rfl | rfl | rfl | rfl <;> omega
      rw [e3]
      exact hsum
    · rename_i e
      have e4 : i * w / 64 < (i + 1) * w / 64 := by
        have : i * w / 64 ≤ (i + 1) * w / 64 := Nat.div_le_div_right (by rw [Nat.add_mul]; omega)
        omega
      rw [h.zero _ (by simpa using hj) e4]
      exact Int.pow_pos (by decide)
  · have e5 : i * w / 64 ≤ (i + 1) * w / 64 := Nat.div_le_div_right (by rw [Nat.add_mul]; omega)
    rw [List.getElem_set]
    split
    · omega
    · exact h.zero j (by simpa using hj) (by omega)
theorem put_at {w n i : Nat} (hw : w = 1 ∨ w = 8 ∨ w = 16 ∨ w = 32 ∨ w = 64) (h : i < n) : i * w / 64 < (n * w + 63) / 64 := by
  have : (i + 1) * w ≤ n * w := Nat.mul_le_mul_right _ h
  rw [Nat.add_mul] at this
  rcases hw with rfl | rfl | rfl | rfl | rfl <;> omega
/-! ### what is laid leaves other words -/
inductive LayOk : T → Prop
  | null (w : List Int) : LayOk (.mk 0 w [])
  | str (w : List Int) (ks : List T) : w.length < 65536 → ks.length < 65536 → (∀ t, t ∈ ks → LayOk t) → LayOk (.mk 1 w ks)
  | ptrs (w : List Int) (ks : List T) : ks.length < 536870912 → (∀ t, t ∈ ks → LayOk t) → LayOk (.mk 8 w ks)
  | comp (w : List Int) (ks : List T) : ks.length < 536870912 → (∀ t, t ∈ ks → t.words.length < 65536 ∧ t.kids.length < 65536) → (∀ t, t ∈ ks → ∀ u, u ∈ t.kids → LayOk u) → LayOk (.mk 9 w ks)
  | data (k : Int) (w : List Int) (ks : List T) : 2 ≤ k → k ≤ 7 → ks.length < 536870912 → (∀ c, c ∈ ks → ∃ x, c.words = [x] ∧ 0 ≤ x ∧ x < 18446744073709551616 ∧ fitsZ (k - 2) x = true) → LayOk (.mk k w ks)
theorem frameW_le : ∀ {ts : List T} {t : T}, t ∈ ts → t.words.length ≤ frameW ts
  | u :: ts, t, h => by
    rcases List.mem_cons.1 h with rfl | h
    · simp only [frameW]; omega
    · have := frameW_le h
      simp only [frameW]; omega
theorem frameK_le : ∀ {ts : List T} {t : T}, t ∈ ts → t.kids.length ≤ frameK ts
  | u :: ts, t, h => by
    rcases List.mem_cons.1 h with rfl | h
    · simp only [frameK]; omega
    · have := frameK_le h
      simp only [frameK]; omega
end Go.PL

/-
  Chapter 13: what is right can be laid.
-/
namespace Go.Proofs.Ytehcobkphobjiaa
set_option linter.unusedVariables false
set_option linter.unusedSimpArgs false
open Go Go.G Go.Proofs Go.PL
theorem laid_right : ∀ (t : T) (d : Nat), rightT d t = true → wfT t → t.kind ≠ 10 → LayOk (norm t) := by
  refine T.ind fun k w ks ih d hr hw h10 => ?_
  have hst := rightT_struct hr
  have hwk := (wfT_iff.1 hw).ks
  simp at h10
  rw [rightT_mk] at hr
  rw [norm_mk]
  by_cases h0 : k = 0
  · rw [if_pos h0]; exact .null _
  rw [if_neg h0] at hr ⊢
  rw [if_neg h10] at hr
  have htb : tooBig k d w.length ks.length = false := by
    cases e : tooBig k d w.length ks.length with
    | false => rfl
    | true => rw [e] at hr; simp at hr
  simp [tooBig] at htb
  by_cases h1 : k = 1
  · rw [if_pos h1]
    have hb2 := trimW_le w
    have hb3 := trimK_le (ks.map norm)
    rw [List.length_map] at hb3
    refine .str _ _ (by omega) (by omega) fun t ht => ?_
    rw [trimK_map] at ht
    obtain ⟨u, hu, rfl⟩ := List.mem_map.1 (List.mem_of_mem_take ht)
    obtain ⟨g1, g2⟩ := hst u hu
    refine ih u hu _ g1 (hwk u hu) fun e => ?_
    subst h1
    simp [kidOk, isData, e] at g2
  rw [if_neg h1]
  by_cases h8 : k = 8
  · subst h8
    refine .ptrs _ _ (by simp; omega) fun t ht => ?_
    obtain ⟨u, hu, rfl⟩ := List.mem_map.1 ht
    obtain ⟨g1, g2⟩ := hst u hu
    refine ih u hu _ g1 (hwk u hu) fun e => ?_
    simp [kidOk, isData, e] at g2
  by_cases h9 : k = 9
  · subst h9
    have kk : ∀ u, u ∈ ks → u.kind = 1 ∧ LayOk (norm u) := fun u hu => by
      obtain ⟨g1, g2⟩ := hst u hu
      have hk1 : u.kind = 1 := by
        simp [kidOk, isData] at g2
        exact g2.2
      exact ⟨hk1, ih u hu _ g1 (hwk u hu) (by omega)⟩
    have two : ∀ u, u ∈ ks → (norm u).words.length < 65536 ∧ (norm u).kids.length < 65536 ∧ ∀ c, c ∈ (norm u).kids → LayOk c := fun u hu => by
      obtain ⟨e1, hL⟩ := kk u hu
      have hkn2 : (norm u).kind = 1 := by rw [norm_kind]; exact e1
      generalize norm u = x at hL hkn2
      cases hL with
      | str w ks b1 b2 h => exact ⟨b1, b2, h⟩
      | _ => simp at hkn2 <;> omega
    refine .comp _ _ (by simp; omega) (fun t ht => ?_) fun t ht c hc => ?_
    · obtain ⟨u, hu, rfl⟩ := List.mem_map.1 ht
      exact ⟨(two u hu).1, (two u hu).2.1⟩
    · obtain ⟨u, hu, rfl⟩ := List.mem_map.1 ht
      exact (two u hu).2.2 c hc
  refine .data _ _ _ (by omega) (by omega) (by simp; omega) fun c hc => ?_
  obtain ⟨u, hu, rfl⟩ := List.mem_map.1 hc
  obtain ⟨g1, g2⟩ := hst u hu
  have hd : isData k = true := by simp [isData]; omega
  have hwu := hwk u hu
  obtain ⟨k2, w2, l2⟩ := u
  simp [kidOk, hd] at g2
  obtain ⟨⟨e1, e2⟩, e3⟩ := g2
  have e1 : k2 = 10 := of_decide_eq_true e1
  subst e1
  rw [rightT_mk, if_neg (by decide), if_pos rfl] at g1
  simp at g1
  obtain ⟨x, hx⟩ := List.length_eq_one_iff.1 g1.1
  subst hx
  have hr := (wfT_iff.1 hwu).w x (by simp)
  refine ⟨x, by rw [norm_mk]; simp, hr.1, hr.2, by simpa using e3⟩
end Go.Proofs.Ytehcobkphobjiaa

/-
  Chapter 14: lists are laid; values.
-/
namespace Go.Proofs.Ytehcobkphobjiaa
set_option linter.unusedVariables false
set_option linter.unusedSimpArgs false
open Go Go.G Go.Proofs Go.PL
theorem frame_bound {ts : List T} {w k : Nat} (h : ∀ t, t ∈ ts → t.words.length ≤ w ∧ t.kids.length ≤ k) : frameW ts ≤ w ∧ frameK ts ≤ k := by
  induction ts with
  | nil => simp [frameW, frameK]
  | cons t ts ih =>
    have h1 := h t (by simp)
    have h2 := ih fun u hu => h u (by simp [hu])
    simp only [frameW, frameK]
    omega
section
variable {n0 : Nat} {w0 : World} {I0 : Nat → Prop} {Q : Exit → Sta → Prop}
end
end Go.Proofs.Ytehcobkphobjiaa

/-
  Chapters 1 and 14: numbers side by side.
-/
namespace Go.Proofs.Ytehcobkphobjiaa
set_option linter.unusedVariables false
set_option linter.unusedSimpArgs false
open Go Go.G Go.Proofs Go.PL
theorem width_cases {c : Int} (h0 : 0 ≤ c) (h6 : c < 6) : ∃ w : Nat, widthZ c = w ∧ bitsZ c = w ∧ (w = 0 ∨ w = 1 ∨ w = 8 ∨ w = 16 ∨ w = 32 ∨ w = 64) := by
  have : c = 0 ∨ c = 1 ∨ c = 2 ∨ c = 3 ∨ c = 4 ∨ c = 5 := by omega
  rcases this with rfl | rfl | rfl | rfl | rfl | rfl
  · exact ⟨0, rfl, rfl, by simp⟩
  · exact ⟨1, rfl, rfl, by simp⟩
  · exact ⟨8, rfl, rfl, by simp⟩
  · exact ⟨16, rfl, rfl, by simp⟩
  · exact ⟨32, rfl, rfl, by simp⟩
  · exact ⟨64, rfl, rfl, by simp⟩
theorem fits_lt {c n : Int} {w : Nat} (hw : widthZ c = w) (h0 : 0 ≤ n) (h : fitsZ c n = true) : n < 2 ^ w := by
  simp only [fitsZ, Bool.and_eq_true, decide_eq_true_eq, hw] at h
  have hp : (0 : Int) < 2 ^ w := Int.pow_pos (by decide)
  have h2 := h.2
  simp only [Int.toNat_natCast] at h2
  have h3 := Int.emod_add_mul_ediv n (2 ^ w)
  rw [h2, Int.mul_zero, Int.add_zero] at h3
  rw [← h3]
  exact Int.emod_lt_of_pos _ hp
theorem prod_mod {i w : Nat} (hw : w ≤ 64) (hi : i ≤ 1000000000) : IntKind.i64.wrap ((i : Int) * w) = (i : Int) * w ∧ ((i : Int) * w).tmod 64 = ((i * w % 64 : Nat) : Int) ∧ ((i : Int) * w).tdiv 64 = ((i * w / 64 : Nat) : Int) := by
  have him : i * w ≤ 1000000000 * 64 := Nat.mul_le_mul hi hw
  have e : (i : Int) * w = ((i * w : Nat) : Int) := by rw [Int.natCast_mul]
  rw [e]
  refine ⟨i64_same (by omega) (by omega), ?_, ?_⟩
  · rw [Int.tmod_eq_emod_of_nonneg (by omega)]; omega
  · rw [Int.tdiv_eq_ediv_of_nonneg (by omega)]; omega
section
variable {n0 : Nat} {w0 : World} {I0 : Nat → Prop} {Q : Exit → Sta → Prop}
theorem rPut_l1 {c : A} {ns : List Int} {w i s : Nat} {m : Nat} {H : Hp} (hw : w ≤ 64) (hi : i ≤ 1000000000) (hs : i * w % 64 = s) : ∀ (j k : Nat) (x : Int), k + j = s → 0 ≤ x → x * 2 ^ j < 18446744073709551616 → (∀ q, Q (.exit 2) ⟨lk [(0, c), (1, uws ns), (6, nv w), (7, .osl [0] 1 1 0 m), (8, nv i), (9, uv (x * 2 ^ j)), (10, nv s), (39, bv q)], H⟩) →
    LoopC (cx Try.prog w0 I0 n0) l1_centoref01_Put Q ⟨lk [(0, c), (1, uws ns), (6, nv w), (7, .osl [0] 1 1 0 m), (8, nv i), (9, uv x), (10, nv k)], H⟩ := by
  obtain ⟨e1, e2, _⟩ := prod_mod hw hi
  rw [hs] at e2
  have hs64 : s < 64 := by omega
  intro j
  induction j with
  | zero =>
    intro k x hk h0 hx hq
    have : k = s := by omega
    subst this
    refine loopC_once mixed l1_centoref01_Put.eq_1 ?_
    have := hq false
    simp [e1, e2] at this ⊢
    exact this
  | succ j ih =>
    intro k x hk h0 hx hq
    have hlt : k < s := by omega
    have ek : IntKind.i64.wrap ((k : Int) + 1) = ((k + 1 : Nat) : Int) := i64_same (by omega) (by omega)
    have hp : (0 : Int) < 2 ^ j := Int.pow_pos (by decide)
    rw [Int.pow_succ, Int.mul_comm (2 ^ j) 2, ← Int.mul_assoc] at hx hq
    have h2 : x * 2 ≤ x * 2 * 2 ^ j := by
      have := Int.mul_le_mul_of_nonneg_left (show (1 : Int) ≤ 2 ^ j by omega) (show 0 ≤ x * 2 by omega)
      omega
    have ex : IntKind.u64.wrap (x * 2) = x * 2 := u64_same (by omega) (by omega)
    refine loopC_once mixed l1_centoref01_Put.eq_1 ?_
    simp [e1, e2, hlt, ek, ex]
    exact ih (k + 1) (x * 2) (by omega) (by omega) hx hq
theorem rPut_l2 {c : Int} {ns : List Int} (hn : ns.length ≤ 1000000000) {w : Nat} (hw : w = 0 ∨ w = 1 ∨ w = 8 ∨ w = 16 ∨ w = 32 ∨ w = 64) (hwc : widthZ c = w) (hfit : ∀ x, x ∈ ns → u64R x ∧ fitsZ c x = true) {m : Nat} (hm : w ≠ 0 → m = (ns.length * w + 63) / 64)
    (hq : ∀ (q : Bool) (H' : Hp) (out : List Int), out = putL w ns 0 (List.replicate m 0) → H' [0] = ⟨1, .arr 1 (out.map uv)⟩ → Q (.exit 0) ⟨lk [(0, iv c), (1, uws ns), (6, nv w), (7, .osl [0] 1 1 0 m), (8, nv ns.length), (23, bv q)], H'⟩) :
    ∀ (j i : Nat) (out : List Int) (H : Hp), i + j = ns.length → out.length = m → (w ≠ 0 → PutI w i out) → putL w (ns.drop i) i out = putL w ns 0 (List.replicate m 0) → H [0] = ⟨1, .arr 1 (out.map uv)⟩ →
    LoopC (cx Try.prog w0 I0 n0) l2_centoref01_Put Q ⟨lk [(0, iv c), (1, uws ns), (6, nv w), (7, .osl [0] 1 1 0 m), (8, nv i)], H⟩ := by
  have hw64 : w ≤ 64 := by omega
  intro j
  induction j with
  | zero =>
    intro i out H hi hl hI hp hH
    have : i = ns.length := by omega
    subst this
    rw [List.drop_eq_nil_of_le (Nat.le_refl _), putL] at hp
    refine loopC_once mixed l2_centoref01_Put.eq_1 ?_
    simp
    exact hq _ H out hp hH
  | succ j ih =>
    intro i out H hi hl hI hp hH
    have hlt : i < ns.length := by omega
    have ei : IntKind.i64.wrap ((i : Int) + 1) = ((i + 1 : Nat) : Int) := i64_same (by omega) (by omega)
    obtain ⟨f1, f2⟩ := hfit _ (List.getElem_mem hlt)
    have f1' := f1
    unfold u64R at f1'
    have hx2 := fits_lt hwc f1'.1 f2
    obtain ⟨e1, e2, e3⟩ := prod_mod (i := i) hw64 (by omega)
    rw [List.drop_eq_getElem_cons hlt, putL] at hp
    refine loopC_once mixed l2_centoref01_Put.eq_1 ?_
    simp [hlt]
    refine sc_call (rFits_spec f1) (by simp) ?_
    simp [f2]
    by_cases h0 : w = 0
    · subst h0
      rw [if_pos rfl] at hp
      refine rPut_l1 (s := 0) hw64 (by omega) (by simp) 0 0 _ (by omega) f1'.1 (by simpa using f1'.2) (fun q => ?_)
      simp [ei]
      exact ih (i + 1) out H (by omega) hl (fun h => absurd rfl h) hp hH
    · rw [if_neg h0] at hp
      have hat : i * w / 64 < out.length := by rw [hl, hm h0]; exact put_at (by omega) hlt
      obtain ⟨p1, p2, p3, p4, p5⟩ := putI_step (hI h0) (by omega) f1'.1 hx2 hat
      refine rPut_l1 (s := i * w % 64) hw64 (by omega) rfl (i * w % 64) 0 _ (by omega) f1'.1 p4 (fun q => ?_)
      have hw0 : (0 : Int) < w := by omega
      have hw0' : 0 < w := by omega
      have hg : out.getD (i * w / 64) 0 = out[i * w / 64] := by simp [hat]
      have hat' : ((i * w / 64 : Nat) : Int) < m := by omega
      have hatm : i * w / 64 < m := by omega
      rw [hg] at p1 p2 p3 p5 hp
      have ex : IntKind.u64.wrap (out[i * w / 64] + ns[i] * 2 ^ (i * w % 64)) = out[i * w / 64] + ns[i] * 2 ^ (i * w % 64) := by
        have := Int.mul_nonneg f1'.1 (show (0 : Int) ≤ 2 ^ (i * w % 64) from Int.le_of_lt (Int.pow_pos (by decide)))
        exact u64_same (by omega) (by omega)
      have him : i * w ≤ 1000000000 * 64 := Nat.mul_le_mul (by omega) hw64
      have eP : IntKind.i64.wrap ((i * w / 64 : Nat) : Int) = ((i * w / 64 : Nat) : Int) := i64_same (by omega) (by omega)
      generalize i * w / 64 = P at *
      simp [ei, hw0', e1, e3, hH, hat, hatm, ex, eP]
      refine ih (i + 1) (out.set P (out[P] + ns[i] * 2 ^ (i * w % 64))) _ (by omega) (by simpa using hl) (fun _ => p1) hp ?_
      simp [List.map_set]
end
/-! ### the copier's data -/
section
variable {n0 : Nat} {w0 : World} {I0 M0 : Nat → Prop} {m0 : Mu} {Q : Exit → Sta → Prop}
end
/-! ### values -/
/-! ### a value's words -/
end Go.Proofs.Ytehcobkphobjiaa

/-
  Chapter 12's reference: trees are laid.
-/
namespace Go.Proofs.Ytehcobkphobjiaa
set_option linter.unusedVariables false
set_option linter.unusedSimpArgs false
open Go Go.G Go.Proofs Go.PL
section
variable {n0 : Nat} {w0 : World} {I0 : Nat → Prop} {Q : Exit → Sta → Prop}
end
theorem famA_tX' (t : T) : FamA (fun _ => tX t) := famA_bare rfl fun y hy => by
  simp at hy
  rcases hy with rfl | rfl | rfl <;> rfl
end Go.Proofs.Ytehcobkphobjiaa

/-
  Chapter 13's definition: a tree's kids.
-/
namespace Go.Proofs.Ytehcobkphobjiaa
set_option linter.unusedVariables false
set_option linter.unusedSimpArgs false
open Go Go.G Go.Proofs Go.PL
/-- A tree can be laid at any word that is in reach. -/
def BL (t : T) : Prop := ∀ (u : Nat) (S : Ar) (ok : Bool) (s a : Int), S.Ok → Wd S → (ok = true → ∃ k b : Nat, s = k ∧ a = b ∧ b + 1 ≤ wl S k) →
  ∃ S' ok', Gr S S' ∧ (ok' = true → ok = true) ∧ SpecF2 Try.prog 71 (fun r _ => [.pob [r] u 0, iv s, iv a, tX t]) (bdM u S ok) (fun _ _ => .tup []) (bdM u S' ok')
theorem wl_le {S : Ar} (h : S.Ok) (k : Nat) : wl S k ≤ 131072 := by
  by_cases hk : k < S.l.length
  · rw [wl_get hk]
    have := h.seg _ (List.getElem_mem hk)
    have := h.used1
    have := h.most1
    omega
  · simp [wl, List.getElem?_eq_none (Nat.le_of_not_lt hk)]
theorem fa_kids {u : Nat} {s a : Int} {t : T} : FamL2 (fun r _ => [.pob [r] u 0, iv s, iv a, tX t]) := famL2_cons (famA2_l famA_pob) (famL2_cons (famA2_l famA_v) (famL2_cons (famA2_l famA_v) (famL2_cons (famA2_l (famA_tX' t)) famL2_nil)))
theorem bKids_l1 {u : Nat} {t : T} (hn : t.kids.length ≤ 1000000000) (ih : ∀ c, c ∈ t.kids → BL c) {k b : Nat} : ∀ (j i : Nat) (S : Ar) (ok : Bool), S.Ok → Wd S → i + j = t.kids.length → b + t.kids.length ≤ wl S k →
    ∃ S' ok', Gr S S' ∧ (ok' = true → ok = true) ∧ ∀ {n0 : Nat} {w0 : World} {I0 M0 : Nat → Prop} {m0 : Mu} {Q : Exit → Sta → Prop} {H : Hp}, (∀ p, H (0 :: p) = (bdM u S ok).B 0 1 p) → (∀ p, H (1 :: p) = arF 1 S p) → H [2] = ⟨1, .cells (tL t)⟩ →
      (∀ s H', (∀ p, H' (0 :: p) = (bdM u S' ok').B 0 1 p) → (∀ p, H' (1 :: p) = arF 1 S' p) → Q (.exit 0) ⟨s, H'⟩) →
      LoopC (cxh Try.prog w0 I0 M0 n0 m0) l1_centoref13_Builder_kids Q ⟨lk [(0, .pob [0] u 0), (1, iv k), (2, iv b), (7, .pob [2] 1 0), (8, iv i)], H⟩ := by
  intro j
  induction j with
  | zero =>
    intro i S ok h hw hi hb
    refine ⟨S, ok, Gr.refl h hw, id, fun {n0 w0 I0 M0 m0 Q H} g0 g1 g2 q => ?_⟩
    have : i = t.kids.length := by omega
    subst this
    refine loopC_once mixed l1_centoref13_Builder_kids.eq_1 ?_
    simp [g2, g0]
    exact q _ _ g0 g1
  | succ j ihj =>
    intro i S ok h hw hi hb
    have hlt : i < t.kids.length := by omega
    have hlt2 : (i : Int) < t.kids.length := by omega
    cases ok with
    | false =>
      refine ⟨S, false, Gr.refl h hw, id, fun {n0 w0 I0 M0 m0 Q H} g0 g1 g2 q => ?_⟩
      refine loopC_once mixed l1_centoref13_Builder_kids.eq_1 ?_
      have := g0 []
      simp at this
      simp [g2, g0, this, hlt, hlt2]
      exact q _ _ g0 g1
    | true =>
      have hwl := wl_le h k
      obtain ⟨S1, ok1, g, k1, hL⟩ := ih _ (List.getElem_mem hlt) u S true k ((b + i : Nat) : Int) h hw (fun _ => ⟨k, b + i, rfl, rfl, by omega⟩)
      obtain ⟨S', ok', g', k', hl⟩ := ihj (i + 1) S1 ok1 g.ok g.wd (by omega) (Nat.le_trans hb (g.wl k))
      refine ⟨S', ok', g.trans g', fun _ => rfl, fun {n0 w0 I0 M0 m0 Q H} g0 g1 g2 q => ?_⟩
      refine loopC_once mixed l1_centoref13_Builder_kids.eq_1 ?_
      have h0 := g0 []
      simp at h0
      have e1 : IntKind.i64.wrap ((b : Int) + i) = ((b + i : Nat) : Int) := (i64_same (n := (b : Int) + i) (by omega) (by omega)).trans (by omega)
      have e2 : IntKind.i64.wrap ((i : Int) + 1) = ((i + 1 : Nat) : Int) := (i64_same (n := (i : Int) + 1) (by omega) (by omega)).trans (by omega)
      simp [g2, h0, hlt, hlt2, e1]
      refine sc_fam2 0 1 (by simp) hL g0 g1 (by simp [e1]) (by simp) ?_
      simp [e2]
      exact hl (fun p => by simp) (fun p => by simp) (by simp [g2]) q
theorem bKids_spec {t : T} (hn : t.kids.length ≤ 1000000000) (ih : ∀ c, c ∈ t.kids → BL c) (u : Nat) (S : Ar) (ok : Bool) (s a : Int) (h : S.Ok) (hw : Wd S) (hp : ok = true → ∃ k b : Nat, s = k ∧ a = b ∧ b + t.kids.length ≤ wl S k) :
    ∃ S' ok', Gr S S' ∧ (ok' = true → ok = true) ∧ SpecF2 Try.prog 110 (fun r _ => [.pob [r] u 0, iv s, iv a, tX t]) (bdM u S ok) (fun _ _ => .tup []) (bdM u S' ok') := by
  cases ok with
  | false =>
    refine ⟨S, false, Gr.refl h hw, id, specF2_of t_centoref13_Builder_kids (by simp) fa_kids (famA2_tup famL2_nil) fun w0 I0 M0 m0 => ?_⟩
    unfold c_centoref13_Builder_kids
    simp
    refine loopC_once mixed l1_centoref13_Builder_kids.eq_1 ?_
    by_cases hz : 0 < t.kids.length
    · have hz2 : (0 : Int) < t.kids.length := by omega
      simp [hz, hz2]
      exact reth_fam2N rfl rfl (fun p => by simp) (fun p => by simp)
    · have hz2 : t.kids.length = 0 := by omega
      simp [hz2]
      exact reth_fam2N rfl rfl (fun p => by simp) (fun p => by simp)
  | true =>
    obtain ⟨k, b, rfl, rfl, hb⟩ := hp rfl
    obtain ⟨S', ok', g, g2, hl⟩ := bKids_l1 (u := u) hn ih (k := k) (b := b) t.kids.length 0 S true h hw (by omega) hb
    refine ⟨S', ok', g, g2, specF2_of t_centoref13_Builder_kids (by simp) fa_kids (famA2_tup famL2_nil) fun w0 I0 M0 m0 => ?_⟩
    unfold c_centoref13_Builder_kids
    simp
    refine hl (fun p => by simp) (fun p => by simp) (by simp) fun s H' g0 g1 => ?_
    simp
    exact reth_fam2N rfl rfl g0 g1
end Go.Proofs.Ytehcobkphobjiaa

/-
  Chapter 13's definition: a tree is laid.
-/
namespace Go.Proofs.Ytehcobkphobjiaa
set_option linter.unusedVariables false
set_option linter.unusedSimpArgs false
open Go Go.G Go.Proofs Go.PL
theorem bLay_null {w : List Int} : BL (.mk 0 w []) := by
  intro u S ok s a h hw hp
  refine ⟨S, ok, Gr.refl h hw, id, specF2_of t_centoref13_Builder_Lay (by simp) fa_kids (famA2_tup famL2_nil) fun w0 I0 M0 m0 => ?_⟩
  unfold c_centoref13_Builder_Lay
  simp
  exact reth_fam2 rfl rfl (fun p => by simp) (fun p => by simp)
/-- Words are given. -/
theorem give_cases {S : Ar} (h : S.Ok) (hw : Wd S) (u : Nat) (ok : Bool) (n : Nat) : ∃ (s a : Int) (S' : Ar) (ok' : Bool), Gr S S' ∧ (ok' = true → ok = true) ∧ (ok' = true → ∃ k b : Nat, s = k ∧ a = b ∧ b + n ≤ wl S' k) ∧
    SpecF2 Try.prog 70 (fun r _ => [.pob [r] u 0, iv (n : Int)]) (bdM u S ok) (fun _ _ => .tup [iv s, iv a]) (bdM u S' ok') := by
  refine ⟨_, _, _, _, rgive_gr h hw n, ?_, ?_, bGive_spec u S h ok n⟩
  · intro e
    simp at e
    exact e.1
  · intro e
    simp at e
    obtain ⟨k, b, e1, e2, e3, e4⟩ := rgive_in h hw e.2
    exact ⟨k, b, by rw [if_pos e.2, e1], by rw [if_pos e.2, e2], e3⟩
theorem bLay_str {w : List Int} {ks : List T} (hW : ∀ x, x ∈ w → u64R x) (hw1 : w.length < 65536) (hk1 : ks.length < 65536) (ih : ∀ c, c ∈ ks → BL c) : BL (.mk 1 w ks) := by
  intro u S ok s a h hw hp
  obtain ⟨s1, a1, S1, ok1, g1, k1, p1, q1⟩ := give_cases h hw u ok (w.length + ks.length)
  obtain ⟨S2, ok2, g2, k2, q2⟩ := bPoint_spec u g1.ok g1.wd ok1 s a s1 a1 0 (IntKind.u64.wrap (IntKind.u64.wrap w.length + IntKind.u64.wrap (65536 * IntKind.u64.wrap ks.length))) fun e => by
    obtain ⟨k, b, e1, e2, e3⟩ := hp (k1 e)
    have := g1.wl k
    have := wl_le h k
    exact ⟨k, b, e1, e2, by omega, by omega⟩
  obtain ⟨S3, g3, q3⟩ := bAll_spec u g2.ok g2.wd hW (by omega) ok2 s1 a1 fun e => by
    obtain ⟨k, b, e1, e2, e3⟩ := p1 (k2 e)
    have := g2.wl k
    have := wl_le g2.ok k
    exact ⟨k, b, e1, e2, by omega, by omega⟩
  obtain ⟨S4, ok4, g4, k4, q4⟩ := bKids_spec (t := .mk 1 w ks) (by simp; omega) ih u S3 ok2 s1 (IntKind.i64.wrap (a1 + w.length)) g3.ok g3.wd fun e => by
    obtain ⟨k, b, e1, e2, e3⟩ := p1 (k2 e)
    have h2 := g2.wl k
    have h3 := g3.wl k
    have := wl_le g3.ok k
    refine ⟨k, b + w.length, e1, ?_, by simp; omega⟩
    rw [e2]
    exact (i64_same (n := (b : Int) + w.length) (by omega) (by omega)).trans (by omega)
  refine ⟨S4, ok4, ((g1.trans g2).trans g3).trans g4, fun e => k1 (k2 (k4 e)), specF2_of t_centoref13_Builder_Lay (by simp) fa_kids (famA2_tup famL2_nil) fun w0 I0 M0 m0 => ?_⟩
  unfold c_centoref13_Builder_Lay
  have e5 : IntKind.i64.wrap ((w.length : Int) + ks.length) = ((w.length + ks.length : Nat) : Int) := (i64_same (n := (w.length : Int) + ks.length) (by omega) (by omega)).trans (by omega)
  simp [e5]
  refine sc_fam2 0 1 (by simp) q1 (fun p => by simp) (fun p => by simp) (by simp [e5]) (by simp) ?_
  simp
  refine sc_fam2 0 1 (by simp) q2 (fun p => by simp) (fun p => by simp) (by simp) (by simp) ?_
  simp
  refine sc_fam2 0 1 (by simp) q3 (fun p => by simp) (fun p => by simp) (by simp) (by simp) ?_
  simp
  refine sc_fam2 0 1 (by simp) q4 (fun p => by simp) (fun p => by simp) (by simp) (by simp) ?_
  simp
  exact reth_fam2N rfl rfl (fun p => by simp) (fun p => by simp)
theorem bLay_ptrs {w : List Int} {ks : List T} (hk1 : ks.length < 536870912) (ih : ∀ c, c ∈ ks → BL c) : BL (.mk 8 w ks) := by
  intro u S ok s a h hw hp
  obtain ⟨s1, a1, S1, ok1, g1, k1, p1, q1⟩ := give_cases h hw u ok ks.length
  obtain ⟨S2, ok2, g2, k2, q2⟩ := bPoint_spec u g1.ok g1.wd ok1 s a s1 a1 1 (IntKind.u64.wrap (6 + IntKind.u64.wrap (8 * IntKind.u64.wrap ks.length))) fun e => by
    obtain ⟨k, b, e1, e2, e3⟩ := hp (k1 e)
    have := g1.wl k
    have := wl_le h k
    exact ⟨k, b, e1, e2, by omega, by omega⟩
  obtain ⟨S4, ok4, g4, k4, q4⟩ := bKids_spec (t := .mk 8 w ks) (by simp; omega) ih u S2 ok2 s1 a1 g2.ok g2.wd fun e => by
    obtain ⟨k, b, e1, e2, e3⟩ := p1 (k2 e)
    have h2 := g2.wl k
    exact ⟨k, b, e1, e2, by simp; omega⟩
  refine ⟨S4, ok4, (g1.trans g2).trans g4, fun e => k1 (k2 (k4 e)), specF2_of t_centoref13_Builder_Lay (by simp) fa_kids (famA2_tup famL2_nil) fun w0 I0 M0 m0 => ?_⟩
  unfold c_centoref13_Builder_Lay
  simp
  refine sc_fam2 0 1 (by simp) q1 (fun p => by simp) (fun p => by simp) (by simp) (by simp) ?_
  simp
  refine sc_fam2 0 1 (by simp) q2 (fun p => by simp) (fun p => by simp) (by simp) (by simp) ?_
  simp
  refine sc_fam2 0 1 (by simp) q4 (fun p => by simp) (fun p => by simp) (by simp) (by simp) ?_
  simp
  exact reth_fam2N rfl rfl (fun p => by simp) (fun p => by simp)
end Go.Proofs.Ytehcobkphobjiaa

/-
  Chapter 13's definition: composite lists are laid.
-/
namespace Go.Proofs.Ytehcobkphobjiaa
set_option linter.unusedVariables false
set_option linter.unusedSimpArgs false
open Go Go.G Go.Proofs Go.PL
theorem bLay_l1 {u : Nat} {t : T} {fw fk : Nat} (hn : t.kids.length < 536870912) (hc : ∀ c, c ∈ t.kids → (∀ x, x ∈ c.words → u64R x) ∧ c.words.length ≤ fw ∧ c.kids.length ≤ fk ∧ ∀ d, d ∈ c.kids → BL d) (hfw : fw ≤ 65536) (hfk : fk ≤ 65536) {s a : Int} :
    ∀ (j i : Nat) (S : Ar) (ok : Bool), S.Ok → Wd S → i + j = t.kids.length → (ok = true → ∃ k b : Nat, s = k ∧ a = b ∧ b + 1 + t.kids.length * (fw + fk) ≤ wl S k) →
    ∃ S' ok', Gr S S' ∧ (ok' = true → ok = true) ∧ ∀ {n0 : Nat} {w0 : World} {I0 M0 : Nat → Prop} {m0 : Mu} {Q : Exit → Sta → Prop} {H : Hp}, (∀ p, H (0 :: p) = (bdM u S ok).B 0 1 p) → (∀ p, H (1 :: p) = arF 1 S p) → H [2] = ⟨1, .cells (tL t)⟩ →
      (∀ s H', (∀ p, H' (0 :: p) = (bdM u S' ok').B 0 1 p) → (∀ p, H' (1 :: p) = arF 1 S' p) → Q (.exit 3) ⟨s, H'⟩) →
      LoopC (cxh Try.prog w0 I0 M0 n0 m0) l1_centoref13_Builder_Lay Q ⟨lk [(0, .pob [0] u 0), (7, .pob [2] 1 0), (8, iv t.kids.length), (13, iv fw), (14, iv fk), (15, iv s), (16, iv a), (17, iv i)], H⟩ := by
  intro j
  induction j with
  | zero =>
    intro i S ok h hw hi hp
    refine ⟨S, ok, Gr.refl h hw, id, fun {n0 w0 I0 M0 m0 Q H} g0 g1 g2 q => ?_⟩
    have : i = t.kids.length := by omega
    subst this
    refine loopC_once mixed l1_centoref13_Builder_Lay.eq_1 ?_
    simp [g2, g0]
    exact q _ _ g0 g1
  | succ j ihj =>
    intro i S ok h hw hi hp
    have hlt : i < t.kids.length := by omega
    have hlt2 : (i : Int) < t.kids.length := by omega
    cases ok with
    | false =>
      refine ⟨S, false, Gr.refl h hw, id, fun {n0 w0 I0 M0 m0 Q H} g0 g1 g2 q => ?_⟩
      refine loopC_once mixed l1_centoref13_Builder_Lay.eq_1 ?_
      have := g0 []
      simp at this
      simp [g2, g0, this, hlt, hlt2]
      exact q _ _ g0 g1
    | true =>
      obtain ⟨k, b, rfl, rfl, hb⟩ := hp rfl
      obtain ⟨c1, c2, c3, c4⟩ := hc _ (List.getElem_mem hlt)
      have hmul : (i + 1) * (fw + fk) ≤ t.kids.length * (fw + fk) := Nat.mul_le_mul_right _ (by omega)
      have hmul2 : (i + 1) * (fw + fk) = i * (fw + fk) + (fw + fk) := by rw [Nat.add_mul, Nat.one_mul]
      have hwl := wl_le h k
      obtain ⟨S1, g1', q1⟩ := bAll_spec u h hw c1 (by omega) true k ((b + 1 + i * (fw + fk) : Nat) : Int) fun _ => ⟨k, _, rfl, rfl, by omega, by omega⟩
      obtain ⟨S2, ok2, g2', k2, q2⟩ := bKids_spec (t := t.kids[i]) (by omega) c4 u S1 true k ((b + 1 + i * (fw + fk) + fw : Nat) : Int) g1'.ok g1'.wd fun _ => ⟨k, _, rfl, rfl, by have := g1'.wl k; omega⟩
      obtain ⟨S', ok', g', k', hl⟩ := ihj (i + 1) S2 ok2 g2'.ok g2'.wd (by omega) fun _ => ⟨k, b, rfl, rfl, Nat.le_trans hb ((g1'.trans g2').wl k)⟩
      refine ⟨S', ok', (g1'.trans g2').trans g', fun _ => rfl, fun {n0 w0 I0 M0 m0 Q H} g0 g1 g2 q => ?_⟩
      refine loopC_once mixed l1_centoref13_Builder_Lay.eq_1 ?_
      have h0 := g0 []
      simp at h0
      have hprod : (i : Int) * ((fw : Int) + fk) = ((i * (fw + fk) : Nat) : Int) := by rw [Int.natCast_mul, Int.natCast_add]
      have e1 : IntKind.i64.wrap ((fw : Int) + fk) = (fw : Int) + fk := i64_same (by omega) (by omega)
      have e2 : IntKind.i64.wrap ((i : Int) * ((fw : Int) + fk)) = ((i * (fw + fk) : Nat) : Int) := by rw [hprod]; exact i64_same (by omega) (by omega)
      have e3 : IntKind.i64.wrap ((b : Int) + 1) = (b : Int) + 1 := i64_same (by omega) (by omega)
      generalize hN : i * (fw + fk) = N at *
      have e4 : IntKind.i64.wrap ((b : Int) + 1 + (N : Int)) = ((b + 1 + N : Nat) : Int) := (i64_same (n := (b : Int) + 1 + (N : Int)) (by omega) (by omega)).trans (by omega)
      have e5 : IntKind.i64.wrap (((b + 1 + N : Nat) : Int) + fw) = ((b + 1 + N + fw : Nat) : Int) := (i64_same (n := ((b + 1 + N : Nat) : Int) + fw) (by omega) (by omega)).trans (by omega)
      have e6 : IntKind.i64.wrap ((i : Int) + 1) = ((i + 1 : Nat) : Int) := (i64_same (n := (i : Int) + 1) (by omega) (by omega)).trans (by omega)
      generalize hA : b + 1 + N = A1 at *
      generalize hB : A1 + fw = B1 at *
      simp [g2, h0, hlt, hlt2, e1, e2, e3, e4]
      refine sc_fam2 0 1 (by simp) q1 g0 g1 (by simp [e1, e2, e3, e4]) (by simp) ?_
      simp [g2, hlt, hlt2, e1, e2, e3, e4, e5]
      refine sc_fam2 0 1 (by simp) q2 (fun p => by simp) (fun p => by simp) (by simp [e1, e2, e3, e4, e5]) (by simp) ?_
      simp [e6]
      exact hl (fun p => by simp) (fun p => by simp) (by simp [g2]) q
theorem bPut_spec (u : Nat) {S : Ar} (h : S.Ok) (hw : Wd S) (ok : Bool) (s a w : Int) (hx : u64R w) (hp : ok = true → ∃ k b : Nat, s = k ∧ a = b ∧ b < wl S k) :
    ∃ S', Gr S S' ∧ SpecF2 Try.prog 112 (fun r _ => [.pob [r] u 0, iv s, iv a, uv w]) (bdM u S ok) (fun _ _ => .tup []) (bdM u S' ok) := by
  cases ok with
  | false => exact ⟨S, Gr.refl h hw, bPut_off u S s a w⟩
  | true =>
    obtain ⟨k, b, rfl, rfl, hb⟩ := hp rfl
    exact ⟨_, wrS_gr h hw k b hx, bPut_on u S k b w hb⟩
theorem bLay_comp {w : List Int} {ks : List T} (hk1 : ks.length < 536870912) (hc : ∀ c, c ∈ ks → (∀ x, x ∈ c.words → u64R x) ∧ c.words.length < 65536 ∧ c.kids.length < 65536 ∧ ∀ d, d ∈ c.kids → BL d) : BL (.mk 9 w ks) := by
  intro u S ok s a h hw hp
  obtain ⟨hb3, hb4⟩ := frame_bound (ts := ks) (w := 65535) (k := 65535) fun c hc' => by have := hc c hc'; omega
  have hfr := rFrame_spec (.mk 9 w ks) (by simp; omega)
  have hcc : ∀ c, c ∈ ks → (∀ x, x ∈ c.words → u64R x) ∧ c.words.length ≤ frameW ks ∧ c.kids.length ≤ frameK ks ∧ ∀ d, d ∈ c.kids → BL d := fun c hc' => ⟨(hc c hc').1, frameW_le hc', frameK_le hc', (hc c hc').2.2.2⟩
  simp only [T.kids_mk] at hfr
  generalize frameW ks = fw at *
  generalize frameK ks = fk at *
  have hcast : (ks.length : Int) * ((fw : Int) + fk) = ((ks.length * (fw + fk) : Nat) : Int) := by rw [Int.natCast_mul, Int.natCast_add]
  have hbig : ks.length * (fw + fk) ≤ 536870912 * 131070 := Nat.mul_le_mul (by omega) (by omega)
  obtain ⟨s1, a1, S1, ok1, g1, k1, p1, q1⟩ := give_cases h hw u ok (1 + ks.length * (fw + fk))
  obtain ⟨S2, ok2, g2, k2, q2⟩ := bPoint_spec u g1.ok g1.wd ok1 s a s1 a1 1 (IntKind.u64.wrap (7 + IntKind.u64.wrap (8 * IntKind.u64.wrap ((ks.length * (fw + fk) : Nat) : Int)))) fun e => by
    obtain ⟨k, b, e1, e2, e3⟩ := hp (k1 e)
    have := g1.wl k
    have := wl_le h k
    exact ⟨k, b, e1, e2, by omega, by omega⟩
  have p2 : ok2 = true → ∃ k b : Nat, s1 = k ∧ a1 = b ∧ b + 1 + ks.length * (fw + fk) ≤ wl S2 k := fun e => by
    obtain ⟨k, b, e1, e2, e3⟩ := p1 (k2 e)
    have := g2.wl k
    exact ⟨k, b, e1, e2, by omega⟩
  obtain ⟨S3, g3, q3⟩ := bPut_spec u g2.ok g2.wd ok2 s1 a1 (IntKind.u64.wrap (IntKind.u64.wrap (IntKind.i64.wrap (4 * (ks.length : Int))) + IntKind.u64.wrap (4294967296 * IntKind.u64.wrap (IntKind.u64.wrap fw + IntKind.u64.wrap (65536 * IntKind.u64.wrap fk))))) (u64_wrap_in _) fun e => by
    obtain ⟨k, b, e1, e2, e3⟩ := p2 e
    exact ⟨k, b, e1, e2, by omega⟩
  obtain ⟨S4, ok4, g4, k4, hl⟩ := bLay_l1 (u := u) (t := .mk 9 w ks) (fw := fw) (fk := fk) (s := s1) (a := a1) (by simpa using hk1) hcc (by omega) (by omega) ks.length 0 S3 ok2 g3.ok g3.wd (by simp) fun e => by
    obtain ⟨k, b, e1, e2, e3⟩ := p2 e
    have := g3.wl k
    exact ⟨k, b, e1, e2, by simp only [T.kids_mk]; omega⟩
  refine ⟨S4, ok4, ((g1.trans g2).trans g3).trans g4, fun e => k1 (k2 (k4 e)), specF2_of t_centoref13_Builder_Lay (by simp) fa_kids (famA2_tup famL2_nil) fun w0 I0 M0 m0 => ?_⟩
  unfold c_centoref13_Builder_Lay
  have e1 : IntKind.i64.wrap ((fw : Int) + fk) = (fw : Int) + fk := i64_same (by omega) (by omega)
  generalize hN : ks.length * (fw + fk) = N at *
  have e2 : IntKind.i64.wrap ((ks.length : Int) * ((fw : Int) + fk)) = (N : Int) := by rw [hcast]; exact i64_same (by omega) (by omega)
  have e3 : IntKind.i64.wrap (1 + (N : Int)) = ((1 + N : Nat) : Int) := (i64_same (n := 1 + (N : Int)) (by omega) (by omega)).trans (by omega)
  generalize hM : 1 + N = M at *
  simp
  refine sc_call hfr (by simp) ?_
  simp [e1, e2, e3]
  refine sc_fam2 0 1 (by simp) q1 (fun p => by simp) (fun p => by simp) (by simp [e1, e2, e3]) (by simp) ?_
  simp [e1, e2]
  refine sc_fam2 0 1 (by simp) q2 (fun p => by simp) (fun p => by simp) (by simp [e1, e2]) (by simp) ?_
  simp
  refine sc_fam2 0 1 (by simp) q3 (fun p => by simp) (fun p => by simp) (by simp) (by simp) ?_
  simp
  refine hl (fun p => by simp) (fun p => by simp) (by simp) fun s H' g0 g1 => ?_
  simp
  exact reth_fam2N rfl rfl g0 g1
end Go.Proofs.Ytehcobkphobjiaa

/-
  Chapter 13's definition: what is right is laid.
-/
namespace Go.Proofs.Ytehcobkphobjiaa
set_option linter.unusedVariables false
set_option linter.unusedSimpArgs false
open Go Go.G Go.Proofs Go.PL
theorem putL_in {w : Nat} (hw : w = 1 ∨ w = 8 ∨ w = 16 ∨ w = 32 ∨ w = 64) : ∀ (ns : List Int) (i : Nat) (out : List Int), PutI w i out → (∀ x, x ∈ ns → 0 ≤ x ∧ x < 2 ^ w) → (∀ j, j < i + ns.length → j * w / 64 < out.length) → ∀ x, x ∈ putL w ns i out → u64R x
  | [], i, out, h, _, _ => fun x hx => by
    rw [putL] at hx
    obtain ⟨j, hj, rfl⟩ := List.getElem_of_mem hx
    exact h.rng j hj
  | n :: ns, i, out, h, hn, hl => by
    have hat := hl i (by simp)
    have g := putI_step h hw (hn n (by simp)).1 (hn n (by simp)).2 hat
    rw [putL, if_neg (by omega)]
    exact putL_in hw ns (i + 1) _ g.1 (fun x hx => hn x (by simp [hx])) (fun j hj => by rw [List.length_set]; exact hl j (by simp; omega))
theorem putL_no : ∀ (ns : List Int) (i : Nat) (o : List Int), putL 0 ns i o = o
  | [], i, o => by rw [putL]
  | n :: ns, i, o => by rw [putL, if_pos rfl, putL_no ns]
theorem putZ_in {c : Int} (c0 : 0 ≤ c) (c6 : c < 6) {ns : List Int} (hn : ns.length ≤ 536870912) (hfit : ∀ x, x ∈ ns → u64R x ∧ fitsZ c x = true) : (∀ x, x ∈ putZ c ns → u64R x) ∧ (putZ c ns).length ≤ 600000000 := by
  obtain ⟨w, w1, w2, w3⟩ := width_cases c0 c6
  have hroom : roomZ c ns.length = (((ns.length * w + 63) / 64 : Nat) : Int) := by
    unfold roomZ
    rw [if_neg (by omega), w2]
    have e : (ns.length : Int) * w = ((ns.length * w : Nat) : Int) := by rw [Int.natCast_mul]
    rw [e]
    omega
  have hm : (roomZ c ns.length).toNat = (ns.length * w + 63) / 64 := by rw [hroom]; omega
  have hb : (ns.length * w + 63) / 64 ≤ 600000000 := by
    have : ns.length * w ≤ 536870912 * 64 := Nat.mul_le_mul hn (by omega)
    omega
  refine ⟨fun x hx => ?_, by rw [putZ_length, hm]; exact hb⟩
  unfold putZ at hx
  rw [w1, hm] at hx
  simp only [Int.toNat_natCast] at hx
  by_cases h0 : w = 0
  · subst h0
    rw [putL_no] at hx
    have := List.eq_of_mem_replicate hx
    subst this
    exact ⟨by omega, by omega⟩
  · refine putL_in (by omega) ns 0 _ (PutI.start w _) (fun y hy => ?_) (fun j hj => ?_) x hx
    · obtain ⟨f1, f2⟩ := hfit y hy
      exact ⟨f1.1, fits_lt w1 f1.1 f2⟩
    · rw [List.length_replicate]
      exact put_at (by omega) (by omega)
section
variable {n0 : Nat} {w0 : World} {I0 M0 : Nat → Prop} {m0 : Mu} {Q : Exit → Sta → Prop}
theorem bLay_l2 {t : T} {ub : Nat} {s a : Int} {F G : Nm → VOb} (hl : t.kids.length ≤ 1000000000) (hw : ∀ c, c ∈ t.kids → c.words = [hd c])
    (hq : ∀ (q : Bool) (u : Nat) (H : Hp), (∀ p, H (0 :: p) = F p) → (∀ p, H (1 :: p) = G p) → H [2] = ⟨1, .cells (tL t)⟩ → H [3] = ⟨u, .arr 1 ((t.kids.map hd).map uv)⟩ →
      Q (.exit 1) ⟨lk [(0, .pob [0] ub 0), (1, iv s), (2, iv a), (7, .pob [2] 1 0), (8, nv t.kids.length), (18, .osl [3] u 1 0 t.kids.length), (19, nv t.kids.length), (31, bv q)], H⟩) :
    ∀ (j i u : Nat) (H : Hp), i + j = t.kids.length → (∀ p, H (0 :: p) = F p) → (∀ p, H (1 :: p) = G p) → H [2] = ⟨1, .cells (tL t)⟩ → H [3] = ⟨u, .arr 1 (((t.kids.take i).map hd).map uv)⟩ →
    LoopC (cxh Try.prog w0 I0 M0 n0 m0) l2_centoref13_Builder_Lay Q ⟨lk [(0, .pob [0] ub 0), (1, iv s), (2, iv a), (7, .pob [2] 1 0), (8, nv t.kids.length), (18, .osl [3] u 1 0 i), (19, nv i)], H⟩ := by
  intro j
  induction j with
  | zero =>
    intro i u H hi hF hG h0 h1
    have : i = t.kids.length := by omega
    subst this
    rw [List.take_of_length_le (Nat.le_refl _)] at h1
    refine loopC_once mixed l2_centoref13_Builder_Lay.eq_1 ?_
    simp
    exact hq _ u H hF hG h0 h1
  | succ j ih =>
    intro i u H hi hF hG h0 h1
    have hlt : i < t.kids.length := by omega
    have hx := hw _ (List.getElem_mem hlt)
    have ei : IntKind.i64.wrap ((i : Int) + 1) = ((i + 1 : Nat) : Int) := i64_same (by omega) (by omega)
    have htk : ((t.kids.take (i + 1)).map hd).map uv = ((t.kids.take i).map hd).map uv ++ [uv (hd t.kids[i])] := by rw [List.take_succ_eq_append_getElem hlt, List.map_append, List.map_append]; rfl
    refine loopC_once mixed l2_centoref13_Builder_Lay.eq_1 ?_
    simp [h0, hlt, hx, h1, ei]
    refine ⟨⟨by omega, by omega⟩, stop_go ?_⟩
    simp [ei]
    refine ih (i + 1) (u + 1) _ (by omega) (fun p => ?_) (fun p => ?_) ?_ ?_
    · rw [updF_ne (by simp)]; exact hF p
    · rw [updF_ne (by simp)]; exact hG p
    · rw [updF_ne (by simp)]; exact h0
    rw [htk]
    simp [updF_app]
    rw [List.take_take, Nat.min_self]
end
theorem frzN_tup {H : Hp} {cs cs' : List A} (hl : cs.length = cs'.length) (h : ∀ (k : Nat) (a a' : A), cs[k]? = some a → cs'[k]? = some a' → FrzN H a a') : FrzN H (.tup cs) (.tup cs') := by
  intro c w I μ v hs hr
  cases hr with
  | tup _ _ vs h1 h2 =>
    refine .tup _ _ _ (by omega) fun k y hk => ?_
    have hlt : k < cs.length := by have := (List.getElem?_eq_some_iff.1 hk).1; omega
    exact h k _ y (List.getElem?_eq_getElem hlt) hk c w I μ _ hs (h2 k _ (List.getElem?_eq_getElem hlt))
theorem frzN_pair {H : Hp} {a b a' b' : A} (h1 : FrzN H a a') (h2 : FrzN H b b') : FrzN H (.tup [a, b]) (.tup [a', b']) := frzN_tup rfl fun k x x' hx hx' => by
  match k with
  | 0 => simp at hx hx'; subst hx hx'; exact h1
  | 1 => simp at hx hx'; subst hx hx'; exact h2
  | k + 2 => simp at hx
theorem rPutB_spec {c : Int} (c0 : 0 ≤ c) (c6 : c < 6) {ns : List Int} (hn : ns.length ≤ 1000000000) (hfit : ∀ x, x ∈ ns → u64R x ∧ fitsZ c x = true) : SpecB Try.prog 113 [iv c, uws ns] (.tup [uws (putZ c ns), bv true]) := by
  obtain ⟨w, w1, w2, w3⟩ := width_cases c0 c6
  have hroom : roomZ c ns.length = (((ns.length * w + 63) / 64 : Nat) : Int) := by
    unfold roomZ
    rw [if_neg (by omega), w2]
    have e : (ns.length : Int) * w = ((ns.length * w : Nat) : Int) := by rw [Int.natCast_mul]
    rw [e]
    omega
  have hm : (roomZ c ns.length).toNat = (ns.length * w + 63) / 64 := by rw [hroom]; omega
  have hb : (ns.length * w + 63) / 64 ≤ 1000000001 := by
    have : ns.length * w ≤ 1000000000 * 64 := Nat.mul_le_mul hn (by omega)
    omega
  refine specB_of t_centoref01_Put (by simp) fun w0 I0 => ?_
  unfold c_centoref01_Put
  simp
  refine sc_call (rWidth_spec c) rfl ?_
  rw [w1]
  have hnn : ¬ (w : Int) < 0 := by omega
  simp [hnn]
  refine sc_call (rRoom_spec c ns.length) (by simp) ?_
  rw [hroom]
  generalize hM : (ns.length * w + 63) / 64 = m at *
  have hm8 : (m : Int) * 8 ≤ 140737488355328 := by omega
  have hz : putZ c ns = putL w ns 0 (List.replicate m 0) := by
    unfold putZ
    rw [w1, hm]
    simp
  rw [hz]
  simp [hm8]
  refine ⟨by omega, ?_⟩
  refine rPut_l2 hn w3 w1 hfit (m := m) (fun _ => hM.symm) (fun q H' out ho hH => ?_) ns.length 0 (List.replicate m 0) _ (by omega) (by simp) (fun _ => PutI.start w m) (by simp) ?_
  rotate_left
  · simp
  have hlen : out.length = m := by rw [ho]; simp [putL_length]
  rw [← ho]
  simp
  have := frzN_osl (H := H') (o := [0]) (u := 1) (off := 0) (len := m) (sz := 1) (xs := out.map uv) (by simp [hH]) (by simp [hlen]) (by rw [List.drop_zero, List.all_eq_true]; intro x hx; obtain ⟨y, _, rfl⟩ := List.mem_map.1 (List.mem_of_mem_take hx); rfl)
  rw [List.drop_zero, List.take_of_length_le (by simp [hlen])] at this
  exact frzN_pair this (frzN_flat rfl)
theorem bLay_data {k : Int} {w : List Int} {ks : List T} (h1 : 2 ≤ k) (h2 : k ≤ 7) (b1 : ks.length < 536870912) (b2 : ∀ c, c ∈ ks → ∃ x, c.words = [x] ∧ 0 ≤ x ∧ x < 18446744073709551616 ∧ fitsZ (k - 2) x = true) : BL (.mk k w ks) := by
  intro u S ok s a h hw hp
  have hwd : ∀ c, c ∈ ks → c.words = [hd c] := fun c hc => by
    obtain ⟨x, hx, _⟩ := b2 c hc
    simp [hx, hd]
  have hfit : ∀ x, x ∈ ks.map hd → u64R x ∧ fitsZ (k - 2) x = true := fun x hx => by
    obtain ⟨c, hc, rfl⟩ := List.mem_map.1 hx
    obtain ⟨x, hx, q1, q2, q3⟩ := b2 c hc
    have : hd c = x := by simp [hx, hd]
    rw [this]
    exact ⟨⟨q1, q2⟩, q3⟩
  have hPu := rPutB_spec (c := k - 2) (by omega) (by omega) (ns := ks.map hd) (by simp; omega) hfit
  obtain ⟨hZ, hZl⟩ := putZ_in (c := k - 2) (by omega) (by omega) (ns := ks.map hd) (by simp; omega) hfit
  generalize putZ (k - 2) (ks.map hd) = Z at hPu hZ hZl
  obtain ⟨s1, a1, S1, ok1, g1, k1, p1, q1⟩ := give_cases h hw u ok Z.length
  obtain ⟨S2, ok2, g2, k2, q2⟩ := bPoint_spec u g1.ok g1.wd ok1 s a s1 a1 1 (IntKind.u64.wrap (IntKind.u64.wrap (k - 2) + IntKind.u64.wrap (8 * IntKind.u64.wrap ks.length))) fun e => by
    obtain ⟨k, b, e1, e2, e3⟩ := hp (k1 e)
    have := g1.wl k
    have := wl_le h k
    exact ⟨k, b, e1, e2, by omega, by omega⟩
  obtain ⟨S3, g3, q3⟩ := bAll_spec u g2.ok g2.wd hZ (by omega) ok2 s1 a1 fun e => by
    obtain ⟨k, b, e1, e2, e3⟩ := p1 (k2 e)
    have := g2.wl k
    have := wl_le g2.ok k
    exact ⟨k, b, e1, e2, by omega, by omega⟩
  refine ⟨S3, ok2, (g1.trans g2).trans g3, fun e => k1 (k2 e), specF2_of t_centoref13_Builder_Lay (by simp) fa_kids (famA2_tup famL2_nil) fun w0 I0 M0 m0 => ?_⟩
  unfold c_centoref13_Builder_Lay
  have e1 : IntKind.i64.wrap (k - 2) = k - 2 := i64_same (by omega) (by omega)
  have n0 : ¬ k = 0 := by omega
  have n1 : ¬ k = 1 := by omega
  have n8 : ¬ k = 8 := by omega
  have n9 : ¬ k = 9 := by omega
  simp [n0, n1, n8, n9]
  refine stop_le (le_blank 18 [3] 1 (by simp)) ?_
  refine stop_le (le_list [(0, .pob [0] u 0), (1, iv s), (2, iv a), (7, .pob [2] 1 0), (8, nv ks.length), (18, .osl [3] 1 1 0 0)] (by simp [upd])) (stop_go ?_)
  simp
  refine bLay_l2 (t := .mk k w ks) (F := (bdM u S ok).B 0 1) (G := arF 1 S) (by simp; omega) hwd (fun q v H' g0 g1 g2 g3 => ?_) ks.length 0 1 _ (by simp) (fun p => ?_) (fun p => ?_) (by simp [updF_app]) (by simp [updF_app])
  rotate_left
  · simp
  · simp
  simp [g2]
  simp [e1]
  refine sc_callb [iv (k - 2), uws (ks.map hd)] hPu (by simp; exact ⟨frz_bare rfl, frz_row (f := uv) (l := ks.map hd) (by rw [g3]; simp) (by simp) (fun x => by simp)⟩) (by simp [e1]) ?_
  simp
  refine sc_fam2 0 1 (by simp) q1 g0 g1 (by simp) (by simp) ?_
  simp [g2, e1]
  refine sc_fam2 0 1 (by simp) q2 (fun p => by simp) (fun p => by simp) (by simp [e1]) (by simp) ?_
  simp
  refine sc_fam2 0 1 (by simp) q3 (fun p => by simp) (fun p => by simp) (by simp) (by simp) ?_
  simp
  exact reth_fam2N rfl rfl (fun p => by simp) (fun p => by simp)
theorem bLay_all : ∀ t : T, (LayOk t → wfT t → BL t) ∧ ∀ d, d ∈ t.kids → LayOk d → wfT d → BL d := by
  refine T.ind fun k w ks ih => ⟨fun hL hw => ?_, fun d hd => (ih d hd).1⟩
  have hwd := (wfT_iff.1 hw).w
  have hwk := (wfT_iff.1 hw).ks
  cases hL with
  | null w => exact bLay_null
  | str w ks b1 b2 hk => exact bLay_str (fun x hx => hwd x hx) b1 b2 fun c hc => (ih c hc).1 (hk c hc) (hwk c hc)
  | ptrs w ks b1 hk => exact bLay_ptrs b1 fun c hc => (ih c hc).1 (hk c hc) (hwk c hc)
  | comp w ks b1 b2 hk =>
    refine bLay_comp b1 fun c hc => ?_
    have hwc := hwk c hc
    obtain ⟨k2, w2, l2⟩ := c
    have hx := wfT_iff.1 hwc
    exact ⟨fun x hx' => hx.w x hx', (b2 _ hc).1, (b2 _ hc).2, fun d hd => (ih _ hc).2 d hd (hk _ hc d hd) (hx.ks d hd)⟩
  | data k w ks h1 h2 b1 b2 => exact bLay_data h1 h2 b1 b2
/-- What is read within limits has no more kids than its weight. -/
theorem meaning_nk {l : List (List Int)} : ∀ (d : Nat) (r : Rf) (left : Int), RfOk l r → 0 ≤ left → (meaning l d r left).2.2 = 0 → nk r ≤ left := by
  have h0 : ∀ r, RfOk l r → r.kind = 0 → nk r = 0 := fun r hr h => by cases hr <;> simp [nk, Rf.zero] at h ⊢ <;> omega
  have hc : ∀ r, RfOk l r → nk r ≤ costM r := fun r hr => by
    cases hr with
    | zero => simp [costM, nk, Rf.zero]
    | str s a d k a1 a2 a3 a4 h => simp [costM, nk]; omega
    | dat c s a n a1 a2 a3 a4 h => simp [costM, nk]; rw [if_neg (by omega), if_neg (by omega), if_neg (by omega)]; omega
    | ptrs s a n a1 a2 h => simp [costM, nk]; omega
    | comp s a d k n a1 a2 a3 a4 a5 a6 h =>
      simp [costM, nk]
      have m1 : 0 ≤ n * (d + k) := Int.mul_nonneg (by omega) (by omega)
      have m2 : n * (1 + d + k) = n + n * (d + k) := by rw [Int.add_assoc, Int.mul_add, Int.mul_one]
      omega
    | atom n a1 a2 => simp [costM, nk]
  intro d r left hr hl h
  match d with
  | 0 =>
    rw [meaning] at h
    split at h
    · rw [h0 r hr (by assumption)]; exact hl
    · exact absurd h (by simp [stopM])
  | 1 =>
    rw [meaning] at h
    split at h
    · rw [h0 r hr (by assumption)]; exact hl
    · split at h
      · exact absurd h (by simp [stopM])
      · split at h
        · exact absurd h (by simp [stopM])
        · have := hc r hr; omega
  | d + 2 =>
    rw [meaning] at h
    split at h
    · rw [h0 r hr (by assumption)]; exact hl
    · split at h
      · exact absurd h (by simp [stopM])
      · have := hc r hr; omega
theorem unf_nk {l : List (List Int)} (hs : Sg l) {a b : Int} (h : (unfP l a b).2.2 = 0) : (unfP l a b).1.kids.length ≤ 65536 := by
  have hm := unfold_means hs h
  have hn := means_nk hm
  have hb := clamp_in b 65536 (by decide)
  unfold unfP at h hn ⊢
  split at h
  · rename_i h0; exact absurd h h0
  · rename_i h0
    rw [if_neg h0] at hn ⊢
    split at h
    · rename_i h1; exact absurd h h1
    · rename_i h1
      rw [if_neg h1] at hn ⊢
      have := meaning_nk (clampZ a 64).toNat _ (clampZ b 65536) (at_ok hs.w 0 0) hb.1 (Decidable.not_not.1 h1)
      simp only at hn ⊢
      omega
end Go.Proofs.Ytehcobkphobjiaa

/-
  Chapter 16: the classes of a value's kids; the reference's classes.
-/
namespace Go.Proofs.Ytehcobkphobjiaa
set_option linter.unusedVariables false
set_option linter.unusedSimpArgs false
open Go Go.G Go.Proofs Go.PL
noncomputable def kidsS (l : List (List Int)) (r : Rf) : Tb → Nat → List T → Tb
  | S, _, [] => S
  | S, i, t :: ts => kidsS l r (clsS S l (kidP l r i).1 t) (i + 1) ts
theorem nvs_fam {l : List Nat} : ∀ x, x ∈ l.map nv → FamA (fun _ => x) := fun x hx => by
  obtain ⟨n, _, rfl⟩ := List.mem_map.1 hx
  exact famA_v
abbrev nvM (u : Nat) (l : List Nat) : Fam := rowM u 1 (l.map nv) nvs_fam
theorem clsL_append : ∀ (l : List T) (ks : List T) (t : T), clsL ks (l ++ [t]) = (clsK (clsL ks l).1 (norm t), (clsL ks l).2 ++ [clsI (clsL ks l).1 (norm t)])
  | [], ks, t => by simp [clsL]
  | a :: l, ks, t => by simp [clsL, clsL_append l]
theorem clsL_length : ∀ (l : List T) (ks : List T), (clsL ks l).2.length = l.length
  | [], ks => rfl
  | a :: l, ks => by simp [clsL, clsL_length l]
theorem kidsS_succ {l : List (List Int)} {r : Rf} : ∀ (ts : List T) (S : Tb) (i : Nat) (t : T), kidsS l r S i (ts ++ [t]) = clsS (kidsS l r S i ts) l (kidP l r ((i + ts.length : Nat) : Int)).1 t
  | [], S, i, t => by simp [kidsS]
  | a :: ts, S, i, t => by
    simp only [List.cons_append, kidsS, kidsS_succ ts, List.length_cons]
    rw [show i + 1 + ts.length = i + (ts.length + 1) from by omega]
theorem kidsS_ks {l : List (List Int)} {r : Rf} : ∀ (ts : List T) (S : Tb) (i : Nat), (kidsS l r S i ts).ks = (clsL S.ks ts).1
  | [], S, i => rfl
  | a :: ts, S, i => by simp [kidsS, clsL, kidsS_ks ts, clsS_ks]
theorem kidsS_u {l : List (List Int)} {r : Rf} : ∀ (ts : List T) (S : Tb) (i : Nat), (kidsS l r S i ts).u = S.u
  | [], S, i => rfl
  | a :: ts, S, i => by simp [kidsS, kidsS_u ts, clsS_u]
theorem clsS_len (S : Tb) (l : List (List Int)) (r : Rf) (t : T) : (clsS S l r t).cl.length ≤ S.cl.length + 1 := by
  unfold clsS
  split
  · omega
  · split <;> simp [growT, addT]
theorem kidsS_len {l : List (List Int)} {r : Rf} : ∀ (ts : List T) (S : Tb) (i : Nat), (kidsS l r S i ts).cl.length ≤ S.cl.length + ts.length
  | [], S, i => by simp [kidsS]
  | a :: ts, S, i => by
    have := kidsS_len (l := l) (r := r) ts (clsS S l (kidP l r i).1 a) (i + 1)
    have := clsS_len S l (kidP l r i).1 a
    simp only [kidsS, List.length_cons]
    omega
section
variable {n0 : Nat} {w0 : World} {I0 M0 : Nat → Prop} {m0 : Mu} {Q : Exit → Sta → Prop}
theorem ikids_l1 {l : List (List Int)} (hs : Sg l) {r : Rf} {t : T} (hm : Means l r t) {S0 : Tb} {u : Nat} (hu : S0.u = u) (hb : S0.cl.length + t.kids.length ≤ 400000) : ∀ (j i : Nat) (v : VOb) (H : Hp), i + j = t.kids.length →
    (kidsS l r S0 0 (t.kids.take i)).Ok → (∀ p, H (0 :: p) = tbF 0 (kidsS l r S0 0 (t.kids.take i)) p) → (∀ p, H (1 :: p) = (nvM (i + 1) (clsL S0.ks (t.kids.take i)).2).F 1 p) → H [2] = ⟨1, .cells (paL l r)⟩ →
    (∀ (q : Bool) (H' : Hp), (kidsS l r S0 0 t.kids).Ok → (∀ p, H' (0 :: p) = tbF 0 (kidsS l r S0 0 t.kids) p) → (∀ p, H' (1 :: p) = (nvM (t.kids.length + 1) (clsL S0.ks t.kids).2).F 1 p) → Q (.exit 0) ⟨lk [(0, .pob [0] u 0), (3, .pob [2] 1 0), (6, .osl [1] (t.kids.length + 1) 1 0 t.kids.length), (12, nv t.kids.length), (13, nv t.kids.length), (14, bv q)], H'⟩) →
    LoopC (cxh Try.prog w0 I0 M0 n0 m0) l1_intern_Table_Kids Q ⟨lk [(0, .pob [0] u 0), (3, .pob [2] 1 0), (6, .osl [1] (i + 1) 1 0 i), (12, nv t.kids.length), (13, nv i)], H⟩ := by
  intro j
  induction j with
  | zero =>
    intro i v H hi hok hH hN hA hq
    have : i = t.kids.length := by omega
    subst this
    rw [List.take_of_length_le (Nat.le_refl _)] at hok hH hN
    refine loopC_once mixed l1_intern_Table_Kids.eq_1 ?_
    simp
    exact hq _ H hok hH hN
  | succ j ih =>
    intro i v H hi hok hH hN hA hq
    have hlt : i < t.kids.length := by omega
    have hlt' : (i : Int) < t.kids.length := by omega
    obtain ⟨k1, k2⟩ := means_kid hm hlt
    have ei : IntKind.i64.wrap ((i : Int) + 1) = ((i + 1 : Nat) : Int) := i64_same (by omega) (by omega)
    have htk : t.kids.take (i + 1) = t.kids.take i ++ [t.kids[i]] := List.take_succ_eq_append_getElem hlt
    have hlen := kidsS_len (l := l) (r := r) (t.kids.take i) S0 0
    rw [List.length_take, Nat.min_eq_left (by omega)] at hlen
    have hku := kidsS_u (l := l) (r := r) (t.kids.take i) S0 0
    rw [hu] at hku
    have hC := iClass_spec hok (by omega) hs k2
    rw [hku] at hC
    have hok2 := clsS_ok hok hs k2
    have hks : (kidsS l r S0 0 (t.kids.take i)).ks = (clsL S0.ks (t.kids.take i)).1 := kidsS_ks _ _ _
    have hS2 : kidsS l r S0 0 (t.kids.take (i + 1)) = clsS (kidsS l r S0 0 (t.kids.take i)) l (kidP l r i).1 t.kids[i] := by
      rw [htk, kidsS_succ, List.length_take, Nat.min_eq_left (by omega), Nat.zero_add]
    have hL2 : (clsL S0.ks (t.kids.take (i + 1))).2 = (clsL S0.ks (t.kids.take i)).2 ++ [clsI (kidsS l r S0 0 (t.kids.take i)).ks (norm t.kids[i])] := by
      rw [htk, clsL_append, hks]
    have hlL : (clsL S0.ks (t.kids.take i)).2.length = i := by rw [clsL_length, List.length_take, Nat.min_eq_left (by omega)]
    have ihn := ih (i + 1)
    rw [hS2, hL2] at ihn
    generalize clsI (kidsS l r S0 0 (t.kids.take i)).ks (norm t.kids[i]) = c at hC ihn
    generalize (clsL S0.ks (t.kids.take i)).2 = L at hN ihn hlL
    generalize clsS (kidsS l r S0 0 (t.kids.take i)) l (kidP l r i).1 t.kids[i] = S2 at hC ihn hok2
    have hN0 := hN []
    simp at hN0
    refine loopC_once mixed l1_intern_Table_Kids.eq_1 ?_
    simp [hlt, hA]
    refine sc_call (kid_spec hs (means_ok hm) i) (by simp) ?_
    simp [k1, updF_app]
    refine sc_fam 0 hC (fun p => by simp [updF_app, hH]) rfl (by simp) ?_
    simp [updF_app, hN0, ei]
    refine ⟨⟨by omega, by omega⟩, ?_⟩
    refine ihn v _ (by omega) hok2 (fun p => by simp) (fun p => ?_) (by simp [updF_app, hA]) hq
    by_cases hp : p = []
    · subst hp
      simp [updF_app, List.take_of_length_le, hlL]
    · simp [updF_app, hp, hN]
end
theorem iKids_spec {S : Tb} (hS : S.Ok) {l : List (List Int)} (hs : Sg l) {r : Rf} {t : T} (hm : Means l r t) (hb : S.cl.length + t.kids.length ≤ 400000) :
    SpecN Try.prog 33 (fun q => [.pob [q] S.u 0, paX l r]) (tbM S) (fun _ q => .tup [.osl [q] (t.kids.length + 1) 1 0 t.kids.length, iv 0]) (tbM (kidsS l r S 0 t.kids)) (nvM (t.kids.length + 1) (clsL S.ks t.kids).2) := by
  refine specN_of t_intern_Table_Kids (by simp) (famL_cons famA_pob (famL_cons (famL_ref l r) famL_nil)) (famA2_tup (famL2_cons (famA2_r famA_osl) (famL2_cons (famA2_l famA_v) famL2_nil))) (fun p => ?_) fun w0 I0 M0 m0 => ?_
  · by_cases hp : p = []
    · subst hp; exact .inr (by simp)
    · exact .inl (by simp [hp])
  unfold c_intern_Table_Kids
  simp
  refine sc_call (refKids_spec' l r) (by simp) ?_
  rw [means_nk hm]
  simp
  refine LoopC.le (le_blank 6 [1] 1 (by simp)) ?_
  simp
  refine LoopC.le (le_list [(0, .pob [0] S.u 0), (3, .pob [2] 1 0), (6, .osl [1] 1 1 0 0), (12, nv t.kids.length), (13, nv 0)] (by simp [upd])) ?_
  refine ikids_l1 hs hm (S0 := S) rfl hb t.kids.length 0 ⟨0, .none⟩ _ (by omega) (by simpa [kidsS] using hS) (fun p => by simp [kidsS]) (fun p => ?_) (by simp) (fun q H' h1 h2 h3 => ?_)
  · by_cases hp : p = []
    · subst hp
      simp [clsL]
    · simp [hp, Ne.symm hp]
  · simp
    exact reth_fam2 rfl rfl h2 h3
end Go.Proofs.Ytehcobkphobjiaa

/-
  Chapter 16: the reference's classes.
-/
namespace Go.Proofs.Ytehcobkphobjiaa
set_option linter.unusedVariables false
set_option linter.unusedSimpArgs false
open Go Go.G Go.Proofs Go.PL
theorem trs_fam {l : List T} : ∀ x, x ∈ l.map tA → FamA (fun _ => x) := fun x hx => by
  obtain ⟨t, _, rfl⟩ := List.mem_map.1 hx
  exact famA_bare (tA_eq t) fun y hy => by
    simp at hy
    rcases hy with rfl | rfl | rfl <;> rfl
abbrev trM (u : Nat) (l : List T) : Fam := rowM u 3 (l.map tA) trs_fam
theorem famA_tX (t : T) : FamA (fun _ => tX t) := famA_bare rfl fun y hy => by
  simp at hy
  rcases hy with rfl | rfl | rfl <;> rfl
theorem clsI_first {ks : List T} {n : T} {i : Nat} (h : i < ks.length) (e : ks[i] = n) (hb : ∀ (x : Nat) (hx : x < i), ks[x]'(by omega) ≠ n) : clsI ks n = i := by
  unfold clsI
  rw [List.findIdx_eq h]
  refine ⟨sameB_iff.2 e, fun j hj => ?_⟩
  rw [Bool.eq_false_iff]
  exact fun h2 => hb j hj (sameB_iff.1 h2)
/-- The version of a list of trees, behind a class. -/
noncomputable def clsU (u : Nat) (ks : List T) (n : T) : Nat := if clsI ks n < ks.length then u else u + 1
section
variable {n0 : Nat} {w0 : World} {I0 M0 : Nat → Prop} {m0 : Mu} {Q : Exit → Sta → Prop}
theorem rcls_l1 {ks : List T} (hw : ∀ k, k ∈ ks → wfT k) (hl : ks.length ≤ 1000000) {n : T} {u : Nat} {H : Hp} (hN : H [2] = ⟨1, .cells (tL n)⟩) (hK : H [0] = ⟨u, .arr 3 (ks.map tA)⟩)
    (hq : clsI ks n = ks.length → ∀ i q, Q (.exit 0) ⟨lk [(0, .osl [0] u 3 0 ks.length), (6, .pob [2] 1 0), (7, i), (13, bv q)], H⟩) (hq2 : clsI ks n < ks.length → Q .ret ⟨lk [(4, .osl [0] u 3 0 ks.length), (5, nv (clsI ks n))], H⟩) : ∀ (j i : Nat), i + j = ks.length → (∀ (x : Nat) (hx : x < i) (h : x < ks.length), ks[x] ≠ n) →
    LoopC (cxh Try.prog w0 I0 M0 n0 m0) l1_centoref16_Class Q ⟨lk [(0, .osl [0] u 3 0 ks.length), (6, .pob [2] 1 0), (7, nv i)], H⟩ := by
  intro j
  induction j with
  | zero =>
    intro i hi hb
    have : i = ks.length := by omega
    subst this
    refine loopC_once mixed l1_centoref16_Class.eq_1 ?_
    simp
    exact hq (clsI_none fun hm => by
      obtain ⟨x, hx, e⟩ := List.mem_iff_getElem.1 hm
      exact hb x hx hx e) _ _
  | succ j ih =>
    intro i hi hb
    have hlt : i < ks.length := by omega
    have ei : IntKind.i64.wrap ((i : Int) + 1) = ((i + 1 : Nat) : Int) := i64_same (by omega) (by omega)
    refine loopC_once mixed l1_centoref16_Class.eq_1 ?_
    simp [hlt, hN, hK]
    refine sc_call (rTSame_spec _ (hw _ (List.getElem_mem hlt)) n) (by simp) ?_
    by_cases he : ks[i] = n
    · have hc := clsI_first hlt he fun x hx => hb x hx (by omega)
      rw [hc] at hq2
      have : sameB ks[i] n = true := sameB_iff.2 he
      simp [this]
      exact hq2 hlt
    · have : sameB ks[i] n = false := by rw [Bool.eq_false_iff]; exact fun h => he (sameB_iff.1 h)
      simp [this, ei]
      refine ih (i + 1) (by omega) fun x hx h => ?_
      by_cases e : x = i
      · subst e; exact he
      · exact hb x (by omega) h
end
theorem rClass_spec {ks : List T} (hw : ∀ k, k ∈ ks → wfT k) (hl : ks.length ≤ 1000000) {t : T} (ht : wfT t) (u : Nat) :
    SpecF Try.prog 77 (fun r => [.osl [r] u 3 0 ks.length, tX t]) (trM u ks) (fun r => .tup [.osl [r] (clsU u ks (norm t)) 3 0 (clsK ks (norm t)).length, nv (clsI ks (norm t))]) (trM (clsU u ks (norm t)) (clsK ks (norm t))) := by
  refine specF_of t_centoref16_Class (by simp) (famL_cons famA_osl (famL_cons (famA_tX t) famL_nil)) (famA_tup (famL_cons famA_osl (famL_cons famA_v famL_nil))) fun w0 I0 M0 m0 => ?_
  unfold c_centoref16_Class
  simp
  refine sc_call (rNorm_spec t ht) (by simp) ?_
  simp
  refine rcls_l1 hw hl (n := norm t) (u := u) (by simp) (by simp) (fun hc i q => ?_) (fun hc => ?_) ks.length 0 (by omega) (fun x hx => by omega)
  · have h1 : clsU u ks (norm t) = u + 1 := by simp [clsU, hc]
    have h2 : clsK ks (norm t) = ks ++ [norm t] := by simp [clsK, hc]
    have h3 : (ks.length + 1) * 56 ≤ 140737488355328 := by omega
    simp [h3]
    refine reth_fam rfl ?_ fun p => ?_
    · simp [h1, h2, hc]
    · rw [h1, h2]
      by_cases hp : p = []
      · subst hp; simp [updF_app, List.take_of_length_le]
      · simp [updF_app, hp]
  · have h1 : clsU u ks (norm t) = u := by simp [clsU, hc]
    have h2 : clsK ks (norm t) = ks := by simp [clsK, hc]
    simp [h1, h2]
    exact reth_fam rfl rfl fun p => rfl
noncomputable def clsLU : Nat → List T → List T → Nat
  | u, _, [] => u
  | u, ks, t :: l => clsLU (clsU u ks (norm t)) (clsK ks (norm t)) l
theorem clsLU_append : ∀ (l : List T) (u : Nat) (ks : List T) (t : T), clsLU u ks (l ++ [t]) = clsU (clsLU u ks l) (clsL ks l).1 (norm t)
  | [], u, ks, t => by simp [clsLU, clsL]
  | a :: l, u, ks, t => by simp [clsLU, clsL, clsLU_append l]
theorem clsK_len (ks : List T) (n : T) : (clsK ks n).length ≤ ks.length + 1 := by
  unfold clsK
  split <;> simp
theorem clsL_len : ∀ (l ks : List T), (clsL ks l).1.length ≤ ks.length + l.length
  | [], ks => by simp [clsL]
  | t :: l, ks => by
    have := clsL_len l (clsK ks (norm t))
    have := clsK_len ks (norm t)
    simp only [clsL, List.length_cons]
    omega
theorem clsK_wf {ks : List T} {n : T} (h : ∀ k, k ∈ ks → wfT k) (hn : wfT n) : ∀ k, k ∈ clsK ks n → wfT k := by
  unfold clsK
  split
  · exact h
  · intro k hk
    rcases List.mem_append.1 hk with hk | hk
    · exact h k hk
    · simp at hk; subst hk; exact hn
theorem clsL_wf : ∀ {l ks : List T}, (∀ k, k ∈ ks → wfT k) → (∀ k, k ∈ l → wfT k) → ∀ k, k ∈ (clsL ks l).1 → wfT k
  | [], ks, h, _ => h
  | t :: l, ks, h, hl => clsL_wf (l := l) (clsK_wf h (wf_norm _ (hl t (by simp)))) fun k hk => hl k (by simp [hk])
section
variable {n0 : Nat} {w0 : World} {I0 M0 : Nat → Prop} {m0 : Mu} {Q : Exit → Sta → Prop}
theorem rclss_l1 {ks0 ts : List T} (hw : ∀ k, k ∈ ks0 → wfT k) (ht : ∀ k, k ∈ ts → wfT k) (hl : ks0.length + ts.length ≤ 1000000) {u0 : Nat} (hq : ∀ (q : Bool) (H : Hp), (∀ p, H (0 :: p) = (trM (clsLU u0 ks0 ts) (clsL ks0 ts).1).F 0 p) → (∀ p, H (1 :: p) = (nvM (ts.length + 1) (clsL ks0 ts).2).F 1 p) →
      Q (.exit 0) ⟨lk [(0, .osl [0] (clsLU u0 ks0 ts) 3 0 (clsL ks0 ts).1.length), (1, tKs ts), (6, .osl [1] (ts.length + 1) 1 0 ts.length), (7, nv ts.length), (13, bv q)], H⟩) :
    ∀ (j i : Nat) (H : Hp), i + j = ts.length → (∀ p, H (0 :: p) = (trM (clsLU u0 ks0 (ts.take i)) (clsL ks0 (ts.take i)).1).F 0 p) → (∀ p, H (1 :: p) = (nvM (i + 1) (clsL ks0 (ts.take i)).2).F 1 p) →
    LoopC (cxh Try.prog w0 I0 M0 n0 m0) l1_centoref16_Classes Q ⟨lk [(0, .osl [0] (clsLU u0 ks0 (ts.take i)) 3 0 (clsL ks0 (ts.take i)).1.length), (1, tKs ts), (6, .osl [1] (i + 1) 1 0 i), (7, nv i)], H⟩ := by
  intro j
  induction j with
  | zero =>
    intro i H hi hH hN
    have : i = ts.length := by omega
    subst this
    rw [List.take_of_length_le (Nat.le_refl _)] at hH hN ⊢
    refine loopC_once mixed l1_centoref16_Classes.eq_1 ?_
    simp
    exact hq _ H hH hN
  | succ j ih =>
    intro i H hi hH hN
    have hlt : i < ts.length := by omega
    have ei : IntKind.i64.wrap ((i : Int) + 1) = ((i + 1 : Nat) : Int) := i64_same (by omega) (by omega)
    have htk : ts.take (i + 1) = ts.take i ++ [ts[i]] := List.take_succ_eq_append_getElem hlt
    have hlen := clsL_len (ts.take i) ks0
    rw [List.length_take, Nat.min_eq_left (by omega)] at hlen
    have hwt := ht _ (List.getElem_mem hlt)
    have hC := rClass_spec (clsL_wf hw (l := ts.take i) fun k hk => ht k (List.mem_of_mem_take hk)) (by omega) hwt (clsLU u0 ks0 (ts.take i))
    have hlL : (clsL ks0 (ts.take i)).2.length = i := by rw [clsL_length, List.length_take, Nat.min_eq_left (by omega)]
    have ihn := ih (i + 1)
    rw [htk, clsLU_append, clsL_append] at ihn
    simp only at ihn
    have hN0 := hN []
    simp at hN0
    refine loopC_once mixed l1_centoref16_Classes.eq_1 ?_
    simp [hlt]
    refine sc_fam 0 hC hH (by simp) (by simp) ?_
    generalize (clsL ks0 (ts.take i)).2 = L at hN hN0 ihn hlL
    simp [hN0, ei]
    refine ⟨⟨by omega, by omega⟩, ?_⟩
    refine ihn _ (by omega) (fun p => by simp) (fun p => ?_)
    by_cases hp : p = []
    · subst hp
      simp [updF_app, List.take_of_length_le, hlL]
    · simp [updF_app, hp, hN]
end
theorem rClasses_spec {ks ts : List T} (hw : ∀ k, k ∈ ks → wfT k) (ht : ∀ k, k ∈ ts → wfT k) (hl : ks.length + ts.length ≤ 1000000) (u : Nat) :
    SpecN Try.prog 35 (fun r => [.osl [r] u 3 0 ks.length, tKs ts]) (trM u ks) (fun r q => .tup [.osl [r] (clsLU u ks ts) 3 0 (clsL ks ts).1.length, .osl [q] (ts.length + 1) 1 0 ts.length]) (trM (clsLU u ks ts) (clsL ks ts).1) (nvM (ts.length + 1) (clsL ks ts).2) := by
  refine specN_of t_centoref16_Classes (by simp) (famL_cons famA_osl (famL_cons famA_sl famL_nil)) (famA2_tup (famL2_cons (famA2_l famA_osl) (famL2_cons (famA2_r famA_osl) famL2_nil))) (fun p => ?_) fun w0 I0 M0 m0 => ?_
  · by_cases hp : p = []
    · subst hp; exact .inr (by simp)
    · exact .inl (by simp [hp])
  unfold c_centoref16_Classes
  simp
  refine LoopC.le (le_blank 6 [1] 1 (by simp)) ?_
  simp
  refine LoopC.le (le_list [(0, .osl [0] u 3 0 ks.length), (1, tKs ts), (6, .osl [1] 1 1 0 0), (7, nv 0)] (by simp [upd])) ?_
  refine rclss_l1 hw ht hl (u0 := u) (fun q H h1 h2 => ?_) ts.length 0 _ (by omega) (fun p => by simp [clsLU, clsL]) (fun p => ?_)
  · simp
    exact reth_fam2 rfl rfl h1 h2
  · by_cases hp : p = []
    · subst hp
      simp [clsL]
    · simp [hp, Ne.symm hp]
section
variable {n0 : Nat} {w0 : World} {I0 : Nat → Prop} {Q : Exit → Sta → Prop} {H : Hp}
theorem sameI_l1 {a b : List Nat} (hl : a.length ≤ 1000000) (he : a.length = b.length) (hq : a = b → ∀ q, Q (.exit 0) ⟨lk [(0, .sl false (a.map nv)), (1, .sl false (b.map nv)), (5, nv a.length), (14, bv q)], H⟩) (hq2 : a ≠ b → Q .ret ⟨lk [(4, bv false)], H⟩) :
    ∀ (j i : Nat), i + j = a.length → (∀ x : Nat, x < i → a[x]? = b[x]?) → LoopC (cx Try.prog w0 I0 n0) l1_centoref16_SameInts Q ⟨lk [(0, .sl false (a.map nv)), (1, .sl false (b.map nv)), (5, nv i)], H⟩ := by
  intro j
  induction j with
  | zero =>
    intro i hi hb
    have : i = a.length := by omega
    subst this
    refine loopC_once mixed l1_centoref16_SameInts.eq_1 ?_
    simp
    refine hq (List.ext_getElem? fun x => ?_) _
    by_cases hx : x < a.length
    · exact hb x hx
    · rw [List.getElem?_eq_none (by omega), List.getElem?_eq_none (by omega)]
  | succ j ih =>
    intro i hi hb
    have hlt : i < a.length := by omega
    have hlt2 : i < b.length := by omega
    have ei : IntKind.i64.wrap ((i : Int) + 1) = ((i + 1 : Nat) : Int) := i64_same (by omega) (by omega)
    refine loopC_once mixed l1_centoref16_SameInts.eq_1 ?_
    simp [hlt, hlt2]
    refine ⟨fun h => ?_, fun h => hq2 fun e => h (by subst e; rfl)⟩
    rw [ei]
    refine ih (i + 1) (by omega) fun x hx => ?_
    by_cases e : x = i
    · subst e; rw [List.getElem?_eq_getElem hlt, List.getElem?_eq_getElem hlt2]; congr 1; omega
    · exact hb x (by omega)
end
theorem rSameInts_spec {a b : List Nat} (hl : a.length ≤ 1000000) : G.Spec Try.prog 36 [.sl false (a.map nv), .sl false (b.map nv)] (bv (decide (a = b))) := by
  refine spec_of t_centoref16_SameInts (by simp) fun w0 I0 => ?_
  unfold c_centoref16_SameInts
  by_cases he : a.length = b.length
  · simp [he]
    refine sameI_l1 hl he (fun h q => ?_) (fun h => ?_) a.length 0 (by omega) (fun x hx => by omega)
    · simp
      exact frz_is rfl (by simp [h])
    · simp
      exact frz_is rfl (by simp [h])
  · have hne : a ≠ b := fun e => he (by rw [e])
    simp [he]
    refine ⟨fun h => absurd (by omega) he, fun _ => ?_⟩
    exact frz_is rfl (by simp [hne])
end Go.Proofs.Ytehcobkphobjiaa

/-
  Chapter 16: the laws InternNone and InternClasses.
-/
namespace Go.Proofs.Ytehcobkphobjiaa
set_option linter.unusedVariables false
set_option linter.unusedSimpArgs false
open Go Go.G Go.Proofs Go.PL
theorem root16_spec {l : List (List Int)} (hs : Sg l) (hl : l.length * 24 ≤ 140737488355328) : G.Spec Try.prog 34 [sgs l] (paX l (atP l 0 0).1) := by
  refine spec_of t_centolaw16_root (by simp) fun w0 I0 => ?_
  unfold c_centolaw16_root
  simp
  refine sc_call (of_spec l hl hs.b) rfl ?_
  simp
  refine sc_call (root_spec hs) rfl ?_
  simp
  exact frz_bare (by simp)
abbrev s16 : List (List Int) := [[111669149697, 329477]]
theorem sg16 : Sg s16 := ⟨fun x hx => by simp at hx; subst hx; simp, fun x hx y hy => by simp at hx; subst hx; simp at hy; omega⟩
abbrev a16 (n : Int) : T := .mk 10 [n] []
theorem unf16 : unfP s16 64 3000 = (.mk 4 [] [a16 5, a16 7, a16 5], 4, 0) := by kernel_rfl
theorem ok_newTb : newTb.Ok := ⟨by decide, by decide, by decide, by simpa [newTb] using Pl.nil 8, fun c hc => by simp [newTb] at hc, by simp [newTb]⟩
theorem awake16_cls : clsL [] [a16 5, a16 7, a16 5] = ([a16 5, a16 7], [0, 1, 0]) := by
  have n5 : norm (a16 5) = a16 5 := by simp [norm_mk]
  have n7 : norm (a16 7) = a16 7 := by simp [norm_mk]
  have h1 : clsI [] (a16 5) = 0 := clsI_none (by simp)
  have k1 : clsK [] (a16 5) = [a16 5] := by simp [clsK, h1]
  have h2 : clsI [a16 5] (a16 7) = 1 := clsI_none (by simp)
  have k2 : clsK [a16 5] (a16 7) = [a16 5, a16 7] := by simp [clsK, h2]
  have h3 : clsI [a16 5, a16 7] (a16 5) = 0 := clsI_first (by simp) rfl (by simp)
  have k3 : clsK [a16 5, a16 7] (a16 5) = [a16 5, a16 7] := by simp [clsK, h3]
  simp [clsL, n5, n7, h1, k1, h2, k2, h3, k3]
theorem frz_nv {H : Hp} {o : Nm} {u : Nat} {l : List Nat} {n : Nat} (h : vr (H o) u = some (1, l.map nv)) (hn : n = l.length) : Frz H (.osl o u 1 0 n) (.sl false (l.map nv)) := frz_row (f := nv) h hn fun x => by simp
theorem frz_tb' {r u : Nat} {S : Tb} {H : Hp} (hu : S.u = u) (hF : ∀ p, H (r :: p) = tbF r S p) : Frz H (.pob [r] u 0) (tbX S) := by
  subst hu
  exact frz_tb hF
theorem awake16_spec : G.Spec Try.prog 29 [] (bv true) := by
  have m1 := unfold_means sg16 (a := 64) (b := 3000) (by rw [unf16])
  rw [unf16] at m1
  have hK := iKids_spec ok_newTb sg16 m1 (by simp [newTb])
  have hks : newTb.ks = [] := by simp [newTb, Tb.ks]
  have hu := kidsS_u (l := s16) (r := (atP s16 0 0).1) [a16 5, a16 7, a16 5] newTb 0
  have hks2 := kidsS_ks (l := s16) (r := (atP s16 0 0).1) [a16 5, a16 7, a16 5] newTb 0
  rw [hks, awake16_cls] at hks2
  have hcl := congrArg List.length hks2
  rw [Tb.ks_length] at hcl
  simp only [T.kids_mk] at hK
  rw [hks, awake16_cls] at hK
  generalize kidsS s16 (atP s16 0 0).1 newTb 0 [a16 5, a16 7, a16 5] = S2 at hK hu hcl
  refine spec_of t_centolaw16_awake (by simp) fun w0 I0 => ?_
  unfold c_centolaw16_awake
  simp
  refine sc_fam 5 iNew_spec (fun p => by simp) rfl (by simp) ?_
  simp
  refine sc_call ((root16_spec sg16 (by simp)).soft (by simp [A.softL, A.soft])) rfl ?_
  simp
  refine sc_famN 5 6 (by decide) hK (fun p => by simp) (fun p => by simp) rfl (by simp) ?_
  simp
  refine sc_callb_gt [.sl false ([0, 1, 0].map nv), .sl false ([0, 1, 0].map nv)] rfl (fun _ => (rSameInts_spec (by simp)).toB rfl) (fun _ => ?_) (by simp) ?_
  · simp
    exact ⟨frz_nv (l := [0, 1, 0]) (by simp) rfl, frz_soft rfl⟩
  simp
  refine sc_callb_gt [tbX S2] rfl (fun _ => (iLen_spec S2).toB rfl) (fun _ => ?_) (by simp) ?_
  · simp
    exact frz_tb' hu (fun p => by simp)
  simp at hcl
  simp
  exact frz_is rfl (by simp [hcl])
section
variable {n0 : Nat} {w0 : World} {I0 : Nat → Prop} {Q : Exit → Sta → Prop}
end
end Go.Proofs.Ytehcobkphobjiaa

/-
  Chapter 16: the law InternMany.
-/
namespace Go.Proofs.Ytehcobkphobjiaa
set_option linter.unusedVariables false
set_option linter.unusedSimpArgs false
open Go Go.G Go.Proofs Go.PL
/-! ### classes, again -/
/-! ### the message -/
section
variable {n0 : Nat} {w0 : World} {I0 : Nat → Prop} {Q : Exit → Sta → Prop}
end
theorem kidsS_ok {l : List (List Int)} (hs : Sg l) {r : Rf} : ∀ (ts : List T) (S : Tb) (i : Nat), S.Ok → (∀ (j : Nat) (h : j < ts.length), Means l (kidP l r ((i + j : Nat) : Int)).1 ts[j]) → (kidsS l r S i ts).Ok
  | [], S, i, h, _ => h
  | t :: ts, S, i, h, hm => by
    rw [kidsS]
    refine kidsS_ok hs ts _ (i + 1) (clsS_ok h hs (by have := hm 0 (by simp); exact this)) fun j hj => ?_
    have := hm (j + 1) (by simpa using hj)
    rwa [show i + (j + 1) = i + 1 + j from by omega] at this
section
variable {n0 : Nat} {w0 : World} {I0 : Nat → Prop}
end
end Go.Proofs.Ytehcobkphobjiaa

/-
  Chapters 13 and 16: what is built; the law InternKids.
-/
namespace Go.Proofs.Ytehcobkphobjiaa
set_option linter.unusedVariables false
set_option linter.unusedSimpArgs false
open Go Go.G Go.Proofs Go.PL
/-- An arena's segments, as they are read. -/
theorem frz_ars {r : Nat} {S : Ar} {H : Hp} (hH : ∀ p, H (r :: p) = arF r S p) : Frz H (.osl [r, 0] S.ur 1 0 S.l.length) (sgs S.w) := by
  have h0 := hH [0]
  refine frz_osl' (o := [r, 0]) (u := S.ur) (off := 0) (len := S.l.length) (sz := 1) (xs := rowS r S.l) (ys := S.w.map ws) (by simp [h0]) (by simp) (by simp [Ar.w]) (by simp) (by simp [A.ones]) ?_
  have e1 : List.flatMap A.cells (List.take S.l.length (List.drop 0 (rowS r S.l))) = rowS r S.l := by
    rw [List.drop_zero, List.take_of_length_le (by simp)]
    exact flat_ones fun x hx => by
      obtain ⟨i, hi, rfl⟩ := List.mem_mapIdx.1 hx
      rfl
  have e2 : List.flatMap A.cells (List.map ws S.w) = List.map ws S.w := flat_ones fun x hx => by
    obtain ⟨i, hi, rfl⟩ := List.mem_map.1 hx
    rfl
  rw [e1, e2]
  refine frzL_intro (by simp [Ar.w]) fun k a a' ha ha' => ?_
  simp at ha ha'
  obtain ⟨p, q, hk, rfl⟩ := ha
  obtain ⟨g, hg, rfl⟩ := ha'
  simp [Ar.w, hk] at hg
  subst hg
  have := frz_osl (H := H) (o := [r, 0, k]) (u := p) (off := 0) (len := q.length) (sz := 1) (xs := q.map uv) (by simp [hH, hk]) (by simp) (by simp [List.take_of_length_le])
  simpa [List.take_of_length_le] using this
theorem sg_ar {S : Ar} (h : S.Ok) (hw : Wd S) : Sg S.w ∧ S.w.length ≤ 16 := by
  refine ⟨⟨fun x hx => ?_, fun x hx y hy => ?_⟩, by simpa [Ar.w] using h.len⟩
  · obtain ⟨e, he, rfl⟩ := List.mem_map.1 hx
    have := h.seg e he
    have := h.used1
    have := h.most1
    omega
  · obtain ⟨e, he, rfl⟩ := List.mem_map.1 hx
    exact hw e he y hy
section
variable {n0 : Nat} {w0 : World} {I0 : Nat → Prop}
theorem bBuild_k1 {S : Ar} {ok : Bool} {u : Nat} {H : Hp} (g0 : ∀ p, H (1 :: p) = (bdM u S ok).B 1 2 p) (g1 : ∀ p, H (2 :: p) = arF 2 S p) :
    WPC (cx Try.prog w0 I0 n0) k1_centoref13_Build (RetC Try.prog [.tmp 6, .tmp 7] (.tup [sgs (if ok = true then S.w else []), bv ok])) ⟨lk [(8, .pob [1] u 0)], H⟩ := by
  unfold k1_centoref13_Build
  have h0 := g0 []
  have h1 := g1 []
  simp at h0 h1
  cases ok with
  | false =>
    simp [h0]
    exact frz_tup (by simp; exact ⟨frz_sl, frz_bare rfl⟩)
  | true =>
    simp [h0, h1]
    exact frz_tup (by simp; exact ⟨frz_ars g1, frz_bare rfl⟩)
end
theorem bBuild_spec {t : T} (hw : wfT t) (z m : Int) (hz : z < 9223372036854775808) : ∃ (L : List (List Int)) (ok : Bool), (ok = true → Sg L ∧ L.length ≤ 16) ∧ G.Spec Try.prog 30 [tX t, iv z, iv m] (.tup [sgs L, bv ok]) := by
  by_cases hr : (!rightT 64 t || decide (t.kind = 10)) = true
  · refine ⟨[], false, (fun e => by cases e), spec_of t_centoref13_Build (by simp) fun w0 I0 => ?_⟩
    unfold c_centoref13_Build
    simp
    refine sc_call (rRight_spec t hw 64 (by omega)) (by simp) ?_
    simp [hr]
    exact frz_tup (by simp; exact ⟨frz_sl, frz_bare rfl⟩)
  · have hr' := Bool.eq_false_iff.2 hr
    have hr1 : rightT 64 t = true := by
      cases e : rightT 64 t with
      | true => rfl
      | false => simp [e] at hr
    have h10 : t.kind ≠ 10 := fun e => by simp [e] at hr
    have hok := laid_right t 64 hr1 hw h10
    have hwn := wf_norm t hw
    have k0 : (newAr z m).Ok := newAr_ok hz
    have kw : Wd (newAr z m) := fun e he => by simp [newAr] at he
    obtain ⟨s1, a1, S1, ok1, g1, k1, p1, q1⟩ := give_cases k0 kw 1 true 1
    obtain ⟨S2, ok2, g2, k2, q2⟩ := (bLay_all (norm t)).1 hok hwn 1 S1 ok1 s1 a1 g1.ok g1.wd p1
    refine ⟨if ok1 = true then (if ok2 = true then S2.w else []) else [], ok1 && ok2, ?_, spec_of t_centoref13_Build (by simp) fun w0 I0 => ?_⟩
    · intro e
      simp at e
      obtain ⟨e1, e2⟩ := e
      subst e1 e2
      simp
      exact sg_ar g2.ok g2.wd
    unfold c_centoref13_Build
    simp
    refine sc_call (rRight_spec t hw 64 (by omega)) (by simp) ?_
    simp [hr1, h10]
    refine sc_new 2 rfl (rNew_spec z m) (fun p => rfl) rfl (fun _ _ => rfl) (fun _ => ⟨trivial, trivial, trivial⟩) newAr_fam (by simp) ?_
    simp
    refine sc_fam2 1 2 (by decide) q1 (fun p => by simp [newAr]) (fun p => by simp) (by simp) (by simp) ?_
    simp
    cases ok1 with
    | false =>
      simp
      exact bBuild_k1 (ok := false) (S := S1) (fun p => by simp) (fun p => by simp)
    | true =>
      simp
      refine sc_call (rNorm_spec t hw) (by simp) ?_
      simp
      refine sc_fam2 1 2 (by decide) q2 (fun p => by simp) (fun p => by simp) (by simp) (by simp) ?_
      simp
      exact bBuild_k1 (ok := ok2) (S := S2) (fun p => by simp) (fun p => by simp)
theorem InternKids_spec {a b : T} (ha : wfT a) (hb : wfT b) {z y : Int} (hz : z < 9223372036854775808) (hy : y < 9223372036854775808) : G.Spec Try.prog 5 [tX a, tX b, iv z, iv y] (bv true) := by
  obtain ⟨l, ok, h1, hB1⟩ := bBuild_spec ha z 131072 hz
  obtain ⟨m, is, h2, hB2⟩ := bBuild_spec hb y 131072 hy
  refine spec_of t_centolaw16_InternKids (by simp) fun w0 I0 => ?_
  unfold c_centolaw16_InternKids
  simp
  refine sc_call (few_spec ha) (by simp) ?_
  simp
  refine sc_call_gf rfl (fun _ => few_spec hb) (fun e => by simp at e; simp [e]) rfl ?_
  by_cases hd : (!fewT a || !fewT b) = true
  · simp [hd]
    refine sc_call awake16_spec (by simp) ?_
    simp
    exact frz_bare rfl
  have hd := Bool.eq_false_iff.2 hd
  simp [hd]
  refine sc_call hB1 (by simp) ?_
  simp
  refine sc_call hB2 (by simp) ?_
  simp
  cases ok with
  | false =>
    simp
    refine sc_call awake16_spec rfl ?_
    simp
    exact frz_bare rfl
  | true =>
  cases is with
  | false =>
    simp
    refine sc_call awake16_spec rfl ?_
    simp
    exact frz_bare rfl
  | true =>
  obtain ⟨hl, ll⟩ := h1 rfl
  obtain ⟨hm, ml⟩ := h2 rfl
  simp
  refine sc_call (unfold_spec hl 64 65536 0 0) (by simp) ?_
  have mt := unfold_means hl (a := 64) (b := 65536)
  have nt := unf_nk hl (a := 64) (b := 65536)
  generalize unfP l 64 65536 = x at mt nt
  obtain ⟨t, wt, e⟩ := x
  simp
  refine sc_call (unfold_spec hm 64 65536 0 0) (by simp) ?_
  have mv := unfold_means hm (a := 64) (b := 65536)
  have nw := unf_nk hm (a := 64) (b := 65536)
  generalize unfP m 64 65536 = x at mv nw
  obtain ⟨v, wv, f⟩ := x
  simp
  by_cases he0 : e = 0
  rotate_left
  · simp [he0]
    refine sc_call awake16_spec rfl ?_
    simp
    exact frz_bare rfl
  by_cases hf0 : f = 0
  rotate_left
  · simp [he0, hf0]
    refine sc_call awake16_spec rfl ?_
    simp
    exact frz_bare rfl
  subst he0 hf0
  have mt := mt rfl
  have mv := mv rfl
  have nt := nt rfl
  have nw := nw rfl
  simp only at mt mv nt nw
  simp
  have hn0 : newTb.ks = [] := by simp [newTb, Tb.ks]
  have hK := iKids_spec ok_newTb hl mt (by simp [newTb]; omega)
  have hok2 := kidsS_ok hl (r := (atP l 0 0).1) t.kids newTb 0 ok_newTb (fun j hj => by
    have := (means_kid mt (i := j) hj).2
    simpa using this)
  have hu2 := kidsS_u (l := l) (r := (atP l 0 0).1) t.kids newTb 0
  have hks2 := kidsS_ks (l := l) (r := (atP l 0 0).1) t.kids newTb 0
  have hlen2 := kidsS_len (l := l) (r := (atP l 0 0).1) t.kids newTb 0
  generalize kidsS l (atP l 0 0).1 newTb 0 t.kids = S2 at hK hok2 hu2 hks2 hlen2
  have hK2 := iKids_spec hok2 hm mv (by simp [newTb] at hlen2 ⊢; omega)
  have hu3 := kidsS_u (l := m) (r := (atP m 0 0).1) v.kids S2 0
  have hks3 := kidsS_ks (l := m) (r := (atP m 0 0).1) v.kids S2 0
  generalize kidsS m (atP m 0 0).1 S2 0 v.kids = S3 at hK2 hu3 hks3
  have wt' := means_wf hl _ _ mt
  have wv' := means_wf hm _ _ mv
  have wtk : ∀ k, k ∈ t.kids → wfT k := by
    obtain ⟨k, w, ks⟩ := t
    exact (wfT_iff.1 wt').ks
  have wvk : ∀ k, k ∈ v.kids → wfT k := by
    obtain ⟨k, w, ks⟩ := v
    exact (wfT_iff.1 wv').ks
  have hC := rClasses_spec (ks := []) (ts := t.kids) (by simp) wtk (by simp; omega) 1
  rw [hn0] at hks2 hK
  have hlk := congrArg List.length hks2
  rw [Tb.ks_length] at hlk
  have hC2 := rClasses_spec (ks := (clsL [] t.kids).1) (ts := v.kids) (clsL_wf (by simp) wtk) wvk (by rw [← hlk]; simp [newTb] at hlen2; omega) (clsLU 1 [] t.kids)
  rw [hks2] at hks3 hK2
  have hL := congrArg List.length hks3
  rw [Tb.ks_length] at hL
  have hl1 : (clsL [] t.kids).2.length = t.kids.length := clsL_length _ _
  have hl2 : (clsL (clsL [] t.kids).1 v.kids).2.length = v.kids.length := clsL_length _ _
  have hu2' : S2.u = 1 := hu2
  have hu3' : S3.u = 1 := by rw [hu3, hu2']
  rw [hu2'] at hK2
  have hK1 : newTb.u = 1 := rfl
  rw [hK1] at hK
  generalize (clsL (clsL [] t.kids).1 v.kids).2 = L2 at hC2 hK2 hl2
  generalize (clsL (clsL [] t.kids).1 v.kids).1 = ks2 at hC2 hL
  generalize clsLU (clsLU 1 [] t.kids) (clsL [] t.kids).1 v.kids = u2 at hC2
  generalize (clsL [] t.kids).2 = L1 at hC hK hl1
  generalize (clsL [] t.kids).1 = ks1 at hC hC2
  generalize clsLU 1 [] t.kids = u1 at hC hC2
  refine sc_fam 5 iNew_spec (fun p => by simp) rfl (by simp) ?_
  simp
  refine sc_call (root16_spec hl (by omega)) (by simp) ?_
  simp
  refine sc_famN 5 6 (by decide) hK (fun p => by simp) (fun p => by simp) rfl (by simp) ?_
  simp
  refine sc_call (root16_spec hm (by omega)) (by simp) ?_
  simp
  refine sc_famN 5 7 (by decide) hK2 (fun p => by simp) (fun p => by simp) rfl (by simp) ?_
  simp
  refine stop_le (le_blank 24 [8] 3 (by simp)) (stop_go ?_)
  simp
  refine sc_famN 8 9 (by decide) hC (fun p => ?_) (fun p => by simp) (by simp) (by simp) ?_
  · by_cases hp : p = []
    · subst hp; simp
    · simp [hp, Ne.symm hp]
  simp
  refine sc_famN 8 10 (by decide) hC2 (fun p => by simp) (fun p => by simp) (by simp) (by simp) ?_
  simp
  refine sc_callb_gt [.sl false (L1.map nv), .sl false (L1.map nv)] rfl (fun _ => (rSameInts_spec (by omega)).toB rfl) (fun _ => ?_) (by simp) ?_
  · simp
    exact ⟨frz_nv (by simp) hl1.symm, frz_nv (by simp) hl1.symm⟩
  simp
  refine sc_callb_gt [.sl false (L2.map nv), .sl false (L2.map nv)] rfl (fun _ => (rSameInts_spec (by omega)).toB rfl) (fun _ => ?_) (by simp) ?_
  · simp
    exact ⟨frz_nv (by simp) hl2.symm, frz_nv (by simp) hl2.symm⟩
  simp
  refine sc_callb_gt [tbX S3] rfl (fun _ => (iLen_spec S3).toB rfl) (fun _ => ?_) (by simp) ?_
  · simp
    exact frz_tb' hu3' (fun p => by simp)
  simp [hL]
  refine sc_call_gt rfl (fun _ => awake16_spec) (fun _ => rfl) rfl ?_
  simp
  exact frz_bare rfl
end Go.Proofs.Ytehcobkphobjiaa

/-
  What an argument holds: trees and edits out of readings.
-/
namespace Go.Proofs.Ytehcobkphobjiaa
set_option linter.unusedVariables false
set_option linter.unusedSimpArgs false
open Go Go.G Go.Proofs Go.PL Go.RowKit
theorem lit_i64 {m : Int} (h : (Lit.int .i64 m).wf = true) : i64R m := by
  simp [Lit.wf, IntKind.min, IntKind.max, IntKind.bits, IntKind.signed] at h
  unfold i64R; omega
theorem lit_u64 {m : Int} (h : (Lit.int .u64 m).wf = true) : u64R m := by
  simp [Lit.wf, IntKind.min, IntKind.max, IntKind.bits, IntKind.signed] at h
  unfold u64R; omega
theorem und_int' : Try.prog.underlying 3 = some (.int .i64) := by kernel_rfl
theorem und_u64' : Try.prog.underlying 26 = some (.int .u64) := by kernel_rfl
theorem hasI {n : Nat} {b : List A} (h : Has Try.prog n 3 b) : ∃ m, i64R m ∧ b = [iv m] := by
  cases n with
  | zero => exact h.elim
  | succ n =>
    unfold Has at h
    rw [und_int'] at h
    obtain ⟨m, hm, rfl⟩ := h
    exact ⟨m, lit_i64 hm, rfl⟩
theorem hasU {n : Nat} {b : List A} (h : Has Try.prog n 26 b) : ∃ m, u64R m ∧ b = [uv m] := by
  cases n with
  | zero => exact h.elim
  | succ n =>
    unfold Has at h
    rw [und_u64'] at h
    obtain ⟨m, hm, rfl⟩ := h
    exact ⟨m, lit_u64 hm, rfl⟩
theorem rowOf {α : Type} {xs : List A} {g : α → A} {R : α → Prop} (h : ∀ x, x ∈ xs → ∃ y, R y ∧ x.soft = g y) : ∃ l : List α, A.softL xs = l.map g ∧ l.length = xs.length ∧ ∀ y, y ∈ l → R y := by
  induction xs with
  | nil => exact ⟨[], rfl, rfl, fun y h => nomatch h⟩
  | cons x xs ih =>
    obtain ⟨y, hy, e⟩ := h x (by simp)
    obtain ⟨l, e2, e3, hl⟩ := ih fun z hz => h z (by simp [hz])
    refine ⟨y :: l, by simp [A.softL, e, e2], by simp [e3], fun z hz => ?_⟩
    rcases List.mem_cons.1 hz with rfl | hz
    · exact hy
    · exact hl z hz
theorem hasSl {P : Program} {t e : TypeId} {m : Nat} (u : P.underlying t = some (.slice e)) (hb : P.bytesOf e = m) {n : Nat} {b : List A} (h : Has P n t b) {α : Type} {g : α → A} {R : α → Prop} (hx : ∀ k b, k < n → Has P k e b → ∃ y, R y ∧ (mk P e b).soft = g y) :
    ∃ (f : Bool) (xs : List A) (l : List α), b = [.sl f xs] ∧ A.softL xs = l.map g ∧ l.length * m ≤ 140737488355328 ∧ ∀ y, y ∈ l → R y := by
  cases n with
  | zero => exact h.elim
  | succ n =>
    unfold Has at h
    rw [u] at h
    obtain ⟨f, xs, rfl, _, hz, hf, hx'⟩ := h
    rw [hb] at hz
    obtain ⟨l, e1, e2, hl⟩ := rowOf (g := g) (R := R) (xs := xs) fun x hxx => by
      obtain ⟨b, hb', rfl⟩ := hx' x hxx
      exact hx n b (by omega) hb'
    exact ⟨f, xs, l, rfl, e1, by rw [e2]; exact Nat.le_trans hz (by decide), hl⟩
theorem mk_u64 (b : List A) : mk Try.prog 26 b = b.headD .any := by unfold mk; rw [und_u64']
theorem hasWs {n : Nat} {b : List A} (h : Has Try.prog n 23 b) : ∃ (f : Bool) (xs : List A) (l : List Int), b = [.sl f xs] ∧ A.softL xs = l.map uv ∧ l.length * 8 ≤ 140737488355328 ∧ ∀ y, y ∈ l → u64R y :=
  hasSl (e := 26) (by kernel_rfl) (by kernel_rfl) h fun k b _ hb => by
    obtain ⟨m, h1, rfl⟩ := hasU hb
    exact ⟨m, h1, by rw [mk_u64]; rfl⟩
theorem und_tree : Try.prog.underlying 53 = some (.struct (Try.prog.fieldsOf 53)) := by kernel_rfl
theorem fld_tree : (Try.prog.fieldsOf 53).toList.map Field.type = [3, 23, 51] := by kernel_rfl
theorem mk_tree (b : List A) : mk Try.prog 53 b = .agg b := by unfold mk; rw [und_tree]
theorem hasTree : ∀ (n : Nat) (b : List A), Has Try.prog n 53 b → ∃ t, wfT t ∧ A.softL b = [iv t.kind, uws t.words, tKs t.kids] := by
  intro n
  induction n using Nat.strongRecOn with
  | ind n ih =>
    intro b h
    cases n with
    | zero => exact h.elim
    | succ n =>
      unfold Has at h
      rw [und_tree] at h
      simp only at h
      rw [hasL_types, fld_tree] at h
      obtain ⟨_, _, rfl, h1, _, _, rfl, h2, _, _, rfl, h3, rfl⟩ := h
      obtain ⟨k, hk, rfl⟩ := hasI h1
      obtain ⟨f, xs, w, rfl, e2, l2, r2⟩ := hasWs h2
      obtain ⟨f3, ys, l, rfl, e3, l3, r3⟩ := hasSl (m := 56) (e := 53) (g := tA) (R := wfT) (by kernel_rfl) (by kernel_rfl) h3 fun j b hj hb => by
        obtain ⟨t, ht, e⟩ := ih j (by omega) b hb
        exact ⟨t, ht, by rw [mk_tree]; simp only [A.soft, e]; rw [tA_eq]⟩
      refine ⟨.mk k w l, wfT_iff.2 ⟨hk, r2, l2, l3, r3⟩, ?_⟩
      simp only [List.cons_append, List.nil_append, List.append_nil, A.softL, A.soft, e2, e3]
      rfl
end Go.Proofs.Ytehcobkphobjiaa

/-
  Chapter 15: each law, whatever its arguments hold.
-/
namespace Go.Proofs.Ytehcobkphobjiaa
set_option linter.unusedVariables false
set_option linter.unusedSimpArgs false
open Go Go.G Go.Proofs Go.RowKit
theorem lit15_i {m : Int} (h : (Lit.int .i64 m).wf = true) : -9223372036854775808 ≤ m ∧ m < 9223372036854775808 := by
  simp [Lit.wf, IntKind.min, IntKind.max, IntKind.bits, IntKind.signed] at h
  omega
theorem und15_i : Try.prog.underlying 3 = some (.int .i64) := by kernel_rfl
end Go.Proofs.Ytehcobkphobjiaa

/-
  Chapter 16: InternMany, whatever its arguments hold.
-/
namespace Go.Proofs.Ytehcobkphobjiaa
set_option linter.unusedVariables false
set_option linter.unusedSimpArgs false
open Go Go.G Go.Proofs Go.RowKit
theorem has16_i64 {n : Nat} {b : List A} (h : Has Try.prog n 3 b) : ∃ m, -9223372036854775808 ≤ m ∧ m < 9223372036854775808 ∧ mk Try.prog 3 b = iv m := by
  cases n with
  | zero => exact h.elim
  | succ n =>
    simp only [Has, und15_i] at h
    obtain ⟨m, hm, rfl⟩ := h
    obtain ⟨h1, h2⟩ := lit15_i hm
    exact ⟨m, h1, h2, by simp [mk, und15_i]⟩
end Go.Proofs.Ytehcobkphobjiaa

/-
  Chapter 16: InternKids, whatever its arguments hold.
-/
namespace Go.Proofs.Ytehcobkphobjiaa
set_option linter.unusedVariables false
set_option linter.unusedSimpArgs false
open Go Go.G Go.Proofs Go.RowKit
set_option maxRecDepth 100000 in
theorem said_internKids (xs : List A) (h : ArgsHas Try.prog Try.f5.params.toList xs) : G.Spec Try.prog 5 xs (.v (.bool true)) := by
  have h : ArgsHas Try.prog [53, 53, 3, 3] xs := h
  match xs, h with
  | [a, b, c, d], ⟨⟨n, x, h1, h2⟩, ⟨n2, x2, h12, h22⟩, ⟨n3, x3, h13, h23⟩, ⟨n4, x4, h14, h24⟩, _⟩ =>
    obtain ⟨t, ht, et⟩ := hasTree _ _ h1
    obtain ⟨v, hv, ev⟩ := hasTree _ _ h12
    obtain ⟨z, _, hz, ez⟩ := has16_i64 h13
    obtain ⟨y, _, hy, ey⟩ := has16_i64 h14
    rw [h2, h22, h23, h24, mk_tree, mk_tree, ez, ey]
    exact (InternKids_spec ht hv hz hy).soft (by simp only [A.softL, A.soft, et, ev])
end Go.Proofs.Ytehcobkphobjiaa
