/-
  A region that draws its order: one walk of the text's order serves every order, where of two operations that may change places at most one looks at the call's own memory while the other turns it.
  (The two long proofs follow Derived/Deep/Quiet.lean's, over abstract states.)
-/
import Derived.Test.YtfdlelcipnabpaaAbRegion
namespace Go.Ab
set_option linter.unusedVariables false
set_option linter.unusedSimpArgs false
open Go.RowKit

def commB (ci cj : Nat) : Bool := ci == 0 || cj == 0 || (ci ≤ 1 && cj ≤ 1)

section
variable {P : Program} {fl : Bool} {ops : Array Oper} {md : Region.Mode}

def opStep (P : Program) (fl : Bool) (ops : Array Oper) (i : Nat) (K : Sta → Prop) (st : Sta) : Prop :=
  match ops[i]? with
  | none => K st
  | some o => ∃ x H', YieldsA P fl ops o st x H' ∧ K (st.put o.dst x H')

def anyA (P : Program) (fl : Bool) (md : Region.Mode) (ops : Array Oper) (K : Sta → Prop) : Nat → Array Bool → Sta → Prop
  | 0, listed, st => Region.ready md ops listed = [] ∧ K st
  | fuel + 1, listed, st => (Region.ready md ops listed = [] → K st) ∧ ∀ i ∈ Region.ready md ops listed, opStep P fl ops i (anyA P fl md ops K fuel (listed.setIfInBounds i true)) st

theorem opStep_mono {i : Nat} {st : Sta} {K K' : Sta → Prop} (h : ∀ st, K st → K' st) (hh : opStep P fl ops i K st) : opStep P fl ops i K' st := by
  unfold opStep at *
  split
  · exact h _ (by simpa [*] using hh)
  · rename_i o ho
    simp only [ho] at hh
    obtain ⟨x, H', h1, h2⟩ := hh
    exact ⟨x, H', h1, h _ h2⟩

theorem any_sound {c : Cx} {K : Sta → Prop} {Q : Exit → Act → World → Prop} (hd : dstsOK c.n ops = true) (hQ : ∀ st a w I μ, SR c st a w I μ → K st → Q .normal a w) :
    ∀ (fuel : Nat) (listed : Array Bool) (st : Sta) (a : Act) (w : World) (I : Nat → Prop) (μ : Mu), SR c st a w I μ → anyA c.P fl md ops K fuel listed st → wpAny c.P md ops Q fuel listed a w
  | 0, _, st, a, w, I, μ, h, hs => ⟨hs.1, hQ st a w I μ h hs.2⟩
  | fuel + 1, listed, st, a, w, I, μ, h, hs => by
    refine ⟨fun h0 => hQ st a w I μ h (hs.1 h0), fun i hi => ?_⟩
    have h1 := hs.2 i hi
    unfold opStep at h1
    unfold wpOp
    split
    · rename_i ho
      simp only [ho] at h1
      exact any_sound hd hQ fuel _ st a w I μ h h1
    · rename_i o ho
      simp only [ho] at h1
      obtain ⟨x, H', ⟨q, x0, hg, h2, rfl, h3⟩, hk⟩ := h1
      have hw := wanted_guard h hd hg
      have hdst := dstsOK_get hd ho
      cases q with
      | true =>
        rw [hw, if_pos rfl]
        exact .inl (oper_sound (ops := ops) h hdst (h2 rfl) (fun a' w' I' μ' h' => any_sound hd hQ fuel _ _ a' w' I' μ' h' hk))
      | false =>
        rw [hw, if_neg (by simp)]
        have e := h3 rfl
        subst e
        exact any_sound hd hQ fuel _ _ _ _ I μ (h.put (Ext.refl _ _ _) h.sim hdst (.v _ _)) hk

/-! ### an operation does not see what another one has put elsewhere -/
theorem evs_put {o : Oper} {st : Sta} {dst : Option Tmp} {x : A} {H : List Ob} (h : ∀ d, dst = some d → d ∉ o.looksAt ops) : ∀ z ∈ o.op.operands, evs (st.put dst x H).s z = evs st.s z := by
  intro z hz
  cases dst with
  | none => rfl
  | some d =>
    cases z with
    | tmp t =>
      have : t ≠ d := fun e => h d rfl (by subst e; exact List.mem_append_left _ (List.mem_filterMap.2 ⟨.tmp t, by simpa using hz, rfl⟩))
      simp [evs, Sta.put, upd, this]
    | const x => rfl
    | global g => rfl
    | func f => rfl

theorem guard_put {o : Oper} {st : Sta} {dst : Option Tmp} {x : A} {H : List Ob} {q : Bool} (h : ∀ d, dst = some d → d ∉ o.looksAt ops) : Guard ops (st.put dst x H) o q ↔ Guard ops st o q := by
  cases dst with
  | none => rfl
  | some d =>
    unfold Guard
    cases hg : o.guard with
    | none => rfl
    | some p =>
      obtain ⟨j, f⟩ := p
      constructor
      · rintro ⟨d', h1, h2⟩
        have : d' ≠ d := fun e => h d rfl (by subst e; simp [Oper.looksAt, hg, h1])
        refine ⟨d', h1, ?_⟩
        simpa [Sta.put, upd, this] using h2
      · rintro ⟨d', h1, h2⟩
        have : d' ≠ d := fun e => h d rfl (by subst e; simp [Oper.looksAt, hg, h1])
        refine ⟨d', h1, ?_⟩
        simpa [Sta.put, upd, this] using h2

/-- What it yields, in a state that is alike to it: the heap may be another one where it does not look. -/
theorem yields_at {o : Oper} {st st' : Sta} {x : A} {H' H2 : List Ob} (hg : ∀ q, Guard ops st' o q ↔ Guard ops st o q) (he : ∀ z ∈ o.op.operands, evs st'.s z = evs st.s z)
    (hH : (clsOp fl o.op = 0 ∧ H2 = st'.H) ∨ (st'.H = st.H ∧ H2 = H')) (h : YieldsA P fl ops o st x H') : YieldsA P fl ops o st' x H2 := by
  obtain ⟨q, x0, h1, h2, h3, h4⟩ := h
  refine ⟨q, x0, (hg q).2 h1, fun hq => ?_, h3, fun hq => ?_⟩
  · have h5 := h2 hq
    rcases hH with ⟨hc, rfl⟩ | ⟨e1, rfl⟩
    · exact opR_congr (fun z hz => (he z hz).symm) (opR_cls0 hc h5 _)
    · rw [e1]; exact opR_congr (fun z hz => (he z hz).symm) h5
  · rcases hH with ⟨hc, rfl⟩ | ⟨e1, rfl⟩
    · rfl
    · rw [e1]; exact h4 hq

theorem yields_same {o : Oper} {st : Sta} {x : A} {H' : List Ob} (hc : clsOp fl o.op ≤ 1) (h : YieldsA P fl ops o st x H') : H' = st.H := by
  obtain ⟨q, x0, h1, h2, h3, h4⟩ := h
  cases q with
  | true => exact opR_cls1 hc (h2 rfl)
  | false => exact h4 rfl

theorem put_comm {st : Sta} {d e : Option Tmp} {x y : A} {H1 H2 H3 : List Ob} (h : ∀ k, d = some k → e ≠ some k) : (st.put d x H1).put e y H3 = (st.put e y H2).put d x H3 := by
  cases d with
  | none => cases e <;> rfl
  | some d =>
    cases e with
    | none => rfl
    | some e =>
      have hne : d ≠ e := fun he => h d rfl (by rw [he])
      simp only [Sta.put, Sta.mk.injEq, and_true]
      funext t
      simp only [upd]
      by_cases h1 : t = e <;> by_cases h2 : t = d <;> simp_all

theorem put_H {st : Sta} {d : Option Tmp} {x : A} {H : List Ob} : (st.put d x H).H = H := by cases d <;> rfl

/-- One operation 'oj', apart from 'oi' and of a class that goes beside its: it may come first. -/
theorem opStep_put {j : Nat} {oi oj : Oper} {x : A} {H1 : List Ob} (hj : ops[j]? = some oj) (hap : oi.apart ops oj = true) (hc : commB (clsOp fl oi.op) (clsOp fl oj.op) = true) {K : Sta → Prop} {st : Sta}
    (hy : YieldsA P fl ops oi st x H1) (h : opStep P fl ops j K (st.put oi.dst x H1)) :
    opStep P fl ops j (fun st' => ∃ H2, YieldsA P fl ops oi st' x H2 ∧ K (st'.put oi.dst x H2)) st := by
  obtain ⟨h1, h2, h3⟩ := Oper.apart_spec hap
  unfold opStep at *
  simp only [hj] at *
  obtain ⟨y, H2, hyj, hK⟩ := h
  have gj : ∀ q, Guard ops st oj q ↔ Guard ops (st.put oi.dst x H1) oj q := fun q => (guard_put h1).symm
  have ej : ∀ z ∈ oj.op.operands, evs st.s z = evs (st.put oi.dst x H1).s z := fun z hz => (evs_put (H := H1) (x := x) h1 z hz).symm
  have gi : ∀ {H : List Ob}, ∀ q, Guard ops (st.put oj.dst y H) oi q ↔ Guard ops st oi q := fun q => guard_put h3
  have ei : ∀ {H : List Ob}, ∀ z ∈ oi.op.operands, evs (st.put oj.dst y H).s z = evs st.s z := fun z hz => evs_put h3 z hz
  have hH : ∀ {H : List Ob}, (st.put oj.dst y H).H = H := put_H
  have hH1 : (st.put oi.dst x H1).H = H1 := put_H
  simp only [commB, Bool.or_eq_true, beq_iff_eq, Bool.and_eq_true, decide_eq_true_eq] at hc
  rcases hc with (hci | hcj) | ⟨hci, hcj⟩
  · have e1 := yields_same (by omega) hy
    subst e1
    refine ⟨y, H2, yields_at gj ej (.inr ⟨hH1.symm, rfl⟩) hyj, H2, yields_at (gi) (ei) (.inl ⟨hci, hH.symm⟩) hy, ?_⟩
    rw [← put_comm (H1 := st.H) h2]; exact hK
  · have e2 := yields_same (by omega) hyj
    rw [hH1] at e2
    subst e2
    refine ⟨y, st.H, yields_at gj ej (.inl ⟨hcj, rfl⟩) hyj, H2, yields_at gi ei (.inr ⟨hH, rfl⟩) hy, ?_⟩
    rw [← put_comm (H1 := H2) h2]; exact hK
  · have e1 := yields_same hci hy
    subst e1
    have e2 := yields_same hcj hyj
    rw [hH1] at e2
    subst e2
    refine ⟨y, st.H, yields_at gj ej (.inr ⟨hH1.symm, rfl⟩) hyj, st.H, yields_at gi ei (.inr ⟨hH, rfl⟩) hy, ?_⟩
    rw [← put_comm (H1 := st.H) h2]; exact hK

theorem any_first {K : Sta → Prop} {i : Nat} {oi : Oper} (hi : ops[i]? = some oi) :
    ∀ (fuel : Nat) (listed : Array Bool) (st : Sta) (x : A) (H1 : List Ob),
      (∀ j oj, ops[j]? = some oj → j ≠ i → listed.getD j true = false → (∀ e ∈ oj.after, Region.binds md e = true → e.on ≠ i) → oi.apart ops oj = true ∧ commB (clsOp fl oi.op) (clsOp fl oj.op) = true) →
      i ∈ Region.ready md ops listed → YieldsA P fl ops oi st x H1 →
      anyA P fl md ops K fuel (listed.setIfInBounds i true) (st.put oi.dst x H1) → anyA P fl md ops K (fuel + 1) listed st := by
  have self : ∀ {st : Sta} {x : A} {H1 : List Ob} {K' : Sta → Prop}, YieldsA P fl ops oi st x H1 → K' (st.put oi.dst x H1) → opStep P fl ops i K' st := fun hy h => by
    unfold opStep; simp only [hi]; exact ⟨_, _, hy, h⟩
  intro fuel
  induction fuel with
  | zero =>
    intro listed st x H1 _ hr hy H
    refine ⟨fun h => (by rw [h] at hr; cases hr), fun j hj => ?_⟩
    by_cases hji : j = i
    · subst hji; exact self hy H
    · have := ready_mono hj hji
      rw [H.1] at this
      cases this
  | succ fuel ih =>
    intro listed st x H1 hfree hr hy H
    refine ⟨fun h => (by rw [h] at hr; cases hr), fun j hj => ?_⟩
    by_cases hji : j = i
    · subst hji; exact self hy H
    · have h1 := H.2 j (ready_mono hj hji)
      obtain ⟨hjun, oj, hoj, hall⟩ := mem_ready.1 hj
      have hnot : ∀ e ∈ oj.after, Region.binds md e = true → e.on ≠ i := fun e he hb heq => by
        have h1 := hall e he hb
        have h0 := (mem_ready.1 hr).1
        rw [heq] at h1
        rcases Nat.lt_or_ge i listed.size with h' | h'
        · simp [h'] at h0 h1; rw [h0] at h1; cases h1
        · simp [Array.getElem?_eq_none h'] at h1
      obtain ⟨ha, hcm⟩ := hfree j oj hoj hji hjun hnot
      have h2 := opStep_put hoj ha hcm hy h1
      have hfree' : ∀ k ok, ops[k]? = some ok → k ≠ i → (listed.setIfInBounds j true).getD k true = false →
          (∀ e ∈ ok.after, Region.binds md e = true → e.on ≠ i) → oi.apart ops ok = true ∧ commB (clsOp fl oi.op) (clsOp fl ok.op) = true := fun k ok hk hki hun hno => by
        refine hfree k ok hk hki ?_ hno
        by_cases hjk : j = k
        · subst hjk; exact hjun
        · rw [getD_set_ne true hjk] at hun; exact hun
      refine opStep_mono (fun st' ⟨H2, h3, h4⟩ => ih (listed.setIfInBounds j true) st' x H2 hfree' (ready_mono hr (Ne.symm hji)) h3 ?_) h2
      rw [Array.setIfInBounds_comm _ _ hji]
      exact h4

/-! ### the text's order -/
def freeA (fl : Bool) (md : Region.Mode) (ops : Array Oper) (listed : Array Bool) (i : Nat) : Bool :=
  match ops[i]? with
  | none => false
  | some oi => (List.range ops.size).all fun j => j == i || listed.getD j true || match ops[j]? with
      | some oj => oj.after.any (fun e => Region.binds md e && e.on == i) || (oi.apart ops oj && commB (clsOp fl oi.op) (clsOp fl oj.op))
      | none => true

theorem freeA_spec {i : Nat} {oi : Oper} {listed : Array Bool} (hi : ops[i]? = some oi) (h : freeA fl md ops listed i = true) (j : Nat) (oj : Oper)
    (hj : ops[j]? = some oj) (hne : j ≠ i) (hun : listed.getD j true = false) (hno : ∀ e ∈ oj.after, Region.binds md e = true → e.on ≠ i) :
    oi.apart ops oj = true ∧ commB (clsOp fl oi.op) (clsOp fl oj.op) = true := by
  simp only [freeA, hi, List.all_eq_true, List.mem_range] at h
  have := h j (Array.getElem?_eq_some_iff.1 hj).1
  simp only [hj, hun, Bool.or_eq_true, beq_iff_eq, hne, Bool.false_eq_true, or_false, false_or, Bool.and_eq_true] at this
  rcases this with h1 | h1
  · exfalso
    rw [Array.any_eq_true] at h1
    obtain ⟨k, hk, he⟩ := h1
    simp only [Bool.and_eq_true, beq_iff_eq] at he
    exact hno _ (Array.getElem_mem hk) he.1 he.2
  · exact h1

def lexFromA (fl : Bool) (md : Region.Mode) (ops : Array Oper) : Nat → Nat → Array Bool → Bool
  | 0, _, listed => (Region.ready md ops listed).isEmpty
  | fuel + 1, k, listed => (Region.ready md ops listed).contains k && freeA fl md ops listed k && lexFromA fl md ops fuel (k + 1) (listed.setIfInBounds k true)

def lexA (fl : Bool) (ops : Array Oper) : Bool := lexFromA fl .any ops ops.size 0 (Array.replicate ops.size false)

theorem any_lex {K : Sta → Prop} : ∀ (l : List Oper) (k : Nat) (listed : Array Bool) (st : Sta), (∀ j, l[j]? = ops[k + j]?) →
    lexFromA fl md ops l.length k listed = true → SeqA P fl ops K l st → anyA P fl md ops K l.length listed st
  | [], _, _, _, _, hB, h => ⟨by simpa [lexFromA] using hB, h⟩
  | o :: l, k, listed, st, hl, hB, h => by
    have h0 : ops[k]? = some o := by simpa using (hl 0).symm
    simp only [List.length_cons, lexFromA, Bool.and_eq_true] at hB
    obtain ⟨⟨hr, hf⟩, hB'⟩ := hB
    obtain ⟨x, H1, hy, hK⟩ := h
    exact any_first h0 l.length listed st x H1 (freeA_spec h0 hf) (by simpa using hr) hy
      (any_lex l (k + 1) _ _ (fun j => by have := hl (j + 1); simpa [Nat.add_assoc, Nat.add_comm 1 j] using this) hB' hK)
end

/-- A region: fl says whether it is one that draws. -/
def regOK (n : Nat) (ops : Array Oper) (draw : Bool) : Bool := dstsOK n ops && (!draw || lexA true ops)

theorem region_sound {c : Cx} {K : Sta → Prop} {Q : Exit → Act → World → Prop} {id : Nat} {ops : Array Oper} {draw : Bool} (hm : c.P.follows .mixedOrders = true) (hok : regOK c.n ops draw = true)
    (hQ : ∀ st a w I μ, SR c st a w I μ → K st → Q .normal a w) {st : Sta} {a : Act} {w : World} {I : Nat → Prop} {μ : Mu} (h : SR c st a w I μ) (hs : SeqA c.P draw ops K ops.toList st) : (Code.region id ops draw).wp c.P Q a w := by
  simp only [regOK, Bool.and_eq_true, Bool.or_eq_true, Bool.not_eq_true'] at hok
  obtain ⟨hd, hl⟩ := hok
  cases draw with
  | false =>
    apply wp_region
    rw [List.range_eq_range']
    have := seq_sound (fl := false) hd hQ ops.toList 0 st a w I μ (by simp) h hs
    simpa using this
  | true =>
    apply wp_region_any hm
    have hl : lexA true ops = true := by simpa using hl
    have h1 := any_lex (K := K) ops.toList 0 (Array.replicate ops.size false) st (by simp) (by simpa [lexA] using hl) hs
    have h' : SR c st a { w with drawn := w.drawn + 1 } I μ := by
      obtain ⟨hx, hs'⟩ := h.sim.same (w' := { w with drawn := w.drawn + 1 }) (I' := I) ⟨rfl, rfl, rfl, Nat.le_refl _, fun _ _ _ => rfl⟩ (fun _ hb => hb) (fun _ hb => .inl hb)
      exact ⟨hs', h.size, h.defers, fun t => hx.rel (h.rel t)⟩
    have := any_sound (md := .any) hd hQ ops.toList.length (Array.replicate ops.size false) st a _ I μ h' h1
    simpa using this
end Go.Ab
