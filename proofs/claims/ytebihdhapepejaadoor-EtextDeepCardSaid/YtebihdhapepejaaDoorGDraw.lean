/-
  A region that draws its order: one walk of the text's order serves every order. (The two long proofs follow Derived/Deep/Quiet.lean's, over abstract states.)
-/
import Derived.Test.YtebihdhapepejaaDoorGRegion
namespace Go.G
set_option linter.unusedVariables false
set_option linter.unusedSimpArgs false
open Go.RowKit

section
variable {P : Program} {D : TypeId → Prop} {nms : Nat → Nm} {need : Nat → Nat → Bool} {ops : Array Oper} {md : Region.Mode}

def opStep (P : Program) (D : TypeId → Prop) (nms : Nat → Nm) (need : Nat → Nat → Bool) (ops : Array Oper) (i : Nat) (K : Lg → Sta → Prop) (lg : Lg) (st : Sta) : Prop :=
  match ops[i]? with
  | none => K lg st
  | some o => ∃ x E f, YieldsA P D nms ops i o st x E f ∧ Apart need lg i f ∧ K ((i, f) :: lg) (st.put o.dst x (E.app st.H))

def anyA (P : Program) (D : TypeId → Prop) (nms : Nat → Nm) (need : Nat → Nat → Bool) (md : Region.Mode) (ops : Array Oper) (K : Sta → Prop) : Nat → Array Bool → Lg → Sta → Prop
  | 0, listed, lg, st => Region.ready md ops listed = [] ∧ K st
  | fuel + 1, listed, lg, st => (Region.ready md ops listed = [] → K st) ∧ ∀ i ∈ Region.ready md ops listed, opStep P D nms need ops i (anyA P D nms need md ops K fuel (listed.setIfInBounds i true)) lg st

theorem opStep_mono {i : Nat} {lg : Lg} {st : Sta} {K K' : Lg → Sta → Prop} (h : ∀ lg st, K lg st → K' lg st) (hh : opStep P D nms need ops i K lg st) : opStep P D nms need ops i K' lg st := by
  unfold opStep at *
  split
  · exact h _ _ (by simpa [*] using hh)
  · rename_i o ho
    simp only [ho] at hh
    obtain ⟨x, E, f, h1, h2, h3⟩ := hh
    exact ⟨x, E, f, h1, h2, h _ _ h3⟩

/-- The order of the notes is no matter. -/
def Same (lg lg' : Lg) : Prop := ∀ p, p ∈ lg ↔ p ∈ lg'
theorem Same.cons {lg lg' : Lg} (h : Same lg lg') (p : Nat × Ft) : Same (p :: lg) (p :: lg') := fun q => by simp [h q]
theorem anyA_same {K : Sta → Prop} : ∀ (fuel : Nat) (listed : Array Bool) {lg lg' : Lg} {st : Sta}, Same lg lg' → anyA P D nms need md ops K fuel listed lg st → anyA P D nms need md ops K fuel listed lg' st
  | 0, _, _, _, _, _, h => h
  | fuel + 1, listed, lg, lg', st, hs, h => ⟨h.1, fun i hi => by
      have h1 := h.2 i hi
      unfold opStep at *
      split
      · rename_i ho
        simp only [ho] at h1
        exact anyA_same fuel _ hs h1
      · rename_i o ho
        simp only [ho] at h1
        obtain ⟨x, E, f, h2, h3, h4⟩ := h1
        exact ⟨x, E, f, h2, fun p hp hn => h3 p ((hs p).2 hp) hn, anyA_same fuel _ (hs.cons _) h4⟩⟩

theorem any_sound {c : Cx} {K : Sta → Prop} {Q : Exit → Act → World → Prop} (hd : dstsOK c.n ops = true) (hD : ∀ t a w', c.die t → a.defers = c.ds → Kept c.Mb c.w0 w' → Q (.panic [dieE t]) a w') (hQ : ∀ st a w I μ, SR c st a w I μ → K st → Q .normal a w) :
    ∀ (fuel : Nat) (listed : Array Bool) (lg : Lg) (st : Sta) (a : Act) (w : World) (I : Nat → Prop) (μ : Mu), SR c st a w I μ → anyA c.P c.die nms need md ops K fuel listed lg st → wpAny c.P md ops Q fuel listed a w
  | 0, _, _, st, a, w, I, μ, h, hs => ⟨hs.1, hQ st a w I μ h hs.2⟩
  | fuel + 1, listed, lg, st, a, w, I, μ, h, hs => by
    refine ⟨fun h0 => hQ st a w I μ h (hs.1 h0), fun i hi => ?_⟩
    have h1 := hs.2 i hi
    unfold opStep at h1
    unfold wpOp
    split
    · rename_i ho
      simp only [ho] at h1
      exact any_sound hd hD hQ fuel _ _ st a w I μ h h1
    · rename_i o ho
      simp only [ho] at h1
      obtain ⟨x, E, f, ⟨q, x0, hg, h2, rfl, h3⟩, _, hk⟩ := h1
      have hw := wanted_guard h hd hg
      have hdst := dstsOK_get hd ho
      cases q with
      | true =>
        rw [hw, if_pos rfl]
        exact .inl (oper_sound h hdst (h2 rfl) (fun t w' e k' => hD t a w' e h.defers k') (fun a' w' I' μ' h' => any_sound hd hD hQ fuel _ _ _ a' w' I' μ' h' hk))
      | false =>
        rw [hw, if_neg (by simp)]
        obtain ⟨rfl, _, _⟩ := h3 rfl
        exact any_sound hd hD hQ fuel _ _ _ _ _ I μ (idle_sound h hdst) hk

/-! ### an operation does not see what another one has put elsewhere -/
theorem evs_put {o : Oper} {st : Sta} {dst : Option Tmp} {x : A} {H : Hp} (h : ∀ d, dst = some d → d ∉ o.looksAt ops) : ∀ z ∈ o.op.operands, evs (st.put dst x H).s z = evs st.s z := by
  intro z hz
  cases dst with
  | none => rfl
  | some d =>
    cases z with
    | tmp t =>
      have : t ≠ d := fun e => h d rfl (by subst e; exact List.mem_append_left _ (List.mem_filterMap.2 ⟨.tmp t, by simpa using hz, rfl⟩))
      simp [evs, Sta.put, upd, this]
    | const x => rfl
    | global g => rfl
    | func f => rfl

theorem guard_put {o : Oper} {st : Sta} {dst : Option Tmp} {x : A} {H : Hp} {q : Bool} (h : ∀ d, dst = some d → d ∉ o.looksAt ops) : Guard ops (st.put dst x H) o q ↔ Guard ops st o q := by
  cases dst with
  | none => rfl
  | some d =>
    unfold Guard
    cases hg : o.guard with
    | none => rfl
    | some p =>
      obtain ⟨j, f⟩ := p
      constructor
      · rintro ⟨d', h1, h2⟩
        have : d' ≠ d := fun e => h d rfl (by subst e; simp [Oper.looksAt, hg, h1])
        refine ⟨d', h1, ?_⟩
        simpa [Sta.put, upd, this] using h2
      · rintro ⟨d', h1, h2⟩
        have : d' ≠ d := fun e => h d rfl (by subst e; simp [Oper.looksAt, hg, h1])
        refine ⟨d', h1, ?_⟩
        simpa [Sta.put, upd, this] using h2

theorem yields_at {i : Nat} {o : Oper} {st st' : Sta} {x : A} {E : Eff} {f : Ft} (hg : ∀ q, Guard ops st' o q ↔ Guard ops st o q) (he : ∀ z ∈ o.op.operands, evs st'.s z = evs st.s z) (hH : Agree (f.R ++ f.W) st.H st'.H)
    (h : YieldsA P D nms ops i o st x E f) : YieldsA P D nms ops i o st' x E f := by
  obtain ⟨q, x0, h1, h2, h3, h4⟩ := h
  exact ⟨q, x0, (hg q).2 h1, fun hq => opR_congr (fun z hz => (he z hz).symm) (opR_agree (h2 hq) hH), h3, h4⟩

theorem yields_supp {i : Nat} {o : Oper} {st : Sta} {x : A} {E : Eff} {f : Ft} (h : YieldsA P D nms ops i o st x E f) : Supp E f.W := by
  obtain ⟨q, x0, h1, h2, h3, h4⟩ := h
  cases q with
  | true => exact opR_supp (h2 rfl)
  | false => obtain ⟨rfl, _, _⟩ := h4 rfl; exact supp_nil _

theorem put_H {st : Sta} {d : Option Tmp} {x : A} {H : Hp} : (st.put d x H).H = H := by cases d <;> rfl

/-- What is turned hangs on each entry alone. -/
theorem app_at (E : Eff) {H H' : Hp} {o : Nm} (h : H o = H' o) : E.app H o = E.app H' o := by
  cases E with
  | nil => exact h
  | one d x => simp only [app_one, updF]; rw [h]
  | fn rs F =>
    simp only [Eff.app]
    cases o with
    | nil => exact h
    | cons r p => simp only; rw [h]

theorem app_comm {E1 E2 : Eff} {f g : Ft} (h1 : Supp E1 f.W) (h2 : Supp E2 g.W) (hn : nc f g = true) (H : Hp) : E2.app (E1.app H) = E1.app (E2.app H) := by
  funext o
  simp only [nc, Bool.and_eq_true, dis_append_right] at hn
  cases ha : hit f.W o with
  | false =>
    rw [h1 o _ ha]
    exact app_at E2 (h1 o H ha)
  | true =>
    have hb : hit g.W o = false := by
      cases hb : hit g.W o with
      | false => rfl
      | true => exact (dis_spec hn.1.2 ha hb).elim
    rw [h2 o _ hb]
    exact (app_at E1 (h2 o H hb)).symm

theorem agree_app {E : Eff} {f g : Ft} (h : Supp E f.W) (hn : nc f g = true) (H : Hp) : Agree (g.R ++ g.W) H (E.app H) := fun o ho => h o H (by
  simp only [nc, Bool.and_eq_true] at hn
  cases ha : hit f.W o with
  | false => rfl
  | true => exact (dis_spec hn.1 ha ho).elim)

theorem put_comm {st : Sta} {d e : Option Tmp} {x y : A} {H1 H2 H3 : Hp} (h : ∀ k, d = some k → e ≠ some k) : (st.put d x H1).put e y H3 = (st.put e y H2).put d x H3 := by
  cases d with
  | none => cases e <;> rfl
  | some d =>
    cases e with
    | none => rfl
    | some e =>
      have hne : d ≠ e := fun he => h d rfl (by rw [he])
      simp only [Sta.put, Sta.mk.injEq, and_true]
      funext t
      simp only [upd]
      by_cases h1 : t = e <;> by_cases h2 : t = d <;> simp_all

/-- One operation 'oj', apart from 'oi': it may come first. -/
theorem opStep_put {i j : Nat} {oi oj : Oper} {x : A} {E : Eff} {f : Ft} {lg : Lg} (hj : ops[j]? = some oj) (hap : oi.apart ops oj = true) (hneed : ∀ g y E' st', YieldsA P D nms ops j oj st' y E' g → (need i j = true → nc f g = true) → nc f g = true) (hsym : need i j = need j i)
    {K : Lg → Sta → Prop} {st : Sta} (hy : YieldsA P D nms ops i oi st x E f) (hlg : Apart need lg i f) (h : opStep P D nms need ops j K ((i, f) :: lg) (st.put oi.dst x (E.app st.H))) :
    opStep P D nms need ops j (fun lg' st' => ∃ g, lg' = (j, g) :: lg ∧ YieldsA P D nms ops i oi st' x E f ∧ Apart need lg' i f ∧ K ((j, g) :: (i, f) :: lg) (st'.put oi.dst x (E.app st'.H))) lg st := by
  obtain ⟨h1, h2, h3⟩ := Oper.apart_spec hap
  unfold opStep at *
  simp only [hj] at *
  obtain ⟨y, E2, g, hyj, hck, hK⟩ := h
  have hnc : nc f g = true := hneed g y E2 _ hyj (fun hn => hck (i, f) (by simp) hn)
  have s1 := yields_supp hy
  have s2 := yields_supp hyj
  rw [put_H] at hK
  have hyj' : YieldsA P D nms ops j oj st y E2 g := yields_at (fun q => (guard_put h1).symm) (fun z hz => (evs_put h1 z hz).symm) (by
    rw [put_H]
    intro o ho
    exact (agree_app s1 hnc st.H o ho).symm) hyj
  have hy' : YieldsA P D nms ops i oi (st.put oj.dst y (E2.app st.H)) x E f := yields_at (fun q => guard_put h3) (fun z hz => evs_put h3 z hz) (by
    rw [put_H]
    exact agree_app s2 (nc_symm hnc) st.H) hy
  refine ⟨y, E2, g, hyj', fun p hp hn => hck p (List.mem_cons_of_mem _ hp) hn, g, rfl, hy', fun p hp hn => ?_, ?_⟩
  · rcases List.mem_cons.1 hp with rfl | hp
    · exact nc_symm hnc
    · exact hlg p hp hn
  · rw [put_H, ← put_comm (H1 := E.app st.H) h2, ← app_comm s1 s2 hnc]
    exact hK

/-! ### the text's order -/
/-- Must two operations be held against each other, in the text's order? -/
def needT (ops : Array Oper) (i j : Nat) : Bool :=
  match ops[i]?, ops[j]? with
  | some a, some b => !(clsOp a.op == 0 || clsOp b.op == 0 || (clsOp a.op ≤ 1 && clsOp b.op ≤ 1))
  | _, _ => false
theorem needT_symm {i j : Nat} : needT ops i j = needT ops j i := by
  unfold needT
  cases ops[i]? <;> cases ops[j]? <;> simp [Bool.or_comm, Bool.and_comm]

theorem yields_cls0 {i : Nat} {o : Oper} {st : Sta} {x : A} {E : Eff} {f : Ft} (hc : clsOp o.op = 0) (h : YieldsA P D nms ops i o st x E f) : f.R = [] ∧ f.W = [] := by
  obtain ⟨q, x0, h1, h2, h3, h4⟩ := h
  cases q with
  | true => exact opR_cls0 hc (h2 rfl)
  | false => exact (h4 rfl).2
theorem yields_cls1 {i : Nat} {o : Oper} {st : Sta} {x : A} {E : Eff} {f : Ft} (hc : clsOp o.op ≤ 1) (h : YieldsA P D nms ops i o st x E f) : f.W = [] := by
  obtain ⟨q, x0, h1, h2, h3, h4⟩ := h
  cases q with
  | true => exact opR_cls1 hc (h2 rfl)
  | false => exact (h4 rfl).2.2

theorem dis_nil_right {l : Fp} : dis l [] = true := by simp [dis]
theorem dis_nil_left {l : Fp} : dis [] l = true := by simp [dis]
theorem nc_skip {i j : Nat} {a b : Oper} {st st' : Sta} {x y : A} {E E' : Eff} {f g : Ft} (ha : ops[i]? = some a) (hb : ops[j]? = some b) (hy : YieldsA P D nms ops i a st x E f) (hz : YieldsA P D nms ops j b st' y E' g) (h : needT ops i j = true → nc f g = true) : nc f g = true := by
  cases hn : needT ops i j with
  | true => exact h hn
  | false =>
    unfold needT at hn
    rw [ha, hb] at hn
    simp only [Bool.not_eq_false', Bool.or_eq_true, beq_iff_eq, Bool.and_eq_true, decide_eq_true_eq] at hn
    rcases hn with (h0 | h0) | ⟨h1, h2⟩
    · obtain ⟨e1, e2⟩ := yields_cls0 h0 hy
      simp [nc, e1, e2, dis_nil_right, dis_nil_left]
    · obtain ⟨e1, e2⟩ := yields_cls0 h0 hz
      simp [nc, e1, e2, dis_nil_right, dis_nil_left]
    · have e1 := yields_cls1 h1 hy
      have e2 := yields_cls1 h2 hz
      simp [nc, e1, e2, dis_nil_left]

/-! ### what stands behind what -/
inductive Ord (md : Region.Mode) (ops : Array Oper) : Nat → Nat → Prop
  | base {j : Nat} {o : Oper} {e : Edge} : ops[j]? = some o → e ∈ o.after → Region.binds md e = true → Ord md ops e.on j
  | step {i j : Nat} {o : Oper} {e : Edge} : ops[j]? = some o → e ∈ o.after → Region.binds md e = true → Ord md ops i e.on → Ord md ops i j

def Closed (md : Region.Mode) (ops : Array Oper) (listed : Array Bool) : Prop := ∀ m o, ops[m]? = some o → listed.getD m false = true → ∀ e ∈ o.after, Region.binds md e = true → listed.getD e.on false = true

theorem Closed.ord {listed : Array Bool} (hc : Closed md ops listed) {i j : Nat} (h : Ord md ops i j) : listed.getD j false = true → listed.getD i false = true := by
  induction h with
  | base ho he hb => exact fun h => hc _ _ ho h _ he hb
  | step ho he hb _ ih => exact fun h => ih (hc _ _ ho h _ he hb)
theorem Closed.ready {listed : Array Bool} (hc : Closed md ops listed) {i j : Nat} (hj : j ∈ Region.ready md ops listed) (h : Ord md ops i j) : listed.getD i false = true := by
  obtain ⟨_, oj, hoj, hall⟩ := mem_ready.1 hj
  cases h with
  | base ho he hb => rw [hoj] at ho; cases ho; exact hall _ he hb
  | step ho he hb hi => rw [hoj] at ho; cases ho; exact hc.ord hi (hall _ he hb)
theorem Closed.add {listed : Array Bool} (hc : Closed md ops listed) {i : Nat} (hi : i ∈ Region.ready md ops listed) : Closed md ops (listed.setIfInBounds i true) := by
  obtain ⟨_, oi, hoi, hall⟩ := mem_ready.1 hi
  intro m o ho hm e he hb
  have keep : ∀ k, listed.getD k false = true → (listed.setIfInBounds i true).getD k false = true := fun k hk => by
    by_cases hik : i = k
    · subst hik
      simp only [Array.getD_eq_getD_getElem?] at hk ⊢
      rw [Array.getElem?_setIfInBounds]
      split
      · split
        · rfl
        · rename_i h1; rw [Array.getElem?_eq_none (by omega)] at hk; cases hk
      · exact hk
    · rw [getD_set_ne false hik]; exact hk
  by_cases hmi : i = m
  · subst hmi
    rw [hoi] at ho
    cases ho
    exact keep _ (hall e he hb)
  · rw [getD_set_ne false hmi] at hm
    exact keep _ (hc m o ho hm e he hb)
theorem un_listed {listed : Array Bool} {i : Nat} (h : listed.getD i true = false) : listed.getD i false = false := by
  simp only [Array.getD_eq_getD_getElem?] at h ⊢
  cases hq : listed[i]? <;> simp_all

/-- The ones ahead of each operation, as bits. -/
def maskOf (md : Region.Mode) (o : Oper) (acc : List Nat) : Nat := o.after.toList.foldr (fun e m => if Region.binds md e = true then m ||| (1 <<< e.on) ||| acc.getD e.on 0 else m) 0
def masks (md : Region.Mode) : List Oper → List Nat → List Nat
  | [], acc => acc
  | o :: l, acc => masks md l (acc ++ [maskOf md o acc])

theorem maskOf_bit {o : Oper} {acc : List Nat} {i : Nat} (h : (maskOf md o acc).testBit i = true) : ∃ e, e ∈ o.after ∧ Region.binds md e = true ∧ (e.on = i ∨ (acc.getD e.on 0).testBit i = true) := by
  unfold maskOf at h
  have : ∀ l : List Edge, (l.foldr (fun e m => if Region.binds md e = true then m ||| (1 <<< e.on) ||| acc.getD e.on 0 else m) 0).testBit i = true → ∃ e, e ∈ l ∧ Region.binds md e = true ∧ (e.on = i ∨ (acc.getD e.on 0).testBit i = true) := by
    intro l
    induction l with
    | nil => intro h; simp at h
    | cons e l ih =>
      intro h
      simp only [List.foldr_cons] at h
      split at h
      · rename_i hb
        simp only [Nat.testBit_or, Bool.or_eq_true] at h
        rcases h with (h | h) | h
        · obtain ⟨e', h1, h2⟩ := ih h
          exact ⟨e', List.mem_cons_of_mem _ h1, h2⟩
        · refine ⟨e, by simp, hb, .inl ?_⟩
          rw [Nat.one_shiftLeft, Nat.testBit_two_pow] at h
          simpa using h
        · exact ⟨e, by simp, hb, .inr h⟩
      · obtain ⟨e', h1, h2⟩ := ih h
        exact ⟨e', List.mem_cons_of_mem _ h1, h2⟩
  obtain ⟨e, h1, h2⟩ := this _ h
  exact ⟨e, by simpa using h1, h2⟩

theorem masks_sound : ∀ (l : List Oper) (acc : List Nat), (∀ k, l[k]? = ops[acc.length + k]?) → (∀ i j, (acc.getD j 0).testBit i = true → Ord md ops i j) → ∀ i j, ((masks md l acc).getD j 0).testBit i = true → Ord md ops i j
  | [], acc, _, h => h
  | o :: l, acc, hl, h => by
    unfold masks
    refine masks_sound l _ (fun k => by have := hl (k + 1); simpa [Nat.add_assoc, Nat.add_comm 1 k] using this) (fun i j hj => ?_)
    have h0 : ops[acc.length]? = some o := by simpa using (hl 0).symm
    rcases Nat.lt_trichotomy j acc.length with hlt | rfl | hgt
    · rw [List.getD_eq_getElem?_getD, List.getElem?_append_left hlt, ← List.getD_eq_getElem?_getD] at hj
      exact h i j hj
    · rw [List.getD_eq_getElem?_getD, List.getElem?_append_right (Nat.le_refl _)] at hj
      simp only [Nat.sub_self, List.getElem?_cons_zero, Option.getD_some] at hj
      obtain ⟨e, h1, h2, h3 | h3⟩ := maskOf_bit hj
      · subst h3; exact .base h0 h1 h2
      · exact .step h0 h1 h2 (h i e.on h3)
    · rw [List.getD_eq_getElem?_getD, List.getElem?_eq_none (by simp; omega)] at hj
      simp at hj

def ordB (ms : List Nat) (i j : Nat) : Bool := (ms.getD j 0).testBit i
def needB (ops : Array Oper) (ms : List Nat) (i j : Nat) : Bool := needT ops i j && !ordB ms i j && !ordB ms j i
theorem needB_symm {ms : List Nat} {i j : Nat} : needB ops ms i j = needB ops ms j i := by
  unfold needB
  rw [needT_symm, Bool.and_assoc, Bool.and_comm (!ordB ms i j), ← Bool.and_assoc]

theorem any_first {K : Sta → Prop} {i : Nat} {oi : Oper} (hi : ops[i]? = some oi) {f : Ft} :
    ∀ (fuel : Nat) (listed : Array Bool) (lg : Lg) (st : Sta) (x : A) (E : Eff),
      Closed md ops listed → (∀ j oj, ops[j]? = some oj → j ≠ i → listed.getD j true = false → ¬ Ord md ops i j → ¬ Ord md ops j i → oi.apart ops oj = true ∧ need i j = need j i ∧ (∀ g y E' st', YieldsA P D nms ops j oj st' y E' g → (need i j = true → nc f g = true) → nc f g = true)) →
      i ∈ Region.ready md ops listed → YieldsA P D nms ops i oi st x E f → Apart need lg i f →
      anyA P D nms need md ops K fuel (listed.setIfInBounds i true) ((i, f) :: lg) (st.put oi.dst x (E.app st.H)) → anyA P D nms need md ops K (fuel + 1) listed lg st := by
  have self : ∀ {lg : Lg} {st : Sta} {x : A} {E : Eff} {K' : Lg → Sta → Prop}, YieldsA P D nms ops i oi st x E f → Apart need lg i f → K' ((i, f) :: lg) (st.put oi.dst x (E.app st.H)) → opStep P D nms need ops i K' lg st := fun hy ha h => by
    unfold opStep; simp only [hi]; exact ⟨_, _, _, hy, ha, h⟩
  intro fuel
  induction fuel with
  | zero =>
    intro listed lg st x E _ _ hr hy ha H
    refine ⟨fun h => (by rw [h] at hr; cases hr), fun j hj => ?_⟩
    by_cases hji : j = i
    · subst hji; exact self hy ha H
    · have := ready_mono hj hji
      rw [H.1] at this
      cases this
  | succ fuel ih =>
    intro listed lg st x E hcl hfree hr hy ha H
    refine ⟨fun h => (by rw [h] at hr; cases hr), fun j hj => ?_⟩
    by_cases hji : j = i
    · subst hji; exact self hy ha H
    · have h1 := H.2 j (ready_mono hj hji)
      obtain ⟨hjun, oj, hoj, hall⟩ := mem_ready.1 hj
      have hun : listed.getD i true = false := (mem_ready.1 hr).1
      have no1 : ¬ Ord md ops i j := fun h => by have := hcl.ready hj h; rw [un_listed hun] at this; cases this
      have no2 : ¬ Ord md ops j i := fun h => by have := hcl.ready hr h; rw [un_listed hjun] at this; cases this
      obtain ⟨hap, hsy, hnd⟩ := hfree j oj hoj hji hjun no1 no2
      have h2 := opStep_put hoj hap hnd hsy hy ha h1
      have hfree' : ∀ k ok, ops[k]? = some ok → k ≠ i → (listed.setIfInBounds j true).getD k true = false →
          ¬ Ord md ops i k → ¬ Ord md ops k i → oi.apart ops ok = true ∧ need i k = need k i ∧ (∀ g y E' st', YieldsA P D nms ops k ok st' y E' g → (need i k = true → nc f g = true) → nc f g = true) := fun k ok hk hki hun hno1 hno2 => by
        refine hfree k ok hk hki ?_ hno1 hno2
        by_cases hjk : j = k
        · subst hjk; exact hjun
        · rw [getD_set_ne true hjk] at hun; exact hun
      refine opStep_mono (fun lg' st' ⟨g, e, h3, h4, h5⟩ => ih (listed.setIfInBounds j true) lg' st' x E (hcl.add hj) hfree' (ready_mono hr (Ne.symm hji)) h3 h4 ?_) h2
      subst e
      rw [Array.setIfInBounds_comm _ _ hji]
      exact anyA_same fuel _ (fun p => by simp only [List.mem_cons]; exact ⟨fun h => h.elim (fun h => .inr (.inl h)) (fun h => h.elim .inl (fun h => .inr (.inr h))), fun h => h.elim (fun h => .inr (.inl h)) (fun h => h.elim .inl (fun h => .inr (.inr h)))⟩) h5

def freeA (md : Region.Mode) (ops : Array Oper) (ms : List Nat) (listed : Array Bool) (i : Nat) : Bool :=
  match ops[i]? with
  | none => false
  | some oi => (List.range ops.size).all fun j => j == i || listed.getD j true || ordB ms i j || ordB ms j i || match ops[j]? with
      | some oj => oi.apart ops oj
      | none => true

theorem freeA_spec {ms : List Nat} (hms : ∀ i j, ordB ms i j = true → Ord md ops i j) {i : Nat} {oi : Oper} {listed : Array Bool} (hi : ops[i]? = some oi) (h : freeA md ops ms listed i = true) (j : Nat) (oj : Oper)
    (hj : ops[j]? = some oj) (hne : j ≠ i) (hun : listed.getD j true = false) (h1 : ¬ Ord md ops i j) (h2 : ¬ Ord md ops j i) :
    oi.apart ops oj = true := by
  simp only [freeA, hi, List.all_eq_true, List.mem_range] at h
  have := h j (Array.getElem?_eq_some_iff.1 hj).1
  simp only [hj, hun, Bool.or_eq_true, beq_iff_eq, hne, Bool.false_eq_true, or_false, false_or, Bool.and_eq_true] at this
  rcases this with (h3 | h3) | h3
  · exact (h1 (hms _ _ h3)).elim
  · exact (h2 (hms _ _ h3)).elim
  · exact h3

def lexFromA (md : Region.Mode) (ops : Array Oper) (ms : List Nat) : Nat → Nat → Array Bool → Bool
  | 0, _, listed => (Region.ready md ops listed).isEmpty
  | fuel + 1, k, listed => (Region.ready md ops listed).contains k && freeA md ops ms listed k && lexFromA md ops ms fuel (k + 1) (listed.setIfInBounds k true)

def lexA (ops : Array Oper) (ms : List Nat) : Bool := lexFromA .any ops ms ops.size 0 (Array.replicate ops.size false)

theorem any_lex {ms : List Nat} (hms : ∀ i j, ordB ms i j = true → Ord md ops i j) {K : Sta → Prop} : ∀ (l : List Oper) (k : Nat) (listed : Array Bool) (lg : Lg) (st : Sta), Closed md ops listed → (∀ j, l[j]? = ops[k + j]?) →
    lexFromA md ops ms l.length k listed = true → SeqA P D nms (needB ops ms) ops K l k lg st → anyA P D nms (needB ops ms) md ops K l.length listed lg st
  | [], _, _, _, _, _, _, hB, h => ⟨by simpa [lexFromA] using hB, h⟩
  | o :: l, k, listed, lg, st, hcl, hl, hB, h => by
    have h0 : ops[k]? = some o := by simpa using (hl 0).symm
    simp only [List.length_cons, lexFromA, Bool.and_eq_true] at hB
    obtain ⟨⟨hr, hf⟩, hB'⟩ := hB
    have hr : k ∈ Region.ready md ops listed := by simpa using hr
    obtain ⟨x, E, f, hy, ha, hK⟩ := h
    exact any_first h0 l.length listed lg st x E hcl (fun j oj hj hne hun n1 n2 => ⟨freeA_spec hms h0 hf j oj hj hne hun n1 n2, needB_symm, fun g y E' st' hy' hn => nc_skip h0 hj hy hy' (fun hN => hn (by
      have e1 : ordB ms k j = false := by
        cases e : ordB ms k j with
        | false => rfl
        | true => exact (n1 (hms _ _ e)).elim
      have e2 : ordB ms j k = false := by
        cases e : ordB ms j k with
        | false => rfl
        | true => exact (n2 (hms _ _ e)).elim
      simp [needB, hN, e1, e2]))⟩) hr hy ha
      (any_lex hms l (k + 1) _ _ _ (hcl.add hr) (fun j => by have := hl (j + 1); simpa [Nat.add_assoc, Nat.add_comm 1 j] using this) hB' hK)
end

def msOf (ops : Array Oper) : List Nat := masks .any ops.toList []
theorem msOf_sound {ops : Array Oper} (i j : Nat) (h : ordB (msOf ops) i j = true) : Ord .any ops i j :=
  masks_sound ops.toList [] (fun k => by simp) (fun i j h => by simp at h) i j h

/-- Which pairs of a region's operations are held against each other. -/
def needR (draw : Bool) (ops : Array Oper) : Nat → Nat → Bool := bif draw then needB ops (msOf ops) else fun _ _ => false

def regOK (n : Nat) (ops : Array Oper) (draw : Bool) : Bool := dstsOK n ops && (!draw || lexA ops (msOf ops))

theorem region_sound {c : Cx} {nms : Nat → Nm} {K : Sta → Prop} {Q : Exit → Act → World → Prop} {id : Nat} {ops : Array Oper} {draw : Bool} (hm : c.P.follows .mixedOrders = true) (hok : regOK c.n ops draw = true) (hD : ∀ t a w', c.die t → a.defers = c.ds → Kept c.Mb c.w0 w' → Q (.panic [dieE t]) a w')
    (hQ : ∀ st a w I μ, SR c st a w I μ → K st → Q .normal a w) {st : Sta} {a : Act} {w : World} {I : Nat → Prop} {μ : Mu} (h : SR c st a w I μ) (hs : SeqA c.P c.die nms (needR draw ops) ops K ops.toList 0 [] st) : (Code.region id ops draw).wp c.P Q a w := by
  simp only [regOK, Bool.and_eq_true, Bool.or_eq_true, Bool.not_eq_true'] at hok
  obtain ⟨hd, hl⟩ := hok
  cases draw with
  | false =>
    apply wp_region
    rw [List.range_eq_range']
    have := seq_sound hd hD hQ ops.toList 0 [] st a w I μ (by simp) h hs
    simpa using this
  | true =>
    apply wp_region_any hm
    have hl : lexA ops (msOf ops) = true := by simpa using hl
    have h1 := any_lex (K := K) (nms := nms) (P := c.P) (D := c.die) msOf_sound ops.toList 0 (Array.replicate ops.size false) [] st (fun m o _ hm => by
      simp only [Array.getD_eq_getD_getElem?, Array.getElem?_replicate] at hm
      split at hm <;> simp at hm) (by simp) (by simpa [lexA] using hl) hs
    have h' : SR c st a { w with drawn := w.drawn + 1 } I μ := by
      obtain ⟨hx, hs'⟩ := h.sim.same (w' := { w with drawn := w.drawn + 1 }) (I' := I) ⟨rfl, rfl, rfl, Nat.le_refl _, fun _ _ _ => rfl⟩ (fun _ hb => hb) (fun _ hb => .inl hb)
      exact ⟨hs', h.size, h.defers, fun t => hx.rel (h.rel t)⟩
    have := any_sound (md := .any) hd hD hQ ops.toList.length (Array.replicate ops.size false) [] st a _ I μ h' h1
    simpa using this
end Go.G
