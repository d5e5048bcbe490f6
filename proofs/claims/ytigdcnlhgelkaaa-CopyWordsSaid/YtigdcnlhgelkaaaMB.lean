/-
  Several texts, merged: D16a, D16b, D14a, D14b, D14c, D14d, D14s, D14e, D14f, D14g, D14h, D14i, DL14, DL14b.
-/
import Derived.Test.YtigdcnlhgelkaaaMA
import Derived.Test.YtigdcnlhgelkaaaGFnsI
import Derived.Test.YtigdcnlhgelkaaaGFam
import Derived.Test.YtigdcnlhgelkaaaP16
import Derived.Test.YtigdcnlhgelkaaaGFnsJ
import Derived.Test.YtigdcnlhgelkaaaP14
import Derived.Test.YtigdcnlhgelkaaaD07c
/-
  Chapter 16: tables of classes.
-/
namespace Go.Proofs.Ytigdcnlhgelkaaa
set_option linter.unusedVariables false
set_option linter.unusedSimpArgs false
open Go Go.G Go.Proofs Go.PL

/-- A class: its number of what it means; where its value lies, and what it means. -/
structure Cl where
  l : List (List Int)
  r : Rf
  t : T
noncomputable def Cl.h (c : Cl) : Int := hashN (norm c.t)
noncomputable def Cl.hn (c : Cl) : Nat := c.h.toNat
abbrev clL (h : Int) (l : List (List Int)) (r : Rf) : List A := uv h :: paL l r
noncomputable def Cl.a (c : Cl) : A := .agg (clL c.h c.l c.r)
abbrev nv (n : Nat) : A := iv (n : Int)
/-- A table: versions, classes, places. -/
structure Tb where
  u : Nat
  uc : Nat
  up : Nat
  cl : List Cl
  pl : List Nat
noncomputable def tbF (r : Nat) (S : Tb) : Nm → VOb
  | [] => ⟨S.u, .cells [.osl [r, 0] S.uc 9 0 S.cl.length, .osl [r, 1] S.up 1 0 S.pl.length]⟩
  | [0] => ⟨S.uc, .arr 9 (S.cl.map Cl.a)⟩
  | [1] => ⟨S.up, .arr 1 (S.pl.map nv)⟩
  | _ => ⟨0, .none⟩
@[simp] theorem tbF_nil {r : Nat} {S : Tb} : tbF r S [] = ⟨S.u, .cells [.osl [r, 0] S.uc 9 0 S.cl.length, .osl [r, 1] S.up 1 0 S.pl.length]⟩ := rfl
@[simp] theorem tbF_0 {r : Nat} {S : Tb} : tbF r S [0] = ⟨S.uc, .arr 9 (S.cl.map Cl.a)⟩ := rfl
@[simp] theorem tbF_1 {r : Nat} {S : Tb} : tbF r S [1] = ⟨S.up, .arr 1 (S.pl.map nv)⟩ := rfl
theorem renL_nv {g : Nm → Nm} {δ : Nm → Nat} (l : List Nat) : A.renL g δ (l.map nv) = l.map nv := by
  rw [renL_map, List.map_map]
  rfl
theorem cl_ren {g : Nm → Nm} {δ : Nm → Nat} (c : Cl) : c.a.ren g δ = c.a := by
  have : (arO c.l c.r).ren g δ = arO c.l c.r := by unfold arO; split <;> simp [A.ren, arn]
  simp [Cl.a, A.ren, A.renL, this]
theorem cl_refs {D : Nm → Prop} (c : Cl) : c.a.refs D := by
  have : (arO c.l c.r).refs D := by unfold arO; split <;> simp [A.refs, arn]
  simp [Cl.a, A.refs, A.refsL, this]
noncomputable def tbM (S : Tb) : Fam := ⟨fun r => tbF r S, fun {g δ r r'} hg hd p => by
    match p with
    | [] => simp [VOb.ren, Ob.ren, A.renL, A.ren, hg, hd]
    | [0] =>
      refine Fam.arr_ren ?_
      rw [renL_map, List.map_map]
      exact List.map_congr_left fun c _ => cl_ren c
    | [1] => exact Fam.arr_ren (renL_nv _)
    | 0 :: a :: q => rfl
    | 1 :: a :: q => rfl
    | (a + 2) :: q => rfl, fun {D r} hD p => by
    match p with
    | [] => simp [Ob.refs, A.refsL, A.refs, hD]
    | [0] =>
      refine refsL_iff.2 fun x hx => ?_
      obtain ⟨c, _, rfl⟩ := List.mem_map.1 hx
      exact cl_refs c
    | [1] =>
      refine refsL_iff.2 fun x hx => ?_
      obtain ⟨c, _, rfl⟩ := List.mem_map.1 hx
      trivial
    | 0 :: a :: q => trivial
    | 1 :: a :: q => trivial
    | (a + 2) :: q => trivial⟩
@[simp] theorem tbM_F {S : Tb} {r : Nat} : (tbM S).F r = tbF r S := rfl
theorem tbF_but {r : Nat} {S S' : Tb} {p : Nm} (h0 : p ≠ []) (h1 : p ≠ [0]) (h2 : p ≠ [1]) : tbF r S p = tbF r S' p := by
  match p, h0, h1, h2 with
  | [], h, _, _ => exact absurd rfl h
  | [0], _, h, _ => exact absurd rfl h
  | [1], _, _, h => exact absurd rfl h
  | 0 :: a :: q, _, _, _ => rfl
  | 1 :: a :: q, _, _, _ => rfl
  | (a + 2) :: q, _, _, _ => rfl

theorem tbF_pl {r u uc up : Nat} {cl : List Cl} {pl pl' : List Nat} {p : Nm} (h : p ≠ [1]) (hl : pl.length = pl'.length) : tbF r ⟨u, uc, up, cl, pl⟩ p = tbF r ⟨u, uc, up, cl, pl'⟩ p := by
  by_cases h0 : p = []
  · subst h0; simp [hl]
  · by_cases h1 : p = [0]
    · subst h1; rfl
    · exact tbF_but h0 h1 h

/-- As it is read. -/
noncomputable abbrev tbX (S : Tb) : A := .pim [.sl false (S.cl.map Cl.a), .sl false (S.pl.map nv)]
theorem frz_tb {r : Nat} {S : Tb} {H : Hp} (hF : ∀ p, H (r :: p) = tbF r S p) : Frz H (.pob [r] S.u 0) (tbX S) := by
  refine frz_pob (cs := [.osl [r, 0] S.uc 9 0 S.cl.length, .osl [r, 1] S.up 1 0 S.pl.length]) (by simp [hF]) ?_ (by simp)
  simp
  refine ⟨frz_row (l := S.cl) (f := Cl.a) (by simp [hF]) rfl fun x => ?_, frz_row (l := S.pl) (f := nv) (by simp [hF]) rfl fun x => by simp⟩
  simp [Cl.a]

structure Tb.Ok (S : Tb) : Prop where
  p8 : 8 ≤ S.pl.length
  half : 2 * S.cl.length ≤ S.pl.length
  most : S.pl.length ≤ 8 + 4 * S.cl.length
  pl : Pl (S.cl.map Cl.hn) S.pl
  means : ∀ c, c ∈ S.cl → Sg c.l ∧ Means c.l c.r c.t
  nd : (S.cl.map fun c => norm c.t).Nodup
noncomputable def Tb.ks (S : Tb) : List T := S.cl.map fun c => norm c.t
@[simp] theorem Tb.ks_length (S : Tb) : S.ks.length = S.cl.length := by simp [Tb.ks]
def newTb : Tb := ⟨1, 1, 1, [], List.replicate 8 0⟩
theorem iNew_spec : SpecF Try.prog 26 (fun _ => []) Fam.no (fun r => .pob [r] 1 0) (tbM newTb) := by
  refine specF_of t_intern_New (by simp) (by simp) famA_pob fun w0 I0 M0 m0 => ?_
  unfold c_intern_New
  simp
  refine reth_le (le_blankC (d := [0]) 0 [0, 0] 9 rfl rfl (by simp)) ?_
  simp
  refine reth_fam rfl rfl fun p => ?_
  match p with
  | [] => rfl
  | [0] => rfl
  | [1] => rfl
  | 0 :: a :: q => rfl
  | 1 :: a :: q => rfl
  | (a + 2) :: q => rfl
theorem iLen_spec (S : Tb) : G.Spec Try.prog 30 [tbX S] (nv S.cl.length) := by
  refine spec_of t_intern_Table_Len (by simp) fun w0 I0 => ?_
  unfold c_intern_Table_Len
  simp
  exact frz_is rfl (by simp)
theorem emod_nat (a m : Nat) : ((a : Int) % (m : Int)) = ((a % m : Nat) : Int) := by omega
theorem iNext_spec (S : Tb) (h : S.pl.length < 4611686018427387904) (a : Nat) (ha : a < S.pl.length) : G.Spec Try.prog 96 [tbX S, nv a] (nv ((a + 1) % S.pl.length)) := by
  refine spec_of t_intern_Table_next (by simp) fun w0 I0 => ?_
  unfold c_intern_Table_next
  have e : IntKind.i64.wrap ((a : Int) + 1) = ((a + 1 : Nat) : Int) := i64_same (by omega) (by omega)
  have hne : ¬ S.pl = [] := fun e => by rw [e] at ha; simp at ha
  simp [e, hne]
  refine frz_is rfl ?_
  have h1 : ((a : Int) + 1).tmod (S.pl.length : Int) = (((a + 1) % S.pl.length : Nat) : Int) := by
    rw [Int.tmod_eq_emod_of_nonneg (by omega)]
    have := emod_nat (a + 1) S.pl.length
    rw [Int.natCast_add] at this
    exact this
  rw [h1]

/-- Is it the class of this tree? -/
noncomputable def stopT (S : Tb) (t : T) (v : Nat) : Bool := match S.cl[v - 1]? with
  | some c => eqT c.t t
  | none => false
/-- Where the class of a tree is found, or would be. -/
noncomputable def Tb.fnd (S : Tb) (t : T) : Nat := fndP (stopT S t) S.pl S.pl.length ((hashN (norm t)).toNat % S.pl.length)
theorem Tb.Ok.lt {S : Tb} (h : S.Ok) : S.cl.length < S.pl.length := by have := h.p8; have := h.half; omega
theorem fnd_cases {S : Tb} (h : S.Ok) (t : T) : S.fnd t < S.pl.length ∧ ((∃ v, S.pl[S.fnd t]? = some (v + 1) ∧ clsI S.ks (norm t) = v ∧ v < S.cl.length) ∨ (S.pl.getD (S.fnd t) 0 = 0 ∧ clsI S.ks (norm t) = S.cl.length)) ∧
    ∃ k, S.fnd t = ((hashN (norm t)).toNat + k) % S.pl.length ∧ ∀ e, e < k → S.pl.getD (((hashN (norm t)).toNat + e) % S.pl.length) 0 ≠ 0 := by
  have hlt := h.lt
  obtain ⟨h1, h2, k, h3, h4⟩ := fndP_mod (stop := stopT S t) (x := (hashN (norm t)).toNat) h.pl (by simpa using hlt)
  refine ⟨h1, ?_, k, h3, fun e he => (h4 e he).1⟩
  change S.fnd t < _ at h1
  change S.pl.getD (S.fnd t) 0 = 0 ∨ stopT S t (S.pl.getD (S.fnd t) 0) = true at h2
  change S.fnd t = _ at h3
  by_cases h0 : S.pl.getD (S.fnd t) 0 = 0
  · refine .inr ⟨h0, ?_⟩
    rw [← Tb.ks_length]
    refine clsI_none fun hn => ?_
    simp only [Tb.ks, List.mem_map] at hn
    obtain ⟨c, hc, e⟩ := hn
    obtain ⟨i, hi, rfl⟩ := List.mem_iff_getElem.1 hc
    obtain ⟨d, g1, g2⟩ := h.pl.reach i (by simpa using hi)
    have eh : (S.cl.map Cl.hn)[i]'(by simpa using hi) = (hashN (norm t)).toNat := by simp [Cl.hn, Cl.h, e]
    rw [eh] at g1
    have g2' : ∀ e, e < d → S.pl.getD (((hashN (norm t)).toNat + e) % S.pl.length) 0 ≠ 0 := fun e' he' => by have := g2 e' he'; rwa [eh] at this
    rcases Nat.lt_trichotomy d k with hd | hd | hd
    · have := (h4 d hd).2
      rw [List.getD_eq_getElem?_getD, g1] at this
      simp [stopT, hi] at this
      rw [eqT_iff.2 e] at this
      cases this
    · subst hd
      rw [h3, List.getD_eq_getElem?_getD, g1] at h0
      simp at h0
    · exact g2' k hd (by rw [← h3]; exact h0)
  · have h2 := h2.resolve_left h0
    rw [List.getD_eq_getElem?_getD, List.getElem?_eq_getElem h1] at h0 h2
    simp only [Option.getD_some] at h0 h2
    have hv := h.pl.vals _ (List.getElem_mem h1)
    rw [List.length_map] at hv
    have hvl : S.pl[S.fnd t] - 1 < S.cl.length := by omega
    simp [stopT, hvl] at h2
    refine .inl ⟨S.pl[S.fnd t] - 1, by rw [List.getElem?_eq_getElem h1]; congr 1; omega, ?_, hvl⟩
    exact clsI_at (ks := S.ks) (by simpa using hvl) (by simp [Tb.ks, eqT_iff.1 h2]) h.nd
noncomputable def growT (S : Tb) : Tb := { S with up := S.up + 1, pl := growP (List.replicate (2 * S.pl.length) 0) 0 (S.cl.map Cl.hn) }
noncomputable def addT (S : Tb) (l : List (List Int)) (r : Rf) (t : T) : Tb := { S with uc := S.uc + 1, cl := S.cl ++ [⟨l, r, t⟩], pl := S.pl.set (S.fnd t) (S.cl.length + 1) }
noncomputable def clsS (S : Tb) (l : List (List Int)) (r : Rf) (t : T) : Tb :=
  if clsI S.ks (norm t) < S.cl.length then S else if S.pl.length < 2 * (S.cl.length + 1) then growT (addT S l r t) else addT S l r t
/-- But for its room. -/
structure Tb.Ok1 (S : Tb) : Prop where
  p8 : 8 ≤ S.pl.length
  half : 2 * S.cl.length ≤ S.pl.length + 2
  most : S.pl.length ≤ 8 + 4 * S.cl.length
  pl : Pl (S.cl.map Cl.hn) S.pl
  means : ∀ c, c ∈ S.cl → Sg c.l ∧ Means c.l c.r c.t
  nd : (S.cl.map fun c => norm c.t).Nodup
theorem addT_ok {S : Tb} (h : S.Ok) {l : List (List Int)} {r : Rf} {t : T} (hs : Sg l) (hm : Means l r t) (hn : clsI S.ks (norm t) = S.cl.length) : (addT S l r t).Ok1 := by
  obtain ⟨h1, h2, k, h3, h4⟩ := fnd_cases h t
  have h0 : S.pl.getD (S.fnd t) 0 = 0 := by
    rcases h2 with ⟨v, _, e, hv⟩ | ⟨h0, _⟩
    · omega
    · exact h0
  have p8 := h.p8
  have half := h.half
  have most := h.most
  refine ⟨by simpa [addT] using p8, by simp [addT]; omega, by simp [addT]; omega, ?_, fun c hc => ?_, ?_⟩
  · have := h.pl.ins h1 h0 h3 h4
    simpa [addT, Cl.hn, Cl.h] using this
  · simp only [addT, List.mem_append, List.mem_singleton] at hc
    rcases hc with hc | rfl
    · exact h.means c hc
    · exact ⟨hs, hm⟩
  · simp only [addT, List.map_append, List.map_cons, List.map_nil]
    rw [List.nodup_append]
    refine ⟨h.nd, by simp, fun a ha b hb => ?_⟩
    simp at hb
    subst hb
    rintro rfl
    have : clsI S.ks (norm t) < S.ks.length := clsI_lt.2 ha
    simp at this
    omega
theorem growT_ok {S : Tb} (h : S.Ok1) (hf : S.pl.length < 2 * S.cl.length) : (growT S).Ok := by
  have p8 := h.p8
  have half := h.half
  have most := h.most
  have hl : (growT S).pl.length = 2 * S.pl.length := by simp [growT, growP_length]
  refine ⟨by rw [hl]; omega, by rw [hl]; show 2 * S.cl.length ≤ _; omega, by rw [hl]; show _ ≤ 8 + 4 * S.cl.length; omega, ?_, h.means, h.nd⟩
  have := Pl.grow (hs2 := S.cl.map Cl.hn) (Pl.nil (2 * S.pl.length)) (by simp; omega)
  simpa [growT] using this
theorem Tb.Ok1.ok {S : Tb} (h : S.Ok1) (hf : ¬ S.pl.length < 2 * S.cl.length) : S.Ok := ⟨h.p8, by omega, h.most, h.pl, h.means, h.nd⟩
theorem addT_cl {S : Tb} {l : List (List Int)} {r : Rf} {t : T} : (addT S l r t).cl.length = S.cl.length + 1 := by simp [addT]
theorem addT_pl {S : Tb} {l : List (List Int)} {r : Rf} {t : T} : (addT S l r t).pl.length = S.pl.length := by simp [addT]
theorem clsS_ok {S : Tb} (h : S.Ok) {l : List (List Int)} {r : Rf} {t : T} (hs : Sg l) (hm : Means l r t) : (clsS S l r t).Ok := by
  unfold clsS
  split
  · exact h
  · rename_i hn
    have hle := clsI_le S.ks (norm t)
    have he : clsI S.ks (norm t) = S.cl.length := by simp at hle; omega
    have h1 := addT_ok h hs hm he
    split
    · exact growT_ok h1 (by rw [addT_cl, addT_pl]; assumption)
    · exact h1.ok (by rw [addT_cl, addT_pl]; assumption)
theorem clsS_ks {S : Tb} {l : List (List Int)} {r : Rf} {t : T} : (clsS S l r t).ks = clsK S.ks (norm t) := by
  unfold clsS clsK
  rw [Tb.ks_length]
  split
  · rfl
  · split <;> simp [Tb.ks, growT, addT]
theorem clsS_u {S : Tb} {l : List (List Int)} {r : Rf} {t : T} : (clsS S l r t).u = S.u := by
  unfold clsS
  split
  · rfl
  · split <;> rfl
section
variable {n0 : Nat} {w0 : World} {I0 : Nat → Prop} {Q : Exit → Sta → Prop}
noncomputable abbrev nextV (S : Tb) : A := .fnc 96 [tbX S] []
set_option pp.deepTerms true in
set_option pp.maxSteps 1000000 in
theorem find_l1 {S : Tb} (hS : S.Ok) (hb : S.cl.length ≤ 1000000) {l : List (List Int)} (hs : Sg l) {r : Rf} {t : T} (hm : Means l r t) : ∀ (f a d : Nat) (H : Hp), a < S.pl.length → d < f → S.pl.getD ((a + d) % S.pl.length) 0 = 0 → H [0] = ⟨1, .cells (paL l r)⟩ →
    (∀ H', S.pl.getD (fndP (stopT S t) S.pl f a) 0 = 0 → Q (.exit 0) ⟨lk [(0, tbX S), (1, uv (hashN (norm t))), (5, .pob [0] 1 0), (8, nextV S), (9, nv (fndP (stopT S t) S.pl f a)), (31, bv false)], H'⟩) →
    (∀ H', Q .ret ⟨lk [(6, nv (fndP (stopT S t) S.pl f a)), (7, iv 0)], H'⟩) →
    LoopC (cx Try.prog w0 I0 n0) l1_intern_Table_find Q ⟨lk [(0, tbX S), (1, uv (hashN (norm t))), (5, .pob [0] 1 0), (8, nextV S), (9, nv a)], H⟩ := by
  have hp8 := hS.p8
  have hmost := hS.most
  intro f
  induction f with
  | zero => intro a d H _ h; omega
  | succ f ih =>
    intro a d H ha hd hz hA hq hq2
    have ha' : (a : Int) < S.pl.length := by omega
    refine loopC_once mixed l1_intern_Table_find.eq_1 ?_
    have hg : S.pl.getD a 0 = S.pl[a] := by simp [ha]
    by_cases h0 : S.pl[a] = 0
    · simp [ha, h0]
      have e : fndP (stopT S t) S.pl (f + 1) a = a := by rw [fndP, if_pos (by rw [hg]; exact h0)]
      rw [e] at hq
      exact hq H (by rw [hg]; exact h0)
    · have hd0 : d ≠ 0 := fun e => by
        subst e
        rw [Nat.add_zero, Nat.mod_eq_of_lt ha, hg] at hz
        exact h0 hz
      obtain ⟨d, rfl⟩ : ∃ d', d = d' + 1 := ⟨d - 1, by omega⟩
      have hv := hS.pl.vals _ (List.getElem_mem ha)
      rw [List.length_map] at hv
      obtain ⟨v, hv1⟩ : ∃ v, S.pl[a] = v + 1 := ⟨S.pl[a] - 1, by omega⟩
      have hvl : v < S.cl.length := by omega
      have hvl' : (v : Int) < S.cl.length := by omega
      have hpos : (0 : Int) < (v : Int) + 1 := by omega
      have e1 : IntKind.i64.wrap ((v : Int) + 1 - 1) = v := (i64_same (by omega) (by omega)).trans (by omega)
      have e2 : IntKind.i64.wrap (v : Int) = v := i64_same (by omega) (by omega)
      have hst : stopT S t (S.pl.getD a 0) = eqT S.cl[v].t t := by rw [hg, hv1]; simp [stopT, hvl]
      have ef : fndP (stopT S t) S.pl (f + 1) a = if eqT S.cl[v].t t = true then a else fndP (stopT S t) S.pl f ((a + 1) % S.pl.length) := by
        rw [fndP, if_neg (by rw [hg]; exact h0), hst]
      have ihn := ih ((a + 1) % S.pl.length) d
      rw [mod_succ] at ihn
      obtain ⟨hcs, hcm⟩ := hS.means _ (List.getElem_mem hvl)
      have hnx := iNext_spec S (by omega) a ha
      simp [ha, hv1, hpos, e1, e2, hvl, Cl.a]
      have go : eqT S.cl[v].t t = false → ∀ H2 : Hp, H2 [0] = ⟨1, .cells (paL l r)⟩ → LoopC (cx Try.prog w0 I0 n0) l1_intern_Table_find Q ⟨lk [(0, tbX S), (1, uv (hashN (norm t))), (5, .pob [0] 1 0), (8, nextV S), (9, nv ((a + 1) % S.pl.length))], H2⟩ := fun he H2 h2 => by
        rw [ef, he] at hq hq2
        exact ihn H2 (Nat.mod_lt _ (by omega)) (by omega) hz h2 hq hq2
      refine ⟨fun hh => ?_, fun hh => ?_⟩
      · simp [updF_app, hA]
        refine sc_call (values_spec hcs hs _ _ _ _ hcm hm) (by simp) ?_
        cases hq' : eqT S.cl[v].t t with
        | true =>
          rw [ef, hq', if_pos rfl] at hq2
          simp
          exact hq2 _
        | false =>
          simp
          refine sc_callv rfl hnx (by simp) ?_
          simp
          exact go hq' _ (by simp [updF_app, hA])
      · refine sc_callv rfl hnx (by simp) ?_
        have he : eqT S.cl[v].t t = false := by
          rw [Bool.eq_false_iff]
          intro e
          exact hh (by simp [Cl.h, eqT_iff.1 e])
        simp
        exact go he _ (by simp [updF_app, hA])
end
theorem iFind_spec {S : Tb} (hS : S.Ok) (hb : S.cl.length ≤ 1000000) {l : List (List Int)} (hs : Sg l) {r : Rf} {t : T} (hm : Means l r t) (hh : u64R (hashN (norm t))) : G.Spec Try.prog 65 [tbX S, uv (hashN (norm t)), paX l r] (.tup [nv (S.fnd t), iv 0]) := by
  have hp8 := hS.p8
  have hmost := hS.most
  refine spec_of t_intern_Table_find (by simp) fun w0 I0 => ?_
  unfold c_intern_Table_find
  obtain ⟨d, h1, h2⟩ := hS.pl.free (by simpa using hS.lt) ((hashN (norm t)).toNat % S.pl.length)
  have eu : IntKind.u64.wrap (S.pl.length : Int) = S.pl.length := u64_same (by omega) (by omega)
  have hne : ¬ S.pl = [] := fun e => by rw [e] at hp8; simp at hp8
  have et : IntKind.i64.wrap ((hashN (norm t)).tmod (S.pl.length : Int)) = (((hashN (norm t)).toNat % S.pl.length : Nat) : Int) := by
    rw [Int.tmod_eq_emod_of_nonneg hh.1]
    obtain ⟨n, hn⟩ := Int.eq_ofNat_of_zero_le hh.1
    rw [hn, emod_nat]
    have := Nat.mod_lt n (show 0 < S.pl.length by omega)
    exact i64_same (by omega) (by omega)
  have hlt : (hashN (norm t)).toNat % S.pl.length < S.pl.length := Nat.mod_lt _ (by omega)
  unfold Tb.fnd
  generalize (hashN (norm t)).toNat % S.pl.length = a at et hlt h2
  simp [eu, hne, et]
  refine find_l1 hS hb hs hm S.pl.length a d _ hlt h1 h2 (by simp) (fun H' _ => ?_) fun H' => ?_
  · simp
    exact frz_bare rfl
  · simp
    exact frz_bare rfl
end Go.Proofs.Ytigdcnlhgelkaaa

/-
  Chapter 16: a table grows; the class of a value.
-/
namespace Go.Proofs.Ytigdcnlhgelkaaa
set_option linter.unusedVariables false
set_option linter.unusedSimpArgs false
open Go Go.G Go.Proofs Go.PL

theorem hash_mod {h : Int} (h0 : u64R h) {m : Nat} (hm : 0 < m) (hm2 : m < 4611686018427387904) : IntKind.i64.wrap (h.tmod (m : Int)) = ((h.toNat % m : Nat) : Int) := by
  rw [Int.tmod_eq_emod_of_nonneg h0.1]
  obtain ⟨n, hn⟩ := Int.eq_ofNat_of_zero_le h0.1
  rw [hn, emod_nat]
  have := Nat.mod_lt n hm
  exact i64_same (by omega) (by omega)
section
variable {n0 : Nat} {w0 : World} {I0 M0 : Nat → Prop} {m0 : Mu} {Q : Exit → Sta → Prop}
theorem grow_l1 {S : Tb} (hb : S.pl.length < 4611686018427387904) {i n uc : Nat} {k : Int} : ∀ (f a d : Nat) (H : Hp), (∀ p, H (0 :: p) = tbF 0 S p) → a < S.pl.length → d < f → S.pl.getD ((a + d) % S.pl.length) 0 = 0 →
    Q (.exit 2) ⟨lk [(0, .pob [0] S.u 0), (2, iv k), (4, nv (fndP (fun _ => false) S.pl f a)), (18, .osl [0, 0] uc 9 0 n), (19, nv n), (20, nv i), (42, bv false)], H⟩ →
    LoopC (cxh Try.prog w0 I0 M0 n0 m0) l1_intern_Table_grow Q ⟨lk [(0, .pob [0] S.u 0), (2, iv k), (4, nv a), (18, .osl [0, 0] uc 9 0 n), (19, nv n), (20, nv i)], H⟩ := by
  intro f
  induction f with
  | zero => intro a d H _ _ h; omega
  | succ f ih =>
    intro a d H hH ha hd hz hq
    have ha' : (a : Int) < S.pl.length := by omega
    refine loopC_once mixed l1_intern_Table_grow.eq_1 ?_
    have hg : S.pl.getD a 0 = S.pl[a] := by simp [ha]
    by_cases h0 : S.pl[a] = 0
    · simp [ha, h0, hH]
      have e : fndP (fun _ => false) S.pl (f + 1) a = a := by rw [fndP, if_pos (by rw [hg]; exact h0)]
      rw [e] at hq
      exact hq
    · have hd0 : d ≠ 0 := fun e => by
        subst e
        rw [Nat.add_zero, Nat.mod_eq_of_lt ha, hg] at hz
        exact h0 hz
      obtain ⟨d, rfl⟩ : ∃ d', d = d' + 1 := ⟨d - 1, by omega⟩
      have hpos : (0 : Int) < S.pl[a] := by omega
      have hpos' : 0 < S.pl[a] := by omega
      have ef : fndP (fun _ => false) S.pl (f + 1) a = fndP (fun _ => false) S.pl f ((a + 1) % S.pl.length) := by
        rw [fndP, if_neg (by rw [hg]; exact h0)]
        simp
      rw [ef] at hq
      simp [ha, hpos', hH]
      refine sc_callb [tbX S, nv a] ((iNext_spec S hb a ha).toB rfl) (by simp; exact ⟨frz_tb hH, frz_bare rfl⟩) (by simp) ?_
      simp
      exact ih ((a + 1) % S.pl.length) d H hH (Nat.mod_lt _ (by omega)) (by omega) (by rw [mod_succ]; exact hz) hq
theorem grow_l2 {cl : List Cl} {u uc up m : Nat} (hc : cl.length ≤ 1000000) (hb : m < 4611686018427387904) (hm : cl.length < m) (hh : ∀ c, c ∈ cl → u64R c.h) : ∀ (j i : Nat) (pl : List Nat) (H : Hp), i + j = cl.length → pl.length = m → Pl ((cl.take i).map Cl.hn) pl → (∀ p, H (0 :: p) = tbF 0 ⟨u, uc, up, cl, pl⟩ p) →
    (∀ (q : Bool) (H' : Hp), (∀ p, H' (0 :: p) = tbF 0 ⟨u, uc, up, cl, growP pl i ((cl.drop i).map Cl.hn)⟩ p) → Q (.exit 0) ⟨lk [(0, .pob [0] u 0), (18, .osl [0, 0] uc 9 0 cl.length), (19, nv cl.length), (20, nv cl.length), (21, bv q)], H'⟩) →
    LoopC (cxh Try.prog w0 I0 M0 n0 m0) l2_intern_Table_grow Q ⟨lk [(0, .pob [0] u 0), (18, .osl [0, 0] uc 9 0 cl.length), (19, nv cl.length), (20, nv i)], H⟩ := by
  intro j
  induction j with
  | zero =>
    intro i pl H hi hl hpl hH hq
    have : i = cl.length := by omega
    subst this
    refine loopC_once mixed l2_intern_Table_grow.eq_1 ?_
    simp
    exact hq _ H (by simpa [growP] using hH)
  | succ j ih =>
    intro i pl H hi hl hpl hH hq
    have hlt : i < cl.length := by omega
    have hlt' : (i : Int) < cl.length := by omega
    have hpos : 0 < pl.length := by omega
    have hne : ¬ pl = [] := fun e => by rw [e] at hpos; simp at hpos
    have eu : IntKind.u64.wrap (pl.length : Int) = pl.length := u64_same (by omega) (by omega)
    have hck := hh _ (List.getElem_mem hlt)
    have et := hash_mod hck hpos (by omega)
    have ei : IntKind.i64.wrap ((i : Int) + 1) = ((i + 1 : Nat) : Int) := i64_same (by omega) (by omega)
    refine loopC_once mixed l2_intern_Table_grow.eq_1 ?_
    obtain ⟨d, f1, f2⟩ := hpl.free (by simp; omega) (cl[i].h.toNat % pl.length)
    have ha : cl[i].h.toNat % pl.length < pl.length := Nat.mod_lt _ hpos
    have hins : insP pl cl[i].hn (i + 1) = pl.set (fndP (fun _ => false) pl pl.length (cl[i].h.toNat % pl.length)) (i + 1) := rfl
    have hpl2 := hpl.insP (by simp; omega) cl[i].hn
    have htk : (cl.take (i + 1)).map Cl.hn = (cl.take i).map Cl.hn ++ [cl[i].hn] := by rw [List.take_succ_eq_append_getElem hlt, List.map_append]; rfl
    have hlen : ((cl.take i).map Cl.hn).length + 1 = i + 1 := by simp; omega
    rw [hlen, ← htk] at hpl2
    have hgr : growP pl i ((cl.drop i).map Cl.hn) = growP (insP pl cl[i].hn (i + 1)) (i + 1) ((cl.drop (i + 1)).map Cl.hn) := by rw [List.drop_eq_getElem_cons hlt, List.map_cons, growP]
    rw [hgr] at hq
    have f3 := (fndP_spec (stop := fun _ => false) pl.length (cl[i].h.toNat % pl.length) d ha f1 f2).1
    rw [hins] at hpl2 hq
    generalize cl[i].h.toNat % pl.length = a at et ha f2 f3 hpl2 hq
    simp [hlt, hH, updF_app, Cl.a, eu, hne, et]
    refine grow_l1 (S := ⟨u, uc, up, cl, pl⟩) (by simpa using (by omega)) pl.length a d _ (fun p => by simp [updF_app, hH]) ha f1 f2 ?_
    generalize fndP (fun _ => false) pl pl.length a = b at f3 hpl2 hq
    have f3' : (b : Int) < pl.length := by omega
    simp [f3, hH, updF_app, ei]
    refine ih (i + 1) (pl.set b (i + 1)) _ (by omega) (by simpa using hl) hpl2 (fun p => ?_) hq
    by_cases hp : p = [1]
    · subst hp
      simp [updF_app, List.map_set]
      rfl
    · simp [updF_app, hp, hH]
      exact tbF_pl hp (by simp)
end
theorem iGrow_spec {S : Tb} (hc : S.cl.length ≤ 1000000) (hb : S.pl.length ≤ 8000000) (hm : S.cl.length < 2 * S.pl.length) (hh : ∀ c, c ∈ S.cl → u64R c.h) : SpecF Try.prog 66 (fun r => [.pob [r] S.u 0]) (tbM S) (fun _ => .tup []) (tbM (growT S)) := by
  refine specF_of t_intern_Table_grow (by simp) (by simp) (by simp) fun w0 I0 M0 m0 => ?_
  unfold c_intern_Table_grow
  have e2 : IntKind.i64.wrap (2 * (S.pl.length : Int)) = ((2 * S.pl.length : Nat) : Int) := (i64_same (by omega) (by omega)).trans (by simp)
  have e3 : (2 * (S.pl.length : Int)).toNat = 2 * S.pl.length := by omega
  simp [e2, e3, updF_app]
  refine ⟨⟨by omega, by omega⟩, ?_⟩
  refine grow_l2 (cl := S.cl) (u := S.u) (uc := S.uc) (up := S.up + 1) (m := 2 * S.pl.length) hc (by omega) hm hh S.cl.length 0 (List.replicate (2 * S.pl.length) 0) _ (by omega) (by simp) (by simpa using Pl.nil _) (fun p => ?_) (fun q H' hH' => ?_)
  · simp only [ov_cons, if_true]
    refine updF_is ?_ (fun h1 => updF_is ?_ (fun h2 => ?_))
    · simp
    · simp
    · by_cases h3 : p = [0]
      · subst h3; rfl
      · exact tbF_but h1 h3 h2
  · simp
    exact reth_famN rfl rfl fun p => hH' p
theorem u64_wrap_in (x : Int) : u64R (IntKind.u64.wrap x) := by
  rw [IntKind.wrap_u64]
  unfold u64R
  omega
theorem mixH_in (h x : Int) : u64R (mixH h x) := u64_wrap_in _
theorem foldl_in : ∀ (w : List Int) (h : Int), u64R h → u64R (w.foldl mixH h)
  | [], _, h => h
  | x :: w, _, _ => foldl_in w _ (mixH_in _ _)
mutual
theorem hashN_in : ∀ t : T, u64R (hashN t)
  | .mk k w l => by rw [hashN]; exact hashL_in l _ (foldl_in _ _ (mixH_in _ _))
theorem hashL_in : ∀ (l : List T) (h : Int), u64R h → u64R (hashL h l)
  | [], _, h => by rw [hashL]; exact h
  | t :: l, _, _ => by rw [hashL]; exact hashL_in l _ (mixH_in _ _)
end
theorem famL_ref (l : List (List Int)) (r : Rf) : FamA (fun _ => paX l r) := famA_bare rfl fun x hx => by
  simp at hx
  rcases hx with rfl | rfl | rfl | rfl | rfl | rfl | rfl | rfl <;> simp
theorem iClass_spec {S : Tb} (hS : S.Ok) (hb : S.cl.length ≤ 100000) {l : List (List Int)} (hs : Sg l) {r : Rf} {t : T} (hm : Means l r t) :
    SpecF Try.prog 27 (fun q => [.pob [q] S.u 0, paX l r]) (tbM S) (fun _ => .tup [nv (clsI S.ks (norm t)), iv 0]) (tbM (clsS S l r t)) := by
  refine specF_of t_intern_Table_Class (by simp) (famL_cons famA_pob (famL_cons (famL_ref l r) famL_nil)) (famA_tup (famL_cons famA_v (famL_cons famA_v famL_nil))) fun w0 I0 M0 m0 => ?_
  unfold c_intern_Table_Class
  have hp8 := hS.p8
  have hmost := hS.most
  have hhalf := hS.half
  have hr := hashN_in
  obtain ⟨f1, f2, _⟩ := fnd_cases hS t
  simp
  refine sc_call (hash_spec hs _ _ hm) (by simp) ?_
  simp
  refine sc_callb [tbX S, uv (hashN (norm t)), paX l r] ((iFind_spec hS (by omega) hs hm (hr _)).toB rfl) (by simp; exact ⟨frz_tb (fun p => by simp), frz_bare rfl, frz_bare (by simp)⟩) (by simp) ?_
  have f1' : (S.fnd t : Int) < S.pl.length := by omega
  rcases f2 with ⟨v, g1, g2, g3⟩ | ⟨g1, g2⟩
  · have e1 : IntKind.i64.wrap ((v : Int) + 1 - 1) = v := (i64_same (by omega) (by omega)).trans (by omega)
    have hpos : (0 : Int) < (v : Int) + 1 := by omega
    have e1b : IntKind.i64.wrap (v : Int) = v := i64_same (by omega) (by omega)
    have hcs : clsS S l r t = S := by simp [clsS, g2, g3]
    have g1' : S.pl[S.fnd t] = v + 1 := by rw [List.getElem?_eq_getElem f1] at g1; exact Option.some.inj g1
    simp [f1, g1', hpos, e1, e1b, hcs, g2]
    exact reth_fam rfl rfl fun p => rfl
  · have g1' : S.pl[S.fnd t] = 0 := by
      rw [List.getD_eq_getElem?_getD, List.getElem?_eq_getElem f1] at g1
      simpa using g1
    have e8 : IntKind.i64.wrap ((S.cl.length : Int) + 1 - 1) = S.cl.length := (i64_same (by omega) (by omega)).trans (by omega)
    have e9 : IntKind.i64.wrap (S.cl.length : Int) = S.cl.length := i64_same (by omega) (by omega)
    have hfam : ∀ p, (updF (updF (updF (tbF 0 S) [0] ⟨S.uc + 1, .arr 9 (S.cl.map Cl.a ++ [.agg [uv (hashN (norm t)), arO l r, iv r.kind, iv r.s, iv r.at_, iv r.data, iv r.kids, iv r.count, uv r.n]])⟩) [] ⟨S.u, .cells [.osl [0, 0] (S.uc + 1) 9 0 (S.cl.length + 1), .osl [0, 1] S.up 1 0 S.pl.length]⟩) [1] ⟨S.up, .arr 1 ((S.pl.map nv).set (S.fnd t) (iv ((S.cl.length : Int) + 1)))⟩ : Nm → VOb) p = tbF 0 (addT S l r t) p := fun p => by
      refine updF_is ?_ (fun h1 => updF_is ?_ (fun h2 => updF_is ?_ (fun h3 => ?_)))
      · simp [addT, List.map_set]
        rfl
      · simp [addT]
      · simp [addT, Cl.a, Cl.h]
      · exact tbF_but h2 h3 h1
    have ew : IntKind.i64.wrap ((S.cl.length : Int) + 1) = (S.cl.length : Int) + 1 := i64_same (by omega) (by omega)
    have ew2 : IntKind.i64.wrap (2 * ((S.cl.length : Int) + 1)) = 2 * ((S.cl.length : Int) + 1) := i64_same (by omega) (by omega)
    have hle : (S.cl.length + 1) * 72 ≤ 140737488355328 := by omega
    simp [f1, g1', updF_app, List.take_of_length_le, hle, ew, ew2]
    refine ⟨fun hf => ?_, fun hf => ?_⟩
    · have hok := addT_ok hS hs hm g2
      have hcs : clsS S l r t = growT (addT S l r t) := by
        unfold clsS
        rw [if_neg (by omega), if_pos (by omega)]
      have hcl : (growT (addT S l r t)).cl.length = S.cl.length + 1 := by simp [growT, addT]
      have hu : (growT (addT S l r t)).u = S.u := rfl
      refine sc_fam 0 (iGrow_spec (S := addT S l r t) (by rw [addT_cl]; omega) (by rw [addT_pl]; omega) (by rw [addT_cl, addT_pl]; omega) (fun c _ => hr _)) (fun p => hfam p) rfl (by simp) ?_
      rw [hcs]
      simp
      unfold k1_intern_Table_Class
      simp [hu, hcl, e8, e9]
      exact reth_fam rfl (by simp [g2]) fun p => rfl
    · have hcs : clsS S l r t = addT S l r t := by
        unfold clsS
        rw [if_neg (by omega), if_neg (by omega)]
      rw [hcs]
      unfold k1_intern_Table_Class
      simp [updF_app, e8, e9]
      exact reth_fam rfl (by simp [g2]) fun p => hfam p
end Go.Proofs.Ytigdcnlhgelkaaa

/-
  Chapter 14: a copier; what is given, and pointed to.
-/
namespace Go.Proofs.Ytigdcnlhgelkaaa
set_option linter.unusedVariables false
set_option linter.unusedSimpArgs false
open Go Go.G Go.Proofs Go.PL

/-- A copier: its row's version, its words. -/
structure Cp where
  v : Nat
  W : List Int
def cpF (m : Int) (r : Nat) (S : Cp) : Nm → VOb
  | [] => ⟨1, .cells [.osl [r, 0] S.v 1 0 S.W.length, iv m]⟩
  | [0] => ⟨S.v, .arr 1 (S.W.map uv)⟩
  | _ => ⟨0, .none⟩
@[simp] theorem cpF_nil {m : Int} {r : Nat} {S : Cp} : cpF m r S [] = ⟨1, .cells [.osl [r, 0] S.v 1 0 S.W.length, iv m]⟩ := rfl
@[simp] theorem cpF_0 {m : Int} {r : Nat} {S : Cp} : cpF m r S [0] = ⟨S.v, .arr 1 (S.W.map uv)⟩ := rfl
theorem cpF_but {m m' : Int} {r : Nat} {S S' : Cp} {p : Nm} (h0 : p ≠ []) (h1 : p ≠ [0]) : cpF m r S p = cpF m' r S' p := by
  match p, h0, h1 with
  | [], h, _ => exact absurd rfl h
  | [0], _, h => exact absurd rfl h
  | 0 :: a :: q, _, _ => rfl
  | (a + 1) :: q, _, _ => rfl
theorem renL_uv {g : Nm → Nm} {δ : Nm → Nat} (l : List Int) : A.renL g δ (l.map uv) = l.map uv := by
  rw [renL_map, List.map_map]
  rfl
def cpM (m : Int) (S : Cp) : Fam := ⟨fun r => cpF m r S, fun {g δ r r'} hg hd p => by
    match p with
    | [] => simp [VOb.ren, Ob.ren, A.renL, A.ren, hg, hd]
    | [0] => exact Fam.arr_ren (renL_uv _)
    | 0 :: a :: q => rfl
    | (a + 1) :: q => rfl, fun {D r} hD p => by
    match p with
    | [] => simp [Ob.refs, A.refsL, A.refs, hD]
    | [0] =>
      refine refsL_iff.2 fun x hx => ?_
      obtain ⟨c, _, rfl⟩ := List.mem_map.1 hx
      trivial
    | 0 :: a :: q => trivial
    | (a + 1) :: q => trivial⟩
@[simp] theorem cpM_F {m : Int} {S : Cp} {r : Nat} : (cpM m S).F r = cpF m r S := rfl

def okG (m : Int) (S : Cp) (n : Nat) : Bool := decide ((S.W.length : Int) + n ≤ m)
def giveC (m : Int) (S : Cp) (n : Nat) : Cp := if okG m S n = true then ⟨S.v + 1, S.W ++ List.replicate n 0⟩ else S
theorem cGive_spec {m : Int} (hm0 : 0 ≤ m) (hm : m ≤ 131072) (S : Cp) (hS : (S.W.length : Int) ≤ 131072) (n : Nat) (hn : n ≤ 100000000000000) : SpecF Try.prog 74 (fun r => [.pob [r] 1 0, nv n]) (cpM m S) (fun _ => .tup [nv (if okG m S n = true then S.W.length else 0), bv (okG m S n)]) (cpM m (giveC m S n)) := by
  refine specF_of t_copy_copier_give (by simp) (famL_cons famA_pob (famL_cons famA_v famL_nil)) (famA_tup (famL_cons famA_v (famL_cons famA_v famL_nil))) fun w0 I0 M0 m0 => ?_
  unfold c_copy_copier_give
  have hw : IntKind.i64.wrap (m - S.W.length) = m - S.W.length := i64_same (by omega) (by omega)
  cases hk : okG m S n with
  | false =>
    have hlt : m - (S.W.length : Int) < n := by simp [okG] at hk; omega
    have hg : giveC m S n = S := by simp [giveC, hk]
    simp [hw, hlt, hg, updF_app]
    exact reth_fam rfl rfl fun p => rfl
  | true =>
    have hlt : ¬ m - (S.W.length : Int) < n := by simp [okG] at hk; omega
    have hle : (S.W.length + n) * 8 ≤ 140737488355328 := by simp [okG] at hk; omega
    have hn1 : (n : Int) * 8 ≤ 140737488355328 := by simp [okG] at hk; omega
    have hg : giveC m S n = ⟨S.v + 1, S.W ++ List.replicate n 0⟩ := by simp [giveC, hk]
    simp [hw, hlt, hg, updF_app, hle, hn1]
    refine reth_fam rfl rfl fun p => ?_
    refine updF_is ?_ (fun h1 => updF_is ?_ (fun h2 => cpF_but h1 h2))
    · simp
    · simp [List.take_of_length_le]
theorem giveC_yes {m : Int} {S : Cp} {n : Nat} (h : (S.W.length : Int) + n ≤ m) : okG m S n = true ∧ giveC m S n = ⟨S.v + 1, S.W ++ List.replicate n 0⟩ := by
  have : okG m S n = true := by simp [okG, h]
  exact ⟨this, by simp [giveC, this]⟩
theorem giveC_no {m : Int} {S : Cp} {n : Nat} (h : ¬ (S.W.length : Int) + n ≤ m) : okG m S n = false ∧ giveC m S n = S := by
  have : okG m S n = false := by simp [okG]; omega
  exact ⟨this, by simp [giveC, this]⟩

/-- The pointer that is laid. -/
def ptQ (p : Pt) (at_ to : Int) : Pt := { p with off := if p.kind = 1 ∧ p.data + p.ptrs = 0 then -1 else to - at_ - 1 }
abbrev ptL (p : Pt) : List A := [iv p.kind, iv p.off, iv p.data, iv p.ptrs, iv p.code, iv p.count, iv p.seg, bv p.dbl]
theorem point_k1 {n : Nat} {w0 : World} {I0 M0 : Nat → Prop} {m0 : Mu} {m : Int} {S : Cp} {q : Pt} {a : Nat} (ha : a < S.W.length) {H : Hp} (hH : ∀ p, H (0 :: p) = cpF m 0 S p) (hP : H [1] = ⟨1, .cells (ptL q)⟩) :
    WPC (cxh Try.prog w0 I0 M0 n m0) k1_copy_copier_point (RetH (cxh Try.prog w0 I0 M0 n m0) [] 1 (.tup []) (ov 0 (cpF m 0 ⟨S.v, S.W.set a (encW q)⟩) (lkH []))) ⟨lk [(0, .pob [0] 1 0), (1, nv a), (7, .pob [1] 1 0)], H⟩ := by
  unfold k1_copy_copier_point
  have ha' : (a : Int) < S.W.length := by omega
  simp [hP, hH]
  refine sc_call (Encode_spec q) (by simp) ?_
  simp [hH, ha]
  refine reth_famN rfl rfl fun p => ?_
  by_cases h0 : p = [0]
  · subst h0
    simp [updF_app, List.map_set]
  · by_cases h1 : p = []
    · subst h1
      simp [updF_app, hH]
    · simp only [updF_app]
      rw [if_neg (by simpa using h0), hH]
      exact cpF_but h1 h0
theorem cPoint_spec {m : Int} (S : Cp) {a : Nat} (ha : a < S.W.length) (ha2 : a ≤ 200000) {to : Int} (t0 : 0 ≤ to) (t1 : to ≤ 200000) (p : Pt) (d0 : 0 ≤ p.data) (d1 : p.data ≤ 200000) (k0 : 0 ≤ p.ptrs) (k1 : p.ptrs ≤ 200000) :
    SpecF Try.prog 107 (fun r => [.pob [r] 1 0, nv a, iv to, p.a]) (cpM m S) (fun _ => .tup []) (cpM m ⟨S.v, S.W.set a (encW (ptQ p a to))⟩) := by
  refine specF_of t_copy_copier_point (by simp) (famL_cons famA_pob (famL_cons famA_v (famL_cons famA_v (famL_cons (famA_agg (FamL.all fun x hx => ?_)) famL_nil)))) (by simp) fun w0 I0 M0 m0 => ?_
  · simp at hx
    rcases hx with rfl | rfl | rfl | rfl | rfl | rfl | rfl | rfl <;> simp
  unfold c_copy_copier_point
  have e1 : IntKind.i64.wrap (to - (a : Int)) = to - a := i64_same (by omega) (by omega)
  have e2 : IntKind.i64.wrap (to - (a : Int) - 1) = to - a - 1 := i64_same (by omega) (by omega)
  have e3 : IntKind.i64.wrap (p.data + p.ptrs) = p.data + p.ptrs := i64_same (by omega) (by omega)
  obtain ⟨kind, off, data, ptrs, code, count, sg, dbl⟩ := p
  simp only at d0 d1 k0 k1 e3
  by_cases h1 : kind = 1
  · subst h1
    by_cases h2 : data + ptrs = 0
    · have hq : ptQ ⟨1, off, data, ptrs, code, count, sg, dbl⟩ a to = ⟨1, -1, data, ptrs, code, count, sg, dbl⟩ := by simp [ptQ, h2]
      rw [h2] at e3
      simp [e1, e2, e3, h2, updF_app, Pt.a]
      rw [hq]
      exact point_k1 ha (fun p => by simp) (by simp)
    · have hq : ptQ ⟨1, off, data, ptrs, code, count, sg, dbl⟩ a to = ⟨1, to - a - 1, data, ptrs, code, count, sg, dbl⟩ := by simp [ptQ, h2]
      simp [e1, e2, e3, h2, updF_app, Pt.a]
      rw [hq]
      exact point_k1 ha (fun p => by simp) (by simp)
  · have hq : ptQ ⟨kind, off, data, ptrs, code, count, sg, dbl⟩ a to = ⟨kind, to - a - 1, data, ptrs, code, count, sg, dbl⟩ := by simp [ptQ, h1]
    simp [e1, e2, e3, h1, updF_app, Pt.a]
    rw [hq]
    exact point_k1 ha (fun p => by simp) (by simp)
/-- As the document says it. -/
theorem enc_str {at_ to w k : Int} (h0 : 0 ≤ at_) (h1 : at_ ≤ 200000) (h2 : 0 ≤ to) (h3 : to ≤ 200000) (w0 : 0 ≤ w) (w1 : w < 65536) (k0 : 0 ≤ k) (k1 : k < 65536) : encW (ptQ ⟨1, 0, w, k, 0, 0, 0, false⟩ at_ to) = ptrZ at_ (if w + k = 0 then at_ else to) 0 (w + 65536 * k) := by
  by_cases hz : w + k = 0
  · have e : ptQ ⟨1, 0, w, k, 0, 0, 0, false⟩ at_ to = ⟨1, -1, w, k, 0, 0, 0, false⟩ := by simp [ptQ, hz]
    rw [e, if_pos hz]
    unfold encW ptrZ
    simp only
    rw [if_pos trivial, if_pos (by omega), if_pos (by omega)]
    omega
  · have e : ptQ ⟨1, 0, w, k, 0, 0, 0, false⟩ at_ to = ⟨1, to - at_ - 1, w, k, 0, 0, 0, false⟩ := by simp [ptQ, hz]
    rw [e, if_neg hz]
    unfold encW ptrZ
    simp only
    rw [if_pos trivial, if_pos (by omega)]
    split <;> omega
theorem enc_list {at_ to c n : Int} (h0 : 0 ≤ at_) (h1 : at_ ≤ 200000) (h2 : 0 ≤ to) (h3 : to ≤ 200000) (c0 : 0 ≤ c) (c1 : c ≤ 7) (n0 : 0 ≤ n) (n1 : n < 536870912) : encW (ptQ ⟨2, 0, 0, 0, c, n, 0, false⟩ at_ to) = ptrZ at_ to 1 (c + 8 * n) := by
  have e : ptQ ⟨2, 0, 0, 0, c, n, 0, false⟩ at_ to = ⟨2, to - at_ - 1, 0, 0, c, n, 0, false⟩ := by simp [ptQ]
  rw [e]
  unfold encW ptrZ
  simp only
  rw [if_neg (by decide), if_pos trivial, if_pos (by omega)]
  split <;> omega
end Go.Proofs.Ytigdcnlhgelkaaa

/-
  Chapters 10 and 14, plain: what means something within limits is a right tree; it can be laid.
-/
namespace Go.Proofs.Ytigdcnlhgelkaaa
set_option linter.unusedVariables false
set_option linter.unusedSimpArgs false
open Go Go.G Go.Proofs Go.PL

theorem at_kind (l : List (List Int)) (s a : Int) : (atP l s a).1.kind ≠ 10 := by
  unfold atP
  split
  · simp [Rf.zero]
  · unfold refP
    split
    · simp
    · split
      · simp; omega
      · unfold compP
        split <;> simp [Rf.zero]
theorem rf_kind {l : List (List Int)} {r : Rf} (h : RfOk l r) : 0 ≤ r.kind ∧ r.kind ≤ 10 := by cases h <;> simp [Rf.zero] <;> omega
theorem kid_kind {l : List (List Int)} {r : Rf} (h : r.kind = 1 ∨ r.kind = 8) (i : Int) : (kidP l r i).1.kind ≠ 10 := by
  unfold kidP
  split
  · simp [Rf.zero]
  · rcases h with h | h
    · rw [if_pos h]; exact at_kind _ _ _
    · rw [if_neg (by omega), if_pos h]; exact at_kind _ _ _
theorem kid_comp {l : List (List Int)} {r : Rf} (h : r.kind = 9) {i : Int} (h0 : 0 ≤ i) (h1 : i < nk r) : (kidP l r i).1.kind = 1 := by
  rw [kidP, if_neg (by omega), if_neg (by omega), if_neg (by omega), if_pos h]
theorem getZ_fits {g : List Int} {c i : Int} (hg : ∀ x, x ∈ g → 0 ≤ x ∧ x < 18446744073709551616) (hc : 0 ≤ c) (hc6 : c < 6) : fitsZ c (getZ g c i) = true := by
  have hw : 0 ≤ widthZ c := by unfold widthZ; repeat' split <;> omega
  have hp : (0 : Int) < 2 ^ (widthZ c).toNat := Int.pow_pos (by decide)
  simp only [fitsZ, Bool.and_eq_true, decide_eq_true_eq]
  refine ⟨hw, ?_⟩
  unfold getZ
  split
  · simp
  · rw [Int.ediv_eq_zero_of_lt]
    · exact Int.emod_nonneg _ (by omega)
    · exact Int.emod_lt_of_pos _ hp
theorem atom_words {l : List (List Int)} {r : Rf} {t : T} (hm : Means l r t) (hk : 2 ≤ t.kind) (hk7 : t.kind ≤ 7) {i : Nat} (hi : i < t.kids.length) : t.kids[i].kind = 10 ∧ t.kids[i].words = [hd t.kids[i]] := by
  obtain ⟨h1, h2⟩ := means_kid hm hi
  have hkr := means_kind hm
  have hnk := means_nk hm
  have hkk := means_kind h2
  have hw := (means_word h2).1
  have hkid : (kidP l r i).1.kind = 10 := by
    rw [kidP, if_neg (by omega), if_neg (by omega), if_neg (by omega), if_neg (by omega)]
  have hlen : t.kids[i].words.length = 1 := by
    have : nwR (kidP l r i).1 = 1 := by simp [nwR, hkid]
    omega
  refine ⟨by omega, ?_⟩
  match hq : t.kids[i].words, hlen with
  | [x], _ => simp [hd, hq]
/-- The numbers of a list of data fit. -/
theorem data_fits {l : List (List Int)} (hs : Sg l) {r : Rf} {t : T} (hm : Means l r t) (k2 : 2 ≤ t.kind) (k7 : t.kind ≤ 7) : ∀ x, x ∈ t.kids.map hd → u64R x ∧ fitsZ (t.kind - 2) x = true := fun x hx => by
  obtain ⟨c, hc, rfl⟩ := List.mem_map.1 hx
  obtain ⟨i, hi, rfl⟩ := List.mem_iff_getElem.1 hc
  obtain ⟨h1, kk⟩ := means_kid hm hi
  obtain ⟨a1, a2⟩ := atom_words hm k2 k7 hi
  have hkr := means_kind hm
  have hnk := means_nk hm
  have hwd := (means_word kk).2 0 (by rw [a2]; simp)
  simp only [a2, List.getElem_cons_zero] at hwd
  have hkid : kidP l r i = (⟨10, 0, 0, 0, 0, 0, atomZ l r i⟩, 0) := by
    rw [kidP, if_neg (by omega), if_neg (by omega), if_neg (by omega), if_neg (by omega)]
  rw [hkid] at hwd
  have e : hd t.kids[i] = atomZ l r i := by
    rw [← hwd]
    simp [wordAt, nwR]
  have hgx : ∀ x, x ∈ ((seg l r.s).getD []).drop r.at_.toNat → 0 ≤ x ∧ x < 18446744073709551616 := fun x hx => by
    have hx := List.mem_of_mem_drop hx
    cases e : seg l r.s with
    | none => rw [e] at hx; simp at hx
    | some g =>
      rw [e] at hx
      simp at hx
      obtain ⟨_, _, _, rfl⟩ := seg_some e
      exact hs.w _ (List.getElem_mem _) x hx
  rw [e, ← hkr]
  exact ⟨getZ_range hgx, getZ_fits hgx (by omega) (by omega)⟩
theorem laid_of {l : List (List Int)} (hs : Sg l) : ∀ (t : T) (r : Rf), Means l r t → t.kind ≠ 10 → LayOk (norm t) := by
  refine T.ind fun k w ks ih r hm h10 => ?_
  have hk := means_kind hm
  have hok := means_ok hm
  have hb := rf_kind hok
  simp at hk h10
  rw [norm_mk]
  have kid : ∀ (i : Nat) (hi : i < ks.length), Means l (kidP l r i).1 ks[i] := fun i hi => (means_kid hm (by simpa using hi)).2
  by_cases h0 : k = 0
  · rw [if_pos h0]; exact .null _
  · rw [if_neg h0]
    by_cases h1 : k = 1
    · rw [if_pos h1]
      have hb1 : w.length < 65536 ∧ ks.length < 65536 := by
        have hn := means_nk hm
        have hw := (means_word hm).1
        simp at hn hw
        have : nk r < 65536 ∧ nwR r < 65536 := by
          cases hok <;> simp [Rf.zero, nk, nwR] at hk ⊢ <;> omega
        omega
      have hb2 := trimW_le w
      have hb3 := trimK_le (ks.map norm)
      rw [List.length_map] at hb3
      refine .str _ _ (by omega) (by omega) fun t ht => ?_
      rw [trimK_map] at ht
      obtain ⟨u, hu, rfl⟩ := List.mem_map.1 (List.mem_of_mem_take ht)
      obtain ⟨i, hi, rfl⟩ := List.mem_iff_getElem.1 hu
      refine ih _ hu _ (kid i hi) ?_
      rw [← means_kind (kid i hi)]
      exact kid_kind (.inl (by omega)) i
    · rw [if_neg h1]
      by_cases h8 : k = 8
      · subst h8
        have hln := means_len hm
        refine .ptrs _ _ (by simpa using hln.2) fun t ht => ?_
        obtain ⟨u, hu, rfl⟩ := List.mem_map.1 ht
        obtain ⟨i, hi, rfl⟩ := List.mem_iff_getElem.1 hu
        refine ih _ hu _ (kid i hi) ?_
        rw [← means_kind (kid i hi)]
        exact kid_kind (.inr (by omega)) i
      · by_cases h9 : k = 9
        · subst h9
          have hln := means_len hm
          have hkn := means_nk hm
          simp at hkn
          refine .comp _ _ (by simpa using hln.2) (fun t ht => ?_) fun t ht u hu' => ?_
          · obtain ⟨v, hv, rfl⟩ := List.mem_map.1 ht
            obtain ⟨i, hi, rfl⟩ := List.mem_iff_getElem.1 hv
            have kk := kid i hi
            have hkk := means_kind kk
            rw [kid_comp (by omega) (by omega) (by omega)] at hkk
            have hL := ih _ hv _ kk (by omega)
            have hkn2 : (norm ks[i]).kind = 1 := by rw [norm_kind]; omega
            generalize norm ks[i] = x at hL hkn2
            cases hL with
            | str w ks b1 b2 h => exact ⟨b1, b2⟩
            | _ => simp at hkn2 <;> omega
          obtain ⟨v, hv, rfl⟩ := List.mem_map.1 ht
          obtain ⟨i, hi, rfl⟩ := List.mem_iff_getElem.1 hv
          have hkn := means_nk hm
          simp at hkn
          have hkk := means_kind (kid i hi)
          rw [kid_comp (by omega) (by omega) (by omega)] at hkk
          have := ih _ hv _ (kid i hi) (by omega)
          have hkn2 : (norm ks[i]).kind = 1 := by rw [norm_kind]; omega
          generalize norm ks[i] = x at this hkn2 hu'
          cases this with
          | str w ks b1 b2 h => exact h u hu'
          | _ => simp at hkn2 <;> omega
        · have hln := means_len hm
          refine .data _ _ _ (by omega) (by omega) (by simpa using hln.2) fun c hc => ?_
          obtain ⟨v, hv, rfl⟩ := List.mem_map.1 hc
          obtain ⟨i, hi, rfl⟩ := List.mem_iff_getElem.1 hv
          obtain ⟨a1, a2⟩ := atom_words hm (by simp; omega) (by simp; omega) (i := i) (by simpa using hi)
          obtain ⟨f1, f2⟩ := data_fits hs hm (by simp; omega) (by simp; omega) _ (List.mem_map.2 ⟨ks[i], by simp, rfl⟩)
          simp only [T.kids_mk, T.kind_mk] at a1 a2 f1 f2
          refine ⟨hd ks[i], ?_, f1.1, f1.2, f2⟩
          have := norm_words (means_bare (kid i hi))
          rw [this, a2]
          simp [nW, a1, a2]

/-! ### a right tree -/
theorem wordsR_len {l : List (List Int)} {r : Rf} (h : RfOk l r) (h10 : r.kind ≠ 10) : (wordsR l r).length = (if r.kind = 1 then r.data else 0).toNat := by
  unfold wordsR
  rw [if_neg h10]
  by_cases h1 : r.kind = 1
  · rw [if_neg (by omega), if_pos h1]
    cases h with
    | str s a d k a1 a2 a3 a4 h =>
      simp only
      simp only [hasW, decide_eq_true_eq] at h
      obtain ⟨b1, b2, b3, b4, b5⟩ := h
      obtain ⟨g1, g2⟩ := seg_in b1 b2
      simp [part, g2, szAt] at b5 ⊢
      omega
    | _ => simp [Rf.zero] at h1 <;> omega
  · rw [if_pos h1, if_neg h1]; rfl
theorem loopM_okB {f : Nat → Int → T × Int × Int} {B : Int} (hf : ∀ (i : Nat) lf, 0 ≤ lf → lf ≤ B → 0 ≤ (f i lf).2.1 ∧ (f i lf).2.1 ≤ B) : ∀ {m i : Nat} {acc : List T} {left : Int}, 0 ≤ left → left ≤ B → (loopM f m i acc left).2.2 = 0 → ∃ ks : List T, (loopM f m i acc left).1 = acc ++ ks ∧ ks.length = m ∧ ∀ (j : Nat) (h : j < ks.length), ∃ lf, 0 ≤ lf ∧ lf ≤ B ∧ (f (i + j) lf).2.2 = 0 ∧ (f (i + j) lf).1 = ks[j]
  | 0, i, acc, left, _, _, h => ⟨[], by simp [loopM], rfl, fun j h => by simp at h⟩
  | m + 1, i, acc, left, l0, l1, h => by
    rw [loopM] at h ⊢
    by_cases h0 : (f i left).2.2 ≠ 0
    · rw [if_pos h0] at h; exact absurd h h0
    · rw [if_neg h0] at h ⊢
      obtain ⟨b0, b1⟩ := hf i left l0 l1
      obtain ⟨ks, e1, e2, e3⟩ := loopM_okB hf b0 b1 h
      refine ⟨(f i left).1 :: ks, by rw [e1]; simp, by simp [e2], fun j hj => ?_⟩
      cases j with
      | zero => exact ⟨left, l0, l1, by simpa using h0, rfl⟩
      | succ j =>
        obtain ⟨lf, q0, q1, g1, g2⟩ := e3 j (by simpa using hj)
        refine ⟨lf, q0, q1, ?_, ?_⟩
        · rw [show i + (j + 1) = i + 1 + j by omega]; exact g1
        · rw [show i + (j + 1) = i + 1 + j by omega]; simpa using g2
theorem loop_right {l : List (List Int)} (hw : Wds l) {B : Int} {r : Rf} (hr : RfOk l r) {k : Int} (hk : r.kind = k) (k0 : k ≠ 0) (k10 : k ≠ 10) (hn : nk r < 1048576) {d : Nat} {rec : Rf → Int → T × Int × Int} (hlb : LB l B rec) (hrec : ∀ (i : Nat) left, 0 ≤ left → left ≤ B → i < nk r → (rec (kidP l r i).1 left).2.2 = 0 → rightT d (rec (kidP l r i).1 left).1 = true ∧ kidOk k (rec (kidP l r i).1 left).1 = true) {left : Int} (l0 : 0 ≤ left) (l1 : left ≤ B)
    (h : (loopM (stepM l rec r) (nk r).toNat 0 [] left).2.2 = 0) : rightT (d + 1) (.mk k (wordsR l r) (loopM (stepM l rec r) (nk r).toNat 0 [] left).1) = true := by
  obtain ⟨ks, e1, e2, e3⟩ := loopM_okB (fun i lf => stepM_lb hw hlb hr i lf) l0 l1 h
  rw [e1]
  simp only [List.nil_append]
  have hnn := nk_nonneg hr
  have hb := rf_kind hr
  have hwl := wordsR_len hr (by omega)
  have hd1 : r.kind = 1 → 0 ≤ r.data ∧ r.data < 65536 ∧ nk r < 65536 := fun h => by
    cases hr <;> simp [Rf.zero, nk] at h ⊢ <;> omega
  rw [rightT_mk, if_neg k0, if_neg k10]
  have hbig : tooBig k (d + 1) (wordsR l r).length ks.length = false := by
    rw [hwl, e2]
    unfold tooBig
    by_cases h1 : r.kind = 1
    · have := hd1 h1
      rw [if_pos h1]
      simp
      omega
    · rw [if_neg h1]
      simp
      omega
  rw [hbig, if_neg (by decide)]
  refine rightL_all.2 fun t ht => ?_
  obtain ⟨i, hi, rfl⟩ := List.mem_iff_getElem.1 ht
  obtain ⟨lf, q0, q1, g1, g2⟩ := e3 i hi
  simp only [Nat.zero_add] at g1 g2
  unfold stepM at g1 g2
  by_cases h0 : (kidP l r i).2 ≠ 0
  · rw [if_pos h0] at g1; exact absurd g1 h0
  · rw [if_neg h0] at g1 g2
    rw [← g2]
    exact hrec i lf q0 q1 (by omega) g1
theorem kidOk_plain {k : Int} {c : T} (h : k = 1 ∨ k = 8) (hc : c.kind ≠ 10) : kidOk k c = true := by
  rcases h with rfl | rfl <;> simp [kidOk, isData, hc]
theorem meaning_kind (l : List (List Int)) (d : Nat) (r : Rf) (left : Int) : (meaning l d r left).1.kind = r.kind := by
  match d with
  | 0 => rw [meaning]; split <;> rfl
  | 1 => rw [meaning]; repeat' split <;> first | rfl | skip
  | d + 2 => rw [meaning]; repeat' split <;> first | rfl | skip
theorem leaf_right (l : List (List Int)) {r : Rf} (h : r.kind = 0) (hr : RfOk l r) (d : Nat) (left : Int) : rightT d (leafM l r left).1 = true := by
  have : wordsR l r = [] := by
    have := wordsR_len hr (by omega)
    rw [if_neg (by omega)] at this
    exact List.eq_nil_of_length_eq_zero (by simpa using this)
  simp [leafM, rightT_mk, h, this]
theorem costM_nonneg {l : List (List Int)} {r : Rf} (h : RfOk l r) : 0 ≤ costM r := by
  cases h with
  | zero => simp [costM, Rf.zero, nk]
  | str s a d k a1 a2 a3 a4 h => simp [costM]; omega
  | dat c s a n a1 a2 a3 a4 h => rw [costM, if_neg (by simp; omega), if_neg (by simp; omega)]; simp [nk]; split <;> omega
  | ptrs s a n a1 a2 h => simp [costM, nk]; omega
  | comp s a d k n a1 a2 a3 a4 a5 a6 h =>
    simp [costM]
    have := Int.mul_nonneg a5 (show 0 ≤ 1 + d + k by omega)
    omega
  | atom n a1 a2 => simp [costM, nk]
/-- What it tells is right, of so deep at the most. -/
def RG (l : List (List Int)) (B : Int) (d : Nat) (rec : Rf → Int → T × Int × Int) : Prop := ∀ x left, RfOk l x → x.kind ≠ 10 → 0 ≤ left → left ≤ B → (rec x left).2.2 = 0 → rightT d (rec x left).1 = true ∧ (rec x left).1.kind = x.kind
theorem rest_right {l : List (List Int)} (hw : Wds l) {r : Rf} (hr : RfOk l r) (h0 : r.kind ≠ 0) (h10 : r.kind ≠ 10) {d : Nat} {rec1 rec2 : Rf → Int → T × Int × Int} (b1 : LB l 65536 rec1) (b2 : LB l 65536 rec2) (h1 : RG l 65536 d rec1)
    (h2 : r.kind = 9 → 0 < r.count → ∃ d', d = d' + 1 ∧ RG l 65536 d' rec2) {left : Int} (hl : left ≤ 65536) (hc : ¬ left < costM r) (h : (restM l r rec1 rec2 left).2.2 = 0) : rightT (d + 1) (restM l r rec1 rec2 left).1 = true := by
  unfold restM at h ⊢
  have hnn := nk_nonneg hr
  have hb := rf_kind hr
  have hn : nk r < 1048576 := by
    cases hr with
    | comp s a d k n a1 a2 a3 a4 a5 a6 h =>
      simp [costM] at hc
      simp [nk]
      have : n * 1 ≤ n * (1 + d + k) := Int.mul_le_mul_of_nonneg_left (by omega) a5
      omega
    | str s a d k a1 a2 a3 a4 h => simp [nk]; omega
    | zero => simp [Rf.zero] at h0
    | atom n a1 a2 => simp at h10
    | dat c s a n a1 a2 a3 a4 h =>
      rw [costM, if_neg (by simp; omega), if_neg (by simp; omega)] at hc
      omega
    | ptrs s a n a1 a2 h =>
      rw [costM, if_neg (by simp), if_neg (by simp)] at hc
      omega
  have hcost : 0 ≤ costM r := costM_nonneg hr
  refine loop_right hw hr rfl h0 h10 hn (B := 65536) ?_ (fun i lf q0 q1 hi hq => ?_) (by omega) (by omega) h
  · by_cases h9 : r.kind = 9
    · rw [if_pos h9]; exact kidsM_lb hw b2
    · rw [if_neg h9]
      split
      · exact b1
      · exact leafM_lb
  have hok := kid_ok hw hr (i : Int)
  by_cases h9 : r.kind = 9
  · simp only [if_pos h9] at hq ⊢
    have hk : nk r = r.count := by simp [nk, h9]
    obtain ⟨d', rfl, h2'⟩ := h2 h9 (by omega)
    have hkid : kidP l r i = (⟨1, r.s, r.at_ + i * (r.data + r.kids), r.data, r.kids, 0, 0⟩, 0) := by
      rw [kidP, if_neg (by omega), if_neg (by omega), if_neg (by omega), if_pos h9]
    rw [hkid] at hq hok ⊢
    have hk6 : r.kids < 65536 := by cases hr <;> simp [Rf.zero] at h9 ⊢ <;> omega
    unfold kidsM at hq ⊢
    refine ⟨loop_right hw hok rfl (by simp) (by simp) (by simp [nk]; omega) b2 (fun j lf' p0 p1 hj hq' => ?_) q0 q1 hq, by rw [h9]; simp [kidOk, isData]⟩
    have hk10 : (kidP l ⟨1, r.s, r.at_ + i * (r.data + r.kids), r.data, r.kids, 0, 0⟩ j).1.kind ≠ 10 := kid_kind (.inl rfl) j
    obtain ⟨g1, g2⟩ := h2' _ _ (kid_ok hw hok _) hk10 p0 p1 hq'
    exact ⟨g1, kidOk_plain (.inl rfl) (by rw [g2]; exact hk10)⟩
  · by_cases h18 : r.kind = 1 ∨ r.kind = 8
    · simp only [if_neg h9, if_pos h18] at hq ⊢
      have hk10 := kid_kind (l := l) h18 i
      obtain ⟨g1, g2⟩ := h1 _ _ hok hk10 q0 q1 hq
      exact ⟨g1, kidOk_plain h18 (by rw [g2]; exact hk10)⟩
    · simp only [if_neg h9, if_neg h18] at hq ⊢
      have hdat : 2 ≤ r.kind ∧ r.kind ≤ 7 := by
        clear h hq h2 h1 b1 b2
        omega
      have hkid : kidP l r i = (⟨10, 0, 0, 0, 0, 0, atomZ l r i⟩, 0) := by
        rw [kidP, if_neg (by omega), if_neg (by omega), if_neg (by omega), if_neg (by omega)]
      rw [hkid]
      have hf : fitsZ (r.kind - 2) (atomZ l r i) = true := by
        unfold atomZ
        refine getZ_fits (fun x hx => ?_) (by omega) (by omega)
        have hx := List.mem_of_mem_drop hx
        cases e : seg l r.s with
        | none => rw [e] at hx; simp at hx
        | some g =>
          rw [e] at hx
          simp at hx
          obtain ⟨_, _, _, rfl⟩ := seg_some e
          exact hw _ (List.getElem_mem _) x hx
      refine ⟨by simp [leafM, rightT_mk, wordsR], ?_⟩
      have hd : isData r.kind = true := by simp [isData, hdat.1, hdat.2]
      have h9' : decide (r.kind = 9) = false := by simp [h9]
      simp [kidOk, leafM, wordsR, hd, h9', hf]
theorem stop_kind (l : List (List Int)) (r : Rf) (left : Int) : (stopM l r left).1.kind = r.kind := rfl
theorem stop_rg (l : List (List Int)) (B : Int) (d : Nat) : RG l B d (fun r left => stopM l r left) := fun x left _ _ _ _ h => absurd h (by simp [stopM])
theorem stop_lb (l : List (List Int)) (B : Int) : LB l B (fun r left => stopM l r left) := fun r hr left h0 h1 => ⟨h0, h1⟩
theorem meaning_right {l : List (List Int)} (hw : Wds l) : ∀ (d : Nat), RG l 65536 d (meaning l d)
  | 0 => fun r left hr h10 l0 hl h => by
    refine ⟨?_, meaning_kind l 0 r left⟩
    rw [meaning] at h ⊢
    split at h
    · rename_i h0; rw [if_pos h0]; exact leaf_right l h0 hr _ _
    · exact absurd h (by simp [stopM])
  | 1 => fun r left hr h10 l0 hl h => by
    refine ⟨?_, meaning_kind l 1 r left⟩
    rw [meaning] at h ⊢
    split at h
    · rename_i h0; rw [if_pos h0]; exact leaf_right l h0 hr _ _
    · rename_i h0
      split at h
      · exact absurd h (by simp [stopM])
      · rename_i h9
        split at h
        · exact absurd h (by simp [stopM])
        · rename_i hc
          rw [if_neg h0, if_neg h9, if_neg hc]
          exact rest_right hw hr h0 h10 (meaning_lb hw 0) (stop_lb l _) (meaning_right hw 0) (fun e c => absurd ⟨e, c⟩ h9) hl hc h
  | d + 2 => fun r left hr h10 l0 hl h => by
    refine ⟨?_, meaning_kind l (d + 2) r left⟩
    rw [meaning] at h ⊢
    split at h
    · rename_i h0; rw [if_pos h0]; exact leaf_right l h0 hr _ _
    · rename_i h0
      split at h
      · exact absurd h (by simp [stopM])
      · rename_i hc
        rw [if_neg h0, if_neg hc]
        exact rest_right hw hr h0 h10 (meaning_lb hw (d + 1)) (meaning_lb hw d) (meaning_right hw (d + 1)) (fun e c => ⟨d, rfl, meaning_right hw d⟩) hl hc h
/-- What a message means within limits is a right tree. -/
theorem unf_right {l : List (List Int)} (hs : Sg l) {a b : Int} (h : (unfP l a b).2.2 = 0) : rightT 64 (unfP l a b).1 = true ∧ (unfP l a b).1.kind ≠ 10 := by
  have ha := clamp_in a 64 (by decide)
  have hb := clamp_in b 65536 (by decide)
  unfold unfP at h ⊢
  split at h
  · rename_i h0; exact absurd h h0
  · rename_i h0
    rw [if_neg h0]
    split at h
    · rename_i h1; exact absurd h h1
    · rename_i h1
      rw [if_neg h1]
      obtain ⟨q1, q2⟩ := meaning_right hs.w (clampZ a 64).toNat (atP l 0 0).1 (clampZ b 65536) (at_ok hs.w 0 0) (at_kind l 0 0) hb.1 hb.2 (by omega)
      exact ⟨rightT_mono _ _ 64 (by omega) q1, by rw [q2]; exact at_kind l 0 0⟩
end Go.Proofs.Ytigdcnlhgelkaaa

/-
  Chapter 14: kids and structs are laid.
-/
namespace Go.Proofs.Ytigdcnlhgelkaaa
set_option linter.unusedVariables false
set_option linter.unusedSimpArgs false
open Go Go.G Go.Proofs Go.PL

theorem setW_snoc : ∀ (ws : List Int) (b : Nat) (x : Int) (l : List Int), setW b (ws ++ [x]) l = (setW b ws l).set (b + ws.length) x
  | [], b, x, l => by simp [setW]
  | y :: ws, b, x, l => by
    simp only [List.cons_append, setW, setW_snoc ws, List.length_cons]
    rw [show b + 1 + ws.length = b + (ws.length + 1) from by omega]

/-- A value is laid, as the document says, or there is no room. -/
def VS (l : List (List Int)) (m : Int) (t : T) : Prop := ∀ (r : Rf) (S : Cp) (a : Nat), Means l r t → t.kind ≠ 10 → a < S.W.length → (S.W.length : Int) ≤ m →
  ∃ S' : Cp, S.W.length ≤ S'.W.length ∧ (S'.W.length : Int) ≤ m ∧ ((S.W.length : Int) + sizeT (norm t) ≤ m → S'.W = layT (norm t) a S.W) ∧
    SpecF Try.prog 75 (fun q => [.pob [q] 1 0, nv a, paX l r]) (cpM m S) (fun _ => iv (if (S.W.length : Int) + sizeT (norm t) ≤ m then 0 else 3)) (cpM m S')
def firstK (t : T) (n : Nat) : List T := (t.kids.take n).map norm
def KS (l : List (List Int)) (m : Int) (t : T) : Prop := ∀ (r : Rf) (S : Cp) (a n : Nat), Means l r t → t.kind = 1 ∨ t.kind = 8 → n ≤ t.kids.length → a + n ≤ S.W.length → (S.W.length : Int) ≤ m →
  ∃ S' : Cp, S.W.length ≤ S'.W.length ∧ (S'.W.length : Int) ≤ m ∧ ((S.W.length : Int) + sizeL (firstK t n) ≤ m → S'.W = layL (firstK t n) a S.W) ∧
    SpecF Try.prog 108 (fun q => [.pob [q] 1 0, nv a, paX l r, nv n]) (cpM m S) (fun _ => iv (if (S.W.length : Int) + sizeL (firstK t n) ≤ m then 0 else 3)) (cpM m S')
theorem kid_lay {l : List (List Int)} (hs : Sg l) {r : Rf} {t : T} (hm : Means l r t) (hk : t.kind = 1 ∨ t.kind = 8) {i : Nat} (hi : i < t.kids.length) : t.kids[i].kind ≠ 10 ∧ LayOk (norm t.kids[i]) := by
  obtain ⟨h1, h2⟩ := means_kid hm hi
  have hr := means_kind hm
  have : t.kids[i].kind ≠ 10 := by
    rw [← means_kind h2]
    exact kid_kind (by omega) i
  exact ⟨this, laid_of hs _ _ h2 this⟩
theorem kids_lay {l : List (List Int)} (hs : Sg l) {r : Rf} {t : T} (hm : Means l r t) (hk : t.kind = 1 ∨ t.kind = 8) (n i : Nat) : ∀ u, u ∈ ((t.kids.take n).drop i).map norm → LayOk u := fun u hu => by
  obtain ⟨v, hv, rfl⟩ := List.mem_map.1 hu
  obtain ⟨j, hj, rfl⟩ := List.mem_iff_getElem.1 (List.mem_of_mem_take (List.mem_of_mem_drop hv))
  exact (kid_lay hs hm hk hj).2
theorem sizeL_nonneg {ts : List T} (h : ∀ u, u ∈ ts → LayOk u) : 0 ≤ sizeL ts := by
  have := layL_len h 0 []
  simp at this
  omega
theorem kids_l1 {l : List (List Int)} (hs : Sg l) {m : Int} (hm0 : 0 ≤ m) (hm1 : m ≤ 131072) {r : Rf} {t : T} (hm : Means l r t) (hk : t.kind = 1 ∨ t.kind = 8) {n : Nat} (hn : n ≤ t.kids.length) (ih : ∀ c, c ∈ t.kids → VS l m c) {a : Nat} : ∀ (j i : Nat) (S : Cp), i + j = n → a + n ≤ S.W.length → (S.W.length : Int) ≤ m →
    ∃ S' : Cp, S.W.length ≤ S'.W.length ∧ (S'.W.length : Int) ≤ m ∧ ((S.W.length : Int) + sizeL (((t.kids.take n).drop i).map norm) ≤ m → S'.W = layL (((t.kids.take n).drop i).map norm) (a + i) S.W) ∧
      ∀ {n0 : Nat} {w0 : World} {I0 M0 : Nat → Prop} {m0 : Mu} {Q : Exit → Sta → Prop} (H : Hp), (∀ p, H (0 :: p) = cpF m 0 S p) → H [1] = ⟨1, .cells (paL l r)⟩ →
      ((S.W.length : Int) + sizeL (((t.kids.take n).drop i).map norm) ≤ m → ∀ q H', (∀ p, H' (0 :: p) = cpF m 0 S' p) → Q (.exit 0) ⟨lk [(0, .pob [0] 1 0), (1, nv a), (6, .pob [1] 1 0), (12, nv n), (13, nv n), (14, bv q)], H'⟩) →
      (¬ (S.W.length : Int) + sizeL (((t.kids.take n).drop i).map norm) ≤ m → ∀ H', (∀ p, H' (0 :: p) = cpF m 0 S' p) → Q .ret ⟨lk [(8, iv 3)], H'⟩) →
      LoopC (cxh Try.prog w0 I0 M0 n0 m0) l1_copy_copier_kids Q ⟨lk [(0, .pob [0] 1 0), (1, nv a), (6, .pob [1] 1 0), (12, nv n), (13, nv i)], H⟩ := by
  intro j
  induction j with
  | zero =>
    intro i S hi ha hS
    have : i = n := by omega
    subst this
    have hd : (t.kids.take i).drop i = [] := List.drop_eq_nil_of_le (by simp; omega)
    refine ⟨S, Nat.le_refl _, hS, fun _ => by rw [hd]; simp, fun H hH hA hq _ => ?_⟩
    rw [hd] at hq
    refine loopC_once mixed l1_copy_copier_kids.eq_1 ?_
    simp
    exact hq (by simpa using hS) _ H hH
  | succ j ihj =>
    intro i S hi ha hS
    have hlt : i < n := by omega
    have hlt1 : i < t.kids.length := by omega
    have hdr : (t.kids.take n).drop i = t.kids[i] :: (t.kids.take n).drop (i + 1) := by
      rw [List.drop_eq_getElem_cons (by simp; omega)]
      simp
    have ei : IntKind.i64.wrap ((i : Int) + 1) = ((i + 1 : Nat) : Int) := i64_same (by omega) (by omega)
    have ea : IntKind.i64.wrap ((a : Int) + i) = ((a + i : Nat) : Int) := i64_same (by omega) (by omega)
    obtain ⟨k1, k2⟩ := means_kid hm hlt1
    obtain ⟨c10, clay⟩ := kid_lay hs hm hk hlt1
    obtain ⟨S1, q1, q2, q3, q4⟩ := ih _ (List.getElem_mem hlt1) _ S (a + i) k2 c10 (by omega) hS
    have hrest := sizeL_nonneg (kids_lay hs hm hk n (i + 1))
    rw [hdr]
    simp only [List.map_cons, sizeL_cons, layL_cons]
    by_cases hf : (S.W.length : Int) + sizeT (norm t.kids[i]) ≤ m
    · have hW := q3 hf
      have hlen := (lay_len _).1 clay (a + i) S.W
      rw [← hW] at hlen
      rw [if_pos hf] at q4
      obtain ⟨S2, p1, p2, p3, p4⟩ := ihj (i + 1) S1 (by omega) (by omega) (by omega)
      refine ⟨S2, by omega, p2, fun hh => ?_, fun H hH hA hq hq2 => ?_⟩
      · rw [p3 (by omega), hW, show a + (i + 1) = a + i + 1 from by omega]
      · refine loopC_once mixed l1_copy_copier_kids.eq_1 ?_
        simp [hlt, hA]
        refine sc_call (kid_spec hs (means_ok hm) i) (by simp) ?_
        simp [k1, updF_app, ea]
        refine sc_fam 0 q4 (fun p => by simp [updF_app, hH]) (by simp) (by simp) ?_
        simp [ei]
        exact p4 _ (fun p => by simp) (by simp [updF_app, hA]) (fun hh => hq (by omega)) fun hh => hq2 (by omega)
    · rw [if_neg hf] at q4
      refine ⟨S1, q1, q2, fun hh => by omega, fun H hH hA hq hq2 => ?_⟩
      refine loopC_once mixed l1_copy_copier_kids.eq_1 ?_
      simp [hlt, hA]
      refine sc_call (kid_spec hs (means_ok hm) i) (by simp) ?_
      simp [k1, updF_app, ea]
      refine sc_fam 0 q4 (fun p => by simp [updF_app, hH]) (by simp) (by simp) ?_
      simp
      exact hq2 (by omega) _ (fun p => by simp)
theorem cKids_spec {l : List (List Int)} (hs : Sg l) {m : Int} (hm0 : 0 ≤ m) (hm1 : m ≤ 131072) {t : T} (ih : ∀ c, c ∈ t.kids → VS l m c) : KS l m t := fun r S a n hm hk hn ha hS => by
  obtain ⟨S', q1, q2, q3, q4⟩ := kids_l1 hs hm0 hm1 hm hk hn ih n 0 S (by omega) ha hS
  rw [List.drop_zero] at q3 q4
  change ((S.W.length : Int) + sizeL (firstK t n) ≤ m → S'.W = layL (firstK t n) a S.W) at q3
  have key : ∀ res : Int, ((S.W.length : Int) + sizeL (firstK t n) ≤ m → res = 0) → (¬ (S.W.length : Int) + sizeL (firstK t n) ≤ m → res = 3) → SpecF Try.prog 108 (fun q => [.pob [q] 1 0, nv a, paX l r, nv n]) (cpM m S) (fun _ => iv res) (cpM m S') := fun res r0 r3 => by
    refine specF_of t_copy_copier_kids (by simp) (famL_cons famA_pob (famL_cons famA_v (famL_cons (famL_ref l r) (famL_cons famA_v famL_nil)))) famA_v fun w0 I0 M0 m0 => ?_
    unfold c_copy_copier_kids
    simp
    refine q4 _ (fun p => by simp) (by simp) (fun hf q H' hH => ?_) (fun hf H' hH => ?_)
    · rw [r0 hf]
      simp
      exact reth_fam rfl rfl hH
    · rw [r3 hf]
      exact reth_fam rfl rfl hH
  exact ⟨S', q1, q2, q3, key _ (fun h => if_pos h) (fun h => if_neg h)⟩

/-! ### structs -/
def FS (l : List (List Int)) (m : Int) (t : T) : Prop := ∀ (r : Rf) (S : Cp) (a w : Nat), Means l r t → t.kind = 1 → nW t ≤ w → w ≤ 65536 → a + w + nK t ≤ S.W.length → (S.W.length : Int) ≤ m →
  ∃ S' : Cp, S.W.length ≤ S'.W.length ∧ (S'.W.length : Int) ≤ m ∧ ((S.W.length : Int) + sizeL (norm t).kids ≤ m → S'.W = layL (norm t).kids (a + w) (setW a (norm t).words S.W)) ∧
    SpecF Try.prog 132 (fun q => [.pob [q] 1 0, nv a, nv w, paX l r]) (cpM m S) (fun _ => iv (if (S.W.length : Int) + sizeL (norm t).kids ≤ m then 0 else 3)) (cpM m S')
section
variable {n0 : Nat} {w0 : World} {I0 M0 : Nat → Prop} {m0 : Mu} {Q : Exit → Sta → Prop}
theorem fill_l1 {l : List (List Int)} (hs : Sg l) {m : Int} {r : Rf} {t : T} (hm : Means l r t) {n a : Nat} {w : A} (hn : n ≤ t.words.length) {S : Cp} (ha : a + n ≤ S.W.length) (hS : (S.W.length : Int) ≤ 131072)
    (hq : ∀ q H', (∀ p, H' (0 :: p) = cpF m 0 ⟨S.v, setW a (t.words.take n) S.W⟩ p) → H' [1] = ⟨1, .cells (paL l r)⟩ → Q (.exit 0) ⟨lk [(0, .pob [0] 1 0), (1, nv a), (2, w), (7, .pob [1] 1 0), (15, nv n), (16, nv n), (17, bv q)], H'⟩) :
    ∀ (j i : Nat) (H : Hp), i + j = n → (∀ p, H (0 :: p) = cpF m 0 ⟨S.v, setW a (t.words.take i) S.W⟩ p) → H [1] = ⟨1, .cells (paL l r)⟩ →
    LoopC (cxh Try.prog w0 I0 M0 n0 m0) l1_copy_copier_fill Q ⟨lk [(0, .pob [0] 1 0), (1, nv a), (2, w), (7, .pob [1] 1 0), (15, nv n), (16, nv i)], H⟩ := by
  intro j
  induction j with
  | zero =>
    intro i H hi hH hA
    have : i = n := by omega
    subst this
    refine loopC_once mixed l1_copy_copier_fill.eq_1 ?_
    simp
    exact hq _ H hH hA
  | succ j ihj =>
    intro i H hi hH hA
    have hlt : i < n := by omega
    have hlt1 : i < t.words.length := by omega
    have ei : IntKind.i64.wrap ((i : Int) + 1) = ((i + 1 : Nat) : Int) := i64_same (by omega) (by omega)
    have ea : IntKind.i64.wrap ((a : Int) + i) = ((a + i : Nat) : Int) := i64_same (by omega) (by omega)
    have hw := (means_word hm).2 i hlt1
    have hai : a + i < S.W.length := by omega
    have hai' : ((a : Int) + i) < S.W.length := by omega
    have htk : t.words.take (i + 1) = t.words.take i ++ [t.words[i]] := List.take_succ_eq_append_getElem hlt1
    refine loopC_once mixed l1_copy_copier_fill.eq_1 ?_
    simp [hlt, hA, hH]
    refine sc_call (word_spec' hs (means_ok hm) i) (by simp) ?_
    rw [hw]
    have h00 : (0 : Int) ≤ (a : Int) + i := by omega
    have etn : ((a : Int) + i).toNat = a + i := by omega
    simp [hH, ea, hai, hai', h00, etn, ei, updF_app]
    refine ihj (i + 1) _ (by omega) (fun p => ?_) ?_
    rotate_left
    · simp [updF_app, hA]
    rw [htk, setW_snoc]
    simp only [List.length_take, Nat.min_eq_left (Nat.le_of_lt hlt1)]
    by_cases hp : p = [0]
    · subst hp
      simp [updF_app, List.map_set]
    · by_cases hp0 : p = []
      · subst hp0
        simp [updF_app, hH]
      · simp [updF_app, hp, hH]
        exact cpF_but hp0 hp
end
theorem norm_w_len {l : List (List Int)} {r : Rf} {t : T} (hm : Means l r t) : (norm t).words.length = nW t ∧ (norm t).kids.length = nK t := by
  have h1 := norm_words (means_bare hm)
  have h2 := norm_kids (means_bare hm)
  have := nW_le t
  have := nK_le t
  rw [h1, h2]
  simp
  omega
theorem cFill_spec {l : List (List Int)} (hs : Sg l) {m : Int} (hm0 : 0 ≤ m) (hm1 : m ≤ 131072) {t : T} (ih : ∀ c, c ∈ t.kids → VS l m c) : FS l m t := fun r S a w hm hk hw hw2 ha hS => by
  have hln := means_len hm
  have hnw := nW_le t
  have hnk := nK_le t
  have n1 := norm_words (means_bare hm)
  have n2 := norm_kids (means_bare hm)
  obtain ⟨S', q1, q2, q3, q4⟩ := cKids_spec hs hm0 hm1 ih r ⟨S.v, setW a (t.words.take (nW t)) S.W⟩ (a + w) (nK t) hm (.inl hk) hnk (by simpa using ha) (by simpa using hS)
  simp only [setW_length] at q1 q2 q3 q4
  have n2' : (norm t).kids = firstK t (nK t) := n2
  rw [n2', n1]
  generalize firstK t (nK t) = N at q3 q4
  generalize hres : (if (S.W.length : Int) + sizeL N ≤ m then (0 : Int) else 3) = res at q4
  refine ⟨S', q1, q2, q3, ?_⟩
  have eL : (trimW t.words).length = nW t := by simp [nW, hk]
  have eK : (trimK t.kids).length = nK t := by simp [nK, hk]
  have ew : IntKind.i64.wrap ((a : Int) + w) = ((a + w : Nat) : Int) := i64_same (by omega) (by omega)
  have emin : min (w : Int) (nW t : Int) = nW t := by omega
  refine specF_of t_copy_copier_fill (by simp) (famL_cons famA_pob (famL_cons famA_v (famL_cons famA_v (famL_cons (famL_ref l r) famL_nil)))) famA_v fun w0 I0 M0 m0 => ?_
  unfold c_copy_copier_fill
  have hlong := long_spec hs hm
  have hwide := wide_spec hs hm
  rw [eL] at hlong
  rw [eK] at hwide
  simp
  refine sc_call hlong (by simp) ?_
  simp [emin]
  refine fill_l1 hs (m := m) hm (n := nW t) (a := a) hnw (S := S) (by omega) (by omega) (fun q H' hH hA => ?_) (nW t) 0 _ (by omega) (fun p => by simp [setW]) (by simp)
  simp [hA]
  refine sc_call hwide (by simp) ?_
  simp [hA, ew]
  refine sc_fam 0 q4 hH (by simp) (by simp) ?_
  simp
  exact reth_fam rfl rfl (fun p => by simp)

theorem cStruct_spec {l : List (List Int)} (hs : Sg l) {m : Int} (hm0 : 0 ≤ m) (hm1 : m ≤ 131072) {t : T} (hF : FS l m t) (ih : ∀ c, c ∈ t.kids → VS l m c) {r : Rf} {S : Cp} {a : Nat} (hm : Means l r t) (hk : t.kind = 1) (ha : a < S.W.length) (hS : (S.W.length : Int) ≤ m) :
    ∃ S' : Cp, S.W.length ≤ S'.W.length ∧ (S'.W.length : Int) ≤ m ∧ ((S.W.length : Int) + sizeT (norm t) ≤ m → S'.W = layT (norm t) a S.W) ∧
      SpecF Try.prog 105 (fun q => [.pob [q] 1 0, nv a, paX l r]) (cpM m S) (fun _ => iv (if (S.W.length : Int) + sizeT (norm t) ≤ m then 0 else 3)) (cpM m S') := by
  have hln := means_len hm
  have hnw := nW_le t
  have hnk := nK_le t
  obtain ⟨l1, l2⟩ := norm_w_len hm
  have hlay : ∀ u, u ∈ (norm t).kids → LayOk u := by
    rw [norm_kids (means_bare hm)]
    have := kids_lay hs hm (.inl hk) (nK t) 0
    rwa [List.drop_zero] at this
  have hsz := sizeL_nonneg hlay
  have hnorm : norm t = .mk 1 (norm t).words (norm t).kids := by
    have := T.eta (norm t)
    rwa [norm_kind, hk] at this
  have eT : sizeT (norm t) = nW t + nK t + sizeL (norm t).kids := by
    rw [hnorm, sizeT_mk, if_pos rfl, T.kids_mk, l1, l2]
  have eL : (trimW t.words).length = nW t := by simp [nW, hk]
  have eK : (trimK t.kids).length = nK t := by simp [nK, hk]
  have hk65 : nK t < 65536 := by
    have hn := means_nk hm
    have hkk := means_kind hm
    have hok := means_ok hm
    have : nk r < 65536 := by cases hok <;> simp [Rf.zero, nk] at hkk ⊢ <;> omega
    omega
  have hw65 : nW t < 65536 := by
    have hn := (means_word hm).1
    have hkk := means_kind hm
    have hok := means_ok hm
    have : nwR r < 65536 := by cases hok <;> simp [Rf.zero, nwR] at hkk ⊢ <;> omega
    omega
  have hlong := long_spec hs hm
  have hwide := wide_spec hs hm
  rw [eL] at hlong
  rw [eK] at hwide
  have ew : IntKind.i64.wrap ((nW t : Int) + nK t) = ((nW t + nK t : Nat) : Int) := i64_same (by omega) (by omega)
  have hG := cGive_spec hm0 hm1 S (by omega) (nW t + nK t) (by omega)
  by_cases hg : (S.W.length : Int) + (nW t + nK t : Nat) ≤ m
  · obtain ⟨g1, g2⟩ := giveC_yes hg
    rw [g1, g2] at hG
    have hP := cPoint_spec (m := m) ⟨S.v + 1, S.W ++ List.replicate (nW t + nK t) 0⟩ (a := a) (by simp; omega) (by omega) (to := (S.W.length : Int)) (by omega) (by omega) ⟨1, 0, nW t, nK t, 0, 0, 0, false⟩ (by simp) (by simp; omega) (by simp) (by simp; omega)
    obtain ⟨S', q1, q2, q3, q4⟩ := hF r ⟨S.v + 1, (S.W ++ List.replicate (nW t + nK t) 0).set a (encW (ptQ ⟨1, 0, nW t, nK t, 0, 0, 0, false⟩ a S.W.length))⟩ S.W.length (nW t) hm hk (Nat.le_refl _) (by omega) (by simp; omega) (by simp; omega)
    simp only [List.length_set, List.length_append, List.length_replicate] at q1 q2 q3 q4
    refine ⟨S', by omega, q2, fun hh => ?_, ?_⟩
    · rw [q3 (by omega), enc_str (by omega) (by omega) (by omega) (by omega) (by omega) (by omega) (by omega) (by omega)]
      have hset : ∀ P : Int, (S.W ++ List.replicate (nW t + nK t) 0).set a P = S.W.set a P ++ List.replicate (nW t + nK t) 0 := fun P => by rw [List.set_append_left _ _ ha]
      rw [hset]
      have hsw := setW_app (norm t).words (S.W.set a (ptrZ a (if (nW t : Int) + nK t = 0 then (a : Int) else S.W.length) 0 (nW t + 65536 * nK t))) (List.replicate (nW t + nK t) 0) (by simp; omega)
      rw [List.length_set] at hsw
      rw [hsw]
      conv => rhs; rw [hnorm, layT_mk, if_neg (by decide), if_pos rfl]
      rw [l1, l2]
      have hz : ((nW t : Int) + nK t = 0) = (nW t + nK t = 0) := by
        rw [eq_iff_iff]
        omega
      simp only [hz]
      have hdrop : List.drop (nW t) (List.replicate (nW t + nK t) (0 : Int)) = List.replicate (nK t) 0 := by simp
      rw [hdrop]
    · generalize hres : (if (S.W.length : Int) + sizeT (norm t) ≤ m then (0 : Int) else 3) = res
      have hres' : (if ((S.W.length + (nW t + nK t) : Nat) : Int) + sizeL (norm t).kids ≤ m then (0 : Int) else 3) = res := by
        rw [← hres]
        by_cases h : (S.W.length : Int) + sizeT (norm t) ≤ m
        · rw [if_pos h, if_pos (by omega)]
        · rw [if_neg h, if_neg (by omega)]
      rw [hres'] at q4
      refine specF_of t_copy_copier_structure (by simp) (famL_cons famA_pob (famL_cons famA_v (famL_cons (famL_ref l r) famL_nil))) famA_v fun w0 I0 M0 m0 => ?_
      unfold c_copy_copier_structure
      simp
      refine sc_call hlong (by simp) ?_
      simp
      refine sc_call hwide (by simp) ?_
      simp [ew]
      refine sc_fam 0 hG (fun p => by simp) (by simp) (by simp) ?_
      simp
      refine sc_fam 0 hP (fun p => by simp) (by simp) (by simp) ?_
      simp
      refine sc_fam 0 q4 (fun p => by simp) (by simp) (by simp) ?_
      simp
      exact reth_fam rfl rfl fun p => by simp
  · obtain ⟨g1, g2⟩ := giveC_no hg
    rw [g1, g2] at hG
    have hnf : ¬ (S.W.length : Int) + sizeT (norm t) ≤ m := by omega
    refine ⟨S, Nat.le_refl _, hS, fun hh => absurd hh hnf, ?_⟩
    rw [if_neg hnf]
    refine specF_of t_copy_copier_structure (by simp) (famL_cons famA_pob (famL_cons famA_v (famL_cons (famL_ref l r) famL_nil))) famA_v fun w0 I0 M0 m0 => ?_
    unfold c_copy_copier_structure
    simp
    refine sc_call hlong (by simp) ?_
    simp
    refine sc_call hwide (by simp) ?_
    simp [ew]
    refine sc_fam 0 hG (fun p => by simp) (by simp) (by simp) ?_
    simp
    exact reth_fam rfl rfl fun p => by simp
end Go.Proofs.Ytigdcnlhgelkaaa

/-
  Chapter 14: lists are laid; values.
-/
namespace Go.Proofs.Ytigdcnlhgelkaaa
set_option linter.unusedVariables false
set_option linter.unusedSimpArgs false
open Go Go.G Go.Proofs Go.PL

theorem frameW_snoc : ∀ (l : List T) (x : T), frameW (l ++ [x]) = max (frameW l) x.words.length
  | [], x => by simp [frameW]
  | y :: l, x => by simp only [List.cons_append, frameW, frameW_snoc l]; omega
theorem frameK_snoc : ∀ (l : List T) (x : T), frameK (l ++ [x]) = max (frameK l) x.kids.length
  | [], x => by simp [frameK]
  | y :: l, x => by simp only [List.cons_append, frameK, frameK_snoc l]; omega
theorem frame_bound {ts : List T} {w k : Nat} (h : ∀ t, t ∈ ts → t.words.length ≤ w ∧ t.kids.length ≤ k) : frameW ts ≤ w ∧ frameK ts ≤ k := by
  induction ts with
  | nil => simp [frameW, frameK]
  | cons t ts ih =>
    have h1 := h t (by simp)
    have h2 := ih fun u hu => h u (by simp [hu])
    simp only [frameW, frameK]
    omega
section
variable {n0 : Nat} {w0 : World} {I0 : Nat → Prop} {Q : Exit → Sta → Prop}
theorem cframe_l1 {l : List (List Int)} (hs : Sg l) {r : Rf} {t : T} (hm : Means l r t) (hk : t.kind = 9) (hq : ∀ q H', Q (.exit 0) ⟨lk [(1, .pob [0] 1 0), (5, nv (frameW (t.kids.map norm))), (6, nv (frameK (t.kids.map norm))), (12, nv t.kids.length), (13, nv t.kids.length), (14, bv q)], H'⟩) :
    ∀ (j i : Nat) (H : Hp), i + j = t.kids.length → H [0] = ⟨1, .cells (paL l r)⟩ →
    LoopC (cx Try.prog w0 I0 n0) l1_copy_frame Q ⟨lk [(1, .pob [0] 1 0), (5, nv (frameW ((t.kids.take i).map norm))), (6, nv (frameK ((t.kids.take i).map norm))), (12, nv t.kids.length), (13, nv i)], H⟩ := by
  have hln := means_len hm
  intro j
  induction j with
  | zero =>
    intro i H hi hA
    have : i = t.kids.length := by omega
    subst this
    rw [List.take_of_length_le (Nat.le_refl _)]
    refine loopC_once mixed l1_copy_frame.eq_1 ?_
    simp
    exact hq _ H
  | succ j ihj =>
    intro i H hi hA
    have hlt : i < t.kids.length := by omega
    have ei : IntKind.i64.wrap ((i : Int) + 1) = ((i + 1 : Nat) : Int) := i64_same (by omega) (by omega)
    obtain ⟨k1, k2⟩ := means_kid hm hlt
    have hkk := means_kind k2
    have hr := means_kind hm
    have hnk := means_nk hm
    rw [kid_comp (by omega) (by omega) (by omega)] at hkk
    obtain ⟨l1, l2⟩ := norm_w_len k2
    have hlong := long_spec hs k2
    have hwide := wide_spec hs k2
    have eL : (trimW t.kids[i].words).length = (norm t.kids[i]).words.length := by rw [l1]; simp [nW, ← hkk]
    have eK : (trimK t.kids[i].kids).length = (norm t.kids[i]).kids.length := by rw [l2]; simp [nK, ← hkk]
    rw [eL] at hlong
    rw [eK] at hwide
    have htk : (t.kids.take (i + 1)).map norm = (t.kids.take i).map norm ++ [norm t.kids[i]] := by rw [List.take_succ_eq_append_getElem hlt, List.map_append]; rfl
    have ihn := ihj (i + 1)
    rw [htk, frameW_snoc, frameK_snoc] at ihn
    generalize frameW ((t.kids.take i).map norm) = fw at ihn ⊢
    generalize frameK ((t.kids.take i).map norm) = fk at ihn ⊢
    obtain ⟨x1, hx1⟩ : ∃ x : Nat, max fw (norm t.kids[i]).words.length = x := ⟨_, rfl⟩
    obtain ⟨x2, hx2⟩ : ∃ x : Nat, max fk (norm t.kids[i]).kids.length = x := ⟨_, rfl⟩
    rw [hx1, hx2] at ihn
    have m1 : max (fw : Int) ((norm t.kids[i]).words.length : Int) = (x1 : Int) := by omega
    have m2 : max (fk : Int) ((norm t.kids[i]).kids.length : Int) = (x2 : Int) := by omega
    refine loopC_once mixed l1_copy_frame.eq_1 ?_
    simp [hlt, hA]
    refine sc_call (kid_spec hs (means_ok hm) i) (by simp) ?_
    simp [k1, updF_app]
    refine sc_call hwide (by simp) ?_
    simp [updF_app]
    refine sc_call hlong (by simp) ?_
    simp [ei, m1, m2]
    refine ihn _ (by omega) ?_
    simp [updF_app, hA]
end
theorem cFrame_spec {l : List (List Int)} (hs : Sg l) {r : Rf} {t : T} (hm : Means l r t) (hk : t.kind = 9) : G.Spec Try.prog 133 [paX l r] (.tup [nv (frameW (t.kids.map norm)), nv (frameK (t.kids.map norm)), iv 0]) := by
  refine spec_of t_copy_frame (by simp) fun w0 I0 => ?_
  unfold c_copy_frame
  simp
  refine sc_call (refKids_spec' l r) (by simp) ?_
  rw [means_nk hm]
  simp
  refine cframe_l1 hs hm hk (fun q H' => ?_) t.kids.length 0 _ (by omega) (by simp)
  simp
  exact frz_bare rfl
theorem comp_kid {l : List (List Int)} (hs : Sg l) {r : Rf} {t : T} (hm : Means l r t) (hk : t.kind = 9) {i : Nat} (hi : i < t.kids.length) : t.kids[i].kind = 1 ∧ (∀ u, u ∈ (norm t.kids[i]).kids → LayOk u) := by
  obtain ⟨h1, h2⟩ := means_kid hm hi
  have hr := means_kind hm
  have hnk := means_nk hm
  have hkk := means_kind h2
  rw [kid_comp (by omega) (by omega) (by omega)] at hkk
  refine ⟨hkk.symm, ?_⟩
  rw [norm_kids (means_bare h2)]
  have := kids_lay hs h2 (.inl hkk.symm) (nK t.kids[i]) 0
  rwa [List.drop_zero] at this
theorem sizeLL_nonneg {ts : List T} (h : ∀ t, t ∈ ts → ∀ u, u ∈ t.kids → LayOk u) : 0 ≤ sizeLL ts := by
  induction ts with
  | nil => simp
  | cons t ts ih =>
    rw [sizeLL_cons]
    have := sizeL_nonneg (h t (by simp))
    have := ih fun u hu => h u (by simp [hu])
    omega
theorem comp_l1 {l : List (List Int)} (hs : Sg l) {m : Int} (hm0 : 0 ≤ m) (hm1 : m ≤ 131072) {r : Rf} {t : T} (hm : Means l r t) (hk : t.kind = 9) (ih : ∀ c, c ∈ t.kids → FS l m c) {w long to : Nat} (hw : ∀ c, c ∈ t.kids → nW c ≤ w ∧ w + nK c ≤ long) (hw2 : w ≤ 65536) : ∀ (j i : Nat) (S : Cp), i + j = t.kids.length → to + 1 + t.kids.length * long ≤ S.W.length → (S.W.length : Int) ≤ m →
    ∃ S' : Cp, S.W.length ≤ S'.W.length ∧ (S'.W.length : Int) ≤ m ∧ ((S.W.length : Int) + sizeLL ((t.kids.drop i).map norm) ≤ m → S'.W = cpC w long ((t.kids.drop i).map norm) (to + 1 + i * long) S.W) ∧
      ∀ {n0 : Nat} {w0 : World} {I0 M0 : Nat → Prop} {m0 : Mu} {Q : Exit → Sta → Prop} (H : Hp), (∀ p, H (0 :: p) = cpF m 0 S p) → H [1] = ⟨1, .cells (paL l r)⟩ →
      ((S.W.length : Int) + sizeLL ((t.kids.drop i).map norm) ≤ m → ∀ q H', (∀ p, H' (0 :: p) = cpF m 0 S' p) → Q (.exit 0) ⟨lk [(0, .pob [0] 1 0), (5, .pob [1] 1 0), (7, nv w), (10, nv long), (11, nv to), (65, nv t.kids.length), (66, nv t.kids.length), (67, bv q)], H'⟩) →
      (¬ (S.W.length : Int) + sizeLL ((t.kids.drop i).map norm) ≤ m → ∀ H', (∀ p, H' (0 :: p) = cpF m 0 S' p) → Q .ret ⟨lk [(6, iv 3)], H'⟩) →
      LoopC (cxh Try.prog w0 I0 M0 n0 m0) l1_copy_copier_composite Q ⟨lk [(0, .pob [0] 1 0), (5, .pob [1] 1 0), (7, nv w), (10, nv long), (11, nv to), (65, nv t.kids.length), (66, nv i)], H⟩ := by
  have hln := means_len hm
  intro j
  induction j with
  | zero =>
    intro i S hi ha hS
    have : i = t.kids.length := by omega
    subst this
    have hd : t.kids.drop t.kids.length = [] := List.drop_eq_nil_of_le (Nat.le_refl _)
    refine ⟨S, Nat.le_refl _, hS, fun _ => by rw [hd]; simp [cpC], fun H hH hA hq _ => ?_⟩
    rw [hd] at hq
    refine loopC_once mixed l1_copy_copier_composite.eq_1 ?_
    simp
    exact hq (by simpa using hS) _ H hH
  | succ j ihj =>
    intro i S hi ha hS
    have hlt : i < t.kids.length := by omega
    have hdr : t.kids.drop i = t.kids[i] :: t.kids.drop (i + 1) := List.drop_eq_getElem_cons hlt
    have hil : (i + 1) * long ≤ t.kids.length * long := Nat.mul_le_mul_right _ (by omega)
    rw [Nat.add_mul, Nat.one_mul] at hil
    have ei : IntKind.i64.wrap ((i : Int) + 1) = ((i + 1 : Nat) : Int) := i64_same (by omega) (by omega)
    have em : IntKind.i64.wrap ((i : Int) * long) = ((i * long : Nat) : Int) := by
      rw [Int.natCast_mul]
      have : (i : Int) * long = ((i * long : Nat) : Int) := by rw [Int.natCast_mul]
      exact i64_same (by omega) (by omega)
    have et : IntKind.i64.wrap ((to : Int) + 1) = ((to + 1 : Nat) : Int) := i64_same (by omega) (by omega)
    have ea : IntKind.i64.wrap ((to : Int) + 1 + (i : Int) * long) = (to : Int) + 1 + (i : Int) * long := by
      have : (i : Int) * long = ((i * long : Nat) : Int) := by rw [Int.natCast_mul]
      exact i64_same (by omega) (by omega)
    obtain ⟨k1, k2⟩ := means_kid hm hlt
    obtain ⟨c1, clay⟩ := comp_kid hs hm hk hlt
    obtain ⟨w1, w2⟩ := hw _ (List.getElem_mem hlt)
    obtain ⟨S1, q1, q2, q3, q4⟩ := ih _ (List.getElem_mem hlt) _ S (to + 1 + i * long) w k2 c1 w1 hw2 (by omega) hS
    have hrest : 0 ≤ sizeLL ((t.kids.drop (i + 1)).map norm) := sizeLL_nonneg fun u hu => by
      obtain ⟨v, hv, rfl⟩ := List.mem_map.1 hu
      obtain ⟨x, hx, rfl⟩ := List.mem_iff_getElem.1 (List.mem_of_mem_drop hv)
      exact (comp_kid hs hm hk hx).2
    rw [hdr]
    simp only [List.map_cons, sizeLL_cons, cpC]
    by_cases hf : (S.W.length : Int) + sizeL (norm t.kids[i]).kids ≤ m
    · have hW := q3 hf
      have hlen := layL_len clay (to + 1 + i * long + w) (setW (to + 1 + i * long) (norm t.kids[i]).words S.W)
      rw [← hW, setW_length] at hlen
      rw [if_pos hf] at q4
      obtain ⟨S2, p1, p2, p3, p4⟩ := ihj (i + 1) S1 (by omega) (by omega) (by omega)
      refine ⟨S2, by omega, p2, fun hh => ?_, fun H hH hA hq hq2 => ?_⟩
      · rw [p3 (by omega), hW, show to + 1 + (i + 1) * long = to + 1 + i * long + long from by rw [Nat.add_mul, Nat.one_mul]; omega]
      · refine loopC_once mixed l1_copy_copier_composite.eq_1 ?_
        simp [hlt, hA]
        refine sc_call (kid_spec hs (means_ok hm) i) (by simp) ?_
        simp [k1, updF_app, em, et, ea]
        refine sc_fam 0 q4 (fun p => by simp [updF_app, hH]) (by simp) (by simp) ?_
        simp [ei]
        exact p4 _ (fun p => by simp) (by simp [updF_app, hA]) (fun hh => hq (by omega)) fun hh => hq2 (by omega)
    · rw [if_neg hf] at q4
      refine ⟨S1, q1, q2, fun hh => by omega, fun H hH hA hq hq2 => ?_⟩
      refine loopC_once mixed l1_copy_copier_composite.eq_1 ?_
      simp [hlt, hA]
      refine sc_call (kid_spec hs (means_ok hm) i) (by simp) ?_
      simp [k1, updF_app, em, et, ea]
      refine sc_fam 0 q4 (fun p => by simp [updF_app, hH]) (by simp) (by simp) ?_
      simp
      exact hq2 (by omega) _ (fun p => by simp)
theorem cComp_spec {l : List (List Int)} (hs : Sg l) {m : Int} (hm0 : 0 ≤ m) (hm1 : m ≤ 131072) {t : T} (ih : ∀ c, c ∈ t.kids → FS l m c) {r : Rf} {S : Cp} {a : Nat} (hm : Means l r t) (hk : t.kind = 9) (ha : a < S.W.length) (hS : (S.W.length : Int) ≤ m) :
    ∃ S' : Cp, S.W.length ≤ S'.W.length ∧ (S'.W.length : Int) ≤ m ∧ ((S.W.length : Int) + sizeT (norm t) ≤ m → S'.W = layT (norm t) a S.W) ∧
      SpecF Try.prog 106 (fun q => [.pob [q] 1 0, nv a, paX l r]) (cpM m S) (fun _ => iv (if (S.W.length : Int) + sizeT (norm t) ≤ m then 0 else 3)) (cpM m S') := by
  have hln := means_len hm
  have hkr := means_kind hm
  have hnk := means_nk hm
  have hwd := (means_word hm).1
  have hw0 : t.words = [] := List.eq_nil_of_length_eq_zero (by have : nwR r = 0 := by simp [nwR, hkr, hk]
                                                               omega)
  have hnorm : norm t = .mk 9 [] (t.kids.map norm) := by
    rw [T.eta t, norm_mk]
    simp [hk, hw0]
  have hbound := frame_bound (ts := t.kids.map norm) (w := 65535) (k := 65535) fun u hu => by
    obtain ⟨v, hv, rfl⟩ := List.mem_map.1 hu
    obtain ⟨i, hi, rfl⟩ := List.mem_iff_getElem.1 hv
    obtain ⟨c1, _⟩ := comp_kid hs hm hk hi
    have k2 := (means_kid hm hi).2
    obtain ⟨l1, l2⟩ := norm_w_len k2
    have := nW_le t.kids[i]
    have := nK_le t.kids[i]
    have hn := means_nk k2
    have hw := (means_word k2).1
    have hkk := means_kind k2
    have hok := means_ok k2
    have : nk (kidP l r i).1 < 65536 ∧ nwR (kidP l r i).1 < 65536 := by
      generalize (kidP l r i).1 = x at hkk hok
      cases hok <;> simp [Rf.zero, nk, nwR] at hkk ⊢ <;> omega
    omega
  have hcond : ∀ c, c ∈ t.kids → nW c ≤ frameW (t.kids.map norm) ∧ frameW (t.kids.map norm) + nK c ≤ frameW (t.kids.map norm) + frameK (t.kids.map norm) := fun c hc => by
    obtain ⟨i, hi, rfl⟩ := List.mem_iff_getElem.1 hc
    obtain ⟨l1, l2⟩ := norm_w_len (means_kid hm hi).2
    have h1 := frameW_le (ts := t.kids.map norm) (List.mem_map.2 ⟨_, hc, rfl⟩)
    have h2 := frameK_le (ts := t.kids.map norm) (List.mem_map.2 ⟨_, hc, rfl⟩)
    omega
  have hcond2 : ∀ c, c ∈ t.kids.map norm → c.words.length ≤ frameW (t.kids.map norm) ∧ c.kids.length ≤ frameK (t.kids.map norm) := fun c hc => ⟨frameW_le hc, frameK_le hc⟩
  have hLL : 0 ≤ sizeLL (t.kids.map norm) := sizeLL_nonneg fun u hu => by
    obtain ⟨v, hv, rfl⟩ := List.mem_map.1 hu
    obtain ⟨x, hx, rfl⟩ := List.mem_iff_getElem.1 hv
    exact (comp_kid hs hm hk hx).2
  have hfr := cFrame_spec hs hm hk
  have eT : sizeT (norm t) = 1 + t.kids.length * ((frameW (t.kids.map norm) : Int) + frameK (t.kids.map norm)) + sizeLL (t.kids.map norm) := by
    rw [hnorm, sizeT_mk]
    simp
  have hlay : ∀ W, layT (norm t) a W = layC (frameW (t.kids.map norm)) (frameK (t.kids.map norm)) (t.kids.map norm) (W.length + 1) (W.set a (ptrZ a W.length 1 (7 + 8 * (t.kids.length * (frameW (t.kids.map norm) + frameK (t.kids.map norm)) : Nat))) ++ [4 * (t.kids.length : Int) + 4294967296 * ((frameW (t.kids.map norm) : Int) + 65536 * frameK (t.kids.map norm))] ++ rowsC (frameW (t.kids.map norm)) (frameK (t.kids.map norm)) (t.kids.map norm)) := fun W => by
    rw [hnorm, layT_mk, if_neg (by decide), if_neg (by decide), if_neg (by decide), if_pos rfl]
    simp
  have hl1 := comp_l1 hs hm0 hm1 hm hk ih (w := frameW (t.kids.map norm)) (long := frameW (t.kids.map norm) + frameK (t.kids.map norm)) (to := S.W.length) hcond (by omega) t.kids.length 0
  have hc2 := cpC_eq (w := frameW (t.kids.map norm)) (k := frameK (t.kids.map norm)) (t.kids.map norm)
  have hf2 := fillC_app (w := frameW (t.kids.map norm)) (k := frameK (t.kids.map norm)) (t.kids.map norm)
  rw [eT]
  simp only [hlay]
  clear hlay eT hcond hnorm
  generalize frameW (t.kids.map norm) = w at *
  generalize frameK (t.kids.map norm) = k at *
  have hnl : t.kids.length * (w + k) ≤ 536870912 * 131070 := Nat.mul_le_mul (by omega) (by omega)
  have hcast : (t.kids.length : Int) * ((w : Int) + k) = ((t.kids.length * (w + k) : Nat) : Int) := by rw [Int.natCast_mul, Int.natCast_add]
  rw [hcast]
  generalize hL : t.kids.length * (w + k) = L at *
  have e1 : IntKind.i64.wrap ((w : Int) + k) = (w : Int) + k := i64_same (by omega) (by omega)
  have e2 : IntKind.i64.wrap ((t.kids.length : Int) * ((w : Int) + k)) = (L : Int) := by rw [hcast]; exact i64_same (by omega) (by omega)
  have e3 : IntKind.i64.wrap (1 + (L : Int)) = ((1 + L : Nat) : Int) := (i64_same (by omega) (by omega)).trans (by omega)
  have hG := cGive_spec hm0 hm1 S (by omega) (1 + L) (by omega)
  by_cases hg : (S.W.length : Int) + (1 + L : Nat) ≤ m
  · obtain ⟨g1, g2⟩ := giveC_yes hg
    rw [g1, g2] at hG
    have hE := Encode_spec ⟨1, t.kids.length, w, k, 0, 0, 0, false⟩
    have htag : encW ⟨1, t.kids.length, w, k, 0, 0, 0, false⟩ = 4 * (t.kids.length : Int) + 4294967296 * ((w : Int) + 65536 * k) := by
      unfold encW
      simp only
      rw [if_pos trivial, if_pos (by omega)]
      omega
    rw [htag] at hE
    have hP := cPoint_spec (m := m) ⟨S.v + 1, (S.W ++ List.replicate (1 + L) 0).set S.W.length (4 * (t.kids.length : Int) + 4294967296 * ((w : Int) + 65536 * k))⟩ (a := a) (by simp; omega) (by omega) (to := (S.W.length : Int)) (by omega) (by omega) ⟨2, 0, 0, 0, 7, L, 0, false⟩ (by simp) (by simp) (by simp) (by simp)
    rw [enc_list (by omega) (by omega) (by omega) (by omega) (by omega) (by omega) (by omega) (by omega)] at hP
    have hW3 : ((S.W ++ List.replicate (1 + L) 0).set S.W.length (4 * (t.kids.length : Int) + 4294967296 * ((w : Int) + 65536 * k))).set a (ptrZ a S.W.length 1 (7 + 8 * (L : Int))) = (S.W.set a (ptrZ a S.W.length 1 (7 + 8 * (L : Int))) ++ [4 * (t.kids.length : Int) + 4294967296 * ((w : Int) + 65536 * k)]) ++ List.replicate L 0 := by
      rw [List.set_append_right _ _ (Nat.le_refl _), Nat.sub_self, Nat.add_comm 1 L, List.replicate_succ, List.set_cons_zero, List.set_append_left _ _ ha]
      simp
    simp only at hP
    rw [hW3] at hP
    obtain ⟨S', q1, q2, q3, q4⟩ := hl1 ⟨S.v + 1, (S.W.set a (ptrZ a S.W.length 1 (7 + 8 * (L : Int))) ++ [4 * (t.kids.length : Int) + 4294967296 * ((w : Int) + 65536 * k)]) ++ List.replicate L 0⟩ (by omega) (by simp; omega) (by simp; omega)
    simp only [List.length_append, List.length_set, List.length_replicate, List.length_singleton, List.drop_zero, Nat.zero_mul, Nat.add_zero] at q1 q2 q3 q4
    refine ⟨S', by omega, q2, fun hh => ?_, ?_⟩
    · rw [q3 (by omega), hc2 _ _ hcond2 (by simp [hL]; omega)]
      have := hf2 (S.W.set a (ptrZ a S.W.length 1 (7 + 8 * (L : Int))) ++ [4 * (t.kids.length : Int) + 4294967296 * ((w : Int) + 65536 * k)]) (fun u hu => by have := (hcond2 u hu).1; omega)
      simp only [List.length_append, List.length_set, List.length_singleton, List.length_map, hL] at this
      rw [this]
    · have key : ∀ res : Int, ((S.W.length : Int) + (1 + (L : Int) + sizeLL (t.kids.map norm)) ≤ m → res = 0) → (¬ (S.W.length : Int) + (1 + (L : Int) + sizeLL (t.kids.map norm)) ≤ m → res = 3) → SpecF Try.prog 106 (fun q => [.pob [q] 1 0, nv a, paX l r]) (cpM m S) (fun _ => iv res) (cpM m S') := fun res r0 r3 => by
        refine specF_of t_copy_copier_composite (by simp) (famL_cons famA_pob (famL_cons famA_v (famL_cons (famL_ref l r) famL_nil))) famA_v fun w0 I0 M0 m0 => ?_
        unfold c_copy_copier_composite
        simp
        refine sc_call hfr (by simp) ?_
        simp [e1]
        refine sc_call (refKids_spec' l r) (by simp) ?_
        rw [hnk]
        simp [e2, e3]
        refine sc_fam 0 hG (fun p => by simp) (by simp) (by simp) ?_
        simp
        refine sc_call (refKids_spec' l r) (by simp) ?_
        rw [hnk]
        simp
        refine sc_call hE (by simp) ?_
        have hlt1 : (S.W.length : Int) < S.W.length + (1 + (L : Int)) := by omega
        have hget : (List.map uv S.W ++ List.replicate (1 + L) (uv 0))[S.W.length]? = some (uv 0) := by
          rw [List.getElem?_append_right (by simp), Nat.add_comm 1 L, List.replicate_succ]
          simp
        simp [updF_app, hlt1, hget]
        refine sc_call (refKids_spec' l r) (by simp) ?_
        rw [hnk]
        simp [e2]
        refine sc_fam 0 hP (fun p => ?_) (by simp) (by simp) ?_
        · simp only [ov_cons, if_true, cpM_F]
          refine updF_is ?_ (fun h1 => ?_)
          · simp [List.map_set]
          · by_cases h0 : p = []
            · subst h0; simp
            · exact cpF_but h0 h1
        simp
        refine sc_call (refKids_spec' l r) (by simp) ?_
        rw [hnk]
        simp
        refine q4 _ (fun p => by simp) (by simp) (fun hf q H' hH => ?_) (fun hf H' hH => ?_)
        · rw [r0 (by omega)]
          simp
          exact reth_fam rfl rfl hH
        · rw [r3 (by omega)]
          exact reth_fam rfl rfl hH
      exact key _ (fun h => if_pos h) (fun h => if_neg h)
  · obtain ⟨g1, g2⟩ := giveC_no hg
    rw [g1, g2] at hG
    have hnf : ¬ (S.W.length : Int) + (1 + (L : Int) + sizeLL (t.kids.map norm)) ≤ m := by omega
    refine ⟨S, Nat.le_refl _, hS, fun hh => absurd hh hnf, ?_⟩
    rw [if_neg hnf]
    refine specF_of t_copy_copier_composite (by simp) (famL_cons famA_pob (famL_cons famA_v (famL_cons (famL_ref l r) famL_nil))) famA_v fun w0 I0 M0 m0 => ?_
    unfold c_copy_copier_composite
    simp
    refine sc_call hfr (by simp) ?_
    simp [e1]
    refine sc_call (refKids_spec' l r) (by simp) ?_
    rw [hnk]
    simp [e2, e3]
    refine sc_fam 0 hG (fun p => by simp) (by simp) (by simp) ?_
    simp
    exact reth_fam rfl rfl fun p => by simp

end Go.Proofs.Ytigdcnlhgelkaaa

/-
  Chapters 10 and 14, plain: what means something within limits takes no more words than it weighs.
-/
namespace Go.Proofs.Ytigdcnlhgelkaaa
set_option linter.unusedVariables false
set_option linter.unusedSimpArgs false
open Go Go.G Go.Proofs Go.PL

def sgT (g : T → Int) : List T → Int
  | [] => 0
  | t :: l => g t + sgT g l
theorem sgT_size : ∀ l : List T, sgT (fun t => sizeT (norm t)) l = sizeL (l.map norm)
  | [] => by simp [sgT]
  | t :: l => by simp [sgT, sgT_size l]
theorem sgT_kids : ∀ l : List T, sgT (fun t => sizeL (norm t).kids) l = sizeLL (l.map norm)
  | [] => by simp [sgT]
  | t :: l => by simp [sgT, sgT_kids l]
theorem loopM_sum {f : Nat → Int → T × Int × Int} {B : Int} {g : T → Int} (hf : ∀ (i : Nat) lf, 0 ≤ lf → lf ≤ B → 0 ≤ (f i lf).2.1 ∧ (f i lf).2.1 ≤ B) : ∀ {m i : Nat} {acc : List T} {left : Int}, (∀ (j : Nat) lf, j < i + m → 0 ≤ lf → lf ≤ B → (f j lf).2.2 = 0 → g (f j lf).1 + (f j lf).2.1 ≤ lf) → 0 ≤ left → left ≤ B → (loopM f m i acc left).2.2 = 0 →
    ∃ ks : List T, (loopM f m i acc left).1 = acc ++ ks ∧ sgT g ks + (loopM f m i acc left).2.1 ≤ left
  | 0, i, acc, left, _, _, _, h => ⟨[], by simp [loopM], by simp [loopM, sgT]⟩
  | m + 1, i, acc, left, hg, l0, l1, h => by
    rw [loopM] at h ⊢
    by_cases h0 : (f i left).2.2 ≠ 0
    · rw [if_pos h0] at h; exact absurd h h0
    · rw [if_neg h0] at h ⊢
      obtain ⟨b0, b1⟩ := hf i left l0 l1
      have h1 := hg i left (by omega) l0 l1 (by simpa using h0)
      obtain ⟨ks, e1, e2⟩ := loopM_sum (g := g) hf (fun j lf hj => hg j lf (by omega)) b0 b1 h
      refine ⟨(f i left).1 :: ks, by rw [e1]; simp, ?_⟩
      simp only [sgT]
      omega
/-- It weighs as many words at least. -/
def SZ (l : List (List Int)) (rec : Rf → Int → T × Int × Int) : Prop := ∀ x left, RfOk l x → x.kind ≠ 10 → 0 ≤ left → left ≤ 65536 → (rec x left).2.2 = 0 → sizeT (norm (rec x left).1) + (rec x left).2.1 ≤ left
theorem stepM_at {l : List (List Int)} {rec : Rf → Int → T × Int × Int} {r : Rf} {i : Nat} {lf : Int} (h : (stepM l rec r i lf).2.2 = 0) : stepM l rec r i lf = rec (kidP l r i).1 lf := by
  unfold stepM at h ⊢
  by_cases h0 : (kidP l r i).2 ≠ 0
  · rw [if_pos h0] at h; exact absurd h h0
  · rw [if_neg h0]
theorem sizeL_take {ts : List T} (h : ∀ u, u ∈ ts → LayOk u) (n : Nat) : sizeL (ts.take n) ≤ sizeL ts := by
  have e : sizeL ts = sizeL (ts.take n) + sizeL (ts.drop n) := by rw [← sizeL_append, List.take_append_drop]
  have := sizeL_nonneg (ts := ts.drop n) fun u hu => h u (List.mem_of_mem_drop hu)
  omega
theorem means_kidsL {l : List (List Int)} (hs : Sg l) {r : Rf} {t : T} (hm : Means l r t) (hk : t.kind = 1 ∨ t.kind = 8) : ∀ u, u ∈ t.kids.map norm → LayOk u := by
  have := kids_lay hs hm hk t.kids.length 0
  simpa using this
theorem kidsM_size {l : List (List Int)} (hs : Sg l) {s a d k : Int} (hr : RfOk l ⟨1, s, a, d, k, 0, 0⟩) {rec2 : Rf → Int → T × Int × Int} (b2 : LB l 65536 rec2) (h2 : SZ l rec2) (hM : ∀ x left, RfOk l x → (rec2 x left).2.2 = 0 → Means l x (rec2 x left).1) {lf : Int} (q0 : 0 ≤ lf) (q1 : lf ≤ 65536) (h : (kidsM l rec2 ⟨1, s, a, d, k, 0, 0⟩ lf).2.2 = 0) :
    sizeL (norm (kidsM l rec2 ⟨1, s, a, d, k, 0, 0⟩ lf).1).kids + (kidsM l rec2 ⟨1, s, a, d, k, 0, 0⟩ lf).2.1 ≤ lf := by
  have hw := hs.w
  unfold kidsM at h ⊢
  have hm := loop_means hw hr (k := 1) (fun j lf' hj hq' => hM _ _ (kid_ok hw hr _) hq') rfl h
  obtain ⟨ks, e1, e2⟩ := loopM_sum (B := 65536) (g := fun t => sizeT (norm t)) (fun i lf => stepM_lb hw b2 hr i lf) (fun j lf' hj p0 p1 hq => by
    have hst := stepM_at hq; rw [hst] at hq ⊢
    exact h2 _ _ (kid_ok hw hr j) (kid_kind (.inl rfl) j) p0 p1 hq) q0 q1 h
  change Means l _ (.mk 1 _ (loopM (stepM l rec2 _) k.toNat 0 [] lf).1) at hm
  simp only at e1 e2 ⊢
  rw [e1] at hm ⊢
  simp only [List.nil_append] at hm ⊢
  have hk := means_kidsL hs hm (.inl rfl)
  simp only [T.kids_mk] at hk
  rw [norm_struct rfl, T.kids_mk, T.kids_mk, trimK_take]
  have := sizeL_take hk (trimK (ks.map norm)).length
  rw [sgT_size] at e2
  omega
theorem rest_size {l : List (List Int)} (hs : Sg l) {r : Rf} (hr : RfOk l r) (h0 : r.kind ≠ 0) (h10 : r.kind ≠ 10) {rec1 rec2 : Rf → Int → T × Int × Int} (b1 : LB l 65536 rec1) (b2 : LB l 65536 rec2) (h1 : SZ l rec1)
    (h2 : r.kind = 9 → 0 < r.count → SZ l rec2 ∧ ∀ x left, RfOk l x → (rec2 x left).2.2 = 0 → Means l x (rec2 x left).1) {left : Int} (hl : left ≤ 65536) (hc : ¬ left < costM r) (hm : Means l r (restM l r rec1 rec2 left).1) (h : (restM l r rec1 rec2 left).2.2 = 0) : sizeT (norm (restM l r rec1 rec2 left).1) + (restM l r rec1 rec2 left).2.1 ≤ left := by
  have hw := hs.w
  have hnn := nk_nonneg hr
  have hb := rf_kind hr
  have hcost := costM_nonneg hr
  have hwl := wordsR_len hr h10
  have hnk := means_nk hm
  unfold restM at h hm hnk ⊢
  by_cases h9 : r.kind = 9
  · simp only [if_pos h9] at h hm hnk ⊢
    have hkc : nk r = r.count := by simp [nk, h9]
    obtain ⟨ks, e1, e2⟩ := loopM_sum (B := 65536) (g := fun t => sizeL (norm t).kids) (fun i lf => stepM_lb hw (kidsM_lb hw b2) hr i lf) (fun j lf hj q0 q1 hq => by
      have hst := stepM_at hq; rw [hst] at hq ⊢
      have hj' : (j : Int) < nk r := by omega
      have hok := kid_ok hw hr (j : Int)
      have hkid : kidP l r j = (⟨1, r.s, r.at_ + j * (r.data + r.kids), r.data, r.kids, 0, 0⟩, 0) := by
        rw [kidP, if_neg (by omega), if_neg (by omega), if_neg (by omega), if_pos h9]
      rw [hkid] at hq hok ⊢
      obtain ⟨z1, z2⟩ := h2 h9 (by omega)
      exact kidsM_size hs hok b2 z1 z2 q0 q1 hq) (by omega) (by omega) h
    rw [e1] at hm hnk ⊢
    simp only [List.nil_append, T.kids_mk] at hm hnk ⊢
    rw [h9] at hm ⊢
    rw [norm_mk, if_neg (by decide), if_neg (by decide), sizeT_mk, if_neg (by decide), if_neg (by decide), if_neg (by decide), if_pos rfl, List.length_map]
    rw [sgT_kids] at e2
    have hd : 0 ≤ r.data ∧ 0 ≤ r.kids := by cases hr <;> simp [Rf.zero] at h9 ⊢ <;> omega
    obtain ⟨f1, f2⟩ := frame_bound (ts := ks.map norm) (w := r.data.toNat) (k := r.kids.toNat) fun u hu => by
      obtain ⟨v, hv, rfl⟩ := List.mem_map.1 hu
      obtain ⟨i, hi, rfl⟩ := List.mem_iff_getElem.1 hv
      have kk := (means_kid hm (i := i) (by simpa using hi)).2
      simp only [T.kids_mk] at kk
      have hkid : kidP l r i = (⟨1, r.s, r.at_ + i * (r.data + r.kids), r.data, r.kids, 0, 0⟩, 0) := by
        rw [kidP, if_neg (by omega), if_neg (by omega), if_neg (by omega), if_pos h9]
      rw [hkid] at kk
      obtain ⟨l1, l2⟩ := norm_w_len kk
      have g1 := (means_word kk).1
      have g2 := means_nk kk
      simp [nwR, nk] at g1 g2
      have := nW_le ks[i]
      have := nK_le ks[i]
      omega
    have hcm : costM r = 1 + r.count * (1 + r.data + r.kids) := by simp [costM, h9]
    have hmul : (ks.length : Int) * ((frameW (ks.map norm) : Int) + frameK (ks.map norm)) ≤ r.count * (1 + r.data + r.kids) := by
      rw [← hnk, hkc]
      exact Int.mul_le_mul_of_nonneg_left (by omega) (by omega)
    omega
  · by_cases h18 : r.kind = 1 ∨ r.kind = 8
    · simp only [if_neg h9, if_pos h18] at h hm hnk ⊢
      obtain ⟨ks, e1, e2⟩ := loopM_sum (B := 65536) (g := fun t => sizeT (norm t)) (fun i lf => stepM_lb hw b1 hr i lf) (fun j lf hj q0 q1 hq => by
        have hst := stepM_at hq; rw [hst] at hq ⊢
        exact h1 _ _ (kid_ok hw hr j) (kid_kind h18 j) q0 q1 hq) (by omega) (by omega) h
      rw [e1] at hm hnk ⊢
      simp only [List.nil_append, T.kids_mk] at hm hnk ⊢
      have hkL := means_kidsL hs hm (by simpa using h18)
      simp only [T.kids_mk] at hkL
      rw [sgT_size] at e2
      rcases h18 with h18 | h18
      · rw [h18] at hm ⊢
        rw [if_pos h18] at hwl
        have hcm : costM r = 1 + r.data + r.kids := by simp [costM, h18]
        have hkk : nk r = r.kids := by simp [nk, h18]
        have hd0 : 0 ≤ r.data := by cases hr <;> simp [Rf.zero] at h18 ⊢ <;> omega
        rw [norm_struct rfl, T.kids_mk, T.words_mk, sizeT_mk, if_pos rfl]
        have t1 := trimW_le (wordsR l r)
        have t2 := trimK_le (ks.map norm)
        rw [List.length_map] at t2
        have t3 := sizeL_take hkL (trimK (ks.map norm)).length
        rw [← trimK_take] at t3
        omega
      · rw [h18] at hm ⊢
        have hcm : costM r = 1 + nk r := by simp [costM, h18]
        rw [norm_mk, if_neg (by decide), if_neg (by decide), sizeT_mk, if_neg (by decide), if_pos rfl, List.length_map]
        omega
    · simp only [if_neg h9, if_neg h18] at h hm hnk ⊢
      obtain ⟨ks, e1, e2⟩ := loopM_sum (B := 65536) (g := fun _ => 0) (fun i lf => stepM_lb hw leafM_lb hr i lf) (fun j lf hj q0 q1 hq => by
        rw [stepM_at hq]
        simp [leafM]) (by omega) (by omega) h
      rw [e1] at hm hnk ⊢
      simp only [List.nil_append, T.kids_mk] at hm hnk ⊢
      have hz : ∀ L : List T, sgT (fun _ => 0) L = 0 := fun L => by
        induction L with
        | nil => rfl
        | cons t L ih => simp [sgT, ih]
      rw [hz] at e2
      have hcm : costM r = 1 + nk r := by rw [costM, if_neg (by omega), if_neg (by omega)]
      have hk2 : 2 ≤ r.kind ∧ r.kind ≤ 7 := by
        clear h hm hnk e1
        omega
      rw [norm_mk, if_neg (by omega), if_neg (by omega), sizeT_mk, if_neg (by omega), if_neg (by omega), if_pos hk2, List.length_map]
      have hroom : roomZ (r.kind - 2) ks.length ≤ ks.length := by
        unfold roomZ
        split
        · omega
        · obtain ⟨w, _, w2, w3⟩ : ∃ w : Nat, widthZ (r.kind - 2) = w ∧ bitsZ (r.kind - 2) = w ∧ w ≤ 64 := by
            have : r.kind - 2 = 0 ∨ r.kind - 2 = 1 ∨ r.kind - 2 = 2 ∨ r.kind - 2 = 3 ∨ r.kind - 2 = 4 ∨ r.kind - 2 = 5 := by omega
            rcases this with e | e | e | e | e | e <;> rw [e]
            · exact ⟨0, rfl, rfl, by simp⟩
            · exact ⟨1, rfl, rfl, by simp⟩
            · exact ⟨8, rfl, rfl, by simp⟩
            · exact ⟨16, rfl, rfl, by simp⟩
            · exact ⟨32, rfl, rfl, by simp⟩
            · exact ⟨64, rfl, rfl, by simp⟩
          rw [w2]
          have : (ks.length : Int) * w ≤ ks.length * 64 := Int.mul_le_mul_of_nonneg_left (by omega) (by omega)
          omega
      omega
theorem stop_sz (l : List (List Int)) : SZ l (fun r left => stopM l r left) := fun x left _ _ _ _ h => absurd h (by simp [stopM])
theorem leaf_size {l : List (List Int)} {r : Rf} (h : r.kind = 0) (left : Int) : sizeT (norm (leafM l r left).1) + (leafM l r left).2.1 ≤ left := by
  simp [leafM, norm_mk, h]
theorem meaning_size {l : List (List Int)} (hs : Sg l) : ∀ (d : Nat), SZ l (meaning l d)
  | 0 => fun r left hr h10 l0 hl h => by
    rw [meaning] at h ⊢
    split at h
    · rename_i h0; rw [if_pos h0]; exact leaf_size h0 _
    · exact absurd h (by simp [stopM])
  | 1 => fun r left hr h10 l0 hl h => by
    have hm := meaning_means hs.w 1 r left hr h
    rw [meaning] at h hm ⊢
    split at h
    · rename_i h0; rw [if_pos h0]; exact leaf_size h0 _
    · rename_i h0
      split at h
      · exact absurd h (by simp [stopM])
      · rename_i h9
        split at h
        · exact absurd h (by simp [stopM])
        · rename_i hc
          rw [if_neg h0, if_neg h9, if_neg hc] at hm ⊢
          exact rest_size hs hr h0 h10 (meaning_lb hs.w 0) (stop_lb l _) (meaning_size hs 0) (fun e c => absurd ⟨e, c⟩ h9) hl hc hm h
  | d + 2 => fun r left hr h10 l0 hl h => by
    have hm := meaning_means hs.w (d + 2) r left hr h
    rw [meaning] at h hm ⊢
    split at h
    · rename_i h0; rw [if_pos h0]; exact leaf_size h0 _
    · rename_i h0
      split at h
      · exact absurd h (by simp [stopM])
      · rename_i hc
        rw [if_neg h0, if_neg hc] at hm ⊢
        exact rest_size hs hr h0 h10 (meaning_lb hs.w (d + 1)) (meaning_lb hs.w d) (meaning_size hs (d + 1)) (fun e c => ⟨meaning_size hs d, fun x left hx hq => meaning_means hs.w d x left hx hq⟩) hl hc hm h
/-- What a message means within limits takes few words. -/
theorem unf_size {l : List (List Int)} (hs : Sg l) {a b : Int} (h : (unfP l a b).2.2 = 0) : sizeT (norm (unfP l a b).1) ≤ 65536 := by
  have ha := clamp_in a 64 (by decide)
  have hb := clamp_in b 65536 (by decide)
  unfold unfP at h ⊢
  split at h
  · rename_i h0; exact absurd h h0
  · rename_i h0
    rw [if_neg h0]
    split at h
    · rename_i h1; exact absurd h h1
    · rename_i h1
      rw [if_neg h1]
      have q1 := meaning_size hs (clampZ a 64).toNat (atP l 0 0).1 (clampZ b 65536) (at_ok hs.w 0 0) (at_kind l 0 0) hb.1 hb.2 (by omega)
      have q2 := meaning_lb hs.w (B := 65536) (clampZ a 64).toNat (atP l 0 0).1 (at_ok hs.w 0 0) (clampZ b 65536) hb.1 hb.2
      simp only
      omega
end Go.Proofs.Ytigdcnlhgelkaaa

/-
  Chapters 1 and 14: numbers side by side.
-/
namespace Go.Proofs.Ytigdcnlhgelkaaa
set_option linter.unusedVariables false
set_option linter.unusedSimpArgs false
open Go Go.G Go.Proofs Go.PL

theorem width_cases {c : Int} (h0 : 0 ≤ c) (h6 : c < 6) : ∃ w : Nat, widthZ c = w ∧ bitsZ c = w ∧ (w = 0 ∨ w = 1 ∨ w = 8 ∨ w = 16 ∨ w = 32 ∨ w = 64) := by
  have : c = 0 ∨ c = 1 ∨ c = 2 ∨ c = 3 ∨ c = 4 ∨ c = 5 := by omega
  rcases this with rfl | rfl | rfl | rfl | rfl | rfl
  · exact ⟨0, rfl, rfl, by simp⟩
  · exact ⟨1, rfl, rfl, by simp⟩
  · exact ⟨8, rfl, rfl, by simp⟩
  · exact ⟨16, rfl, rfl, by simp⟩
  · exact ⟨32, rfl, rfl, by simp⟩
  · exact ⟨64, rfl, rfl, by simp⟩
theorem fits_lt {c n : Int} {w : Nat} (hw : widthZ c = w) (h0 : 0 ≤ n) (h : fitsZ c n = true) : n < 2 ^ w := by
  simp only [fitsZ, Bool.and_eq_true, decide_eq_true_eq, hw] at h
  have hp : (0 : Int) < 2 ^ w := Int.pow_pos (by decide)
  have h2 := h.2
  simp only [Int.toNat_natCast] at h2
  have h3 := Int.emod_add_mul_ediv n (2 ^ w)
  rw [h2, Int.mul_zero, Int.add_zero] at h3
  rw [← h3]
  exact Int.emod_lt_of_pos _ hp
theorem prod_mod {i w : Nat} (hw : w ≤ 64) (hi : i ≤ 1000000000) : IntKind.i64.wrap ((i : Int) * w) = (i : Int) * w ∧ ((i : Int) * w).tmod 64 = ((i * w % 64 : Nat) : Int) ∧ ((i : Int) * w).tdiv 64 = ((i * w / 64 : Nat) : Int) := by
  have him : i * w ≤ 1000000000 * 64 := Nat.mul_le_mul hi hw
  have e : (i : Int) * w = ((i * w : Nat) : Int) := by rw [Int.natCast_mul]
  rw [e]
  refine ⟨i64_same (by omega) (by omega), ?_, ?_⟩
  · rw [Int.tmod_eq_emod_of_nonneg (by omega)]; omega
  · rw [Int.tdiv_eq_ediv_of_nonneg (by omega)]; omega
section
variable {n0 : Nat} {w0 : World} {I0 : Nat → Prop} {Q : Exit → Sta → Prop}
theorem rPut_l1 {c : A} {ns : List Int} {w i s : Nat} {m : Nat} {H : Hp} (hw : w ≤ 64) (hi : i ≤ 1000000000) (hs : i * w % 64 = s) : ∀ (j k : Nat) (x : Int), k + j = s → 0 ≤ x → x * 2 ^ j < 18446744073709551616 → (∀ q, Q (.exit 2) ⟨lk [(0, c), (1, uws ns), (6, nv w), (7, .osl [0] 1 1 0 m), (8, nv i), (9, uv (x * 2 ^ j)), (10, nv s), (39, bv q)], H⟩) →
    LoopC (cx Try.prog w0 I0 n0) l1_centoref01_Put Q ⟨lk [(0, c), (1, uws ns), (6, nv w), (7, .osl [0] 1 1 0 m), (8, nv i), (9, uv x), (10, nv k)], H⟩ := by
  obtain ⟨e1, e2, _⟩ := prod_mod hw hi
  rw [hs] at e2
  have hs64 : s < 64 := by omega
  intro j
  induction j with
  | zero =>
    intro k x hk h0 hx hq
    have : k = s := by omega
    subst this
    refine loopC_once mixed l1_centoref01_Put.eq_1 ?_
    have := hq false
    simp [e1, e2] at this ⊢
    exact this
  | succ j ih =>
    intro k x hk h0 hx hq
    have hlt : k < s := by omega
    have ek : IntKind.i64.wrap ((k : Int) + 1) = ((k + 1 : Nat) : Int) := i64_same (by omega) (by omega)
    have hp : (0 : Int) < 2 ^ j := Int.pow_pos (by decide)
    rw [Int.pow_succ, Int.mul_comm (2 ^ j) 2, ← Int.mul_assoc] at hx hq
    have h2 : x * 2 ≤ x * 2 * 2 ^ j := by
      have := Int.mul_le_mul_of_nonneg_left (show (1 : Int) ≤ 2 ^ j by omega) (show 0 ≤ x * 2 by omega)
      omega
    have ex : IntKind.u64.wrap (x * 2) = x * 2 := u64_same (by omega) (by omega)
    refine loopC_once mixed l1_centoref01_Put.eq_1 ?_
    simp [e1, e2, hlt, ek, ex]
    exact ih (k + 1) (x * 2) (by omega) (by omega) hx hq
theorem rPut_l2 {c : Int} {ns : List Int} (hn : ns.length ≤ 1000000000) {w : Nat} (hw : w = 0 ∨ w = 1 ∨ w = 8 ∨ w = 16 ∨ w = 32 ∨ w = 64) (hwc : widthZ c = w) (hfit : ∀ x, x ∈ ns → u64R x ∧ fitsZ c x = true) {m : Nat} (hm : w ≠ 0 → m = (ns.length * w + 63) / 64)
    (hq : ∀ (q : Bool) (H' : Hp) (out : List Int), out = putL w ns 0 (List.replicate m 0) → H' [0] = ⟨1, .arr 1 (out.map uv)⟩ → Q (.exit 0) ⟨lk [(0, iv c), (1, uws ns), (6, nv w), (7, .osl [0] 1 1 0 m), (8, nv ns.length), (23, bv q)], H'⟩) :
    ∀ (j i : Nat) (out : List Int) (H : Hp), i + j = ns.length → out.length = m → (w ≠ 0 → PutI w i out) → putL w (ns.drop i) i out = putL w ns 0 (List.replicate m 0) → H [0] = ⟨1, .arr 1 (out.map uv)⟩ →
    LoopC (cx Try.prog w0 I0 n0) l2_centoref01_Put Q ⟨lk [(0, iv c), (1, uws ns), (6, nv w), (7, .osl [0] 1 1 0 m), (8, nv i)], H⟩ := by
  have hw64 : w ≤ 64 := by omega
  intro j
  induction j with
  | zero =>
    intro i out H hi hl hI hp hH
    have : i = ns.length := by omega
    subst this
    rw [List.drop_eq_nil_of_le (Nat.le_refl _), putL] at hp
    refine loopC_once mixed l2_centoref01_Put.eq_1 ?_
    simp
    exact hq _ H out hp hH
  | succ j ih =>
    intro i out H hi hl hI hp hH
    have hlt : i < ns.length := by omega
    have ei : IntKind.i64.wrap ((i : Int) + 1) = ((i + 1 : Nat) : Int) := i64_same (by omega) (by omega)
    obtain ⟨f1, f2⟩ := hfit _ (List.getElem_mem hlt)
    have f1' := f1
    unfold u64R at f1'
    have hx2 := fits_lt hwc f1'.1 f2
    obtain ⟨e1, e2, e3⟩ := prod_mod (i := i) hw64 (by omega)
    rw [List.drop_eq_getElem_cons hlt, putL] at hp
    refine loopC_once mixed l2_centoref01_Put.eq_1 ?_
    simp [hlt]
    refine sc_call (rFits_spec f1) (by simp) ?_
    simp [f2]
    by_cases h0 : w = 0
    · subst h0
      rw [if_pos rfl] at hp
      refine rPut_l1 (s := 0) hw64 (by omega) (by simp) 0 0 _ (by omega) f1'.1 (by simpa using f1'.2) (fun q => ?_)
      simp [ei]
      exact ih (i + 1) out H (by omega) hl (fun h => absurd rfl h) hp hH
    · rw [if_neg h0] at hp
      have hat : i * w / 64 < out.length := by rw [hl, hm h0]; exact put_at (by omega) hlt
      obtain ⟨p1, p2, p3, p4, p5⟩ := putI_step (hI h0) (by omega) f1'.1 hx2 hat
      refine rPut_l1 (s := i * w % 64) hw64 (by omega) rfl (i * w % 64) 0 _ (by omega) f1'.1 p4 (fun q => ?_)
      have hw0 : (0 : Int) < w := by omega
      have hw0' : 0 < w := by omega
      have hg : out.getD (i * w / 64) 0 = out[i * w / 64] := by simp [hat]
      have hat' : ((i * w / 64 : Nat) : Int) < m := by omega
      have hatm : i * w / 64 < m := by omega
      rw [hg] at p1 p2 p3 p5 hp
      have ex : IntKind.u64.wrap (out[i * w / 64] + ns[i] * 2 ^ (i * w % 64)) = out[i * w / 64] + ns[i] * 2 ^ (i * w % 64) := by
        have := Int.mul_nonneg f1'.1 (show (0 : Int) ≤ 2 ^ (i * w % 64) from Int.le_of_lt (Int.pow_pos (by decide)))
        exact u64_same (by omega) (by omega)
      have him : i * w ≤ 1000000000 * 64 := Nat.mul_le_mul (by omega) hw64
      have eP : IntKind.i64.wrap ((i * w / 64 : Nat) : Int) = ((i * w / 64 : Nat) : Int) := i64_same (by omega) (by omega)
      generalize i * w / 64 = P at *
      simp [ei, hw0', e1, e3, hH, hat, hatm, ex, eP]
      refine ih (i + 1) (out.set P (out[P] + ns[i] * 2 ^ (i * w % 64))) _ (by omega) (by simpa using hl) (fun _ => p1) hp ?_
      simp [List.map_set]
end
theorem rPut_spec {c : Int} (c0 : 0 ≤ c) (c6 : c < 6) {ns : List Int} (hn : ns.length ≤ 1000000000) (hfit : ∀ x, x ∈ ns → u64R x ∧ fitsZ c x = true) : G.Spec Try.prog 102 [iv c, uws ns] (.tup [uws (putZ c ns), bv true]) := by
  obtain ⟨w, w1, w2, w3⟩ := width_cases c0 c6
  have hroom : roomZ c ns.length = (((ns.length * w + 63) / 64 : Nat) : Int) := by
    unfold roomZ
    rw [if_neg (by omega), w2]
    have e : (ns.length : Int) * w = ((ns.length * w : Nat) : Int) := by rw [Int.natCast_mul]
    rw [e]
    omega
  have hm : (roomZ c ns.length).toNat = (ns.length * w + 63) / 64 := by rw [hroom]; omega
  have hb : (ns.length * w + 63) / 64 ≤ 1000000001 := by
    have : ns.length * w ≤ 1000000000 * 64 := Nat.mul_le_mul hn (by omega)
    omega
  refine spec_of t_centoref01_Put (by simp) fun w0 I0 => ?_
  unfold c_centoref01_Put
  simp
  refine sc_call (rWidth_spec c) rfl ?_
  rw [w1]
  have hnn : ¬ (w : Int) < 0 := by omega
  simp [hnn]
  refine sc_call (rRoom_spec c ns.length) (by simp) ?_
  rw [hroom]
  generalize hM : (ns.length * w + 63) / 64 = m at *
  have hm8 : (m : Int) * 8 ≤ 140737488355328 := by omega
  have hz : putZ c ns = putL w ns 0 (List.replicate m 0) := by
    unfold putZ
    rw [w1, hm]
    simp
  rw [hz]
  simp [hm8]
  refine ⟨by omega, ?_⟩
  refine rPut_l2 hn w3 w1 hfit (m := m) (fun _ => hM.symm) (fun q H' out ho hH => ?_) ns.length 0 (List.replicate m 0) _ (by omega) (by simp) (fun _ => PutI.start w m) (by simp) ?_
  rotate_left
  · simp
  subst ho
  simp
  refine frz_tup ?_
  simp
  exact ⟨frz_row (f := uv) (by rw [hH]; simp) (by simp [putL_length]) (fun x => by simp), frz_bare rfl⟩

/-! ### the copier's data -/
section
variable {n0 : Nat} {w0 : World} {I0 M0 : Nat → Prop} {m0 : Mu} {Q : Exit → Sta → Prop}
theorem data_l1 {l : List (List Int)} (hs : Sg l) {mm : Int} (hm0 : 0 ≤ mm) (hm1 : mm ≤ 131072) {r : Rf} {t : T} (hm : Means l r t) (k2 : 2 ≤ t.kind) (k7 : t.kind ≤ 7) {w : Nat} (hw : w = 0 ∨ w = 1 ∨ w = 8 ∨ w = 16 ∨ w = 32 ∨ w = 64) (hwc : widthZ (t.kind - 2) = w) (hfit : ∀ x, x ∈ t.kids.map hd → u64R x ∧ fitsZ (t.kind - 2) x = true) {m : Nat} (hM : w ≠ 0 → m = (t.kids.length * w + 63) / 64) {v : Nat} {B : List Int} {nB : Nat} (hBn : B.length = nB) (hB : ((B.length + m : Nat) : Int) ≤ mm)
    (hq : ∀ (H' : Hp) (i : Nat) (q : Bool), (∀ p, H' (0 :: p) = cpF mm 0 ⟨v, B ++ putL w (t.kids.map hd) 0 (List.replicate m 0)⟩ p) → Q (.exit 0) ⟨lk [(0, .pob [0] 1 0), (5, .pob [1] 1 0), (8, nv nB), (10, nv w), (43, nv t.kids.length), (44, nv i), (45, bv q)], H'⟩)
    (hq2 : w = 0 → ∀ (H' : Hp) (i : Nat), (∀ p, H' (0 :: p) = cpF mm 0 ⟨v, B ++ putL w (t.kids.map hd) 0 (List.replicate m 0)⟩ p) → Q (.exit 0) ⟨lk [(0, .pob [0] 1 0), (5, .pob [1] 1 0), (8, nv nB), (10, nv w), (12, nv i), (43, nv t.kids.length), (44, nv i), (48, bv true)], H'⟩) :
    ∀ (j i : Nat) (out : List Int) (H : Hp), i + j = t.kids.length → out.length = m → (w ≠ 0 → PutI w i out) → putL w ((t.kids.map hd).drop i) i out = putL w (t.kids.map hd) 0 (List.replicate m 0) → (∀ p, H (0 :: p) = cpF mm 0 ⟨v, B ++ out⟩ p) → H [1] = ⟨1, .cells (paL l r)⟩ → (w = 0 → out = putL w (t.kids.map hd) 0 (List.replicate m 0)) →
    LoopC (cxh Try.prog w0 I0 M0 n0 m0) l1_copy_copier_data Q ⟨lk [(0, .pob [0] 1 0), (5, .pob [1] 1 0), (8, nv nB), (10, nv w), (43, nv t.kids.length), (44, nv i)], H⟩ := by
  subst hBn
  have hln := means_len hm
  have hw64 : w ≤ 64 := by omega
  intro j
  induction j with
  | zero =>
    intro i out H hi hl hI hp hH hA h0w
    have : i = t.kids.length := by omega
    subst this
    rw [List.drop_eq_nil_of_le (by simp), putL] at hp
    subst hp
    refine loopC_once mixed l1_copy_copier_data.eq_1 ?_
    simp
    exact hq H _ _ hH
  | succ j ih =>
    intro i out H hi hl hI hp hH hA h0w
    have hlt : i < t.kids.length := by omega
    have hlt' : i < (t.kids.map hd).length := by simpa using hlt
    have ei : IntKind.i64.wrap ((i : Int) + 1) = ((i + 1 : Nat) : Int) := i64_same (by omega) (by omega)
    obtain ⟨e1, e2, e3⟩ := prod_mod (i := i) hw64 (by omega)
    refine loopC_once mixed l1_copy_copier_data.eq_1 ?_
    by_cases h0 : w = 0
    · have hdone := h0w h0
      subst hdone
      have h00 : (w : Int) = 0 := by omega
      simp [hlt, h0]
      have := hq2 h0 H i hH
      simp [h0] at this
      exact this
    · obtain ⟨k1, kk⟩ := means_kid hm hlt
      obtain ⟨a1, a2⟩ := atom_words hm k2 k7 hlt
      have hwd := (means_word kk).2 0 (by rw [a2]; simp)
      simp only [a2, List.getElem_cons_zero] at hwd
      obtain ⟨f1, f2⟩ := hfit (hd t.kids[i]) (List.mem_map.2 ⟨_, List.getElem_mem hlt, rfl⟩)
      have f1' := f1
      unfold u64R at f1'
      have hx2 := fits_lt hwc f1'.1 f2
      rw [List.drop_eq_getElem_cons hlt', putL, if_neg h0, List.getElem_map] at hp
      have hat : i * w / 64 < out.length := by rw [hl, hM h0]; exact put_at (by omega) hlt
      obtain ⟨p1, p2, p3, p4, p5⟩ := putI_step (hI h0) (by omega) f1'.1 hx2 hat
      have hg : out.getD (i * w / 64) 0 = out[i * w / 64] := by simp [hat]
      have hatm : i * w / 64 < m := by omega
      rw [hg] at p1 p2 p3 p5 hp
      have hnn := Int.mul_nonneg f1'.1 (show (0 : Int) ≤ 2 ^ (i * w % 64) from Int.le_of_lt (Int.pow_pos (by decide)))
      have hs64 : i * w % 64 < 64 := Nat.mod_lt _ (by decide)
      have esh : IntKind.u64.wrap (hd t.kids[i] * 2 ^ min (i * w % 64) IntKind.u64.bits) = hd t.kids[i] * 2 ^ (i * w % 64) := by
        rw [show min (i * w % 64) IntKind.u64.bits = i * w % 64 from by simp [IntKind.bits]; omega]
        exact u64_same hnn p4
      have hor : bits .or .u64 out[i * w / 64] (hd t.kids[i] * 2 ^ (i * w % 64)) = out[i * w / 64] + hd t.kids[i] * 2 ^ (i * w % 64) :=
        u64_or' (i * w % 64) p2 p3 (by omega) hnn (Int.mul_emod_left _ _) p4
      have him : i * w ≤ 1000000000 * 64 := Nat.mul_le_mul (by omega) hw64
      have eP : IntKind.i64.wrap ((i * w / 64 : Nat) : Int) = ((i * w / 64 : Nat) : Int) := i64_same (by omega) (by omega)
      have eS : IntKind.i64.wrap ((i * w % 64 : Nat) : Int) = ((i * w % 64 : Nat) : Int) := i64_same (by omega) (by omega)
      have eBP : IntKind.i64.wrap ((B.length : Int) + ((i * w / 64 : Nat) : Int)) = (B.length : Int) + ((i * w / 64 : Nat) : Int) := i64_same (by omega) (by omega)
      have hgetB : (B ++ out)[B.length + i * w / 64]? = some out[i * w / 64] := by
        rw [List.getElem?_append_right (by omega), Nat.add_sub_cancel_left, List.getElem?_eq_getElem hat]
      have hsetB : ∀ y, (B ++ out).set (B.length + i * w / 64) y = B ++ out.set (i * w / 64) y := fun y => by
        rw [List.set_append_right _ _ (by omega), Nat.add_sub_cancel_left]
      have h0' : ¬ (w : Int) = 0 := by omega
      generalize hS : i * w % 64 = s at *
      generalize hPP : i * w / 64 = P at *
      have etn : ((B.length : Int) + (P : Int)).toNat = B.length + P := by omega
      have hlt3 : (B.length : Int) + P < B.length + m := by omega
      have h03 : (0 : Int) ≤ (B.length : Int) + P := by omega
      simp [hlt, h0, hA]
      refine sc_call (kid_spec hs (means_ok hm) i) (by simp) ?_
      have hgetM : (List.map uv B ++ List.map uv out)[B.length + P]? = some (uv out[P]) := by
        rw [List.getElem?_append_right (by simp), List.length_map, Nat.add_sub_cancel_left, List.getElem?_map, List.getElem?_eq_getElem hat]
        rfl
      have hsetM : ∀ y, (List.map uv B ++ List.map uv out).set (B.length + P) y = List.map uv B ++ (List.map uv out).set P y := fun y => by
        rw [List.set_append_right _ _ (by simp), List.length_map, Nat.add_sub_cancel_left]
      simp [k1, updF_app, hA, hH, e1, e2, e3, eP, eS, eBP, etn, hl, hgetM, hatm, h03]
      refine sc_call (word_spec' hs (means_ok kk) 0) (by simp) ?_
      rw [show wordAt l (kidP l r i).1 0 = hd t.kids[i] from hwd]
      simp [updF_app, hH, e1, e2, e3, eP, eS, eBP, etn, hl, hgetM, hatm, h03, esh, hor, hsetM, ei]
      refine ih (i + 1) (out.set P (out[P] + hd t.kids[i] * 2 ^ s)) _ (by omega) (by simpa using hl) (fun _ => p1) hp (fun p => ?_) ?_ (fun h => absurd h h0)
      · by_cases hp1 : p = [0]
        · subst hp1
          simp [updF_app, List.map_set]
        · by_cases hp0 : p = []
          · subst hp0
            simp [updF_app, hH]
          · simp [updF_app, hp1, hH]
            exact cpF_but hp0 hp1
      · simp [updF_app, hA]
end
theorem cData_spec {l : List (List Int)} (hs : Sg l) {m : Int} (hm0 : 0 ≤ m) (hm1 : m ≤ 131072) {t : T} {r : Rf} {S : Cp} {a : Nat} (hm : Means l r t) (k2 : 2 ≤ t.kind) (k7 : t.kind ≤ 7) (hfit : ∀ x, x ∈ t.kids.map hd → u64R x ∧ fitsZ (t.kind - 2) x = true) (ha : a < S.W.length) (hS : (S.W.length : Int) ≤ m) :
    ∃ S' : Cp, S.W.length ≤ S'.W.length ∧ (S'.W.length : Int) ≤ m ∧ ((S.W.length : Int) + sizeT (norm t) ≤ m → S'.W = layT (norm t) a S.W) ∧
      SpecF Try.prog 109 (fun q => [.pob [q] 1 0, nv a, paX l r]) (cpM m S) (fun _ => iv (if (S.W.length : Int) + sizeT (norm t) ≤ m then 0 else 3)) (cpM m S') := by
  have hln := means_len hm
  have hkr := means_kind hm
  have hnk := means_nk hm
  have hnorm : norm t = .mk t.kind t.words (t.kids.map norm) := by
    conv => lhs; rw [T.eta t, norm_mk, if_neg (by omega), if_neg (by omega)]
  have hhd : (t.kids.map norm).map hd = t.kids.map hd := by
    rw [List.map_map]
    refine List.map_congr_left fun c hc => ?_
    obtain ⟨i, hi, rfl⟩ := List.mem_iff_getElem.1 hc
    obtain ⟨a1, a2⟩ := atom_words hm k2 k7 hi
    have := norm_words (means_bare (means_kid hm hi).2)
    simp only [Function.comp, hd, this]
    simp [nW, a1]
  have eT : sizeT (norm t) = roomZ (t.kind - 2) t.kids.length := by
    rw [hnorm, sizeT_mk, if_neg (by omega), if_neg (by omega), if_pos ⟨k2, k7⟩, List.length_map]
  have hlay : layT (norm t) a S.W = S.W.set a (ptrZ a S.W.length 1 (t.kind - 2 + 8 * t.kids.length)) ++ putZ (t.kind - 2) (t.kids.map hd) := by
    rw [hnorm, layT_mk, if_neg (by omega), if_neg (by omega), if_neg (by omega), if_neg (by omega), hhd, List.length_map]
  obtain ⟨w, w1, w2, w3⟩ := width_cases (c := t.kind - 2) (by omega) (by omega)
  have hroom : roomZ (t.kind - 2) t.kids.length = (((t.kids.length * w + 63) / 64 : Nat) : Int) := by
    unfold roomZ
    rw [if_neg (by omega), w2]
    have e : (t.kids.length : Int) * w = ((t.kids.length * w : Nat) : Int) := by rw [Int.natCast_mul]
    rw [e]
    omega
  have hb : (t.kids.length * w + 63) / 64 ≤ 1000000001 := by
    have : t.kids.length * w ≤ 1000000000 * 64 := Nat.mul_le_mul (by omega) (by omega)
    omega
  have hput : putZ (t.kind - 2) (t.kids.map hd) = putL w (t.kids.map hd) 0 (List.replicate ((t.kids.length * w + 63) / 64) 0) := by
    unfold putZ
    rw [w1, List.length_map, hroom]
    simp only [Int.toNat_natCast]
  rw [eT, hlay, hroom, hput]
  generalize hM : (t.kids.length * w + 63) / 64 = L at *
  have hG := cGive_spec hm0 hm1 S (by omega) L (by omega)
  have ek : IntKind.i64.wrap (t.kind - 2) = t.kind - 2 := i64_same (by omega) (by omega)
  have hwn : ¬ (w : Int) < 0 := by omega
  by_cases hg : (S.W.length : Int) + (L : Nat) ≤ m
  · obtain ⟨g1, g2⟩ := giveC_yes hg
    rw [g1, g2] at hG
    have hP := cPoint_spec (m := m) ⟨S.v + 1, S.W ++ List.replicate L 0⟩ (a := a) (by simp; omega) (by omega) (to := (S.W.length : Int)) (by omega) (by omega) ⟨2, 0, 0, 0, t.kind - 2, t.kids.length, 0, false⟩ (by simp) (by simp) (by simp) (by simp)
    rw [enc_list (by omega) (by omega) (by omega) (by omega) (by omega) (by omega) (by omega) (by omega)] at hP
    simp only at hP
    rw [List.set_append_left _ _ ha] at hP
    refine ⟨⟨S.v + 1, S.W.set a (ptrZ a S.W.length 1 (t.kind - 2 + 8 * t.kids.length)) ++ putL w (t.kids.map hd) 0 (List.replicate L 0)⟩, by simp, by simp [putL_length]; omega, fun _ => rfl, ?_⟩
    rw [if_pos hg]
    have hl1 := fun {n0 w0 I0 M0 m0} => @data_l1 n0 w0 I0 M0 m0
    refine specF_of t_copy_copier_data (by simp) (famL_cons famA_pob (famL_cons famA_v (famL_cons (famL_ref l r) famL_nil))) famA_v fun w0 I0 M0 m0 => ?_
    unfold c_copy_copier_data
    simp
    refine sc_call (refKind_spec l r) (by simp) ?_
    rw [hkr]
    simp [ek]
    refine sc_call (refKids_spec' l r) (by simp) ?_
    rw [hnk]
    simp
    refine sc_call (room_spec' (t.kind - 2) t.kids.length) (by simp) ?_
    rw [hroom]
    simp
    refine sc_fam 0 hG (fun p => by simp) (by simp) (by simp) ?_
    simp
    refine sc_call (wWidth_spec (t.kind - 2)) (by simp) ?_
    rw [w1, if_neg hwn]
    simp
    refine sc_call (refKids_spec' l r) (by simp) ?_
    rw [hnk]
    simp
    refine sc_fam 0 hP (fun p => by simp) (by simp) (by simp) ?_
    simp
    refine sc_call (refKids_spec' l r) (by simp) ?_
    rw [hnk]
    simp
    refine data_l1 hs hm0 hm1 hm k2 k7 w3 w1 hfit (m := L) (fun _ => hM.symm) (v := S.v + 1) (B := S.W.set a (ptrZ a S.W.length 1 (t.kind - 2 + 8 * t.kids.length))) (by simp) (by simp; omega) (fun H' i q hH => ?_) (fun h0 H' i hH => ?_) t.kids.length 0 (List.replicate L 0) _ (by omega) (by simp) (fun _ => PutI.start w L) (by simp) (fun p => by simp) (by simp) (fun h0 => ?_)
    · simp
      exact reth_fam rfl rfl hH
    · simp
      exact reth_fam rfl rfl hH
    · subst h0
      have : ∀ (ns : List Int) (i : Nat) (o : List Int), putL 0 ns i o = o := fun ns => by
        induction ns with
        | nil => intro i o; rfl
        | cons n ns ih => intro i o; rw [putL, if_pos rfl, ih]
      rw [this]
  · obtain ⟨g1, g2⟩ := giveC_no hg
    rw [g1, g2] at hG
    refine ⟨S, Nat.le_refl _, hS, fun hh => absurd hh hg, ?_⟩
    rw [if_neg hg]
    refine specF_of t_copy_copier_data (by simp) (famL_cons famA_pob (famL_cons famA_v (famL_cons (famL_ref l r) famL_nil))) famA_v fun w0 I0 M0 m0 => ?_
    unfold c_copy_copier_data
    simp
    refine sc_call (refKind_spec l r) (by simp) ?_
    rw [hkr]
    simp [ek]
    refine sc_call (refKids_spec' l r) (by simp) ?_
    rw [hnk]
    simp
    refine sc_call (room_spec' (t.kind - 2) t.kids.length) (by simp) ?_
    rw [hroom]
    simp
    refine sc_fam 0 hG (fun p => by simp) (by simp) (by simp) ?_
    simp
    exact reth_fam rfl rfl fun p => by simp

/-! ### values -/
theorem cValue_spec {l : List (List Int)} (hs : Sg l) {m : Int} (hm0 : 0 ≤ m) (hm1 : m ≤ 131072) : ∀ t : T, VS l m t ∧ FS l m t := by
  refine T.ind fun k w ks ih => ?_
  have hF : FS l m (.mk k w ks) := cFill_spec hs hm0 hm1 fun c hc => (ih c hc).1
  have hK : KS l m (.mk k w ks) := cKids_spec hs hm0 hm1 fun c hc => (ih c hc).1
  refine ⟨fun r S a hm h10 ha hS => ?_, hF⟩
  have hkr := means_kind hm
  have hnk := means_nk hm
  have hb := rf_kind (means_ok hm)
  have hln := means_len hm
  have args := famL_cons (famA_pob (u := 1) (off := 0) (q := [])) (famL_cons (famA_v (x := .int .i64 (a : Int))) (famL_cons (famL_ref l r) famL_nil))
  simp only [T.kind_mk] at h10 hkr
  by_cases k0 : k = 0
  · subst k0
    have hz : (S.W.length : Int) + sizeT (norm (.mk 0 w ks)) ≤ m := by rw [norm_mk, if_pos rfl]; simpa using hS
    refine ⟨S, Nat.le_refl _, hS, fun _ => by rw [norm_mk, if_pos rfl, layT_mk, if_pos rfl], ?_⟩
    rw [if_pos hz]
    refine specF_of t_copy_copier_value (by simp) args famA_v fun w0 I0 M0 m0 => ?_
    unfold c_copy_copier_value
    simp
    refine sc_call (refKind_spec l r) (by simp) ?_
    rw [hkr]
    simp
    exact reth_fam rfl rfl fun p => by simp
  by_cases k1 : k = 1
  · subst k1
    obtain ⟨S', q1, q2, q3, q4⟩ := cStruct_spec hs hm0 hm1 hF (fun c hc => (ih c hc).1) hm rfl ha hS
    refine ⟨S', q1, q2, q3, ?_⟩
    generalize (if (S.W.length : Int) + sizeT (norm (.mk 1 w ks)) ≤ m then (0 : Int) else 3) = res at q4
    refine specF_of t_copy_copier_value (by simp) args famA_v fun w0 I0 M0 m0 => ?_
    unfold c_copy_copier_value
    simp
    refine sc_call (refKind_spec l r) (by simp) ?_
    rw [hkr]
    simp
    refine sc_call (refKind_spec l r) (by simp) ?_
    rw [hkr]
    simp
    refine sc_fam 0 q4 (fun p => by simp) (by simp) (by simp) ?_
    simp
    exact reth_fam rfl rfl fun p => by simp
  by_cases k9 : k = 9
  · subst k9
    obtain ⟨S', q1, q2, q3, q4⟩ := cComp_spec (t := .mk 9 w ks) hs hm0 hm1 (fun c hc => (ih c hc).2) hm rfl ha hS
    refine ⟨S', q1, q2, q3, ?_⟩
    generalize (if (S.W.length : Int) + sizeT (norm (.mk 9 w ks)) ≤ m then (0 : Int) else 3) = res at q4
    refine specF_of t_copy_copier_value (by simp) args famA_v fun w0 I0 M0 m0 => ?_
    unfold c_copy_copier_value
    simp
    refine sc_call (refKind_spec l r) (by simp) ?_
    rw [hkr]
    simp
    refine sc_call (refKind_spec l r) (by simp) ?_
    rw [hkr]
    simp
    refine sc_call (refKind_spec l r) (by simp) ?_
    rw [hkr]
    simp
    refine sc_fam 0 q4 (fun p => by simp) (by simp) (by simp) ?_
    simp
    exact reth_fam rfl rfl fun p => by simp
  by_cases k8 : k = 8
  · subst k8
    have hnorm : norm (.mk 8 w ks) = .mk 8 w (ks.map norm) := by rw [norm_mk, if_neg (by decide), if_neg (by decide)]
    have eT : sizeT (norm (.mk 8 w ks)) = ks.length + sizeL (ks.map norm) := by
      rw [hnorm, sizeT_mk, if_neg (by decide), if_pos rfl, List.length_map]
    have hfk : firstK (.mk 8 w ks) ks.length = ks.map norm := by simp [firstK]
    have hnl : 0 ≤ sizeL (ks.map norm) := by
      have := sizeL_nonneg (kids_lay hs hm (.inr rfl) ks.length 0)
      simpa using this
    simp only [T.kids_mk] at hln hnk
    have hG := cGive_spec hm0 hm1 S (by omega) ks.length (by omega)
    rw [eT]
    by_cases hg : (S.W.length : Int) + (ks.length : Nat) ≤ m
    · obtain ⟨g1, g2⟩ := giveC_yes hg
      rw [g1, g2] at hG
      have hP := cPoint_spec (m := m) ⟨S.v + 1, S.W ++ List.replicate ks.length 0⟩ (a := a) (by simp; omega) (by omega) (to := (S.W.length : Int)) (by omega) (by omega) ⟨2, 0, 0, 0, 6, ks.length, 0, false⟩ (by simp) (by simp) (by simp) (by simp)
      rw [enc_list (by omega) (by omega) (by omega) (by omega) (by omega) (by omega) (by omega) (by omega)] at hP
      simp only at hP
      rw [List.set_append_left _ _ ha] at hP
      obtain ⟨S', q1, q2, q3, q4⟩ := hK r ⟨S.v + 1, S.W.set a (ptrZ a S.W.length 1 (6 + 8 * ks.length)) ++ List.replicate ks.length 0⟩ S.W.length ks.length hm (.inr rfl) (Nat.le_refl _) (by simp) (by simp; omega)
      simp only [List.length_append, List.length_set, List.length_replicate, hfk] at q1 q2 q3 q4
      refine ⟨S', by omega, q2, fun hh => ?_, ?_⟩
      · rw [q3 (by omega), hnorm, layT_mk, if_neg (by decide), if_neg (by decide), if_pos rfl, List.length_map]
      · generalize hres : (if (S.W.length : Int) + (ks.length + sizeL (ks.map norm)) ≤ m then (0 : Int) else 3) = res
        have hres' : (if ((S.W.length + ks.length : Nat) : Int) + sizeL (ks.map norm) ≤ m then (0 : Int) else 3) = res := by
          rw [← hres]
          by_cases h : (S.W.length : Int) + (ks.length + sizeL (ks.map norm)) ≤ m
          · rw [if_pos h, if_pos (by omega)]
          · rw [if_neg h, if_neg (by omega)]
        rw [hres'] at q4
        refine specF_of t_copy_copier_value (by simp) args famA_v fun w0 I0 M0 m0 => ?_
        unfold c_copy_copier_value
        simp
        refine sc_call (refKind_spec l r) (by simp) ?_
        rw [hkr]
        simp
        refine sc_call (refKind_spec l r) (by simp) ?_
        rw [hkr]
        simp
        refine sc_call (refKind_spec l r) (by simp) ?_
        rw [hkr]
        simp
        refine sc_call (refKind_spec l r) (by simp) ?_
        rw [hkr]
        simp
        refine sc_call (refKids_spec' l r) (by simp) ?_
        rw [hnk]
        simp
        refine sc_fam 0 hG (fun p => by simp) (by simp) (by simp) ?_
        simp
        refine sc_call (refKids_spec' l r) (by simp) ?_
        rw [hnk]
        simp
        refine sc_fam 0 hP (fun p => by simp) (by simp) (by simp) ?_
        simp
        refine sc_call (refKids_spec' l r) (by simp) ?_
        rw [hnk]
        simp
        refine sc_fam 0 q4 (fun p => by simp) (by simp) (by simp) ?_
        simp
        exact reth_fam rfl rfl fun p => by simp
    · obtain ⟨g1, g2⟩ := giveC_no hg
      rw [g1, g2] at hG
      have hnf : ¬ (S.W.length : Int) + (ks.length + sizeL (ks.map norm)) ≤ m := by omega
      refine ⟨S, Nat.le_refl _, hS, fun hh => absurd hh hnf, ?_⟩
      rw [if_neg hnf]
      refine specF_of t_copy_copier_value (by simp) args famA_v fun w0 I0 M0 m0 => ?_
      unfold c_copy_copier_value
      simp
      refine sc_call (refKind_spec l r) (by simp) ?_
      rw [hkr]
      simp
      refine sc_call (refKind_spec l r) (by simp) ?_
      rw [hkr]
      simp
      refine sc_call (refKind_spec l r) (by simp) ?_
      rw [hkr]
      simp
      refine sc_call (refKind_spec l r) (by simp) ?_
      rw [hkr]
      simp
      refine sc_call (refKids_spec' l r) (by simp) ?_
      rw [hnk]
      simp
      refine sc_fam 0 hG (fun p => by simp) (by simp) (by simp) ?_
      simp
      exact reth_fam rfl rfl fun p => by simp
  · obtain ⟨S', q1, q2, q3, q4⟩ := cData_spec hs hm0 hm1 hm (by simp; omega) (by simp; omega) (data_fits hs hm (by simp; omega) (by simp; omega)) ha hS
    refine ⟨S', q1, q2, q3, ?_⟩
    generalize (if (S.W.length : Int) + sizeT (norm (.mk k w ks)) ≤ m then (0 : Int) else 3) = res at q4
    refine specF_of t_copy_copier_value (by simp) args famA_v fun w0 I0 M0 m0 => ?_
    unfold c_copy_copier_value
    simp
    refine sc_call (refKind_spec l r) (by simp) ?_
    rw [hkr]
    simp [k0]
    refine sc_call (refKind_spec l r) (by simp) ?_
    rw [hkr]
    simp [k1]
    refine sc_call (refKind_spec l r) (by simp) ?_
    rw [hkr]
    simp [k9]
    refine sc_call (refKind_spec l r) (by simp) ?_
    rw [hkr]
    simp [k8]
    refine sc_fam 0 q4 (fun p => by simp) (by simp) (by simp) ?_
    simp
    exact reth_fam rfl rfl fun p => by simp

/-! ### a value's words -/
def cpMost (most : Int) : Int := min (max most 0) 131072
theorem cWords_spec {l : List (List Int)} (hs : Sg l) {r : Rf} {t : T} (hm : Means l r t) (most : Int) (h10 : t.kind ≠ 10) :
    G.Spec Try.prog 40 [paX l r, iv most] (.tup [uws (if 1 + sizeT (norm t) ≤ cpMost most then layT (norm t) 0 [0] else []), iv (if 1 + sizeT (norm t) ≤ cpMost most then 0 else 3)]) := by
  have hm0 : 0 ≤ cpMost most := by unfold cpMost; omega
  have hm1 : cpMost most ≤ 131072 := by unfold cpMost; omega
  have hmm : min (max most 0) 131072 = cpMost most := rfl
  have hkr := means_kind hm
  have hsz := (size_nonneg (norm t)).1 (laid_of hs _ _ hm h10)
  have hG := cGive_spec hm0 hm1 ⟨1, []⟩ (by simp) 1 (by omega)
  refine spec_of t_copy_Words (by simp) fun w0 I0 => ?_
  unfold c_copy_Words
  simp [hmm]
  refine stop_le (le_blankC (d := [1]) 0 [1, 0] 1 rfl rfl (by simp)) (stop_go ?_)
  have hF : ∀ H : Hp, H [1] = ⟨1, .cells [.osl [1, 0] 1 1 0 0, iv (cpMost most)]⟩ → H [1, 0] = ⟨1, .arr 1 []⟩ → (∀ p, p ≠ [] → p ≠ [0] → H (1 :: p) = ⟨0, .none⟩) → ∀ p, H (1 :: p) = (cpM (cpMost most) ⟨1, []⟩).F 1 p := fun H h1 h2 h3 p => by
    by_cases p0 : p = []
    · subst p0; rw [h1]; simp
    · by_cases p1 : p = [0]
      · subst p1; rw [h2]; simp
      · rw [h3 p p0 p1]
        match p, p0, p1 with
        | [], h, _ => exact absurd rfl h
        | [0], _, h => exact absurd rfl h
        | 0 :: a :: q, _, _ => rfl
        | (a + 1) :: q, _, _ => rfl
  simp [updF_app]
  refine sc_fam 1 hG (hF _ (by simp [updF_app]) (by simp [updF_app]) (fun p h1 h2 => by simp [updF_app, Ne.symm h1, h1, h2, Ne.symm h2])) (by simp) (by simp) ?_
  by_cases h1 : (1 : Int) ≤ cpMost most
  · obtain ⟨g1, g2⟩ := giveC_yes (m := cpMost most) (S := ⟨1, []⟩) (n := 1) (by simpa using h1)
    rw [g1, g2]
    obtain ⟨S', q1, q2, q3, q4⟩ := (cValue_spec hs hm0 hm1 t).1 r ⟨2, [0]⟩ 0 hm h10 (by simp) (by simpa using h1)
    simp only [List.length_singleton] at q1 q2 q3 q4
    simp
    refine sc_call (refKind_spec l r) (by simp) ?_
    rw [hkr]
    simp [h10]
    refine sc_fam 1 q4 (fun p => by simp [updF_app]) (by simp) (by simp) ?_
    by_cases hf : 1 + sizeT (norm t) ≤ cpMost most
    · rw [if_pos (by simpa using hf)]
      have hW := q3 (by simpa using hf)
      simp [hf]
      refine frz_tup ?_
      simp
      rw [← hW]
      exact ⟨frz_row (f := uv) (by simp) rfl (fun x => by simp), frz_bare rfl⟩
    · rw [if_neg (by simpa using hf)]
      simp [hf]
      exact frz_tup (by simp; exact ⟨frz_sl, frz_bare rfl⟩)
  · obtain ⟨g1, g2⟩ := giveC_no (m := cpMost most) (S := ⟨1, []⟩) (n := 1) (by simpa using h1)
    rw [g1, g2]
    have hf : ¬ 1 + sizeT (norm t) ≤ cpMost most := by omega
    simp [hf]
    refine sc_call (refKind_spec l r) (by simp) ?_
    rw [hkr]
    simp [h10]
    exact frz_tup (by simp; exact ⟨frz_sl, frz_bare rfl⟩)
end Go.Proofs.Ytigdcnlhgelkaaa

/-
  Chapter 12's reference: a tree is laid.
-/
namespace Go.Proofs.Ytigdcnlhgelkaaa
set_option linter.unusedVariables false
set_option linter.unusedSimpArgs false
open Go Go.G Go.Proofs Go.PL

theorem uvs_fam {l : List Int} : ∀ x, x ∈ l.map uv → FamA (fun _ => x) := fun x hx => by
  obtain ⟨n, _, rfl⟩ := List.mem_map.1 hx
  exact famA_v
abbrev uvM (u : Nat) (l : List Int) : Fam := rowM u 1 (l.map uv) uvs_fam
theorem ptrZ_in {a b k u : Int} (a0 : 0 ≤ a) (a1 : a ≤ 200000) (b0 : 0 ≤ b) (b1 : b ≤ 200000) (k0 : 0 ≤ k) (k1 : k ≤ 3) (u0 : 0 ≤ u) (u1 : u < 4294967296) : u64R (ptrZ a b k u) := by
  unfold ptrZ u64R
  split <;> omega
theorem rPointer_spec {a b k u : Int} (a0 : 0 ≤ a) (a1 : a ≤ 200000) (b0 : 0 ≤ b) (b1 : b ≤ 200000) (k0 : 0 ≤ k) (k1 : k ≤ 3) (u0 : 0 ≤ u) (u1 : u < 4294967296) : G.Spec Try.prog 110 [iv a, iv b, iv k, uv u] (uv (ptrZ a b k u)) := by
  refine spec_of t_centoref12_pointer (by simp) fun w0 I0 => ?_
  unfold c_centoref12_pointer
  have e1 : IntKind.i64.wrap (b - a) = b - a := i64_same (by omega) (by omega)
  have e2 : IntKind.i64.wrap (b - a - 1) = b - a - 1 := i64_same (by omega) (by omega)
  by_cases hlt : b - a - 1 < 0
  · have e3 : IntKind.i64.wrap (b - a - 1 + 1073741824) = b - a - 1 + 1073741824 := i64_same (by omega) (by omega)
    have e4 : IntKind.i64.wrap (4 * (b - a - 1 + 1073741824)) = 4 * (b - a - 1 + 1073741824) := i64_same (by omega) (by omega)
    have e5 : IntKind.i64.wrap (4 * (b - a - 1 + 1073741824) + k) = 4 * (b - a - 1 + 1073741824) + k := i64_same (by omega) (by omega)
    have e6 : IntKind.u64.wrap (4 * (b - a - 1 + 1073741824) + k) = 4 * (b - a - 1 + 1073741824) + k := u64_same (by omega) (by omega)
    have e7 : IntKind.u64.wrap (u * 4294967296) = u * 4294967296 := u64_same (by omega) (by omega)
    have e8 : IntKind.u64.wrap (4 * (b - a - 1 + 1073741824) + k + u * 4294967296) = 4 * (b - a - 1 + 1073741824) + k + u * 4294967296 := u64_same (by omega) (by omega)
    simp [e1, e2, e3, hlt, k1_centoref12_pointer, e4, e5, e6, e7, e8]
    exact frz_is rfl (by simp [ptrZ, hlt])
  · have e4 : IntKind.i64.wrap (4 * (b - a - 1)) = 4 * (b - a - 1) := i64_same (by omega) (by omega)
    have e5 : IntKind.i64.wrap (4 * (b - a - 1) + k) = 4 * (b - a - 1) + k := i64_same (by omega) (by omega)
    have e6 : IntKind.u64.wrap (4 * (b - a - 1) + k) = 4 * (b - a - 1) + k := u64_same (by omega) (by omega)
    have e7 : IntKind.u64.wrap (u * 4294967296) = u * 4294967296 := u64_same (by omega) (by omega)
    have e8 : IntKind.u64.wrap (4 * (b - a - 1) + k + u * 4294967296) = 4 * (b - a - 1) + k + u * 4294967296 := u64_same (by omega) (by omega)
    simp [e1, e2, hlt, k1_centoref12_pointer, e4, e5, e6, e7, e8]
    exact frz_is rfl (by simp [ptrZ, hlt])
section
variable {n0 : Nat} {w0 : World} {I0 M0 : Nat → Prop} {m0 : Mu} {Q : Exit → Sta → Prop}
theorem rAdd_l1 {u n : Nat} {W : List Int} (hn : W.length + n ≤ 1000000) (hq : ∀ q H', (∀ p, H' (0 :: p) = (uvM (u + n) (W ++ List.replicate n 0)).F 0 p) → Q (.exit 0) ⟨lk [(0, .osl [0] (u + n) 1 0 (W.length + n)), (1, nv n), (5, nv n), (8, bv q)], H'⟩) :
    ∀ (j i : Nat) (H : Hp), i + j = n → (∀ p, H (0 :: p) = (uvM (u + i) (W ++ List.replicate i 0)).F 0 p) →
    LoopC (cxh Try.prog w0 I0 M0 n0 m0) l1_centoref12_add Q ⟨lk [(0, .osl [0] (u + i) 1 0 (W.length + i)), (1, nv n), (5, nv i)], H⟩ := by
  intro j
  induction j with
  | zero =>
    intro i H hi hH
    have : i = n := by omega
    subst this
    refine loopC_once mixed l1_centoref12_add.eq_1 ?_
    simp
    exact hq _ H hH
  | succ j ih =>
    intro i H hi hH
    have hlt : i < n := by omega
    have ei : IntKind.i64.wrap ((i : Int) + 1) = ((i + 1 : Nat) : Int) := i64_same (by omega) (by omega)
    have h0 := hH []
    simp at h0
    refine loopC_once mixed l1_centoref12_add.eq_1 ?_
    simp [hlt, h0, ei]
    refine ⟨by omega, ?_⟩
    refine ih (i + 1) _ (by omega) fun p => ?_
    by_cases hp : p = []
    · subst hp
      simp [updF_app, List.take_of_length_le, List.replicate_succ', Nat.add_assoc]
    · simp [updF_app, hp, hH]
end
theorem rAdd_spec (u n : Nat) (W : List Int) (hn : W.length + n ≤ 1000000) : SpecF Try.prog 111 (fun r => [.osl [r] u 1 0 W.length, nv n]) (uvM u W) (fun r => .osl [r] (u + n) 1 0 (W.length + n)) (uvM (u + n) (W ++ List.replicate n 0)) := by
  refine specF_of t_centoref12_add (by simp) (famL_cons famA_osl (famL_cons famA_v famL_nil)) famA_osl fun w0 I0 M0 m0 => ?_
  unfold c_centoref12_add
  simp
  refine rAdd_l1 (u := u) (n := n) (W := W) hn (fun q H' hH => ?_) n 0 _ (by omega) (fun p => by simp)
  simp
  exact reth_fam rfl rfl hH
end Go.Proofs.Ytigdcnlhgelkaaa

/-
  Chapter 14: the law CopyEnds.
-/
namespace Go.Proofs.Ytigdcnlhgelkaaa
set_option linter.unusedVariables false
set_option linter.unusedSimpArgs false
open Go Go.G Go.Proofs Go.PL

theorem awake14_lay : layT (.mk 1 [7] []) 0 [0] = [4294967296, 7] := by
  rw [layT_mk]
  simp [ptrZ]
theorem awake14_spec : G.Spec Try.prog 37 [] (bv true) := by
  have m2 := unfold_means sg2 (a := 64) (b := 3000) (by rw [unf2])
  rw [unf2] at m2
  have hn : norm (.mk 1 [7, 0] []) = .mk 1 [7] [] := by simp [norm_mk, trimW, trimK]
  have hW := cWords_spec sg2 m2 2 (by simp)
  have hL := long_spec sg2 m2
  have hfit : 1 + sizeT (.mk 1 [7] []) ≤ cpMost 2 := by rw [sizeT_mk]; simp [cpMost]; omega
  rw [hn, awake14_lay, if_pos hfit, if_pos hfit] at hW
  have hl1 : (trimW (T.mk 1 [7, 0] []).words).length = 1 := by simp [trimW]
  rw [hl1] at hL
  refine spec_of t_centolaw14_awake (by simp) fun w0 I0 => ?_
  unfold c_centolaw14_awake
  simp
  refine sc_call ((of_spec s2 (by simp) sg2.b).soft (by simp [A.softL, A.soft])) rfl ?_
  simp
  refine sc_call (root_spec sg2) rfl ?_
  simp
  refine sc_call hW (by simp) ?_
  have h0 : (atP s2 0 0).2 = 0 := by kernel_rfl
  simp [h0]
  refine sc_call_gt rfl (fun _ => (rSame_spec [4294967296, 7] [4294967296, 7] (by simp)).soft (by simp [A.softL, A.soft])) (fun _ => rfl) rfl ?_
  simp
  refine sc_call_gt rfl (fun _ => hL) (fun _ => rfl) (by simp) ?_
  simp
  exact frz_bare rfl
section
variable {n0 : Nat} {w0 : World} {I0 : Nat → Prop} {Q : Exit → Sta → Prop}
theorem i64_and1023 (n : Int) : bits .and .i64 n 1023 = n % 1024 := by
  have h7 : (BitVec.ofInt 64 1023).toNat = 2 ^ 10 - 1 := by decide
  have key : (BitVec.ofInt 64 n &&& BitVec.ofInt 64 1023).toNat = (n % ((2 ^ 64 : Nat) : Int)).toNat % 2 ^ 10 := by
    rw [BitVec.toNat_and, BitVec.toNat_ofInt, h7, Nat.and_two_pow_sub_one_eq_mod]
  show IntKind.i64.wrap ((BitVec.ofInt 64 n &&& BitVec.ofInt 64 1023).toNat : Nat) = n % 1024
  rw [key, IntKind.wrap_i64]
  omega
end
end Go.Proofs.Ytigdcnlhgelkaaa

/-
  Chapter 12's reference: trees are laid.
-/
namespace Go.Proofs.Ytigdcnlhgelkaaa
set_option linter.unusedVariables false
set_option linter.unusedSimpArgs false
open Go Go.G Go.Proofs Go.PL

section
variable {n0 : Nat} {w0 : World} {I0 : Nat → Prop} {Q : Exit → Sta → Prop}
theorem atoms_l1 {t : T} (hl : t.kids.length ≤ 1000000000) (hw : ∀ c, c ∈ t.kids → c.words = [hd c]) (hq : ∀ (q : Bool) (u : Nat) (H : Hp), H [1] = ⟨u, .arr 1 ((t.kids.map hd).map uv)⟩ → Q (.exit 0) ⟨lk [(1, .pob [0] 1 0), (3, .osl [1] u 1 0 t.kids.length), (4, nv t.kids.length), (9, bv q)], H⟩) :
    ∀ (j i u : Nat) (H : Hp), i + j = t.kids.length → H [0] = ⟨1, .cells (tL t)⟩ → H [1] = ⟨u, .arr 1 (((t.kids.take i).map hd).map uv)⟩ →
    LoopC (cx Try.prog w0 I0 n0) l1_centoref12_atoms Q ⟨lk [(1, .pob [0] 1 0), (3, .osl [1] u 1 0 i), (4, nv i)], H⟩ := by
  intro j
  induction j with
  | zero =>
    intro i u H hi h0 h1
    have : i = t.kids.length := by omega
    subst this
    rw [List.take_of_length_le (Nat.le_refl _)] at h1
    refine loopC_once mixed l1_centoref12_atoms.eq_1 ?_
    simp [h0]
    exact hq _ u H h1
  | succ j ih =>
    intro i u H hi h0 h1
    have hlt : i < t.kids.length := by omega
    have hx := hw _ (List.getElem_mem hlt)
    have ei : IntKind.i64.wrap ((i : Int) + 1) = ((i + 1 : Nat) : Int) := i64_same (by omega) (by omega)
    have htk : ((t.kids.take (i + 1)).map hd).map uv = ((t.kids.take i).map hd).map uv ++ [uv (hd t.kids[i])] := by rw [List.take_succ_eq_append_getElem hlt, List.map_append, List.map_append]; rfl
    refine loopC_once mixed l1_centoref12_atoms.eq_1 ?_
    simp [h0, hlt, hx, h1, ei]
    refine ⟨⟨by omega, by omega⟩, ?_⟩
    refine ih (i + 1) (u + 1) _ (by omega) (by simp [updF_app, h0]) ?_
    rw [htk]
    simp [updF_app]
    rw [List.take_take, Nat.min_self]
end
theorem rAtoms_spec {t : T} (hl : t.kids.length ≤ 1000000000) (hw : ∀ c, c ∈ t.kids → c.words = [hd c]) : G.Spec Try.prog 112 [tX t] (uws (t.kids.map hd)) := by
  refine spec_of t_centoref12_atoms (by simp) fun w0 I0 => ?_
  unfold c_centoref12_atoms
  simp
  refine LoopC.le (le_blank 3 [1] 1 (by simp)) ?_
  simp
  refine LoopC.le (le_list [(1, .pob [0] 1 0), (3, .osl [1] 1 1 0 0), (4, nv 0)] (by simp [upd])) ?_
  refine atoms_l1 hl hw (fun q u H h1 => ?_) t.kids.length 0 1 _ (by omega) (by simp) (by simp)
  simp
  exact frz_row (f := uv) (by rw [h1]; simp) (by simp) (fun x => by simp)

/-- A tree is laid as the document says. -/
def RL (t : T) : Prop := ∀ (u : Nat) (W : List Int) (a : Nat), LayOk t → a < W.length → (W.length : Int) + sizeT t ≤ 200000 →
  ∃ u', SpecF Try.prog 76 (fun r => [.osl [r] u 1 0 W.length, nv a, tX t]) (uvM u W) (fun r => .osl [r] u' 1 0 (layT t a W).length) (uvM u' (layT t a W))
theorem rlay_l1 {t : T} (ih : ∀ c, c ∈ t.kids → RL c) (hok : ∀ c, c ∈ t.kids → LayOk c) {to : Nat} (hto : to + t.words.length + t.kids.length ≤ 200000) : ∀ (j i u : Nat) (W : List Int), i + j = t.kids.length → to + t.words.length + t.kids.length ≤ W.length → (W.length : Int) + sizeL (t.kids.drop i) ≤ 200000 →
    ∃ u', ∀ {n0 : Nat} {w0 : World} {I0 M0 : Nat → Prop} {m0 : Mu} {Q : Exit → Sta → Prop} (H : Hp), (∀ p, H (0 :: p) = (uvM u W).F 0 p) → H [1] = ⟨1, .cells (tL t)⟩ →
      (∀ q H', (∀ p, H' (0 :: p) = (uvM u' (layL (t.kids.drop i) (to + t.words.length + i) W)).F 0 p) → Q (.exit 1) ⟨lk [(0, .osl [0] u' 1 0 (layL (t.kids.drop i) (to + t.words.length + i) W).length), (5, .pob [1] 1 0), (7, nv to), (8, nv t.kids.length), (65, bv q)], H'⟩) →
      LoopC (cxh Try.prog w0 I0 M0 n0 m0) l1_centoref12_Lay Q ⟨lk [(0, .osl [0] u 1 0 W.length), (5, .pob [1] 1 0), (7, nv to), (8, nv i)], H⟩ := by
  intro j
  induction j with
  | zero =>
    intro i u W hi hb hs
    have : i = t.kids.length := by omega
    subst this
    rw [List.drop_eq_nil_of_le (Nat.le_refl _)]
    refine ⟨u, fun H hH hA hq => ?_⟩
    refine loopC_once mixed l1_centoref12_Lay.eq_1 ?_
    simp [hA]
    simp only [layL_nil] at hq
    exact hq _ H hH
  | succ j ihj =>
    intro i u W hi hb hs
    have hlt : i < t.kids.length := by omega
    have hlay := hok _ (List.getElem_mem hlt)
    have hdr : t.kids.drop i = t.kids[i] :: t.kids.drop (i + 1) := List.drop_eq_getElem_cons hlt
    have hrest := sizeL_nonneg (ts := t.kids.drop (i + 1)) fun c hc => hok c (List.mem_of_mem_drop hc)
    rw [hdr, sizeL_cons] at hs
    rw [hdr]
    simp only [layL_cons]
    have hlen := (lay_len _).1 hlay (to + t.words.length + i) W
    have hsz := (size_nonneg _).1 hlay
    obtain ⟨u1, h1⟩ := ih _ (List.getElem_mem hlt) u W (to + t.words.length + i) hlay (by omega) (by omega)
    obtain ⟨u', h2⟩ := ihj (i + 1) u1 (layT t.kids[i] (to + t.words.length + i) W) (by omega) (by omega) (by omega)
    rw [show to + t.words.length + (i + 1) = to + t.words.length + i + 1 from by omega] at h2
    have ei : IntKind.i64.wrap ((i : Int) + 1) = ((i + 1 : Nat) : Int) := i64_same (by omega) (by omega)
    have e1 : IntKind.i64.wrap ((to : Int) + t.words.length) = (to : Int) + t.words.length := i64_same (by omega) (by omega)
    have e2 : IntKind.i64.wrap ((to : Int) + t.words.length + i) = (to : Int) + t.words.length + i := i64_same (by omega) (by omega)
    refine ⟨u', fun H hH hA hq => ?_⟩
    refine loopC_once mixed l1_centoref12_Lay.eq_1 ?_
    simp [hA, hlt, e1, e2]
    refine sc_fam 0 h1 hH (by simp) (by simp) ?_
    simp [ei]
    exact h2 _ (fun p => by simp) (by simp [hA]) hq
theorem rlay_l2 {t : T} (ih : ∀ c, c ∈ t.kids → RL c) (hok : ∀ c, c ∈ t.kids → LayOk c) {to : Nat} (hto : to + t.kids.length ≤ 200000) : ∀ (j i u : Nat) (W : List Int), i + j = t.kids.length → to + t.kids.length ≤ W.length → (W.length : Int) + sizeL (t.kids.drop i) ≤ 200000 →
    ∃ u', ∀ {n0 : Nat} {w0 : World} {I0 M0 : Nat → Prop} {m0 : Mu} {Q : Exit → Sta → Prop} (H : Hp), (∀ p, H (0 :: p) = (uvM u W).F 0 p) → H [1] = ⟨1, .cells (tL t)⟩ →
      (∀ q H', (∀ p, H' (0 :: p) = (uvM u' (layL (t.kids.drop i) (to + i) W)).F 0 p) → Q (.exit 3) ⟨lk [(0, .osl [0] u' 1 0 (layL (t.kids.drop i) (to + i) W).length), (5, .pob [1] 1 0), (7, nv to), (9, nv t.kids.length), (106, bv q)], H'⟩) →
      LoopC (cxh Try.prog w0 I0 M0 n0 m0) l2_centoref12_Lay Q ⟨lk [(0, .osl [0] u 1 0 W.length), (5, .pob [1] 1 0), (7, nv to), (9, nv i)], H⟩ := by
  intro j
  induction j with
  | zero =>
    intro i u W hi hb hs
    have : i = t.kids.length := by omega
    subst this
    rw [List.drop_eq_nil_of_le (Nat.le_refl _)]
    refine ⟨u, fun H hH hA hq => ?_⟩
    refine loopC_once mixed l2_centoref12_Lay.eq_1 ?_
    simp [hA]
    simp only [layL_nil] at hq
    exact hq _ H hH
  | succ j ihj =>
    intro i u W hi hb hs
    have hlt : i < t.kids.length := by omega
    have hlay := hok _ (List.getElem_mem hlt)
    have hdr : t.kids.drop i = t.kids[i] :: t.kids.drop (i + 1) := List.drop_eq_getElem_cons hlt
    have hrest := sizeL_nonneg (ts := t.kids.drop (i + 1)) fun c hc => hok c (List.mem_of_mem_drop hc)
    rw [hdr, sizeL_cons] at hs
    rw [hdr]
    simp only [layL_cons]
    have hlen := (lay_len _).1 hlay (to + i) W
    have hsz := (size_nonneg _).1 hlay
    obtain ⟨u1, h1⟩ := ih _ (List.getElem_mem hlt) u W (to + i) hlay (by omega) (by omega)
    obtain ⟨u', h2⟩ := ihj (i + 1) u1 (layT t.kids[i] (to + i) W) (by omega) (by omega) (by omega)
    rw [show to + (i + 1) = to + i + 1 from by omega] at h2
    have ei : IntKind.i64.wrap ((i : Int) + 1) = ((i + 1 : Nat) : Int) := i64_same (by omega) (by omega)
    have e1 : IntKind.i64.wrap ((to : Int) + i) = (to : Int) + i := i64_same (by omega) (by omega)
    refine ⟨u', fun H hH hA hq => ?_⟩
    refine loopC_once mixed l2_centoref12_Lay.eq_1 ?_
    simp [hA, hlt, e1]
    refine sc_fam 0 h1 hH (by simp) (by simp) ?_
    simp [ei]
    exact h2 _ (fun p => by simp) (by simp [hA]) hq
/-- The rows of a list of structs. -/
theorem rlay_l3 {t : T} {w k to : Nat} (hwk : ∀ c, c ∈ t.kids → c.words.length ≤ w) (hk : w + k ≤ 131072) (hn : t.kids.length < 536870912) : ∀ (j i u : Nat) (W : List Int), i + j = t.kids.length → W.length + j * (w + k) ≤ 200000 →
    ∃ u', ∀ {n0 : Nat} {w0 : World} {I0 M0 : Nat → Prop} {m0 : Mu} {Q : Exit → Sta → Prop} (H : Hp), (∀ p, H (0 :: p) = (uvM u W).F 0 p) → H [1] = ⟨1, .cells (tL t)⟩ →
      (∀ q H', (∀ p, H' (0 :: p) = (uvM u' (W ++ rowsC w k (t.kids.drop i))).F 0 p) → H' [1] = ⟨1, .cells (tL t)⟩ → Q (.exit 5) ⟨lk [(0, .osl [0] u' 1 0 (W ++ rowsC w k (t.kids.drop i)).length), (5, .pob [1] 1 0), (7, nv to), (10, nv w), (11, nv k), (12, nv t.kids.length), (13, nv t.kids.length), (160, bv q)], H'⟩) →
      LoopC (cxh Try.prog w0 I0 M0 n0 m0) l3_centoref12_Lay Q ⟨lk [(0, .osl [0] u 1 0 W.length), (5, .pob [1] 1 0), (7, nv to), (10, nv w), (11, nv k), (12, nv t.kids.length), (13, nv i)], H⟩ := by
  intro j
  induction j with
  | zero =>
    intro i u W hi hb
    have : i = t.kids.length := by omega
    subst this
    rw [List.drop_eq_nil_of_le (Nat.le_refl _)]
    refine ⟨u, fun H hH hA hq => ?_⟩
    refine loopC_once mixed l3_centoref12_Lay.eq_1 ?_
    simp only [rowsC, List.append_nil] at hq
    simp
    exact hq _ H hH hA
  | succ j ihj =>
    intro i u W hi hb
    have hlt : i < t.kids.length := by omega
    have hw := hwk _ (List.getElem_mem hlt)
    have hdr : t.kids.drop i = t.kids[i] :: t.kids.drop (i + 1) := List.drop_eq_getElem_cons hlt
    rw [Nat.add_mul, Nat.one_mul] at hb
    rw [hdr]
    simp only [rowsC]
    have hA1 := rAdd_spec (u + 1) (w + k - t.kids[i].words.length) (W ++ t.kids[i].words) (by simp; omega)
    obtain ⟨u', h2⟩ := ihj (i + 1) (u + 1 + (w + k - t.kids[i].words.length)) (W ++ t.kids[i].words ++ List.replicate (w + k - t.kids[i].words.length) 0) (by omega) (by simp; omega)
    have ei : IntKind.i64.wrap ((i : Int) + 1) = ((i + 1 : Nat) : Int) := i64_same (by omega) (by omega)
    have e1 : IntKind.i64.wrap ((w : Int) + k) = (w : Int) + k := i64_same (by omega) (by omega)
    have e2 : IntKind.i64.wrap ((w : Int) + k - t.kids[i].words.length) = ((w + k - t.kids[i].words.length : Nat) : Int) := (i64_same (by omega) (by omega)).trans (by omega)
    refine ⟨u', fun H hH hA hq => ?_⟩
    have h0 := hH []
    simp at h0
    refine loopC_once mixed l3_centoref12_Lay.eq_1 ?_
    have hle : (W.length + t.kids[i].words.length) * 8 ≤ 140737488355328 := by omega
    simp [hA, hlt, h0, e1, hle, updF_app]
    rw [e2]
    refine sc_fam 0 hA1 (fun p => ?_) (by simp) (by simp) ?_
    · by_cases hp : p = []
      · subst hp
        simp [updF_app, List.take_of_length_le]
      · simp [updF_app, hp, hH]
    simp [ei]
    simp only [← List.append_assoc] at hq
    rw [show W.length + t.kids[i].words.length + (w + k - t.kids[i].words.length) = (W ++ t.kids[i].words ++ List.replicate (w + k - t.kids[i].words.length) 0).length from by simp; omega, ← List.append_assoc]
    exact h2 _ (fun p => by simp) (by simp [updF_app, hA]) hq
/-- The kids of one struct of a list. -/
theorem rlay_l4 {t : T} {c : T} {x : Nat} (hx : x < t.kids.length) (hc : t.kids[x] = c) (ih : ∀ d, d ∈ c.kids → RL d) (hok : ∀ d, d ∈ c.kids → LayOk d) {w k to b : Nat} (hwk2 : w + k ≤ 131072) (hb : b = to + 1 + x * (w + k) + w) (hb2 : b + c.kids.length ≤ 200000) : ∀ (j i u : Nat) (W : List Int), i + j = c.kids.length → b + c.kids.length ≤ W.length → (W.length : Int) + sizeL (c.kids.drop i) ≤ 200000 →
    ∃ u', ∀ {n0 : Nat} {w0 : World} {I0 M0 : Nat → Prop} {m0 : Mu} {Q : Exit → Sta → Prop} (H : Hp), (∀ p, H (0 :: p) = (uvM u W).F 0 p) → H [1] = ⟨1, .cells (tL t)⟩ →
      (∀ q H', (∀ p, H' (0 :: p) = (uvM u' (layL (c.kids.drop i) (b + i) W)).F 0 p) → H' [1] = ⟨1, .cells (tL t)⟩ → Q (.exit 9) ⟨lk [(0, .osl [0] u' 1 0 (layL (c.kids.drop i) (b + i) W).length), (5, .pob [1] 1 0), (7, nv to), (10, nv w), (11, nv k), (12, nv t.kids.length), (14, nv x), (15, nv c.kids.length), (197, bv q)], H'⟩) →
      LoopC (cxh Try.prog w0 I0 M0 n0 m0) l4_centoref12_Lay Q ⟨lk [(0, .osl [0] u 1 0 W.length), (5, .pob [1] 1 0), (7, nv to), (10, nv w), (11, nv k), (12, nv t.kids.length), (14, nv x), (15, nv i)], H⟩ := by
  subst hc
  intro j
  induction j with
  | zero =>
    intro i u W hi hbw hs
    have : i = t.kids[x].kids.length := by omega
    subst this
    rw [List.drop_eq_nil_of_le (Nat.le_refl _)]
    refine ⟨u, fun H hH hA hq => ?_⟩
    refine loopC_once mixed l4_centoref12_Lay.eq_1 ?_
    simp [hA, hx]
    simp only [layL_nil] at hq
    exact hq _ H hH hA
  | succ j ihj =>
    intro i u W hi hbw hs
    have hlt : i < t.kids[x].kids.length := by omega
    have hlay := hok _ (List.getElem_mem hlt)
    have hdr : t.kids[x].kids.drop i = t.kids[x].kids[i] :: t.kids[x].kids.drop (i + 1) := List.drop_eq_getElem_cons hlt
    have hrest := sizeL_nonneg (ts := t.kids[x].kids.drop (i + 1)) fun c hc => hok c (List.mem_of_mem_drop hc)
    rw [hdr, sizeL_cons] at hs
    rw [hdr]
    simp only [layL_cons]
    have hlen := (lay_len _).1 hlay (b + i) W
    have hsz := (size_nonneg _).1 hlay
    obtain ⟨u1, h1⟩ := ih _ (List.getElem_mem hlt) u W (b + i) hlay (by omega) (by omega)
    obtain ⟨u', h2⟩ := ihj (i + 1) u1 (layT t.kids[x].kids[i] (b + i) W) (by omega) (by omega) (by omega)
    rw [show b + (i + 1) = b + i + 1 from by omega] at h2
    have ei : IntKind.i64.wrap ((i : Int) + 1) = ((i + 1 : Nat) : Int) := i64_same (by omega) (by omega)
    have hprod : (x : Int) * ((w : Int) + k) = ((x * (w + k) : Nat) : Int) := by rw [Int.natCast_mul, Int.natCast_add]
    have e1 : IntKind.i64.wrap ((w : Int) + k) = (w : Int) + k := i64_same (by omega) (by omega)
    have e2 : IntKind.i64.wrap ((x : Int) * ((w : Int) + k)) = (x : Int) * ((w : Int) + k) := i64_same (by omega) (by omega)
    have e3 : IntKind.i64.wrap ((to : Int) + 1) = (to : Int) + 1 := i64_same (by omega) (by omega)
    have e4 : IntKind.i64.wrap ((to : Int) + 1 + (x : Int) * ((w : Int) + k)) = (to : Int) + 1 + (x : Int) * ((w : Int) + k) := i64_same (by omega) (by omega)
    have e5 : IntKind.i64.wrap ((to : Int) + 1 + (x : Int) * ((w : Int) + k) + w) = (b : Int) := (i64_same (by omega) (by omega)).trans (by omega)
    have e6 : IntKind.i64.wrap ((b : Int) + i) = (b : Int) + i := i64_same (by omega) (by omega)
    refine ⟨u', fun H hH hA hq => ?_⟩
    refine loopC_once mixed l4_centoref12_Lay.eq_1 ?_
    simp [hA, hx, hlt, e1, e2, e3, e4, e5, e6]
    refine sc_fam 0 h1 hH (by simp) (by simp) ?_
    simp [ei]
    exact h2 _ (fun p => by simp) (by simp [hA]) hq
/-- The kids of all structs of a list. -/
theorem rlay_l5 {t : T} (hk2 : ∀ c, c ∈ t.kids → ∀ d, d ∈ c.kids → RL d ∧ LayOk d) {w k to : Nat} (hwk : ∀ c, c ∈ t.kids → c.kids.length ≤ k) (hwk2 : w + k ≤ 131072) (hn : t.kids.length < 536870912) (hto : to + 1 + t.kids.length * (w + k) ≤ 200000) : ∀ (j i u : Nat) (W : List Int), i + j = t.kids.length → to + 1 + t.kids.length * (w + k) ≤ W.length → (W.length : Int) + sizeLL (t.kids.drop i) ≤ 200000 →
    ∃ u', ∀ {n0 : Nat} {w0 : World} {I0 M0 : Nat → Prop} {m0 : Mu} {Q : Exit → Sta → Prop} (H : Hp), (∀ p, H (0 :: p) = (uvM u W).F 0 p) → H [1] = ⟨1, .cells (tL t)⟩ →
      (∀ q H', (∀ p, H' (0 :: p) = (uvM u' (layC w k (t.kids.drop i) (to + 1 + i * (w + k)) W)).F 0 p) → Q (.exit 7) ⟨lk [(0, .osl [0] u' 1 0 (layC w k (t.kids.drop i) (to + 1 + i * (w + k)) W).length), (5, .pob [1] 1 0), (7, nv to), (10, nv w), (11, nv k), (12, nv t.kids.length), (14, nv t.kids.length), (186, bv q)], H'⟩) →
      LoopC (cxh Try.prog w0 I0 M0 n0 m0) l5_centoref12_Lay Q ⟨lk [(0, .osl [0] u 1 0 W.length), (5, .pob [1] 1 0), (7, nv to), (10, nv w), (11, nv k), (12, nv t.kids.length), (14, nv i)], H⟩ := by
  intro j
  induction j with
  | zero =>
    intro i u W hi hbw hs
    have : i = t.kids.length := by omega
    subst this
    rw [List.drop_eq_nil_of_le (Nat.le_refl _)]
    refine ⟨u, fun H hH hA hq => ?_⟩
    refine loopC_once mixed l5_centoref12_Lay.eq_1 ?_
    simp only [layC_nil] at hq
    simp
    exact hq _ H hH
  | succ j ihj =>
    intro i u W hi hbw hs
    have hlt : i < t.kids.length := by omega
    have hdr : t.kids.drop i = t.kids[i] :: t.kids.drop (i + 1) := List.drop_eq_getElem_cons hlt
    have hc := hk2 _ (List.getElem_mem hlt)
    have hkl := hwk _ (List.getElem_mem hlt)
    have hmul : (i + 1) * (w + k) ≤ t.kids.length * (w + k) := Nat.mul_le_mul_right _ (by omega)
    have hmul2 : (i + 1) * (w + k) = i * (w + k) + (w + k) := by rw [Nat.add_mul, Nat.one_mul]
    have hrest : 0 ≤ sizeLL (t.kids.drop (i + 1)) := sizeLL_nonneg fun c hc d hd => (hk2 c (List.mem_of_mem_drop hc) d hd).2
    have hsz := sizeL_nonneg fun d hd => (hc d hd).2
    have hlen := layL_len (fun d hd => (hc d hd).2) (to + 1 + i * (w + k) + w) W
    rw [hdr, sizeLL_cons] at hs
    rw [hdr]
    simp only [layC_cons]
    obtain ⟨u1, h1⟩ := rlay_l4 (w := w) (k := k) (to := to) (b := to + 1 + i * (w + k) + w) hlt rfl (fun d hd => (hc d hd).1) (fun d hd => (hc d hd).2) hwk2 rfl (by omega) t.kids[i].kids.length 0 u W (by omega) (by omega) (by simpa using (by omega))
    rw [List.drop_zero, Nat.add_zero] at h1
    obtain ⟨u', h2⟩ := ihj (i + 1) u1 (layL t.kids[i].kids (to + 1 + i * (w + k) + w) W) (by omega) (by omega) (by omega)
    rw [show to + 1 + (i + 1) * (w + k) = to + 1 + i * (w + k) + (w + k) from by omega] at h2
    have ei : IntKind.i64.wrap ((i : Int) + 1) = ((i + 1 : Nat) : Int) := i64_same (by omega) (by omega)
    refine ⟨u', fun H hH hA hq => ?_⟩
    refine loopC_once mixed l5_centoref12_Lay.eq_1 ?_
    simp [hlt]
    refine h1 H hH hA (fun q H' hH' hA' => ?_)
    simp [ei]
    exact h2 H' hH' hA' hq
theorem famA_tX' (t : T) : FamA (fun _ => tX t) := famA_bare rfl fun y hy => by
  simp at hy
  rcases hy with rfl | rfl | rfl <;> rfl
theorem uvM_len {u u' : Nat} {W W' : List Int} (h : W = W') : uvM u W = uvM u W' := by rw [h]
theorem rLay_all : ∀ t : T, RL t ∧ ∀ c, c ∈ t.kids → RL c := by
  refine T.ind fun k w ks ih => ?_
  refine ⟨?_, fun c hc => (ih c hc).1⟩
  intro u W a hok ha hsz
  have args := famL_cons (famA_osl (u := u) (sz := 1) (off := 0) (len := W.length) (q := [])) (famL_cons (famA_v (x := .int .i64 (a : Int))) (famL_cons (famA_tX' (.mk k w ks)) famL_nil))
  have hset : ∀ x : Int, ∀ p, updF ((uvM u W).F 0) [] ⟨u, .arr 1 ((W.map uv).set a (uv x))⟩ p = (uvM u (W.set a x)).F 0 p := fun x p => by
    by_cases hp : p = []
    · subst hp; simp [updF_app, List.map_set]
    · simp [updF_app, hp]
  have hsz0 := (size_nonneg _).1 hok
  cases hok with
  | null =>
    have hl : layT (.mk 0 w []) a W = W := by rw [layT_mk, if_pos rfl]
    rw [hl]
    refine ⟨u, specF_of t_centoref12_Lay (by simp) args famA_osl fun w0 I0 M0 m0 => ?_⟩
    unfold c_centoref12_Lay
    simp
    exact reth_fam rfl rfl fun p => by simp
  | str w ks b1 b2 hk =>
    rw [sizeT_mk, if_pos rfl] at hsz
    have hkn := sizeL_nonneg hk
    have e1 : IntKind.u64.wrap (ks.length : Int) = ks.length := u64_same (by omega) (by omega)
    have e2 : IntKind.u64.wrap (65536 * (ks.length : Int)) = 65536 * ks.length := u64_same (by omega) (by omega)
    have e3 : IntKind.u64.wrap (w.length : Int) = w.length := u64_same (by omega) (by omega)
    have e4 : IntKind.u64.wrap ((w.length : Int) + 65536 * ks.length) = w.length + 65536 * ks.length := u64_same (by omega) (by omega)
    have e5 : IntKind.i64.wrap ((w.length : Int) + ks.length) = (w.length : Int) + ks.length := i64_same (by omega) (by omega)
    have hz' : ((w.length : Int) + ks.length = 0) = (w.length + ks.length = 0) := by rw [eq_iff_iff]; omega
    have hle : (W.length + w.length) * 8 ≤ 140737488355328 := by omega
    obtain ⟨to, hto⟩ : ∃ to : Nat, to = if w.length + ks.length = 0 then a else W.length := ⟨_, rfl⟩
    have hP := rPointer_spec (a := a) (b := to) (k := 0) (u := (w.length : Int) + 65536 * ks.length) (by omega) (by omega) (by omega) (by split at hto <;> omega) (by omega) (by omega) (by omega) (by omega)
    obtain ⟨P, hPP⟩ : ∃ P : Int, P = ptrZ a to 0 ((w.length : Int) + 65536 * ks.length) := ⟨_, rfl⟩
    rw [← hPP] at hP
    have hAdd := rAdd_spec (u + 1) ks.length (W.set a P ++ w) (by simp; omega)
    obtain ⟨u', hL⟩ := rlay_l1 (t := .mk 1 w ks) (fun c hc => (ih c hc).1) hk (to := to) (by simp; split at hto <;> omega) ks.length 0 (u + 1 + ks.length) (W.set a P ++ w ++ List.replicate ks.length 0) (by simp) (by simp; split at hto <;> omega) (by simp; omega)
    have hl : layT (.mk 1 w ks) a W = layL ks (to + w.length) (W.set a P ++ w ++ List.replicate ks.length 0) := by
      rw [layT_mk, if_neg (by decide), if_pos rfl, hPP]
      by_cases hz : w.length + ks.length = 0
      · have : ks = [] := List.eq_nil_of_length_eq_zero (by omega)
        subst this
        rw [if_pos hz] at hto
        subst hto
        rw [if_pos hz]
        simp
      · rw [if_neg hz] at hto
        subst hto
        rw [if_neg hz]
    simp only [T.kids_mk, T.words_mk, List.drop_zero, Nat.add_zero] at hL
    obtain ⟨R, hR⟩ : ∃ R, R = layL ks (to + w.length) (W.set a P ++ w ++ List.replicate ks.length 0) := ⟨_, rfl⟩
    rw [hl, ← hR]
    rw [← hR] at hL
    have hset2 : ∀ p, updF ((uvM u W).F 0) [] ⟨u + 1, .arr 1 (List.take W.length ((W.map uv).set a (uv P)) ++ w.map uv)⟩ p = (uvM (u + 1) (W.set a P ++ w)).F 0 p := fun p => by
      by_cases hp : p = []
      · subst hp; simp [updF_app, List.map_set, List.take_of_length_le]
      · simp [updF_app, hp]
    refine ⟨u', specF_of t_centoref12_Lay (by simp) args famA_osl fun w0 I0 M0 m0 => ?_⟩
    unfold c_centoref12_Lay
    have fin : ∀ Q : Exit → Sta → Prop, (∀ H', (∀ p, H' (0 :: p) = (uvM u' R).F 0 p) → Q .ret ⟨lk [(6, .osl [0] u' 1 0 R.length)], H'⟩) → WPC (cxh Try.prog w0 I0 M0 252 m0) k1_centoref12_Lay Q ⟨lk [(0, .osl [0] u 1 0 W.length), (1, nv a), (5, .pob [1] 1 0), (7, nv to)], ov 0 ((uvM u W).F 0) (lkH [([1], ⟨1, .cells [iv 1, uws w, tKs ks]⟩)])⟩ := fun Q hQ => by
      unfold k1_centoref12_Lay
      simp [e1, e2, e3, e4]
      refine sc_call hP (by simp) ?_
      simp [ha, hle, updF_app]
      refine sc_fam 0 hAdd (fun p => hset2 p) (by simp) (by simp) ?_
      simp only [List.length_append, List.length_set]
      simp
      rw [show W.length + w.length + ks.length = (W.set a P ++ w ++ List.replicate ks.length 0).length from by simp; omega, ← List.append_assoc]
      refine hL _ (fun p => by simp) (by simp) (fun q H' hH => ?_)
      simp
      exact hQ H' hH
    have e00 : IntKind.i64.wrap 0 = 0 := by decide
    by_cases hz : w.length + ks.length = 0
    · rw [if_pos hz] at hto
      subst hto
      have : ks = [] := List.eq_nil_of_length_eq_zero (by omega)
      subst this
      have : w = [] := List.eq_nil_of_length_eq_zero (by omega)
      subst this
      simp [e00]
      exact fin _ fun H' hH => reth_fam rfl rfl hH
    · rw [if_neg hz] at hto
      subst hto
      have hz2 : ¬ ((w.length : Int) + ks.length = 0) := by omega
      simp [e5, hz2]
      exact fin _ fun H' hH => reth_fam rfl rfl hH
  | ptrs w ks b1 hk =>
    rw [sizeT_mk, if_neg (by decide), if_pos rfl] at hsz
    have hkn := sizeL_nonneg hk
    have hP := rPointer_spec (a := a) (b := W.length) (k := 1) (u := 6 + 8 * (ks.length : Int)) (by omega) (by omega) (by omega) (by omega) (by omega) (by omega) (by omega) (by omega)
    have hAdd := rAdd_spec u ks.length (W.set a (ptrZ a W.length 1 (6 + 8 * (ks.length : Int)))) (by simp; omega)
    obtain ⟨u', hL⟩ := rlay_l2 (t := .mk 8 w ks) (fun c hc => (ih c hc).1) hk (to := W.length) (by simp; omega) ks.length 0 (u + ks.length) (W.set a (ptrZ a W.length 1 (6 + 8 * (ks.length : Int))) ++ List.replicate ks.length 0) (by simp) (by simp) (by simp; omega)
    have hl : layT (.mk 8 w ks) a W = layL ks W.length (W.set a (ptrZ a W.length 1 (6 + 8 * (ks.length : Int))) ++ List.replicate ks.length 0) := by rw [layT_mk, if_neg (by decide), if_neg (by decide), if_pos rfl]
    rw [hl]
    simp only [T.kids_mk, List.drop_zero, Nat.add_zero] at hL
    have e1 : IntKind.u64.wrap (ks.length : Int) = ks.length := u64_same (by omega) (by omega)
    have e2 : IntKind.u64.wrap (8 * (ks.length : Int)) = 8 * ks.length := u64_same (by omega) (by omega)
    have e3 : IntKind.u64.wrap (6 + 8 * (ks.length : Int)) = 6 + 8 * ks.length := u64_same (by omega) (by omega)
    refine ⟨u', specF_of t_centoref12_Lay (by simp) args famA_osl fun w0 I0 M0 m0 => ?_⟩
    unfold c_centoref12_Lay
    simp [e1, e2, e3]
    refine sc_call hP (by simp) ?_
    simp [ha]
    refine sc_fam 0 hAdd (fun p => hset _ p) (by simp) (by simp) ?_
    simp
    rw [show W.length + ks.length = (W.set a (ptrZ a W.length 1 (6 + 8 * (ks.length : Int))) ++ List.replicate ks.length 0).length from by simp]
    refine hL _ (fun p => by simp) (by simp) (fun q H' hH => ?_)
    simp
    exact reth_fam rfl rfl hH
  | comp w ks b1 b2 hk =>
    rw [sizeT_mk, if_neg (by decide), if_neg (by decide), if_neg (by decide), if_pos rfl] at hsz
    have hkn := sizeLL_nonneg hk
    obtain ⟨hb3, hb4⟩ := frame_bound (ts := ks) (w := 65535) (k := 65535) fun c hc => by have := b2 c hc; omega
    have hfw : ∀ c, c ∈ ks → c.words.length ≤ frameW ks := fun c hc => frameW_le hc
    have hfk : ∀ c, c ∈ ks → c.kids.length ≤ frameK ks := fun c hc => frameK_le hc
    have hfr := rFrame_spec (.mk 9 w ks) (by simp; omega)
    simp only [T.kids_mk] at hfr
    have hl : layT (.mk 9 w ks) a W = layC (frameW ks) (frameK ks) ks (W.length + 1) (W.set a (ptrZ a W.length 1 (7 + 8 * (ks.length * (frameW ks + frameK ks) : Nat))) ++ [4 * (ks.length : Int) + 4294967296 * ((frameW ks : Int) + 65536 * frameK ks)] ++ rowsC (frameW ks) (frameK ks) ks) := by
      rw [layT_mk, if_neg (by decide), if_neg (by decide), if_neg (by decide), if_pos rfl]
    rw [hl]
    have hrl := rowsC_length (w := frameW ks) (k := frameK ks) ks fun c hc => by have := hfw c hc; omega
    have hcast : (ks.length : Int) * ((frameW ks : Int) + frameK ks) = ((ks.length * (frameW ks + frameK ks) : Nat) : Int) := by rw [Int.natCast_mul, Int.natCast_add]
    rw [hcast] at hsz
    clear hl
    generalize frameW ks = fw at *
    generalize frameK ks = fk at *
    have hP := rPointer_spec (a := a) (b := W.length) (k := 1) (u := 7 + 8 * ((ks.length * (fw + fk) : Nat) : Int)) (by omega) (by omega) (by omega) (by omega) (by omega) (by omega) (by omega) (by omega)
    obtain ⟨P, hPP⟩ : ∃ P : Int, P = ptrZ a W.length 1 (7 + 8 * ((ks.length * (fw + fk) : Nat) : Int)) := ⟨_, rfl⟩
    rw [← hPP] at hP ⊢
    obtain ⟨u1, h3⟩ := rlay_l3 (t := .mk 9 w ks) (w := fw) (k := fk) (to := W.length) hfw (by omega) b1 ks.length 0 (u + 1) (W.set a P ++ [4 * (ks.length : Int) + 4294967296 * ((fw : Int) + 65536 * fk)]) (by simp) (by simp; omega)
    obtain ⟨u2, h5⟩ := rlay_l5 (t := .mk 9 w ks) (w := fw) (k := fk) (to := W.length) (fun c hc d hd => ⟨(ih c hc).2 d hd, hk c hc d hd⟩) hfk (by omega) b1 (by simp; omega) ks.length 0 u1 (W.set a P ++ [4 * (ks.length : Int) + 4294967296 * ((fw : Int) + 65536 * fk)] ++ rowsC fw fk ks) (by simp) (by simp [hrl]; omega) (by simp [hrl]; omega)
    simp only [T.kids_mk, List.drop_zero, Nat.zero_mul, Nat.add_zero] at h3 h5
    generalize hN : ks.length * (fw + fk) = N at *
    have e1 : IntKind.i64.wrap ((fw : Int) + fk) = (fw : Int) + fk := i64_same (by omega) (by omega)
    have e2 : IntKind.i64.wrap ((ks.length : Int) * ((fw : Int) + fk)) = (N : Int) := by rw [hcast]; exact i64_same (by omega) (by omega)
    have e3 : IntKind.u64.wrap (N : Int) = N := u64_same (by omega) (by omega)
    have e4 : IntKind.u64.wrap (8 * (N : Int)) = 8 * N := u64_same (by omega) (by omega)
    have e5 : IntKind.u64.wrap (7 + 8 * (N : Int)) = 7 + 8 * N := u64_same (by omega) (by omega)
    have f1 : IntKind.u64.wrap (fw : Int) = fw := u64_same (by omega) (by omega)
    have f2 : IntKind.u64.wrap (fk : Int) = fk := u64_same (by omega) (by omega)
    have f3 : IntKind.u64.wrap (65536 * (fk : Int)) = 65536 * fk := u64_same (by omega) (by omega)
    have f4 : IntKind.u64.wrap ((fw : Int) + 65536 * fk) = fw + 65536 * fk := u64_same (by omega) (by omega)
    have f5 : IntKind.u64.wrap (4294967296 * ((fw : Int) + 65536 * fk)) = 4294967296 * (fw + 65536 * fk) := u64_same (by omega) (by omega)
    have f6 : IntKind.i64.wrap (4 * (ks.length : Int)) = 4 * ks.length := i64_same (by omega) (by omega)
    have f7 : IntKind.u64.wrap (4 * (ks.length : Int)) = 4 * ks.length := u64_same (by omega) (by omega)
    have f8 : IntKind.u64.wrap (4 * (ks.length : Int) + 4294967296 * (fw + 65536 * fk)) = 4 * ks.length + 4294967296 * (fw + 65536 * fk) := u64_same (by omega) (by omega)
    obtain ⟨Y, hY⟩ : ∃ Y, Y = W.set a P ++ [4 * (ks.length : Int) + 4294967296 * ((fw : Int) + 65536 * fk)] := ⟨_, rfl⟩
    rw [← hY] at h3 h5 ⊢
    have hYl : Y.length = W.length + 1 := by rw [hY]; simp
    have hset3 : ∀ p, updF ((uvM u W).F 0) [] ⟨u + 1, .arr 1 (List.take W.length ((W.map uv).set a (uv P)) ++ [uv (4 * (ks.length : Int) + 4294967296 * ((fw : Int) + 65536 * fk))])⟩ p = (uvM (u + 1) Y).F 0 p := fun p => by
      subst hY
      by_cases hp : p = []
      · subst hp; simp [updF_app, List.map_set, List.take_of_length_le]
      · simp [updF_app, hp]
    clear hY
    generalize Y ++ rowsC fw fk ks = X at h3 h5 ⊢
    generalize layC fw fk ks (W.length + 1) X = R at h5 ⊢
    have hle : (W.length + 1) * 8 ≤ 140737488355328 := by omega
    refine ⟨u2, specF_of t_centoref12_Lay (by simp) args famA_osl fun w0 I0 M0 m0 => ?_⟩
    unfold c_centoref12_Lay
    simp
    refine sc_call hfr (by simp) ?_
    simp [e1, e2, e3, e4, e5]
    refine sc_call hP (by simp) ?_
    simp [ha, updF_app, f1, f2, f3, f4, f5, f6, f7, f8, hle]
    rw [← hYl]
    refine h3 _ (fun p => hset3 p) (by simp) (fun q H' hH hA => ?_)
    simp
    refine h5 H' hH hA (fun q H2 hH2 => ?_)
    simp
    exact reth_fam rfl rfl hH2
  | data k w ks h1 h2 b1 b2 =>
    rw [sizeT_mk, if_neg (by omega), if_neg (by omega), if_pos ⟨h1, h2⟩] at hsz
    have hwd : ∀ c, c ∈ ks → c.words = [hd c] := fun c hc => by
      obtain ⟨x, hx, _⟩ := b2 c hc
      simp [hx, hd]
    have hfit : ∀ x, x ∈ ks.map hd → u64R x ∧ fitsZ (k - 2) x = true := fun x hx => by
      obtain ⟨c, hc, rfl⟩ := List.mem_map.1 hx
      obtain ⟨x, hx, q1, q2, q3⟩ := b2 c hc
      have : hd c = x := by simp [hx, hd]
      rw [this]
      exact ⟨⟨q1, q2⟩, q3⟩
    have hrn := roomZ_nonneg (k - 2) ks.length
    have hAt := rAtoms_spec (t := .mk k w ks) (by simp; omega) hwd
    have hPu := rPut_spec (c := k - 2) (by omega) (by omega) (ns := ks.map hd) (by simp; omega) hfit
    have hP := rPointer_spec (a := a) (b := W.length) (k := 1) (u := k - 2 + 8 * (ks.length : Int)) (by omega) (by omega) (by omega) (by omega) (by omega) (by omega) (by omega) (by omega)
    have hl : layT (.mk k w ks) a W = W.set a (ptrZ a W.length 1 (k - 2 + 8 * (ks.length : Int))) ++ putZ (k - 2) (ks.map hd) := by
      rw [layT_mk, if_neg (by omega), if_neg (by omega), if_neg (by omega), if_neg (by omega)]
    have hpl : (putZ (k - 2) (ks.map hd)).length = (roomZ (k - 2) ks.length).toNat := by simp
    rw [hl]
    obtain ⟨P, hPP⟩ : ∃ P : Int, P = ptrZ a W.length 1 (k - 2 + 8 * (ks.length : Int)) := ⟨_, rfl⟩
    rw [← hPP] at hP ⊢
    simp only [T.kids_mk] at hAt
    generalize putZ (k - 2) (ks.map hd) = Z at hPu hpl ⊢
    have e1 : IntKind.i64.wrap (k - 2) = k - 2 := i64_same (by omega) (by omega)
    have e2 : IntKind.u64.wrap (ks.length : Int) = ks.length := u64_same (by omega) (by omega)
    have e3 : IntKind.u64.wrap (8 * (ks.length : Int)) = 8 * ks.length := u64_same (by omega) (by omega)
    have e4 : IntKind.u64.wrap (k - 2) = k - 2 := u64_same (by omega) (by omega)
    have e5 : IntKind.u64.wrap (k - 2 + 8 * (ks.length : Int)) = k - 2 + 8 * ks.length := u64_same (by omega) (by omega)
    have n0 : ¬ k = 0 := by omega
    have n1 : ¬ k = 1 := by omega
    have n8 : ¬ k = 8 := by omega
    have n9 : ¬ k = 9 := by omega
    have hle : (W.length + Z.length) * 8 ≤ 140737488355328 := by omega
    refine ⟨u + 1, specF_of t_centoref12_Lay (by simp) args famA_osl fun w0 I0 M0 m0 => ?_⟩
    unfold c_centoref12_Lay
    simp [n0, n1, n8, n9]
    refine sc_call hAt (by simp) ?_
    simp [e1]
    refine sc_call hPu (by simp) ?_
    simp [e1, e2, e3, e4, e5]
    refine sc_call hP (by simp) ?_
    simp [ha, updF_app, hle]
    refine reth_fam rfl (by simp) fun p => ?_
    by_cases hp : p = []
    · subst hp; simp [updF_app, List.map_set, List.take_of_length_le]
    · simp [updF_app, hp]
theorem rLay_spec {t : T} (hok : LayOk t) {W : List Int} {a u : Nat} (ha : a < W.length) (hs : (W.length : Int) + sizeT t ≤ 200000) : ∃ u', SpecF Try.prog 76 (fun r => [.osl [r] u 1 0 W.length, nv a, tX t]) (uvM u W) (fun r => .osl [r] u' 1 0 (layT t a W).length) (uvM u' (layT t a W)) := (rLay_all t).1 u W a hok ha hs
end Go.Proofs.Ytigdcnlhgelkaaa

/-
  Chapters 12 and 14: the law CopyWords.
-/
namespace Go.Proofs.Ytigdcnlhgelkaaa
set_option linter.unusedVariables false
set_option linter.unusedSimpArgs false
open Go Go.G Go.Proofs Go.PL

theorem rEncode_spec {t : T} (hw : wfT t) (hr : rightT 64 t = true) (h10 : t.kind ≠ 10) (hok : LayOk (norm t)) (hsz : sizeT (norm t) ≤ 200000) (most : Int) :
    G.Spec Try.prog 41 [tX t, iv most] (.tup [uws (if 1 + sizeT (norm t) ≤ cpMost most then layT (norm t) 0 [0] else []), bv (decide (1 + sizeT (norm t) ≤ cpMost most))]) := by
  have hs0 := (size_nonneg _).1 hok
  have hwn := wf_norm _ hw
  have hS := rSize_spec _ hwn
  have e1 : i64w (sizeT (norm t)) = sizeT (norm t) := i64_same (by omega) (by omega)
  rw [e1, show tX (norm t) = .agg [iv t.kind, uws (norm t).words, tKs (norm t).kids] from by simp] at hS
  refine spec_of t_centoref12_Encode (by simp) fun w0 I0 => ?_
  unfold c_centoref12_Encode
  simp
  refine sc_call (rRight_spec t hw 64 (by omega)) (by simp) ?_
  rw [hr]
  simp [h10]
  refine sc_call (rNorm_spec t hw) (by simp) ?_
  simp
  refine sc_call hS (by simp) ?_
  by_cases hm : most ≤ sizeT (norm t)
  · have hf : ¬ 1 + sizeT (norm t) ≤ cpMost most := by unfold cpMost; omega
    simp [hm]
    refine sc_call_off rfl ?_
    simp [hf]
    exact frz_tup (by simp; exact ⟨frz_sl, frz_bare rfl⟩)
  · simp [hm]
    refine sc_call_gf rfl (fun _ => hS) (fun _ => rfl) (by simp) ?_
    by_cases hm2 : 131072 ≤ sizeT (norm t)
    · have hf : ¬ 1 + sizeT (norm t) ≤ cpMost most := by unfold cpMost; omega
      simp [hm2, hf]
      exact frz_tup (by simp; exact ⟨frz_sl, frz_bare rfl⟩)
    · have hf : 1 + sizeT (norm t) ≤ cpMost most := by unfold cpMost; omega
      obtain ⟨u', hL⟩ := rLay_spec hok (W := [0]) (a := 0) (u := 1) (by simp) (by simp; omega)
      simp [hm2, hf]
      refine sc_fam 5 hL (fun p => by simp) (by simp) (by simp) ?_
      simp
      exact frz_tup (by simp; exact ⟨frz_row (f := uv) (sz := 1) (by simp) rfl (fun _ => rfl), frz_bare rfl⟩)
theorem unf_at {l : List (List Int)} {a b : Int} (h : (unfP l a b).2.2 = 0) : (atP l 0 0).2 = 0 := by
  unfold unfP at h
  split at h
  · rename_i h0; exact absurd h h0
  · rename_i h0; simpa using h0
theorem layT_len {t : T} (hok : LayOk t) (hs : sizeT t ≤ 200000) : (layT t 0 [0]).length * 8 ≤ 140737488355328 := by
  have := (lay_len t).1 hok 0 [0]
  simp at this
  omega
set_option maxRecDepth 8000 in
theorem CopyWords_spec {l : List (List Int)} (hs : Sg l) (hl : l.length * 24 ≤ 140737488355328) (a b c d most : Int) : G.Spec Try.prog 10 [sgs l, liX a b c d, iv most] (bv true) := by
  refine spec_of t_centolaw14_CopyWords (by simp) fun w0 I0 => ?_
  unfold c_centolaw14_CopyWords
  simp
  refine sc_call (light_spec a b c d) rfl ?_
  simp
  refine sc_call (unfold_spec hs a (lightZ b) c d) rfl ?_
  have hu := unfold_means hs (a := a) (b := lightZ b)
  have hrt := unf_right hs (a := a) (b := lightZ b)
  have hsz := unf_size hs (a := a) (b := lightZ b)
  have hat := @unf_at l a (lightZ b)
  generalize unfP l a (lightZ b) = x at hu hrt hsz hat
  obtain ⟨t, wt, e⟩ := x
  simp only at hu hrt hsz hat
  by_cases he : e = 0
  · subst he
    have hm := hu rfl
    obtain ⟨hr, h10⟩ := hrt rfl
    have hz := hsz rfl
    have ha := hat rfl
    have hw := means_wf hs _ _ hm
    have hok := laid_of hs _ _ hm h10
    have hC := cWords_spec hs hm most h10
    have hE := rEncode_spec hw hr h10 hok (by omega) most
    have hlen := layT_len hok (by omega)
    simp
    refine sc_call (of_spec l hl hs.b) rfl ?_
    simp
    refine sc_call (root_spec hs) rfl ?_
    simp [ha]
    refine sc_call hC (by simp) ?_
    simp
    refine sc_call hE (by simp) ?_
    by_cases hf : 1 + sizeT (norm t) ≤ cpMost most
    · simp [hf]
      refine sc_call (rSame_spec _ _ hlen) (by simp) ?_
      simp
      refine sc_call_gt rfl (fun _ => awake14_spec) (fun _ => rfl) rfl ?_
      simp
      exact frz_bare rfl
    · simp [hf]
      refine sc_call (rSame_spec [] [] (by simp)) (by simp) ?_
      simp
      refine sc_call_gt rfl (fun _ => awake14_spec) (fun _ => rfl) rfl ?_
      simp
      exact frz_bare rfl
  · simp [he]
    refine sc_call awake14_spec rfl ?_
    simp
    exact frz_bare rfl
end Go.Proofs.Ytigdcnlhgelkaaa

/-
  Chapter 14: CopyEnds, whatever its arguments hold.
-/
namespace Go.Proofs.Ytigdcnlhgelkaaa
set_option linter.unusedVariables false
set_option linter.unusedSimpArgs false
open Go Go.G Go.Proofs Go.RowKit

theorem und14_is : Try.prog.underlying 69 = some (.slice 3) := by kernel_rfl
theorem byt14_i : Try.prog.bytesOf 3 = 8 := by kernel_rfl
theorem has14_i64 {n : Nat} {b : List A} (h : Has Try.prog n 3 b) : ∃ m, -9223372036854775808 ≤ m ∧ m < 9223372036854775808 ∧ mk Try.prog 3 b = iv m := by
  cases n with
  | zero => exact h.elim
  | succ n =>
    simp only [Has, und15_i] at h
    obtain ⟨m, hm, rfl⟩ := h
    obtain ⟨h1, h2⟩ := lit15_i hm
    exact ⟨m, h1, h2, by simp [mk, und15_i]⟩
set_option maxRecDepth 100000 in
theorem has14_ints {n : Nat} {b : List A} (h : Has Try.prog n 69 b) : ∃ f, ∃ l : List Int, mk Try.prog 69 b = .sl f (l.map iv) ∧ l.length * 8 ≤ 140737488355328 := by
  cases n with
  | zero => exact h.elim
  | succ n =>
    simp only [Has, und14_is] at h
    obtain ⟨f, xs, rfl, _, hz, hf, hx⟩ := h
    rw [byt14_i] at hz
    obtain ⟨l, rfl, hl⟩ := list15_map (g := iv) (R := fun _ => True) (xs := xs) fun x hx' => by
      obtain ⟨b, hb, rfl⟩ := hx x hx'
      obtain ⟨m, h0, h1, e⟩ := has14_i64 hb
      exact ⟨m, trivial, e⟩
    exact ⟨f, l, by simp [mk, und14_is], by simp [reachBytes] at hz; omega⟩
end Go.Proofs.Ytigdcnlhgelkaaa

/-
  Chapter 14: CopyWords, whatever its arguments hold.
-/
namespace Go.Proofs.Ytigdcnlhgelkaaa
set_option linter.unusedVariables false
set_option linter.unusedSimpArgs false
open Go Go.G Go.Proofs Go.RowKit

set_option maxRecDepth 100000 in
theorem said_copyWords (xs : List A) (h : ArgsHas Try.prog Try.f10.params.toList xs) : G.Spec Try.prog 10 xs (.v (.bool true)) := by
  have h : ArgsHas Try.prog [38, 40, 3] xs := h
  match xs, h with
  | [a, a3, a4], ⟨⟨n, b, h1, h2⟩, ⟨n3, b3, h13, h23⟩, ⟨n4, b4, h14, h24⟩, _⟩ =>
    obtain ⟨f, xs, l, e, e', k1, k2⟩ := has15_segs h1
    obtain ⟨p, q, r, s, e3⟩ := has15_lim h13
    obtain ⟨m, _, _, e4⟩ := has14_i64 h14
    rw [h2, h23, h24, e, e3, e4]
    exact (CopyWords_spec k2 k1 p q r s m).soft (by simp only [A.softL, e']; rfl)
end Go.Proofs.Ytigdcnlhgelkaaa
