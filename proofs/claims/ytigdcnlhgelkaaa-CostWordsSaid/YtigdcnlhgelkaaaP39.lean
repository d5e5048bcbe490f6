/-
  Plain: a right edit takes as many words as the Norm of its tree, and one.
-/
import Derived.Test.YtigdcnlhgelkaaaP20
namespace Go.PL
set_option linter.unusedVariables false
set_option linter.unusedSimpArgs false

theorem norm_null {t : T} (h : t.kind = 0) : norm t = T0 := by cases t; simp at h; rw [norm_mk, if_pos h]
theorem sizeL_trim (l : List T) (h : ∀ t, t ∈ l → t.kind = 0 → sizeT t = 0) : sizeL (trimK l) = sizeL l := by
  induction l using snocInd with
  | h0 => rfl
  | h1 l x ih =>
    rw [trimK_snoc]
    split
    · rename_i hx
      rw [ih fun t ht => h t (by simp [ht])]
      simp [h x (by simp) hx]
    · rfl
theorem sizeL_trimN (l : List T) : sizeL (trimK (l.map norm)) = sizeL (l.map norm) := sizeL_trim _ fun t ht h0 => by
  obtain ⟨u, hu, rfl⟩ := List.mem_map.1 ht
  rw [norm_kind] at h0
  rw [norm_null h0]; simp
theorem size_one {w : List Int} {l : List T} : sizeT (norm (.mk 1 w l)) = (trimW w).length + (trimK (l.map norm)).length + sizeL (l.map norm) := by
  rw [norm_mk]; simp; rw [sizeT_mk]; simp [sizeL_trimN]
theorem trimW_one {x : Int} (h : x ≠ 0) : trimW [x] = [x] := by simpa [h] using trimW_snoc [] x
theorem trimW_1 {x : Int} : trimW [x] = if x = 0 then [] else [x] := by simpa using trimW_snoc [] x
theorem trimK_1 {x : T} : trimK [x] = if x.kind = 0 then [] else [x] := by simpa using trimK_snoc [] x
theorem trimK_2 {x y : T} : trimK [x, y] = if y.kind = 0 then trimK [x] else [x, y] := by simpa using trimK_snoc [x] y
theorem trimW_3 {x y z : Int} (hx : x ≠ 0) : (trimW [x, y, z]).length = if z ≠ 0 then 3 else if y ≠ 0 then 2 else 1 := by
  have h1 : trimW [x, y, z] = if z = 0 then trimW [x, y] else [x, y, z] := by simpa using trimW_snoc [x, y] z
  have h2 : trimW [x, y] = if y = 0 then trimW [x] else [x, y] := by simpa using trimW_snoc [x] y
  rw [h1, h2, trimW_one hx]
  by_cases h : z = 0 <;> by_cases k : y = 0 <;> simp [h, k]
theorem row_norm (l : List T) (h : l ≠ []) : norm (rowT' l) = .mk 9 [] (l.map norm) := by
  cases l with
  | nil => exact absurd rfl h
  | cons t l => rw [rowT'_cons, norm_mk]; simp
theorem row_kind (l : List T) : (rowT' l).kind = if l = [] then 0 else 9 := by cases l <;> simp
theorem row_size (l : List T) : sizeT (norm (rowT' l)) = if l = [] then 0 else 1 + l.length * (frameW (l.map norm) + frameK (l.map norm)) + sizeLL (l.map norm) := by
  by_cases h : l = []
  · subst h; simp [norm_mk]
  · rw [row_norm l h, sizeT_mk, if_neg h]; simp

theorem wide_frame : ∀ (ws : List WE) (x : Int), 1 ≤ x → x ≤ 3 → (∀ w, w ∈ ws → u64m (w.at_ + 4294967296 * w.mask) ≠ 0) → wideW x ws = max x (frameW ((ws.map treeW).map norm))
  | [], x, _, _, _ => by simp [wideW, frameW]; omega
  | w :: ws, x, h1, h3, h => by
    have hw := h w (by simp)
    have hx : 1 ≤ (if w.new ≠ 0 then 3 else if w.old ≠ 0 then max x 2 else x) ∧ (if w.new ≠ 0 then 3 else if w.old ≠ 0 then max x 2 else x) ≤ 3 := by
      by_cases a : w.new = 0 <;> by_cases b : w.old = 0 <;> simp [a, b] <;> omega
    have ih := wide_frame ws _ hx.1 hx.2 fun v hv => h v (by simp [hv])
    rw [wideW, ih]
    simp only [List.map_cons, frameW]
    have e : (norm (treeW w)).words.length = if w.new ≠ 0 then 3 else if w.old ≠ 0 then 2 else 1 := by
      rw [treeW, norm_mk]; simp; simpa using trimW_3 hw
    rw [e]
    by_cases a : w.new = 0 <;> by_cases b : w.old = 0 <;> simp [a, b] <;> omega
theorem frameK_w (ws : List WE) : frameK ((ws.map treeW).map norm) = 0 := by
  induction ws with
  | nil => rfl
  | cons w ws ih => simp only [List.map_cons, frameK, ih]; rw [treeW, norm_mk]; simp
theorem sizeLL_w (ws : List WE) : sizeLL ((ws.map treeW).map norm) = 0 := by
  induction ws with
  | nil => rfl
  | cons w ws ih => simp only [List.map_cons, sizeLL_cons, ih]; rw [treeW, norm_mk]; simp
theorem frame_pos {ws : List WE} (h : ws ≠ []) (hx : ∀ w, w ∈ ws → u64m (w.at_ + 4294967296 * w.mask) ≠ 0) : 1 ≤ frameW ((ws.map treeW).map norm) := by
  cases ws with
  | nil => exact absurd rfl h
  | cons w ws =>
    have e : (norm (treeW w)).words.length = if w.new ≠ 0 then 3 else if w.old ≠ 0 then 2 else 1 := by
      rw [treeW, norm_mk]; simp; simpa using trimW_3 (hx w (by simp))
    simp only [List.map_cons, frameW, e]
    repeat' split
    all_goals omega

theorem treeE_kind (e : E) : (treeE e).kind = if e.kind = 0 then 0 else 1 := by
  cases e; rw [treeE_mk]
  repeat' split
  all_goals simp_all
theorem kids_at {d : Nat} : ∀ {ks : List KE} {last : Int}, rightKs d last ks = true → ∀ x, x ∈ ks → last < x.at_ ∧ x.at_ ≤ 65534 ∧ x.e.kind ≠ 0 ∧ rightE d x.e = true
  | y :: ks, last, h, x, hx => by
    simp at h
    obtain ⟨⟨⟨⟨h1, h2⟩, h3⟩, h4⟩, h5⟩ := h
    rcases List.mem_cons.1 hx with rfl | hx
    · exact ⟨h1, h2, h3, h4⟩
    · obtain ⟨a, b, c⟩ := kids_at h5 x hx
      exact ⟨by omega, b, c⟩
theorem norm_treeK {x : KE} (h0 : 0 ≤ x.at_) (h1 : x.at_ ≤ 65534) (h2 : x.e.kind ≠ 0) : norm (treeK x) = .mk 1 (if x.at_ = 0 then [] else [x.at_]) [norm (treeE x.e)] := by
  have e : u64m x.at_ = x.at_ := by unfold u64m; omega
  rw [treeK, norm_mk]; simp [e, trimW_1, trimK_1, treeE_kind, h2]
theorem kids_frame {d : Nat} : ∀ {ks : List KE} {last : Int}, rightKs d last ks = true → -1 ≤ last → ks ≠ [] → last < lastAt ks ∧ (frameW ((ks.map treeK).map norm) : Int) = (if lastAt ks = 0 then 0 else 1) ∧ frameK ((ks.map treeK).map norm) = 1
  | [x], last, h, hl, _ => by
    obtain ⟨a, b, c, _⟩ := kids_at h x (by simp)
    have hn := norm_treeK (by omega) b c
    simp only [lastAt, List.map_cons, List.map_nil, frameW, frameK, hn]
    refine ⟨a, ?_, by simp⟩
    by_cases h0 : x.at_ = 0 <;> simp [h0]
  | x :: y :: ks, last, h, hl, _ => by
    obtain ⟨a, b, c, _⟩ := kids_at h x (by simp)
    have h' := h
    simp only [rightKs_cons, Bool.and_eq_true] at h'
    have hr : rightKs d x.at_ (y :: ks) = true := by rw [rightKs_cons]; simp only [Bool.and_eq_true]; exact h'.2
    obtain ⟨i1, i2, i3⟩ := kids_frame hr (by omega) (by simp)
    have hn := norm_treeK (by omega) b c
    have hla : lastAt (x :: y :: ks) = lastAt (y :: ks) := rfl
    rw [hla]
    have h0 : ¬ lastAt (y :: ks) = 0 := by omega
    rw [if_neg h0] at i2 ⊢
    refine ⟨by omega, ?_, ?_⟩
    · rw [List.map_cons, List.map_cons, frameW, hn]
      have : (T.mk 1 (if x.at_ = 0 then [] else [x.at_]) [norm (treeE x.e)]).words.length ≤ 1 := by simp; split <;> simp
      omega
    · rw [List.map_cons, List.map_cons, frameK, hn, i3]; simp
theorem sizeLL_k : ∀ {ks : List KE}, (∀ x, x ∈ ks → 0 ≤ x.at_ ∧ x.at_ ≤ 65534 ∧ x.e.kind ≠ 0 ∧ nodeE x.e = sizeT (norm (treeE x.e))) → sizeLL ((ks.map treeK).map norm) = nodeKs ks
  | [], _ => rfl
  | x :: ks, h => by
    obtain ⟨a, b, c, e⟩ := h x (by simp)
    rw [List.map_cons, List.map_cons, sizeLL_cons, nodeKs_cons, sizeLL_k fun y hy => h y (by simp [hy]), norm_treeK a b c, e]
    simp

theorem noneT_eq {t : T} (h : noneT t = true) : t = T0 := by
  obtain ⟨k, w, l⟩ := t
  simp [noneT] at h
  obtain ⟨⟨h1, rfl⟩, rfl⟩ := h
  rw [of_decide_eq_true h1]
theorem headOk_spec {d : Nat} {k : Int} {o n : T} {nw nk : Nat} {l : Int} {no : Nat} (h : ¬ headOk d k o n nw nk l no = false) : d ≠ 0 ∧ 0 ≤ k ∧ k ≤ 3 ∧ (k ≠ 1 → o = T0 ∧ n = T0) ∧ (k ≠ 2 → nw = 0 ∧ nk = 0) ∧ (k ≠ 3 → l = 0 ∧ no = 0) := by
  have h : headOk d k o n nw nk l no = true := by simpa using h
  unfold headOk at h
  simp only [Bool.and_eq_true, Bool.not_eq_true', Bool.or_eq_false_iff, Bool.and_eq_false_iff, decide_eq_false_iff_not, decide_eq_true_eq, Bool.not_eq_false'] at h
  obtain ⟨⟨⟨a, b⟩, c⟩, ⟨d1, e⟩, f⟩ := h
  refine ⟨a, by omega, by omega, fun h1 => ?_, fun h2 => ?_, fun h3 => ?_⟩
  · rcases d1 with d1 | d1
    · exact absurd d1 h1
    · exact ⟨noneT_eq d1.1, noneT_eq d1.2⟩
  · rcases e with e | e
    · exact absurd e h2
    · omega
  · rcases f with f | f
    · exact absurd f h3
    · exact ⟨f.1, by omega⟩

/-- Each mask is a byte. -/
def masks (ws : List WE) : Prop := ∀ w, w ∈ ws → 0 ≤ w.mask ∧ w.mask < 256
mutual
def masksE : E → Prop
  | .mk _ _ _ ws ks _ os => masks ws ∧ masksK ks ∧ masksO os
def masksK : List KE → Prop
  | [] => True
  | .mk _ e :: l => masksE e ∧ masksK l
def masksO : List OP → Prop
  | [] => True
  | .mk _ _ _ e :: l => masksE e ∧ masksO l
end
theorem masksK_all : ∀ {l : List KE}, masksK l → ∀ x, x ∈ l → masksE x.e
  | .mk a e :: l, h, x, hx => by
    rw [masksK] at h
    rcases List.mem_cons.1 hx with rfl | hx
    · exact h.1
    · exact masksK_all h.2 x hx
theorem masksO_all : ∀ {l : List OP}, masksO l → ∀ x, x ∈ l → masksE x.e
  | .mk a n t e :: l, h, x, hx => by
    rw [masksO] at h
    rcases List.mem_cons.1 hx with rfl | hx
    · exact h.1
    · exact masksO_all h.2 x hx
theorem wordsOk_all : ∀ {ws : List WE} {last : Int}, wordsOk last ws = true → -1 ≤ last → masks ws → ∀ w, w ∈ ws → u64m (w.at_ + 4294967296 * w.mask) ≠ 0
  | y :: ws, last, h, hl, hm, w, hw => by
    rw [wordsOk, Bool.and_eq_true] at h
    have h1 := h.1
    simp [wordOk] at h1
    obtain ⟨⟨⟨⟨a, b⟩, c⟩, _⟩, _⟩ := h1
    rcases List.mem_cons.1 hw with rfl | hw
    · have := hm w (by simp)
      unfold u64m
      omega
    · exact wordsOk_all h.2 (by omega) (fun v hv => hm v (by simp [hv])) w hw

/-! ### lists -/
structure OpFacts (d : Nat) (list : Int) (o : OP) : Prop where
  k0 : 0 ≤ o.kind
  k3 : o.kind ≤ 3
  w : u64m (o.kind + 256 * o.n) ≠ 0
  e3 : o.kind = 3 → o.e.kind ≠ 0 ∧ rightE d o.e = true
  l12 : o.kind = 1 ∨ o.kind = 2 → ∀ t, t ∈ o.l → rightT 64 (.mk list [] [t]) = true
  l3 : o.kind = 3 → o.l = []
theorem op_facts {d : Nat} {list : Int} {o : OP} (h : rightO d list o = true) : OpFacts d list o := by
  rw [rightO_eq, Bool.and_eq_true] at h
  obtain ⟨h1, h2⟩ := h
  unfold opFlat at h1
  split at h1
  · rename_i hk
    simp at h1
    refine ⟨by omega, by omega, ?_, fun e => by omega, fun e => by omega, fun e => by omega⟩
    unfold u64m; omega
  · split at h1
    · cases h1
    · rename_i hk hc
      have hn : o.n = 0 ∧ 0 ≤ o.kind ∧ o.kind ≤ 3 := by omega
      refine ⟨hn.2.1, hn.2.2, ?_, fun e => ?_, fun e => ?_, fun e => ?_⟩
      · unfold u64m; omega
      · rw [if_pos e] at h2
        simp [opDeep] at h2
        exact ⟨h2.1.1.1.2, h2.1.2⟩
      · rw [if_pos (by omega)] at h1
        simp at h1
        exact h1.1.1
      · rw [if_pos e] at h2
        simp [opDeep] at h2
        exact h2.1.1.1.1
theorem op_sized {list : Int} {l : List T} (hl : 2 ≤ list ∧ list ≤ 9) (h : ∀ t, t ∈ l → rightT 64 (.mk list [] [t]) = true) : sizeP (norm (.mk list [] l)) = sizeT (norm (.mk list [] l)) := by
  have hk : ∀ t, t ∈ l → rightT 63 t = true ∧ kidOk list t = true := fun t ht => rightT_struct (h t ht) t (by simp)
  have ihl : ∀ t, t ∈ l.map norm → sizeP t = sizeT t := fun t ht => by
    obtain ⟨u, hu, rfl⟩ := List.mem_map.1 ht
    exact size_norm u _ (hk u hu).1
  rw [norm_mk, if_neg (by omega), if_neg (by omega), sizeP_mk, sizeT_mk, sizePL_eq ihl]
  by_cases h9 : list = 9
  · subst h9
    have : ∀ (m : List T), (∀ t, t ∈ m → sizeP t = sizeT t ∧ t.kind = 1) → sizePC m = sizeLL m := by
      intro m
      induction m with
      | nil => simp
      | cons t m ih =>
        intro hm
        obtain ⟨h1, h2⟩ := hm t (by simp)
        simp [ih fun u hu => hm u (by simp [hu]), h1]
        cases t; simp at h2; subst h2
        rw [sizeT_mk]; simp; omega
    have := this (l.map norm) fun t ht => ⟨ihl t ht, by
      obtain ⟨u, hu, rfl⟩ := List.mem_map.1 ht
      rw [norm_kind]
      exact kidOk_9 (hk u hu).2⟩
    simp [this]
  · simp [h9]
def isDeep (o : OP) : Prop := o.kind = 1 ∨ o.kind = 2 ∨ o.kind = 3
theorem norm_treeO {d : Nat} {list : Int} {o : OP} (hl : 2 ≤ list ∧ list ≤ 9) (h : OpFacts d list o) : norm (treeO list o) = .mk 1 [u64m (o.kind + 256 * o.n)] (if o.kind = 3 then [norm (treeE o.e)] else if o.kind > 0 then [norm (.mk list [] o.l)] else []) := by
  rw [treeO, norm_mk]
  simp only [trimW_one h.w, if_true]
  by_cases h3 : o.kind = 3
  · simp [h3, trimK_1, treeE_kind, (h.e3 h3).1]
  · by_cases h0 : o.kind > 0
    · have : ¬ list = 0 := by omega
      simp [h3, h0, trimK_1, this]
    · simp [h3, h0]
theorem ops_frame {d : Nat} {list : Int} (hl : 2 ≤ list ∧ list ≤ 9) : ∀ {os : List OP} (x : Int), 1 ≤ x → x ≤ 2 → (∀ o, o ∈ os → OpFacts d list o) → wideO x os = max x (1 + frameK ((os.map (treeO list)).map norm)) ∧ (os ≠ [] → frameW ((os.map (treeO list)).map norm) = 1)
  | [], x, h1, h2, _ => by simp [wideO, frameK]; omega
  | o :: os, x, h1, h2, h => by
    have ho := h o (by simp)
    obtain ⟨i1, i2⟩ := ops_frame hl (os := os) (if o.kind = 1 ∨ o.kind = 2 ∨ o.kind = 3 then 2 else x) (by split <;> omega) (by split <;> omega) fun p hp => h p (by simp [hp])
    have hn := norm_treeO hl ho
    have k0 := ho.k0
    have k3 := ho.k3
    constructor
    · rw [wideO, i1, List.map_cons, List.map_cons, frameK, hn]
      have e : (T.mk 1 [u64m (o.kind + 256 * o.n)] (if o.kind = 3 then [norm (treeE o.e)] else if o.kind > 0 then [norm (.mk list [] o.l)] else [])).kids.length = if o.kind = 1 ∨ o.kind = 2 ∨ o.kind = 3 then 1 else 0 := by
        simp only [T.kids_mk]
        by_cases a3 : o.kind = 3
        · simp [a3]
        · by_cases a0 : o.kind > 0
          · rw [if_neg a3, if_pos a0, if_pos (by omega)]; rfl
          · rw [if_neg a3, if_neg a0, if_neg (by omega)]; rfl
      rw [e]
      split <;> omega
    · intro _
      rw [List.map_cons, List.map_cons, frameW, hn]
      cases os with
      | nil => simp [frameW]
      | cons p os => rw [i2 (by simp)]; simp
theorem sizeLL_o {d : Nat} {list : Int} (hl : 2 ≤ list ∧ list ≤ 9) : ∀ {os : List OP}, (∀ o, o ∈ os → OpFacts d list o ∧ (o.kind = 3 → nodeE o.e = sizeT (norm (treeE o.e)))) → sizeLL ((os.map (treeO list)).map norm) = nodeOs list os
  | [], _ => by simp
  | o :: os, h => by
    obtain ⟨ho, he⟩ := h o (by simp)
    have k0 := ho.k0
    have k3 := ho.k3
    rw [List.map_cons, List.map_cons, sizeLL_cons, nodeOs_cons, sizeLL_o hl fun p hp => h p (by simp [hp]), norm_treeO hl ho]
    by_cases a3 : o.kind = 3
    · simp [a3, he a3]
    · by_cases a0 : o.kind > 0
      · have a12 : o.kind = 1 ∨ o.kind = 2 := by omega
        simp [a3, a0, a12, op_sized hl (ho.l12 a12)]
      · have a12 : ¬ (o.kind = 1 ∨ o.kind = 2) := by omega
        simp [a3, a0, a12]

theorem node_size : ∀ (e : E) (d : Nat), rightE d e = true → masksE e → nodeE e = sizeT (norm (treeE e)) := by
  refine E.ind fun k o n ws ks l os ihk iho d h hm => ?_
  rw [masksE] at hm
  obtain ⟨m1, m2, m3⟩ := hm
  rw [rightE_mk] at h
  split at h
  · cases h
  rename_i hh
  obtain ⟨d0, k0, k3, c1, c2, c3⟩ := headOk_spec hh
  rw [nodeE_mk, treeE_mk]
  by_cases h1 : k = 1
  · subst h1
    obtain ⟨rfl, _⟩ := c3 (by omega)
    simp at h
    obtain ⟨⟨⟨r1, r2⟩, _⟩, _⟩ := h
    simp
    rw [size_one, kids2, size_norm o _ r1, size_norm n _ r2]
    have e1 : u64m 1 = 1 := rfl
    simp [e1, trimW_1, trimK_2, trimK_1]
    by_cases a : o.kind = 0 <;> by_cases b : n.kind = 0 <;> simp [a, b] <;> omega
  rw [if_neg h1] at h
  by_cases h2 : k = 2
  · subst h2
    obtain ⟨rfl, _⟩ := c3 (by omega)
    split at h
    · cases h
    rename_i hw
    split at h
    · cases h
    rename_i hk
    simp only [Bool.not_eq_false] at hw hk
    have hw1 := wordsOk_all hw (by omega) m1
    have hk1 := kids_at hk
    simp
    rw [size_one]
    have e1 : u64m 2 = 2 := rfl
    have eW : sizeT (norm (rowT' (ws.map treeW))) = if ws = [] then 0 else 1 + ws.length * wideW 1 ws := by
      rw [row_size]
      by_cases e : ws = []
      · simp [e]
      · have hf := frame_pos e hw1
        rw [wide_frame ws 1 (by omega) (by omega) hw1, frameK_w, sizeLL_w, if_neg e, if_neg (by simpa using e)]
        rw [show (max 1 ((frameW ((ws.map treeW).map norm) : Nat) : Int)) = ((frameW ((ws.map treeW).map norm) : Nat) : Int) + ((0 : Nat) : Int) by omega]
        simp
    have eK : sizeT (norm (rowT' (treeKs ks))) = if ks = [] then 0 else 1 + ks.length * (if lastAt ks = 0 then 1 else 2) + nodeKs ks := by
      rw [row_size, treeKs_map]
      by_cases e : ks = []
      · simp [e]
      · obtain ⟨_, f1, f2⟩ := kids_frame hk (by omega) e
        rw [if_neg e, if_neg (by simpa using e), sizeLL_k fun x hx => ?_, f1, f2]
        · simp
          split <;> simp
        · obtain ⟨a, b, c, q⟩ := hk1 x hx
          exact ⟨by omega, b, c, ihk x hx _ q (masksK_all m2 x hx)⟩
    have kW : (rowT' (ws.map treeW)).kind = if ws = [] then 0 else 9 := by rw [row_kind]; simp
    have kK : (rowT' (treeKs ks)).kind = if ks = [] then 0 else 9 := by rw [row_kind, treeKs_map]; simp
    simp only [List.map_cons, List.map_nil, sizeL_cons, sizeL_nil, eW, eK, e1, trimW_one (x := 2) (by omega), trimK_2, trimK_1, norm_kind, kW, kK]
    by_cases a : ws = [] <;> by_cases b : ks = [] <;> simp [a, b] <;> omega
  by_cases h3 : k = 3
  · subst h3
    obtain ⟨w0, s0⟩ := c2 (by omega)
    have hws : ws = [] := List.eq_nil_of_length_eq_zero w0
    have hks : ks = [] := List.eq_nil_of_length_eq_zero s0
    subst hws hks
    split at h
    · cases h
    split at h
    · cases h
    split at h
    · cases h
    rename_i hl
    split at h
    · cases h
    rename_i ho
    simp only [Bool.not_eq_false] at ho
    have hl : 2 ≤ l ∧ l ≤ 9 := by omega
    have ho1 := rightOs_all.1 ho
    have hof : ∀ o, o ∈ os → OpFacts (d - 1) l o := fun o hx => op_facts (ho1 o hx)
    simp
    rw [size_one]
    have e1 : u64m (3 + 256 * l) ≠ 0 := by unfold u64m; omega
    have eO : sizeT (norm (rowT' (treeOs l os))) = if os = [] then 0 else 1 + os.length * wideO 1 os + nodeOs l os := by
      rw [row_size, treeOs_map]
      by_cases e : os = []
      · simp [e]
      · obtain ⟨f1, f2⟩ := ops_frame hl (os := os) 1 (by omega) (by omega) hof
        rw [if_neg e, if_neg (by simpa using e), sizeLL_o (d := d - 1) hl fun o hx => ⟨hof o hx, fun a3 => iho o hx _ ((hof o hx).e3 a3).2 (masksO_all m3 o hx)⟩, f1, f2 e]
        rw [show (max 1 (1 + ((frameK ((os.map (treeO l)).map norm) : Nat) : Int))) = ((1 : Nat) : Int) + ((frameK ((os.map (treeO l)).map norm) : Nat) : Int) by omega]
        simp
    have kO : (rowT' (treeOs l os)).kind = if os = [] then 0 else 9 := by rw [row_kind, treeOs_map]; simp
    simp only [List.map_cons, List.map_nil, sizeL_cons, sizeL_nil, eO, trimW_one e1, trimK_1, norm_kind, kO]
    by_cases b : os = [] <;> simp [b] <;> omega
  · have : k = 0 := by omega
    subst this
    simp [norm_mk]
end Go.PL
