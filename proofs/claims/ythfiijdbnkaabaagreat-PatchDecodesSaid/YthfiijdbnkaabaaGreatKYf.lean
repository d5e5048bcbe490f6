/-
  Texts, merged, without what is not reached.
-/
import Derived.Test.YthfiijdbnkaabaaGreatKYe
namespace Go.Proofs.YthfiijdbnkaabaaGreat
set_option linter.unusedVariables false
set_option linter.unusedSimpArgs false
open Go Go.G Go.Proofs Go.PL
mutual
def smE : Int→E→Prop
  | N,.mk _ _ _ ws ks _ os => ws.length≤N∧ks.length≤N∧os.length≤N∧smKs N ks∧smOs N os
def smKs : Int→List KE→Prop
  | _,[] => True
  | N,.mk _ e :: l => smE N e∧smKs N l
def smOs : Int→List OP→Prop
  | _,[] => True
  | N,.mk _ _ _ e :: l => smE N e∧smOs N l
end
theorem smKs_all {N : Int} : ∀ {l : List KE},smKs N l ↔ ∀ x,x ∈ l→smE N x.e
  | [] => by simp [smKs]
  | .mk a e :: l => by simp [smKs,smKs_all (l := l)]
theorem smOs_all {N : Int} : ∀ {l : List OP},smOs N l ↔ ∀ x,x ∈ l→smE N x.e
  | [] => by simp [smOs]
  | .mk k n t e :: l => by simp [smOs,smOs_all (l := l)]
theorem frz_rowF {α : Type} {H : Hp} {o : Nm} {u n sz : Nat} {l : List α} {f g : α→A} (h : vr (H o) u = some (sz,l.map f)) (hn : n = l.length)
    (hf : ∀ x,x ∈ l→(f x).cells.all A.bare = true∧(f x).cells.map A.soft = (g x).cells∧(g x).cells.length = sz∧A.ones (g x).cells = true) : Frz H (.osl o u sz 0 n) (.sl false (l.map g)) := by
  subst hn
  refine frz_osl' (xs := l.map f) (by simpa using h) (by simp) (by simp) (fun y hy => ?_) ?_ ?_
  · obtain ⟨x,hx,rfl⟩ := List.mem_map.1 hy
    exact (hf x hx).2.2.1
  · simp only [A.ones,List.all_eq_true,List.mem_flatMap]
    rintro y ⟨z,hz,hy⟩
    obtain ⟨x,hx,rfl⟩ := List.mem_map.1 hz
    have := (hf x hx).2.2.2
    simp only [A.ones,List.all_eq_true] at this
    exact this y hy
  · rw [List.drop_zero,List.take_of_length_le (by simp)]
    have : ∀ (m : List α),(∀ x,x ∈ m→x ∈ l)→FrzL H ((m.map f).flatMap A.cells) ((m.map g).flatMap A.cells) := by
      intro m
      induction m with
      | nil => intro _; simp
      | cons x m ih =>
        intro hm
        obtain ⟨h1,h2,_,_⟩ := hf x (hm x (by simp))
        simp only [List.map_cons,List.flatMap_cons]
        rw [← h2]
        have hr := ih fun y hy => hm y (by simp [hy])
        have : ∀ (c : List A) (p q : List A),c.all A.bare = true→FrzL H p q→FrzL H (c ++ p) (c.map A.soft ++ q) := by
          intro c
          induction c with
          | nil => intro p q _ hpq; exact hpq
          | cons y c ihc =>
            intro p q hc hpq
            simp only [List.all_cons,Bool.and_eq_true] at hc
            exact ⟨frz_soft hc.1,ihc p q hc.2 hpq⟩
        exact this _ _ _ h1 hr
    exact this l fun x h => h
theorem row_spec (l : List T) : G.Spec Tryz.prog 39 [tKs l] (tX (rowT' l)) := by
  refine spec_of t_centoref27_row (by simp) fun w0 I0 => ?_
  unfold c_centoref27_row
  cases l with
  | nil => simp; exact frz_T0
  | cons t l =>
    simp
    refine ⟨fun h => absurd h (by omega),fun _ => ?_⟩
    exact frz_agg (by simp; exact ⟨frz_bare rfl,frz_sl,frz_is rfl (by simp)⟩)
theorem u64_i64 (x : Int) : IntKind.u64.wrap (IntKind.i64.wrap x) = u64m x := by
  rw [IntKind.wrap_u64,IntKind.wrap_i64]; unfold u64m; omega
theorem u64_1 (k l : Int) : IntKind.u64.wrap (IntKind.i64.wrap (k + IntKind.i64.wrap (256 * l))) = u64m (k + 256 * l) := by
  rw [i64_add_r,u64_i64]
theorem u64_2 (a m : Int) : IntKind.u64.wrap (IntKind.u64.wrap a + IntKind.u64.wrap (4294967296 * IntKind.u64.wrap m)) = u64m (a + 4294967296 * m) := by
  simp only [IntKind.wrap_u64]; unfold u64m; omega
def wRaw (w : WE) : A := .agg [iv 1,.sl true [uv (u64m (w.at_ + 4294967296 * w.mask)),uv w.old,uv w.new],.sl true []]
def kRaw (x : KE) : A := .agg [iv 1,.sl true [uv (u64m x.at_)],.sl true [tX (treeE x.e)]]
def oRaw (list : Int) (x : OP) : A := .agg [iv 1,.sl true [uv (u64m (x.kind + 256 * x.n))],if x.kind = 3 then .sl true [tX (treeE x.e)] else if x.kind > 0 then .sl true [.agg [iv list,.sl true [],tKs x.l]] else .sl true []]
@[simp] theorem wRaw_cells (w : WE) : (wRaw w).cells = [iv 1,.sl true [uv (u64m (w.at_ + 4294967296 * w.mask)),uv w.old,uv w.new],.sl true []] := rfl
@[simp] theorem kRaw_cells (x : KE) : (kRaw x).cells = [iv 1,.sl true [uv (u64m x.at_)],.sl true [tX (treeE x.e)]] := rfl
@[simp] theorem oRaw_cells (list : Int) (x : OP) : (oRaw list x).cells = [iv 1,.sl true [uv (u64m (x.kind + 256 * x.n))],if x.kind = 3 then .sl true [tX (treeE x.e)] else if x.kind > 0 then .sl true [.agg [iv list,.sl true [],tKs x.l]] else .sl true []] := rfl
section
variable {n0 : Nat} {w0 : World} {I0 : Nat→Prop} {Q : Exit→Sta→Prop}
theorem tree_l1 {e : E} (hl : e.words.length≤1048575) {v1 v2 : VOb} : ∀ (m i u : Nat) (H : Hp),i + m = e.words.length→H [0] = ⟨1,.cells (eL e)⟩→H [1] = v1→H [2] = v2→H [4] = ⟨u,.arr 3 ((e.words.take i).map wRaw)⟩ →
    (∀ i' q u' H',H' [0] = ⟨1,.cells (eL e)⟩→H' [1] = v1→H' [2] = v2→H' [4] = ⟨u',.arr 3 (e.words.map wRaw)⟩→Q (.exit 3) ⟨lk [(1,.pob [0] 1 0),(2,.pob [1] 1 0),(3,.pob [2] 1 0),(4,.osl [4] u' 3 0 e.words.length),(5,.sl true []),(6,iv i'),(87,bv q)],H'⟩) →
    LoopC (cx Tryz.prog w0 I0 n0) l1_centoref27_Tree Q ⟨lk [(1,.pob [0] 1 0),(2,.pob [1] 1 0),(3,.pob [2] 1 0),(4,.osl [4] u 3 0 i),(5,.sl true []),(6,iv i)],H⟩ := by
  intro m
  induction m with
  | zero =>
    intro i u H hi h0 h1 h2 h4 hq
    have : i = e.words.length := by omega
    subst this
    refine loopC_once mixed l1_centoref27_Tree.eq_1 ?_
    simp [h0]
    exact hq _ _ u H h0 h1 h2 (by rw [h4]; simp)
  | succ m ihm =>
    intro i u H hi h0 h1 h2 h4 hq
    have hlt : i < e.words.length := by omega
    have ei : IntKind.i64.wrap ((i : Int) + 1) = ((i + 1 : Nat) : Int) := i64_same (by omega) (by omega)
    refine loopC_once mixed l1_centoref27_Tree.eq_1 ?_
    simp [h0,hlt,updF_app,h4,u64_2]
    refine ⟨⟨by omega,by omega⟩,?_⟩
    have hrow := row_succ (f := wRaw) hlt rfl
    rw [ei]
    exact ihm (i + 1) (u + 1) _ (by omega) (by simp [updF_app,h0]) (by simp [updF_app,h1]) (by simp [updF_app,h2]) (by simp only [updF_app,if_true]; exact congrArg (fun r => (⟨u + 1,.arr 3 r⟩ : VOb)) hrow) hq
theorem tree_l2 {e : E} (hl : e.kids.length≤1048575) (ih : ∀ x,x ∈ e.kids→G.Spec Tryz.prog 15 [eX x.e] (tX (treeE x.e))) {v1 v2 v4 : VOb} {a4 : A} : ∀ (m i u : Nat) (H : Hp),i + m = e.kids.length→H [0] = ⟨1,.cells (eL e)⟩→H [1] = v1→H [2] = v2→H [4] = v4→H [5] = ⟨u,.arr 3 ((e.kids.take i).map kRaw)⟩ →
    (∀ i' q u' H',H' [0] = ⟨1,.cells (eL e)⟩→H' [1] = v1→H' [2] = v2→H' [4] = v4→H' [5] = ⟨u',.arr 3 (e.kids.map kRaw)⟩→Q (.exit 5) ⟨lk [(1,.pob [0] 1 0),(2,.pob [1] 1 0),(3,.pob [2] 1 0),(4,a4),(5,.osl [5] u' 3 0 e.kids.length),(8,iv i'),(116,bv q)],H'⟩) →
    LoopC (cx Tryz.prog w0 I0 n0) l2_centoref27_Tree Q ⟨lk [(1,.pob [0] 1 0),(2,.pob [1] 1 0),(3,.pob [2] 1 0),(4,a4),(5,.osl [5] u 3 0 i),(8,iv i)],H⟩ := by
  intro m
  induction m with
  | zero =>
    intro i u H hi h0 h1 h2 h4 h5 hq
    have : i = e.kids.length := by omega
    subst this
    refine loopC_once mixed l2_centoref27_Tree.eq_1 ?_
    simp [h0]
    exact hq _ _ u H h0 h1 h2 h4 (by rw [h5]; simp)
  | succ m ihm =>
    intro i u H hi h0 h1 h2 h4 h5 hq
    have hlt : i < e.kids.length := by omega
    have ei : IntKind.i64.wrap ((i : Int) + 1) = ((i + 1 : Nat) : Int) := i64_same (by omega) (by omega)
    have eu : IntKind.u64.wrap e.kids[i].at_ = u64m e.kids[i].at_ := by rw [IntKind.wrap_u64]; rfl
    refine loopC_once mixed l2_centoref27_Tree.eq_1 ?_
    simp [h0,hlt,updF_app,h5]
    refine sc_call (ih _ (List.getElem_mem hlt)) rfl ?_
    simp [h0,hlt,updF_app,h5,eu]
    refine ⟨⟨by omega,by omega⟩,?_⟩
    have hrow := row_succ (f := kRaw) hlt rfl
    rw [ei]
    exact ihm (i + 1) (u + 1) _ (by omega) (by simp [updF_app,h0]) (by simp [updF_app,h1]) (by simp [updF_app,h2]) (by simp [updF_app,h4]) (by simp only [updF_app,if_true]; exact congrArg (fun r => (⟨u + 1,.arr 3 r⟩ : VOb)) hrow) hq
theorem tree_l3 {e : E} (hl : e.ops.length≤1048575) (ih : ∀ x,x ∈ e.ops→G.Spec Tryz.prog 15 [eX x.e] (tX (treeE x.e))) {v1 v2 : VOb} : ∀ (m i u : Nat) (H : Hp),i + m = e.ops.length→H [0] = ⟨1,.cells (eL e)⟩→H [1] = v1→H [2] = v2→H [8] = ⟨u,.arr 3 ((e.ops.take i).map (oRaw e.list))⟩ →
    (∀ i' q u' H',H' [0] = ⟨1,.cells (eL e)⟩→H' [1] = v1→H' [2] = v2→H' [8] = ⟨u',.arr 3 (e.ops.map (oRaw e.list))⟩→Q (.exit 1) ⟨lk [(1,.pob [0] 1 0),(2,.pob [1] 1 0),(3,.pob [2] 1 0),(4,.osl [8] u' 3 0 e.ops.length),(9,iv i'),(27,bv q)],H'⟩) →
    LoopC (cx Tryz.prog w0 I0 n0) l3_centoref27_Tree Q ⟨lk [(1,.pob [0] 1 0),(2,.pob [1] 1 0),(3,.pob [2] 1 0),(4,.osl [8] u 3 0 i),(9,iv i)],H⟩ := by
  intro m
  induction m with
  | zero =>
    intro i u H hi h0 h1 h2 h4 hq
    have : i = e.ops.length := by omega
    subst this
    refine loopC_once mixed l3_centoref27_Tree.eq_1 ?_
    simp [h0]
    exact hq _ _ u H h0 h1 h2 (by rw [h4]; simp)
  | succ m ihm =>
    intro i u H hi h0 h1 h2 h4 hq
    have hlt : i < e.ops.length := by omega
    have ei : IntKind.i64.wrap ((i : Int) + 1) = ((i + 1 : Nat) : Int) := i64_same (by omega) (by omega)
    have ihx := ih _ (List.getElem_mem hlt)
    have hrow : ∀ x,oRaw e.list e.ops[i] = x→List.take i (List.take i (e.ops.map (oRaw e.list))) ++ [x] = (e.ops.take (i + 1)).map (oRaw e.list) := fun x hx => row_succ (f := oRaw e.list) hlt hx
    have next : ∀ H' (x : A),H' [0] = ⟨1,.cells (eL e)⟩→H' [1] = v1→H' [2] = v2→oRaw e.list e.ops[i] = x→H' [8] = ⟨u + 1,.arr 3 (List.take i (List.take i (e.ops.map (oRaw e.list))) ++ [x])⟩→LoopC (cx Tryz.prog w0 I0 n0) l3_centoref27_Tree Q ⟨lk [(1,.pob [0] 1 0),(2,.pob [1] 1 0),(3,.pob [2] 1 0),(4,.osl [8] (u + 1) 3 0 (i + 1)),(9,iv ((i + 1 : Nat) : Int))],H'⟩ := fun H' x a0 a1 a2 hx a4 =>
      ihm (i + 1) (u + 1) H' (by omega) a0 a1 a2 (by rw [a4,hrow x hx]) hq
    refine loopC_once mixed l3_centoref27_Tree.eq_1 ?_
    generalize ho : e.ops[i] = o at *
    by_cases h3 : o.kind = 3
    · simp [h0,hlt,ho,updF_app,h4,u64_1,h3]
      refine sc_call ihx rfl ?_
      simp [h0,hlt,ho,updF_app,h4,h3]
      refine ⟨⟨by omega,by omega⟩,?_⟩
      rw [ei]
      exact next _ (.agg [iv 1,.sl true [uv (u64m (3 + 256 * o.n))],.sl true [tX (treeE o.e)]]) (by simp [updF_app,h0]) (by simp [updF_app,h1]) (by simp [updF_app,h2]) (by simp [oRaw,h3]) (by simp [updF_app])
    · by_cases hp : o.kind > 0
      · simp [h0,hlt,ho,updF_app,h4,u64_1,h3,hp]
        refine ⟨⟨by omega,by omega⟩,?_⟩
        rw [ei]
        exact next _ (.agg [iv 1,.sl true [uv (u64m (o.kind + 256 * o.n))],.sl true [.agg [iv e.list,.sl true [],tKs o.l]]]) (by simp [updF_app,h0]) (by simp [updF_app,h1]) (by simp [updF_app,h2]) (by simp [oRaw,h3,hp]) (by simp [updF_app])
      · simp [h0,hlt,ho,updF_app,h4,u64_1,h3,hp]
        refine ⟨⟨by omega,by omega⟩,?_⟩
        rw [ei]
        exact next _ (.agg [iv 1,.sl true [uv (u64m (o.kind + 256 * o.n))],.sl true []]) (by simp [updF_app,h0]) (by simp [updF_app,h1]) (by simp [updF_app,h2]) (by simp [oRaw,h3,hp]) (by simp [updF_app])
end
set_option maxRecDepth 10000 in
theorem tree_spec : ∀ (e : E),smE 1048575 e→G.Spec Tryz.prog 15 [eX e] (tX (treeE e)) := by
  refine E.ind fun k o nn ws ks l os ihk iho hs => ?_
  rw [smE,smKs_all,smOs_all] at hs
  obtain ⟨s1,s2,s3,s4,s5⟩ := hs
  have ihk' : ∀ x,x ∈ (E.mk k o nn ws ks l os).kids→G.Spec Tryz.prog 15 [eX x.e] (tX (treeE x.e)) := fun x hx => ihk x hx (s4 x hx)
  have iho' : ∀ x,x ∈ (E.mk k o nn ws ks l os).ops→G.Spec Tryz.prog 15 [eX x.e] (tX (treeE x.e)) := fun x hx => iho x hx (s5 x hx)
  refine spec_of t_centoref27_Tree (by simp) fun w0 I0 => ?_
  unfold c_centoref27_Tree
  rw [treeE_mk]
  by_cases h0 : k = 0
  · simp [h0]
    exact frz_T0
  by_cases h1 : k = 1
  · simp [h1,u64_1]
    refine frz_agg ?_
    simp
    refine ⟨frz_bare rfl,frz_sl,?_⟩
    show Frz _ _ (.sl false [tA o,tA nn])
    rw [tA_eq,tA_eq]
    exact frz_sl
  by_cases h2 : k = 2
  · subst h2
    simp [u64_1]
    refine LoopC.le (le_blank 4 [4] 3 (by simp)) ?_
    simp
    refine LoopC.le (le_list [(1,.pob [0] 1 0),(2,.pob [1] 1 0),(3,.pob [2] 1 0),(4,.osl [4] 1 3 0 0),(5,.sl true []),(6,iv 0)] (by simp [upd])) ?_
    refine tree_l1 (e := .mk 2 o nn ws ks l os) (by simp; omega) ws.length 0 1 _ (by simp) (by simp) rfl rfl (by simp) fun i' q u' H' a0 a1 a2 a4 => ?_
    simp
    refine LoopC.le (le_blank 5 [5] 3 (by simp)) ?_
    refine LoopC.le (le_list [(1,.pob [0] 1 0),(2,.pob [1] 1 0),(3,.pob [2] 1 0),(4,.osl [4] u' 3 0 ws.length),(5,.osl [5] ((H' [5]).u + 1) 3 0 0),(8,iv 0)] (by simp [upd])) ?_
    refine tree_l2 (e := .mk 2 o nn ws ks l os) (by simp; omega) ihk' ks.length 0 _ _ (by simp) (by simp [updF_app,a0]) (by simp [updF_app,a1]; rfl) (by simp [updF_app,a2]; rfl) (by simp [updF_app,a4]; rfl) (by simp [updF_app]) fun i2 q2 u2 H2 b0 b1 b2 b4 b5 => ?_
    simp
    have fw : ∀ H1 : Hp,H1 [4] = H2 [4]→Frz H1 (.osl [4] u' 3 0 ws.length) (tKs (ws.map treeW)) := fun H1 hH => by
      have := frz_rowF (H := H1) (o := [4]) (u := u') (n := ws.length) (sz := 3) (l := ws) (f := wRaw) (g := tA ∘ treeW) (by simp [hH,b4]) rfl (fun x _ => by simp [treeW,A.soft,A.softL])
      rw [← List.map_map] at this
      exact this
    have fk : ∀ H1 : Hp,H1 [5] = H2 [5]→Frz H1 (.osl [5] u2 3 0 ks.length) (tKs (ks.map treeK)) := fun H1 hH => by
      have := frz_rowF (H := H1) (o := [5]) (u := u2) (n := ks.length) (sz := 3) (l := ks) (f := kRaw) (g := tA ∘ treeK) (by simp [hH,b5]) rfl (fun x _ => by simp [treeK,A.soft,A.softL,soft_uv,soft_tKs])
      rw [← List.map_map] at this
      exact this
    refine stop_le (le_freezeD (d := [4]) (fun _ h => h) 4 (tKs (ws.map treeW)) (fun H1 hH => fw H1 hH)) ?_
    refine stop_le (le_freezeD (d := [5]) (fun _ h => h) 5 (tKs (ks.map treeK)) (fun H1 hH => fk H1 (by rw [hH]; simp [updF_app]))) (stop_go ?_)
    simp
    refine sc_call (row_spec _) rfl ?_
    simp
    refine sc_call (row_spec _) rfl ?_
    simp [updF_app,b1,b2]
    refine frz_agg ?_
    simp
    rw [treeKs_map]
    refine ⟨frz_bare rfl,frz_sl,?_⟩
    show Frz _ _ (.sl false [tA _,tA _])
    rw [tA_eq,tA_eq]
    exact frz_sl
  · simp [h0,h1,h2,u64_1]
    refine LoopC.le (le_blank 4 [8] 3 (by simp)) ?_
    simp
    refine LoopC.le (le_list [(1,.pob [0] 1 0),(2,.pob [1] 1 0),(3,.pob [2] 1 0),(4,.osl [8] 1 3 0 0),(9,iv 0)] (by simp [upd])) ?_
    refine tree_l3 (e := .mk k o nn ws ks l os) (by simp; omega) iho' os.length 0 1 _ (by simp) (by simp) rfl rfl (by simp) fun i' q u' H' a0 a1 a2 a4 => ?_
    simp
    have fo : ∀ H1 : Hp,H1 [8] = H' [8]→Frz H1 (.osl [8] u' 3 0 os.length) (tKs (os.map (treeO l))) := fun H1 hH => by
      have := frz_rowF (H := H1) (o := [8]) (u := u') (n := os.length) (sz := 3) (l := os) (f := oRaw l) (g := tA ∘ treeO l) (by simp [hH,a4]) rfl (fun x _ => by
        by_cases h3 : x.kind = 3
        · simp [treeO,A.soft,A.softL,h3,soft_uv,soft_tKs]
        · by_cases hp : x.kind > 0
          · simp [treeO,A.soft,A.softL,h3,hp,soft_uv,soft_tKs]
          · simp [treeO,A.soft,A.softL,h3,hp])
      rw [← List.map_map] at this
      exact this
    refine stop_le (le_freezeD (d := [8]) (fun _ h => h) 4 (tKs (os.map (treeO l))) (fun H1 hH => fo H1 hH)) (stop_go ?_)
    simp
    refine sc_call (row_spec _) rfl ?_
    simp [updF_app,a1,a2]
    refine frz_agg ?_
    simp
    rw [treeOs_map]
    refine ⟨frz_bare rfl,frz_sl,?_⟩
    show Frz _ _ (.sl false [tA _])
    rw [tA_eq]
    exact frz_sl
end Go.Proofs.YthfiijdbnkaabaaGreat

namespace Go.Proofs.YthfiijdbnkaabaaGreat
set_option linter.unusedVariables false
set_option linter.unusedSimpArgs false
open Go Go.G Go.Proofs Go.PL
theorem number_spec {a b : Int} {k : Nat} (a0 : 0≤a) (a1 : a < 2 ^ k) (hk : k = 8∨k = 32) (b0 : 0≤b) (b1 : b < 4294967296) : G.Spec Tryz.prog 36 [iv a,iv b,iv k] (uv (a + 2 ^ k * b)) := by
  refine spec_of t_patch_number (by simp) fun w0 I0 => ?_
  unfold c_patch_number
  have hb64 : IntKind.u64.bits = 64 := rfl
  rcases hk with rfl | rfl
  · have e1 : IntKind.u64.wrap a = a := u64_same (by omega) (by omega)
    have e2 : IntKind.u64.wrap b = b := u64_same (by omega) (by omega)
    have e3 : IntKind.u64.wrap (b * 256) = b * 256 := u64_same (by omega) (by omega)
    have e4 : bits .or .u64 a (b * 256) = a + b * 256 := u64_or' 8 a0 a1 (by omega) (by omega) (by omega) (by omega)
    have e5 : IntKind.u64.wrap (a + b * 256) = a + b * 256 := u64_same (by omega) (by omega)
    simp [e1,e2,hb64,e3,e4,e5]
    exact frz_int (by omega)
  · have e1 : IntKind.u64.wrap a = a := u64_same (by omega) (by omega)
    have e2 : IntKind.u64.wrap b = b := u64_same (by omega) (by omega)
    have e3 : IntKind.u64.wrap (b * 4294967296) = b * 4294967296 := u64_same (by omega) (by omega)
    have e4 : bits .or .u64 a (b * 4294967296) = a + b * 4294967296 := u64_or' 32 a0 a1 (by omega) (by omega) (by omega) (by omega)
    have e5 : IntKind.u64.wrap (a + b * 4294967296) = a + b * 4294967296 := u64_same (by omega) (by omega)
    simp [e1,e2,hb64,e3,e4,e5]
    exact frz_int (by omega)
theorem structure_spec (W : List Int) (l : List T) : G.Spec Tryz.prog 35 [uws W,tKs l] (tX (.mk 1 W l)) := by
  refine spec_of t_patch_structure (by simp) fun w0 I0 => ?_
  unfold c_patch_structure
  simp
  exact frz_agg (by simp; exact ⟨frz_bare rfl,frz_bare rfl,frz_bare rfl⟩)
theorem prow_spec (l : List T) : G.Spec Tryz.prog 37 [tKs l] (tX (rowT' l)) := by
  refine spec_of t_patch_row (by simp) fun w0 I0 => ?_
  unfold c_patch_row
  cases l with
  | nil => simp; exact frz_T0
  | cons t l =>
    simp
    refine ⟨fun h => absurd h (by omega),fun _ => ?_⟩
    exact frz_agg (by simp; exact ⟨frz_bare rfl,frz_sl,frz_is rfl (by simp)⟩)
theorem bpart_spec {w : Int} (h : u64R w) {f b : Nat} (hb : b = 8∨b = 32∨b = 40) (hf : f = 0∨f = 8∨f = 32) : G.Spec Tryz.prog 71 [uv w,iv f,iv b] (iv (w / 2 ^ f % 2 ^ b)) := by
  refine spec_of t_patch_part (by simp) fun w0 I0 => ?_
  unfold c_patch_part
  obtain ⟨h0,h1⟩ := h
  have hb64 : IntKind.u64.bits = 64 := rfl
  have d0 : 0≤w / 2 ^ f∧w / 2 ^ f < 18446744073709551616 := by
    have hp : (0 : Int) < 2 ^ f := Int.pow_pos (by decide)
    exact ⟨Int.ediv_nonneg h0 (by omega),Int.lt_of_le_of_lt (Int.ediv_le_self _ h0) h1⟩
  have em : IntKind.u64.wrap (IntKind.u64.wrap (2 ^ b) - 1) = 2 ^ b - 1 := by rcases hb with rfl | rfl | rfl <;> decide
  have ef : min f 64 = f := by omega
  have eb : min b 64 = b := by omega
  have e1 : bits .and .u64 (w / 2 ^ f) (2 ^ b - 1) = w / 2 ^ f % 2 ^ b := by
    have := u64_mask b (by omega) d0.1 d0.2
    rw [this]
  have hp : (0 : Int) < 2 ^ b := Int.pow_pos (by decide)
  have m0 := Int.emod_nonneg (w / 2 ^ f) (by omega : (2 : Int) ^ b ≠ 0)
  have m1 := Int.emod_lt_of_pos (w / 2 ^ f) hp
  have hle : (2 : Int) ^ b≤1099511627776 := by rcases hb with rfl | rfl | rfl <;> decide
  have e2 : IntKind.u64.wrap (w / 2 ^ f % 2 ^ b) = w / 2 ^ f % 2 ^ b := u64_same m0 (by omega)
  have e3 : IntKind.i64.wrap (w / 2 ^ f % 2 ^ b) = w / 2 ^ f % 2 ^ b := i64_same (by omega) (by omega)
  simp [hb64,ef,eb,em,e1,e2,e3]
  exact frz_bare rfl
def PTreeS (e : E) : Prop := G.Spec Tryz.prog 13 [eX e] (tX (treeE e))
theorem popT_spec {list : Int} {d : Nat} {o : OP} (O : RightO d list o) (ih : o.kind = 3→PTreeS o.e) : G.Spec Tryz.prog 38 [iv list,oX o] (tX (treeO list o)) := by
  have hn : 0≤o.n∧o.n≤1048576 := by
    by_cases q : o.kind = 0
    · have := O.keep q; omega
    · have := O.nn q; omega
  have k0 := O.k0
  have k3 := O.k3
  have hnum := number_spec (a := o.kind) (b := o.n) (k := 8) (by omega) (by show o.kind < 256; omega) (.inl rfl) hn.1 (by omega)
  have hu : u64m (o.kind + 256 * o.n) = o.kind + 2 ^ 8 * o.n := u64m_of (by omega) (by omega)
  have ht : treeO list o = .mk 1 [o.kind + 2 ^ 8 * o.n] (if o.kind = 3 then [treeE o.e] else if o.kind > 0 then [.mk list [] o.l] else []) := by rw [← hu]; rfl
  rw [ht]
  generalize hN : o.kind + 2 ^ 8 * o.n = N at hnum ⊢
  refine spec_of t_patch_op (by simp) fun w0 I0 => ?_
  unfold c_patch_op
  simp
  refine sc_call hnum rfl ?_
  have hk : o.kind = 0∨o.kind = 1∨o.kind = 2∨o.kind = 3 := by omega
  rcases hk with h | h | h | h
  · simp [h]
    rw [k1_patch_op.eq_1]
    simp
    refine sc_calle rfl ((structure_spec [N] []).soft (by simp [A.softL,A.soft,soft_uv])) rfl ?_
    simp
    exact frz_bare rfl
  · simp [h]
    rw [k1_patch_op.eq_1]
    simp
    refine sc_calle rfl ((structure_spec [N] [.mk list [] o.l]).soft (by simp [A.softL,A.soft,soft_tKs])) rfl ?_
    simp
    exact frz_bare rfl
  · simp [h]
    rw [k1_patch_op.eq_1]
    simp
    refine sc_calle rfl ((structure_spec [N] [.mk list [] o.l]).soft (by simp [A.softL,A.soft,soft_tKs])) rfl ?_
    simp
    exact frz_bare rfl
  · simp [h]
    rw [k1_patch_op.eq_1]
    simp
    refine sc_call (ih h) rfl ?_
    simp
    refine sc_calle rfl ((structure_spec [N] [treeE o.e]).soft (by simp [A.softL,A.soft,soft_uv,soft_tKs])) rfl ?_
    simp
    exact frz_bare rfl
section
variable {n0 : Nat} {w0 : World} {I0 : Nat→Prop} {Q : Exit→Sta→Prop}
theorem ptree_l1 {ws : List WE} (hl : ws.length≤1048575) (hw : ∀ x,x ∈ ws→0≤x.at_∧x.at_≤65534∧0≤x.mask∧x.mask < 256) {v0 v1 v5 : VOb} : ∀ (m i u : Nat) (H : Hp),i + m = ws.length→H [0] = v0→H [1] = v1→H [5] = v5→H [3] = ⟨u,.arr 3 ((ws.take i).map (tA ∘ treeW))⟩ →
    (∀ q u' H',H' [0] = v0→H' [1] = v1→H' [5] = v5→H' [3] = ⟨u',.arr 3 (ws.map (tA ∘ treeW))⟩→Q (.exit 1) ⟨lk [(1,.pob [0] 1 0),(2,.pob [1] 1 0),(3,.osl [3] u' 3 0 ws.length),(4,.sl true []),(26,wKs ws),(27,iv ws.length),(28,iv ws.length),(29,bv q)],H'⟩) →
    LoopC (cx Tryz.prog w0 I0 n0) l1_patch_Tree Q ⟨lk [(1,.pob [0] 1 0),(2,.pob [1] 1 0),(3,.osl [3] u 3 0 i),(4,.sl true []),(26,wKs ws),(27,iv ws.length),(28,iv i)],H⟩ := by
  intro m
  induction m with
  | zero =>
    intro i u H hi h0 h1 h5 h3 hq
    have : i = ws.length := by omega
    subst this
    refine loopC_once mixed l1_patch_Tree.eq_1 ?_
    simp
    exact hq _ u H h0 h1 h5 (by rw [h3]; simp)
  | succ m ihm =>
    intro i u H hi h0 h1 h5 h3 hq
    have hlt : i < ws.length := by omega
    have ei : IntKind.i64.wrap ((i : Int) + 1) = ((i + 1 : Nat) : Int) := i64_same (by omega) (by omega)
    obtain ⟨a0,a1,m0,m1⟩ := hw _ (List.getElem_mem hlt)
    have hrow := row_succ (f := tA ∘ treeW) hlt rfl
    simp only [Function.comp,treeW] at hrow
    generalize hx : ws[i] = x at *
    have hnum := number_spec (a := x.at_) (b := x.mask) (k := 32) (by omega) (by show x.at_ < 4294967296; omega) (.inr rfl) m0 (by omega)
    have em : IntKind.i64.wrap x.mask = x.mask := i64_same (by omega) (by omega)
    have hu : u64m (x.at_ + 4294967296 * x.mask) = x.at_ + 2 ^ 32 * x.mask := u64m_of (by omega) (by omega)
    rw [hu] at hrow
    generalize hN : x.at_ + 2 ^ 32 * x.mask = N at hnum hrow
    refine loopC_once mixed l1_patch_Tree.eq_1 ?_
    simp [hlt,hx,updF_app,em]
    refine sc_call hnum rfl ?_
    simp [updF_app]
    refine sc_calle rfl ((structure_spec [N,x.old,x.new] []).soft (by simp [A.softL,A.soft,soft_uv])) rfl ?_
    simp [updF_app,h3]
    refine ⟨⟨by omega,by omega⟩,?_⟩
    rw [ei]
    refine ihm (i + 1) (u + 1) _ (by omega) (by simp [updF_app,h0]) (by simp [updF_app,h1]) (by simp [updF_app,h5]) ?_ hq
    simp only [updF_app,if_true]
    refine congrArg (fun r => (⟨u + 1,.arr 3 r⟩ : VOb)) ?_
    rw [← hrow]
    simp
theorem ptree_l2 {ks : List KE} (hl : ks.length≤1048575) (hw : ∀ x,x ∈ ks→0≤x.at_∧x.at_≤65534) (ih : ∀ x,x ∈ ks→PTreeS x.e) {v1 v3 : VOb} {a3 : A} : ∀ (m i u : Nat) (H : Hp),i + m = ks.length→H [1] = v1→H [3] = v3→H [5] = ⟨u,.arr 3 ((ks.take i).map (tA ∘ treeK))⟩ →
    (∀ q u' H',H' [1] = v1→H' [3] = v3→H' [5] = ⟨u',.arr 3 (ks.map (tA ∘ treeK))⟩→Q (.exit 3) ⟨lk [(2,.pob [1] 1 0),(3,a3),(4,.osl [5] u' 3 0 ks.length),(49,kKs ks),(50,iv ks.length),(51,iv ks.length),(52,bv q)],H'⟩) →
    LoopC (cx Tryz.prog w0 I0 n0) l2_patch_Tree Q ⟨lk [(2,.pob [1] 1 0),(3,a3),(4,.osl [5] u 3 0 i),(49,kKs ks),(50,iv ks.length),(51,iv i)],H⟩ := by
  intro m
  induction m with
  | zero =>
    intro i u H hi h1 h3 h5 hq
    have : i = ks.length := by omega
    subst this
    refine loopC_once mixed l2_patch_Tree.eq_1 ?_
    simp
    exact hq _ u H h1 h3 (by rw [h5]; simp)
  | succ m ihm =>
    intro i u H hi h1 h3 h5 hq
    have hlt : i < ks.length := by omega
    have ei : IntKind.i64.wrap ((i : Int) + 1) = ((i + 1 : Nat) : Int) := i64_same (by omega) (by omega)
    obtain ⟨a0,a1⟩ := hw _ (List.getElem_mem hlt)
    have ihx := ih _ (List.getElem_mem hlt)
    unfold PTreeS at ihx
    have hrow := row_succ (f := tA ∘ treeK) hlt rfl
    simp only [Function.comp,treeK] at hrow
    generalize hx : ks[i] = x at *
    have eu : IntKind.u64.wrap x.at_ = x.at_ := u64_same (by omega) (by omega)
    rw [u64m_of a0 (by omega)] at hrow
    refine loopC_once mixed l2_patch_Tree.eq_1 ?_
    simp [hlt,hx,updF_app,eu]
    refine sc_call ihx rfl ?_
    simp [updF_app]
    refine sc_calle rfl ((structure_spec [x.at_] [treeE x.e]).soft (by simp [A.softL,A.soft,soft_uv,soft_tKs])) rfl ?_
    simp [updF_app,h5]
    refine ⟨⟨by omega,by omega⟩,?_⟩
    rw [ei]
    refine ihm (i + 1) (u + 1) _ (by omega) (by simp [updF_app,h1]) (by simp [updF_app,h3]) ?_ hq
    simp only [updF_app,if_true]
    refine congrArg (fun r => (⟨u + 1,.arr 3 r⟩ : VOb)) ?_
    rw [← hrow]
    simp
theorem ptree_l3 {e : E} {d : Nat} (hl : e.ops.length≤1048575) (hw : ∀ x,x ∈ e.ops→RightO d e.list x) (ih : ∀ x,x ∈ e.ops→x.kind = 3→PTreeS x.e) {v1 : VOb} : ∀ (m i u : Nat) (H : Hp),i + m = e.ops.length→H [0] = ⟨1,.cells (eL e)⟩→H [1] = v1→H [7] = ⟨u,.arr 3 ((e.ops.take i).map (tA ∘ treeO e.list))⟩ →
    (∀ q u' H',H' [0] = ⟨1,.cells (eL e)⟩→H' [1] = v1→H' [7] = ⟨u',.arr 3 (e.ops.map (tA ∘ treeO e.list))⟩→Q (.exit 5) ⟨lk [(1,.pob [0] 1 0),(2,.pob [1] 1 0),(9,.osl [7] u' 3 0 e.ops.length),(78,oKs e.ops),(79,iv e.ops.length),(80,iv e.ops.length),(81,bv q)],H'⟩) →
    LoopC (cx Tryz.prog w0 I0 n0) l3_patch_Tree Q ⟨lk [(1,.pob [0] 1 0),(2,.pob [1] 1 0),(9,.osl [7] u 3 0 i),(78,oKs e.ops),(79,iv e.ops.length),(80,iv i)],H⟩ := by
  intro m
  induction m with
  | zero =>
    intro i u H hi h0 h1 h7 hq
    have : i = e.ops.length := by omega
    subst this
    refine loopC_once mixed l3_patch_Tree.eq_1 ?_
    simp
    exact hq _ u H h0 h1 (by rw [h7]; simp)
  | succ m ihm =>
    intro i u H hi h0 h1 h7 hq
    have hlt : i < e.ops.length := by omega
    have ei : IntKind.i64.wrap ((i : Int) + 1) = ((i + 1 : Nat) : Int) := i64_same (by omega) (by omega)
    have hop := popT_spec (hw _ (List.getElem_mem hlt)) (ih _ (List.getElem_mem hlt))
    have hrow := row_succ (f := tA ∘ treeO e.list) hlt rfl
    simp only [Function.comp] at hrow
    refine loopC_once mixed l3_patch_Tree.eq_1 ?_
    simp [hlt,h0,updF_app]
    refine sc_call hop rfl ?_
    simp [updF_app,h7]
    refine ⟨⟨by omega,by omega⟩,?_⟩
    rw [ei]
    refine ihm (i + 1) (u + 1) _ (by omega) (by simp [updF_app,h0]) (by simp [updF_app,h1]) ?_ hq
    simp only [updF_app,if_true]
    refine congrArg (fun r => (⟨u + 1,.arr 3 r⟩ : VOb)) ?_
    rw [← hrow]
    simp
end
end Go.Proofs.YthfiijdbnkaabaaGreat

namespace Go.Proofs.YthfiijdbnkaabaaGreat
set_option linter.unusedVariables false
set_option linter.unusedSimpArgs false
open Go Go.G Go.Proofs Go.PL
theorem frz_rowTT {H : Hp} {o : Nm} {u n : Nat} {α : Type} {l : List α} {f : α→T} (h : H o = ⟨u,.arr 3 (l.map (tA ∘ f))⟩) (hn : n = l.length) : Frz H (.osl o u 3 0 n) (tKs (l.map f)) := by
  have := frz_row (H := H) (o := o) (u := u) (n := n) (sz := 3) (l := l) (f := tA ∘ f) (by simp [h]) hn (fun x => by simp)
  rw [← List.map_map] at this
  exact this
theorem soft_tKf {α : Type} (f : α→T) (l : List α) : A.softL (l.map (tA ∘ f)) = l.map (tA ∘ f) := by rw [← List.map_map]; exact soft_tKs _
set_option maxRecDepth 10000 in
theorem pTree_all : ∀ (e : E),wfE e→smE 1048575 e→(∃ d,rightE d e = true)→PTreeS e := by
  refine E.ind fun k o nn ws ks l os ihk iho hwf hs hr => ?_
  obtain ⟨d,hr⟩ := hr
  have hw := wfE_iff.1 hwf
  have R := rightE_iff.1 hr
  rw [smE,smKs_all,smOs_all] at hs
  obtain ⟨s1,s2,s3,s4,s5⟩ := hs
  have hks := fun x hx => rightKs_allE (by omega) R.kok x hx
  have hos := fun x hx => rightO_of (rightOs_all.1 R.ook x hx)
  have ihk' : ∀ x,x ∈ ks→PTreeS x.e := fun x hx => ihk x hx (hw.ks x hx).2 (s4 x hx) ⟨_,(hks x hx).2.2.2⟩
  have iho' : ∀ x,x ∈ os→x.kind = 3→PTreeS x.e := fun x hx h3 => iho x hx (hw.os x hx).e (s5 x hx) ⟨_,((hos x hx).down h3).2.2.2.1⟩
  have hww : ∀ x,x ∈ ws→0≤x.at_∧x.at_≤65534∧0≤x.mask∧x.mask < 256 := fun x hx => by
    have h1 := wordsOk_in (by omega) R.wok x hx
    have h2 := (hw.w x hx).2.1
    omega
  unfold PTreeS
  have hk : k = 0∨k = 1∨k = 2∨k = 3 := by have := R.k0; have := R.k3; omega
  refine spec_of t_patch_Tree (by simp) fun w0 I0 => ?_
  unfold c_patch_Tree
  rw [treeE_mk]
  rcases hk with rfl | rfl | rfl | rfl
  · simp
    exact frz_T0
  · obtain ⟨rfl,rfl⟩ := R.three (by omega)
    simp
    refine sc_calle rfl ((structure_spec [1] [o,nn]).soft (by simp [A.softL,A.soft,soft_uv,soft_tKs])) rfl ?_
    simp
    refine frz_is rfl ?_
    simp [u64m]
  · obtain ⟨rfl,rfl⟩ := R.three (by omega)
    simp
    refine LoopC.le (le_blank 3 [3] 3 (by simp)) ?_
    refine LoopC.le (le_list [(1,.pob [0] 1 0),(2,.pob [1] 1 0),(3,.osl [3] 1 3 0 0),(4,.sl true []),(26,wKs ws),(27,iv ws.length),(28,iv 0)] (by simp [upd])) ?_
    refine ptree_l1 (by omega) hww ws.length 0 1 _ (by simp) (by simp; rfl) (by simp; rfl) (by simp; rfl) (by simp) fun q u' H' a0 a1 a5 a3 => ?_
    simp [a0]
    refine LoopC.le (le_blank 4 [5] 3 (by simp)) ?_
    refine LoopC.le (le_list [(2,.pob [1] 1 0),(3,.osl [3] u' 3 0 ws.length),(4,.osl [5] 1 3 0 0),(49,kKs ks),(50,iv ks.length),(51,iv 0)] (by simp [upd,a5])) ?_
    refine ptree_l2 (by omega) (fun x hx => by have := hks x hx; omega) ihk' ks.length 0 _ _ (by simp) (by simp [updF_app,a1]; rfl) (by simp [updF_app,a3]; rfl) (by simp [updF_app,a5]) fun q2 u2 H2 b1 b3 b5 => ?_
    simp
    refine stop_le (le_freezeD (d := [3]) (fun _ h => h) 3 (tKs (ws.map treeW)) (fun H1 hH => frz_rowTT (by rw [hH,b3]) rfl)) ?_
    refine stop_le (le_freezeD (d := [5]) (fun _ h => h) 4 (tKs (ks.map treeK)) (fun H1 hH => frz_rowTT (by rw [hH]; simp [updF_app,b5]) rfl)) (stop_go ?_)
    simp
    refine sc_call (prow_spec _) rfl ?_
    simp
    refine sc_call (prow_spec _) rfl ?_
    simp
    refine sc_calle rfl ((structure_spec [2] [rowT' (ws.map treeW),rowT' (ks.map treeK)]).soft (by simp [A.softL,A.soft,soft_uv,soft_tKs,soft_tKf])) rfl ?_
    simp [updF_app,b1]
    refine frz_is rfl ?_
    simp [u64m,treeKs_map]
  · obtain ⟨l2,l9⟩ := R.lst rfl
    have hnum := number_spec (a := 3) (b := l) (k := 8) (by omega) (by decide) (.inl rfl) (by omega) (by omega)
    have hu : u64m (3 + 256 * l) = 3 + 2 ^ 8 * l := u64m_of (by omega) (by omega)
    rw [hu]
    generalize hN : 3 + 2 ^ 8 * l = N at hnum ⊢
    simp
    refine LoopC.le (le_blank 9 [7] 3 (by simp)) ?_
    refine LoopC.le (le_list [(1,.pob [0] 1 0),(2,.pob [1] 1 0),(9,.osl [7] 1 3 0 0),(78,oKs os),(79,iv os.length),(80,iv 0)] (by simp [upd])) ?_
    refine ptree_l3 (e := .mk 3 o nn ws ks l os) (d := d - 1) (by simp; omega) hos iho' os.length 0 1 _ (by simp) (by simp) (by simp; rfl) (by simp) fun q u' H' a0 a1 a7 => ?_
    simp
    refine stop_le (le_freezeD (d := [7]) (fun _ h => h) 9 (tKs (os.map (treeO l))) (fun H1 hH => frz_rowTT (by rw [hH,a7]; rfl) rfl)) (stop_go ?_)
    simp [updF_app,a0]
    refine sc_call hnum rfl ?_
    simp
    refine sc_call (prow_spec _) rfl ?_
    simp
    refine sc_calle rfl ((structure_spec [N] [rowT' (os.map (treeO l))]).soft (by simp [A.softL,A.soft,soft_uv,soft_tKs,soft_tKf])) rfl ?_
    simp [updF_app,a1]
    refine frz_is rfl ?_
    simp [treeOs_map]
end Go.Proofs.YthfiijdbnkaabaaGreat

namespace Go.Proofs.YthfiijdbnkaabaaGreat
set_option linter.unusedVariables false
set_option linter.unusedSimpArgs false
open Go Go.G Go.Proofs Go.PL
theorem rWord27_spec (t : T) (i : Nat) : G.Spec Tryz.prog 76 [tX t,iv i] (uv (wdT t i)) := by
  refine spec_of t_centoref27_word (by simp) fun w0 I0 => ?_
  unfold c_centoref27_word wdT
  by_cases hi : i < t.words.length
  · simp [hi]
    exact frz_bare rfl
  · simp [hi]
    exact frz_bare rfl
theorem rKid27_spec (t : T) (i : Nat) : G.Spec Tryz.prog 77 [tX t,iv i] (tX (kdT t i)) := by
  refine spec_of t_centoref27_kid (by simp) fun w0 I0 => ?_
  unfold c_centoref27_kid kdT
  by_cases hi : i < t.kids.length
  · simp [hi]
    exact frz_agg (by simp; exact ⟨frz_bare rfl,frz_bare rfl,frz_bare rfl⟩)
  · have e : t.kids.getD i T0 = T0 := getD_none (by omega)
    rw [e]
    simp [hi]
    exact frz_T0
theorem wd_in {t : T} (h : wfT t) (i : Nat) : u64R (wdT t i) := by
  unfold wdT
  rw [List.getD_eq_getElem?_getD]
  cases e : t.words[i]? with
  | none => exact ⟨by simp,by simp⟩
  | some x => exact (wfT_iff.1 h).w x (List.mem_of_getElem? e)
theorem wf_kd {t : T} (h : wfT t) (i : Nat) : wfT (kdT t i) := by
  unfold kdT
  rw [List.getD_eq_getElem?_getD]
  cases e : t.kids[i]? with
  | none => exact wfT_iff.2 ⟨by simp [i64R],by simp,by simp,by simp,by simp⟩
  | some x => exact (wfT_iff.1 h).ks x (List.mem_of_getElem? e)
theorem g_mod {w m : Int} (h : u64R w) (hm : 0 < m) (hm1 : m≤1099511627776) : IntKind.i64.wrap (w.tmod m) = w % m := by
  obtain ⟨h0,h1⟩ := h
  have a := Int.emod_nonneg w (by omega : m ≠ 0)
  have b := Int.emod_lt_of_pos w hm
  rw [Int.tmod_eq_emod_of_nonneg h0,i64_same (by omega) (by omega)]
theorem g_div {w m : Int} (h : u64R w) (hm : 0 < m) (hm1 : m≤1099511627776) : IntKind.i64.wrap ((IntKind.u64.wrap (w.tdiv 256)).tmod m) = w / 256 % m := by
  obtain ⟨h0,h1⟩ := h
  rw [Int.tdiv_eq_ediv_of_nonneg h0,u64_same (by omega) (by omega)]
  exact g_mod ⟨by omega,by omega⟩ hm hm1
theorem g_div8 {w : Int} (h : u64R w) : IntKind.u8.wrap ((IntKind.u64.wrap (w.tdiv 4294967296)).tmod 256) = w / 4294967296 % 256 := by
  obtain ⟨h0,h1⟩ := h
  rw [Int.tdiv_eq_ediv_of_nonneg h0,u64_same (by omega) (by omega),Int.tmod_eq_emod_of_nonneg (by omega),IntKind.wrap_u8]
  omega
def GuessS (t : T) : Prop := G.Spec Tryz.prog 46 [tX t] (eX (guess t))
abbrev geL (k list : Int) (W K O : A) : List A := [iv k,iv 0,.sl true [],.sl true [],iv 0,.sl true [],.sl true [],W,K,iv list,O]
def e0Raw : List A := [iv 0,iv 0,.sl true [],.sl true [],iv 0,.sl true [],.sl true [],.sl true [],.sl true [],iv 0,.sl true []]
def stpRaw (x : T) : A := .agg (iv (wdT x 0 % 256) :: iv (wdT x 0 / 256 % 1099511627776) :: (if wdT x 0 % 256 = 1∨wdT x 0 % 256 = 2 then tKs (kdT x 0).kids else .sl true []) :: (if wdT x 0 % 256 = 3 then eL (guess (kdT x 0)) else e0Raw))
section
variable {n0 : Nat} {w0 : World} {I0 : Nat→Prop} {Q : Exit→Sta→Prop}
theorem guess_s1 {k : Int} (hk : ¬ k = 2) {C : List A} {a : T} {H : Hp} (h2 : H [2] = ⟨1,.cells (iv k :: C)⟩) (h3 : H [3] = ⟨1,.cells (tL a)⟩)
    (hq : Q (.exit 0) ⟨lk [(2,.pob [1] 1 0),(4,.pob [2] 1 0),(5,.pob [3] 1 0),(6,.pob [4] 1 0),(7,iv 0),(48,bv false)],H⟩) :
    LoopC (cx Tryz.prog w0 I0 n0) l1_centoref27_Guess Q ⟨lk [(2,.pob [1] 1 0),(4,.pob [2] 1 0),(5,.pob [3] 1 0),(6,.pob [4] 1 0),(7,iv 0)],H⟩ := by
  refine loopC_once mixed l1_centoref27_Guess.eq_1 ?_
  simp [h2,h3,hk]
  exact hq
theorem guess_s2 {k : Int} (hk : ¬ k = 2) {C : List A} {b : T} {H : Hp} (h2 : H [2] = ⟨1,.cells (iv k :: C)⟩) (h4 : H [4] = ⟨1,.cells (tL b)⟩)
    (hq : Q (.exit 2) ⟨lk [(2,.pob [1] 1 0),(4,.pob [2] 1 0),(5,.pob [3] 1 0),(6,.pob [4] 1 0),(9,iv 0),(84,bv false)],H⟩) :
    LoopC (cx Tryz.prog w0 I0 n0) l2_centoref27_Guess Q ⟨lk [(2,.pob [1] 1 0),(4,.pob [2] 1 0),(5,.pob [3] 1 0),(6,.pob [4] 1 0),(9,iv 0)],H⟩ := by
  refine loopC_once mixed l2_centoref27_Guess.eq_1 ?_
  simp [h2,h4,hk]
  exact hq
theorem guess_s3 {k : Int} (hk : ¬ k = 3) {C : List A} {a : T} {H : Hp} (h2 : H [2] = ⟨1,.cells (iv k :: C)⟩) (h3 : H [3] = ⟨1,.cells (tL a)⟩)
    (hq : Q (.exit 4) ⟨lk [(2,.pob [1] 1 0),(4,.pob [2] 1 0),(5,.pob [3] 1 0),(11,iv 0),(114,bv false)],H⟩) :
    LoopC (cx Tryz.prog w0 I0 n0) l3_centoref27_Guess Q ⟨lk [(2,.pob [1] 1 0),(4,.pob [2] 1 0),(5,.pob [3] 1 0),(11,iv 0)],H⟩ := by
  refine loopC_once mixed l3_centoref27_Guess.eq_1 ?_
  simp [h2,h3,hk]
  exact hq
theorem guess_l1 {a : T} (hl : a.kids.length * 56≤140737488355328) (hw : ∀ x,x ∈ a.kids→wfT x) {list : Int} {v1 v4 v8 : VOb} : ∀ (m i : Nat) (H : Hp),i + m = a.kids.length→H [8] = v8→H [1] = v1→H [2] = ⟨1,.cells (geL 2 list (.osl [6] (i + 1) 4 0 i) (.sl true []) (.sl true []))⟩→H [3] = ⟨1,.cells (tL a)⟩→H [4] = v4→H [6] = ⟨i + 1,.arr 4 ((a.kids.take i).map (wA ∘ wordG))⟩ →
    (∀ H',H' [8] = v8→H' [1] = v1→H' [2] = ⟨1,.cells (geL 2 list (.osl [6] (a.kids.length + 1) 4 0 a.kids.length) (.sl true []) (.sl true []))⟩→H' [3] = ⟨1,.cells (tL a)⟩→H' [4] = v4→H' [6] = ⟨a.kids.length + 1,.arr 4 (a.kids.map (wA ∘ wordG))⟩ →
      Q (.exit 0) ⟨lk [(2,.pob [1] 1 0),(4,.pob [2] 1 0),(5,.pob [3] 1 0),(6,.pob [4] 1 0),(7,iv a.kids.length),(48,bv false)],H'⟩) →
    LoopC (cx Tryz.prog w0 I0 n0) l1_centoref27_Guess Q ⟨lk [(2,.pob [1] 1 0),(4,.pob [2] 1 0),(5,.pob [3] 1 0),(6,.pob [4] 1 0),(7,iv i)],H⟩ := by
  intro m
  induction m with
  | zero =>
    intro i H hi h8 h1 h2 h3 h4 h6 hq
    have : i = a.kids.length := by omega
    subst this
    refine loopC_once mixed l1_centoref27_Guess.eq_1 ?_
    simp [h2,h3]
    exact hq H h8 h1 h2 h3 h4 (by rw [h6]; simp)
  | succ m ih =>
    intro i H hi h8 h1 h2 h3 h4 h6 hq
    have hlt : i < a.kids.length := by omega
    have ei : IntKind.i64.wrap ((i : Int) + 1) = ((i + 1 : Nat) : Int) := i64_same (by omega) (by omega)
    have hrow := row_succ (f := wA ∘ wordG) hlt rfl
    simp only [Function.comp,wA,wordG] at hrow
    have hwx := hw _ (List.getElem_mem hlt)
    generalize hx : a.kids[i] = x at *
    have hd0 := wd_in hwx 0
    obtain ⟨d0,d1⟩ := hd0
    refine loopC_once mixed l1_centoref27_Guess.eq_1 ?_
    simp [h2,h3,hlt,hx,updF_app]
    refine sc_call (rWord27_spec x 0) rfl ?_
    simp [updF_app]
    refine sc_call (rWord27_spec x 0) rfl ?_
    simp [updF_app]
    refine sc_call (rWord27_spec x 1) rfl ?_
    simp [updF_app]
    refine sc_call (rWord27_spec x 2) rfl ?_
    simp [updF_app,h2,h6,ei]
    rw [g_mod ⟨d0,d1⟩ (by decide) (by decide),g_div8 ⟨d0,d1⟩]
    refine ⟨⟨by omega,by omega⟩,?_⟩
    refine ih (i + 1) _ (by omega) (by simp [updF_app,h8]) (by simp [updF_app,h1]) (by simp [updF_app]) (by simp [updF_app,h3]) (by simp [updF_app,h4]) ?_ hq
    simp only [updF_app]
    refine congrArg (fun r => (⟨i + 1 + 1,.arr 4 r⟩ : VOb)) ?_
    exact hrow
theorem guess_l2 {b : T} (hl : b.kids.length * 208≤140737488355328) (hw : ∀ x,x ∈ b.kids→wfT x) (ihg : ∀ x,x ∈ b.kids→GuessS (kdT x 0)) {list : Int} {W : A} {v1 v3 v6 : VOb} : ∀ (m i : Nat) (H : Hp),i + m = b.kids.length→H [1] = v1→H [2] = ⟨1,.cells (geL 2 list W (.osl [8] (i + 1) 12 0 i) (.sl true []))⟩→H [3] = v3→H [4] = ⟨1,.cells (tL b)⟩→H [6] = v6→H [8] = ⟨i + 1,.arr 12 ((b.kids.take i).map (kA ∘ kidG))⟩ →
    (∀ H',H' [1] = v1→H' [2] = ⟨1,.cells (geL 2 list W (.osl [8] (b.kids.length + 1) 12 0 b.kids.length) (.sl true []))⟩→H' [3] = v3→H' [6] = v6→H' [8] = ⟨b.kids.length + 1,.arr 12 (b.kids.map (kA ∘ kidG))⟩ →
      Q (.exit 2) ⟨lk [(2,.pob [1] 1 0),(4,.pob [2] 1 0),(5,.pob [3] 1 0),(6,.pob [4] 1 0),(9,iv b.kids.length),(84,bv false)],H'⟩) →
    LoopC (cx Tryz.prog w0 I0 n0) l2_centoref27_Guess Q ⟨lk [(2,.pob [1] 1 0),(4,.pob [2] 1 0),(5,.pob [3] 1 0),(6,.pob [4] 1 0),(9,iv i)],H⟩ := by
  intro m
  induction m with
  | zero =>
    intro i H hi h1 h2 h3 h4 h6 h8 hq
    have : i = b.kids.length := by omega
    subst this
    refine loopC_once mixed l2_centoref27_Guess.eq_1 ?_
    simp [h2,h4]
    exact hq H h1 h2 h3 h6 (by rw [h8]; simp)
  | succ m ih =>
    intro i H hi h1 h2 h3 h4 h6 h8 hq
    have hlt : i < b.kids.length := by omega
    have ei : IntKind.i64.wrap ((i : Int) + 1) = ((i + 1 : Nat) : Int) := i64_same (by omega) (by omega)
    have hrow := row_succ (f := kA ∘ kidG) hlt rfl
    simp only [Function.comp,kA_eq,kidG] at hrow
    have hwx := hw _ (List.getElem_mem hlt)
    have ihx := ihg _ (List.getElem_mem hlt)
    unfold GuessS at ihx
    generalize hx : b.kids[i] = x at *
    have hd0 := wd_in hwx 0
    refine loopC_once mixed l2_centoref27_Guess.eq_1 ?_
    simp [h2,h4,hlt,hx,updF_app]
    refine sc_call (rWord27_spec x 0) rfl ?_
    simp [updF_app]
    refine sc_call (rKid27_spec x 0) rfl ?_
    simp [updF_app]
    refine sc_call ihx rfl ?_
    simp [updF_app,h2,h8,ei]
    rw [g_mod hd0 (by decide) (by decide)]
    refine ⟨⟨by omega,by omega⟩,?_⟩
    refine ih (i + 1) _ (by omega) (by simp [updF_app,h1]) (by simp [updF_app]) (by simp [updF_app,h3]) (by simp [updF_app,h4]) (by simp [updF_app,h6]) ?_ hq
    simp only [updF_app]
    refine congrArg (fun r => (⟨i + 1 + 1,.arr 12 r⟩ : VOb)) ?_
    exact hrow
theorem guess_l3 {a : T} (hl : a.kids.length * 240≤140737488355328) (hw : ∀ x,x ∈ a.kids→wfT x) (ihg : ∀ x,x ∈ a.kids→GuessS (kdT x 0)) {list : Int} {v1 : VOb} : ∀ (m i : Nat) (H : Hp),i + m = a.kids.length→H [1] = v1→H [2] = ⟨1,.cells (geL 3 list (.sl true []) (.sl true []) (.osl [11] (i + 1) 14 0 i))⟩→H [3] = ⟨1,.cells (tL a)⟩→H [11] = ⟨i + 1,.arr 14 ((a.kids.take i).map stpRaw)⟩ →
    (∀ H',H' [1] = v1→H' [2] = ⟨1,.cells (geL 3 list (.sl true []) (.sl true []) (.osl [11] (a.kids.length + 1) 14 0 a.kids.length))⟩→H' [11] = ⟨a.kids.length + 1,.arr 14 (a.kids.map stpRaw)⟩ →
      Q (.exit 4) ⟨lk [(2,.pob [1] 1 0),(4,.pob [2] 1 0),(5,.pob [3] 1 0),(11,iv a.kids.length),(114,bv false)],H'⟩) →
    LoopC (cx Tryz.prog w0 I0 n0) l3_centoref27_Guess Q ⟨lk [(2,.pob [1] 1 0),(4,.pob [2] 1 0),(5,.pob [3] 1 0),(11,iv i)],H⟩ := by
  intro m
  induction m with
  | zero =>
    intro i H hi h1 h2 h3 h11 hq
    have : i = a.kids.length := by omega
    subst this
    refine loopC_once mixed l3_centoref27_Guess.eq_1 ?_
    simp [h2,h3]
    exact hq H h1 h2 (by rw [h11]; simp)
  | succ m ih =>
    intro i H hi h1 h2 h3 h11 hq
    have hlt : i < a.kids.length := by omega
    have ei : IntKind.i64.wrap ((i : Int) + 1) = ((i + 1 : Nat) : Int) := i64_same (by omega) (by omega)
    have hrow := row_succ (f := stpRaw) hlt rfl
    simp only [stpRaw,e0Raw] at hrow
    have hwx := hw _ (List.getElem_mem hlt)
    have ihx := ihg _ (List.getElem_mem hlt)
    unfold GuessS at ihx
    generalize hx : a.kids[i] = x at *
    have hd0 := wd_in hwx 0
    have e1 := g_mod (m := 256) hd0 (by decide) (by decide)
    have e2 := g_div (m := 1099511627776) hd0 (by decide) (by decide)
    refine loopC_once mixed l3_centoref27_Guess.eq_1 ?_
    simp [h2,h3,hlt,hx,updF_app]
    refine sc_call (rWord27_spec x 0) rfl ?_
    simp [updF_app]
    refine sc_call (rWord27_spec x 0) rfl ?_
    by_cases k3 : wdT x 0 % 256 = 3
    · have n12 : ¬ (wdT x 0 % 256 = 1∨wdT x 0 % 256 = 2) := by omega
      rw [if_neg n12,if_pos k3,k3] at hrow
      simp [updF_app,e1,e2,k3]
      refine sc_call (rKid27_spec x 0) rfl ?_
      simp [updF_app]
      refine sc_call ihx rfl ?_
      simp [updF_app,h2,h11,ei]
      refine ⟨⟨by omega,by omega⟩,?_⟩
      refine ih (i + 1) _ (by omega) (by simp [updF_app,h1]) (by simp [updF_app]) (by simp [updF_app,h3]) ?_ hq
      simp only [updF_app]
      refine congrArg (fun r => (⟨i + 1 + 1,.arr 14 r⟩ : VOb)) ?_
      exact hrow
    · by_cases k12 : wdT x 0 % 256 = 1∨wdT x 0 % 256 = 2
      · have hb : (decide (wdT x 0 % 256 = 1) || decide (wdT x 0 % 256 = 2)) = true := by simpa using k12
        rw [if_pos k12,if_neg k3] at hrow
        simp [updF_app,e1,e2,k3,hb]
        refine sc_call (rKid27_spec x 0) rfl ?_
        simp [updF_app,h2,h11,ei]
        refine ⟨⟨by omega,by omega⟩,?_⟩
        refine ih (i + 1) _ (by omega) (by simp [updF_app,h1]) (by simp [updF_app]) (by simp [updF_app,h3]) ?_ hq
        simp only [updF_app]
        refine congrArg (fun r => (⟨i + 1 + 1,.arr 14 r⟩ : VOb)) ?_
        exact hrow
      · have hb : (decide (wdT x 0 % 256 = 1) || decide (wdT x 0 % 256 = 2)) = false := by
          rw [Bool.eq_false_iff]; simpa using k12
        rw [if_neg k12,if_neg k3] at hrow
        simp [updF_app,e1,e2,k3,hb,h2,h11,ei]
        refine ⟨⟨by omega,by omega⟩,?_⟩
        refine ih (i + 1) _ (by omega) (by simp [updF_app,h1]) (by simp [updF_app]) (by simp [updF_app,h3]) ?_ hq
        simp only [updF_app]
        refine congrArg (fun r => (⟨i + 1 + 1,.arr 14 r⟩ : VOb)) ?_
        exact hrow
end
def GuessP (t : T) : Prop := wfT t→SmT t→GuessS t∧∀ x,x ∈ t.kids→GuessS x∧∀ y,y ∈ x.kids→GuessS y
theorem guess_other {t : T} (h : t.kind ≠ 1) : GuessS t := by
  unfold GuessS
  rw [guess_eq,if_pos h]
  refine spec_of t_centoref27_Guess (by simp) fun w0 I0 => ?_
  unfold c_centoref27_Guess
  simp [h]
  refine frz_agg ?_
  simp
  repeat' (first | exact frz_sl | exact frz_bare rfl | apply And.intro)
set_option maxRecDepth 10000 in
theorem guess_all : ∀ t : T,GuessP t := by
  refine T.ind fun k w l ih hw hsm => ?_
  have hwk := (wfT_iff.1 hw).ks
  have hdeep : ∀ (i : Nat) x,x ∈ (kdT (.mk k w l) i).kids→GuessS (kdT x 0) := fun i x hx => by
    have hm := kd_mem hx
    have hP := ih _ hm (hwk _ hm) (hsm.kid _ hm)
    unfold kdT
    rw [List.getD_eq_getElem?_getD]
    cases e : x.kids[0]? with
    | none => exact guess_other (by decide)
    | some y => exact (hP.2 x hx).2 y (List.mem_of_getElem? e)
  refine ⟨?_,fun x hx => ?_⟩
  rotate_left
  · have hP := ih x hx (hwk x hx) (hsm.kid x hx)
    exact ⟨hP.1,fun y hy => (hP.2 y hy).1⟩
  by_cases h1 : k = 1
  rotate_left
  · exact guess_other h1
  subst h1
  have d0 := wd_in hw 0
  have wfa := wf_kd hw 0
  have wfb := wf_kd hw 1
  have sma := (hsm.kd 0).len
  have smb := (hsm.kd 1).len
  unfold GuessS
  rw [guess_eq,if_neg (by simp)]
  have ga := hdeep 0
  have gb := hdeep 1
  generalize hA : kdT (.mk 1 w l) 0 = a at *
  generalize hB : kdT (.mk 1 w l) 1 = b at *
  generalize hW : wdT (.mk 1 w l) 0 = W at *
  have e1 := g_mod (m := 256) d0 (by decide) (by decide)
  have e2 := g_div (m := 256) d0 (by decide) (by decide)
  have sA := rKid27_spec (.mk 1 w l) 0
  have sB := rKid27_spec (.mk 1 w l) 1
  have sW := rWord27_spec (.mk 1 w l) 0
  rw [hA] at sA
  rw [hB] at sB
  rw [hW] at sW
  refine spec_of t_centoref27_Guess (by simp) fun w0 I0 => ?_
  unfold c_centoref27_Guess
  simp
  refine sc_call sW rfl ?_
  simp [e1,e2]
  refine sc_call sA rfl ?_
  simp
  refine sc_call sB rfl ?_
  have k256 : W % 256 = 1∨W % 256 = 2∨W % 256 = 3∨(W % 256 ≠ 1∧W % 256 ≠ 2∧W % 256 ≠ 3) := by omega
  rcases k256 with k | k | k | ⟨k1,k2,k3⟩
  · simp [k]
    rw [k1_centoref27_Guess.eq_1]
    simp
    refine guess_s1 (k := 1) (a := a) (by decide) (by simp; rfl) (by simp) ?_
    simp
    refine guess_s2 (k := 1) (b := b) (by decide) (by simp; rfl) (by simp) ?_
    simp
    refine guess_s3 (k := 1) (a := a) (by decide) (by simp; rfl) (by simp) ?_
    simp
    refine frz_agg ?_
    simp
    repeat' (first | exact frz_sl | exact frz_bare rfl | apply And.intro)
  · simp [k]
    rw [k1_centoref27_Guess.eq_1]
    simp
    refine LoopC.le (le_blankC (d := [2]) (u := 1) (cs := geL 2 (W / 256 % 256) (.sl true []) (.sl true []) (.sl true [])) 7 [6] 4 (by simp) rfl (by simp)) ?_
    refine guess_l1 (a := a) (by omega) (fun x hx => (wfT_iff.1 wfa).ks x hx) (list := W / 256 % 256) a.kids.length 0 _ (by omega) (by simp [updF_app]; rfl) (by simp [updF_app]; rfl) (by simp [updF_app]) (by simp [updF_app]) (by simp [updF_app]; rfl) (by simp [updF_app]) fun H1 b8 b1 b2 b3 b4 b6 => ?_
    simp
    refine LoopC.le (le_blankC (d := [2]) (u := 1) (cs := geL 2 (W / 256 % 256) (.osl [6] (a.kids.length + 1) 4 0 a.kids.length) (.sl true []) (.sl true [])) 8 [8] 12 b2 rfl (by simp)) ?_
    refine guess_l2 (b := b) (by omega) (fun x hx => (wfT_iff.1 wfb).ks x hx) gb (list := W / 256 % 256) b.kids.length 0 _ (by omega) (by simp [updF_app,b1]; rfl) (by simp [updF_app,b8]; rfl) (by simp [updF_app,b3]; rfl) (by simp [updF_app,b4]) (by simp [updF_app,b6]; rfl) (by simp [updF_app,b8]) fun H2 c1 c2 c3 c6 c8 => ?_
    simp
    refine guess_s3 (k := 2) (a := a) (by decide) c2 c3 ?_
    simp [c1,c2]
    have fw : ∀ H3 : Hp,H3 [6] = H2 [6]→Frz H3 (.osl [6] (a.kids.length + 1) 4 0 a.kids.length) (wKs (a.kids.map wordG)) := fun H3 hH => by
      have := frz_row (H := H3) (o := [6]) (u := a.kids.length + 1) (n := a.kids.length) (sz := 4) (l := a.kids) (f := wA ∘ wordG) (by simp [hH,c6]) rfl (fun x => by simp)
      rw [← List.map_map] at this
      exact this
    have fk : ∀ H3 : Hp,H3 [8] = H2 [8]→Frz H3 (.osl [8] (b.kids.length + 1) 12 0 b.kids.length) (kKs (b.kids.map kidG)) := fun H3 hH => by
      have := frz_row (H := H3) (o := [8]) (u := b.kids.length + 1) (n := b.kids.length) (sz := 12) (l := b.kids) (f := kA ∘ kidG) (by simp [hH,c8]) rfl (fun x => by simp)
      rw [← List.map_map] at this
      exact this
    have fw' := fw (updF H2 [1] ⟨1,.cells (geL 2 (W / 256 % 256) (.osl [6] (a.kids.length + 1) 4 0 a.kids.length) (.osl [8] (b.kids.length + 1) 12 0 b.kids.length) (.sl true []))⟩) (by simp [updF_app])
    have fk' := fk (updF H2 [1] ⟨1,.cells (geL 2 (W / 256 % 256) (.osl [6] (a.kids.length + 1) 4 0 a.kids.length) (.osl [8] (b.kids.length + 1) 12 0 b.kids.length) (.sl true []))⟩) (by simp [updF_app])
    refine frz_agg ?_
    simp

    repeat' (first | exact fw' | exact fk' | exact frz_sl | exact frz_bare rfl | apply And.intro)
  · simp [k]
    rw [k1_centoref27_Guess.eq_1]
    simp
    refine guess_s1 (k := 3) (a := a) (by decide) (by simp; rfl) (by simp) ?_
    simp
    refine guess_s2 (k := 3) (b := b) (by decide) (by simp; rfl) (by simp) ?_
    simp
    refine LoopC.le (le_blankC (d := [2]) (u := 1) (cs := geL 3 (W / 256 % 256) (.sl true []) (.sl true []) (.sl true [])) 10 [11] 14 (by simp) rfl (by simp)) ?_
    refine guess_l3 (a := a) (by omega) (fun x hx => (wfT_iff.1 wfa).ks x hx) ga (list := W / 256 % 256) a.kids.length 0 _ (by omega) (by simp [updF_app]; rfl) (by simp [updF_app]) (by simp [updF_app]) (by simp [updF_app]) fun H2 c1 c2 c11 => ?_
    simp [c1,c2]
    have fo : ∀ H3 : Hp,H3 [11] = H2 [11]→Frz H3 (.osl [11] (a.kids.length + 1) 14 0 a.kids.length) (oKs (a.kids.map stpG)) := fun H3 hH => by
      have := frz_rowF (H := H3) (o := [11]) (u := a.kids.length + 1) (n := a.kids.length) (sz := 14) (l := a.kids) (f := stpRaw) (g := oA ∘ stpG) (by simp [hH,c11]) rfl (fun x _ => by
        unfold stpRaw stpG
        by_cases h3 : wdT x 0 % 256 = 3
        · have n12 : ¬ (wdT x 0 % 256 = 1∨wdT x 0 % 256 = 2) := by omega
          simp [h3,A.soft,A.softL,soft_eL,soft_uv,soft_tKs,soft_wKs,soft_kKs,soft_oKs]
        · by_cases h12 : wdT x 0 % 256 = 1∨wdT x 0 % 256 = 2
          · simp [h3,h12,e0Raw,A.soft,A.softL,soft_tKs]
          · simp [h3,h12,e0Raw,A.soft,A.softL,soft_tKs])
      rw [← List.map_map] at this
      exact this
    have fo' := fo (updF H2 [1] ⟨1,.cells (geL 3 (W / 256 % 256) (.sl true []) (.sl true []) (.osl [11] (a.kids.length + 1) 14 0 a.kids.length))⟩) (by simp [updF_app])
    refine frz_agg ?_
    simp

    repeat' (first | exact fo' | exact frz_sl | exact frz_bare rfl | apply And.intro)
  · simp [k1,k2,k3]
    rw [k1_centoref27_Guess.eq_1]
    simp
    refine guess_s1 (k := W % 256) (a := a) k2 (by simp; rfl) (by simp) ?_
    simp
    refine guess_s2 (k := W % 256) (b := b) k2 (by simp; rfl) (by simp) ?_
    simp
    refine guess_s3 (k := W % 256) (a := a) k3 (by simp; rfl) (by simp) ?_
    simp
    refine frz_agg ?_
    simp
    repeat' (first | exact frz_sl | exact frz_bare rfl | apply And.intro)
end Go.Proofs.YthfiijdbnkaabaaGreat

namespace Go.Proofs.YthfiijdbnkaabaaGreat
set_option linter.unusedVariables false
set_option linter.unusedSimpArgs false
open Go Go.G Go.Proofs Go.PL
theorem pt_0_8 {w : Int} (h : u64R w) : G.Spec Tryz.prog 71 [uv w,iv 0,iv 8] (iv (w % 256)) := by
  have := bpart_spec h (f := 0) (b := 8) (by omega) (by omega)
  simpa using this
theorem pt_8_8 {w : Int} (h : u64R w) : G.Spec Tryz.prog 71 [uv w,iv 8,iv 8] (iv (w / 256 % 256)) := by
  have := bpart_spec h (f := 8) (b := 8) (by omega) (by omega)
  simpa using this
theorem pt_0_32 {w : Int} (h : u64R w) : G.Spec Tryz.prog 71 [uv w,iv 0,iv 32] (iv (w % 4294967296)) := by
  have := bpart_spec h (f := 0) (b := 32) (by omega) (by omega)
  simpa using this
theorem pt_32_8 {w : Int} (h : u64R w) : G.Spec Tryz.prog 71 [uv w,iv 32,iv 8] (iv (w / 4294967296 % 256)) := by
  have := bpart_spec h (f := 32) (b := 8) (by omega) (by omega)
  simpa using this
theorem pt_8_40 {w : Int} (h : u64R w) : G.Spec Tryz.prog 71 [uv w,iv 8,iv 40] (iv (w / 256 % 1099511627776)) := by
  have := bpart_spec h (f := 8) (b := 40) (by omega) (by omega)
  simpa using this
def PReadS (t : T) : Prop := G.Spec Tryz.prog 40 [tX t] (eX (guess t))
theorem pWd_spec (t : T) (i : Nat) : G.Spec Tryz.prog 70 [tX t,iv i] (uv (wdT t i)) := treeWord_spec t i
theorem pKd_spec (t : T) (i : Nat) : G.Spec Tryz.prog 72 [tX t,iv i] (tX (kdT t i)) := treeKid_spec t i
theorem pStep_spec {x : T} (hw : wfT x) (ih : PReadS (kdT x 0)) : G.Spec Tryz.prog 73 [tX x] (oX (stpG x)) := by
  have hd0 := wd_in hw 0
  unfold PReadS at ih
  refine spec_of t_patch_step (by simp) fun w0 I0 => ?_
  unfold c_patch_step stpG
  simp
  refine sc_call (pWd_spec x 0) rfl ?_
  simp
  refine sc_call (pt_0_8 hd0) rfl ?_
  simp
  refine sc_call (pt_8_40 hd0) rfl ?_
  by_cases k3 : wdT x 0 % 256 = 3
  · have n12 : ¬ (wdT x 0 % 256 = 1∨wdT x 0 % 256 = 2) := by omega
    simp [k3]
    rw [k1_patch_step.eq_1]
    simp
    refine sc_call (pKd_spec x 0) rfl ?_
    simp
    refine sc_call ih rfl ?_
    simp
    refine frz_agg ?_
    simp
    repeat' (first | exact frz_sl | exact frz_bare rfl | apply And.intro)
  · by_cases k1 : wdT x 0 % 256 = 1
    · simp [k1]
      rw [k1_patch_step.eq_1]
      simp
      refine sc_call (pKd_spec x 0) rfl ?_
      simp
      refine frz_agg ?_
      simp
      repeat' (first | exact frz_sl | exact frz_bare rfl | apply And.intro)
    · by_cases k2 : wdT x 0 % 256 = 2
      · simp [k2]
        rw [k1_patch_step.eq_1]
        simp
        refine sc_call (pKd_spec x 0) rfl ?_
        simp
        refine frz_agg ?_
        simp
        repeat' (first | exact frz_sl | exact frz_bare rfl | apply And.intro)
      · simp [k1,k2,k3]
        rw [k1_patch_step.eq_1]
        simp [k3]
        refine frz_agg ?_
        simp
        repeat' (first | exact frz_sl | exact frz_bare rfl | apply And.intro)
section
variable {n0 : Nat} {w0 : World} {I0 : Nat→Prop} {Q : Exit→Sta→Prop}
theorem read_l1 {a : T} (hl : a.kids.length * 56≤140737488355328) (hw : ∀ x,x ∈ a.kids→wfT x) {list : Int} {v1 v4 v8 : VOb} : ∀ (m i : Nat) (H : Hp),i + m = a.kids.length→H [8] = v8→H [1] = v1→H [2] = ⟨1,.cells (geL 2 list (.osl [6] (i + 1) 4 0 i) (.sl true []) (.sl true []))⟩→H [4] = v4→H [6] = ⟨i + 1,.arr 4 ((a.kids.take i).map (wA ∘ wordG))⟩ →
    (∀ q H',H' [8] = v8→H' [1] = v1→H' [2] = ⟨1,.cells (geL 2 list (.osl [6] (a.kids.length + 1) 4 0 a.kids.length) (.sl true []) (.sl true []))⟩→H' [4] = v4→H' [6] = ⟨a.kids.length + 1,.arr 4 (a.kids.map (wA ∘ wordG))⟩ →
      Q (.exit 1) ⟨lk [(2,.pob [1] 1 0),(4,.pob [2] 1 0),(6,.pob [4] 1 0),(40,tKs a.kids),(41,iv a.kids.length),(42,iv a.kids.length),(43,bv q)],H'⟩) →
    LoopC (cx Tryz.prog w0 I0 n0) l1_patch_read Q ⟨lk [(2,.pob [1] 1 0),(4,.pob [2] 1 0),(6,.pob [4] 1 0),(40,tKs a.kids),(41,iv a.kids.length),(42,iv i)],H⟩ := by
  intro m
  induction m with
  | zero =>
    intro i H hi h8 h1 h2 h4 h6 hq
    have : i = a.kids.length := by omega
    subst this
    refine loopC_once mixed l1_patch_read.eq_1 ?_
    simp
    exact hq _ H h8 h1 h2 h4 (by rw [h6]; simp)
  | succ m ih =>
    intro i H hi h8 h1 h2 h4 h6 hq
    have hlt : i < a.kids.length := by omega
    have ei : IntKind.i64.wrap ((i : Int) + 1) = ((i + 1 : Nat) : Int) := i64_same (by omega) (by omega)
    have hrow := row_succ (f := wA ∘ wordG) hlt rfl
    simp only [Function.comp,wA,wordG] at hrow
    have hwx := hw _ (List.getElem_mem hlt)
    generalize hx : a.kids[i] = x at *
    have hd0 := wd_in hwx 0
    have e8 : IntKind.u8.wrap (wdT x 0 / 4294967296 % 256) = wdT x 0 / 4294967296 % 256 := by rw [IntKind.wrap_u8]; omega
    refine loopC_once mixed l1_patch_read.eq_1 ?_
    simp [hlt,hx,updF_app,h2]
    refine sc_call (pWd_spec x 0) rfl ?_
    simp [updF_app,h2]
    refine sc_call (pt_0_32 hd0) rfl ?_
    simp [updF_app,h2]
    refine sc_call (pt_32_8 hd0) rfl ?_
    simp [updF_app,h2]
    refine sc_call (pWd_spec x 1) rfl ?_
    simp [updF_app,h2]
    refine sc_call (pWd_spec x 2) rfl ?_
    simp [updF_app,h2,h6,ei,e8]
    refine ⟨⟨by omega,by omega⟩,?_⟩
    refine ih (i + 1) _ (by omega) (by simp [updF_app,h8]) (by simp [updF_app,h1]) (by simp [updF_app]) (by simp [updF_app,h4]) ?_ hq
    simp only [updF_app]
    refine congrArg (fun r => (⟨i + 1 + 1,.arr 4 r⟩ : VOb)) ?_
    exact hrow
theorem read_l2 {b : T} (hl : b.kids.length * 208≤140737488355328) (hw : ∀ x,x ∈ b.kids→wfT x) (ihg : ∀ x,x ∈ b.kids→PReadS (kdT x 0)) {list : Int} {W : A} {v1 v6 : VOb} : ∀ (m i : Nat) (H : Hp),i + m = b.kids.length→H [1] = v1→H [2] = ⟨1,.cells (geL 2 list W (.osl [8] (i + 1) 12 0 i) (.sl true []))⟩→H [6] = v6→H [8] = ⟨i + 1,.arr 12 ((b.kids.take i).map (kA ∘ kidG))⟩ →
    (∀ q H',H' [1] = v1→H' [2] = ⟨1,.cells (geL 2 list W (.osl [8] (b.kids.length + 1) 12 0 b.kids.length) (.sl true []))⟩→H' [6] = v6→H' [8] = ⟨b.kids.length + 1,.arr 12 (b.kids.map (kA ∘ kidG))⟩ →
      Q (.exit 3) ⟨lk [(2,.pob [1] 1 0),(4,.pob [2] 1 0),(65,tKs b.kids),(66,iv b.kids.length),(67,iv b.kids.length),(68,bv q)],H'⟩) →
    LoopC (cx Tryz.prog w0 I0 n0) l2_patch_read Q ⟨lk [(2,.pob [1] 1 0),(4,.pob [2] 1 0),(65,tKs b.kids),(66,iv b.kids.length),(67,iv i)],H⟩ := by
  intro m
  induction m with
  | zero =>
    intro i H hi h1 h2 h6 h8 hq
    have : i = b.kids.length := by omega
    subst this
    refine loopC_once mixed l2_patch_read.eq_1 ?_
    simp
    exact hq _ H h1 h2 h6 (by rw [h8]; simp)
  | succ m ih =>
    intro i H hi h1 h2 h6 h8 hq
    have hlt : i < b.kids.length := by omega
    have ei : IntKind.i64.wrap ((i : Int) + 1) = ((i + 1 : Nat) : Int) := i64_same (by omega) (by omega)
    have hrow := row_succ (f := kA ∘ kidG) hlt rfl
    simp only [Function.comp,kA_eq,kidG] at hrow
    have hwx := hw _ (List.getElem_mem hlt)
    have ihx := ihg _ (List.getElem_mem hlt)
    unfold PReadS at ihx
    generalize hx : b.kids[i] = x at *
    have hd0 := wd_in hwx 0
    refine loopC_once mixed l2_patch_read.eq_1 ?_
    simp [hlt,hx,updF_app,h2]
    refine sc_call (pWd_spec x 0) rfl ?_
    simp [updF_app,h2]
    refine sc_call (pt_0_32 hd0) rfl ?_
    simp [updF_app,h2]
    refine sc_call (pKd_spec x 0) rfl ?_
    simp [updF_app,h2]
    refine sc_call ihx rfl ?_
    simp [updF_app,h2,h8,ei]
    refine ⟨⟨by omega,by omega⟩,?_⟩
    refine ih (i + 1) _ (by omega) (by simp [updF_app,h1]) (by simp [updF_app]) (by simp [updF_app,h6]) ?_ hq
    simp only [updF_app]
    refine congrArg (fun r => (⟨i + 1 + 1,.arr 12 r⟩ : VOb)) ?_
    exact hrow
theorem read_l3 {a : T} (hl : a.kids.length * 240≤140737488355328) (hw : ∀ x,x ∈ a.kids→wfT x) (ihg : ∀ x,x ∈ a.kids→PReadS (kdT x 0)) {list : Int} {v1 : VOb} : ∀ (m i : Nat) (H : Hp),i + m = a.kids.length→H [1] = v1→H [2] = ⟨1,.cells (geL 3 list (.sl true []) (.sl true []) (.osl [10] (i + 1) 14 0 i))⟩→H [10] = ⟨i + 1,.arr 14 ((a.kids.take i).map (oA ∘ stpG))⟩ →
    (∀ q H',H' [1] = v1→H' [2] = ⟨1,.cells (geL 3 list (.sl true []) (.sl true []) (.osl [10] (a.kids.length + 1) 14 0 a.kids.length))⟩→H' [10] = ⟨a.kids.length + 1,.arr 14 (a.kids.map (oA ∘ stpG))⟩ →
      Q (.exit 5) ⟨lk [(2,.pob [1] 1 0),(4,.pob [2] 1 0),(87,tKs a.kids),(88,iv a.kids.length),(89,iv a.kids.length),(90,bv q)],H'⟩) →
    LoopC (cx Tryz.prog w0 I0 n0) l3_patch_read Q ⟨lk [(2,.pob [1] 1 0),(4,.pob [2] 1 0),(87,tKs a.kids),(88,iv a.kids.length),(89,iv i)],H⟩ := by
  intro m
  induction m with
  | zero =>
    intro i H hi h1 h2 h11 hq
    have : i = a.kids.length := by omega
    subst this
    refine loopC_once mixed l3_patch_read.eq_1 ?_
    simp
    exact hq _ H h1 h2 (by rw [h11]; simp)
  | succ m ih =>
    intro i H hi h1 h2 h11 hq
    have hlt : i < a.kids.length := by omega
    have ei : IntKind.i64.wrap ((i : Int) + 1) = ((i + 1 : Nat) : Int) := i64_same (by omega) (by omega)
    have hrow := row_succ (f := oA ∘ stpG) hlt rfl
    simp only [Function.comp,oA_eq] at hrow
    have hst := pStep_spec (hw _ (List.getElem_mem hlt)) (ihg _ (List.getElem_mem hlt))
    refine loopC_once mixed l3_patch_read.eq_1 ?_
    simp [hlt,updF_app,h2]
    refine sc_call hst rfl ?_
    simp [updF_app,h2,h11,ei]
    refine ⟨⟨by omega,by omega⟩,?_⟩
    refine ih (i + 1) _ (by omega) (by simp [updF_app,h1]) (by simp [updF_app]) ?_ hq
    simp only [updF_app]
    refine congrArg (fun r => (⟨i + 1 + 1,.arr 14 r⟩ : VOb)) ?_
    exact hrow
end
def ReadP (t : T) : Prop := wfT t→SmT t→PReadS t∧∀ x,x ∈ t.kids→PReadS x∧∀ y,y ∈ x.kids→PReadS y
theorem read_other {t : T} (hw : wfT t) (h : t.kind ≠ 1) : PReadS t := by
  unfold PReadS
  rw [guess_eq,if_pos h]
  have d0 := wd_in hw 0
  refine spec_of t_patch_read (by simp) fun w0 I0 => ?_
  unfold c_patch_read
  simp
  refine sc_call (pWd_spec t 0) rfl ?_
  simp
  refine sc_call (pt_0_8 d0) rfl ?_
  simp
  refine sc_call (pt_8_8 d0) rfl ?_
  simp [h]
  refine frz_agg ?_
  simp
  repeat' (first | exact frz_sl | exact frz_bare rfl | apply And.intro)
set_option maxRecDepth 10000 in
theorem read_all : ∀ t : T,ReadP t := by
  refine T.ind fun k w l ih hw hsm => ?_
  have hwk := (wfT_iff.1 hw).ks
  have hdeep : ∀ (i : Nat) x,x ∈ (kdT (.mk k w l) i).kids→PReadS (kdT x 0) := fun i x hx => by
    have hm := kd_mem hx
    have hP := ih _ hm (hwk _ hm) (hsm.kid _ hm)
    have hwx := (wfT_iff.1 (hwk _ hm)).ks x hx
    unfold kdT
    rw [List.getD_eq_getElem?_getD]
    cases e : x.kids[0]? with
    | none => exact read_other (wfT_iff.2 ⟨by simp [i64R],by simp,by simp,by simp,by simp⟩) (by decide)
    | some y => exact (hP.2 x hx).2 y (List.mem_of_getElem? e)
  refine ⟨?_,fun x hx => ?_⟩
  rotate_left
  · have hP := ih x hx (hwk x hx) (hsm.kid x hx)
    exact ⟨hP.1,fun y hy => (hP.2 y hy).1⟩
  by_cases h1 : k = 1
  rotate_left
  · exact read_other hw h1
  subst h1
  have d0 := wd_in hw 0
  have wfa := wf_kd hw 0
  have wfb := wf_kd hw 1
  have sma := (hsm.kd 0).len
  have smb := (hsm.kd 1).len
  unfold PReadS
  rw [guess_eq,if_neg (by simp)]
  have ga := hdeep 0
  have gb := hdeep 1
  have sA := pKd_spec (.mk 1 w l) 0
  have sB := pKd_spec (.mk 1 w l) 1
  have sW := pWd_spec (.mk 1 w l) 0
  generalize hA : kdT (.mk 1 w l) 0 = a at *
  generalize hB : kdT (.mk 1 w l) 1 = b at *
  generalize hW : wdT (.mk 1 w l) 0 = W at *
  refine spec_of t_patch_read (by simp) fun w0 I0 => ?_
  unfold c_patch_read
  simp
  refine sc_call sW rfl ?_
  simp
  refine sc_call (pt_0_8 d0) rfl ?_
  simp
  refine sc_call (pt_8_8 d0) rfl ?_
  simp
  refine sc_call sA rfl ?_
  simp
  refine sc_call sB rfl ?_
  have k256 : W % 256 = 1∨W % 256 = 2∨W % 256 = 3∨(W % 256 ≠ 1∧W % 256 ≠ 2∧W % 256 ≠ 3) := by omega
  rcases k256 with k | k | k | ⟨k1,k2,k3⟩
  · simp [k]
    refine frz_agg ?_
    simp
    repeat' (first | exact frz_sl | exact frz_bare rfl | apply And.intro)
  · simp [k]
    refine LoopC.le (le_blankC (d := [2]) (u := 1) (cs := geL 2 (W / 256 % 256) (.sl true []) (.sl true []) (.sl true [])) 7 [6] 4 (by simp) rfl (by simp)) ?_
    refine read_l1 (a := a) (by omega) (fun x hx => (wfT_iff.1 wfa).ks x hx) (list := W / 256 % 256) a.kids.length 0 _ (by omega) (by simp [updF_app]; rfl) (by simp [updF_app]; rfl) (by simp [updF_app]) (by simp [updF_app]; rfl) (by simp [updF_app]) fun q H1 b8 b1 b2 b4 b6 => ?_
    simp [b4]
    refine LoopC.le (le_blankC (d := [2]) (u := 1) (cs := geL 2 (W / 256 % 256) (.osl [6] (a.kids.length + 1) 4 0 a.kids.length) (.sl true []) (.sl true [])) 8 [8] 12 b2 rfl (by simp)) ?_
    refine read_l2 (b := b) (by omega) (fun x hx => (wfT_iff.1 wfb).ks x hx) gb (list := W / 256 % 256) b.kids.length 0 _ (by omega) (by simp [updF_app,b1]; rfl) (by simp [updF_app,b8]; rfl) (by simp [updF_app,b6]; rfl) (by simp [updF_app,b8]) fun q2 H2 c1 c2 c6 c8 => ?_
    simp [c1,c2]
    have fw : ∀ H3 : Hp,H3 [6] = H2 [6]→Frz H3 (.osl [6] (a.kids.length + 1) 4 0 a.kids.length) (wKs (a.kids.map wordG)) := fun H3 hH => by
      have := frz_row (H := H3) (o := [6]) (u := a.kids.length + 1) (n := a.kids.length) (sz := 4) (l := a.kids) (f := wA ∘ wordG) (by simp [hH,c6]) rfl (fun x => by simp)
      rw [← List.map_map] at this
      exact this
    have fk : ∀ H3 : Hp,H3 [8] = H2 [8]→Frz H3 (.osl [8] (b.kids.length + 1) 12 0 b.kids.length) (kKs (b.kids.map kidG)) := fun H3 hH => by
      have := frz_row (H := H3) (o := [8]) (u := b.kids.length + 1) (n := b.kids.length) (sz := 12) (l := b.kids) (f := kA ∘ kidG) (by simp [hH,c8]) rfl (fun x => by simp)
      rw [← List.map_map] at this
      exact this
    have fw' := fw (updF H2 [1] ⟨1,.cells (geL 2 (W / 256 % 256) (.osl [6] (a.kids.length + 1) 4 0 a.kids.length) (.osl [8] (b.kids.length + 1) 12 0 b.kids.length) (.sl true []))⟩) (by simp [updF_app])
    have fk' := fk (updF H2 [1] ⟨1,.cells (geL 2 (W / 256 % 256) (.osl [6] (a.kids.length + 1) 4 0 a.kids.length) (.osl [8] (b.kids.length + 1) 12 0 b.kids.length) (.sl true []))⟩) (by simp [updF_app])
    refine frz_agg ?_
    simp
    repeat' (first | exact fw' | exact fk' | exact frz_sl | exact frz_bare rfl | apply And.intro)
  · simp [k]
    refine LoopC.le (le_blankC (d := [2]) (u := 1) (cs := geL 3 (W / 256 % 256) (.sl true []) (.sl true []) (.sl true [])) 10 [10] 14 (by simp) rfl (by simp)) ?_
    refine read_l3 (a := a) (by omega) (fun x hx => (wfT_iff.1 wfa).ks x hx) ga (list := W / 256 % 256) a.kids.length 0 _ (by omega) (by simp [updF_app]; rfl) (by simp [updF_app]) (by simp [updF_app]) fun q H2 c1 c2 c11 => ?_
    simp [c1,c2]
    have fo : ∀ H3 : Hp,H3 [10] = H2 [10]→Frz H3 (.osl [10] (a.kids.length + 1) 14 0 a.kids.length) (oKs (a.kids.map stpG)) := fun H3 hH => by
      have := frz_row (H := H3) (o := [10]) (u := a.kids.length + 1) (n := a.kids.length) (sz := 14) (l := a.kids) (f := oA ∘ stpG) (by simp [hH,c11]) rfl (fun x => by simp)
      rw [← List.map_map] at this
      exact this
    have fo' := fo (updF H2 [1] ⟨1,.cells (geL 3 (W / 256 % 256) (.sl true []) (.sl true []) (.osl [10] (a.kids.length + 1) 14 0 a.kids.length))⟩) (by simp [updF_app])
    refine frz_agg ?_
    simp
    repeat' (first | exact fo' | exact frz_sl | exact frz_bare rfl | apply And.intro)
  · simp [k1,k2,k3]
    refine frz_agg ?_
    simp
    repeat' (first | exact frz_sl | exact frz_bare rfl | apply And.intro)
end Go.Proofs.YthfiijdbnkaabaaGreat

namespace Go.Proofs.YthfiijdbnkaabaaGreat
set_option linter.unusedVariables false
set_option linter.unusedSimpArgs false
open Go Go.G Go.Proofs
structure Ar where
  l : List (Nat × List Int)
  u : Nat
  ur : Nat
  size : Int
  most : Int
  used : Int
def Ar.w (S : Ar) : List (List Int) := S.l.map Prod.snd
abbrev Ar.a (S : Ar) : A := arX S.w S.size S.most S.used
end Go.Proofs.YthfiijdbnkaabaaGreat

namespace Go.Proofs.YthfiijdbnkaabaaGreat
set_option linter.unusedVariables false
set_option linter.unusedSimpArgs false
open Go Go.G Go.Proofs
structure Ar.Ok (S : Ar) : Prop where
  used0 : 0≤S.used
  used1 : S.used≤S.most
  most1 : S.most≤131072
  size0 : 1≤S.size
  size1 : S.size < 9223372036854775808
  len : S.l.length≤16
  seg : ∀ e,e ∈ S.l→(e.2.length : Int)≤S.used
theorem Ar.Ok.szAt {S : Ar} (h : S.Ok) (s : Int) : 0≤(Go.Proofs.YthfiijdbnkaabaaGreat.szAt S.w s : Int)∧(Go.Proofs.YthfiijdbnkaabaaGreat.szAt S.w s : Int)≤S.used := by
  refine ⟨by omega,?_⟩
  unfold Go.Proofs.YthfiijdbnkaabaaGreat.szAt
  cases e : Go.Proofs.YthfiijdbnkaabaaGreat.seg S.w s with
  | none => exact h.used0
  | some g =>
    obtain ⟨_,_,h2,rfl⟩ := seg_some e
    simp only [Option.map_some,Option.getD_some]
    simp only [Ar.w,List.getElem_map]
    exact h.seg _ (List.getElem_mem _)
end Go.Proofs.YthfiijdbnkaabaaGreat

namespace Go.Proofs.YthfiijdbnkaabaaGreat
set_option linter.unusedVariables false
set_option linter.unusedSimpArgs false
open Go Go.G Go.Proofs
@[simp] theorem segS_len' {S : Ar} {k i : Nat} {f : Nat × List Int→Nat × List Int} : (S.l.modify k f).length = S.l.length := by simp
section
end
end Go.Proofs.YthfiijdbnkaabaaGreat

namespace Go.Proofs.YthfiijdbnkaabaaGreat
set_option linter.unusedVariables false
set_option linter.unusedSimpArgs false
open Go Go.G Go.Proofs
def wl (S : Ar) (k : Nat) : Nat := ((S.l[k]?).map fun e => e.2.length).getD 0
def Wd (S : Ar) : Prop := ∀ e,e ∈ S.l→∀ x,x ∈ e.2→u64R x
structure Gr (S S' : Ar) : Prop where
  ok : S'.Ok
  wd : Wd S'
  wl : ∀ k,Go.Proofs.YthfiijdbnkaabaaGreat.wl S k≤Go.Proofs.YthfiijdbnkaabaaGreat.wl S' k
theorem Gr.refl {S : Ar} (h : S.Ok) (w : Wd S) : Gr S S := ⟨h,w,fun _ => Nat.le_refl _⟩
theorem Gr.trans {S S' S2 : Ar} (h : Gr S S') (k : Gr S' S2) : Gr S S2 := ⟨k.ok,k.wd,fun i => Nat.le_trans (h.wl i) (k.wl i)⟩
end Go.Proofs.YthfiijdbnkaabaaGreat

namespace Go.Proofs.YthfiijdbnkaabaaGreat
set_option linter.unusedVariables false
set_option linter.unusedSimpArgs false
open Go Go.G Go.Proofs Go.PL
theorem laid_right : ∀ (t : T) (d : Nat),rightT d t = true→wfT t→t.kind ≠ 10→LayOk (norm t) := by
  refine T.ind fun k w ks ih d hr hw h10 => ?_
  have hst := rightT_struct hr
  have hwk := (wfT_iff.1 hw).ks
  simp at h10
  rw [rightT_mk] at hr
  rw [norm_mk]
  by_cases h0 : k = 0
  · rw [if_pos h0]; exact .null _
  rw [if_neg h0] at hr ⊢
  rw [if_neg h10] at hr
  have htb : tooBig k d w.length ks.length = false := by
    cases e : tooBig k d w.length ks.length with
    | false => rfl
    | true => rw [e] at hr; simp at hr
  simp [tooBig] at htb
  by_cases h1 : k = 1
  · rw [if_pos h1]
    have hb2 := trimW_le w
    have hb3 := trimK_le (ks.map norm)
    rw [List.length_map] at hb3
    refine .str _ _ (by omega) (by omega) fun t ht => ?_
    rw [trimK_map] at ht
    obtain ⟨u,hu,rfl⟩ := List.mem_map.1 (List.mem_of_mem_take ht)
    obtain ⟨g1,g2⟩ := hst u hu
    refine ih u hu _ g1 (hwk u hu) fun e => ?_
    subst h1
    simp [kidOk,isData,e] at g2
  rw [if_neg h1]
  by_cases h8 : k = 8
  · subst h8
    refine .ptrs _ _ (by simp; omega) fun t ht => ?_
    obtain ⟨u,hu,rfl⟩ := List.mem_map.1 ht
    obtain ⟨g1,g2⟩ := hst u hu
    refine ih u hu _ g1 (hwk u hu) fun e => ?_
    simp [kidOk,isData,e] at g2
  by_cases h9 : k = 9
  · subst h9
    have kk : ∀ u,u ∈ ks→u.kind = 1∧LayOk (norm u) := fun u hu => by
      obtain ⟨g1,g2⟩ := hst u hu
      have hk1 : u.kind = 1 := by
        simp [kidOk,isData] at g2
        exact g2.2
      exact ⟨hk1,ih u hu _ g1 (hwk u hu) (by omega)⟩
    have two : ∀ u,u ∈ ks→(norm u).words.length < 65536∧(norm u).kids.length < 65536∧∀ c,c ∈ (norm u).kids→LayOk c := fun u hu => by
      obtain ⟨e1,hL⟩ := kk u hu
      have hkn2 : (norm u).kind = 1 := by rw [norm_kind]; exact e1
      generalize norm u = x at hL hkn2
      cases hL with
      | str w ks b1 b2 h => exact ⟨b1,b2,h⟩
      | _ => simp at hkn2 <;> omega
    refine .comp _ _ (by simp; omega) (fun t ht => ?_) fun t ht c hc => ?_
    · obtain ⟨u,hu,rfl⟩ := List.mem_map.1 ht
      exact ⟨(two u hu).1,(two u hu).2.1⟩
    · obtain ⟨u,hu,rfl⟩ := List.mem_map.1 ht
      exact (two u hu).2.2 c hc
  refine .data _ _ _ (by omega) (by omega) (by simp; omega) fun c hc => ?_
  obtain ⟨u,hu,rfl⟩ := List.mem_map.1 hc
  obtain ⟨g1,g2⟩ := hst u hu
  have hd : isData k = true := by simp [isData]; omega
  have hwu := hwk u hu
  obtain ⟨k2,w2,l2⟩ := u
  simp [kidOk,hd] at g2
  obtain ⟨⟨e1,e2⟩,e3⟩ := g2
  have e1 : k2 = 10 := of_decide_eq_true e1
  subst e1
  rw [rightT_mk,if_neg (by decide),if_pos rfl] at g1
  simp at g1
  obtain ⟨x,hx⟩ := List.length_eq_one_iff.1 g1.1
  subst hx
  have hr := (wfT_iff.1 hwu).w x (by simp)
  refine ⟨x,by rw [norm_mk]; simp,hr.1,hr.2,by simpa using e3⟩
end Go.Proofs.YthfiijdbnkaabaaGreat

namespace Go.Proofs.YthfiijdbnkaabaaGreat
set_option linter.unusedVariables false
set_option linter.unusedSimpArgs false
open Go Go.G Go.Proofs
def right (p : Pt) : Bool :=
  if p.kind = 0 then decide (p = ⟨0,0,0,0,0,0,0,false⟩)
  else if p.kind = 1 then decide (-536870912≤p.off∧p.off < 536870912∧0≤p.data∧p.data < 65536∧0≤p.ptrs∧p.ptrs < 65536∧p = ⟨1,p.off,p.data,p.ptrs,0,0,0,false⟩∧(p.off ≠ 0∨p.data ≠ 0∨p.ptrs ≠ 0))
  else if p.kind = 2 then decide (-536870912≤p.off∧p.off < 536870912∧0≤p.code∧p.code < 8∧0≤p.count∧p.count < 536870912∧p = ⟨2,p.off,0,0,p.code,p.count,0,false⟩)
  else if p.kind = 3 then decide (0≤p.off∧p.off < 536870912∧0≤p.seg∧p.seg < 4294967296∧p = ⟨3,p.off,0,0,0,0,p.seg,p.dbl⟩)
  else false
end Go.Proofs.YthfiijdbnkaabaaGreat

namespace Go.Proofs.YthfiijdbnkaabaaGreat
set_option linter.unusedVariables false
set_option linter.unusedSimpArgs false
open Go Go.G Go.Proofs
theorem offs_of {o r : Int} (h1 : -536870912≤o) (h2 : o < 536870912) (h3 : 0≤r) (k : Int) (hk : 0≤k) (hk4 : k < 4) : offs (o * 4 % 4294967296 + k + r * 4294967296) = o := by
  unfold offs
  split <;> omega
theorem enc_right (p : Pt) : encB p = right p := by
  obtain ⟨k,o,d,q,co,n,s,b⟩ := p
  by_cases h1 : k = 1
  · subst h1
    by_cases hr : -536870912≤o∧o < 536870912∧0≤d∧d≤65535∧0≤q∧q≤65535
    · have e : encW ⟨1,o,d,q,co,n,s,b⟩ = o * 4 % 4294967296 + d * 4294967296 + q * 281474976710656 := by rw [encW,if_pos rfl,if_pos hr]
      obtain ⟨a1,a2,a3,a4,a5,a6⟩ := hr
      refine Bool.eq_iff_iff.2 ?_
      simp only [encB,e]
      by_cases hz : o = 0∧d = 0∧q = 0
      · obtain ⟨rfl,rfl,rfl⟩ := hz
        simp [dec,right]
      · have e2 : dec (o * 4 % 4294967296 + d * 4294967296 + q * 281474976710656) = ⟨1,o,d,q,0,0,0,false⟩ := by
          have eo := offs_of (r := d + q * 65536) a1 a2 (by omega) 0 (by omega) (by omega)
          rw [show o * 4 % 4294967296 + 0 + (d + q * 65536) * 4294967296 = o * 4 % 4294967296 + d * 4294967296 + q * 281474976710656 from by omega] at eo
          rw [dec,if_neg (by omega),if_pos (by omega),eo]
          congr 1 <;> omega
        rw [e2]
        cases b <;> simp [right] <;> omega
    · have e : encW ⟨1,o,d,q,co,n,s,b⟩ = 0 := by rw [encW,if_pos rfl,if_neg hr]
      refine Bool.eq_iff_iff.2 ?_
      simp [encB,e,dec,right]
      omega
  by_cases h2 : k = 2
  · subst h2
    by_cases hr : -536870912≤o∧o < 536870912∧0≤co∧co≤7∧0≤n∧n≤536870911
    · have e : encW ⟨2,o,d,q,co,n,s,b⟩ = o * 4 % 4294967296 + 1 + co * 4294967296 + n * 34359738368 := by rw [encW,if_neg (by simp),if_pos rfl,if_pos hr]
      obtain ⟨a1,a2,a3,a4,a5,a6⟩ := hr
      refine Bool.eq_iff_iff.2 ?_
      simp only [encB,e]
      have e2 : dec (o * 4 % 4294967296 + 1 + co * 4294967296 + n * 34359738368) = ⟨2,o,0,0,co,n,0,false⟩ := by
        have eo := offs_of (r := co + n * 8) a1 a2 (by omega) 1 (by omega) (by omega)
        rw [show o * 4 % 4294967296 + 1 + (co + n * 8) * 4294967296 = o * 4 % 4294967296 + 1 + co * 4294967296 + n * 34359738368 from by omega] at eo
        rw [dec,if_neg (by omega),if_neg (by omega),if_pos (by omega),eo]
        congr 1 <;> omega
      rw [e2]
      cases b <;> simp [right] <;> omega
    · have e : encW ⟨2,o,d,q,co,n,s,b⟩ = 0 := by rw [encW,if_neg (by simp),if_pos rfl,if_neg hr]
      refine Bool.eq_iff_iff.2 ?_
      simp [encB,e,dec,right]
      omega
  by_cases h3 : k = 3
  · subst h3
    by_cases hr : 0≤o∧o≤536870911∧0≤s∧s≤4294967295
    · have e : encW ⟨3,o,d,q,co,n,s,b⟩ = o * 8 + 2 + s * 4294967296 + (if b = true then 4 else 0) := by rw [encW,if_neg (by simp),if_neg (by simp),if_pos rfl,if_pos hr]
      obtain ⟨a1,a2,a3,a4⟩ := hr
      refine Bool.eq_iff_iff.2 ?_
      simp only [encB,e]
      have e2 : dec (o * 8 + 2 + s * 4294967296 + (if b = true then 4 else 0)) = ⟨3,o,0,0,0,0,s,b⟩ := by
        cases b with
        | true =>
          rw [if_pos rfl,dec,if_neg (by omega),if_neg (by omega),if_neg (by omega),if_pos (by omega)]
          congr 1 <;> first | omega | (simp; omega)
        | false =>
          rw [if_neg (by simp),dec,if_neg (by omega),if_neg (by omega),if_neg (by omega),if_pos (by omega)]
          congr 1 <;> first | omega | (simp; omega)
      rw [e2]
      simp [right]
      omega
    · have e : encW ⟨3,o,d,q,co,n,s,b⟩ = 0 := by rw [encW,if_neg (by simp),if_neg (by simp),if_pos rfl,if_neg hr]
      refine Bool.eq_iff_iff.2 ?_
      simp [encB,e,dec,right]
      omega
  have e : encW ⟨k,o,d,q,co,n,s,b⟩ = 0 := by rw [encW,if_neg h1,if_neg h2,if_neg h3]
  refine Bool.eq_iff_iff.2 ?_
  simp [encB,e,dec,right,h1,h2,h3]
  by_cases h0 : k = 0
  · cases b <;> simp [h0] <;> omega
  · simp [h0]
    intro hk
    omega
end Go.Proofs.YthfiijdbnkaabaaGreat

namespace Go.Proofs.YthfiijdbnkaabaaGreat
set_option linter.unusedVariables false
set_option linter.unusedSimpArgs false
open Go Go.G Go.Proofs Go.PL
section
variable {n0 : Nat} {w0 : World} {I0 : Nat→Prop} {Q : Exit→Sta→Prop}
theorem pPut_l1 {c : Int} {ns : List Int} (hn : ns.length≤1000000000) {w : Nat} (hw : w = 0∨w = 1∨w = 8∨w = 16∨w = 32∨w = 64) (hwc : widthZ c = w) (hfit : ∀ x,x ∈ ns→u64R x∧fitsZ c x = true) {m : Nat} (hm : w ≠ 0→m = (ns.length * w + 63) / 64)
    (hq : ∀ (q : Bool) (H' : Hp) (out : List Int),out = putL w ns 0 (List.replicate m 0)→H' [0] = ⟨1,.arr 1 (out.map uv)⟩→Q (.exit 0) ⟨lk [(0,iv c),(6,nv w),(8,.osl [0] 1 1 0 m),(23,uws ns),(24,nv ns.length),(25,nv ns.length),(26,bv q)],H'⟩) :
    ∀ (j i : Nat) (out : List Int) (H : Hp),i + j = ns.length→out.length = m→(w ≠ 0→PutI w i out)→putL w (ns.drop i) i out = putL w ns 0 (List.replicate m 0)→H [0] = ⟨1,.arr 1 (out.map uv)⟩ →
    LoopC (cx Tryz.prog w0 I0 n0) l1_word_Put Q ⟨lk [(0,iv c),(6,nv w),(8,.osl [0] 1 1 0 m),(23,uws ns),(24,nv ns.length),(25,nv i)],H⟩ := by
  have hw64 : w≤64 := by omega
  intro j
  induction j with
  | zero =>
    intro i out H hi hl hI hp hH
    have : i = ns.length := by omega
    subst this
    rw [List.drop_eq_nil_of_le (Nat.le_refl _),putL] at hp
    refine loopC_once mixed l1_word_Put.eq_1 ?_
    simp
    exact hq _ H out hp hH
  | succ j ih =>
    intro i out H hi hl hI hp hH
    have hlt : i < ns.length := by omega
    have ei : IntKind.i64.wrap ((i : Int) + 1) = ((i + 1 : Nat) : Int) := i64_same (by omega) (by omega)
    obtain ⟨f1,f2⟩ := hfit _ (List.getElem_mem hlt)
    have f1' := f1
    unfold u64R at f1'
    have hx2 := fits_lt hwc f1'.1 f2
    obtain ⟨e1,e2,e3⟩ := prod_mod (i := i) hw64 (by omega)
    rw [List.drop_eq_getElem_cons hlt,putL] at hp
    refine loopC_once mixed l1_word_Put.eq_1 ?_
    simp [hlt]
    refine sc_call (pFits_spec f1) (by simp) ?_
    simp [f2]
    by_cases h0 : w = 0
    · subst h0
      rw [if_pos rfl] at hp
      simp [ei]
      exact ih (i + 1) out H (by omega) hl (fun h => absurd rfl h) hp hH
    · rw [if_neg h0] at hp
      have hat : i * w / 64 < out.length := by rw [hl,hm h0]; exact put_at (by omega) hlt
      obtain ⟨p1,p2,p3,p4,p5⟩ := putI_step (hI h0) (by omega) f1'.1 hx2 hat
      have hw0 : (0 : Int) < w := by omega
      have hw0' : 0 < w := by omega
      have hg : out.getD (i * w / 64) 0 = out[i * w / 64] := by simp [hat]
      have hatm : i * w / 64 < m := by omega
      rw [hg] at p1 p2 p3 p5 hp
      have hnn := Int.mul_nonneg f1'.1 (show (0 : Int)≤2 ^ (i * w % 64) from Int.le_of_lt (Int.pow_pos (by decide)))
      have hs64 : i * w % 64 < 64 := Nat.mod_lt _ (by decide)
      have esh : IntKind.u64.wrap (ns[i] * 2 ^ min (i * w % 64) IntKind.u64.bits) = ns[i] * 2 ^ (i * w % 64) := by
        rw [show min (i * w % 64) IntKind.u64.bits = i * w % 64 from by simp [IntKind.bits]; omega]
        exact u64_same hnn p4
      have hor : bits .or .u64 out[i * w / 64] (ns[i] * 2 ^ (i * w % 64)) = out[i * w / 64] + ns[i] * 2 ^ (i * w % 64) :=
        u64_or' (i * w % 64) p2 p3 (by omega) hnn (Int.mul_emod_left _ _) p4
      have him : i * w≤1000000000 * 64 := Nat.mul_le_mul (by omega) hw64
      have eP : IntKind.i64.wrap ((i * w / 64 : Nat) : Int) = ((i * w / 64 : Nat) : Int) := i64_same (by omega) (by omega)
      have eS : IntKind.i64.wrap ((i * w % 64 : Nat) : Int) = ((i * w % 64 : Nat) : Int) := i64_same (by omega) (by omega)
      generalize i * w % 64 = s at *
      generalize i * w / 64 = P at *
      simp [hw0',e1,e2,e3,hH,hat,hatm,eP,eS,esh,hor,ei]
      refine ⟨?_,fun h => absurd h h0⟩
      refine ih (i + 1) (out.set P (out[P] + ns[i] * 2 ^ s)) _ (by omega) (by simpa using hl) (fun _ => p1) hp ?_
      simp [List.map_set]
end
theorem pPut_spec {c : Int} (c0 : 0≤c) (c6 : c < 6) {ns : List Int} (hn : ns.length≤1000000000) (hfit : ∀ x,x ∈ ns→u64R x∧fitsZ c x = true) : G.Spec Tryz.prog 99 [iv c,uws ns] (.tup [uws (putZ c ns),bv true]) := by
  obtain ⟨w,w1,w2,w3⟩ := width_cases c0 c6
  have hroom : roomZ c ns.length = (((ns.length * w + 63) / 64 : Nat) : Int) := by
    unfold roomZ
    rw [if_neg (by omega),w2]
    have e : (ns.length : Int) * w = ((ns.length * w : Nat) : Int) := by rw [Int.natCast_mul]
    rw [e]
    omega
  have hm : (roomZ c ns.length).toNat = (ns.length * w + 63) / 64 := by rw [hroom]; omega
  have hb : (ns.length * w + 63) / 64≤1000000001 := by
    have : ns.length * w≤1000000000 * 64 := Nat.mul_le_mul hn (by omega)
    omega
  refine spec_of t_word_Put (by simp) fun w0 I0 => ?_
  unfold c_word_Put
  simp
  refine sc_call (width_spec c) rfl ?_
  rw [w1]
  have hnn : ¬ (w : Int) < 0 := by omega
  simp [hnn]
  refine sc_call (room_spec' c ns.length) (by simp) ?_
  rw [hroom]
  generalize hM : (ns.length * w + 63) / 64 = m at *
  have hm8 : (m : Int) * 8≤140737488355328 := by omega
  have hz : putZ c ns = putL w ns 0 (List.replicate m 0) := by
    unfold putZ
    rw [w1,hm]
    simp
  rw [hz]
  simp [hm8]
  refine ⟨by omega,?_⟩
  refine pPut_l1 hn w3 w1 hfit (m := m) (fun _ => hM.symm) (fun q H' out ho hH => ?_) ns.length 0 (List.replicate m 0) _ (by omega) (by simp) (fun _ => PutI.start w m) (by simp) ?_
  rotate_left
  · simp
  subst ho
  simp
  refine frz_tup ?_
  simp
  exact ⟨frz_row (f := uv) (by rw [hH]; simp) (by simp [putL_length]) (fun x => by simp),frz_bare rfl⟩
def wrF (r : Nat) (S : Cp) : Nm→VOb
  | [] => ⟨1,.cells [.osl [r,0] S.v 1 0 S.W.length]⟩
  | [0] => ⟨S.v,.arr 1 (S.W.map uv)⟩
  | _ => ⟨0,.none⟩
@[simp] theorem wrF_nil {r : Nat} {S : Cp} : wrF r S [] = ⟨1,.cells [.osl [r,0] S.v 1 0 S.W.length]⟩ := rfl
@[simp] theorem wrF_0 {r : Nat} {S : Cp} : wrF r S [0] = ⟨S.v,.arr 1 (S.W.map uv)⟩ := rfl
theorem wrF_but {r : Nat} {S S' : Cp} {p : Nm} (h0 : p ≠ []) (h1 : p ≠ [0]) : wrF r S p = wrF r S' p := by
  match p,h0,h1 with
  | [],h,_ => exact absurd rfl h
  | [0],_,h => exact absurd rfl h
  | 0 :: a :: q,_,_ => rfl
  | (a + 1) :: q,_,_ => rfl
def wrM (S : Cp) : Fam := ⟨fun r => wrF r S,fun {g δ r r'} hg hd p => by
    match p with
    | [] => simp [VOb.ren,Ob.ren,A.renL,A.ren,hg,hd]
    | [0] => exact Fam.arr_ren (renL_uv _)
    | 0 :: a :: q => rfl
    | (a + 1) :: q => rfl,fun {D r} hD p => by
    match p with
    | [] => simp [Ob.refs,A.refsL,A.refs,hD]
    | [0] =>
      refine refsL_iff.2 fun x hx => ?_
      obtain ⟨c,_,rfl⟩ := List.mem_map.1 hx
      trivial
    | 0 :: a :: q => trivial
    | (a + 1) :: q => trivial⟩
@[simp] theorem wrM_F {S : Cp} {r : Nat} : (wrM S).F r = wrF r S := rfl
theorem wGive_spec (S : Cp) (hS : S.W.length≤131072) (n : Nat) (hn : n≤1000000) : SpecF Tryz.prog 62 (fun r => [.pob [r] 1 0,nv n]) (wrM S) (fun _ => nv S.W.length) (wrM ⟨S.v + 1,S.W ++ List.replicate n 0⟩) := by
  refine specF_of t_canon_writer_give (by simp) (famL_cons famA_pob (famL_cons famA_v famL_nil)) famA_v fun w0 I0 M0 m0 => ?_
  unfold c_canon_writer_give
  have hle : (S.W.length + n) * 8≤140737488355328 := by omega
  have hn1 : (n : Int) * 8≤140737488355328 := by omega
  simp [updF_app,hle,hn1]
  refine reth_fam rfl rfl fun p => ?_
  refine updF_is ?_ (fun h1 => updF_is ?_ (fun h2 => wrF_but h1 h2))
  · simp
  · simp [List.take_of_length_le]
theorem wpoint_k1 {n : Nat} {w0 : World} {I0 : Nat→Prop} {M0 : Nm→Nat→Prop} {m0 : Mu} {S : Cp} {q : Pt} {a : Nat} {t : A} (ha : a < S.W.length) {H : Hp} (hH : ∀ p,H (0 :: p) = wrF 0 S p) (hP : H [1] = ⟨1,.cells (ptL q)⟩) :
    WPC (cxh Tryz.prog w0 I0 M0 n m0) k1_canon_writer_point (RetH (cxh Tryz.prog w0 I0 M0 n m0) [.tmp 8] 1 (bv (encB q)) (ov 0 (wrF 0 ⟨S.v,S.W.set a (encW q)⟩) (lkH []))) ⟨lk [(0,.pob [0] 1 0),(1,nv a),(7,.pob [1] 1 0)],H⟩ := by
  unfold k1_canon_writer_point
  have ha' : (a : Int) < S.W.length := by omega
  simp [hP,hH]
  refine sc_call (Encode_spec q) (by simp) ?_
  simp [hH,ha]
  refine reth_famN rfl rfl fun p => ?_
  by_cases h0 : p = [0]
  · subst h0
    simp [updF_app,List.map_set]
  · by_cases h1 : p = []
    · subst h1
      simp [updF_app,hH]
    · simp only [updF_app]
      rw [if_neg (by simpa using h0),hH]
      exact wrF_but h1 h0
theorem wPoint_spec (S : Cp) {a : Nat} (ha : a < S.W.length) (ha2 : a≤200000) {to : Int} (t0 : 0≤to) (t1 : to≤200000) (p : Pt) (d0 : 0≤p.data) (d1 : p.data≤200000) (k0 : 0≤p.ptrs) (k1 : p.ptrs≤200000) :
    SpecF Tryz.prog 95 (fun r => [.pob [r] 1 0,nv a,iv to,p.a]) (wrM S) (fun _ => bv (encB (ptQ p a to))) (wrM ⟨S.v,S.W.set a (encW (ptQ p a to))⟩) := by
  refine specF_of t_canon_writer_point (by simp) (famL_cons famA_pob (famL_cons famA_v (famL_cons famA_v (famL_cons (famA_agg (FamL.all fun x hx => ?_)) famL_nil)))) famA_v fun w0 I0 M0 m0 => ?_
  · simp at hx
    rcases hx with rfl | rfl | rfl | rfl | rfl | rfl | rfl | rfl <;> simp
  unfold c_canon_writer_point
  have e1 : IntKind.i64.wrap (to - (a : Int)) = to - a := i64_same (by omega) (by omega)
  have e2 : IntKind.i64.wrap (to - (a : Int) - 1) = to - a - 1 := i64_same (by omega) (by omega)
  have e3 : IntKind.i64.wrap (p.data + p.ptrs) = p.data + p.ptrs := i64_same (by omega) (by omega)
  obtain ⟨kind,off,data,ptrs,code,count,sg,dbl⟩ := p
  simp only at d0 d1 k0 k1 e3
  by_cases h1 : kind = 1
  · subst h1
    by_cases h2 : data + ptrs = 0
    · have hq : ptQ ⟨1,off,data,ptrs,code,count,sg,dbl⟩ a to = ⟨1,-1,data,ptrs,code,count,sg,dbl⟩ := by simp [ptQ,h2]
      rw [h2] at e3
      simp [e1,e2,e3,h2,updF_app,Pt.a]
      rw [hq]
      exact wpoint_k1 (t := .any) ha (fun p => by simp) (by simp)
    · have hq : ptQ ⟨1,off,data,ptrs,code,count,sg,dbl⟩ a to = ⟨1,to - a - 1,data,ptrs,code,count,sg,dbl⟩ := by simp [ptQ,h2]
      simp [e1,e2,e3,h2,updF_app,Pt.a]
      rw [hq]
      exact wpoint_k1 (t := .any) ha (fun p => by simp) (by simp)
  · have hq : ptQ ⟨kind,off,data,ptrs,code,count,sg,dbl⟩ a to = ⟨kind,to - a - 1,data,ptrs,code,count,sg,dbl⟩ := by simp [ptQ,h1]
    simp [e1,e2,e3,h1,updF_app,Pt.a]
    rw [hq]
    exact wpoint_k1 (t := .any) ha (fun p => by simp) (by simp)
theorem encB_str {at_ to w k : Int} (h0 : 0≤at_) (h1 : at_≤200000) (h2 : 0≤to) (h3 : to≤200000) (hlt : at_ < to) (w0 : 0≤w) (w1 : w < 65536) (k0 : 0≤k) (k1 : k < 65536) : encB (ptQ ⟨1,0,w,k,0,0,0,false⟩ at_ to) = true := by
  rw [enc_right]
  by_cases hz : w + k = 0
  · have e : ptQ ⟨1,0,w,k,0,0,0,false⟩ at_ to = ⟨1,-1,w,k,0,0,0,false⟩ := by simp [ptQ,hz]
    rw [e]
    simp [right]
    omega
  · have e : ptQ ⟨1,0,w,k,0,0,0,false⟩ at_ to = ⟨1,to - at_ - 1,w,k,0,0,0,false⟩ := by simp [ptQ,hz]
    rw [e]
    simp [right]
    omega
theorem encB_list {at_ to c n : Int} (h0 : 0≤at_) (h1 : at_≤200000) (h2 : 0≤to) (h3 : to≤200000) (c0 : 0≤c) (c1 : c≤7) (n0 : 0≤n) (n1 : n < 536870912) : encB (ptQ ⟨2,0,0,0,c,n,0,false⟩ at_ to) = true := by
  rw [enc_right]
  have e : ptQ ⟨2,0,0,0,c,n,0,false⟩ at_ to = ⟨2,to - at_ - 1,0,0,c,n,0,false⟩ := by simp [ptQ]
  rw [e]
  simp [right]
  omega
end Go.Proofs.YthfiijdbnkaabaaGreat

namespace Go.Proofs.YthfiijdbnkaabaaGreat
set_option linter.unusedVariables false
set_option linter.unusedSimpArgs false
open Go Go.G Go.Proofs Go.PL
@[simp] theorem elems_sl {H : Hp} {s : Nat} {f : Bool} {xs : List A} : elemsA H s (.sl f xs) = if lens s xs = true then some xs else none := rfl
theorem setW_eq : ∀ (ws : List Int) (b : Nat) (l : List Int),b + ws.length≤l.length→setW b ws l = l.take b ++ ws ++ l.drop (b + ws.length)
  | [],b,l,h => by simp [setW]
  | x :: ws,b,l,h => by
    simp only [List.length_cons] at h
    rw [setW,setW_eq ws (b + 1) _ (by simp; omega)]
    have e1 : (l.set b x).take (b + 1) = l.take b ++ [x] := by
      rw [List.take_succ_eq_append_getElem (by simp; omega),List.getElem_set_self,List.take_set_of_le (Nat.le_refl _)]
    have e2 : (l.set b x).drop (b + 1 + ws.length) = l.drop (b + (ws.length + 1)) := by
      rw [List.drop_set_of_lt (by omega)]
      congr 1
      omega
    rw [e1,e2]
    simp
theorem famA_tXw (t : T) : FamA (fun _ => tX t) := famA_bare rfl fun y hy => by
  simp at hy
  rcases hy with rfl | rfl | rfl <;> rfl
theorem faW (t : T) (a : Nat) : FamL (fun r => [.pob [r] 1 0,nv a,tX t]) := famL_cons famA_pob (famL_cons famA_v (famL_cons (famA_tXw t) famL_nil))
theorem faW2 (t : T) (a w : Nat) : FamL (fun r => [.pob [r] 1 0,nv a,nv w,tX t]) := famL_cons famA_pob (famL_cons famA_v (famL_cons famA_v (famL_cons (famA_tXw t) famL_nil)))
def WVS (t : T) : Prop := LayOk t→∀ (S : Cp) (a : Nat),a < S.W.length→(S.W.length : Int) + sizeT t≤131072 →
  ∃ v' : Nat,SpecF Tryz.prog 61 (fun q => [.pob [q] 1 0,nv a,tX t]) (wrM S) (fun _ => bv true) (wrM ⟨v',layT t a S.W⟩)
def WKS (t : T) : Prop := (∀ u,u ∈ t.kids→LayOk u)→∀ (S : Cp) (a : Nat),a + t.kids.length≤S.W.length→(S.W.length : Int) + sizeL t.kids≤131072 →
  ∃ v' : Nat,SpecF Tryz.prog 98 (fun q => [.pob [q] 1 0,nv a,tX t]) (wrM S) (fun _ => bv true) (wrM ⟨v',layL t.kids a S.W⟩)
def WFS (t : T) : Prop := (∀ u,u ∈ t.kids→LayOk u)→∀ (S : Cp) (a w : Nat),t.words.length≤w→w≤131072→a + w + t.kids.length≤S.W.length→(S.W.length : Int) + sizeL t.kids≤131072 →
  ∃ v' : Nat,SpecF Tryz.prog 96 (fun q => [.pob [q] 1 0,nv a,nv w,tX t]) (wrM S) (fun _ => bv true) (wrM ⟨v',layL t.kids (a + w) (setW a t.words S.W)⟩)
theorem layT_le (t : T) (a : Nat) (l : List Int) : l.length≤(layT t a l).length := (lay_ls t).1.2 a l
theorem wkids_l1 {t : T} {a : Nat} (hk : t.kids.length≤200000) (ih : ∀ c,c ∈ t.kids→WVS c) (hlay : ∀ u,u ∈ t.kids→LayOk u) : ∀ (j i : Nat) (S : Cp),i + j = t.kids.length→a + t.kids.length≤S.W.length→(S.W.length : Int) + sizeL (t.kids.drop i)≤131072 →
    ∃ v' : Nat,∀ {n0 : Nat} {w0 : World} {I0 : Nat→Prop} {M0 : Nm→Nat→Prop} {m0 : Mu} {Q : Exit→Sta→Prop} (H : Hp),(∀ p,H (0 :: p) = wrF 0 S p) →
      (∀ q H',(∀ p,H' (0 :: p) = wrF 0 ⟨v',layL (t.kids.drop i) (a + i) S.W⟩ p)→Q (.exit 0) ⟨lk [(0,.pob [0] 1 0),(1,nv a),(10,tKs t.kids),(11,nv t.kids.length),(12,nv t.kids.length),(13,bv q)],H'⟩) →
      LoopC (cxh Tryz.prog w0 I0 M0 n0 m0) l1_canon_writer_kids Q ⟨lk [(0,.pob [0] 1 0),(1,nv a),(10,tKs t.kids),(11,nv t.kids.length),(12,nv i)],H⟩ := by
  intro j
  induction j with
  | zero =>
    intro i S hi ha hS
    have : i = t.kids.length := by omega
    subst this
    have hd : t.kids.drop t.kids.length = [] := List.drop_eq_nil_of_le (Nat.le_refl _)
    refine ⟨S.v,fun H hH hq => ?_⟩
    rw [hd] at hq
    refine loopC_once mixed l1_canon_writer_kids.eq_1 ?_
    simp
    exact hq _ H (by simpa using hH)
  | succ j ihj =>
    intro i S hi ha hS
    have hlt : i < t.kids.length := by omega
    have hdr : t.kids.drop i = t.kids[i] :: t.kids.drop (i + 1) := List.drop_eq_getElem_cons hlt
    have hm := List.getElem_mem hlt
    have hle := layT_le t.kids[i] (a + i) S.W
    have hlen := (lay_len _).1 (hlay _ hm) (a + i) S.W
    have hrest := sizeL_nonneg (ts := t.kids.drop (i + 1)) fun u hu => hlay u (List.mem_of_mem_drop hu)
    rw [hdr] at hS ⊢
    simp only [sizeL_cons,layL_cons] at hS ⊢
    obtain ⟨v1,q4⟩ := ih _ hm (hlay _ hm) S (a + i) (by omega) (by omega)
    obtain ⟨v2,p4⟩ := ihj (i + 1) ⟨v1,layT t.kids[i] (a + i) S.W⟩ (by omega) (by simp only; omega) (by simp only; omega)
    have hn0 := (size_nonneg t.kids[i]).1 (hlay _ hm)
    have ei : IntKind.i64.wrap ((i : Int) + 1) = ((i + 1 : Nat) : Int) := i64_same (by omega) (by omega)
    have ea : IntKind.i64.wrap ((a : Int) + i) = ((a + i : Nat) : Int) := i64_same (by omega) (by omega)
    refine ⟨v2,fun H hH hq => ?_⟩
    refine loopC_once mixed l1_canon_writer_kids.eq_1 ?_
    simp [hlt,ea,updF_app]
    refine sc_fam 0 q4 (fun p => by simp [updF_app,hH]) (by simp) (by simp) ?_
    simp [ei]
    exact p4 _ (fun p => by simp) hq
theorem wKids_spec {t : T} (ih : ∀ c,c ∈ t.kids→WVS c) : WKS t := fun hlay S a ha hS => by
  have hn := sizeL_nonneg hlay
  obtain ⟨v',q4⟩ := wkids_l1 (t := t) (a := a) (by omega) ih hlay t.kids.length 0 S (by omega) ha (by simpa using hS)
  refine ⟨v',specF_of t_canon_writer_kids (by simp) (faW t a) famA_v fun w0 I0 M0 m0 => ?_⟩
  unfold c_canon_writer_kids
  simp
  refine q4 _ (fun p => by simp) (fun q H' hH => ?_)
  simp
  exact reth_fam rfl rfl (by simpa using hH)
theorem wStruct_spec {t : T} (ih : ∀ c,c ∈ t.kids→WVS c) : WFS t := fun hlay S a w hw hw2 ha hS => by
  obtain ⟨v',q4⟩ := wKids_spec ih hlay ⟨S.v,setW a t.words S.W⟩ (a + w) (by simpa using ha) (by simpa using hS)
  have hn := sizeL_nonneg hlay
  refine ⟨v',specF_of t_canon_writer_structure (by simp) (faW2 t a w) famA_v fun w0 I0 M0 m0 => ?_⟩
  have ew : IntKind.i64.wrap ((a : Int) + w) = ((a + w : Nat) : Int) := i64_same (by omega) (by omega)
  have ha1 : a≤S.W.length := by omega
  have ha2 : (a : Int)≤S.W.length := by omega
  have hmin : min t.words.length (S.W.length - a) = t.words.length := by omega
  have hfit : a + (S.W.length - a)≤S.W.length := by omega
  unfold c_canon_writer_structure
  simp [ha1,ha2,hmin,hfit,ew]
  refine sc_fam 0 q4 (fun p => ?_) (by simp) (by simp) ?_
  · simp only [ov_cons,if_true,wrM_F]
    refine updF_is ?_ (fun h1 => ?_)
    · have e : List.take t.words.length (t.words.map uv) = t.words.map uv := List.take_of_length_le (by simp)
      simp [setW_eq _ _ _ (show a + t.words.length≤S.W.length by omega),List.map_take,List.map_drop,e]
    · by_cases h0 : p = []
      · subst h0; simp
      · exact wrF_but h0 h1
  simp
  exact reth_fam rfl rfl (by simp)
theorem tag_ok (n w k : Nat) (hn : n < 536870912) (hw : w < 65536) (hk : k < 65536) : encB ⟨1,n,w,k,0,0,0,false⟩ = !decide ((n : Int) + ((w : Int) + k) = 0) := by
  rw [enc_right]
  by_cases hz : n + (w + k) = 0
  · obtain rfl : n = 0 := by omega
    obtain rfl : w = 0 := by omega
    obtain rfl : k = 0 := by omega
    simp [right]
  · have h1 : ¬ ((n : Int) + ((w : Int) + k) = 0) := by omega
    have h2 : (n : Int) ≠ 0∨(w : Int) ≠ 0∨(k : Int) ≠ 0 := by omega
    unfold right
    rw [if_neg (by simp),if_pos rfl]
    simp only [h1,decide_false,Bool.not_false]
    exact decide_eq_true ⟨by omega,by omega,by omega,by omega,by omega,by omega,trivial,h2⟩
theorem wcomp_l1 {t : T} (hk : t.kids.length≤536870912) (ih : ∀ c,c ∈ t.kids→WFS c) (hlay : ∀ c,c ∈ t.kids→∀ u,u ∈ c.kids→LayOk u) {w long to : Nat} {x : A} {v1 : VOb} (hw : ∀ c,c ∈ t.kids→c.words.length≤w∧w + c.kids.length≤long) (hw2 : w≤65536) : ∀ (j i : Nat) (S : Cp),i + j = t.kids.length→to + 1 + t.kids.length * long≤S.W.length→(S.W.length : Int) + sizeLL (t.kids.drop i)≤131072 →
    ∃ v' : Nat,∀ {n0 : Nat} {w0 : World} {I0 : Nat→Prop} {M0 : Nm→Nat→Prop} {m0 : Mu} {Q : Exit→Sta→Prop} (H : Hp),(∀ p,H (0 :: p) = wrF 0 S p)→H [1] = v1 →
      (∀ q H',(∀ p,H' (0 :: p) = wrF 0 ⟨v',cpC w long (t.kids.drop i) (to + 1 + i * long) S.W⟩ p)→H' [1] = v1→Q (.exit 0) ⟨lk [(0,.pob [0] 1 0),(5,.pob [1] 1 0),(7,nv w),(9,nv long),(11,x),(12,nv to),(62,tKs t.kids),(63,nv t.kids.length),(64,nv t.kids.length),(65,bv q)],H'⟩) →
      LoopC (cxh Tryz.prog w0 I0 M0 n0 m0) l1_canon_writer_composite Q ⟨lk [(0,.pob [0] 1 0),(5,.pob [1] 1 0),(7,nv w),(9,nv long),(11,x),(12,nv to),(62,tKs t.kids),(63,nv t.kids.length),(64,nv i)],H⟩ := by
  intro j
  induction j with
  | zero =>
    intro i S hi ha hS
    have : i = t.kids.length := by omega
    subst this
    have hd : t.kids.drop t.kids.length = [] := List.drop_eq_nil_of_le (Nat.le_refl _)
    refine ⟨S.v,fun H hH h1 hq => ?_⟩
    rw [hd] at hq
    refine loopC_once mixed l1_canon_writer_composite.eq_1 ?_
    simp
    exact hq _ H (by simpa [cpC] using hH) h1
  | succ j ihj =>
    intro i S hi ha hS
    have hlt : i < t.kids.length := by omega
    have hdr : t.kids.drop i = t.kids[i] :: t.kids.drop (i + 1) := List.drop_eq_getElem_cons hlt
    have hm := List.getElem_mem hlt
    have hil : (i + 1) * long≤t.kids.length * long := Nat.mul_le_mul_right _ (by omega)
    rw [Nat.add_mul,Nat.one_mul] at hil
    obtain ⟨w1,w2⟩ := hw _ hm
    have hlen := layL_len (hlay _ hm) (to + 1 + i * long + w) (setW (to + 1 + i * long) t.kids[i].words S.W)
    rw [setW_length] at hlen
    have hrest : 0≤sizeLL (t.kids.drop (i + 1)) := sizeLL_nonneg fun u hu => hlay u (List.mem_of_mem_drop hu)
    have hk0 := sizeL_nonneg (hlay _ hm)
    rw [hdr] at hS ⊢
    simp only [sizeLL_cons,cpC] at hS ⊢
    obtain ⟨v1',q4⟩ := ih _ hm (hlay _ hm) S (to + 1 + i * long) w w1 (by omega) (by omega) (by omega)
    obtain ⟨v2,p4⟩ := ihj (i + 1) ⟨v1',layL t.kids[i].kids (to + 1 + i * long + w) (setW (to + 1 + i * long) t.kids[i].words S.W)⟩ (by omega) (by simp only; omega) (by simp only; omega)
    rw [show to + 1 + (i + 1) * long = to + 1 + i * long + long from by rw [Nat.add_mul,Nat.one_mul]; omega] at p4
    have ei : IntKind.i64.wrap ((i : Int) + 1) = ((i + 1 : Nat) : Int) := i64_same (by omega) (by omega)
    have em : IntKind.i64.wrap ((i : Int) * long) = ((i * long : Nat) : Int) := by
      rw [Int.natCast_mul]
      have : (i : Int) * long = ((i * long : Nat) : Int) := by rw [Int.natCast_mul]
      exact i64_same (by omega) (by omega)
    have et : IntKind.i64.wrap ((to : Int) + 1) = ((to + 1 : Nat) : Int) := i64_same (by omega) (by omega)
    have ea : IntKind.i64.wrap ((to : Int) + 1 + (i : Int) * long) = (to : Int) + 1 + (i : Int) * long := by
      have : (i : Int) * long = ((i * long : Nat) : Int) := by rw [Int.natCast_mul]
      exact i64_same (by omega) (by omega)
    refine ⟨v2,fun H hH h1 hq => ?_⟩
    refine loopC_once mixed l1_canon_writer_composite.eq_1 ?_
    simp [hlt,em,et,ea,updF_app]
    refine sc_fam 0 q4 (fun p => by simp [updF_app,hH]) (by simp) (by simp) ?_
    simp [ei]
    exact p4 _ (fun p => by simp) (by simp [updF_app,h1]) hq
theorem wComp_spec {t : T} (hk : t.kind = 9) (hok : LayOk t) (ih : ∀ c,c ∈ t.kids→WFS c) (S : Cp) (a : Nat) (ha : a < S.W.length) (hS : (S.W.length : Int) + sizeT t≤131072) :
    ∃ v' : Nat,SpecF Tryz.prog 97 (fun q => [.pob [q] 1 0,nv a,tX t]) (wrM S) (fun _ => bv true) (wrM ⟨v',layT t a S.W⟩) := by
  obtain ⟨k,ws,ks⟩ := t
  simp at hk
  subst hk
  simp only [T.kids_mk] at ih
  cases hok with
  | data k w ks h1 h2 => exact absurd h2 (by decide)
  | comp w ks hn hsz hlay =>
    have hbound := frame_bound (ts := ks) (w := 65535) (k := 65535) fun u hu => by have := hsz u hu; omega
    have hcond : ∀ c,c ∈ ks→c.words.length≤frameW ks∧frameW ks + c.kids.length≤frameW ks + frameK ks := fun c hc => by
      have h1 := frameW_le hc
      have h2 := frameK_le hc
      omega
    have hcond2 : ∀ c,c ∈ ks→c.words.length≤frameW ks∧c.kids.length≤frameK ks := fun c hc => ⟨frameW_le hc,frameK_le hc⟩
    have hLL : 0≤sizeLL ks := sizeLL_nonneg hlay
    have hfr := tFrame_spec (.mk 9 ws ks) (by simp; omega)
    simp only [T.kids_mk] at hfr
    have eT : sizeT (.mk 9 ws ks) = 1 + ks.length * ((frameW ks : Int) + frameK ks) + sizeLL ks := by
      rw [sizeT_mk]
      simp
    have hlay9 : ∀ W,layT (.mk 9 ws ks) a W = layC (frameW ks) (frameK ks) ks (W.length + 1) (W.set a (ptrZ a W.length 1 (7 + 8 * (ks.length * (frameW ks + frameK ks) : Nat))) ++ [4 * (ks.length : Int) + 4294967296 * ((frameW ks : Int) + 65536 * frameK ks)] ++ rowsC (frameW ks) (frameK ks) ks) := fun W => by
      rw [layT_mk,if_neg (by decide),if_neg (by decide),if_neg (by decide),if_pos rfl]
    have hl1 := fun x v1 => wcomp_l1 (t := .mk 9 ws ks) (by simp; omega) ih hlay (w := frameW ks) (long := frameW ks + frameK ks) (to := S.W.length) (x := x) (v1 := v1) hcond (by omega) ks.length 0
    have hc2 := cpC_eq (w := frameW ks) (k := frameK ks) ks
    have hf2 := fillC_app (w := frameW ks) (k := frameK ks) ks
    rw [eT] at hS
    simp only [hlay9]
    clear hlay9 eT hcond
    generalize frameW ks = w at *
    generalize frameK ks = k at *
    have hnl : ks.length * (w + k)≤536870912 * 131070 := Nat.mul_le_mul (by omega) (by omega)
    have hcast : (ks.length : Int) * ((w : Int) + k) = ((ks.length * (w + k) : Nat) : Int) := by rw [Int.natCast_mul,Int.natCast_add]
    rw [hcast] at hS
    have hzero : ks.length + (w + k) = 0→ks.length * (w + k) = 0 := fun h => by rw [show ks.length = 0 from by omega]; simp
    generalize hL : ks.length * (w + k) = L at *
    have e1 : IntKind.i64.wrap ((w : Int) + k) = (w : Int) + k := i64_same (by omega) (by omega)
    have e2 : IntKind.i64.wrap ((ks.length : Int) * ((w : Int) + k)) = (L : Int) := by rw [hcast]; exact i64_same (by omega) (by omega)
    have e3 : IntKind.i64.wrap (1 + (L : Int)) = ((1 + L : Nat) : Int) := (i64_same (by omega) (by omega)).trans (by omega)
    have e4 : IntKind.i64.wrap ((ks.length : Int) + ((w : Int) + k)) = (ks.length : Int) + ((w : Int) + k) := i64_same (by omega) (by omega)
    have hG := wGive_spec S (by omega) (1 + L) (by omega)
    have hE := Encode_spec ⟨1,ks.length,w,k,0,0,0,false⟩
    have htag : encW ⟨1,ks.length,w,k,0,0,0,false⟩ = 4 * (ks.length : Int) + 4294967296 * ((w : Int) + 65536 * k) := by
      unfold encW
      simp only
      rw [if_pos trivial,if_pos (by omega)]
      omega
    have hB := tag_ok ks.length w k hn (by omega) (by omega)
    rw [htag,hB] at hE
    have hP := wPoint_spec ⟨S.v + 1,(S.W ++ List.replicate (1 + L) 0).set S.W.length (4 * (ks.length : Int) + 4294967296 * ((w : Int) + 65536 * k))⟩ (a := a) (by simp; omega) (by omega) (to := (S.W.length : Int)) (by omega) (by omega) ⟨2,0,0,0,7,L,0,false⟩ (by simp) (by simp) (by simp) (by simp)
    rw [enc_list (by omega) (by omega) (by omega) (by omega) (by omega) (by omega) (by omega) (by omega),encB_list (by omega) (by omega) (by omega) (by omega) (by omega) (by omega) (by omega) (by omega)] at hP
    have hW3 : ((S.W ++ List.replicate (1 + L) 0).set S.W.length (4 * (ks.length : Int) + 4294967296 * ((w : Int) + 65536 * k))).set a (ptrZ a S.W.length 1 (7 + 8 * (L : Int))) = (S.W.set a (ptrZ a S.W.length 1 (7 + 8 * (L : Int))) ++ [4 * (ks.length : Int) + 4294967296 * ((w : Int) + 65536 * k)]) ++ List.replicate L 0 := by
      rw [List.set_append_right _ _ (Nat.le_refl _),Nat.sub_self,Nat.add_comm 1 L,List.replicate_succ,List.set_cons_zero,List.set_append_left _ _ ha]
      simp
    simp only at hP
    rw [hW3] at hP
    generalize hTg : 4 * (ks.length : Int) + 4294967296 * ((w : Int) + 65536 * k) = Tg at *
    have hTz : (ks.length : Int) + ((w : Int) + k) = 0→Tg = 0 := fun h => by omega
    obtain ⟨v',q4⟩ := hl1 (bv (!decide ((ks.length : Int) + ((w : Int) + k) = 0))) ⟨1,.cells (tL (.mk 9 ws ks))⟩ ⟨S.v + 1,(S.W.set a (ptrZ a S.W.length 1 (7 + 8 * (L : Int))) ++ [Tg]) ++ List.replicate L 0⟩ (by simp) (by simp; omega) (by simp; omega)
    simp only [List.drop_zero,Nat.zero_mul,Nat.add_zero,T.kids_mk] at q4
    refine ⟨v',?_⟩
    have hWe : cpC w (w + k) ks (S.W.length + 1) ((S.W.set a (ptrZ a S.W.length 1 (7 + 8 * (L : Int))) ++ [Tg]) ++ List.replicate L 0) = layC w k ks (S.W.length + 1) (S.W.set a (ptrZ a S.W.length 1 (7 + 8 * (L : Int))) ++ [Tg] ++ rowsC w k ks) := by
      rw [hc2 _ _ hcond2 (by simp [hL]; omega)]
      have := hf2 (S.W.set a (ptrZ a S.W.length 1 (7 + 8 * (L : Int))) ++ [Tg]) (fun u hu => by have := (hcond2 u hu).1; omega)
      simp only [List.length_append,List.length_set,List.length_singleton,hL] at this
      rw [this]
    rw [hWe] at q4
    refine specF_of t_canon_writer_composite (by simp) (faW _ a) famA_v fun w0 I0 M0 m0 => ?_
    unfold c_canon_writer_composite
    simp
    refine sc_call hfr (by simp) ?_
    simp [e1]
    refine sc_call hE (by simp) ?_
    have fin : ∀ H : Hp,(∀ p,H (0 :: p) = wrF 0 S p)→H [1] = ⟨1,.cells (tL (.mk 9 ws ks))⟩→WPC (cxh Tryz.prog w0 I0 M0 90 m0) k1_canon_writer_composite (RetH (cxh Tryz.prog w0 I0 M0 90 m0) [.tmp 6] 1 (bv true) (ov 0 (wrF 0 ⟨v',layC w k ks (S.W.length + 1) (S.W.set a (ptrZ a S.W.length 1 (7 + 8 * (L : Int))) ++ [Tg] ++ rowsC w k ks)⟩) (lkH [])))
        ⟨lk [(0,.pob [0] 1 0),(1,nv a),(5,.pob [1] 1 0),(7,nv w),(9,nv (w + k)),(10,uv Tg),(11,bv (!decide ((ks.length : Int) + ((w : Int) + k) = 0)))],H⟩ := fun H hH h1 => by
      unfold k1_canon_writer_composite
      have hlt1 : (S.W.length : Int) < S.W.length + (1 + (L : Int)) := by omega
      have hget : (List.map uv S.W ++ List.replicate (1 + L) (uv 0))[S.W.length]? = some (uv 0) := by
        rw [List.getElem?_append_right (by simp),Nat.add_comm 1 L,List.replicate_succ]
        simp
      simp [h1,e2,e3]
      refine sc_fam 0 hG (fun p => by simp [hH]) (by simp) (by simp) ?_
      simp [updF_app,hlt1,hget,h1,e2]
      refine sc_fam 0 hP (fun p => ?_) (by simp) (by simp) ?_
      · simp only [ov_cons,if_true,wrM_F]
        refine updF_is ?_ (fun h1 => ?_)
        · simp [List.map_set]
        · by_cases h0 : p = []
          · subst h0; simp
          · exact wrF_but h0 h1
      simp [h1,updF_app]
      refine q4 _ (fun p => by simp) (by simp [updF_app,h1]) (fun q H' hH' h1' => ?_)
      simp [h1',e4]
      exact reth_fam rfl rfl (by simpa using hH')
    by_cases hz : (ks.length : Int) + ((w : Int) + k) = 0
    · have hT0 := hTz hz
      subst hT0
      simp [hz]
      have := fin (ov 0 (wrF 0 S) (lkH [([1],⟨1,.cells (tL (.mk 9 ws ks))⟩)])) (fun p => by simp) (by simp)
      simp [hz] at this
      exact this
    · simp [hz]
      have := fin (ov 0 (wrF 0 S) (lkH [([1],⟨1,.cells (tL (.mk 9 ws ks))⟩)])) (fun p => by simp) (by simp)
      simp [hz] at this
      exact this
end Go.Proofs.YthfiijdbnkaabaaGreat

namespace Go.Proofs.YthfiijdbnkaabaaGreat
set_option linter.unusedVariables false
set_option linter.unusedSimpArgs false
open Go Go.G Go.Proofs Go.PL
section
variable {n0 : Nat} {w0 : World} {I0 : Nat→Prop} {M0 : Nm→Nat→Prop} {m0 : Mu} {Q : Exit→Sta→Prop}
theorem wtree_l1 {t : T} {a : Nat} {c : A} {v0 : Nm→VOb} {v1 : VOb} (hl : t.kids.length≤536870912) (hw : ∀ c,c ∈ t.kids→∃ x,c.words = [x]) : ∀ (m i u : Nat) (H : Hp),i + m = t.kids.length→(∀ p,H (0 :: p) = v0 p)→H [1] = v1→H [3] = ⟨u,.arr 1 ((t.kids.take i).map (uv ∘ hd))⟩ →
    (∀ q u' H',(∀ p,H' (0 :: p) = v0 p)→H' [1] = v1→H' [3] = ⟨u',.arr 1 (t.kids.map (uv ∘ hd))⟩→Q (.exit 1) ⟨lk [(0,.pob [0] 1 0),(1,nv a),(5,.pob [1] 1 0),(9,c),(10,.osl [3] u' 1 0 t.kids.length),(88,tKs t.kids),(89,nv t.kids.length),(90,nv t.kids.length),(91,bv q)],H'⟩) →
    LoopC (cxh Tryz.prog w0 I0 M0 n0 m0) l1_canon_writer_tree Q ⟨lk [(0,.pob [0] 1 0),(1,nv a),(5,.pob [1] 1 0),(9,c),(10,.osl [3] u 1 0 i),(88,tKs t.kids),(89,nv t.kids.length),(90,nv i)],H⟩ := by
  intro m
  induction m with
  | zero =>
    intro i u H hi h0 h1 h3 hq
    have : i = t.kids.length := by omega
    subst this
    refine loopC_once mixed l1_canon_writer_tree.eq_1 ?_
    simp
    exact hq _ u H h0 h1 (by rw [h3]; simp)
  | succ m ihm =>
    intro i u H hi h0 h1 h3 hq
    have hlt : i < t.kids.length := by omega
    have ei : IntKind.i64.wrap ((i : Int) + 1) = ((i + 1 : Nat) : Int) := i64_same (by omega) (by omega)
    obtain ⟨x,hx⟩ := hw _ (List.getElem_mem hlt)
    have hwd : wdT t.kids[i] 0 = hd t.kids[i] := by simp [wdT,hd,hx]
    have hrow := row_succ (f := uv ∘ hd) hlt rfl
    simp only [Function.comp] at hrow
    refine loopC_once mixed l1_canon_writer_tree.eq_1 ?_
    simp [hlt,updF_app]
    refine sc_call (pWd_spec t.kids[i] 0) rfl ?_
    rw [hwd]
    have hn1 : ((i : Int) + 1) * 8≤140737488355328 := by omega
    have hn2 : (i + 1) * 8≤140737488355328 := by omega
    simp [updF_app,h3,hn1,hn2,ei]
    rw [hrow]
    refine ⟨by omega,?_⟩
    exact ihm (i + 1) (u + 1) _ (by omega) (fun p => by simp [updF_app,h0]) (by simp [updF_app,h1]) (by simp [updF_app]) hq
end
theorem wTree_spec : ∀ t : T,WVS t∧WFS t := by
  refine T.ind fun k w ks ih => ?_
  have hF : WFS (.mk k w ks) := wStruct_spec fun c hc => (ih c hc).1
  have hK : WKS (.mk k w ks) := wKids_spec fun c hc => (ih c hc).1
  refine ⟨fun hok S a ha hS => ?_,hF⟩
  have h0 := (size_nonneg (.mk k w ks)).1 hok
  by_cases k9 : k = 9
  · subst k9
    obtain ⟨v',q4⟩ := wComp_spec rfl hok (fun c hc => (ih c hc).2) S a ha hS
    refine ⟨v',specF_of t_canon_writer_tree (by simp) (faW _ a) famA_v fun w0 I0 M0 m0 => ?_⟩
    unfold c_canon_writer_tree
    simp
    refine sc_fam 0 q4 (fun p => by simp) (by simp) (by simp) ?_
    simp
    exact reth_fam rfl rfl (by simp)
  cases hok with
  | null =>
    refine ⟨S.v,specF_of t_canon_writer_tree (by simp) (faW _ a) famA_v fun w0 I0 M0 m0 => ?_⟩
    unfold c_canon_writer_tree
    simp
    rw [layT_mk,if_pos rfl]
    exact reth_fam rfl rfl (by simp)
  | comp => exact absurd rfl k9
  | str w ks b1 b2 hl =>
    have hn := sizeL_nonneg hl
    rw [sizeT_mk,if_pos rfl] at hS
    have hG := wGive_spec S (by omega) (w.length + ks.length) (by omega)
    have hP := wPoint_spec ⟨S.v + 1,S.W ++ List.replicate (w.length + ks.length) 0⟩ (a := a) (by simp; omega) (by omega) (to := (S.W.length : Int)) (by omega) (by omega) ⟨1,0,w.length,ks.length,0,0,0,false⟩ (by simp) (by simp; omega) (by simp) (by simp; omega)
    rw [enc_str (by omega) (by omega) (by omega) (by omega) (by omega) (by omega) (by omega) (by omega),encB_str (by omega) (by omega) (by omega) (by omega) (by omega) (by omega) (by omega) (by omega) (by omega)] at hP
    simp only at hP
    rw [List.set_append_left _ _ ha] at hP
    generalize hX : S.W.set a (ptrZ a (if (w.length : Int) + ks.length = 0 then (a : Int) else S.W.length) 0 (w.length + 65536 * ks.length)) = X at hP
    have hXl : X.length = S.W.length := by rw [← hX]; simp
    have hsw := setW_app w X (List.replicate (w.length + ks.length) 0) (by simp)
    have hdrop : List.drop w.length (List.replicate (w.length + ks.length) (0 : Int)) = List.replicate ks.length 0 := by simp
    rw [hXl,hdrop] at hsw
    obtain ⟨v',q4⟩ := hF hl ⟨S.v + 1,X ++ List.replicate (w.length + ks.length) 0⟩ S.W.length w.length (by simp) (by omega) (by simp; omega) (by simp; omega)
    simp only [T.words_mk,T.kids_mk] at q4
    rw [hsw] at q4
    have hlay : layT (.mk 1 w ks) a S.W = layL ks (S.W.length + w.length) (X ++ w ++ List.replicate ks.length 0) := by
      rw [layT_mk,if_neg (by decide),if_pos rfl,← hX]
      have hz : ((w.length : Int) + ks.length = 0) = (w.length + ks.length = 0) := by
        rw [eq_iff_iff]
        omega
      simp only [hz]
    rw [hlay]
    have ew : IntKind.i64.wrap ((w.length : Int) + ks.length) = ((w.length + ks.length : Nat) : Int) := i64_same (by omega) (by omega)
    refine ⟨v',specF_of t_canon_writer_tree (by simp) (faW _ a) famA_v fun w0 I0 M0 m0 => ?_⟩
    unfold c_canon_writer_tree
    simp [ew]
    refine sc_fam 0 hG (fun p => by simp) (by simp) (by simp) ?_
    simp
    refine sc_fam 0 hP (fun p => by simp) (by simp) (by simp) ?_
    simp
    rw [sc_guard]
    simp
    refine sc_fam 0 q4 (fun p => by simp) (by simp) (by simp) ?_
    simp
    exact reth_fam rfl rfl (by simp)
  | ptrs w ks b1 hl =>
    have hn := sizeL_nonneg hl
    rw [sizeT_mk,if_neg (by decide),if_pos rfl] at hS
    have hG := wGive_spec S (by omega) ks.length (by omega)
    have hP := wPoint_spec ⟨S.v + 1,S.W ++ List.replicate ks.length 0⟩ (a := a) (by simp; omega) (by omega) (to := (S.W.length : Int)) (by omega) (by omega) ⟨2,0,0,0,6,ks.length,0,false⟩ (by simp) (by simp) (by simp) (by simp)
    rw [enc_list (by omega) (by omega) (by omega) (by omega) (by omega) (by omega) (by omega) (by omega),encB_list (by omega) (by omega) (by omega) (by omega) (by omega) (by omega) (by omega) (by omega)] at hP
    simp only at hP
    rw [List.set_append_left _ _ ha] at hP
    obtain ⟨v',q4⟩ := hK hl ⟨S.v + 1,S.W.set a (ptrZ a S.W.length 1 (6 + 8 * ks.length)) ++ List.replicate ks.length 0⟩ S.W.length (by simp) (by simp; omega)
    simp only [T.kids_mk] at q4
    have hlay : layT (.mk 8 w ks) a S.W = layL ks S.W.length (S.W.set a (ptrZ a S.W.length 1 (6 + 8 * ks.length)) ++ List.replicate ks.length 0) := by
      rw [layT_mk,if_neg (by decide),if_neg (by decide),if_pos rfl]
    rw [hlay]
    refine ⟨v',specF_of t_canon_writer_tree (by simp) (faW _ a) famA_v fun w0 I0 M0 m0 => ?_⟩
    unfold c_canon_writer_tree
    simp
    refine sc_fam 0 hG (fun p => by simp) (by simp) (by simp) ?_
    simp
    refine sc_fam 0 hP (fun p => by simp) (by simp) (by simp) ?_
    simp
    rw [sc_guard]
    simp
    refine sc_fam 0 q4 (fun p => by simp) (by simp) (by simp) ?_
    simp
    exact reth_fam rfl rfl (by simp)
  | data k w ks h1 h2 hn hc =>
    have hsz : sizeT (.mk k w ks) = roomZ (k - 2) ks.length := by
      rw [sizeT_mk,if_neg (by omega),if_neg (by omega),if_pos ⟨h1,h2⟩]
    have hlay : layT (.mk k w ks) a S.W = S.W.set a (ptrZ a S.W.length 1 (k - 2 + 8 * ks.length)) ++ putZ (k - 2) (ks.map hd) := by
      rw [layT_mk,if_neg (by omega),if_neg (by omega),if_neg (by omega),if_neg (by omega)]
    have hpl := putZ_length (k - 2) (ks.map hd)
    have hr0 := roomZ_nonneg (k - 2) ks.length
    rw [List.length_map] at hpl
    rw [hsz] at hS h0
    have hfit : ∀ x,x ∈ ks.map hd→u64R x∧fitsZ (k - 2) x = true := fun x hx => by
      obtain ⟨c,hc',rfl⟩ := List.mem_map.1 hx
      obtain ⟨y,y1,y2,y3,y4⟩ := hc c hc'
      have : hd c = y := by simp [hd,y1]
      rw [this]
      exact ⟨⟨y2,y3⟩,y4⟩
    have hPut := pPut_spec (c := k - 2) (by omega) (by omega) (ns := ks.map hd) (by simp; omega) hfit
    rw [hlay]
    generalize hZ : putZ (k - 2) (ks.map hd) = Z at *
    have hZl : (Z.length : Int) = roomZ (k - 2) ks.length := by omega
    have hG := wGive_spec S (by omega) Z.length (by omega)
    have hP := wPoint_spec ⟨S.v + 1,S.W ++ Z⟩ (a := a) (by simp; omega) (by omega) (to := (S.W.length : Int)) (by omega) (by omega) ⟨2,0,0,0,k - 2,ks.length,0,false⟩ (by simp) (by simp) (by simp) (by simp)
    rw [enc_list (by omega) (by omega) (by omega) (by omega) (by omega) (by omega) (by omega) (by omega),encB_list (by omega) (by omega) (by omega) (by omega) (by omega) (by omega) (by omega) (by omega)] at hP
    simp only at hP
    rw [List.set_append_left _ _ ha] at hP
    have ek : IntKind.i64.wrap (k - 2) = k - 2 := i64_same (by omega) (by omega)
    refine ⟨S.v + 1,specF_of' t_canon_writer_tree (by simp) (faW _ a) famA_v fun w0 I0 M0 m0 hM => ?_⟩
    unfold c_canon_writer_tree
    have n0 : ¬ k = 0 := by omega
    have n1 : ¬ k = 1 := by omega
    have n8 : ¬ k = 8 := by omega
    simp [n0,n1,n8,k9,ek]
    refine LoopC.le (le_blank 10 [3] 1 (by simp)) ?_
    refine LoopC.le (le_list [(0,.pob [0] 1 0),(1,nv a),(5,.pob [1] 1 0),(9,iv (k - 2)),(10,.osl [3] 1 1 0 0),(88,tKs ks),(89,nv ks.length),(90,nv 0)] (by simp [upd])) ?_
    refine wtree_l1 (t := .mk k w ks) (v0 := wrF 0 S) (v1 := ⟨1,.cells (tL (.mk k w ks))⟩) (by simp; omega) (fun c hc' => (hc c hc').imp fun x hx => hx.1) ks.length 0 1 _ (by simp) (fun p => by simp [updF_app]) (by simp [updF_app]) (by simp [updF_app]) (fun q u' H' g0 g1 g3 => ?_)
    simp
    refine stop_le (le_freezeD (d := [3]) (fun b => hM 3 [] b (by omega)) 10 (uws (ks.map hd)) (fun H1 hH => ?_)) (stop_go ?_)
    · have := frz_row (H := H1) (o := [3]) (u := u') (n := ks.length) (sz := 1) (l := ks) (f := uv ∘ hd) (by rw [hH,g3]; simp) rfl (fun x => by simp)
      rw [← List.map_map] at this
      exact this
    simp
    refine sc_call hPut rfl ?_
    simp
    refine sc_fam 0 hG (fun p => by simp [updF_app,g0]) (by simp) (by simp) ?_
    have hle1 : (S.W.length : Int)≤S.W.length + Z.length := by omega
    have hmin : min Z.length (S.W.length + Z.length - S.W.length) = Z.length := by omega
    have hadd : S.W.length + (S.W.length + Z.length - S.W.length)≤S.W.length + Z.length := by omega
    have htk : List.take Z.length (Z.map uv) = Z.map uv := List.take_of_length_le (by simp)
    have hdr : List.drop (S.W.length + Z.length) (S.W.map uv ++ List.replicate Z.length (uv 0)) = [] := List.drop_eq_nil_of_le (by simp)
    simp [updF_app,hle1,hmin,hadd,g1]
    rw [sc_guard]
    simp
    refine sc_fam 0 hP (fun p => ?_) (by simp) (by simp) ?_
    · simp only [ov_cons,if_true,wrM_F]
      refine updF_is ?_ (fun h1 => ?_)
      · rw [htk,hdr]
        simp
      · by_cases h0 : p = []
        · subst h0; simp
        · exact wrF_but h0 h1
    simp
    exact reth_fam rfl rfl (by simp)
end Go.Proofs.YthfiijdbnkaabaaGreat

namespace Go.Proofs.YthfiijdbnkaabaaGreat
set_option linter.unusedVariables false
set_option linter.unusedSimpArgs false
open Go Go.G Go.Proofs Go.PL
def cnOk (most : Int) (t : T) : Bool := rightT 64 t && !decide (t.kind = 10) && decide (sizeT (norm t) < most) && decide (sizeT (norm t) < 131072)
def cnW (most : Int) (t : T) : List Int := if cnOk most t = true then layT (norm t) 0 [0] else []
theorem cnEnc_spec {t : T} (hw : wfT t) (most : Int) (hsz : rightT 64 t = true→t.kind ≠ 10→sizeT (norm t) < 9223372036854775808) :
    G.Spec Tryz.prog 30 [tX t,iv most] (.tup [uws (cnW most t),bv (cnOk most t)]) := by
  refine spec_of t_canon_Encode (by simp) fun w0 I0 => ?_
  unfold c_canon_Encode
  have no : cnOk most t = false→cnW most t = [] := fun h => by simp [cnW,h]
  simp
  refine sc_call (ptRight_spec hw) rfl ?_
  by_cases hr : rightT 64 t = true
  · by_cases h10 : t.kind = 10
    · have hf : cnOk most t = false := by simp [cnOk,h10]
      rw [no hf,hf]
      simp [hr,h10]
      exact frz_tup (by simp; exact ⟨frz_sl,frz_bare rfl⟩)
    · have hlay := laid_right t 64 hr hw h10
      have h0 := (size_nonneg (norm t)).1 hlay
      have h1 := hsz hr h10
      have hS := tSize_spec (norm t) (wf_norm t hw)
      rw [norm_norm,size_norm t 64 hr] at hS
      have hsame : i64w (sizeT (norm t)) = sizeT (norm t) := i64_same (by omega) (by omega)
      rw [hsame] at hS
      simp [hr,h10]
      refine sc_call (tNorm_spec t hw) rfl ?_
      simp
      refine sc_calle (L := [tX (norm t)]) (by simp) hS rfl ?_
      generalize hN : norm t = N at *
      have hNk : N.kind = t.kind := by rw [← hN]; simp
      by_cases hm : cnOk most t = true
      · have hW : cnW most t = layT N 0 [0] := by simp [cnW,hm,hN]
        rw [hW,hm]
        simp [cnOk,hN] at hm
        obtain ⟨⟨_,m1⟩,m2⟩ := hm
        have n1 : ¬ most≤sizeT N := by omega
        have n2 : ¬ 131072≤sizeT N := by omega
        simp [n1,n2]
        refine stop_le (le_blankC (d := [1]) 0 [1,0] 1 rfl rfl (by simp)) (stop_go ?_)
        have hG := wGive_spec ⟨1,[]⟩ (by simp) 1 (by omega)
        obtain ⟨v',q4⟩ := (wTree_spec N).1 hlay ⟨2,[0]⟩ 0 (by simp) (by simp; omega)
        have hF : ∀ H : Hp,H [1] = ⟨1,.cells [.osl [1,0] 1 1 0 0]⟩→H [1,0] = ⟨1,.arr 1 []⟩→(∀ p,p ≠ []→p ≠ [0]→H (1 :: p) = ⟨0,.none⟩)→∀ p,H (1 :: p) = (wrM ⟨1,[]⟩).F 1 p := fun H h1 h2 h3 p => by
          by_cases p0 : p = []
          · subst p0; rw [h1]; simp
          · by_cases p1 : p = [0]
            · subst p1; rw [h2]; simp
            · rw [h3 p p0 p1]
              match p,p0,p1 with
              | [],h,_ => exact absurd rfl h
              | [0],_,h => exact absurd rfl h
              | 0 :: a :: q,_,_ => rfl
              | (a + 1) :: q,_,_ => rfl
        simp [updF_app]
        refine sc_fam 1 hG (hF _ (by simp [updF_app]) (by simp [updF_app]) (fun p h1 h2 => by simp [updF_app,Ne.symm h1,h1,h2,Ne.symm h2])) (by simp) (by simp) ?_
        simp [updF_app]
        refine ⟨by decide,?_⟩
        refine sc_fam 1 q4 (fun p => by simp [updF_app]) (by simp [hNk]) (by simp) ?_
        simp
        refine frz_tup ?_
        simp
        exact ⟨frz_row (f := uv) (by simp) rfl (fun x => by simp),frz_bare rfl⟩
      · have hf : cnOk most t = false := by simpa using hm
        rw [no hf,hf]
        simp [cnOk,hN,hr,h10] at hm
        by_cases n1 : most≤sizeT N
        · simp [n1]
          exact frz_tup (by simp; exact ⟨frz_sl,frz_bare rfl⟩)
        · have n2 : 131072≤sizeT N := by omega
          simp [n1,n2]
          exact frz_tup (by simp; exact ⟨frz_sl,frz_bare rfl⟩)
  · have hf : cnOk most t = false := by simp [cnOk,hr]
    rw [no hf,hf]
    simp at hr
    simp [hr]
    exact frz_tup (by simp; exact ⟨frz_sl,frz_bare rfl⟩)
end Go.Proofs.YthfiijdbnkaabaaGreat

namespace Go.Proofs.YthfiijdbnkaabaaGreat
set_option linter.unusedVariables false
set_option linter.unusedSimpArgs false
open Go Go.G Go.Proofs Go.PL
theorem loopM_data {l : List (List Int)} {r : Rf} (hr : RfOk l r) (hd : isData r.kind = true) : ∀ (m i : Nat) (acc : List T) (left : Int),((i + m : Nat) : Int) = nk r→(loopM (stepM l (leafM l) r) m i acc left).2 = (left,0)
  | 0,i,acc,left,h => rfl
  | m + 1,i,acc,left,h => by
    have hk : (kidP l r i).2 = 0 := by
      cases hr with
      | dat c s a n c0 c6 n0 n1 hh =>
        have hn : nk ⟨2 + c,s,a,0,0,n,0⟩ = n := by simp only [nk]; rw [if_neg (by omega)]
        rw [hn] at h
        rw [kidP_data (by omega) (by omega) (by omega) (by omega) (by omega)]
      | _ => simp [isData,Rf.zero] at hd
    have hst : stepM l (leafM l) r i left = leafM l (kidP l r i).1 left := by simp [stepM,hk]
    rw [loopM,hst,if_neg (by simp [leafM])]
    exact loopM_data hr hd m (i + 1) _ _ (by omega)
def mtM (u B : Int) : Fam := ⟨fun _ p => if p = [] then ⟨1,.cells [iv u,iv B]⟩ else ⟨0,.none⟩,fun {g δ r r'} hg hd p => by
    by_cases hp : p = []
    · rw [if_pos hp]
      exact Fam.cells_ren (by simp [A.renL,A.ren])
    · rw [if_neg hp]; rfl,fun {D r} hD p => by
    by_cases hp : p = []
    · rw [if_pos hp]
      simp [Ob.refs,A.refsL,A.refs]
    · rw [if_neg hp]; trivial⟩
@[simp] theorem mtM_F {u B : Int} {r : Nat} {p : Nm} : (mtM u B).F r p = if p = [] then ⟨1,.cells [iv u,iv B]⟩ else ⟨0,.none⟩ := rfl
theorem vSpend_spec {u B n : Int} (u0 : 0≤u) (u1 : u≤B) (B1 : B≤1000000) (n0 : 0≤n) (n1 : n≤100000000000000) : SpecF Tryz.prog 103 (fun q => [.pob [q] 1 0,iv n]) (mtM u B) (fun _ => bv (decide (n≤B - u))) (mtM (if n≤B - u then u + n else u) B) := by
  refine specF_of t_valid_meter_spend (by simp) (famL_cons famA_pob (famL_cons famA_v famL_nil)) famA_v fun w0 I0 M0 m0 => ?_
  unfold c_valid_meter_spend
  have e1 : IntKind.i64.wrap (B - u) = B - u := i64_same (by omega) (by omega)
  by_cases h : n≤B - u
  · have h' : ¬ B - u < n := by omega
    have e2 : IntKind.i64.wrap (u + n) = u + n := i64_same (by omega) (by omega)
    simp [e1,h',h,e2]
    refine reth_fam rfl rfl (fun p => ?_)
    by_cases hp : p = []
    · subst hp; simp [updF_app]
    · simp [updF_app,hp]
  · have h' : B - u < n := by omega
    simp [e1,h',h]
    exact reth_fam rfl rfl (fun p => by simp)
theorem vFrame_spec (l : List (List Int)) (r : Rf) : G.Spec Tryz.prog 138 [paX l r] (.tup [iv (if r.kind = 9 then r.data else 0),iv (if r.kind = 9 then r.kids else 0)]) := by
  refine spec_of t_reader_Ref_Frame (by simp) fun w0 I0 => ?_
  unfold c_reader_Ref_Frame
  by_cases h : r.kind = 9
  · simp [h]
    exact frz_bare rfl
  · simp [h]
    exact frz_bare rfl
theorem vOwn_spec {l : List (List Int)} {r : Rf} (hr : RfOk l r) : G.Spec Tryz.prog 104 [paX l r] (iv (costM r)) := by
  have hc := costM_pos hr
  refine spec_of t_valid_own (by simp) fun w0 I0 => ?_
  unfold c_valid_own
  simp
  refine sc_call (refKind_spec l r) (by simp) ?_
  by_cases h1 : r.kind = 1
  · have hd : 0≤r.data∧r.data < 65536∧0≤r.kids∧r.kids < 65536 := by cases hr <;> simp [Rf.zero] at h1 ⊢ <;> omega
    have e1 : IntKind.i64.wrap (1 + r.data) = 1 + r.data := i64_same (by omega) (by omega)
    have e2 : IntKind.i64.wrap (1 + r.data + r.kids) = 1 + r.data + r.kids := i64_same (by omega) (by omega)
    have hw : nwR r = r.data := by simp [nwR,h1]
    have hn : nk r = r.kids := by simp [nk,h1]
    have hcc : costM r = 1 + r.data + r.kids := by simp [costM,h1]
    rw [hcc]
    simp [h1]
    refine sc_calle (L := [paX l r]) (by simp [h1]) (refWords_spec' l r) (by simp) ?_
    rw [hw]
    simp [e1]
    refine sc_calle (L := [paX l r]) (by simp [h1]) (refKids_spec' l r) (by simp) ?_
    rw [hn]
    simp [e1,e2]
    exact frz_bare rfl
  · simp [h1]
    refine sc_call (refKind_spec l r) (by simp) ?_
    by_cases h9 : r.kind = 9
    · have hd : 0≤r.data∧r.data < 65536∧0≤r.kids∧r.kids < 65536∧0≤r.count∧r.count < 536870912 := by
        cases hr <;> simp [Rf.zero] at h9 ⊢ <;> omega
      have hn : nk r = r.count := by simp [nk,h1]
      have hcc : costM r = 1 + r.count * (1 + r.data + r.kids) := by simp [costM,h9]
      rw [hcc] at hc ⊢
      have e1 : IntKind.i64.wrap (1 + r.data) = 1 + r.data := i64_same (by omega) (by omega)
      have e2 : IntKind.i64.wrap (1 + r.data + r.kids) = 1 + r.data + r.kids := i64_same (by omega) (by omega)
      have e3 : IntKind.i64.wrap (r.count * (1 + r.data + r.kids)) = r.count * (1 + r.data + r.kids) := i64_same (by omega) (by omega)
      have e4 : IntKind.i64.wrap (1 + r.count * (1 + r.data + r.kids)) = 1 + r.count * (1 + r.data + r.kids) := i64_same (by omega) (by omega)
      simp [h9]
      refine sc_calle (L := [paX l r]) (by simp [h9]) (vFrame_spec l r) (by simp) ?_
      simp [h9]
      refine sc_calle (L := [paX l r]) (by simp [h9]) (refKids_spec' l r) (by simp) ?_
      rw [hn]
      simp [e1,e2,e3,e4]
      exact frz_bare rfl
    · have hcc : costM r = 1 + nk r := by simp [costM,h9,h1]
      rw [hcc] at hc ⊢
      have e1 : IntKind.i64.wrap (1 + nk r) = 1 + nk r := i64_same (by omega) (by omega)
      simp [h9]
      refine sc_call (refKids_spec' l r) (by simp) ?_
      simp [e1]
      exact frz_bare rfl
def UV (B : Int) (x : T × Int × Int) (u : Int) : Prop := x.2.2 = 0→u = B - x.2.1
theorem faP (l : List (List Int)) (r : Rf) (d : Int) : FamL (fun q => [.pob [q] 1 0,paX l r,iv d]) := famL_cons famA_pob (famL_cons (famA_pa l r) (famL_cons famA_v famL_nil))
theorem faP2 (l : List (List Int)) (r : Rf) (i d : Int) : FamL (fun q => [.pob [q] 1 0,paX l r,iv i,iv d]) := famL_cons famA_pob (famL_cons (famA_pa l r) (famL_cons famA_v (famL_cons famA_v famL_nil)))
def RV (l : List (List Int)) (B : Int) (d : Int) (rec : Rf→Int→T × Int × Int) : Prop := ∀ r,RfOk l r→∀ left : Int,0≤left→left≤B →
  ∃ u : Int,UV B (rec r left) u∧SpecF Tryz.prog 65 (fun q => [.pob [q] 1 0,paX l r,iv d]) (mtM (B - left) B) (fun _ => iv (rec r left).2.2) (mtM u B)
def KV (l : List (List Int)) (B : Int) (d : Int) (r : Rf) (i : Nat) (f : Nat→Int→T × Int × Int) : Prop := ∀ left : Int,0≤left→left≤B →
  ∃ u : Int,UV B (f i left) u∧SpecF Tryz.prog 106 (fun q => [.pob [q] 1 0,paX l r,nv i,iv d]) (mtM (B - left) B) (fun _ => iv (f i left).2.2) (mtM u B)
theorem vKid_spec {l : List (List Int)} (hs : Sg l) {B d : Int} {rec : Rf→Int→T × Int × Int} (hrec : RV l B d rec) {r : Rf} (hr : RfOk l r) (h9 : r.kind ≠ 9) (i : Nat) : KV l B d r i (stepM l rec r) := fun left l0 l1 => by
  unfold stepM
  by_cases he : (kidP l r i).2 = 0
  · obtain ⟨u,hu,hw⟩ := hrec _ (kid_ok hs.w hr i) left l0 l1
    rw [if_neg (by simpa using he)]
    refine ⟨u,hu,?_⟩
    refine specF_of t_valid_meter_kid (by simp) (faP2 l r i d) famA_v fun w0 I0 M0 m0 => ?_
    unfold c_valid_meter_kid
    simp
    refine sc_call (kid_spec hs hr i) (by simp) ?_
    simp [he]
    refine sc_call (refKind_spec l r) (by simp) ?_
    simp [h9]
    refine sc_fam 0 hw (fun p => by simp [updF_app]) (by simp) (by simp) ?_
    simp
    exact reth_fam rfl rfl (fun p => by simp)
  · rw [if_pos he]
    refine ⟨B - left,fun h => absurd h he,?_⟩
    refine specF_of t_valid_meter_kid (by simp) (faP2 l r i d) famA_v fun w0 I0 M0 m0 => ?_
    unfold c_valid_meter_kid
    simp
    refine sc_call (kid_spec hs hr i) (by simp) ?_
    simp [he]
    exact reth_fam rfl rfl (fun p => by simp)
theorem loopM_step {f : Nat→Int→T × Int × Int} {m i : Nat} {acc : List T} {left : Int} : loopM f (m + 1) i acc left = if (f i left).2.2 ≠ 0 then (acc,(f i left).2.1,(f i left).2.2) else loopM f m (i + 1) (acc ++ [(f i left).1]) (f i left).2.1 := by rw [loopM]
theorem vkid_l1 {l : List (List Int)} {B d : Int} {k : Rf} {n : Nat} (hn : n≤1000000000) {f : Nat→Int→T × Int × Int} (hf : ∀ i,i < n→KV l B d k i f) (hlb : ∀ i left,0≤left→left≤B→0≤(f i left).2.1∧(f i left).2.1≤B) : ∀ (m i : Nat) (acc : List T) (left : Int),i + m = n→0≤left→left≤B →
    ∃ u : Int,((loopM f m i acc left).2.2 = 0→u = B - (loopM f m i acc left).2.1) ∧
      ∀ {n0 : Nat} {w0 : World} {I0 : Nat→Prop} {M0 : Nm→Nat→Prop} {m0 : Mu} {Q : Exit→Sta→Prop} (H : Hp),(∀ p,H (0 :: p) = (mtM (B - left) B).F 0 p)→H [2] = ⟨1,.cells (paL l k)⟩ →
      ((loopM f m i acc left).2.2 = 0→∀ q H',(∀ p,H' (0 :: p) = (mtM u B).F 0 p)→Q (.exit 0) ⟨lk [(0,.pob [0] 1 0),(3,iv d),(9,.pob [2] 1 0),(30,nv n),(31,nv n),(32,bv q)],H'⟩) →
      ((loopM f m i acc left).2.2 ≠ 0→∀ H',(∀ p,H' (0 :: p) = (mtM u B).F 0 p)→Q .ret ⟨lk [(8,iv (loopM f m i acc left).2.2)],H'⟩) →
      LoopC (cxh Tryz.prog w0 I0 M0 n0 m0) l1_valid_meter_kid Q ⟨lk [(0,.pob [0] 1 0),(3,iv d),(9,.pob [2] 1 0),(30,nv n),(31,nv i)],H⟩ := by
  intro m
  induction m with
  | zero =>
    intro i acc left hi l0 l1
    have : i = n := by omega
    subst this
    refine ⟨B - left,fun _ => rfl,fun H hH h2 hq _ => ?_⟩
    refine loopC_once mixed l1_valid_meter_kid.eq_1 ?_
    simp
    exact hq rfl _ H hH
  | succ m ihm =>
    intro i acc left hi l0 l1
    have hlt : i < n := by omega
    have ei : IntKind.i64.wrap ((i : Int) + 1) = ((i + 1 : Nat) : Int) := i64_same (by omega) (by omega)
    obtain ⟨u1,hu1,hk⟩ := hf i hlt left l0 l1
    obtain ⟨b0,b1⟩ := hlb i left l0 l1
    unfold UV at hu1
    rw [loopM_step]
    generalize hx : f i left = x at *
    obtain ⟨t,lf,e⟩ := x
    simp only at hu1 hk b0 b1 ⊢
    by_cases he : e = 0
    · subst he
      have := hu1 rfl
      subst this
      obtain ⟨u2,hu2,hw⟩ := ihm (i + 1) (acc ++ [t]) lf (by omega) b0 b1
      rw [if_neg (by simp)]
      refine ⟨u2,hu2,fun H hH h2 hq hq2 => ?_⟩
      refine loopC_once mixed l1_valid_meter_kid.eq_1 ?_
      simp [hlt,h2]
      refine sc_fam 0 hk (fun p => by simp [hH]) (by simp) (by simp) ?_
      simp [ei]
      exact hw _ (fun p => by simp) (by simp [h2]) hq hq2
    · rw [if_pos (by simpa using he)]
      refine ⟨u1,fun h => absurd h he,fun H hH h2 hq hq2 => ?_⟩
      refine loopC_once mixed l1_valid_meter_kid.eq_1 ?_
      simp [hlt,h2]
      refine sc_fam 0 hk (fun p => by simp [hH]) (by simp) (by simp) ?_
      simp [he]
      exact hq2 he _ (fun p => by simp)
theorem vwalk_l1 {l : List (List Int)} {B d : Int} {k : Rf} {n : Nat} (hn : n≤1000000000) {f : Nat→Int→T × Int × Int} (hf : ∀ i,i < n→KV l B d k i f) (hlb : ∀ i left,0≤left→left≤B→0≤(f i left).2.1∧(f i left).2.1≤B) : ∀ (m i : Nat) (acc : List T) (left : Int),i + m = n→0≤left→left≤B →
    ∃ u : Int,((loopM f m i acc left).2.2 = 0→u = B - (loopM f m i acc left).2.1) ∧
      ∀ {n0 : Nat} {w0 : World} {I0 : Nat→Prop} {M0 : Nm→Nat→Prop} {m0 : Mu} {Q : Exit→Sta→Prop} (H : Hp),(∀ p,H (0 :: p) = (mtM (B - left) B).F 0 p)→H [1] = ⟨1,.cells (paL l k)⟩ →
      ((loopM f m i acc left).2.2 = 0→∀ q H',(∀ p,H' (0 :: p) = (mtM u B).F 0 p)→Q (.exit 0) ⟨lk [(0,.pob [0] 1 0),(4,.pob [1] 1 0),(7,iv d),(42,nv n),(43,nv n),(44,bv q)],H'⟩) →
      ((loopM f m i acc left).2.2 ≠ 0→∀ H',(∀ p,H' (0 :: p) = (mtM u B).F 0 p)→Q .ret ⟨lk [(6,iv (loopM f m i acc left).2.2)],H'⟩) →
      LoopC (cxh Tryz.prog w0 I0 M0 n0 m0) l1_valid_meter_walk Q ⟨lk [(0,.pob [0] 1 0),(4,.pob [1] 1 0),(7,iv d),(42,nv n),(43,nv i)],H⟩ := by
  intro m
  induction m with
  | zero =>
    intro i acc left hi l0 l1
    have : i = n := by omega
    subst this
    refine ⟨B - left,fun _ => rfl,fun H hH h2 hq _ => ?_⟩
    refine loopC_once mixed l1_valid_meter_walk.eq_1 ?_
    simp
    exact hq rfl _ H hH
  | succ m ihm =>
    intro i acc left hi l0 l1
    have hlt : i < n := by omega
    have ei : IntKind.i64.wrap ((i : Int) + 1) = ((i + 1 : Nat) : Int) := i64_same (by omega) (by omega)
    obtain ⟨u1,hu1,hk⟩ := hf i hlt left l0 l1
    obtain ⟨b0,b1⟩ := hlb i left l0 l1
    unfold UV at hu1
    rw [loopM_step]
    generalize hx : f i left = x at *
    obtain ⟨t,lf,e⟩ := x
    simp only at hu1 hk b0 b1 ⊢
    by_cases he : e = 0
    · subst he
      have := hu1 rfl
      subst this
      obtain ⟨u2,hu2,hw⟩ := ihm (i + 1) (acc ++ [t]) lf (by omega) b0 b1
      rw [if_neg (by simp)]
      refine ⟨u2,hu2,fun H hH h2 hq hq2 => ?_⟩
      refine loopC_once mixed l1_valid_meter_walk.eq_1 ?_
      simp [hlt,h2]
      refine sc_fam 0 hk (fun p => by simp [hH]) (by simp) (by simp) ?_
      simp [ei]
      exact hw _ (fun p => by simp) (by simp [h2]) hq hq2
    · rw [if_pos (by simpa using he)]
      refine ⟨u1,fun h => absurd h he,fun H hH h2 hq hq2 => ?_⟩
      refine loopC_once mixed l1_valid_meter_walk.eq_1 ?_
      simp [hlt,h2]
      refine sc_fam 0 hk (fun p => by simp [hH]) (by simp) (by simp) ?_
      simp [he]
      exact hq2 he _ (fun p => by simp)
theorem vKidC_spec {l : List (List Int)} (hs : Sg l) {B d : Int} {rec : Rf→Int→T × Int × Int} (hrec : RV l B d rec) (hlb : LB l B rec) {r : Rf} (hr : RfOk l r) (h9 : r.kind = 9) (i : Nat) (hi : (i : Int) < nk r) : KV l B d r i (stepM l (kidsM l rec) r) := fun left l0 l1 => by
  unfold stepM
  by_cases he : (kidP l r i).2 = 0
  · rw [if_neg (by simpa using he)]
    have hk1 : (kidP l r i).1.kind = 1 := kid_comp h9 (by omega) hi
    have hok := kid_ok hs.w hr i
    have hkin := kids_in hok
    have hsp := kid_spec hs hr i
    have hnk : nk (kidP l r i).1 = (kidP l r i).1.kids := by simp [nk,hk1]
    generalize (kidP l r i).2 = e at *
    subst he
    generalize (kidP l r i).1 = k at *
    obtain ⟨n,hn⟩ : ∃ n : Nat,k.kids = n := ⟨k.kids.toNat,by omega⟩
    have ht : k.kids.toNat = n := by omega
    unfold kidsM
    rw [ht]
    obtain ⟨u,hu,hw⟩ := vkid_l1 (n := n) (by omega) (fun i _ => vKid_spec hs hrec hok (by omega) i) (fun i left a b => stepM_lb hs.w hlb hok i left a b) n 0 [] left (by omega) l0 l1
    generalize loopM (stepM l rec k) n 0 [] left = y at hu hw
    obtain ⟨ts,lf,e⟩ := y
    simp only at hu hw ⊢
    refine ⟨u,hu,?_⟩
    refine specF_of t_valid_meter_kid (by simp) (faP2 l r i d) famA_v fun w0 I0 M0 m0 => ?_
    unfold c_valid_meter_kid
    simp
    refine sc_call hsp (by simp) ?_
    simp
    refine sc_call (refKind_spec l r) (by simp) ?_
    simp [h9]
    refine sc_call (refKids_spec' l k) (by simp) ?_
    rw [hnk,hn]
    simp
    refine hw _ (fun p => by simp [updF_app]) (by simp [updF_app]) (fun h0 q H' hH => ?_) (fun h0 H' hH => ?_)
    · rw [h0]
      simp
      exact reth_fam rfl rfl hH
    · exact reth_fam rfl rfl hH
  · rw [if_pos he]
    refine ⟨B - left,fun h => absurd h he,?_⟩
    refine specF_of t_valid_meter_kid (by simp) (faP2 l r i d) famA_v fun w0 I0 M0 m0 => ?_
    unfold c_valid_meter_kid
    simp
    refine sc_call (kid_spec hs hr i) (by simp) ?_
    simp [he]
    exact reth_fam rfl rfl (fun p => by simp)
end Go.Proofs.YthfiijdbnkaabaaGreat

namespace Go.Proofs.YthfiijdbnkaabaaGreat
set_option linter.unusedVariables false
set_option linter.unusedSimpArgs false
open Go Go.G Go.Proofs Go.PL
def mean1 (l : List (List Int)) (d : Nat) (r : Rf) (rec1 rec2 : Rf→Int→T × Int × Int) (left : Int) : T × Int × Int :=
  if r.kind = 0 then leafM l r left else if d = 0∨r.kind = 9∧0 < r.count∧d = 1 then stopM l r left else if left < costM r then stopM l r left else restM l r rec1 rec2 left
theorem meaning_0 {l : List (List Int)} {r : Rf} {left : Int} {rec1 rec2 : Rf→Int→T × Int × Int} : meaning l 0 r left = mean1 l 0 r rec1 rec2 left := by
  rw [meaning,mean1]; simp
theorem meaning_1 {l : List (List Int)} {r : Rf} {left : Int} : meaning l 1 r left = mean1 l 1 r (meaning l 0) (fun r left => stopM l r left) left := by
  rw [meaning,mean1]; simp
theorem meaning_2 {l : List (List Int)} {d : Nat} {r : Rf} {left : Int} : meaning l (d + 2) r left = mean1 l (d + 2) r (meaning l (d + 1)) (meaning l d) left := by
  rw [meaning,mean1]; simp
theorem vWalk_core {l : List (List Int)} (hs : Sg l) {B : Int} (hB : B≤1000000) {d : Nat} (hd : d≤1000) {rec1 rec2 : Rf→Int→T × Int × Int} (h1 : 1≤d→RV l B ((d : Int) - 1) rec1) (h2 : 2≤d→RV l B ((d : Int) - 2) rec2) (b1 : LB l B rec1) (b2 : LB l B rec2) :
    RV l B d (fun r left => mean1 l d r rec1 rec2 left) := fun r hr left l0 l1 => by
  have hn := nk_nonneg hr
  dsimp only
  have hc := costM_pos hr
  unfold mean1
  by_cases k0 : r.kind = 0
  · simp only [k0,if_true]
    refine ⟨B - left,fun _ => rfl,specF_of t_valid_meter_walk (by simp) (faP l r d) famA_v fun w0 I0 M0 m0 => ?_⟩
    unfold c_valid_meter_walk
    simp
    refine sc_call (refKind_spec l r) (by simp) ?_
    simp [k0]
    exact reth_fam rfl rfl (fun p => by simp)
  have e1 : IntKind.i64.wrap ((d : Int) - 1) = (d : Int) - 1 := i64_same (by omega) (by omega)
  have e2 : IntKind.i64.wrap ((d : Int) - 1 - 1) = (d : Int) - 2 := (i64_same (by omega) (by omega)).trans (by omega)
  simp only [if_neg k0]
  -- what is written below
  obtain ⟨b,hb,hbd⟩ : ∃ b : Int,(b = if r.kind = 9∧0 < nk r then (d : Int) - 2 else (d : Int) - 1)∧-2≤b := ⟨_,rfl,by split <;> omega⟩
  have hn9 : r.kind = 9→nk r = r.count := fun h => by simp [nk,h]
  have front : ∀ {w0 I0 M0 m0} {res : Int} {u : Int},WPC (cxh Tryz.prog w0 I0 M0 55 m0) k1_valid_meter_walk (RetH (cxh Tryz.prog w0 I0 M0 55 m0) [.tmp 6] 1 (iv res) (ov 0 ((mtM u B).F 0) (lkH []))) ⟨lk [(0,.pob [0] 1 0),(2,iv d),(4,.pob [1] 1 0),(7,iv b)],ov 0 ((mtM (B - left) B).F 0) (lkH [([1],⟨1,.cells (paL l r)⟩)])⟩ →
      WPC (cxh Tryz.prog w0 I0 M0 55 m0) c_valid_meter_walk (RetH (cxh Tryz.prog w0 I0 M0 55 m0) [.tmp 6] 1 (iv res) (ov 0 ((mtM u B).F 0) (lkH []))) ⟨argS [.pob [0] 1 0,paX l r,iv d],ov 0 ((mtM (B - left) B).F 0) (lkH [])⟩ := fun {w0 I0 M0 m0 res u} h => by
    unfold c_valid_meter_walk
    simp
    refine sc_call (refKind_spec l r) (by simp) ?_
    simp [k0,e1]
    refine sc_call (refKind_spec l r) (by simp) ?_
    by_cases h9 : r.kind = 9
    · simp [h9]
      rw [sc_guard]
      simp
      refine sc_calle (L := [paX l r]) (by simp [h9]) (refKids_spec' l r) (by simp) ?_
      by_cases hp : 0 < nk r
      · have hb' : b = (d : Int) - 2 := by rw [hb,if_pos ⟨h9,hp⟩]
        subst hb'
        simp [hp,e2]
        simpa [h9] using h
      · have hb' : b = (d : Int) - 1 := by rw [hb,if_neg (by omega)]
        subst hb'
        simp [hp]
        simpa [h9] using h
    · have hb' : b = (d : Int) - 1 := by rw [hb,if_neg (by omega)]
      subst hb'
      simp [h9]
      refine sc_call_off rfl ?_
      simp
      simpa using h
  have args := faP l r d
  by_cases hd0 : d = 0
  · subst hd0
    rw [if_pos (.inl rfl)]
    refine ⟨B - left,fun h => by simp [stopM] at h,specF_of t_valid_meter_walk (by simp) args famA_v fun w0 I0 M0 m0 => front ?_⟩
    unfold k1_valid_meter_walk
    simp
    refine sc_call_off rfl ?_
    simp
    refine sc_call_off rfl ?_
    simp [stopM]
    exact reth_fam rfl rfl (fun p => by simp)
  have hd1 : ¬ (d : Int) < 1 := by omega
  by_cases hlim : r.kind = 9∧0 < r.count∧d = 1
  · rw [if_pos (.inr hlim)]
    have hb' : b < 0 := by rw [hb,if_pos ⟨hlim.1,by rw [hn9 hlim.1]; exact hlim.2.1⟩]; omega
    refine ⟨B - left,fun h => by simp [stopM] at h,specF_of t_valid_meter_walk (by simp) args famA_v fun w0 I0 M0 m0 => front ?_⟩
    unfold k1_valid_meter_walk
    simp [hd1,hb']
    refine sc_call_off rfl ?_
    simp
    refine sc_call_off rfl ?_
    simp [stopM]
    exact reth_fam rfl rfl (fun p => by simp)
  rw [if_neg (by omega)]
  have hb0 : ¬ b < 0 := by
    rw [hb]
    split
    · rename_i hx
      have := hn9 hx.1
      omega
    · omega
  by_cases hw : left < costM r
  · rw [if_pos hw]
    have hsp := vSpend_spec (u := B - left) (B := B) (n := costM r) (by omega) (by omega) hB (by omega) (by omega)
    have hno : ¬ costM r≤B - (B - left) := by omega
    rw [if_neg hno] at hsp
    simp only [hno,decide_false] at hsp
    refine ⟨B - left,fun h => by simp [stopM] at h,specF_of t_valid_meter_walk (by simp) args famA_v fun w0 I0 M0 m0 => front ?_⟩
    unfold k1_valid_meter_walk
    simp [hd1,hb0]
    rw [sc_guard]
    simp
    refine sc_call (vOwn_spec hr) (by simp) ?_
    simp
    rw [sc_guard]
    simp
    refine sc_fam 0 hsp (fun p => by simp) (by simp) (by simp) ?_
    simp [stopM]
    exact reth_fam rfl rfl (fun p => by simp)
  rw [if_neg hw]
  have hsp := vSpend_spec (u := B - left) (B := B) (n := costM r) (by omega) (by omega) hB (by omega) (by omega)
  have hyes : costM r≤B - (B - left) := by omega
  rw [if_pos hyes,show B - left + costM r = B - (left - costM r) from by omega] at hsp
  simp only [hyes,decide_true] at hsp
  obtain ⟨n,hnn⟩ : ∃ n : Nat,nk r = n := ⟨(nk r).toNat,by omega⟩
  have hR : ∀ f,f = stepM l (recM l r rec1 rec2) r→(restM l r rec1 rec2 left).2 = (loopM f n 0 [] (left - costM r)).2 := fun f hf => by
    subst hf
    unfold restM
    rw [hnn]
    rfl
  by_cases hdt : isData r.kind = true
  · have hk9 : ¬ r.kind = 9∧¬ r.kind = 1∧¬ r.kind = 8 := by simp [isData] at hdt; omega
    have hre : recM l r rec1 rec2 = leafM l := by rw [recM,if_neg hk9.1,if_neg (by omega)]
    have h2' := hR _ rfl
    rw [hre,loopM_data hr hdt n 0 [] (left - costM r) (by omega)] at h2'
    generalize restM l r rec1 rec2 left = X at h2'
    obtain ⟨t,lf,e⟩ := X
    simp only [Prod.mk.injEq] at h2'
    obtain ⟨rfl,rfl⟩ := h2'
    refine ⟨B - (left - costM r),fun _ => rfl,specF_of t_valid_meter_walk (by simp) args famA_v fun w0 I0 M0 m0 => front ?_⟩
    unfold k1_valid_meter_walk
    simp [hd1,hb0]
    rw [sc_guard]
    simp
    refine sc_call (vOwn_spec hr) (by simp) ?_
    simp
    rw [sc_guard]
    simp
    refine sc_fam 0 hsp (fun p => by simp) (by simp) (by simp) ?_
    simp
    refine sc_call (refKind_spec l r) (by simp) ?_
    simp
    refine sc_call (data_spec r.kind) (by simp) ?_
    simp [hdt]
    exact reth_fam rfl rfl (fun p => by simp)
  have hdt' : isData r.kind = false := by simpa using hdt
  have hlbR : LB l B (recM l r rec1 rec2) := by
    unfold recM
    split
    · exact kidsM_lb hs.w b2
    · split
      · exact b1
      · exact leafM_lb
  have hf : ∀ i,i < n→KV l B b r i (stepM l (recM l r rec1 rec2) r) := fun i hi => by
    by_cases h9 : r.kind = 9
    · have hcnt := hn9 h9
      have hbe : b = (d : Int) - 2 := by rw [hb,if_pos ⟨h9,by omega⟩]
      have hre : recM l r rec1 rec2 = kidsM l rec2 := by rw [recM,if_pos h9]
      rw [hre,hbe]
      exact vKidC_spec hs (h2 (by omega)) b2 hr h9 i (by omega)
    · have hbe : b = (d : Int) - 1 := by rw [hb,if_neg (by omega)]
      have h18 : r.kind = 1∨r.kind = 8 := by
        simp [isData] at hdt'
        cases hr <;> simp [Rf.zero,nk] at k0 h9 hdt' hnn ⊢ <;> omega
      have hre : recM l r rec1 rec2 = rec1 := by rw [recM,if_neg h9,if_pos h18]
      rw [hre,hbe]
      exact vKid_spec hs (h1 (by omega)) hr h9 i
  have h2' := hR _ rfl
  generalize hfe : stepM l (recM l r rec1 rec2) r = f at h2' hf hR
  have hlb : ∀ i left,0≤left→left≤B→0≤(f i left).2.1∧(f i left).2.1≤B := fun i left a b => by
    rw [← hfe]
    exact stepM_lb hs.w hlbR hr i left a b
  obtain ⟨u,hu,hloop⟩ := vwalk_l1 (k := r) (n := n) (by omega) hf hlb n 0 [] (left - costM r) (by omega) (by omega) (by omega)
  generalize loopM f n 0 [] (left - costM r) = Y at h2' hu hloop
  generalize restM l r rec1 rec2 left = X at h2'
  obtain ⟨t,lf,e⟩ := X
  obtain ⟨t',lf',e'⟩ := Y
  simp only [Prod.mk.injEq] at h2' hu hloop
  obtain ⟨rfl,rfl⟩ := h2'
  refine ⟨u,hu,specF_of t_valid_meter_walk (by simp) args famA_v fun w0 I0 M0 m0 => front ?_⟩
  unfold k1_valid_meter_walk
  simp [hd1,hb0]
  rw [sc_guard]
  simp
  refine sc_call (vOwn_spec hr) (by simp) ?_
  simp
  rw [sc_guard]
  simp
  refine sc_fam 0 hsp (fun p => by simp) (by simp) (by simp) ?_
  simp
  refine sc_call (refKind_spec l r) (by simp) ?_
  simp
  refine sc_call (data_spec r.kind) (by simp) ?_
  simp [hdt']
  refine sc_call (refKids_spec' l r) (by simp) ?_
  rw [hnn]
  simp
  refine hloop _ (fun p => by simp) (by simp) (fun h0 q H' hH => ?_) (fun h0 H' hH => ?_)
  · rw [h0]
    simp
    exact reth_fam rfl rfl hH
  · exact reth_fam rfl rfl hH
theorem vWalk_spec {l : List (List Int)} (hs : Sg l) {B : Int} (hB : B≤1000000) : ∀ d : Nat,d≤1000→RV l B d (meaning l d)
  | 0,hd => fun r hr left l0 l1 => by
    have := vWalk_core hs hB (d := 0) (by omega) (rec1 := leafM l) (rec2 := leafM l) (fun h => absurd h (by omega)) (fun h => absurd h (by omega)) leafM_lb leafM_lb r hr left l0 l1
    dsimp only at this
    rwa [← meaning_0] at this
  | 1,hd => fun r hr left l0 l1 => by
    have := vWalk_core hs hB (d := 1) (by omega) (rec1 := meaning l 0) (rec2 := fun r left => stopM l r left) (fun _ => by simpa using vWalk_spec hs hB 0 (by omega)) (fun h => absurd h (by omega)) (meaning_lb hs.w 0) (fun r hr left h0 h1 => ⟨h0,h1⟩) r hr left l0 l1
    dsimp only at this
    rwa [← meaning_1] at this
  | d + 2,hd => fun r hr left l0 l1 => by
    have := vWalk_core hs hB (d := d + 2) (by omega) (rec1 := meaning l (d + 1)) (rec2 := meaning l d) (fun _ => by
      have := vWalk_spec hs hB (d + 1) (by omega)
      rwa [show ((d + 1 : Nat) : Int) = ((d + 2 : Nat) : Int) - 1 from by omega] at this) (fun _ => by
      have := vWalk_spec hs hB d (by omega)
      rwa [show (d : Int) = ((d + 2 : Nat) : Int) - 2 from by omega] at this) (meaning_lb hs.w (d + 1)) (meaning_lb hs.w d) r hr left l0 l1
    dsimp only at this
    rwa [← meaning_2] at this
end Go.Proofs.YthfiijdbnkaabaaGreat

namespace Go.Proofs.YthfiijdbnkaabaaGreat
set_option linter.unusedVariables false
set_option linter.unusedSimpArgs false
open Go Go.G Go.Proofs Go.PL
theorem clamp_min {x m : Int} (h : 0≤m) : min (max x 0) m = clampZ x m := by
  unfold clampZ
  split
  · omega
  · split <;> omega
theorem vLimits_spec (a b c d : Int) : G.Spec Tryz.prog 63 [liX a b c d] (liX (clampZ a 64) (clampZ b 65536) (clampZ c 4096) (clampZ d 131072)) := by
  refine spec_of t_valid_Limits (by simp) fun w0 I0 => ?_
  unfold c_valid_Limits
  simp
  rw [clamp_min (by decide),clamp_min (by decide),clamp_min (by decide),clamp_min (by decide)]
  exact frz_bare rfl
theorem vCheck_spec {l : List (List Int)} (hs : Sg l) (a b c d : Int) : G.Spec Tryz.prog 31 [arn l,liX a b c d] (.tup [iv (unfP l a b).2.1,iv (unfP l a b).2.2]) := by
  have ha := clamp_in a 64 (by decide)
  have hb := clamp_in b 65536 (by decide)
  refine spec_of t_valid_Check (by simp) fun w0 I0 => ?_
  unfold c_valid_Check
  simp
  refine sc_call (vLimits_spec a b c d) rfl ?_
  simp
  refine sc_call (root_spec hs) rfl ?_
  simp
  unfold unfP
  have hok := at_ok hs.w 0 0
  generalize hx : atP l 0 0 = x at hok
  obtain ⟨r,e⟩ := x
  simp only
  by_cases he : e = 0
  · rw [if_neg (by simp [he])]
    obtain ⟨D,hD⟩ : ∃ D : Nat,clampZ a 64 = (D : Int) := ⟨(clampZ a 64).toNat,by omega⟩
    obtain ⟨u,hu,hw⟩ := vWalk_spec hs (B := clampZ b 65536) (by omega) D (by omega) r hok (clampZ b 65536) hb.1 (Int.le_refl _)
    simp [he,hD,updF_app]
    rw [Int.sub_self] at hw
    generalize meaning l D r (clampZ b 65536) = y at hu hw
    obtain ⟨t,lf,e2⟩ := y
    unfold UV at hu
    simp only at hu hw ⊢
    have hF : ∀ H : Hp,H [2] = ⟨1,.cells [iv 0,iv (clampZ b 65536)]⟩→(∀ p,p ≠ []→H (2 :: p) = ⟨0,.none⟩)→∀ p,H (2 :: p) = (mtM 0 (clampZ b 65536)).F 2 p := fun H h1 h2 p => by
      by_cases p0 : p = []
      · subst p0; rw [h1]; simp
      · rw [h2 p p0]; simp [p0]
    refine sc_fam 2 hw (hF _ (by simp [updF_app]) (fun p hp => by simp [updF_app,hp,Ne.symm hp])) (by simp) (by simp) ?_
    by_cases he2 : e2 = 0
    · have := hu he2
      subst this
      simp [he2]
      exact frz_bare rfl
    · simp [he2]
      exact frz_bare rfl
  · rw [if_pos he]
    simp [he]
    exact frz_bare rfl
theorem uMessage_spec {l : List (List Int)} (hs : Sg l) (a b c d : Int) : G.Spec Tryz.prog 85 [arn l,liX a b c d] (.tup [tX (norm (unfP l a b).1),iv (unfP l a b).2.2]) := by
  refine spec_of t_unfold_Message (by simp) fun w0 I0 => ?_
  unfold c_unfold_Message
  simp
  refine sc_call (vCheck_spec hs a b c d) rfl ?_
  by_cases he : (unfP l a b).2.2 = 0
  · have hm := unfold_means hs he
    have hw := means_wf hs _ _ hm
    have h0 : (atP l 0 0).2 = 0 := by
      unfold unfP at he
      split at he
      · rename_i h0; exact absurd he h0
      · rename_i h0; omega
    generalize (unfP l a b).1 = t at hm hw
    rw [he]
    simp
    refine sc_call (root_spec hs) rfl ?_
    rw [h0]
    simp
    refine sc_call (value_spec hs _ _ hm) (by simp) ?_
    simp
    refine sc_call (tNorm_spec t hw) rfl ?_
    simp
    have e : A.agg [iv t.kind,uws (norm t).words,tKs (norm t).kids] = tX (norm t) := by simp
    rw [e]
    exact frz_bare (tup_bare (by simp))
  · have hT : (unfP l a b).1 = T0 := by
      unfold unfP at he ⊢
      split
      · rfl
      · split
        · rfl
        · rename_i h1 h2
          rw [if_neg h1,if_neg h2] at he
          exact absurd rfl he
    have hN : norm T0 = T0 := by simp [T0,norm_mk]
    rw [hT,hN]
    simp [he]
    exact frz_tup (by simp; exact ⟨frz_T0,frz_bare rfl⟩)
end Go.Proofs.YthfiijdbnkaabaaGreat

namespace Go.Proofs.YthfiijdbnkaabaaGreat
set_option linter.unusedVariables false
set_option linter.unusedSimpArgs false
open Go Go.G Go.Proofs Go.PL
section
variable {n0 : Nat} {w0 : World} {I0 : Nat→Prop} {Q : Exit→Sta→Prop}
end
section
variable {n0 : Nat} {w0 : World} {I0 : Nat→Prop} {Q : Exit→Sta→Prop}
end
section
variable {n0 : Nat} {w0 : World} {I0 : Nat→Prop}
end
theorem wf_T0 : wfT T0 := wfT_iff.2 ⟨by simp [i64R],by simp,by simp,by simp,by simp⟩
theorem wf_E (k : Int) (h : i64R k) : wfE (.mk k T0 T0 [] [] 0 []) := wfE_iff.2 ⟨h,by simp [i64R],wf_T0,wf_T0,by simp,by simp,by simp,by simp,by simp,by simp⟩
theorem wf_tree : ∀ (e : E),wfE e→smE 1048575 e→rightE 64 e = true∨True→wfT (treeE e) := by
  refine E.ind fun k o n ws ks l os ihk iho hw hs _ => ?_
  have h := wfE_iff.1 hw
  rw [smE,smKs_all,smOs_all] at hs
  obtain ⟨s1,s2,s3,s4,s5⟩ := hs
  have u : ∀ x,u64R (u64m x) := fun x => by unfold u64R u64m; omega
  have row : ∀ (m : List T),m.length≤1048575→(∀ t,t ∈ m→wfT t)→wfT (rowT' m) := fun m hm hmt => by
    cases m with
    | nil => rw [rowT'_nil]; exact wf_T0
    | cons t m => rw [rowT'_cons]; exact wfT_iff.2 ⟨by simp [i64R],by simp,by simp,by simp at hm ⊢; omega,hmt⟩
  have tk : ∀ w : OP,(treeO l w).kids.length * 56≤140737488355328 := fun w => by
    simp only [treeO,T.kids_mk]
    repeat' split
    all_goals simp
  rw [treeE_mk]
  split
  · exact wf_T0
  · split
    · refine wfT_iff.2 ⟨by simp [i64R],?_,by simp,by simp,?_⟩
      · intro x hx; simp at hx; rw [hx]; exact u _
      · intro x hx; simp at hx; rcases hx with rfl | rfl; exact h.o; exact h.n
    · split
      · refine wfT_iff.2 ⟨by simp [i64R],?_,by simp,by simp,?_⟩
        · intro x hx; simp at hx; rw [hx]; exact u _
        · intro x hx
          simp at hx
          rcases hx with rfl | rfl
          · refine row _ (by simp; omega) fun t ht => ?_
            obtain ⟨w,hw',rfl⟩ := List.mem_map.1 ht
            obtain ⟨w1,w2,w3,w4⟩ := h.w w hw'
            exact wfT_iff.2 ⟨by simp [treeW,i64R],by intro x hx; simp [treeW] at hx; rcases hx with rfl | rfl | rfl; exact u _; exact w3; exact w4,by simp [treeW],by simp [treeW],by simp [treeW]⟩
          · rw [treeKs_map]
            refine row _ (by simp; omega) fun t ht => ?_
            obtain ⟨w,hw',rfl⟩ := List.mem_map.1 ht
            exact wfT_iff.2 ⟨by simp [treeK,i64R],by intro x hx; simp [treeK] at hx; rw [hx]; exact u _,by simp [treeK],by simp [treeK],by intro x hx; simp [treeK] at hx; rw [hx]; exact ihk w hw' (h.ks w hw').2 (s4 w hw') (.inr trivial)⟩
      · refine wfT_iff.2 ⟨by simp [i64R],?_,by simp,by simp,?_⟩
        · intro x hx; simp at hx; rw [hx]; exact u _
        · intro x hx
          simp at hx
          subst hx
          rw [treeOs_map]
          refine row _ (by simp; omega) fun t ht => ?_
          obtain ⟨w,hw',rfl⟩ := List.mem_map.1 ht
          have hwo := h.os w hw'
          refine wfT_iff.2 ⟨by simp [treeO,i64R],by intro x hx; simp [treeO] at hx; rw [hx]; exact u _,by simp [treeO],tk w,?_⟩
          intro x hx
          simp only [treeO,T.kids_mk] at hx
          split at hx
          · simp at hx; rw [hx]; exact iho w hw' hwo.e (s5 w hw') (.inr trivial)
          · split at hx
            · simp at hx; rw [hx]; exact wfT_iff.2 ⟨h.l,by simp,by simp,hwo.ll,hwo.l⟩
            · simp at hx
end Go.Proofs.YthfiijdbnkaabaaGreat

namespace Go.PL
set_option linter.unusedVariables false
set_option linter.unusedSimpArgs false
theorem right_null (d : Nat) : rightT d T0 = true := by rw [rightT_mk]; simp
theorem right_to {d : Nat} {k : Int} {w : List Int} {l : List T} (h0 : k ≠ 0) (h10 : k ≠ 10) (hb : tooBig k d w.length l.length = false) (h : ∀ t,t ∈ l→rightT (d - 1) t = true∧kidOk k t = true) : rightT d (.mk k w l) = true := by
  rw [rightT_mk,if_neg h0,if_neg h10,if_neg (by rw [hb]; simp)]
  exact rightL_all.2 h
theorem right_some {l : List T} (h : ∀ t,t ∈ l→∃ D,rightT D t = true) : ∃ D,∀ t,t ∈ l→rightT D t = true := by
  induction l with
  | nil => exact ⟨0,fun t ht => by cases ht⟩
  | cons u l ih =>
    obtain ⟨D,hD⟩ := h u (by simp)
    obtain ⟨D',hD'⟩ := ih fun t ht => h t (by simp [ht])
    refine ⟨D + D',fun t ht => ?_⟩
    rcases List.mem_cons.1 ht with rfl | ht
    · exact rightT_mono _ _ _ (by omega) hD
    · exact rightT_mono _ _ _ (by omega) (hD' t ht)
theorem right_one {w : List Int} {l : List T} (hw : w.length < 65536) (hl : l.length < 65536) (h : ∀ t,t ∈ l→(∃ D,rightT D t = true)∧t.kind ≠ 10) : ∃ D,rightT D (.mk 1 w l) = true := by
  obtain ⟨D,hD⟩ := right_some fun t ht => (h t ht).1
  refine ⟨D + 1,right_to (by decide) (by decide) ?_ fun t ht => ⟨by simpa using hD t ht,?_⟩⟩
  · simp [tooBig]; omega
  · have := (h t ht).2
    simp [kidOk,isData,this]
theorem right_row {l : List T} (hl : l.length < 1048576) (h : ∀ t,t ∈ l→(∃ D,rightT D t = true)∧t.kind = 1) : (∃ D,rightT D (rowT' l) = true)∧(rowT' l).kind ≠ 10 := by
  cases l with
  | nil => exact ⟨⟨0,right_null 0⟩,by decide⟩
  | cons u l =>
    refine ⟨?_,by show (9 : Int) ≠ 10; decide⟩
    obtain ⟨D,hD⟩ := right_some fun t ht => (h t ht).1
    refine ⟨D + 1,?_⟩
    show rightT (D + 1) (.mk 9 [] (u :: l)) = true
    refine right_to (by decide) (by decide) ?_ fun t ht => ⟨by simpa using hD t ht,?_⟩
    · simp [tooBig] at hl ⊢; omega
    · have := (h t ht).2
      simp [kidOk,isData,this]
end Go.PL

namespace Go.Proofs.YthfiijdbnkaabaaGreat
set_option linter.unusedVariables false
set_option linter.unusedSimpArgs false
open Go Go.G Go.Proofs Go.PL
theorem opLen_nonneg {d : Nat} {list : Int} {x : OP} (O : RightO d list x) : 0≤opLen x := by
  unfold opLen
  split
  · omega
  · have := O.keep
    have := O.nn
    have := O.k0
    omega
theorem tree_right : ∀ (e : E) (d : Nat),smE 1048575 e→rightE d e = true→∃ D,rightT D (treeE e) = true := by
  refine E.ind fun k o nn ws ks l os ihk iho d hs hr => ?_
  have R := rightE_iff.1 hr
  rw [smE,smKs_all,smOs_all] at hs
  obtain ⟨s1,s2,s3,s4,s5⟩ := hs
  have hks := fun x hx => rightKs_allE (by omega) R.kok x hx
  have hos := fun x hx => rightO_of (rightOs_all.1 R.ook x hx)
  rw [treeE_mk]
  by_cases k0 : k = 0
  · rw [if_pos k0]; exact ⟨0,right_null 0⟩
  rw [if_neg k0]
  by_cases k1 : k = 1
  · rw [if_pos k1]
    obtain ⟨a,b,c,e⟩ := R.rep k1
    refine right_one (by simp) (by simp) fun t ht => ?_
    simp at ht
    rcases ht with rfl | rfl
    · exact ⟨⟨64,a⟩,c⟩
    · exact ⟨⟨64,b⟩,e⟩
  rw [if_neg k1]
  by_cases k2 : k = 2
  · rw [if_pos k2,treeKs_map]
    refine right_one (by simp) (by simp) fun t ht => ?_
    simp only [List.mem_cons,List.not_mem_nil,or_false] at ht
    rcases ht with rfl | rfl
    · refine right_row (by simp; omega) fun t ht => ?_
      obtain ⟨w,hw,rfl⟩ := List.mem_map.1 ht
      exact ⟨right_one (by simp) (by simp) (fun t ht => nomatch ht),rfl⟩
    · refine right_row (by simp; omega) fun t ht => ?_
      obtain ⟨x,hx,rfl⟩ := List.mem_map.1 ht
      refine ⟨right_one (by simp) (by simp) fun t ht => ?_,rfl⟩
      simp only [List.mem_cons,List.not_mem_nil,or_false] at ht
      subst ht
      refine ⟨ihk x hx _ (s4 x hx) (hks x hx).2.2.2,?_⟩
      rw [treeE_kind]
      split <;> decide
  · rw [if_neg k2,treeOs_map]
    have hl := R.lst (by have := R.k0; have := R.k3; omega)
    refine right_one (by simp) (by simp) fun t ht => ?_
    simp only [List.mem_cons,List.not_mem_nil,or_false] at ht
    subst ht
    refine right_row (by simp; omega) fun t ht => ?_
    obtain ⟨x,hx,rfl⟩ := List.mem_map.1 ht
    have O := hos x hx
    have hlen := lengths_each os 0 0 (fun y hy => opLen_nonneg (hos y hy)) (by omega) (by omega) (by omega) (by omega) R.len.1 R.len.2 x hx
    refine ⟨?_,rfl⟩
    unfold treeO
    have hkl : (if x.kind = 3 then [treeE x.e] else if x.kind > 0 then [T.mk l [] x.l] else []).length < 65536 := by
      split
      · simp
      · split <;> simp
    refine right_one (by simp) hkl fun t ht => ?_
    by_cases h3 : x.kind = 3
    · rw [if_pos h3] at ht
      simp only [List.mem_cons,List.not_mem_nil,or_false] at ht
      subst ht
      obtain ⟨_,_,_,he,_⟩ := O.down h3
      refine ⟨iho x hx _ (s5 x hx) he,?_⟩
      rw [treeE_kind]
      split <;> decide
    · rw [if_neg h3] at ht
      split at ht
      · rename_i hpos
        simp only [List.mem_cons,List.not_mem_nil,or_false] at ht
        subst ht
        obtain ⟨_,hel⟩ := O.some (by have := O.k3; omega)
        refine ⟨⟨64,right_to (by omega) (by omega) ?_ fun t ht => ?_⟩,by show l ≠ 10; omega⟩
        · have : x.l.length < 1048576 := by
            unfold opLen at hlen
            rw [if_neg h3] at hlen
            have := O.nn (by omega)
            omega
          simp [tooBig]
          omega
        · have := hel t ht
          rw [rightT_mk,if_neg (by omega),if_neg (by omega)] at this
          split at this
          · cases this
          · exact rightL_all.1 this t (by simp)
      · cases ht
theorem trimK_mem {l : List T} {x : T} (hx : x ∈ l) (h : x.kind ≠ 0) : x ∈ trimK l := by
  induction l using snocInd with
  | h0 => cases hx
  | h1 l y ih =>
    rw [trimK_snoc]
    split
    · rename_i hy
      rcases List.mem_append.1 hx with hx | hx
      · exact ih hx
      · simp only [List.mem_singleton] at hx
        subst hx
        exact absurd hy h
    · exact hx
theorem right_of_norm : ∀ (t : T) (D d : Nat),rightT D t = true→rightT d (norm t) = true→rightT d t = true := by
  refine T.ind fun k w l ih D d hD hd => ?_
  have hst := rightT_struct hD
  rw [rightT_mk] at hD ⊢
  rw [norm_mk] at hd
  by_cases k0 : k = 0
  · rw [if_pos k0] at hD ⊢; exact hD
  rw [if_neg k0] at hD ⊢ hd
  by_cases k10 : k = 10
  · rw [if_pos k10] at hD ⊢; exact hD
  rw [if_neg k10] at hD ⊢
  have hb : tooBig k D w.length l.length = false := by
    cases e : tooBig k D w.length l.length with
    | false => rfl
    | true => rw [e] at hD; simp at hD
  have key : ∀ (w' : List Int) (l' : List T),(∀ t,t ∈ l→t.kind ≠ 0→norm t ∈ l')→rightT d (.mk k w' l') = true→(if tooBig k d w.length l.length = true then false else rightL (d - 1) k l) = true := fun w' l' hin hq => by
    rw [rightT_mk,if_neg k0,if_neg k10] at hq
    split at hq
    · cases hq
    rename_i hb2
    have hd0 : d ≠ 0 := by simp [tooBig] at hb2; omega
    have hb3 : tooBig k d w.length l.length = false := by
      unfold tooBig at hb ⊢
      simp only [Bool.or_eq_false_iff] at hb ⊢
      obtain ⟨⟨⟨⟨⟨⟨a1,a2⟩,a3⟩,a4⟩,a5⟩,a6⟩,a7⟩ := hb
      exact ⟨⟨⟨⟨⟨⟨a1,a2⟩,by simpa using hd0⟩,a4⟩,a5⟩,a6⟩,a7⟩
    rw [if_neg (by rw [hb3]; simp)]
    refine rightL_all.2 fun t ht => ?_
    obtain ⟨a,b⟩ := hst t ht
    refine ⟨?_,b⟩
    by_cases t0 : t.kind = 0
    · cases t
      simp at t0
      subst t0
      rw [rightT_mk] at a ⊢
      simpa using a
    · exact ih t ht _ _ a (rightL_all.1 hq _ (hin t ht t0)).1
  split at hd
  · rename_i h1
    subst h1
    refine key _ _ (fun t ht t0 => ?_) hd
    exact trimK_mem (List.mem_map.2 ⟨t,ht,rfl⟩) (by simpa using t0)
  · exact key _ _ (fun t ht t0 => List.mem_map.2 ⟨t,ht,rfl⟩) hd
theorem right_len {d : Nat} {t : T} (h : rightT d t = true) : t.kids.length≤1048575 := by
  obtain ⟨k,w,l⟩ := t
  rw [rightT_mk] at h
  by_cases h0 : k = 0
  · rw [if_pos h0] at h; simp at h; rw [T.kids_mk,h.2]; exact Nat.zero_le _
  rw [if_neg h0] at h
  by_cases h10 : k = 10
  · rw [if_pos h10] at h; simp at h; rw [T.kids_mk,h.2]; exact Nat.zero_le _
  rw [if_neg h10] at h
  split at h
  · cases h
  · rename_i hb
    simp [tooBig] at hb
    rw [T.kids_mk]
    omega
theorem right_kd {d : Nat} {t : T} (h : rightT d t = true) (i : Nat) : ∃ d,rightT d (kdT t i) = true := by
  unfold kdT
  rw [List.getD_eq_getElem?_getD]
  cases e : t.kids[i]? with
  | none => exact ⟨0,right_null 0⟩
  | some x => exact ⟨_,(right_kids h x (List.mem_of_getElem? e)).1⟩
theorem sm_E0 : smE 1048575 E0 := by rw [smE]; simp [smKs,smOs]
theorem guess_sm : ∀ (n : Nat) (t : T),SizeOf.sizeOf t≤n→(∃ d,rightT d t = true)→smE 1048575 (guess t) := by
  intro n
  induction n with
  | zero => intro t ht; exfalso; cases t; simp at ht
  | succ n ih =>
    intro t ht hd
    obtain ⟨d,hd⟩ := hd
    rw [guess_eq]
    split
    · exact sm_E0
    · obtain ⟨da,ha⟩ := right_kd hd 0
      obtain ⟨db,hb⟩ := right_kd hd 1
      have la := right_len ha
      have lb := right_len hb
      rw [smE,smKs_all,smOs_all]
      have deep : ∀ (i : Nat) x,x ∈ (kdT t i).kids→smE 1048575 (guess (kdT x 0)) := fun i x hx => by
        obtain ⟨di,hi⟩ := right_kd hd i
        have hlt := kd_lt hx 0
        exact ih _ (by omega) (right_kd (right_kids hi x hx).1 0)
      refine ⟨?_,?_,?_,fun x hx => ?_,fun x hx => ?_⟩
      · split
        · simp; omega
        · simp
      · split
        · simp; omega
        · simp
      · split
        · simp; omega
        · simp
      · split at hx
        · obtain ⟨y,hy,rfl⟩ := List.mem_map.1 hx
          exact deep 1 y hy
        · cases hx
      · split at hx
        · obtain ⟨y,hy,rfl⟩ := List.mem_map.1 hx
          unfold stpG
          simp only [OP.e_mk]
          split
          · exact deep 0 y hy
          · exact sm_E0
        · cases hx
theorem wf_E0 : wfE E0 := wfE_iff.2 ⟨by simp [i64R,E.kind],by simp [i64R,E.list],wf_T0,wf_T0,by simp [E.words],by simp [E.words],by simp [E.kids],by simp [E.ops],by simp [E.kids],by simp [E.ops]⟩
theorem wf_wordG {x : T} (h : wfT x) : WE.wf (wordG x) := by
  have h0 := wd_in h 0
  have h1 := wd_in h 1
  have h2 := wd_in h 2
  unfold u64R at h0
  refine ⟨?_,?_,h1,h2⟩
  · unfold i64R wordG; simp only; omega
  · unfold wordG; simp only; omega
theorem guess_wf : ∀ (n : Nat) (t : T),SizeOf.sizeOf t≤n→wfT t→(∃ d,rightT d t = true)→wfE (guess t) := by
  intro n
  induction n with
  | zero => intro t ht; exfalso; cases t; simp at ht
  | succ n ih =>
    intro t ht hw hd
    obtain ⟨d,hd⟩ := hd
    rw [guess_eq]
    split
    · exact wf_E0
    · obtain ⟨da,ha⟩ := right_kd hd 0
      obtain ⟨db,hb⟩ := right_kd hd 1
      have la := right_len ha
      have lb := right_len hb
      have wa := wf_kd hw 0
      have wb := wf_kd hw 1
      have w0 := wd_in hw 0
      unfold u64R at w0
      have deep : ∀ (i : Nat) x,x ∈ (kdT t i).kids→wfE (guess (kdT x 0)) := fun i x hx => by
        obtain ⟨di,hi⟩ := right_kd hd i
        have hlt := kd_lt hx 0
        exact ih _ (by omega) (wf_kd ((wfT_iff.1 (wf_kd hw i)).ks x hx) 0) (right_kd (right_kids hi x hx).1 0)
      refine wfE_iff.2 ⟨?_,?_,?_,?_,fun x hx => ?_,?_,?_,?_,fun x hx => ?_,fun x hx => ?_⟩
      · simp only [E.kind_mk]; unfold i64R; omega
      · simp only [E.list_mk]; unfold i64R; omega
      · show wfT (if _ then _ else _); split
        · exact wa
        · exact wf_T0
      · show wfT (if _ then _ else _); split
        · exact wb
        · exact wf_T0
      · simp only [E.words_mk] at hx
        split at hx
        · obtain ⟨y,hy,rfl⟩ := List.mem_map.1 hx
          exact wf_wordG ((wfT_iff.1 wa).ks y hy)
        · cases hx
      · simp only [E.words_mk]; split
        · simp; omega
        · simp
      · simp only [E.kids_mk]; split
        · simp; omega
        · simp
      · simp only [E.ops_mk]; split
        · simp; omega
        · simp
      · simp only [E.kids_mk] at hx
        split at hx
        · obtain ⟨y,hy,rfl⟩ := List.mem_map.1 hx
          have h0 := wd_in ((wfT_iff.1 wb).ks y hy) 0
          unfold u64R at h0
          exact ⟨by simp only [kidG,KE.at_mk]; unfold i64R; omega,deep 1 y hy⟩
        · cases hx
      · simp only [E.ops_mk] at hx
        split at hx
        · obtain ⟨y,hy,rfl⟩ := List.mem_map.1 hx
          have wy := (wfT_iff.1 wa).ks y hy
          have h0 := wd_in wy 0
          unfold u64R at h0
          obtain ⟨dy,hy2⟩ := right_kd (right_kids ha y hy).1 0
          have ly := right_len hy2
          refine ⟨by simp only [stpG,OP.kind_mk]; unfold i64R; omega,by simp only [stpG,OP.n_mk]; unfold i64R; omega,fun t ht => ?_,?_,?_⟩
          · simp only [stpG,OP.l_mk] at ht
            split at ht
            · exact (wfT_iff.1 (wf_kd wy 0)).ks t ht
            · cases ht
          · simp only [stpG,OP.l_mk]
            split
            · omega
            · simp
          · simp only [stpG,OP.e_mk]
            split
            · exact deep 0 y hy
            · exact wf_E0
        · cases hx
end Go.Proofs.YthfiijdbnkaabaaGreat

namespace Go.Proofs.YthfiijdbnkaabaaGreat
set_option linter.unusedVariables false
set_option linter.unusedSimpArgs false
open Go Go.G Go.Proofs Go.PL
def AllW (l : List Int) : Prop := ∀ y,y ∈ l→u64R y
theorem allW_app {a b : List Int} : AllW (a ++ b) ↔ AllW a∧AllW b := by
  unfold AllW
  simp only [List.mem_append]
  exact ⟨fun h => ⟨fun y hy => h y (.inl hy),fun y hy => h y (.inr hy)⟩,fun h y hy => hy.elim (h.1 y) (h.2 y)⟩
theorem allW_set {l : List Int} {p : Nat} {x : Int} (h : AllW l) (hx : u64R x) : AllW (l.set p x) := fun y hy => by
  rcases List.mem_or_eq_of_mem_set hy with hy | rfl
  · exact h y hy
  · exact hx
theorem allW_rep (n : Nat) : AllW (List.replicate n 0) := fun y hy => by rw [List.eq_of_mem_replicate hy]; exact ⟨by decide,by decide⟩
theorem ptrZ_rng {a to k u : Int} (h0 : 0≤a) (h1 : a≤200000) (t0 : 0≤to) (t1 : to≤200000) (k0 : 0≤k) (k1 : k < 4) (u0 : 0≤u) (u1 : u < 4294967296) : u64R (ptrZ a to k u) := by
  unfold ptrZ u64R
  split <;> omega
theorem putL_in {w : Nat} (hw : w = 1∨w = 8∨w = 16∨w = 32∨w = 64) : ∀ (ns : List Int) (i : Nat) (out : List Int),PutI w i out→(∀ x,x ∈ ns→0≤x∧x < 2 ^ w)→(∀ j,j < i + ns.length→j * w / 64 < out.length)→AllW (putL w ns i out)
  | [],i,out,hI,_,_ => fun y hy => by
    rw [putL] at hy
    obtain ⟨j,hj,rfl⟩ := List.mem_iff_getElem.1 hy
    exact hI.rng j hj
  | n :: ns,i,out,hI,hn,hl => by
    obtain ⟨h0,h1⟩ := hn n (by simp)
    rw [putL,if_neg (by omega)]
    have := putI_step hI hw h0 h1 (hl i (by simp))
    exact putL_in hw ns (i + 1) _ this.1 (fun x hx => hn x (by simp [hx])) (fun j hj => by rw [List.length_set]; exact hl j (by simp at hj ⊢; omega))
theorem putZ_all {c : Int} (c0 : 0≤c) (c6 : c < 6) {ns : List Int} (hnl : ns.length≤1000000000) (hfit : ∀ x,x ∈ ns→u64R x∧fitsZ c x = true) : AllW (putZ c ns) := by
  obtain ⟨w,w1,w2,w3⟩ := width_cases c0 c6
  unfold putZ
  rw [w1]
  simp only [Int.toNat_natCast]
  by_cases h0 : w = 0
  · subst h0
    have : ∀ (ns : List Int) (i : Nat) (o : List Int),putL 0 ns i o = o := fun ns => by
      induction ns with
      | nil => intro i o; rfl
      | cons n ns ih => intro i o; rw [putL,if_pos rfl,ih]
    rw [this]
    exact allW_rep _
  · refine putL_in (by omega) ns 0 _ (PutI.start w _) (fun x hx => ?_) (fun j hj => ?_)
    · obtain ⟨a,b⟩ := hfit x hx
      exact ⟨a.1,fits_lt w1 a.1 b⟩
    · rw [List.length_replicate]
      have hroom : roomZ c ns.length = (((ns.length * w + 63) / 64 : Nat) : Int) := by
        unfold roomZ
        rw [if_neg (by omega),w2]
        have e : (ns.length : Int) * w = ((ns.length * w : Nat) : Int) := by rw [Int.natCast_mul]
        rw [e]
        omega
      rw [hroom,Int.toNat_natCast]
      exact put_at (by omega) (by omega)
def LW (f : Nat→List Int→List Int) (n : Nat) : Prop := ∀ (a : Nat) (l : List Int),a + n≤l.length→(f a l).length≤200000→AllW l→AllW (f a l)
theorem layL_lw : ∀ {ts : List T},(∀ t,t ∈ ts→LW (layT t) 1)→LW (layL ts) ts.length
  | [],_ => fun a l _ _ h => by simpa using h
  | t :: ts,h => fun a l ha hl hw => by
    simp only [List.length_cons] at ha
    rw [layL_cons] at hl ⊢
    have h1 := layL_lm ts (a + 1) (layT t a l)
    have h2 := layT_le t a l
    exact layL_lw (fun u hu => h u (by simp [hu])) (a + 1) _ (by omega) hl (h t (by simp) a l (by omega) (by omega) hw)
theorem layC_lw {w k : Nat} : ∀ {ts : List T},(∀ t,t ∈ ts→LW (layL t.kids) t.kids.length∧t.kids.length≤k)→∀ (a : Nat) (l : List Int),a + ts.length * (w + k)≤l.length→(layC w k ts a l).length≤200000→AllW l→AllW (layC w k ts a l)
  | [],_ => fun a l _ _ h => by simpa using h
  | t :: ts,h => fun a l ha hl hw => by
    obtain ⟨g1,g2⟩ := h t (by simp)
    simp only [List.length_cons,Nat.add_mul,Nat.one_mul] at ha
    rw [layC_cons] at hl ⊢
    have h1 := layC_lm w k ts (a + (w + k)) (layL t.kids (a + w) l)
    have h2 := layL_lm t.kids (a + w) l
    exact layC_lw (fun u hu => h u (by simp [hu])) (a + (w + k)) _ (by omega) hl (g1 (a + w) l (by omega) (by omega) hw)
theorem rowsC_in {w k : Nat} : ∀ {ts : List T},(∀ t,t ∈ ts→AllW t.words)→AllW (rowsC w k ts)
  | [],_ => fun y hy => by simp [rowsC] at hy
  | t :: ts,h => by
    rw [rowsC]
    exact allW_app.2 ⟨allW_app.2 ⟨h t (by simp),allW_rep _⟩,rowsC_in fun u hu => h u (by simp [hu])⟩
theorem lay_lw : ∀ t : T,wfT t→(LayOk t→LW (layT t) 1)∧((∀ u,u ∈ t.kids→LayOk u)→LW (layL t.kids) t.kids.length) := by
  refine T.ind fun k w ks ih hw => ?_
  have hwt := wfT_iff.1 hw
  have hK : (∀ u,u ∈ ks→LayOk u)→LW (layL ks) ks.length := fun h => layL_lw fun t ht => (ih t ht (hwt.ks t ht)).1 (h t ht)
  refine ⟨fun hok a l ha hl hA => ?_,hK⟩
  cases hok with
  | null => rw [layT_mk,if_pos rfl]; exact hA
  | str w ks b1 b2 h =>
    rw [layT_mk,if_neg (by decide),if_pos rfl] at hl ⊢
    have hm := Nat.le_trans (layL_lm ks _ _) hl
    simp only [List.length_append,List.length_set,List.length_replicate] at hm
    refine hK h _ _ (by simp; omega) hl (allW_app.2 ⟨allW_app.2 ⟨allW_set hA (ptrZ_rng (by omega) (by omega) (by omega) (by split <;> omega) (by omega) (by omega) (by omega) (by omega)),hwt.w⟩,allW_rep _⟩)
  | ptrs w ks b1 h =>
    rw [layT_mk,if_neg (by decide),if_neg (by decide),if_pos rfl] at hl ⊢
    have hm := layL_lm ks l.length (l.set a (ptrZ a l.length 1 (6 + 8 * ks.length)) ++ List.replicate ks.length 0)
    simp only [List.length_append,List.length_set,List.length_replicate] at hm
    exact hK h _ _ (by simp) hl (allW_app.2 ⟨allW_set hA (ptrZ_rng (by omega) (by omega) (by omega) (by omega) (by omega) (by omega) (by omega) (by omega)),allW_rep _⟩)
  | comp w ks b1 b2 h =>
    rw [layT_mk,if_neg (by decide),if_neg (by decide),if_neg (by decide),if_pos rfl] at hl ⊢
    have hbound := frame_bound (ts := ks) (w := 65535) (k := 65535) fun u hu => by have := b2 u hu; omega
    have hr := rowsC_length (w := frameW ks) (k := frameK ks) ks fun t ht => by have := frameW_le ht; omega
    have hm := layC_lm (frameW ks) (frameK ks) ks (l.length + 1) (l.set a (ptrZ a l.length 1 (7 + 8 * (ks.length * (frameW ks + frameK ks) : Nat))) ++ [4 * (ks.length : Int) + 4294967296 * ((frameW ks : Int) + 65536 * frameK ks)] ++ rowsC (frameW ks) (frameK ks) ks)
    simp only [List.length_append,List.length_set,List.length_singleton,hr] at hm
    have hkf : ∀ t,t ∈ ks→t.kids.length≤frameK ks := fun t ht => frameK_le ht
    generalize frameW ks = W at *
    generalize frameK ks = K at *
    generalize hL : ks.length * (W + K) = L at *
    refine layC_lw (fun t ht => ⟨(ih t ht (hwt.ks t ht)).2 (h t ht),hkf t ht⟩) _ _ (by simp only [List.length_append,List.length_set,List.length_singleton,hr]; omega) hl (allW_app.2 ⟨allW_app.2 ⟨allW_set hA (ptrZ_rng (by omega) (by omega) (by omega) (by omega) (by omega) (by omega) (by omega) (by omega)),fun y hy => ?_⟩,rowsC_in fun t ht => (wfT_iff.1 (hwt.ks t ht)).w⟩)
    simp only [List.mem_singleton] at hy
    subst hy
    unfold u64R
    omega
  | data k w ks h1 h2 b1 hc =>
    rw [layT_mk,if_neg (by omega),if_neg (by omega),if_neg (by omega),if_neg (by omega)] at hl ⊢
    rw [List.length_append,List.length_set] at hl
    refine allW_app.2 ⟨allW_set hA (ptrZ_rng (by omega) (by omega) (by omega) (by omega) (by omega) (by omega) (by omega) (by omega)),putZ_all (by omega) (by omega) (by simp; omega) fun x hx => ?_⟩
    obtain ⟨c,hc',rfl⟩ := List.mem_map.1 hx
    obtain ⟨y,y1,y2,y3,y4⟩ := hc c hc'
    have : hd c = y := by simp [hd,y1]
    rw [this]
    exact ⟨⟨y2,y3⟩,y4⟩
theorem cn_sg {most : Int} {t : T} (hw : wfT t) : Sg [cnW most t] := by
  by_cases h : cnOk most t = true
  · have hW : cnW most t = layT (norm t) 0 [0] := by simp [cnW,h]
    simp [cnOk] at h
    obtain ⟨⟨⟨hr,h10⟩,_⟩,hs⟩ := h
    have hok := laid_right t 64 hr hw h10
    have hlen := (lay_len (norm t)).1 hok 0 [0]
    simp only [List.length_singleton] at hlen
    have hwd := (lay_lw (norm t) (wf_norm t hw)).1 hok 0 [0] (by simp) (by omega) (allW_rep 1)
    rw [hW]
    exact ⟨fun x hx => by simp at hx; subst hx; omega,fun x hx y hy => by simp at hx; subst hx; exact hwd y hy⟩
  · have hW : cnW most t = [] := by simp [cnW,h]
    rw [hW]
    exact ⟨fun x hx => by simp at hx; subst hx; simp,fun x hx y hy => by simp at hx; subst hx; cases hy⟩
end Go.Proofs.YthfiijdbnkaabaaGreat

namespace Go.Proofs.YthfiijdbnkaabaaGreat
set_option linter.unusedVariables false
set_option linter.unusedSimpArgs false
open Go Go.G Go.Proofs Go.PL
theorem uvs_fam {l : List Int} : ∀ x,x ∈ l.map uv→FamA (fun _ => x) := fun x hx => by
  obtain ⟨n,_,rfl⟩ := List.mem_map.1 hx
  exact famA_v
abbrev uvM (u : Nat) (l : List Int) : Fam := rowM u 1 (l.map uv) uvs_fam
theorem rPointer_spec {a b k u : Int} (a0 : 0≤a) (a1 : a≤200000) (b0 : 0≤b) (b1 : b≤200000) (k0 : 0≤k) (k1 : k≤3) (u0 : 0≤u) (u1 : u < 4294967296) : G.Spec Tryz.prog 113 [iv a,iv b,iv k,uv u] (uv (ptrZ a b k u)) := by
  refine spec_of t_centoref12_pointer (by simp) fun w0 I0 => ?_
  unfold c_centoref12_pointer
  have e1 : IntKind.i64.wrap (b - a) = b - a := i64_same (by omega) (by omega)
  have e2 : IntKind.i64.wrap (b - a - 1) = b - a - 1 := i64_same (by omega) (by omega)
  by_cases hlt : b - a - 1 < 0
  · have e3 : IntKind.i64.wrap (b - a - 1 + 1073741824) = b - a - 1 + 1073741824 := i64_same (by omega) (by omega)
    have e4 : IntKind.i64.wrap (4 * (b - a - 1 + 1073741824)) = 4 * (b - a - 1 + 1073741824) := i64_same (by omega) (by omega)
    have e5 : IntKind.i64.wrap (4 * (b - a - 1 + 1073741824) + k) = 4 * (b - a - 1 + 1073741824) + k := i64_same (by omega) (by omega)
    have e6 : IntKind.u64.wrap (4 * (b - a - 1 + 1073741824) + k) = 4 * (b - a - 1 + 1073741824) + k := u64_same (by omega) (by omega)
    have e7 : IntKind.u64.wrap (u * 4294967296) = u * 4294967296 := u64_same (by omega) (by omega)
    have e8 : IntKind.u64.wrap (4 * (b - a - 1 + 1073741824) + k + u * 4294967296) = 4 * (b - a - 1 + 1073741824) + k + u * 4294967296 := u64_same (by omega) (by omega)
    simp [e1,e2,e3,hlt,k1_centoref12_pointer,e4,e5,e6,e7,e8]
    exact frz_is rfl (by simp [ptrZ,hlt])
  · have e4 : IntKind.i64.wrap (4 * (b - a - 1)) = 4 * (b - a - 1) := i64_same (by omega) (by omega)
    have e5 : IntKind.i64.wrap (4 * (b - a - 1) + k) = 4 * (b - a - 1) + k := i64_same (by omega) (by omega)
    have e6 : IntKind.u64.wrap (4 * (b - a - 1) + k) = 4 * (b - a - 1) + k := u64_same (by omega) (by omega)
    have e7 : IntKind.u64.wrap (u * 4294967296) = u * 4294967296 := u64_same (by omega) (by omega)
    have e8 : IntKind.u64.wrap (4 * (b - a - 1) + k + u * 4294967296) = 4 * (b - a - 1) + k + u * 4294967296 := u64_same (by omega) (by omega)
    simp [e1,e2,hlt,k1_centoref12_pointer,e4,e5,e6,e7,e8]
    exact frz_is rfl (by simp [ptrZ,hlt])
section
variable {n0 : Nat} {w0 : World} {I0 : Nat→Prop} {M0 : Nm→Nat→Prop} {m0 : Mu} {Q : Exit→Sta→Prop}
theorem rAdd_l1 {u n : Nat} {W : List Int} (hn : W.length + n≤1000000) (hq : ∀ q H',(∀ p,H' (0 :: p) = (uvM (u + n) (W ++ List.replicate n 0)).F 0 p)→Q (.exit 0) ⟨lk [(0,.osl [0] (u + n) 1 0 (W.length + n)),(1,nv n),(5,nv n),(8,bv q)],H'⟩) :
    ∀ (j i : Nat) (H : Hp),i + j = n→(∀ p,H (0 :: p) = (uvM (u + i) (W ++ List.replicate i 0)).F 0 p) →
    LoopC (cxh Tryz.prog w0 I0 M0 n0 m0) l1_centoref12_add Q ⟨lk [(0,.osl [0] (u + i) 1 0 (W.length + i)),(1,nv n),(5,nv i)],H⟩ := by
  intro j
  induction j with
  | zero =>
    intro i H hi hH
    have : i = n := by omega
    subst this
    refine loopC_once mixed l1_centoref12_add.eq_1 ?_
    simp
    exact hq _ H hH
  | succ j ih =>
    intro i H hi hH
    have hlt : i < n := by omega
    have ei : IntKind.i64.wrap ((i : Int) + 1) = ((i + 1 : Nat) : Int) := i64_same (by omega) (by omega)
    have h0 := hH []
    simp at h0
    refine loopC_once mixed l1_centoref12_add.eq_1 ?_
    simp [hlt,h0,ei]
    refine ⟨by omega,?_⟩
    refine ih (i + 1) _ (by omega) fun p => ?_
    by_cases hp : p = []
    · subst hp
      simp [updF_app,List.take_of_length_le,List.replicate_succ',Nat.add_assoc]
    · simp [updF_app,hp,hH]
end
theorem rAdd_spec (u n : Nat) (W : List Int) (hn : W.length + n≤1000000) : SpecF Tryz.prog 114 (fun r => [.osl [r] u 1 0 W.length,nv n]) (uvM u W) (fun r => .osl [r] (u + n) 1 0 (W.length + n)) (uvM (u + n) (W ++ List.replicate n 0)) := by
  refine specF_of t_centoref12_add (by simp) (famL_cons famA_osl (famL_cons famA_v famL_nil)) famA_osl fun w0 I0 M0 m0 => ?_
  unfold c_centoref12_add
  simp
  refine rAdd_l1 (u := u) (n := n) (W := W) hn (fun q H' hH => ?_) n 0 _ (by omega) (fun p => by simp)
  simp
  exact reth_fam rfl rfl hH
end Go.Proofs.YthfiijdbnkaabaaGreat

namespace Go.Proofs.YthfiijdbnkaabaaGreat
set_option linter.unusedVariables false
set_option linter.unusedSimpArgs false
open Go Go.G Go.Proofs Go.PL
section
variable {n0 : Nat} {w0 : World} {I0 : Nat→Prop} {Q : Exit→Sta→Prop}
theorem atoms_l1 {t : T} (hl : t.kids.length≤1000000000) (hw : ∀ c,c ∈ t.kids→c.words = [hd c]) (hq : ∀ (q : Bool) (u : Nat) (H : Hp),H [1] = ⟨u,.arr 1 ((t.kids.map hd).map uv)⟩→Q (.exit 0) ⟨lk [(1,.pob [0] 1 0),(3,.osl [1] u 1 0 t.kids.length),(4,nv t.kids.length),(9,bv q)],H⟩) :
    ∀ (j i u : Nat) (H : Hp),i + j = t.kids.length→H [0] = ⟨1,.cells (tL t)⟩→H [1] = ⟨u,.arr 1 (((t.kids.take i).map hd).map uv)⟩ →
    LoopC (cx Tryz.prog w0 I0 n0) l1_centoref12_atoms Q ⟨lk [(1,.pob [0] 1 0),(3,.osl [1] u 1 0 i),(4,nv i)],H⟩ := by
  intro j
  induction j with
  | zero =>
    intro i u H hi h0 h1
    have : i = t.kids.length := by omega
    subst this
    rw [List.take_of_length_le (Nat.le_refl _)] at h1
    refine loopC_once mixed l1_centoref12_atoms.eq_1 ?_
    simp [h0]
    exact hq _ u H h1
  | succ j ih =>
    intro i u H hi h0 h1
    have hlt : i < t.kids.length := by omega
    have hx := hw _ (List.getElem_mem hlt)
    have ei : IntKind.i64.wrap ((i : Int) + 1) = ((i + 1 : Nat) : Int) := i64_same (by omega) (by omega)
    have htk : ((t.kids.take (i + 1)).map hd).map uv = ((t.kids.take i).map hd).map uv ++ [uv (hd t.kids[i])] := by rw [List.take_succ_eq_append_getElem hlt,List.map_append,List.map_append]; rfl
    refine loopC_once mixed l1_centoref12_atoms.eq_1 ?_
    simp [h0,hlt,hx,h1,ei]
    refine ⟨⟨by omega,by omega⟩,?_⟩
    refine ih (i + 1) (u + 1) _ (by omega) (by simp [updF_app,h0]) ?_
    rw [htk]
    simp [updF_app]
    rw [List.take_take,Nat.min_self]
end
theorem rAtoms_spec {t : T} (hl : t.kids.length≤1000000000) (hw : ∀ c,c ∈ t.kids→c.words = [hd c]) : G.Spec Tryz.prog 116 [tX t] (uws (t.kids.map hd)) := by
  refine spec_of t_centoref12_atoms (by simp) fun w0 I0 => ?_
  unfold c_centoref12_atoms
  simp
  refine LoopC.le (le_blank 3 [1] 1 (by simp)) ?_
  simp
  refine LoopC.le (le_list [(1,.pob [0] 1 0),(3,.osl [1] 1 1 0 0),(4,nv 0)] (by simp [upd])) ?_
  refine atoms_l1 hl hw (fun q u H h1 => ?_) t.kids.length 0 1 _ (by omega) (by simp) (by simp)
  simp
  exact frz_row (f := uv) (by rw [h1]; simp) (by simp) (fun x => by simp)
def RL (t : T) : Prop := ∀ (u : Nat) (W : List Int) (a : Nat),LayOk t→a < W.length→(W.length : Int) + sizeT t≤200000 →
  ∃ u',SpecF Tryz.prog 81 (fun r => [.osl [r] u 1 0 W.length,nv a,tX t]) (uvM u W) (fun r => .osl [r] u' 1 0 (layT t a W).length) (uvM u' (layT t a W))
theorem rlay_l1 {t : T} (ih : ∀ c,c ∈ t.kids→RL c) (hok : ∀ c,c ∈ t.kids→LayOk c) {to : Nat} (hto : to + t.words.length + t.kids.length≤200000) : ∀ (j i u : Nat) (W : List Int),i + j = t.kids.length→to + t.words.length + t.kids.length≤W.length→(W.length : Int) + sizeL (t.kids.drop i)≤200000 →
    ∃ u',∀ {n0 : Nat} {w0 : World} {I0 : Nat→Prop} {M0 : Nm→Nat→Prop} {m0 : Mu} {Q : Exit→Sta→Prop} (H : Hp),(∀ p,H (0 :: p) = (uvM u W).F 0 p)→H [1] = ⟨1,.cells (tL t)⟩ →
      (∀ q H',(∀ p,H' (0 :: p) = (uvM u' (layL (t.kids.drop i) (to + t.words.length + i) W)).F 0 p)→Q (.exit 1) ⟨lk [(0,.osl [0] u' 1 0 (layL (t.kids.drop i) (to + t.words.length + i) W).length),(5,.pob [1] 1 0),(7,nv to),(8,nv t.kids.length),(65,bv q)],H'⟩) →
      LoopC (cxh Tryz.prog w0 I0 M0 n0 m0) l1_centoref12_Lay Q ⟨lk [(0,.osl [0] u 1 0 W.length),(5,.pob [1] 1 0),(7,nv to),(8,nv i)],H⟩ := by
  intro j
  induction j with
  | zero =>
    intro i u W hi hb hs
    have : i = t.kids.length := by omega
    subst this
    rw [List.drop_eq_nil_of_le (Nat.le_refl _)]
    refine ⟨u,fun H hH hA hq => ?_⟩
    refine loopC_once mixed l1_centoref12_Lay.eq_1 ?_
    simp [hA]
    simp only [layL_nil] at hq
    exact hq _ H hH
  | succ j ihj =>
    intro i u W hi hb hs
    have hlt : i < t.kids.length := by omega
    have hlay := hok _ (List.getElem_mem hlt)
    have hdr : t.kids.drop i = t.kids[i] :: t.kids.drop (i + 1) := List.drop_eq_getElem_cons hlt
    have hrest := sizeL_nonneg (ts := t.kids.drop (i + 1)) fun c hc => hok c (List.mem_of_mem_drop hc)
    rw [hdr,sizeL_cons] at hs
    rw [hdr]
    simp only [layL_cons]
    have hlen := (lay_len _).1 hlay (to + t.words.length + i) W
    have hsz := (size_nonneg _).1 hlay
    obtain ⟨u1,h1⟩ := ih _ (List.getElem_mem hlt) u W (to + t.words.length + i) hlay (by omega) (by omega)
    obtain ⟨u',h2⟩ := ihj (i + 1) u1 (layT t.kids[i] (to + t.words.length + i) W) (by omega) (by omega) (by omega)
    rw [show to + t.words.length + (i + 1) = to + t.words.length + i + 1 from by omega] at h2
    have ei : IntKind.i64.wrap ((i : Int) + 1) = ((i + 1 : Nat) : Int) := i64_same (by omega) (by omega)
    have e1 : IntKind.i64.wrap ((to : Int) + t.words.length) = (to : Int) + t.words.length := i64_same (by omega) (by omega)
    have e2 : IntKind.i64.wrap ((to : Int) + t.words.length + i) = (to : Int) + t.words.length + i := i64_same (by omega) (by omega)
    refine ⟨u',fun H hH hA hq => ?_⟩
    refine loopC_once mixed l1_centoref12_Lay.eq_1 ?_
    simp [hA,hlt,e1,e2]
    refine sc_fam 0 h1 hH (by simp) (by simp) ?_
    simp [ei]
    exact h2 _ (fun p => by simp) (by simp [hA]) hq
theorem rlay_l2 {t : T} (ih : ∀ c,c ∈ t.kids→RL c) (hok : ∀ c,c ∈ t.kids→LayOk c) {to : Nat} (hto : to + t.kids.length≤200000) : ∀ (j i u : Nat) (W : List Int),i + j = t.kids.length→to + t.kids.length≤W.length→(W.length : Int) + sizeL (t.kids.drop i)≤200000 →
    ∃ u',∀ {n0 : Nat} {w0 : World} {I0 : Nat→Prop} {M0 : Nm→Nat→Prop} {m0 : Mu} {Q : Exit→Sta→Prop} (H : Hp),(∀ p,H (0 :: p) = (uvM u W).F 0 p)→H [1] = ⟨1,.cells (tL t)⟩ →
      (∀ q H',(∀ p,H' (0 :: p) = (uvM u' (layL (t.kids.drop i) (to + i) W)).F 0 p)→Q (.exit 3) ⟨lk [(0,.osl [0] u' 1 0 (layL (t.kids.drop i) (to + i) W).length),(5,.pob [1] 1 0),(7,nv to),(9,nv t.kids.length),(106,bv q)],H'⟩) →
      LoopC (cxh Tryz.prog w0 I0 M0 n0 m0) l2_centoref12_Lay Q ⟨lk [(0,.osl [0] u 1 0 W.length),(5,.pob [1] 1 0),(7,nv to),(9,nv i)],H⟩ := by
  intro j
  induction j with
  | zero =>
    intro i u W hi hb hs
    have : i = t.kids.length := by omega
    subst this
    rw [List.drop_eq_nil_of_le (Nat.le_refl _)]
    refine ⟨u,fun H hH hA hq => ?_⟩
    refine loopC_once mixed l2_centoref12_Lay.eq_1 ?_
    simp [hA]
    simp only [layL_nil] at hq
    exact hq _ H hH
  | succ j ihj =>
    intro i u W hi hb hs
    have hlt : i < t.kids.length := by omega
    have hlay := hok _ (List.getElem_mem hlt)
    have hdr : t.kids.drop i = t.kids[i] :: t.kids.drop (i + 1) := List.drop_eq_getElem_cons hlt
    have hrest := sizeL_nonneg (ts := t.kids.drop (i + 1)) fun c hc => hok c (List.mem_of_mem_drop hc)
    rw [hdr,sizeL_cons] at hs
    rw [hdr]
    simp only [layL_cons]
    have hlen := (lay_len _).1 hlay (to + i) W
    have hsz := (size_nonneg _).1 hlay
    obtain ⟨u1,h1⟩ := ih _ (List.getElem_mem hlt) u W (to + i) hlay (by omega) (by omega)
    obtain ⟨u',h2⟩ := ihj (i + 1) u1 (layT t.kids[i] (to + i) W) (by omega) (by omega) (by omega)
    rw [show to + (i + 1) = to + i + 1 from by omega] at h2
    have ei : IntKind.i64.wrap ((i : Int) + 1) = ((i + 1 : Nat) : Int) := i64_same (by omega) (by omega)
    have e1 : IntKind.i64.wrap ((to : Int) + i) = (to : Int) + i := i64_same (by omega) (by omega)
    refine ⟨u',fun H hH hA hq => ?_⟩
    refine loopC_once mixed l2_centoref12_Lay.eq_1 ?_
    simp [hA,hlt,e1]
    refine sc_fam 0 h1 hH (by simp) (by simp) ?_
    simp [ei]
    exact h2 _ (fun p => by simp) (by simp [hA]) hq
theorem rlay_l3 {t : T} {w k to : Nat} (hwk : ∀ c,c ∈ t.kids→c.words.length≤w) (hk : w + k≤131072) (hn : t.kids.length < 536870912) : ∀ (j i u : Nat) (W : List Int),i + j = t.kids.length→W.length + j * (w + k)≤200000 →
    ∃ u',∀ {n0 : Nat} {w0 : World} {I0 : Nat→Prop} {M0 : Nm→Nat→Prop} {m0 : Mu} {Q : Exit→Sta→Prop} (H : Hp),(∀ p,H (0 :: p) = (uvM u W).F 0 p)→H [1] = ⟨1,.cells (tL t)⟩ →
      (∀ q H',(∀ p,H' (0 :: p) = (uvM u' (W ++ rowsC w k (t.kids.drop i))).F 0 p)→H' [1] = ⟨1,.cells (tL t)⟩→Q (.exit 5) ⟨lk [(0,.osl [0] u' 1 0 (W ++ rowsC w k (t.kids.drop i)).length),(5,.pob [1] 1 0),(7,nv to),(10,nv w),(11,nv k),(12,nv t.kids.length),(13,nv t.kids.length),(160,bv q)],H'⟩) →
      LoopC (cxh Tryz.prog w0 I0 M0 n0 m0) l3_centoref12_Lay Q ⟨lk [(0,.osl [0] u 1 0 W.length),(5,.pob [1] 1 0),(7,nv to),(10,nv w),(11,nv k),(12,nv t.kids.length),(13,nv i)],H⟩ := by
  intro j
  induction j with
  | zero =>
    intro i u W hi hb
    have : i = t.kids.length := by omega
    subst this
    rw [List.drop_eq_nil_of_le (Nat.le_refl _)]
    refine ⟨u,fun H hH hA hq => ?_⟩
    refine loopC_once mixed l3_centoref12_Lay.eq_1 ?_
    simp only [rowsC,List.append_nil] at hq
    simp
    exact hq _ H hH hA
  | succ j ihj =>
    intro i u W hi hb
    have hlt : i < t.kids.length := by omega
    have hw := hwk _ (List.getElem_mem hlt)
    have hdr : t.kids.drop i = t.kids[i] :: t.kids.drop (i + 1) := List.drop_eq_getElem_cons hlt
    rw [Nat.add_mul,Nat.one_mul] at hb
    rw [hdr]
    simp only [rowsC]
    have hA1 := rAdd_spec (u + 1) (w + k - t.kids[i].words.length) (W ++ t.kids[i].words) (by simp; omega)
    obtain ⟨u',h2⟩ := ihj (i + 1) (u + 1 + (w + k - t.kids[i].words.length)) (W ++ t.kids[i].words ++ List.replicate (w + k - t.kids[i].words.length) 0) (by omega) (by simp; omega)
    have ei : IntKind.i64.wrap ((i : Int) + 1) = ((i + 1 : Nat) : Int) := i64_same (by omega) (by omega)
    have e1 : IntKind.i64.wrap ((w : Int) + k) = (w : Int) + k := i64_same (by omega) (by omega)
    have e2 : IntKind.i64.wrap ((w : Int) + k - t.kids[i].words.length) = ((w + k - t.kids[i].words.length : Nat) : Int) := (i64_same (by omega) (by omega)).trans (by omega)
    refine ⟨u',fun H hH hA hq => ?_⟩
    have h0 := hH []
    simp at h0
    refine loopC_once mixed l3_centoref12_Lay.eq_1 ?_
    have hle : (W.length + t.kids[i].words.length) * 8≤140737488355328 := by omega
    simp [hA,hlt,h0,e1,hle,updF_app]
    rw [e2]
    refine sc_fam 0 hA1 (fun p => ?_) (by simp) (by simp) ?_
    · by_cases hp : p = []
      · subst hp
        simp [updF_app,List.take_of_length_le]
      · simp [updF_app,hp,hH]
    simp [ei]
    simp only [← List.append_assoc] at hq
    rw [show W.length + t.kids[i].words.length + (w + k - t.kids[i].words.length) = (W ++ t.kids[i].words ++ List.replicate (w + k - t.kids[i].words.length) 0).length from by simp; omega,← List.append_assoc]
    exact h2 _ (fun p => by simp) (by simp [updF_app,hA]) hq
theorem rlay_l4 {t : T} {c : T} {x : Nat} (hx : x < t.kids.length) (hc : t.kids[x] = c) (ih : ∀ d,d ∈ c.kids→RL d) (hok : ∀ d,d ∈ c.kids→LayOk d) {w k to b : Nat} (hwk2 : w + k≤131072) (hb : b = to + 1 + x * (w + k) + w) (hb2 : b + c.kids.length≤200000) : ∀ (j i u : Nat) (W : List Int),i + j = c.kids.length→b + c.kids.length≤W.length→(W.length : Int) + sizeL (c.kids.drop i)≤200000 →
    ∃ u',∀ {n0 : Nat} {w0 : World} {I0 : Nat→Prop} {M0 : Nm→Nat→Prop} {m0 : Mu} {Q : Exit→Sta→Prop} (H : Hp),(∀ p,H (0 :: p) = (uvM u W).F 0 p)→H [1] = ⟨1,.cells (tL t)⟩ →
      (∀ q H',(∀ p,H' (0 :: p) = (uvM u' (layL (c.kids.drop i) (b + i) W)).F 0 p)→H' [1] = ⟨1,.cells (tL t)⟩→Q (.exit 9) ⟨lk [(0,.osl [0] u' 1 0 (layL (c.kids.drop i) (b + i) W).length),(5,.pob [1] 1 0),(7,nv to),(10,nv w),(11,nv k),(12,nv t.kids.length),(14,nv x),(15,nv c.kids.length),(197,bv q)],H'⟩) →
      LoopC (cxh Tryz.prog w0 I0 M0 n0 m0) l4_centoref12_Lay Q ⟨lk [(0,.osl [0] u 1 0 W.length),(5,.pob [1] 1 0),(7,nv to),(10,nv w),(11,nv k),(12,nv t.kids.length),(14,nv x),(15,nv i)],H⟩ := by
  subst hc
  intro j
  induction j with
  | zero =>
    intro i u W hi hbw hs
    have : i = t.kids[x].kids.length := by omega
    subst this
    rw [List.drop_eq_nil_of_le (Nat.le_refl _)]
    refine ⟨u,fun H hH hA hq => ?_⟩
    refine loopC_once mixed l4_centoref12_Lay.eq_1 ?_
    simp [hA,hx]
    simp only [layL_nil] at hq
    exact hq _ H hH hA
  | succ j ihj =>
    intro i u W hi hbw hs
    have hlt : i < t.kids[x].kids.length := by omega
    have hlay := hok _ (List.getElem_mem hlt)
    have hdr : t.kids[x].kids.drop i = t.kids[x].kids[i] :: t.kids[x].kids.drop (i + 1) := List.drop_eq_getElem_cons hlt
    have hrest := sizeL_nonneg (ts := t.kids[x].kids.drop (i + 1)) fun c hc => hok c (List.mem_of_mem_drop hc)
    rw [hdr,sizeL_cons] at hs
    rw [hdr]
    simp only [layL_cons]
    have hlen := (lay_len _).1 hlay (b + i) W
    have hsz := (size_nonneg _).1 hlay
    obtain ⟨u1,h1⟩ := ih _ (List.getElem_mem hlt) u W (b + i) hlay (by omega) (by omega)
    obtain ⟨u',h2⟩ := ihj (i + 1) u1 (layT t.kids[x].kids[i] (b + i) W) (by omega) (by omega) (by omega)
    rw [show b + (i + 1) = b + i + 1 from by omega] at h2
    have ei : IntKind.i64.wrap ((i : Int) + 1) = ((i + 1 : Nat) : Int) := i64_same (by omega) (by omega)
    have hprod : (x : Int) * ((w : Int) + k) = ((x * (w + k) : Nat) : Int) := by rw [Int.natCast_mul,Int.natCast_add]
    have e1 : IntKind.i64.wrap ((w : Int) + k) = (w : Int) + k := i64_same (by omega) (by omega)
    have e2 : IntKind.i64.wrap ((x : Int) * ((w : Int) + k)) = (x : Int) * ((w : Int) + k) := i64_same (by omega) (by omega)
    have e3 : IntKind.i64.wrap ((to : Int) + 1) = (to : Int) + 1 := i64_same (by omega) (by omega)
    have e4 : IntKind.i64.wrap ((to : Int) + 1 + (x : Int) * ((w : Int) + k)) = (to : Int) + 1 + (x : Int) * ((w : Int) + k) := i64_same (by omega) (by omega)
    have e5 : IntKind.i64.wrap ((to : Int) + 1 + (x : Int) * ((w : Int) + k) + w) = (b : Int) := (i64_same (by omega) (by omega)).trans (by omega)
    have e6 : IntKind.i64.wrap ((b : Int) + i) = (b : Int) + i := i64_same (by omega) (by omega)
    refine ⟨u',fun H hH hA hq => ?_⟩
    refine loopC_once mixed l4_centoref12_Lay.eq_1 ?_
    simp [hA,hx,hlt,e1,e2,e3,e4,e5,e6]
    refine sc_fam 0 h1 hH (by simp) (by simp) ?_
    simp [ei]
    exact h2 _ (fun p => by simp) (by simp [hA]) hq
theorem rlay_l5 {t : T} (hk2 : ∀ c,c ∈ t.kids→∀ d,d ∈ c.kids→RL d∧LayOk d) {w k to : Nat} (hwk : ∀ c,c ∈ t.kids→c.kids.length≤k) (hwk2 : w + k≤131072) (hn : t.kids.length < 536870912) (hto : to + 1 + t.kids.length * (w + k)≤200000) : ∀ (j i u : Nat) (W : List Int),i + j = t.kids.length→to + 1 + t.kids.length * (w + k)≤W.length→(W.length : Int) + sizeLL (t.kids.drop i)≤200000 →
    ∃ u',∀ {n0 : Nat} {w0 : World} {I0 : Nat→Prop} {M0 : Nm→Nat→Prop} {m0 : Mu} {Q : Exit→Sta→Prop} (H : Hp),(∀ p,H (0 :: p) = (uvM u W).F 0 p)→H [1] = ⟨1,.cells (tL t)⟩ →
      (∀ q H',(∀ p,H' (0 :: p) = (uvM u' (layC w k (t.kids.drop i) (to + 1 + i * (w + k)) W)).F 0 p)→Q (.exit 7) ⟨lk [(0,.osl [0] u' 1 0 (layC w k (t.kids.drop i) (to + 1 + i * (w + k)) W).length),(5,.pob [1] 1 0),(7,nv to),(10,nv w),(11,nv k),(12,nv t.kids.length),(14,nv t.kids.length),(186,bv q)],H'⟩) →
      LoopC (cxh Tryz.prog w0 I0 M0 n0 m0) l5_centoref12_Lay Q ⟨lk [(0,.osl [0] u 1 0 W.length),(5,.pob [1] 1 0),(7,nv to),(10,nv w),(11,nv k),(12,nv t.kids.length),(14,nv i)],H⟩ := by
  intro j
  induction j with
  | zero =>
    intro i u W hi hbw hs
    have : i = t.kids.length := by omega
    subst this
    rw [List.drop_eq_nil_of_le (Nat.le_refl _)]
    refine ⟨u,fun H hH hA hq => ?_⟩
    refine loopC_once mixed l5_centoref12_Lay.eq_1 ?_
    simp only [layC_nil] at hq
    simp
    exact hq _ H hH
  | succ j ihj =>
    intro i u W hi hbw hs
    have hlt : i < t.kids.length := by omega
    have hdr : t.kids.drop i = t.kids[i] :: t.kids.drop (i + 1) := List.drop_eq_getElem_cons hlt
    have hc := hk2 _ (List.getElem_mem hlt)
    have hkl := hwk _ (List.getElem_mem hlt)
    have hmul : (i + 1) * (w + k)≤t.kids.length * (w + k) := Nat.mul_le_mul_right _ (by omega)
    have hmul2 : (i + 1) * (w + k) = i * (w + k) + (w + k) := by rw [Nat.add_mul,Nat.one_mul]
    have hrest : 0≤sizeLL (t.kids.drop (i + 1)) := sizeLL_nonneg fun c hc d hd => (hk2 c (List.mem_of_mem_drop hc) d hd).2
    have hsz := sizeL_nonneg fun d hd => (hc d hd).2
    have hlen := layL_len (fun d hd => (hc d hd).2) (to + 1 + i * (w + k) + w) W
    rw [hdr,sizeLL_cons] at hs
    rw [hdr]
    simp only [layC_cons]
    obtain ⟨u1,h1⟩ := rlay_l4 (w := w) (k := k) (to := to) (b := to + 1 + i * (w + k) + w) hlt rfl (fun d hd => (hc d hd).1) (fun d hd => (hc d hd).2) hwk2 rfl (by omega) t.kids[i].kids.length 0 u W (by omega) (by omega) (by simpa using (by omega))
    rw [List.drop_zero,Nat.add_zero] at h1
    obtain ⟨u',h2⟩ := ihj (i + 1) u1 (layL t.kids[i].kids (to + 1 + i * (w + k) + w) W) (by omega) (by omega) (by omega)
    rw [show to + 1 + (i + 1) * (w + k) = to + 1 + i * (w + k) + (w + k) from by omega] at h2
    have ei : IntKind.i64.wrap ((i : Int) + 1) = ((i + 1 : Nat) : Int) := i64_same (by omega) (by omega)
    refine ⟨u',fun H hH hA hq => ?_⟩
    refine loopC_once mixed l5_centoref12_Lay.eq_1 ?_
    simp [hlt]
    refine h1 H hH hA (fun q H' hH' hA' => ?_)
    simp [ei]
    exact h2 H' hH' hA' hq
theorem famA_tX' (t : T) : FamA (fun _ => tX t) := famA_bare rfl fun y hy => by
  simp at hy
  rcases hy with rfl | rfl | rfl <;> rfl
theorem rLay_all : ∀ t : T,RL t∧∀ c,c ∈ t.kids→RL c := by
  refine T.ind fun k w ks ih => ?_
  refine ⟨?_,fun c hc => (ih c hc).1⟩
  intro u W a hok ha hsz
  have args := famL_cons (famA_osl (u := u) (sz := 1) (off := 0) (len := W.length) (q := [])) (famL_cons (famA_v (x := .int .i64 (a : Int))) (famL_cons (famA_tX' (.mk k w ks)) famL_nil))
  have hset : ∀ x : Int,∀ p,updF ((uvM u W).F 0) [] ⟨u,.arr 1 ((W.map uv).set a (uv x))⟩ p = (uvM u (W.set a x)).F 0 p := fun x p => by
    by_cases hp : p = []
    · subst hp; simp [updF_app,List.map_set]
    · simp [updF_app,hp]
  have hsz0 := (size_nonneg _).1 hok
  cases hok with
  | null =>
    have hl : layT (.mk 0 w []) a W = W := by rw [layT_mk,if_pos rfl]
    rw [hl]
    refine ⟨u,specF_of t_centoref12_Lay (by simp) args famA_osl fun w0 I0 M0 m0 => ?_⟩
    unfold c_centoref12_Lay
    simp
    exact reth_fam rfl rfl fun p => by simp
  | str w ks b1 b2 hk =>
    rw [sizeT_mk,if_pos rfl] at hsz
    have hkn := sizeL_nonneg hk
    have e1 : IntKind.u64.wrap (ks.length : Int) = ks.length := u64_same (by omega) (by omega)
    have e2 : IntKind.u64.wrap (65536 * (ks.length : Int)) = 65536 * ks.length := u64_same (by omega) (by omega)
    have e3 : IntKind.u64.wrap (w.length : Int) = w.length := u64_same (by omega) (by omega)
    have e4 : IntKind.u64.wrap ((w.length : Int) + 65536 * ks.length) = w.length + 65536 * ks.length := u64_same (by omega) (by omega)
    have e5 : IntKind.i64.wrap ((w.length : Int) + ks.length) = (w.length : Int) + ks.length := i64_same (by omega) (by omega)
    have hz' : ((w.length : Int) + ks.length = 0) = (w.length + ks.length = 0) := by rw [eq_iff_iff]; omega
    have hle : (W.length + w.length) * 8≤140737488355328 := by omega
    obtain ⟨to,hto⟩ : ∃ to : Nat,to = if w.length + ks.length = 0 then a else W.length := ⟨_,rfl⟩
    have hP := rPointer_spec (a := a) (b := to) (k := 0) (u := (w.length : Int) + 65536 * ks.length) (by omega) (by omega) (by omega) (by split at hto <;> omega) (by omega) (by omega) (by omega) (by omega)
    obtain ⟨P,hPP⟩ : ∃ P : Int,P = ptrZ a to 0 ((w.length : Int) + 65536 * ks.length) := ⟨_,rfl⟩
    rw [← hPP] at hP
    have hAdd := rAdd_spec (u + 1) ks.length (W.set a P ++ w) (by simp; omega)
    obtain ⟨u',hL⟩ := rlay_l1 (t := .mk 1 w ks) (fun c hc => (ih c hc).1) hk (to := to) (by simp; split at hto <;> omega) ks.length 0 (u + 1 + ks.length) (W.set a P ++ w ++ List.replicate ks.length 0) (by simp) (by simp; split at hto <;> omega) (by simp; omega)
    have hl : layT (.mk 1 w ks) a W = layL ks (to + w.length) (W.set a P ++ w ++ List.replicate ks.length 0) := by
      rw [layT_mk,if_neg (by decide),if_pos rfl,hPP]
      by_cases hz : w.length + ks.length = 0
      · have : ks = [] := List.eq_nil_of_length_eq_zero (by omega)
        subst this
        rw [if_pos hz] at hto
        subst hto
        rw [if_pos hz]
        simp
      · rw [if_neg hz] at hto
        subst hto
        rw [if_neg hz]
    simp only [T.kids_mk,T.words_mk,List.drop_zero,Nat.add_zero] at hL
    obtain ⟨R,hR⟩ : ∃ R,R = layL ks (to + w.length) (W.set a P ++ w ++ List.replicate ks.length 0) := ⟨_,rfl⟩
    rw [hl,← hR]
    rw [← hR] at hL
    have hset2 : ∀ p,updF ((uvM u W).F 0) [] ⟨u + 1,.arr 1 (List.take W.length ((W.map uv).set a (uv P)) ++ w.map uv)⟩ p = (uvM (u + 1) (W.set a P ++ w)).F 0 p := fun p => by
      by_cases hp : p = []
      · subst hp; simp [updF_app,List.map_set,List.take_of_length_le]
      · simp [updF_app,hp]
    refine ⟨u',specF_of t_centoref12_Lay (by simp) args famA_osl fun w0 I0 M0 m0 => ?_⟩
    unfold c_centoref12_Lay
    have fin : ∀ Q : Exit→Sta→Prop,(∀ H',(∀ p,H' (0 :: p) = (uvM u' R).F 0 p)→Q .ret ⟨lk [(6,.osl [0] u' 1 0 R.length)],H'⟩)→WPC (cxh Tryz.prog w0 I0 M0 252 m0) k1_centoref12_Lay Q ⟨lk [(0,.osl [0] u 1 0 W.length),(1,nv a),(5,.pob [1] 1 0),(7,nv to)],ov 0 ((uvM u W).F 0) (lkH [([1],⟨1,.cells [iv 1,uws w,tKs ks]⟩)])⟩ := fun Q hQ => by
      unfold k1_centoref12_Lay
      simp [e1,e2,e3,e4]
      refine sc_call hP (by simp) ?_
      simp [ha,hle,updF_app]
      refine sc_fam 0 hAdd (fun p => hset2 p) (by simp) (by simp) ?_
      simp only [List.length_append,List.length_set]
      simp
      rw [show W.length + w.length + ks.length = (W.set a P ++ w ++ List.replicate ks.length 0).length from by simp; omega,← List.append_assoc]
      refine hL _ (fun p => by simp) (by simp) (fun q H' hH => ?_)
      simp
      exact hQ H' hH
    have e00 : IntKind.i64.wrap 0 = 0 := by decide
    by_cases hz : w.length + ks.length = 0
    · rw [if_pos hz] at hto
      subst hto
      have : ks = [] := List.eq_nil_of_length_eq_zero (by omega)
      subst this
      have : w = [] := List.eq_nil_of_length_eq_zero (by omega)
      subst this
      simp [e00]
      exact fin _ fun H' hH => reth_fam rfl rfl hH
    · rw [if_neg hz] at hto
      subst hto
      have hz2 : ¬ ((w.length : Int) + ks.length = 0) := by omega
      simp [e5,hz2]
      exact fin _ fun H' hH => reth_fam rfl rfl hH
  | ptrs w ks b1 hk =>
    rw [sizeT_mk,if_neg (by decide),if_pos rfl] at hsz
    have hkn := sizeL_nonneg hk
    have hP := rPointer_spec (a := a) (b := W.length) (k := 1) (u := 6 + 8 * (ks.length : Int)) (by omega) (by omega) (by omega) (by omega) (by omega) (by omega) (by omega) (by omega)
    have hAdd := rAdd_spec u ks.length (W.set a (ptrZ a W.length 1 (6 + 8 * (ks.length : Int)))) (by simp; omega)
    obtain ⟨u',hL⟩ := rlay_l2 (t := .mk 8 w ks) (fun c hc => (ih c hc).1) hk (to := W.length) (by simp; omega) ks.length 0 (u + ks.length) (W.set a (ptrZ a W.length 1 (6 + 8 * (ks.length : Int))) ++ List.replicate ks.length 0) (by simp) (by simp) (by simp; omega)
    have hl : layT (.mk 8 w ks) a W = layL ks W.length (W.set a (ptrZ a W.length 1 (6 + 8 * (ks.length : Int))) ++ List.replicate ks.length 0) := by rw [layT_mk,if_neg (by decide),if_neg (by decide),if_pos rfl]
    rw [hl]
    simp only [T.kids_mk,List.drop_zero,Nat.add_zero] at hL
    have e1 : IntKind.u64.wrap (ks.length : Int) = ks.length := u64_same (by omega) (by omega)
    have e2 : IntKind.u64.wrap (8 * (ks.length : Int)) = 8 * ks.length := u64_same (by omega) (by omega)
    have e3 : IntKind.u64.wrap (6 + 8 * (ks.length : Int)) = 6 + 8 * ks.length := u64_same (by omega) (by omega)
    refine ⟨u',specF_of t_centoref12_Lay (by simp) args famA_osl fun w0 I0 M0 m0 => ?_⟩
    unfold c_centoref12_Lay
    simp [e1,e2,e3]
    refine sc_call hP (by simp) ?_
    simp [ha]
    refine sc_fam 0 hAdd (fun p => hset _ p) (by simp) (by simp) ?_
    simp
    rw [show W.length + ks.length = (W.set a (ptrZ a W.length 1 (6 + 8 * (ks.length : Int))) ++ List.replicate ks.length 0).length from by simp]
    refine hL _ (fun p => by simp) (by simp) (fun q H' hH => ?_)
    simp
    exact reth_fam rfl rfl hH
  | comp w ks b1 b2 hk =>
    rw [sizeT_mk,if_neg (by decide),if_neg (by decide),if_neg (by decide),if_pos rfl] at hsz
    have hkn := sizeLL_nonneg hk
    obtain ⟨hb3,hb4⟩ := frame_bound (ts := ks) (w := 65535) (k := 65535) fun c hc => by have := b2 c hc; omega
    have hfw : ∀ c,c ∈ ks→c.words.length≤frameW ks := fun c hc => frameW_le hc
    have hfk : ∀ c,c ∈ ks→c.kids.length≤frameK ks := fun c hc => frameK_le hc
    have hfr := rFrame_spec (.mk 9 w ks) (by simp; omega)
    simp only [T.kids_mk] at hfr
    have hl : layT (.mk 9 w ks) a W = layC (frameW ks) (frameK ks) ks (W.length + 1) (W.set a (ptrZ a W.length 1 (7 + 8 * (ks.length * (frameW ks + frameK ks) : Nat))) ++ [4 * (ks.length : Int) + 4294967296 * ((frameW ks : Int) + 65536 * frameK ks)] ++ rowsC (frameW ks) (frameK ks) ks) := by
      rw [layT_mk,if_neg (by decide),if_neg (by decide),if_neg (by decide),if_pos rfl]
    rw [hl]
    have hrl := rowsC_length (w := frameW ks) (k := frameK ks) ks fun c hc => by have := hfw c hc; omega
    have hcast : (ks.length : Int) * ((frameW ks : Int) + frameK ks) = ((ks.length * (frameW ks + frameK ks) : Nat) : Int) := by rw [Int.natCast_mul,Int.natCast_add]
    rw [hcast] at hsz
    clear hl
    generalize frameW ks = fw at *
    generalize frameK ks = fk at *
    have hP := rPointer_spec (a := a) (b := W.length) (k := 1) (u := 7 + 8 * ((ks.length * (fw + fk) : Nat) : Int)) (by omega) (by omega) (by omega) (by omega) (by omega) (by omega) (by omega) (by omega)
    obtain ⟨P,hPP⟩ : ∃ P : Int,P = ptrZ a W.length 1 (7 + 8 * ((ks.length * (fw + fk) : Nat) : Int)) := ⟨_,rfl⟩
    rw [← hPP] at hP ⊢
    obtain ⟨u1,h3⟩ := rlay_l3 (t := .mk 9 w ks) (w := fw) (k := fk) (to := W.length) hfw (by omega) b1 ks.length 0 (u + 1) (W.set a P ++ [4 * (ks.length : Int) + 4294967296 * ((fw : Int) + 65536 * fk)]) (by simp) (by simp; omega)
    obtain ⟨u2,h5⟩ := rlay_l5 (t := .mk 9 w ks) (w := fw) (k := fk) (to := W.length) (fun c hc d hd => ⟨(ih c hc).2 d hd,hk c hc d hd⟩) hfk (by omega) b1 (by simp; omega) ks.length 0 u1 (W.set a P ++ [4 * (ks.length : Int) + 4294967296 * ((fw : Int) + 65536 * fk)] ++ rowsC fw fk ks) (by simp) (by simp [hrl]; omega) (by simp [hrl]; omega)
    simp only [T.kids_mk,List.drop_zero,Nat.zero_mul,Nat.add_zero] at h3 h5
    generalize hN : ks.length * (fw + fk) = N at *
    have e1 : IntKind.i64.wrap ((fw : Int) + fk) = (fw : Int) + fk := i64_same (by omega) (by omega)
    have e2 : IntKind.i64.wrap ((ks.length : Int) * ((fw : Int) + fk)) = (N : Int) := by rw [hcast]; exact i64_same (by omega) (by omega)
    have e3 : IntKind.u64.wrap (N : Int) = N := u64_same (by omega) (by omega)
    have e4 : IntKind.u64.wrap (8 * (N : Int)) = 8 * N := u64_same (by omega) (by omega)
    have e5 : IntKind.u64.wrap (7 + 8 * (N : Int)) = 7 + 8 * N := u64_same (by omega) (by omega)
    have f1 : IntKind.u64.wrap (fw : Int) = fw := u64_same (by omega) (by omega)
    have f2 : IntKind.u64.wrap (fk : Int) = fk := u64_same (by omega) (by omega)
    have f3 : IntKind.u64.wrap (65536 * (fk : Int)) = 65536 * fk := u64_same (by omega) (by omega)
    have f4 : IntKind.u64.wrap ((fw : Int) + 65536 * fk) = fw + 65536 * fk := u64_same (by omega) (by omega)
    have f5 : IntKind.u64.wrap (4294967296 * ((fw : Int) + 65536 * fk)) = 4294967296 * (fw + 65536 * fk) := u64_same (by omega) (by omega)
    have f6 : IntKind.i64.wrap (4 * (ks.length : Int)) = 4 * ks.length := i64_same (by omega) (by omega)
    have f7 : IntKind.u64.wrap (4 * (ks.length : Int)) = 4 * ks.length := u64_same (by omega) (by omega)
    have f8 : IntKind.u64.wrap (4 * (ks.length : Int) + 4294967296 * (fw + 65536 * fk)) = 4 * ks.length + 4294967296 * (fw + 65536 * fk) := u64_same (by omega) (by omega)
    obtain ⟨Y,hY⟩ : ∃ Y,Y = W.set a P ++ [4 * (ks.length : Int) + 4294967296 * ((fw : Int) + 65536 * fk)] := ⟨_,rfl⟩
    rw [← hY] at h3 h5 ⊢
    have hYl : Y.length = W.length + 1 := by rw [hY]; simp
    have hset3 : ∀ p,updF ((uvM u W).F 0) [] ⟨u + 1,.arr 1 (List.take W.length ((W.map uv).set a (uv P)) ++ [uv (4 * (ks.length : Int) + 4294967296 * ((fw : Int) + 65536 * fk))])⟩ p = (uvM (u + 1) Y).F 0 p := fun p => by
      subst hY
      by_cases hp : p = []
      · subst hp; simp [updF_app,List.map_set,List.take_of_length_le]
      · simp [updF_app,hp]
    clear hY
    generalize Y ++ rowsC fw fk ks = X at h3 h5 ⊢
    generalize layC fw fk ks (W.length + 1) X = R at h5 ⊢
    have hle : (W.length + 1) * 8≤140737488355328 := by omega
    refine ⟨u2,specF_of t_centoref12_Lay (by simp) args famA_osl fun w0 I0 M0 m0 => ?_⟩
    unfold c_centoref12_Lay
    simp
    refine sc_call hfr (by simp) ?_
    simp [e1,e2,e3,e4,e5]
    refine sc_call hP (by simp) ?_
    simp [ha,updF_app,f1,f2,f3,f4,f5,f6,f7,f8,hle]
    rw [← hYl]
    refine h3 _ (fun p => hset3 p) (by simp) (fun q H' hH hA => ?_)
    simp
    refine h5 H' hH hA (fun q H2 hH2 => ?_)
    simp
    exact reth_fam rfl rfl hH2
  | data k w ks h1 h2 b1 b2 =>
    rw [sizeT_mk,if_neg (by omega),if_neg (by omega),if_pos ⟨h1,h2⟩] at hsz
    have hwd : ∀ c,c ∈ ks→c.words = [hd c] := fun c hc => by
      obtain ⟨x,hx,_⟩ := b2 c hc
      simp [hx,hd]
    have hfit : ∀ x,x ∈ ks.map hd→u64R x∧fitsZ (k - 2) x = true := fun x hx => by
      obtain ⟨c,hc,rfl⟩ := List.mem_map.1 hx
      obtain ⟨x,hx,q1,q2,q3⟩ := b2 c hc
      have : hd c = x := by simp [hx,hd]
      rw [this]
      exact ⟨⟨q1,q2⟩,q3⟩
    have hrn := roomZ_nonneg (k - 2) ks.length
    have hAt := rAtoms_spec (t := .mk k w ks) (by simp; omega) hwd
    have hPu := rPut_spec (c := k - 2) (by omega) (by omega) (ns := ks.map hd) (by simp; omega) hfit
    have hP := rPointer_spec (a := a) (b := W.length) (k := 1) (u := k - 2 + 8 * (ks.length : Int)) (by omega) (by omega) (by omega) (by omega) (by omega) (by omega) (by omega) (by omega)
    have hl : layT (.mk k w ks) a W = W.set a (ptrZ a W.length 1 (k - 2 + 8 * (ks.length : Int))) ++ putZ (k - 2) (ks.map hd) := by
      rw [layT_mk,if_neg (by omega),if_neg (by omega),if_neg (by omega),if_neg (by omega)]
    have hpl : (putZ (k - 2) (ks.map hd)).length = (roomZ (k - 2) ks.length).toNat := by simp
    rw [hl]
    obtain ⟨P,hPP⟩ : ∃ P : Int,P = ptrZ a W.length 1 (k - 2 + 8 * (ks.length : Int)) := ⟨_,rfl⟩
    rw [← hPP] at hP ⊢
    simp only [T.kids_mk] at hAt
    generalize putZ (k - 2) (ks.map hd) = Z at hPu hpl ⊢
    have e1 : IntKind.i64.wrap (k - 2) = k - 2 := i64_same (by omega) (by omega)
    have e2 : IntKind.u64.wrap (ks.length : Int) = ks.length := u64_same (by omega) (by omega)
    have e3 : IntKind.u64.wrap (8 * (ks.length : Int)) = 8 * ks.length := u64_same (by omega) (by omega)
    have e4 : IntKind.u64.wrap (k - 2) = k - 2 := u64_same (by omega) (by omega)
    have e5 : IntKind.u64.wrap (k - 2 + 8 * (ks.length : Int)) = k - 2 + 8 * ks.length := u64_same (by omega) (by omega)
    have n0 : ¬ k = 0 := by omega
    have n1 : ¬ k = 1 := by omega
    have n8 : ¬ k = 8 := by omega
    have n9 : ¬ k = 9 := by omega
    have hle : (W.length + Z.length) * 8≤140737488355328 := by omega
    refine ⟨u + 1,specF_of t_centoref12_Lay (by simp) args famA_osl fun w0 I0 M0 m0 => ?_⟩
    unfold c_centoref12_Lay
    simp [n0,n1,n8,n9]
    refine sc_call hAt (by simp) ?_
    simp [e1]
    refine sc_call hPu (by simp) ?_
    simp [e1,e2,e3,e4,e5]
    refine sc_call hP (by simp) ?_
    simp [ha,updF_app,hle]
    refine reth_fam rfl (by simp) fun p => ?_
    by_cases hp : p = []
    · subst hp; simp [updF_app,List.map_set,List.take_of_length_le]
    · simp [updF_app,hp]
theorem rLay_spec {t : T} (hok : LayOk t) {W : List Int} {a u : Nat} (ha : a < W.length) (hs : (W.length : Int) + sizeT t≤200000) : ∃ u',SpecF Tryz.prog 81 (fun r => [.osl [r] u 1 0 W.length,nv a,tX t]) (uvM u W) (fun r => .osl [r] u' 1 0 (layT t a W).length) (uvM u' (layT t a W)) := (rLay_all t).1 u W a hok ha hs
end Go.Proofs.YthfiijdbnkaabaaGreat

namespace Go.Proofs.YthfiijdbnkaabaaGreat
set_option linter.unusedVariables false
set_option linter.unusedSimpArgs false
open Go Go.G Go.Proofs Go.PL
def sgT (g : T→Int) : List T→Int
  | [] => 0
  | t :: l => g t + sgT g l
theorem sgT_size : ∀ l : List T,sgT (fun t => sizeT (norm t)) l = sizeL (l.map norm)
  | [] => by simp [sgT]
  | t :: l => by simp [sgT,sgT_size l]
theorem sgT_kids : ∀ l : List T,sgT (fun t => sizeL (norm t).kids) l = sizeLL (l.map norm)
  | [] => by simp [sgT]
  | t :: l => by simp [sgT,sgT_kids l]
theorem loopM_sum {f : Nat→Int→T × Int × Int} {B : Int} {g : T→Int} (hf : ∀ (i : Nat) lf,0≤lf→lf≤B→0≤(f i lf).2.1∧(f i lf).2.1≤B) : ∀ {m i : Nat} {acc : List T} {left : Int},(∀ (j : Nat) lf,j < i + m→0≤lf→lf≤B→(f j lf).2.2 = 0→g (f j lf).1 + (f j lf).2.1≤lf)→0≤left→left≤B→(loopM f m i acc left).2.2 = 0 →
    ∃ ks : List T,(loopM f m i acc left).1 = acc ++ ks∧sgT g ks + (loopM f m i acc left).2.1≤left
  | 0,i,acc,left,_,_,_,h => ⟨[],by simp [loopM],by simp [loopM,sgT]⟩
  | m + 1,i,acc,left,hg,l0,l1,h => by
    rw [loopM] at h ⊢
    by_cases h0 : (f i left).2.2 ≠ 0
    · rw [if_pos h0] at h; exact absurd h h0
    · rw [if_neg h0] at h ⊢
      obtain ⟨b0,b1⟩ := hf i left l0 l1
      have h1 := hg i left (by omega) l0 l1 (by simpa using h0)
      obtain ⟨ks,e1,e2⟩ := loopM_sum (g := g) hf (fun j lf hj => hg j lf (by omega)) b0 b1 h
      refine ⟨(f i left).1 :: ks,by rw [e1]; simp,?_⟩
      simp only [sgT]
      omega
def SZ (l : List (List Int)) (rec : Rf→Int→T × Int × Int) : Prop := ∀ x left,RfOk l x→x.kind ≠ 10→0≤left→left≤65536→(rec x left).2.2 = 0→sizeT (norm (rec x left).1) + (rec x left).2.1≤left
theorem stepM_at {l : List (List Int)} {rec : Rf→Int→T × Int × Int} {r : Rf} {i : Nat} {lf : Int} (h : (stepM l rec r i lf).2.2 = 0) : stepM l rec r i lf = rec (kidP l r i).1 lf := by
  unfold stepM at h ⊢
  by_cases h0 : (kidP l r i).2 ≠ 0
  · rw [if_pos h0] at h; exact absurd h h0
  · rw [if_neg h0]
theorem sizeL_take {ts : List T} (h : ∀ u,u ∈ ts→LayOk u) (n : Nat) : sizeL (ts.take n)≤sizeL ts := by
  have e : sizeL ts = sizeL (ts.take n) + sizeL (ts.drop n) := by rw [← sizeL_append,List.take_append_drop]
  have := sizeL_nonneg (ts := ts.drop n) fun u hu => h u (List.mem_of_mem_drop hu)
  omega
theorem means_kidsL {l : List (List Int)} (hs : Sg l) {r : Rf} {t : T} (hm : Means l r t) (hk : t.kind = 1∨t.kind = 8) : ∀ u,u ∈ t.kids.map norm→LayOk u := by
  have := kids_lay hs hm hk t.kids.length 0
  simpa using this
theorem kidsM_size {l : List (List Int)} (hs : Sg l) {s a d k : Int} (hr : RfOk l ⟨1,s,a,d,k,0,0⟩) {rec2 : Rf→Int→T × Int × Int} (b2 : LB l 65536 rec2) (h2 : SZ l rec2) (hM : ∀ x left,RfOk l x→(rec2 x left).2.2 = 0→Means l x (rec2 x left).1) {lf : Int} (q0 : 0≤lf) (q1 : lf≤65536) (h : (kidsM l rec2 ⟨1,s,a,d,k,0,0⟩ lf).2.2 = 0) :
    sizeL (norm (kidsM l rec2 ⟨1,s,a,d,k,0,0⟩ lf).1).kids + (kidsM l rec2 ⟨1,s,a,d,k,0,0⟩ lf).2.1≤lf := by
  have hw := hs.w
  unfold kidsM at h ⊢
  have hm := loop_means hw hr (k := 1) (fun j lf' hj hq' => hM _ _ (kid_ok hw hr _) hq') rfl h
  obtain ⟨ks,e1,e2⟩ := loopM_sum (B := 65536) (g := fun t => sizeT (norm t)) (fun i lf => stepM_lb hw b2 hr i lf) (fun j lf' hj p0 p1 hq => by
    have hst := stepM_at hq; rw [hst] at hq ⊢
    exact h2 _ _ (kid_ok hw hr j) (kid_kind (.inl rfl) j) p0 p1 hq) q0 q1 h
  change Means l _ (.mk 1 _ (loopM (stepM l rec2 _) k.toNat 0 [] lf).1) at hm
  simp only at e1 e2 ⊢
  rw [e1] at hm ⊢
  simp only [List.nil_append] at hm ⊢
  have hk := means_kidsL hs hm (.inl rfl)
  simp only [T.kids_mk] at hk
  rw [norm_struct rfl,T.kids_mk,T.kids_mk,trimK_take]
  have := sizeL_take hk (trimK (ks.map norm)).length
  rw [sgT_size] at e2
  omega
theorem rest_size {l : List (List Int)} (hs : Sg l) {r : Rf} (hr : RfOk l r) (h0 : r.kind ≠ 0) (h10 : r.kind ≠ 10) {rec1 rec2 : Rf→Int→T × Int × Int} (b1 : LB l 65536 rec1) (b2 : LB l 65536 rec2) (h1 : SZ l rec1)
    (h2 : r.kind = 9→0 < r.count→SZ l rec2∧∀ x left,RfOk l x→(rec2 x left).2.2 = 0→Means l x (rec2 x left).1) {left : Int} (hl : left≤65536) (hc : ¬ left < costM r) (hm : Means l r (restM l r rec1 rec2 left).1) (h : (restM l r rec1 rec2 left).2.2 = 0) : sizeT (norm (restM l r rec1 rec2 left).1) + (restM l r rec1 rec2 left).2.1≤left := by
  have hw := hs.w
  have hnn := nk_nonneg hr
  have hb := rf_kind hr
  have hcost := costM_nonneg hr
  have hwl := wordsR_len hr h10
  have hnk := means_nk hm
  unfold restM at h hm hnk ⊢
  by_cases h9 : r.kind = 9
  · simp only [if_pos h9] at h hm hnk ⊢
    have hkc : nk r = r.count := by simp [nk,h9]
    obtain ⟨ks,e1,e2⟩ := loopM_sum (B := 65536) (g := fun t => sizeL (norm t).kids) (fun i lf => stepM_lb hw (kidsM_lb hw b2) hr i lf) (fun j lf hj q0 q1 hq => by
      have hst := stepM_at hq; rw [hst] at hq ⊢
      have hj' : (j : Int) < nk r := by omega
      have hok := kid_ok hw hr (j : Int)
      have hkid : kidP l r j = (⟨1,r.s,r.at_ + j * (r.data + r.kids),r.data,r.kids,0,0⟩,0) := by
        rw [kidP,if_neg (by omega),if_neg (by omega),if_neg (by omega),if_pos h9]
      rw [hkid] at hq hok ⊢
      obtain ⟨z1,z2⟩ := h2 h9 (by omega)
      exact kidsM_size hs hok b2 z1 z2 q0 q1 hq) (by omega) (by omega) h
    rw [e1] at hm hnk ⊢
    simp only [List.nil_append,T.kids_mk] at hm hnk ⊢
    rw [h9] at hm ⊢
    rw [norm_mk,if_neg (by decide),if_neg (by decide),sizeT_mk,if_neg (by decide),if_neg (by decide),if_neg (by decide),if_pos rfl,List.length_map]
    rw [sgT_kids] at e2
    have hd : 0≤r.data∧0≤r.kids := by cases hr <;> simp [Rf.zero] at h9 ⊢ <;> omega
    obtain ⟨f1,f2⟩ := frame_bound (ts := ks.map norm) (w := r.data.toNat) (k := r.kids.toNat) fun u hu => by
      obtain ⟨v,hv,rfl⟩ := List.mem_map.1 hu
      obtain ⟨i,hi,rfl⟩ := List.mem_iff_getElem.1 hv
      have kk := (means_kid hm (i := i) (by simpa using hi)).2
      simp only [T.kids_mk] at kk
      have hkid : kidP l r i = (⟨1,r.s,r.at_ + i * (r.data + r.kids),r.data,r.kids,0,0⟩,0) := by
        rw [kidP,if_neg (by omega),if_neg (by omega),if_neg (by omega),if_pos h9]
      rw [hkid] at kk
      obtain ⟨l1,l2⟩ := norm_w_len kk
      have g1 := (means_word kk).1
      have g2 := means_nk kk
      simp [nwR,nk] at g1 g2
      have := nW_le ks[i]
      have := nK_le ks[i]
      omega
    have hcm : costM r = 1 + r.count * (1 + r.data + r.kids) := by simp [costM,h9]
    have hmul : (ks.length : Int) * ((frameW (ks.map norm) : Int) + frameK (ks.map norm))≤r.count * (1 + r.data + r.kids) := by
      rw [← hnk,hkc]
      exact Int.mul_le_mul_of_nonneg_left (by omega) (by omega)
    omega
  · by_cases h18 : r.kind = 1∨r.kind = 8
    · simp only [if_neg h9,if_pos h18] at h hm hnk ⊢
      obtain ⟨ks,e1,e2⟩ := loopM_sum (B := 65536) (g := fun t => sizeT (norm t)) (fun i lf => stepM_lb hw b1 hr i lf) (fun j lf hj q0 q1 hq => by
        have hst := stepM_at hq; rw [hst] at hq ⊢
        exact h1 _ _ (kid_ok hw hr j) (kid_kind h18 j) q0 q1 hq) (by omega) (by omega) h
      rw [e1] at hm hnk ⊢
      simp only [List.nil_append,T.kids_mk] at hm hnk ⊢
      have hkL := means_kidsL hs hm (by simpa using h18)
      simp only [T.kids_mk] at hkL
      rw [sgT_size] at e2
      rcases h18 with h18 | h18
      · rw [h18] at hm ⊢
        rw [if_pos h18] at hwl
        have hcm : costM r = 1 + r.data + r.kids := by simp [costM,h18]
        have hkk : nk r = r.kids := by simp [nk,h18]
        have hd0 : 0≤r.data := by cases hr <;> simp [Rf.zero] at h18 ⊢ <;> omega
        rw [norm_struct rfl,T.kids_mk,T.words_mk,sizeT_mk,if_pos rfl]
        have t1 := trimW_le (wordsR l r)
        have t2 := trimK_le (ks.map norm)
        rw [List.length_map] at t2
        have t3 := sizeL_take hkL (trimK (ks.map norm)).length
        rw [← trimK_take] at t3
        omega
      · rw [h18] at hm ⊢
        have hcm : costM r = 1 + nk r := by simp [costM,h18]
        rw [norm_mk,if_neg (by decide),if_neg (by decide),sizeT_mk,if_neg (by decide),if_pos rfl,List.length_map]
        omega
    · simp only [if_neg h9,if_neg h18] at h hm hnk ⊢
      obtain ⟨ks,e1,e2⟩ := loopM_sum (B := 65536) (g := fun _ => 0) (fun i lf => stepM_lb hw leafM_lb hr i lf) (fun j lf hj q0 q1 hq => by
        rw [stepM_at hq]
        simp [leafM]) (by omega) (by omega) h
      rw [e1] at hm hnk ⊢
      simp only [List.nil_append,T.kids_mk] at hm hnk ⊢
      have hz : ∀ L : List T,sgT (fun _ => 0) L = 0 := fun L => by
        induction L with
        | nil => rfl
        | cons t L ih => simp [sgT,ih]
      rw [hz] at e2
      have hcm : costM r = 1 + nk r := by rw [costM,if_neg (by omega),if_neg (by omega)]
      have hk2 : 2≤r.kind∧r.kind≤7 := by
        clear h hm hnk e1
        omega
      rw [norm_mk,if_neg (by omega),if_neg (by omega),sizeT_mk,if_neg (by omega),if_neg (by omega),if_pos hk2,List.length_map]
      have hroom : roomZ (r.kind - 2) ks.length≤ks.length := by
        unfold roomZ
        split
        · omega
        · obtain ⟨w,_,w2,w3⟩ : ∃ w : Nat,widthZ (r.kind - 2) = w∧bitsZ (r.kind - 2) = w∧w≤64 := by
            have : r.kind - 2 = 0∨r.kind - 2 = 1∨r.kind - 2 = 2∨r.kind - 2 = 3∨r.kind - 2 = 4∨r.kind - 2 = 5 := by omega
            rcases this with e | e | e | e | e | e <;> rw [e]
            · exact ⟨0,rfl,rfl,by simp⟩
            · exact ⟨1,rfl,rfl,by simp⟩
            · exact ⟨8,rfl,rfl,by simp⟩
            · exact ⟨16,rfl,rfl,by simp⟩
            · exact ⟨32,rfl,rfl,by simp⟩
            · exact ⟨64,rfl,rfl,by simp⟩
          rw [w2]
          have : (ks.length : Int) * w≤ks.length * 64 := Int.mul_le_mul_of_nonneg_left (by omega) (by omega)
          omega
      omega
theorem leaf_size {l : List (List Int)} {r : Rf} (h : r.kind = 0) (left : Int) : sizeT (norm (leafM l r left).1) + (leafM l r left).2.1≤left := by
  simp [leafM,norm_mk,h]
theorem meaning_size {l : List (List Int)} (hs : Sg l) : ∀ (d : Nat),SZ l (meaning l d)
  | 0 => fun r left hr h10 l0 hl h => by
    rw [meaning] at h ⊢
    split at h
    · rename_i h0; rw [if_pos h0]; exact leaf_size h0 _
    · exact absurd h (by simp [stopM])
  | 1 => fun r left hr h10 l0 hl h => by
    have hm := meaning_means hs.w 1 r left hr h
    rw [meaning] at h hm ⊢
    split at h
    · rename_i h0; rw [if_pos h0]; exact leaf_size h0 _
    · rename_i h0
      split at h
      · exact absurd h (by simp [stopM])
      · rename_i h9
        split at h
        · exact absurd h (by simp [stopM])
        · rename_i hc
          rw [if_neg h0,if_neg h9,if_neg hc] at hm ⊢
          exact rest_size hs hr h0 h10 (meaning_lb hs.w 0) (stop_lb l _) (meaning_size hs 0) (fun e c => absurd ⟨e,c⟩ h9) hl hc hm h
  | d + 2 => fun r left hr h10 l0 hl h => by
    have hm := meaning_means hs.w (d + 2) r left hr h
    rw [meaning] at h hm ⊢
    split at h
    · rename_i h0; rw [if_pos h0]; exact leaf_size h0 _
    · rename_i h0
      split at h
      · exact absurd h (by simp [stopM])
      · rename_i hc
        rw [if_neg h0,if_neg hc] at hm ⊢
        exact rest_size hs hr h0 h10 (meaning_lb hs.w (d + 1)) (meaning_lb hs.w d) (meaning_size hs (d + 1)) (fun e c => ⟨meaning_size hs d,fun x left hx hq => meaning_means hs.w d x left hx hq⟩) hl hc hm h
theorem unf_size {l : List (List Int)} (hs : Sg l) {a b : Int} (h : (unfP l a b).2.2 = 0) : sizeT (norm (unfP l a b).1)≤65536 := by
  have ha := clamp_in a 64 (by decide)
  have hb := clamp_in b 65536 (by decide)
  unfold unfP at h ⊢
  split at h
  · rename_i h0; exact absurd h h0
  · rename_i h0
    rw [if_neg h0]
    split at h
    · rename_i h1; exact absurd h h1
    · rename_i h1
      rw [if_neg h1]
      have q1 := meaning_size hs (clampZ a 64).toNat (atP l 0 0).1 (clampZ b 65536) (at_ok hs.w 0 0) (at_kind l 0 0) hb.1 hb.2 (by omega)
      have q2 := meaning_lb hs.w (B := 65536) (clampZ a 64).toNat (atP l 0 0).1 (at_ok hs.w 0 0) (clampZ b 65536) hb.1 hb.2
      simp only
      omega
end Go.Proofs.YthfiijdbnkaabaaGreat

namespace Go.Proofs.YthfiijdbnkaabaaGreat
set_option linter.unusedVariables false
set_option linter.unusedSimpArgs false
open Go Go.G Go.Proofs Go.PL
theorem rEnc2_spec {t : T} (hw : wfT t) (most : Int) (hsz : rightT 64 t = true→t.kind ≠ 10→sizeT (norm t) < 9223372036854775808) :
    G.Spec Tryz.prog 53 [tX t,iv most] (.tup [uws (cnW most t),bv (cnOk most t)]) := by
  have no : cnOk most t = false→cnW most t = [] := fun h => by simp [cnW,h]
  refine spec_of t_centoref12_Encode (by simp) fun w0 I0 => ?_
  unfold c_centoref12_Encode
  simp
  refine sc_call (rRight_spec t hw 64 (by omega)) (by simp) ?_
  by_cases hr : rightT 64 t = true
  · by_cases h10 : t.kind = 10
    · have hf : cnOk most t = false := by simp [cnOk,h10]
      rw [no hf,hf]
      simp [hr,h10]
      exact frz_tup (by simp; exact ⟨frz_sl,frz_bare rfl⟩)
    · have hok := laid_right t 64 hr hw h10
      have hs0 := (size_nonneg _).1 hok
      have hwn := wf_norm _ hw
      have h1 := hsz hr h10
      have hS := rSize_spec _ hwn
      have e1 : i64w (sizeT (norm t)) = sizeT (norm t) := i64_same (by omega) (by omega)
      rw [e1,show tX (norm t) = .agg [iv t.kind,uws (norm t).words,tKs (norm t).kids] from by simp] at hS
      rw [hr]
      simp [h10]
      refine sc_call (rNorm_spec t hw) (by simp) ?_
      simp
      refine sc_call hS (by simp) ?_
      by_cases hm : most≤sizeT (norm t)
      · have hf : cnOk most t = false := by simp [cnOk]; intros; omega
        rw [no hf,hf]
        simp [hm]
        refine sc_call_off rfl ?_
        simp
        exact frz_tup (by simp; exact ⟨frz_sl,frz_bare rfl⟩)
      · simp [hm]
        refine sc_call_gf rfl (fun _ => hS) (fun _ => rfl) (by simp) ?_
        by_cases hm2 : 131072≤sizeT (norm t)
        · have hf : cnOk most t = false := by simp [cnOk]; intros; omega
          rw [no hf,hf]
          simp [hm2]
          exact frz_tup (by simp; exact ⟨frz_sl,frz_bare rfl⟩)
        · have hf : cnOk most t = true := by simp [cnOk,hr,h10]; omega
          have hW : cnW most t = layT (norm t) 0 [0] := by simp [cnW,hf]
          rw [hW,hf]
          obtain ⟨u',hL⟩ := rLay_spec hok (W := [0]) (a := 0) (u := 1) (by simp) (by simp; omega)
          simp [hm2]
          refine sc_fam 5 hL (fun p => by simp) (by simp) (by simp) ?_
          simp
          exact frz_tup (by simp; exact ⟨frz_row (f := uv) (sz := 1) (by simp) rfl (fun _ => rfl),frz_bare rfl⟩)
  · have hf : cnOk most t = false := by simp [cnOk,hr]
    rw [no hf,hf]
    simp at hr
    simp [hr]
    exact frz_tup (by simp; exact ⟨frz_sl,frz_bare rfl⟩)
def pkOk (most : Int) (e : E) : Bool := rightE 64 e && cnOk most (treeE e) && decide ((unfP [cnW most (treeE e)] 64 65536).2.2 = 0)
def pkW (most : Int) (e : E) : List Int := if pkOk most e = true then cnW most (treeE e) else []
theorem pLimits_spec : G.Spec Tryz.prog 33 [] (liX 64 65536 0 0) := by
  refine spec_of t_patch_limits (by simp) fun w0 I0 => ?_
  unfold c_patch_limits
  simp
  exact frz_bare rfl
theorem pkEnc_spec {e : E} (hw : wfE e) (hs : smE 1048575 e) (most : Int) (hsz : rightE 64 e = true→rightT 64 (treeE e) = true→sizeT (norm (treeE e)) < 9223372036854775808) :
    G.Spec Tryz.prog 10 [eX e,iv most] (.tup [uws (pkW most e),bv (pkOk most e)]) := by
  have no : pkOk most e = false→pkW most e = [] := fun h => by simp [pkW,h]
  have hwt := wf_tree e hw hs (.inr trivial)
  have sg := cn_sg (most := most) hwt
  refine spec_of t_patch_Encode (by simp) fun w0 I0 => ?_
  unfold c_patch_Encode
  simp
  refine sc_call (peRight_spec hw) (by simp) ?_
  by_cases hr : rightE 64 e = true
  · simp [hr]
    refine sc_call (pTree_all e hw hs ⟨64,hr⟩) (by simp) ?_
    simp
    refine sc_call (cnEnc_spec hwt most (fun h1 _ => hsz hr h1)) (by simp) ?_
    by_cases hc : cnOk most (treeE e) = true
    · simp [hc]
      refine sc_call ((of_spec [cnW most (treeE e)] (by simp) sg.b).soft (by simp [A.softL,A.soft,soft_uv])) (by simp) ?_
      simp
      refine sc_call pLimits_spec (by simp) ?_
      simp
      refine sc_call (vCheck_spec sg 64 65536 0 0) (by simp) ?_
      by_cases hu : (unfP [cnW most (treeE e)] 64 65536).2.2 = 0
      · have hf : pkOk most e = true := by simp [pkOk,hr,hc,hu]
        have hW : pkW most e = cnW most (treeE e) := by simp [pkW,hf]
        rw [hW,hf]
        simp [hu]
        exact frz_bare rfl
      · have hf : pkOk most e = false := by simp [pkOk,hu]
        rw [no hf,hf]
        simp [hu]
        exact frz_tup (by simp; exact ⟨frz_sl,frz_bare rfl⟩)
    · have hf : pkOk most e = false := by simp [pkOk,hc]
      rw [no hf,hf]
      simp at hc
      simp [hc]
      exact frz_tup (by simp; exact ⟨frz_sl,frz_bare rfl⟩)
  · have hf : pkOk most e = false := by simp [pkOk,hr]
    rw [no hf,hf]
    simp at hr
    simp [hr]
    exact frz_tup (by simp; exact ⟨frz_sl,frz_bare rfl⟩)
end Go.Proofs.YthfiijdbnkaabaaGreat

namespace Go.Proofs.YthfiijdbnkaabaaGreat
set_option linter.unusedVariables false
set_option linter.unusedSimpArgs false
open Go Go.G Go.Proofs Go.PL
theorem cnW_len {most : Int} {t : T} (hw : wfT t) (h : cnOk most t = true) : ((cnW most t).length : Int) = 1 + sizeT (norm t) := by
  have hW : cnW most t = layT (norm t) 0 [0] := by simp [cnW,h]
  simp [cnOk] at h
  obtain ⟨⟨⟨hr,h10⟩,_⟩,hs⟩ := h
  have hok := laid_right t 64 hr hw h10
  have hlen := (lay_len (norm t)).1 hok 0 [0]
  rw [hW]
  simpa using hlen
theorem cnOk_iff {most : Int} {t : T} : cnOk most t = true ↔ rightT 64 t = true∧t.kind ≠ 10∧sizeT (norm t) < most∧sizeT (norm t) < 131072 := by
  unfold cnOk
  simp only [Bool.and_eq_true,Bool.not_eq_true',decide_eq_true_eq,decide_eq_false_iff_not,and_assoc]
end Go.Proofs.YthfiijdbnkaabaaGreat

namespace Go.Proofs.YthfiijdbnkaabaaGreat
set_option linter.unusedVariables false
set_option linter.unusedSimpArgs false
open Go Go.G Go.Proofs Go.PL
noncomputable def rdB (t : T) : Bool := rightE 64 (guess t) && eqT (treeE (guess t)) t
noncomputable def rdE (t : T) : E := if rdB t = true then guess t else E0
theorem frz_E0 {H : Hp} : Frz H (.agg [iv 0,iv 0,.sl true [],.sl true [],iv 0,.sl true [],.sl true [],.sl true [],.sl true [],iv 0,.sl true []]) (eX E0) := frz_agg (by
  simp
  repeat' (first | exact frz_sl | exact frz_bare rfl | apply And.intro))
theorem pReadT_spec {t : T} (hw : wfT t) (hr : ∃ d,rightT d t = true) : G.Spec Tryz.prog 16 [tX t] (.tup [eX (rdE t),bv (rdB t)]) := by
  have hwg := guess_wf _ t (Nat.le_refl _) hw hr
  have hsg := guess_sm _ t (Nat.le_refl _) hr
  have hwt := wf_tree (guess t) hwg hsg (.inr trivial)
  have hsm : SmT t := by obtain ⟨d,hd⟩ := hr; exact sm_right t d hd
  have hR := (read_all t hw hsm).1
  unfold PReadS at hR
  refine spec_of t_patch_Read (by simp) fun w0 I0 => ?_
  unfold c_patch_Read
  simp
  refine sc_call hR rfl ?_
  simp
  refine sc_call (peRight_spec hwg) (by simp) ?_
  by_cases hr1 : rightE 64 (guess t) = true
  · have hT := pTree_all (guess t) hwg hsg ⟨64,hr1⟩
    unfold PTreeS at hT
    simp [hr1]
    refine sc_call_gf rfl (fun _ => hT) (fun _ => rfl) (by simp) ?_
    simp [updF_app]
    refine sc_call_gf rfl (fun _ => ptEqual_spec hwt (tree_right (guess t) 64 hsg hr1) hw hr) (fun _ => rfl) (by simp) ?_
    by_cases he : eqT (treeE (guess t)) t = true
    · have hB : rdB t = true := by simp [rdB,hr1,he]
      have hE : rdE t = guess t := by simp [rdE,hB]
      rw [hE,hB]
      simp [he]
      exact frz_bare (tup_bare (by simp))
    · have hB : rdB t = false := by simp [rdB,he]
      have hE : rdE t = E0 := by simp [rdE,hB]
      rw [hE,hB]
      simp [he]
      exact frz_tup (by simp; exact ⟨frz_E0,frz_bare rfl⟩)
  · have hB : rdB t = false := by simp [rdB,hr1]
    have hE : rdE t = E0 := by simp [rdE,hB]
    rw [hE,hB]
    simp at hr1
    simp [hr1]
    refine sc_call_off rfl ?_
    simp
    refine sc_call_off rfl ?_
    simp
    exact frz_tup (by simp; exact ⟨frz_E0,frz_bare rfl⟩)
theorem rReadT_spec {t : T} (hw : wfT t) (hr : ∃ d,rightT d t = true) : G.Spec Tryz.prog 20 [tX t] (.tup [eX (rdE t),bv (rdB t)]) := by
  have hwg := guess_wf _ t (Nat.le_refl _) hw hr
  have hsg := guess_sm _ t (Nat.le_refl _) hr
  have hwt := wf_tree (guess t) hwg hsg (.inr trivial)
  have hsm : SmT t := by obtain ⟨d,hd⟩ := hr; exact sm_right t d hd
  have hR := (guess_all t hw hsm).1
  unfold GuessS at hR
  refine spec_of t_centoref27_Read (by simp) fun w0 I0 => ?_
  unfold c_centoref27_Read
  simp
  refine sc_call hR rfl ?_
  simp
  refine sc_call (eright_spec (guess t) hwg 64 (by omega)) (by simp) ?_
  by_cases hr1 : rightE 64 (guess t) = true
  · have hT := tree_spec (guess t) hsg
    simp [hr1]
    refine sc_call_gf rfl (fun _ => hT) (fun _ => rfl) (by simp) ?_
    simp [updF_app]
    refine sc_call_gf rfl (fun _ => rEqual_spec hwt hw (wf_norm _ hwt)) (fun _ => rfl) (by simp) ?_
    by_cases he : eqT (treeE (guess t)) t = true
    · have hB : rdB t = true := by simp [rdB,hr1,he]
      have hE : rdE t = guess t := by simp [rdE,hB]
      rw [hE,hB]
      simp [he]
      exact frz_bare (tup_bare (by simp))
    · have hB : rdB t = false := by simp [rdB,he]
      have hE : rdE t = E0 := by simp [rdE,hB]
      rw [hE,hB]
      simp [he]
      exact frz_tup (by simp; exact ⟨frz_E0,frz_bare rfl⟩)
  · have hB : rdB t = false := by simp [rdB,hr1]
    have hE : rdE t = E0 := by simp [rdE,hB]
    rw [hE,hB]
    simp at hr1
    simp [hr1]
    refine sc_call_off rfl ?_
    simp
    refine sc_call_off rfl ?_
    simp
    exact frz_tup (by simp; exact ⟨frz_E0,frz_bare rfl⟩)
end Go.Proofs.YthfiijdbnkaabaaGreat

namespace Go.Proofs.YthfiijdbnkaabaaGreat
set_option linter.unusedVariables false
set_option linter.unusedSimpArgs false
open Go Go.G Go.Proofs Go.PL
def dcT (l : List Int) (a b : Int) : T × Int :=
  if (unfP [l] a b).2.2 ≠ 0 then (T0,(unfP [l] a b).2.2)
  else if cnOk 131072 (norm (unfP [l] a b).1) = true∧l = cnW 131072 (norm (unfP [l] a b).1) then (norm (unfP [l] a b).1,0) else (T0,5)
theorem cDecode_spec {l : List Int} (hs : Sg [l]) (a b c d : Int) : G.Spec Tryz.prog 55 [uws l,liX a b c d] (.tup [tX (dcT l a b).1,iv (dcT l a b).2]) := by
  have hlen := hs.b l (by simp)
  have hM := uMessage_spec hs a b c d
  have hmean := unfold_means hs (a := a) (b := b)
  have hsz := unf_size hs (a := a) (b := b)
  unfold dcT
  generalize unfP [l] a b = x at hM hmean hsz
  obtain ⟨t,wt,e⟩ := x
  simp only at hM hmean hsz ⊢
  refine spec_of t_canon_Decode (by simp) fun w0 I0 => ?_
  unfold c_canon_Decode
  simp
  refine sc_call ((of_spec [l] (by simp) hs.b).soft (by simp [A.softL,A.soft,soft_uv])) (by simp) ?_
  simp
  refine sc_call hM (by simp) ?_
  by_cases he : e = 0
  · subst he
    have hw := means_wf hs _ _ (hmean rfl)
    have hz := hsz rfl
    have hE := cnEnc_spec (wf_norm _ hw) 131072 (fun _ _ => by rw [norm_norm]; omega)
    have e1 : A.agg [iv t.kind,uws (norm t).words,tKs (norm t).kids] = tX (norm t) := by simp
    simp [updF_app]
    refine sc_calle (L := [tX (norm t),iv 131072]) (by simp) hE (by simp) ?_
    by_cases hc : cnOk 131072 (norm t) = true
    · simp [hc]
      refine sc_call_gf rfl (fun _ => sEqual_spec l _ hlen) (fun _ => rfl) (by simp) ?_
      by_cases hq : l = cnW 131072 (norm t)
      · rw [← hq]
        simp
        rw [e1]
        exact frz_bare (tup_bare (by simp))
      · simp [hq]
        exact frz_tup (by simp; exact ⟨frz_T0,frz_bare rfl⟩)
    · simp at hc
      simp [hc]
      refine sc_call_off rfl ?_
      simp
      exact frz_tup (by simp; exact ⟨frz_T0,frz_bare rfl⟩)
  · simp [he]
    exact frz_tup (by simp; exact ⟨frz_T0,frz_bare rfl⟩)
theorem dcT_right {l : List Int} (hs : Sg [l]) {a b : Int} (h : (dcT l a b).2 = 0) : wfT (dcT l a b).1∧rightT 64 (dcT l a b).1 = true := by
  unfold dcT at h ⊢
  split at h
  · rename_i h0; exact absurd h h0
  · rename_i h0
    rw [if_neg h0]
    split at h
    · rename_i h1
      rw [if_pos h1]
      exact ⟨wf_norm _ (means_wf hs _ _ (unfold_means hs (by simpa using h0))),(cnOk_iff.1 h1.1).1⟩
    · cases h
noncomputable def dcE (l : List Int) : E × Int := if (dcT l 64 65536).2 ≠ 0 then (E0,(dcT l 64 65536).2) else if rdB (dcT l 64 65536).1 = true then (rdE (dcT l 64 65536).1,0) else (E0,12)
theorem pDecode_spec {l : List Int} (hs : Sg [l]) : G.Spec Tryz.prog 27 [uws l] (.tup [eX (dcE l).1,iv (dcE l).2]) := by
  have hD := cDecode_spec hs 64 65536 0 0
  have hr := dcT_right hs (a := 64) (b := 65536)
  unfold dcE
  generalize dcT l 64 65536 = x at hD hr
  obtain ⟨t,e⟩ := x
  simp only at hD hr ⊢
  refine spec_of t_patch_Decode (by simp) fun w0 I0 => ?_
  unfold c_patch_Decode
  simp
  refine sc_call pLimits_spec (by simp) ?_
  simp
  refine sc_call hD (by simp) ?_
  by_cases he : e = 0
  · subst he
    obtain ⟨hw,hr64⟩ := hr rfl
    simp [updF_app]
    refine sc_call (pReadT_spec hw ⟨64,hr64⟩) (by simp) ?_
    by_cases hB : rdB t = true
    · simp [hB]
      exact frz_bare (tup_bare (by simp))
    · simp at hB
      simp [hB]
      exact frz_tup (by simp; exact ⟨frz_E0,frz_bare rfl⟩)
  · simp [he]
    exact frz_tup (by simp; exact ⟨frz_E0,frz_bare rfl⟩)
abbrev zEL : List A := [iv 0,iv 0,.sl true [],.sl true [],iv 0,.sl true [],.sl true [],.sl true [],.sl true [],iv 0,.sl true []]
section
variable {n0 : Nat} {w0 : World} {I0 : Nat→Prop} {Q : Exit→Sta→Prop}
theorem rdec_l1 {l m : List Int} (hlen : l.length = m.length) (hl : l.length * 8≤140737488355328) {H : Hp} (h0 : H [0] = ⟨1,.cells zEL⟩)
    (hq : l = m→∀ i' q,Q (.exit 0) ⟨lk [(0,uws l),(2,.pob [0] 1 0),(4,.pob [1] 1 0),(7,uws m),(9,iv i'),(44,bv q)],H⟩)
    (hq2 : l ≠ m→Q .ret ⟨lk [(2,.pob [0] 1 0),(3,iv 5)],updF H [0] ⟨1,.cells zEL⟩⟩) :
    ∀ (k i : Nat),i + k = l.length→l.take i = m.take i →
    LoopC (cx Tryz.prog w0 I0 n0) l1_centoref27_Decode Q ⟨lk [(0,uws l),(2,.pob [0] 1 0),(4,.pob [1] 1 0),(7,uws m),(9,nv i)],H⟩ := by
  intro k
  induction k with
  | zero =>
    intro i hi ht
    have : i = l.length := by omega
    subst this
    rw [List.take_length,hlen,List.take_length] at ht
    refine loopC_once mixed l1_centoref27_Decode.eq_1 ?_
    simp
    exact hq ht _ _
  | succ k ih =>
    intro i hi ht
    have hlt : i < l.length := by omega
    have hlt2 : i < m.length := by omega
    have ei : IntKind.i64.wrap ((i : Int) + 1) = ((i + 1 : Nat) : Int) := i64_same (by omega) (by omega)
    refine loopC_once mixed l1_centoref27_Decode.eq_1 ?_
    by_cases he : l[i] = m[i]
    · simp [hlt,hlt2,he,ei]
      refine ih (i + 1) (by omega) ?_
      rw [List.take_succ_eq_append_getElem hlt,List.take_succ_eq_append_getElem hlt2,ht,he]
    · have hne : l ≠ m := fun e => by subst e; exact he rfl
      simp [hlt,hlt2,he,h0]
      exact hq2 hne
end
theorem rDecode_spec {l : List Int} (hs : Sg [l]) : G.Spec Tryz.prog 28 [uws l] (.tup [eX (dcE l).1,iv (dcE l).2]) := by
  have hlen := hs.b l (by simp)
  have hU := unfold_spec hs 64 65536 0 0
  have hmean := unfold_means hs (a := 64) (b := 65536)
  have hsz := unf_size hs (a := 64) (b := 65536)
  unfold dcE dcT
  generalize unfP [l] 64 65536 = x at hU hmean hsz
  obtain ⟨t,wt,e⟩ := x
  simp only at hU hmean hsz ⊢
  refine spec_of t_centoref27_Decode (by simp) fun w0 I0 => ?_
  unfold c_centoref27_Decode
  simp
  refine sc_call (hU.soft (by simp [A.softL,A.soft,soft_uv])) (by simp) ?_
  by_cases he : e = 0
  · subst he
    have hw := means_wf hs _ _ (hmean rfl)
    have hz := hsz rfl
    have hE := rEnc2_spec (wf_norm _ hw) 131072 (fun _ _ => by rw [norm_norm]; omega)
    have e1 : A.agg [iv t.kind,uws (norm t).words,tKs (norm t).kids] = tX (norm t) := by simp
    simp
    refine sc_call (rNorm_spec t hw) (by simp) ?_
    simp [updF_app]
    refine sc_calle (L := [tX (norm t),iv 131072]) (by simp) hE (by simp) ?_
    by_cases hc : cnOk 131072 (norm t) = true
    · obtain ⟨hr64,_⟩ := cnOk_iff.1 hc
      simp [hc]
      by_cases hln : l.length = (cnW 131072 (norm t)).length
      · have hln' : ((cnW 131072 (norm t)).length : Int) = l.length := by omega
        simp [hln']
        by_cases hq : l = cnW 131072 (norm t)
        · simp only [if_pos hq]
          refine rdec_l1 hln hlen (by simp) (fun _ i' q => ?_) (fun h => absurd hq h) l.length 0 (by omega) (by simp)
          simp
          refine sc_calle (L := [tX (norm t)]) (by simp) (rReadT_spec (wf_norm _ hw) ⟨64,hr64⟩) (by simp) ?_
          by_cases hB : rdB (norm t) = true
          · simp [hB]
            exact frz_bare (tup_bare (by simp))
          · simp at hB
            simp [hB]
            exact frz_tup (by simp; exact ⟨frz_E0,frz_bare rfl⟩)
        · simp only [if_neg hq]
          refine rdec_l1 hln hlen (by simp) (fun h => absurd h hq) (fun _ => ?_) l.length 0 (by omega) (by simp)
          simp
          exact frz_tup (by simp; exact ⟨frz_E0,frz_bare rfl⟩)
      · have hne : ¬ l = cnW 131072 (norm t) := fun e => hln (by rw [← e])
        have hln' : ¬ ((cnW 131072 (norm t)).length : Int) = l.length := by omega
        simp [hln',hne]
        exact frz_tup (by simp; exact ⟨frz_E0,frz_bare rfl⟩)
    · simp at hc
      simp [hc]
      exact frz_tup (by simp; exact ⟨frz_E0,frz_bare rfl⟩)
  · simp [he]
    exact frz_tup (by simp; exact ⟨frz_E0,frz_bare rfl⟩)
end Go.Proofs.YthfiijdbnkaabaaGreat
