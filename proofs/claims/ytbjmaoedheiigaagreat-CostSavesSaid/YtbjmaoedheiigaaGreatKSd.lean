/-
  Texts, merged, without what is not reached.
-/
import Derived.Test.YtbjmaoedheiigaaGreatKSc
namespace Go.Proofs.YtbjmaoedheiigaaGreat
set_option linter.unusedVariables false
set_option linter.unusedSimpArgs false
open Go Go.G Go.Proofs Go.PL
theorem sc_callv0 {P : Program} {K : Sta→Prop} {rest : List CO} {s : Nat→A} {H : Hp} {dd : Option Nat} {nm : Nm} {ix : Nat} {un : List Nat} {l : Bool} {lg : Lg} {o : Operand} {g : FuncId} {aa : Array Operand} {ts : Array TypeId} {L : List A} {x : A} (ho : evs s o = .fnc g [] []) (hs : G.Spec P g L x) (hL : aa.toList.map (evs s) = L) (hb : L.all A.bare = true) (h : SeqC P K rest (addL l ix ⟨[],[]⟩ lg) (Sta.put ⟨s,H⟩ dd x H)) :
    SeqC P K (⟨dd,.call { callee := .value o,args := aa,argTypes := ts },none,nm,ix,un,l⟩ :: rest) lg ⟨s,H⟩ := by
  subst hL
  exact sc_callv ho (by simpa using hs) (by simpa using hb) h
instance : Inhabited Sc := ⟨sc0⟩
def ltP (a b : Sc) : Bool := decide (a.i < b.i)
theorem cmp0 (a b : Sc) : decide (cmpZ a.i b.i < 0) = ltP a b := by
  unfold cmpZ ltP
  by_cases h : a.i < b.i
  · rw [if_pos (by omega)]; simp [h]
  · rw [if_neg (by omega)]
    by_cases h2 : b.i < a.i
    · rw [if_pos (by omega)]; simp [h]
    · rw [if_neg (by omega)]; simp [h]
abbrev cmpF : A := .fnc 242 [] []
theorem famA_cmpF : FamA (fun _ => cmpF) := famA_fnc famL_nil famL_nil
theorem pick1_spec (a b : Sc) : G.Spec Tryz.prog 242 [prA a,prA b] (iv (cmpZ a.i b.i)) := by
  refine spec_of t_pair_Pick_1 (by simp) fun w0 I0 => ?_
  unfold c_pair_Pick_1
  simp [prA,prC]
  refine sc_call (cmp_spec a.i b.i) rfl ?_
  simp
  exact frz_bare rfl
abbrev arF19 (d : Array Sc) (v : Nat) : Fam := rpF d.toList v
theorem ar_get {d : Array Sc} {i : Nat} (h : i < d.size) : (d.toList.map prA)[i]? = some (prA d[i]!) := by
  rw [List.getElem?_map,Array.getElem?_toList,getElem!_pos d i h,Array.getElem?_eq_getElem h]
  rfl
theorem ar_swp {d : Array Sc} {i j : Nat} : (Sort.swp d i j).toList.map prA = ((d.toList.map prA).set i (prA d[j]!)).set j (prA d[i]!) := by
  unfold Sort.swp
  simp [List.map_set]
theorem swp_size {d : Array Sc} {i j : Nat} : (Sort.swp d i j).size = d.size := by simp [Sort.swp]
theorem ar_get2 {d : Array Sc} {i j : Nat} (hi : i < d.size) (hj : j < d.size) : ((d.toList.map prA).set i (prA d[j]!))[j]? = some (prA d[j]!) := by
  by_cases e : i = j
  · subst e
    rw [List.getElem?_set_self (by simpa using hi)]
  · rw [List.getElem?_set_ne e,ar_get hj]
section
variable {n0 : Nat} {w0 : World} {I0 : Nat→Prop} {M0 : Nm→Nat→Prop} {m0 : Mu} {Q : Exit→Sta→Prop} {v : Nat}
abbrev arN (n v r : Nat) : A := .osl [r] v 2 0 n
theorem ins_l1 {a n : Nat} {b i : Int} (hn : n≤1000) (ha : a≤1000) : ∀ (j : Nat) (d : Array Sc) (H : Hp),d.size = n→j < n→(∀ p,H (0 :: p) = (arF19 d v).F 0 p) →
    (∀ (H' : Hp) (st : List (Nat × A)),(∀ p,H' (0 :: p) = (arF19 (Sort.insInner ltP a j d) v).F 0 p)→Q (.exit 2) ⟨lk ([(0,arN n v 0),(1,iv a),(2,iv b),(3,cmpF),(8,iv i)] ++ st),H'⟩) →
    LoopC (cxh Tryz.prog w0 I0 M0 n0 m0) l1_slices_insertionSortCmpFunc_pair_Pair Q ⟨lk [(0,arN n v 0),(1,iv a),(2,iv b),(3,cmpF),(8,iv i),(9,iv j)],H⟩ := by
  intro j
  induction j with
  | zero =>
    intro d H hd hj hH hq
    refine loopC_once mixed l1_slices_insertionSortCmpFunc_pair_Pair.eq_1 ?_
    simp [show ¬ (a : Int) < 0 by omega]
    rw [sc_guard]
    simp
    exact hq H [(9,iv 0),(34,bv false)] hH
  | succ j ih =>
    intro d H hd hj hH hq
    have h0 := hH []
    have g1 := ar_get (d := d) (i := j + 1) (by omega)
    have g0 := ar_get (d := d) (i := j) (by omega)
    rw [Sort.insInner] at hq
    have e1 : IntKind.i64.wrap ((j : Int) + 1 - 1) = (j : Int) := by rw [i64_same (by omega) (by omega)]; omega
    simp only [Int.add_sub_cancel] at e1
    refine loopC_once mixed l1_slices_insertionSortCmpFunc_pair_Pair.eq_1 ?_
    by_cases h1 : a < j + 1
    · have hc := cmp0 d[j + 1]! d[j]!
      simp only [rpF_F] at h0
      generalize hx : d[j + 1]! = x at *
      generalize hy : d[j]! = y at *
      simp [show (a : Int) < j + 1 by omega,h0,e1,g1,g0,hj,show j < n by omega,show (j : Int) + 1 < n by omega,show (j : Int) < n by omega,show (0 : Int)≤(j : Int) + 1 by omega,pr_agg]
      rw [sc_guard]
      simp
      refine sc_callv0 rfl (pick1_spec x y) (by simp) rfl ?_
      cases hL : ltP x y with
      | false =>
        rw [hL] at hc hq
        rw [if_neg (by simp)] at hq
        have hc' : ¬ cmpZ x.i y.i < 0 := by simpa using hc
        simp [hc']
        exact hq H [(9,iv (j + 1 : Nat)),(34,bv false)] (fun p => by simp [hH])
      | true =>
        rw [hL] at hc hq
        rw [if_pos (by simp; omega)] at hq
        have hc' : cmpZ x.i y.i < 0 := by simpa using hc
        have g2 := ar_get2 (d := d) (i := j + 1) (j := j) (by omega) (by omega)
        have hs := ar_swp (d := d) (i := j + 1) (j := j)
        rw [hx,hy] at hs
        rw [hy] at g2
        simp [hc',h0,e1,g1,g0,g2,hj,show j < n by omega,show (j : Int) + 1 < n by omega,show (j : Int) < n by omega,show (0 : Int)≤(j : Int) + 1 by omega,pr_agg]
        exact ih (Sort.swp d (j + 1) j) _ (by rw [swp_size]; exact hd) (by omega) (fun p => by by_cases hp : p = [] <;> simp [hp,hs,updF_app,hH]) hq
    · rw [if_neg (by simp; omega)] at hq
      simp [show ¬ (a : Int) < j + 1 by omega]
      rw [sc_guard]
      simp
      exact hq H [(9,iv (j + 1 : Nat)),(34,bv false)] hH
theorem insInner_size (lt : Sc→Sc→Bool) (a : Nat) : ∀ (j : Nat) (d : Array Sc),(Sort.insInner lt a j d).size = d.size
  | 0,d => rfl
  | j + 1,d => by
    unfold Sort.insInner
    split
    · rw [insInner_size lt a j,swp_size]
    · rfl
theorem ins_l2 {a b n : Nat} (hn : n≤1000) (ha : a≤1000) (hb : b≤n) : ∀ (m i : Nat) (d : Array Sc) (H : Hp),(i + m = b∨(b≤i∧m = 0∧i≤1001))→d.size = n→(∀ p,H (0 :: p) = (arF19 d v).F 0 p) →
    (∀ (H' : Hp) (st : List (Nat × A)),(∀ p,H' (0 :: p) = (arF19 (Sort.insOuter ltP a b i d) v).F 0 p)→Q (.exit 0) ⟨lk st,H'⟩) →
    LoopC (cxh Tryz.prog w0 I0 M0 n0 m0) l2_slices_insertionSortCmpFunc_pair_Pair Q ⟨lk [(0,arN n v 0),(1,iv a),(2,iv b),(3,cmpF),(8,iv i)],H⟩ := by
  intro m
  induction m with
  | zero =>
    intro i d H hi hd hH hq
    rw [Sort.insOuter,if_neg (by omega)] at hq
    refine loopC_once mixed l2_slices_insertionSortCmpFunc_pair_Pair.eq_1 ?_
    simp [show ¬ (i : Int) < b by omega,show ¬ i < b by omega]
    exact hq H [(0,arN n v 0),(1,iv a),(2,iv b),(3,cmpF),(8,iv i),(14,bv false)] hH
  | succ m ih =>
    intro i d H hi hd hH hq
    have hib : i < b := by omega
    have e1 : IntKind.i64.wrap ((i : Int) + 1) = ((i + 1 : Nat) : Int) := by rw [i64_same (by omega) (by omega)]; omega
    rw [Sort.insOuter,if_pos hib] at hq
    refine loopC_once mixed l2_slices_insertionSortCmpFunc_pair_Pair.eq_1 ?_
    simp [show (i : Int) < b by omega,hib]
    refine ins_l1 (n := n) (v := v) hn ha i d H hd (by omega) hH fun H' st h' => ?_
    simp [e1]
    exact ih (i + 1) _ H' (by omega) (by rw [insInner_size]; exact hd) h' hq
end
theorem insOuter_size (lt : Sc→Sc→Bool) (a b : Nat) : ∀ (m i : Nat) (d : Array Sc),b - i≤m→(Sort.insOuter lt a b i d).size = d.size
  | 0,i,d,h => by rw [Sort.insOuter,if_neg (by omega)]
  | m + 1,i,d,h => by
    rw [Sort.insOuter]
    split
    · rw [insOuter_size lt a b m _ _ (by omega),insInner_size]
    · rfl
theorem famAr (n v : Nat) : FamA (fun r => arN n v r) := famA_osl
theorem insSort_spec (d : Array Sc) (v a b : Nat) (hn : d.size≤900) (ha : a≤900) (hb : b≤d.size) : SpecF Tryz.prog 271 (fun r => [arN d.size v r,iv a,iv b,cmpF]) (arF19 d v) (fun _ => .tup []) (arF19 (Sort.insertionSort ltP d a b) v) := by
  refine specF_of t_slices_insertionSortCmpFunc_pair_Pair (by simp) (famL_cons (famAr _ _) (famL_cons famA_v (famL_cons famA_v (famL_cons famA_cmpF famL_nil)))) (famA_tup famL_nil) fun w0 I0 M0 m0 => ?_
  have e1 : IntKind.i64.wrap ((a : Int) + 1) = ((a + 1 : Nat) : Int) := by rw [i64_same (by omega) (by omega)]; omega
  unfold c_slices_insertionSortCmpFunc_pair_Pair
  simp [e1]
  refine LoopC.le (le_list [(0,arN d.size v 0),(1,iv a),(2,iv b),(3,cmpF),(8,iv (a + 1 : Nat))] (by simp)) ?_
  refine ins_l2 (n := d.size) (v := v) (by omega) (by omega) hb (b - (a + 1)) (a + 1) d _ (by omega) rfl (fun p => by simp) fun H' st h' => ?_
  simp
  exact reth_famN rfl rfl (fun p => h' p)
section
variable {n0 : Nat} {w0 : World} {I0 : Nat→Prop} {M0 : Nm→Nat→Prop} {m0 : Mu} {Q : Exit→Sta→Prop} {v : Nat}
theorem rev_l1 {n : Nat} (hn : n≤1000) : ∀ (m i j : Nat) (d : Array Sc) (H : Hp),j - i≤m→i≤n→j < n→d.size = n→(∀ p,H (0 :: p) = (arF19 d v).F 0 p) →
    (∀ (H' : Hp) (st : List (Nat × A)),(∀ p,H' (0 :: p) = (arF19 (Sort.reverseLoop i j d) v).F 0 p)→Q (.exit 0) ⟨lk st,H'⟩) →
    LoopC (cxh Tryz.prog w0 I0 M0 n0 m0) l1_slices_reverseRangeCmpFunc_pair_Pair Q ⟨lk [(0,arN n v 0),(8,iv i),(9,iv j)],H⟩ := by
  intro m
  induction m with
  | zero =>
    intro i j d H hm hi hj hd hH hq
    rw [Sort.reverseLoop,if_neg (by omega)] at hq
    refine loopC_once mixed l1_slices_reverseRangeCmpFunc_pair_Pair.eq_1 ?_
    simp [show ¬ (i : Int) < j by omega,show ¬ i < j by omega]
    exact hq H [(0,arN n v 0),(8,iv i),(9,iv j),(15,bv false)] hH
  | succ m ih =>
    intro i j d H hm hi hj hd hH hq
    by_cases hij : i < j
    · rw [Sort.reverseLoop,if_pos hij] at hq
      have h0 := hH []
      simp only [rpF_F] at h0
      have e1 : IntKind.i64.wrap ((i : Int) + 1) = ((i + 1 : Nat) : Int) := by rw [i64_same (by omega) (by omega)]; omega
      have e2 : IntKind.i64.wrap ((j : Int) - 1) = ((j - 1 : Nat) : Int) := by rw [i64_same (by omega) (by omega)]; omega
      have g1 := ar_get (d := d) (i := i) (by omega)
      have g0 := ar_get (d := d) (i := j) (by omega)
      have g2 := ar_get2 (d := d) (i := i) (j := j) (by omega) (by omega)
      have hs := ar_swp (d := d) (i := i) (j := j)
      generalize d[i]! = x at g1 g2 hs
      generalize d[j]! = y at g0 g2 hs
      refine loopC_once mixed l1_slices_reverseRangeCmpFunc_pair_Pair.eq_1 ?_
      simp [hij,show (i : Int) < j by omega,h0,g0,g1,g2,e1,e2,show (i : Int) < n by omega,show (j : Int) < n by omega,show i < n by omega,hj,pr_agg]
      refine LoopC.le (le_list [(0,arN n v 0),(8,iv (i + 1 : Nat)),(9,iv (j - 1 : Nat))] (by simp)) ?_
      exact ih (i + 1) (j - 1) (Sort.swp d i j) _ (by omega) (by omega) (by omega) (by rw [swp_size]; exact hd) (fun p => by by_cases hp : p = [] <;> simp [hp,hs,updF_app,hH]) hq
    · rw [Sort.reverseLoop,if_neg hij] at hq
      refine loopC_once mixed l1_slices_reverseRangeCmpFunc_pair_Pair.eq_1 ?_
      simp [show ¬ (i : Int) < j by omega,hij]
      exact hq H [(0,arN n v 0),(8,iv i),(9,iv j),(15,bv false)] hH
end
theorem reverse_spec (d : Array Sc) (v a b : Nat) (hn : d.size≤900) (ha : a≤d.size) (hb : 1≤b) (hb2 : b≤d.size) : SpecF Tryz.prog 275 (fun r => [arN d.size v r,iv a,iv b,cmpF]) (arF19 d v) (fun _ => .tup []) (arF19 (Sort.reverseRange d a b) v) := by
  refine specF_of t_slices_reverseRangeCmpFunc_pair_Pair (by simp) (famL_cons (famAr _ _) (famL_cons famA_v (famL_cons famA_v (famL_cons famA_cmpF famL_nil)))) (famA_tup famL_nil) fun w0 I0 M0 m0 => ?_
  have e1 : IntKind.i64.wrap ((b : Int) - 1) = ((b - 1 : Nat) : Int) := by rw [i64_same (by omega) (by omega)]; omega
  unfold c_slices_reverseRangeCmpFunc_pair_Pair
  simp [e1]
  refine rev_l1 (n := d.size) (v := v) (by omega) (b - 1 - a) a (b - 1) d _ (Nat.le_refl _) ha (by omega) rfl (fun p => by simp) fun H' st h' => ?_
  simp
  exact reth_famN rfl rfl (fun p => h' p)
def ceF (s : Nat) : Fam := ⟨fun r p => if p = [] then ⟨1,.cells [iv s]⟩ else ⟨0,.none⟩,fun {g δ r r'} hg hd p => by
    by_cases h1 : p = []
    · rw [if_pos h1]
      exact Fam.cells_ren (by simp [A.renL,A.ren])
    · rw [if_neg h1]; rfl,fun {D r} hD p => by
    by_cases h1 : p = []
    · rw [if_pos h1]; simp [Ob.refs,A.refsL,A.refs]
    · rw [if_neg h1]; trivial⟩
@[simp] theorem ceF_F {s r : Nat} {p : Nm} : (ceF s).F r p = if p = [] then ⟨1,.cells [iv s]⟩ else ⟨0,.none⟩ := rfl
abbrev ceP (q : Nat) : A := .pob [q] 1 0
theorem order2_spec (d : Array Sc) (v a b s : Nat) (hn : d.size≤900) (ha : a < d.size) (hb : b < d.size) (hs : s≤900) : SpecF2 Tryz.prog 286 (fun r q => [arN d.size v r,iv a,iv b,ceP q,cmpF]) ((arF19 d v).two (ceF s)) (fun _ _ => .tup [iv (Sort.order2 ltP d a b s).1,iv (Sort.order2 ltP d a b s).2.1]) ((arF19 d v).two (ceF (Sort.order2 ltP d a b s).2.2)) := by
  refine specF2_of t_slices_order2CmpFunc_pair_Pair (by simp) (famL2_cons (famA2_l (famAr _ _)) (famL2_cons (famA2_l famA_v) (famL2_cons (famA2_l famA_v) (famL2_cons (famA2_r famA_pob) (famL2_cons (famA2_l famA_cmpF) famL2_nil))))) (famA2_tup (famL2_cons (famA2_l famA_v) (famL2_cons (famA2_l famA_v) famL2_nil))) fun w0 I0 M0 m0 => ?_
  have ga := ar_get (d := d) (i := a) (by omega)
  have gb := ar_get (d := d) (i := b) (by omega)
  have hc := cmp0 d[b]! d[a]!
  have e1 : IntKind.i64.wrap ((s : Int) + 1) = ((s + 1 : Nat) : Int) := by rw [i64_same (by omega) (by omega)]; omega
  unfold Sort.order2
  generalize d[a]! = x at *
  generalize d[b]! = y at *
  generalize d.size = n at hn ha hb ⊢
  unfold c_slices_order2CmpFunc_pair_Pair
  simp [ga,gb,ha,hb,show (a : Int) < n by omega,show (b : Int) < n by omega,pr_agg]
  refine sc_callv0 rfl (pick1_spec y x) (by simp) rfl ?_
  cases hL : ltP y x with
  | true =>
    rw [hL] at hc
    have hc' : cmpZ y.i x.i < 0 := by simpa using hc
    simp [hc',e1,updF_app]
    exact reth_fam2 rfl rfl (fun p => by simp) (fun p => by by_cases hp : p = [] <;> simp [hp,updF_app])
  | false =>
    rw [hL] at hc
    have hc' : ¬ cmpZ y.i x.i < 0 := by simpa using hc
    simp [hc']
    exact reth_fam2 rfl rfl (fun p => by simp) (fun p => by simp)
theorem order2_mem (lt : Sc→Sc→Bool) (d : Array Sc) (a b s n : Nat) (ha : a < n) (hb : b < n) (hs : s≤100) : (Sort.order2 lt d a b s).1 < n∧(Sort.order2 lt d a b s).2.1 < n∧(Sort.order2 lt d a b s).2.2≤s + 1 := by
  unfold Sort.order2
  split
  · exact ⟨hb,ha,by simp⟩
  · exact ⟨ha,hb,by simp⟩
theorem median_spec (d : Array Sc) (v a b c s : Nat) (hn : d.size≤900) (ha : a < d.size) (hb : b < d.size) (hcc : c < d.size) (hs : s≤90) : SpecF2 Tryz.prog 285 (fun r q => [arN d.size v r,iv a,iv b,iv c,ceP q,cmpF]) ((arF19 d v).two (ceF s)) (fun _ _ => iv (Sort.median ltP d a b c s).1) ((arF19 d v).two (ceF (Sort.median ltP d a b c s).2)) := by
  refine specF2_of t_slices_medianCmpFunc_pair_Pair (by simp) (famL2_cons (famA2_l (famAr _ _)) (famL2_cons (famA2_l famA_v) (famL2_cons (famA2_l famA_v) (famL2_cons (famA2_l famA_v) (famL2_cons (famA2_r famA_pob) (famL2_cons (famA2_l famA_cmpF) famL2_nil)))))) (famA2_l famA_v) fun w0 I0 M0 m0 => ?_
  obtain ⟨q1,q2,q3⟩ := order2_mem ltP d a b s d.size ha hb (by omega)
  have h1 := order2_spec d v a b s hn ha hb (by omega)
  unfold Sort.median
  simp only
  generalize Sort.order2 ltP d a b s = R at h1 q1 q2 q3 ⊢
  obtain ⟨p1,p2,p3⟩ := order2_mem ltP d R.2.1 c R.2.2 d.size q2 hcc (by omega)
  have h2 := order2_spec d v R.2.1 c R.2.2 hn q2 hcc (by omega)
  generalize Sort.order2 ltP d R.2.1 c R.2.2 = S2 at h2 p1 p2 p3 ⊢
  obtain ⟨z1,z2,z3⟩ := order2_mem ltP d R.1 S2.1 S2.2.2 d.size q1 p1 (by omega)
  have h3 := order2_spec d v R.1 S2.1 S2.2.2 hn q1 p1 (by omega)
  generalize Sort.order2 ltP d R.1 S2.1 S2.2.2 = T3 at h3 z1 z2 z3 ⊢
  unfold c_slices_medianCmpFunc_pair_Pair
  simp
  refine sc_fam2 0 1 (by omega) h1 (fun p => by simp) (fun p => by simp) (by simp) (by simp) ?_
  simp
  refine sc_fam2 0 1 (by omega) h2 (fun p => by simp) (fun p => by simp) (by simp) (by simp) ?_
  simp
  refine sc_fam2 0 1 (by omega) h3 (fun p => by simp) (fun p => by simp) (by simp) (by simp) ?_
  simp
  exact reth_fam2 rfl rfl (fun p => by simp) (fun p => by simp)
def hintI : Sort.Hint→Int
  | .unknown => 0
  | .increasing => 1
  | .decreasing => 2
theorem choose_spec (d : Array Sc) (v a b : Nat) (hn : d.size≤900) (hab : a + 13≤b) (hb : b≤d.size) (hl : b - a < 50) : SpecF Tryz.prog 274 (fun r => [arN d.size v r,iv a,iv b,cmpF]) (arF19 d v) (fun _ => .tup [iv (Sort.choosePivot ltP d a b).1,iv (hintI (Sort.choosePivot ltP d a b).2)]) (arF19 d v) := by
  refine specF_of t_slices_choosePivotCmpFunc_pair_Pair (by simp) (famL_cons (famAr _ _) (famL_cons famA_v (famL_cons famA_v (famL_cons famA_cmpF famL_nil)))) (famA_tup (famL_cons famA_v (famL_cons famA_v famL_nil))) fun w0 I0 M0 m0 => ?_
  obtain ⟨l,hll⟩ : ∃ l,l = b - a := ⟨_,rfl⟩
  have e1 : IntKind.i64.wrap ((b : Int) - a) = (l : Int) := by rw [i64_same (by omega) (by omega)]; omega
  obtain ⟨q,hq⟩ : ∃ q,q = l / 4 := ⟨_,rfl⟩
  have e2 : IntKind.i64.wrap ((l : Int).tdiv 4) = (q : Int) := by rw [Int.tdiv_eq_ediv_of_nonneg (by omega),i64_same (by omega) (by omega)]; omega
  have e3 : IntKind.i64.wrap ((q : Int) * 1) = (q : Int) := by rw [i64_same (by omega) (by omega)]; omega
  have e4 : IntKind.i64.wrap ((q : Int) * 2) = ((q * 2 : Nat) : Int) := by rw [i64_same (by omega) (by omega)]; omega
  have e5 : IntKind.i64.wrap ((q : Int) * 3) = ((q * 3 : Nat) : Int) := by rw [i64_same (by omega) (by omega)]; omega
  have e6 : IntKind.i64.wrap ((a : Int) + q) = ((a + q : Nat) : Int) := by rw [i64_same (by omega) (by omega)]; omega
  have e7 : IntKind.i64.wrap ((a : Int) + (q : Int) * 2) = ((a + q * 2 : Nat) : Int) := by rw [i64_same (by omega) (by omega)]; omega
  have e8 : IntKind.i64.wrap ((a : Int) + (q : Int) * 3) = ((a + q * 3 : Nat) : Int) := by rw [i64_same (by omega) (by omega)]; omega
  have e9 : IntKind.i64.wrap ((l : Int) / 4) = (q : Int) := by rw [i64_same (by omega) (by omega)]; omega
  have e10 : IntKind.i64.wrap (q : Int) = (q : Int) := i64_same (by omega) (by omega)
  have hm := median_spec d v (a + q) (a + q * 2) (a + q * 3) 0 hn (by omega) (by omega) (by omega) (by omega)
  unfold Sort.choosePivot
  simp only [← hll,← hq,Nat.mul_one,ge_iff_le,if_pos (show 8≤l by omega),if_neg (show ¬ 50≤l by omega)]
  generalize Sort.median ltP d (a + q) (a + q * 2) (a + q * 3) 0 = R at hm ⊢
  unfold c_slices_choosePivotCmpFunc_pair_Pair
  simp [e1,e2,e3,e4,e5,e6,e7,e8,e9,e10,show (8 : Int)≤l by omega,show ¬ (50 : Int)≤l by omega,updF_app]
  refine sc_fam2 0 1 (by omega) hm (fun p => by simp) (fun p => ?_) (by simp) (by simp) ?_
  · by_cases hp : p = []
    · subst hp; simp [lkH]
    · simp [lkH,hp,Ne.symm hp]
  rw [two_C]
  simp
  rw [k1_slices_choosePivotCmpFunc_pair_Pair.eq_1]
  by_cases h0 : R.2 = 0
  · simp [h0,hintI]
    exact reth_fam rfl rfl (fun p => by simp)
  · by_cases h12 : R.2 = 12
    · simp [h12,hintI]
      exact reth_fam rfl rfl (fun p => by simp)
    · have h0' : ¬ (R.2 : Int) = 0 := by omega
      have h12' : ¬ (R.2 : Int) = 12 := by omega
      simp [h0,h12,h0',h12',hintI]
      exact reth_fam rfl rfl (fun p => by simp)
section
variable {n0 : Nat} {w0 : World} {I0 : Nat→Prop} {M0 : Nm→Nat→Prop} {m0 : Mu} {Q : Exit→Sta→Prop} {v : Nat}
theorem scan_le (lt : Sc→Sc→Bool) (d : Array Sc) (b : Nat) : ∀ (m i : Nat),b - i≤m→i≤b→i≤Sort.scanSorted lt d b i∧Sort.scanSorted lt d b i≤b
  | 0,i,h,hi => by rw [Sort.scanSorted,if_neg (by simp; omega)]; omega
  | m + 1,i,h,hi => by
    rw [Sort.scanSorted]
    split
    · rename_i hc
      simp at hc
      have := scan_le lt d b m (i + 1) (by omega) (by omega)
      omega
    · omega
theorem part_l1 {n a b : Nat} {k : Int} {d : Array Sc} {H : Hp} (hn : n≤900) (hb : b≤n) (hd : d.size = n) (hH : ∀ p,H (0 :: p) = (arF19 d v).F 0 p) : ∀ (m i : Nat),b - i≤m→1≤i→i≤b →
    (∀ (st : List (Nat × A)),Q (.exit 2) ⟨lk ([(0,arN n v 0),(1,iv a),(2,iv b),(3,cmpF),(9,iv (Sort.scanSorted ltP d b i)),(10,iv k)] ++ st),H⟩) →
    LoopC (cxh Tryz.prog w0 I0 M0 n0 m0) l1_slices_partialInsertionSortCmpFunc_pair_Pair Q ⟨lk [(0,arN n v 0),(1,iv a),(2,iv b),(3,cmpF),(9,iv i),(10,iv k)],H⟩ := by
  intro m
  induction m with
  | zero =>
    intro i hm h1 hi hq
    rw [Sort.scanSorted,if_neg (by simp; omega)] at hq
    refine loopC_once mixed l1_slices_partialInsertionSortCmpFunc_pair_Pair.eq_1 ?_
    simp [show ¬ (i : Int) < b by omega,show ¬ i < b by omega]
    rw [sc_guard]
    simp
    exact hq [(36,bv false)]
  | succ m ih =>
    intro i hm h1 hi hq
    by_cases hib : i < b
    · have h0 := hH []
      simp only [rpF_F] at h0
      have g1 := ar_get (d := d) (i := i) (by omega)
      have g0 := ar_get (d := d) (i := i - 1) (by omega)
      have e1 : IntKind.i64.wrap ((i : Int) + 1) = ((i + 1 : Nat) : Int) := by rw [i64_same (by omega) (by omega)]; omega
      have e2 : IntKind.i64.wrap ((i : Int) - 1) = ((i - 1 : Nat) : Int) := by rw [i64_same (by omega) (by omega)]; omega
      have hc := cmp0 d[i]! d[i - 1]!
      rw [Sort.scanSorted] at hq
      generalize d[i]! = x at g1 hc hq
      generalize d[i - 1]! = y at g0 hc hq
      refine loopC_once mixed l1_slices_partialInsertionSortCmpFunc_pair_Pair.eq_1 ?_
      simp [hib,show (i : Int) < b by omega,h0,g1,g0,e2,show (i : Int) < n by omega,show i < n by omega,show i - 1 < n by omega,show ((i - 1 : Nat) : Int) < n by omega,pr_agg]
      rw [sc_guard]
      simp
      refine sc_callv0 rfl (pick1_spec x y) (by simp) rfl ?_
      cases hL : ltP x y with
      | true =>
        rw [hL] at hc hq
        rw [if_neg (by simp)] at hq
        have hc' : cmpZ x.i y.i < 0 := by simpa using hc
        simp [hc']
        exact hq [(36,bv false)]
      | false =>
        rw [hL] at hc hq
        rw [if_pos (by simp [hib])] at hq
        have hc' : ¬ cmpZ x.i y.i < 0 := by simpa using hc
        simp [hc',e1]
        exact ih (i + 1) (by omega) (by omega) (by omega) hq
    · rw [Sort.scanSorted,if_neg (by simp; omega)] at hq
      refine loopC_once mixed l1_slices_partialInsertionSortCmpFunc_pair_Pair.eq_1 ?_
      simp [show ¬ (i : Int) < b by omega,hib]
      rw [sc_guard]
      simp
      exact hq [(36,bv false)]
end
theorem partial_eq (d : Array Sc) (a b : Nat) (hl : b - a < 50) : Sort.partialInsertionSort ltP d a b = (d,decide (Sort.scanSorted ltP d b (a + 1) = b)) := by
  unfold Sort.partialInsertionSort
  rw [Sort.partialIns]
  simp only
  split
  · rename_i h; simp [h]
  · rename_i h; simp [h,hl]
theorem partial_spec (d : Array Sc) (v a b : Nat) (hn : d.size≤900) (hab : a < b) (hb : b≤d.size) (hl : b - a < 50) : SpecF Tryz.prog 276 (fun r => [arN d.size v r,iv a,iv b,cmpF]) (arF19 d v) (fun _ => bv (Sort.partialInsertionSort ltP d a b).2) (arF19 (Sort.partialInsertionSort ltP d a b).1 v) := by
  rw [partial_eq d a b hl]
  refine specF_of t_slices_partialInsertionSortCmpFunc_pair_Pair (by simp) (famL_cons (famAr _ _) (famL_cons famA_v (famL_cons famA_v (famL_cons famA_cmpF famL_nil)))) famA_v fun w0 I0 M0 m0 => ?_
  have e1 : IntKind.i64.wrap ((a : Int) + 1) = ((a + 1 : Nat) : Int) := by rw [i64_same (by omega) (by omega)]; omega
  have e2 : IntKind.i64.wrap ((b : Int) - a) = ((b - a : Nat) : Int) := by rw [i64_same (by omega) (by omega)]; omega
  have hsc := scan_le ltP d b (b - (a + 1)) (a + 1) (by omega) (by omega)
  have l1 := fun (Q : Exit→Sta→Prop) (H : Hp) (k : Int) (hH : ∀ p,H (0 :: p) = (arF19 d v).F 0 p) => part_l1 (n0 := 141) (w0 := w0) (I0 := I0) (M0 := M0) (m0 := m0) (Q := Q) (v := v) (k := k) (a := a) hn hb rfl hH (b - (a + 1)) (a + 1) (Nat.le_refl _) (by omega) (by omega)
  generalize Sort.scanSorted ltP d b (a + 1) = z at hsc l1 ⊢
  unfold c_slices_partialInsertionSortCmpFunc_pair_Pair
  simp [e1]
  refine loopC_once mixed l4_slices_partialInsertionSortCmpFunc_pair_Pair.eq_1 ?_
  simp
  refine LoopC.le (le_list [(0,arN d.size v 0),(1,iv a),(2,iv b),(3,cmpF),(9,iv (a + 1 : Nat)),(10,iv 0)] (by simp)) ?_
  refine l1 _ _ 0 (fun p => by simp) fun st => ?_
  by_cases hz : z = b
  · simp [hz]
    exact reth_fam rfl rfl (fun p => by simp)
  · have hz' : ¬ (z : Int) = b := by omega
    simp [hz,hz',e2,show ((b - a : Nat) : Int) < 50 by omega]
    exact reth_fam rfl rfl (fun p => by simp)
section
variable {n0 : Nat} {w0 : World} {I0 : Nat→Prop} {M0 : Nm→Nat→Prop} {m0 : Mu} {Q : Exit→Sta→Prop} {v : Nat}
theorem pt_l1 {n a j : Nat} {z : Sc} {d : Array Sc} {H : Hp} (hn : n≤900) (ha : a < n) (hj : j < n) (hd : d.size = n) (hz : d[a]! = z) (hH : ∀ p,H (0 :: p) = (arF19 d v).F 0 p) : ∀ (m i : Nat),j + 1 - i≤m→i≤n →
    (∀ (st : List (Nat × A)),Q (.exit 0) ⟨lk ([(0,arN n v 0),(1,iv a),(4,cmpF),(12,iv (Sort.scanUp (fun x => ltP x z) d j i)),(13,iv j)] ++ st),H⟩) →
    LoopC (cxh Tryz.prog w0 I0 M0 n0 m0) l1_slices_partitionCmpFunc_pair_Pair Q ⟨lk [(0,arN n v 0),(1,iv a),(4,cmpF),(12,iv i),(13,iv j)],H⟩ := by
  intro m
  induction m with
  | zero =>
    intro i hm hi hq
    rw [Sort.scanUp,if_neg (by simp; omega)] at hq
    refine loopC_once mixed l1_slices_partitionCmpFunc_pair_Pair.eq_1 ?_
    simp [show ¬ (i : Int)≤j by omega,show ¬ i≤j by omega]
    rw [sc_guard]
    simp
    exact hq [(47,bv false)]
  | succ m ih =>
    intro i hm hi hq
    by_cases hij : i≤j
    · have h0 := hH []
      simp only [rpF_F] at h0
      have gi := ar_get (d := d) (i := i) (by omega)
      have ga := ar_get (d := d) (i := a) (by omega)
      rw [hz] at ga
      have e1 : IntKind.i64.wrap ((i : Int) + 1) = ((i + 1 : Nat) : Int) := by rw [i64_same (by omega) (by omega)]; omega
      rw [Sort.scanUp] at hq
      generalize d[i]! = x at gi hq
      have hc := cmp0 x z
      refine loopC_once mixed l1_slices_partitionCmpFunc_pair_Pair.eq_1 ?_
      simp [hij,show (i : Int)≤j by omega,h0,gi,ga,show (i : Int) < n by omega,show i < n by omega,ha,show (a : Int) < n by omega,pr_agg]
      rw [sc_guard]
      simp
      refine sc_callv0 rfl (pick1_spec x z) (by simp) rfl ?_
      cases hL : ltP x z with
      | true =>
        rw [hL] at hc hq
        have hc' : cmpZ x.i z.i < 0 := by simpa using hc
        rw [if_pos (by simp [hij])] at hq
        simp [hc',e1]
        exact ih (i + 1) (by omega) (by omega) hq
      | false =>
        rw [hL] at hc hq
        have hc' : ¬ cmpZ x.i z.i < 0 := by simpa using hc
        rw [if_neg (by simp)] at hq
        simp [hc']
        exact hq [(47,bv false)]
    · rw [Sort.scanUp,if_neg (by simp; omega)] at hq
      refine loopC_once mixed l1_slices_partitionCmpFunc_pair_Pair.eq_1 ?_
      simp [show ¬ (i : Int)≤j by omega,hij]
      rw [sc_guard]
      simp
      exact hq [(47,bv false)]
theorem pt_l3 {n a j : Nat} {z : Sc} {d : Array Sc} {H : Hp} (hn : n≤900) (ha : a < n) (hj : j < n) (hd : d.size = n) (hz : d[a]! = z) (hH : ∀ p,H (0 :: p) = (arF19 d v).F 0 p) : ∀ (m i : Nat),j + 1 - i≤m→i≤n →
    (∀ (st : List (Nat × A)),Q (.exit 6) ⟨lk ([(0,arN n v 0),(1,iv a),(4,cmpF),(12,iv (Sort.scanUp (fun x => ltP x z) d j i)),(13,iv j)] ++ st),H⟩) →
    LoopC (cxh Tryz.prog w0 I0 M0 n0 m0) l3_slices_partitionCmpFunc_pair_Pair Q ⟨lk [(0,arN n v 0),(1,iv a),(4,cmpF),(12,iv i),(13,iv j)],H⟩ := by
  intro m
  induction m with
  | zero =>
    intro i hm hi hq
    rw [Sort.scanUp,if_neg (by simp; omega)] at hq
    refine loopC_once mixed l3_slices_partitionCmpFunc_pair_Pair.eq_1 ?_
    simp [show ¬ (i : Int)≤j by omega,show ¬ i≤j by omega]
    rw [sc_guard]
    simp
    exact hq [(120,bv false)]
  | succ m ih =>
    intro i hm hi hq
    by_cases hij : i≤j
    · have h0 := hH []
      simp only [rpF_F] at h0
      have gi := ar_get (d := d) (i := i) (by omega)
      have ga := ar_get (d := d) (i := a) (by omega)
      rw [hz] at ga
      have e1 : IntKind.i64.wrap ((i : Int) + 1) = ((i + 1 : Nat) : Int) := by rw [i64_same (by omega) (by omega)]; omega
      rw [Sort.scanUp] at hq
      generalize d[i]! = x at gi hq
      have hc := cmp0 x z
      refine loopC_once mixed l3_slices_partitionCmpFunc_pair_Pair.eq_1 ?_
      simp [hij,show (i : Int)≤j by omega,h0,gi,ga,show (i : Int) < n by omega,show i < n by omega,ha,show (a : Int) < n by omega,pr_agg]
      rw [sc_guard]
      simp
      refine sc_callv0 rfl (pick1_spec x z) (by simp) rfl ?_
      cases hL : ltP x z with
      | true =>
        rw [hL] at hc hq
        have hc' : cmpZ x.i z.i < 0 := by simpa using hc
        rw [if_pos (by simp [hij])] at hq
        simp [hc',e1]
        exact ih (i + 1) (by omega) (by omega) hq
      | false =>
        rw [hL] at hc hq
        have hc' : ¬ cmpZ x.i z.i < 0 := by simpa using hc
        rw [if_neg (by simp)] at hq
        simp [hc']
        exact hq [(120,bv false)]
    · rw [Sort.scanUp,if_neg (by simp; omega)] at hq
      refine loopC_once mixed l3_slices_partitionCmpFunc_pair_Pair.eq_1 ?_
      simp [show ¬ (i : Int)≤j by omega,hij]
      rw [sc_guard]
      simp
      exact hq [(120,bv false)]
theorem pt_l2 {n a i : Nat} {z : Sc} {d : Array Sc} {H : Hp} (hn : n≤900) (ha : a < n) (hi : i≤n) (hi1 : 1≤i) (hd : d.size = n) (hz : d[a]! = z) (hH : ∀ p,H (0 :: p) = (arF19 d v).F 0 p) : ∀ (j : Nat),j < n →
    (∀ (st : List (Nat × A)),Q (.exit 2) ⟨lk ([(0,arN n v 0),(1,iv a),(4,cmpF),(12,iv i),(13,iv (Sort.scanDown (fun x => !ltP x z) d i j))] ++ st),H⟩) →
    LoopC (cxh Tryz.prog w0 I0 M0 n0 m0) l2_slices_partitionCmpFunc_pair_Pair Q ⟨lk [(0,arN n v 0),(1,iv a),(4,cmpF),(12,iv i),(13,iv j)],H⟩ := by
  intro j
  induction j with
  | zero =>
    intro hj hq
    rw [Sort.scanDown] at hq
    refine loopC_once mixed l2_slices_partitionCmpFunc_pair_Pair.eq_1 ?_
    simp [show ¬ (i : Int)≤0 by omega,show ¬ i = 0 by omega]
    rw [sc_guard]
    simp
    exact hq [(66,bv false)]
  | succ j ih =>
    intro hj hq
    rw [Sort.scanDown] at hq
    by_cases hij : i≤j + 1
    · have h0 := hH []
      simp only [rpF_F] at h0
      have gi := ar_get (d := d) (i := j + 1) (by omega)
      have ga := ar_get (d := d) (i := a) (by omega)
      rw [hz] at ga
      have e1 : IntKind.i64.wrap (((j + 1 : Nat) : Int) - 1) = (j : Int) := by rw [i64_same (by omega) (by omega)]; omega
      have e2 : IntKind.i64.wrap (j : Int) = (j : Int) := i64_same (by omega) (by omega)
      generalize d[j + 1]! = x at gi hq
      have hc := cmp0 x z
      have hij' : (i : Int)≤((j + 1 : Nat) : Int) := by omega
      have hj' : ((j + 1 : Nat) : Int) < n := by omega
      generalize hjj : j + 1 = jj at gi hij hij' hj hj' e1 hq ⊢
      refine loopC_once mixed l2_slices_partitionCmpFunc_pair_Pair.eq_1 ?_
      simp [hij,hij',h0,gi,ga,hj,hj',ha,show (a : Int) < n by omega,pr_agg]
      rw [sc_guard]
      simp
      refine sc_callv0 rfl (pick1_spec x z) (by simp) rfl ?_
      cases hL : ltP x z with
      | true =>
        rw [hL] at hc hq
        have hc' : cmpZ x.i z.i < 0 := by simpa using hc
        rw [if_neg (by simp)] at hq
        simp [hc']
        exact hq [(66,bv false)]
      | false =>
        rw [hL] at hc hq
        have hc' : ¬ cmpZ x.i z.i < 0 := by simpa using hc
        rw [if_pos (by simp [hij])] at hq
        simp [hc',e1]
        exact ih (by omega) hq
    · rw [if_neg (by simp; omega)] at hq
      refine loopC_once mixed l2_slices_partitionCmpFunc_pair_Pair.eq_1 ?_
      have hij' : ¬ (i : Int)≤((j + 1 : Nat) : Int) := by omega
      generalize hjj : j + 1 = jj at hij hij' hq ⊢
      simp [hij,hij']
      rw [sc_guard]
      simp
      exact hq [(66,bv false)]
theorem pt_l4 {n a i : Nat} {z : Sc} {d : Array Sc} {H : Hp} (hn : n≤900) (ha : a < n) (hi : i≤n) (hi1 : 1≤i) (hd : d.size = n) (hz : d[a]! = z) (hH : ∀ p,H (0 :: p) = (arF19 d v).F 0 p) : ∀ (j : Nat),j < n →
    (∀ (st : List (Nat × A)),Q (.exit 8) ⟨lk ([(0,arN n v 0),(1,iv a),(4,cmpF),(12,iv i),(13,iv (Sort.scanDown (fun x => !ltP x z) d i j))] ++ st),H⟩) →
    LoopC (cxh Tryz.prog w0 I0 M0 n0 m0) l4_slices_partitionCmpFunc_pair_Pair Q ⟨lk [(0,arN n v 0),(1,iv a),(4,cmpF),(12,iv i),(13,iv j)],H⟩ := by
  intro j
  induction j with
  | zero =>
    intro hj hq
    rw [Sort.scanDown] at hq
    refine loopC_once mixed l4_slices_partitionCmpFunc_pair_Pair.eq_1 ?_
    simp [show ¬ (i : Int)≤0 by omega,show ¬ i = 0 by omega]
    rw [sc_guard]
    simp
    exact hq [(139,bv false)]
  | succ j ih =>
    intro hj hq
    rw [Sort.scanDown] at hq
    by_cases hij : i≤j + 1
    · have h0 := hH []
      simp only [rpF_F] at h0
      have gi := ar_get (d := d) (i := j + 1) (by omega)
      have ga := ar_get (d := d) (i := a) (by omega)
      rw [hz] at ga
      have e1 : IntKind.i64.wrap (((j + 1 : Nat) : Int) - 1) = (j : Int) := by rw [i64_same (by omega) (by omega)]; omega
      have e2 : IntKind.i64.wrap (j : Int) = (j : Int) := i64_same (by omega) (by omega)
      generalize d[j + 1]! = x at gi hq
      have hc := cmp0 x z
      have hij' : (i : Int)≤((j + 1 : Nat) : Int) := by omega
      have hj' : ((j + 1 : Nat) : Int) < n := by omega
      generalize hjj : j + 1 = jj at gi hij hij' hj hj' e1 hq ⊢
      refine loopC_once mixed l4_slices_partitionCmpFunc_pair_Pair.eq_1 ?_
      simp [hij,hij',h0,gi,ga,hj,hj',ha,show (a : Int) < n by omega,pr_agg]
      rw [sc_guard]
      simp
      refine sc_callv0 rfl (pick1_spec x z) (by simp) rfl ?_
      cases hL : ltP x z with
      | true =>
        rw [hL] at hc hq
        have hc' : cmpZ x.i z.i < 0 := by simpa using hc
        rw [if_neg (by simp)] at hq
        simp [hc']
        exact hq [(139,bv false)]
      | false =>
        rw [hL] at hc hq
        have hc' : ¬ cmpZ x.i z.i < 0 := by simpa using hc
        rw [if_pos (by simp [hij])] at hq
        simp [hc',e1]
        exact ih (by omega) hq
    · rw [if_neg (by simp; omega)] at hq
      refine loopC_once mixed l4_slices_partitionCmpFunc_pair_Pair.eq_1 ?_
      have hij' : ¬ (i : Int)≤((j + 1 : Nat) : Int) := by omega
      generalize hjj : j + 1 = jj at hij hij' hq ⊢
      simp [hij,hij']
      rw [sc_guard]
      simp
      exact hq [(139,bv false)]
theorem pe_l1 {n a j : Nat} {z : Sc} {d : Array Sc} {H : Hp} (hn : n≤900) (ha : a < n) (hj : j < n) (hd : d.size = n) (hz : d[a]! = z) (hH : ∀ p,H (0 :: p) = (arF19 d v).F 0 p) : ∀ (m i : Nat),j + 1 - i≤m→i≤n →
    (∀ (st : List (Nat × A)),Q (.exit 2) ⟨lk ([(0,arN n v 0),(1,iv a),(4,cmpF),(11,iv (Sort.scanUp (fun x => !ltP z x) d j i)),(12,iv j)] ++ st),H⟩) →
    LoopC (cxh Tryz.prog w0 I0 M0 n0 m0) l1_slices_partitionEqualCmpFunc_pair_Pair Q ⟨lk [(0,arN n v 0),(1,iv a),(4,cmpF),(11,iv i),(12,iv j)],H⟩ := by
  intro m
  induction m with
  | zero =>
    intro i hm hi hq
    rw [Sort.scanUp,if_neg (by simp; omega)] at hq
    refine loopC_once mixed l1_slices_partitionEqualCmpFunc_pair_Pair.eq_1 ?_
    simp [show ¬ (i : Int)≤j by omega,show ¬ i≤j by omega]
    rw [sc_guard]
    simp
    exact hq [(47,bv false)]
  | succ m ih =>
    intro i hm hi hq
    by_cases hij : i≤j
    · have h0 := hH []
      simp only [rpF_F] at h0
      have gi := ar_get (d := d) (i := i) (by omega)
      have ga := ar_get (d := d) (i := a) (by omega)
      rw [hz] at ga
      have e1 : IntKind.i64.wrap ((i : Int) + 1) = ((i + 1 : Nat) : Int) := by rw [i64_same (by omega) (by omega)]; omega
      rw [Sort.scanUp] at hq
      generalize d[i]! = x at gi hq
      have hc := cmp0 z x
      refine loopC_once mixed l1_slices_partitionEqualCmpFunc_pair_Pair.eq_1 ?_
      simp [hij,show (i : Int)≤j by omega,h0,gi,ga,show (i : Int) < n by omega,show i < n by omega,ha,show (a : Int) < n by omega,pr_agg]
      rw [sc_guard]
      simp
      refine sc_callv0 rfl (pick1_spec z x) (by simp) rfl ?_
      cases hL : ltP z x with
      | true =>
        rw [hL] at hc hq
        have hc' : cmpZ z.i x.i < 0 := by simpa using hc
        rw [if_neg (by simp)] at hq
        simp [hc']
        exact hq [(47,bv false)]
      | false =>
        rw [hL] at hc hq
        have hc' : ¬ cmpZ z.i x.i < 0 := by simpa using hc
        rw [if_pos (by simp [hij])] at hq
        simp [hc',e1]
        exact ih (i + 1) (by omega) (by omega) hq
    · rw [Sort.scanUp,if_neg (by simp; omega)] at hq
      refine loopC_once mixed l1_slices_partitionEqualCmpFunc_pair_Pair.eq_1 ?_
      simp [show ¬ (i : Int)≤j by omega,hij]
      rw [sc_guard]
      simp
      exact hq [(47,bv false)]
theorem pe_l2 {n a i : Nat} {z : Sc} {d : Array Sc} {H : Hp} (hn : n≤900) (ha : a < n) (hi : i≤n) (hi1 : 1≤i) (hd : d.size = n) (hz : d[a]! = z) (hH : ∀ p,H (0 :: p) = (arF19 d v).F 0 p) : ∀ (j : Nat),j < n →
    (∀ (st : List (Nat × A)),Q (.exit 4) ⟨lk ([(0,arN n v 0),(1,iv a),(4,cmpF),(11,iv i),(12,iv (Sort.scanDown (fun x => ltP z x) d i j))] ++ st),H⟩) →
    LoopC (cxh Tryz.prog w0 I0 M0 n0 m0) l2_slices_partitionEqualCmpFunc_pair_Pair Q ⟨lk [(0,arN n v 0),(1,iv a),(4,cmpF),(11,iv i),(12,iv j)],H⟩ := by
  intro j
  induction j with
  | zero =>
    intro hj hq
    rw [Sort.scanDown] at hq
    refine loopC_once mixed l2_slices_partitionEqualCmpFunc_pair_Pair.eq_1 ?_
    simp [show ¬ (i : Int)≤0 by omega,show ¬ i = 0 by omega]
    rw [sc_guard]
    simp
    exact hq [(65,bv false)]
  | succ j ih =>
    intro hj hq
    rw [Sort.scanDown] at hq
    by_cases hij : i≤j + 1
    · have h0 := hH []
      simp only [rpF_F] at h0
      have gi := ar_get (d := d) (i := j + 1) (by omega)
      have ga := ar_get (d := d) (i := a) (by omega)
      rw [hz] at ga
      have e1 : IntKind.i64.wrap (((j + 1 : Nat) : Int) - 1) = (j : Int) := by rw [i64_same (by omega) (by omega)]; omega
      have e2 : IntKind.i64.wrap (j : Int) = (j : Int) := i64_same (by omega) (by omega)
      generalize d[j + 1]! = x at gi hq
      have hc := cmp0 z x
      have hij' : (i : Int)≤((j + 1 : Nat) : Int) := by omega
      have hj' : ((j + 1 : Nat) : Int) < n := by omega
      generalize hjj : j + 1 = jj at gi hij hij' hj hj' e1 hq ⊢
      refine loopC_once mixed l2_slices_partitionEqualCmpFunc_pair_Pair.eq_1 ?_
      simp [hij,hij',h0,gi,ga,hj,hj',ha,show (a : Int) < n by omega,pr_agg]
      rw [sc_guard]
      simp
      refine sc_callv0 rfl (pick1_spec z x) (by simp) rfl ?_
      cases hL : ltP z x with
      | true =>
        rw [hL] at hc hq
        have hc' : cmpZ z.i x.i < 0 := by simpa using hc
        rw [if_pos (by simp [hij])] at hq
        simp [hc',e1]
        exact ih (by omega) hq
      | false =>
        rw [hL] at hc hq
        have hc' : ¬ cmpZ z.i x.i < 0 := by simpa using hc
        rw [if_neg (by simp)] at hq
        simp [hc']
        exact hq [(65,bv false)]
    · rw [if_neg (by simp; omega)] at hq
      refine loopC_once mixed l2_slices_partitionEqualCmpFunc_pair_Pair.eq_1 ?_
      have hij' : ¬ (i : Int)≤((j + 1 : Nat) : Int) := by omega
      generalize hjj : j + 1 = jj at hij hij' hq ⊢
      simp [hij,hij']
      rw [sc_guard]
      simp
      exact hq [(65,bv false)]
theorem scanUp_bd (p : Sc→Bool) (d : Array Sc) (j : Nat) : ∀ (m i : Nat),j + 1 - i≤m→i≤Sort.scanUp p d j i∧(Sort.scanUp p d j i≤j + 1∨Sort.scanUp p d j i = i)
  | 0,i,h => by rw [Sort.scanUp,if_neg (by simp; omega)]; exact ⟨Nat.le_refl _,.inr rfl⟩
  | m + 1,i,h => by
    rw [Sort.scanUp]
    split
    · rename_i hc
      simp at hc
      have := scanUp_bd p d j m (i + 1) (by omega)
      refine ⟨by omega,.inl ?_⟩
      rcases this.2 with h | h <;> omega
    · exact ⟨Nat.le_refl _,.inr rfl⟩
theorem scanDown_bd (p : Sc→Bool) (d : Array Sc) (i : Nat) (hi : 1≤i) : ∀ j : Nat,Sort.scanDown p d i j≤j∧(i - 1≤Sort.scanDown p d i j∨Sort.scanDown p d i j = j)
  | 0 => by rw [Sort.scanDown]; exact ⟨Nat.le_refl _,.inr rfl⟩
  | j + 1 => by
    rw [Sort.scanDown]
    split
    · rename_i hc
      simp at hc
      have := scanDown_bd p d i hi j
      refine ⟨by omega,?_⟩
      rcases this.2 with h | h
      · exact .inl h
      · left; omega
    · exact ⟨Nat.le_refl _,.inr rfl⟩
theorem pt_l5 {n a : Nat} (hn : n≤900) (ha : a < n) : ∀ (m i j : Nat) (d : Array Sc) (H : Hp),j + 1 - i≤m→a + 1≤i→i≤n→j < n→a≤j→i≤j + 2→d.size = n→(∀ p,H (0 :: p) = (arF19 d v).F 0 p) →
    (∀ (H' : Hp) (x : A) (st : List (Nat × A)),(∀ p,H' (0 :: p) = (arF19 (Sort.partLoop ltP a i j d).2 v).F 0 p)→a≤(Sort.partLoop ltP a i j d).1→(Sort.partLoop ltP a i j d).1 < n→(Sort.partLoop ltP a i j d).2.size = n →
      Q (.exit 4) ⟨lk ([(0,arN n v 0),(1,iv a),(4,cmpF),(12,x),(13,iv (Sort.partLoop ltP a i j d).1)] ++ st),H'⟩) →
    LoopC (cxh Tryz.prog w0 I0 M0 n0 m0) l5_slices_partitionCmpFunc_pair_Pair Q ⟨lk [(0,arN n v 0),(1,iv a),(4,cmpF),(12,iv i),(13,iv j)],H⟩ := by
  intro m
  induction m using Nat.strongRecOn with
  | _ m ih =>
    intro i j d H hm h1 hi hj haj hij hd hH hq
    rw [Sort.partLoop] at hq
    have hu := scanUp_bd (fun x => ltP x d[a]!) d j (j + 1 - i) i (Nat.le_refl _)
    have lu := fun (Q : Exit→Sta→Prop) => pt_l3 (n0 := n0) (w0 := w0) (I0 := I0) (M0 := M0) (m0 := m0) (Q := Q) (v := v) (a := a) (j := j) (H := H) hn ha hj hd rfl hH (j + 1 - i) i (Nat.le_refl _) hi
    generalize Sort.scanUp (fun x => ltP x d[a]!) d j i = i2 at hq hu lu
    have hi2 : i2≤n := by rcases hu.2 with h | h <;> omega
    have hdn := scanDown_bd (fun x => !ltP x d[a]!) d i2 (by omega) j
    have ld := fun (Q : Exit→Sta→Prop) => pt_l4 (n0 := n0) (w0 := w0) (I0 := I0) (M0 := M0) (m0 := m0) (Q := Q) (v := v) (a := a) (i := i2) (H := H) hn ha hi2 (by omega) hd rfl hH j hj
    generalize Sort.scanDown (fun x => !ltP x d[a]!) d i2 j = j2 at hq hdn ld
    refine loopC_once mixed l5_slices_partitionCmpFunc_pair_Pair.eq_1 ?_
    simp
    refine lu _ fun st => ?_
    simp
    refine ld _ fun st2 => ?_
    by_cases hc : j2 < i2
    · rw [if_pos hc] at hq
      simp [hc,show (j2 : Int) < i2 by omega]
      exact hq H (iv i2) [(144,bv true)] hH (by rcases hdn.2 with h | h <;> omega) (by omega) hd
    · rw [if_neg hc] at hq
      have hg : j2 - 1 + 1 - (i2 + 1) < j + 1 - i := by omega
      rw [dif_pos hg] at hq
      have h0 := hH []
      simp only [rpF_F] at h0
      have e1 : IntKind.i64.wrap ((i2 : Int) + 1) = ((i2 + 1 : Nat) : Int) := by rw [i64_same (by omega) (by omega)]; omega
      have e2 : IntKind.i64.wrap ((j2 : Int) - 1) = ((j2 - 1 : Nat) : Int) := by rw [i64_same (by omega) (by omega)]; omega
      have g1 := ar_get (d := d) (i := i2) (by omega)
      have g0 := ar_get (d := d) (i := j2) (by omega)
      have g2 := ar_get2 (d := d) (i := i2) (j := j2) (by omega) (by omega)
      have hs := ar_swp (d := d) (i := i2) (j := j2)
      generalize d[i2]! = x at g1 g2 hs
      generalize d[j2]! = y at g0 g2 hs
      simp [hc,show ¬ (j2 : Int) < i2 by omega,h0,g0,g1,g2,e1,e2,show (i2 : Int) < n by omega,show (j2 : Int) < n by omega,show i2 < n by omega,show j2 < n by omega,pr_agg]
      refine LoopC.le (le_list [(0,arN n v 0),(1,iv a),(4,cmpF),(12,iv (i2 + 1 : Nat)),(13,iv (j2 - 1 : Nat))] (by simp)) ?_
      exact ih (j2 - 1 + 1 - (i2 + 1)) (by omega) (i2 + 1) (j2 - 1) (Sort.swp d i2 j2) _ (Nat.le_refl _) (by omega) (by omega) (by omega) (by omega) (by omega) (by rw [swp_size]; exact hd) (fun p => by by_cases hp : p = [] <;> simp [hp,hs,updF_app,hH]) hq
theorem pe_l3 {n a : Nat} (hn : n≤900) (ha : a < n) : ∀ (m i j : Nat) (d : Array Sc) (H : Hp),j + 1 - i≤m→a + 1≤i→i≤n→j < n→a≤j→i≤j + 2→d.size = n→(∀ p,H (0 :: p) = (arF19 d v).F 0 p) →
    (∀ (H' : Hp) (x : A) (st : List (Nat × A)),(∀ p,H' (0 :: p) = (arF19 (Sort.partEqLoop ltP a i j d).2 v).F 0 p)→a < (Sort.partEqLoop ltP a i j d).1→(Sort.partEqLoop ltP a i j d).1≤n→(Sort.partEqLoop ltP a i j d).2.size = n →
      Q (.exit 0) ⟨lk ([(0,arN n v 0),(1,iv a),(4,cmpF),(11,iv (Sort.partEqLoop ltP a i j d).1),(12,x)] ++ st),H'⟩) →
    LoopC (cxh Tryz.prog w0 I0 M0 n0 m0) l3_slices_partitionEqualCmpFunc_pair_Pair Q ⟨lk [(0,arN n v 0),(1,iv a),(4,cmpF),(11,iv i),(12,iv j)],H⟩ := by
  intro m
  induction m using Nat.strongRecOn with
  | _ m ih =>
    intro i j d H hm h1 hi hj haj hij hd hH hq
    rw [Sort.partEqLoop] at hq
    have hu := scanUp_bd (fun x => !ltP d[a]! x) d j (j + 1 - i) i (Nat.le_refl _)
    have lu := fun (Q : Exit→Sta→Prop) => pe_l1 (n0 := n0) (w0 := w0) (I0 := I0) (M0 := M0) (m0 := m0) (Q := Q) (v := v) (a := a) (j := j) (H := H) hn ha hj hd rfl hH (j + 1 - i) i (Nat.le_refl _) hi
    generalize Sort.scanUp (fun x => !ltP d[a]! x) d j i = i2 at hq hu lu
    have hi2 : i2≤n := by rcases hu.2 with h | h <;> omega
    have hdn := scanDown_bd (fun x => ltP d[a]! x) d i2 (by omega) j
    have ld := fun (Q : Exit→Sta→Prop) => pe_l2 (n0 := n0) (w0 := w0) (I0 := I0) (M0 := M0) (m0 := m0) (Q := Q) (v := v) (a := a) (i := i2) (H := H) hn ha hi2 (by omega) hd rfl hH j hj
    generalize Sort.scanDown (fun x => ltP d[a]! x) d i2 j = j2 at hq hdn ld
    refine loopC_once mixed l3_slices_partitionEqualCmpFunc_pair_Pair.eq_1 ?_
    simp
    refine lu _ fun st => ?_
    simp
    refine ld _ fun st2 => ?_
    by_cases hc : j2 < i2
    · rw [if_pos hc] at hq
      simp [hc,show (j2 : Int) < i2 by omega]
      exact hq H (iv j2) [(70,bv true)] hH (by omega) hi2 hd
    · rw [if_neg hc] at hq
      have hg : j2 - 1 + 1 - (i2 + 1) < j + 1 - i := by omega
      rw [dif_pos hg] at hq
      have h0 := hH []
      simp only [rpF_F] at h0
      have e1 : IntKind.i64.wrap ((i2 : Int) + 1) = ((i2 + 1 : Nat) : Int) := by rw [i64_same (by omega) (by omega)]; omega
      have e2 : IntKind.i64.wrap ((j2 : Int) - 1) = ((j2 - 1 : Nat) : Int) := by rw [i64_same (by omega) (by omega)]; omega
      have g1 := ar_get (d := d) (i := i2) (by omega)
      have g0 := ar_get (d := d) (i := j2) (by omega)
      have g2 := ar_get2 (d := d) (i := i2) (j := j2) (by omega) (by omega)
      have hs := ar_swp (d := d) (i := i2) (j := j2)
      generalize d[i2]! = x at g1 g2 hs
      generalize d[j2]! = y at g0 g2 hs
      simp [hc,show ¬ (j2 : Int) < i2 by omega,h0,g0,g1,g2,e1,e2,show (i2 : Int) < n by omega,show (j2 : Int) < n by omega,show i2 < n by omega,show j2 < n by omega,pr_agg]
      refine LoopC.le (le_list [(0,arN n v 0),(1,iv a),(4,cmpF),(11,iv (i2 + 1 : Nat)),(12,iv (j2 - 1 : Nat))] (by simp)) ?_
      exact ih (j2 - 1 + 1 - (i2 + 1)) (by omega) (i2 + 1) (j2 - 1) (Sort.swp d i2 j2) _ (Nat.le_refl _) (by omega) (by omega) (by omega) (by omega) (by omega) (by rw [swp_size]; exact hd) (fun p => by by_cases hp : p = [] <;> simp [hp,hs,updF_app,hH]) hq
end
theorem partition_spec (d : Array Sc) (v a b q : Nat) (hn : d.size≤900) (hab : a + 2≤b) (hb : b≤d.size) (hq : q < d.size) : SpecF Tryz.prog 278 (fun r => [arN d.size v r,iv a,iv b,iv q,cmpF]) (arF19 d v) (fun _ => .tup [iv (Sort.partition ltP d a b q).1,bv (Sort.partition ltP d a b q).2.1]) (arF19 (Sort.partition ltP d a b q).2.2 v) := by
  refine specF_of t_slices_partitionCmpFunc_pair_Pair (by simp) (famL_cons (famAr _ _) (famL_cons famA_v (famL_cons famA_v (famL_cons famA_v (famL_cons famA_cmpF famL_nil))))) (famA_tup (famL_cons famA_v (famL_cons famA_v famL_nil))) fun w0 I0 M0 m0 => ?_
  obtain ⟨n,hnn⟩ : ∃ n,d.size = n := ⟨_,rfl⟩
  rw [hnn] at hn hb hq ⊢
  have e1 : IntKind.i64.wrap ((a : Int) + 1) = ((a + 1 : Nat) : Int) := by rw [i64_same (by omega) (by omega)]; omega
  have e2 : IntKind.i64.wrap ((b : Int) - 1) = ((b - 1 : Nat) : Int) := by rw [i64_same (by omega) (by omega)]; omega
  have g1 := ar_get (d := d) (i := a) (by omega)
  have g0 := ar_get (d := d) (i := q) (by omega)
  have g2 := ar_get2 (d := d) (i := a) (j := q) (by omega) (by omega)
  have hs := ar_swp (d := d) (i := a) (j := q)
  have hsz : (Sort.swp d a q).size = n := by rw [swp_size]; exact hnn
  obtain ⟨R,hR⟩ : ∃ R,R = Sort.partition ltP d a b q := ⟨_,rfl⟩
  rw [← hR]
  unfold Sort.partition at hR
  generalize d[a]! = x at g1 g2 hs
  generalize d[q]! = y at g0 g2 hs
  generalize hd1 : Sort.swp d a q = d1 at hs hsz hR
  have hu := scanUp_bd (fun x => ltP x d1[a]!) d1 (b - 1) (b - 1 + 1 - (a + 1)) (a + 1) (Nat.le_refl _)
  have lu := fun (Q : Exit→Sta→Prop) (H : Hp) (hH : ∀ p,H (0 :: p) = (arF19 d1 v).F 0 p) => pt_l1 (n0 := 178) (w0 := w0) (I0 := I0) (M0 := M0) (m0 := m0) (Q := Q) (v := v) (a := a) (j := b - 1) (H := H) hn (by omega) (by omega) hsz rfl hH (b - 1 + 1 - (a + 1)) (a + 1) (Nat.le_refl _) (by omega)
  simp only at hR
  generalize Sort.scanUp (fun x => ltP x d1[a]!) d1 (b - 1) (a + 1) = i2 at hR hu lu
  have hi2 : i2≤n := by rcases hu.2 with h | h <;> omega
  have hdn := scanDown_bd (fun x => !ltP x d1[a]!) d1 i2 (by omega) (b - 1)
  have ld := fun (Q : Exit→Sta→Prop) (H : Hp) (hH : ∀ p,H (0 :: p) = (arF19 d1 v).F 0 p) => pt_l2 (n0 := 178) (w0 := w0) (I0 := I0) (M0 := M0) (m0 := m0) (Q := Q) (v := v) (a := a) (i := i2) (H := H) hn (by omega) hi2 (by omega) hsz rfl hH (b - 1) (by omega)
  generalize Sort.scanDown (fun x => !ltP x d1[a]!) d1 i2 (b - 1) = j2 at hR hdn ld
  have hj2 : a≤j2 := by rcases hdn.2 with h | h <;> omega
  have hj2n : j2 < n := by omega
  unfold c_slices_partitionCmpFunc_pair_Pair
  simp [g0,g1,g2,e1,e2,show (a : Int) < n by omega,show (q : Int) < n by omega,show a < n by omega,hq,pr_agg,updF_app]
  refine LoopC.le (le_list [(0,arN n v 0),(1,iv a),(4,cmpF),(12,iv (a + 1 : Nat)),(13,iv (b - 1 : Nat))] (by simp)) ?_
  have hH1 : ∀ p,(ov 0 (updF ((arF19 d v).F 0) [] ⟨v,.arr 2 (((d.toList.map prA).set a (prA y)).set q (prA x))⟩) (lkH []) : Hp) (0 :: p) = (arF19 d1 v).F 0 p := fun p => by by_cases hp : p = [] <;> simp [hp,hs,updF_app]
  refine lu _ _ hH1 fun st => ?_
  simp
  refine ld _ _ hH1 fun st2 => ?_
  have m1 := ar_get (d := d1) (i := a) (by omega)
  have m2 := ar_get (d := d1) (i := j2) (by omega)
  by_cases hc : j2 < i2
  · rw [if_pos hc] at hR
    subst hR
    have m3 := ar_get2 (d := d1) (i := j2) (j := a) (by omega) (by omega)
    have ms := ar_swp (d := d1) (i := j2) (j := a)
    rw [hs] at m1 m2 m3 ms
    simp only
    generalize d1[a]! = z at m1 m3 ms
    generalize d1[j2]! = u at m2 m3 ms
    generalize hL : (((d.toList.map prA).set a (prA y)).set q (prA x)) = L at *
    simp [hc,show (j2 : Int) < i2 by omega,m1,m2,m3,updF_app,show (a : Int) < n by omega,show (j2 : Int) < n by omega,show a < n by omega,hj2n,pr_agg]
    exact reth_fam rfl rfl (fun p => by by_cases hp : p = [] <;> simp [hp,ms,updF_app])
  · rw [if_neg hc] at hR
    have e3 : IntKind.i64.wrap ((i2 : Int) + 1) = ((i2 + 1 : Nat) : Int) := by rw [i64_same (by omega) (by omega)]; omega
    have e4 : IntKind.i64.wrap ((j2 : Int) - 1) = ((j2 - 1 : Nat) : Int) := by rw [i64_same (by omega) (by omega)]; omega
    have m1 := ar_get (d := d1) (i := i2) (by omega)
    have m3 := ar_get2 (d := d1) (i := i2) (j := j2) (by omega) (by omega)
    have ms := ar_swp (d := d1) (i := i2) (j := j2)
    have hsz2 : (Sort.swp d1 i2 j2).size = n := by rw [swp_size]; exact hsz
    rw [hs] at m1 m2 m3 ms
    generalize d1[i2]! = z at m1 m3 ms
    generalize d1[j2]! = u at m2 m3 ms
    generalize hd2 : Sort.swp d1 i2 j2 = d2 at ms hsz2 hR
    have l5 := fun (Q : Exit→Sta→Prop) (H : Hp) (hH : ∀ p,H (0 :: p) = (arF19 d2 v).F 0 p) => pt_l5 (n0 := 178) (w0 := w0) (I0 := I0) (M0 := M0) (m0 := m0) (Q := Q) (v := v) hn (show a < n by omega) (j2 - 1 + 1 - (i2 + 1)) (i2 + 1) (j2 - 1) d2 H (Nat.le_refl _) (by omega) (by omega) (by omega) (by omega) (by omega) hsz2 hH
    generalize Sort.partLoop ltP a (i2 + 1) (j2 - 1) d2 = T at hR l5
    generalize hL : (((d.toList.map prA).set a (prA y)).set q (prA x)) = L at *
    simp [hc,show ¬ (j2 : Int) < i2 by omega,m1,m2,m3,e3,e4,updF_app,show (i2 : Int) < n by omega,show (j2 : Int) < n by omega,show i2 < n by omega,hj2n,pr_agg]
    refine LoopC.le (le_list [(0,arN n v 0),(1,iv a),(4,cmpF),(12,iv (i2 + 1 : Nat)),(13,iv (j2 - 1 : Nat))] (by simp)) ?_
    refine l5 _ _ (fun p => by by_cases hp : p = [] <;> simp [hp,ms,updF_app]) fun H' xx st3 hT t1 t2 t3 => ?_
    have h0 := hT []
    simp only [rpF_F] at h0
    have k1 := ar_get (d := T.2) (i := a) (by omega)
    have k2 := ar_get (d := T.2) (i := T.1) (by omega)
    have k3 := ar_get2 (d := T.2) (i := T.1) (j := a) (by omega) (by omega)
    have ks := ar_swp (d := T.2) (i := T.1) (j := a)
    subst hR
    simp only
    generalize T.2[a]! = z' at k1 k3 ks
    generalize T.2[T.1]! = u' at k2 k3 ks
    simp [h0,k1,k2,k3,show (a : Int) < n by omega,show (T.1 : Int) < n by omega,show a < n by omega,t2,pr_agg]
    exact reth_fam rfl rfl (fun p => by by_cases hp : p = [] <;> simp [hp,ks,hT,updF_app])
theorem partEq_spec (d : Array Sc) (v a b q : Nat) (hn : d.size≤900) (hab : a + 2≤b) (hb : b≤d.size) (hq : q < d.size) : SpecF Tryz.prog 277 (fun r => [arN d.size v r,iv a,iv b,iv q,cmpF]) (arF19 d v) (fun _ => iv (Sort.partitionEqual ltP d a b q).1) (arF19 (Sort.partitionEqual ltP d a b q).2 v) := by
  refine specF_of t_slices_partitionEqualCmpFunc_pair_Pair (by simp) (famL_cons (famAr _ _) (famL_cons famA_v (famL_cons famA_v (famL_cons famA_v (famL_cons famA_cmpF famL_nil))))) famA_v fun w0 I0 M0 m0 => ?_
  obtain ⟨n,hnn⟩ : ∃ n,d.size = n := ⟨_,rfl⟩
  rw [hnn] at hn hb hq ⊢
  have e1 : IntKind.i64.wrap ((a : Int) + 1) = ((a + 1 : Nat) : Int) := by rw [i64_same (by omega) (by omega)]; omega
  have e2 : IntKind.i64.wrap ((b : Int) - 1) = ((b - 1 : Nat) : Int) := by rw [i64_same (by omega) (by omega)]; omega
  have g1 := ar_get (d := d) (i := a) (by omega)
  have g0 := ar_get (d := d) (i := q) (by omega)
  have g2 := ar_get2 (d := d) (i := a) (j := q) (by omega) (by omega)
  have hs := ar_swp (d := d) (i := a) (j := q)
  have hsz : (Sort.swp d a q).size = n := by rw [swp_size]; exact hnn
  unfold Sort.partitionEqual
  generalize d[a]! = x at g1 g2 hs
  generalize d[q]! = y at g0 g2 hs
  generalize Sort.swp d a q = d1 at hs hsz ⊢
  have l3 := fun (Q : Exit→Sta→Prop) (H : Hp) (hH : ∀ p,H (0 :: p) = (arF19 d1 v).F 0 p) => pe_l3 (n0 := 90) (w0 := w0) (I0 := I0) (M0 := M0) (m0 := m0) (Q := Q) (v := v) hn (show a < n by omega) (b - 1 + 1 - (a + 1)) (a + 1) (b - 1) d1 H (Nat.le_refl _) (by omega) (by omega) (by omega) (by omega) (by omega) hsz hH
  generalize Sort.partEqLoop ltP a (a + 1) (b - 1) d1 = T at l3 ⊢
  unfold c_slices_partitionEqualCmpFunc_pair_Pair
  simp [g0,g1,g2,e1,e2,show (a : Int) < n by omega,show (q : Int) < n by omega,show a < n by omega,hq,pr_agg,updF_app]
  refine LoopC.le (le_list [(0,arN n v 0),(1,iv a),(4,cmpF),(11,iv (a + 1 : Nat)),(12,iv (b - 1 : Nat))] (by simp)) ?_
  refine l3 _ _ (fun p => by by_cases hp : p = [] <;> simp [hp,hs,updF_app]) fun H' xx st hT t1 t2 t3 => ?_
  simp
  exact reth_fam rfl rfl hT
abbrev tab8 : List UInt8 := [0,1,2,2,3,3,3,3,4,4,4,4,4,4,4,4,5,5,5,5,5,5,5,5,5,5,5,5,5,5,5,5,6,6,6,6,6,6,6,6,6,6,6,6,6,6,6,6,6,6,6,6,6,6,6,6,6,6,6,6,6,6,6,6,7,7,7,7,7,7,7,7,7,7,7,7,7,7,7,7,7,7,7,7,7,7,7,7,7,7,7,7,7,7,7,7,7,7,7,7,7,7,7,7,7,7,7,7,7,7,7,7,7,7,7,7,7,7,7,7,7,7,7,7,7,7,7,7,8,8,8,8,8,8,8,8,8,8,8,8,8,8,8,8,8,8,8,8,8,8,8,8,8,8,8,8,8,8,8,8,8,8,8,8,8,8,8,8,8,8,8,8,8,8,8,8,8,8,8,8,8,8,8,8,8,8,8,8,8,8,8,8,8,8,8,8,8,8,8,8,8,8,8,8,8,8,8,8,8,8,8,8,8,8,8,8,8,8,8,8,8,8,8,8,8,8,8,8,8,8,8,8,8,8,8,8,8,8,8,8,8,8,8,8,8,8,8,8,8,8,8,8,8,8,8,8]
set_option maxRecDepth 100000 in
theorem tab8_get (n : Nat) (h : n < 256) : tab8[n]? = some (UInt8.ofNat (Sort.bitsLen n))∧Sort.bitsLen n≤8 := by
  have : ∀ n : Fin 256,tab8[n.val]? = some (UInt8.ofNat (Sort.bitsLen n.val))∧Sort.bitsLen n.val≤8 := by decide +kernel
  exact this ⟨n,h⟩
set_option maxRecDepth 100000 in
theorem len64_spec (n : Nat) (hn : n < 256) : G.Spec Tryz.prog 280 [uv n] (iv (Sort.bitsLen n)) := by
  refine spec_of t_math_bits_Len64 (by simp) fun w0 I0 => ?_
  unfold c_math_bits_Len64
  simp [show ¬ (4294967296 : Int)≤n by omega]
  rw [k2_math_bits_Len64.eq_1]
  simp [show ¬ (65536 : Int)≤n by omega]
  rw [k1_math_bits_Len64.eq_1]
  obtain ⟨ht,hb⟩ := tab8_get n hn
  have hx : (UInt8.ofNat (Sort.bitsLen n)).toNat = Sort.bitsLen n := by rw [UInt8.toNat_ofNat']; exact Nat.mod_eq_of_lt (by omega)
  generalize UInt8.ofNat (Sort.bitsLen n) = y at ht hx
  have e1 : IntKind.i64.wrap (Sort.bitsLen n : Int) = (Sort.bitsLen n : Int) := i64_same (by omega) (by omega)
  have e2 : IntKind.u8.wrap (n : Int) = (n : Int) := by rw [IntKind.wrap_u8]; omega
  simp [show ¬ (256 : Int)≤n by omega,ht,e2]
  rw [hx,e1,e1]
  exact frz_bare rfl
theorem bitslen_spec (n : Nat) (hn : n < 256) : G.Spec Tryz.prog 265 [uv n] (iv (Sort.bitsLen n)) := by
  refine spec_of t_math_bits_Len (by simp) fun w0 I0 => ?_
  unfold c_math_bits_Len
  simp
  refine sc_call (len64_spec n hn) rfl ?_
  simp
  exact frz_bare rfl
theorem nextPow_spec (n : Nat) (hn : n < 256) : G.Spec Tryz.prog 282 [iv n] (uv (1 <<< Sort.bitsLen n : Nat)) := by
  refine spec_of t_slices_nextPowerOfTwo (by simp) fun w0 I0 => ?_
  obtain ⟨_,hb⟩ := tab8_get n hn
  have e1 : IntKind.u64.wrap (n : Int) = (n : Int) := u64_same (by omega) (by omega)
  have h2 : (2 : Nat) ^ Sort.bitsLen n≤2 ^ 8 := Nat.pow_le_pow_right (by omega) hb
  have h3 : ((2 ^ Sort.bitsLen n : Nat) : Int) < 18446744073709551616 := Int.ofNat_lt.2 (Nat.lt_of_le_of_lt h2 (by decide))
  have e2 : IntKind.u64.wrap (2 ^ min (Sort.bitsLen n) IntKind.u64.bits : Int) = ((1 <<< Sort.bitsLen n : Nat) : Int) := by
    rw [show min (Sort.bitsLen n) IntKind.u64.bits = Sort.bitsLen n from Nat.min_eq_left (Nat.le_trans hb (by decide)),Nat.one_shiftLeft]
    rw [show ((2 : Int) ^ Sort.bitsLen n) = ((2 ^ Sort.bitsLen n : Nat) : Int) by simp]
    exact u64_same (Int.natCast_nonneg _) h3
  generalize hz : ((1 <<< Sort.bitsLen n : Nat) : Int) = z at e2 ⊢
  unfold c_slices_nextPowerOfTwo
  simp [e1]
  refine sc_call (bitslen_spec n hn) rfl ?_
  simp [e2]
  exact frz_bare rfl
theorem xshl (s : UInt64) (k : UInt64) (hk : k.toNat < 64) : bits .xor .u64 (s.toNat : Int) (IntKind.u64.wrap ((s.toNat : Int) * 2 ^ k.toNat)) = ((s ^^^ (s <<< k)).toNat : Int) := by
  have h := s.toNat_lt
  have e : IntKind.u64.wrap ((s.toNat : Int) * 2 ^ k.toNat) = ((s <<< k).toNat : Int) := by
    rw [IntKind.wrap_u64,UInt64.toNat_shiftLeft,Nat.mod_eq_of_lt hk,Nat.shiftLeft_eq]
    rw [show ((s.toNat : Int) * 2 ^ k.toNat) = ((s.toNat * 2 ^ k.toNat : Nat) : Int) by simp]
    omega
  rw [e,bits_xor_u64_nat _ _ h (s <<< k).toNat_lt,UInt64.toNat_xor]
theorem xshr (s : UInt64) (k : UInt64) (hk : k.toNat < 64) : bits .xor .u64 (s.toNat : Int) ((s.toNat : Int) / 2 ^ k.toNat) = ((s ^^^ (s >>> k)).toNat : Int) := by
  have h := s.toNat_lt
  have e : (s.toNat : Int) / 2 ^ k.toNat = ((s >>> k).toNat : Int) := by
    rw [UInt64.toNat_shiftRight,Nat.mod_eq_of_lt hk,Nat.shiftRight_eq_div_pow]
    simp
  rw [e,bits_xor_u64_nat _ _ h (s >>> k).toNat_lt,UInt64.toNat_xor]
def ceU (s : UInt64) : Fam := ⟨fun r p => if p = [] then ⟨1,.cells [uv s.toNat]⟩ else ⟨0,.none⟩,fun {g δ r r'} hg hd p => by
    by_cases h1 : p = []
    · rw [if_pos h1]
      exact Fam.cells_ren (by simp [A.renL,A.ren])
    · rw [if_neg h1]; rfl,fun {D r} hD p => by
    by_cases h1 : p = []
    · rw [if_pos h1]; simp [Ob.refs,A.refsL,A.refs]
    · rw [if_neg h1]; trivial⟩
@[simp] theorem ceU_F {s : UInt64} {r : Nat} {p : Nm} : (ceU s).F r p = if p = [] then ⟨1,.cells [uv s.toNat]⟩ else ⟨0,.none⟩ := rfl
theorem next_spec19 (s : UInt64) : SpecF Tryz.prog 283 (fun r => [ceP r]) (ceU s) (fun _ => uv (Sort.xorNext s).toNat) (ceU (Sort.xorNext s)) := by
  refine specF_of t_slices_xorshift_Next (by simp) (famL_cons famA_pob famL_nil) famA_v fun w0 I0 M0 m0 => ?_
  unfold c_slices_xorshift_Next
  simp [updF_app]
  have x1 : bits .xor .u64 (s.toNat : Int) (IntKind.u64.wrap ((s.toNat : Int) * 2 ^ min 13 IntKind.u64.bits)) = ((s ^^^ (s <<< 13)).toNat : Int) := xshl s 13 (by decide)
  rw [x1]
  have x2 := fun r : UInt64 => xshr r 7 (by decide)
  have x2' : ∀ r : UInt64,bits .xor .u64 (r.toNat : Int) ((r.toNat : Int) / 2 ^ min 7 IntKind.u64.bits) = ((r ^^^ (r >>> 7)).toNat : Int) := fun r => x2 r
  rw [x2']
  have x3 : ∀ r : UInt64,bits .xor .u64 (r.toNat : Int) (IntKind.u64.wrap ((r.toNat : Int) * 2 ^ min 17 IntKind.u64.bits)) = ((r ^^^ (r <<< 17)).toNat : Int) := fun r => xshl r 17 (by decide)
  rw [x3]
  exact reth_fam rfl rfl (fun p => by by_cases hp : p = [] <;> simp [hp,updF_app,Sort.xorNext])
theorem breakStep_size (a l m : Nat) (st : UInt64 × Array Sc) (i : Nat) : (Sort.breakStep a l m st i).2.size = st.2.size := by
  unfold Sort.breakStep
  exact swp_size
section
variable {n0 : Nat} {w0 : World} {I0 : Nat→Prop} {M0 : Nm→Nat→Prop} {m0 : Mu} {Q : Exit→Sta→Prop} {v : Nat}
theorem br_step {n a l k : Nat} (hn : n≤900) (hal : a + l≤n) (h13 : 13≤l) (h16 : l≤49) (hk : k = Sort.bitsLen l) {i : Nat} (hi : i < n) (hib : i≤a + l / 4 * 2 + 1) {r : UInt64} {d : Array Sc} {H : Hp} (hd : d.size = n) (hH : ∀ p,H (0 :: p) = (arF19 d v).F 0 p) (hG : ∀ p,H (1 :: p) = (ceU r).F 1 p)
    (hq : ∀ H' : Hp,(∀ p,H' (0 :: p) = (arF19 (Sort.breakStep a l (1 <<< k) (r,d) i).2 v).F 0 p)→(∀ p,H' (1 :: p) = (ceU (Sort.breakStep a l (1 <<< k) (r,d) i).1).F 1 p)→LoopC (cxh Tryz.prog w0 I0 M0 n0 m0) l1_slices_breakPatternsCmpFunc_pair_Pair Q ⟨lk [(0,arN n v 0),(1,iv a),(8,iv l),(9,ceP 1),(10,uv (1 <<< k : Nat)),(11,iv (i + 1 : Nat))],H'⟩) :
    LoopC (cxh Tryz.prog w0 I0 M0 n0 m0) l1_slices_breakPatternsCmpFunc_pair_Pair Q ⟨lk [(0,arN n v 0),(1,iv a),(8,iv l),(9,ceP 1),(10,uv (1 <<< k : Nat)),(11,iv i)],H⟩ := by
  have hN := next_spec19 r
  obtain ⟨m,hm⟩ : ∃ m,m = (1 <<< k : Nat) := ⟨_,rfl⟩
  obtain ⟨q4,hq4⟩ : ∃ q4,q4 = l / 4 := ⟨_,rfl⟩
  have e1 : IntKind.i64.wrap ((l : Int).tdiv 4) = (q4 : Int) := by rw [Int.tdiv_eq_ediv_of_nonneg (by omega),i64_same (by omega) (by omega)]; omega
  have e1' : IntKind.i64.wrap ((l : Int) / 4) = (q4 : Int) := by rw [i64_same (by omega) (by omega)]; omega
  have e2 : IntKind.i64.wrap ((q4 : Int) * 2) = (q4 : Int) * 2 := i64_same (by omega) (by omega)
  have e3 : IntKind.i64.wrap ((a : Int) + (q4 : Int) * 2) = (a : Int) + (q4 : Int) * 2 := i64_same (by omega) (by omega)
  have e4 : IntKind.i64.wrap ((a : Int) + (q4 : Int) * 2 + 1) = (a : Int) + (q4 : Int) * 2 + 1 := i64_same (by omega) (by omega)
  rw [← hm] at hq ⊢
  refine loopC_once mixed l1_slices_breakPatternsCmpFunc_pair_Pair.eq_1 ?_
  simp [e1,e1',e2,e3,e4,show (i : Int)≤(a : Int) + (q4 : Int) * 2 + 1 by omega]
  refine sc_fam 1 hN hG (by simp) (by simp) ?_
  simp
  have hX := (Sort.xorNext r).toNat_lt
  have hml : m≤2 * l := by
    rw [hm,hk,Nat.one_shiftLeft]
    exact Sort.two_pow_bitsLen_le (by omega)
  have hm1 : 1≤m := by
    rw [hm,Nat.one_shiftLeft]
    exact Nat.one_le_two_pow
  obtain ⟨o,ho⟩ : ∃ o,o = (Sort.xorNext r).toNat &&& (m - 1) := ⟨_,rfl⟩
  have hol : o≤m - 1 := by rw [ho]; exact Nat.and_le_right
  have eA : bits .and .u64 ((Sort.xorNext r).toNat : Int) (IntKind.u64.wrap ((m : Int) - 1)) = (o : Int) := by
    rw [show IntKind.u64.wrap ((m : Int) - 1) = ((m - 1 : Nat) : Int) by rw [u64_same (by omega) (by omega)]; omega,bits_and_u64_nat _ _ hX (by omega),← ho]
  have eB : IntKind.i64.wrap (o : Int) = (o : Int) := i64_same (by omega) (by omega)
  have e5 : IntKind.i64.wrap ((i : Int) + 1) = ((i + 1 : Nat) : Int) := by rw [i64_same (by omega) (by omega)]; omega
  have fin : ∀ o2 : Nat,o2 < l→Sort.breakStep a l m (r,d) i = (Sort.xorNext r,Sort.swp d i (a + o2))→WPC (cxh Tryz.prog w0 I0 M0 n0 m0) k1_slices_breakPatternsCmpFunc_pair_Pair
      (InBlock 1 (ThenC (WPC (cxh Tryz.prog w0 I0 M0 n0 m0) (.keep [0,1,8,9,10,11] (.reg [co (some 36) (.move (.tmp 11)) none,co (some 37) (.binOp .add 3 (.tmp 36) (.const (.int .i64 1)) 3) none,co (some 11) (.assign (.tmp 37)) none] [0,1,8,9,10,11]))
        (ThenC (LoopC (cxh Tryz.prog w0 I0 M0 n0 m0) l1_slices_breakPatternsCmpFunc_pair_Pair Q) Q)) (ThenC (LoopC (cxh Tryz.prog w0 I0 M0 n0 m0) l1_slices_breakPatternsCmpFunc_pair_Pair Q) Q)))
      ⟨lk [(0,arN n v 0),(1,iv a),(8,iv l),(9,ceP 1),(10,uv m),(11,iv i),(12,iv o2)],ov 1 ((ceU (Sort.xorNext r)).F 1) H⟩ := fun o2 ho2 hst => by
    have h0 := hH []
    simp only [rpF_F] at h0
    have e6 : IntKind.i64.wrap ((a : Int) + (o2 : Int)) = ((a + o2 : Nat) : Int) := by rw [i64_same (by omega) (by omega)]; omega
    have g1 := ar_get (d := d) (i := i) (by omega)
    have g0 := ar_get (d := d) (i := a + o2) (by omega)
    have g2 := ar_get2 (d := d) (i := i) (j := a + o2) (by omega) (by omega)
    have hs := ar_swp (d := d) (i := i) (j := a + o2)
    rw [hst] at hq
    generalize d[i]! = x at g1 g2 hs
    generalize d[a + o2]! = y at g0 g2 hs
    have hj : ((a + o2 : Nat) : Int) < n := by omega
    have hj' : a + o2 < n := by omega
    generalize Sort.swp d i (a + o2) = d2 at hs hq
    generalize a + o2 = jj at e6 g0 g2 hs hj hj'
    rw [k1_slices_breakPatternsCmpFunc_pair_Pair.eq_1]
    simp [e6,h0,g0,g1,g2,e5,show (i : Int) < n by omega,hi,hj,hj',pr_agg]
    exact hq _ (fun p => by by_cases hp : p = [] <;> simp [hp,hs,updF_app,hH]) (fun p => by simp [updF_app])
  simp only [eA,eB]
  have hbs : Sort.breakStep a l m (r,d) i = (Sort.xorNext r,Sort.swp d i (a + (if o ≥ l then o - l else o))) := by
    unfold Sort.breakStep
    simp only [← ho]
  by_cases hc : l≤o
  · rw [if_pos (show o ≥ l from hc)] at hbs
    refine ⟨fun _ => ?_,fun h => by omega⟩
    have e7 : IntKind.i64.wrap ((o : Int) - l) = ((o - l : Nat) : Int) := by rw [i64_same (by omega) (by omega)]; omega
    rw [e7]
    exact fin (o - l) (by omega) hbs
  · rw [if_neg hc] at hbs
    refine ⟨fun h => by omega,fun _ => ?_⟩
    exact fin o (by omega) hbs
end
theorem break_spec (d : Array Sc) (v a b : Nat) (hn : d.size≤900) (hab : a + 13≤b) (hb : b≤d.size) (hl : b - a < 50) : SpecF Tryz.prog 273 (fun r => [arN d.size v r,iv a,iv b,cmpF]) (arF19 d v) (fun _ => .tup []) (arF19 (Sort.breakPatterns d a b) v) := by
  refine specF_of t_slices_breakPatternsCmpFunc_pair_Pair (by simp) (famL_cons (famAr _ _) (famL_cons famA_v (famL_cons famA_v (famL_cons famA_cmpF famL_nil)))) (famA_tup famL_nil) fun w0 I0 M0 m0 => ?_
  obtain ⟨n,hnn⟩ : ∃ n,d.size = n := ⟨_,rfl⟩
  rw [hnn] at hn hb ⊢
  obtain ⟨l,hll⟩ : ∃ l,l = b - a := ⟨_,rfl⟩
  obtain ⟨q4,hq4⟩ : ∃ q4,q4 = l / 4 := ⟨_,rfl⟩
  have e0 : IntKind.i64.wrap ((b : Int) - a) = (l : Int) := by rw [i64_same (by omega) (by omega)]; omega
  have e1 : IntKind.i64.wrap ((l : Int).tdiv 4) = (q4 : Int) := by rw [Int.tdiv_eq_ediv_of_nonneg (by omega),i64_same (by omega) (by omega)]; omega
  have e1' : IntKind.i64.wrap ((l : Int) / 4) = (q4 : Int) := by rw [i64_same (by omega) (by omega)]; omega
  have e2 : IntKind.i64.wrap ((q4 : Int) * 2) = (q4 : Int) * 2 := i64_same (by omega) (by omega)
  have e3 : IntKind.i64.wrap ((a : Int) + (q4 : Int) * 2) = (a : Int) + (q4 : Int) * 2 := i64_same (by omega) (by omega)
  have e4 : IntKind.i64.wrap ((a : Int) + (q4 : Int) * 2 - 1) = ((a + q4 * 2 - 1 : Nat) : Int) := by rw [i64_same (by omega) (by omega)]; omega
  have e5 : IntKind.i64.wrap ((a : Int) + (q4 : Int) * 2 + 1) = (a : Int) + (q4 : Int) * 2 + 1 := i64_same (by omega) (by omega)
  have eu : IntKind.u64.wrap (l : Int) = (l : Int) := u64_same (by omega) (by omega)
  have hNx := nextPow_spec l (by omega)
  have ho : (UInt64.ofNat l).toNat = l := by rw [UInt64.toNat_ofNat']; exact Nat.mod_eq_of_lt (by omega)
  unfold Sort.breakPatterns
  simp only [← hll,ge_iff_le,if_pos (show 8≤l by omega),← hq4]
  have st := @br_step (n0 := 67) w0 I0 M0 m0
  generalize hid : a + q4 * 2 - 1 = id0 at e4 ⊢
  unfold c_slices_breakPatternsCmpFunc_pair_Pair
  generalize hmm : (1 <<< Sort.bitsLen l : Nat) = mm at hNx ⊢
  simp [e0,eu,show (8 : Int)≤l by omega,updF_app]
  refine sc_call hNx rfl ?_
  simp [e1,e1',e2,e3,e4]
  rw [← hmm]
  refine st hn (by omega) (by omega) (by omega) rfl (i := id0) (r := UInt64.ofNat l) (d := d) (by omega) (by omega) hnn (fun p => by simp) (fun p => ?_) fun H1 f1 g1 => ?_
  · by_cases hp : p = []
    · subst hp; simp [lkH,ho]
    · simp [lkH,hp,Ne.symm hp]
  have s1 := breakStep_size a l (1 <<< Sort.bitsLen l) (UInt64.ofNat l,d) id0
  simp only [hnn] at s1
  generalize Sort.breakStep a l (1 <<< Sort.bitsLen l) (UInt64.ofNat l,d) id0 = S1 at f1 g1 s1 ⊢
  refine st hn (by omega) (by omega) (by omega) rfl (i := id0 + 1) (r := S1.1) (d := S1.2) (by omega) (by omega) s1 f1 g1 fun H2 f2 g2 => ?_
  have s2 := breakStep_size a l (1 <<< Sort.bitsLen l) (S1.1,S1.2) (id0 + 1)
  simp only [s1] at s2
  have eS : (S1.1,S1.2) = S1 := rfl
  rw [eS] at f2 g2 s2
  generalize Sort.breakStep a l (1 <<< Sort.bitsLen l) S1 (id0 + 1) = S2 at f2 g2 s2 ⊢
  refine st hn (by omega) (by omega) (by omega) rfl (i := id0 + 1 + 1) (r := S2.1) (d := S2.2) (by omega) (by omega) s2 f2 g2 fun H3 f3 g3 => ?_
  refine loopC_once mixed l1_slices_breakPatternsCmpFunc_pair_Pair.eq_1 ?_
  have big : ¬ ((id0 + 1 + 1 + 1 : Nat) : Int)≤(a : Int) + (q4 : Int) * 2 + 1 := by omega
  generalize id0 + 1 + 1 + 1 = id3 at big ⊢
  simp [e1,e1',e2,e3,e5,big]
  exact reth_famN rfl rfl (fun p => f3 p)
def pq1 (d : Array Sc) (a b lim q : Nat) (wb wp : Bool) : Array Sc :=
  if (decide (a > 0) && !ltP d[a - 1]! d[q]!) = true then
    if a < (Sort.partitionEqual ltP d a b q).1∧(Sort.partitionEqual ltP d a b q).1≤b then Sort.pdq ltP (Sort.partitionEqual ltP d a b q).2 (Sort.partitionEqual ltP d a b q).1 b lim wb wp else (Sort.partitionEqual ltP d a b q).2
  else
    if a≤(Sort.partition ltP d a b q).1∧(Sort.partition ltP d a b q).1 < b then
      if (Sort.partition ltP d a b q).1 - a < b - (Sort.partition ltP d a b q).1 then
        Sort.pdq ltP (Sort.pdq ltP (Sort.partition ltP d a b q).2.2 a (Sort.partition ltP d a b q).1 lim true true) ((Sort.partition ltP d a b q).1 + 1) b lim (decide ((Sort.partition ltP d a b q).1 - a ≥ (b - a) / 8)) (Sort.partition ltP d a b q).2.1
      else
        Sort.pdq ltP (Sort.pdq ltP (Sort.partition ltP d a b q).2.2 ((Sort.partition ltP d a b q).1 + 1) b lim true true) a (Sort.partition ltP d a b q).1 lim (decide (b - (Sort.partition ltP d a b q).1 ≥ (b - a) / 8)) (Sort.partition ltP d a b q).2.1
    else (Sort.partition ltP d a b q).2.2
def pq2 (d : Array Sc) (a b lim q : Nat) (hint : Sort.Hint) (wb wp : Bool) : Array Sc :=
  if (wb && wp && decide (hint = .increasing)) = true then
    if (Sort.partialInsertionSort ltP d a b).2 = true then (Sort.partialInsertionSort ltP d a b).1 else pq1 (Sort.partialInsertionSort ltP d a b).1 a b lim q wb wp
  else pq1 d a b lim q wb wp
def pq3 (d : Array Sc) (a b lim : Nat) (wb wp : Bool) : Array Sc :=
  if (Sort.choosePivot ltP d a b).2 = .decreasing then pq2 (Sort.reverseRange d a b) a b lim ((b - 1) - ((Sort.choosePivot ltP d a b).1 - a)) .increasing wb wp
  else pq2 d a b lim (Sort.choosePivot ltP d a b).1 (Sort.choosePivot ltP d a b).2 wb wp
theorem pdq_eq (d : Array Sc) (a b lim : Nat) (wb wp : Bool) : Sort.pdq ltP d a b lim wb wp = if b - a≤12 then Sort.insertionSort ltP d a b else if lim = 0 then Sort.heapSort ltP d a b else
    if wb = true then pq3 d a b lim wb wp else pq3 (Sort.breakPatterns d a b) a b (lim - 1) wb wp := by
  rw [Sort.pdq]
  split
  · rfl
  · split
    · rfl
    · have main : ∀ (d : Array Sc) (lim : Nat),(let c := Sort.choosePivot ltP d a b
        let d2 := if c.2 = .decreasing then Sort.reverseRange d a b else d
        let pivot := if c.2 = .decreasing then (b - 1) - (c.1 - a) else c.1
        let hint := if c.2 = .decreasing then Sort.Hint.increasing else c.2
        let pi := if (wb && wp && hint = .increasing) = true then Sort.partialInsertionSort ltP d2 a b else (d2,false)
        if pi.2 = true then pi.1 else pq1 pi.1 a b lim pivot wb wp) = pq3 d a b lim wb wp := fun d lim => by
        simp only
        unfold pq3 pq2
        by_cases hd : (Sort.choosePivot ltP d a b).2 = .decreasing
        · simp only [hd,if_true]
          cases wb <;> cases wp <;> simp
        · simp only [hd,if_false]
          by_cases hw : (wb && wp && decide ((Sort.choosePivot ltP d a b).2 = .increasing)) = true
          · rw [if_pos hw,if_pos hw]
          · rw [if_neg hw,if_neg hw]
            simp
      cases wb with
      | true =>
        rw [if_pos rfl,← main]
        simp only [Bool.not_true,Bool.false_eq_true,if_false]
        unfold pq1
        rfl
      | false =>
        have e2 : (if (false : Bool) = true then pq3 d a b lim false wp else pq3 (Sort.breakPatterns d a b) a b (lim - 1) false wp) = pq3 (Sort.breakPatterns d a b) a b (lim - 1) false wp := if_neg (by simp)
        rw [e2,← main]
        simp only [Bool.not_false,if_true]
        unfold pq1
        rfl
def farL (l lim : Nat) (wb : Bool) : Prop := l≤12∨(l - 12) + (if wb = true then 0 else 1)≤lim
section
variable {v n : Nat}
theorem far_less {l l' lim : Nat} (wb : Bool) (h : l' < l) (h2 : l - 12≤lim) : farL l' lim wb := by
  unfold farL
  by_cases h3 : l'≤12
  · exact .inl h3
  · right
    split <;> omega
def LPs (v n a b lim : Nat) (wb wp : Bool) (d : Array Sc) : Prop := ∀ {n0 : Nat} {w0 : World} {I0 : Nat→Prop} {M0 : Nm→Nat→Prop} {m0 : Mu} {Q : Exit→Sta→Prop} (H : Hp),(∀ p,H (0 :: p) = (arF19 d v).F 0 p) →
    (∀ (H' : Hp) (st : List (Nat × A)),(∀ p,H' (0 :: p) = (arF19 (Sort.pdq ltP d a b lim wb wp) v).F 0 p)→Q .ret ⟨lk st,H'⟩) →
    LoopC (cxh Tryz.prog w0 I0 M0 n0 m0) l1_slices_pdqsortCmpFunc_pair_Pair Q ⟨lk [(0,arN n v 0),(1,iv a),(2,iv b),(3,iv lim),(4,cmpF),(10,bv wb),(11,bv wp)],H⟩
def PQs (v n a b lim : Nat) (d : Array Sc) : Prop := SpecF Tryz.prog 264 (fun r => [arN n v r,iv a,iv b,iv lim,cmpF]) (arF19 d v) (fun _ => .tup []) (arF19 (Sort.pdq ltP d a b lim true true) v)
theorem pq_of {a b lim : Nat} {d : Array Sc} (h : LPs v n a b lim true true d) : PQs v n a b lim d := by
  refine specF_of t_slices_pdqsortCmpFunc_pair_Pair (by simp) (famL_cons (famAr _ _) (famL_cons famA_v (famL_cons famA_v (famL_cons famA_v (famL_cons famA_cmpF famL_nil))))) (famA_tup famL_nil) fun w0 I0 M0 m0 => ?_
  unfold c_slices_pdqsortCmpFunc_pair_Pair
  simp
  refine LoopC.le (le_list [(0,arN n v 0),(1,iv a),(2,iv b),(3,iv lim),(4,cmpF),(10,bv true),(11,bv true)] (by simp)) ?_
  refine h _ (fun p => by simp) fun H' st h' => ?_
  simp
  exact reth_famN rfl rfl (fun p => h' p)
end
theorem partEqL_bd (a : Nat) : ∀ (m i j J : Nat) (d : Array Sc),j + 1 - i≤m→1≤i→i≤J + 1→j≤J→i≤(Sort.partEqLoop ltP a i j d).1∧(Sort.partEqLoop ltP a i j d).1≤J + 1∧(Sort.partEqLoop ltP a i j d).2.size = d.size := by
  intro m
  induction m using Nat.strongRecOn with
  | _ m ih =>
    intro i j J d hm h1 hi hj
    rw [Sort.partEqLoop]
    have hu := scanUp_bd (fun x => !ltP d[a]! x) d j (j + 1 - i) i (Nat.le_refl _)
    generalize Sort.scanUp (fun x => !ltP d[a]! x) d j i = i2 at hu ⊢
    have hdn := scanDown_bd (fun x => ltP d[a]! x) d i2 (by omega) j
    generalize Sort.scanDown (fun x => ltP d[a]! x) d i2 j = j2 at hdn ⊢
    by_cases hc : i2 > j2
    · simp only [hc,if_true]
      refine ⟨hu.1,?_,trivial⟩
      rcases hu.2 with h | h <;> omega
    · have hg : j2 - 1 + 1 - (i2 + 1) < j + 1 - i := by omega
      simp only [hc,if_false,dif_pos hg]
      have := ih (j2 - 1 + 1 - (i2 + 1)) (by omega) (i2 + 1) (j2 - 1) J (Sort.swp d i2 j2) (Nat.le_refl _) (by omega) (by omega) (by omega)
      rw [swp_size] at this
      omega
theorem partEq_bd (d : Array Sc) (a b q : Nat) (hab : a + 2≤b) : a < (Sort.partitionEqual ltP d a b q).1∧(Sort.partitionEqual ltP d a b q).1≤b∧(Sort.partitionEqual ltP d a b q).2.size = d.size := by
  unfold Sort.partitionEqual
  have := partEqL_bd a (b - 1 + 1 - (a + 1)) (a + 1) (b - 1) (b - 1) (Sort.swp d a q) (Nat.le_refl _) (by omega) (by omega) (Nat.le_refl _)
  rw [swp_size] at this
  omega
theorem swoP : Sort.SWO ltP where
  irrefl x := by simp [ltP]
  trans x y z h1 h2 := by simp [ltP] at *; omega
  ntrans x y z h1 h2 := by simp [ltP] at *; omega
theorem part_bd (d : Array Sc) (a b q : Nat) (h1 : a≤q) (h2 : q < b) (hb : b≤d.size) : a≤(Sort.partition ltP d a b q).1∧(Sort.partition ltP d a b q).1 < b∧(Sort.partition ltP d a b q).2.2.size = d.size := by
  obtain ⟨k1,k2,k3,_⟩ := Sort.partition_holds ltP swoP d a b q h1 h2 hb
  exact ⟨k1,k2,k3.1⟩
theorem short_size (d : Array Sc) (a b lim : Nat) (h : b - a≤12) : (Sort.pdq ltP d a b lim true true).size = d.size := by
  rw [pdq_eq,if_pos h]
  exact insOuter_size ltP a b (b - (a + 1)) (a + 1) d (Nat.le_refl _)
section
variable {n0 : Nat} {w0 : World} {I0 : Nat→Prop} {M0 : Nm→Nat→Prop} {m0 : Mu} {Q : Exit→Sta→Prop} {v n : Nat}
theorem pq_k1 {a b lim q l : Nat} {wb wp : Bool} {d : Array Sc} (hn : n≤900) (hd : d.size = n) (hab : a + 13≤b) (hb : b≤n) (hl : l = b - a) (hl24 : l≤24) (hq1 : a≤q) (hq2 : q < b) (hlim : l - 12≤lim) (hlm : lim≤900)
    (ihL : ∀ (a' b' lim' : Nat) (wb' wp' : Bool) (d' : Array Sc),d'.size = n→a'≤b'→b'≤n→b' - a' < l→lim'≤900→farL (b' - a') lim' wb'→LPs v n a' b' lim' wb' wp' d')
    {H : Hp} (hH : ∀ p,H (0 :: p) = (arF19 d v).F 0 p) (hq : ∀ (H' : Hp) (st : List (Nat × A)),(∀ p,H' (0 :: p) = (arF19 (pq1 d a b lim q wb wp) v).F 0 p)→Q .ret ⟨lk st,H'⟩) :
    WPC (cxh Tryz.prog w0 I0 M0 n0 m0) k1_slices_pdqsortCmpFunc_pair_Pair (InBlock 1 (ThenC (LoopC (cxh Tryz.prog w0 I0 M0 n0 m0) l1_slices_pdqsortCmpFunc_pair_Pair Q) Q)) ⟨lk [(0,arN n v 0),(1,iv a),(2,iv b),(3,iv lim),(4,cmpF),(10,bv wb),(11,bv wp),(12,iv l),(13,iv q)],H⟩ := by
  have hP := partition_spec d v a b q (by omega) (by omega) (by omega) (by omega)
  have hE := partEq_spec d v a b q (by omega) (by omega) (by omega) (by omega)
  obtain ⟨p1,p2,p3⟩ := part_bd d a b q hq1 hq2 (by omega)
  obtain ⟨c1,c2,c3⟩ := partEq_bd d a b q (by omega)
  unfold pq1 at hq
  rw [if_pos (show a < (Sort.partitionEqual ltP d a b q).1∧(Sort.partitionEqual ltP d a b q).1≤b from ⟨c1,c2⟩),if_pos (show a≤(Sort.partition ltP d a b q).1∧(Sort.partition ltP d a b q).1 < b from ⟨p1,p2⟩)] at hq
  generalize Sort.partitionEqual ltP d a b q = E at hE c1 c2 c3 hq
  generalize Sort.partition ltP d a b q = R at hP p1 p2 p3 hq
  obtain ⟨mid,ap,d4⟩ := R
  simp only at hP p1 p2 p3 hq
  rw [hd] at hP hE p3 c3
  have f1 : IntKind.i64.wrap ((mid : Int) - a) = ((mid - a : Nat) : Int) := by rw [i64_same (by omega) (by omega)]; omega
  have f2 : IntKind.i64.wrap ((b : Int) - mid) = ((b - mid : Nat) : Int) := by rw [i64_same (by omega) (by omega)]; omega
  have f3 : IntKind.i64.wrap ((l : Int).tdiv 8) = ((l / 8 : Nat) : Int) := by rw [Int.tdiv_eq_ediv_of_nonneg (by omega),i64_same (by omega) (by omega)]; omega
  have f4 : IntKind.i64.wrap ((l : Int) / 8) = ((l / 8 : Nat) : Int) := by rw [i64_same (by omega) (by omega)]; omega
  have f5 : IntKind.i64.wrap ((mid : Int) + 1) = ((mid + 1 : Nat) : Int) := by rw [i64_same (by omega) (by omega)]; omega
  rw [k1_slices_pdqsortCmpFunc_pair_Pair.eq_1]
  by_cases ha0 : 0 < a
  · have h0 := hH []
    simp only [rpF_F] at h0
    have g1 := ar_get (d := d) (i := a - 1) (by omega)
    have g0 := ar_get (d := d) (i := q) (by omega)
    have hc := cmp0 d[a - 1]! d[q]!
    have f6 : IntKind.i64.wrap ((a : Int) - 1) = ((a - 1 : Nat) : Int) := by rw [i64_same (by omega) (by omega)]; omega
    generalize d[a - 1]! = x at g1 hc hq
    generalize d[q]! = y at g0 hc hq
    simp [show (0 : Int) < a by omega,ha0,h0,f6,g1,g0,show (q : Int) < n by omega,show q < n by omega,show a - 1 < n by omega,show ((a - 1 : Nat) : Int) < n by omega,pr_agg]
    rw [sc_guard]
    simp
    refine sc_callv0 rfl (pick1_spec x y) (by simp) rfl ?_
    cases hL : ltP x y with
    | false =>
      rw [hL] at hc hq
      rw [if_pos (by simp; omega)] at hq
      have hc' : ¬ cmpZ x.i y.i < 0 := by simpa using hc
      simp [hc']
      refine sc_fam 0 hE hH (by simp) (by simp) ?_
      simp
      exact ihL E.1 b lim wb wp E.2 c3 (by omega) hb (by omega) hlm (far_less _ (by omega) hlim) _ (fun p => by simp) hq
    | true =>
      rw [hL] at hc hq
      rw [if_neg (by simp)] at hq
      have hc' : cmpZ x.i y.i < 0 := by simpa using hc
      simp [hc']
      refine sc_fam 0 hP hH (by simp) (by simp) ?_
      simp [f1,f2,f3,f4,f5]
      refine ⟨fun hs => ?_,fun hs => ?_⟩
      · rw [if_pos hs] at hq
        have hS : PQs v n a mid lim d4 := pq_of (ihL a mid lim true true d4 p3 (by omega) (by omega) (by omega) hlm (.inl (by omega)))
        have hsz := short_size d4 a mid lim (by omega)
        have hdec : decide ((l : Int) / 8≤((mid - a : Nat) : Int)) = decide (mid - a ≥ (b - a) / 8) := by rw [decide_eq_decide]; omega
        refine sc_fam 0 hS (fun p => by simp) (by simp) (by simp) ?_
        simp [f5]
        rw [hdec]
        refine LoopC.le (le_list [(0,arN n v 0),(1,iv (mid + 1 : Nat)),(2,iv b),(3,iv lim),(4,cmpF),(10,bv (decide (mid - a ≥ (b - a) / 8))),(11,bv ap)] (by simp)) ?_
        exact ihL (mid + 1) b lim _ ap _ (by rw [hsz]; exact p3) (by omega) hb (by omega) hlm (far_less _ (by omega) hlim) _ (fun p => by simp) hq
      · have hs' : ¬ mid - a < b - mid := by omega
        rw [if_neg hs'] at hq
        have hS : PQs v n (mid + 1) b lim d4 := pq_of (ihL (mid + 1) b lim true true d4 p3 (by omega) (by omega) (by omega) hlm (.inl (by omega)))
        have hsz := short_size d4 (mid + 1) b lim (by omega)
        have hdec : decide ((l : Int) / 8≤((b - mid : Nat) : Int)) = decide (b - mid ≥ (b - a) / 8) := by rw [decide_eq_decide]; omega
        refine sc_fam 0 hS (fun p => by simp) (by simp) (by simp) ?_
        simp
        rw [hdec]
        exact ihL a mid lim _ ap _ (by rw [hsz]; exact p3) (by omega) (by omega) (by omega) hlm (far_less _ (by omega) hlim) _ (fun p => by simp) hq
  · rw [if_neg (by simp; omega)] at hq
    have ha00 : a = 0 := by omega
    simp [show ¬ (0 : Int) < a by omega,ha0]
    rw [sc_guard]
    simp
    refine sc_fam 0 hP hH (by simp) (by simp) ?_
    simp [f1,f2,f3,f4,f5]
    refine ⟨fun hs => ?_,fun hs => ?_⟩
    · rw [if_pos hs] at hq
      have hS : PQs v n a mid lim d4 := pq_of (ihL a mid lim true true d4 p3 (by omega) (by omega) (by omega) hlm (.inl (by omega)))
      have hsz := short_size d4 a mid lim (by omega)
      have hdec : decide ((l : Int) / 8≤((mid - a : Nat) : Int)) = decide (mid - a ≥ (b - a) / 8) := by rw [decide_eq_decide]; omega
      refine sc_fam 0 hS (fun p => by simp) (by simp) (by simp) ?_
      simp [f5]
      rw [hdec]
      refine LoopC.le (le_list [(0,arN n v 0),(1,iv (mid + 1 : Nat)),(2,iv b),(3,iv lim),(4,cmpF),(10,bv (decide (mid - a ≥ (b - a) / 8))),(11,bv ap)] (by simp)) ?_
      exact ihL (mid + 1) b lim _ ap _ (by rw [hsz]; exact p3) (by omega) hb (by omega) hlm (far_less _ (by omega) hlim) _ (fun p => by simp) hq
    · have hs' : ¬ mid - a < b - mid := by omega
      rw [if_neg hs'] at hq
      have hS : PQs v n (mid + 1) b lim d4 := pq_of (ihL (mid + 1) b lim true true d4 p3 (by omega) (by omega) (by omega) hlm (.inl (by omega)))
      have hsz := short_size d4 (mid + 1) b lim (by omega)
      have hdec : decide ((l : Int) / 8≤((b - mid : Nat) : Int)) = decide (b - mid ≥ (b - a) / 8) := by rw [decide_eq_decide]; omega
      refine sc_fam 0 hS (fun p => by simp) (by simp) (by simp) ?_
      simp
      rw [hdec]
      exact ihL a mid lim _ ap _ (by rw [hsz]; exact p3) (by omega) (by omega) (by omega) hlm (far_less _ (by omega) hlim) _ (fun p => by simp) hq
theorem pq_k2 {a b lim q l : Nat} {wb wp : Bool} {h : Sort.Hint} {d : Array Sc} (hn : n≤900) (hd : d.size = n) (hab : a + 13≤b) (hb : b≤n) (hl : l = b - a) (hl24 : l≤24) (hq1 : a≤q) (hq2 : q < b) (hlim : l - 12≤lim) (hlm : lim≤900)
    (ihL : ∀ (a' b' lim' : Nat) (wb' wp' : Bool) (d' : Array Sc),d'.size = n→a'≤b'→b'≤n→b' - a' < l→lim'≤900→farL (b' - a') lim' wb'→LPs v n a' b' lim' wb' wp' d')
    {H : Hp} (hH : ∀ p,H (0 :: p) = (arF19 d v).F 0 p) (hq : ∀ (H' : Hp) (st : List (Nat × A)),(∀ p,H' (0 :: p) = (arF19 (pq2 d a b lim q h wb wp) v).F 0 p)→Q .ret ⟨lk st,H'⟩) :
    WPC (cxh Tryz.prog w0 I0 M0 n0 m0) k2_slices_pdqsortCmpFunc_pair_Pair (InBlock 1 (ThenC (LoopC (cxh Tryz.prog w0 I0 M0 n0 m0) l1_slices_pdqsortCmpFunc_pair_Pair Q) Q)) ⟨lk [(0,arN n v 0),(1,iv a),(2,iv b),(3,iv lim),(4,cmpF),(10,bv wb),(11,bv wp),(12,iv l),(13,iv q),(14,iv (hintI h))],H⟩ := by
  have hP := partial_spec d v a b (by omega) (by omega) (by omega) (by omega)
  have hpe := partial_eq d a b (by omega)
  have h1 : (Sort.partialInsertionSort ltP d a b).1 = d := by rw [hpe]
  have hk : ∀ {H : Hp},(∀ p,H (0 :: p) = (arF19 d v).F 0 p)→(∀ (H' : Hp) (st : List (Nat × A)),(∀ p,H' (0 :: p) = (arF19 (pq1 d a b lim q wb wp) v).F 0 p)→Q .ret ⟨lk st,H'⟩)→WPC (cxh Tryz.prog w0 I0 M0 n0 m0) k1_slices_pdqsortCmpFunc_pair_Pair (InBlock 1 (ThenC (LoopC (cxh Tryz.prog w0 I0 M0 n0 m0) l1_slices_pdqsortCmpFunc_pair_Pair Q) Q)) ⟨lk [(0,arN n v 0),(1,iv a),(2,iv b),(3,iv lim),(4,cmpF),(10,bv wb),(11,bv wp),(12,iv l),(13,iv q)],H⟩ := fun hH hq => pq_k1 hn hd hab hb hl hl24 hq1 hq2 hlim hlm ihL hH hq
  unfold pq2 at hq
  rw [h1] at hP hq
  rw [hd] at hP
  rw [k2_slices_pdqsortCmpFunc_pair_Pair.eq_1]
  by_cases hw : (wb && wp && decide (h = .increasing)) = true
  · rw [if_pos hw] at hq
    simp at hw
    obtain ⟨⟨rfl,rfl⟩,rfl⟩ := hw
    simp [hintI]
    refine sc_fam 0 hP hH (by simp) (by simp) ?_
    cases hp : (Sort.partialInsertionSort ltP d a b).2 with
    | true =>
      rw [if_pos hp] at hq
      simp
      exact hq _ [(0,arN n v 0),(1,iv a),(2,iv b),(3,iv lim),(4,cmpF),(10,bv true),(11,bv true),(12,iv l),(13,iv q),(80,bv true)] (fun p => by simp)
    | false =>
      rw [if_neg (by rw [hp]; simp)] at hq
      simp
      exact hk (fun p => by simp) hq
  · rw [if_neg hw] at hq
    cases wb with
    | false =>
      simp
      exact hk hH hq
    | true => cases wp with
      | false =>
        simp
        exact hk hH hq
      | true =>
        cases h with
        | increasing => simp at hw
        | unknown =>
          simp [hintI]
          exact hk hH hq
        | decreasing =>
          simp [hintI]
          exact hk hH hq
theorem pq_k3 {a b lim l : Nat} {wb wp : Bool} {d : Array Sc} (hn : n≤900) (hd : d.size = n) (hab : a + 13≤b) (hb : b≤n) (hl : l = b - a) (hl24 : l≤24) (hlim : l - 12≤lim) (hlm : lim≤900)
    (ihL : ∀ (a' b' lim' : Nat) (wb' wp' : Bool) (d' : Array Sc),d'.size = n→a'≤b'→b'≤n→b' - a' < l→lim'≤900→farL (b' - a') lim' wb'→LPs v n a' b' lim' wb' wp' d')
    {H : Hp} (hH : ∀ p,H (0 :: p) = (arF19 d v).F 0 p) (hq : ∀ (H' : Hp) (st : List (Nat × A)),(∀ p,H' (0 :: p) = (arF19 (pq3 d a b lim wb wp) v).F 0 p)→Q .ret ⟨lk st,H'⟩) :
    WPC (cxh Tryz.prog w0 I0 M0 n0 m0) k3_slices_pdqsortCmpFunc_pair_Pair (InBlock 1 (ThenC (LoopC (cxh Tryz.prog w0 I0 M0 n0 m0) l1_slices_pdqsortCmpFunc_pair_Pair Q) Q)) ⟨lk [(0,arN n v 0),(1,iv a),(2,iv b),(3,iv lim),(4,cmpF),(10,bv wb),(11,bv wp),(12,iv l)],H⟩ := by
  have hC := choose_spec d v a b (by omega) hab (by omega) (by omega)
  have hR := reverse_spec d v a b (by omega) (by omega) (by omega) (by omega)
  obtain ⟨c1,c2⟩ := Sort.choosePivot_holds ltP d a b (by omega)
  have hrs : (Sort.reverseRange d a b).size = n := by
    have := (Sort.reverseRange_holds d a b (by omega) (by omega)).1
    rw [this]; exact hd
  unfold pq3 at hq
  rw [hd] at hC hR
  rcases hqq : Sort.choosePivot ltP d a b with ⟨q,h⟩
  rw [hqq] at hC c1 c2 hq
  simp only at hC c1 c2 hq
  rw [k3_slices_pdqsortCmpFunc_pair_Pair.eq_1]
  simp
  refine sc_fam 0 hC hH (by simp) (by simp) ?_
  by_cases hdec : h = .decreasing
  · subst hdec
    rw [if_pos rfl] at hq
    have e1 : IntKind.i64.wrap ((b : Int) - 1) = (b : Int) - 1 := i64_same (by omega) (by omega)
    have e2 : IntKind.i64.wrap ((q : Int) - a) = (q : Int) - a := i64_same (by omega) (by omega)
    have e3 : IntKind.i64.wrap ((b : Int) - 1 - ((q : Int) - a)) = ((b - 1 - (q - a) : Nat) : Int) := by rw [i64_same (by omega) (by omega)]; omega
    simp [hintI]
    refine sc_fam 0 hR (fun p => by simp) (by simp) (by simp) ?_
    simp [e1,e2,e3]
    exact pq_k2 (h := .increasing) hn hrs hab hb hl hl24 (by omega) (by omega) hlim hlm ihL (fun p => by simp) hq
  · rw [if_neg hdec] at hq
    have h2 : ¬ hintI h = 2 := by cases h <;> simp [hintI] at hdec ⊢
    simp [h2]
    exact pq_k2 hn hd hab hb hl hl24 (by omega) (by omega) hlim hlm ihL (fun p => by simp) hq
theorem lp_all (hn : n≤900) : ∀ (l : Nat),l≤24→∀ (a b lim : Nat) (wb wp : Bool) (d : Array Sc),d.size = n→a≤b→b≤n→b - a = l→lim≤900→farL l lim wb→LPs v n a b lim wb wp d := by
  intro l
  induction l using Nat.strongRecOn with
  | _ l ih =>
    intro hl24 a b lim wb wp d hd hab hb hl hlm hfar n0 w0 I0 M0 m0 Q H hH hq
    have e0 : IntKind.i64.wrap ((b : Int) - a) = (l : Int) := by rw [i64_same (by omega) (by omega)]; omega
    refine loopC_once mixed l1_slices_pdqsortCmpFunc_pair_Pair.eq_1 ?_
    rw [pdq_eq] at hq
    by_cases h12 : l≤12
    · rw [if_pos (by omega)] at hq
      have hI := insSort_spec d v a b (by omega) (by omega) (by omega)
      rw [hd] at hI
      simp [e0,show (l : Int)≤12 by omega,h12]
      refine sc_fam 0 hI hH (by simp) (by simp) ?_
      simp
      exact hq _ [] (fun p => by simp)
    · rw [if_neg (by omega)] at hq
      have hlim : (l - 12) + (if wb = true then 0 else 1)≤lim := by
        rcases hfar with h | h
        · omega
        · exact h
      have hlim0 : ¬ lim = 0 := by split at hlim <;> omega
      rw [if_neg hlim0] at hq
      have ihL : ∀ (a' b' lim' : Nat) (wb' wp' : Bool) (d' : Array Sc),d'.size = n→a'≤b'→b'≤n→b' - a' < l→lim'≤900→farL (b' - a') lim' wb'→LPs v n a' b' lim' wb' wp' d' := fun a' b' lim' wb' wp' d' k1 k2 k3 k4 k5 k6 => ih (b' - a') k4 (by omega) a' b' lim' wb' wp' d' k1 k2 k3 rfl k5 k6
      cases wb with
      | true =>
        rw [if_pos rfl] at hq
        simp at hlim
        simp [e0,show ¬ (l : Int)≤12 by omega,h12,hlim0]
        exact pq_k3 hn hd (by omega) hb hl.symm hl24 (by omega) hlm ihL hH hq
      | false =>
        rw [if_neg (by simp)] at hq
        simp at hlim
        have hB := break_spec d v a b (by omega) (by omega) (by omega) (by omega)
        rw [hd] at hB
        have hbs : (Sort.breakPatterns d a b).size = n := by
          have := (Sort.breakPatterns_holds d a b hab (by omega)).1
          rw [this]; exact hd
        have e1 : IntKind.i64.wrap ((lim : Int) - 1) = ((lim - 1 : Nat) : Int) := by rw [i64_same (by omega) (by omega)]; omega
        simp [e0,show ¬ (l : Int)≤12 by omega,h12,hlim0]
        refine sc_fam 0 hB hH (by simp) (by simp) ?_
        simp [e1]
        exact pq_k3 hn hbs (by omega) hb hl.symm hl24 (by omega) (by omega) ihL (fun p => by simp) hq
end
theorem sorted_rises {o : List Sc} (ho : Apart19 o) {d : Array Sc} (hp : d.toList.Perm o) (hs : Sort.SortedIn ltP 0 d.size d) : d.toList = srtI o := by
  have ha : Apart19 d.toList := by
    unfold Apart19 at ho ⊢
    exact (hp.pairwise_iff (fun {x y} h => by rw [par_symm]; exact h)).2 ho
  have hr : Rises d.toList := by
    unfold Rises Apart19 at *
    rw [List.pairwise_iff_getElem] at ha ⊢
    intro i j hi hj hij
    have h1 := ha i j hi hj hij
    have h2 := hs i j (Nat.zero_le _) hij (by simpa using hj)
    have e1 : d[i]! = d.toList[i] := by rw [getElem!_pos d i (by simpa using hi)]; simp
    have e2 : d[j]! = d.toList[j] := by rw [getElem!_pos d j (by simpa using hj)]; simp
    rw [e1,e2] at h2
    simp [ltP] at h2
    simp [par] at h1
    simp at h1 h2 ⊢
    omega
  obtain ⟨k1,k2⟩ := srt_ok ho
  exact rises_one hr k1 (hp.trans k2.symm)
theorem sortF_spec {o : List Sc} (ho : Apart19 o) (hl : o.length≤16) (v : Nat) : SpecF Tryz.prog 241 (fun r => [rpS o v r,cmpF]) (rpF o v) (fun _ => .tup []) (rpF (srtI o) v) := by
  obtain ⟨d,hd⟩ : ∃ d : Array Sc,d = o.toArray := ⟨_,rfl⟩
  have hdl : d.toList = o := by rw [hd]
  have hds : d.size = o.length := by rw [hd]; simp
  have hb : Sort.bitsLen o.length≤8 := (tab8_get o.length (by omega)).2
  have hfar : farL o.length (Sort.bitsLen o.length) true := by
    have : ∀ n : Fin 17,n.val≤12∨(n.val - 12) + 0≤Sort.bitsLen n.val := by decide +kernel
    unfold farL
    simpa using this ⟨o.length,by omega⟩
  have hP : PQs v o.length 0 o.length (Sort.bitsLen o.length) d := pq_of (lp_all (by omega) o.length (by omega) 0 o.length _ true true d hds (by omega) (Nat.le_refl _) (by omega) (by omega) hfar)
  have hS := Sort.pdq_sorts ltP swoP d 0 d.size (Sort.bitsLen o.length) true true (Nat.zero_le _) (Nat.le_refl _) (.inl rfl)
  have hres : (Sort.pdq ltP d 0 o.length (Sort.bitsLen o.length) true true).toList = srtI o := by
    rw [hds] at hS
    obtain ⟨⟨s1,_,s3⟩,s4⟩ := hS
    refine sorted_rises ho ?_ (by rw [s1,hds]; exact s4)
    have e1 : ∀ x : Array Sc,x.size = o.length→x.extract 0 o.length = x := fun x hx => by rw [← hx]; simp
    rw [e1 _ (by rw [s1,hds]),e1 _ hds,hdl] at s3
    exact s3
  unfold PQs at hP
  rw [show (arF19 d v) = rpF o v by unfold arF19; rw [hdl],show arF19 (Sort.pdq ltP d 0 o.length (Sort.bitsLen o.length) true true) v = rpF (srtI o) v by unfold arF19; rw [hres]] at hP
  refine specF_of t_slices_SortFunc_pair_Pair_pair_Pair (by simp) (famL_cons famA_osl (famL_cons famA_cmpF famL_nil)) (famA_tup famL_nil) fun w0 I0 M0 m0 => ?_
  have e1 : IntKind.u64.wrap (o.length : Int) = (o.length : Int) := u64_same (by omega) (by omega)
  have hL := bitslen_spec o.length (by omega)
  unfold c_slices_SortFunc_pair_Pair_pair_Pair
  simp [e1]
  refine sc_call hL rfl ?_
  simp
  refine sc_fam 0 hP (fun p => by simp) (by simp) (by simp) ?_
  simp
  exact reth_famN rfl rfl (fun p => by simp)
@[simp] theorem sc_take2 {x : Sc} : (scC x).take 2 = prC x := rfl
theorem pick_l3 {all : List Sc} : ∀ (m : Nat) (l junk o : List Sc) (v : Nat),l.length = m→l.length≤300→o.length + l.length≤300→HeapL l l.length→(∀ y,y ∈ all→y ∈ l∨freeB o y = false)→(∀ y,y ∈ l→y ∈ all) →
    ∃ o',Picks all o o'∧∀ {n0 : Nat} {w0 : World} {I0 : Nat→Prop} {Q : Exit→Sta→Prop} (u : Nat) (H : Hp),(∀ p,H (0 :: p) = (hpF l junk v).F 0 p)→(∀ p,H (2 :: p) = (rpF o u).F 2 p) →
      (∀ (H' : Hp) (u' : Nat) (st : List (Nat × A)),(∀ p,H' (2 :: p) = (rpF o' u').F 2 p)→Q (.exit 4) ⟨lk ([(3,hpP 0),(8,rpS o' u' 2)] ++ st),H'⟩) →
      LoopC (cx Tryz.prog w0 I0 n0) l3_pair_Pick Q ⟨lk [(3,hpP 0),(8,rpS o u 2)],H⟩ := by
  intro m
  induction m with
  | zero =>
    intro l junk o v hm hl hol hh hall hsub
    have : l = [] := List.eq_nil_of_length_eq_zero hm
    subst this
    have hdone : ∀ y,y ∈ all→freeB o y = false := fun y hy => by
      rcases hall y hy with h | h
      · simp at h
      · exact h
    refine ⟨o,.done hdone,fun {n0 w0 I0 Q} u H hH hG hq => ?_⟩
    have hL := hLen_spec [] junk v (by simp)
    have h0 := hH []
    refine loopC_once mixed l3_pair_Pick.eq_1 ?_
    simp [h0]
    refine sc_fam 0 hL hH (by simp) (by simp) ?_
    simp
    exact hq _ u [(51,bv false)] (fun p => by simp [hG])
  | succ m ih =>
    intro l junk o v hm hl hol hh hall hsub
    obtain ⟨q1,q2,q3⟩ := pop_ok (l := l) (by omega) hh
    have hmin : ∀ y,y ∈ l→aheadB y (gt l 0) = false := fun y hy => by
      obtain ⟨k,hk,rfl⟩ := List.getElem_of_mem hy
      rw [← gt_at hk]
      exact heap_min hh k hk
    obtain ⟨g1,g2⟩ := pick_pop q3 hmin hall hsub
    have hP := hpPop_spec l junk v (by omega) (by omega)
    have hL := hLen_spec l junk v (by omega)
    have hlen := popL_len l
    have hrl : ((popL l).take (l.length - 1)).length = m := by simp; omega
    have q1' : (popL l).getD (l.length - 1) sc0 = gt l 0 := q1
    rw [q1'] at hP
    have q2' : HeapL ((popL l).take (l.length - 1)) m := fun k h1 h2 => q2 k h1 (by omega)
    clear q2
    generalize gt l 0 = x at hP g1 g2 q3 hmin
    generalize (popL l).take (l.length - 1) = rest at hP hrl q2' q3 g1 g2
    have q2 : HeapL rest rest.length := fun k h1 h2 => q2' k h1 (by omega)
    have hsub' : ∀ y,y ∈ rest→y ∈ all := fun y hy => hsub y (q3.subset (by simp [hy]))
    cases hf : freeB o x with
    | true =>
      obtain ⟨b1,b2⟩ := g1 hf
      obtain ⟨o',p1,p2⟩ := ih rest (x :: junk) (o ++ [x]) v hrl (by omega) (by simp; omega) q2 b2 hsub'
      refine ⟨o',.step b1 p1,fun {n0 w0 I0 Q} u H hH hG hq => ?_⟩
      have hC := cont_spec x o u (by omega)
      rw [hf] at hC
      have h0 := hH []
      simp only [hpF_F] at h0
      refine loopC_once mixed l3_pair_Pick.eq_1 ?_
      simp [h0]
      refine sc_fam 0 hL hH (by simp) (by simp) ?_
      simp [show 0 < l.length by omega]
      refine sc_fam 0 hP (fun p => by simp) (by simp) (by simp) ?_
      simp [updF_app,pr_agg]
      have hG2 : ∀ p,(ov 0 ((hpF rest (x :: junk) v).F 0) (updF H [1] ⟨(H [1]).u + 1,.cells (scC x)⟩) : Hp) (2 :: p) = (rpF o u).F 2 p := fun p => by simp [updF_app,hG]
      refine sc_fam 2 hC hG2 (by simp) (by simp) ?_
      have ht : (o.map prA).take o.length = o.map prA := List.take_of_length_le (by simp)
      simp [updF_app,lens_pr,ht,pr_agg]
      refine ⟨pr_bare,by omega,?_⟩
      refine LoopC.le (le_list [(3,hpP 0),(8,rpS (o ++ [x]) (u + 1) 2)] (by simp)) ?_
      exact p2 (u + 1) _ (fun p => by simp [updF_app]) (fun p => by by_cases hp : p = [] <;> simp [hp,updF_app]) hq
    | false =>
      obtain ⟨o',p1,p2⟩ := ih rest (x :: junk) o v hrl (by omega) (by omega) q2 (g2 hf) hsub'
      refine ⟨o',p1,fun {n0 w0 I0 Q} u H hH hG hq => ?_⟩
      have hC := cont_spec x o u (by omega)
      rw [hf] at hC
      have h0 := hH []
      simp only [hpF_F] at h0
      refine loopC_once mixed l3_pair_Pick.eq_1 ?_
      simp [h0]
      refine sc_fam 0 hL hH (by simp) (by simp) ?_
      simp [show 0 < l.length by omega]
      refine sc_fam 0 hP (fun p => by simp) (by simp) (by simp) ?_
      simp [updF_app,pr_agg]
      have hG2 : ∀ p,(ov 0 ((hpF rest (x :: junk) v).F 0) (updF H [1] ⟨(H [1]).u + 1,.cells (scC x)⟩) : Hp) (2 :: p) = (rpF o u).F 2 p := fun p => by simp [updF_app,hG]
      refine sc_fam 2 hC hG2 (by simp) (by simp) ?_
      simp
      refine LoopC.le (le_list [(3,hpP 0),(8,rpS o u 2)] (by simp)) ?_
      exact p2 u _ (fun p => by simp [updF_app]) (fun p => by simp) hq
end Go.Proofs.YtbjmaoedheiigaaGreat
namespace Go.PL
set_option linter.unusedVariables false
set_option linter.unusedSimpArgs false
open List
def candR (i : Nat) : Nat→List Int→List Sc
  | _,[] => []
  | j,n :: r => if 0 < n∧i < 16∧j < 16 then ⟨i,j,n⟩ :: candR i (j + 1) r else candR i (j + 1) r
def candS : Nat→List (List Int)→List Sc
  | _,[] => []
  | i,r :: rs => candR i 0 r ++ candS (i + 1) rs
theorem candR_len {i : Nat} : ∀ {r : List Int} {j : Nat},(candR i j r).length≤16 - j
  | [],j => by simp [candR]
  | n :: r,j => by
    have := candR_len (i := i) (r := r) (j := j + 1)
    unfold candR
    split
    · simp; omega
    · omega
theorem candR_far {i : Nat} (h : 16≤i) : ∀ {r : List Int} {j : Nat},candR i j r = []
  | [],j => rfl
  | n :: r,j => by
    unfold candR
    rw [if_neg (by omega),candR_far h]
theorem candS_len : ∀ {rs : List (List Int)} {i : Nat},(candS i rs).length≤(16 - i) * 16
  | [],i => by simp [candS]
  | r :: rs,i => by
    have h1 := candS_len (rs := rs) (i := i + 1)
    have h2 := candR_len (i := i) (r := r) (j := 0)
    unfold candS
    rw [List.length_append]
    by_cases h : 16≤i
    · rw [candR_far h]; simp; omega
    · omega
theorem candR_lt {i : Nat} : ∀ {r : List Int} {j : Nat} {x : Sc},x ∈ candR i j r→x.i = i∧i < 16∧x.j < 16∧j≤x.j∧x.j < j + r.length∧r[x.j - j]? = some x.n∧0 < x.n
  | [],j,x,h => by simp [candR] at h
  | n :: r,j,x,h => by
    have ih : x ∈ candR i (j + 1) r→x.i = i∧i < 16∧x.j < 16∧j≤x.j∧x.j < j + (n :: r).length∧(n :: r)[x.j - j]? = some x.n∧0 < x.n := fun h => by
      obtain ⟨h1,h2,h3,h4,h5,h6,h7⟩ := candR_lt h
      refine ⟨h1,h2,h3,by omega,by simp; omega,?_,h7⟩
      rw [show x.j - j = (x.j - (j + 1)) + 1 by omega]
      simpa using h6
    unfold candR at h
    split at h
    · rename_i hc
      rcases List.mem_cons.1 h with rfl | h
      · exact ⟨rfl,hc.2.1,hc.2.2,Nat.le_refl _,by simp,by simp,hc.1⟩
      · exact ih h
    · exact ih h
end Go.PL
namespace Go.Proofs.YtbjmaoedheiigaaGreat
set_option linter.unusedVariables false
set_option linter.unusedSimpArgs false
open Go Go.G Go.Proofs Go.PL
abbrev ivss (l : List (List Int)) : A := .sl false (l.map ivs)
def HpI (H : Hp) (all : List Sc) : Prop := ∃ (l junk : List Sc) (v : Nat),(∀ p,H (0 :: p) = (hpF l junk v).F 0 p)∧HeapL l l.length∧List.Perm l all∧∀ p,H (2 :: p) = ⟨0,.none⟩
theorem pick_l1 {n0 : Nat} {w0 : World} {I0 : Nat→Prop} {Q : Exit→Sta→Prop} {X : A} {N : Nat} {r : List Int} {i : Nat} (hr : r.length≤1000000) : ∀ (m j : Nat) (all : List Sc) (H : Hp),r.length = j + m→all.length + (candR i j (r.drop j)).length≤256→HpI H all →
    (∀ (H' : Hp) (st : List (Nat × A)),HpI H' (all ++ candR i j (r.drop j))→Q (.exit 2) ⟨lk ([(3,hpP 0),(4,iv i),(12,X),(13,iv N),(14,iv i)] ++ st),H'⟩) →
    LoopC (cx Tryz.prog w0 I0 n0) l1_pair_Pick Q ⟨lk [(3,hpP 0),(4,iv i),(12,X),(13,iv N),(14,iv i),(19,ivs r),(20,iv r.length),(21,iv j)],H⟩ := by
  intro m
  induction m with
  | zero =>
    intro j all H hm hl hI hq
    refine loopC_once mixed l1_pair_Pick.eq_1 ?_
    have : ¬ (j : Int) < r.length := by omega
    simp [this]
    have hd : r.drop j = [] := List.drop_eq_nil_of_le (by omega)
    rw [hd] at hq
    exact hq H [(19,ivs r),(20,iv r.length),(21,iv j),(22,bv false)] (by simpa [candR] using hI)
  | succ m ih =>
    intro j all H hm hl hI hq
    have hj : j < r.length := by omega
    have hd : r.drop j = r[j] :: r.drop (j + 1) := (List.getElem_cons_drop hj).symm
    have e1 : IntKind.i64.wrap ((j : Int) + 1) = ((j + 1 : Nat) : Int) := by rw [i64_same (by omega) (by omega)]; omega
    rw [hd] at hl hq
    unfold candR at hl hq
    refine loopC_once mixed l1_pair_Pick.eq_1 ?_
    simp [hj,show (j : Int) < r.length by omega]
    have next : ∀ (all' : List Sc) (H' : Hp),all'.length + (candR i (j + 1) (r.drop (j + 1))).length≤256→HpI H' all'→all' ++ candR i (j + 1) (r.drop (j + 1)) = all ++ (if 0 < r[j]∧i < 16∧j < 16 then ⟨i,j,r[j]⟩ :: candR i (j + 1) (r.drop (j + 1)) else candR i (j + 1) (r.drop (j + 1)))→LoopC (cx Tryz.prog w0 I0 n0) l1_pair_Pick Q ⟨lk [(3,hpP 0),(4,iv i),(12,X),(13,iv N),(14,iv i),(19,ivs r),(20,iv r.length),(21,iv (j + 1 : Nat))],H'⟩ := fun all' H' hl' hI' he => ih (j + 1) all' H' (by omega) hl' hI' (by rw [he]; exact hq)
    by_cases h1 : 0 < r[j]
    · by_cases h2 : i < 16
      · by_cases h3 : j < 16
        · rw [if_pos ⟨h1,h2,h3⟩] at hl
          obtain ⟨l,junk,v,q1,q2,q3,q4⟩ := hI
          have hll := q3.length_eq
          simp at hl
          have hP := hpPush_spec l junk v (by omega) ⟨i,j,r[j]⟩
          obtain ⟨g1,g2⟩ := push_ok q2 ⟨i,j,r[j]⟩
          simp [h1,show (i : Int) < 16 by omega,show (j : Int) < 16 by omega]
          refine ⟨?_,fun h => by omega⟩
          refine sc_fam 0 hP q1 (by simp [scA,scC]) (by simp) ?_
          simp [e1]
          refine next (all ++ [⟨i,j,r[j]⟩]) _ (by simp; omega) ⟨upL (l.length + 1) (l ++ [⟨i,j,r[j]⟩]) l.length,[],v + 1,fun p => by simp,?_,?_,fun p => by simp [q4]⟩ (by rw [if_pos ⟨h1,h2,h3⟩]; simp)
          · rw [upL_len]; simpa using g1
          · exact g2.trans ((q3.cons _).trans (List.perm_append_singleton _ _).symm)
        · have : ¬ (j : Int) < 16 := by omega
          simp [h1,show (i : Int) < 16 by omega,this,e1]
          intro _
          refine next all H (by rw [if_neg (by omega)] at hl; exact hl) hI (by rw [if_neg (by omega)])
      · have : ¬ (i : Int) < 16 := by omega
        simp [h1,this,e1]
        refine next all H (by rw [if_neg (by omega)] at hl; exact hl) hI (by rw [if_neg (by omega)])
    · simp [h1,e1]
      refine next all H (by rw [if_neg (by omega)] at hl; exact hl) hI (by rw [if_neg (by omega)])
theorem pick_l2 {n0 : Nat} {w0 : World} {I0 : Nat→Prop} {Q : Exit→Sta→Prop} {rs : List (List Int)} (hrs : rs.length≤1000000) (hr : ∀ r,r ∈ rs→r.length≤1000000) : ∀ (m i : Nat) (all : List Sc) (H : Hp),rs.length = i + m→all.length + (candS i (rs.drop i)).length≤256→HpI H all →
    (∀ (H' : Hp) (st : List (Nat × A)),HpI H' (all ++ candS i (rs.drop i))→Q (.exit 0) ⟨lk ([(3,hpP 0)] ++ st),H'⟩) →
    LoopC (cx Tryz.prog w0 I0 n0) l2_pair_Pick Q ⟨lk [(3,hpP 0),(12,ivss rs),(13,iv rs.length),(14,iv i)],H⟩ := by
  intro m
  induction m with
  | zero =>
    intro i all H hm hl hI hq
    refine loopC_once mixed l2_pair_Pick.eq_1 ?_
    have : ¬ (i : Int) < rs.length := by omega
    simp [this]
    have hd : rs.drop i = [] := List.drop_eq_nil_of_le (by omega)
    rw [hd] at hq
    exact hq H [(12,ivss rs),(13,iv rs.length),(14,iv i),(15,bv false)] (by simpa [candS] using hI)
  | succ m ih =>
    intro i all H hm hl hI hq
    have hj : i < rs.length := by omega
    have hd : rs.drop i = rs[i] :: rs.drop (i + 1) := (List.getElem_cons_drop hj).symm
    have e1 : IntKind.i64.wrap ((i : Int) + 1) = ((i + 1 : Nat) : Int) := by rw [i64_same (by omega) (by omega)]; omega
    have hri := hr rs[i] (List.getElem_mem hj)
    rw [hd] at hl hq
    unfold candS at hl hq
    rw [List.length_append] at hl
    refine loopC_once mixed l2_pair_Pick.eq_1 ?_
    simp [hj,show (i : Int) < rs.length by omega]
    refine LoopC.le (le_list [(3,hpP 0),(4,iv i),(12,ivss rs),(13,iv rs.length),(14,iv i),(19,ivs rs[i]),(20,iv rs[i].length),(21,iv (0 : Nat))] (by simp)) ?_
    refine pick_l1 hri rs[i].length 0 all H (by omega) (by simp; omega) hI fun H' st hI' => ?_
    simp [e1]
    refine ih (i + 1) _ H' (by omega) ?_ (by simpa using hI') fun H2 st2 hI2 => ?_
    · simp; omega
    · refine hq H2 st2 (by simpa using hI2)
theorem heap_any : ∀ all : List Sc,∃ l,HeapL l l.length∧List.Perm l all
  | [] => ⟨[],fun k _ h => by simp at h,List.Perm.refl _⟩
  | x :: all => by
    obtain ⟨l,h1,h2⟩ := heap_any all
    obtain ⟨g1,g2⟩ := push_ok h1 x
    exact ⟨_,by rw [upL_len]; simpa using g1,g2.trans (h2.cons x)⟩
theorem picks_any {all : List Sc} (h : all.length≤300) : ∃ o',Picks all [] o' := by
  obtain ⟨l,h1,h2⟩ := heap_any all
  have := h2.length_eq
  obtain ⟨o',h3,_⟩ := pick_l3 (all := all) l.length l [] [] 0 rfl (by omega) (by simp; omega) h1 (fun y hy => .inl (h2.symm.subset hy)) (fun y hy => h2.subset hy)
  exact ⟨o',h3⟩
theorem picks_facts {rs : List (List Int)} {o' : List Sc} (h : Picks (candS 0 rs) [] o') : Apart19 o'∧(∀ x,x ∈ o'→x ∈ candS 0 rs) := picks_apart h (by simp [Apart19]) (by simp)
theorem pick_spec (rs : List (List Int)) (hrs : rs.length≤1000000) (hr : ∀ r,r ∈ rs→r.length≤1000000) {o' : List Sc} (ho : Picks (candS 0 rs) [] o') (hl16 : o'.length≤16) : G.Spec Tryz.prog 203 [ivss rs] (.sl false ((srtI o').map prA)) := by
  obtain ⟨hap,_⟩ := picks_facts ho
  have hcl := candS_len (rs := rs) (i := 0)
  refine spec_of t_pair_Pick (by simp) fun w0 I0 => ?_
  unfold c_pair_Pick
  simp
  refine LoopC.le (le_blankC (d := [0]) (u := 1) (cs := [.sl true []]) 0 [0,0] 3 rfl rfl (by simp)) ?_
  simp
  refine LoopC.le (le_list [(3,hpP 0),(12,ivss rs),(13,iv rs.length),(14,iv (0 : Nat))] (by simp)) ?_
  refine pick_l2 hrs hr rs.length 0 [] _ (by omega) (by simpa using hcl) ⟨[],[],1,fun p => ?_,fun k _ h => by simp at h,List.Perm.refl _,fun p => by simp⟩ fun H' st hI => ?_
  · by_cases h1 : p = []
    · subst h1; simp
    · by_cases h2 : p = [0]
      · subst h2; simp
      · simp [h1,h2,Ne.symm h1,Ne.symm h2]
  · obtain ⟨l,junk,v,q1,q2,q3,q4⟩ := hI
    simp only [List.nil_append,List.drop_zero] at q3
    have hll := q3.length_eq
    simp
    refine LoopC.le (le_blank 8 [2] 2 (by simp)) ?_
    obtain ⟨o2,p1,p2⟩ := pick_l3 (all := candS 0 rs) l.length l junk [] v rfl (by omega) (by simp; omega) q2 (fun y hy => .inl (q3.symm.subset hy)) (fun y hy => q3.subset hy)
    have := picks_one p1 ho
    subst this
    refine LoopC.le (le_list [(3,hpP 0),(8,rpS [] ((H' [2]).u + 1) 2)] (by simp)) ?_
    refine p2 _ _ (fun p => by simp [updF_app,q1]) (fun p => ?_) fun H2 u2 st2 hG => ?_
    · by_cases h1 : p = [] <;> simp [h1,updF_app,q4]
    · have hS := sortF_spec hap hl16 u2
      simp
      refine sc_fam 2 hS hG (by simp) (by simp) ?_
      simp
      have hsl : (srtI o2).length = o2.length := (srt_ok hap).2.length_eq
      have := frz_rowT (H := ov 2 ((rpF (srtI o2) u2).F 2) H2) (o := [2]) (u := u2) (sz := 2) (l := srtI o2) (f := prA) (n := o2.length) (by simp) (by omega) (by intro x; rfl)
      rw [List.take_of_length_le (by omega)] at this
      exact this
end Go.Proofs.YtbjmaoedheiigaaGreat
namespace Go.Proofs.YtbjmaoedheiigaaGreat
set_option linter.unusedVariables false
set_option linter.unusedSimpArgs false
set_option maxRecDepth 20000
open Go Go.G Go.Proofs
@[simp] theorem und_166 : Tryz.prog.underlying 166 = some (.slice 171) := by kernel_rfl
@[simp] theorem und_208 : Tryz.prog.underlying 208 = some (.slice 211) := by kernel_rfl
@[simp] theorem und_221 : Tryz.prog.underlying 221 = some (.array 3 3) := by kernel_rfl
@[simp] theorem szT_166 : szT Tryz.prog 166 = some 1 := by kernel_rfl
@[simp] theorem szT_171 : szT Tryz.prog 171 = some 2 := by kernel_rfl
@[simp] theorem szT_211 : szT Tryz.prog 211 = some 2 := by kernel_rfl
@[simp] theorem aggT_166 : aggT Tryz.prog 166 = some false := by kernel_rfl
@[simp] theorem aggT_171 : aggT Tryz.prog 171 = some true := by kernel_rfl
@[simp] theorem aggT_211 : aggT Tryz.prog 211 = some true := by kernel_rfl
@[simp] theorem zeroT_166 : zeroT Tryz.prog 166 = some (Value.slice none 0 0) := by kernel_rfl
@[simp] theorem zeroT_171 : zeroT Tryz.prog 171 = some (Value.agg #[Value.int IntKind.i64 0,Value.int IntKind.i64 0]) := by kernel_rfl
@[simp] theorem zeroT_211 : zeroT Tryz.prog 211 = some (Value.agg #[Value.int IntKind.i64 0,Value.int IntKind.i64 0]) := by kernel_rfl
@[simp] theorem zeroT_221 : zeroT Tryz.prog 221 = some (Value.agg #[Value.int IntKind.i64 0,Value.int IntKind.i64 0,Value.int IntKind.i64 0]) := by kernel_rfl
@[simp] theorem bytesT_171 : bytesT Tryz.prog 171 = some 16 := by kernel_rfl
@[simp] theorem bytesT_211 : bytesT Tryz.prog 211 = some 16 := by kernel_rfl
@[simp] theorem fieldOffT_171_0 : fieldOffT Tryz.prog 171 0 = some 0 := by kernel_rfl
@[simp] theorem fieldOffT_171_1 : fieldOffT Tryz.prog 171 1 = some 1 := by kernel_rfl
@[simp] theorem fieldOffT_211_0 : fieldOffT Tryz.prog 211 0 = some 0 := by kernel_rfl
@[simp] theorem fieldOffT_211_1 : fieldOffT Tryz.prog 211 1 = some 1 := by kernel_rfl
@[simp] theorem fieldOffT_219_0 : fieldOffT Tryz.prog 219 0 = some 0 := by kernel_rfl
@[simp] theorem buildA_171 (ps : List (Nat × A)) : buildA Tryz.prog 171 ps = (fillA (fun i => ([(0,1),(1,1)] : List (Nat × Nat))[i]?) [A.v (Value.int IntKind.i64 0),A.v (Value.int IntKind.i64 0)] ps).map A.agg := by kernel_rfl
@[simp] theorem buildA_211 (ps : List (Nat × A)) : buildA Tryz.prog 211 ps = (fillA (fun i => ([(0,1),(1,1)] : List (Nat × Nat))[i]?) [A.v (Value.int IntKind.i64 0),A.v (Value.int IntKind.i64 0)] ps).map A.agg := by kernel_rfl
@[simp] theorem buildA_219 (ps : List (Nat × A)) : buildA Tryz.prog 219 ps = (fillA (fun i => ([(0,1)] : List (Nat × Nat))[i]?) [A.sl true []] ps).map A.agg := by kernel_rfl
def c_lcs_reach : CC := sR [oO 8 (.assign (nI 0))] [0,1,2,3] (.seq (.block 0 (sR [mO 10 2,mO 11 10,oG 12 (mV 3) 11 true,oO 13 (.pick (xT 11) (xT 12) (nB false)),aO 9 13] [0,1,2,3,9] (cD 9 (sR [oO 8 (.assign (nI 0))] [8] (.ret)) (sR [mO 15 2,mO 16 15,oG 17 (mV 3) 16 false,oG 18 (.unOp .not 4 (xT 17)) 16 false,oG 19 (mV 18) 16 false,oG 20 (mV 0) 19 true,oG 21 (mV 1) 19 true,oG 22 (.binOp .sub 3 (xT 21) (nI 1) 3) 19 true,oG 23 (iA 164 20 22) 19 true,oG 24 (lD 3 23) 19 true,oG 25 (mV 0) 19 true,oG 26 (mV 1) 19 true,oG 27 (.binOp .add 3 (xT 26) (nI 1) 3) 19 true,oG 28 (iA 164 25 27) 19 true,oG 29 (lD 3 28) 19 true,oG 30 (bO .lss 3 24 29 3) 19 true,oG 31 (.pick (xT 19) (xT 30) (nB false)) 16 false,oO 32 (.pick (xT 16) (nB true) (xT 31)),aO 14 32] [0,1,14] (cD 14 (sR [mO 33 0,mO 34 1,oO 35 (.binOp .add 3 (xT 34) (nI 1) 3),oO 36 (iA 164 33 35),lO 37 3 36,aO 8 37] [8] (.ret)) (.skip)))))) (.keep [0,1] (sR [mO 38 0,mO 39 1,oO 40 (.binOp .sub 3 (xT 39) (nI 1) 3),oO 41 (iA 164 38 40),lO 42 3 41,oO 43 (.binOp .add 3 (xT 42) (nI 1) 3),aO 8 43] [8] (.ret))))
theorem t_lcs_reach : Txt Tryz.prog 219 44 [(.tmp 8)] c_lcs_reach := txt_of (code := Tryz.f219.body.getD .ret) mixed (by kernel_rfl) Tryz.func219 (by kernel_rfl) Tryz.ntmps219 (by kernel_rfl) (ls := lsOf c_lcs_reach) (by kernel_rfl)
def l1_lcs_Distance : CC := .seq (sR [mO 73 13,mO 74 8,oO 75 (bO .lss 3 73 74 3),mO 76 75,oG 77 (mV 14) 76 true,oG 78 (mV 9) 76 true,oG 79 (bO .lss 3 77 78 3) 76 true,oO 80 (.pick (xT 76) (xT 79) (nB false)),mO 81 80,oG 82 (mV 13) 81 true,oG 83 (.binOp .geq 3 (xT 82) (nI 0) 3) 81 true,oO 84 (.pick (xT 81) (xT 83) (nB false)),mO 85 84,oG 86 (mV 14) 85 true,oG 87 (.binOp .geq 3 (xT 86) (nI 0) 3) 85 true,oO 88 (.pick (xT 85) (xT 87) (nB false)),mO 89 88,oG 90 (mV 0) 89 true,oG 91 (mV 13) 89 true,oG 92 (iA 164 90 91) 89 true,oG 93 (lD 3 92) 89 true,oG 94 (mV 1) 89 true,oG 95 (mV 14) 89 true,oG 96 (iA 164 94 95) 89 true,oG 97 (lD 3 96) 89 true,oG 98 (bO .eql 3 93 97 3) 89 true,oO 99 (.pick (xT 89) (xT 98) (nB false))] [0,1,2,8,9,10,11,12,13,14,99] (cD 99 (.skip) (.exit 4))) (.keep [0,1,2,8,9,10,11,12,13,14] (.block 5 (.reg [mO 100 13,oO 101 (.binOp .add 3 (xT 100) (nI 1) 3),mO 102 14,oO 103 (.binOp .add 3 (xT 102) (nI 1) 3),aO 13 101,aO 14 103] [0,1,2,8,9,10,11,12,13,14])))
def l2_lcs_Distance : CC := .seq (sR [mO 52 12,mO 53 11,oO 54 (bO .leq 3 52 53 3)] [0,1,2,8,9,10,11,12,54] (cD 54 (.skip) (.exit 2))) (.keep [0,1,2,8,9,10,11,12] (.seq (.block 3 (sR [mO 57 10,mO 58 2,oO 59 (.binOp .add 3 (xT 58) (nI 1) 3),mO 60 12,oO 61 (bO .add 3 59 60 3),mO 62 12,mO 63 11,oO 64 (.unOp .neg 3 (xT 63)),oO 65 (bO .eql 3 62 64 3),mO 66 12,mO 67 11,oO 68 (bO .eql 3 66 67 3),oO 69 (cL 219 #[(xT 57),(xT 61),(xT 65),(xT 68)] #[164,3,4,4]),aO 13 69] [0,1,2,8,9,10,11,12,13] (sR [mO 70 13,mO 71 12,oO 72 (bO .sub 3 70 71 3),aO 14 72] [0,1,2,8,9,10,11,12,13,14] (.seq (.block 4 (.loop l1_lcs_Distance)) (.keep [0,1,2,8,9,10,11,12,13,14] (sR [mO 104 10,mO 105 2,oO 106 (.binOp .add 3 (xT 105) (nI 1) 3),mO 107 12,oO 108 (bO .add 3 106 107 3),mO 109 13,oO 110 (iA 164 104 108),oS (.store 3 (xT 110) (xT 109))] [0,1,2,8,9,10,11,12,13,14] (sR [mO 111 13,mO 112 8,oO 113 (bO .geq 3 111 112 3),mO 114 113,oG 115 (mV 14) 114 true,oG 116 (mV 9) 114 true,oG 117 (bO .geq 3 115 116 3) 114 true,oO 118 (.pick (xT 114) (xT 117) (nB false))] [0,1,2,8,9,10,11,12,118] (cD 118 (sR [mO 119 11,aO 6 119,oO 7 (.assign (nB true))] [6,7] (.ret)) (.skip))))))))) (.keep [0,1,2,8,9,10,11,12] (.reg [mO 55 12,oO 56 (.binOp .add 3 (xT 55) (nI 2) 3),aO 12 56] [0,1,2,8,9,10,11,12]))))
def l3_lcs_Distance : CC := .seq (sR [mO 45 11,mO 46 2,oO 47 (bO .leq 3 45 46 3)] [0,1,2,8,9,10,11,47] (cD 47 (.skip) (.exit 0))) (.keep [0,1,2,8,9,10,11] (.seq (.block 1 (sR [mO 50 11,oO 51 (.unOp .neg 3 (xT 50)),aO 12 51] [0,1,2,8,9,10,11,12] (.block 2 (.loop l2_lcs_Distance)))) (.keep [0,1,2,8,9,10,11] (.reg [mO 48 11,oO 49 (.binOp .add 3 (xT 48) (nI 1) 3),aO 11 49] [0,1,2,8,9,10,11])))) 
def c_lcs_Distance : CC := sR [oO 6 (.assign (nI 0)),oO 7 (.assign (nB false))] [0,1,2] (sR [mO 15 0,oO 16 (bL 15 164),mO 17 1,oO 18 (bL 17 164),aO 8 16,aO 9 18] [0,1,2,8,9] (sR [mO 19 2,oO 20 (bC .max #[(xT 19),(.const (.int .i64 (-1)))] #[3,3]),mO 21 8,mO 22 9,oO 23 (bO .add 3 21 22 3),oO 24 (bC .min #[(xT 20),(xT 23)] #[3,3]),aO 2 24] [0,1,2,8,9] (.seq (sR [mO 25 2,oO 26 (.binOp .lss 3 (xT 25) (nI 0) 3),mO 27 26,oG 28 (mV 8) 27 false,oG 29 (mV 9) 27 false,oG 30 (bO .sub 3 28 29 3) 27 false,oG 31 (mV 2) 27 false,oG 32 (bO .gtr 3 30 31 3) 27 false,oO 33 (.pick (xT 27) (nB true) (xT 32)),mO 34 33,oG 35 (mV 9) 34 false,oG 36 (mV 8) 34 false,oG 37 (bO .sub 3 35 36 3) 34 false,oG 38 (mV 2) 34 false,oG 39 (bO .gtr 3 37 38 3) 34 false,oO 40 (.pick (xT 34) (nB true) (xT 39))] [0,1,2,8,9,40] (cD 40 (sR [oO 6 (.assign (nI 0)),oO 7 (.assign (nB false))] [6,7] (.ret)) (.skip))) (.keep [0,1,2,8,9] (sR [mO 41 2,oO 42 (.binOp .mul 3 (nI 2) (xT 41) 3),oO 43 (.binOp .add 3 (xT 42) (nI 3) 3),oN 44 (.makeSlice 164 (xT 43) (xT 43)) [0],aO 10 44] [0,1,2,8,9,10] (.seq (sR [oO 11 (.assign (nI 0))] [0,1,2,8,9,10,11] (.block 0 (.loop l3_lcs_Distance))) (.keep [] (sR [oO 6 (.assign (nI 0)),oO 7 (.assign (nB false))] [6,7] (.ret)))))))))
theorem t_lcs_Distance : Txt Tryz.prog 175 120 [(.tmp 6),(.tmp 7)] c_lcs_Distance := txt_of (code := Tryz.f175.body.getD .ret) mixed (by kernel_rfl) Tryz.func175 (by kernel_rfl) Tryz.ntmps175 (by kernel_rfl) (ls := lsOf c_lcs_Distance) (by kernel_rfl)
def k1_lcs_row : CC := .reg [mO 43 5,mO 44 9,oO 45 (.binOp .add 3 (xT 44) (nI 1) 3),mO 46 5,mO 47 9,oO 48 (.binOp .add 3 (xT 47) (nI 1) 3),oO 49 (iA 164 46 48),lO 50 3 49,mO 51 5,mO 52 9,oO 53 (iA 164 51 52),lO 54 3 53,oO 55 (bC .max #[(xT 50),(xT 54)] #[3,3]),mO 56 11,oO 57 (iA 164 43 45),oS (.store 3 (xT 57) (xT 55)),aO 8 56] [1,5,7,8,16,17,18,22,23,24]
def l1_lcs_row : CC := sR [oO 25 (bO .lss 3 24 23 3)] [1,5,7,8,16,17,18,22,23,24,25] (.seq (cD 25 (.skip) (.exit 2)) (.keep [1,5,7,8,16,17,18,22,23,24] (.seq (.block 3 (sR [mO 26 24,oO 27 (iA 164 22 24),lO 28 3 27,aO 9 26,aO 10 28] [1,5,7,8,9,10,16,17,18,22,23,24] (sR [mO 29 5,mO 30 9,oO 31 (.binOp .add 3 (xT 30) (nI 1) 3),oO 32 (iA 164 29 31),lO 33 3 32,aO 11 33] [1,5,7,8,9,10,11,16,17,18,22,23,24] (.seq (sR [mO 34 7,mO 35 10,oO 36 (bO .eql 3 34 35 3)] [1,5,7,8,9,11,16,17,18,22,23,24,36] (cD 36 (.reg [mO 37 5,mO 38 9,oO 39 (.binOp .add 3 (xT 38) (nI 1) 3),mO 40 8,oO 41 (.binOp .add 3 (xT 40) (nI 1) 3),oO 42 (iA 164 37 39),oS (.store 3 (xT 42) (xT 41))] [1,5,7,9,11,16,17,18,22,23,24]) (.skip))) (.keep [1,5,7,9,11,16,17,18,22,23,24] k1_lcs_row))))) (.keep [1,5,7,8,16,17,18,22,23,24] (.reg [oO 58 (.binOp .add 3 (xT 24) (nI 1) 3),mO 24 58] [1,5,7,8,16,17,18,22,23,24])))))
def l2_lcs_row : CC := sR [oO 19 (bO .lss 3 18 17 3)] [1,5,16,17,18,19] (.seq (cD 19 (.skip) (.exit 0)) (.keep [1,5,16,17,18] (.seq (.block 1 (sR [oO 20 (iA 164 16 18),lO 21 3 20,aO 7 21] [1,5,7,16,17,18] (sR [oO 8 (.assign (nI 0))] [1,5,7,8,16,17,18] (sR [mO 22 1,oO 23 (bL 22 164),oO 24 (.move (nI 0))] [1,5,7,8,16,17,18,22,23,24] (.block 2 (.loop l1_lcs_row)))))) (.keep [1,5,16,17,18] (.reg [oO 59 (.binOp .add 3 (xT 18) (nI 1) 3),mO 18 59] [1,5,16,17,18]))))) 
def c_lcs_row : CC := sR [oO 4 (.assign nS)] [0,1] (sR [mO 12 1,oO 13 (bL 12 164),oO 14 (.binOp .add 3 (xT 13) (nI 1) 3),oN 15 (.makeSlice 164 (xT 14) (xT 14)) [0],aO 5 15] [0,1,5] (.seq (sR [mO 16 0,oO 17 (bL 16 164),oO 18 (.move (nI 0))] [1,5,16,17,18] (.block 0 (.loop l2_lcs_row))) (.keep [5] (sR [mO 60 5,aO 4 60] [4] (.ret)))))
theorem t_lcs_row : Txt Tryz.prog 251 61 [(.tmp 4)] c_lcs_row := txt_of (code := Tryz.f251.body.getD .ret) mixed (by kernel_rfl) Tryz.func251 (by kernel_rfl) Tryz.ntmps251 (by kernel_rfl) (ls := lsOf c_lcs_row) (by kernel_rfl)
def l1_lcs_turned : CC := sR [oO 12 (bO .lss 3 11 10 3)] [0,3,9,10,11,12] (.seq (cD 12 (.skip) (.exit 0)) (.keep [0,3,9,10,11] (.seq (.block 1 (sR [mO 13 11,oO 14 (iA 164 9 11),lO 15 3 14,aO 4 13,aO 5 15] [0,3,4,5,9,10,11] (.reg [mO 16 3,mO 17 0,oO 18 (bL 17 164),oO 19 (.binOp .sub 3 (xT 18) (nI 1) 3),mO 20 4,oO 21 (bO .sub 3 19 20 3),mO 22 5,oO 23 (iA 164 16 21),oS (.store 3 (xT 23) (xT 22))] [0,3,9,10,11]))) (.reg [oO 24 (.binOp .add 3 (xT 11) (nI 1) 3),mO 11 24] [0,3,9,10,11])))) 
def c_lcs_turned : CC := sR [oO 2 (.assign nS)] [0] (sR [mO 6 0,oO 7 (bL 6 164),oN 8 (.makeSlice 164 (xT 7) (xT 7)) [0],aO 3 8] [0,3] (.seq (sR [mO 9 0,oO 10 (bL 9 164),oO 11 (.move (nI 0))] [0,3,9,10,11] (.block 0 (.loop l1_lcs_turned))) (.keep [3] (sR [mO 25 3,aO 2 25] [2] (.ret)))))
theorem t_lcs_turned : Txt Tryz.prog 252 26 [(.tmp 2)] c_lcs_turned := txt_of (code := Tryz.f252.body.getD .ret) mixed (by kernel_rfl) Tryz.func252 (by kernel_rfl) Tryz.ntmps252 (by kernel_rfl) (ls := lsOf c_lcs_turned) (by kernel_rfl)
def l1_lcs_split : CC := sR [oO 26 (bO .lss 3 25 24 3)] [1,7,8,9,24,25,26] (.seq (cD 26 (.skip) (.exit 0)) (.keep [1,7,8,9,24,25] (.seq (.block 1 (sR [mO 27 25,aO 10 27] [1,7,8,9,10,24,25] (sR [mO 28 7,mO 29 10,oO 30 (iA 164 28 29),lO 31 3 30,mO 32 8,mO 33 1,oO 34 (bL 33 164),mO 35 10,oO 36 (bO .sub 3 34 35 3),oO 37 (iA 164 32 36),lO 38 3 37,oO 39 (bO .add 3 31 38 3),mO 40 7,mO 41 9,oO 42 (iA 164 40 41),lO 43 3 42,mO 44 8,mO 45 1,oO 46 (bL 45 164),mO 47 9,oO 48 (bO .sub 3 46 47 3),oO 49 (iA 164 44 48),lO 50 3 49,oO 51 (bO .add 3 43 50 3),oO 52 (bO .gtr 3 39 51 3)] [1,7,8,9,10,24,25,52] (cD 52 (.reg [mO 53 10,aO 9 53] [1,7,8,9,24,25]) (.skip))))) (.keep [1,7,8,9,24,25] (.reg [oO 54 (.binOp .add 3 (xT 25) (nI 1) 3),mO 25 54] [1,7,8,9,24,25]))))) 
def c_lcs_split : CC := sR [oO 6 (.assign (nI 0))] [0,1,2] (sR [mO 11 0,mO 12 2,oO 13 (.slice 164 (xT 11) none (some (xT 12)) none),mO 14 1,oO 15 (cL 251 #[(xT 13),(xT 14)] #[164,164]),mO 16 0,mO 17 2,oO 18 (.slice 164 (xT 16) (some (xT 17)) none none),oO 19 (cL 252 #[(xT 18)] #[164]),mO 20 1,oO 21 (cL 252 #[(xT 20)] #[164]),oO 22 (cL 251 #[(xT 19),(xT 21)] #[164,164]),aO 7 15,aO 8 22] [1,7,8] (sR [oO 9 (.assign (nI 0))] [1,7,8,9] (.seq (sR [mO 23 7,oO 24 (bL 23 164),oO 25 (.move (nI 0))] [1,7,8,9,24,25] (.block 0 (.loop l1_lcs_split))) (.keep [9] (sR [mO 55 9,aO 6 55] [6] (.ret))))))
theorem t_lcs_split : Txt Tryz.prog 222 56 [(.tmp 6)] c_lcs_split := txt_of (code := Tryz.f222.body.getD .ret) mixed (by kernel_rfl) Tryz.func222 (by kernel_rfl) Tryz.ntmps222 (by kernel_rfl) (ls := lsOf c_lcs_split) (by kernel_rfl)
def c_lcs_finder_add : CC := sR [mO 6 2,oO 7 (.binOp .gtr 3 (xT 6) (nI 0) 3)] [0,1,2,7] (cD 7 (.reg [mO 8 0,mO 9 0,oO 10 (.nilCheck (xT 9)),fO 11 219 10 0,lO 12 166 11,mO 13 1,mO 14 2,oO 15 (.build 171 #[(0,(xT 13)),(1,(xT 14))]),oO 16 (.buildSlice 166 1 #[(0,(xT 15))]),oN 17 (bC .append #[(xT 12),(xT 16)] #[166,166]) [1],oO 18 (.nilCheck (xT 8)),fO 19 219 18 0,oS (.store 166 (xT 19) (xT 17))] []) (.skip))
theorem t_lcs_finder_add : Txt Tryz.prog 220 20 [] c_lcs_finder_add := txt_of (code := Tryz.f220.body.getD .ret) mixed (by kernel_rfl) Tryz.func220 (by kernel_rfl) Tryz.ntmps220 (by kernel_rfl) (ls := lsOf c_lcs_finder_add) (by kernel_rfl)
def l1_lcs_finder_one : CC := sR [oO 11 (bO .lss 3 10 9 3)] [0,1,2,8,9,10,11] (.seq (cD 11 (.skip) (.exit 0)) (.keep [0,1,2,8,9,10] (.seq (.block 1 (sR [mO 12 10,oO 13 (iA 164 8 10),lO 14 3 13,aO 6 12,aO 7 14] [0,1,2,6,7,8,9,10] (sR [mO 15 1,mO 16 7,oO 17 (bO .eql 3 15 16 3)] [0,1,2,6,8,9,10,17] (cD 17 (sR [mO 18 0,mO 19 6,oO 20 (cL 220 #[(xT 18),(nI 2),(xT 19)] #[217,3,3])] [0,2,6] (sR [mO 21 0,oO 22 (cL 220 #[(xT 21),(nI 0),(nI 1)] #[217,3,3])] [0,2,6] (sR [mO 23 0,mO 24 2,oO 25 (bL 24 164),mO 26 6,oO 27 (bO .sub 3 25 26 3),oO 28 (.binOp .sub 3 (xT 27) (nI 1) 3),oO 29 (cL 220 #[(xT 23),(nI 2),(xT 28)] #[217,3,3])] [] (.ret)))) (.skip))))) (.keep [0,1,2,8,9,10] (.reg [oO 30 (.binOp .add 3 (xT 10) (nI 1) 3),mO 10 30] [0,1,2,8,9,10]))))) 
def c_lcs_finder_one : CC := .seq (sR [mO 8 2,oO 9 (bL 8 164),oO 10 (.move (nI 0))] [0,1,2,8,9,10] (.block 0 (.loop l1_lcs_finder_one))) (.keep [0,2] (sR [mO 31 0,oO 32 (cL 220 #[(xT 31),(nI 1),(nI 1)] #[217,3,3])] [0,2] (.reg [mO 33 0,mO 34 2,oO 35 (bL 34 164),oO 36 (cL 220 #[(xT 33),(nI 2),(xT 35)] #[217,3,3])] [])))
theorem t_lcs_finder_one : Txt Tryz.prog 221 37 [] c_lcs_finder_one := txt_of (code := Tryz.f221.body.getD .ret) mixed (by kernel_rfl) Tryz.func221 (by kernel_rfl) Tryz.ntmps221 (by kernel_rfl) (ls := lsOf c_lcs_finder_one) (by kernel_rfl)
def c_lcs_finder_find : CC := .block 0 (sR [mO 32 1,oO 33 (bL 32 164),oO 34 (.binOp .eql 3 (xT 33) (nI 0) 3),mO 35 34,oG 36 (mV 2) 35 false,oG 37 (bL 36 164) 35 false,oG 38 (.binOp .eql 3 (xT 37) (nI 0) 3) 35 false,oO 39 (.pick (xT 35) (nB true) (xT 38)),aO 31 39] [0,1,2,31] (cD 31 (sR [mO 40 0,mO 41 1,oO 42 (bL 41 164),oO 43 (cL 220 #[(xT 40),(nI 1),(xT 42)] #[217,3,3])] [0,2] (.reg [mO 44 0,mO 45 2,oO 46 (bL 45 164),oO 47 (cL 220 #[(xT 44),(nI 2),(xT 46)] #[217,3,3])] [])) (sR [mO 49 1,oO 50 (bL 49 164),oO 51 (.binOp .eql 3 (xT 50) (nI 1) 3),aO 48 51] [0,1,2,48] (cD 48 (.reg [mO 52 0,mO 53 1,oO 54 (.indexAddr 164 (xT 53) (nI 0)),lO 55 3 54,mO 56 2,oO 57 (cL 221 #[(xT 52),(xT 55),(xT 56)] #[217,3,164])] []) (sR [mO 8 1,oO 9 (bL 8 164),oO 10 (.binOp .quo 3 (xT 9) (nI 2) 3),aO 6 10] [0,1,2,6] (sR [mO 11 1,mO 12 2,mO 13 6,oO 14 (cL 222 #[(xT 11),(xT 12),(xT 13)] #[164,164,3]),aO 7 14] [0,1,2,6,7] (sR [mO 15 0,mO 16 1,mO 17 6,oO 18 (.slice 164 (xT 16) none (some (xT 17)) none),mO 19 2,mO 20 7,oO 21 (.slice 164 (xT 19) none (some (xT 20)) none),oO 22 (cL 176 #[(xT 15),(xT 18),(xT 21)] #[217,164,164])] [0,1,2,6,7] (.reg [mO 23 0,mO 24 1,mO 25 6,oO 26 (.slice 164 (xT 24) (some (xT 25)) none none),mO 27 2,mO 28 7,oO 29 (.slice 164 (xT 27) (some (xT 28)) none none),oO 30 (cL 176 #[(xT 23),(xT 26),(xT 29)] #[217,164,164])] []))))))))
theorem t_lcs_finder_find : Txt Tryz.prog 176 58 [] c_lcs_finder_find := txt_of (code := Tryz.f176.body.getD .ret) mixed (by kernel_rfl) Tryz.func176 (by kernel_rfl) Tryz.ntmps176 (by kernel_rfl) (ls := lsOf c_lcs_finder_find) (by kernel_rfl)
def c_script_Step_right : CC := sR [oN 1 (.box 171 (xT 0)) [0],oO 2 (.assign (nB false))] [1] (sR [fO 3 171 1 0,lO 4 3 3,oO 5 (.binOp .geq 3 (xT 4) (nI 0) 3),mO 6 5,oG 7 (fA 171 1 0) 6 true,oG 8 (lD 3 7) 6 true,oG 9 (.binOp .leq 3 (xT 8) (nI 2) 3) 6 true,oO 10 (.pick (xT 6) (xT 9) (nB false)),mO 11 10,oG 12 (fA 171 1 1) 11 true,oG 13 (lD 3 12) 11 true,oG 14 (.binOp .geq 3 (xT 13) (nI 1) 3) 11 true,oO 15 (.pick (xT 11) (xT 14) (nB false)),mO 16 15,oG 17 (fA 171 1 1) 16 true,oG 18 (lD 3 17) 16 true,oG 19 (.binOp .leq 3 (xT 18) (nI 1048576) 3) 16 true,oO 20 (.pick (xT 16) (xT 19) (nB false)),aO 2 20] [2] (.ret))
theorem t_script_Step_right : Txt Tryz.prog 178 21 [(.tmp 2)] c_script_Step_right := txt_of (code := Tryz.f178.body.getD .ret) mixed (by kernel_rfl) Tryz.func178 (by kernel_rfl) Tryz.ntmps178 (by kernel_rfl) (ls := lsOf c_script_Step_right) (by kernel_rfl)
def l1_script_Normal_1 : CC := sR [oO 9 (bO .lss 3 8 7 3)] [1,2,6,7,8,9] (.seq (cD 9 (.skip) (.exit 0)) (.keep [1,2,6,7,8] (.seq (.block 1 (sR [oO 10 (iA 164 6 8),lO 11 3 10,aO 5 11] [1,2,5,6,7,8] (.seq (sR [mO 12 5,oO 13 (iA 221 1 12),lO 14 3 13,oO 15 (.binOp .gtr 3 (xT 14) (nI 0) 3)] [1,2,5,6,7,8,15] (cD 15 (.reg [⟨some 16,(lD 166 2),none,[],0,[],true⟩,mO 17 5,mO 18 5,oO 19 (iA 221 1 18),lO 20 3 19,oO 21 (.build 171 #[(0,(xT 17)),(1,(xT 20))]),⟨some 22,(.buildSlice 166 1 #[(0,(xT 21))]),none,[],6,[0],false⟩,oN 23 (bC .append #[(xT 16),(xT 22)] #[166,166]) [1],oS (.store 166 (xT 2) (xT 23))] [1,2,5,6,7,8]) (.skip))) (.keep [1,2,5,6,7,8] (.reg [mO 24 5,oO 25 (iA 221 1 24),oS (.store 3 (xT 25) (nI 0))] [1,2,6,7,8]))))) (.keep [1,2,6,7,8] (.reg [oO 26 (.binOp .add 3 (xT 8) (nI 1) 3),mO 8 26] [1,2,6,7,8]))))) 
def c_script_Normal_1 : CC := sR [mO 6 0,oO 7 (bL 6 164),oO 8 (.move (nI 0))] [1,2,6,7,8] (.block 0 (.loop l1_script_Normal_1))
theorem t_script_Normal_1 : Txt Tryz.prog 177 27 [] c_script_Normal_1 := txt_of (code := Tryz.f177.body.getD .ret) mixed (by kernel_rfl) Tryz.func177 (by kernel_rfl) Tryz.ntmps177 (by kernel_rfl) (ls := lsOf c_script_Normal_1) (by kernel_rfl)
def k1_script_Normal : CC := .reg [fO 29 171 7 0,lO 30 3 29,oO 31 (iA 221 4 30),lO 32 3 31,fO 33 171 7 1,lO 34 3 33,oO 35 (bO .add 3 32 34 3),oO 36 (iA 221 4 30),oS (.store 3 (xT 36) (xT 35))] [3,4,5,9,10,11]
def l1_script_Normal : CC := sR [oO 12 (bO .lss 3 11 10 3)] [3,4,5,9,10,11,12] (.seq (cD 12 (.skip) (.exit 0)) (.keep [3,4,5,9,10,11] (.seq (.block 1 (sR [oO 13 (iA 166 9 11),lO 14 171 13,oN 7 (.alloc 171) [2],oS (.store 171 (xT 7) (xT 14))] [3,4,5,7,9,10,11] (.seq (.block 2 (sR [lO 19 171 7,oO 20 (cL 178 #[(xT 19)] #[171]),oO 21 (.unOp .not 4 (xT 20)),aO 18 21] [3,4,5,7,9,10,11,18] (cD 18 (.exit 1) (sR [fO 23 171 7 0,lO 24 3 23,oO 25 (.binOp .eql 3 (xT 24) (nI 0) 3),aO 22 25] [3,4,5,7,9,10,11,22] (cD 22 (.reg [mO 26 5,oO 27 (.buildSlice 164 2 #[(0,(nI 1)),(1,(nI 2))]),oO 28 (.call { callee := (.value (xT 26)),args := #[(xT 27)],argTypes := #[164] })] [3,4,5,7,9,10,11]) (.reg [mO 15 5,oO 16 (.buildSlice 164 1 #[(0,(nI 0))]),oO 17 (.call { callee := (.value (xT 15)),args := #[(xT 16)],argTypes := #[164] })] [3,4,5,7,9,10,11])))))) (.keep [3,4,5,7,9,10,11] k1_script_Normal)))) (.keep [3,4,5,9,10,11] (.reg [oO 37 (.binOp .add 3 (xT 11) (nI 1) 3),mO 11 37] [3,4,5,9,10,11]))))) 
def c_script_Normal : CC := sR [oO 2 (.assign nS)] [0] (sR [oN 3 (.alloc 166) [0]] [0,3] (sR [oN 4 (.alloc 221) [0,1]] [0,3,4] (sR [oO 8 (.makeFunc (.func 177) #[] #[(xT 4),(xT 3)]),aO 5 8] [0,3,4,5] (.seq (sR [mO 9 0,oO 10 (bL 9 166),oO 11 (.move (nI 0))] [3,4,5,9,10,11] (.block 0 (.loop l1_script_Normal))) (.keep [3,5] (sR [mO 38 5,oO 39 (.buildSlice 164 3 #[(0,(nI 0)),(1,(nI 1)),(2,(nI 2))]),oO 40 (.call { callee := (.value (xT 38)),args := #[(xT 39)],argTypes := #[164] })] [3] (sR [lO 41 166 3,aO 2 41] [2] (.ret))))))))
theorem t_script_Normal : Txt Tryz.prog 120 42 [(.tmp 2)] c_script_Normal := txt_of (code := Tryz.f120.body.getD .ret) mixed (by kernel_rfl) Tryz.func120 (by kernel_rfl) Tryz.ntmps120 (by kernel_rfl) (ls := lsOf c_script_Normal) (by kernel_rfl)
def c_lcs_Diff : CC := sR [oO 6 (.assign nS),oO 7 (.assign (nB false))] [0,1,2] (.seq (sR [mO 12 0,mO 13 1,mO 14 2,oO 15 (cL 175 #[(xT 12),(xT 13),(xT 14)] #[164,164,3]),mO 11 15,xO 16 11 0,xO 17 11 1,aO 8 16,aO 9 17] [0,1,9] (sR [mO 18 9,oO 19 (.unOp .not 4 (xT 18))] [0,1,19] (cD 19 (sR [oO 6 (.assign nS),oO 7 (.assign (nB false))] [6,7] (.ret)) (.skip)))) (.keep [0,1] (sR [oO 20 (.build 219 #[]),oN 21 (.box 219 (xT 20)) [0],aO 10 21] [0,1,10] (.stop (sR [mO 22 10,mO 23 0,mO 24 1,oO 25 (cL 176 #[(xT 22),(xT 23),(xT 24)] #[217,164,164])] [10] (sR [mO 26 10,oO 27 (.nilCheck (xT 26)),fO 28 219 27 0,lO 29 166 28,oO 30 (cL 120 #[(xT 29)] #[166]),aO 6 30,oO 7 (.assign (nB true))] [6,7] (.ret)))))))
theorem t_lcs_Diff : Txt Tryz.prog 119 31 [(.tmp 6),(.tmp 7)] c_lcs_Diff := txt_of (code := Tryz.f119.body.getD .ret) mixed (by kernel_rfl) Tryz.func119 (by kernel_rfl) Tryz.ntmps119 (by kernel_rfl) (ls := lsOf c_lcs_Diff) (by kernel_rfl)
end Go.Proofs.YtbjmaoedheiigaaGreat
namespace Go.PL
set_option linter.unusedVariables false
set_option linter.unusedSimpArgs false
open List
def aft (x : Int) : List Int→Option (List Int)
  | [] => none
  | y :: b => if x = y then some b else aft x b
def lcsL : List Int→List Int→Nat
  | [],_ => 0
  | x :: a,b => max (lcsL a b) (match aft x b with | some b' => lcsL a b' + 1 | none => 0)
theorem aft_sub {x : Int} {s : List Int} : ∀ {b : List Int},x :: s <+ b→∃ b',aft x b = some b'∧s <+ b'
  | [],h => by cases h
  | y :: b,h => by
    unfold aft
    by_cases e : x = y
    · subst e
      refine ⟨b,by simp,?_⟩
      cases h with
      | cons _ h => exact (List.sublist_cons_self x s).trans h
      | cons_cons _ h => exact h
    · rw [if_neg e]
      cases h with
      | cons _ h => exact aft_sub h
      | cons_cons _ h => exact absurd rfl e
theorem aft_has {x : Int} : ∀ {b b' : List Int},aft x b = some b'→∃ b0,b = b0 ++ x :: b'∧x ∉ b0
  | [],b',h => by cases h
  | y :: b,b',h => by
    unfold aft at h
    by_cases e : x = y
    · rw [if_pos e] at h
      cases h
      exact ⟨[],by simp [e],by simp⟩
    · rw [if_neg e] at h
      obtain ⟨b0,h1,h2⟩ := aft_has h
      exact ⟨y :: b0,by simp [h1],by simp [e,h2]⟩
theorem aft_none {x : Int} : ∀ {b : List Int},aft x b = none→x ∉ b
  | [],_ => by simp
  | y :: b,h => by
    unfold aft at h
    by_cases e : x = y
    · rw [if_pos e] at h; cases h
    · rw [if_neg e] at h
      simp [e,aft_none h]
theorem aft_app {x : Int} : ∀ {b0 b' : List Int},x ∉ b0→aft x (b0 ++ x :: b') = some b'
  | [],b',_ => by simp [aft]
  | y :: b0,b',h => by
    simp at h
    simp [aft,h.1,aft_app h.2]
theorem lcs_has : ∀ a b : List Int,∃ s,s <+ a∧s <+ b∧s.length = lcsL a b
  | [],b => ⟨[],by simp,by simp,rfl⟩
  | x :: a,b => by
    obtain ⟨s,h1,h2,h3⟩ := lcs_has a b
    unfold lcsL
    cases e : aft x b with
    | none => exact ⟨s,h1.cons x,h2,by simp [h3]⟩
    | some b' =>
      obtain ⟨t,g1,g2,g3⟩ := lcs_has a b'
      simp only
      by_cases hle : lcsL a b≤lcsL a b' + 1
      · obtain ⟨b0,rfl,_⟩ := aft_has e
        exact ⟨x :: t,g1.cons_cons x,(g2.cons_cons x).trans (List.sublist_append_right _ _),by simp; omega⟩
      · exact ⟨s,h1.cons x,h2,by omega⟩
theorem lcs_max : ∀ {a b s : List Int},s <+ a→s <+ b→s.length≤lcsL a b
  | [],b,s,h1,h2 => by
    have := List.sublist_nil.1 h1
    subst this
    simp
  | x :: a,b,s,h1,h2 => by
    unfold lcsL
    cases h1 with
    | cons _ h => have := lcs_max h h2; omega
    | @cons_cons s' _ _ h =>
      obtain ⟨b',e,h3⟩ := aft_sub h2
      have := lcs_max h h3
      rw [e]
      simp
      omega
theorem lcs_is {a b : List Int} {n : Nat} (h1 : ∃ s,s <+ a∧s <+ b∧s.length = n) (h2 : ∀ s,s <+ a→s <+ b→s.length≤n) : lcsL a b = n := by
  obtain ⟨s,g1,g2,g3⟩ := h1
  obtain ⟨t,k1,k2,k3⟩ := lcs_has a b
  have := lcs_max g1 g2
  have := h2 t k1 k2
  omega
theorem lcs_rev (a b : List Int) : lcsL a.reverse b.reverse = lcsL a b := by
  obtain ⟨s,h1,h2,h3⟩ := lcs_has a b
  refine lcs_is ⟨s.reverse,h1.reverse,h2.reverse,by simpa using h3⟩ fun t g1 g2 => ?_
  have := lcs_max (a := a) (b := b) (s := t.reverse) (by simpa using g1.reverse) (by simpa using g2.reverse)
  simpa using this
theorem lcs_sub {a b a' b' : List Int} (h1 : a <+ a') (h2 : b <+ b') : lcsL a b≤lcsL a' b' := by
  obtain ⟨s,g1,g2,g3⟩ := lcs_has a b
  have := lcs_max (g1.trans h1) (g2.trans h2)
  omega
theorem lcs_app (a b a' b' : List Int) : lcsL a b + lcsL a' b'≤lcsL (a ++ a') (b ++ b') := by
  obtain ⟨s,g1,g2,g3⟩ := lcs_has a b
  obtain ⟨t,k1,k2,k3⟩ := lcs_has a' b'
  have := lcs_max (g1.append k1) (g2.append k2)
  simp at this
  omega
theorem lcs_split (a a' b : List Int) : ∃ b1 b2,b = b1 ++ b2∧lcsL (a ++ a') b = lcsL a b1 + lcsL a' b2 := by
  obtain ⟨s,g1,g2,g3⟩ := lcs_has (a ++ a') b
  obtain ⟨s1,s2,rfl,k1,k2⟩ := List.sublist_append_iff.1 g1
  obtain ⟨b1,b2,rfl,m1,m2⟩ := List.append_sublist_iff.1 g2
  refine ⟨b1,b2,rfl,?_⟩
  have h1 := lcs_max k1 m1
  have h2 := lcs_max k2 m2
  have h3 := lcs_app a b1 a' b2
  simp at g3
  omega
theorem lcs_len (a b : List Int) : lcsL a b≤a.length∧lcsL a b≤b.length := by
  obtain ⟨s,g1,g2,g3⟩ := lcs_has a b
  have := g1.length_le
  have := g2.length_le
  omega
theorem lcs_cons_same (x : Int) (a b : List Int) : lcsL (x :: a) (x :: b) = lcsL a b + 1 := by
  have h : lcsL a (x :: b)≤lcsL a b + 1 := by
    obtain ⟨s,g1,g2,g3⟩ := lcs_has a (x :: b)
    cases g2 with
    | cons _ h => have := lcs_max g1 h; omega
    | @cons_cons s' _ _ h =>
      have := lcs_max ((List.sublist_cons_self x s').trans g1) h
      simp at g3
      omega
  rw [lcsL]
  simp [aft]
  omega
theorem lcs_cons_else {x y : Int} (h : x ≠ y) (a b : List Int) : lcsL (x :: a) (y :: b) = max (lcsL a (y :: b)) (lcsL (x :: a) b) := by
  have h1 : lcsL a b≤lcsL a (y :: b) := lcs_sub (List.Sublist.refl _) (List.sublist_cons_self _ _)
  rw [lcsL,lcsL]
  simp only [aft,if_neg h]
  omega
theorem lcs_snoc_same (x : Int) (a b : List Int) : lcsL (a ++ [x]) (b ++ [x]) = lcsL a b + 1 := by
  rw [← lcs_rev]
  simp [lcs_cons_same,lcs_rev]
theorem lcs_snoc_else {x y : Int} (h : x ≠ y) (a b : List Int) : lcsL (a ++ [x]) (b ++ [y]) = max (lcsL a (b ++ [y])) (lcsL (a ++ [x]) b) := by
  rw [← lcs_rev,← lcs_rev a (b ++ [y]),← lcs_rev (a ++ [x]) b]
  simp [lcs_cons_else h]
theorem lcs_cons_le (x : Int) (a b : List Int) : lcsL (x :: a) b≤lcsL a b + 1 := by
  rw [lcsL]
  cases e : aft x b with
  | none => simp
  | some b' =>
    obtain ⟨b0,rfl,_⟩ := aft_has e
    have : lcsL a b'≤lcsL a (b0 ++ x :: b') := lcs_sub (List.Sublist.refl _) ((List.sublist_cons_self x b').trans (List.sublist_append_right _ _))
    simp only
    omega
theorem lcs_snoc_le (x : Int) (a b : List Int) : lcsL (a ++ [x]) b≤lcsL a b + 1 := by
  rw [← lcs_rev,← lcs_rev a b]
  simpa using lcs_cons_le x a.reverse b.reverse
@[simp] theorem lcs_nil (a : List Int) : lcsL a [] = 0 := by have := (lcs_len a []).2; simpa using this
@[simp] theorem lcs_nil' (b : List Int) : lcsL [] b = 0 := rfl
theorem lcs_monge : ∀ (a u v w : List Int),lcsL a (u ++ (v ++ w)) + lcsL a v≤lcsL a (u ++ v) + lcsL a (v ++ w)
  | [],u,v,w => by simp
  | x :: a,u,v,w => by
    have m1 : ∀ p q : List Int,lcsL a q≤lcsL a (p ++ q) := fun p q => lcs_sub (List.Sublist.refl _) (List.sublist_append_right _ _)
    have up : ∀ q : List Int,lcsL a q≤lcsL (x :: a) q := fun q => by rw [lcsL]; omega
    have tk : ∀ q0 q' : List Int,x ∉ q0→lcsL a q' + 1≤lcsL (x :: a) (q0 ++ x :: q') := fun q0 q' h => by rw [lcsL,aft_app h]; simp; omega
    have tk' : ∀ q0 q' : List Int,lcsL a q' + 1≤lcsL (x :: a) (q0 ++ x :: q') := fun q0 q' => by
      have := lcs_cons_same x a q'
      have h2 : lcsL (x :: a) (x :: q')≤lcsL (x :: a) (q0 ++ x :: q') := lcs_sub (List.Sublist.refl _) (List.sublist_append_right _ _)
      omega
    -- what the two of the left take
    have c1 : lcsL (x :: a) (u ++ (v ++ w)) = lcsL a (u ++ (v ++ w))∨∃ q0 q',u ++ (v ++ w) = q0 ++ x :: q'∧x ∉ q0∧lcsL (x :: a) (u ++ (v ++ w)) = lcsL a q' + 1 := by
      rw [lcsL]
      cases e : aft x (u ++ (v ++ w)) with
      | none => left; simp
      | some q' =>
        obtain ⟨q0,h1,h2⟩ := aft_has e
        simp only
        by_cases hle : lcsL a (u ++ (v ++ w))≤lcsL a q' + 1
        · right; exact ⟨q0,q',h1,h2,by omega⟩
        · left; omega
    have c2 : lcsL (x :: a) v = lcsL a v∨∃ v0 v',v = v0 ++ x :: v'∧x ∉ v0∧lcsL (x :: a) v = lcsL a v' + 1 := by
      rw [lcsL]
      cases e : aft x v with
      | none => left; simp
      | some q' =>
        obtain ⟨q0,h1,h2⟩ := aft_has e
        simp only
        by_cases hle : lcsL a v≤lcsL a q' + 1
        · right; exact ⟨q0,q',h1,h2,by omega⟩
        · left; omega
    rcases c1 with e1 | ⟨q0,q',h1,hn,e1⟩
    · rcases c2 with e2 | ⟨v0,v',rfl,hv,e2⟩
      · have := lcs_monge a u v w
        have := up (u ++ v)
        have := up (v ++ w)
        omega
      · have h := lcs_monge a (u ++ (v0 ++ [x])) v' w
        have g1 := up (u ++ (v0 ++ x :: v'))
        have g2 := tk v0 (v' ++ w) hv
        simp at h g1 g2 e1 e2 ⊢
        omega
    · -- where the first x stands
      rcases List.append_eq_append_iff.1 h1 with ⟨t,ht1,ht2⟩ | ⟨t,ht1,ht2⟩
      · -- q0 = u ++ t,v ++ w = t ++ x :: q'
        subst ht1
        have hnu : x ∉ u := fun h => hn (by simp [h])
        have hnt : x ∉ t := fun h => hn (by simp [h])
        rcases List.append_eq_append_iff.1 ht2 with ⟨t2,hs1,hs2⟩ | ⟨t2,hs1,hs2⟩
        · -- t = v ++ t2: x stands in w
          subst hs1
          have hnv : x ∉ v := fun h => hnt (by simp [h])
          have e2 : lcsL (x :: a) v = lcsL a v := by
            rcases c2 with e2 | ⟨v0,v',rfl,_,_⟩
            · exact e2
            · exact absurd (by simp) hnv
          have g1 := tk (v ++ t2) q' hnt
          have g2 := up (u ++ v)
          have g3 := m1 u v
          rw [ht2] at e1 ⊢
          omega
        · -- v = t ++ t2,x :: q' = t2 ++ w
          subst hs1
          cases t2 with
          | nil =>
            simp at hs2
            subst hs2
            have e2 : lcsL (x :: a) t = lcsL a t := by
              rcases c2 with e2 | ⟨v0,v',hv,_,_⟩
              · simpa using e2
              · exact absurd (by simp at hv; simp [hv]) hnt
            have g1 := tk t q' hnt
            have g2 := up (u ++ t)
            have g3 := m1 u t
            simp at e1 e2 g1 g2 g3 ⊢
            omega
          | cons y v' =>
            simp at hs2
            obtain ⟨rfl,rfl⟩ := hs2
            have g1 := tk t (v' ++ w) hnt
            have e2 : lcsL (x :: a) (t ++ x :: v')≤max (lcsL a (t ++ x :: v')) (lcsL a v' + 1) := by rw [lcsL,aft_app hnt]; simp
            have g2 := up (u ++ (t ++ x :: v'))
            have g3 := m1 u (t ++ x :: v')
            have g4 := tk' (u ++ t) v'
            simp at e1 e2 g1 g2 g3 g4 ⊢
            omega
      · -- u = q0 ++ t,x :: q' = t ++ (v ++ w)
        cases t with
        | nil =>
          simp at ht2 ht1
          subst ht1
          -- x heads v ++ w
          cases v with
          | nil =>
            simp at ht2
            have g1 := tk [] q' (by simp)
            have g0 := up u
            simp at g1 e1 ⊢
            rw [← ht2] at e1 ⊢
            rw [e1]
            omega
          | cons y v' =>
            simp at ht2
            obtain ⟨rfl,rfl⟩ := ht2
            have g1 := tk [] (v' ++ w) (by simp)
            have e2 := lcs_cons_same x a v'
            have g4 := tk' u v'
            simp at e1 g1 g4 ⊢
            omega
        | cons y u' =>
          simp at ht2
          obtain ⟨rfl,rfl⟩ := ht2
          subst ht1
          rcases c2 with e2 | ⟨v0,v',rfl,hv,e2⟩
          · have h := lcs_monge a u' v w
            have g1 := tk q0 (u' ++ v) hn
            have g2 := up (v ++ w)
            simp at e1 e2 g1 g2 h ⊢
            omega
          · have h := lcs_monge a (u' ++ (v0 ++ [x])) v' w
            have g1 := tk q0 (u' ++ (v0 ++ x :: v')) hn
            have g2 := tk v0 (v' ++ w) hv
            simp at e1 e2 g1 g2 h ⊢
            omega
def sg (l : List Int) (p q : Nat) : List Int := (l.take q).drop p
def cmn (a b : List Int) (i h j k : Nat) : Nat := lcsL (sg a i h) (sg b j k)
theorem sg_len (l : List Int) (p q : Nat) (h : q≤l.length) : (sg l p q).length = q - p := by simp [sg]; omega
theorem sg_app {l : List Int} {p k q : Nat} (h1 : p≤k) (h2 : k≤q) : sg l p q = sg l p k ++ sg l k q := by
  unfold sg
  have e : (l.take q).drop p = ((l.take q).drop p).take (k - p) ++ ((l.take q).drop p).drop (k - p) := (List.take_append_drop _ _).symm
  rw [e,List.drop_drop,List.take_drop,List.take_take]
  congr 3 <;> first | omega | skip
theorem sg_zero (l : List Int) (q : Nat) : sg l 0 q = l.take q := by simp [sg]
theorem sg_end (l : List Int) (p : Nat) : sg l p l.length = l.drop p := by simp [sg]
theorem sg_nil (l : List Int) (p : Nat) : sg l p p = [] := by simp [sg]
theorem sg_take {l : List Int} {n p q : Nat} (h : q≤n) : sg (l.take n) p q = sg l p q := by
  unfold sg; rw [List.take_take]; congr 2; omega
theorem sg_drop {l : List Int} {n p q : Nat} : sg (l.drop n) p q = sg l (n + p) (n + q) := by
  unfold sg; rw [List.take_drop,List.drop_drop]
theorem cmn_app {a b : List Int} {i h t j k q : Nat} (h1 : i≤h) (h2 : h≤t) (h3 : j≤k) (h4 : k≤q) : cmn a b i h j k + cmn a b h t k q≤cmn a b i t j q := by
  unfold cmn
  rw [sg_app h1 h2,sg_app h3 h4]
  exact lcs_app _ _ _ _
theorem cmn_split (a b : List Int) {i h t j q : Nat} (h1 : i≤h) (h2 : h≤t) (h3 : j≤q) (h4 : q≤b.length) : ∃ k,j≤k∧k≤q∧cmn a b i h j k + cmn a b h t k q = cmn a b i t j q := by
  unfold cmn
  rw [sg_app h1 h2]
  obtain ⟨b1,b2,e,hs⟩ := lcs_split (sg a i h) (sg a h t) (sg b j q)
  have hl := sg_len b j q h4
  rw [e] at hl
  simp at hl
  refine ⟨j + b1.length,by omega,by omega,?_⟩
  have e2 := sg_app (l := b) (p := j) (k := j + b1.length) (q := q) (by omega) (by omega)
  rw [e] at e2
  obtain ⟨g1,g2⟩ := List.append_inj e2 (by rw [sg_len _ _ _ (by omega)]; omega)
  rw [← g1,← g2,← hs]
theorem cmn_monge (a b : List Int) (i h : Nat) {p p' q q' : Nat} (h1 : p≤p') (h2 : p'≤q) (h3 : q≤q') : cmn a b i h p q' + cmn a b i h p' q≤cmn a b i h p q + cmn a b i h p' q' := by
  unfold cmn
  rw [sg_app (l := b) h1 (by omega : p'≤q'),sg_app (l := b) h2 h3,sg_app (l := b) h1 h2]
  exact lcs_monge _ _ _ _
def fstN (p : Nat→Bool) : Nat→Nat→Nat
  | 0,j => j
  | f + 1,j => if p j = true then j else fstN p f (j + 1)
theorem fstN_ok {p : Nat→Bool} : ∀ {f j k : Nat},j≤k→k≤j + f→p k = true→p (fstN p f j) = true∧j≤fstN p f j∧fstN p f j≤k
  | 0,j,k,h1,h2,h => by
    have : k = j := by omega
    subst this
    exact ⟨h,by simp [fstN],by simp [fstN]⟩
  | f + 1,j,k,h1,h2,h => by
    unfold fstN
    by_cases e : p j = true
    · simp [e,h1]
    · rw [if_neg e]
      have hne : j ≠ k := fun h' => by rw [h'] at e; exact e h
      have := fstN_ok (f := f) (j := j + 1) (k := k) (by omega) (by omega) h
      exact ⟨this.1,by omega,this.2.2⟩
def onW (a b : List Int) (i j : Nat) : Bool := decide (cmn a b 0 i 0 j + cmn a b i a.length j b.length = lcsL a b)
def wayN (a b : List Int) (i : Nat) : Nat := fstN (onW a b i) b.length 0
theorem cmn_all (a b : List Int) : cmn a b 0 a.length 0 b.length = lcsL a b := by simp [cmn,sg]
theorem onW_le {a b : List Int} {i j : Nat} (hi : i≤a.length) (hj : j≤b.length) : cmn a b 0 i 0 j + cmn a b i a.length j b.length≤lcsL a b := by
  rw [← cmn_all]
  exact cmn_app (by omega) hi (by omega) hj
theorem way_on {a b : List Int} {i : Nat} (hi : i≤a.length) : onW a b i (wayN a b i) = true∧wayN a b i≤b.length∧∀ j,j≤b.length→onW a b i j = true→wayN a b i≤j := by
  obtain ⟨k,h1,h2,h3⟩ := cmn_split a b (i := 0) (h := i) (t := a.length) (j := 0) (q := b.length) (by omega) hi (by omega) (by omega)
  rw [cmn_all] at h3
  have := fstN_ok (p := onW a b i) (f := b.length) (j := 0) (k := k) (by omega) (by omega) (by simpa [onW] using h3)
  refine ⟨this.1,by unfold wayN; omega,fun j hj h => ?_⟩
  exact (fstN_ok (p := onW a b i) (f := b.length) (j := 0) (k := j) (by omega) (by omega) h).2.2
theorem way_is {a b : List Int} {i k : Nat} (hi : i≤a.length) (hk : k≤b.length) (h1 : onW a b i k = true) (h2 : ∀ j,j < k→onW a b i j = false) : wayN a b i = k := by
  obtain ⟨g1,g2,g3⟩ := way_on (a := a) (b := b) hi
  have := g3 k hk h1
  by_cases e : wayN a b i < k
  · have := h2 _ e; rw [g1] at this; cases this
  · omega
theorem way_zero (a b : List Int) : wayN a b 0 = 0 := way_is (by omega) (by omega) (by simp [onW,cmn,sg]) (by omega)
theorem way_mono {a b : List Int} {i h : Nat} (hih : i≤h) (hh : h≤a.length) : wayN a b i≤wayN a b h := by
  obtain ⟨g1,g2,g3⟩ := way_on (a := a) (b := b) hh
  obtain ⟨k,h1,h2,h3⟩ := cmn_split a b (i := 0) (h := i) (t := h) (j := 0) (q := wayN a b h) (by omega) hih (by omega) g2
  have h4 := cmn_app (a := a) (b := b) (i := i) (h := h) (t := a.length) (j := k) (k := wayN a b h) (q := b.length) hih hh h2 g2
  have h5 := onW_le (a := a) (b := b) (i := i) (j := k) (by omega) (by omega)
  have hg := g1
  unfold onW at hg
  simp only [decide_eq_true_eq] at hg
  have := (way_on (a := a) (b := b) (i := i) (by omega)).2.2 k (by omega) (by unfold onW; simp only [decide_eq_true_eq]; omega)
  omega
theorem way_fst {a b : List Int} {i h : Nat} (hih : i≤h) (hh : h≤a.length) : wayN (a.take h) (b.take (wayN a b h)) i = wayN a b i := by
  obtain ⟨g1,g2,g3⟩ := way_on (a := a) (b := b) hh
  obtain ⟨f1,f2,f3⟩ := way_on (a := a) (b := b) (i := i) (by omega)
  have hm := way_mono (a := a) (b := b) hih hh
  generalize hJ : wayN a b h = J at *
  generalize hj : wayN a b i = j at *
  have la : (a.take h).length = h := by simp; omega
  have lb : (b.take J).length = J := by simp; omega
  have e0 : lcsL (a.take h) (b.take J) = cmn a b 0 h 0 J := by simp [cmn,sg_zero]
  have e1 : ∀ k,k≤J→onW (a.take h) (b.take J) i k = decide (cmn a b 0 i 0 k + cmn a b i h k J = cmn a b 0 h 0 J) := fun k hk => by
    unfold onW
    rw [e0,la,lb]
    unfold cmn
    rw [sg_take hih,sg_take hk,sg_take (Nat.le_refl _),sg_take (Nat.le_refl _)]
  unfold onW at g1 f1
  simp only [decide_eq_true_eq] at g1 f1
  refine way_is (by omega) (by omega) ?_ fun k hk => ?_
  · rw [e1 j hm,decide_eq_true_eq]
    -- the way through (i,j) comes to row h at k
    obtain ⟨k,h1,h2,h3⟩ := cmn_split a b (i := i) (h := h) (t := a.length) (j := j) (q := b.length) hih hh f2 (by omega)
    have h4 := cmn_app (a := a) (b := b) (i := 0) (h := i) (t := h) (j := 0) (k := j) (q := k) (by omega) hih (by omega) h1
    have h5 := onW_le (a := a) (b := b) (i := h) (j := k) hh h2
    have hJk : J≤k := g3 k h2 (by unfold onW; simp only [decide_eq_true_eq]; omega)
    obtain ⟨k2,i1,i2,i3⟩ := cmn_split a b (i := 0) (h := i) (t := h) (j := 0) (q := J) (by omega) hih (by omega) g2
    have i4 := cmn_app (a := a) (b := b) (i := i) (h := h) (t := a.length) (j := k2) (k := J) (q := b.length) hih hh i2 g2
    have i5 := onW_le (a := a) (b := b) (i := i) (j := k2) (by omega) (by omega)
    have hjk2 : j≤k2 := f3 k2 (by omega) (by unfold onW; simp only [decide_eq_true_eq]; omega)
    have m := cmn_monge a b i h (p := j) (p' := k2) (q := J) (q' := k) hjk2 i2 hJk
    have t1 := cmn_app (a := a) (b := b) (i := 0) (h := i) (t := h) (j := 0) (k := j) (q := J) (by omega) hih (by omega) hm
    have t2 := cmn_app (a := a) (b := b) (i := i) (h := h) (t := a.length) (j := k2) (k := k) (q := b.length) hih hh (by omega) h2
    omega
  · rw [e1 k (by omega),decide_eq_false_iff_not]
    intro e
    have h4 := cmn_app (a := a) (b := b) (i := i) (h := h) (t := a.length) (j := k) (k := J) (q := b.length) hih hh (by omega) g2
    have h5 := onW_le (a := a) (b := b) (i := i) (j := k) (by omega) (by omega)
    have := f3 k (by omega) (by unfold onW; simp only [decide_eq_true_eq]; omega)
    omega
theorem way_snd {a b : List Int} {i h : Nat} (hh : h + i≤a.length) : wayN (a.drop h) (b.drop (wayN a b h)) i + wayN a b h = wayN a b (h + i) := by
  obtain ⟨g1,g2,g3⟩ := way_on (a := a) (b := b) (i := h) (by omega)
  obtain ⟨f1,f2,f3⟩ := way_on (a := a) (b := b) (i := h + i) hh
  have hm := way_mono (a := a) (b := b) (i := h) (h := h + i) (by omega) hh
  generalize hJ : wayN a b h = J at *
  generalize hj : wayN a b (h + i) = j at *
  have la : h + (a.drop h).length = a.length := by simp; omega
  have lb : J + (b.drop J).length = b.length := by simp; omega
  have e0 : lcsL (a.drop h) (b.drop J) = cmn a b h a.length J b.length := by simp [cmn,sg_end]
  have e1 : ∀ k,onW (a.drop h) (b.drop J) i k = decide (cmn a b h (h + i) J (J + k) + cmn a b (h + i) a.length (J + k) b.length = cmn a b h a.length J b.length) := fun k => by
    unfold onW
    rw [e0]
    unfold cmn
    rw [sg_drop,sg_drop,sg_drop,sg_drop,la,lb,Nat.add_zero,Nat.add_zero]
  unfold onW at g1 f1
  simp only [decide_eq_true_eq] at g1 f1
  suffices hw : wayN (a.drop h) (b.drop J) i = j - J by omega
  refine way_is (by omega) (by omega) ?_ fun k hk => ?_
  · rw [e1,decide_eq_true_eq,show J + (j - J) = j by omega]
    -- the way through (h + i,j) comes from row h at k
    obtain ⟨k,h1,h2,h3⟩ := cmn_split a b (i := 0) (h := h) (t := h + i) (j := 0) (q := j) (by omega) (by omega) (by omega) f2
    have h4 := cmn_app (a := a) (b := b) (i := h) (h := h + i) (t := a.length) (j := k) (k := j) (q := b.length) (by omega) hh h2 f2
    have h5 := onW_le (a := a) (b := b) (i := h) (j := k) (by omega) (by omega)
    have hJk : J≤k := g3 k (by omega) (by unfold onW; simp only [decide_eq_true_eq]; omega)
    obtain ⟨k2,i1,i2,i3⟩ := cmn_split a b (i := h) (h := h + i) (t := a.length) (j := J) (q := b.length) (by omega) hh g2 (by omega)
    have i4 := cmn_app (a := a) (b := b) (i := 0) (h := h) (t := h + i) (j := 0) (k := J) (q := k2) (by omega) (by omega) (by omega) i1
    have i5 := onW_le (a := a) (b := b) (i := h + i) (j := k2) hh i2
    have hjk2 : j≤k2 := f3 k2 (by omega) (by unfold onW; simp only [decide_eq_true_eq]; omega)
    have m := cmn_monge a b h (h + i) (p := J) (p' := k) (q := j) (q' := k2) hJk h2 hjk2
    have t1 := cmn_app (a := a) (b := b) (i := h) (h := h + i) (t := a.length) (j := J) (k := j) (q := b.length) (by omega) hh hm f2
    have t2 := cmn_app (a := a) (b := b) (i := 0) (h := h) (t := h + i) (j := 0) (k := k) (q := k2) (by omega) (by omega) (by omega) (by omega)
    omega
  · rw [e1,decide_eq_false_iff_not]
    intro e
    have h4 := cmn_app (a := a) (b := b) (i := 0) (h := h) (t := h + i) (j := 0) (k := J) (q := J + k) (by omega) (by omega) (by omega) (by omega)
    have h5 := onW_le (a := a) (b := b) (i := h + i) (j := J + k) hh (by omega)
    have := f3 (J + k) (by omega) (by unfold onW; simp only [decide_eq_true_eq]; omega)
    omega
structure Sp where
  k : Nat
  n : Nat
  deriving DecidableEq
def Sp.ok (s : Sp) : Prop := s.k≤2∧1≤s.n∧s.n≤1048576
def Sp.may (s : Sp) : Prop := s.k≤2∧s.n≤1048576
def unitsS (l : List Sp) : List Nat := l.flatMap fun s => replicate s.n s.k
@[simp] theorem units_nil : unitsS [] = [] := rfl
@[simp] theorem units_cons (s : Sp) (l : List Sp) : unitsS (s :: l) = replicate s.n s.k ++ unitsS l := rfl
@[simp] theorem units_app (l m : List Sp) : unitsS (l ++ m) = unitsS l ++ unitsS m := by simp [unitsS]
def fl (k n : Nat) : List Sp := if n = 0 then [] else [⟨k,n⟩]
@[simp] theorem fl_zero (k : Nat) : fl k 0 = [] := rfl
theorem fl_pos {k n : Nat} (h : 0 < n) : fl k n = [⟨k,n⟩] := by unfold fl; rw [if_neg (by omega)]
@[simp] theorem units_fl (k n : Nat) : unitsS (fl k n) = replicate n k := by
  unfold fl
  split
  · rename_i h; simp [h]
  · simp [unitsS]
theorem fl_ok {k n : Nat} (hk : k≤2) (hn : n≤1048576) : ∀ s,s ∈ fl k n→s.ok := by
  intro s hs
  unfold fl at hs
  split at hs
  · simp at hs
  · simp at hs; subst hs; exact ⟨hk,by simp; omega,hn⟩
def goU : List Nat→Nat→Nat→Nat→List Sp
  | [],k,d,i => fl 0 k ++ (fl 1 d ++ fl 2 i)
  | x :: us,k,d,i => if x = 0 then fl 1 d ++ (fl 2 i ++ goU us (k + 1) 0 0) else fl 0 k ++ (if x = 1 then goU us 0 (d + 1) i else goU us 0 d (i + 1))
def nrmS (us : List Nat) : List Sp := goU us 0 0 0
theorem goU_keep : ∀ (n : Nat) (us : List Nat) (k d i : Nat),0 < n→(d = 0∧i = 0∨k = 0)→goU (replicate n 0 ++ us) k d i = fl 1 d ++ (fl 2 i ++ goU us (k + n) 0 0)
  | n + 1,us,k,d,i,_,h => by
    rw [List.replicate_succ,List.cons_append,goU,if_pos rfl]
    cases n with
    | zero => simp
    | succ n =>
      rw [goU_keep (n + 1) us (k + 1) 0 0 (by omega) (.inl ⟨rfl,rfl⟩)]
      simp
      rw [show k + 1 + (n + 1) = k + (n + 1 + 1) by omega]
theorem goU_del : ∀ (n : Nat) (us : List Nat) (k d i : Nat),0 < n→goU (replicate n 1 ++ us) k d i = fl 0 k ++ goU us 0 (d + n) i
  | n + 1,us,k,d,i,_ => by
    rw [List.replicate_succ,List.cons_append,goU,if_neg (by decide),if_pos rfl]
    cases n with
    | zero => simp
    | succ n =>
      rw [goU_del (n + 1) us 0 (d + 1) i (by omega)]
      simp
      rw [show d + 1 + (n + 1) = d + (n + 1 + 1) by omega]
theorem goU_ins : ∀ (n : Nat) (us : List Nat) (k d i : Nat),0 < n→goU (replicate n 2 ++ us) k d i = fl 0 k ++ goU us 0 d (i + n)
  | n + 1,us,k,d,i,_ => by
    rw [List.replicate_succ,List.cons_append,goU,if_neg (by decide),if_neg (by decide)]
    cases n with
    | zero => simp
    | succ n =>
      rw [goU_ins (n + 1) us 0 d (i + 1) (by omega)]
      simp
      rw [show i + 1 + (n + 1) = i + (n + 1 + 1) by omega]
def stpU (p q : Nat) : List Nat := if p < q then replicate (q - p - 1) 2 ++ [0] else [1]
def wayU (a b : List Int) : List Nat := (List.range a.length).flatMap (fun i => stpU (wayN a b i) (wayN a b (i + 1))) ++ replicate (b.length - wayN a b a.length) 2
theorem flatMap_range_add {α : Type} (f : Nat→List α) (m n : Nat) : (List.range (m + n)).flatMap f = (List.range m).flatMap f ++ (List.range n).flatMap (fun i => f (m + i)) := by
  rw [List.range_add,List.flatMap_append,List.flatMap_map]
theorem flatMap_range_congr {α : Type} {f g : Nat→List α} {n : Nat} (h : ∀ i,i < n→f i = g i) : (List.range n).flatMap f = (List.range n).flatMap g := by
  induction n with
  | zero => rfl
  | succ n ih =>
    rw [List.range_succ,List.flatMap_append,List.flatMap_append,ih fun i hi => h i (by omega)]
    simp [h n (by omega)]
theorem stpU_add (p q t : Nat) : stpU (p + t) (q + t) = stpU p q := by
  unfold stpU
  by_cases h : p < q
  · rw [if_pos h,if_pos (by omega),show q + t - (p + t) - 1 = q - p - 1 by omega]
  · rw [if_neg h,if_neg (by omega)]
theorem wayU_half (a b : List Int) {h : Nat} (hh : h≤a.length) : wayU a b = wayU (a.take h) (b.take (wayN a b h)) ++ wayU (a.drop h) (b.drop (wayN a b h)) := by
  obtain ⟨g1,g2,g3⟩ := way_on (a := a) (b := b) hh
  have la : (a.take h).length = h := by simp; omega
  have lb : (b.take (wayN a b h)).length = wayN a b h := by simp; omega
  have ld : (a.drop h).length = a.length - h := by simp
  have le : (b.drop (wayN a b h)).length = b.length - wayN a b h := by simp
  have e1 : wayU (a.take h) (b.take (wayN a b h)) = (List.range h).flatMap fun i => stpU (wayN a b i) (wayN a b (i + 1)) := by
    unfold wayU
    rw [la,lb,way_fst (Nat.le_refl _) hh,Nat.sub_self,List.replicate_zero,List.append_nil]
    exact flatMap_range_congr fun i hi => by rw [way_fst (by omega) hh,way_fst (by omega) hh]
  have e2 : wayU (a.drop h) (b.drop (wayN a b h)) = (List.range (a.length - h)).flatMap (fun i => stpU (wayN a b (h + i)) (wayN a b (h + i + 1))) ++ replicate (b.length - wayN a b a.length) 2 := by
    unfold wayU
    rw [ld,le]
    have hw := way_snd (a := a) (b := b) (h := h) (i := a.length - h) (by omega)
    rw [show h + (a.length - h) = a.length by omega] at hw
    congr 1
    · refine flatMap_range_congr fun i hi => ?_
      have w1 := way_snd (a := a) (b := b) (h := h) (i := i) (by omega)
      have w2 := way_snd (a := a) (b := b) (h := h) (i := i + 1) (by omega)
      rw [← stpU_add _ _ (wayN a b h),w1,w2]
      rfl
    · congr 1; omega
  rw [e1,e2,← List.append_assoc]
  unfold wayU
  congr 1
  have := flatMap_range_add (fun i => stpU (wayN a b i) (wayN a b (i + 1))) h (a.length - h)
  rw [show h + (a.length - h) = a.length by omega] at this
  exact this
theorem wayU_nil (b : List Int) : wayU [] b = replicate b.length 2 := by
  unfold wayU
  simp [way_zero]
theorem wayU_nil' (a : List Int) : wayU a [] = replicate a.length 1 := by
  have h : ∀ i,i≤a.length→wayN a [] i = 0 := fun i hi => by have := (way_on (a := a) (b := []) hi).2.1; simpa using this
  unfold wayU
  rw [h _ (Nat.le_refl _)]
  simp
  rw [flatMap_range_congr (g := fun _ => [1]) fun i hi => by rw [h i (by omega),h (i + 1) (by omega)]; rfl]
  generalize a.length = n
  induction n with
  | zero => rfl
  | succ n ih => rw [List.range_succ,List.flatMap_append,ih,List.replicate_succ']; simp
def fstI (x : Int) : List Int→Nat
  | [] => 0
  | y :: b => if x = y then 0 else fstI x b + 1
theorem fstI_le (x : Int) : ∀ b,fstI x b≤b.length
  | [] => by simp [fstI]
  | y :: b => by
    have := fstI_le x b
    unfold fstI
    split <;> simp <;> omega
theorem fstI_at (x : Int) : ∀ {b},(h : fstI x b < b.length)→b[fstI x b] = x
  | [],h => by simp [fstI] at h
  | y :: b,h => by
    unfold fstI at h
    by_cases e : x = y
    · simp [fstI,e]
    · rw [if_neg e] at h
      simp only [fstI,if_neg e,List.getElem_cons_succ]
      exact fstI_at x (by simpa using h)
theorem fstI_not (x : Int) : ∀ {b : List Int} {j : Nat},j≤fstI x b→x ∉ b.take j
  | [],j,h => by simp
  | y :: b,0,h => by simp
  | y :: b,j + 1,h => by
    unfold fstI at h
    by_cases e : x = y
    · rw [if_pos e] at h; omega
    · rw [if_neg e] at h
      simp [e,fstI_not x (b := b) (j := j) (by omega)]
theorem lcs_one (x : Int) (b : List Int) : lcsL [x] b = if x ∈ b then 1 else 0 := by
  unfold lcsL
  cases e : aft x b with
  | none => simp [aft_none e]
  | some b' =>
    obtain ⟨b0,rfl,_⟩ := aft_has e
    simp
theorem way_one (x : Int) (b : List Int) : wayN [x] b 1 = if fstI x b < b.length then fstI x b + 1 else 0 := by
  have on : ∀ j,onW [x] b 1 j = decide ((if x ∈ b.take j then 1 else 0) = if x ∈ b then 1 else 0) := fun j => by
    unfold onW cmn
    rw [lcs_one]
    simp [sg_zero,sg_nil,lcs_one,sg]
  have hle := fstI_le x b
  by_cases h : fstI x b < b.length
  · rw [if_pos h]
    have hx : x ∈ b := by rw [← fstI_at x h]; exact List.getElem_mem h
    refine way_is (by simp) (by omega) ?_ fun j hj => ?_
    · rw [on,if_pos hx,if_pos ?_]
      · rfl
      · rw [List.take_succ_eq_append_getElem h,fstI_at x h]; simp
    · rw [on,if_pos hx,if_neg (fstI_not x (by omega))]
      rfl
  · rw [if_neg h]
    refine way_is (by simp) (by omega) ?_ fun j hj => by omega
    rw [on,if_neg (by simp),if_neg ?_]
    · rfl
    · have := fstI_not x (b := b) (j := b.length) (by omega)
      rwa [List.take_of_length_le (Nat.le_refl _)] at this
theorem wayU_one (x : Int) (b : List Int) : wayU [x] b = if fstI x b < b.length then replicate (fstI x b) 2 ++ (0 :: replicate (b.length - fstI x b - 1) 2) else 1 :: replicate b.length 2 := by
  unfold wayU
  have : (List.range [x].length) = [0] := rfl
  rw [this,show [x].length = 1 from rfl,way_one]
  simp only [List.flatMap_cons,List.flatMap_nil,List.append_nil,way_zero,Nat.zero_add]
  rw [way_one]
  split
  · unfold stpU
    rw [if_pos (by omega),show fstI x b + 1 - 0 - 1 = fstI x b by omega,show b.length - (fstI x b + 1) = b.length - fstI x b - 1 by omega]
    simp
  · simp [stpU]
def mcost (a b : List Int) (i j : Nat) : Nat := i + j - 2 * lcsL (a.take i) (b.take j)
theorem mcost_lcs (a b : List Int) (i j : Nat) : lcsL (a.take i) (b.take j)≤i∧lcsL (a.take i) (b.take j)≤j := by
  have h := lcs_len (a.take i) (b.take j)
  simp at h
  omega
theorem mcost_diag (a b : List Int) (i j : Nat) : i≤j + mcost a b i j∧j≤i + mcost a b i j := by
  have h := mcost_lcs a b i j
  unfold mcost
  omega
theorem take_succ_end {l : List Int} {i : Nat} (h : l.length≤i) : l.take (i + 1) = l.take i := by
  rw [List.take_of_length_le (by omega),List.take_of_length_le h]
theorem mcost_step {a b : List Int} {i j : Nat} (h : ¬ ∃ (h1 : i < a.length) (h2 : j < b.length),a[i] = b[j]) : mcost a b (i + 1) (j + 1) = mcost a b i (j + 1) + 1∨mcost a b (i + 1) (j + 1) = mcost a b (i + 1) j + 1 := by
  have g1 := mcost_lcs a b i (j + 1)
  have g2 := mcost_lcs a b (i + 1) j
  have g3 := mcost_lcs a b (i + 1) (j + 1)
  unfold mcost
  by_cases h1 : i < a.length
  · by_cases h2 : j < b.length
    · have hne : a[i] ≠ b[j] := fun e => h ⟨h1,h2,e⟩
      have e := lcs_snoc_else hne (a.take i) (b.take j)
      rw [← List.take_succ_eq_append_getElem h1,← List.take_succ_eq_append_getElem h2] at e
      omega
    · rw [take_succ_end (l := b) (by omega)] at *
      omega
  · rw [take_succ_end (l := a) (by omega)] at *
    omega
theorem mcost_same {a b : List Int} {i j : Nat} (h1 : i < a.length) (h2 : j < b.length) (h : a[i] = b[j]) : mcost a b (i + 1) (j + 1) = mcost a b i j := by
  have g := mcost_lcs a b i j
  unfold mcost
  rw [List.take_succ_eq_append_getElem h1,List.take_succ_eq_append_getElem h2,h,lcs_snoc_same]
  omega
theorem mcost_del (a b : List Int) (i j : Nat) : mcost a b (i + 1) j≤mcost a b i j + 1 := by
  have : lcsL (a.take i) (b.take j)≤lcsL (a.take (i + 1)) (b.take j) := lcs_sub (List.take_sublist_take_left (by omega)) (List.Sublist.refl _)
  unfold mcost
  omega
theorem mcost_ins (a b : List Int) (i j : Nat) : mcost a b i (j + 1)≤mcost a b i j + 1 := by
  have : lcsL (a.take i) (b.take j)≤lcsL (a.take i) (b.take (j + 1)) := lcs_sub (List.Sublist.refl _) (List.take_sublist_take_left (by omega))
  unfold mcost
  omega
def distL (a b : List Int) : Nat := a.length + b.length - 2 * lcsL a b
theorem dist_eq (a b : List Int) : mcost a b a.length b.length = distL a b := by simp [mcost,distL]
theorem dist_le {a b : List Int} {i j : Nat} (h1 : a.length≤i) (h2 : b.length≤j) : distL a b≤mcost a b i j := by
  unfold mcost distL
  rw [List.take_of_length_le h1,List.take_of_length_le h2]
  omega
structure FarG (a b : List Int) (c d p x : Nat) : Prop where
  on : p≤x + c
  may : mcost a b x (x + c - p)≤d
  most : ∀ i j,i + c = j + p→mcost a b i j≤d→i≤x
structure FarS (a b : List Int) (c d p x : Nat) : Prop where
  on : p≤x + c
  may : mcost a b x (x + c - p)≤d
  most : ∀ i j,i + c = j + p→mcost a b i j≤d→i≤x∨∃ i' j',i = i' + 1∧j = j' + 1∧(∃ (h1 : i' < a.length) (h2 : j' < b.length),a[i'] = b[j'])∧mcost a b i' j'≤d
theorem far_zero (a b : List Int) (c : Nat) : FarS a b c 0 c 0 := by
  refine ⟨by omega,by simp [mcost],fun i j h hm => ?_⟩
  have : i = j := by omega
  subst this
  cases i with
  | zero => exact .inl (by omega)
  | succ i =>
    right
    refine ⟨i,i,rfl,rfl,?_⟩
    by_cases hs : ∃ (h1 : i < a.length) (h2 : i < b.length),a[i] = b[i]
    · obtain ⟨h1,h2,e⟩ := hs
      rw [mcost_same h1 h2 e] at hm
      exact ⟨⟨h1,h2,e⟩,hm⟩
    · have := mcost_step hs
      omega
theorem far_step {a b : List Int} {c d p x : Nat} (hc : d + 1≤c) (hp1 : c≤p + (d + 1)) (hp2 : p≤c + (d + 1)) (hp0 : 1≤p) {y z : Nat} (hy : p + (d + 1) ≠ c→FarG a b c d (p - 1) y) (hz : p ≠ c + (d + 1)→FarG a b c d (p + 1) z)
    (hx : (p + (d + 1) ≠ c∧x = y + 1)∨(p ≠ c + (d + 1)∧x = z)) (hxy : p + (d + 1) ≠ c→y + 1≤x) (hxz : p ≠ c + (d + 1)→z≤x) : FarS a b c (d + 1) p x := by
  have on : p≤x + c∧mcost a b x (x + c - p)≤d + 1 := by
    rcases hx with ⟨h,rfl⟩ | ⟨h,rfl⟩
    · have g := hy h
      have g1 := g.on
      have g2 := g.may
      have := mcost_del a b y (y + c - (p - 1))
      refine ⟨by omega,?_⟩
      rw [show y + 1 + c - p = y + c - (p - 1) by omega]
      omega
    · have g := hz h
      have g1 := g.on
      have g2 := g.may
      have := mcost_ins a b x (x + c - (p + 1))
      refine ⟨by omega,?_⟩
      rw [show x + c - p = x + c - (p + 1) + 1 by omega]
      omega
  refine ⟨on.1,on.2,fun i j h hm => ?_⟩
  cases i with
  | zero => exact .inl (by omega)
  | succ i =>
    cases j with
    | zero => exact .inl (by omega)
    | succ j =>
      by_cases hs : ∃ (h1 : i < a.length) (h2 : j < b.length),a[i] = b[j]
      · obtain ⟨h1,h2,e⟩ := hs
        rw [mcost_same h1 h2 e] at hm
        exact .inr ⟨i,j,rfl,rfl,⟨h1,h2,e⟩,hm⟩
      · left
        rcases mcost_step hs with e | e
        · have hd := mcost_diag a b i (j + 1)
          have hne : p + (d + 1) ≠ c := fun h' => by omega
          have := (hy hne).most i (j + 1) (by omega) (by omega)
          have := hxy hne
          omega
        · have hd := mcost_diag a b (i + 1) j
          have hne : p ≠ c + (d + 1) := fun h' => by omega
          have := (hz hne).most (i + 1) j (by omega) (by omega)
          have := hxz hne
          omega
theorem far_go {a b : List Int} {c d p x : Nat} (h : FarS a b c d p x) {y : Nat} (hy : x + c = y + p) (h1 : x < a.length) (h2 : y < b.length) (e : a[x] = b[y]) : FarS a b c d p (x + 1) := by
  have hm := h.may
  rw [show x + c - p = y by omega] at hm
  refine ⟨by omega,?_,fun i j hij hc => ?_⟩
  · rw [show x + 1 + c - p = y + 1 by omega,mcost_same h1 h2 e]
    exact hm
  · rcases h.most i j hij hc with k | k
    · exact .inl (by omega)
    · exact .inr k
theorem far_end {a b : List Int} {c d p x : Nat} (h : FarS a b c d p x) {y : Nat} (hy : x + c = y + p) (hs : ¬ ∃ (h1 : x < a.length) (h2 : y < b.length),a[x] = b[y]) : FarG a b c d p x := by
  refine ⟨h.on,h.may,fun i => ?_⟩
  induction i with
  | zero => intro j _ _; omega
  | succ i ih =>
    intro j hij hc
    rcases h.most _ _ hij hc with k | ⟨i',j',e1,e2,k,km⟩
    · exact k
    · have e1 : i = i' := by omega
      subst e1
      have := ih j' (by omega) km
      by_cases e : i = x
      · subst e
        have : j' = y := by omega
        subst this
        exact absurd k hs
      · omega
theorem far_done {a b : List Int} {c d p x y : Nat} (h : FarG a b c d p x) (hy : x + c = y + p) (h1 : a.length≤x) (h2 : b.length≤y) : distL a b≤d := by
  have := h.may
  rw [show x + c - p = y by omega] at this
  have := dist_le (a := a) (b := b) h1 h2
  omega
theorem far_comes {a b : List Int} {c d p x y : Nat} (h : FarG a b c d p x) (hy : x + c = y + p) (hp : a.length + c = b.length + p) (hd : distL a b≤d) : a.length≤x∧b.length≤y := by
  have := h.most a.length b.length hp (by rw [dist_eq]; exact hd)
  omega
theorem dist_diag (a b : List Int) : a.length≤b.length + distL a b∧b.length≤a.length + distL a b∧(a.length + b.length + distL a b) % 2 = 0 := by
  have h := lcs_len a b
  unfold distL
  omega
end Go.PL
namespace Go.Proofs.YtbjmaoedheiigaaGreat
set_option linter.unusedVariables false
set_option linter.unusedSimpArgs false
open Go Go.G Go.Proofs Go.PL
def fnL (f : Nat→Int) (n : Nat) : List A := (List.range n).map fun q => iv (f q)
@[simp] theorem fnL_len {f : Nat→Int} {n : Nat} : (fnL f n).length = n := by simp [fnL]
@[simp] theorem fnL_get {f : Nat→Int} {n k : Nat} (h : k < n) : (fnL f n)[k]? = some (iv (f k)) := by simp [fnL,h]
@[simp] theorem fnL_at {f : Nat→Int} {n k : Nat} (h : k < (fnL f n).length) : (fnL f n)[k] = iv (f k) := by simp [fnL]
@[simp] theorem fnL_set {f : Nat→Int} {n k : Nat} {z : Int} : (fnL f n).set k (iv z) = fnL (fun q => if q = k then z else f q) n := by
  apply List.ext_getElem?
  intro i
  rw [List.getElem?_set]
  by_cases hi : i < n
  · rw [fnL_get hi]
    by_cases e : k = i
    · subst e; simp [hi,fnL_get hi]
    · rw [if_neg e,fnL_get hi,if_neg (Ne.symm e)]
  · rw [List.getElem?_eq_none (l := fnL _ n) (by simp; omega)]
    split
    · rename_i e; rw [if_neg (by simp; omega),List.getElem?_eq_none (by simp; omega)]
    · rw [List.getElem?_eq_none (by simp; omega)]
theorem fnL_zero {n : Nat} : List.replicate n (iv 0) = fnL (fun _ => 0) n := by
  apply List.ext_getElem?
  intro i
  by_cases hi : i < n
  · rw [fnL_get hi]; simp [hi]
  · rw [List.getElem?_eq_none (by simp; omega),List.getElem?_eq_none (by simp; omega)]
theorem fnL_congr {f g : Nat→Int} {n : Nat} (h : ∀ q,q < n→f q = g q) : fnL f n = fnL g n := by
  unfold fnL
  exact List.map_congr_left fun q hq => by rw [h q (by simpa using hq)]
theorem fnL_list (l : List Int) : l.map iv = fnL (fun q => l.getD q 0) l.length := by
  apply List.ext_getElem?
  intro i
  by_cases hi : i < l.length
  · rw [fnL_get hi]; simp [hi]
  · rw [List.getElem?_eq_none (by simp; omega),List.getElem?_eq_none (by simp; omega)]
theorem frz_fnL {H : Hp} {o : Nm} {u n : Nat} {f : Nat→Int} (h : H o = ⟨u,.arr 1 (fnL f n)⟩) : Frz H (.osl o u 1 0 n) (.sl false (fnL f n)) := by
  have := frz_row (H := H) (o := o) (u := u) (sz := 1) (l := List.range n) (f := fun q => iv (f q)) (n := n) (by rw [h]; simp [fnL]) (by simp) (fun x => rfl)
  exact this
theorem soft_iv18 (l : List Int) : A.softL (l.map iv) = l.map iv := by rw [softL_map,List.map_map]; rfl
theorem soft_iv_take (l : List Int) (n : Nat) : A.softL ((l.map iv).take n) = (l.map iv).take n := by rw [← List.map_take,soft_iv18]
theorem soft_iv_drop (l : List Int) (n : Nat) : A.softL ((l.map iv).drop n) = (l.map iv).drop n := by rw [← List.map_drop,soft_iv18]
theorem reach_spec {f : Nat→Int} {n k : Nat} {lo hi : Bool} (hk : 1≤k) (hk2 : k + 1 < n) (hn : n≤100000000) (hf : ∀ q,-1000000000≤f q∧f q≤1000000000) : G.Spec Tryz.prog 219 [.sl false (fnL f n),iv k,bv lo,bv hi] (iv (if lo = true∧hi = true then 0 else if lo = true∨(hi = false∧f (k - 1) < f (k + 1)) then f (k + 1) else f (k - 1) + 1)) := by
  have e1 : IntKind.i64.wrap ((k : Int) - 1) = ((k - 1 : Nat) : Int) := by rw [i64_same (by omega) (by omega)]; omega
  have e2 : IntKind.i64.wrap ((k : Int) + 1) = ((k + 1 : Nat) : Int) := by rw [i64_same (by omega) (by omega)]; omega
  have h1 := hf (k - 1)
  have e3 : IntKind.i64.wrap (f (k - 1) + 1) = f (k - 1) + 1 := i64_same (by omega) (by omega)
  have g1 : (fnL f n)[k - 1]? = some (iv (f (k - 1))) := fnL_get (by omega)
  have g2 : (fnL f n)[k + 1]? = some (iv (f (k + 1))) := fnL_get hk2
  have b1 : k - 1 < n := by omega
  have b2 : (0 : Int)≤(k : Int) + 1 := by omega
  have b3 : (k : Int) + 1 < n := by omega
  refine spec_of t_lcs_reach (by simp) fun w0 I0 => ?_
  unfold c_lcs_reach
  cases lo <;> cases hi
  · by_cases h : f (k - 1) < f (k + 1)
    · simp [e1,e2,e3,g1,g2,h,b1,b2,b3,hk2]
      exact frz_bare rfl
    · simp [e1,e2,e3,g1,g2,h,b1,b2,b3,hk2]
      exact frz_int rfl
  · simp [e1,e2,e3,g1,g2,b1,b2,b3,hk2]
    exact frz_bare rfl
  · simp [e1,e2,e3,g1,g2,b1,b2,b3,hk2]
    exact frz_bare rfl
  · simp
    exact frz_bare rfl
section
variable {n0 : Nat} {w0 : World} {I0 : Nat→Prop} {Q : Exit→Sta→Prop}
theorem row_l1 {a b : List Int} {i u : Nat} {x : Int} (hi : i < a.length) (hx : a[i] = x) (hb : b.length≤1000000) : ∀ (m j : Nat) (f : Nat→Int) (H : Hp),j + m = b.length→(∀ q,q≤b.length→f q = if q≤j then (lcsL (a.take (i + 1)) (b.take q) : Nat) else (lcsL (a.take i) (b.take q) : Nat))→H [0] = ⟨u,.arr 1 (fnL f (b.length + 1))⟩ →
    (∀ (f' : Nat→Int) (z : Int) (H' : Hp) (st : List (Nat × A)),(∀ q,q≤b.length→f' q = (lcsL (a.take (i + 1)) (b.take q) : Nat))→H' [0] = ⟨u,.arr 1 (fnL f' (b.length + 1))⟩→Q (.exit 2) ⟨lk ([(1,ivs b),(5,.osl [0] u 1 0 (b.length + 1)),(7,iv x),(8,iv z),(16,ivs a),(17,iv a.length),(18,iv i)] ++ st),H'⟩) →
    LoopC (cx Tryz.prog w0 I0 n0) l1_lcs_row Q ⟨lk [(1,ivs b),(5,.osl [0] u 1 0 (b.length + 1)),(7,iv x),(8,iv (lcsL (a.take i) (b.take j) : Nat)),(16,ivs a),(17,iv a.length),(18,iv i),(22,ivs b),(23,iv b.length),(24,iv j)],H⟩ := by
  intro m
  induction m with
  | zero =>
    intro j f H hm hf hH hq
    refine loopC_once mixed l1_lcs_row.eq_1 ?_
    have : j = b.length := by omega
    subst this
    simp
    exact hq f _ H [(22,ivs b),(23,iv b.length),(24,iv b.length),(25,bv false)] (fun q hq => by rw [hf q hq,if_pos hq]) hH
  | succ m ih =>
    intro j f H hm hf hH hq
    have hj : j < b.length := by omega
    have e1 : IntKind.i64.wrap ((j : Int) + 1) = ((j + 1 : Nat) : Int) := by rw [i64_same (by omega) (by omega)]; omega
    have g1 : (fnL f (b.length + 1))[j]? = some (iv (f j)) := fnL_get (by omega)
    have g2 : (fnL f (b.length + 1))[j + 1]? = some (iv (f (j + 1))) := fnL_get (by omega)
    have f1 := hf j (by omega)
    have f2 := hf (j + 1) (by omega)
    rw [if_pos (Nat.le_refl _)] at f1
    rw [if_neg (by omega)] at f2
    have m0 : (0 : Int)≤(j : Int) + 1 := by omega
    have m1 : (j : Int) < (b.length : Int) + 1 := by omega
    have ll := lcs_len (a.take i) (b.take j)
    simp at ll
    have e2 : IntKind.i64.wrap ((lcsL (a.take i) (b.take j) : Nat) + 1) = ((lcsL (a.take i) (b.take j) + 1 : Nat) : Int) := by rw [i64_same (by omega) (by omega)]; omega
    have tk : a.take (i + 1) = a.take i ++ [x] := by rw [List.take_succ_eq_append_getElem hi,hx]
    have tj : b.take (j + 1) = b.take j ++ [b[j]] := List.take_succ_eq_append_getElem hj
    have next : ∀ (z : Int) (f' : Nat→Int),z = (lcsL (a.take (i + 1)) (b.take (j + 1)) : Nat)→(∀ q,q ≠ j + 1→f' q = f q)→f' (j + 1) = z→LoopC (cx Tryz.prog w0 I0 n0) l1_lcs_row Q ⟨lk [(1,ivs b),(5,.osl [0] u 1 0 (b.length + 1)),(7,iv x),(8,iv (lcsL (a.take i) (b.take (j + 1)) : Nat)),(16,ivs a),(17,iv a.length),(18,iv i),(22,ivs b),(23,iv b.length),(24,iv (j + 1 : Nat))],updF H [0] ⟨u,.arr 1 (fnL f' (b.length + 1))⟩⟩ := fun z f' hz h1 h2 => by
      refine ih (j + 1) f' _ (by omega) (fun q hq => ?_) (by simp [updF_app]) hq
      by_cases e : q = j + 1
      · subst e; rw [if_pos (Nat.le_refl _),h2,hz]
      · rw [h1 q e,hf q hq]
        by_cases h3 : q≤j
        · rw [if_pos h3,if_pos (by omega)]
        · rw [if_neg h3,if_neg (by omega)]
    refine loopC_once mixed l1_lcs_row.eq_1 ?_
    by_cases h : x = b[j]
    · simp [hj,h,e1,g2,hH,m0,m1]
      rw [k1_lcs_row.eq_1]
      have hjb : j < b.length + 1 := by omega
      simp [hj,h,e1,hjb,hH,m0,m1,updF_app,e2]
      rw [f2,← h]
      have e := lcs_snoc_same x (a.take i) (b.take j)
      have e' := lcs_snoc_le x (a.take i) (b.take j)
      rw [← tk] at e e'
      rw [h,← tj] at e
      refine next _ _ rfl (fun q hq => by simp [hq]) ?_
      simp
      rw [f1,e]
      omega
    · simp [hj,h,e1,g2,hH,m0,m1]
      rw [k1_lcs_row.eq_1]
      have hjb : j < b.length + 1 := by omega
      simp [hj,h,e1,hjb,hH,m0,m1]
      rw [f2]
      have e := lcs_snoc_else h (a.take i) (b.take j)
      rw [← tj,← tk] at e
      refine next _ _ rfl (fun q hq => by simp [hq]) ?_
      simp
      rw [f1,e]
      omega
theorem row_l2 {a b : List Int} {u : Nat} (ha : a.length≤1000000) (hb : b.length≤1000000) (hq : ∀ (f' : Nat→Int) (H' : Hp) (st : List (Nat × A)),(∀ q,q≤b.length→f' q = (lcsL a (b.take q) : Nat))→H' [0] = ⟨u,.arr 1 (fnL f' (b.length + 1))⟩→Q (.exit 0) ⟨lk ([(1,ivs b),(5,.osl [0] u 1 0 (b.length + 1))] ++ st),H'⟩) : ∀ (m i : Nat) (f : Nat→Int) (H : Hp),i + m = a.length→(∀ q,q≤b.length→f q = (lcsL (a.take i) (b.take q) : Nat))→H [0] = ⟨u,.arr 1 (fnL f (b.length + 1))⟩ →
    LoopC (cx Tryz.prog w0 I0 n0) l2_lcs_row Q ⟨lk [(1,ivs b),(5,.osl [0] u 1 0 (b.length + 1)),(16,ivs a),(17,iv a.length),(18,iv i)],H⟩ := by
  intro m
  induction m with
  | zero =>
    intro i f H hm hf hH
    refine loopC_once mixed l2_lcs_row.eq_1 ?_
    have : i = a.length := by omega
    subst this
    simp
    exact hq f H [(16,ivs a),(17,iv a.length),(18,iv a.length),(19,bv false)] (fun q hq => by rw [hf q hq,List.take_of_length_le (Nat.le_refl _)]) hH
  | succ m ih =>
    intro i f H hm hf hH
    have hi : i < a.length := by omega
    have e1 : IntKind.i64.wrap ((i : Int) + 1) = ((i + 1 : Nat) : Int) := by rw [i64_same (by omega) (by omega)]; omega
    refine loopC_once mixed l2_lcs_row.eq_1 ?_
    simp [hi]
    refine LoopC.le (le_list [(1,ivs b),(5,.osl [0] u 1 0 (b.length + 1)),(7,iv a[i]),(8,iv (lcsL (a.take i) (b.take 0) : Nat)),(16,ivs a),(17,iv a.length),(18,iv i),(22,ivs b),(23,iv b.length),(24,iv (0 : Nat))] (by simp)) ?_
    refine row_l1 hi rfl hb b.length 0 f H (by omega) (fun q hq => ?_) hH fun f' z H' st h1 h2 => ?_
    · rw [hf q hq]
      by_cases h0 : q≤0
      · have : q = 0 := by omega
        subst this; simp
      · rw [if_neg h0]
    · simp [e1]
      exact ih (i + 1) f' H' (by omega) h1 h2
theorem turned_l1 {l : List Int} {u : Nat} (hl : l.length≤1000000) (hq : ∀ (f' : Nat→Int) (H' : Hp) (st : List (Nat × A)),(∀ q,q < l.length→f' q = l.getD (l.length - 1 - q) 0)→H' [0] = ⟨u,.arr 1 (fnL f' l.length)⟩→Q (.exit 0) ⟨lk ([(0,ivs l),(3,.osl [0] u 1 0 l.length)] ++ st),H'⟩) : ∀ (m i : Nat) (f : Nat→Int) (H : Hp),i + m = l.length→(∀ q,q < l.length→l.length≤q + i→f q = l.getD (l.length - 1 - q) 0)→H [0] = ⟨u,.arr 1 (fnL f l.length)⟩ →
    LoopC (cx Tryz.prog w0 I0 n0) l1_lcs_turned Q ⟨lk [(0,ivs l),(3,.osl [0] u 1 0 l.length),(9,ivs l),(10,iv l.length),(11,iv i)],H⟩ := by
  intro m
  induction m with
  | zero =>
    intro i f H hm hf hH
    refine loopC_once mixed l1_lcs_turned.eq_1 ?_
    have : i = l.length := by omega
    subst this
    simp
    exact hq f H [(9,ivs l),(10,iv l.length),(11,iv l.length),(12,bv false)] (fun q hq => hf q hq (by omega)) hH
  | succ m ih =>
    intro i f H hm hf hH
    have hi : i < l.length := by omega
    have e1 : IntKind.i64.wrap ((i : Int) + 1) = ((i + 1 : Nat) : Int) := by rw [i64_same (by omega) (by omega)]; omega
    have e2 : IntKind.i64.wrap (IntKind.i64.wrap ((l.length : Int) - 1) - i) = ((l.length - 1 - i : Nat) : Int) := by rw [i64_same (n := (l.length : Int) - 1) (by omega) (by omega),i64_same (by omega) (by omega)]; omega
    have b1 : l.length - 1 - i < l.length := by omega
    refine loopC_once mixed l1_lcs_turned.eq_1 ?_
    simp [hi,e1,e2,hH,b1]
    refine ih (i + 1) _ _ (by omega) (fun q hq1 hq2 => ?_) (by simp [updF_app]; rfl)
    by_cases e : q = l.length - 1 - i
    · rw [if_pos e]
      have : l.length - 1 - q = i := by omega
      rw [this]
      simp [List.getD_eq_getElem?_getD,hi]
    · rw [if_neg e]
      exact hf q hq1 (by omega)
end
theorem row_spec18 {a b : List Int} (ha : a.length≤1000000) (hb : b.length≤1000000) : G.Spec Tryz.prog 251 [ivs a,ivs b] (.sl false (fnL (fun q => (lcsL a (b.take q) : Nat)) (b.length + 1))) := by
  have e1 : IntKind.i64.wrap ((b.length : Int) + 1) = ((b.length + 1 : Nat) : Int) := by rw [i64_same (by omega) (by omega)]; omega
  refine spec_of t_lcs_row (by simp) fun w0 I0 => ?_
  unfold c_lcs_row
  simp [e1]
  refine ⟨by omega,?_⟩
  refine LoopC.le (le_list [(1,ivs b),(5,.osl [0] 1 1 0 (b.length + 1)),(16,ivs a),(17,iv a.length),(18,iv (0 : Nat))] (by simp)) ?_
  refine row_l2 ha hb (fun f' H' st h1 h2 => ?_) a.length 0 (fun _ => 0) _ (by omega) (fun q hq => by simp) (by simp [fnL_zero])
  simp
  rw [← fnL_congr fun q hq => h1 q (by omega)]
  exact frz_fnL h2
theorem turned_spec {l : List Int} (hl : l.length≤1000000) : G.Spec Tryz.prog 252 [ivs l] (ivs l.reverse) := by
  refine spec_of t_lcs_turned (by simp) fun w0 I0 => ?_
  unfold c_lcs_turned
  simp
  refine ⟨by omega,?_⟩
  refine LoopC.le (le_list [(0,ivs l),(3,.osl [0] 1 1 0 l.length),(9,ivs l),(10,iv l.length),(11,iv (0 : Nat))] (by simp)) ?_
  refine turned_l1 hl (fun f' H' st h1 h2 => ?_) l.length 0 (fun _ => 0) _ (by omega) (fun q hq => by omega) (by simp [fnL_zero])
  simp
  have e : l.reverse.map iv = fnL f' l.length := by
    rw [fnL_list,List.length_reverse]
    refine fnL_congr fun q hq => ?_
    rw [h1 q hq]
    simp [List.getD_eq_getElem?_getD,List.getElem?_reverse hq]
  have e' : ivs l.reverse = .sl false (fnL f' l.length) := by rw [← e]
  rw [e']
  exact frz_fnL h2
theorem split_l1 {n0 : Nat} {w0 : World} {I0 : Nat→Prop} {Q : Exit→Sta→Prop} {a b : List Int} {half : Nat} (hh : half≤a.length) (hb : b.length≤1000000) {H : Hp} {f g : Nat→Int} (hf : ∀ q,q≤b.length→f q = (cmn a b 0 half 0 q : Nat)) (hg : ∀ q,q≤b.length→g (b.length - q) = (cmn a b half a.length q b.length : Nat))
    (hq : ∀ st,Q (.exit 0) ⟨lk ([(1,ivs b),(7,.sl false (fnL f (b.length + 1))),(8,.sl false (fnL g (b.length + 1))),(9,iv (wayN a b half))] ++ st),H⟩) : ∀ (m i best : Nat),i + m = b.length + 1→best≤b.length→(∀ q,q < best→cmn a b 0 half 0 q + cmn a b half a.length q b.length < cmn a b 0 half 0 best + cmn a b half a.length best b.length)→(∀ q,q < i→cmn a b 0 half 0 q + cmn a b half a.length q b.length≤cmn a b 0 half 0 best + cmn a b half a.length best b.length) →
    LoopC (cx Tryz.prog w0 I0 n0) l1_lcs_split Q ⟨lk [(1,ivs b),(7,.sl false (fnL f (b.length + 1))),(8,.sl false (fnL g (b.length + 1))),(9,iv best),(24,iv (b.length + 1 : Nat)),(25,iv i)],H⟩ := by
  intro m
  induction m with
  | zero =>
    intro i best hm hbl h1 h2
    refine loopC_once mixed l1_lcs_split.eq_1 ?_
    have : i = b.length + 1 := by omega
    subst this
    have hw : wayN a b half = best := by
      obtain ⟨g1,g2,g3⟩ := way_on (a := a) (b := b) hh
      have hle := onW_le (a := a) (b := b) (i := half) (j := best) hh hbl
      have h3 := h2 (wayN a b half) (by omega)
      unfold onW at g1
      simp only [decide_eq_true_eq] at g1
      refine way_is hh hbl (by unfold onW; simp only [decide_eq_true_eq]; omega) fun j hj => ?_
      have := h1 j hj
      unfold onW
      simp only [decide_eq_false_iff_not]
      omega
    simp
    rw [← hw]
    exact hq [(24,iv (b.length + 1 : Nat)),(25,iv (b.length + 1 : Nat)),(26,bv false)]
  | succ m ih =>
    intro i best hm hbl h1 h2
    have hi : i < b.length + 1 := by omega
    have e1 : IntKind.i64.wrap ((i : Int) + 1) = ((i + 1 : Nat) : Int) := by rw [i64_same (by omega) (by omega)]; omega
    have e2 : IntKind.i64.wrap ((b.length : Int) - i) = ((b.length - i : Nat) : Int) := by rw [i64_same (by omega) (by omega)]; omega
    have e3 : IntKind.i64.wrap ((b.length : Int) - best) = ((b.length - best : Nat) : Int) := by rw [i64_same (by omega) (by omega)]; omega
    have fi := hf i (by omega)
    have gi := hg i (by omega)
    have fb := hf best hbl
    have gb := hg best hbl
    have l1 := lcs_len (sg a 0 half) (sg b 0 i)
    have l2 := lcs_len (sg a half a.length) (sg b i b.length)
    have l3 := lcs_len (sg a 0 half) (sg b 0 best)
    have l4 := lcs_len (sg a half a.length) (sg b best b.length)
    rw [sg_len _ _ _ hh,sg_len _ _ _ (by omega)] at l1
    rw [sg_len _ _ _ (by omega),sg_len _ _ _ (by omega)] at l2
    rw [sg_len _ _ _ hh,sg_len _ _ _ hbl] at l3
    rw [sg_len _ _ _ (by omega),sg_len _ _ _ (by omega)] at l4
    have e4 : IntKind.i64.wrap (f i + g (b.length - i)) = ((cmn a b 0 half 0 i + cmn a b half a.length i b.length : Nat) : Int) := by rw [fi,gi,i64_same (by unfold cmn; omega) (by unfold cmn; omega)]; omega
    have e5 : IntKind.i64.wrap (f best + g (b.length - best)) = ((cmn a b 0 half 0 best + cmn a b half a.length best b.length : Nat) : Int) := by rw [fb,gb,i64_same (by unfold cmn; omega) (by unfold cmn; omega)]; omega
    have b1 : b.length - i < b.length + 1 := by omega
    have b2 : b.length - best < b.length + 1 := by omega
    have b3 : best < b.length + 1 := by omega
    refine loopC_once mixed l1_lcs_split.eq_1 ?_
    have c1 : (i : Int) < (b.length : Int) + 1 := by omega
    have c2 : ((b.length - i : Nat) : Int) < (b.length : Int) + 1 := by omega
    have c3 : (best : Int) < (b.length : Int) + 1 := by omega
    have c4 : ((b.length - best : Nat) : Int) < (b.length : Int) + 1 := by omega
    by_cases h : (cmn a b 0 half 0 best : Int) + (cmn a b half a.length best b.length : Int) < (cmn a b 0 half 0 i : Int) + (cmn a b half a.length i b.length : Int)
    · simp [hi,e1,e2,e3,e4,e5,b1,b2,b3,h,c1,c2,c3,c4]
      refine ih (i + 1) i (by omega) (by omega) (fun q hq => ?_) (fun q hq => ?_)
      · have := h2 q hq; omega
      · by_cases e : q = i
        · subst e; omega
        · have := h2 q (by omega); omega
    · simp [hi,e1,e2,e3,e4,e5,b1,b2,b3,h,c1,c2,c3,c4]
      refine ih (i + 1) best (by omega) hbl h1 (fun q hq => ?_)
      by_cases e : q = i
      · subst e; omega
      · exact h2 q (by omega)
theorem split_spec {a b : List Int} {half : Nat} (hh : half≤a.length) (ha : a.length≤1000000) (hb : b.length≤1000000) : G.Spec Tryz.prog 222 [ivs a,ivs b,iv half] (iv (wayN a b half)) := by
  refine spec_of t_lcs_split (by simp) fun w0 I0 => ?_
  have s1 := row_spec18 (a := a.take half) (b := b) (by simp; omega) hb
  have s2 := turned_spec (l := a.drop half) (by simp; omega)
  have s3 := turned_spec (l := b) hb
  have s4 := row_spec18 (a := (a.drop half).reverse) (b := b.reverse) (by simp; omega) (by simpa using hb)
  rw [List.length_reverse] at s4
  unfold c_lcs_split
  simp [hh]
  refine sc_call (s1.soft (by simp [A.softL,A.soft,soft_iv18,soft_iv_take])) (by simp) ?_
  simp [hh]
  refine sc_call (s2.soft (by simp [A.softL,A.soft,soft_iv18,soft_iv_drop,List.take_of_length_le])) (by simp) ?_
  simp [hh]
  refine sc_call s3 (by simp) ?_
  simp [hh]
  refine sc_call s4 (by simp) ?_
  simp [hh]
  refine LoopC.le (le_list [(1,ivs b),(7,.sl false (fnL (fun q => (lcsL (a.take half) (b.take q) : Nat)) (b.length + 1))),(8,.sl false (fnL (fun q => (lcsL (a.drop half).reverse (b.reverse.take q) : Nat)) (b.length + 1))),(9,iv (0 : Nat)),(24,iv (b.length + 1 : Nat)),(25,iv (0 : Nat))] (by simp)) ?_
  refine split_l1 hh hb (fun q hq => by simp [cmn,sg_zero]) (fun q hq => ?_) (fun st => ?_) (b.length + 1) 0 0 (by omega) (by omega) (fun q hq => by omega) (fun q hq => by omega)
  · have e : b.reverse.take (b.length - q) = (b.drop q).reverse := by
      rw [List.take_reverse]
      congr 2
      omega
    show ((lcsL (a.drop half).reverse (b.reverse.take (b.length - q)) : Nat) : Int) = _
    rw [e,lcs_rev]
    simp [cmn,sg_end]
  · simp
    exact frz_bare rfl
theorem fars_bound {a b : List Int} {c d p x y : Nat} (h : FarS a b c d p x) (hy : x + c = y + p) : x≤d + a.length∧y≤d + b.length := by
  have h1 := h.may
  rw [show x + c - p = y by omega] at h1
  have h2 := lcs_len (a.take x) (b.take y)
  have h3 := mcost_lcs a b x y
  unfold mcost at h1
  simp at h2
  omega
theorem dist_x {a b : List Int} {M d p t : Nat} {f : Nat→Nat} (hd : d≤M) (ht : t≤d) (hp : p + d = M + 1 + 2 * t) (hold : ∀ p s,s < d→p + d = M + 1 + 1 + 2 * s→FarG a b (M + 1) (d - 1) p (f p)) : ∃ x : Nat,(if decide (t = 0) = true∧decide (t = d) = true then (0 : Int) else if decide (t = 0) = true∨(decide (t = d) = false∧((f (p - 1) : Nat) : Int) < (f (p + 1) : Nat)) then ((f (p + 1) : Nat) : Int) else ((f (p - 1) : Nat) : Int) + 1) = (x : Int)∧FarS a b (M + 1) d p x := by
  cases d with
  | zero =>
    have : t = 0 := by omega
    subst this
    have : p = M + 1 := by omega
    subst this
    exact ⟨0,by simp,far_zero a b (M + 1)⟩
  | succ d =>
    have hy : p + (d + 1) ≠ M + 1→FarG a b (M + 1) d (p - 1) (f (p - 1)) := fun h => hold (p - 1) (t - 1) (by omega) (by omega)
    have hz : p ≠ M + 1 + (d + 1)→FarG a b (M + 1) d (p + 1) (f (p + 1)) := fun h => hold (p + 1) t (by omega) (by omega)
    by_cases h0 : t = 0
    · exact ⟨f (p + 1),by simp [h0],far_step (by omega) (by omega) (by omega) (by omega) hy hz (.inr ⟨by omega,rfl⟩) (fun h => by omega) (fun h => Nat.le_refl _)⟩
    · by_cases h1 : t = d + 1
      · exact ⟨f (p - 1) + 1,by simp [h1],far_step (by omega) (by omega) (by omega) (by omega) hy hz (.inl ⟨by omega,rfl⟩) (fun h => Nat.le_refl _) (fun h => by omega)⟩
      · by_cases h2 : f (p - 1) < f (p + 1)
        · exact ⟨f (p + 1),by simp [h0,h1,h2],far_step (by omega) (by omega) (by omega) (by omega) hy hz (.inr ⟨by omega,rfl⟩) (fun h => by omega) (fun h => Nat.le_refl _)⟩
        · exact ⟨f (p - 1) + 1,by simp [h0,h1,h2],far_step (by omega) (by omega) (by omega) (by omega) hy hz (.inl ⟨by omega,rfl⟩) (fun h => Nat.le_refl _) (fun h => by omega)⟩
section
variable {n0 : Nat} {w0 : World} {I0 : Nat→Prop} {Q : Exit→Sta→Prop}
theorem dist_l1 {a b : List Int} (ha : a.length≤1000000) (hb : b.length≤1000000) {c d p : Nat} {X : A} {M k : Int} {H : Hp}
    (hq : ∀ (x y : Nat) st,FarS a b c d p x→FarG a b c d p x→x + c = y + p→Q (.exit 4) ⟨lk ([(0,ivs a),(1,ivs b),(2,iv M),(8,iv a.length),(9,iv b.length),(10,X),(11,iv d),(12,iv k),(13,iv x),(14,iv y)] ++ st),H⟩) : ∀ (m x y : Nat),a.length≤x + m→FarS a b c d p x→x + c = y + p →
    LoopC (cx Tryz.prog w0 I0 n0) l1_lcs_Distance Q ⟨lk [(0,ivs a),(1,ivs b),(2,iv M),(8,iv a.length),(9,iv b.length),(10,X),(11,iv d),(12,iv k),(13,iv x),(14,iv y)],H⟩ := by
  intro m
  induction m with
  | zero =>
    intro x y hm hS hy
    refine loopC_once mixed l1_lcs_Distance.eq_1 ?_
    simp [show ¬ x < a.length by omega]
    exact hq x y [(99,bv false)] hS (far_end hS hy fun ⟨h1,_,_⟩ => by omega) hy
  | succ m ih =>
    intro x y hm hS hy
    refine loopC_once mixed l1_lcs_Distance.eq_1 ?_
    by_cases h1 : x < a.length
    · by_cases h2 : y < b.length
      · have e1 : IntKind.i64.wrap ((x : Int) + 1) = ((x + 1 : Nat) : Int) := by rw [i64_same (by omega) (by omega)]; omega
        have e2 : IntKind.i64.wrap ((y : Int) + 1) = ((y + 1 : Nat) : Int) := by rw [i64_same (by omega) (by omega)]; omega
        by_cases h3 : a[x] = b[y]
        · simp [h1,h2,h3,e1,e2]
          exact ih (x + 1) (y + 1) (by omega) (far_go hS hy h1 h2 h3) (by omega)
        · simp [h1,h2,h3]
          exact hq x y [(99,bv false)] hS (far_end hS hy fun ⟨_,_,h⟩ => h3 h) hy
      · simp [h1,h2]
        exact hq x y [(99,bv false)] hS (far_end hS hy fun ⟨_,h,_⟩ => h2 h) hy
    · simp [h1]
      exact hq x y [(99,bv false)] hS (far_end hS hy fun ⟨h,_,_⟩ => h1 h) hy
theorem dist_l2 {a b : List Int} (ha : a.length≤1000000) (hb : b.length≤1000000) {M d u : Nat} (hM : M≤a.length + b.length) (hd : d≤M) (hdd : d≤distL a b)
    (hq : ∀ (f : Nat→Nat) (H : Hp) st,(∀ q,f q≤10000000)→(∀ p s,s≤d→p + d = M + 1 + 2 * s→FarG a b (M + 1) d p (f p))→d < distL a b→H [0] = ⟨u,.arr 1 (fnL (fun q => (f q : Nat)) (2 * M + 3))⟩→Q (.exit 2) ⟨lk ([(0,ivs a),(1,ivs b),(2,iv M),(8,iv a.length),(9,iv b.length),(10,.osl [0] u 1 0 (2 * M + 3)),(11,iv d)] ++ st),H⟩)
    (hq2 : ∀ H,d = distL a b→Q .ret ⟨lk [(6,iv d),(7,bv true)],H⟩) : ∀ (m t : Nat) (f : Nat→Nat) (H : Hp),t + m = d + 1→(∀ q,f q≤10000000) →
    (∀ p s,s < d→p + d = M + 1 + 1 + 2 * s→FarG a b (M + 1) (d - 1) p (f p))→(∀ p s,s < t→p + d = M + 1 + 2 * s→FarG a b (M + 1) d p (f p)∧¬ (a.length≤f p∧b.length + p≤f p + (M + 1)))→H [0] = ⟨u,.arr 1 (fnL (fun q => (f q : Nat)) (2 * M + 3))⟩ →
    LoopC (cx Tryz.prog w0 I0 n0) l2_lcs_Distance Q ⟨lk [(0,ivs a),(1,ivs b),(2,iv M),(8,iv a.length),(9,iv b.length),(10,.osl [0] u 1 0 (2 * M + 3)),(11,iv d),(12,iv (2 * (t : Int) - d))],H⟩ := by
  intro m
  induction m with
  | zero =>
    intro t f H hm hb0 hold hnew hH
    have : t = d + 1 := by omega
    subst this
    refine loopC_once mixed l2_lcs_Distance.eq_1 ?_
    have hk : ¬ (2 * ((d + 1 : Nat) : Int) - d≤d) := by omega
    simp only [Int.natCast_add,Int.cast_ofNat_Int] at hk
    simp [hk]
    refine hq f H _ hb0 (fun p s hs hp => (hnew p s (by omega) hp).1) ?_ hH
    by_cases h : d < distL a b
    · exact h
    · exfalso
      have hdg := dist_diag a b
      have he : distL a b = d := by omega
      rw [he] at hdg
      obtain ⟨p,hp⟩ : ∃ p,a.length + (M + 1) = b.length + p := ⟨a.length + (M + 1) - b.length,by omega⟩
      obtain ⟨s,hs⟩ : ∃ s,a.length + d = b.length + 2 * s := ⟨(a.length + d - b.length) / 2,by omega⟩
      obtain ⟨g1,g2⟩ := hnew p s (by omega) (by omega)
      have g3 := g1.on
      have := far_comes (y := f p + (M + 1) - p) g1 (by omega) hp (by omega)
      exact g2 ⟨this.1,by omega⟩
  | succ m ih =>
    intro t f H hm hb0 hold hnew hH
    have ht : t≤d := by omega
    obtain ⟨p,hp⟩ : ∃ p,p + d = M + 1 + 2 * t := ⟨M + 1 + 2 * t - d,by omega⟩
    have hk : (2 * (t : Int) - d≤d) := by omega
    have e0 : IntKind.i64.wrap ((M : Int) + 1) = (M : Int) + 1 := i64_same (by omega) (by omega)
    have e1 : IntKind.i64.wrap ((M : Int) + 1 + (2 * (t : Int) - d)) = (p : Int) := by rw [i64_same (by omega) (by omega)]; omega
    have e2 : IntKind.i64.wrap (2 * (t : Int) - d + 2) = 2 * ((t + 1 : Nat) : Int) - d := by rw [i64_same (by omega) (by omega)]; omega
    have e3 : IntKind.i64.wrap (-(d : Int)) = -(d : Int) := i64_same (by omega) (by omega)
    have lo : decide (2 * (t : Int) - d = -(d : Int)) = decide (t = 0) := by by_cases h : t = 0 <;> simp [h] <;> omega
    have hi : decide (2 * (t : Int) - d = (d : Int)) = decide (t = d) := by by_cases h : t = d <;> simp [h] <;> omega
    have hR := reach_spec (f := fun q => (f q : Nat)) (n := 2 * M + 3) (k := p) (lo := decide (t = 0)) (hi := decide (t = d)) (by omega) (by omega) (by omega) (fun q => by have := hb0 q; omega)
    -- the step's place
    obtain ⟨x,hx,hS⟩ := dist_x hd ht hp hold
    rw [hx] at hR
    have hon := hS.on
    obtain ⟨y,hy⟩ : ∃ y,x + (M + 1) = y + p := ⟨x + (M + 1) - p,by omega⟩
    have hbd := fars_bound hS hy
    have e4 : IntKind.i64.wrap ((x : Int) - (2 * (t : Int) - d)) = (y : Int) := by rw [i64_same (by omega) (by omega)]; omega
    refine loopC_once mixed l2_lcs_Distance.eq_1 ?_
    simp [hk,e0,e1,e3,lo,hi]
    refine sc_callb [.sl false (fnL (fun q => (f q : Nat)) (2 * M + 3)),iv p,bv (decide (t = 0)),bv (decide (t = d))] (hR.toB rfl) (by simp; exact ⟨frz_fnL hH,frz_bare rfl,frz_bare rfl,frz_bare rfl⟩) (by simp) ?_
    simp [e4]
    refine LoopC.le (le_list [(0,ivs a),(1,ivs b),(2,iv M),(8,iv a.length),(9,iv b.length),(10,.osl [0] u 1 0 (2 * M + 3)),(11,iv d),(12,iv (2 * (t : Int) - d)),(13,iv x),(14,iv y)] (by simp)) ?_
    refine dist_l1 ha hb (c := M + 1) (p := p) (fun x y st hS hG hy => ?_) a.length x y (by omega) hS hy
    have hbd := fars_bound hS hy
    have hpl : p < 2 * M + 3 := by omega
    have hpl' : (p : Int) < 2 * (M : Int) + 3 := by omega
    by_cases hdone : a.length≤x∧b.length≤y
    · have he := far_done hG hy hdone.1 hdone.2
      simp [hk,e0,e1,e3,lo,hi,hH,hpl,hpl',hdone.1,hdone.2]
      exact hq2 _ (by omega)
    · simp [hk,e0,e1,e2,hH,hpl,hpl']
      refine ⟨fun h1 h2 => absurd ⟨h1,h2⟩ hdone,fun _ => ?_⟩
      refine ih (t + 1) (fun q => if q = p then x else f q) _ (by omega) (fun q => ?_) (fun p' s hs hp' => ?_) (fun p' s hs hp' => ?_) ?_
      · show (if q = p then x else f q)≤_
        split
        · omega
        · exact hb0 q
      · show FarG a b (M + 1) (d - 1) p' (if p' = p then x else f p')
        rw [if_neg (by omega)]
        exact hold p' s hs hp'
      · show FarG a b (M + 1) d p' (if p' = p then x else f p')∧¬ (a.length≤(if p' = p then x else f p')∧b.length + p'≤(if p' = p then x else f p') + (M + 1))
        by_cases e : s = t
        · have : p' = p := by omega
          subst this
          rw [if_pos rfl]
          exact ⟨hG,fun h => hdone ⟨h.1,by omega⟩⟩
        · rw [if_neg (by omega)]
          exact hnew p' s (by omega) hp'
      · simp only [updF_app,if_true]
        congr 2
        refine fnL_congr fun q _ => ?_
        split <;> rfl
theorem dist_l3 {a b : List Int} (ha : a.length≤1000000) (hb : b.length≤1000000) {M u : Nat} (hM : M≤a.length + b.length)
    (hq : ∀ H st,M < distL a b→Q (.exit 0) ⟨lk st,H⟩) (hq2 : ∀ H,distL a b≤M→Q .ret ⟨lk [(6,iv (distL a b)),(7,bv true)],H⟩) : ∀ (m d : Nat) (f : Nat→Nat) (H : Hp),d + m = M + 1→(∀ q,f q≤10000000)→d≤distL a b →
    (∀ p s,s < d→p + d = M + 1 + 1 + 2 * s→FarG a b (M + 1) (d - 1) p (f p))→H [0] = ⟨u,.arr 1 (fnL (fun q => (f q : Nat)) (2 * M + 3))⟩ →
    LoopC (cx Tryz.prog w0 I0 n0) l3_lcs_Distance Q ⟨lk [(0,ivs a),(1,ivs b),(2,iv M),(8,iv a.length),(9,iv b.length),(10,.osl [0] u 1 0 (2 * M + 3)),(11,iv d)],H⟩ := by
  intro m
  induction m with
  | zero =>
    intro d f H hm hb0 hdd hold hH
    have : d = M + 1 := by omega
    subst this
    refine loopC_once mixed l3_lcs_Distance.eq_1 ?_
    have hk : ¬ (((M + 1 : Nat) : Int)≤M) := by omega
    simp only [Int.natCast_add,Int.cast_ofNat_Int] at hk
    simp [hk]
    exact hq H _ (by omega)
  | succ m ih =>
    intro d f H hm hb0 hdd hold hH
    have e1 : IntKind.i64.wrap ((d : Int) + 1) = ((d + 1 : Nat) : Int) := by rw [i64_same (by omega) (by omega)]; omega
    have e3 : IntKind.i64.wrap (-(d : Int)) = -(d : Int) := i64_same (by omega) (by omega)
    have hd : d≤M := by omega
    refine loopC_once mixed l3_lcs_Distance.eq_1 ?_
    simp [hd,e3]
    refine LoopC.le (le_list [(0,ivs a),(1,ivs b),(2,iv M),(8,iv a.length),(9,iv b.length),(10,.osl [0] u 1 0 (2 * M + 3)),(11,iv d),(12,iv (2 * ((0 : Nat) : Int) - d))] (by simp)) ?_
    refine dist_l2 ha hb hM hd hdd (fun f' H' st g1 g2 g3 g4 => ?_) (fun H' he => ?_) (d + 1) 0 f H (by omega) hb0 hold (fun p s hs => by omega) hH
    · simp [e1]
      refine ih (d + 1) f' H' (by omega) g1 (by omega) (fun p s hs hp => ?_) g4
      exact g2 p s (by omega) (by omega)
    · simp
      have := hq2 H' (by omega)
      rw [← he] at this
      exact this
end
theorem dist_spec {a b : List Int} (ha : a.length≤1000000) (hb : b.length≤1000000) {M0 : Int} (hM0 : i64R M0) : ∃ d : Int,G.Spec Tryz.prog 175 [ivs a,ivs b,iv M0] (.tup [iv d,bv (decide ((distL a b : Int)≤M0))]) := by
  refine ⟨if (distL a b : Int)≤M0 then distL a b else 0,?_⟩
  refine spec_of t_lcs_Distance (by simp) fun w0 I0 => ?_
  have hdg := dist_diag a b
  have hdl : distL a b≤a.length + b.length := by unfold distL; omega
  have e1 : IntKind.i64.wrap ((a.length : Int) + b.length) = ((a.length + b.length : Nat) : Int) := by rw [i64_same (by omega) (by omega)]; omega
  have e2 : IntKind.i64.wrap ((a.length : Int) - b.length) = (a.length : Int) - b.length := i64_same (by omega) (by omega)
  have e3 : IntKind.i64.wrap ((b.length : Int) - a.length) = (b.length : Int) - a.length := i64_same (by omega) (by omega)
  obtain ⟨M1,hM1⟩ : ∃ M1 : Int,min (max M0 (-1)) ((a.length : Int) + b.length) = M1 := ⟨_,rfl⟩
  have hle : ((distL a b : Int)≤M0) ↔ ((distL a b : Int)≤M1) := by omega
  have hMb : M1≤(a.length : Int) + b.length := by omega
  unfold c_lcs_Distance
  simp [e1,e2,e3,hM1]
  refine ⟨fun h => ?_,fun h1 h2 h3 => ?_⟩
  · have hno : ¬ (distL a b : Int)≤M0 := by omega
    simp [hno]
    exact frz_bare rfl
  · obtain ⟨M,rfl⟩ : ∃ M : Nat,M1 = M := ⟨M1.toNat,by omega⟩
    have e4 : IntKind.i64.wrap (2 * (M : Int)) = 2 * (M : Int) := i64_same (by omega) (by omega)
    have e5 : IntKind.i64.wrap (2 * (M : Int) + 3) = ((2 * M + 3 : Nat) : Int) := by rw [i64_same (by omega) (by omega)]; omega
    have e6 : (2 * (M : Int) + 3).toNat = 2 * M + 3 := by omega
    rw [e4,e5]
    refine ⟨by omega,?_⟩
    refine LoopC.le (le_list [(0,ivs a),(1,ivs b),(2,iv M),(8,iv a.length),(9,iv b.length),(10,.osl [0] 1 1 0 (2 * M + 3)),(11,iv (0 : Nat))] (by simp [e6])) ?_
    refine dist_l3 ha hb (by omega) (fun H st h => ?_) (fun H h => ?_) (M + 1) 0 (fun _ => 0) _ (by omega) (fun q => by omega) (by omega) (fun p s hs => by omega) (by simp [fnL_zero,e6])
    · have hno : ¬ (distL a b : Int)≤M0 := by omega
      simp [hno]
      exact frz_bare rfl
    · have hyes : (distL a b : Int)≤M0 := by omega
      simp [hyes]
      exact frz_bare rfl
def spC (s : Sp) : List A := [iv s.k,iv s.n]
def spA (s : Sp) : A := .agg (spC s)
@[simp] theorem spA_cells {s : Sp} : (spA s).cells = spC s := rfl
@[simp] theorem spC_len {s : Sp} : (spC s).length = 2 := rfl
theorem lens_sp {l : List Sp} : lens 2 (l.map spA) = true := by rw [lens_all]; simp
def fdF (l : List Sp) (v : Nat) : Fam := ⟨fun r p => if p = [] then ⟨1,.cells [.osl (r :: [0]) v 2 0 l.length]⟩ else if p = [0] then ⟨v,.arr 2 (l.map spA)⟩ else ⟨0,.none⟩,fun {g δ r r'} hg hd p => by
    by_cases h1 : p = []
    · rw [if_pos h1,if_pos h1]
      refine Fam.cells_ren ?_
      simp [A.renL,A.ren,hg,hd]
    · rw [if_neg h1,if_neg h1]
      by_cases h2 : p = [0]
      · rw [if_pos h2]
        refine Fam.arr_ren ?_
        have e : ∀ x : Sp,(spA x).ren g δ = spA x := fun x => by simp [spA,spC,A.ren,A.renL]
        simp only [renL_map,List.map_map]
        refine List.map_congr_left fun x _ => ?_
        exact e x
      · rw [if_neg h2]; rfl,fun {D r} hD p => by
    by_cases h1 : p = []
    · rw [if_pos h1]
      simp [Ob.refs,A.refsL,A.refs,hD]
    · rw [if_neg h1]
      by_cases h2 : p = [0]
      · rw [if_pos h2]
        simp only [Ob.refs,refsL_iff]
        intro y hy
        obtain ⟨x,_,rfl⟩ := List.mem_map.1 hy
        simp [A.refs,A.refsL,spA,spC]
      · rw [if_neg h2]; trivial⟩
@[simp] theorem fdF_F {l : List Sp} {v r : Nat} {p : Nm} : (fdF l v).F r p = if p = [] then ⟨1,.cells [.osl (r :: [0]) v 2 0 l.length]⟩ else if p = [0] then ⟨v,.arr 2 (l.map spA)⟩ else ⟨0,.none⟩ := rfl
abbrev fdP (r : Nat) : A := .pob [r] 1 0
theorem add_spec (l : List Sp) (v : Nat) (hl : l.length≤100000000) (k n : Nat) : SpecF Tryz.prog 220 (fun r => [fdP r,iv k,iv n]) (fdF l v) (fun _ => .tup []) (fdF (l ++ fl k n) (v + (fl k n).length)) := by
  refine specF_of t_lcs_finder_add (by simp) (famL_cons famA_pob (famL_cons famA_v (famL_cons famA_v famL_nil))) (famA_tup famL_nil) fun w0 I0 M0 m0 => ?_
  unfold c_lcs_finder_add
  by_cases h : 0 < n
  · rw [fl_pos h]
    simp [h,lens_sp,updF_app]
    refine ⟨by omega,?_⟩
    refine reth_famN rfl rfl (fun p => ?_)
    by_cases h1 : p = [] <;> by_cases h2 : p = [0] <;> simp [h1,h2,updF_app,spA,spC]
    rw [List.take_of_length_le (by simp)]
  · have h0 : n = 0 := by omega
    subst h0
    simp
    refine reth_famN rfl rfl (fun p => by simp)
def oneS (x : Int) (b : List Int) : List Sp := if fstI x b < b.length then fl 2 (fstI x b) ++ (fl 0 1 ++ fl 2 (b.length - fstI x b - 1)) else fl 1 1 ++ fl 2 b.length
theorem oneS_units (x : Int) (b : List Int) : unitsS (oneS x b) = wayU [x] b := by
  rw [wayU_one]
  unfold oneS
  split <;> simp
theorem fl_len (k n : Nat) : (fl k n).length≤1 := by unfold fl; split <;> simp
theorem oneS_len (x : Int) (b : List Int) : (oneS x b).length≤3 := by
  unfold oneS
  have := fl_len 2 (fstI x b)
  have := fl_len 0 1
  have := fl_len 1 1
  have := fl_len 2 (b.length - fstI x b - 1)
  have := fl_len 2 b.length
  split <;> simp <;> omega
theorem oneS_ok {x : Int} {b : List Int} (hb : b.length≤1000000) : ∀ s,s ∈ oneS x b→s.ok := by
  intro s hs
  have := fstI_le x b
  unfold oneS at hs
  split at hs <;> simp only [List.mem_append] at hs
  · rcases hs with hs | hs | hs
    · exact fl_ok (by omega) (by omega) s hs
    · exact fl_ok (by omega) (by omega) s hs
    · exact fl_ok (by omega) (by omega) s hs
  · rcases hs with hs | hs
    · exact fl_ok (by omega) (by omega) s hs
    · exact fl_ok (by omega) (by omega) s hs
theorem fst_drop {x : Int} : ∀ {b : List Int} {j : Nat},j≤fstI x b→(h : j < b.length)→(b[j] = x ↔ fstI x b = j)
  | [],j,_,h => by simp at h
  | y :: b,0,_,h => by
    unfold fstI
    by_cases e : x = y
    · simp [e]
    · simp [e]; exact fun h => e h.symm
  | y :: b,j + 1,hj,h => by
    unfold fstI at hj ⊢
    by_cases e : x = y
    · rw [if_pos e] at hj; omega
    · rw [if_neg e] at hj ⊢
      have := fst_drop (x := x) (b := b) (j := j) (by omega) (by simpa using h)
      simp only [List.getElem_cons_succ]
      omega
section
variable {n0 : Nat} {w0 : World} {I0 : Nat→Prop} {M0 : Nm→Nat→Prop} {m0 : Mu} {Q : Exit→Sta→Prop}
theorem one_l1 {l : List Sp} {v : Nat} {x : Int} {b : List Int} {H : Hp} (hl : l.length≤10000000) (hb : b.length≤1000000) (hH : ∀ p,H (0 :: p) = (fdF l v).F 0 p)
    (hq : fstI x b = b.length→∀ st,Q (.exit 0) ⟨lk ([(0,fdP 0),(1,iv x),(2,ivs b)] ++ st),H⟩)
    (hq2 : ∀ H',fstI x b < b.length→(∀ p,H' (0 :: p) = (fdF (l ++ oneS x b) (v + (oneS x b).length)).F 0 p)→∀ st,Q .ret ⟨lk st,H'⟩) : ∀ (m j : Nat),j + m = b.length→j≤fstI x b →
    LoopC (cxh Tryz.prog w0 I0 M0 n0 m0) l1_lcs_finder_one Q ⟨lk [(0,fdP 0),(1,iv x),(2,ivs b),(8,ivs b),(9,iv b.length),(10,iv j)],H⟩ := by
  have hle := fstI_le x b
  intro m
  induction m with
  | zero =>
    intro j hm hj
    refine loopC_once mixed l1_lcs_finder_one.eq_1 ?_
    have : j = b.length := by omega
    subst this
    simp
    exact hq (by omega) [(8,ivs b),(9,iv b.length),(10,iv b.length),(11,bv false)]
  | succ m ih =>
    intro j hm hj
    have hlt : j < b.length := by omega
    have e1 : IntKind.i64.wrap ((j : Int) + 1) = ((j + 1 : Nat) : Int) := by rw [i64_same (by omega) (by omega)]; omega
    have hd := fst_drop hj hlt
    refine loopC_once mixed l1_lcs_finder_one.eq_1 ?_
    by_cases h : x = b[j]
    · have hf := hd.1 h.symm
      have e2 : IntKind.i64.wrap (IntKind.i64.wrap ((b.length : Int) - j) - 1) = ((b.length - j - 1 : Nat) : Int) := by rw [i64_same (n := (b.length : Int) - j) (by omega) (by omega),i64_same (by omega) (by omega)]; omega
      have A1 := add_spec l v (by omega) 2 j
      have l1 := fl_len 2 j
      have l2 := fl_len 0 1
      have A2 := add_spec (l ++ fl 2 j) (v + (fl 2 j).length) (by simp; omega) 0 1
      have A3 := add_spec (l ++ fl 2 j ++ fl 0 1) (v + (fl 2 j).length + (fl 0 1).length) (by simp; omega) 2 (b.length - j - 1)
      simp [hlt,h]
      refine sc_fam 0 A1 hH (by simp) (by simp) ?_
      simp
      refine sc_fam 0 A2 (fun p => by simp) (by simp) (by simp) ?_
      simp [e2]
      refine sc_fam 0 A3 (fun p => by simp) (by simp) (by simp) ?_
      simp
      refine hq2 _ (by omega) (fun p => ?_) _
      have eo : oneS x b = fl 2 j ++ (fl 0 1 ++ fl 2 (b.length - j - 1)) := by unfold oneS; rw [if_pos (by omega),hf]
      rw [eo]
      simp [Nat.add_assoc]
    · have hne : ¬ fstI x b = j := fun e => h (hd.2 e).symm
      simp [hlt,h,e1]
      exact ih (j + 1) (by omega) (by omega)
end
theorem one_spec (l : List Sp) (v : Nat) (hl : l.length≤10000000) (x : Int) (b : List Int) (hb : b.length≤1000000) : SpecF Tryz.prog 221 (fun r => [fdP r,iv x,ivs b]) (fdF l v) (fun _ => .tup []) (fdF (l ++ oneS x b) (v + (oneS x b).length)) := by
  refine specF_of t_lcs_finder_one (by simp) (famL_cons famA_pob (famL_cons famA_v (famL_cons famA_sl famL_nil))) (famA_tup famL_nil) fun w0 I0 M0 m0 => ?_
  unfold c_lcs_finder_one
  simp
  refine LoopC.le (le_list [(0,fdP 0),(1,iv x),(2,ivs b),(8,ivs b),(9,iv b.length),(10,iv (0 : Nat))] (by simp)) ?_
  refine one_l1 (l := l) (v := v) hl hb (fun p => by simp) (fun hn st => ?_) (fun H' hf hH st => ?_) b.length 0 (by omega) (by omega)
  · have A1 := add_spec l v (by omega) 1 1
    have l1 := fl_len 1 1
    have A2 := add_spec (l ++ fl 1 1) (v + (fl 1 1).length) (by simp; omega) 2 b.length
    simp
    refine sc_fam 0 A1 (fun p => by simp) (by simp) (by simp) ?_
    simp
    refine sc_fam 0 A2 (fun p => by simp) (by simp) (by simp) ?_
    simp
    have eo : oneS x b = fl 1 1 ++ fl 2 b.length := by unfold oneS; rw [if_neg (by omega)]
    rw [eo]
    refine reth_famN rfl rfl (fun p => by simp [Nat.add_assoc])
  · simp
    exact reth_fam rfl rfl hH
theorem sp_append {P : Sp→Prop} {l m : List Sp} (h1 : ∀ s,s ∈ l→P s) (h2 : ∀ s,s ∈ m→P s) : ∀ s,s ∈ l ++ m→P s := fun s hs => (List.mem_append.1 hs).elim (h1 s) (h2 s)
theorem find_all : ∀ (n : Nat) (a b : List Int),a.length≤n→a.length≤1000000→b.length≤1000000→∃ sts : List Sp,unitsS sts = wayU a b∧(∀ s,s ∈ sts→s.ok)∧sts.length≤max 1 (3 * a.length) ∧
    ∀ (l : List Sp) (v : Nat),l.length + 3 * a.length≤9000000→SpecF Tryz.prog 176 (fun r => [fdP r,ivs a,ivs b]) (fdF l v) (fun _ => .tup []) (fdF (l ++ sts) (v + sts.length)) := by
  intro n
  induction n with
  | zero =>
    intro a b hn ha hb
    have := List.eq_nil_of_length_eq_zero (by omega : a.length = 0)
    subst this
    refine ⟨fl 2 b.length,by rw [wayU_nil]; simp,fl_ok (by omega) (by omega),by have := fl_len 2 b.length; simp; omega,fun l v hl => ?_⟩
    have A1 := add_spec l v (by simp at hl; omega) 1 0
    have A2 := add_spec (l ++ fl 1 0) (v + (fl 1 0).length) (by simp at hl; simp; omega) 2 b.length
    refine specF_of t_lcs_finder_find (by simp) (famL_cons famA_pob (famL_cons famA_sl (famL_cons famA_sl famL_nil))) (famA_tup famL_nil) fun w0 I0 M0 m0 => ?_
    unfold c_lcs_finder_find
    simp
    refine sc_fam 0 A1 (fun p => by simp) (by simp) (by simp) ?_
    simp
    refine sc_fam 0 A2 (fun p => by simp) (by simp) (by simp) ?_
    simp
    refine reth_famN rfl rfl (fun p => by simp)
  | succ n ih =>
    intro a b hn ha hb
    by_cases hb0 : b = []
    · subst hb0
      refine ⟨fl 1 a.length,by rw [wayU_nil']; simp,fl_ok (by omega) (by omega),by have := fl_len 1 a.length; omega,fun l v hl => ?_⟩
      have := fl_len 1 a.length
      have A1 := add_spec l v (by omega) 1 a.length
      have A2 := add_spec (l ++ fl 1 a.length) (v + (fl 1 a.length).length) (by simp; omega) 2 0
      refine specF_of t_lcs_finder_find (by simp) (famL_cons famA_pob (famL_cons famA_sl (famL_cons famA_sl famL_nil))) (famA_tup famL_nil) fun w0 I0 M0 m0 => ?_
      unfold c_lcs_finder_find
      simp
      refine sc_fam 0 A1 (fun p => by simp) (by simp) (by simp) ?_
      simp
      refine sc_fam 0 A2 (fun p => by simp) (by simp) (by simp) ?_
      simp
      refine reth_famN rfl rfl (fun p => by simp)
    have hbl : 0 < b.length := List.length_pos_iff.2 hb0
    match a,hn,ha with
    | [],hn,ha =>
      obtain ⟨sts,h⟩ := ih [] b (by simp) ha hb
      exact ⟨sts,h⟩
    | [x],hn,ha =>
      refine ⟨oneS x b,oneS_units x b,oneS_ok hb,by have := oneS_len x b; simp; omega,fun l v hl => ?_⟩
      have A1 := one_spec l v (by simp at hl; omega) x b hb
      refine specF_of t_lcs_finder_find (by simp) (famL_cons famA_pob (famL_cons famA_sl (famL_cons famA_sl famL_nil))) (famA_tup famL_nil) fun w0 I0 M0 m0 => ?_
      unfold c_lcs_finder_find
      simp [hb0]
      refine sc_fam 0 A1 (fun p => by simp) (by simp) (by simp) ?_
      simp
      refine reth_famN rfl rfl (fun p => by simp)
    | x :: y :: a',hn,ha =>
      have e0 : ∃ a : List Int,a = x :: y :: a' := ⟨_,rfl⟩
      obtain ⟨a,ea⟩ := e0
      rw [← ea] at hn ha ⊢
      have hal : 2≤a.length := by rw [ea]; simp
      clear ea
      obtain ⟨h,eh⟩ : ∃ h,a.length / 2 = h := ⟨_,rfl⟩
      have hh : h≤a.length := by omega
      obtain ⟨w1,w2,w3⟩ := way_on (a := a) (b := b) hh
      obtain ⟨s1,u1,o1,n1,F1⟩ := ih (a.take h) (b.take (wayN a b h)) (by simp; omega) (by simp; omega) (by simp; omega)
      obtain ⟨s2,u2,o2,n2,F2⟩ := ih (a.drop h) (b.drop (wayN a b h)) (by simp; omega) (by simp; omega) (by simp; omega)
      simp at n1 n2
      refine ⟨s1 ++ s2,by rw [units_app,u1,u2,← wayU_half a b hh],sp_append o1 o2,by simp; omega,fun l v hl => ?_⟩
      have G1 := F1 l v (by simp; omega)
      have G2 := F2 (l ++ s1) (v + s1.length) (by simp; omega)
      have hS := split_spec (a := a) (b := b) hh ha hb
      refine specF_of t_lcs_finder_find (by simp) (famL_cons famA_pob (famL_cons famA_sl (famL_cons famA_sl famL_nil))) (famA_tup famL_nil) fun w0 I0 M0 m0 => ?_
      have c1 : ¬ a = [] := fun e => by rw [e] at hal; simp at hal
      have c2 : ¬ a.length = 1 := by omega
      have c3 : ¬ (a.length : Int) = 1 := by omega
      have c4 : ((a.length : Int)).tdiv 2 = (h : Int) := by rw [Int.tdiv_eq_ediv_of_nonneg (by omega)]; omega
      have c5 : IntKind.i64.wrap (h : Int) = (h : Int) := i64_same (by omega) (by omega)
      unfold c_lcs_finder_find
      simp [hb0,c1,c2,c3,c4,c5]
      refine sc_call hS (by simp) ?_
      simp [hh,w2]
      refine sc_fam 0 G1 (fun p => by simp) (by simp) (by simp) ?_
      simp [hh,w2]
      refine sc_fam 0 G2 (fun p => by simp) (by simp [List.take_of_length_le]) (by simp) ?_
      simp
      refine reth_famN rfl rfl (fun p => by simp [Nat.add_assoc])
def gpC (g : Nat→Nat) : List A := [iv (g 0),iv (g 1),iv (g 2)]
def gpF (l : List Sp) (v : Nat) (g : Nat→Nat) : Fam := ⟨fun r p => if p = [] then ⟨1,.cells [.osl (r :: [0]) v 2 0 l.length]⟩ else if p = [0] then ⟨v,.arr 2 (l.map spA)⟩ else if p = [1] then ⟨1,.cells (gpC g)⟩ else ⟨0,.none⟩,fun {γ δ r r'} hg hd p => by
    by_cases h1 : p = []
    · rw [if_pos h1,if_pos h1]
      refine Fam.cells_ren ?_
      simp [A.renL,A.ren,hg,hd]
    · rw [if_neg h1,if_neg h1]
      by_cases h2 : p = [0]
      · rw [if_pos h2]
        refine Fam.arr_ren ?_
        have e : ∀ x : Sp,(spA x).ren γ δ = spA x := fun x => by simp [spA,spC,A.ren,A.renL]
        simp only [renL_map,List.map_map]
        refine List.map_congr_left fun x _ => ?_
        exact e x
      · rw [if_neg h2]
        by_cases h3 : p = [1]
        · rw [if_pos h3]
          refine Fam.cells_ren ?_
          simp [A.renL,A.ren,gpC]
        · rw [if_neg h3]; rfl,fun {D r} hD p => by
    by_cases h1 : p = []
    · rw [if_pos h1]
      simp [Ob.refs,A.refsL,A.refs,hD]
    · rw [if_neg h1]
      by_cases h2 : p = [0]
      · rw [if_pos h2]
        simp only [Ob.refs,refsL_iff]
        intro y hy
        obtain ⟨x,_,rfl⟩ := List.mem_map.1 hy
        simp [A.refs,A.refsL,spA,spC]
      · rw [if_neg h2]
        by_cases h3 : p = [1]
        · rw [if_pos h3]
          simp [Ob.refs,A.refsL,A.refs,gpC]
        · rw [if_neg h3]; trivial⟩
@[simp] theorem gpF_F {l : List Sp} {v r : Nat} {g : Nat→Nat} {p : Nm} : (gpF l v g).F r p = if p = [] then ⟨1,.cells [.osl (r :: [0]) v 2 0 l.length]⟩ else if p = [0] then ⟨v,.arr 2 (l.map spA)⟩ else if p = [1] then ⟨1,.cells (gpC g)⟩ else ⟨0,.none⟩ := rfl
def flL : List Nat→(Nat→Nat)→List Sp
  | [],_ => []
  | k :: ks,g => fl k (g k) ++ flL ks (fun q => if q = k then 0 else g q)
def flG : List Nat→(Nat→Nat)→Nat→Nat
  | [],g => g
  | k :: ks,g => flG ks (fun q => if q = k then 0 else g q)
abbrev nvs (ks : List Nat) : A := .sl true (ks.map fun k : Nat => iv (k : Int))
theorem stepR_spec (s : Sp) : G.Spec Tryz.prog 178 [spA s] (bv (decide (s.k≤2∧1≤s.n∧s.n≤1048576))) := by
  refine spec_of t_script_Step_right (by simp) fun w0 I0 => ?_
  unfold c_script_Step_right
  have m0 : (0 : Int)≤(s.k : Int) := by omega
  by_cases h1 : s.k≤2
  · by_cases h2 : 1≤s.n
    · by_cases h3 : s.n≤1048576
      · simp [spA,spC,m0,h1,h2,h3,show (s.k : Int)≤2 by omega,show (1 : Int)≤s.n by omega,show (s.n : Int)≤1048576 by omega]
        exact frz_bare rfl
      · simp [spA,spC,m0,h1,h2,h3,show (s.k : Int)≤2 by omega,show (1 : Int)≤s.n by omega,show ¬ (s.n : Int)≤1048576 by omega]
        exact frz_bare rfl
    · simp [spA,spC,m0,h1,h2,show (s.k : Int)≤2 by omega,show ¬ (1 : Int)≤s.n by omega]
      exact frz_bool (by simp)
  · simp [spA,spC,m0,h1,show ¬ (s.k : Int)≤2 by omega]
    exact frz_bare rfl
section
variable {n0 : Nat} {w0 : World} {I0 : Nat→Prop} {M0 : Nm→Nat→Prop} {m0 : Mu} {Q : Exit→Sta→Prop}
theorem flush_l1 {ks : List Nat} (hks : ∀ k,k ∈ ks→k≤2) (hkl : ks.length≤1000) {l0 : List Sp} {v0 : Nat} {g0 : Nat→Nat} (hq : ∀ H' st,(∀ p,H' (0 :: p) = (gpF (l0 ++ flL ks g0) (v0 + (flL ks g0).length) (flG ks g0)).F 0 p)→Q (.exit 0) ⟨lk st,H'⟩) : ∀ (m j : Nat) (l : List Sp) (v : Nat) (g : Nat→Nat) (H : Hp),j + m = ks.length→l.length + m≤100000000→(∀ p,H (0 :: p) = (gpF l v g).F 0 p)→l0 ++ flL ks g0 = l ++ flL (ks.drop j) g→v0 + (flL ks g0).length = v + (flL (ks.drop j) g).length→flG ks g0 = flG (ks.drop j) g →
    LoopC (cxh Tryz.prog w0 I0 M0 n0 m0) l1_script_Normal_1 Q ⟨lk [(1,.pob [0,1] 1 0),(2,.pob [0] 1 0),(6,nvs ks),(7,iv ks.length),(8,iv j)],H⟩ := by
  intro m
  induction m with
  | zero =>
    intro j l v g H hm hl hH e1 e2 e3
    refine loopC_once mixed l1_script_Normal_1.eq_1 ?_
    have : j = ks.length := by omega
    subst this
    rw [List.drop_length] at e1 e2 e3
    simp
    refine hq H _ fun p => ?_
    rw [e1,e2,e3,hH]
    simp [flL,flG]
  | succ m ih =>
    intro j l v g H hm hl hH e1 e2 e3
    have hlt : j < ks.length := by omega
    have ew : IntKind.i64.wrap ((j : Int) + 1) = ((j + 1 : Nat) : Int) := by rw [i64_same (by omega) (by omega)]; omega
    have hd : ks.drop j = ks[j] :: ks.drop (j + 1) := (List.getElem_cons_drop hlt).symm
    rw [hd] at e1 e2 e3
    have hk := hks _ (List.getElem_mem hlt)
    generalize hkk : ks[j] = k at *
    simp only [flL,flG] at e1 e2 e3
    have hH0 := hH []
    have hH1 := hH [0]
    have hH2 := hH [1]
    simp at hH0 hH1 hH2
    refine loopC_once mixed l1_script_Normal_1.eq_1 ?_
    have hk3 : k = 0∨k = 1∨k = 2 := by omega
    by_cases h : 0 < g k
    · rw [fl_pos h] at e1 e2
      have next := fun (H' : Hp) hF => ih (j + 1) (l ++ [⟨k,g k⟩]) (v + 1) (fun q => if q = k then 0 else g q) H' (by omega) (by simp; omega) hF (by rw [e1]; simp) (by rw [e2]; simp; omega) e3
      rcases hk3 with rfl | rfl | rfl
      all_goals
        simp [hlt,hkk,hH0,hH1,hH2,gpC,h,ew,updF_app,lens_sp]
        refine ⟨by omega,?_⟩
        refine next _ (fun p => ?_)
        by_cases h1 : p = []
        · subst h1; simp [updF_app]
        · by_cases h2 : p = [0]
          · subst h2; simp [updF_app,spA,spC,List.take_of_length_le]
          · by_cases h3 : p = [1]
            · subst h3; simp [updF_app,gpC]
            · simp [h1,h2,h3,updF_app,hH]
    · have h0 : g k = 0 := by omega
      rw [h0] at e1 e2
      rcases hk3 with rfl | rfl | rfl
      all_goals
        simp [hlt,hkk,hH0,hH1,hH2,gpC,h0,ew,updF_app]
        refine ih (j + 1) l v _ _ (by omega) (by omega) (fun p => ?_) (by rw [e1]; simp) (by rw [e2]; simp) e3
        by_cases h1 : p = []
        · subst h1; simp [updF_app,hH0]
        · by_cases h2 : p = [0]
          · subst h2; simp [updF_app,hH1]
          · by_cases h3 : p = [1]
            · subst h3; simp [updF_app,gpC]
            · simp [h1,h2,h3,updF_app,hH]
end
theorem flush_spec {ks : List Nat} (hks : ∀ k,k ∈ ks→k≤2) (hkl : ks.length≤1000) (l : List Sp) (v : Nat) (g : Nat→Nat) (hl : l.length≤10000000) : SpecF Tryz.prog 177 (fun r => [nvs ks,.pob (r :: [1]) 1 0,.pob [r] 1 0]) (gpF l v g) (fun _ => .tup []) (gpF (l ++ flL ks g) (v + (flL ks g).length) (flG ks g)) := by
  refine specF_of t_script_Normal_1 (by simp) (famL_cons famA_sl (famL_cons famA_pob (famL_cons famA_pob famL_nil))) (famA_tup famL_nil) fun w0 I0 M0 m0 => ?_
  unfold c_script_Normal_1
  simp
  refine LoopC.le (le_list [(1,.pob [0,1] 1 0),(2,.pob [0] 1 0),(6,nvs ks),(7,iv ks.length),(8,iv (0 : Nat))] (by simp)) ?_
  refine flush_l1 hks hkl (l0 := l) (v0 := v) (g0 := g) (fun H' st hH => ?_) ks.length 0 l v g _ (by omega) (by omega) (fun p => by simp) (by simp) (by simp) (by simp)
  simp
  exact reth_famN rfl rfl hH
abbrev fluF : A := .fnc 177 [] [.pob [0,1] 1 0,.pob [0] 1 0]
abbrev sps (l : List Sp) : A := .sl false (l.map spA)
theorem goU_fin (g : Nat→Nat) : goU [] (g 0) (g 1) (g 2) = flL [0,1,2] g := by simp [goU,flL]
theorem fl2_len (ks : List Nat) (g : Nat→Nat) : (flL ks g).length≤ks.length := by
  induction ks generalizing g with
  | nil => simp [flL]
  | cons k ks ih =>
    have := ih (fun q => if q = k then 0 else g q)
    have := fl_len k (g k)
    simp [flL]
    omega
theorem flG_le : ∀ (ks : List Nat) (g : Nat→Nat) (B q : Nat),(∀ q,g q≤B)→flG ks g q≤B
  | [],g,B,q,h => h q
  | k :: ks,g,B,q,h => flG_le ks _ B q fun q => by
    show (if q = k then 0 else g q)≤B
    split
    · omega
    · exact h q
theorem nrmS_l1 {n0 : Nat} {w0 : World} {I0 : Nat→Prop} {Q : Exit→Sta→Prop} {all : List Sp} (hok : ∀ s,s ∈ all→s.may) (hal : all.length≤1000000) {R : List Sp}
    (hq : ∀ (H' : Hp) (out : List Sp) (v : Nat) (g : Nat→Nat) st,(∀ p,H' (0 :: p) = (gpF out v g).F 0 p)→out ++ flL [0,1,2] g = R→out.length≤2000000→Q (.exit 0) ⟨lk ([(3,.pob [0] 1 0),(4,.pob [0,1] 1 0),(5,fluF)] ++ st),H'⟩) : ∀ (m i : Nat) (out : List Sp) (v : Nat) (g : Nat→Nat) (H : Hp),i + m = all.length→out.length≤2 * i→(∀ q,g q≤i * 1048576)→(g 0 = 0∨(g 1 = 0∧g 2 = 0))→(∀ p,H (0 :: p) = (gpF out v g).F 0 p)→out ++ goU (unitsS (all.drop i)) (g 0) (g 1) (g 2) = R →
    LoopC (cx Tryz.prog w0 I0 n0) l1_script_Normal Q ⟨lk [(3,.pob [0] 1 0),(4,.pob [0,1] 1 0),(5,fluF),(9,sps all),(10,iv all.length),(11,iv i)],H⟩ := by
  intro m
  induction m with
  | zero =>
    intro i out v g H hm hl hg h01 hH hR
    refine loopC_once mixed l1_script_Normal.eq_1 ?_
    have : i = all.length := by omega
    subst this
    rw [List.drop_length,units_nil,goU_fin] at hR
    simp
    exact hq H out v g [(9,sps all),(10,iv all.length),(11,iv all.length),(12,bv false)] hH hR (by omega)
  | succ m ih =>
    intro i out v g H hm hl hg h01 hH hR
    have hlt : i < all.length := by omega
    have ew : IntKind.i64.wrap ((i : Int) + 1) = ((i + 1 : Nat) : Int) := by rw [i64_same (by omega) (by omega)]; omega
    have hd : all.drop i = all[i] :: all.drop (i + 1) := (List.getElem_cons_drop hlt).symm
    have hs := hok _ (List.getElem_mem hlt)
    rw [hd,units_cons] at hR
    generalize hss : all[i] = s at *
    have hsr := stepR_spec s
    have hg0 := hg 0
    have hg1 := hg 1
    have hg2 := hg 2
    refine loopC_once mixed l1_script_Normal.eq_1 ?_
    have hspC : spC s = [iv s.k,iv s.n] := rfl
    simp [hlt,hss,hspC]
    refine sc_call hsr (by simp [spA,spC,updF_app]) ?_
    by_cases hn : 1≤s.n
    · have hdec : decide (s.k≤2∧1≤s.n∧s.n≤1048576) = true := by have := hs.1; have := hs.2; simp; omega
      simp [hdec,updF_app]
      have next : ∀ (o2 : List Sp) (v2 : Nat) (g2 : Nat→Nat) (H2 : Hp),o2.length≤out.length + 2→(∀ q,g2 q≤(i + 1) * 1048576)→(g2 0 = 0∨(g2 1 = 0∧g2 2 = 0))→(∀ p,H2 (0 :: p) = (gpF o2 v2 g2).F 0 p)→o2 ++ goU (unitsS (all.drop (i + 1))) (g2 0) (g2 1) (g2 2) = R→LoopC (cx Tryz.prog w0 I0 n0) l1_script_Normal Q ⟨lk [(3,.pob [0] 1 0),(4,.pob [0,1] 1 0),(5,fluF),(9,sps all),(10,iv all.length),(11,iv (i + 1 : Nat))],H2⟩ := fun o2 v2 g2 H2 h1 h2 h3 h4 h5 => ih (i + 1) o2 v2 g2 H2 (by omega) (by omega) h2 h3 h4 h5
      have hk3 : s.k = 0∨s.k = 1∨s.k = 2 := by have := hs.1; omega
      rcases hk3 with hk | hk | hk
      · have F1 := flush_spec (ks := [1,2]) (by simp) (by simp) out v g (by omega)
        have hlen := fl2_len [1,2] g
        rw [hk,goU_keep s.n _ _ _ _ (by omega) (by omega)] at hR
        have ev : IntKind.i64.wrap ((g 0 : Int) + s.n) = ((g 0 + s.n : Nat) : Int) := by have := hs.2; rw [i64_same (by omega) (by omega)]; omega
        simp [hk]
        refine sc_famV 0 rfl F1 (fun p => by simp [updF_app,hH]) (by simp) (by simp) ?_
        simp
        rw [k1_script_Normal.eq_1]
        simp [updF_app,gpC,flG,ew,ev,hk]
        refine next (out ++ flL [1,2] g) (v + (flL [1,2] g).length) (fun q => if q = 0 then g 0 + s.n else flG [1,2] g q) _ (by simp at hlen; simp; omega) (fun q => ?_) ?_ (fun p => ?_) ?_
        · have hb : ∀ (ks : List Nat) (g : Nat→Nat) (B q : Nat),(∀ q,g q≤B)→flG ks g q≤B := flG_le
          show (if q = 0 then g 0 + s.n else flG [1,2] g q)≤_
          have h3 := hs.2
          split
          · omega
          · exact Nat.le_trans (hb _ g _ q hg) (Nat.mul_le_mul_right _ (by omega))
        · simp [flG]
        · by_cases h1 : p = []
          · subst h1; simp [updF_app]
          · by_cases h2 : p = [0]
            · subst h2; simp [updF_app]
            · by_cases h3 : p = [1]
              · subst h3; simp [updF_app,gpC,flG]
              · simp [h1,h2,h3,updF_app]
        · simp only [flG,flL] at hR ⊢
          simpa using hR
      · have F1 := flush_spec (ks := [0]) (by simp) (by simp) out v g (by omega)
        have hlen := fl2_len [0] g
        rw [hk,goU_del s.n _ _ _ _ (by omega)] at hR
        have ev : IntKind.i64.wrap ((g 1 : Int) + s.n) = ((g 1 + s.n : Nat) : Int) := by have := hs.2; rw [i64_same (by omega) (by omega)]; omega
        simp [hk]
        refine sc_famV 0 rfl F1 (fun p => by simp [updF_app,hH]) (by simp) (by simp) ?_
        simp
        rw [k1_script_Normal.eq_1]
        simp [updF_app,gpC,flG,ew,ev,hk]
        refine next (out ++ flL [0] g) (v + (flL [0] g).length) (fun q => if q = 1 then g 1 + s.n else flG [0] g q) _ (by simp at hlen; simp; omega) (fun q => ?_) ?_ (fun p => ?_) ?_
        · have hb : ∀ (ks : List Nat) (g : Nat→Nat) (B q : Nat),(∀ q,g q≤B)→flG ks g q≤B := flG_le
          show (if q = 1 then g 1 + s.n else flG [0] g q)≤_
          have h3 := hs.2
          split
          · omega
          · exact Nat.le_trans (hb _ g _ q hg) (Nat.mul_le_mul_right _ (by omega))
        · simp [flG]
        · by_cases h1 : p = []
          · subst h1; simp [updF_app]
          · by_cases h2 : p = [0]
            · subst h2; simp [updF_app]
            · by_cases h3 : p = [1]
              · subst h3; simp [updF_app,gpC,flG]
              · simp [h1,h2,h3,updF_app]
        · simp only [flG,flL] at hR ⊢
          simpa using hR
      · have F1 := flush_spec (ks := [0]) (by simp) (by simp) out v g (by omega)
        have hlen := fl2_len [0] g
        rw [hk,goU_ins s.n _ _ _ _ (by omega)] at hR
        have ev : IntKind.i64.wrap ((g 2 : Int) + s.n) = ((g 2 + s.n : Nat) : Int) := by have := hs.2; rw [i64_same (by omega) (by omega)]; omega
        simp [hk]
        refine sc_famV 0 rfl F1 (fun p => by simp [updF_app,hH]) (by simp) (by simp) ?_
        simp
        rw [k1_script_Normal.eq_1]
        simp [updF_app,gpC,flG,ew,ev,hk]
        refine next (out ++ flL [0] g) (v + (flL [0] g).length) (fun q => if q = 2 then g 2 + s.n else flG [0] g q) _ (by simp at hlen; simp; omega) (fun q => ?_) ?_ (fun p => ?_) ?_
        · have hb : ∀ (ks : List Nat) (g : Nat→Nat) (B q : Nat),(∀ q,g q≤B)→flG ks g q≤B := flG_le
          show (if q = 2 then g 2 + s.n else flG [0] g q)≤_
          have h3 := hs.2
          split
          · omega
          · exact Nat.le_trans (hb _ g _ q hg) (Nat.mul_le_mul_right _ (by omega))
        · simp [flG]
        · by_cases h1 : p = []
          · subst h1; simp [updF_app]
          · by_cases h2 : p = [0]
            · subst h2; simp [updF_app]
            · by_cases h3 : p = [1]
              · subst h3; simp [updF_app,gpC,flG]
              · simp [h1,h2,h3,updF_app]
        · simp only [flG,flL] at hR ⊢
          simpa using hR
    · have hdec : decide (s.k≤2∧1≤s.n∧s.n≤1048576) = false := by simp; omega
      have h0 : s.n = 0 := by omega
      simp [hdec,ew,updF_app,InBlock]
      refine ih (i + 1) out v g _ (by omega) (by omega) (fun q => Nat.le_trans (hg q) (Nat.mul_le_mul_right _ (by omega))) h01 (fun p => ?_) ?_
      · simp [updF_app,hH]
      · rw [h0] at hR; simpa using hR
theorem frzN_sps {H : Hp} {o : Nm} {u n : Nat} {l : List Sp} (h : H o = ⟨u,.arr 2 (l.map spA)⟩) (hn : n = l.length) : FrzN H (.osl o u 2 0 n) (sps l) := by
  subst hn
  have := frzN_osl (H := H) (o := o) (u := u) (off := 0) (len := l.length) (sz := 2) (xs := l.map spA) (by simp [h]) (by simp) (by
    simp only [List.drop_zero,List.all_eq_true]
    intro x hx
    obtain ⟨s,_,rfl⟩ := List.mem_map.1 (List.mem_of_mem_take hx)
    rfl)
  rw [List.drop_zero,List.take_of_length_le (by simp)] at this
  exact this
theorem pNrmB_spec {all : List Sp} (hok : ∀ s,s ∈ all→s.may) (hal : all.length≤1000000) : SpecB Tryz.prog 120 [sps all] (sps (nrmS (unitsS all))) := by
  refine specB_of t_script_Normal (by simp) fun w0 I0 => ?_
  unfold c_script_Normal
  simp
  refine LoopC.le (le_blankC (d := [0]) (u := 1) (cs := [.sl true []]) 0 [0,0] 2 rfl rfl (by simp)) ?_
  refine LoopC.le (le_list [(3,.pob [0] 1 0),(4,.pob [0,1] 1 0),(5,fluF),(9,sps all),(10,iv all.length),(11,iv (0 : Nat))] (by simp)) ?_
  refine nrmS_l1 hok hal (R := nrmS (unitsS all)) (fun H' out v g st hH hR hl => ?_) all.length 0 [] 1 (fun _ => 0) _ (by omega) (by simp) (fun q => by omega) (.inl rfl) (fun p => ?_) (by simp [nrmS])
  · have F1 := flush_spec (ks := [0,1,2]) (by simp) (by simp) out v g (by omega)
    have hlen := fl2_len [0,1,2] g
    simp
    refine sc_famV 0 rfl F1 hH (by simp) (by simp) ?_
    simp
    rw [← hR]
    exact frzN_sps (by simp) (by simp)
  · by_cases h1 : p = []
    · subst h1; simp [updF_app]
    · by_cases h2 : p = [0]
      · subst h2; simp [updF_app]
      · by_cases h3 : p = [1]
        · subst h3; simp [updF_app,gpC]
        · simp [h1,h2,h3,Ne.symm h1,Ne.symm h2,Ne.symm h3,updF_app]
theorem pNrm_spec {all : List Sp} (hok : ∀ s,s ∈ all→s.may) (hal : all.length≤1000000) : G.Spec Tryz.prog 120 [sps all] (sps (nrmS (unitsS all))) := (pNrmB_spec hok hal).spec
theorem ok_may {s : Sp} (h : s.ok) : s.may := ⟨h.1,h.2.2⟩
theorem diffL_spec {a b : List Int} (ha : a.length≤300000) (hb : b.length≤1000000) {M0 : Int} (hM0 : i64R M0) : G.Spec Tryz.prog 119 [ivs a,ivs b,iv M0] (if (distL a b : Int)≤M0 then .tup [sps (nrmS (wayU a b)),bv true] else .tup [.sl false [],bv false]) := by
  obtain ⟨d,hD⟩ := dist_spec (a := a) (b := b) (by omega) hb hM0
  obtain ⟨sts,h1,h2,h3,h4⟩ := find_all a.length a b (Nat.le_refl _) (by omega) hb
  have hN := pNrmB_spec (all := sts) (fun s hs => ok_may (h2 s hs)) (by omega)
  rw [h1] at hN
  refine spec_of t_lcs_Diff (by simp) fun w0 I0 => ?_
  unfold c_lcs_Diff
  simp
  refine sc_call hD (by simp) ?_
  by_cases h : (distL a b : Int)≤M0
  · have hF := h4 [] 1 (by simp; omega)
    simp [h]
    refine stop_le (le_blankC (d := [0]) (u := 1) (cs := [.sl true []]) 0 [0,0] 2 rfl rfl (by simp)) (stop_go ?_)
    simp
    refine sc_fam 0 hF (fun p => ?_) (by simp) (by simp) ?_
    · by_cases h1 : p = []
      · subst h1; simp [updF_app]
      · by_cases h2 : p = [0]
        · subst h2; simp [updF_app]
        · simp [h1,h2,Ne.symm h1,Ne.symm h2,updF_app]
    · simp
      refine sc_callb [sps sts] hN (by simp; exact frz_row (l := sts) (f := spA) (by simp) rfl (fun x => rfl)) (by simp) ?_
      simp
      exact frz_bare rfl
  · simp [h]
    exact frz_tup (by simp; exact ⟨frz_sl,frz_bare rfl⟩)
def bnd (n : Nat) : Nat := n * 1048576
section
variable {n0 : Nat} {w0 : World} {I0 : Nat→Prop} {Q : Exit→Sta→Prop}
end
section
variable {n0 : Nat} {w0 : World} {I0 : Nat→Prop} {Q : Exit→Sta→Prop}
end
theorem one_cells {α : Type} {f : α→A} (h : ∀ x,(f x).cells = [f x]) (l : List α) : (l.map f).flatMap A.cells = l.map f := by
  induction l with
  | nil => rfl
  | cons x l ih => simp [ih,h]
end Go.Proofs.YtbjmaoedheiigaaGreat
namespace Go.PL
open Go
set_option linter.unusedVariables false
set_option linter.unusedSimpArgs false
def idleE (list : Int) (e : E) : Bool := decide (e.kind = 0) || (decide (list = 9) && decide (e.kind = 2) && e.words.isEmpty && e.kids.isEmpty)
def delO (g : List T) : List OP := if g = [] then [] else [.mk 1 0 g E0]
def insO (b : List T) : List OP := if b = [] then [] else [.mk 2 0 b E0]
def flO (out : List OP) (g b : List T) : List OP := out ++ (delO g ++ insO b)
def kpO (out : List OP) (n : Int) : List OP := match out.getLast? with
  | some (.mk 0 m l e) => out.dropLast ++ [.mk 0 (IntKind.i64.wrap (m + n)) l e]
  | _ => out ++ [.mk 0 n [] E0]
def opsW (list : Int) : List OP→List OP→List T→List T→List OP
  | [],out,g,b => flO out g b
  | o :: os,out,g,b =>
    if o.kind = 0 then opsW list os (kpO (flO out g b) o.n) [] []
    else if o.kind = 1 then opsW list os out (g ++ o.l.map norm) b
    else if o.kind = 2 then opsW list os out g (b ++ o.l.map norm)
    else if idleE list o.e = true then opsW list os (kpO (flO out g b) 1) [] []
    else opsW list os (flO out g b ++ [.mk 3 0 [] o.e]) [] []
mutual
def nEd : E→E
  | .mk k o n ws ks l os => if k = 1 then .mk 1 (norm o) (norm n) [] [] 0 [] else if k = 2 then .mk 2 T0 T0 ws (nEdK ks) 0 [] else if k = 3 then .mk 3 T0 T0 [] [] l (opsW l (nEdO os) [] [] []) else E0
def nEdK : List KE→List KE
  | [] => []
  | .mk a e :: l => .mk a (nEd e) :: nEdK l
def nEdO : List OP→List OP
  | [] => []
  | .mk k n t e :: l => .mk k n t (nEd e) :: nEdO l
end
def nKE (x : KE) : KE := .mk x.at_ (nEd x.e)
def nOP (x : OP) : OP := .mk x.kind x.n x.l (nEd x.e)
theorem nEdK_map : ∀ l,nEdK l = l.map nKE
  | [] => by simp [nEdK]
  | .mk a e :: l => by rw [nEdK,nEdK_map l]; rfl
theorem nEdO_map : ∀ l,nEdO l = l.map nOP
  | [] => by simp [nEdO]
  | .mk k n t e :: l => by rw [nEdO,nEdO_map l]; rfl
theorem nEd_mk (k : Int) (o n : T) (ws : List WE) (ks : List KE) (l : Int) (os : List OP) : nEd (.mk k o n ws ks l os) = if k = 1 then .mk 1 (norm o) (norm n) [] [] 0 [] else if k = 2 then .mk 2 T0 T0 ws (ks.map nKE) 0 [] else if k = 3 then .mk 3 T0 T0 [] [] l (opsW l (os.map nOP) [] [] []) else E0 := by
  rw [nEd,nEdK_map,nEdO_map]
end Go.PL
