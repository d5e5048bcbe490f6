/-
  Texts, merged, without what is not reached.
-/
import Derived.Test.YtmeldaflhkiopaaKKc
namespace Go.PL
set_option linter.unusedVariables false
set_option linter.unusedSimpArgs false
open List
def candR (i : Nat) : Nat→List Int→List Sc
  | _,[] => []
  | j,n :: r => if 0 < n∧i < 16∧j < 16 then ⟨i,j,n⟩ :: candR i (j + 1) r else candR i (j + 1) r
def candS : Nat→List (List Int)→List Sc
  | _,[] => []
  | i,r :: rs => candR i 0 r ++ candS (i + 1) rs
theorem candR_len {i : Nat} : ∀ {r : List Int} {j : Nat},(candR i j r).length≤16 - j
  | [],j => by simp [candR]
  | n :: r,j => by
    have := candR_len (i := i) (r := r) (j := j + 1)
    unfold candR
    split
    · simp; omega
    · omega
theorem candR_far {i : Nat} (h : 16≤i) : ∀ {r : List Int} {j : Nat},candR i j r = []
  | [],j => rfl
  | n :: r,j => by
    unfold candR
    rw [if_neg (by omega),candR_far h]
theorem candS_len : ∀ {rs : List (List Int)} {i : Nat},(candS i rs).length≤(16 - i) * 16
  | [],i => by simp [candS]
  | r :: rs,i => by
    have h1 := candS_len (rs := rs) (i := i + 1)
    have h2 := candR_len (i := i) (r := r) (j := 0)
    unfold candS
    rw [List.length_append]
    by_cases h : 16≤i
    · rw [candR_far h]; simp; omega
    · omega
theorem candR_lt {i : Nat} : ∀ {r : List Int} {j : Nat} {x : Sc},x ∈ candR i j r→x.i = i∧i < 16∧x.j < 16∧j≤x.j∧x.j < j + r.length∧r[x.j - j]? = some x.n∧0 < x.n
  | [],j,x,h => by simp [candR] at h
  | n :: r,j,x,h => by
    have ih : x ∈ candR i (j + 1) r→x.i = i∧i < 16∧x.j < 16∧j≤x.j∧x.j < j + (n :: r).length∧(n :: r)[x.j - j]? = some x.n∧0 < x.n := fun h => by
      obtain ⟨h1,h2,h3,h4,h5,h6,h7⟩ := candR_lt h
      refine ⟨h1,h2,h3,by omega,by simp; omega,?_,h7⟩
      rw [show x.j - j = (x.j - (j + 1)) + 1 by omega]
      simpa using h6
    unfold candR at h
    split at h
    · rename_i hc
      rcases List.mem_cons.1 h with rfl | h
      · exact ⟨rfl,hc.2.1,hc.2.2,Nat.le_refl _,by simp,by simp,hc.1⟩
      · exact ih h
    · exact ih h
end Go.PL

namespace Go.Proofs.Ytmeldaflhkiopaa
set_option linter.unusedVariables false
set_option linter.unusedSimpArgs false
open Go Go.G Go.Proofs Go.PL
abbrev ivss (l : List (List Int)) : A := .sl false (l.map ivs)
def HpI (H : Hp) (all : List Sc) : Prop := ∃ (l junk : List Sc) (v : Nat),(∀ p,H (0 :: p) = (hpF l junk v).F 0 p)∧HeapL l l.length∧List.Perm l all∧∀ p,H (2 :: p) = ⟨0,.none⟩
theorem pick_l1 {n0 : Nat} {w0 : World} {I0 : Nat→Prop} {Q : Exit→Sta→Prop} {X : A} {N : Nat} {r : List Int} {i : Nat} (hr : r.length≤1000000) : ∀ (m j : Nat) (all : List Sc) (H : Hp),r.length = j + m→all.length + (candR i j (r.drop j)).length≤256→HpI H all →
    (∀ (H' : Hp) (st : List (Nat × A)),HpI H' (all ++ candR i j (r.drop j))→Q (.exit 2) ⟨lk ([(3,hpP 0),(4,iv i),(12,X),(13,iv N),(14,iv i)] ++ st),H'⟩) →
    LoopC (cx Try.prog w0 I0 n0) l1_pair_Pick Q ⟨lk [(3,hpP 0),(4,iv i),(12,X),(13,iv N),(14,iv i),(19,ivs r),(20,iv r.length),(21,iv j)],H⟩ := by
  intro m
  induction m with
  | zero =>
    intro j all H hm hl hI hq
    refine loopC_once mixed l1_pair_Pick.eq_1 ?_
    have : ¬ (j : Int) < r.length := by omega
    simp [this]
    have hd : r.drop j = [] := List.drop_eq_nil_of_le (by omega)
    rw [hd] at hq
    exact hq H [(19,ivs r),(20,iv r.length),(21,iv j),(22,bv false)] (by simpa [candR] using hI)
  | succ m ih =>
    intro j all H hm hl hI hq
    have hj : j < r.length := by omega
    have hd : r.drop j = r[j] :: r.drop (j + 1) := (List.getElem_cons_drop hj).symm
    have e1 : IntKind.i64.wrap ((j : Int) + 1) = ((j + 1 : Nat) : Int) := by rw [i64_same (by omega) (by omega)]; omega
    rw [hd] at hl hq
    unfold candR at hl hq
    refine loopC_once mixed l1_pair_Pick.eq_1 ?_
    simp [hj,show (j : Int) < r.length by omega]
    have next : ∀ (all' : List Sc) (H' : Hp),all'.length + (candR i (j + 1) (r.drop (j + 1))).length≤256→HpI H' all'→all' ++ candR i (j + 1) (r.drop (j + 1)) = all ++ (if 0 < r[j]∧i < 16∧j < 16 then ⟨i,j,r[j]⟩ :: candR i (j + 1) (r.drop (j + 1)) else candR i (j + 1) (r.drop (j + 1)))→LoopC (cx Try.prog w0 I0 n0) l1_pair_Pick Q ⟨lk [(3,hpP 0),(4,iv i),(12,X),(13,iv N),(14,iv i),(19,ivs r),(20,iv r.length),(21,iv (j + 1 : Nat))],H'⟩ := fun all' H' hl' hI' he => ih (j + 1) all' H' (by omega) hl' hI' (by rw [he]; exact hq)
    by_cases h1 : 0 < r[j]
    · by_cases h2 : i < 16
      · by_cases h3 : j < 16
        · rw [if_pos ⟨h1,h2,h3⟩] at hl
          obtain ⟨l,junk,v,q1,q2,q3,q4⟩ := hI
          have hll := q3.length_eq
          simp at hl
          have hP := hpPush_spec l junk v (by omega) ⟨i,j,r[j]⟩
          obtain ⟨g1,g2⟩ := push_ok q2 ⟨i,j,r[j]⟩
          simp [h1,show (i : Int) < 16 by omega,show (j : Int) < 16 by omega]
          refine ⟨?_,fun h => by omega⟩
          refine sc_fam 0 hP q1 (by simp [scA,scC]) (by simp) ?_
          simp [e1]
          refine next (all ++ [⟨i,j,r[j]⟩]) _ (by simp; omega) ⟨upL (l.length + 1) (l ++ [⟨i,j,r[j]⟩]) l.length,[],v + 1,fun p => by simp,?_,?_,fun p => by simp [q4]⟩ (by rw [if_pos ⟨h1,h2,h3⟩]; simp)
          · rw [upL_len]; simpa using g1
          · exact g2.trans ((q3.cons _).trans (List.perm_append_singleton _ _).symm)
        · have : ¬ (j : Int) < 16 := by omega
          simp [h1,show (i : Int) < 16 by omega,this,e1]
          intro _
          refine next all H (by rw [if_neg (by omega)] at hl; exact hl) hI (by rw [if_neg (by omega)])
      · have : ¬ (i : Int) < 16 := by omega
        simp [h1,this,e1]
        refine next all H (by rw [if_neg (by omega)] at hl; exact hl) hI (by rw [if_neg (by omega)])
    · simp [h1,e1]
      refine next all H (by rw [if_neg (by omega)] at hl; exact hl) hI (by rw [if_neg (by omega)])
theorem pick_l2 {n0 : Nat} {w0 : World} {I0 : Nat→Prop} {Q : Exit→Sta→Prop} {rs : List (List Int)} (hrs : rs.length≤1000000) (hr : ∀ r,r ∈ rs→r.length≤1000000) : ∀ (m i : Nat) (all : List Sc) (H : Hp),rs.length = i + m→all.length + (candS i (rs.drop i)).length≤256→HpI H all →
    (∀ (H' : Hp) (st : List (Nat × A)),HpI H' (all ++ candS i (rs.drop i))→Q (.exit 0) ⟨lk ([(3,hpP 0)] ++ st),H'⟩) →
    LoopC (cx Try.prog w0 I0 n0) l2_pair_Pick Q ⟨lk [(3,hpP 0),(12,ivss rs),(13,iv rs.length),(14,iv i)],H⟩ := by
  intro m
  induction m with
  | zero =>
    intro i all H hm hl hI hq
    refine loopC_once mixed l2_pair_Pick.eq_1 ?_
    have : ¬ (i : Int) < rs.length := by omega
    simp [this]
    have hd : rs.drop i = [] := List.drop_eq_nil_of_le (by omega)
    rw [hd] at hq
    exact hq H [(12,ivss rs),(13,iv rs.length),(14,iv i),(15,bv false)] (by simpa [candS] using hI)
  | succ m ih =>
    intro i all H hm hl hI hq
    have hj : i < rs.length := by omega
    have hd : rs.drop i = rs[i] :: rs.drop (i + 1) := (List.getElem_cons_drop hj).symm
    have e1 : IntKind.i64.wrap ((i : Int) + 1) = ((i + 1 : Nat) : Int) := by rw [i64_same (by omega) (by omega)]; omega
    have hri := hr rs[i] (List.getElem_mem hj)
    rw [hd] at hl hq
    unfold candS at hl hq
    rw [List.length_append] at hl
    refine loopC_once mixed l2_pair_Pick.eq_1 ?_
    simp [hj,show (i : Int) < rs.length by omega]
    refine LoopC.le (le_list [(3,hpP 0),(4,iv i),(12,ivss rs),(13,iv rs.length),(14,iv i),(19,ivs rs[i]),(20,iv rs[i].length),(21,iv (0 : Nat))] (by simp)) ?_
    refine pick_l1 hri rs[i].length 0 all H (by omega) (by simp; omega) hI fun H' st hI' => ?_
    simp [e1]
    refine ih (i + 1) _ H' (by omega) ?_ (by simpa using hI') fun H2 st2 hI2 => ?_
    · simp; omega
    · refine hq H2 st2 (by simpa using hI2)
end Go.Proofs.Ytmeldaflhkiopaa

namespace Go.Proofs.Ytmeldaflhkiopaa
set_option linter.unusedVariables false
set_option linter.unusedSimpArgs false
open Go Go.G Go.Proofs Go.PL
theorem heap_any : ∀ all : List Sc,∃ l,HeapL l l.length∧List.Perm l all
  | [] => ⟨[],fun k _ h => by simp at h,List.Perm.refl _⟩
  | x :: all => by
    obtain ⟨l,h1,h2⟩ := heap_any all
    obtain ⟨g1,g2⟩ := push_ok h1 x
    exact ⟨_,by rw [upL_len]; simpa using g1,g2.trans (h2.cons x)⟩
theorem picks_any {all : List Sc} (h : all.length≤300) : ∃ o',Picks all [] o' := by
  obtain ⟨l,h1,h2⟩ := heap_any all
  have := h2.length_eq
  obtain ⟨o',h3,_⟩ := pick_l3 (all := all) l.length l [] [] 0 rfl (by omega) (by simp; omega) h1 (fun y hy => .inl (h2.symm.subset hy)) (fun y hy => h2.subset hy)
  exact ⟨o',h3⟩
theorem picks_facts {rs : List (List Int)} {o' : List Sc} (h : Picks (candS 0 rs) [] o') : Apart19 o'∧(∀ x,x ∈ o'→x ∈ candS 0 rs) := picks_apart h (by simp [Apart19]) (by simp)
theorem pick_spec (rs : List (List Int)) (hrs : rs.length≤1000000) (hr : ∀ r,r ∈ rs→r.length≤1000000) {o' : List Sc} (ho : Picks (candS 0 rs) [] o') (hl16 : o'.length≤16) : G.Spec Try.prog 9 [ivss rs] (.sl false ((srtI o').map prA)) := by
  obtain ⟨hap,_⟩ := picks_facts ho
  have hcl := candS_len (rs := rs) (i := 0)
  refine spec_of t_pair_Pick (by simp) fun w0 I0 => ?_
  unfold c_pair_Pick
  simp
  refine LoopC.le (le_blankC (d := [0]) (u := 1) (cs := [.sl true []]) 0 [0,0] 3 rfl rfl (by simp)) ?_
  simp
  refine LoopC.le (le_list [(3,hpP 0),(12,ivss rs),(13,iv rs.length),(14,iv (0 : Nat))] (by simp)) ?_
  refine pick_l2 hrs hr rs.length 0 [] _ (by omega) (by simpa using hcl) ⟨[],[],1,fun p => ?_,fun k _ h => by simp at h,List.Perm.refl _,fun p => by simp⟩ fun H' st hI => ?_
  · by_cases h1 : p = []
    · subst h1; simp
    · by_cases h2 : p = [0]
      · subst h2; simp
      · simp [h1,h2,Ne.symm h1,Ne.symm h2]
  · obtain ⟨l,junk,v,q1,q2,q3,q4⟩ := hI
    simp only [List.nil_append,List.drop_zero] at q3
    have hll := q3.length_eq
    simp
    refine LoopC.le (le_blank 8 [2] 2 (by simp)) ?_
    obtain ⟨o2,p1,p2⟩ := pick_l3 (all := candS 0 rs) l.length l junk [] v rfl (by omega) (by simp; omega) q2 (fun y hy => .inl (q3.symm.subset hy)) (fun y hy => q3.subset hy)
    have := picks_one p1 ho
    subst this
    refine LoopC.le (le_list [(3,hpP 0),(8,rpS [] ((H' [2]).u + 1) 2)] (by simp)) ?_
    refine p2 _ _ (fun p => by simp [updF_app,q1]) (fun p => ?_) fun H2 u2 st2 hG => ?_
    · by_cases h1 : p = [] <;> simp [h1,updF_app,q4]
    · have hS := sortF_spec hap hl16 u2
      simp
      refine sc_fam 2 hS hG (by simp) (by simp) ?_
      simp
      have hsl : (srtI o2).length = o2.length := (srt_ok hap).2.length_eq
      have := frz_rowT (H := ov 2 ((rpF (srtI o2) u2).F 2) H2) (o := [2]) (u := u2) (sz := 2) (l := srtI o2) (f := prA) (n := o2.length) (by simp) (by omega) (by intro x; rfl)
      rw [List.take_of_length_le (by omega)] at this
      exact this
end Go.Proofs.Ytmeldaflhkiopaa

namespace Go.Proofs.Ytmeldaflhkiopaa
set_option linter.unusedVariables false
set_option linter.unusedSimpArgs false
set_option maxRecDepth 20000
open Go Go.G Go.Proofs
@[simp] theorem und_125 : Try.prog.underlying 125 = some (.slice 130) := by kernel_rfl
@[simp] theorem und_145 : Try.prog.underlying 145 = some (.array 3 3) := by kernel_rfl
@[simp] theorem szT_125 : szT Try.prog 125 = some 1 := by kernel_rfl
@[simp] theorem szT_130 : szT Try.prog 130 = some 2 := by kernel_rfl
@[simp] theorem aggT_125 : aggT Try.prog 125 = some false := by kernel_rfl
@[simp] theorem aggT_130 : aggT Try.prog 130 = some true := by kernel_rfl
@[simp] theorem zeroT_125 : zeroT Try.prog 125 = some (Value.slice none 0 0) := by kernel_rfl
@[simp] theorem zeroT_130 : zeroT Try.prog 130 = some (Value.agg #[Value.int IntKind.i64 0,Value.int IntKind.i64 0]) := by kernel_rfl
@[simp] theorem zeroT_145 : zeroT Try.prog 145 = some (Value.agg #[Value.int IntKind.i64 0,Value.int IntKind.i64 0,Value.int IntKind.i64 0]) := by kernel_rfl
@[simp] theorem bytesT_130 : bytesT Try.prog 130 = some 16 := by kernel_rfl
@[simp] theorem fieldOffT_130_0 : fieldOffT Try.prog 130 0 = some 0 := by kernel_rfl
@[simp] theorem fieldOffT_130_1 : fieldOffT Try.prog 130 1 = some 1 := by kernel_rfl
@[simp] theorem fieldOffT_143_0 : fieldOffT Try.prog 143 0 = some 0 := by kernel_rfl
@[simp] theorem buildA_130 (ps : List (Nat × A)) : buildA Try.prog 130 ps = (fillA (fun i => ([(0,1),(1,1)] : List (Nat × Nat))[i]?) [A.v (Value.int IntKind.i64 0),A.v (Value.int IntKind.i64 0)] ps).map A.agg := by kernel_rfl
@[simp] theorem buildA_143 (ps : List (Nat × A)) : buildA Try.prog 143 ps = (fillA (fun i => ([(0,1)] : List (Nat × Nat))[i]?) [A.sl true []] ps).map A.agg := by kernel_rfl
def c_lcs_reach : CC := sR [oO 8 (.assign (nI 0))] [0,1,2,3] (.seq (.block 0 (sR [mO 10 2,mO 11 10,oG 12 (mV 3) 11 true,oO 13 (.pick (xT 11) (xT 12) (nB false)),aO 9 13] [0,1,2,3,9] (cD 9 (sR [oO 8 (.assign (nI 0))] [8] (.ret)) (sR [mO 15 2,mO 16 15,oG 17 (mV 3) 16 false,oG 18 (.unOp .not 4 (xT 17)) 16 false,oG 19 (mV 18) 16 false,oG 20 (mV 0) 19 true,oG 21 (mV 1) 19 true,oG 22 (.binOp .sub 3 (xT 21) (nI 1) 3) 19 true,oG 23 (iA 32 20 22) 19 true,oG 24 (lD 3 23) 19 true,oG 25 (mV 0) 19 true,oG 26 (mV 1) 19 true,oG 27 (.binOp .add 3 (xT 26) (nI 1) 3) 19 true,oG 28 (iA 32 25 27) 19 true,oG 29 (lD 3 28) 19 true,oG 30 (bO .lss 3 24 29 3) 19 true,oG 31 (.pick (xT 19) (xT 30) (nB false)) 16 false,oO 32 (.pick (xT 16) (nB true) (xT 31)),aO 14 32] [0,1,14] (cD 14 (sR [mO 33 0,mO 34 1,oO 35 (.binOp .add 3 (xT 34) (nI 1) 3),oO 36 (iA 32 33 35),lO 37 3 36,aO 8 37] [8] (.ret)) (.skip)))))) (.keep [0,1] (sR [mO 38 0,mO 39 1,oO 40 (.binOp .sub 3 (xT 39) (nI 1) 3),oO 41 (iA 32 38 40),lO 42 3 41,oO 43 (.binOp .add 3 (xT 42) (nI 1) 3),aO 8 43] [8] (.ret))))
theorem t_lcs_reach : Txt Try.prog 95 44 [(.tmp 8)] c_lcs_reach := txt_of (code := Try.f95.body.getD .ret) mixed (by kernel_rfl) Try.func95 (by kernel_rfl) Try.ntmps95 (by kernel_rfl) (ls := lsOf c_lcs_reach) (by kernel_rfl)
def l1_lcs_Distance : CC := .seq (sR [mO 73 13,mO 74 8,oO 75 (bO .lss 3 73 74 3),mO 76 75,oG 77 (mV 14) 76 true,oG 78 (mV 9) 76 true,oG 79 (bO .lss 3 77 78 3) 76 true,oO 80 (.pick (xT 76) (xT 79) (nB false)),mO 81 80,oG 82 (mV 13) 81 true,oG 83 (.binOp .geq 3 (xT 82) (nI 0) 3) 81 true,oO 84 (.pick (xT 81) (xT 83) (nB false)),mO 85 84,oG 86 (mV 14) 85 true,oG 87 (.binOp .geq 3 (xT 86) (nI 0) 3) 85 true,oO 88 (.pick (xT 85) (xT 87) (nB false)),mO 89 88,oG 90 (mV 0) 89 true,oG 91 (mV 13) 89 true,oG 92 (iA 32 90 91) 89 true,oG 93 (lD 3 92) 89 true,oG 94 (mV 1) 89 true,oG 95 (mV 14) 89 true,oG 96 (iA 32 94 95) 89 true,oG 97 (lD 3 96) 89 true,oG 98 (bO .eql 3 93 97 3) 89 true,oO 99 (.pick (xT 89) (xT 98) (nB false))] [0,1,2,8,9,10,11,12,13,14,99] (cD 99 (.skip) (.exit 4))) (.keep [0,1,2,8,9,10,11,12,13,14] (.block 5 (.reg [mO 100 13,oO 101 (.binOp .add 3 (xT 100) (nI 1) 3),mO 102 14,oO 103 (.binOp .add 3 (xT 102) (nI 1) 3),aO 13 101,aO 14 103] [0,1,2,8,9,10,11,12,13,14])))
def l2_lcs_Distance : CC := .seq (sR [mO 52 12,mO 53 11,oO 54 (bO .leq 3 52 53 3)] [0,1,2,8,9,10,11,12,54] (cD 54 (.skip) (.exit 2))) (.keep [0,1,2,8,9,10,11,12] (.seq (.block 3 (sR [mO 57 10,mO 58 2,oO 59 (.binOp .add 3 (xT 58) (nI 1) 3),mO 60 12,oO 61 (bO .add 3 59 60 3),mO 62 12,mO 63 11,oO 64 (.unOp .neg 3 (xT 63)),oO 65 (bO .eql 3 62 64 3),mO 66 12,mO 67 11,oO 68 (bO .eql 3 66 67 3),oO 69 (cL 95 #[(xT 57),(xT 61),(xT 65),(xT 68)] #[32,3,4,4]),aO 13 69] [0,1,2,8,9,10,11,12,13] (sR [mO 70 13,mO 71 12,oO 72 (bO .sub 3 70 71 3),aO 14 72] [0,1,2,8,9,10,11,12,13,14] (.seq (.block 4 (.loop l1_lcs_Distance)) (.keep [0,1,2,8,9,10,11,12,13,14] (sR [mO 104 10,mO 105 2,oO 106 (.binOp .add 3 (xT 105) (nI 1) 3),mO 107 12,oO 108 (bO .add 3 106 107 3),mO 109 13,oO 110 (iA 32 104 108),oS (.store 3 (xT 110) (xT 109))] [0,1,2,8,9,10,11,12,13,14] (sR [mO 111 13,mO 112 8,oO 113 (bO .geq 3 111 112 3),mO 114 113,oG 115 (mV 14) 114 true,oG 116 (mV 9) 114 true,oG 117 (bO .geq 3 115 116 3) 114 true,oO 118 (.pick (xT 114) (xT 117) (nB false))] [0,1,2,8,9,10,11,12,118] (cD 118 (sR [mO 119 11,aO 6 119,oO 7 (.assign (nB true))] [6,7] (.ret)) (.skip))))))))) (.keep [0,1,2,8,9,10,11,12] (.reg [mO 55 12,oO 56 (.binOp .add 3 (xT 55) (nI 2) 3),aO 12 56] [0,1,2,8,9,10,11,12]))))
def l3_lcs_Distance : CC := .seq (sR [mO 45 11,mO 46 2,oO 47 (bO .leq 3 45 46 3)] [0,1,2,8,9,10,11,47] (cD 47 (.skip) (.exit 0))) (.keep [0,1,2,8,9,10,11] (.seq (.block 1 (sR [mO 50 11,oO 51 (.unOp .neg 3 (xT 50)),aO 12 51] [0,1,2,8,9,10,11,12] (.block 2 (.loop l2_lcs_Distance)))) (.keep [0,1,2,8,9,10,11] (.reg [mO 48 11,oO 49 (.binOp .add 3 (xT 48) (nI 1) 3),aO 11 49] [0,1,2,8,9,10,11])))) 
def c_lcs_Distance : CC := sR [oO 6 (.assign (nI 0)),oO 7 (.assign (nB false))] [0,1,2] (sR [mO 15 0,oO 16 (bL 15 32),mO 17 1,oO 18 (bL 17 32),aO 8 16,aO 9 18] [0,1,2,8,9] (sR [mO 19 2,oO 20 (bC .max #[(xT 19),(.const (.int .i64 (-1)))] #[3,3]),mO 21 8,mO 22 9,oO 23 (bO .add 3 21 22 3),oO 24 (bC .min #[(xT 20),(xT 23)] #[3,3]),aO 2 24] [0,1,2,8,9] (.seq (sR [mO 25 2,oO 26 (.binOp .lss 3 (xT 25) (nI 0) 3),mO 27 26,oG 28 (mV 8) 27 false,oG 29 (mV 9) 27 false,oG 30 (bO .sub 3 28 29 3) 27 false,oG 31 (mV 2) 27 false,oG 32 (bO .gtr 3 30 31 3) 27 false,oO 33 (.pick (xT 27) (nB true) (xT 32)),mO 34 33,oG 35 (mV 9) 34 false,oG 36 (mV 8) 34 false,oG 37 (bO .sub 3 35 36 3) 34 false,oG 38 (mV 2) 34 false,oG 39 (bO .gtr 3 37 38 3) 34 false,oO 40 (.pick (xT 34) (nB true) (xT 39))] [0,1,2,8,9,40] (cD 40 (sR [oO 6 (.assign (nI 0)),oO 7 (.assign (nB false))] [6,7] (.ret)) (.skip))) (.keep [0,1,2,8,9] (sR [mO 41 2,oO 42 (.binOp .mul 3 (nI 2) (xT 41) 3),oO 43 (.binOp .add 3 (xT 42) (nI 3) 3),oN 44 (.makeSlice 32 (xT 43) (xT 43)) [0],aO 10 44] [0,1,2,8,9,10] (.seq (sR [oO 11 (.assign (nI 0))] [0,1,2,8,9,10,11] (.block 0 (.loop l3_lcs_Distance))) (.keep [] (sR [oO 6 (.assign (nI 0)),oO 7 (.assign (nB false))] [6,7] (.ret)))))))))
theorem t_lcs_Distance : Txt Try.prog 85 120 [(.tmp 6),(.tmp 7)] c_lcs_Distance := txt_of (code := Try.f85.body.getD .ret) mixed (by kernel_rfl) Try.func85 (by kernel_rfl) Try.ntmps85 (by kernel_rfl) (ls := lsOf c_lcs_Distance) (by kernel_rfl)
def k1_lcs_row : CC := .reg [mO 43 5,mO 44 9,oO 45 (.binOp .add 3 (xT 44) (nI 1) 3),mO 46 5,mO 47 9,oO 48 (.binOp .add 3 (xT 47) (nI 1) 3),oO 49 (iA 32 46 48),lO 50 3 49,mO 51 5,mO 52 9,oO 53 (iA 32 51 52),lO 54 3 53,oO 55 (bC .max #[(xT 50),(xT 54)] #[3,3]),mO 56 11,oO 57 (iA 32 43 45),oS (.store 3 (xT 57) (xT 55)),aO 8 56] [1,5,7,8,16,17,18,22,23,24]
def l1_lcs_row : CC := sR [oO 25 (bO .lss 3 24 23 3)] [1,5,7,8,16,17,18,22,23,24,25] (.seq (cD 25 (.skip) (.exit 2)) (.keep [1,5,7,8,16,17,18,22,23,24] (.seq (.block 3 (sR [mO 26 24,oO 27 (iA 32 22 24),lO 28 3 27,aO 9 26,aO 10 28] [1,5,7,8,9,10,16,17,18,22,23,24] (sR [mO 29 5,mO 30 9,oO 31 (.binOp .add 3 (xT 30) (nI 1) 3),oO 32 (iA 32 29 31),lO 33 3 32,aO 11 33] [1,5,7,8,9,10,11,16,17,18,22,23,24] (.seq (sR [mO 34 7,mO 35 10,oO 36 (bO .eql 3 34 35 3)] [1,5,7,8,9,11,16,17,18,22,23,24,36] (cD 36 (.reg [mO 37 5,mO 38 9,oO 39 (.binOp .add 3 (xT 38) (nI 1) 3),mO 40 8,oO 41 (.binOp .add 3 (xT 40) (nI 1) 3),oO 42 (iA 32 37 39),oS (.store 3 (xT 42) (xT 41))] [1,5,7,9,11,16,17,18,22,23,24]) (.skip))) (.keep [1,5,7,9,11,16,17,18,22,23,24] k1_lcs_row))))) (.keep [1,5,7,8,16,17,18,22,23,24] (.reg [oO 58 (.binOp .add 3 (xT 24) (nI 1) 3),mO 24 58] [1,5,7,8,16,17,18,22,23,24])))))
def l2_lcs_row : CC := sR [oO 19 (bO .lss 3 18 17 3)] [1,5,16,17,18,19] (.seq (cD 19 (.skip) (.exit 0)) (.keep [1,5,16,17,18] (.seq (.block 1 (sR [oO 20 (iA 32 16 18),lO 21 3 20,aO 7 21] [1,5,7,16,17,18] (sR [oO 8 (.assign (nI 0))] [1,5,7,8,16,17,18] (sR [mO 22 1,oO 23 (bL 22 32),oO 24 (.move (nI 0))] [1,5,7,8,16,17,18,22,23,24] (.block 2 (.loop l1_lcs_row)))))) (.keep [1,5,16,17,18] (.reg [oO 59 (.binOp .add 3 (xT 18) (nI 1) 3),mO 18 59] [1,5,16,17,18]))))) 
def c_lcs_row : CC := sR [oO 4 (.assign nS)] [0,1] (sR [mO 12 1,oO 13 (bL 12 32),oO 14 (.binOp .add 3 (xT 13) (nI 1) 3),oN 15 (.makeSlice 32 (xT 14) (xT 14)) [0],aO 5 15] [0,1,5] (.seq (sR [mO 16 0,oO 17 (bL 16 32),oO 18 (.move (nI 0))] [1,5,16,17,18] (.block 0 (.loop l2_lcs_row))) (.keep [5] (sR [mO 60 5,aO 4 60] [4] (.ret)))))
theorem t_lcs_row : Txt Try.prog 100 61 [(.tmp 4)] c_lcs_row := txt_of (code := Try.f100.body.getD .ret) mixed (by kernel_rfl) Try.func100 (by kernel_rfl) Try.ntmps100 (by kernel_rfl) (ls := lsOf c_lcs_row) (by kernel_rfl)
def l1_lcs_turned : CC := sR [oO 12 (bO .lss 3 11 10 3)] [0,3,9,10,11,12] (.seq (cD 12 (.skip) (.exit 0)) (.keep [0,3,9,10,11] (.seq (.block 1 (sR [mO 13 11,oO 14 (iA 32 9 11),lO 15 3 14,aO 4 13,aO 5 15] [0,3,4,5,9,10,11] (.reg [mO 16 3,mO 17 0,oO 18 (bL 17 32),oO 19 (.binOp .sub 3 (xT 18) (nI 1) 3),mO 20 4,oO 21 (bO .sub 3 19 20 3),mO 22 5,oO 23 (iA 32 16 21),oS (.store 3 (xT 23) (xT 22))] [0,3,9,10,11]))) (.reg [oO 24 (.binOp .add 3 (xT 11) (nI 1) 3),mO 11 24] [0,3,9,10,11])))) 
def c_lcs_turned : CC := sR [oO 2 (.assign nS)] [0] (sR [mO 6 0,oO 7 (bL 6 32),oN 8 (.makeSlice 32 (xT 7) (xT 7)) [0],aO 3 8] [0,3] (.seq (sR [mO 9 0,oO 10 (bL 9 32),oO 11 (.move (nI 0))] [0,3,9,10,11] (.block 0 (.loop l1_lcs_turned))) (.keep [3] (sR [mO 25 3,aO 2 25] [2] (.ret)))))
theorem t_lcs_turned : Txt Try.prog 101 26 [(.tmp 2)] c_lcs_turned := txt_of (code := Try.f101.body.getD .ret) mixed (by kernel_rfl) Try.func101 (by kernel_rfl) Try.ntmps101 (by kernel_rfl) (ls := lsOf c_lcs_turned) (by kernel_rfl)
def l1_lcs_split : CC := sR [oO 26 (bO .lss 3 25 24 3)] [1,7,8,9,24,25,26] (.seq (cD 26 (.skip) (.exit 0)) (.keep [1,7,8,9,24,25] (.seq (.block 1 (sR [mO 27 25,aO 10 27] [1,7,8,9,10,24,25] (sR [mO 28 7,mO 29 10,oO 30 (iA 32 28 29),lO 31 3 30,mO 32 8,mO 33 1,oO 34 (bL 33 32),mO 35 10,oO 36 (bO .sub 3 34 35 3),oO 37 (iA 32 32 36),lO 38 3 37,oO 39 (bO .add 3 31 38 3),mO 40 7,mO 41 9,oO 42 (iA 32 40 41),lO 43 3 42,mO 44 8,mO 45 1,oO 46 (bL 45 32),mO 47 9,oO 48 (bO .sub 3 46 47 3),oO 49 (iA 32 44 48),lO 50 3 49,oO 51 (bO .add 3 43 50 3),oO 52 (bO .gtr 3 39 51 3)] [1,7,8,9,10,24,25,52] (cD 52 (.reg [mO 53 10,aO 9 53] [1,7,8,9,24,25]) (.skip))))) (.keep [1,7,8,9,24,25] (.reg [oO 54 (.binOp .add 3 (xT 25) (nI 1) 3),mO 25 54] [1,7,8,9,24,25]))))) 
def c_lcs_split : CC := sR [oO 6 (.assign (nI 0))] [0,1,2] (sR [mO 11 0,mO 12 2,oO 13 (.slice 32 (xT 11) none (some (xT 12)) none),mO 14 1,oO 15 (cL 100 #[(xT 13),(xT 14)] #[32,32]),mO 16 0,mO 17 2,oO 18 (.slice 32 (xT 16) (some (xT 17)) none none),oO 19 (cL 101 #[(xT 18)] #[32]),mO 20 1,oO 21 (cL 101 #[(xT 20)] #[32]),oO 22 (cL 100 #[(xT 19),(xT 21)] #[32,32]),aO 7 15,aO 8 22] [1,7,8] (sR [oO 9 (.assign (nI 0))] [1,7,8,9] (.seq (sR [mO 23 7,oO 24 (bL 23 32),oO 25 (.move (nI 0))] [1,7,8,9,24,25] (.block 0 (.loop l1_lcs_split))) (.keep [9] (sR [mO 55 9,aO 6 55] [6] (.ret))))))
theorem t_lcs_split : Txt Try.prog 98 56 [(.tmp 6)] c_lcs_split := txt_of (code := Try.f98.body.getD .ret) mixed (by kernel_rfl) Try.func98 (by kernel_rfl) Try.ntmps98 (by kernel_rfl) (ls := lsOf c_lcs_split) (by kernel_rfl)
def c_lcs_finder_add : CC := sR [mO 6 2,oO 7 (.binOp .gtr 3 (xT 6) (nI 0) 3)] [0,1,2,7] (cD 7 (.reg [mO 8 0,mO 9 0,oO 10 (.nilCheck (xT 9)),fO 11 143 10 0,lO 12 125 11,mO 13 1,mO 14 2,oO 15 (.build 130 #[(0,(xT 13)),(1,(xT 14))]),oO 16 (.buildSlice 125 1 #[(0,(xT 15))]),oN 17 (bC .append #[(xT 12),(xT 16)] #[125,125]) [1],oO 18 (.nilCheck (xT 8)),fO 19 143 18 0,oS (.store 125 (xT 19) (xT 17))] []) (.skip))
theorem t_lcs_finder_add : Txt Try.prog 96 20 [] c_lcs_finder_add := txt_of (code := Try.f96.body.getD .ret) mixed (by kernel_rfl) Try.func96 (by kernel_rfl) Try.ntmps96 (by kernel_rfl) (ls := lsOf c_lcs_finder_add) (by kernel_rfl)
def l1_lcs_finder_one : CC := sR [oO 11 (bO .lss 3 10 9 3)] [0,1,2,8,9,10,11] (.seq (cD 11 (.skip) (.exit 0)) (.keep [0,1,2,8,9,10] (.seq (.block 1 (sR [mO 12 10,oO 13 (iA 32 8 10),lO 14 3 13,aO 6 12,aO 7 14] [0,1,2,6,7,8,9,10] (sR [mO 15 1,mO 16 7,oO 17 (bO .eql 3 15 16 3)] [0,1,2,6,8,9,10,17] (cD 17 (sR [mO 18 0,mO 19 6,oO 20 (cL 96 #[(xT 18),(nI 2),(xT 19)] #[141,3,3])] [0,2,6] (sR [mO 21 0,oO 22 (cL 96 #[(xT 21),(nI 0),(nI 1)] #[141,3,3])] [0,2,6] (sR [mO 23 0,mO 24 2,oO 25 (bL 24 32),mO 26 6,oO 27 (bO .sub 3 25 26 3),oO 28 (.binOp .sub 3 (xT 27) (nI 1) 3),oO 29 (cL 96 #[(xT 23),(nI 2),(xT 28)] #[141,3,3])] [] (.ret)))) (.skip))))) (.keep [0,1,2,8,9,10] (.reg [oO 30 (.binOp .add 3 (xT 10) (nI 1) 3),mO 10 30] [0,1,2,8,9,10]))))) 
def c_lcs_finder_one : CC := .seq (sR [mO 8 2,oO 9 (bL 8 32),oO 10 (.move (nI 0))] [0,1,2,8,9,10] (.block 0 (.loop l1_lcs_finder_one))) (.keep [0,2] (sR [mO 31 0,oO 32 (cL 96 #[(xT 31),(nI 1),(nI 1)] #[141,3,3])] [0,2] (.reg [mO 33 0,mO 34 2,oO 35 (bL 34 32),oO 36 (cL 96 #[(xT 33),(nI 2),(xT 35)] #[141,3,3])] [])))
theorem t_lcs_finder_one : Txt Try.prog 97 37 [] c_lcs_finder_one := txt_of (code := Try.f97.body.getD .ret) mixed (by kernel_rfl) Try.func97 (by kernel_rfl) Try.ntmps97 (by kernel_rfl) (ls := lsOf c_lcs_finder_one) (by kernel_rfl)
def c_lcs_finder_find : CC := .block 0 (sR [mO 32 1,oO 33 (bL 32 32),oO 34 (.binOp .eql 3 (xT 33) (nI 0) 3),mO 35 34,oG 36 (mV 2) 35 false,oG 37 (bL 36 32) 35 false,oG 38 (.binOp .eql 3 (xT 37) (nI 0) 3) 35 false,oO 39 (.pick (xT 35) (nB true) (xT 38)),aO 31 39] [0,1,2,31] (cD 31 (sR [mO 40 0,mO 41 1,oO 42 (bL 41 32),oO 43 (cL 96 #[(xT 40),(nI 1),(xT 42)] #[141,3,3])] [0,2] (.reg [mO 44 0,mO 45 2,oO 46 (bL 45 32),oO 47 (cL 96 #[(xT 44),(nI 2),(xT 46)] #[141,3,3])] [])) (sR [mO 49 1,oO 50 (bL 49 32),oO 51 (.binOp .eql 3 (xT 50) (nI 1) 3),aO 48 51] [0,1,2,48] (cD 48 (.reg [mO 52 0,mO 53 1,oO 54 (.indexAddr 32 (xT 53) (nI 0)),lO 55 3 54,mO 56 2,oO 57 (cL 97 #[(xT 52),(xT 55),(xT 56)] #[141,3,32])] []) (sR [mO 8 1,oO 9 (bL 8 32),oO 10 (.binOp .quo 3 (xT 9) (nI 2) 3),aO 6 10] [0,1,2,6] (sR [mO 11 1,mO 12 2,mO 13 6,oO 14 (cL 98 #[(xT 11),(xT 12),(xT 13)] #[32,32,3]),aO 7 14] [0,1,2,6,7] (sR [mO 15 0,mO 16 1,mO 17 6,oO 18 (.slice 32 (xT 16) none (some (xT 17)) none),mO 19 2,mO 20 7,oO 21 (.slice 32 (xT 19) none (some (xT 20)) none),oO 22 (cL 86 #[(xT 15),(xT 18),(xT 21)] #[141,32,32])] [0,1,2,6,7] (.reg [mO 23 0,mO 24 1,mO 25 6,oO 26 (.slice 32 (xT 24) (some (xT 25)) none none),mO 27 2,mO 28 7,oO 29 (.slice 32 (xT 27) (some (xT 28)) none none),oO 30 (cL 86 #[(xT 23),(xT 26),(xT 29)] #[141,32,32])] []))))))))
theorem t_lcs_finder_find : Txt Try.prog 86 58 [] c_lcs_finder_find := txt_of (code := Try.f86.body.getD .ret) mixed (by kernel_rfl) Try.func86 (by kernel_rfl) Try.ntmps86 (by kernel_rfl) (ls := lsOf c_lcs_finder_find) (by kernel_rfl)
def c_script_Step_right : CC := sR [oN 1 (.box 130 (xT 0)) [0],oO 2 (.assign (nB false))] [1] (sR [fO 3 130 1 0,lO 4 3 3,oO 5 (.binOp .geq 3 (xT 4) (nI 0) 3),mO 6 5,oG 7 (fA 130 1 0) 6 true,oG 8 (lD 3 7) 6 true,oG 9 (.binOp .leq 3 (xT 8) (nI 2) 3) 6 true,oO 10 (.pick (xT 6) (xT 9) (nB false)),mO 11 10,oG 12 (fA 130 1 1) 11 true,oG 13 (lD 3 12) 11 true,oG 14 (.binOp .geq 3 (xT 13) (nI 1) 3) 11 true,oO 15 (.pick (xT 11) (xT 14) (nB false)),mO 16 15,oG 17 (fA 130 1 1) 16 true,oG 18 (lD 3 17) 16 true,oG 19 (.binOp .leq 3 (xT 18) (nI 1048576) 3) 16 true,oO 20 (.pick (xT 16) (xT 19) (nB false)),aO 2 20] [2] (.ret))
theorem t_script_Step_right : Txt Try.prog 88 21 [(.tmp 2)] c_script_Step_right := txt_of (code := Try.f88.body.getD .ret) mixed (by kernel_rfl) Try.func88 (by kernel_rfl) Try.ntmps88 (by kernel_rfl) (ls := lsOf c_script_Step_right) (by kernel_rfl)
def l1_script_Normal_1 : CC := sR [oO 9 (bO .lss 3 8 7 3)] [1,2,6,7,8,9] (.seq (cD 9 (.skip) (.exit 0)) (.keep [1,2,6,7,8] (.seq (.block 1 (sR [oO 10 (iA 32 6 8),lO 11 3 10,aO 5 11] [1,2,5,6,7,8] (.seq (sR [mO 12 5,oO 13 (iA 145 1 12),lO 14 3 13,oO 15 (.binOp .gtr 3 (xT 14) (nI 0) 3)] [1,2,5,6,7,8,15] (cD 15 (.reg [⟨some 16,(lD 125 2),none,[],0,[],true⟩,mO 17 5,mO 18 5,oO 19 (iA 145 1 18),lO 20 3 19,oO 21 (.build 130 #[(0,(xT 17)),(1,(xT 20))]),⟨some 22,(.buildSlice 125 1 #[(0,(xT 21))]),none,[],6,[0],false⟩,oN 23 (bC .append #[(xT 16),(xT 22)] #[125,125]) [1],oS (.store 125 (xT 2) (xT 23))] [1,2,5,6,7,8]) (.skip))) (.keep [1,2,5,6,7,8] (.reg [mO 24 5,oO 25 (iA 145 1 24),oS (.store 3 (xT 25) (nI 0))] [1,2,6,7,8]))))) (.keep [1,2,6,7,8] (.reg [oO 26 (.binOp .add 3 (xT 8) (nI 1) 3),mO 8 26] [1,2,6,7,8]))))) 
def c_script_Normal_1 : CC := sR [mO 6 0,oO 7 (bL 6 32),oO 8 (.move (nI 0))] [1,2,6,7,8] (.block 0 (.loop l1_script_Normal_1))
theorem t_script_Normal_1 : Txt Try.prog 87 27 [] c_script_Normal_1 := txt_of (code := Try.f87.body.getD .ret) mixed (by kernel_rfl) Try.func87 (by kernel_rfl) Try.ntmps87 (by kernel_rfl) (ls := lsOf c_script_Normal_1) (by kernel_rfl)
def k1_script_Normal : CC := .reg [fO 29 130 7 0,lO 30 3 29,oO 31 (iA 145 4 30),lO 32 3 31,fO 33 130 7 1,lO 34 3 33,oO 35 (bO .add 3 32 34 3),oO 36 (iA 145 4 30),oS (.store 3 (xT 36) (xT 35))] [3,4,5,9,10,11]
def l1_script_Normal : CC := sR [oO 12 (bO .lss 3 11 10 3)] [3,4,5,9,10,11,12] (.seq (cD 12 (.skip) (.exit 0)) (.keep [3,4,5,9,10,11] (.seq (.block 1 (sR [oO 13 (iA 125 9 11),lO 14 130 13,oN 7 (.alloc 130) [2],oS (.store 130 (xT 7) (xT 14))] [3,4,5,7,9,10,11] (.seq (.block 2 (sR [lO 19 130 7,oO 20 (cL 88 #[(xT 19)] #[130]),oO 21 (.unOp .not 4 (xT 20)),aO 18 21] [3,4,5,7,9,10,11,18] (cD 18 (.exit 1) (sR [fO 23 130 7 0,lO 24 3 23,oO 25 (.binOp .eql 3 (xT 24) (nI 0) 3),aO 22 25] [3,4,5,7,9,10,11,22] (cD 22 (.reg [mO 26 5,oO 27 (.buildSlice 32 2 #[(0,(nI 1)),(1,(nI 2))]),oO 28 (.call { callee := (.value (xT 26)),args := #[(xT 27)],argTypes := #[32] })] [3,4,5,7,9,10,11]) (.reg [mO 15 5,oO 16 (.buildSlice 32 1 #[(0,(nI 0))]),oO 17 (.call { callee := (.value (xT 15)),args := #[(xT 16)],argTypes := #[32] })] [3,4,5,7,9,10,11])))))) (.keep [3,4,5,7,9,10,11] k1_script_Normal)))) (.keep [3,4,5,9,10,11] (.reg [oO 37 (.binOp .add 3 (xT 11) (nI 1) 3),mO 11 37] [3,4,5,9,10,11]))))) 
def c_script_Normal : CC := sR [oO 2 (.assign nS)] [0] (sR [oN 3 (.alloc 125) [0]] [0,3] (sR [oN 4 (.alloc 145) [0,1]] [0,3,4] (sR [oO 8 (.makeFunc (.func 87) #[] #[(xT 4),(xT 3)]),aO 5 8] [0,3,4,5] (.seq (sR [mO 9 0,oO 10 (bL 9 125),oO 11 (.move (nI 0))] [3,4,5,9,10,11] (.block 0 (.loop l1_script_Normal))) (.keep [3,5] (sR [mO 38 5,oO 39 (.buildSlice 32 3 #[(0,(nI 0)),(1,(nI 1)),(2,(nI 2))]),oO 40 (.call { callee := (.value (xT 38)),args := #[(xT 39)],argTypes := #[32] })] [3] (sR [lO 41 125 3,aO 2 41] [2] (.ret))))))))
theorem t_script_Normal : Txt Try.prog 76 42 [(.tmp 2)] c_script_Normal := txt_of (code := Try.f76.body.getD .ret) mixed (by kernel_rfl) Try.func76 (by kernel_rfl) Try.ntmps76 (by kernel_rfl) (ls := lsOf c_script_Normal) (by kernel_rfl)
def c_lcs_Diff : CC := sR [oO 6 (.assign nS),oO 7 (.assign (nB false))] [0,1,2] (.seq (sR [mO 12 0,mO 13 1,mO 14 2,oO 15 (cL 85 #[(xT 12),(xT 13),(xT 14)] #[32,32,3]),mO 11 15,xO 16 11 0,xO 17 11 1,aO 8 16,aO 9 17] [0,1,9] (sR [mO 18 9,oO 19 (.unOp .not 4 (xT 18))] [0,1,19] (cD 19 (sR [oO 6 (.assign nS),oO 7 (.assign (nB false))] [6,7] (.ret)) (.skip)))) (.keep [0,1] (sR [oO 20 (.build 143 #[]),oN 21 (.box 143 (xT 20)) [0],aO 10 21] [0,1,10] (.stop (sR [mO 22 10,mO 23 0,mO 24 1,oO 25 (cL 86 #[(xT 22),(xT 23),(xT 24)] #[141,32,32])] [10] (sR [mO 26 10,oO 27 (.nilCheck (xT 26)),fO 28 143 27 0,lO 29 125 28,oO 30 (cL 76 #[(xT 29)] #[125]),aO 6 30,oO 7 (.assign (nB true))] [6,7] (.ret)))))))
theorem t_lcs_Diff : Txt Try.prog 75 31 [(.tmp 6),(.tmp 7)] c_lcs_Diff := txt_of (code := Try.f75.body.getD .ret) mixed (by kernel_rfl) Try.func75 (by kernel_rfl) Try.ntmps75 (by kernel_rfl) (ls := lsOf c_lcs_Diff) (by kernel_rfl)
def k1_centoref18_Table : CC := .seq (sR [mO 58 0,mO 59 6,oO 60 (.binOp .sub 3 (xT 59) (nI 1) 3),oO 61 (iA 32 58 60),lO 62 3 61,mO 63 1,mO 64 7,oO 65 (.binOp .sub 3 (xT 64) (nI 1) 3),oO 66 (iA 32 63 65),lO 67 3 66,oO 68 (bO .eql 3 62 67 3)] [0,1,5,6,7,8,68] (cD 68 (.reg [mO 69 5,mO 70 6,oO 71 (.binOp .sub 3 (xT 70) (nI 1) 3),oO 72 (iA 22 69 71),lO 73 32 72,mO 74 7,oO 75 (.binOp .sub 3 (xT 74) (nI 1) 3),oO 76 (iA 32 73 75),lO 77 3 76,oO 78 (.binOp .add 3 (xT 77) (nI 1) 3),aO 8 78] [0,1,5,6,7,8]) (.skip))) (.keep [0,1,5,6,7,8] (.reg [mO 79 5,mO 80 6,oO 81 (iA 22 79 80),lO 82 32 81,mO 83 7,mO 84 8,oO 85 (iA 32 82 83),oS (.store 3 (xT 85) (xT 84))] [0,1,5,6,7]))
def l1_centoref18_Table : CC := .seq (sR [mO 22 7,mO 23 1,oO 24 (bL 23 32),oO 25 (bO .leq 3 22 24 3),mO 26 25,oG 27 (mV 6) 26 true,oG 28 (.binOp .gtr 3 (xT 27) (nI 0) 3) 26 true,oO 29 (.pick (xT 26) (xT 28) (nB false))] [0,1,5,6,7,29] (cD 29 (.skip) (.exit 2))) (.keep [0,1,5,6,7] (.seq (.block 3 (sR [mO 32 5,mO 33 6,oO 34 (.binOp .sub 3 (xT 33) (nI 1) 3),oO 35 (iA 22 32 34),lO 36 32 35,mO 37 7,oO 38 (iA 32 36 37),lO 39 3 38,aO 8 39] [0,1,5,6,7,8] (.seq (sR [mO 40 5,mO 41 6,oO 42 (iA 22 40 41),lO 43 32 42,mO 44 7,oO 45 (.binOp .sub 3 (xT 44) (nI 1) 3),oO 46 (iA 32 43 45),lO 47 3 46,mO 48 8,oO 49 (bO .gtr 3 47 48 3)] [0,1,5,6,7,8,49] (cD 49 (.reg [mO 50 5,mO 51 6,oO 52 (iA 22 50 51),lO 53 32 52,mO 54 7,oO 55 (.binOp .sub 3 (xT 54) (nI 1) 3),oO 56 (iA 32 53 55),lO 57 3 56,aO 8 57] [0,1,5,6,7,8]) (.skip))) (.keep [0,1,5,6,7,8] k1_centoref18_Table)))) (.keep [0,1,5,6,7] (.reg [mO 30 7,oO 31 (.binOp .add 3 (xT 30) (nI 1) 3),aO 7 31] [0,1,5,6,7]))))
def l2_centoref18_Table : CC := .seq (sR [mO 9 6,mO 10 0,oO 11 (bL 10 32),oO 12 (bO .leq 3 9 11 3)] [0,1,5,6,12] (cD 12 (.skip) (.exit 0))) (.keep [0,1,5,6] (.seq (.block 1 (sR [mO 15 5,mO 16 1,oO 17 (bL 16 32),oO 18 (.binOp .add 3 (xT 17) (nI 1) 3),oN 19 (.makeSlice 32 (xT 18) (xT 18)) [0],oN 20 (.buildSlice 22 1 #[(0,(xT 19))]) [2],oN 21 (bC .append #[(xT 15),(xT 20)] #[22,22]) [1],aO 5 21] [0,1,5,6] (sR [oO 7 (.assign (nI 1))] [0,1,5,6,7] (.block 2 (.loop l1_centoref18_Table))))) (.keep [0,1,5,6] (.reg [mO 13 6,oO 14 (.binOp .add 3 (xT 13) (nI 1) 3),aO 6 14] [0,1,5,6])))) 
def c_centoref18_Table : CC := sR [oO 4 (.assign nS)] [0,1] (sR [oO 5 (.assign nS)] [0,1,5] (.seq (sR [oO 6 (.assign (nI 0))] [0,1,5,6] (.block 0 (.loop l2_centoref18_Table))) (.keep [5] (sR [mO 86 5,aO 4 86] [4] (.ret)))))
theorem t_centoref18_Table : Txt Try.prog 34 87 [(.tmp 4)] c_centoref18_Table := txt_of (code := Try.f34.body.getD .ret) mixed (by kernel_rfl) Try.func34 (by kernel_rfl) Try.ntmps34 (by kernel_rfl) (ls := lsOf c_centoref18_Table) (by kernel_rfl)
def c_centoref18_Common : CC := sR [oO 4 (.assign (nI 0))] [0,1] (sR [mO 5 0,mO 6 1,oO 7 (cL 34 #[(xT 5),(xT 6)] #[32,32]),mO 8 0,oO 9 (bL 8 32),oO 10 (iA 22 7 9),lO 11 32 10,mO 12 1,oO 13 (bL 12 32),oO 14 (iA 32 11 13),lO 15 3 14,aO 4 15] [4] (.ret))
theorem t_centoref18_Common : Txt Try.prog 17 16 [(.tmp 4)] c_centoref18_Common := txt_of (code := Try.f17.body.getD .ret) mixed (by kernel_rfl) Try.func17 (by kernel_rfl) Try.ntmps17 (by kernel_rfl) (ls := lsOf c_centoref18_Common) (by kernel_rfl)
end Go.Proofs.Ytmeldaflhkiopaa

namespace Go.PL
set_option linter.unusedVariables false
set_option linter.unusedSimpArgs false
open List
def aft (x : Int) : List Int→Option (List Int)
  | [] => none
  | y :: b => if x = y then some b else aft x b
def lcsL : List Int→List Int→Nat
  | [],_ => 0
  | x :: a,b => max (lcsL a b) (match aft x b with | some b' => lcsL a b' + 1 | none => 0)
theorem aft_sub {x : Int} {s : List Int} : ∀ {b : List Int},x :: s <+ b→∃ b',aft x b = some b'∧s <+ b'
  | [],h => by cases h
  | y :: b,h => by
    unfold aft
    by_cases e : x = y
    · subst e
      refine ⟨b,by simp,?_⟩
      cases h with
      | cons _ h => exact (List.sublist_cons_self x s).trans h
      | cons_cons _ h => exact h
    · rw [if_neg e]
      cases h with
      | cons _ h => exact aft_sub h
      | cons_cons _ h => exact absurd rfl e
theorem aft_has {x : Int} : ∀ {b b' : List Int},aft x b = some b'→∃ b0,b = b0 ++ x :: b'∧x ∉ b0
  | [],b',h => by cases h
  | y :: b,b',h => by
    unfold aft at h
    by_cases e : x = y
    · rw [if_pos e] at h
      cases h
      exact ⟨[],by simp [e],by simp⟩
    · rw [if_neg e] at h
      obtain ⟨b0,h1,h2⟩ := aft_has h
      exact ⟨y :: b0,by simp [h1],by simp [e,h2]⟩
theorem aft_none {x : Int} : ∀ {b : List Int},aft x b = none→x ∉ b
  | [],_ => by simp
  | y :: b,h => by
    unfold aft at h
    by_cases e : x = y
    · rw [if_pos e] at h; cases h
    · rw [if_neg e] at h
      simp [e,aft_none h]
theorem aft_app {x : Int} : ∀ {b0 b' : List Int},x ∉ b0→aft x (b0 ++ x :: b') = some b'
  | [],b',_ => by simp [aft]
  | y :: b0,b',h => by
    simp at h
    simp [aft,h.1,aft_app h.2]
theorem lcs_has : ∀ a b : List Int,∃ s,s <+ a∧s <+ b∧s.length = lcsL a b
  | [],b => ⟨[],by simp,by simp,rfl⟩
  | x :: a,b => by
    obtain ⟨s,h1,h2,h3⟩ := lcs_has a b
    unfold lcsL
    cases e : aft x b with
    | none => exact ⟨s,h1.cons x,h2,by simp [h3]⟩
    | some b' =>
      obtain ⟨t,g1,g2,g3⟩ := lcs_has a b'
      simp only
      by_cases hle : lcsL a b≤lcsL a b' + 1
      · obtain ⟨b0,rfl,_⟩ := aft_has e
        exact ⟨x :: t,g1.cons_cons x,(g2.cons_cons x).trans (List.sublist_append_right _ _),by simp; omega⟩
      · exact ⟨s,h1.cons x,h2,by omega⟩
theorem lcs_max : ∀ {a b s : List Int},s <+ a→s <+ b→s.length≤lcsL a b
  | [],b,s,h1,h2 => by
    have := List.sublist_nil.1 h1
    subst this
    simp
  | x :: a,b,s,h1,h2 => by
    unfold lcsL
    cases h1 with
    | cons _ h => have := lcs_max h h2; omega
    | @cons_cons s' _ _ h =>
      obtain ⟨b',e,h3⟩ := aft_sub h2
      have := lcs_max h h3
      rw [e]
      simp
      omega
theorem lcs_is {a b : List Int} {n : Nat} (h1 : ∃ s,s <+ a∧s <+ b∧s.length = n) (h2 : ∀ s,s <+ a→s <+ b→s.length≤n) : lcsL a b = n := by
  obtain ⟨s,g1,g2,g3⟩ := h1
  obtain ⟨t,k1,k2,k3⟩ := lcs_has a b
  have := lcs_max g1 g2
  have := h2 t k1 k2
  omega
theorem lcs_rev (a b : List Int) : lcsL a.reverse b.reverse = lcsL a b := by
  obtain ⟨s,h1,h2,h3⟩ := lcs_has a b
  refine lcs_is ⟨s.reverse,h1.reverse,h2.reverse,by simpa using h3⟩ fun t g1 g2 => ?_
  have := lcs_max (a := a) (b := b) (s := t.reverse) (by simpa using g1.reverse) (by simpa using g2.reverse)
  simpa using this
theorem lcs_sub {a b a' b' : List Int} (h1 : a <+ a') (h2 : b <+ b') : lcsL a b≤lcsL a' b' := by
  obtain ⟨s,g1,g2,g3⟩ := lcs_has a b
  have := lcs_max (g1.trans h1) (g2.trans h2)
  omega
theorem lcs_app (a b a' b' : List Int) : lcsL a b + lcsL a' b'≤lcsL (a ++ a') (b ++ b') := by
  obtain ⟨s,g1,g2,g3⟩ := lcs_has a b
  obtain ⟨t,k1,k2,k3⟩ := lcs_has a' b'
  have := lcs_max (g1.append k1) (g2.append k2)
  simp at this
  omega
theorem lcs_split (a a' b : List Int) : ∃ b1 b2,b = b1 ++ b2∧lcsL (a ++ a') b = lcsL a b1 + lcsL a' b2 := by
  obtain ⟨s,g1,g2,g3⟩ := lcs_has (a ++ a') b
  obtain ⟨s1,s2,rfl,k1,k2⟩ := List.sublist_append_iff.1 g1
  obtain ⟨b1,b2,rfl,m1,m2⟩ := List.append_sublist_iff.1 g2
  refine ⟨b1,b2,rfl,?_⟩
  have h1 := lcs_max k1 m1
  have h2 := lcs_max k2 m2
  have h3 := lcs_app a b1 a' b2
  simp at g3
  omega
theorem lcs_len (a b : List Int) : lcsL a b≤a.length∧lcsL a b≤b.length := by
  obtain ⟨s,g1,g2,g3⟩ := lcs_has a b
  have := g1.length_le
  have := g2.length_le
  omega
theorem lcs_cons_same (x : Int) (a b : List Int) : lcsL (x :: a) (x :: b) = lcsL a b + 1 := by
  have h : lcsL a (x :: b)≤lcsL a b + 1 := by
    obtain ⟨s,g1,g2,g3⟩ := lcs_has a (x :: b)
    cases g2 with
    | cons _ h => have := lcs_max g1 h; omega
    | @cons_cons s' _ _ h =>
      have := lcs_max ((List.sublist_cons_self x s').trans g1) h
      simp at g3
      omega
  rw [lcsL]
  simp [aft]
  omega
theorem lcs_cons_else {x y : Int} (h : x ≠ y) (a b : List Int) : lcsL (x :: a) (y :: b) = max (lcsL a (y :: b)) (lcsL (x :: a) b) := by
  have h1 : lcsL a b≤lcsL a (y :: b) := lcs_sub (List.Sublist.refl _) (List.sublist_cons_self _ _)
  rw [lcsL,lcsL]
  simp only [aft,if_neg h]
  omega
theorem lcs_snoc_same (x : Int) (a b : List Int) : lcsL (a ++ [x]) (b ++ [x]) = lcsL a b + 1 := by
  rw [← lcs_rev]
  simp [lcs_cons_same,lcs_rev]
theorem lcs_snoc_else {x y : Int} (h : x ≠ y) (a b : List Int) : lcsL (a ++ [x]) (b ++ [y]) = max (lcsL a (b ++ [y])) (lcsL (a ++ [x]) b) := by
  rw [← lcs_rev,← lcs_rev a (b ++ [y]),← lcs_rev (a ++ [x]) b]
  simp [lcs_cons_else h]
theorem lcs_cons_le (x : Int) (a b : List Int) : lcsL (x :: a) b≤lcsL a b + 1 := by
  rw [lcsL]
  cases e : aft x b with
  | none => simp
  | some b' =>
    obtain ⟨b0,rfl,_⟩ := aft_has e
    have : lcsL a b'≤lcsL a (b0 ++ x :: b') := lcs_sub (List.Sublist.refl _) ((List.sublist_cons_self x b').trans (List.sublist_append_right _ _))
    simp only
    omega
theorem lcs_snoc_le (x : Int) (a b : List Int) : lcsL (a ++ [x]) b≤lcsL a b + 1 := by
  rw [← lcs_rev,← lcs_rev a b]
  simpa using lcs_cons_le x a.reverse b.reverse
@[simp] theorem lcs_nil (a : List Int) : lcsL a [] = 0 := by have := (lcs_len a []).2; simpa using this
@[simp] theorem lcs_nil' (b : List Int) : lcsL [] b = 0 := rfl
theorem lcs_monge : ∀ (a u v w : List Int),lcsL a (u ++ (v ++ w)) + lcsL a v≤lcsL a (u ++ v) + lcsL a (v ++ w)
  | [],u,v,w => by simp
  | x :: a,u,v,w => by
    have m1 : ∀ p q : List Int,lcsL a q≤lcsL a (p ++ q) := fun p q => lcs_sub (List.Sublist.refl _) (List.sublist_append_right _ _)
    have up : ∀ q : List Int,lcsL a q≤lcsL (x :: a) q := fun q => by rw [lcsL]; omega
    have tk : ∀ q0 q' : List Int,x ∉ q0→lcsL a q' + 1≤lcsL (x :: a) (q0 ++ x :: q') := fun q0 q' h => by rw [lcsL,aft_app h]; simp; omega
    have tk' : ∀ q0 q' : List Int,lcsL a q' + 1≤lcsL (x :: a) (q0 ++ x :: q') := fun q0 q' => by
      have := lcs_cons_same x a q'
      have h2 : lcsL (x :: a) (x :: q')≤lcsL (x :: a) (q0 ++ x :: q') := lcs_sub (List.Sublist.refl _) (List.sublist_append_right _ _)
      omega
    -- what the two of the left take
    have c1 : lcsL (x :: a) (u ++ (v ++ w)) = lcsL a (u ++ (v ++ w))∨∃ q0 q',u ++ (v ++ w) = q0 ++ x :: q'∧x ∉ q0∧lcsL (x :: a) (u ++ (v ++ w)) = lcsL a q' + 1 := by
      rw [lcsL]
      cases e : aft x (u ++ (v ++ w)) with
      | none => left; simp
      | some q' =>
        obtain ⟨q0,h1,h2⟩ := aft_has e
        simp only
        by_cases hle : lcsL a (u ++ (v ++ w))≤lcsL a q' + 1
        · right; exact ⟨q0,q',h1,h2,by omega⟩
        · left; omega
    have c2 : lcsL (x :: a) v = lcsL a v∨∃ v0 v',v = v0 ++ x :: v'∧x ∉ v0∧lcsL (x :: a) v = lcsL a v' + 1 := by
      rw [lcsL]
      cases e : aft x v with
      | none => left; simp
      | some q' =>
        obtain ⟨q0,h1,h2⟩ := aft_has e
        simp only
        by_cases hle : lcsL a v≤lcsL a q' + 1
        · right; exact ⟨q0,q',h1,h2,by omega⟩
        · left; omega
    rcases c1 with e1 | ⟨q0,q',h1,hn,e1⟩
    · rcases c2 with e2 | ⟨v0,v',rfl,hv,e2⟩
      · have := lcs_monge a u v w
        have := up (u ++ v)
        have := up (v ++ w)
        omega
      · have h := lcs_monge a (u ++ (v0 ++ [x])) v' w
        have g1 := up (u ++ (v0 ++ x :: v'))
        have g2 := tk v0 (v' ++ w) hv
        simp at h g1 g2 e1 e2 ⊢
        omega
    · -- where the first x stands
      rcases List.append_eq_append_iff.1 h1 with ⟨t,ht1,ht2⟩ | ⟨t,ht1,ht2⟩
      · -- q0 = u ++ t,v ++ w = t ++ x :: q'
        subst ht1
        have hnu : x ∉ u := fun h => hn (by simp [h])
        have hnt : x ∉ t := fun h => hn (by simp [h])
        rcases List.append_eq_append_iff.1 ht2 with ⟨t2,hs1,hs2⟩ | ⟨t2,hs1,hs2⟩
        · -- t = v ++ t2: x stands in w
          subst hs1
          have hnv : x ∉ v := fun h => hnt (by simp [h])
          have e2 : lcsL (x :: a) v = lcsL a v := by
            rcases c2 with e2 | ⟨v0,v',rfl,_,_⟩
            · exact e2
            · exact absurd (by simp) hnv
          have g1 := tk (v ++ t2) q' hnt
          have g2 := up (u ++ v)
          have g3 := m1 u v
          rw [ht2] at e1 ⊢
          omega
        · -- v = t ++ t2,x :: q' = t2 ++ w
          subst hs1
          cases t2 with
          | nil =>
            simp at hs2
            subst hs2
            have e2 : lcsL (x :: a) t = lcsL a t := by
              rcases c2 with e2 | ⟨v0,v',hv,_,_⟩
              · simpa using e2
              · exact absurd (by simp at hv; simp [hv]) hnt
            have g1 := tk t q' hnt
            have g2 := up (u ++ t)
            have g3 := m1 u t
            simp at e1 e2 g1 g2 g3 ⊢
            omega
          | cons y v' =>
            simp at hs2
            obtain ⟨rfl,rfl⟩ := hs2
            have g1 := tk t (v' ++ w) hnt
            have e2 : lcsL (x :: a) (t ++ x :: v')≤max (lcsL a (t ++ x :: v')) (lcsL a v' + 1) := by rw [lcsL,aft_app hnt]; simp
            have g2 := up (u ++ (t ++ x :: v'))
            have g3 := m1 u (t ++ x :: v')
            have g4 := tk' (u ++ t) v'
            simp at e1 e2 g1 g2 g3 g4 ⊢
            omega
      · -- u = q0 ++ t,x :: q' = t ++ (v ++ w)
        cases t with
        | nil =>
          simp at ht2 ht1
          subst ht1
          -- x heads v ++ w
          cases v with
          | nil =>
            simp at ht2
            have g1 := tk [] q' (by simp)
            have g0 := up u
            simp at g1 e1 ⊢
            rw [← ht2] at e1 ⊢
            rw [e1]
            omega
          | cons y v' =>
            simp at ht2
            obtain ⟨rfl,rfl⟩ := ht2
            have g1 := tk [] (v' ++ w) (by simp)
            have e2 := lcs_cons_same x a v'
            have g4 := tk' u v'
            simp at e1 g1 g4 ⊢
            omega
        | cons y u' =>
          simp at ht2
          obtain ⟨rfl,rfl⟩ := ht2
          subst ht1
          rcases c2 with e2 | ⟨v0,v',rfl,hv,e2⟩
          · have h := lcs_monge a u' v w
            have g1 := tk q0 (u' ++ v) hn
            have g2 := up (v ++ w)
            simp at e1 e2 g1 g2 h ⊢
            omega
          · have h := lcs_monge a (u' ++ (v0 ++ [x])) v' w
            have g1 := tk q0 (u' ++ (v0 ++ x :: v')) hn
            have g2 := tk v0 (v' ++ w) hv
            simp at e1 e2 g1 g2 h ⊢
            omega
end Go.PL

namespace Go.PL
set_option linter.unusedVariables false
set_option linter.unusedSimpArgs false
open List
def sg (l : List Int) (p q : Nat) : List Int := (l.take q).drop p
def cmn (a b : List Int) (i h j k : Nat) : Nat := lcsL (sg a i h) (sg b j k)
theorem sg_len (l : List Int) (p q : Nat) (h : q≤l.length) : (sg l p q).length = q - p := by simp [sg]; omega
theorem sg_app {l : List Int} {p k q : Nat} (h1 : p≤k) (h2 : k≤q) : sg l p q = sg l p k ++ sg l k q := by
  unfold sg
  have e : (l.take q).drop p = ((l.take q).drop p).take (k - p) ++ ((l.take q).drop p).drop (k - p) := (List.take_append_drop _ _).symm
  rw [e,List.drop_drop,List.take_drop,List.take_take]
  congr 3 <;> first | omega | skip
theorem sg_zero (l : List Int) (q : Nat) : sg l 0 q = l.take q := by simp [sg]
theorem sg_end (l : List Int) (p : Nat) : sg l p l.length = l.drop p := by simp [sg]
theorem sg_nil (l : List Int) (p : Nat) : sg l p p = [] := by simp [sg]
theorem sg_take {l : List Int} {n p q : Nat} (h : q≤n) : sg (l.take n) p q = sg l p q := by
  unfold sg; rw [List.take_take]; congr 2; omega
theorem sg_drop {l : List Int} {n p q : Nat} : sg (l.drop n) p q = sg l (n + p) (n + q) := by
  unfold sg; rw [List.take_drop,List.drop_drop]
theorem cmn_app {a b : List Int} {i h t j k q : Nat} (h1 : i≤h) (h2 : h≤t) (h3 : j≤k) (h4 : k≤q) : cmn a b i h j k + cmn a b h t k q≤cmn a b i t j q := by
  unfold cmn
  rw [sg_app h1 h2,sg_app h3 h4]
  exact lcs_app _ _ _ _
theorem cmn_split (a b : List Int) {i h t j q : Nat} (h1 : i≤h) (h2 : h≤t) (h3 : j≤q) (h4 : q≤b.length) : ∃ k,j≤k∧k≤q∧cmn a b i h j k + cmn a b h t k q = cmn a b i t j q := by
  unfold cmn
  rw [sg_app h1 h2]
  obtain ⟨b1,b2,e,hs⟩ := lcs_split (sg a i h) (sg a h t) (sg b j q)
  have hl := sg_len b j q h4
  rw [e] at hl
  simp at hl
  refine ⟨j + b1.length,by omega,by omega,?_⟩
  have e2 := sg_app (l := b) (p := j) (k := j + b1.length) (q := q) (by omega) (by omega)
  rw [e] at e2
  obtain ⟨g1,g2⟩ := List.append_inj e2 (by rw [sg_len _ _ _ (by omega)]; omega)
  rw [← g1,← g2,← hs]
theorem cmn_monge (a b : List Int) (i h : Nat) {p p' q q' : Nat} (h1 : p≤p') (h2 : p'≤q) (h3 : q≤q') : cmn a b i h p q' + cmn a b i h p' q≤cmn a b i h p q + cmn a b i h p' q' := by
  unfold cmn
  rw [sg_app (l := b) h1 (by omega : p'≤q'),sg_app (l := b) h2 h3,sg_app (l := b) h1 h2]
  exact lcs_monge _ _ _ _
def fstN (p : Nat→Bool) : Nat→Nat→Nat
  | 0,j => j
  | f + 1,j => if p j = true then j else fstN p f (j + 1)
theorem fstN_ok {p : Nat→Bool} : ∀ {f j k : Nat},j≤k→k≤j + f→p k = true→p (fstN p f j) = true∧j≤fstN p f j∧fstN p f j≤k
  | 0,j,k,h1,h2,h => by
    have : k = j := by omega
    subst this
    exact ⟨h,by simp [fstN],by simp [fstN]⟩
  | f + 1,j,k,h1,h2,h => by
    unfold fstN
    by_cases e : p j = true
    · simp [e,h1]
    · rw [if_neg e]
      have hne : j ≠ k := fun h' => by rw [h'] at e; exact e h
      have := fstN_ok (f := f) (j := j + 1) (k := k) (by omega) (by omega) h
      exact ⟨this.1,by omega,this.2.2⟩
def onW (a b : List Int) (i j : Nat) : Bool := decide (cmn a b 0 i 0 j + cmn a b i a.length j b.length = lcsL a b)
def wayN (a b : List Int) (i : Nat) : Nat := fstN (onW a b i) b.length 0
theorem cmn_all (a b : List Int) : cmn a b 0 a.length 0 b.length = lcsL a b := by simp [cmn,sg]
theorem onW_le {a b : List Int} {i j : Nat} (hi : i≤a.length) (hj : j≤b.length) : cmn a b 0 i 0 j + cmn a b i a.length j b.length≤lcsL a b := by
  rw [← cmn_all]
  exact cmn_app (by omega) hi (by omega) hj
theorem way_on {a b : List Int} {i : Nat} (hi : i≤a.length) : onW a b i (wayN a b i) = true∧wayN a b i≤b.length∧∀ j,j≤b.length→onW a b i j = true→wayN a b i≤j := by
  obtain ⟨k,h1,h2,h3⟩ := cmn_split a b (i := 0) (h := i) (t := a.length) (j := 0) (q := b.length) (by omega) hi (by omega) (by omega)
  rw [cmn_all] at h3
  have := fstN_ok (p := onW a b i) (f := b.length) (j := 0) (k := k) (by omega) (by omega) (by simpa [onW] using h3)
  refine ⟨this.1,by unfold wayN; omega,fun j hj h => ?_⟩
  exact (fstN_ok (p := onW a b i) (f := b.length) (j := 0) (k := j) (by omega) (by omega) h).2.2
theorem way_is {a b : List Int} {i k : Nat} (hi : i≤a.length) (hk : k≤b.length) (h1 : onW a b i k = true) (h2 : ∀ j,j < k→onW a b i j = false) : wayN a b i = k := by
  obtain ⟨g1,g2,g3⟩ := way_on (a := a) (b := b) hi
  have := g3 k hk h1
  by_cases e : wayN a b i < k
  · have := h2 _ e; rw [g1] at this; cases this
  · omega
theorem way_zero (a b : List Int) : wayN a b 0 = 0 := way_is (by omega) (by omega) (by simp [onW,cmn,sg]) (by omega)
theorem way_mono {a b : List Int} {i h : Nat} (hih : i≤h) (hh : h≤a.length) : wayN a b i≤wayN a b h := by
  obtain ⟨g1,g2,g3⟩ := way_on (a := a) (b := b) hh
  obtain ⟨k,h1,h2,h3⟩ := cmn_split a b (i := 0) (h := i) (t := h) (j := 0) (q := wayN a b h) (by omega) hih (by omega) g2
  have h4 := cmn_app (a := a) (b := b) (i := i) (h := h) (t := a.length) (j := k) (k := wayN a b h) (q := b.length) hih hh h2 g2
  have h5 := onW_le (a := a) (b := b) (i := i) (j := k) (by omega) (by omega)
  have hg := g1
  unfold onW at hg
  simp only [decide_eq_true_eq] at hg
  have := (way_on (a := a) (b := b) (i := i) (by omega)).2.2 k (by omega) (by unfold onW; simp only [decide_eq_true_eq]; omega)
  omega
theorem way_fst {a b : List Int} {i h : Nat} (hih : i≤h) (hh : h≤a.length) : wayN (a.take h) (b.take (wayN a b h)) i = wayN a b i := by
  obtain ⟨g1,g2,g3⟩ := way_on (a := a) (b := b) hh
  obtain ⟨f1,f2,f3⟩ := way_on (a := a) (b := b) (i := i) (by omega)
  have hm := way_mono (a := a) (b := b) hih hh
  generalize hJ : wayN a b h = J at *
  generalize hj : wayN a b i = j at *
  have la : (a.take h).length = h := by simp; omega
  have lb : (b.take J).length = J := by simp; omega
  have e0 : lcsL (a.take h) (b.take J) = cmn a b 0 h 0 J := by simp [cmn,sg_zero]
  have e1 : ∀ k,k≤J→onW (a.take h) (b.take J) i k = decide (cmn a b 0 i 0 k + cmn a b i h k J = cmn a b 0 h 0 J) := fun k hk => by
    unfold onW
    rw [e0,la,lb]
    unfold cmn
    rw [sg_take hih,sg_take hk,sg_take (Nat.le_refl _),sg_take (Nat.le_refl _)]
  unfold onW at g1 f1
  simp only [decide_eq_true_eq] at g1 f1
  refine way_is (by omega) (by omega) ?_ fun k hk => ?_
  · rw [e1 j hm,decide_eq_true_eq]
    -- the way through (i,j) comes to row h at k
    obtain ⟨k,h1,h2,h3⟩ := cmn_split a b (i := i) (h := h) (t := a.length) (j := j) (q := b.length) hih hh f2 (by omega)
    have h4 := cmn_app (a := a) (b := b) (i := 0) (h := i) (t := h) (j := 0) (k := j) (q := k) (by omega) hih (by omega) h1
    have h5 := onW_le (a := a) (b := b) (i := h) (j := k) hh h2
    have hJk : J≤k := g3 k h2 (by unfold onW; simp only [decide_eq_true_eq]; omega)
    obtain ⟨k2,i1,i2,i3⟩ := cmn_split a b (i := 0) (h := i) (t := h) (j := 0) (q := J) (by omega) hih (by omega) g2
    have i4 := cmn_app (a := a) (b := b) (i := i) (h := h) (t := a.length) (j := k2) (k := J) (q := b.length) hih hh i2 g2
    have i5 := onW_le (a := a) (b := b) (i := i) (j := k2) (by omega) (by omega)
    have hjk2 : j≤k2 := f3 k2 (by omega) (by unfold onW; simp only [decide_eq_true_eq]; omega)
    have m := cmn_monge a b i h (p := j) (p' := k2) (q := J) (q' := k) hjk2 i2 hJk
    have t1 := cmn_app (a := a) (b := b) (i := 0) (h := i) (t := h) (j := 0) (k := j) (q := J) (by omega) hih (by omega) hm
    have t2 := cmn_app (a := a) (b := b) (i := i) (h := h) (t := a.length) (j := k2) (k := k) (q := b.length) hih hh (by omega) h2
    omega
  · rw [e1 k (by omega),decide_eq_false_iff_not]
    intro e
    have h4 := cmn_app (a := a) (b := b) (i := i) (h := h) (t := a.length) (j := k) (k := J) (q := b.length) hih hh (by omega) g2
    have h5 := onW_le (a := a) (b := b) (i := i) (j := k) (by omega) (by omega)
    have := f3 k (by omega) (by unfold onW; simp only [decide_eq_true_eq]; omega)
    omega
theorem way_snd {a b : List Int} {i h : Nat} (hh : h + i≤a.length) : wayN (a.drop h) (b.drop (wayN a b h)) i + wayN a b h = wayN a b (h + i) := by
  obtain ⟨g1,g2,g3⟩ := way_on (a := a) (b := b) (i := h) (by omega)
  obtain ⟨f1,f2,f3⟩ := way_on (a := a) (b := b) (i := h + i) hh
  have hm := way_mono (a := a) (b := b) (i := h) (h := h + i) (by omega) hh
  generalize hJ : wayN a b h = J at *
  generalize hj : wayN a b (h + i) = j at *
  have la : h + (a.drop h).length = a.length := by simp; omega
  have lb : J + (b.drop J).length = b.length := by simp; omega
  have e0 : lcsL (a.drop h) (b.drop J) = cmn a b h a.length J b.length := by simp [cmn,sg_end]
  have e1 : ∀ k,onW (a.drop h) (b.drop J) i k = decide (cmn a b h (h + i) J (J + k) + cmn a b (h + i) a.length (J + k) b.length = cmn a b h a.length J b.length) := fun k => by
    unfold onW
    rw [e0]
    unfold cmn
    rw [sg_drop,sg_drop,sg_drop,sg_drop,la,lb,Nat.add_zero,Nat.add_zero]
  unfold onW at g1 f1
  simp only [decide_eq_true_eq] at g1 f1
  suffices hw : wayN (a.drop h) (b.drop J) i = j - J by omega
  refine way_is (by omega) (by omega) ?_ fun k hk => ?_
  · rw [e1,decide_eq_true_eq,show J + (j - J) = j by omega]
    -- the way through (h + i,j) comes from row h at k
    obtain ⟨k,h1,h2,h3⟩ := cmn_split a b (i := 0) (h := h) (t := h + i) (j := 0) (q := j) (by omega) (by omega) (by omega) f2
    have h4 := cmn_app (a := a) (b := b) (i := h) (h := h + i) (t := a.length) (j := k) (k := j) (q := b.length) (by omega) hh h2 f2
    have h5 := onW_le (a := a) (b := b) (i := h) (j := k) (by omega) (by omega)
    have hJk : J≤k := g3 k (by omega) (by unfold onW; simp only [decide_eq_true_eq]; omega)
    obtain ⟨k2,i1,i2,i3⟩ := cmn_split a b (i := h) (h := h + i) (t := a.length) (j := J) (q := b.length) (by omega) hh g2 (by omega)
    have i4 := cmn_app (a := a) (b := b) (i := 0) (h := h) (t := h + i) (j := 0) (k := J) (q := k2) (by omega) (by omega) (by omega) i1
    have i5 := onW_le (a := a) (b := b) (i := h + i) (j := k2) hh i2
    have hjk2 : j≤k2 := f3 k2 (by omega) (by unfold onW; simp only [decide_eq_true_eq]; omega)
    have m := cmn_monge a b h (h + i) (p := J) (p' := k) (q := j) (q' := k2) hJk h2 hjk2
    have t1 := cmn_app (a := a) (b := b) (i := h) (h := h + i) (t := a.length) (j := J) (k := j) (q := b.length) (by omega) hh hm f2
    have t2 := cmn_app (a := a) (b := b) (i := 0) (h := h) (t := h + i) (j := 0) (k := k) (q := k2) (by omega) (by omega) (by omega) (by omega)
    omega
  · rw [e1,decide_eq_false_iff_not]
    intro e
    have h4 := cmn_app (a := a) (b := b) (i := 0) (h := h) (t := h + i) (j := 0) (k := J) (q := J + k) (by omega) (by omega) (by omega) (by omega)
    have h5 := onW_le (a := a) (b := b) (i := h + i) (j := J + k) hh (by omega)
    have := f3 (J + k) (by omega) (by unfold onW; simp only [decide_eq_true_eq]; omega)
    omega
end Go.PL

namespace Go.PL
set_option linter.unusedVariables false
set_option linter.unusedSimpArgs false
open List
structure Sp where
  k : Nat
  n : Nat
  deriving DecidableEq
def Sp.ok (s : Sp) : Prop := s.k≤2∧1≤s.n∧s.n≤1048576
def Sp.may (s : Sp) : Prop := s.k≤2∧s.n≤1048576
def unitsS (l : List Sp) : List Nat := l.flatMap fun s => replicate s.n s.k
@[simp] theorem units_nil : unitsS [] = [] := rfl
@[simp] theorem units_cons (s : Sp) (l : List Sp) : unitsS (s :: l) = replicate s.n s.k ++ unitsS l := rfl
@[simp] theorem units_app (l m : List Sp) : unitsS (l ++ m) = unitsS l ++ unitsS m := by simp [unitsS]
def fl (k n : Nat) : List Sp := if n = 0 then [] else [⟨k,n⟩]
@[simp] theorem fl_zero (k : Nat) : fl k 0 = [] := rfl
theorem fl_pos {k n : Nat} (h : 0 < n) : fl k n = [⟨k,n⟩] := by unfold fl; rw [if_neg (by omega)]
@[simp] theorem units_fl (k n : Nat) : unitsS (fl k n) = replicate n k := by
  unfold fl
  split
  · rename_i h; simp [h]
  · simp [unitsS]
theorem fl_ok {k n : Nat} (hk : k≤2) (hn : n≤1048576) : ∀ s,s ∈ fl k n→s.ok := by
  intro s hs
  unfold fl at hs
  split at hs
  · simp at hs
  · simp at hs; subst hs; exact ⟨hk,by simp; omega,hn⟩
def goU : List Nat→Nat→Nat→Nat→List Sp
  | [],k,d,i => fl 0 k ++ (fl 1 d ++ fl 2 i)
  | x :: us,k,d,i => if x = 0 then fl 1 d ++ (fl 2 i ++ goU us (k + 1) 0 0) else fl 0 k ++ (if x = 1 then goU us 0 (d + 1) i else goU us 0 d (i + 1))
def nrmS (us : List Nat) : List Sp := goU us 0 0 0
theorem goU_keep : ∀ (n : Nat) (us : List Nat) (k d i : Nat),0 < n→(d = 0∧i = 0∨k = 0)→goU (replicate n 0 ++ us) k d i = fl 1 d ++ (fl 2 i ++ goU us (k + n) 0 0)
  | n + 1,us,k,d,i,_,h => by
    rw [List.replicate_succ,List.cons_append,goU,if_pos rfl]
    cases n with
    | zero => simp
    | succ n =>
      rw [goU_keep (n + 1) us (k + 1) 0 0 (by omega) (.inl ⟨rfl,rfl⟩)]
      simp
      rw [show k + 1 + (n + 1) = k + (n + 1 + 1) by omega]
theorem goU_del : ∀ (n : Nat) (us : List Nat) (k d i : Nat),0 < n→goU (replicate n 1 ++ us) k d i = fl 0 k ++ goU us 0 (d + n) i
  | n + 1,us,k,d,i,_ => by
    rw [List.replicate_succ,List.cons_append,goU,if_neg (by decide),if_pos rfl]
    cases n with
    | zero => simp
    | succ n =>
      rw [goU_del (n + 1) us 0 (d + 1) i (by omega)]
      simp
      rw [show d + 1 + (n + 1) = d + (n + 1 + 1) by omega]
theorem goU_ins : ∀ (n : Nat) (us : List Nat) (k d i : Nat),0 < n→goU (replicate n 2 ++ us) k d i = fl 0 k ++ goU us 0 d (i + n)
  | n + 1,us,k,d,i,_ => by
    rw [List.replicate_succ,List.cons_append,goU,if_neg (by decide),if_neg (by decide)]
    cases n with
    | zero => simp
    | succ n =>
      rw [goU_ins (n + 1) us 0 d (i + 1) (by omega)]
      simp
      rw [show i + 1 + (n + 1) = i + (n + 1 + 1) by omega]
def stpU (p q : Nat) : List Nat := if p < q then replicate (q - p - 1) 2 ++ [0] else [1]
def wayU (a b : List Int) : List Nat := (List.range a.length).flatMap (fun i => stpU (wayN a b i) (wayN a b (i + 1))) ++ replicate (b.length - wayN a b a.length) 2
theorem flatMap_range_add {α : Type} (f : Nat→List α) (m n : Nat) : (List.range (m + n)).flatMap f = (List.range m).flatMap f ++ (List.range n).flatMap (fun i => f (m + i)) := by
  rw [List.range_add,List.flatMap_append,List.flatMap_map]
theorem flatMap_range_congr {α : Type} {f g : Nat→List α} {n : Nat} (h : ∀ i,i < n→f i = g i) : (List.range n).flatMap f = (List.range n).flatMap g := by
  induction n with
  | zero => rfl
  | succ n ih =>
    rw [List.range_succ,List.flatMap_append,List.flatMap_append,ih fun i hi => h i (by omega)]
    simp [h n (by omega)]
theorem stpU_add (p q t : Nat) : stpU (p + t) (q + t) = stpU p q := by
  unfold stpU
  by_cases h : p < q
  · rw [if_pos h,if_pos (by omega),show q + t - (p + t) - 1 = q - p - 1 by omega]
  · rw [if_neg h,if_neg (by omega)]
theorem wayU_half (a b : List Int) {h : Nat} (hh : h≤a.length) : wayU a b = wayU (a.take h) (b.take (wayN a b h)) ++ wayU (a.drop h) (b.drop (wayN a b h)) := by
  obtain ⟨g1,g2,g3⟩ := way_on (a := a) (b := b) hh
  have la : (a.take h).length = h := by simp; omega
  have lb : (b.take (wayN a b h)).length = wayN a b h := by simp; omega
  have ld : (a.drop h).length = a.length - h := by simp
  have le : (b.drop (wayN a b h)).length = b.length - wayN a b h := by simp
  have e1 : wayU (a.take h) (b.take (wayN a b h)) = (List.range h).flatMap fun i => stpU (wayN a b i) (wayN a b (i + 1)) := by
    unfold wayU
    rw [la,lb,way_fst (Nat.le_refl _) hh,Nat.sub_self,List.replicate_zero,List.append_nil]
    exact flatMap_range_congr fun i hi => by rw [way_fst (by omega) hh,way_fst (by omega) hh]
  have e2 : wayU (a.drop h) (b.drop (wayN a b h)) = (List.range (a.length - h)).flatMap (fun i => stpU (wayN a b (h + i)) (wayN a b (h + i + 1))) ++ replicate (b.length - wayN a b a.length) 2 := by
    unfold wayU
    rw [ld,le]
    have hw := way_snd (a := a) (b := b) (h := h) (i := a.length - h) (by omega)
    rw [show h + (a.length - h) = a.length by omega] at hw
    congr 1
    · refine flatMap_range_congr fun i hi => ?_
      have w1 := way_snd (a := a) (b := b) (h := h) (i := i) (by omega)
      have w2 := way_snd (a := a) (b := b) (h := h) (i := i + 1) (by omega)
      rw [← stpU_add _ _ (wayN a b h),w1,w2]
      rfl
    · congr 1; omega
  rw [e1,e2,← List.append_assoc]
  unfold wayU
  congr 1
  have := flatMap_range_add (fun i => stpU (wayN a b i) (wayN a b (i + 1))) h (a.length - h)
  rw [show h + (a.length - h) = a.length by omega] at this
  exact this
theorem wayU_nil (b : List Int) : wayU [] b = replicate b.length 2 := by
  unfold wayU
  simp [way_zero]
theorem wayU_nil' (a : List Int) : wayU a [] = replicate a.length 1 := by
  have h : ∀ i,i≤a.length→wayN a [] i = 0 := fun i hi => by have := (way_on (a := a) (b := []) hi).2.1; simpa using this
  unfold wayU
  rw [h _ (Nat.le_refl _)]
  simp
  rw [flatMap_range_congr (g := fun _ => [1]) fun i hi => by rw [h i (by omega),h (i + 1) (by omega)]; rfl]
  generalize a.length = n
  induction n with
  | zero => rfl
  | succ n ih => rw [List.range_succ,List.flatMap_append,ih,List.replicate_succ']; simp
def fstI (x : Int) : List Int→Nat
  | [] => 0
  | y :: b => if x = y then 0 else fstI x b + 1
theorem fstI_le (x : Int) : ∀ b,fstI x b≤b.length
  | [] => by simp [fstI]
  | y :: b => by
    have := fstI_le x b
    unfold fstI
    split <;> simp <;> omega
theorem fstI_at (x : Int) : ∀ {b},(h : fstI x b < b.length)→b[fstI x b] = x
  | [],h => by simp [fstI] at h
  | y :: b,h => by
    unfold fstI at h
    by_cases e : x = y
    · simp [fstI,e]
    · rw [if_neg e] at h
      simp only [fstI,if_neg e,List.getElem_cons_succ]
      exact fstI_at x (by simpa using h)
theorem fstI_not (x : Int) : ∀ {b : List Int} {j : Nat},j≤fstI x b→x ∉ b.take j
  | [],j,h => by simp
  | y :: b,0,h => by simp
  | y :: b,j + 1,h => by
    unfold fstI at h
    by_cases e : x = y
    · rw [if_pos e] at h; omega
    · rw [if_neg e] at h
      simp [e,fstI_not x (b := b) (j := j) (by omega)]
theorem lcs_one (x : Int) (b : List Int) : lcsL [x] b = if x ∈ b then 1 else 0 := by
  unfold lcsL
  cases e : aft x b with
  | none => simp [aft_none e]
  | some b' =>
    obtain ⟨b0,rfl,_⟩ := aft_has e
    simp
theorem way_one (x : Int) (b : List Int) : wayN [x] b 1 = if fstI x b < b.length then fstI x b + 1 else 0 := by
  have on : ∀ j,onW [x] b 1 j = decide ((if x ∈ b.take j then 1 else 0) = if x ∈ b then 1 else 0) := fun j => by
    unfold onW cmn
    rw [lcs_one]
    simp [sg_zero,sg_nil,lcs_one,sg]
  have hle := fstI_le x b
  by_cases h : fstI x b < b.length
  · rw [if_pos h]
    have hx : x ∈ b := by rw [← fstI_at x h]; exact List.getElem_mem h
    refine way_is (by simp) (by omega) ?_ fun j hj => ?_
    · rw [on,if_pos hx,if_pos ?_]
      · rfl
      · rw [List.take_succ_eq_append_getElem h,fstI_at x h]; simp
    · rw [on,if_pos hx,if_neg (fstI_not x (by omega))]
      rfl
  · rw [if_neg h]
    refine way_is (by simp) (by omega) ?_ fun j hj => by omega
    rw [on,if_neg (by simp),if_neg ?_]
    · rfl
    · have := fstI_not x (b := b) (j := b.length) (by omega)
      rwa [List.take_of_length_le (Nat.le_refl _)] at this
theorem wayU_one (x : Int) (b : List Int) : wayU [x] b = if fstI x b < b.length then replicate (fstI x b) 2 ++ (0 :: replicate (b.length - fstI x b - 1) 2) else 1 :: replicate b.length 2 := by
  unfold wayU
  have : (List.range [x].length) = [0] := rfl
  rw [this,show [x].length = 1 from rfl,way_one]
  simp only [List.flatMap_cons,List.flatMap_nil,List.append_nil,way_zero,Nat.zero_add]
  rw [way_one]
  split
  · unfold stpU
    rw [if_pos (by omega),show fstI x b + 1 - 0 - 1 = fstI x b by omega,show b.length - (fstI x b + 1) = b.length - fstI x b - 1 by omega]
    simp
  · simp [stpU]
end Go.PL

namespace Go.PL
set_option linter.unusedVariables false
set_option linter.unusedSimpArgs false
open List
def mcost (a b : List Int) (i j : Nat) : Nat := i + j - 2 * lcsL (a.take i) (b.take j)
theorem mcost_lcs (a b : List Int) (i j : Nat) : lcsL (a.take i) (b.take j)≤i∧lcsL (a.take i) (b.take j)≤j := by
  have h := lcs_len (a.take i) (b.take j)
  simp at h
  omega
theorem mcost_diag (a b : List Int) (i j : Nat) : i≤j + mcost a b i j∧j≤i + mcost a b i j := by
  have h := mcost_lcs a b i j
  unfold mcost
  omega
theorem take_succ_end {l : List Int} {i : Nat} (h : l.length≤i) : l.take (i + 1) = l.take i := by
  rw [List.take_of_length_le (by omega),List.take_of_length_le h]
theorem mcost_step {a b : List Int} {i j : Nat} (h : ¬ ∃ (h1 : i < a.length) (h2 : j < b.length),a[i] = b[j]) : mcost a b (i + 1) (j + 1) = mcost a b i (j + 1) + 1∨mcost a b (i + 1) (j + 1) = mcost a b (i + 1) j + 1 := by
  have g1 := mcost_lcs a b i (j + 1)
  have g2 := mcost_lcs a b (i + 1) j
  have g3 := mcost_lcs a b (i + 1) (j + 1)
  unfold mcost
  by_cases h1 : i < a.length
  · by_cases h2 : j < b.length
    · have hne : a[i] ≠ b[j] := fun e => h ⟨h1,h2,e⟩
      have e := lcs_snoc_else hne (a.take i) (b.take j)
      rw [← List.take_succ_eq_append_getElem h1,← List.take_succ_eq_append_getElem h2] at e
      omega
    · rw [take_succ_end (l := b) (by omega)] at *
      omega
  · rw [take_succ_end (l := a) (by omega)] at *
    omega
theorem mcost_same {a b : List Int} {i j : Nat} (h1 : i < a.length) (h2 : j < b.length) (h : a[i] = b[j]) : mcost a b (i + 1) (j + 1) = mcost a b i j := by
  have g := mcost_lcs a b i j
  unfold mcost
  rw [List.take_succ_eq_append_getElem h1,List.take_succ_eq_append_getElem h2,h,lcs_snoc_same]
  omega
theorem mcost_del (a b : List Int) (i j : Nat) : mcost a b (i + 1) j≤mcost a b i j + 1 := by
  have : lcsL (a.take i) (b.take j)≤lcsL (a.take (i + 1)) (b.take j) := lcs_sub (List.take_sublist_take_left (by omega)) (List.Sublist.refl _)
  unfold mcost
  omega
theorem mcost_ins (a b : List Int) (i j : Nat) : mcost a b i (j + 1)≤mcost a b i j + 1 := by
  have : lcsL (a.take i) (b.take j)≤lcsL (a.take i) (b.take (j + 1)) := lcs_sub (List.Sublist.refl _) (List.take_sublist_take_left (by omega))
  unfold mcost
  omega
def distL (a b : List Int) : Nat := a.length + b.length - 2 * lcsL a b
theorem dist_eq (a b : List Int) : mcost a b a.length b.length = distL a b := by simp [mcost,distL]
theorem dist_le {a b : List Int} {i j : Nat} (h1 : a.length≤i) (h2 : b.length≤j) : distL a b≤mcost a b i j := by
  unfold mcost distL
  rw [List.take_of_length_le h1,List.take_of_length_le h2]
  omega
structure FarG (a b : List Int) (c d p x : Nat) : Prop where
  on : p≤x + c
  may : mcost a b x (x + c - p)≤d
  most : ∀ i j,i + c = j + p→mcost a b i j≤d→i≤x
structure FarS (a b : List Int) (c d p x : Nat) : Prop where
  on : p≤x + c
  may : mcost a b x (x + c - p)≤d
  most : ∀ i j,i + c = j + p→mcost a b i j≤d→i≤x∨∃ i' j',i = i' + 1∧j = j' + 1∧(∃ (h1 : i' < a.length) (h2 : j' < b.length),a[i'] = b[j'])∧mcost a b i' j'≤d
theorem far_zero (a b : List Int) (c : Nat) : FarS a b c 0 c 0 := by
  refine ⟨by omega,by simp [mcost],fun i j h hm => ?_⟩
  have : i = j := by omega
  subst this
  cases i with
  | zero => exact .inl (by omega)
  | succ i =>
    right
    refine ⟨i,i,rfl,rfl,?_⟩
    by_cases hs : ∃ (h1 : i < a.length) (h2 : i < b.length),a[i] = b[i]
    · obtain ⟨h1,h2,e⟩ := hs
      rw [mcost_same h1 h2 e] at hm
      exact ⟨⟨h1,h2,e⟩,hm⟩
    · have := mcost_step hs
      omega
theorem far_step {a b : List Int} {c d p x : Nat} (hc : d + 1≤c) (hp1 : c≤p + (d + 1)) (hp2 : p≤c + (d + 1)) (hp0 : 1≤p) {y z : Nat} (hy : p + (d + 1) ≠ c→FarG a b c d (p - 1) y) (hz : p ≠ c + (d + 1)→FarG a b c d (p + 1) z)
    (hx : (p + (d + 1) ≠ c∧x = y + 1)∨(p ≠ c + (d + 1)∧x = z)) (hxy : p + (d + 1) ≠ c→y + 1≤x) (hxz : p ≠ c + (d + 1)→z≤x) : FarS a b c (d + 1) p x := by
  have on : p≤x + c∧mcost a b x (x + c - p)≤d + 1 := by
    rcases hx with ⟨h,rfl⟩ | ⟨h,rfl⟩
    · have g := hy h
      have g1 := g.on
      have g2 := g.may
      have := mcost_del a b y (y + c - (p - 1))
      refine ⟨by omega,?_⟩
      rw [show y + 1 + c - p = y + c - (p - 1) by omega]
      omega
    · have g := hz h
      have g1 := g.on
      have g2 := g.may
      have := mcost_ins a b x (x + c - (p + 1))
      refine ⟨by omega,?_⟩
      rw [show x + c - p = x + c - (p + 1) + 1 by omega]
      omega
  refine ⟨on.1,on.2,fun i j h hm => ?_⟩
  cases i with
  | zero => exact .inl (by omega)
  | succ i =>
    cases j with
    | zero => exact .inl (by omega)
    | succ j =>
      by_cases hs : ∃ (h1 : i < a.length) (h2 : j < b.length),a[i] = b[j]
      · obtain ⟨h1,h2,e⟩ := hs
        rw [mcost_same h1 h2 e] at hm
        exact .inr ⟨i,j,rfl,rfl,⟨h1,h2,e⟩,hm⟩
      · left
        rcases mcost_step hs with e | e
        · have hd := mcost_diag a b i (j + 1)
          have hne : p + (d + 1) ≠ c := fun h' => by omega
          have := (hy hne).most i (j + 1) (by omega) (by omega)
          have := hxy hne
          omega
        · have hd := mcost_diag a b (i + 1) j
          have hne : p ≠ c + (d + 1) := fun h' => by omega
          have := (hz hne).most (i + 1) j (by omega) (by omega)
          have := hxz hne
          omega
theorem far_go {a b : List Int} {c d p x : Nat} (h : FarS a b c d p x) {y : Nat} (hy : x + c = y + p) (h1 : x < a.length) (h2 : y < b.length) (e : a[x] = b[y]) : FarS a b c d p (x + 1) := by
  have hm := h.may
  rw [show x + c - p = y by omega] at hm
  refine ⟨by omega,?_,fun i j hij hc => ?_⟩
  · rw [show x + 1 + c - p = y + 1 by omega,mcost_same h1 h2 e]
    exact hm
  · rcases h.most i j hij hc with k | k
    · exact .inl (by omega)
    · exact .inr k
theorem far_end {a b : List Int} {c d p x : Nat} (h : FarS a b c d p x) {y : Nat} (hy : x + c = y + p) (hs : ¬ ∃ (h1 : x < a.length) (h2 : y < b.length),a[x] = b[y]) : FarG a b c d p x := by
  refine ⟨h.on,h.may,fun i => ?_⟩
  induction i with
  | zero => intro j _ _; omega
  | succ i ih =>
    intro j hij hc
    rcases h.most _ _ hij hc with k | ⟨i',j',e1,e2,k,km⟩
    · exact k
    · have e1 : i = i' := by omega
      subst e1
      have := ih j' (by omega) km
      by_cases e : i = x
      · subst e
        have : j' = y := by omega
        subst this
        exact absurd k hs
      · omega
theorem far_done {a b : List Int} {c d p x y : Nat} (h : FarG a b c d p x) (hy : x + c = y + p) (h1 : a.length≤x) (h2 : b.length≤y) : distL a b≤d := by
  have := h.may
  rw [show x + c - p = y by omega] at this
  have := dist_le (a := a) (b := b) h1 h2
  omega
theorem far_comes {a b : List Int} {c d p x y : Nat} (h : FarG a b c d p x) (hy : x + c = y + p) (hp : a.length + c = b.length + p) (hd : distL a b≤d) : a.length≤x∧b.length≤y := by
  have := h.most a.length b.length hp (by rw [dist_eq]; exact hd)
  omega
theorem dist_diag (a b : List Int) : a.length≤b.length + distL a b∧b.length≤a.length + distL a b∧(a.length + b.length + distL a b) % 2 = 0 := by
  have h := lcs_len a b
  unfold distL
  omega
end Go.PL

namespace Go.Proofs.Ytmeldaflhkiopaa
set_option linter.unusedVariables false
set_option linter.unusedSimpArgs false
open Go Go.G Go.Proofs Go.PL
def fnL (f : Nat→Int) (n : Nat) : List A := (List.range n).map fun q => iv (f q)
@[simp] theorem fnL_len {f : Nat→Int} {n : Nat} : (fnL f n).length = n := by simp [fnL]
@[simp] theorem fnL_get {f : Nat→Int} {n k : Nat} (h : k < n) : (fnL f n)[k]? = some (iv (f k)) := by simp [fnL,h]
@[simp] theorem fnL_at {f : Nat→Int} {n k : Nat} (h : k < (fnL f n).length) : (fnL f n)[k] = iv (f k) := by simp [fnL]
@[simp] theorem fnL_set {f : Nat→Int} {n k : Nat} {z : Int} : (fnL f n).set k (iv z) = fnL (fun q => if q = k then z else f q) n := by
  apply List.ext_getElem?
  intro i
  rw [List.getElem?_set]
  by_cases hi : i < n
  · rw [fnL_get hi]
    by_cases e : k = i
    · subst e; simp [hi,fnL_get hi]
    · rw [if_neg e,fnL_get hi,if_neg (Ne.symm e)]
  · rw [List.getElem?_eq_none (l := fnL _ n) (by simp; omega)]
    split
    · rename_i e; rw [if_neg (by simp; omega),List.getElem?_eq_none (by simp; omega)]
    · rw [List.getElem?_eq_none (by simp; omega)]
theorem fnL_zero {n : Nat} : List.replicate n (iv 0) = fnL (fun _ => 0) n := by
  apply List.ext_getElem?
  intro i
  by_cases hi : i < n
  · rw [fnL_get hi]; simp [hi]
  · rw [List.getElem?_eq_none (by simp; omega),List.getElem?_eq_none (by simp; omega)]
theorem fnL_congr {f g : Nat→Int} {n : Nat} (h : ∀ q,q < n→f q = g q) : fnL f n = fnL g n := by
  unfold fnL
  exact List.map_congr_left fun q hq => by rw [h q (by simpa using hq)]
theorem fnL_list (l : List Int) : l.map iv = fnL (fun q => l.getD q 0) l.length := by
  apply List.ext_getElem?
  intro i
  by_cases hi : i < l.length
  · rw [fnL_get hi]; simp [hi]
  · rw [List.getElem?_eq_none (by simp; omega),List.getElem?_eq_none (by simp; omega)]
theorem frz_fnL {H : Hp} {o : Nm} {u n : Nat} {f : Nat→Int} (h : H o = ⟨u,.arr 1 (fnL f n)⟩) : Frz H (.osl o u 1 0 n) (.sl false (fnL f n)) := by
  have := frz_row (H := H) (o := o) (u := u) (sz := 1) (l := List.range n) (f := fun q => iv (f q)) (n := n) (by rw [h]; simp [fnL]) (by simp) (fun x => rfl)
  exact this
theorem soft_iv18 (l : List Int) : A.softL (l.map iv) = l.map iv := by rw [softL_map,List.map_map]; rfl
theorem soft_iv_take (l : List Int) (n : Nat) : A.softL ((l.map iv).take n) = (l.map iv).take n := by rw [← List.map_take,soft_iv18]
theorem soft_iv_drop (l : List Int) (n : Nat) : A.softL ((l.map iv).drop n) = (l.map iv).drop n := by rw [← List.map_drop,soft_iv18]
theorem reach_spec {f : Nat→Int} {n k : Nat} {lo hi : Bool} (hk : 1≤k) (hk2 : k + 1 < n) (hn : n≤100000000) (hf : ∀ q,-1000000000≤f q∧f q≤1000000000) : G.Spec Try.prog 95 [.sl false (fnL f n),iv k,bv lo,bv hi] (iv (if lo = true∧hi = true then 0 else if lo = true∨(hi = false∧f (k - 1) < f (k + 1)) then f (k + 1) else f (k - 1) + 1)) := by
  have e1 : IntKind.i64.wrap ((k : Int) - 1) = ((k - 1 : Nat) : Int) := by rw [i64_same (by omega) (by omega)]; omega
  have e2 : IntKind.i64.wrap ((k : Int) + 1) = ((k + 1 : Nat) : Int) := by rw [i64_same (by omega) (by omega)]; omega
  have h1 := hf (k - 1)
  have e3 : IntKind.i64.wrap (f (k - 1) + 1) = f (k - 1) + 1 := i64_same (by omega) (by omega)
  have g1 : (fnL f n)[k - 1]? = some (iv (f (k - 1))) := fnL_get (by omega)
  have g2 : (fnL f n)[k + 1]? = some (iv (f (k + 1))) := fnL_get hk2
  have b1 : k - 1 < n := by omega
  have b2 : (0 : Int)≤(k : Int) + 1 := by omega
  have b3 : (k : Int) + 1 < n := by omega
  refine spec_of t_lcs_reach (by simp) fun w0 I0 => ?_
  unfold c_lcs_reach
  cases lo <;> cases hi
  · by_cases h : f (k - 1) < f (k + 1)
    · simp [e1,e2,e3,g1,g2,h,b1,b2,b3,hk2]
      exact frz_bare rfl
    · simp [e1,e2,e3,g1,g2,h,b1,b2,b3,hk2]
      exact frz_int rfl
  · simp [e1,e2,e3,g1,g2,b1,b2,b3,hk2]
    exact frz_bare rfl
  · simp [e1,e2,e3,g1,g2,b1,b2,b3,hk2]
    exact frz_bare rfl
  · simp
    exact frz_bare rfl
section
variable {n0 : Nat} {w0 : World} {I0 : Nat→Prop} {Q : Exit→Sta→Prop}
theorem row_l1 {a b : List Int} {i u : Nat} {x : Int} (hi : i < a.length) (hx : a[i] = x) (hb : b.length≤1000000) : ∀ (m j : Nat) (f : Nat→Int) (H : Hp),j + m = b.length→(∀ q,q≤b.length→f q = if q≤j then (lcsL (a.take (i + 1)) (b.take q) : Nat) else (lcsL (a.take i) (b.take q) : Nat))→H [0] = ⟨u,.arr 1 (fnL f (b.length + 1))⟩ →
    (∀ (f' : Nat→Int) (z : Int) (H' : Hp) (st : List (Nat × A)),(∀ q,q≤b.length→f' q = (lcsL (a.take (i + 1)) (b.take q) : Nat))→H' [0] = ⟨u,.arr 1 (fnL f' (b.length + 1))⟩→Q (.exit 2) ⟨lk ([(1,ivs b),(5,.osl [0] u 1 0 (b.length + 1)),(7,iv x),(8,iv z),(16,ivs a),(17,iv a.length),(18,iv i)] ++ st),H'⟩) →
    LoopC (cx Try.prog w0 I0 n0) l1_lcs_row Q ⟨lk [(1,ivs b),(5,.osl [0] u 1 0 (b.length + 1)),(7,iv x),(8,iv (lcsL (a.take i) (b.take j) : Nat)),(16,ivs a),(17,iv a.length),(18,iv i),(22,ivs b),(23,iv b.length),(24,iv j)],H⟩ := by
  intro m
  induction m with
  | zero =>
    intro j f H hm hf hH hq
    refine loopC_once mixed l1_lcs_row.eq_1 ?_
    have : j = b.length := by omega
    subst this
    simp
    exact hq f _ H [(22,ivs b),(23,iv b.length),(24,iv b.length),(25,bv false)] (fun q hq => by rw [hf q hq,if_pos hq]) hH
  | succ m ih =>
    intro j f H hm hf hH hq
    have hj : j < b.length := by omega
    have e1 : IntKind.i64.wrap ((j : Int) + 1) = ((j + 1 : Nat) : Int) := by rw [i64_same (by omega) (by omega)]; omega
    have g1 : (fnL f (b.length + 1))[j]? = some (iv (f j)) := fnL_get (by omega)
    have g2 : (fnL f (b.length + 1))[j + 1]? = some (iv (f (j + 1))) := fnL_get (by omega)
    have f1 := hf j (by omega)
    have f2 := hf (j + 1) (by omega)
    rw [if_pos (Nat.le_refl _)] at f1
    rw [if_neg (by omega)] at f2
    have m0 : (0 : Int)≤(j : Int) + 1 := by omega
    have m1 : (j : Int) < (b.length : Int) + 1 := by omega
    have ll := lcs_len (a.take i) (b.take j)
    simp at ll
    have e2 : IntKind.i64.wrap ((lcsL (a.take i) (b.take j) : Nat) + 1) = ((lcsL (a.take i) (b.take j) + 1 : Nat) : Int) := by rw [i64_same (by omega) (by omega)]; omega
    have tk : a.take (i + 1) = a.take i ++ [x] := by rw [List.take_succ_eq_append_getElem hi,hx]
    have tj : b.take (j + 1) = b.take j ++ [b[j]] := List.take_succ_eq_append_getElem hj
    have next : ∀ (z : Int) (f' : Nat→Int),z = (lcsL (a.take (i + 1)) (b.take (j + 1)) : Nat)→(∀ q,q ≠ j + 1→f' q = f q)→f' (j + 1) = z→LoopC (cx Try.prog w0 I0 n0) l1_lcs_row Q ⟨lk [(1,ivs b),(5,.osl [0] u 1 0 (b.length + 1)),(7,iv x),(8,iv (lcsL (a.take i) (b.take (j + 1)) : Nat)),(16,ivs a),(17,iv a.length),(18,iv i),(22,ivs b),(23,iv b.length),(24,iv (j + 1 : Nat))],updF H [0] ⟨u,.arr 1 (fnL f' (b.length + 1))⟩⟩ := fun z f' hz h1 h2 => by
      refine ih (j + 1) f' _ (by omega) (fun q hq => ?_) (by simp [updF_app]) hq
      by_cases e : q = j + 1
      · subst e; rw [if_pos (Nat.le_refl _),h2,hz]
      · rw [h1 q e,hf q hq]
        by_cases h3 : q≤j
        · rw [if_pos h3,if_pos (by omega)]
        · rw [if_neg h3,if_neg (by omega)]
    refine loopC_once mixed l1_lcs_row.eq_1 ?_
    by_cases h : x = b[j]
    · simp [hj,h,e1,g2,hH,m0,m1]
      rw [k1_lcs_row.eq_1]
      have hjb : j < b.length + 1 := by omega
      simp [hj,h,e1,hjb,hH,m0,m1,updF_app,e2]
      rw [f2,← h]
      have e := lcs_snoc_same x (a.take i) (b.take j)
      have e' := lcs_snoc_le x (a.take i) (b.take j)
      rw [← tk] at e e'
      rw [h,← tj] at e
      refine next _ _ rfl (fun q hq => by simp [hq]) ?_
      simp
      rw [f1,e]
      omega
    · simp [hj,h,e1,g2,hH,m0,m1]
      rw [k1_lcs_row.eq_1]
      have hjb : j < b.length + 1 := by omega
      simp [hj,h,e1,hjb,hH,m0,m1]
      rw [f2]
      have e := lcs_snoc_else h (a.take i) (b.take j)
      rw [← tj,← tk] at e
      refine next _ _ rfl (fun q hq => by simp [hq]) ?_
      simp
      rw [f1,e]
      omega
theorem row_l2 {a b : List Int} {u : Nat} (ha : a.length≤1000000) (hb : b.length≤1000000) (hq : ∀ (f' : Nat→Int) (H' : Hp) (st : List (Nat × A)),(∀ q,q≤b.length→f' q = (lcsL a (b.take q) : Nat))→H' [0] = ⟨u,.arr 1 (fnL f' (b.length + 1))⟩→Q (.exit 0) ⟨lk ([(1,ivs b),(5,.osl [0] u 1 0 (b.length + 1))] ++ st),H'⟩) : ∀ (m i : Nat) (f : Nat→Int) (H : Hp),i + m = a.length→(∀ q,q≤b.length→f q = (lcsL (a.take i) (b.take q) : Nat))→H [0] = ⟨u,.arr 1 (fnL f (b.length + 1))⟩ →
    LoopC (cx Try.prog w0 I0 n0) l2_lcs_row Q ⟨lk [(1,ivs b),(5,.osl [0] u 1 0 (b.length + 1)),(16,ivs a),(17,iv a.length),(18,iv i)],H⟩ := by
  intro m
  induction m with
  | zero =>
    intro i f H hm hf hH
    refine loopC_once mixed l2_lcs_row.eq_1 ?_
    have : i = a.length := by omega
    subst this
    simp
    exact hq f H [(16,ivs a),(17,iv a.length),(18,iv a.length),(19,bv false)] (fun q hq => by rw [hf q hq,List.take_of_length_le (Nat.le_refl _)]) hH
  | succ m ih =>
    intro i f H hm hf hH
    have hi : i < a.length := by omega
    have e1 : IntKind.i64.wrap ((i : Int) + 1) = ((i + 1 : Nat) : Int) := by rw [i64_same (by omega) (by omega)]; omega
    refine loopC_once mixed l2_lcs_row.eq_1 ?_
    simp [hi]
    refine LoopC.le (le_list [(1,ivs b),(5,.osl [0] u 1 0 (b.length + 1)),(7,iv a[i]),(8,iv (lcsL (a.take i) (b.take 0) : Nat)),(16,ivs a),(17,iv a.length),(18,iv i),(22,ivs b),(23,iv b.length),(24,iv (0 : Nat))] (by simp)) ?_
    refine row_l1 hi rfl hb b.length 0 f H (by omega) (fun q hq => ?_) hH fun f' z H' st h1 h2 => ?_
    · rw [hf q hq]
      by_cases h0 : q≤0
      · have : q = 0 := by omega
        subst this; simp
      · rw [if_neg h0]
    · simp [e1]
      exact ih (i + 1) f' H' (by omega) h1 h2
theorem turned_l1 {l : List Int} {u : Nat} (hl : l.length≤1000000) (hq : ∀ (f' : Nat→Int) (H' : Hp) (st : List (Nat × A)),(∀ q,q < l.length→f' q = l.getD (l.length - 1 - q) 0)→H' [0] = ⟨u,.arr 1 (fnL f' l.length)⟩→Q (.exit 0) ⟨lk ([(0,ivs l),(3,.osl [0] u 1 0 l.length)] ++ st),H'⟩) : ∀ (m i : Nat) (f : Nat→Int) (H : Hp),i + m = l.length→(∀ q,q < l.length→l.length≤q + i→f q = l.getD (l.length - 1 - q) 0)→H [0] = ⟨u,.arr 1 (fnL f l.length)⟩ →
    LoopC (cx Try.prog w0 I0 n0) l1_lcs_turned Q ⟨lk [(0,ivs l),(3,.osl [0] u 1 0 l.length),(9,ivs l),(10,iv l.length),(11,iv i)],H⟩ := by
  intro m
  induction m with
  | zero =>
    intro i f H hm hf hH
    refine loopC_once mixed l1_lcs_turned.eq_1 ?_
    have : i = l.length := by omega
    subst this
    simp
    exact hq f H [(9,ivs l),(10,iv l.length),(11,iv l.length),(12,bv false)] (fun q hq => hf q hq (by omega)) hH
  | succ m ih =>
    intro i f H hm hf hH
    have hi : i < l.length := by omega
    have e1 : IntKind.i64.wrap ((i : Int) + 1) = ((i + 1 : Nat) : Int) := by rw [i64_same (by omega) (by omega)]; omega
    have e2 : IntKind.i64.wrap (IntKind.i64.wrap ((l.length : Int) - 1) - i) = ((l.length - 1 - i : Nat) : Int) := by rw [i64_same (n := (l.length : Int) - 1) (by omega) (by omega),i64_same (by omega) (by omega)]; omega
    have b1 : l.length - 1 - i < l.length := by omega
    refine loopC_once mixed l1_lcs_turned.eq_1 ?_
    simp [hi,e1,e2,hH,b1]
    refine ih (i + 1) _ _ (by omega) (fun q hq1 hq2 => ?_) (by simp [updF_app]; rfl)
    by_cases e : q = l.length - 1 - i
    · rw [if_pos e]
      have : l.length - 1 - q = i := by omega
      rw [this]
      simp [List.getD_eq_getElem?_getD,hi]
    · rw [if_neg e]
      exact hf q hq1 (by omega)
end
theorem row_spec18 {a b : List Int} (ha : a.length≤1000000) (hb : b.length≤1000000) : G.Spec Try.prog 100 [ivs a,ivs b] (.sl false (fnL (fun q => (lcsL a (b.take q) : Nat)) (b.length + 1))) := by
  have e1 : IntKind.i64.wrap ((b.length : Int) + 1) = ((b.length + 1 : Nat) : Int) := by rw [i64_same (by omega) (by omega)]; omega
  refine spec_of t_lcs_row (by simp) fun w0 I0 => ?_
  unfold c_lcs_row
  simp [e1]
  refine ⟨by omega,?_⟩
  refine LoopC.le (le_list [(1,ivs b),(5,.osl [0] 1 1 0 (b.length + 1)),(16,ivs a),(17,iv a.length),(18,iv (0 : Nat))] (by simp)) ?_
  refine row_l2 ha hb (fun f' H' st h1 h2 => ?_) a.length 0 (fun _ => 0) _ (by omega) (fun q hq => by simp) (by simp [fnL_zero])
  simp
  rw [← fnL_congr fun q hq => h1 q (by omega)]
  exact frz_fnL h2
theorem turned_spec {l : List Int} (hl : l.length≤1000000) : G.Spec Try.prog 101 [ivs l] (ivs l.reverse) := by
  refine spec_of t_lcs_turned (by simp) fun w0 I0 => ?_
  unfold c_lcs_turned
  simp
  refine ⟨by omega,?_⟩
  refine LoopC.le (le_list [(0,ivs l),(3,.osl [0] 1 1 0 l.length),(9,ivs l),(10,iv l.length),(11,iv (0 : Nat))] (by simp)) ?_
  refine turned_l1 hl (fun f' H' st h1 h2 => ?_) l.length 0 (fun _ => 0) _ (by omega) (fun q hq => by omega) (by simp [fnL_zero])
  simp
  have e : l.reverse.map iv = fnL f' l.length := by
    rw [fnL_list,List.length_reverse]
    refine fnL_congr fun q hq => ?_
    rw [h1 q hq]
    simp [List.getD_eq_getElem?_getD,List.getElem?_reverse hq]
  have e' : ivs l.reverse = .sl false (fnL f' l.length) := by rw [← e]
  rw [e']
  exact frz_fnL h2
theorem split_l1 {n0 : Nat} {w0 : World} {I0 : Nat→Prop} {Q : Exit→Sta→Prop} {a b : List Int} {half : Nat} (hh : half≤a.length) (hb : b.length≤1000000) {H : Hp} {f g : Nat→Int} (hf : ∀ q,q≤b.length→f q = (cmn a b 0 half 0 q : Nat)) (hg : ∀ q,q≤b.length→g (b.length - q) = (cmn a b half a.length q b.length : Nat))
    (hq : ∀ st,Q (.exit 0) ⟨lk ([(1,ivs b),(7,.sl false (fnL f (b.length + 1))),(8,.sl false (fnL g (b.length + 1))),(9,iv (wayN a b half))] ++ st),H⟩) : ∀ (m i best : Nat),i + m = b.length + 1→best≤b.length→(∀ q,q < best→cmn a b 0 half 0 q + cmn a b half a.length q b.length < cmn a b 0 half 0 best + cmn a b half a.length best b.length)→(∀ q,q < i→cmn a b 0 half 0 q + cmn a b half a.length q b.length≤cmn a b 0 half 0 best + cmn a b half a.length best b.length) →
    LoopC (cx Try.prog w0 I0 n0) l1_lcs_split Q ⟨lk [(1,ivs b),(7,.sl false (fnL f (b.length + 1))),(8,.sl false (fnL g (b.length + 1))),(9,iv best),(24,iv (b.length + 1 : Nat)),(25,iv i)],H⟩ := by
  intro m
  induction m with
  | zero =>
    intro i best hm hbl h1 h2
    refine loopC_once mixed l1_lcs_split.eq_1 ?_
    have : i = b.length + 1 := by omega
    subst this
    have hw : wayN a b half = best := by
      obtain ⟨g1,g2,g3⟩ := way_on (a := a) (b := b) hh
      have hle := onW_le (a := a) (b := b) (i := half) (j := best) hh hbl
      have h3 := h2 (wayN a b half) (by omega)
      unfold onW at g1
      simp only [decide_eq_true_eq] at g1
      refine way_is hh hbl (by unfold onW; simp only [decide_eq_true_eq]; omega) fun j hj => ?_
      have := h1 j hj
      unfold onW
      simp only [decide_eq_false_iff_not]
      omega
    simp
    rw [← hw]
    exact hq [(24,iv (b.length + 1 : Nat)),(25,iv (b.length + 1 : Nat)),(26,bv false)]
  | succ m ih =>
    intro i best hm hbl h1 h2
    have hi : i < b.length + 1 := by omega
    have e1 : IntKind.i64.wrap ((i : Int) + 1) = ((i + 1 : Nat) : Int) := by rw [i64_same (by omega) (by omega)]; omega
    have e2 : IntKind.i64.wrap ((b.length : Int) - i) = ((b.length - i : Nat) : Int) := by rw [i64_same (by omega) (by omega)]; omega
    have e3 : IntKind.i64.wrap ((b.length : Int) - best) = ((b.length - best : Nat) : Int) := by rw [i64_same (by omega) (by omega)]; omega
    have fi := hf i (by omega)
    have gi := hg i (by omega)
    have fb := hf best hbl
    have gb := hg best hbl
    have l1 := lcs_len (sg a 0 half) (sg b 0 i)
    have l2 := lcs_len (sg a half a.length) (sg b i b.length)
    have l3 := lcs_len (sg a 0 half) (sg b 0 best)
    have l4 := lcs_len (sg a half a.length) (sg b best b.length)
    rw [sg_len _ _ _ hh,sg_len _ _ _ (by omega)] at l1
    rw [sg_len _ _ _ (by omega),sg_len _ _ _ (by omega)] at l2
    rw [sg_len _ _ _ hh,sg_len _ _ _ hbl] at l3
    rw [sg_len _ _ _ (by omega),sg_len _ _ _ (by omega)] at l4
    have e4 : IntKind.i64.wrap (f i + g (b.length - i)) = ((cmn a b 0 half 0 i + cmn a b half a.length i b.length : Nat) : Int) := by rw [fi,gi,i64_same (by unfold cmn; omega) (by unfold cmn; omega)]; omega
    have e5 : IntKind.i64.wrap (f best + g (b.length - best)) = ((cmn a b 0 half 0 best + cmn a b half a.length best b.length : Nat) : Int) := by rw [fb,gb,i64_same (by unfold cmn; omega) (by unfold cmn; omega)]; omega
    have b1 : b.length - i < b.length + 1 := by omega
    have b2 : b.length - best < b.length + 1 := by omega
    have b3 : best < b.length + 1 := by omega
    refine loopC_once mixed l1_lcs_split.eq_1 ?_
    have c1 : (i : Int) < (b.length : Int) + 1 := by omega
    have c2 : ((b.length - i : Nat) : Int) < (b.length : Int) + 1 := by omega
    have c3 : (best : Int) < (b.length : Int) + 1 := by omega
    have c4 : ((b.length - best : Nat) : Int) < (b.length : Int) + 1 := by omega
    by_cases h : (cmn a b 0 half 0 best : Int) + (cmn a b half a.length best b.length : Int) < (cmn a b 0 half 0 i : Int) + (cmn a b half a.length i b.length : Int)
    · simp [hi,e1,e2,e3,e4,e5,b1,b2,b3,h,c1,c2,c3,c4]
      refine ih (i + 1) i (by omega) (by omega) (fun q hq => ?_) (fun q hq => ?_)
      · have := h2 q hq; omega
      · by_cases e : q = i
        · subst e; omega
        · have := h2 q (by omega); omega
    · simp [hi,e1,e2,e3,e4,e5,b1,b2,b3,h,c1,c2,c3,c4]
      refine ih (i + 1) best (by omega) hbl h1 (fun q hq => ?_)
      by_cases e : q = i
      · subst e; omega
      · exact h2 q (by omega)
theorem split_spec {a b : List Int} {half : Nat} (hh : half≤a.length) (ha : a.length≤1000000) (hb : b.length≤1000000) : G.Spec Try.prog 98 [ivs a,ivs b,iv half] (iv (wayN a b half)) := by
  refine spec_of t_lcs_split (by simp) fun w0 I0 => ?_
  have s1 := row_spec18 (a := a.take half) (b := b) (by simp; omega) hb
  have s2 := turned_spec (l := a.drop half) (by simp; omega)
  have s3 := turned_spec (l := b) hb
  have s4 := row_spec18 (a := (a.drop half).reverse) (b := b.reverse) (by simp; omega) (by simpa using hb)
  rw [List.length_reverse] at s4
  unfold c_lcs_split
  simp [hh]
  refine sc_call (s1.soft (by simp [A.softL,A.soft,soft_iv18,soft_iv_take])) (by simp) ?_
  simp [hh]
  refine sc_call (s2.soft (by simp [A.softL,A.soft,soft_iv18,soft_iv_drop,List.take_of_length_le])) (by simp) ?_
  simp [hh]
  refine sc_call s3 (by simp) ?_
  simp [hh]
  refine sc_call s4 (by simp) ?_
  simp [hh]
  refine LoopC.le (le_list [(1,ivs b),(7,.sl false (fnL (fun q => (lcsL (a.take half) (b.take q) : Nat)) (b.length + 1))),(8,.sl false (fnL (fun q => (lcsL (a.drop half).reverse (b.reverse.take q) : Nat)) (b.length + 1))),(9,iv (0 : Nat)),(24,iv (b.length + 1 : Nat)),(25,iv (0 : Nat))] (by simp)) ?_
  refine split_l1 hh hb (fun q hq => by simp [cmn,sg_zero]) (fun q hq => ?_) (fun st => ?_) (b.length + 1) 0 0 (by omega) (by omega) (fun q hq => by omega) (fun q hq => by omega)
  · have e : b.reverse.take (b.length - q) = (b.drop q).reverse := by
      rw [List.take_reverse]
      congr 2
      omega
    show ((lcsL (a.drop half).reverse (b.reverse.take (b.length - q)) : Nat) : Int) = _
    rw [e,lcs_rev]
    simp [cmn,sg_end]
  · simp
    exact frz_bare rfl
end Go.Proofs.Ytmeldaflhkiopaa

namespace Go.Proofs.Ytmeldaflhkiopaa
set_option linter.unusedVariables false
set_option linter.unusedSimpArgs false
open Go Go.G Go.Proofs Go.PL
theorem fars_bound {a b : List Int} {c d p x y : Nat} (h : FarS a b c d p x) (hy : x + c = y + p) : x≤d + a.length∧y≤d + b.length := by
  have h1 := h.may
  rw [show x + c - p = y by omega] at h1
  have h2 := lcs_len (a.take x) (b.take y)
  have h3 := mcost_lcs a b x y
  unfold mcost at h1
  simp at h2
  omega
theorem dist_x {a b : List Int} {M d p t : Nat} {f : Nat→Nat} (hd : d≤M) (ht : t≤d) (hp : p + d = M + 1 + 2 * t) (hold : ∀ p s,s < d→p + d = M + 1 + 1 + 2 * s→FarG a b (M + 1) (d - 1) p (f p)) : ∃ x : Nat,(if decide (t = 0) = true∧decide (t = d) = true then (0 : Int) else if decide (t = 0) = true∨(decide (t = d) = false∧((f (p - 1) : Nat) : Int) < (f (p + 1) : Nat)) then ((f (p + 1) : Nat) : Int) else ((f (p - 1) : Nat) : Int) + 1) = (x : Int)∧FarS a b (M + 1) d p x := by
  cases d with
  | zero =>
    have : t = 0 := by omega
    subst this
    have : p = M + 1 := by omega
    subst this
    exact ⟨0,by simp,far_zero a b (M + 1)⟩
  | succ d =>
    have hy : p + (d + 1) ≠ M + 1→FarG a b (M + 1) d (p - 1) (f (p - 1)) := fun h => hold (p - 1) (t - 1) (by omega) (by omega)
    have hz : p ≠ M + 1 + (d + 1)→FarG a b (M + 1) d (p + 1) (f (p + 1)) := fun h => hold (p + 1) t (by omega) (by omega)
    by_cases h0 : t = 0
    · exact ⟨f (p + 1),by simp [h0],far_step (by omega) (by omega) (by omega) (by omega) hy hz (.inr ⟨by omega,rfl⟩) (fun h => by omega) (fun h => Nat.le_refl _)⟩
    · by_cases h1 : t = d + 1
      · exact ⟨f (p - 1) + 1,by simp [h1],far_step (by omega) (by omega) (by omega) (by omega) hy hz (.inl ⟨by omega,rfl⟩) (fun h => Nat.le_refl _) (fun h => by omega)⟩
      · by_cases h2 : f (p - 1) < f (p + 1)
        · exact ⟨f (p + 1),by simp [h0,h1,h2],far_step (by omega) (by omega) (by omega) (by omega) hy hz (.inr ⟨by omega,rfl⟩) (fun h => by omega) (fun h => Nat.le_refl _)⟩
        · exact ⟨f (p - 1) + 1,by simp [h0,h1,h2],far_step (by omega) (by omega) (by omega) (by omega) hy hz (.inl ⟨by omega,rfl⟩) (fun h => Nat.le_refl _) (fun h => by omega)⟩
section
variable {n0 : Nat} {w0 : World} {I0 : Nat→Prop} {Q : Exit→Sta→Prop}
theorem dist_l1 {a b : List Int} (ha : a.length≤1000000) (hb : b.length≤1000000) {c d p : Nat} {X : A} {M k : Int} {H : Hp}
    (hq : ∀ (x y : Nat) st,FarS a b c d p x→FarG a b c d p x→x + c = y + p→Q (.exit 4) ⟨lk ([(0,ivs a),(1,ivs b),(2,iv M),(8,iv a.length),(9,iv b.length),(10,X),(11,iv d),(12,iv k),(13,iv x),(14,iv y)] ++ st),H⟩) : ∀ (m x y : Nat),a.length≤x + m→FarS a b c d p x→x + c = y + p →
    LoopC (cx Try.prog w0 I0 n0) l1_lcs_Distance Q ⟨lk [(0,ivs a),(1,ivs b),(2,iv M),(8,iv a.length),(9,iv b.length),(10,X),(11,iv d),(12,iv k),(13,iv x),(14,iv y)],H⟩ := by
  intro m
  induction m with
  | zero =>
    intro x y hm hS hy
    refine loopC_once mixed l1_lcs_Distance.eq_1 ?_
    simp [show ¬ x < a.length by omega]
    exact hq x y [(99,bv false)] hS (far_end hS hy fun ⟨h1,_,_⟩ => by omega) hy
  | succ m ih =>
    intro x y hm hS hy
    refine loopC_once mixed l1_lcs_Distance.eq_1 ?_
    by_cases h1 : x < a.length
    · by_cases h2 : y < b.length
      · have e1 : IntKind.i64.wrap ((x : Int) + 1) = ((x + 1 : Nat) : Int) := by rw [i64_same (by omega) (by omega)]; omega
        have e2 : IntKind.i64.wrap ((y : Int) + 1) = ((y + 1 : Nat) : Int) := by rw [i64_same (by omega) (by omega)]; omega
        by_cases h3 : a[x] = b[y]
        · simp [h1,h2,h3,e1,e2]
          exact ih (x + 1) (y + 1) (by omega) (far_go hS hy h1 h2 h3) (by omega)
        · simp [h1,h2,h3]
          exact hq x y [(99,bv false)] hS (far_end hS hy fun ⟨_,_,h⟩ => h3 h) hy
      · simp [h1,h2]
        exact hq x y [(99,bv false)] hS (far_end hS hy fun ⟨_,h,_⟩ => h2 h) hy
    · simp [h1]
      exact hq x y [(99,bv false)] hS (far_end hS hy fun ⟨h,_,_⟩ => h1 h) hy
theorem dist_l2 {a b : List Int} (ha : a.length≤1000000) (hb : b.length≤1000000) {M d u : Nat} (hM : M≤a.length + b.length) (hd : d≤M) (hdd : d≤distL a b)
    (hq : ∀ (f : Nat→Nat) (H : Hp) st,(∀ q,f q≤10000000)→(∀ p s,s≤d→p + d = M + 1 + 2 * s→FarG a b (M + 1) d p (f p))→d < distL a b→H [0] = ⟨u,.arr 1 (fnL (fun q => (f q : Nat)) (2 * M + 3))⟩→Q (.exit 2) ⟨lk ([(0,ivs a),(1,ivs b),(2,iv M),(8,iv a.length),(9,iv b.length),(10,.osl [0] u 1 0 (2 * M + 3)),(11,iv d)] ++ st),H⟩)
    (hq2 : ∀ H,d = distL a b→Q .ret ⟨lk [(6,iv d),(7,bv true)],H⟩) : ∀ (m t : Nat) (f : Nat→Nat) (H : Hp),t + m = d + 1→(∀ q,f q≤10000000) →
    (∀ p s,s < d→p + d = M + 1 + 1 + 2 * s→FarG a b (M + 1) (d - 1) p (f p))→(∀ p s,s < t→p + d = M + 1 + 2 * s→FarG a b (M + 1) d p (f p)∧¬ (a.length≤f p∧b.length + p≤f p + (M + 1)))→H [0] = ⟨u,.arr 1 (fnL (fun q => (f q : Nat)) (2 * M + 3))⟩ →
    LoopC (cx Try.prog w0 I0 n0) l2_lcs_Distance Q ⟨lk [(0,ivs a),(1,ivs b),(2,iv M),(8,iv a.length),(9,iv b.length),(10,.osl [0] u 1 0 (2 * M + 3)),(11,iv d),(12,iv (2 * (t : Int) - d))],H⟩ := by
  intro m
  induction m with
  | zero =>
    intro t f H hm hb0 hold hnew hH
    have : t = d + 1 := by omega
    subst this
    refine loopC_once mixed l2_lcs_Distance.eq_1 ?_
    have hk : ¬ (2 * ((d + 1 : Nat) : Int) - d≤d) := by omega
    simp only [Int.natCast_add,Int.cast_ofNat_Int] at hk
    simp [hk]
    refine hq f H _ hb0 (fun p s hs hp => (hnew p s (by omega) hp).1) ?_ hH
    by_cases h : d < distL a b
    · exact h
    · exfalso
      have hdg := dist_diag a b
      have he : distL a b = d := by omega
      rw [he] at hdg
      obtain ⟨p,hp⟩ : ∃ p,a.length + (M + 1) = b.length + p := ⟨a.length + (M + 1) - b.length,by omega⟩
      obtain ⟨s,hs⟩ : ∃ s,a.length + d = b.length + 2 * s := ⟨(a.length + d - b.length) / 2,by omega⟩
      obtain ⟨g1,g2⟩ := hnew p s (by omega) (by omega)
      have g3 := g1.on
      have := far_comes (y := f p + (M + 1) - p) g1 (by omega) hp (by omega)
      exact g2 ⟨this.1,by omega⟩
  | succ m ih =>
    intro t f H hm hb0 hold hnew hH
    have ht : t≤d := by omega
    obtain ⟨p,hp⟩ : ∃ p,p + d = M + 1 + 2 * t := ⟨M + 1 + 2 * t - d,by omega⟩
    have hk : (2 * (t : Int) - d≤d) := by omega
    have e0 : IntKind.i64.wrap ((M : Int) + 1) = (M : Int) + 1 := i64_same (by omega) (by omega)
    have e1 : IntKind.i64.wrap ((M : Int) + 1 + (2 * (t : Int) - d)) = (p : Int) := by rw [i64_same (by omega) (by omega)]; omega
    have e2 : IntKind.i64.wrap (2 * (t : Int) - d + 2) = 2 * ((t + 1 : Nat) : Int) - d := by rw [i64_same (by omega) (by omega)]; omega
    have e3 : IntKind.i64.wrap (-(d : Int)) = -(d : Int) := i64_same (by omega) (by omega)
    have lo : decide (2 * (t : Int) - d = -(d : Int)) = decide (t = 0) := by by_cases h : t = 0 <;> simp [h] <;> omega
    have hi : decide (2 * (t : Int) - d = (d : Int)) = decide (t = d) := by by_cases h : t = d <;> simp [h] <;> omega
    have hR := reach_spec (f := fun q => (f q : Nat)) (n := 2 * M + 3) (k := p) (lo := decide (t = 0)) (hi := decide (t = d)) (by omega) (by omega) (by omega) (fun q => by have := hb0 q; omega)
    -- the step's place
    obtain ⟨x,hx,hS⟩ := dist_x hd ht hp hold
    rw [hx] at hR
    have hon := hS.on
    obtain ⟨y,hy⟩ : ∃ y,x + (M + 1) = y + p := ⟨x + (M + 1) - p,by omega⟩
    have hbd := fars_bound hS hy
    have e4 : IntKind.i64.wrap ((x : Int) - (2 * (t : Int) - d)) = (y : Int) := by rw [i64_same (by omega) (by omega)]; omega
    refine loopC_once mixed l2_lcs_Distance.eq_1 ?_
    simp [hk,e0,e1,e3,lo,hi]
    refine sc_callb [.sl false (fnL (fun q => (f q : Nat)) (2 * M + 3)),iv p,bv (decide (t = 0)),bv (decide (t = d))] (hR.toB rfl) (by simp; exact ⟨frz_fnL hH,frz_bare rfl,frz_bare rfl,frz_bare rfl⟩) (by simp) ?_
    simp [e4]
    refine LoopC.le (le_list [(0,ivs a),(1,ivs b),(2,iv M),(8,iv a.length),(9,iv b.length),(10,.osl [0] u 1 0 (2 * M + 3)),(11,iv d),(12,iv (2 * (t : Int) - d)),(13,iv x),(14,iv y)] (by simp)) ?_
    refine dist_l1 ha hb (c := M + 1) (p := p) (fun x y st hS hG hy => ?_) a.length x y (by omega) hS hy
    have hbd := fars_bound hS hy
    have hpl : p < 2 * M + 3 := by omega
    have hpl' : (p : Int) < 2 * (M : Int) + 3 := by omega
    by_cases hdone : a.length≤x∧b.length≤y
    · have he := far_done hG hy hdone.1 hdone.2
      simp [hk,e0,e1,e3,lo,hi,hH,hpl,hpl',hdone.1,hdone.2]
      exact hq2 _ (by omega)
    · simp [hk,e0,e1,e2,hH,hpl,hpl']
      refine ⟨fun h1 h2 => absurd ⟨h1,h2⟩ hdone,fun _ => ?_⟩
      refine ih (t + 1) (fun q => if q = p then x else f q) _ (by omega) (fun q => ?_) (fun p' s hs hp' => ?_) (fun p' s hs hp' => ?_) ?_
      · show (if q = p then x else f q)≤_
        split
        · omega
        · exact hb0 q
      · show FarG a b (M + 1) (d - 1) p' (if p' = p then x else f p')
        rw [if_neg (by omega)]
        exact hold p' s hs hp'
      · show FarG a b (M + 1) d p' (if p' = p then x else f p')∧¬ (a.length≤(if p' = p then x else f p')∧b.length + p'≤(if p' = p then x else f p') + (M + 1))
        by_cases e : s = t
        · have : p' = p := by omega
          subst this
          rw [if_pos rfl]
          exact ⟨hG,fun h => hdone ⟨h.1,by omega⟩⟩
        · rw [if_neg (by omega)]
          exact hnew p' s (by omega) hp'
      · simp only [updF_app,if_true]
        congr 2
        refine fnL_congr fun q _ => ?_
        split <;> rfl
theorem dist_l3 {a b : List Int} (ha : a.length≤1000000) (hb : b.length≤1000000) {M u : Nat} (hM : M≤a.length + b.length)
    (hq : ∀ H st,M < distL a b→Q (.exit 0) ⟨lk st,H⟩) (hq2 : ∀ H,distL a b≤M→Q .ret ⟨lk [(6,iv (distL a b)),(7,bv true)],H⟩) : ∀ (m d : Nat) (f : Nat→Nat) (H : Hp),d + m = M + 1→(∀ q,f q≤10000000)→d≤distL a b →
    (∀ p s,s < d→p + d = M + 1 + 1 + 2 * s→FarG a b (M + 1) (d - 1) p (f p))→H [0] = ⟨u,.arr 1 (fnL (fun q => (f q : Nat)) (2 * M + 3))⟩ →
    LoopC (cx Try.prog w0 I0 n0) l3_lcs_Distance Q ⟨lk [(0,ivs a),(1,ivs b),(2,iv M),(8,iv a.length),(9,iv b.length),(10,.osl [0] u 1 0 (2 * M + 3)),(11,iv d)],H⟩ := by
  intro m
  induction m with
  | zero =>
    intro d f H hm hb0 hdd hold hH
    have : d = M + 1 := by omega
    subst this
    refine loopC_once mixed l3_lcs_Distance.eq_1 ?_
    have hk : ¬ (((M + 1 : Nat) : Int)≤M) := by omega
    simp only [Int.natCast_add,Int.cast_ofNat_Int] at hk
    simp [hk]
    exact hq H _ (by omega)
  | succ m ih =>
    intro d f H hm hb0 hdd hold hH
    have e1 : IntKind.i64.wrap ((d : Int) + 1) = ((d + 1 : Nat) : Int) := by rw [i64_same (by omega) (by omega)]; omega
    have e3 : IntKind.i64.wrap (-(d : Int)) = -(d : Int) := i64_same (by omega) (by omega)
    have hd : d≤M := by omega
    refine loopC_once mixed l3_lcs_Distance.eq_1 ?_
    simp [hd,e3]
    refine LoopC.le (le_list [(0,ivs a),(1,ivs b),(2,iv M),(8,iv a.length),(9,iv b.length),(10,.osl [0] u 1 0 (2 * M + 3)),(11,iv d),(12,iv (2 * ((0 : Nat) : Int) - d))] (by simp)) ?_
    refine dist_l2 ha hb hM hd hdd (fun f' H' st g1 g2 g3 g4 => ?_) (fun H' he => ?_) (d + 1) 0 f H (by omega) hb0 hold (fun p s hs => by omega) hH
    · simp [e1]
      refine ih (d + 1) f' H' (by omega) g1 (by omega) (fun p s hs hp => ?_) g4
      exact g2 p s (by omega) (by omega)
    · simp
      have := hq2 H' (by omega)
      rw [← he] at this
      exact this
end
theorem dist_spec {a b : List Int} (ha : a.length≤1000000) (hb : b.length≤1000000) {M0 : Int} (hM0 : i64R M0) : ∃ d : Int,G.Spec Try.prog 85 [ivs a,ivs b,iv M0] (.tup [iv d,bv (decide ((distL a b : Int)≤M0))]) := by
  refine ⟨if (distL a b : Int)≤M0 then distL a b else 0,?_⟩
  refine spec_of t_lcs_Distance (by simp) fun w0 I0 => ?_
  have hdg := dist_diag a b
  have hdl : distL a b≤a.length + b.length := by unfold distL; omega
  have e1 : IntKind.i64.wrap ((a.length : Int) + b.length) = ((a.length + b.length : Nat) : Int) := by rw [i64_same (by omega) (by omega)]; omega
  have e2 : IntKind.i64.wrap ((a.length : Int) - b.length) = (a.length : Int) - b.length := i64_same (by omega) (by omega)
  have e3 : IntKind.i64.wrap ((b.length : Int) - a.length) = (b.length : Int) - a.length := i64_same (by omega) (by omega)
  obtain ⟨M1,hM1⟩ : ∃ M1 : Int,min (max M0 (-1)) ((a.length : Int) + b.length) = M1 := ⟨_,rfl⟩
  have hle : ((distL a b : Int)≤M0) ↔ ((distL a b : Int)≤M1) := by omega
  have hMb : M1≤(a.length : Int) + b.length := by omega
  unfold c_lcs_Distance
  simp [e1,e2,e3,hM1]
  refine ⟨fun h => ?_,fun h1 h2 h3 => ?_⟩
  · have hno : ¬ (distL a b : Int)≤M0 := by omega
    simp [hno]
    exact frz_bare rfl
  · obtain ⟨M,rfl⟩ : ∃ M : Nat,M1 = M := ⟨M1.toNat,by omega⟩
    have e4 : IntKind.i64.wrap (2 * (M : Int)) = 2 * (M : Int) := i64_same (by omega) (by omega)
    have e5 : IntKind.i64.wrap (2 * (M : Int) + 3) = ((2 * M + 3 : Nat) : Int) := by rw [i64_same (by omega) (by omega)]; omega
    have e6 : (2 * (M : Int) + 3).toNat = 2 * M + 3 := by omega
    rw [e4,e5]
    refine ⟨by omega,?_⟩
    refine LoopC.le (le_list [(0,ivs a),(1,ivs b),(2,iv M),(8,iv a.length),(9,iv b.length),(10,.osl [0] 1 1 0 (2 * M + 3)),(11,iv (0 : Nat))] (by simp [e6])) ?_
    refine dist_l3 ha hb (by omega) (fun H st h => ?_) (fun H h => ?_) (M + 1) 0 (fun _ => 0) _ (by omega) (fun q => by omega) (by omega) (fun p s hs => by omega) (by simp [fnL_zero,e6])
    · have hno : ¬ (distL a b : Int)≤M0 := by omega
      simp [hno]
      exact frz_bare rfl
    · have hyes : (distL a b : Int)≤M0 := by omega
      simp [hyes]
      exact frz_bare rfl
end Go.Proofs.Ytmeldaflhkiopaa

namespace Go.Proofs.Ytmeldaflhkiopaa
set_option linter.unusedVariables false
set_option linter.unusedSimpArgs false
open Go Go.G Go.Proofs Go.PL
def spC (s : Sp) : List A := [iv s.k,iv s.n]
def spA (s : Sp) : A := .agg (spC s)
@[simp] theorem spA_cells {s : Sp} : (spA s).cells = spC s := rfl
@[simp] theorem spC_len {s : Sp} : (spC s).length = 2 := rfl
theorem lens_sp {l : List Sp} : lens 2 (l.map spA) = true := by rw [lens_all]; simp
def fdF (l : List Sp) (v : Nat) : Fam := ⟨fun r p => if p = [] then ⟨1,.cells [.osl (r :: [0]) v 2 0 l.length]⟩ else if p = [0] then ⟨v,.arr 2 (l.map spA)⟩ else ⟨0,.none⟩,fun {g δ r r'} hg hd p => by
    by_cases h1 : p = []
    · rw [if_pos h1,if_pos h1]
      refine Fam.cells_ren ?_
      simp [A.renL,A.ren,hg,hd]
    · rw [if_neg h1,if_neg h1]
      by_cases h2 : p = [0]
      · rw [if_pos h2]
        refine Fam.arr_ren ?_
        have e : ∀ x : Sp,(spA x).ren g δ = spA x := fun x => by simp [spA,spC,A.ren,A.renL]
        simp only [renL_map,List.map_map]
        refine List.map_congr_left fun x _ => ?_
        exact e x
      · rw [if_neg h2]; rfl,fun {D r} hD p => by
    by_cases h1 : p = []
    · rw [if_pos h1]
      simp [Ob.refs,A.refsL,A.refs,hD]
    · rw [if_neg h1]
      by_cases h2 : p = [0]
      · rw [if_pos h2]
        simp only [Ob.refs,refsL_iff]
        intro y hy
        obtain ⟨x,_,rfl⟩ := List.mem_map.1 hy
        simp [A.refs,A.refsL,spA,spC]
      · rw [if_neg h2]; trivial⟩
@[simp] theorem fdF_F {l : List Sp} {v r : Nat} {p : Nm} : (fdF l v).F r p = if p = [] then ⟨1,.cells [.osl (r :: [0]) v 2 0 l.length]⟩ else if p = [0] then ⟨v,.arr 2 (l.map spA)⟩ else ⟨0,.none⟩ := rfl
abbrev fdP (r : Nat) : A := .pob [r] 1 0
theorem add_spec (l : List Sp) (v : Nat) (hl : l.length≤100000000) (k n : Nat) : SpecF Try.prog 96 (fun r => [fdP r,iv k,iv n]) (fdF l v) (fun _ => .tup []) (fdF (l ++ fl k n) (v + (fl k n).length)) := by
  refine specF_of t_lcs_finder_add (by simp) (famL_cons famA_pob (famL_cons famA_v (famL_cons famA_v famL_nil))) (famA_tup famL_nil) fun w0 I0 M0 m0 => ?_
  unfold c_lcs_finder_add
  by_cases h : 0 < n
  · rw [fl_pos h]
    simp [h,lens_sp,updF_app]
    refine ⟨by omega,?_⟩
    refine reth_famN rfl rfl (fun p => ?_)
    by_cases h1 : p = [] <;> by_cases h2 : p = [0] <;> simp [h1,h2,updF_app,spA,spC]
    rw [List.take_of_length_le (by simp)]
  · have h0 : n = 0 := by omega
    subst h0
    simp
    refine reth_famN rfl rfl (fun p => by simp)
def oneS (x : Int) (b : List Int) : List Sp := if fstI x b < b.length then fl 2 (fstI x b) ++ (fl 0 1 ++ fl 2 (b.length - fstI x b - 1)) else fl 1 1 ++ fl 2 b.length
theorem oneS_units (x : Int) (b : List Int) : unitsS (oneS x b) = wayU [x] b := by
  rw [wayU_one]
  unfold oneS
  split <;> simp
theorem fl_len (k n : Nat) : (fl k n).length≤1 := by unfold fl; split <;> simp
theorem oneS_len (x : Int) (b : List Int) : (oneS x b).length≤3 := by
  unfold oneS
  have := fl_len 2 (fstI x b)
  have := fl_len 0 1
  have := fl_len 1 1
  have := fl_len 2 (b.length - fstI x b - 1)
  have := fl_len 2 b.length
  split <;> simp <;> omega
theorem oneS_ok {x : Int} {b : List Int} (hb : b.length≤1000000) : ∀ s,s ∈ oneS x b→s.ok := by
  intro s hs
  have := fstI_le x b
  unfold oneS at hs
  split at hs <;> simp only [List.mem_append] at hs
  · rcases hs with hs | hs | hs
    · exact fl_ok (by omega) (by omega) s hs
    · exact fl_ok (by omega) (by omega) s hs
    · exact fl_ok (by omega) (by omega) s hs
  · rcases hs with hs | hs
    · exact fl_ok (by omega) (by omega) s hs
    · exact fl_ok (by omega) (by omega) s hs
theorem fst_drop {x : Int} : ∀ {b : List Int} {j : Nat},j≤fstI x b→(h : j < b.length)→(b[j] = x ↔ fstI x b = j)
  | [],j,_,h => by simp at h
  | y :: b,0,_,h => by
    unfold fstI
    by_cases e : x = y
    · simp [e]
    · simp [e]; exact fun h => e h.symm
  | y :: b,j + 1,hj,h => by
    unfold fstI at hj ⊢
    by_cases e : x = y
    · rw [if_pos e] at hj; omega
    · rw [if_neg e] at hj ⊢
      have := fst_drop (x := x) (b := b) (j := j) (by omega) (by simpa using h)
      simp only [List.getElem_cons_succ]
      omega
section
variable {n0 : Nat} {w0 : World} {I0 : Nat→Prop} {M0 : Nm→Nat→Prop} {m0 : Mu} {Q : Exit→Sta→Prop}
theorem one_l1 {l : List Sp} {v : Nat} {x : Int} {b : List Int} {H : Hp} (hl : l.length≤10000000) (hb : b.length≤1000000) (hH : ∀ p,H (0 :: p) = (fdF l v).F 0 p)
    (hq : fstI x b = b.length→∀ st,Q (.exit 0) ⟨lk ([(0,fdP 0),(1,iv x),(2,ivs b)] ++ st),H⟩)
    (hq2 : ∀ H',fstI x b < b.length→(∀ p,H' (0 :: p) = (fdF (l ++ oneS x b) (v + (oneS x b).length)).F 0 p)→∀ st,Q .ret ⟨lk st,H'⟩) : ∀ (m j : Nat),j + m = b.length→j≤fstI x b →
    LoopC (cxh Try.prog w0 I0 M0 n0 m0) l1_lcs_finder_one Q ⟨lk [(0,fdP 0),(1,iv x),(2,ivs b),(8,ivs b),(9,iv b.length),(10,iv j)],H⟩ := by
  have hle := fstI_le x b
  intro m
  induction m with
  | zero =>
    intro j hm hj
    refine loopC_once mixed l1_lcs_finder_one.eq_1 ?_
    have : j = b.length := by omega
    subst this
    simp
    exact hq (by omega) [(8,ivs b),(9,iv b.length),(10,iv b.length),(11,bv false)]
  | succ m ih =>
    intro j hm hj
    have hlt : j < b.length := by omega
    have e1 : IntKind.i64.wrap ((j : Int) + 1) = ((j + 1 : Nat) : Int) := by rw [i64_same (by omega) (by omega)]; omega
    have hd := fst_drop hj hlt
    refine loopC_once mixed l1_lcs_finder_one.eq_1 ?_
    by_cases h : x = b[j]
    · have hf := hd.1 h.symm
      have e2 : IntKind.i64.wrap (IntKind.i64.wrap ((b.length : Int) - j) - 1) = ((b.length - j - 1 : Nat) : Int) := by rw [i64_same (n := (b.length : Int) - j) (by omega) (by omega),i64_same (by omega) (by omega)]; omega
      have A1 := add_spec l v (by omega) 2 j
      have l1 := fl_len 2 j
      have l2 := fl_len 0 1
      have A2 := add_spec (l ++ fl 2 j) (v + (fl 2 j).length) (by simp; omega) 0 1
      have A3 := add_spec (l ++ fl 2 j ++ fl 0 1) (v + (fl 2 j).length + (fl 0 1).length) (by simp; omega) 2 (b.length - j - 1)
      simp [hlt,h]
      refine sc_fam 0 A1 hH (by simp) (by simp) ?_
      simp
      refine sc_fam 0 A2 (fun p => by simp) (by simp) (by simp) ?_
      simp [e2]
      refine sc_fam 0 A3 (fun p => by simp) (by simp) (by simp) ?_
      simp
      refine hq2 _ (by omega) (fun p => ?_) _
      have eo : oneS x b = fl 2 j ++ (fl 0 1 ++ fl 2 (b.length - j - 1)) := by unfold oneS; rw [if_pos (by omega),hf]
      rw [eo]
      simp [Nat.add_assoc]
    · have hne : ¬ fstI x b = j := fun e => h (hd.2 e).symm
      simp [hlt,h,e1]
      exact ih (j + 1) (by omega) (by omega)
end
theorem one_spec (l : List Sp) (v : Nat) (hl : l.length≤10000000) (x : Int) (b : List Int) (hb : b.length≤1000000) : SpecF Try.prog 97 (fun r => [fdP r,iv x,ivs b]) (fdF l v) (fun _ => .tup []) (fdF (l ++ oneS x b) (v + (oneS x b).length)) := by
  refine specF_of t_lcs_finder_one (by simp) (famL_cons famA_pob (famL_cons famA_v (famL_cons famA_sl famL_nil))) (famA_tup famL_nil) fun w0 I0 M0 m0 => ?_
  unfold c_lcs_finder_one
  simp
  refine LoopC.le (le_list [(0,fdP 0),(1,iv x),(2,ivs b),(8,ivs b),(9,iv b.length),(10,iv (0 : Nat))] (by simp)) ?_
  refine one_l1 (l := l) (v := v) hl hb (fun p => by simp) (fun hn st => ?_) (fun H' hf hH st => ?_) b.length 0 (by omega) (by omega)
  · have A1 := add_spec l v (by omega) 1 1
    have l1 := fl_len 1 1
    have A2 := add_spec (l ++ fl 1 1) (v + (fl 1 1).length) (by simp; omega) 2 b.length
    simp
    refine sc_fam 0 A1 (fun p => by simp) (by simp) (by simp) ?_
    simp
    refine sc_fam 0 A2 (fun p => by simp) (by simp) (by simp) ?_
    simp
    have eo : oneS x b = fl 1 1 ++ fl 2 b.length := by unfold oneS; rw [if_neg (by omega)]
    rw [eo]
    refine reth_famN rfl rfl (fun p => by simp [Nat.add_assoc])
  · simp
    exact reth_fam rfl rfl hH
theorem sp_append {P : Sp→Prop} {l m : List Sp} (h1 : ∀ s,s ∈ l→P s) (h2 : ∀ s,s ∈ m→P s) : ∀ s,s ∈ l ++ m→P s := fun s hs => (List.mem_append.1 hs).elim (h1 s) (h2 s)
theorem find_all : ∀ (n : Nat) (a b : List Int),a.length≤n→a.length≤1000000→b.length≤1000000→∃ sts : List Sp,unitsS sts = wayU a b∧(∀ s,s ∈ sts→s.ok)∧sts.length≤max 1 (3 * a.length) ∧
    ∀ (l : List Sp) (v : Nat),l.length + 3 * a.length≤9000000→SpecF Try.prog 86 (fun r => [fdP r,ivs a,ivs b]) (fdF l v) (fun _ => .tup []) (fdF (l ++ sts) (v + sts.length)) := by
  intro n
  induction n with
  | zero =>
    intro a b hn ha hb
    have := List.eq_nil_of_length_eq_zero (by omega : a.length = 0)
    subst this
    refine ⟨fl 2 b.length,by rw [wayU_nil]; simp,fl_ok (by omega) (by omega),by have := fl_len 2 b.length; simp; omega,fun l v hl => ?_⟩
    have A1 := add_spec l v (by simp at hl; omega) 1 0
    have A2 := add_spec (l ++ fl 1 0) (v + (fl 1 0).length) (by simp at hl; simp; omega) 2 b.length
    refine specF_of t_lcs_finder_find (by simp) (famL_cons famA_pob (famL_cons famA_sl (famL_cons famA_sl famL_nil))) (famA_tup famL_nil) fun w0 I0 M0 m0 => ?_
    unfold c_lcs_finder_find
    simp
    refine sc_fam 0 A1 (fun p => by simp) (by simp) (by simp) ?_
    simp
    refine sc_fam 0 A2 (fun p => by simp) (by simp) (by simp) ?_
    simp
    refine reth_famN rfl rfl (fun p => by simp)
  | succ n ih =>
    intro a b hn ha hb
    by_cases hb0 : b = []
    · subst hb0
      refine ⟨fl 1 a.length,by rw [wayU_nil']; simp,fl_ok (by omega) (by omega),by have := fl_len 1 a.length; omega,fun l v hl => ?_⟩
      have := fl_len 1 a.length
      have A1 := add_spec l v (by omega) 1 a.length
      have A2 := add_spec (l ++ fl 1 a.length) (v + (fl 1 a.length).length) (by simp; omega) 2 0
      refine specF_of t_lcs_finder_find (by simp) (famL_cons famA_pob (famL_cons famA_sl (famL_cons famA_sl famL_nil))) (famA_tup famL_nil) fun w0 I0 M0 m0 => ?_
      unfold c_lcs_finder_find
      simp
      refine sc_fam 0 A1 (fun p => by simp) (by simp) (by simp) ?_
      simp
      refine sc_fam 0 A2 (fun p => by simp) (by simp) (by simp) ?_
      simp
      refine reth_famN rfl rfl (fun p => by simp)
    have hbl : 0 < b.length := List.length_pos_iff.2 hb0
    match a,hn,ha with
    | [],hn,ha =>
      obtain ⟨sts,h⟩ := ih [] b (by simp) ha hb
      exact ⟨sts,h⟩
    | [x],hn,ha =>
      refine ⟨oneS x b,oneS_units x b,oneS_ok hb,by have := oneS_len x b; simp; omega,fun l v hl => ?_⟩
      have A1 := one_spec l v (by simp at hl; omega) x b hb
      refine specF_of t_lcs_finder_find (by simp) (famL_cons famA_pob (famL_cons famA_sl (famL_cons famA_sl famL_nil))) (famA_tup famL_nil) fun w0 I0 M0 m0 => ?_
      unfold c_lcs_finder_find
      simp [hb0]
      refine sc_fam 0 A1 (fun p => by simp) (by simp) (by simp) ?_
      simp
      refine reth_famN rfl rfl (fun p => by simp)
    | x :: y :: a',hn,ha =>
      have e0 : ∃ a : List Int,a = x :: y :: a' := ⟨_,rfl⟩
      obtain ⟨a,ea⟩ := e0
      rw [← ea] at hn ha ⊢
      have hal : 2≤a.length := by rw [ea]; simp
      clear ea
      obtain ⟨h,eh⟩ : ∃ h,a.length / 2 = h := ⟨_,rfl⟩
      have hh : h≤a.length := by omega
      obtain ⟨w1,w2,w3⟩ := way_on (a := a) (b := b) hh
      obtain ⟨s1,u1,o1,n1,F1⟩ := ih (a.take h) (b.take (wayN a b h)) (by simp; omega) (by simp; omega) (by simp; omega)
      obtain ⟨s2,u2,o2,n2,F2⟩ := ih (a.drop h) (b.drop (wayN a b h)) (by simp; omega) (by simp; omega) (by simp; omega)
      simp at n1 n2
      refine ⟨s1 ++ s2,by rw [units_app,u1,u2,← wayU_half a b hh],sp_append o1 o2,by simp; omega,fun l v hl => ?_⟩
      have G1 := F1 l v (by simp; omega)
      have G2 := F2 (l ++ s1) (v + s1.length) (by simp; omega)
      have hS := split_spec (a := a) (b := b) hh ha hb
      refine specF_of t_lcs_finder_find (by simp) (famL_cons famA_pob (famL_cons famA_sl (famL_cons famA_sl famL_nil))) (famA_tup famL_nil) fun w0 I0 M0 m0 => ?_
      have c1 : ¬ a = [] := fun e => by rw [e] at hal; simp at hal
      have c2 : ¬ a.length = 1 := by omega
      have c3 : ¬ (a.length : Int) = 1 := by omega
      have c4 : ((a.length : Int)).tdiv 2 = (h : Int) := by rw [Int.tdiv_eq_ediv_of_nonneg (by omega)]; omega
      have c5 : IntKind.i64.wrap (h : Int) = (h : Int) := i64_same (by omega) (by omega)
      unfold c_lcs_finder_find
      simp [hb0,c1,c2,c3,c4,c5]
      refine sc_call hS (by simp) ?_
      simp [hh,w2]
      refine sc_fam 0 G1 (fun p => by simp) (by simp) (by simp) ?_
      simp [hh,w2]
      refine sc_fam 0 G2 (fun p => by simp) (by simp [List.take_of_length_le]) (by simp) ?_
      simp
      refine reth_famN rfl rfl (fun p => by simp [Nat.add_assoc])
end Go.Proofs.Ytmeldaflhkiopaa

namespace Go.Proofs.Ytmeldaflhkiopaa
set_option linter.unusedVariables false
set_option linter.unusedSimpArgs false
open Go Go.G Go.Proofs Go.PL
def gpC (g : Nat→Nat) : List A := [iv (g 0),iv (g 1),iv (g 2)]
def gpF (l : List Sp) (v : Nat) (g : Nat→Nat) : Fam := ⟨fun r p => if p = [] then ⟨1,.cells [.osl (r :: [0]) v 2 0 l.length]⟩ else if p = [0] then ⟨v,.arr 2 (l.map spA)⟩ else if p = [1] then ⟨1,.cells (gpC g)⟩ else ⟨0,.none⟩,fun {γ δ r r'} hg hd p => by
    by_cases h1 : p = []
    · rw [if_pos h1,if_pos h1]
      refine Fam.cells_ren ?_
      simp [A.renL,A.ren,hg,hd]
    · rw [if_neg h1,if_neg h1]
      by_cases h2 : p = [0]
      · rw [if_pos h2]
        refine Fam.arr_ren ?_
        have e : ∀ x : Sp,(spA x).ren γ δ = spA x := fun x => by simp [spA,spC,A.ren,A.renL]
        simp only [renL_map,List.map_map]
        refine List.map_congr_left fun x _ => ?_
        exact e x
      · rw [if_neg h2]
        by_cases h3 : p = [1]
        · rw [if_pos h3]
          refine Fam.cells_ren ?_
          simp [A.renL,A.ren,gpC]
        · rw [if_neg h3]; rfl,fun {D r} hD p => by
    by_cases h1 : p = []
    · rw [if_pos h1]
      simp [Ob.refs,A.refsL,A.refs,hD]
    · rw [if_neg h1]
      by_cases h2 : p = [0]
      · rw [if_pos h2]
        simp only [Ob.refs,refsL_iff]
        intro y hy
        obtain ⟨x,_,rfl⟩ := List.mem_map.1 hy
        simp [A.refs,A.refsL,spA,spC]
      · rw [if_neg h2]
        by_cases h3 : p = [1]
        · rw [if_pos h3]
          simp [Ob.refs,A.refsL,A.refs,gpC]
        · rw [if_neg h3]; trivial⟩
@[simp] theorem gpF_F {l : List Sp} {v r : Nat} {g : Nat→Nat} {p : Nm} : (gpF l v g).F r p = if p = [] then ⟨1,.cells [.osl (r :: [0]) v 2 0 l.length]⟩ else if p = [0] then ⟨v,.arr 2 (l.map spA)⟩ else if p = [1] then ⟨1,.cells (gpC g)⟩ else ⟨0,.none⟩ := rfl
def flL : List Nat→(Nat→Nat)→List Sp
  | [],_ => []
  | k :: ks,g => fl k (g k) ++ flL ks (fun q => if q = k then 0 else g q)
def flG : List Nat→(Nat→Nat)→Nat→Nat
  | [],g => g
  | k :: ks,g => flG ks (fun q => if q = k then 0 else g q)
abbrev nvs (ks : List Nat) : A := .sl true (ks.map fun k : Nat => iv (k : Int))
theorem stepR_spec (s : Sp) : G.Spec Try.prog 88 [spA s] (bv (decide (s.k≤2∧1≤s.n∧s.n≤1048576))) := by
  refine spec_of t_script_Step_right (by simp) fun w0 I0 => ?_
  unfold c_script_Step_right
  have m0 : (0 : Int)≤(s.k : Int) := by omega
  by_cases h1 : s.k≤2
  · by_cases h2 : 1≤s.n
    · by_cases h3 : s.n≤1048576
      · simp [spA,spC,m0,h1,h2,h3,show (s.k : Int)≤2 by omega,show (1 : Int)≤s.n by omega,show (s.n : Int)≤1048576 by omega]
        exact frz_bare rfl
      · simp [spA,spC,m0,h1,h2,h3,show (s.k : Int)≤2 by omega,show (1 : Int)≤s.n by omega,show ¬ (s.n : Int)≤1048576 by omega]
        exact frz_bare rfl
    · simp [spA,spC,m0,h1,h2,show (s.k : Int)≤2 by omega,show ¬ (1 : Int)≤s.n by omega]
      exact frz_bool (by simp)
  · simp [spA,spC,m0,h1,show ¬ (s.k : Int)≤2 by omega]
    exact frz_bare rfl
section
variable {n0 : Nat} {w0 : World} {I0 : Nat→Prop} {M0 : Nm→Nat→Prop} {m0 : Mu} {Q : Exit→Sta→Prop}
theorem flush_l1 {ks : List Nat} (hks : ∀ k,k ∈ ks→k≤2) (hkl : ks.length≤1000) {l0 : List Sp} {v0 : Nat} {g0 : Nat→Nat} (hq : ∀ H' st,(∀ p,H' (0 :: p) = (gpF (l0 ++ flL ks g0) (v0 + (flL ks g0).length) (flG ks g0)).F 0 p)→Q (.exit 0) ⟨lk st,H'⟩) : ∀ (m j : Nat) (l : List Sp) (v : Nat) (g : Nat→Nat) (H : Hp),j + m = ks.length→l.length + m≤100000000→(∀ p,H (0 :: p) = (gpF l v g).F 0 p)→l0 ++ flL ks g0 = l ++ flL (ks.drop j) g→v0 + (flL ks g0).length = v + (flL (ks.drop j) g).length→flG ks g0 = flG (ks.drop j) g →
    LoopC (cxh Try.prog w0 I0 M0 n0 m0) l1_script_Normal_1 Q ⟨lk [(1,.pob [0,1] 1 0),(2,.pob [0] 1 0),(6,nvs ks),(7,iv ks.length),(8,iv j)],H⟩ := by
  intro m
  induction m with
  | zero =>
    intro j l v g H hm hl hH e1 e2 e3
    refine loopC_once mixed l1_script_Normal_1.eq_1 ?_
    have : j = ks.length := by omega
    subst this
    rw [List.drop_length] at e1 e2 e3
    simp
    refine hq H _ fun p => ?_
    rw [e1,e2,e3,hH]
    simp [flL,flG]
  | succ m ih =>
    intro j l v g H hm hl hH e1 e2 e3
    have hlt : j < ks.length := by omega
    have ew : IntKind.i64.wrap ((j : Int) + 1) = ((j + 1 : Nat) : Int) := by rw [i64_same (by omega) (by omega)]; omega
    have hd : ks.drop j = ks[j] :: ks.drop (j + 1) := (List.getElem_cons_drop hlt).symm
    rw [hd] at e1 e2 e3
    have hk := hks _ (List.getElem_mem hlt)
    generalize hkk : ks[j] = k at *
    simp only [flL,flG] at e1 e2 e3
    have hH0 := hH []
    have hH1 := hH [0]
    have hH2 := hH [1]
    simp at hH0 hH1 hH2
    refine loopC_once mixed l1_script_Normal_1.eq_1 ?_
    have hk3 : k = 0∨k = 1∨k = 2 := by omega
    by_cases h : 0 < g k
    · rw [fl_pos h] at e1 e2
      have next := fun (H' : Hp) hF => ih (j + 1) (l ++ [⟨k,g k⟩]) (v + 1) (fun q => if q = k then 0 else g q) H' (by omega) (by simp; omega) hF (by rw [e1]; simp) (by rw [e2]; simp; omega) e3
      rcases hk3 with rfl | rfl | rfl
      all_goals
        simp [hlt,hkk,hH0,hH1,hH2,gpC,h,ew,updF_app,lens_sp]
        refine ⟨by omega,?_⟩
        refine next _ (fun p => ?_)
        by_cases h1 : p = []
        · subst h1; simp [updF_app]
        · by_cases h2 : p = [0]
          · subst h2; simp [updF_app,spA,spC,List.take_of_length_le]
          · by_cases h3 : p = [1]
            · subst h3; simp [updF_app,gpC]
            · simp [h1,h2,h3,updF_app,hH]
    · have h0 : g k = 0 := by omega
      rw [h0] at e1 e2
      rcases hk3 with rfl | rfl | rfl
      all_goals
        simp [hlt,hkk,hH0,hH1,hH2,gpC,h0,ew,updF_app]
        refine ih (j + 1) l v _ _ (by omega) (by omega) (fun p => ?_) (by rw [e1]; simp) (by rw [e2]; simp) e3
        by_cases h1 : p = []
        · subst h1; simp [updF_app,hH0]
        · by_cases h2 : p = [0]
          · subst h2; simp [updF_app,hH1]
          · by_cases h3 : p = [1]
            · subst h3; simp [updF_app,gpC]
            · simp [h1,h2,h3,updF_app,hH]
end
theorem flush_spec {ks : List Nat} (hks : ∀ k,k ∈ ks→k≤2) (hkl : ks.length≤1000) (l : List Sp) (v : Nat) (g : Nat→Nat) (hl : l.length≤10000000) : SpecF Try.prog 87 (fun r => [nvs ks,.pob (r :: [1]) 1 0,.pob [r] 1 0]) (gpF l v g) (fun _ => .tup []) (gpF (l ++ flL ks g) (v + (flL ks g).length) (flG ks g)) := by
  refine specF_of t_script_Normal_1 (by simp) (famL_cons famA_sl (famL_cons famA_pob (famL_cons famA_pob famL_nil))) (famA_tup famL_nil) fun w0 I0 M0 m0 => ?_
  unfold c_script_Normal_1
  simp
  refine LoopC.le (le_list [(1,.pob [0,1] 1 0),(2,.pob [0] 1 0),(6,nvs ks),(7,iv ks.length),(8,iv (0 : Nat))] (by simp)) ?_
  refine flush_l1 hks hkl (l0 := l) (v0 := v) (g0 := g) (fun H' st hH => ?_) ks.length 0 l v g _ (by omega) (by omega) (fun p => by simp) (by simp) (by simp) (by simp)
  simp
  exact reth_famN rfl rfl hH
abbrev fluF : A := .fnc 87 [] [.pob [0,1] 1 0,.pob [0] 1 0]
abbrev sps (l : List Sp) : A := .sl false (l.map spA)
theorem goU_fin (g : Nat→Nat) : goU [] (g 0) (g 1) (g 2) = flL [0,1,2] g := by simp [goU,flL]
theorem fl2_len (ks : List Nat) (g : Nat→Nat) : (flL ks g).length≤ks.length := by
  induction ks generalizing g with
  | nil => simp [flL]
  | cons k ks ih =>
    have := ih (fun q => if q = k then 0 else g q)
    have := fl_len k (g k)
    simp [flL]
    omega
theorem flG_le : ∀ (ks : List Nat) (g : Nat→Nat) (B q : Nat),(∀ q,g q≤B)→flG ks g q≤B
  | [],g,B,q,h => h q
  | k :: ks,g,B,q,h => flG_le ks _ B q fun q => by
    show (if q = k then 0 else g q)≤B
    split
    · omega
    · exact h q
theorem nrmS_l1 {n0 : Nat} {w0 : World} {I0 : Nat→Prop} {Q : Exit→Sta→Prop} {all : List Sp} (hok : ∀ s,s ∈ all→s.may) (hal : all.length≤1000000) {R : List Sp}
    (hq : ∀ (H' : Hp) (out : List Sp) (v : Nat) (g : Nat→Nat) st,(∀ p,H' (0 :: p) = (gpF out v g).F 0 p)→out ++ flL [0,1,2] g = R→out.length≤2000000→Q (.exit 0) ⟨lk ([(3,.pob [0] 1 0),(4,.pob [0,1] 1 0),(5,fluF)] ++ st),H'⟩) : ∀ (m i : Nat) (out : List Sp) (v : Nat) (g : Nat→Nat) (H : Hp),i + m = all.length→out.length≤2 * i→(∀ q,g q≤i * 1048576)→(g 0 = 0∨(g 1 = 0∧g 2 = 0))→(∀ p,H (0 :: p) = (gpF out v g).F 0 p)→out ++ goU (unitsS (all.drop i)) (g 0) (g 1) (g 2) = R →
    LoopC (cx Try.prog w0 I0 n0) l1_script_Normal Q ⟨lk [(3,.pob [0] 1 0),(4,.pob [0,1] 1 0),(5,fluF),(9,sps all),(10,iv all.length),(11,iv i)],H⟩ := by
  intro m
  induction m with
  | zero =>
    intro i out v g H hm hl hg h01 hH hR
    refine loopC_once mixed l1_script_Normal.eq_1 ?_
    have : i = all.length := by omega
    subst this
    rw [List.drop_length,units_nil,goU_fin] at hR
    simp
    exact hq H out v g [(9,sps all),(10,iv all.length),(11,iv all.length),(12,bv false)] hH hR (by omega)
  | succ m ih =>
    intro i out v g H hm hl hg h01 hH hR
    have hlt : i < all.length := by omega
    have ew : IntKind.i64.wrap ((i : Int) + 1) = ((i + 1 : Nat) : Int) := by rw [i64_same (by omega) (by omega)]; omega
    have hd : all.drop i = all[i] :: all.drop (i + 1) := (List.getElem_cons_drop hlt).symm
    have hs := hok _ (List.getElem_mem hlt)
    rw [hd,units_cons] at hR
    generalize hss : all[i] = s at *
    have hsr := stepR_spec s
    have hg0 := hg 0
    have hg1 := hg 1
    have hg2 := hg 2
    refine loopC_once mixed l1_script_Normal.eq_1 ?_
    have hspC : spC s = [iv s.k,iv s.n] := rfl
    simp [hlt,hss,hspC]
    refine sc_call hsr (by simp [spA,spC,updF_app]) ?_
    by_cases hn : 1≤s.n
    · have hdec : decide (s.k≤2∧1≤s.n∧s.n≤1048576) = true := by have := hs.1; have := hs.2; simp; omega
      simp [hdec,updF_app]
      have next : ∀ (o2 : List Sp) (v2 : Nat) (g2 : Nat→Nat) (H2 : Hp),o2.length≤out.length + 2→(∀ q,g2 q≤(i + 1) * 1048576)→(g2 0 = 0∨(g2 1 = 0∧g2 2 = 0))→(∀ p,H2 (0 :: p) = (gpF o2 v2 g2).F 0 p)→o2 ++ goU (unitsS (all.drop (i + 1))) (g2 0) (g2 1) (g2 2) = R→LoopC (cx Try.prog w0 I0 n0) l1_script_Normal Q ⟨lk [(3,.pob [0] 1 0),(4,.pob [0,1] 1 0),(5,fluF),(9,sps all),(10,iv all.length),(11,iv (i + 1 : Nat))],H2⟩ := fun o2 v2 g2 H2 h1 h2 h3 h4 h5 => ih (i + 1) o2 v2 g2 H2 (by omega) (by omega) h2 h3 h4 h5
      have hk3 : s.k = 0∨s.k = 1∨s.k = 2 := by have := hs.1; omega
      rcases hk3 with hk | hk | hk
      · have F1 := flush_spec (ks := [1,2]) (by simp) (by simp) out v g (by omega)
        have hlen := fl2_len [1,2] g
        rw [hk,goU_keep s.n _ _ _ _ (by omega) (by omega)] at hR
        have ev : IntKind.i64.wrap ((g 0 : Int) + s.n) = ((g 0 + s.n : Nat) : Int) := by have := hs.2; rw [i64_same (by omega) (by omega)]; omega
        simp [hk]
        refine sc_famV 0 rfl F1 (fun p => by simp [updF_app,hH]) (by simp) (by simp) ?_
        simp
        rw [k1_script_Normal.eq_1]
        simp [updF_app,gpC,flG,ew,ev,hk]
        refine next (out ++ flL [1,2] g) (v + (flL [1,2] g).length) (fun q => if q = 0 then g 0 + s.n else flG [1,2] g q) _ (by simp at hlen; simp; omega) (fun q => ?_) ?_ (fun p => ?_) ?_
        · have hb : ∀ (ks : List Nat) (g : Nat→Nat) (B q : Nat),(∀ q,g q≤B)→flG ks g q≤B := flG_le
          show (if q = 0 then g 0 + s.n else flG [1,2] g q)≤_
          have h3 := hs.2
          split
          · omega
          · exact Nat.le_trans (hb _ g _ q hg) (Nat.mul_le_mul_right _ (by omega))
        · simp [flG]
        · by_cases h1 : p = []
          · subst h1; simp [updF_app]
          · by_cases h2 : p = [0]
            · subst h2; simp [updF_app]
            · by_cases h3 : p = [1]
              · subst h3; simp [updF_app,gpC,flG]
              · simp [h1,h2,h3,updF_app]
        · simp only [flG,flL] at hR ⊢
          simpa using hR
      · have F1 := flush_spec (ks := [0]) (by simp) (by simp) out v g (by omega)
        have hlen := fl2_len [0] g
        rw [hk,goU_del s.n _ _ _ _ (by omega)] at hR
        have ev : IntKind.i64.wrap ((g 1 : Int) + s.n) = ((g 1 + s.n : Nat) : Int) := by have := hs.2; rw [i64_same (by omega) (by omega)]; omega
        simp [hk]
        refine sc_famV 0 rfl F1 (fun p => by simp [updF_app,hH]) (by simp) (by simp) ?_
        simp
        rw [k1_script_Normal.eq_1]
        simp [updF_app,gpC,flG,ew,ev,hk]
        refine next (out ++ flL [0] g) (v + (flL [0] g).length) (fun q => if q = 1 then g 1 + s.n else flG [0] g q) _ (by simp at hlen; simp; omega) (fun q => ?_) ?_ (fun p => ?_) ?_
        · have hb : ∀ (ks : List Nat) (g : Nat→Nat) (B q : Nat),(∀ q,g q≤B)→flG ks g q≤B := flG_le
          show (if q = 1 then g 1 + s.n else flG [0] g q)≤_
          have h3 := hs.2
          split
          · omega
          · exact Nat.le_trans (hb _ g _ q hg) (Nat.mul_le_mul_right _ (by omega))
        · simp [flG]
        · by_cases h1 : p = []
          · subst h1; simp [updF_app]
          · by_cases h2 : p = [0]
            · subst h2; simp [updF_app]
            · by_cases h3 : p = [1]
              · subst h3; simp [updF_app,gpC,flG]
              · simp [h1,h2,h3,updF_app]
        · simp only [flG,flL] at hR ⊢
          simpa using hR
      · have F1 := flush_spec (ks := [0]) (by simp) (by simp) out v g (by omega)
        have hlen := fl2_len [0] g
        rw [hk,goU_ins s.n _ _ _ _ (by omega)] at hR
        have ev : IntKind.i64.wrap ((g 2 : Int) + s.n) = ((g 2 + s.n : Nat) : Int) := by have := hs.2; rw [i64_same (by omega) (by omega)]; omega
        simp [hk]
        refine sc_famV 0 rfl F1 (fun p => by simp [updF_app,hH]) (by simp) (by simp) ?_
        simp
        rw [k1_script_Normal.eq_1]
        simp [updF_app,gpC,flG,ew,ev,hk]
        refine next (out ++ flL [0] g) (v + (flL [0] g).length) (fun q => if q = 2 then g 2 + s.n else flG [0] g q) _ (by simp at hlen; simp; omega) (fun q => ?_) ?_ (fun p => ?_) ?_
        · have hb : ∀ (ks : List Nat) (g : Nat→Nat) (B q : Nat),(∀ q,g q≤B)→flG ks g q≤B := flG_le
          show (if q = 2 then g 2 + s.n else flG [0] g q)≤_
          have h3 := hs.2
          split
          · omega
          · exact Nat.le_trans (hb _ g _ q hg) (Nat.mul_le_mul_right _ (by omega))
        · simp [flG]
        · by_cases h1 : p = []
          · subst h1; simp [updF_app]
          · by_cases h2 : p = [0]
            · subst h2; simp [updF_app]
            · by_cases h3 : p = [1]
              · subst h3; simp [updF_app,gpC,flG]
              · simp [h1,h2,h3,updF_app]
        · simp only [flG,flL] at hR ⊢
          simpa using hR
    · have hdec : decide (s.k≤2∧1≤s.n∧s.n≤1048576) = false := by simp; omega
      have h0 : s.n = 0 := by omega
      simp [hdec,ew,updF_app,InBlock]
      refine ih (i + 1) out v g _ (by omega) (by omega) (fun q => Nat.le_trans (hg q) (Nat.mul_le_mul_right _ (by omega))) h01 (fun p => ?_) ?_
      · simp [updF_app,hH]
      · rw [h0] at hR; simpa using hR
theorem frzN_sps {H : Hp} {o : Nm} {u n : Nat} {l : List Sp} (h : H o = ⟨u,.arr 2 (l.map spA)⟩) (hn : n = l.length) : FrzN H (.osl o u 2 0 n) (sps l) := by
  subst hn
  have := frzN_osl (H := H) (o := o) (u := u) (off := 0) (len := l.length) (sz := 2) (xs := l.map spA) (by simp [h]) (by simp) (by
    simp only [List.drop_zero,List.all_eq_true]
    intro x hx
    obtain ⟨s,_,rfl⟩ := List.mem_map.1 (List.mem_of_mem_take hx)
    rfl)
  rw [List.drop_zero,List.take_of_length_le (by simp)] at this
  exact this
theorem pNrmB_spec {all : List Sp} (hok : ∀ s,s ∈ all→s.may) (hal : all.length≤1000000) : SpecB Try.prog 76 [sps all] (sps (nrmS (unitsS all))) := by
  refine specB_of t_script_Normal (by simp) fun w0 I0 => ?_
  unfold c_script_Normal
  simp
  refine LoopC.le (le_blankC (d := [0]) (u := 1) (cs := [.sl true []]) 0 [0,0] 2 rfl rfl (by simp)) ?_
  refine LoopC.le (le_list [(3,.pob [0] 1 0),(4,.pob [0,1] 1 0),(5,fluF),(9,sps all),(10,iv all.length),(11,iv (0 : Nat))] (by simp)) ?_
  refine nrmS_l1 hok hal (R := nrmS (unitsS all)) (fun H' out v g st hH hR hl => ?_) all.length 0 [] 1 (fun _ => 0) _ (by omega) (by simp) (fun q => by omega) (.inl rfl) (fun p => ?_) (by simp [nrmS])
  · have F1 := flush_spec (ks := [0,1,2]) (by simp) (by simp) out v g (by omega)
    have hlen := fl2_len [0,1,2] g
    simp
    refine sc_famV 0 rfl F1 hH (by simp) (by simp) ?_
    simp
    rw [← hR]
    exact frzN_sps (by simp) (by simp)
  · by_cases h1 : p = []
    · subst h1; simp [updF_app]
    · by_cases h2 : p = [0]
      · subst h2; simp [updF_app]
      · by_cases h3 : p = [1]
        · subst h3; simp [updF_app,gpC]
        · simp [h1,h2,h3,Ne.symm h1,Ne.symm h2,Ne.symm h3,updF_app]
theorem pNrm_spec {all : List Sp} (hok : ∀ s,s ∈ all→s.may) (hal : all.length≤1000000) : G.Spec Try.prog 76 [sps all] (sps (nrmS (unitsS all))) := (pNrmB_spec hok hal).spec
theorem ok_may {s : Sp} (h : s.ok) : s.may := ⟨h.1,h.2.2⟩
theorem diffL_spec {a b : List Int} (ha : a.length≤300000) (hb : b.length≤1000000) {M0 : Int} (hM0 : i64R M0) : G.Spec Try.prog 75 [ivs a,ivs b,iv M0] (if (distL a b : Int)≤M0 then .tup [sps (nrmS (wayU a b)),bv true] else .tup [.sl false [],bv false]) := by
  obtain ⟨d,hD⟩ := dist_spec (a := a) (b := b) (by omega) hb hM0
  obtain ⟨sts,h1,h2,h3,h4⟩ := find_all a.length a b (Nat.le_refl _) (by omega) hb
  have hN := pNrmB_spec (all := sts) (fun s hs => ok_may (h2 s hs)) (by omega)
  rw [h1] at hN
  refine spec_of t_lcs_Diff (by simp) fun w0 I0 => ?_
  unfold c_lcs_Diff
  simp
  refine sc_call hD (by simp) ?_
  by_cases h : (distL a b : Int)≤M0
  · have hF := h4 [] 1 (by simp; omega)
    simp [h]
    refine stop_le (le_blankC (d := [0]) (u := 1) (cs := [.sl true []]) 0 [0,0] 2 rfl rfl (by simp)) (stop_go ?_)
    simp
    refine sc_fam 0 hF (fun p => ?_) (by simp) (by simp) ?_
    · by_cases h1 : p = []
      · subst h1; simp [updF_app]
      · by_cases h2 : p = [0]
        · subst h2; simp [updF_app]
        · simp [h1,h2,Ne.symm h1,Ne.symm h2,updF_app]
    · simp
      refine sc_callb [sps sts] hN (by simp; exact frz_row (l := sts) (f := spA) (by simp) rfl (fun x => rfl)) (by simp) ?_
      simp
      exact frz_bare rfl
  · simp [h]
    exact frz_tup (by simp; exact ⟨frz_sl,frz_bare rfl⟩)
end Go.Proofs.Ytmeldaflhkiopaa

namespace Go.Proofs.Ytmeldaflhkiopaa
set_option linter.unusedVariables false
set_option linter.unusedSimpArgs false
open Go Go.G Go.Proofs Go.PL
def rwsA (m n : Nat) : List A := (List.range n).map fun j => .osl [5 + j] (j + 1) 1 0 (m + 1)
@[simp] theorem rwsA_len {m n : Nat} : (rwsA m n).length = n := by simp [rwsA]
@[simp] theorem rwsA_get {m n k : Nat} (h : k < n) : (rwsA m n)[k]? = some (.osl [5 + k] (k + 1) 1 0 (m + 1)) := by simp [rwsA,h]
@[simp] theorem rwsA_at {m n k : Nat} (h : k < (rwsA m n).length) : (rwsA m n)[k] = .osl [5 + k] (k + 1) 1 0 (m + 1) := by simp [rwsA]
theorem rwsA_succ (m n : Nat) : rwsA m (n + 1) = rwsA m n ++ [.osl [5 + n] (n + 1) 1 0 (m + 1)] := by simp [rwsA,List.range_succ]
def tabF (a b : List Int) (i q : Nat) : Int := (lcsL (a.take i) (b.take q) : Nat)
theorem tabF_step {a b : List Int} {i j : Nat} (hi : i < a.length) (hj : j < b.length) : tabF a b (i + 1) (j + 1) = if a[i] = b[j] then tabF a b i j + 1 else max (tabF a b i (j + 1)) (tabF a b (i + 1) j) := by
  unfold tabF
  have tk : a.take (i + 1) = a.take i ++ [a[i]] := List.take_succ_eq_append_getElem hi
  have tj : b.take (j + 1) = b.take j ++ [b[j]] := List.take_succ_eq_append_getElem hj
  by_cases h : a[i] = b[j]
  · rw [if_pos h,tk,tj,h,lcs_snoc_same]
    omega
  · rw [if_neg h]
    have := lcs_snoc_else h (a.take i) (b.take j)
    rw [← tk,← tj] at this
    rw [this]
    omega
theorem tabF_le (a b : List Int) (i j : Nat) : 0≤tabF a b i j∧tabF a b i j≤a.length := by
  have := lcs_len (a.take i) (b.take j)
  unfold tabF
  simp at this
  omega
section
variable {n0 : Nat} {w0 : World} {I0 : Nat→Prop} {Q : Exit→Sta→Prop}
theorem table_l1 {a b : List Int} {i : Nat} (hi : i < a.length) (hal : a.length≤1000000) (hb : b.length≤1000000) {H0 : Hp} (h1 : H0 [1] = ⟨i + 3,.arr 1 (rwsA b.length (i + 2))⟩) (h2 : H0 [5 + i] = ⟨i + 1,.arr 1 (fnL (tabF a b i) (b.length + 1))⟩) (hq : ∀ (f' : Nat→Int) (H' : Hp) (st : List (Nat × A)),(∀ q,q≤b.length→f' q = tabF a b (i + 1) q)→H' [5 + (i + 1)] = ⟨i + 2,.arr 1 (fnL f' (b.length + 1))⟩→(∀ o,o ≠ [5 + (i + 1)]→H' o = H0 o)→Q (.exit 2) ⟨lk ([(0,ivs a),(1,ivs b),(5,.osl [1] (i + 3) 1 0 (i + 2)),(6,iv (i + 1 : Nat))] ++ st),H'⟩) : ∀ (m j : Nat) (f : Nat→Int) (H : Hp),j + m = b.length→(∀ q,q≤j→f q = tabF a b (i + 1) q)→(∀ o,o ≠ [5 + (i + 1)]→H o = H0 o)→H [5 + (i + 1)] = ⟨i + 2,.arr 1 (fnL f (b.length + 1))⟩ →
    LoopC (cx Try.prog w0 I0 n0) l1_centoref18_Table Q ⟨lk [(0,ivs a),(1,ivs b),(5,.osl [1] (i + 3) 1 0 (i + 2)),(6,iv (i + 1 : Nat)),(7,iv (j + 1 : Nat))],H⟩ := by
  intro m
  induction m with
  | zero =>
    intro j f H hm hf hp h3
    refine loopC_once mixed l1_centoref18_Table.eq_1 ?_
    have : j = b.length := by omega
    subst this
    have hle : ¬ ((b.length : Int) + 1≤b.length) := by omega
    simp [hle]
    have := hq f H [(7,iv (b.length + 1 : Nat)),(29,bv false)] hf h3 hp
    simpa using this
  | succ m ih =>
    intro j f H hm hf hp h3
    have g1 := hp [1] (by simp; omega)
    have g2 := hp [5 + i] (by simp)
    rw [h1] at g1
    rw [h2] at g2
    have hj : j < b.length := by omega
    have hj1 : j + 1 < b.length + 1 := by omega
    have hj2 : j < b.length + 1 := by omega
    have c1 : (j : Int) + 1≤b.length := by omega
    have c2 : (0 : Int) < (i : Int) + 1 := by omega
    have c3 : (i : Int) < (i : Int) + 2 := by omega
    have c4 : (0 : Int)≤(j : Int) + 1 := by omega
    have c5 : (0 : Int)≤(i : Int) + 1 := by omega
    have c6 : (j : Int) < (b.length : Int) + 1 := by omega
    have e1 : IntKind.i64.wrap (i : Int) = i := i64_same (by omega) (by omega)
    have e2 : IntKind.i64.wrap (j : Int) = j := i64_same (by omega) (by omega)
    have e3 : IntKind.i64.wrap ((j : Int) + 1 + 1) = ((j + 1 + 1 : Nat) : Int) := by rw [i64_same (by omega) (by omega)]; omega
    have hb2 := tabF_le a b i j
    have e4 : IntKind.i64.wrap (tabF a b i j + 1) = tabF a b i j + 1 := i64_same (by omega) (by omega)
    have fj := hf j (Nat.le_refl _)
    have hst := tabF_step hi hj
    have next : ∀ z : Int,z = tabF a b (i + 1) (j + 1)→LoopC (cx Try.prog w0 I0 n0) l1_centoref18_Table Q ⟨lk [(0,ivs a),(1,ivs b),(5,.osl [1] (i + 3) 1 0 (i + 2)),(6,iv (i + 1 : Nat)),(7,iv (j + 1 + 1 : Nat))],updF H [5 + (i + 1)] ⟨i + 2,.arr 1 (fnL (fun q => if q = j + 1 then z else f q) (b.length + 1))⟩⟩ := fun z hz => by
      refine ih (j + 1) _ _ (by omega) (fun q hq => ?_) (fun o ho => by rw [updF_ne ho]; exact hp o ho) (by simp [updF_app]; rfl)
      by_cases e : q = j + 1
      · subst e; rw [if_pos rfl,hz]
      · rw [if_neg e]; exact hf q (by omega)
    have key : ∀ z : Int,z = max (tabF a b i (j + 1)) (f j)→WPC (cx Try.prog w0 I0 n0) k1_centoref18_Table
                    (InBlock 3
                      (ThenC
                        (WPC (cx Try.prog w0 I0 n0)
                          (CC.keep [0,1,5,6,7]
                            (CC.reg
                              [co (some 30) (Op.move (Operand.tmp 7)) none,
                                co (some 31)
                                  (Op.binOp BinOp.add 3 (Operand.tmp 30) (Operand.const (Value.int IntKind.i64 1)) 3)
                                  none,
                                co (some 7) (Op.assign (Operand.tmp 31)) none]
                              [0,1,5,6,7]))
                          (ThenC (LoopC (cx Try.prog w0 I0 n0) l1_centoref18_Table Q) Q))
                        (ThenC (LoopC (cx Try.prog w0 I0 n0) l1_centoref18_Table Q) Q)))
                    ⟨lk [(0,ivs a),(1,ivs b),(5,.osl [1] (i + 3) 1 0 (i + 2)),(6,iv (i + 1 : Nat)),(7,iv (j + 1 : Nat)),(8,iv z)],H⟩ := fun z hz => by
      rw [k1_centoref18_Table.eq_1]
      by_cases h : a[i] = b[j]
      · rw [if_pos h] at hst
        simp [c1,c2,c3,c4,c5,c6,e1,e2,g1,g2,h3,hj1,hj2,hi,hj,h,e3,e4]
        have := next _ hst.symm
        simpa using this
      · rw [if_neg h,← fj] at hst
        simp [c1,c2,c3,c4,c5,c6,e1,e2,g1,g2,h3,hj1,hj2,hi,hj,h,e3,e4]
        have := next z (by rw [hz,hst])
        simpa using this
    refine loopC_once mixed l1_centoref18_Table.eq_1 ?_
    simp [c1,c2,c3,c4,c5,c6,e1,e2,g1,g2,h3,hj1,hj2,hj]
    refine ⟨fun h => ?_,fun h => ?_⟩
    · have := key (f j) (by omega)
      simpa using this
    · have := key (tabF a b i (j + 1)) (by omega)
      simpa using this
theorem table_l2 {a b : List Int} (hal : a.length≤1000000) (hb : b.length≤1000000) (hq : ∀ (H : Hp) st,H [1] = ⟨a.length + 2,.arr 1 (rwsA b.length (a.length + 1))⟩→(∀ k,k < a.length + 1→∃ f,(∀ q,q < b.length + 1→f q = tabF a b k q)∧H [5 + k] = ⟨k + 1,.arr 1 (fnL f (b.length + 1))⟩)→Q (.exit 0) ⟨lk ([(0,ivs a),(1,ivs b),(5,.osl [1] (a.length + 2) 1 0 (a.length + 1))] ++ st),H⟩) : ∀ (m i : Nat) (H : Hp),i + m = a.length + 1→H [0] = ⟨i,.none⟩→H [1] = ⟨i + 1,.arr 1 (rwsA b.length i)⟩→(∀ k,k < i→∃ f,(∀ q,q < b.length + 1→f q = tabF a b k q)∧H [5 + k] = ⟨k + 1,.arr 1 (fnL f (b.length + 1))⟩)→(∀ k,i≤k→H [5 + k] = ⟨0,.none⟩) →
    LoopC (cx Try.prog w0 I0 n0) l2_centoref18_Table Q ⟨lk [(0,ivs a),(1,ivs b),(5,.osl [1] (i + 1) 1 0 i),(6,iv i)],H⟩ := by
  intro m
  induction m with
  | zero =>
    intro i H hm h0 h1 hk hf
    refine loopC_once mixed l2_centoref18_Table.eq_1 ?_
    have : i = a.length + 1 := by omega
    subst this
    have hle : ¬ ((a.length : Int) + 1≤a.length) := by omega
    simp [hle]
    have := hq H [(6,iv (a.length + 1 : Nat)),(12,bv false)] h1 hk
    simpa using this
  | succ m ih =>
    intro i H hm h0 h1 hk hf
    have hi : i≤a.length := by omega
    have e1 : IntKind.i64.wrap ((b.length : Int) + 1) = ((b.length + 1 : Nat) : Int) := by rw [i64_same (by omega) (by omega)]; omega
    have e2 : IntKind.i64.wrap ((i : Int) + 1) = ((i + 1 : Nat) : Int) := by rw [i64_same (by omega) (by omega)]; omega
    refine loopC_once mixed l2_centoref18_Table.eq_1 ?_
    simp [hi,e1,h0,h1,updF_app]
    refine ⟨⟨by omega,by omega⟩,by omega,?_⟩
    have hfi := hf i (Nat.le_refl _)
    refine LoopC.le (le_moveR (d := [0]) (d' := [5 + i]) (e := [1]) (u := i + 1) (ue := i + 1 + 1) (sz := 1) (z := 1) (off := 0) (len := b.length + 1) (xs := List.take i (rwsA b.length i)) (fun _ h => h) (by simp; omega) (by simp) (by simp; omega) (by simp [updF_app,hfi,show ¬ 5 + i = 1 by omega,show ¬ 5 + i = 2 by omega,show ¬ 5 + i = 0 by omega]) (by simp [updF_app]) rfl (by simp [updF_app])) ?_
    rw [List.take_of_length_le (by simp),← rwsA_succ]
    generalize hG : (updF (updF (updF (updF (updF (updF H [0] ⟨i + 1,.arr 1 (List.replicate (b.length + 1) (A.v (Value.int IntKind.i64 0)))⟩) [2] ⟨(H [2]).u + 1,.arr 1 [.osl [0] (i + 1) 1 0 (b.length + 1)]⟩) [1] ⟨i + 1 + 1,.arr 1 (rwsA b.length i ++ [.osl [0] (i + 1) 1 0 (b.length + 1)])⟩) [5 + i] _) [0] _) [1] _ : Hp) = G
    have f0 : G [0] = ⟨i + 1,.none⟩ := by rw [← hG]; simp [updF_app]
    have f1 : G [1] = ⟨i + 1 + 1,.arr 1 (rwsA b.length (i + 1))⟩ := by rw [← hG]; simp [updF_app]
    have f5 : G [5 + i] = ⟨i + 1,.arr 1 (fnL (fun _ => 0) (b.length + 1))⟩ := by
      rw [← hG,← fnL_zero]
      simp [updF_app,show ¬ 5 + i = 1 by omega,show ¬ 5 + i = 0 by omega]
    have fo : ∀ k,k ≠ i→G [5 + k] = H [5 + k] := fun k hne => by
      rw [← hG]
      simp [updF_app,show ¬ 5 + k = 1 by omega,show ¬ 5 + k = 2 by omega,show ¬ 5 + k = 0 by omega,hne]
    clear hG
    have next : ∀ (f : Nat→Int) (G' : Hp),(∀ q,q < b.length + 1→f q = tabF a b i q)→G' [5 + i] = ⟨i + 1,.arr 1 (fnL f (b.length + 1))⟩→(∀ o,o ≠ [5 + i]→G' o = G o)→LoopC (cx Try.prog w0 I0 n0) l2_centoref18_Table Q ⟨lk [(0,ivs a),(1,ivs b),(5,.osl [1] (i + 1 + 1) 1 0 (i + 1)),(6,iv (i + 1 : Nat))],G'⟩ := fun f G' g1 g2 g3 => by
      refine ih (i + 1) G' (by omega) (by rw [g3 _ (by simp; omega),f0]) (by rw [g3 _ (by simp; omega),f1]) (fun k hki => ?_) (fun k hki => ?_)
      · by_cases e : k = i
        · subst e; exact ⟨f,g1,g2⟩
        · obtain ⟨f',k1,k2⟩ := hk k (by omega)
          exact ⟨f',k1,by rw [g3 _ (by simp; omega),fo k e,k2]⟩
      · rw [g3 _ (by simp; omega),fo k (by omega),hf k (by omega)]
    cases i with
    | zero =>
      refine loopC_once mixed l1_centoref18_Table.eq_1 ?_
      by_cases hb0 : (1 : Int)≤b.length
      · simp [hb0,show IntKind.i64.wrap 1 = 1 from rfl]
        have := next (fun _ => 0) G (fun q hq => by simp [tabF]) f5 (fun o _ => rfl)
        simpa using this
      · simp [hb0,show IntKind.i64.wrap 1 = 1 from rfl]
        have := next (fun _ => 0) G (fun q hq => by simp [tabF]) f5 (fun o _ => rfl)
        simpa using this
    | succ i =>
      obtain ⟨f',k1,k2⟩ := hk i (by omega)
      refine LoopC.le (le_list [(0,ivs a),(1,ivs b),(5,.osl [1] (i + 3) 1 0 (i + 2)),(6,iv (i + 1 : Nat)),(7,iv (0 + 1 : Nat))] (by simp)) ?_
      refine table_l1 (by omega) hal hb (H0 := G) f1 (by rw [fo i (by omega),k2,fnL_congr k1]) (fun f2 G' st g1 g2 g3 => ?_) b.length 0 (fun _ => 0) G (by omega) (fun q hq => ?_) (fun o _ => rfl) f5
      · have e3 : IntKind.i64.wrap ((i : Int) + 1 + 1) = (i : Int) + 1 + 1 := i64_same (by omega) (by omega)
        simp [e3]
        have := next f2 G' (fun q hq => g1 q (by omega)) g2 g3
        simpa using this
      · have : q = 0 := by omega
        subst this
        simp [tabF]
end
theorem frzL_maps {α : Type} {H : Hp} {f g : α→A} : ∀ (l : List α),(∀ x,x ∈ l→Frz H (f x) (g x))→FrzL H (l.map f) (l.map g)
  | [],_ => by simp
  | x :: l,h => by
    simp only [List.map_cons,frzL_cons]
    exact ⟨h x (by simp),frzL_maps l fun y hy => h y (by simp [hy])⟩
theorem one_cells {α : Type} {f : α→A} (h : ∀ x,(f x).cells = [f x]) (l : List α) : (l.map f).flatMap A.cells = l.map f := by
  induction l with
  | nil => rfl
  | cons x l ih => simp [ih,h]
def tabA (a b : List Int) : A := .sl false ((List.range (a.length + 1)).map fun i => .sl false (fnL (tabF a b i) (b.length + 1)))
theorem table_spec {a b : List Int} (hal : a.length≤1000000) (hb : b.length≤1000000) : G.Spec Try.prog 34 [ivs a,ivs b] (tabA a b) := by
  refine spec_of t_centoref18_Table (by simp) fun w0 I0 => ?_
  unfold c_centoref18_Table
  simp
  refine LoopC.le (le_blank 5 [1] 1 (by simp)) ?_
  refine LoopC.le (le_list [(0,ivs a),(1,ivs b),(5,.osl [1] (0 + 1) 1 0 0),(6,iv (0 : Nat))] (by simp)) ?_
  refine table_l2 hal hb (fun H st h1 hk => ?_) (a.length + 1) 0 _ (by omega) (by simp [updF_app]) (by simp [updF_app,rwsA]) (fun k h => by omega) (fun k _ => by simp [updF_app,show ¬ 5 + k = 1 by omega])
  simp
  refine frz_osl' (o := [1]) (u := a.length + 2) (off := 0) (len := a.length + 1) (sz := 1) (xs := rwsA b.length (a.length + 1)) (ys := (List.range (a.length + 1)).map fun i => .sl false (fnL (tabF a b i) (b.length + 1))) (by simp [h1]) (by simp) (by simp) (by simp) ?_ ?_
  · rw [one_cells (fun x => rfl)]
    simp [A.ones]
  · rw [List.drop_zero,List.take_of_length_le (by simp)]
    unfold rwsA
    rw [one_cells (fun x => rfl),one_cells (fun x => rfl)]
    refine frzL_maps _ fun k hk0 => ?_
    obtain ⟨f,g1,g2⟩ := hk k (by simpa using hk0)
    rw [← fnL_congr g1]
    exact frz_fnL g2
end Go.Proofs.Ytmeldaflhkiopaa

namespace Go.Proofs.Ytmeldaflhkiopaa
set_option linter.unusedVariables false
set_option linter.unusedSimpArgs false
open Go Go.G Go.Proofs Go.PL
theorem common_spec {a b : List Int} (hal : a.length≤1000000) (hb : b.length≤1000000) : G.Spec Try.prog 17 [ivs a,ivs b] (iv (lcsL a b : Nat)) := by
  refine spec_of t_centoref18_Common (by simp) fun w0 I0 => ?_
  unfold c_centoref18_Common
  simp
  refine sc_call (table_spec hal hb) rfl ?_
  have h1 : tabF a b a.length b.length = lcsL a b := by simp [tabF]
  simp [tabA,h1]
  exact ⟨by omega,by omega,frz_bare rfl⟩
section
variable {n0 : Nat} {w0 : World} {I0 : Nat→Prop} {Q : Exit→Sta→Prop}
end
section
variable {n0 : Nat} {w0 : World} {I0 : Nat→Prop} {Q : Exit→Sta→Prop}
end
end Go.Proofs.Ytmeldaflhkiopaa

namespace Go.PL
open Go
set_option linter.unusedVariables false
set_option linter.unusedSimpArgs false
def idleE (list : Int) (e : E) : Bool := decide (e.kind = 0) || (decide (list = 9) && decide (e.kind = 2) && e.words.isEmpty && e.kids.isEmpty)
def delO (g : List T) : List OP := if g = [] then [] else [.mk 1 0 g E0]
def insO (b : List T) : List OP := if b = [] then [] else [.mk 2 0 b E0]
def flO (out : List OP) (g b : List T) : List OP := out ++ (delO g ++ insO b)
def kpO (out : List OP) (n : Int) : List OP := match out.getLast? with
  | some (.mk 0 m l e) => out.dropLast ++ [.mk 0 (IntKind.i64.wrap (m + n)) l e]
  | _ => out ++ [.mk 0 n [] E0]
def opsW (list : Int) : List OP→List OP→List T→List T→List OP
  | [],out,g,b => flO out g b
  | o :: os,out,g,b =>
    if o.kind = 0 then opsW list os (kpO (flO out g b) o.n) [] []
    else if o.kind = 1 then opsW list os out (g ++ o.l.map norm) b
    else if o.kind = 2 then opsW list os out g (b ++ o.l.map norm)
    else if idleE list o.e = true then opsW list os (kpO (flO out g b) 1) [] []
    else opsW list os (flO out g b ++ [.mk 3 0 [] o.e]) [] []
mutual
def nEd : E→E
  | .mk k o n ws ks l os => if k = 1 then .mk 1 (norm o) (norm n) [] [] 0 [] else if k = 2 then .mk 2 T0 T0 ws (nEdK ks) 0 [] else if k = 3 then .mk 3 T0 T0 [] [] l (opsW l (nEdO os) [] [] []) else E0
def nEdK : List KE→List KE
  | [] => []
  | .mk a e :: l => .mk a (nEd e) :: nEdK l
def nEdO : List OP→List OP
  | [] => []
  | .mk k n t e :: l => .mk k n t (nEd e) :: nEdO l
end
def nKE (x : KE) : KE := .mk x.at_ (nEd x.e)
def nOP (x : OP) : OP := .mk x.kind x.n x.l (nEd x.e)
theorem nEdK_map : ∀ l,nEdK l = l.map nKE
  | [] => by simp [nEdK]
  | .mk a e :: l => by rw [nEdK,nEdK_map l]; rfl
theorem nEdO_map : ∀ l,nEdO l = l.map nOP
  | [] => by simp [nEdO]
  | .mk k n t e :: l => by rw [nEdO,nEdO_map l]; rfl
theorem nEd_mk (k : Int) (o n : T) (ws : List WE) (ks : List KE) (l : Int) (os : List OP) : nEd (.mk k o n ws ks l os) = if k = 1 then .mk 1 (norm o) (norm n) [] [] 0 [] else if k = 2 then .mk 2 T0 T0 ws (ks.map nKE) 0 [] else if k = 3 then .mk 3 T0 T0 [] [] l (opsW l (os.map nOP) [] [] []) else E0 := by
  rw [nEd,nEdK_map,nEdO_map]
end Go.PL

namespace Go.Proofs.Ytmeldaflhkiopaa
set_option linter.unusedVariables false
set_option linter.unusedSimpArgs false
set_option maxRecDepth 20000
open Go Go.G Go.Proofs
@[simp] theorem und_43 : Try.prog.underlying 43 = some (.slice 118) := by kernel_rfl
@[simp] theorem und_44 : Try.prog.underlying 44 = some (.slice 94) := by kernel_rfl
@[simp] theorem und_45 : Try.prog.underlying 45 = some (.slice 50) := by kernel_rfl
@[simp] theorem und_152 : Try.prog.underlying 152 = some (.array 8 5) := by kernel_rfl
@[simp] theorem szT_5 : szT Try.prog 5 = some 1 := by kernel_rfl
@[simp] theorem szT_43 : szT Try.prog 43 = some 1 := by kernel_rfl
@[simp] theorem szT_44 : szT Try.prog 44 = some 1 := by kernel_rfl
@[simp] theorem szT_45 : szT Try.prog 45 = some 1 := by kernel_rfl
@[simp] theorem szT_47 : szT Try.prog 47 = some 11 := by kernel_rfl
@[simp] theorem szT_50 : szT Try.prog 50 = some 14 := by kernel_rfl
@[simp] theorem szT_94 : szT Try.prog 94 = some 12 := by kernel_rfl
@[simp] theorem szT_118 : szT Try.prog 118 = some 4 := by kernel_rfl
@[simp] theorem szT_152 : szT Try.prog 152 = some 8 := by kernel_rfl
@[simp] theorem aggT_5 : aggT Try.prog 5 = some false := by kernel_rfl
@[simp] theorem aggT_43 : aggT Try.prog 43 = some false := by kernel_rfl
@[simp] theorem aggT_44 : aggT Try.prog 44 = some false := by kernel_rfl
@[simp] theorem aggT_45 : aggT Try.prog 45 = some false := by kernel_rfl
@[simp] theorem aggT_47 : aggT Try.prog 47 = some true := by kernel_rfl
@[simp] theorem aggT_50 : aggT Try.prog 50 = some true := by kernel_rfl
@[simp] theorem aggT_94 : aggT Try.prog 94 = some true := by kernel_rfl
@[simp] theorem aggT_118 : aggT Try.prog 118 = some true := by kernel_rfl
@[simp] theorem aggT_152 : aggT Try.prog 152 = some true := by kernel_rfl
@[simp] theorem zeroT_47 : zeroT Try.prog 47 = some (Value.agg #[Value.int IntKind.i64 0,Value.int IntKind.i64 0,Value.slice none 0 0,Value.slice none 0 0,Value.int IntKind.i64 0,Value.slice none 0 0,Value.slice none 0 0,Value.slice none 0 0,Value.slice none 0 0,Value.int IntKind.i64 0,Value.slice none 0 0]) := by kernel_rfl
@[simp] theorem zeroT_50 : zeroT Try.prog 50 = some (Value.agg #[Value.int IntKind.i64 0,Value.int IntKind.i64 0,Value.slice none 0 0,Value.int IntKind.i64 0,Value.int IntKind.i64 0,Value.slice none 0 0,Value.slice none 0 0,Value.int IntKind.i64 0,Value.slice none 0 0,Value.slice none 0 0,Value.slice none 0 0,Value.slice none 0 0,Value.int IntKind.i64 0,Value.slice none 0 0]) := by kernel_rfl
@[simp] theorem zeroT_94 : zeroT Try.prog 94 = some (Value.agg #[Value.int IntKind.i64 0,Value.int IntKind.i64 0,Value.int IntKind.i64 0,Value.slice none 0 0,Value.slice none 0 0,Value.int IntKind.i64 0,Value.slice none 0 0,Value.slice none 0 0,Value.slice none 0 0,Value.slice none 0 0,Value.int IntKind.i64 0,Value.slice none 0 0]) := by kernel_rfl
@[simp] theorem zeroT_118 : zeroT Try.prog 118 = some (Value.agg #[Value.int IntKind.i64 0,Value.int IntKind.u8 0,Value.int IntKind.u64 0,Value.int IntKind.u64 0]) := by kernel_rfl
@[simp] theorem zeroT_152 : zeroT Try.prog 152 = some (Value.agg #[Value.int IntKind.u8 0,Value.int IntKind.u8 0,Value.int IntKind.u8 0,Value.int IntKind.u8 0,Value.int IntKind.u8 0,Value.int IntKind.u8 0,Value.int IntKind.u8 0,Value.int IntKind.u8 0]) := by kernel_rfl
@[simp] theorem bytesT_50 : bytesT Try.prog 50 = some 240 := by kernel_rfl
@[simp] theorem bytesT_94 : bytesT Try.prog 94 = some 208 := by kernel_rfl
@[simp] theorem bytesT_118 : bytesT Try.prog 118 = some 32 := by kernel_rfl
@[simp] theorem fieldOffT_47_0 : fieldOffT Try.prog 47 0 = some 0 := by kernel_rfl
@[simp] theorem fieldOffT_47_1 : fieldOffT Try.prog 47 1 = some 1 := by kernel_rfl
@[simp] theorem fieldOffT_47_2 : fieldOffT Try.prog 47 2 = some 4 := by kernel_rfl
@[simp] theorem fieldOffT_47_3 : fieldOffT Try.prog 47 3 = some 7 := by kernel_rfl
@[simp] theorem fieldOffT_47_4 : fieldOffT Try.prog 47 4 = some 8 := by kernel_rfl
@[simp] theorem fieldOffT_47_5 : fieldOffT Try.prog 47 5 = some 9 := by kernel_rfl
@[simp] theorem fieldOffT_47_6 : fieldOffT Try.prog 47 6 = some 10 := by kernel_rfl
@[simp] theorem fieldOffT_50_0 : fieldOffT Try.prog 50 0 = some 0 := by kernel_rfl
@[simp] theorem fieldOffT_50_1 : fieldOffT Try.prog 50 1 = some 1 := by kernel_rfl
@[simp] theorem fieldOffT_50_2 : fieldOffT Try.prog 50 2 = some 2 := by kernel_rfl
@[simp] theorem fieldOffT_50_3 : fieldOffT Try.prog 50 3 = some 3 := by kernel_rfl
@[simp] theorem fieldOffT_94_0 : fieldOffT Try.prog 94 0 = some 0 := by kernel_rfl
@[simp] theorem fieldOffT_94_1 : fieldOffT Try.prog 94 1 = some 1 := by kernel_rfl
@[simp] theorem fieldOffT_112_0 : fieldOffT Try.prog 112 0 = some 0 := by kernel_rfl
@[simp] theorem fieldOffT_112_1 : fieldOffT Try.prog 112 1 = some 1 := by kernel_rfl
@[simp] theorem fieldOffT_112_2 : fieldOffT Try.prog 112 2 = some 2 := by kernel_rfl
@[simp] theorem fieldOffT_123_0 : fieldOffT Try.prog 123 0 = some 0 := by kernel_rfl
@[simp] theorem buildA_47 (ps : List (Nat × A)) : buildA Try.prog 47 ps = (fillA (fun i => ([(0,1),(1,3),(4,3),(7,1),(8,1),(9,1),(10,1)] : List (Nat × Nat))[i]?) [A.v (Value.int IntKind.i64 0),A.v (Value.int IntKind.i64 0),A.sl true [],A.sl true [],A.v (Value.int IntKind.i64 0),A.sl true [],A.sl true [],A.sl true [],A.sl true [],A.v (Value.int IntKind.i64 0),A.sl true []] ps).map A.agg := by kernel_rfl
@[simp] theorem buildA_50 (ps : List (Nat × A)) : buildA Try.prog 50 ps = (fillA (fun i => ([(0,1),(1,1),(2,1),(3,11)] : List (Nat × Nat))[i]?) [A.v (Value.int IntKind.i64 0),A.v (Value.int IntKind.i64 0),A.sl true [],A.v (Value.int IntKind.i64 0),A.v (Value.int IntKind.i64 0),A.sl true [],A.sl true [],A.v (Value.int IntKind.i64 0),A.sl true [],A.sl true [],A.sl true [],A.sl true [],A.v (Value.int IntKind.i64 0),A.sl true []] ps).map A.agg := by kernel_rfl
@[simp] theorem buildA_94 (ps : List (Nat × A)) : buildA Try.prog 94 ps = (fillA (fun i => ([(0,1),(1,11)] : List (Nat × Nat))[i]?) [A.v (Value.int IntKind.i64 0),A.v (Value.int IntKind.i64 0),A.v (Value.int IntKind.i64 0),A.sl true [],A.sl true [],A.v (Value.int IntKind.i64 0),A.sl true [],A.sl true [],A.sl true [],A.sl true [],A.v (Value.int IntKind.i64 0),A.sl true []] ps).map A.agg := by kernel_rfl
@[simp] theorem buildA_112 (ps : List (Nat × A)) : buildA Try.prog 112 ps = (fillA (fun i => ([(0,1),(1,1),(2,1)] : List (Nat × Nat))[i]?) [A.sl true [],A.sl true [],A.sl true []] ps).map A.agg := by kernel_rfl
@[simp] theorem buildA_118 (ps : List (Nat × A)) : buildA Try.prog 118 ps = (fillA (fun i => ([(0,1),(1,1),(2,1),(3,1)] : List (Nat × Nat))[i]?) [A.v (Value.int IntKind.i64 0),A.v (Value.int IntKind.u8 0),A.v (Value.int IntKind.u64 0),A.v (Value.int IntKind.u64 0)] ps).map A.agg := by kernel_rfl
@[simp] theorem buildA_123 (ps : List (Nat × A)) : buildA Try.prog 123 ps = (fillA (fun i => ([(0,1)] : List (Nat × Nat))[i]?) [A.sl true []] ps).map A.agg := by kernel_rfl
def l1_word_Bytes : CC := sR [oO 6 (.binOp .lss 3 (xT 5) (nI 8) 3)] [0,2,3,5,6] (.seq (cD 6 (.skip) (.exit 0)) (.keep [0,2,3,5] (.seq (.block 1 (sR [mO 7 5,aO 4 7] [0,2,3,4,5] (.reg [mO 8 4,mO 9 0,mO 10 4,oO 11 (.binOp .mul 3 (nI 8) (xT 10) 3),oO 12 (bO .shr 68 9 11 3),oO 13 (.convert 68 5 (xT 12)),oO 14 (iA 152 3 8),oS (.store 5 (xT 14) (xT 13))] [0,2,3,5]))) (.reg [oO 15 (.binOp .add 3 (xT 5) (nI 1) 3),mO 5 15] [0,2,3,5])))) 
def c_word_Bytes : CC := sR [oN 2 (.alloc 152) [0]] [0,2] (sR [oN 3 (.alloc 152) [1]] [0,2,3] (.seq (sR [oO 5 (.move (nI 0))] [0,2,3,5] (.block 0 (.loop l1_word_Bytes))) (.keep [2,3] (sR [lO 16 152 3,oS (.store 152 (xT 2) (xT 16))] [2] (.ret)))))
theorem t_word_Bytes : Txt Try.prog 93 17 [(.cell 2 152)] c_word_Bytes := txt_of (code := Try.f93.body.getD .ret) mixed (by kernel_rfl) Try.func93 (by kernel_rfl) Try.ntmps93 (by kernel_rfl) (ls := lsOf c_word_Bytes) (by kernel_rfl)
def l1_word_Unlike : CC := sR [oO 13 (.binOp .lss 3 (xT 12) (nI 8) 3)] [5,11,12,13] (.seq (cD 13 (.skip) (.exit 0)) (.keep [5,11,12] (.seq (.block 1 (sR [mO 14 12,oO 15 (.index 152 (xT 11) (xT 12)),aO 6 14,aO 7 15] [5,6,7,11,12] (sR [mO 16 7,oO 17 (.binOp .neq 5 (xT 16) (.const (.int .u8 0)) 5)] [5,6,11,12,17] (cD 17 (.reg [mO 18 5,mO 19 6,oO 20 (.binOp .shl 5 (.const (.int .u8 1)) (xT 19) 3),oO 21 (bO .or 5 18 20 5),aO 5 21] [5,11,12]) (.skip))))) (.keep [5,11,12] (.reg [oO 22 (.binOp .add 3 (xT 12) (nI 1) 3),mO 12 22] [5,11,12]))))) 
def c_word_Unlike : CC := sR [oO 4 (.assign (.const (.int .u8 0)))] [0,1] (sR [oO 5 (.assign (.const (.int .u8 0)))] [0,1,5] (.seq (sR [mO 8 0,mO 9 1,oO 10 (bO .xor 68 8 9 68),oO 11 (cL 93 #[(xT 10)] #[68]),oO 12 (.move (nI 0))] [5,11,12] (.block 0 (.loop l1_word_Unlike))) (.keep [5] (sR [mO 23 5,aO 4 23] [4] (.ret)))))
theorem t_word_Unlike : Txt Try.prog 83 24 [(.tmp 4)] c_word_Unlike := txt_of (code := Try.f83.body.getD .ret) mixed (by kernel_rfl) Try.func83 (by kernel_rfl) Try.ntmps83 (by kernel_rfl) (ls := lsOf c_word_Unlike) (by kernel_rfl)
def c_normal_Idle : CC := sR [oN 3 (.box 47 (xT 1)) [0],oO 4 (.assign (nB false))] [0,3] (sR [fO 5 47 3 0,lO 6 3 5,oO 7 (.binOp .eql 3 (xT 6) (nI 0) 3),mO 8 7,oG 9 (mV 0) 8 false,oG 10 (.binOp .eql 3 (xT 9) (nI 9) 3) 8 false,oG 11 (mV 10) 8 false,oG 12 (fA 47 3 0) 11 true,oG 13 (lD 3 12) 11 true,oG 14 (.binOp .eql 3 (xT 13) (nI 2) 3) 11 true,oG 15 (.pick (xT 11) (xT 14) (nB false)) 8 false,oG 16 (mV 15) 8 false,oG 17 (fA 47 3 3) 16 true,oG 18 (lD 43 17) 16 true,oG 19 (bL 18 43) 16 true,oG 20 (fA 47 3 4) 16 true,oG 21 (lD 44 20) 16 true,oG 22 (bL 21 44) 16 true,oG 23 (bO .add 3 19 22 3) 16 true,oG 24 (.binOp .eql 3 (xT 23) (nI 0) 3) 16 true,oG 25 (.pick (xT 16) (xT 24) (nB false)) 8 false,oO 26 (.pick (xT 8) (nB true) (xT 25)),aO 4 26] [4] (.ret))
theorem t_normal_Idle : Txt Try.prog 71 27 [(.tmp 4)] c_normal_Idle := txt_of (code := Try.f71.body.getD .ret) mixed (by kernel_rfl) Try.func71 (by kernel_rfl) Try.ntmps71 (by kernel_rfl) (ls := lsOf c_normal_Idle) (by kernel_rfl)
def l1_normal_wait : CC := sR [oO 9 (bO .lss 3 8 7 3)] [0,6,7,8,9] (.seq (cD 9 (.skip) (.exit 0)) (.keep [0,6,7,8] (.seq (.block 1 (sR [oO 10 (iA 34 6 8),lO 11 36 10,oN 5 (.alloc 36) [1],oS (.store 36 (xT 5) (xT 11))] [0,5,6,7,8] (.reg [mO 12 0,oO 13 (.nilCheck (xT 12)),⟨some 14,(lD 34 13),none,[],2,[],true⟩,⟨some 15,(lD 36 5),none,[],3,[],true⟩,⟨some 16,(cL 37 #[(xT 15)] #[36]),none,[],4,[2],true⟩,oO 17 (bL 14 34),⟨some 18,(.buildSlice 34 1 #[(0,(.const (.agg #[(.int .i64 0),(.slice none 0 0),(.slice none 0 0)])))]),none,[],6,[2,3,4],false⟩,oN 19 (bC .append #[(xT 14),(xT 18)] #[34,34]) [2],oO 20 (iA 34 19 17),⟨none,(.store 36 (xT 20) (xT 16)),none,[],9,[],true⟩,oO 21 (.nilCheck (xT 12)),⟨none,(.store 34 (xT 21) (xT 19)),none,[],11,[9],false⟩] [0,6,7,8]))) (.reg [oO 22 (.binOp .add 3 (xT 8) (nI 1) 3),mO 8 22] [0,6,7,8])))) 
def c_normal_wait : CC := sR [mO 6 1,oO 7 (bL 6 34),oO 8 (.move (nI 0))] [0,6,7,8] (.block 0 (.loop l1_normal_wait))
theorem t_normal_wait : Txt Try.prog 70 23 [] c_normal_wait := txt_of (code := Try.f70.body.getD .ret) mixed (by kernel_rfl) Try.func70 (by kernel_rfl) Try.ntmps70 (by kernel_rfl) (ls := lsOf c_normal_wait) (by kernel_rfl)
def k1_normal_writer_flush : CC := .seq (sR [mO 23 0,oO 24 (.nilCheck (xT 23)),fO 25 112 24 2,lO 26 34 25,oO 27 (bL 26 34),oO 28 (.binOp .gtr 3 (xT 27) (nI 0) 3)] [0,28] (cD 28 (.reg [mO 29 0,oO 30 (.nilCheck (xT 29)),fO 31 112 30 0,⟨some 32,(lD 45 31),none,[],3,[],true⟩,mO 33 0,oO 34 (.nilCheck (xT 33)),fO 35 112 34 2,⟨some 36,(lD 34 35),none,[],7,[],true⟩,oO 37 (.build 50 #[(0,(nI 2)),(2,(xT 36))]),oO 38 (bL 32 45),⟨some 39,(.buildSlice 45 1 #[(0,(.const (.agg #[(.int .i64 0),(.int .i64 0),(.slice none 0 0),(.int .i64 0),(.int .i64 0),(.slice none 0 0),(.slice none 0 0),(.int .i64 0),(.slice none 0 0),(.slice none 0 0),(.slice none 0 0),(.slice none 0 0),(.int .i64 0),(.slice none 0 0)])))]),none,[],10,[3,7],false⟩,oN 40 (bC .append #[(xT 32),(xT 39)] #[45,45]) [2],oO 41 (iA 45 40 38),⟨none,(.store 50 (xT 41) (xT 37)),none,[],13,[],true⟩,oO 42 (.nilCheck (xT 29)),fO 43 112 42 0,⟨none,(.store 45 (xT 43) (xT 40)),none,[],16,[13],false⟩] [0]) (.skip))) (.keep [0] (.reg [mO 44 0,mO 45 0,oO 46 (.nilCheck (xT 44)),fO 47 112 46 1,oS (.store 34 (xT 47) nS),oO 48 (.nilCheck (xT 45)),fO 49 112 48 2,oS (.store 34 (xT 49) nS)] [])) 
def c_normal_writer_flush : CC := .seq (sR [mO 2 0,oO 3 (.nilCheck (xT 2)),fO 4 112 3 1,lO 5 34 4,oO 6 (bL 5 34),oO 7 (.binOp .gtr 3 (xT 6) (nI 0) 3)] [0,7] (cD 7 (.reg [mO 8 0,oO 9 (.nilCheck (xT 8)),fO 10 112 9 0,⟨some 11,(lD 45 10),none,[],3,[],true⟩,mO 12 0,oO 13 (.nilCheck (xT 12)),fO 14 112 13 1,⟨some 15,(lD 34 14),none,[],7,[],true⟩,oO 16 (.build 50 #[(0,(nI 1)),(2,(xT 15))]),oO 17 (bL 11 45),⟨some 18,(.buildSlice 45 1 #[(0,(.const (.agg #[(.int .i64 0),(.int .i64 0),(.slice none 0 0),(.int .i64 0),(.int .i64 0),(.slice none 0 0),(.slice none 0 0),(.int .i64 0),(.slice none 0 0),(.slice none 0 0),(.slice none 0 0),(.slice none 0 0),(.int .i64 0),(.slice none 0 0)])))]),none,[],10,[3,7],false⟩,oN 19 (bC .append #[(xT 11),(xT 18)] #[45,45]) [1],oO 20 (iA 45 19 17),⟨none,(.store 50 (xT 20) (xT 16)),none,[],13,[],true⟩,oO 21 (.nilCheck (xT 8)),fO 22 112 21 0,⟨none,(.store 45 (xT 22) (xT 19)),none,[],16,[13],false⟩] [0]) (.skip))) (.keep [0] k1_normal_writer_flush)
theorem t_normal_writer_flush : Txt Try.prog 72 50 [] c_normal_writer_flush := txt_of (code := Try.f72.body.getD .ret) mixed (by kernel_rfl) Try.func72 (by kernel_rfl) Try.ntmps72 (by kernel_rfl) (ls := lsOf c_normal_writer_flush) (by kernel_rfl)
def c_normal_writer_keep : CC := sR [mO 5 0,oO 6 (cL 72 #[(xT 5)] #[110])] [0,1] (.seq (sR [mO 7 0,oO 8 (.nilCheck (xT 7)),fO 9 112 8 0,lO 10 45 9,oO 11 (bL 10 45),oO 12 (.binOp .sub 3 (xT 11) (nI 1) 3),aO 4 12] [0,1,4] (sR [mO 13 4,oO 14 (.binOp .geq 3 (xT 13) (nI 0) 3),mO 15 14,oG 16 (mV 0) 15 true,oG 17 (.nilCheck (xT 16)) 15 true,oG 18 (fA 112 17 0) 15 true,oG 19 (lD 45 18) 15 true,oG 20 (mV 4) 15 true,oG 21 (iA 45 19 20) 15 true,oG 22 (fA 50 21 0) 15 true,oG 23 (lD 3 22) 15 true,oG 24 (.binOp .eql 3 (xT 23) (nI 0) 3) 15 true,oO 25 (.pick (xT 15) (xT 24) (nB false))] [0,1,4,25] (cD 25 (sR [mO 26 0,oO 27 (.nilCheck (xT 26)),fO 28 112 27 0,lO 29 45 28,mO 30 4,oO 31 (iA 45 29 30),fO 32 50 31 1,lO 33 3 32,mO 34 1,oO 35 (bO .add 3 33 34 3),oO 36 (iA 45 29 30),fO 37 50 36 1,oS (.store 3 (xT 37) (xT 35))] [] (.ret)) (.skip)))) (.keep [0,1] (.reg [mO 38 0,oO 39 (.nilCheck (xT 38)),fO 40 112 39 0,⟨some 41,(lD 45 40),none,[],3,[],true⟩,mO 42 1,oO 43 (.build 50 #[(0,(nI 0)),(1,(xT 42))]),oO 44 (bL 41 45),⟨some 45,(.buildSlice 45 1 #[(0,(.const (.agg #[(.int .i64 0),(.int .i64 0),(.slice none 0 0),(.int .i64 0),(.int .i64 0),(.slice none 0 0),(.slice none 0 0),(.int .i64 0),(.slice none 0 0),(.slice none 0 0),(.slice none 0 0),(.slice none 0 0),(.int .i64 0),(.slice none 0 0)])))]),none,[],7,[3],false⟩,oN 46 (bC .append #[(xT 41),(xT 45)] #[45,45]) [1],oO 47 (iA 45 46 44),⟨none,(.store 50 (xT 47) (xT 43)),none,[],10,[],true⟩,oO 48 (.nilCheck (xT 38)),fO 49 112 48 0,⟨none,(.store 45 (xT 49) (xT 46)),none,[],13,[10],false⟩] [])))
theorem t_normal_writer_keep : Txt Try.prog 69 50 [] c_normal_writer_keep := txt_of (code := Try.f69.body.getD .ret) mixed (by kernel_rfl) Try.func69 (by kernel_rfl) Try.ntmps69 (by kernel_rfl) (ls := lsOf c_normal_writer_keep) (by kernel_rfl)
def l1_normal_Ops : CC := sR [oO 14 (bO .lss 3 13 12 3)] [0,5,11,12,13,14] (.seq (cD 14 (.skip) (.exit 0)) (.keep [0,5,11,12,13] (.seq (.block 1 (sR [oO 15 (iA 45 11 13),lO 16 50 15,oN 7 (.alloc 50) [1],oS (.store 50 (xT 7) (xT 16))] [0,5,7,11,12,13] (sR [fO 17 50 7 0,lO 18 3 17] [0,5,7,11,12,13,18] (.block 2 (sR [oO 20 (.binOp .eql 3 (xT 18) (nI 0) 3),aO 19 20] [0,5,7,11,12,13,18,19] (cD 19 (.reg [mO 21 5,fO 22 50 7 1,lO 23 3 22,oO 24 (cL 69 #[(xT 21),(xT 23)] #[110,3])] [0,5,11,12,13]) (sR [oO 26 (.binOp .eql 3 (xT 18) (nI 1) 3),aO 25 26] [0,5,7,11,12,13,18,25] (cD 25 (.reg [mO 27 5,oO 28 (.nilCheck (xT 27)),fO 29 112 28 1,fO 30 50 7 2,lO 31 34 30,oO 32 (cL 70 #[(xT 29),(xT 31)] #[115,34])] [0,5,11,12,13]) (sR [oO 34 (.binOp .eql 3 (xT 18) (nI 2) 3),aO 33 34] [0,5,7,11,12,13,18,33] (cD 33 (.reg [mO 35 5,oO 36 (.nilCheck (xT 35)),fO 37 112 36 2,fO 38 50 7 2,lO 39 34 38,oO 40 (cL 70 #[(xT 37),(xT 39)] #[115,34])] [0,5,11,12,13]) (sR [oO 42 (.binOp .eql 3 (xT 18) (nI 3) 3),aO 41 42] [0,5,7,11,12,13,41] (cD 41 (sR [fO 43 50 7 3,lO 44 47 43,oO 45 (cL 35 #[(xT 44)] #[47]),oN 8 (.alloc 47) [2],oS (.store 47 (xT 8) (xT 45))] [0,5,8,11,12,13] (sR [mO 46 0,lO 47 47 8,oO 48 (cL 71 #[(xT 46),(xT 47)] #[3,47])] [0,5,8,11,12,13,48] (cD 48 (.reg [mO 49 5,oO 50 (cL 69 #[(xT 49),(nI 1)] #[110,3])] [0,5,11,12,13]) (sR [mO 51 5,oO 52 (cL 72 #[(xT 51)] #[110])] [0,5,8,11,12,13] (.reg [mO 53 5,oO 54 (.nilCheck (xT 53)),fO 55 112 54 0,⟨some 56,(lD 45 55),none,[],3,[],true⟩,⟨some 57,(lD 47 8),none,[],4,[],true⟩,oO 58 (.build 50 #[(0,(nI 3)),(3,(xT 57))]),oO 59 (bL 56 45),⟨some 60,(.buildSlice 45 1 #[(0,(.const (.agg #[(.int .i64 0),(.int .i64 0),(.slice none 0 0),(.int .i64 0),(.int .i64 0),(.slice none 0 0),(.slice none 0 0),(.int .i64 0),(.slice none 0 0),(.slice none 0 0),(.slice none 0 0),(.slice none 0 0),(.int .i64 0),(.slice none 0 0)])))]),none,[],7,[3,4],false⟩,oN 61 (bC .append #[(xT 56),(xT 60)] #[45,45]) [3],oO 62 (iA 45 61 59),⟨none,(.store 50 (xT 62) (xT 58)),none,[],10,[],true⟩,oO 63 (.nilCheck (xT 53)),fO 64 112 63 0,⟨none,(.store 45 (xT 64) (xT 61)),none,[],13,[10],false⟩] [0,5,11,12,13]))))) (.skip))))))))))))) (.keep [0,5,11,12,13] (.reg [oO 65 (.binOp .add 3 (xT 13) (nI 1) 3),mO 13 65] [0,5,11,12,13]))))) 
def c_normal_Ops : CC := sR [oO 4 (.assign nS)] [0,1] (sR [oO 9 (.build 112 #[]),oN 10 (.box 112 (xT 9)) [0],aO 5 10] [0,1,5] (.seq (sR [mO 11 1,oO 12 (bL 11 45),oO 13 (.move (nI 0))] [0,5,11,12,13] (.block 0 (.loop l1_normal_Ops))) (.keep [5] (sR [mO 66 5,oO 67 (cL 72 #[(xT 66)] #[110])] [5] (sR [mO 68 5,oO 69 (.nilCheck (xT 68)),fO 70 112 69 0,lO 71 45 70,aO 4 71] [4] (.ret))))))
theorem t_normal_Ops : Txt Try.prog 51 72 [(.tmp 4)] c_normal_Ops := txt_of (code := Try.f51.body.getD .ret) mixed (by kernel_rfl) Try.func51 (by kernel_rfl) Try.ntmps51 (by kernel_rfl) (ls := lsOf c_normal_Ops) (by kernel_rfl)
def l1_normal_Edit : CC := sR [oO 35 (bO .lss 3 34 33 3)] [2,3,32,33,34,35] (.seq (cD 35 (.skip) (.exit 1)) (.keep [2,3,32,33,34] (.seq (.block 2 (sR [oO 36 (iA 44 32 34),lO 37 94 36,oN 5 (.alloc 94) [4],oS (.store 94 (xT 5) (xT 37))] [2,3,5,32,33,34] (.reg [fO 38 47 3 4,⟨some 39,(lD 44 38),none,[],1,[],true⟩,fO 40 94 5 0,⟨some 41,(lD 3 40),none,[],3,[],true⟩,fO 42 94 5 1,lO 43 47 42,⟨some 44,(cL 35 #[(xT 43)] #[47]),none,[],6,[1,3],false⟩,oO 45 (.build 94 #[(0,(xT 41)),(1,(xT 44))]),⟨some 46,(.buildSlice 44 1 #[(0,(xT 45))]),none,[],8,[1],false⟩,oN 47 (bC .append #[(xT 39),(xT 46)] #[44,44]) [5],fO 48 47 3 4,oS (.store 44 (xT 48) (xT 47))] [2,3,32,33,34]))) (.reg [oO 49 (.binOp .add 3 (xT 34) (nI 1) 3),mO 34 49] [2,3,32,33,34])))) 
def c_normal_Edit : CC := sR [oN 1 (.box 47 (xT 0)) [0],oN 2 (.alloc 47) [1]] [1,2] (sR [fO 6 47 1 0,lO 7 3 6,fO 8 47 1 5,lO 9 3 8,oO 10 (.build 47 #[(0,(xT 7)),(5,(xT 9))]),oN 3 (.alloc 47) [2],oS (.store 47 (xT 3) (xT 10))] [1,2,3] (.seq (sR [fO 11 47 1 0,lO 12 3 11] [1,2,3,12] (.block 0 (sR [oO 14 (.binOp .eql 3 (xT 12) (nI 1) 3),aO 13 14] [1,2,3,12,13] (cD 13 (.reg [fO 15 47 1 1,lO 16 36 15,⟨some 17,(cL 37 #[(xT 16)] #[36]),none,[],2,[],true⟩,fO 18 47 1 2,⟨some 19,(lD 36 18),none,[],4,[2],false⟩,oO 20 (cL 37 #[(xT 19)] #[36]),fO 21 47 3 1,oS (.store 36 (xT 21) (xT 17)),fO 22 47 3 2,oS (.store 36 (xT 22) (xT 20))] [2,3]) (sR [oO 24 (.binOp .eql 3 (xT 12) (nI 2) 3),aO 23 24] [1,2,3,12,23] (cD 23 (sR [fO 25 47 3 3,lO 26 43 25,fO 27 47 1 3,lO 28 43 27,oN 29 (bC .append #[(xT 26),(xT 28)] #[43,43]) [3],fO 30 47 3 3,oS (.store 43 (xT 30) (xT 29))] [1,2,3] (sR [fO 31 47 1 4,lO 32 44 31,oO 33 (bL 32 44),oO 34 (.move (nI 0))] [2,3,32,33,34] (.block 1 (.loop l1_normal_Edit)))) (sR [oO 51 (.binOp .eql 3 (xT 12) (nI 3) 3),aO 50 51] [1,2,3,50] (cD 50 (.reg [fO 52 47 1 5,lO 53 3 52,fO 54 47 1 6,lO 55 45 54,oO 56 (cL 51 #[(xT 53),(xT 55)] #[3,45]),fO 57 47 3 6,oS (.store 45 (xT 57) (xT 56))] [2,3]) (.skip))))))))) (.keep [2,3] (sR [lO 58 47 3,oS (.store 47 (xT 2) (xT 58))] [2] (.ret)))))
theorem t_normal_Edit : Txt Try.prog 35 59 [(.cell 2 47)] c_normal_Edit := txt_of (code := Try.f35.body.getD .ret) mixed (by kernel_rfl) Try.func35 (by kernel_rfl) Try.ntmps35 (by kernel_rfl) (ls := lsOf c_normal_Edit) (by kernel_rfl)
def c_diff_Word : CC := sR [oN 6 (.alloc 118) [0],oO 7 (.assign (nB false))] [0,1,2,6] (sR [mO 9 1,mO 10 2,oO 11 (cL 83 #[(xT 9),(xT 10)] #[68,68]),aO 8 11] [0,1,2,6,8] (.seq (sR [mO 12 8,oO 13 (.binOp .eql 5 (xT 12) (.const (.int .u8 0)) 5)] [0,1,2,6,8,13] (cD 13 (sR [oO 14 (.build 118 #[]),oS (.store 118 (xT 6) (xT 14)),oO 7 (.assign (nB false))] [6,7] (.ret)) (.skip))) (.keep [0,1,2,6,8] (sR [mO 15 0,mO 16 8,mO 17 1,mO 18 8,oO 19 (cL 84 #[(.const (.int .u64 0)),(xT 17),(xT 18)] #[68,68,5]),mO 20 2,mO 21 8,oO 22 (cL 84 #[(.const (.int .u64 0)),(xT 20),(xT 21)] #[68,68,5]),oO 23 (.build 118 #[(0,(xT 15)),(1,(xT 16)),(2,(xT 19)),(3,(xT 22))]),oS (.store 118 (xT 6) (xT 23)),oO 7 (.assign (nB true))] [6,7] (.ret)))))
theorem t_diff_Word : Txt Try.prog 73 24 [(.cell 6 118),(.tmp 7)] c_diff_Word := txt_of (code := Try.f73.body.getD .ret) mixed (by kernel_rfl) Try.func73 (by kernel_rfl) Try.ntmps73 (by kernel_rfl) (ls := lsOf c_diff_Word) (by kernel_rfl)
def l1_diff_structure : CC := sR [oO 22 (bO .lss 3 21 20 3)] [2,3,4,6,7,20,21,22] (.seq (cD 22 (.skip) (.exit 0)) (.keep [2,3,4,6,7,20,21] (.seq (.block 1 (sR [mO 23 21,aO 8 23] [2,3,4,6,7,8,20,21] (sR [mO 25 8,⟨some 26,(lD 36 3),none,[],1,[],true⟩,mO 27 8,⟨some 28,(cL 46 #[(xT 26),(xT 27)] #[36,3]),none,[],3,[],true⟩,⟨some 29,(lD 36 4),none,[],4,[3],true⟩,mO 30 8,⟨some 31,(cL 46 #[(xT 29),(xT 30)] #[36,3]),none,[],6,[],true⟩,⟨some 32,(cL 73 #[(xT 25),(xT 28),(xT 31)] #[3,68,68]),none,[],7,[],true⟩,mO 24 32,xO 33 24 0,xO 34 24 1,⟨some 9,(.alloc 118),none,[4],11,[1,3,4,6,7],false⟩,oS (.store 118 (xT 9) (xT 33)),aO 10 34] [2,3,4,6,7,9,10,20,21] (sR [mO 35 10] [2,3,4,6,7,9,20,21,35] (cD 35 (.reg [fO 36 47 7 3,lO 37 43 36,lO 38 118 9,oO 39 (.buildSlice 43 1 #[(0,(xT 38))]),oN 40 (bC .append #[(xT 37),(xT 39)] #[43,43]) [5],fO 41 47 7 3,oS (.store 43 (xT 41) (xT 40))] [2,3,4,6,7,20,21]) (.skip)))))) (.keep [2,3,4,6,7,20,21] (.reg [oO 42 (.binOp .add 3 (xT 21) (nI 1) 3),mO 21 42] [2,3,4,6,7,20,21])))))
def l2_diff_structure : CC := sR [oO 51 (bO .lss 3 50 49 3)] [2,3,4,6,7,49,50,51] (.seq (cD 51 (.skip) (.exit 2)) (.keep [2,3,4,6,7,49,50] (.seq (.block 3 (sR [mO 52 50,aO 11 52] [2,3,4,6,7,11,49,50] (sR [⟨some 53,(lD 36 3),none,[],0,[],true⟩,mO 54 11,⟨some 55,(cL 47 #[(xT 53),(xT 54)] #[36,3]),none,[],2,[],true⟩,⟨some 56,(lD 36 4),none,[],3,[2],true⟩,mO 57 11,⟨some 58,(cL 47 #[(xT 56),(xT 57)] #[36,3]),none,[],5,[],true⟩,mO 59 2,⟨some 60,(cL 36 #[(xT 55),(xT 58),(xT 59)] #[36,36,3]),none,[],7,[],true⟩,⟨some 12,(.alloc 47),none,[6],8,[0,2,3,5,7],false⟩,oS (.store 47 (xT 12) (xT 60))] [2,3,4,6,7,11,12,49,50] (sR [fO 61 47 12 0,lO 62 3 61,oO 63 (.binOp .neq 3 (xT 62) (nI 0) 3)] [2,3,4,6,7,11,12,49,50,63] (cD 63 (.reg [fO 64 47 7 4,lO 65 44 64,mO 66 11,lO 67 47 12,oO 68 (.build 94 #[(0,(xT 66)),(1,(xT 67))]),oO 69 (.buildSlice 44 1 #[(0,(xT 68))]),oN 70 (bC .append #[(xT 65),(xT 69)] #[44,44]) [7],fO 71 47 7 4,oS (.store 44 (xT 71) (xT 70))] [2,3,4,6,7,49,50]) (.skip)))))) (.keep [2,3,4,6,7,49,50] (.reg [oO 72 (.binOp .add 3 (xT 50) (nI 1) 3),mO 50 72] [2,3,4,6,7,49,50]))))) 
def c_diff_structure : CC := sR [oN 3 (.box 36 (xT 0)) [0],oN 4 (.box 36 (xT 1)) [1],oN 6 (.alloc 47) [2]] [2,3,4,6] (sR [oO 13 (.build 47 #[(0,(nI 2))]),oN 7 (.alloc 47) [3],oS (.store 47 (xT 7) (xT 13))] [2,3,4,6,7] (.seq (sR [fO 14 36 3 1,lO 15 33 14,oO 16 (bL 15 33),fO 17 36 4 1,lO 18 33 17,oO 19 (bL 18 33),oO 20 (bC .max #[(xT 16),(xT 19)] #[3,3]),oO 21 (.move (nI 0))] [2,3,4,6,7,20,21] (.block 0 (.loop l1_diff_structure))) (.keep [2,3,4,6,7] (.seq (sR [fO 43 36 3 2,lO 44 34 43,oO 45 (bL 44 34),fO 46 36 4 2,lO 47 34 46,oO 48 (bL 47 34),oO 49 (bC .max #[(xT 45),(xT 48)] #[3,3]),oO 50 (.move (nI 0))] [2,3,4,6,7,49,50] (.block 2 (.loop l2_diff_structure))) (.keep [6,7] (sR [lO 73 47 7,oS (.store 47 (xT 6) (xT 73))] [6] (.ret)))))))
theorem t_diff_structure : Txt Try.prog 52 74 [(.cell 6 47)] c_diff_structure := txt_of (code := Try.f52.body.getD .ret) mixed (by kernel_rfl) Try.func52 (by kernel_rfl) Try.ntmps52 (by kernel_rfl) (ls := lsOf c_diff_structure) (by kernel_rfl)
def l1_diff_classes_of : CC := sR [oO 22 (bO .lss 3 21 20 3)] [0,5,7,10,11,12,19,20,21,22] (.seq (cD 22 (.skip) (.exit 2)) (.keep [0,5,7,10,11,12,19,20,21] (.seq (.block 3 (sR [mO 23 21,oO 24 (iA 34 19 21),lO 25 36 24,oN 9 (.alloc 36) [2],aO 8 23,oS (.store 36 (xT 9) (xT 25))] [0,5,7,8,9,10,11,12,19,20,21] (sR [lO 26 36 9,lO 27 36 7,oO 28 (cL 29 #[(xT 26),(xT 27)] #[36,36])] [0,5,7,8,10,11,12,19,20,21,28] (cD 28 (sR [mO 29 5,mO 30 8,oO 31 (.buildSlice 32 1 #[(0,(xT 30))]),oN 32 (bC .append #[(xT 29),(xT 31)] #[32,32]) [3],aO 5 32] [0,5,10,11,12] (.exit 1)) (.skip))))) (.keep [0,5,7,10,11,12,19,20,21] (.reg [oO 33 (.binOp .add 3 (xT 21) (nI 1) 3),mO 21 33] [0,5,7,10,11,12,19,20,21])))))
def l2_diff_classes_of : CC := sR [oO 13 (bO .lss 3 12 11 3)] [0,5,10,11,12,13] (.seq (cD 13 (.skip) (.exit 0)) (.keep [0,5,10,11,12] (.seq (.block 1 (sR [oO 14 (iA 34 10 12),lO 15 36 14,oN 7 (.alloc 36) [1],oS (.store 36 (xT 7) (xT 15))] [0,5,7,10,11,12] (.seq (sR [mO 16 0,oO 17 (.nilCheck (xT 16)),fO 18 123 17 0,lO 19 34 18,oO 20 (bL 19 34),oO 21 (.move (nI 0))] [0,5,7,10,11,12,19,20,21] (.block 2 (.loop l1_diff_classes_of))) (.keep [0,5,7,10,11,12] (sR [mO 34 5,mO 35 0,oO 36 (.nilCheck (xT 35)),fO 37 123 36 0,lO 38 34 37,oO 39 (bL 38 34),oO 40 (.buildSlice 32 1 #[(0,(xT 39))]),oN 41 (bC .append #[(xT 34),(xT 40)] #[32,32]) [3],aO 5 41] [0,5,7,10,11,12] (.reg [mO 42 0,oO 43 (.nilCheck (xT 42)),fO 44 123 43 0,⟨some 45,(lD 34 44),none,[],3,[],true⟩,⟨some 46,(lD 36 7),none,[],4,[],true⟩,oO 47 (bL 45 34),⟨some 48,(.buildSlice 34 1 #[(0,(.const (.agg #[(.int .i64 0),(.slice none 0 0),(.slice none 0 0)])))]),none,[],6,[3,4],false⟩,oN 49 (bC .append #[(xT 45),(xT 48)] #[34,34]) [5],oO 50 (iA 34 49 47),⟨none,(.store 36 (xT 50) (xT 46)),none,[],9,[],true⟩,oO 51 (.nilCheck (xT 42)),fO 52 123 51 0,⟨none,(.store 34 (xT 52) (xT 49)),none,[],12,[9],false⟩] [0,5,10,11,12])))))) (.keep [0,5,10,11,12] (.reg [oO 53 (.binOp .add 3 (xT 12) (nI 1) 3),mO 12 53] [0,5,10,11,12]))))) 
def c_diff_classes_of : CC := sR [oO 4 (.assign nS)] [0,1] (.scope (sR [oO 5 (.assign nS)] [0,1,5] (.seq (.skip) (.seq (sR [mO 10 1,oO 11 (bL 10 34),oO 12 (.move (nI 0))] [0,5,10,11,12] (.block 0 (.loop l2_diff_classes_of))) (.keep [5] (.stop (sR [mO 54 5,aO 4 54] [4] (.ret))))))))
theorem t_diff_classes_of : Txt Try.prog 74 55 [(.tmp 4)] c_diff_classes_of := txt_of (code := Try.f74.body.getD .ret) mixed (by kernel_rfl) Try.func74 (by kernel_rfl) Try.ntmps74 (by kernel_rfl) (ls := lsOf c_diff_classes_of) (by kernel_rfl)
def c_diff_some : CC := sR [oO 4 (.assign nS)] [0,1] (.seq (sR [mO 5 1,oO 6 (bL 5 34),oO 7 (.binOp .eql 3 (xT 6) (nI 0) 3)] [0,1,7] (cD 7 (sR [oO 4 (.assign nS)] [4] (.ret)) (.skip))) (.keep [0,1] (sR [mO 8 0,mO 9 1,oO 10 (.build 50 #[(0,(xT 8)),(2,(xT 9))]),oO 11 (.buildSlice 45 1 #[(0,(xT 10))]),aO 4 11] [4] (.ret))))
theorem t_diff_some : Txt Try.prog 99 12 [(.tmp 4)] c_diff_some := txt_of (code := Try.f99.body.getD .ret) mixed (by kernel_rfl) Try.func99 (by kernel_rfl) Try.ntmps99 (by kernel_rfl) (ls := lsOf c_diff_some) (by kernel_rfl)
def c_diff_remove : CC := sR [oO 2 (.assign nS)] [0] (sR [mO 3 0,oO 4 (cL 99 #[(nI 1),(xT 3)] #[3,34]),aO 2 4] [2] (.ret))
theorem t_diff_remove : Txt Try.prog 91 5 [(.tmp 2)] c_diff_remove := txt_of (code := Try.f91.body.getD .ret) mixed (by kernel_rfl) Try.func91 (by kernel_rfl) Try.ntmps91 (by kernel_rfl) (ls := lsOf c_diff_remove) (by kernel_rfl)
def c_diff_insert : CC := sR [oO 2 (.assign nS)] [0] (sR [mO 3 0,oO 4 (cL 99 #[(nI 2),(xT 3)] #[3,34]),aO 2 4] [2] (.ret))
theorem t_diff_insert : Txt Try.prog 89 5 [(.tmp 2)] c_diff_insert := txt_of (code := Try.f89.body.getD .ret) mixed (by kernel_rfl) Try.func89 (by kernel_rfl) Try.ntmps89 (by kernel_rfl) (ls := lsOf c_diff_insert) (by kernel_rfl)
def l1_diff_Gap : CC := sR [oO 29 (bO .lss 3 28 27 3)] [1,2,3,9,11,12,20,21,22,26,27,28,29] (.seq (cD 29 (.skip) (.exit 2)) (.keep [1,2,3,9,11,12,20,21,22,26,27,28] (.seq (.block 3 (sR [oO 30 (iA 34 26 28),lO 31 36 30,oN 14 (.alloc 36) [1],oS (.store 36 (xT 14) (xT 31))] [1,2,3,9,11,12,14,20,21,22,26,27,28] (.reg [mO 32 12,lO 33 36 11,lO 34 36 14,oO 35 (cL 12 #[(xT 33),(xT 34)] #[36,36]),oO 36 (.buildSlice 32 1 #[(0,(xT 35))]),oN 37 (bC .append #[(xT 32),(xT 36)] #[32,32]) [2],aO 12 37] [1,2,3,9,11,12,20,21,22,26,27,28]))) (.reg [oO 38 (.binOp .add 3 (xT 28) (nI 1) 3),mO 28 38] [1,2,3,9,11,12,20,21,22,26,27,28]))))
def l2_diff_Gap : CC := sR [oO 23 (bO .lss 3 22 21 3)] [1,2,3,9,20,21,22,23] (.seq (cD 23 (.skip) (.exit 0)) (.keep [1,2,3,9,20,21,22] (.seq (.block 1 (sR [oO 24 (iA 34 20 22),lO 25 36 24,oN 11 (.alloc 36) [0],oS (.store 36 (xT 11) (xT 25))] [1,2,3,9,11,20,21,22] (sR [oO 12 (.assign nS)] [1,2,3,9,11,12,20,21,22] (.seq (sR [mO 26 2,oO 27 (bL 26 34),oO 28 (.move (nI 0))] [1,2,3,9,11,12,20,21,22,26,27,28] (.block 2 (.loop l1_diff_Gap))) (.keep [1,2,3,9,12,20,21,22] (.stop (.reg [mO 39 9,mO 40 12,oO 41 (.buildSlice 22 1 #[(0,(xT 40))]),oN 42 (bC .append #[(xT 39),(xT 41)] #[22,22]) [3],aO 9 42] [1,2,3,9,20,21,22]))))))) (.keep [1,2,3,9,20,21,22] (.reg [oO 43 (.binOp .add 3 (xT 22) (nI 1) 3),mO 22 43] [1,2,3,9,20,21,22])))))
def l3_diff_Gap : CC := sR [oO 48 (bO .lss 3 47 46 3)] [1,2,3,15,16,17,45,46,47,48] (.seq (cD 48 (.skip) (.exit 4)) (.keep [1,2,3,15,16,17,45,46,47] (.seq (.block 5 (sR [oO 49 (iA 25 45 47),lO 50 30 49,oN 19 (.alloc 30) [4],oS (.store 30 (xT 19) (xT 50))] [1,2,3,15,16,17,19,45,46,47] (sR [mO 51 15,mO 52 1,mO 53 16,fO 54 30 19 0,lO 55 3 54,oO 56 (.slice 34 (xT 52) (some (xT 53)) (some (xT 55)) none),⟨some 57,(cL 91 #[(xT 56)] #[34]),none,[],6,[],true⟩,⟨some 58,(bC .append #[(xT 51),(xT 57)] #[45,45]),none,[5],7,[],true⟩,mO 59 2,mO 60 17,fO 61 30 19 1,⟨some 62,(lD 3 61),none,[],11,[6,7],false⟩,oO 63 (.slice 34 (xT 59) (some (xT 60)) (some (xT 62)) none),oO 64 (cL 89 #[(xT 63)] #[34]),oN 65 (bC .append #[(xT 58),(xT 64)] #[45,45]) [6],aO 15 65] [1,2,3,15,19,45,46,47] (sR [mO 66 15,mO 67 1,fO 68 30 19 0,lO 69 3 68,oO 70 (iA 34 67 69),lO 71 36 70,mO 72 2,fO 73 30 19 1,lO 74 3 73,oO 75 (iA 34 72 74),lO 76 36 75,mO 77 3,oO 78 (cL 36 #[(xT 71),(xT 76),(xT 77)] #[36,36,3]),oO 79 (.build 50 #[(0,(nI 3)),(3,(xT 78))]),oO 80 (.buildSlice 45 1 #[(0,(xT 79))]),oN 81 (bC .append #[(xT 66),(xT 80)] #[45,45]) [7],aO 15 81] [1,2,3,15,19,45,46,47] (.reg [fO 82 30 19 0,lO 83 3 82,oO 84 (.binOp .add 3 (xT 83) (nI 1) 3),fO 85 30 19 1,lO 86 3 85,oO 87 (.binOp .add 3 (xT 86) (nI 1) 3),aO 16 84,aO 17 87] [1,2,3,15,16,17,45,46,47]))))) (.reg [oO 88 (.binOp .add 3 (xT 47) (nI 1) 3),mO 47 88] [1,2,3,15,16,17,45,46,47])))) 
def c_diff_Gap : CC := sR [oO 8 (.assign nS)] [1,2,3] (sR [oO 9 (.assign nS)] [1,2,3,9] (.seq (sR [mO 20 1,oO 21 (bL 20 34),oO 22 (.move (nI 0))] [1,2,3,9,20,21,22] (.block 0 (.loop l2_diff_Gap))) (.keep [1,2,3,9] (sR [oO 15 (.assign nS)] [1,2,3,9,15] (sR [oO 16 (.assign (nI 0)),oO 17 (.assign (nI 0))] [1,2,3,9,15,16,17] (.stop (.seq (sR [mO 44 9,oO 45 (cL 9 #[(xT 44)] #[22]),oO 46 (bL 45 25),oO 47 (.move (nI 0))] [1,2,3,15,16,17,45,46,47] (.block 4 (.loop l3_diff_Gap))) (.keep [1,2,15,16,17] (sR [mO 89 15,mO 90 1,mO 91 16,oO 92 (.slice 34 (xT 90) (some (xT 91)) none none),oO 93 (cL 91 #[(xT 92)] #[34]),oN 94 (bC .append #[(xT 89),(xT 93)] #[45,45]) [8],mO 95 2,mO 96 17,oO 97 (.slice 34 (xT 95) (some (xT 96)) none none),oO 98 (cL 89 #[(xT 97)] #[34]),oN 99 (bC .append #[(xT 94),(xT 98)] #[45,45]) [9],aO 8 99] [8] (.ret))))))))))
theorem t_diff_Gap : Txt Try.prog 90 100 [(.tmp 8)] c_diff_Gap := txt_of (code := Try.f90.body.getD .ret) mixed (by kernel_rfl) Try.func90 (by kernel_rfl) Try.ntmps90 (by kernel_rfl) (ls := lsOf c_diff_Gap) (by kernel_rfl)
def l1_diff_ops : CC := .seq (sR [mO 19 12,mO 20 0,oO 21 (bL 20 125),oO 22 (bO .lss 3 19 21 3)] [0,3,5,9,10,11,12,22] (cD 22 (.skip) (.exit 0))) (.keep [0,3,5,9,10,11,12] (.seq (.block 1 (sR [mO 25 0,mO 26 12,oO 27 (iA 125 25 26),fO 28 130 27 1,lO 29 3 28,aO 13 29] [0,3,5,9,10,11,12,13] (.block 2 (sR [mO 40 0,mO 41 12,oO 42 (iA 125 40 41),fO 43 130 42 0,lO 44 3 43,oO 45 (.binOp .eql 3 (xT 44) (nI 0) 3),aO 39 45] [0,3,5,9,10,11,12,13,39] (cD 39 (.reg [mO 46 9,mO 47 13,oO 48 (.build 50 #[(1,(xT 47))]),oO 49 (.buildSlice 45 1 #[(0,(xT 48))]),oN 50 (bC .append #[(xT 46),(xT 49)] #[45,45]) [2],mO 51 10,mO 52 13,oO 53 (.slice 34 (xT 51) (some (xT 52)) none none),mO 54 11,mO 55 13,oO 56 (.slice 34 (xT 54) (some (xT 55)) none none),aO 9 50,aO 10 53,aO 11 56] [0,3,5,9,10,11,12]) (sR [mO 58 0,mO 59 12,oO 60 (iA 125 58 59),fO 61 130 60 0,lO 62 3 61,oO 63 (.binOp .eql 3 (xT 62) (nI 2) 3),aO 57 63] [0,3,5,9,10,11,12,13,57] (cD 57 (.reg [mO 64 9,mO 65 11,mO 66 13,oO 67 (.slice 34 (xT 65) none (some (xT 66)) none),oO 68 (cL 89 #[(xT 67)] #[34]),oN 69 (bC .append #[(xT 64),(xT 68)] #[45,45]) [3],mO 70 11,mO 71 13,oO 72 (.slice 34 (xT 70) (some (xT 71)) none none),aO 9 69,aO 11 72] [0,3,5,9,10,11,12]) (sR [mO 74 12,oO 75 (.binOp .add 3 (xT 74) (nI 1) 3),mO 76 0,oO 77 (bL 76 125),oO 78 (bO .lss 3 75 77 3),mO 79 78,oG 80 (mV 0) 79 true,oG 81 (mV 12) 79 true,oG 82 (.binOp .add 3 (xT 81) (nI 1) 3) 79 true,oG 83 (iA 125 80 82) 79 true,oG 84 (fA 130 83 0) 79 true,oG 85 (lD 3 84) 79 true,oG 86 (.binOp .eql 3 (xT 85) (nI 2) 3) 79 true,oO 87 (.pick (xT 79) (xT 86) (nB false)),aO 73 87] [0,3,5,9,10,11,12,13,73] (cD 73 (sR [mO 88 0,mO 89 12,oO 90 (.binOp .add 3 (xT 89) (nI 1) 3),oO 91 (iA 125 88 90),fO 92 130 91 1,lO 93 3 92,aO 14 93] [0,3,5,9,10,11,12,13,14] (sR [mO 94 9,fO 95 36 5 0,lO 96 3 95,mO 97 10,mO 98 13,oO 99 (.slice 34 (xT 97) none (some (xT 98)) none),mO 100 11,mO 101 14,oO 102 (.slice 34 (xT 100) none (some (xT 101)) none),mO 103 3,oO 104 (cL 90 #[(xT 96),(xT 99),(xT 102),(xT 103)] #[3,34,34,3]),oN 105 (bC .append #[(xT 94),(xT 104)] #[45,45]) [4],aO 9 105] [0,3,5,9,10,11,12,13,14] (sR [mO 106 10,mO 107 13,oO 108 (.slice 34 (xT 106) (some (xT 107)) none none),mO 109 11,mO 110 14,oO 111 (.slice 34 (xT 109) (some (xT 110)) none none),aO 10 108,aO 11 111] [0,3,5,9,10,11,12] (.reg [mO 112 12,oO 113 (.binOp .add 3 (xT 112) (nI 1) 3),aO 12 113] [0,3,5,9,10,11,12])))) (.reg [mO 30 9,mO 31 10,mO 32 13,oO 33 (.slice 34 (xT 31) none (some (xT 32)) none),oO 34 (cL 91 #[(xT 33)] #[34]),oN 35 (bC .append #[(xT 30),(xT 34)] #[45,45]) [5],mO 36 10,mO 37 13,oO 38 (.slice 34 (xT 36) (some (xT 37)) none none),aO 9 35,aO 10 38] [0,3,5,9,10,11,12])))))))))) (.keep [0,3,5,9,10,11,12] (.reg [mO 23 12,oO 24 (.binOp .add 3 (xT 23) (nI 1) 3),aO 12 24] [0,3,5,9,10,11,12])))) 
def c_diff_ops : CC := sR [oN 5 (.box 36 (xT 1)) [0],oN 6 (.box 36 (xT 2)) [1],oO 8 (.assign nS)] [0,3,5,6] (sR [oO 9 (.assign nS)] [0,3,5,6,9] (sR [fO 15 36 5 2,lO 16 34 15,fO 17 36 6 2,lO 18 34 17,aO 10 16,aO 11 18] [0,3,5,9,10,11] (.seq (sR [oO 12 (.assign (nI 0))] [0,3,5,9,10,11,12] (.block 0 (.loop l1_diff_ops))) (.keep [9] (sR [mO 114 9,aO 8 114] [8] (.ret))))))
theorem t_diff_ops : Txt Try.prog 77 115 [(.tmp 8)] c_diff_ops := txt_of (code := Try.f77.body.getD .ret) mixed (by kernel_rfl) Try.func77 (by kernel_rfl) Try.ntmps77 (by kernel_rfl) (ls := lsOf c_diff_ops) (by kernel_rfl)
def k1_diff_list : CC := sR [fO 39 36 3 0,⟨some 40,(lD 3 39),none,[],1,[],true⟩,mO 41 9,lO 42 36 3,lO 43 36 4,mO 44 2,⟨some 45,(cL 77 #[(xT 41),(xT 42),(xT 43),(xT 44)] #[125,36,36,3]),none,[],6,[1],false⟩,oO 46 (.build 47 #[(0,(nI 3)),(5,(xT 40)),(6,(xT 45))]),oS (.store 47 (xT 6) (xT 46))] [6] (.ret) 
def c_diff_list : CC := sR [oN 3 (.box 36 (xT 0)) [0],oN 4 (.box 36 (xT 1)) [1],oN 6 (.alloc 47) [2]] [2,3,4,6] (sR [oO 11 (.build 123 #[]),oN 12 (.box 123 (xT 11)) [3],aO 7 12] [2,3,4,6,7] (.stop (sR [mO 13 7,fO 14 36 3 2,lO 15 34 14,oO 16 (cL 74 #[(xT 13),(xT 15)] #[121,34]),aO 8 16] [2,3,4,6,7,8] (sR [mO 18 8,mO 19 7,fO 20 36 4 2,lO 21 34 20,oO 22 (cL 74 #[(xT 19),(xT 21)] #[121,34]),mO 23 2,oO 24 (cL 75 #[(xT 18),(xT 22),(xT 23)] #[32,32,3]),mO 17 24,xO 25 17 0,xO 26 17 1,aO 9 25,aO 10 26] [2,3,4,6,9,10] (.seq (sR [mO 27 10,oO 28 (.unOp .not 4 (xT 27))] [2,3,4,6,9,28] (cD 28 (.reg [fO 29 36 3 2,lO 30 34 29,oO 31 (bL 30 34),oO 32 (.build 130 #[(0,(nI 1)),(1,(xT 31))]),fO 33 36 4 2,lO 34 34 33,oO 35 (bL 34 34),oO 36 (.build 130 #[(0,(nI 2)),(1,(xT 35))]),oO 37 (.buildSlice 125 2 #[(0,(xT 32)),(1,(xT 36))]),oO 38 (cL 76 #[(xT 37)] #[125]),aO 9 38] [2,3,4,6,9]) (.skip))) (.keep [2,3,4,6,9] k1_diff_list))))))
theorem t_diff_list : Txt Try.prog 54 47 [(.cell 6 47)] c_diff_list := txt_of (code := Try.f54.body.getD .ret) mixed (by kernel_rfl) Try.func54 (by kernel_rfl) Try.ntmps54 (by kernel_rfl) (ls := lsOf c_diff_list) (by kernel_rfl)
def c_diff_one : CC := sR [oN 3 (.box 36 (xT 0)) [0],oN 4 (.box 36 (xT 1)) [1],oN 6 (.alloc 47) [2]] [2,3,4,6] (.seq (.block 0 (sR [lO 8 36 3,lO 9 36 4,oO 10 (cL 29 #[(xT 8),(xT 9)] #[36,36]),aO 7 10] [2,3,4,6,7] (cD 7 (sR [oO 11 (.build 47 #[]),oS (.store 47 (xT 6) (xT 11))] [6] (.ret)) (sR [fO 13 36 3 0,lO 14 3 13,oO 15 (.binOp .eql 3 (xT 14) (nI 1) 3),mO 16 15,oG 17 (fA 36 4 0) 16 true,oG 18 (lD 3 17) 16 true,oG 19 (.binOp .eql 3 (xT 18) (nI 1) 3) 16 true,oO 20 (.pick (xT 16) (xT 19) (nB false)),aO 12 20] [2,3,4,6,12] (cD 12 (sR [lO 21 36 3,lO 22 36 4,mO 23 2,oO 24 (cL 52 #[(xT 21),(xT 22),(xT 23)] #[36,36,3]),oS (.store 47 (xT 6) (xT 24))] [6] (.ret)) (sR [fO 26 36 3 0,lO 27 3 26,fO 28 36 4 0,lO 29 3 28,oO 30 (bO .eql 3 27 29 3),mO 31 30,oG 32 (fA 36 3 0) 31 true,oG 33 (lD 3 32) 31 true,oG 34 (cL 53 #[(xT 33)] #[3]) 31 true,oO 35 (.pick (xT 31) (xT 34) (nB false)),aO 25 35] [2,3,4,6,25] (cD 25 (sR [lO 36 36 3,lO 37 36 4,mO 38 2,oO 39 (cL 54 #[(xT 36),(xT 37),(xT 38)] #[36,36,3]),oS (.store 47 (xT 6) (xT 39))] [6] (.ret)) (.skip)))))))) (.keep [3,4,6] (sR [lO 40 36 3,lO 41 36 4,oO 42 (.build 47 #[(0,(nI 1)),(1,(xT 40)),(2,(xT 41))]),oS (.store 47 (xT 6) (xT 42))] [6] (.ret))))
theorem t_diff_one : Txt Try.prog 36 43 [(.cell 6 47)] c_diff_one := txt_of (code := Try.f36.body.getD .ret) mixed (by kernel_rfl) Try.func36 (by kernel_rfl) Try.ntmps36 (by kernel_rfl) (ls := lsOf c_diff_one) (by kernel_rfl)
def c_diff_Trees : CC := sR [oN 3 (.box 36 (xT 0)) [0],oN 4 (.box 36 (xT 1)) [1],oN 6 (.alloc 47) [2]] [2,3,4,6] (sR [lO 7 36 3,⟨some 8,(cL 37 #[(xT 7)] #[36]),none,[],1,[],true⟩,⟨some 9,(lD 36 4),none,[],2,[1],false⟩,oO 10 (cL 37 #[(xT 9)] #[36]),mO 11 2,oO 12 (cL 36 #[(xT 8),(xT 10),(xT 11)] #[36,36,3]),oO 13 (cL 35 #[(xT 12)] #[47]),oS (.store 47 (xT 6) (xT 13))] [6] (.ret))
theorem t_diff_Trees : Txt Try.prog 18 14 [(.cell 6 47)] c_diff_Trees := txt_of (code := Try.f18.body.getD .ret) mixed (by kernel_rfl) Try.func18 (by kernel_rfl) Try.ntmps18 (by kernel_rfl) (ls := lsOf c_diff_Trees) (by kernel_rfl)
def c_centolaw26_Good : CC := sR [oN 1 (.box 36 (xT 0)) [0],oO 2 (.assign (nB false))] [1] (sR [lO 3 36 1,oO 4 (cL 28 #[(xT 3),(nI 70),(nI 400)] #[36,3,3]),oO 5 (.binOp .geq 3 (xT 4) (nI 0) 3),mO 6 5,oG 7 (lD 36 1) 6 true,oG 8 (cL 31 #[(xT 7),(nI 64)] #[36,3]) 6 true,oO 9 (.pick (xT 6) (xT 8) (nB false)),mO 10 9,oG 11 (fA 36 1 0) 10 true,oG 12 (lD 3 11) 10 true,oG 13 (.binOp .neq 3 (xT 12) (nI 10) 3) 10 true,oO 14 (.pick (xT 10) (xT 13) (nB false)),aO 2 14] [2] (.ret))
theorem t_centolaw26_Good : Txt Try.prog 14 15 [(.tmp 2)] c_centolaw26_Good := txt_of (code := Try.f14.body.getD .ret) mixed (by kernel_rfl) Try.func14 (by kernel_rfl) Try.ntmps14 (by kernel_rfl) (ls := lsOf c_centolaw26_Good) (by kernel_rfl)
def l1_centolaw26_awake_1 : CC := .seq (sR [mO 6 4,mO 7 0,oO 8 (bL 7 33),oO 9 (bO .lss 3 6 8 3)] [0,2,3,4,9] (cD 9 (.skip) (.exit 0))) (.keep [0,2,3,4] (.seq (.block 1 (.reg [fO 12 36 3 2,⟨some 13,(lD 34 12),none,[],1,[],true⟩,mO 14 0,mO 15 4,oO 16 (iA 33 14 15),lO 17 68 16,⟨some 18,(.buildSlice 33 1 #[(0,(xT 17))]),none,[],6,[1],false⟩,oO 19 (.build 36 #[(0,(nI 10)),(1,(xT 18))]),⟨some 20,(.buildSlice 34 1 #[(0,(xT 19))]),none,[],8,[1],false⟩,oN 21 (bC .append #[(xT 13),(xT 20)] #[34,34]) [2],fO 22 36 3 2,oS (.store 34 (xT 22) (xT 21))] [0,2,3,4])) (.reg [mO 10 4,oO 11 (.binOp .add 3 (xT 10) (nI 1) 3),aO 4 11] [0,2,3,4]))) 
def c_centolaw26_awake_1 : CC := sR [oN 2 (.alloc 36) [0]] [0,2] (sR [oO 5 (.build 36 #[(0,(nI 4))]),oN 3 (.alloc 36) [1],oS (.store 36 (xT 3) (xT 5))] [0,2,3] (.seq (sR [oO 4 (.assign (nI 0))] [0,2,3,4] (.block 0 (.loop l1_centolaw26_awake_1))) (.keep [2,3] (sR [lO 23 36 3,oS (.store 36 (xT 2) (xT 23))] [2] (.ret)))))
theorem t_centolaw26_awake_1 : Txt Try.prog 32 24 [(.cell 2 36)] c_centolaw26_awake_1 := txt_of (code := Try.f32.body.getD .ret) mixed (by kernel_rfl) Try.func32 (by kernel_rfl) Try.ntmps32 (by kernel_rfl) (ls := lsOf c_centolaw26_awake_1) (by kernel_rfl)
def c_centolaw26_awake : CC := sR [oO 0 (.assign (nB false))] [] (sR [oO 1 (.assign (.func 32))] [1] (sR [mO 3 1,oO 4 (.buildSlice 33 3 #[(0,(.const (.int .u64 1))),(1,(.const (.int .u64 2))),(2,(.const (.int .u64 3)))]),oO 5 (.call { callee := (.value (xT 3)),args := #[(xT 4)],argTypes := #[33] }),mO 6 1,oO 7 (.buildSlice 33 3 #[(0,(.const (.int .u64 1))),(1,(.const (.int .u64 9))),(2,(.const (.int .u64 3)))]),oO 8 (.call { callee := (.value (xT 6)),args := #[(xT 7)],argTypes := #[33] }),oO 9 (cL 18 #[(xT 5),(xT 8),(nI 9)] #[36,36,3]),oN 2 (.alloc 47) [0],oS (.store 47 (xT 2) (xT 9))] [2] (sR [fO 10 47 2 0,lO 11 3 10,oO 12 (.binOp .eql 3 (xT 11) (nI 3) 3),mO 13 12,oG 14 (fA 47 2 5) 13 true,oG 15 (lD 3 14) 13 true,oG 16 (.binOp .eql 3 (xT 15) (nI 4) 3) 13 true,oO 17 (.pick (xT 13) (xT 16) (nB false)),mO 18 17,oG 19 (fA 47 2 6) 18 true,oG 20 (lD 45 19) 18 true,oG 21 (bL 20 45) 18 true,oG 22 (.binOp .eql 3 (xT 21) (nI 4) 3) 18 true,oO 23 (.pick (xT 18) (xT 22) (nB false)),mO 24 23,oG 25 (fA 47 2 6) 24 true,oG 26 (lD 45 25) 24 true,oG 27 (.indexAddr 45 (xT 26) (nI 1)) 24 true,oG 28 (fA 50 27 0) 24 true,oG 29 (lD 3 28) 24 true,oG 30 (.binOp .eql 3 (xT 29) (nI 1) 3) 24 true,oO 31 (.pick (xT 24) (xT 30) (nB false)),mO 32 31,oG 33 (fA 47 2 6) 32 true,oG 34 (lD 45 33) 32 true,oG 35 (.indexAddr 45 (xT 34) (nI 2)) 32 true,oG 36 (fA 50 35 0) 32 true,oG 37 (lD 3 36) 32 true,oG 38 (.binOp .eql 3 (xT 37) (nI 2) 3) 32 true,oO 39 (.pick (xT 32) (xT 38) (nB false)),aO 0 39] [0] (.ret))))
theorem t_centolaw26_awake : Txt Try.prog 15 40 [(.tmp 0)] c_centolaw26_awake := txt_of (code := Try.f15.body.getD .ret) mixed (by kernel_rfl) Try.func15 (by kernel_rfl) Try.ntmps15 (by kernel_rfl) (ls := lsOf c_centolaw26_awake) (by kernel_rfl)
def l1_centolaw26_DiffKeeps : CC := .seq (sR [mO 78 14,fO 79 47 12 6,lO 80 45 79,oO 81 (bL 80 45),oO 82 (bO .lss 3 78 81 3)] [11,12,13,14,82] (cD 82 (.skip) (.exit 0))) (.keep [11,12,13,14] (.seq (.block 1 (sR [fO 85 47 12 6,lO 86 45 85,mO 87 14,oO 88 (iA 45 86 87),fO 89 50 88 0,lO 90 3 89,oO 91 (.binOp .eql 3 (xT 90) (nI 0) 3)] [11,12,13,14,91] (cD 91 (.reg [mO 92 13,fO 93 47 12 6,lO 94 45 93,mO 95 14,oO 96 (iA 45 94 95),fO 97 50 96 1,lO 98 3 97,oO 99 (bO .add 3 92 98 3),aO 13 99] [11,12,13,14]) (.skip)))) (.keep [11,12,13,14] (.reg [mO 83 14,oO 84 (.binOp .add 3 (xT 83) (nI 1) 3),aO 14 84] [11,12,13,14])))) 
def c_centolaw26_DiffKeeps : CC := sR [oN 3 (.box 36 (xT 0)) [0],oN 4 (.box 36 (xT 1)) [1],oO 6 (.assign (nB false))] [2,3,4] (.seq (sR [lO 15 36 3,oO 16 (cL 14 #[(xT 15)] #[36]),oO 17 (.unOp .not 4 (xT 16)),mO 18 17,oG 19 (lD 36 4) 18 false,oG 20 (cL 14 #[(xT 19)] #[36]) 18 false,oG 21 (.unOp .not 4 (xT 20)) 18 false,oO 22 (.pick (xT 18) (nB true) (xT 21)),mO 23 22,oG 24 (fA 36 3 0) 23 false,oG 25 (lD 3 24) 23 false,oG 26 (fA 36 4 0) 23 false,oG 27 (lD 3 26) 23 false,oG 28 (bO .neq 3 25 27 3) 23 false,oO 29 (.pick (xT 23) (nB true) (xT 28)),mO 30 29,oG 31 (fA 36 3 0) 30 false,oG 32 (lD 3 31) 30 false,oG 33 (.binOp .lss 3 (xT 32) (nI 2) 3) 30 false,oO 34 (.pick (xT 30) (nB true) (xT 33)),mO 35 34,oG 36 (fA 36 3 0) 35 false,oG 37 (lD 3 36) 35 false,oG 38 (.binOp .gtr 3 (xT 37) (nI 9) 3) 35 false,oO 39 (.pick (xT 35) (nB true) (xT 38))] [2,3,4,39] (cD 39 (sR [oO 40 (cL 15 #[] #[]),aO 6 40] [6] (.ret)) (.skip))) (.keep [2,3,4] (sR [oO 7 (.assign nS)] [2,3,4,7] (.stop (sR [mO 42 7,fO 43 36 3 2,lO 44 34 43,oO 45 (cL 16 #[(xT 42),(xT 44)] #[34,34]),mO 41 45,xO 46 41 0,xO 47 41 1,aO 7 46,aO 8 47] [2,3,4,7,8] (sR [mO 49 7,fO 50 36 4 2,lO 51 34 50,oO 52 (cL 16 #[(xT 49),(xT 51)] #[34,34]),mO 48 52,xO 53 48 0,xO 54 48 1,aO 9 53,aO 10 54] [2,3,4,8,10] (sR [mO 55 8,mO 56 10,oO 57 (cL 17 #[(xT 55),(xT 56)] #[32,32]),aO 11 57] [2,3,4,8,10,11] (sR [lO 58 36 3,lO 59 36 4,mO 60 2,oO 61 (cL 18 #[(xT 58),(xT 59),(xT 60)] #[36,36,3]),oN 12 (.alloc 47) [2],oS (.store 47 (xT 12) (xT 61))] [2,8,10,11,12] (.seq (sR [mO 62 8,oO 63 (bL 62 32),mO 64 10,oO 65 (bL 64 32),oO 66 (bO .add 3 63 65 3),mO 67 11,oO 68 (.binOp .mul 3 (nI 2) (xT 67) 3),oO 69 (bO .sub 3 66 68 3),mO 70 2,oO 71 (bO .gtr 3 69 70 3),mO 72 71,oG 73 (fA 47 12 0) 72 false,oG 74 (lD 3 73) 72 false,oG 75 (.binOp .eql 3 (xT 74) (nI 0) 3) 72 false,oO 76 (.pick (xT 72) (nB true) (xT 75))] [11,12,76] (cD 76 (sR [oO 77 (cL 15 #[] #[]),aO 6 77] [6] (.ret)) (.skip))) (.keep [11,12] (sR [oO 13 (.assign (nI 0))] [11,12,13] (.seq (sR [oO 14 (.assign (nI 0))] [11,12,13,14] (.block 0 (.loop l1_centolaw26_DiffKeeps))) (.keep [11,13] (sR [mO 100 13,mO 101 11,oO 102 (bO .eql 3 100 101 3),mO 103 102,oG 104 (cL 15 #[] #[]) 103 true,oO 105 (.pick (xT 103) (xT 104) (nB false)),aO 6 105] [6] (.ret)))))))))))))))
theorem t_centolaw26_DiffKeeps : Txt Try.prog 6 106 [(.tmp 6)] c_centolaw26_DiffKeeps := txt_of (code := Try.f6.body.getD .ret) mixed (by kernel_rfl) Try.func6 (by kernel_rfl) Try.ntmps6 (by kernel_rfl) (ls := lsOf c_centolaw26_DiffKeeps) (by kernel_rfl)
end Go.Proofs.Ytmeldaflhkiopaa

namespace Go.Proofs.Ytmeldaflhkiopaa
set_option linter.unusedVariables false
set_option linter.unusedSimpArgs false
open Go Go.G Go.Proofs Go.PL
theorem rWidth_spec (c : Int) : G.Spec Try.prog 68 [iv c] (iv (widthZ c)) := by
  refine spec_of t_centoref01_Width (by simp) fun w0 I0 => ?_
  unfold c_centoref01_Width
  by_cases h0 : c = 0
  · subst h0; simp; exact frz_is rfl rfl
  by_cases h1 : c = 1
  · subst h1; simp; exact frz_is rfl rfl
  by_cases h2 : c = 2
  · subst h2; simp; exact frz_is rfl rfl
  by_cases h3 : c = 3
  · subst h3; simp; exact frz_is rfl rfl
  by_cases h4 : c = 4
  · subst h4; simp; exact frz_is rfl rfl
  by_cases h5 : c = 5
  · subst h5; simp; exact frz_is rfl rfl
  simp [h0,h1,h2,h3,h4,h5]
  exact frz_is rfl (by simp [widthZ,h0,h1,h2,h3,h4,h5])
theorem widthZ_cases (c : Int) : widthZ c = -1∨widthZ c = 0∨widthZ c = 1∨widthZ c = 8∨widthZ c = 16∨widthZ c = 32∨widthZ c = 64 := by
  unfold widthZ; repeat' split
  all_goals simp
section
variable {n0 : Nat} {w0 : World} {I0 : Nat→Prop} {Q : Exit→Sta→Prop} {H : Hp}
theorem rFits_l1 {w : Int} (hw : w≤64) : ∀ (m : Nat) (x i : Int),0≤x→x < 18446744073709551616→0≤i→i + m = w→(∀ b,Q (.exit 0) ⟨lk [(1,uv (x / 2 ^ m)),(5,iv w),(6,iv w),(13,bv b)],H⟩) →
    LoopC (cx Try.prog w0 I0 n0) l1_centoref01_Fits Q ⟨lk [(1,uv x),(5,iv w),(6,iv i)],H⟩ := by
  intro m
  induction m with
  | zero =>
    intro x i h0 h1 h2 h3 hq
    have : i = w := by simpa using h3
    subst this
    refine loopC_once mixed l1_centoref01_Fits.eq_1 ?_
    simp
    simpa using hq _
  | succ m ih =>
    intro x i h0 h1 h2 h3 hq
    refine loopC_once mixed l1_centoref01_Fits.eq_1 ?_
    have hi : i < w := by omega
    simp [hi]
    rw [i64_same (by omega) (by omega),Int.tdiv_eq_ediv_of_nonneg h0,u64_same (by omega) (by omega)]
    exact ih _ _ (by omega) (by omega) (by omega) (by omega) (by rw [pow_half]; exact hq)
end
theorem rFits_spec {c n : Int} (h : u64R n) : G.Spec Try.prog 50 [iv c,uv n] (bv (fitsZ c n)) := by
  refine spec_of t_centoref01_Fits (by simp) fun w0 I0 => ?_
  unfold c_centoref01_Fits
  simp
  refine sc_call (rWidth_spec c) rfl ?_
  simp
  have hw := widthZ_cases c
  refine ⟨fun h0 => ?_,fun h0 => ?_⟩
  · refine frz_bool ?_
    simp [fitsZ]; omega
  · refine rFits_l1 (w := widthZ c) (by omega) (widthZ c).toNat n 0 h.1 h.2 (by omega) (by omega) (fun b => ?_)
    simp
    refine frz_bool ?_
    simp [fitsZ,h0]
section
variable {n0 : Nat} {w0 : World} {I0 : Nat→Prop} {Q : Exit→Sta→Prop} {H : Hp}
theorem rSame_l1 {a b : List Int} (hl : a.length = b.length) (hb : a.length * 8≤140737488355328) : ∀ (m i : Nat),i + m = a.length→a.take i = b.take i→(a = b→∀ i q,Q (.exit 0) ⟨lk [(0,uws a),(1,uws b),(5,iv i),(14,bv q)],H⟩)→(a ≠ b→Q .ret ⟨lk [(4,bv false)],H⟩) →
    LoopC (cx Try.prog w0 I0 n0) l1_centoref01_Same Q ⟨lk [(0,uws a),(1,uws b),(5,iv i)],H⟩ := by
  intro m
  induction m with
  | zero =>
    intro i hi ht h1 h2
    have : i = a.length := by omega
    subst this
    refine loopC_once mixed l1_centoref01_Same.eq_1 ?_
    simp
    refine h1 ?_ _ _
    rw [List.take_of_length_le (Nat.le_refl _),List.take_of_length_le (by omega)] at ht
    exact ht
  | succ m ih =>
    intro i hi ht h1 h2
    have hlt : i < a.length := by omega
    have hlt' : i < b.length := by omega
    refine loopC_once mixed l1_centoref01_Same.eq_1 ?_
    simp [hlt,hlt']
    refine ⟨fun he => ?_,fun hne => h2 fun e => hne (by subst e; rfl)⟩
    rw [i64_same (by omega) (by omega)]
    refine ih (i + 1) (by omega) ?_ h1 h2
    rw [List.take_succ_eq_append_getElem hlt,List.take_succ_eq_append_getElem hlt',ht,he]
end
theorem rSame_spec (a b : List Int) (hb : a.length * 8≤140737488355328) : G.Spec Try.prog 66 [uws a,uws b] (bv (decide (a = b))) := by
  refine spec_of t_centoref01_Same (by simp) fun w0 I0 => ?_
  unfold c_centoref01_Same
  simp
  refine ⟨fun h => ?_,fun h => ?_⟩
  · refine rSame_l1 (by omega) hb a.length 0 (by omega) rfl (fun e i q => ?_) (fun e => ?_)
    · simp
      refine frz_bool ?_
      simp [e]
    · simp
      refine frz_bool ?_
      simp [e]
  · refine frz_bool ?_
    have : ¬ a = b := fun e => h (by rw [e])
    simp [this]
section
variable {n0 : Nat} {w0 : World} {I0 : Nat→Prop} {Q : Exit→Sta→Prop} {H : Hp}
theorem rTrim_l1 {w : List Int} (hb : w.length * 8≤140737488355328) (hq : ∀ q,Q (.exit 0) ⟨lk [(0,uws w),(3,iv (trimW w).length),(16,bv q)],H⟩) : ∀ (n : Nat),n≤w.length→trimW (w.take n) = trimW w →
    LoopC (cx Try.prog w0 I0 n0) l1_centoref07_Trim Q ⟨lk [(0,uws w),(3,iv n)],H⟩ := by
  intro n
  induction n with
  | zero =>
    intro hn ht
    refine loopC_once mixed l1_centoref07_Trim.eq_1 ?_
    simp
    have e : (trimW w).length = 0 := by rw [← ht]; rfl
    have := hq false
    rw [e] at this
    exact this
  | succ n ih =>
    intro hn ht
    have hlt : n < w.length := by omega
    have e : IntKind.i64.wrap (n : Int) = n := i64_same (by omega) (by omega)
    refine loopC_once mixed l1_centoref07_Trim.eq_1 ?_
    by_cases h0 : w[n] = 0
    · simp [e,hlt,h0]
      exact ih (by omega) (by rw [← trimW_zero hlt h0]; exact ht)
    · have e2 : (trimW w).length = n + 1 := by rw [← ht,trimW_stop hlt h0]; simp; omega
      have := hq false
      rw [e2] at this
      simp [e,hlt,h0]
      simpa using this
end
theorem rTrim_spec (w : List Int) (hb : w.length * 8≤140737488355328) : G.Spec Try.prog 67 [uws w] (uws (trimW w)) := by
  refine spec_of t_centoref07_Trim (by simp) fun w0 I0 => ?_
  unfold c_centoref07_Trim
  simp
  refine rTrim_l1 hb (fun q => ?_) w.length (Nat.le_refl _) (by rw [List.take_of_length_le (Nat.le_refl _)])
  have hl := trimW_le w
  have hb' : (trimW w).length * 8≤140737488355328 := by omega
  simp [hl]
  refine ⟨hb',?_⟩
  rw [← List.map_take,← trimW_take]
  exact frz_row (by simp) rfl (by simp)
abbrev bys (l : List Int) : List A := l.map u8
def bytesN : Nat→Int→List Int
  | 0,_ => []
  | m + 1,x => x % 256 :: bytesN m (x / 256)
@[simp] theorem bytesN_length : ∀ (m : Nat) (x : Int),(bytesN m x).length = m
  | 0,_ => rfl
  | m + 1,x => by simp [bytesN,bytesN_length m]
theorem splice_set {l : List Int} {i : Nat} {v : Int} (h : i < l.length) : splice (l.map u8) i [u8 v] = (l.set i v).map u8 := by
  apply List.ext_getElem?
  intro j
  simp only [splice,List.length_singleton]
  rw [List.append_assoc,List.map_set]
  by_cases h1 : j < i
  · rw [List.getElem?_append_left (by simp; omega),List.getElem?_take,if_pos h1,List.getElem?_set_ne (by omega)]
  · rw [List.getElem?_append_right (by simp; omega)]
    have e : (List.take i (l.map u8)).length = i := by simp; omega
    rw [e]
    by_cases h2 : j = i
    · subst h2
      rw [List.getElem?_set_self (by simpa using h)]
      simp
    · rw [List.getElem?_set_ne (by omega),List.getElem?_append_right (by simp; omega),List.getElem?_drop]
      congr 1
      simp; omega
section
variable {n0 : Nat} {w0 : World} {I0 : Nat→Prop} {Q : Exit→Sta→Prop}
end
def bytesZ (x : Int) : List Int := bytesN 8 x
theorem frz_bytes {H : Hp} {l : List Int} : Frz H (.agg (bys l)) (.agg (bys l)) := frz_bare (by simp)
section
variable {n0 : Nat} {w0 : World} {I0 : Nat→Prop} {Q : Exit→Sta→Prop} {H : Hp}
end
def namedZ (x : Int) (i : Nat) : Bool := decide (x / 2 ^ i % 2 = 1)
def ofZ : List Int→Int
  | [] => 0
  | b :: l => b + 256 * ofZ l
theorem ofZ_range : ∀ (l : List Int),(∀ b,b ∈ l→0≤b∧b < 256)→0≤ofZ l∧ofZ l < 256 ^ l.length
  | [],_ => by simp [ofZ]
  | b :: l,h => by
    have h1 := h b (by simp)
    have h2 := ofZ_range l fun x hx => h x (by simp [hx])
    simp only [ofZ,List.length_cons,Int.pow_succ]
    omega
section
variable {n0 : Nat} {w0 : World} {I0 : Nat→Prop} {Q : Exit→Sta→Prop} {H : Hp}
end
theorem bytesN_range : ∀ (m : Nat) (x : Int),∀ b,b ∈ bytesN m x→0≤b∧b < 256
  | m + 1,x,b,h => by
    rcases List.mem_cons.1 h with rfl | h
    · omega
    · exact bytesN_range m _ b h
def mixL (a b : List Int) (mask : Int) (k : Nat) : List Int := (List.range k).map (fun i => if namedZ mask i = true then b.getD i 0 else a.getD i 0) ++ a.drop k
theorem mixL_length {a b : List Int} {mask : Int} {k : Nat} (h : k≤a.length) : (mixL a b mask k).length = a.length := by simp [mixL]; omega
section
variable {n0 : Nat} {w0 : World} {I0 : Nat→Prop} {Q : Exit→Sta→Prop}
end
def mixZ (a b mask : Int) : Int := ofZ (mixL (bytesZ a) (bytesZ b) mask 8)
theorem mixL_range {a b mask : Int} {k : Nat} : ∀ x,x ∈ mixL (bytesZ a) (bytesZ b) mask k→0≤x∧x < 256 := by
  have hg : ∀ (y : Int) (i : Nat),0≤(bytesZ y).getD i 0∧(bytesZ y).getD i 0 < 256 := fun y i => by
    rw [List.getD_eq_getElem?_getD]
    cases e : (bytesZ y)[i]? with
    | none => simp
    | some z => exact bytesN_range 8 y z (List.mem_of_getElem? e)
  intro x hx
  rcases List.mem_append.1 hx with hx | hx
  · obtain ⟨i,_,rfl⟩ := List.mem_map.1 hx
    split
    · exact hg b i
    · exact hg a i
  · exact bytesN_range 8 a x (List.mem_of_mem_drop hx)
theorem bytesZ_length (x : Int) : (bytesZ x).length = 8 := bytesN_length 8 x
end Go.Proofs.Ytmeldaflhkiopaa

namespace Go.Proofs.Ytmeldaflhkiopaa
set_option linter.unusedVariables false
set_option linter.unusedSimpArgs false
open Go Go.G Go.Proofs Go.PL
def mixN : Nat→Nat→Nat→Nat→Nat
  | 0,_,_,_ => 0
  | k + 1,a,b,m => (if m % 2 = 1 then b % 256 else a % 256) + 256 * mixN k (a / 256) (b / 256) (m / 2)
def wideN : Nat→Nat→Nat
  | 0,_ => 0
  | k + 1,m => (if m % 2 = 1 then 255 else 0) + 256 * wideN k (m / 2)
theorem wideN_lt : ∀ k m,wideN k m < 256 ^ k
  | 0,m => by simp [wideN]
  | k + 1,m => by
    have := wideN_lt k (m / 2)
    simp only [wideN,Nat.pow_succ]
    split <;> omega
theorem mixN_bits : ∀ k a b m,a < 256 ^ k→b < 256 ^ k→(a &&& (256 ^ k - 1 - wideN k m)) ||| (b &&& wideN k m) = mixN k a b m
  | 0,a,b,m,ha,hb => by
    simp at ha hb
    subst ha hb
    simp [mixN,wideN]
  | k + 1,a,b,m,ha,hb => by
    have hw := wideN_lt k (m / 2)
    rw [Nat.pow_succ] at ha hb
    have ih := mixN_bits k (a / 256) (b / 256) (m / 2) (by omega) (by omega)
    have p0 : 0 < 256 ^ k := Nat.pow_pos (by decide)
    generalize hx : (a &&& (256 ^ (k + 1) - 1 - wideN (k + 1) m)) ||| (b &&& wideN (k + 1) m) = x
    have d1 : wideN (k + 1) m / 256 = wideN k (m / 2) := by simp only [wideN]; split <;> omega
    have d2 : (256 ^ (k + 1) - 1 - wideN (k + 1) m) / 256 = 256 ^ k - 1 - wideN k (m / 2) := by simp only [wideN,Nat.pow_succ]; split <;> omega
    have m1 : wideN (k + 1) m % 256 = if m % 2 = 1 then 255 else 0 := by simp only [wideN]; split <;> omega
    have m2 : (256 ^ (k + 1) - 1 - wideN (k + 1) m) % 256 = if m % 2 = 1 then 0 else 255 := by simp only [wideN,Nat.pow_succ]; split <;> omega
    have e1 : x / 256 = mixN k (a / 256) (b / 256) (m / 2) := by
      have q1 := @Nat.or_div_two_pow (a &&& (256 ^ (k + 1) - 1 - wideN (k + 1) m)) (b &&& wideN (k + 1) m) 8
      have q2 := @Nat.and_div_two_pow a (256 ^ (k + 1) - 1 - wideN (k + 1) m) 8
      have q3 := @Nat.and_div_two_pow b (wideN (k + 1) m) 8
      have c : (2 : Nat) ^ 8 = 256 := rfl
      rw [q2,q3,c,d1,d2,hx] at q1
      rw [q1,ih]
    have e2 : x % 256 = if m % 2 = 1 then b % 256 else a % 256 := by
      have h : x % 2 ^ 8 = (a % 2 ^ 8 &&& (256 ^ (k + 1) - 1 - wideN (k + 1) m) % 2 ^ 8) ||| (b % 2 ^ 8 &&& wideN (k + 1) m % 2 ^ 8) := by
        rw [← hx,Nat.or_mod_two_pow,Nat.and_mod_two_pow,Nat.and_mod_two_pow]
      have c : (2 : Nat) ^ 8 = 256 := rfl
      rw [c,m1,m2] at h
      rw [h]
      have h255 : (255 : Nat) = 2 ^ 8 - 1 := rfl
      split
      · rw [h255,Nat.and_two_pow_sub_one_eq_mod]; simp
      · rw [h255,Nat.and_two_pow_sub_one_eq_mod]; simp
    simp only [mixN]
    omega
theorem mx_range : ∀ (k : Nat) (a b mask : Int),0≤a→0≤b→0≤mask→ofZ ((List.range k).map fun i => if namedZ mask i = true then (bytesN k b).getD i 0 else (bytesN k a).getD i 0) = (mixN k a.toNat b.toNat mask.toNat : Nat)
  | 0,a,b,mask,_,_,_ => by simp [ofZ,mixN]
  | k + 1,a,b,mask,ha,hb,hm => by
    have ih := mx_range k (a / 256) (b / 256) (mask / 2) (by omega) (by omega) (by omega)
    have e1 : (a / 256).toNat = a.toNat / 256 := by omega
    have e2 : (b / 256).toNat = b.toNat / 256 := by omega
    have e3 : (mask / 2).toNat = mask.toNat / 2 := by omega
    rw [e1,e2,e3] at ih
    rw [List.range_succ_eq_map,List.map_cons,List.map_map,ofZ]
    have h : (List.range k).map ((fun i => if namedZ mask i = true then (bytesN (k + 1) b).getD i 0 else (bytesN (k + 1) a).getD i 0) ∘ Nat.succ) = (List.range k).map fun i => if namedZ (mask / 2) i = true then (bytesN k (b / 256)).getD i 0 else (bytesN k (a / 256)).getD i 0 := by
      refine List.map_congr_left fun i _ => ?_
      have hn : namedZ mask (i + 1) = namedZ (mask / 2) i := by
        unfold namedZ
        have : mask / 2 ^ (i + 1) = mask / 2 / 2 ^ i := by
          rw [Int.ediv_ediv_of_nonneg (by decide),Int.pow_succ,Int.mul_comm]
        rw [this]
      simp [bytesN,hn]
    rw [h,ih]
    have h0 : (namedZ mask 0 = true) = (mask.toNat % 2 = 1) := by
      simp [namedZ]
      omega
    simp only [h0,mixN,bytesN,List.getD_cons_zero]
    split <;> omega
theorem mixZ_nat {a b mask : Int} (ha : u64R a) (hb : u64R b) (h0 : 0≤mask) : mixZ a b mask = (mixN 8 a.toNat b.toNat mask.toNat : Nat) := by
  rw [← mx_range 8 a b mask ha.1 hb.1 h0]
  unfold mixZ mixL bytesZ
  rw [List.drop_eq_nil_of_le (by simp),List.append_nil]
def wS (mask : Int) : Nat→Int
  | 0 => 0
  | i + 1 => if bits .and .u8 (mask / 2 ^ min i 8) 1 = 1 then bits .or .u64 (wS mask i) (IntKind.u64.wrap (255 * 2 ^ min (8 * i) 64)) else wS mask i
theorem wS_all : ∀ m : Nat,m < 256→wS m 8 = (wideN 8 m : Nat) := by decide +kernel
section
variable {n0 : Nat} {w0 : World} {I0 : Nat→Prop} {Q : Exit→Sta→Prop}
theorem mxwide_l1 {mask : Int} (hq : ∀ q,Q (.exit 0) ⟨lk [(0,u8 mask),(3,uv (wS mask 8)),(5,iv 8),(6,bv q)],lkH []⟩) :
    ∀ (j i : Nat),i + j = 8→LoopC (cx Try.prog w0 I0 n0) l1_word_Wide Q ⟨lk [(0,u8 mask),(3,uv (wS mask i)),(5,iv i)],lkH []⟩ := by
  intro j
  induction j with
  | zero =>
    intro i hi
    have : i = 8 := by omega
    subst this
    refine loopC_once mixed l1_word_Wide.eq_1 ?_
    simp
    exact hq _
  | succ j ih =>
    intro i hi
    refine loopC_once mixed l1_word_Wide.eq_1 ?_
    have hlt : i < 8 := by omega
    have hlt2 : (i : Int) < 8 := by omega
    have e8 : IntKind.i64.wrap (8 * (i : Int)) = ((8 * i : Nat) : Int) := (i64_same (by omega) (by omega)).trans (by omega)
    have ei : IntKind.i64.wrap ((i : Int) + 1) = ((i + 1 : Nat) : Int) := i64_same (by omega) (by omega)
    have b8 : IntKind.u8.bits = 8 := rfl
    have b64 : IntKind.u64.bits = 64 := rfl
    have hs := ih (i + 1) (by omega)
    rw [wS] at hs
    have e9 : (8 * (i : Int)).toNat = 8 * i := by omega
    simp [hlt,hlt2,e8,ei,b8,b64,e9]
    refine ⟨fun hc => ⟨by omega,?_⟩,fun hc => ?_⟩
    · rw [if_pos hc] at hs
      exact hs
    · rw [if_neg hc] at hs
      exact hs
end
theorem pWide_spec {mask : Int} (h0 : 0≤mask) (h1 : mask < 256) : G.Spec Try.prog 94 [u8 mask] (uv (wideN 8 mask.toNat : Nat)) := by
  refine spec_of t_word_Wide (by simp) fun w0 I0 => ?_
  unfold c_word_Wide
  simp
  obtain ⟨m,rfl⟩ := Int.eq_ofNat_of_zero_le h0
  refine mxwide_l1 (fun q => ?_) 8 0 rfl
  simp
  rw [wS_all m (by omega)]
  exact frz_bare rfl
theorem mx_nat {x : Nat} (h : x < 2 ^ 64) : (BitVec.ofInt 64 (x : Int)).toNat = x := by
  rw [BitVec.toNat_ofInt]
  omega
theorem mx_and {x y : Nat} (hx : x < 2 ^ 64) (hy : y < 2 ^ 64) : bits .and .u64 x y = (x &&& y : Nat) := by
  have h := Nat.lt_of_le_of_lt (Nat.and_le_left (n := x) (m := y)) hx
  show IntKind.u64.wrap ((BitVec.ofInt 64 x &&& BitVec.ofInt 64 y).toNat : Nat) = _
  rw [BitVec.toNat_and,mx_nat hx,mx_nat hy]
  exact u64_same (by omega) (by omega)
theorem mx_or {x y : Nat} (hx : x < 2 ^ 64) (hy : y < 2 ^ 64) : bits .or .u64 x y = (x ||| y : Nat) := by
  have h := Nat.or_lt_two_pow hx hy
  show IntKind.u64.wrap ((BitVec.ofInt 64 x ||| BitVec.ofInt 64 y).toNat : Nat) = _
  rw [BitVec.toNat_or,mx_nat hx,mx_nat hy]
  exact u64_same (by omega) (by omega)
theorem mx_andN {x y : Nat} (hx : x < 2 ^ 64) (hy : y < 2 ^ 64) : bits .andNot .u64 x y = (x &&& (256 ^ 8 - 1 - y) : Nat) := by
  have h := Nat.lt_of_le_of_lt (Nat.and_le_left (n := x) (m := 256 ^ 8 - 1 - y)) hx
  show IntKind.u64.wrap ((BitVec.ofInt 64 x &&& ~~~ BitVec.ofInt 64 y).toNat : Nat) = _
  rw [BitVec.toNat_and,BitVec.toNat_not,mx_nat hx,mx_nat hy]
  have e : (2 : Nat) ^ 64 - 1 - y = 256 ^ 8 - 1 - y := rfl
  rw [e]
  exact u64_same (by omega) (by omega)
theorem pMix_spec {a b mask : Int} (ha : u64R a) (hb : u64R b) (h0 : 0≤mask) (h1 : mask < 256) : G.Spec Try.prog 84 [uv a,uv b,u8 mask] (uv (mixZ a b mask)) := by
  refine spec_of t_word_Mix (by simp) fun w0 I0 => ?_
  unfold c_word_Mix
  simp
  refine sc_call (pWide_spec h0 h1) (by simp) ?_
  simp
  refine sc_call (pWide_spec h0 h1) (by simp) ?_
  simp
  refine frz_int ?_
  rw [mixZ_nat ha hb h0]
  obtain ⟨x,rfl⟩ := Int.eq_ofNat_of_zero_le ha.1
  obtain ⟨y,rfl⟩ := Int.eq_ofNat_of_zero_le hb.1
  have hx : x < 2 ^ 64 := by have := ha.2; omega
  have hy : y < 2 ^ 64 := by have := hb.2; omega
  have hw : wideN 8 mask.toNat < 2 ^ 64 := wideN_lt 8 _
  rw [mx_andN hx hw,mx_and hy hw,mx_or (Nat.lt_of_le_of_lt Nat.and_le_left hx) (Nat.lt_of_le_of_lt Nat.and_le_left hy)]
  have := mixN_bits 8 x y mask.toNat hx hy
  simp only [Int.toNat_natCast]
  rw [← this]
end Go.Proofs.Ytmeldaflhkiopaa

namespace Go.Proofs.Ytmeldaflhkiopaa
set_option linter.unusedVariables false
set_option linter.unusedSimpArgs false
open Go Go.G Go.Proofs Go.PL
theorem or_bit26 : ∀ i : Fin 8,∀ m : Fin 256,m.val < 2 ^ i.val→bits .or .u8 (m.val : Int) ((2 ^ i.val : Nat) : Int) = (m.val : Int) + ((2 ^ i.val : Nat) : Int) := by decide +kernel
def byteZ (x : Int) (i : Nat) : Int := x / 256 ^ i % 256
def unlM (a b : Int) : Nat→Nat
  | 0 => 0
  | k + 1 => unlM a b k + (if byteZ a k ≠ byteZ b k then 2 ^ k else 0)
def unlZ (a b : Int) : Int := (unlM a b 8 : Nat)
theorem unlM_lt (a b : Int) : ∀ k,unlM a b k < 2 ^ k
  | 0 => by simp [unlM]
  | k + 1 => by
    have := unlM_lt a b k
    unfold unlM
    rw [Nat.pow_succ]
    split <;> omega
theorem unlZ_in (a b : Int) : 0≤unlZ a b∧unlZ a b < 256 := by
  have := unlM_lt a b 8
  unfold unlZ
  omega
theorem bytN_get26 : ∀ (n : Nat) (x : Int) (i : Nat),i < n→(bytesN n x)[i]? = some (byteZ x i)
  | n + 1,x,0,_ => by simp [bytesN,byteZ]
  | n + 1,x,i + 1,h => by
    have := bytN_get26 n (x / 256) i (by omega)
    simp only [bytesN,List.getElem?_cons_succ]
    rw [this]
    unfold byteZ
    rw [Int.ediv_ediv_of_nonneg (by omega),Int.pow_succ,Int.mul_comm]
theorem xor_byte {a b : Int} (ha : u64R a) (hb : u64R b) (i : Nat) : byteZ (bits .xor .u64 a b) i = 0 ↔ byteZ a i = byteZ b i := by
  obtain ⟨x,rfl⟩ : ∃ x : Nat,a = x := ⟨a.toNat,by unfold u64R at ha; omega⟩
  obtain ⟨y,rfl⟩ : ∃ y : Nat,b = y := ⟨b.toNat,by unfold u64R at hb; omega⟩
  unfold u64R at ha hb
  rw [bits_xor_u64_nat x y (by omega) (by omega)]
  unfold byteZ
  have h : ∀ z : Nat,((z : Int) / 256 ^ i % 256) = (((z / 2 ^ (8 * i)) % 2 ^ 8 : Nat) : Int) := fun z => by
    have h1 : ((256 : Int) ^ i) = ((2 ^ (8 * i) : Nat) : Int) := by
      rw [Nat.pow_mul,Int.natCast_pow]; rfl
    rw [h1,Int.natCast_emod,Int.natCast_ediv]
    rfl
  rw [h,h,h]
  have e : ((x ^^^ y) / 2 ^ (8 * i)) % 2 ^ 8 = ((x / 2 ^ (8 * i)) % 2 ^ 8) ^^^ ((y / 2 ^ (8 * i)) % 2 ^ 8) := by
    rw [← Nat.shiftRight_eq_div_pow,← Nat.shiftRight_eq_div_pow,← Nat.shiftRight_eq_div_pow,Nat.shiftRight_xor_distrib,Nat.xor_mod_two_pow]
  rw [e]
  constructor
  · intro h
    have h : ((x / 2 ^ (8 * i)) % 2 ^ 8) ^^^ ((y / 2 ^ (8 * i)) % 2 ^ 8) = 0 := by omega
    generalize (x / 2 ^ (8 * i)) % 2 ^ 8 = p at h ⊢
    generalize (y / 2 ^ (8 * i)) % 2 ^ 8 = q at h ⊢
    have h2 : p ^^^ q ^^^ q = q := by rw [h,Nat.zero_xor]
    rw [Nat.xor_assoc,Nat.xor_self,Nat.xor_zero] at h2
    rw [h2]
  · intro h
    have h : (x / 2 ^ (8 * i)) % 2 ^ 8 = (y / 2 ^ (8 * i)) % 2 ^ 8 := by omega
    rw [h,Nat.xor_self]
    rfl
section
variable {n0 : Nat} {w0 : World} {I0 : Nat→Prop} {Q : Exit→Sta→Prop}
theorem unl_l1 {a b : Int} (ha : u64R a) (hb : u64R b) {H : Hp} (hq : ∀ st,Q (.exit 0) ⟨lk ([(5,u8 (unlZ a b))] ++ st),H⟩) : ∀ (m i : Nat),i + m = 8 →
    LoopC (cx Try.prog w0 I0 n0) l1_word_Unlike Q ⟨lk [(5,u8 (unlM a b i : Nat)),(11,.agg (bys (bytesZ (bits .xor .u64 a b)))),(12,iv i)],H⟩ := by
  intro m
  induction m with
  | zero =>
    intro i hm
    refine loopC_once mixed l1_word_Unlike.eq_1 ?_
    have : i = 8 := by omega
    subst this
    simp
    exact hq [(11,.agg (bys (bytesZ (bits .xor .u64 a b)))),(12,iv 8),(13,bv false)]
  | succ m ih =>
    intro i hm
    have hi : i < 8 := by omega
    have hi' : (i : Int) < 8 := by omega
    have ew : IntKind.i64.wrap ((i : Int) + 1) = ((i + 1 : Nat) : Int) := by rw [i64_same (by omega) (by omega)]; omega
    have hb1 : (bytesZ (bits .xor .u64 a b))[i]? = some (byteZ (bits .xor .u64 a b) i) := bytN_get26 8 _ i hi
    have hx := xor_byte ha hb i
    have hlt := unlM_lt a b i
    have next := ih (i + 1) (by omega)
    refine loopC_once mixed l1_word_Unlike.eq_1 ?_
    by_cases h : byteZ a i = byteZ b i
    · have h0 := hx.2 h
      have e : unlM a b (i + 1) = unlM a b i := by simp [unlM,h]
      rw [e] at next
      simp [hi',hi,ew,bys,hb1,h0]
      simpa [bys] using next
    · have h0 : ¬ byteZ (bits .xor .u64 a b) i = 0 := fun e => h (hx.1 e)
      have e : unlM a b (i + 1) = unlM a b i + 2 ^ i := by simp [unlM,h]
      rw [e] at next
      have p8 : 2 ^ i < 256 := by
        have : 2 ^ i≤2 ^ 7 := Nat.pow_le_pow_right (by omega) (by omega)
        omega
      have eb : IntKind.u8.wrap (2 ^ min i IntKind.u8.bits) = ((2 ^ i : Nat) : Int) := by
        have : min i IntKind.u8.bits = i := Nat.min_eq_left (by show i≤8; omega)
        rw [this,IntKind.wrap_u8,Int.natCast_pow]
        have : ((2 : Int) ^ i) = ((2 ^ i : Nat) : Int) := by rw [Int.natCast_pow]; rfl
        omega
      have eo := or_bit26 ⟨i,hi⟩ ⟨unlM a b i,by omega⟩ hlt
      simp only at eo
      simp [hi',hi,ew,bys,hb1,h0]
      rw [eb,eo,← Int.natCast_add]
      simpa [bys] using next
end
end Go.Proofs.Ytmeldaflhkiopaa

namespace Go.Proofs.Ytmeldaflhkiopaa
set_option linter.unusedVariables false
set_option linter.unusedSimpArgs false
open Go Go.G Go.Proofs Go.PL
def bytP (x : Int) (i : Nat) : List Int := (List.range 8).map fun j => if j < i then byteZ x j else 0
theorem bytP_len (x : Int) (i : Nat) : (bytP x i).length = 8 := by simp [bytP]
theorem bytP_zero (x : Int) : bytP x 0 = List.replicate 8 0 := by simp [bytP]; rfl
theorem bytP_all (x : Int) : bytP x 8 = bytesZ x := by
  apply List.ext_getElem?
  intro j
  by_cases h : j < 8
  · rw [show (bytesZ x)[j]? = _ from bytN_get26 8 x j h]
    simp [bytP,h]
  · rw [List.getElem?_eq_none (by rw [bytP_len]; omega),List.getElem?_eq_none (by simp [bytesZ]; omega)]
theorem bytP_set (x : Int) {i : Nat} (h : i < 8) : (bytP x i).set i (byteZ x i) = bytP x (i + 1) := by
  apply List.ext_getElem?
  intro j
  by_cases hj : j < 8
  · by_cases e : j = i
    · subst e
      rw [List.getElem?_set_self (by rw [bytP_len]; omega)]
      simp [bytP,hj]
    · rw [List.getElem?_set_ne (by omega)]
      simp [bytP,hj]
      have : (j < i + 1) = (j < i) := by simp; omega
      simp [this]
  · rw [List.getElem?_eq_none (by simp [bytP_len]; omega),List.getElem?_eq_none (by rw [bytP_len]; omega)]
section
variable {n0 : Nat} {w0 : World} {I0 : Nat→Prop} {Q : Exit→Sta→Prop}
theorem pbyt_l1 {x : Int} (hx : u64R x) (hq : ∀ (st : List (Nat × A)) (H : Hp),H [0] = ⟨1,.cells (bys (List.replicate 8 0))⟩→H [1] = ⟨1,.cells (bys (bytesZ x))⟩→Q (.exit 0) ⟨lk ([(0,uv x),(2,.pob [0] 1 0),(3,.pob [1] 1 0)] ++ st),H⟩) : ∀ (m i : Nat) (H : Hp),i + m = 8→H [0] = ⟨1,.cells (bys (List.replicate 8 0))⟩→H [1] = ⟨1,.cells (bys (bytP x i))⟩ →
    LoopC (cx Try.prog w0 I0 n0) l1_word_Bytes Q ⟨lk [(0,uv x),(2,.pob [0] 1 0),(3,.pob [1] 1 0),(5,iv i)],H⟩ := by
  intro m
  induction m with
  | zero =>
    intro i H hm h0 h1
    refine loopC_once mixed l1_word_Bytes.eq_1 ?_
    have : i = 8 := by omega
    subst this
    rw [bytP_all] at h1
    simp
    exact hq [(5,iv 8),(6,bv false)] H h0 h1
  | succ m ih =>
    intro i H hm h0 h1
    have hi : i < 8 := by omega
    have hi' : (i : Int) < 8 := by omega
    have ew : IntKind.i64.wrap ((i : Int) + 1) = ((i + 1 : Nat) : Int) := by rw [i64_same (by omega) (by omega)]; omega
    have e8 : IntKind.i64.wrap (8 * (i : Int)) = ((8 * i : Nat) : Int) := (i64_same (by omega) (by omega)).trans (by omega)
    have b64 : IntKind.u64.bits = 64 := rfl
    have e9 : (8 * (i : Int)).toNat = 8 * i := by omega
    have ev : IntKind.u8.wrap (x / 2 ^ min (8 * i) 64) = byteZ x i := by
      rw [IntKind.wrap_u8,Nat.min_eq_left (by omega)]
      unfold byteZ
      have h1 : ((256 : Int) ^ i) = ((2 : Int) ^ (8 * i)) := by rw [Int.pow_mul]; rfl
      rw [h1]
      try rfl
    refine loopC_once mixed l1_word_Bytes.eq_1 ?_
    simp [hi',hi,ew,e8,e9,b64,ev,h1,bytP_len]
    refine ⟨by omega,by omega,?_⟩
    rw [splice_set (by rw [bytP_len]; omega),bytP_set x hi]
    simpa using ih (i + 1) _ (by omega) (by simp [updF_app,h0]) (by simp [updF_app])
end
theorem pBytes_spec {x : Int} (h : u64R x) : G.Spec Try.prog 93 [uv x] (.agg (bys (bytesZ x))) := by
  refine spec_of t_word_Bytes (by simp) fun w0 I0 => ?_
  unfold c_word_Bytes
  simp
  refine LoopC.le (le_list [(0,uv x),(2,.pob [0] 1 0),(3,.pob [1] 1 0),(5,iv (0 : Nat))] (by simp)) ?_
  refine pbyt_l1 h (fun st H h0 h1 => ?_) 8 0 _ rfl (by simp [updF_app]) (by simp [updF_app,bytP_zero])
  have e : List.take 8 (bys (bytesZ x)) = bys (bytesZ x) := List.take_of_length_le (by simp [bytesZ])
  have el : (bytesZ x).length = 8 := by simp [bytesZ]
  simp [h1,h0,updF_app,e,el]
  exact ⟨by simp [A.ones],frz_bytes⟩
theorem pUnlike_spec {a b : Int} (ha : u64R a) (hb : u64R b) : G.Spec Try.prog 83 [uv a,uv b] (u8 (unlZ a b)) := by
  have hu : u64R (bits .xor .u64 a b) := by
    obtain ⟨x,rfl⟩ : ∃ x : Nat,a = x := ⟨a.toNat,by unfold u64R at ha; omega⟩
    obtain ⟨y,rfl⟩ : ∃ y : Nat,b = y := ⟨b.toNat,by unfold u64R at hb; omega⟩
    unfold u64R at ha hb
    rw [bits_xor_u64_nat x y (by omega) (by omega)]
    have := @Nat.xor_lt_two_pow x y 64 (by omega) (by omega)
    unfold u64R
    omega
  refine spec_of t_word_Unlike (by simp) fun w0 I0 => ?_
  unfold c_word_Unlike
  simp
  refine sc_call (pBytes_spec hu) (by simp) ?_
  simp
  refine LoopC.le (le_list [(5,u8 (unlM a b 0 : Nat)),(11,.agg (bys (bytesZ (bits .xor .u64 a b)))),(12,iv (0 : Nat))] (by simp [unlM])) ?_
  refine unl_l1 ha hb (fun st => ?_) 8 0 rfl
  simp
  exact frz_bare rfl
section
variable {n0 : Nat} {w0 : World} {I0 : Nat→Prop} {Q : Exit→Sta→Prop}
end
def wdE (at_ : Int) (a b : Int) : WE := ⟨at_,unlZ a b,mixZ 0 a (unlZ a b),mixZ 0 b (unlZ a b)⟩
def WE0 : WE := ⟨0,0,0,0⟩
theorem pWord_spec {i a b : Int} (ha : u64R a) (hb : u64R b) : G.Spec Try.prog 73 [iv i,uv a,uv b] (.tup [wX (if unlZ a b = 0 then WE0 else wdE i a b),bv (!decide (unlZ a b = 0))]) := by
  have hin := unlZ_in a b
  have z : u64R 0 := by unfold u64R; omega
  refine spec_of t_diff_Word (by simp) fun w0 I0 => ?_
  unfold c_diff_Word
  simp
  refine sc_call (pUnlike_spec ha hb) (by simp) ?_
  by_cases h : unlZ a b = 0
  · simp [h]
    exact frz_bare rfl
  · simp [h]
    refine sc_call (pMix_spec z ha hin.1 hin.2) (by simp) ?_
    simp
    refine sc_call (pMix_spec z hb hin.1 hin.2) (by simp) ?_
    simp
    exact frz_bare rfl
end Go.Proofs.Ytmeldaflhkiopaa

namespace Go.Proofs.Ytmeldaflhkiopaa
set_option linter.unusedVariables false
set_option linter.unusedSimpArgs false
open Go Go.G Go.Proofs
abbrev ws (l : List Int) : A := .sl false (l.map uv)
abbrev sgs (l : List (List Int)) : A := .sl false (l.map ws)
@[simp] theorem lens_ws (l : List (List Int)) : lens 1 (l.map ws) = true := by simp [lens]
theorem clone_spec (f : Bool) (l : List Int) (h : l.length * 8≤140737488355328) : SpecB Try.prog 55 [.sl f (l.map uv)] (ws l) := by
  cases l with
  | nil =>
    refine specB_nil (fun cap => ?_) (fun a cap => ?_)
    · refine specB_of t_slices_Clone_uint64_uint64 (by simp) fun w0 I0 => ?_
      unfold c_slices_Clone_uint64_uint64
      simp
      exact frzN_nil
    · refine specB_of t_slices_Clone_uint64_uint64 (by simp) fun w0 I0 => ?_
      unfold c_slices_Clone_uint64_uint64
      simp
      exact frzN_osl (sz := 1) (xs := []) (by simp) (by simp) (by simp)
  | cons x l =>
    refine specB_of t_slices_Clone_uint64_uint64 (by simp) fun w0 I0 => ?_
    unfold c_slices_Clone_uint64_uint64
    simp at h ⊢
    refine ⟨h,?_⟩
    have := frzN_osl (H := lkH [([0],{ u := 1,ob := Ob.arr 1 (uv x :: l.map uv) })]) (o := [0]) (u := 1) (off := 0) (len := l.length + 1) (sz := 1) (xs := uv x :: l.map uv) (by simp) (by simp) (by simp [A.flat1,List.take_of_length_le])
    simp [List.take_of_length_le] at this
    exact this
abbrev arX (l : List (List Int)) (z m u : Int) : A := .pim [sgs l,iv z,iv m,iv u]
abbrev arn (l : List (List Int)) : A := arX l 0 0 0
def seg (l : List (List Int)) (s : Int) : Option (List Int) := if 0≤s then l[s.toNat]? else none
def szAt (l : List (List Int)) (s : Int) : Nat := ((seg l s).map List.length).getD 0
def hasW (l : List (List Int)) (s a n : Int) : Bool := decide (0≤s∧s < l.length∧0≤a∧0≤n∧a + n≤szAt l s)
def word (l : List (List Int)) (s a : Int) : Option Int := if 0≤a then (seg l s).bind fun g => g[a.toNat]? else none
def part (l : List (List Int)) (s a n : Int) : List Int := (((seg l s).getD []).drop a.toNat).take n.toNat
end Go.Proofs.Ytmeldaflhkiopaa

namespace Go.Proofs.Ytmeldaflhkiopaa
set_option linter.unusedVariables false
set_option linter.unusedSimpArgs false
open Go Go.G Go.Proofs
def bitsOf (c : Int) : Int := if c = 0 then 0 else if c = 1 then 1 else if c = 2 then 8 else if c = 3 then 16 else if c = 4 then 32 else 64
def wordsP (p : Pt) : Option Int :=
  if p.kind = 1 then some (p.data + p.ptrs)
  else if p.kind = 2∧p.code = 7 then some (p.count + 1)
  else if p.kind = 2∧0≤p.code∧p.code≤6∧0≤p.count∧p.count≤536870911 then some ((p.count * bitsOf p.code + 63) / 64)
  else none
structure Lc where
  p : Pt
  s : Int
  at_ : Int
deriving DecidableEq
def Pt.l (p : Pt) : List A := [iv p.kind,iv p.off,iv p.data,iv p.ptrs,iv p.code,iv p.count,iv p.seg,bv p.dbl]
@[simp] theorem Pt.l_eq (p : Pt) : p.l = [iv p.kind,iv p.off,iv p.data,iv p.ptrs,iv p.code,iv p.count,iv p.seg,bv p.dbl] := rfl
def Pt.zero : Pt := ⟨0,0,0,0,0,0,0,false⟩
def Lc.zero : Lc := ⟨Pt.zero,0,0⟩
abbrev Lc.a (x : Lc) : A := .agg [iv x.p.kind,iv x.p.off,iv x.p.data,iv x.p.ptrs,iv x.p.code,iv x.p.count,iv x.p.seg,bv x.p.dbl,iv x.s,iv x.at_]
def insideP (l : List (List Int)) (x : Lc) : Lc × Int := if hasW l x.s x.at_ ((wordsP x.p).getD 0) = true then (⟨{ x.p with off := 0 },x.s,x.at_⟩,0) else (Lc.zero,7)
def nearP (l : List (List Int)) (p : Pt) (s a : Int) : Lc × Int :=
  if p.kind = 1∨p.kind = 2 then insideP l ⟨p,s,a + 1 + p.off⟩ else if p.kind = 4 then (Lc.zero,9) else (Lc.zero,8)
def Wds (l : List (List Int)) : Prop := ∀ x,x ∈ l→∀ y,y ∈ x→0≤y∧y < 18446744073709551616
def doubleP (l : List (List Int)) (s a : Int) : Lc × Int :=
  match word l s a,word l s (a + 1) with
  | some v,some w =>
    if (dec v).kind ≠ 3∨(dec v).dbl = true then (Lc.zero,8)
    else if (dec w).kind = 4 then (Lc.zero,9)
    else if ((dec w).kind ≠ 1∧(dec w).kind ≠ 2)∨(dec w).off ≠ 0 then (Lc.zero,8)
    else insideP l ⟨dec w,(dec v).seg,(dec v).off⟩
  | _,_ => (Lc.zero,7)
def followP (l : List (List Int)) (s a : Int) : Lc × Int :=
  match word l s a with
  | none => (Lc.zero,7)
  | some w =>
    if (dec w).kind = 0 then (Lc.zero,0)
    else if (dec w).kind ≠ 3 then nearP l (dec w) s a
    else if (dec w).dbl = true then doubleP l (dec w).seg (dec w).off
    else match word l (dec w).seg (dec w).off with
      | none => (Lc.zero,7)
      | some v => nearP l (dec v) (dec w).seg (dec w).off
end Go.Proofs.Ytmeldaflhkiopaa

namespace Go.Proofs.Ytmeldaflhkiopaa
set_option linter.unusedVariables false
set_option linter.unusedSimpArgs false
open Go Go.G Go.Proofs
abbrev zs : List A := [iv 0,iv 0,iv 0,iv 0,iv 0,iv 0,iv 0,bv false,iv 0,iv 0]
end Go.Proofs.Ytmeldaflhkiopaa

namespace Go.Proofs.Ytmeldaflhkiopaa
set_option linter.unusedVariables false
set_option linter.unusedSimpArgs false
open Go Go.G Go.Proofs Go.PL
structure Rf where
  kind : Int
  s : Int
  at_ : Int
  data : Int
  kids : Int
  count : Int
  n : Int
def Rf.zero : Rf := ⟨0,0,0,0,0,0,0⟩
def nk (r : Rf) : Int := if r.kind = 1 then r.kids else r.count
def compP (l : List (List Int)) (s a m : Int) : Rf × Int :=
  if ((word l s a).getD 0 ≠ 0∧(dec ((word l s a).getD 0)).kind ≠ 1)∨(dec ((word l s a).getD 0)).off < 0∨m < (dec ((word l s a).getD 0)).off * ((dec ((word l s a).getD 0)).data + (dec ((word l s a).getD 0)).ptrs) then (Rf.zero,8)
  else (⟨9,s,a + 1,(dec ((word l s a).getD 0)).data,(dec ((word l s a).getD 0)).ptrs,(dec ((word l s a).getD 0)).off,0⟩,0)
def refP (l : List (List Int)) (x : Lc) : Rf × Int :=
  if x.p.kind = 1 then (⟨1,x.s,x.at_,x.p.data,x.p.ptrs,0,0⟩,0)
  else if x.p.code < 7 then (⟨2 + x.p.code,x.s,x.at_,0,0,x.p.count,0⟩,0)
  else compP l x.s x.at_ x.p.count
def atP (l : List (List Int)) (s a : Int) : Rf × Int :=
  if (followP l s a).2 ≠ 0∨(followP l s a).1.p.kind = 0 then (Rf.zero,(followP l s a).2) else refP l (followP l s a).1
def getZ (g : List Int) (c i : Int) : Int :=
  if widthZ c < 1∨i < 0∨1099511627776 < i then 0 else ((g[(i * widthZ c / 64).toNat]?).getD 0) / 2 ^ (i * widthZ c % 64).toNat % 2 ^ (widthZ c).toNat
def atomZ (l : List (List Int)) (r : Rf) (i : Int) : Int := getZ (((seg l r.s).getD []).drop r.at_.toNat) (r.kind - 2) i
def kidP (l : List (List Int)) (r : Rf) (i : Int) : Rf × Int :=
  if i < 0∨nk r≤i then (Rf.zero,0)
  else if r.kind = 1 then atP l r.s (r.at_ + r.data + i)
  else if r.kind = 8 then atP l r.s (r.at_ + i)
  else if r.kind = 9 then (⟨1,r.s,r.at_ + i * (r.data + r.kids),r.data,r.kids,0,0⟩,0)
  else (⟨10,0,0,0,0,0,atomZ l r i⟩,0)
def wordsR (l : List (List Int)) (r : Rf) : List Int := if r.kind = 10 then [r.n] else if r.kind ≠ 1 then [] else part l r.s r.at_ r.data
inductive RfOk (l : List (List Int)) : Rf→Prop
  | zero : RfOk l Rf.zero
  | str (s a d k : Int) : 0≤d→d < 65536→0≤k→k < 65536→hasW l s a (d + k) = true→RfOk l ⟨1,s,a,d,k,0,0⟩
  | dat (c s a n : Int) : 0≤c→c < 6→0≤n→n < 536870912→hasW l s a ((n * bitsOf c + 63) / 64) = true→RfOk l ⟨2 + c,s,a,0,0,n,0⟩
  | ptrs (s a n : Int) : 0≤n→n < 536870912→hasW l s a n = true→RfOk l ⟨8,s,a,0,0,n,0⟩
  | comp (s a d k n : Int) : 0≤d→d < 65536→0≤k→k < 65536→0≤n→n < 536870912→hasW l s a (n * (d + k)) = true→RfOk l ⟨9,s,a,d,k,n,0⟩
  | atom (n : Int) : 0≤n→n < 18446744073709551616→RfOk l ⟨10,0,0,0,0,0,n⟩
inductive Means (l : List (List Int)) : Rf→T→Prop
  | mk (r : Rf) (t : T) : RfOk l r→r.kind = t.kind→wordsR l r = t.words→nk r = t.kids.length→(∀ (i : Nat) (h : i < t.kids.length),(kidP l r i).2 = 0)→(∀ (i : Nat) (h : i < t.kids.length),Means l (kidP l r i).1 t.kids[i])→Means l r t
end Go.Proofs.Ytmeldaflhkiopaa

namespace Go.Proofs.Ytmeldaflhkiopaa
set_option linter.unusedVariables false
set_option linter.unusedSimpArgs false
open Go Go.G Go.Proofs Go.PL
@[simp] theorem GtG_shift {q : Bool} {n : Nat} {y : A} {K : A→Prop} : GtG q (A.shift n (gd q y)) K = GtG q (A.shift n y) K := GtG_same fun h => by rw [h]; rfl
theorem soft_uv (l : List Int) : A.softL (l.map uv) = l.map uv := by
  rw [softL_map,List.map_map]; rfl
theorem soft_tA : ∀ t : T,(tA t).soft = tA t := by
  refine T.ind fun k w l ih => ?_
  rw [tA_eq]
  simp only [A.soft,A.softL,T.kind_mk,T.words_mk,T.kids_mk,soft_uv]
  have e : l.map (A.soft ∘ tA) = l.map tA := List.map_congr_left fun t ht => ih t ht
  rw [softL_map,List.map_map,e]
  rfl
theorem soft_tKs (l : List T) : A.softL (l.map tA) = l.map tA := by
  rw [softL_map,List.map_map]
  exact List.map_congr_left fun t _ => soft_tA t
end Go.Proofs.Ytmeldaflhkiopaa

namespace Go.Proofs.Ytmeldaflhkiopaa
set_option linter.unusedVariables false
set_option linter.unusedSimpArgs false
open Go Go.G Go.Proofs Go.PL
structure Sg (l : List (List Int)) : Prop where
  b : ∀ x,x ∈ l→x.length * 8≤140737488355328
  w : Wds l
def arO (l : List (List Int)) (r : Rf) : A := if r.kind = 0 then .v (.pointer none) else arn l
@[simp] theorem arO_cells (l : List (List Int)) (r : Rf) : (arO l r).cells = [arO l r] := by unfold arO; split <;> rfl
@[simp] theorem arO_one (l : List (List Int)) (r : Rf) : (arO l r).one = true := by unfold arO; split <;> rfl
@[simp] theorem arO_bare (l : List (List Int)) (r : Rf) : (arO l r).bare = true := by unfold arO; split <;> rfl
@[simp] theorem arO_bare1 (l : List (List Int)) (r : Rf) : (arO l r).bare1 = true := by unfold arO; split <;> rfl
@[simp] theorem arO_bare2 (l : List (List Int)) (r : Rf) : (arO l r).bare2 = true := by unfold arO; split <;> rfl
abbrev paL (l : List (List Int)) (r : Rf) : List A := [arO l r,iv r.kind,iv r.s,iv r.at_,iv r.data,iv r.kids,iv r.count,uv r.n]
end Go.Proofs.Ytmeldaflhkiopaa

namespace Go.Proofs.Ytmeldaflhkiopaa
set_option linter.unusedVariables false
set_option linter.unusedSimpArgs false
open Go Go.G Go.Proofs Go.PL
abbrev s1 : List (List Int) := [[4294967296,7]]
abbrev s2 : List (List Int) := [[8589934592,7,0]]
abbrev s3 : List (List Int) := [[4294967296,8]]
end Go.Proofs.Ytmeldaflhkiopaa

namespace Go.Proofs.Ytmeldaflhkiopaa
set_option linter.unusedVariables false
set_option linter.unusedSimpArgs false
open Go Go.G Go.Proofs Go.PL
def mixG (h x : Int) : Int := IntKind.u64.wrap (bits .xor .u64 h x * 1099511628211)
def mixH (h x : Int) : Int := bits .xor .u64 (mixG h x) (mixG h x / 2 ^ min 29 IntKind.u64.bits)
mutual
def hashN : T→Int
  | .mk k w l => hashL (w.foldl mixH (mixH (mixH 14695981039346656037 (IntKind.u64.wrap k)) (IntKind.u64.wrap w.length))) l
def hashL : Int→List T→Int
  | h,[] => h
  | h,t :: l => hashL (mixH h (hashN t)) l
end
end Go.Proofs.Ytmeldaflhkiopaa

namespace Go.Proofs.Ytmeldaflhkiopaa
set_option linter.unusedVariables false
set_option linter.unusedSimpArgs false
open Go Go.G Go.Proofs Go.PL
mutual
theorem shallow_range : ∀ (t : T) (d : Nat) (n : Int),-1≤shallow d n t∧(-1≤n→shallow d n t≤n)
  | .mk k w l,d,n => by
    rw [shallow_mk]
    split
    · omega
    · have := shallowL_range l (d - 1) (n - 1 - w.length) (by omega)
      omega
theorem shallowL_range : ∀ (l : List T) (d : Nat) (n : Int),-1≤n→-1≤shallowL d n l∧shallowL d n l≤n
  | [],d,n,h => by simp; omega
  | t :: l,d,n,h => by
    rw [shallowL_cons]
    split
    · omega
    · have h1 := shallow_range t d n
      have h2 := shallowL_range l d (shallow d n t) h1.1
      omega
end
theorem shallowL_neg (l : List T) (d : Nat) {n : Int} (h : n < 0) : shallowL d n l = n := by
  cases l with
  | nil => simp
  | cons t l => simp [h]
section
variable {n0 : Nat} {w0 : World} {I0 : Nat→Prop} {Q : Exit→Sta→Prop}
theorem shallow_l1 {t : T} {d : Nat} (hd : 1≤d) (hd1 : d≤1000) (hl : t.kids.length * 56≤140737488355328) (ih : ∀ c,c ∈ t.kids→∀ (d : Nat) (n : Int),d≤1000→0≤n→n≤1000000→G.Spec Try.prog 28 [tX c,iv d,iv n] (iv (shallow d n c)))
    {H : Hp} (hH : H [0] = ⟨1,.cells [iv t.kind,uws t.words,tKs t.kids]⟩) : ∀ (m i : Nat) (n : Int),i + m = t.kids.length→-1≤n→n≤1000000 →
    (∀ i' q,Q (.exit 0) ⟨lk [(1,iv d),(2,iv (shallowL (d - 1) n (t.kids.drop i))),(3,.pob [0] 1 0),(7,iv i'),(28,bv q)],H⟩) →
    LoopC (cx Try.prog w0 I0 n0) l1_centoref07_Shallow Q ⟨lk [(1,iv d),(2,iv n),(3,.pob [0] 1 0),(7,iv i)],H⟩ := by
  intro m
  induction m with
  | zero =>
    intro i n hi h1 h2 hq
    have : i = t.kids.length := by omega
    subst this
    refine loopC_once mixed l1_centoref07_Shallow.eq_1 ?_
    simp [hH]
    simpa using hq _ false
  | succ m ihm =>
    intro i n hi h1 h2 hq
    have hlt : i < t.kids.length := by omega
    refine loopC_once mixed l1_centoref07_Shallow.eq_1 ?_
    have e : t.kids.drop i = t.kids[i] :: t.kids.drop (i + 1) := List.drop_eq_getElem_cons hlt
    by_cases hn : n < 0
    · simp [hH,hlt,show ¬ (0 : Int)≤n by omega]
      have := hq i false
      rwa [shallowL_neg _ _ hn] at this
    · have hn' : 0≤n := by omega
      simp [hH,hlt,hn']
      have ed : IntKind.i64.wrap ((d : Int) - 1) = ((d - 1 : Nat) : Int) := by rw [i64_same (by omega) (by omega)]; omega
      rw [ed]
      refine sc_call (ih _ (List.getElem_mem hlt) (d - 1) n (by omega) hn' h2) rfl ?_
      simp
      have hr := shallow_range t.kids[i] (d - 1) n
      rw [i64_same (by omega) (by omega)]
      refine ihm (i + 1) _ (by omega) hr.1 (by omega) fun i' q => ?_
      have := hq i' q
      rw [e,shallowL_cons,if_neg (by omega)] at this
      exact this
end
theorem shallow_spec : ∀ (t : T),wfT t→∀ (d : Nat) (n : Int),d≤1000→0≤n→n≤1000000→G.Spec Try.prog 28 [tX t,iv d,iv n] (iv (shallow d n t)) := by
  refine T.ind fun k w l ih hw d n hd hn hn1 => ?_
  have hw' := wfT_iff.1 hw
  have hwl := hw'.wl
  have hkl := hw'.kl
  simp at hwl hkl
  have ihc : ∀ c,c ∈ (T.mk k w l).kids→∀ (d : Nat) (n : Int),d≤1000→0≤n→n≤1000000→G.Spec Try.prog 28 [tX c,iv d,iv n] (iv (shallow d n c)) := fun c hc => ih c hc (hw'.ks c hc)
  refine spec_of t_centoref07_Shallow (by simp) fun w0 I0 => ?_
  unfold c_centoref07_Shallow
  have e1 : IntKind.i64.wrap (IntKind.i64.wrap (n - 1) - (w.length : Int)) = n - 1 - w.length := by rw [i64_same (n := n - 1) (by omega) (by omega),i64_same (by omega) (by omega)]
  rw [shallow_mk]
  by_cases hc : d = 0∨n - 1 - (w.length : Int) < 0
  · have hd : (decide (d = 0) || decide (n - 1 - (w.length : Int) < 0)) = true := by simp; omega
    simp [e1,hd,hc]
    exact frz_bare rfl
  · have hd : (decide (d = 0) || decide (n - 1 - (w.length : Int) < 0)) = false := by simp; omega
    simp [e1,hd,hc]
    refine shallow_l1 (t := .mk k w l) (by omega) (by omega) hkl ihc (by simp) l.length 0 _ (by simp) (by omega) (by omega) fun i' q => ?_
    simp
    exact frz_bare rfl
end Go.Proofs.Ytmeldaflhkiopaa

namespace Go.Proofs.Ytmeldaflhkiopaa
set_option linter.unusedVariables false
set_option linter.unusedSimpArgs false
open Go Go.G Go.Proofs Go.PL
abbrev tL (t : T) : List A := [iv t.kind,uws t.words,tKs t.kids]
section
variable {n0 : Nat} {w0 : World} {I0 : Nat→Prop} {Q : Exit→Sta→Prop}
end
section
variable {n0 : Nat} {w0 : World} {I0 : Nat→Prop} {Q : Exit→Sta→Prop}
theorem same_l1 {a b : T} (hl : a.kids.length * 56≤140737488355328) (hn : a.kids.length = b.kids.length) (ih : ∀ c,c ∈ a.kids→∀ u,G.Spec Try.prog 48 [tX c,tX u] (bv (sameB c u)))
    {H : Hp} (hA : H [0] = ⟨1,.cells (tL a)⟩) (hB : H [1] = ⟨1,.cells (tL b)⟩) : ∀ (m i : Nat),i + m = a.kids.length→a.kids.take i = b.kids.take i→(a.kids = b.kids→∀ i' q,Q (.exit 0) ⟨lk [(2,.pob [0] 1 0),(3,.pob [1] 1 0),(5,iv i'),(32,bv q)],H⟩)→(a.kids ≠ b.kids→Q .ret ⟨lk [(4,bv false)],H⟩) →
    LoopC (cx Try.prog w0 I0 n0) l1_centoref07_Same Q ⟨lk [(2,.pob [0] 1 0),(3,.pob [1] 1 0),(5,iv i)],H⟩ := by
  intro m
  induction m with
  | zero =>
    intro i hi ht h1 h2
    have : i = a.kids.length := by omega
    subst this
    refine loopC_once mixed l1_centoref07_Same.eq_1 ?_
    simp [hA,hB]
    refine h1 ?_ _ _
    rw [List.take_of_length_le (Nat.le_refl _),List.take_of_length_le (by omega)] at ht
    exact ht
  | succ m ihm =>
    intro i hi ht h1 h2
    have hlt : i < a.kids.length := by omega
    have hlt' : i < b.kids.length := by omega
    refine loopC_once mixed l1_centoref07_Same.eq_1 ?_
    simp [hA,hB,hlt,hlt']
    refine sc_call (ih _ (List.getElem_mem hlt) b.kids[i]) rfl ?_
    simp
    cases hs : sameB a.kids[i] b.kids[i] with
    | false =>
      simp
      refine h2 fun e => ?_
      have : a.kids[i] = b.kids[i] := by simp [e]
      rw [← sameB_iff,hs] at this
      cases this
    | true =>
      simp
      rw [i64_same (by omega) (by omega)]
      refine ihm (i + 1) (by omega) ?_ h1 h2
      rw [List.take_succ_eq_append_getElem hlt,List.take_succ_eq_append_getElem hlt',ht,sameB_iff.1 hs]
end
set_option maxRecDepth 8000 in
theorem rTSame_spec : ∀ (a : T),wfT a→∀ b : T,G.Spec Try.prog 48 [tX a,tX b] (bv (sameB a b)) := by
  refine T.ind fun k w l ih hw b => ?_
  have hw' := wfT_iff.1 hw
  have hwl := hw'.wl
  have hkl := hw'.kl
  simp at hwl hkl
  refine spec_of t_centoref07_Same (by simp) fun w0 I0 => ?_
  unfold c_centoref07_Same
  have no : (k ≠ b.kind∨w ≠ b.words∨l ≠ b.kids)→sameB (.mk k w l) b = false := fun h => by
    rw [Bool.eq_false_iff]
    intro e
    have := sameB_iff.1 e
    subst this
    simp at h
  by_cases h1 : k = b.kind
  · by_cases h2 : w = b.words
    · by_cases h3 : l.length = b.kids.length
      · simp [h1]
        refine sc_call_gf rfl (fun _ => rSame_spec w b.words hwl) (fun _ => rfl) rfl ?_
        simp [h2,h3]
        refine same_l1 (a := .mk k w l) (b := b) hkl h3 (fun c hc u => ih c hc (hw'.ks c hc) u) (by simp [h1,h2]) (by simp) l.length 0 (by simp) rfl (fun e i' q => ?_) (fun e => ?_)
        · simp
          have : sameB (.mk k w l) b = true := sameB_iff.2 (T.ext' h1 h2 e)
          rw [← h1,← h2,this]
          exact frz_bare rfl
        · simp
          rw [← h1,← h2,no (.inr (.inr e))]
          exact frz_bare rfl
      · simp [h1]
        refine sc_call_gf rfl (fun _ => rSame_spec w b.words hwl) (fun _ => rfl) rfl ?_
        simp [h2,h3]
        refine ⟨fun h => absurd (by omega) h3,fun _ => ?_⟩
        rw [← h1,← h2,no (.inr (.inr fun e => h3 (by rw [e])))]
        exact frz_bare rfl
    · simp [h1]
      refine sc_call_gf rfl (fun _ => rSame_spec w b.words hwl) (fun _ => rfl) rfl ?_
      simp [h2]
      rw [← h1,no (.inr (.inl h2))]
      exact frz_bare rfl
  · simp [h1]
    refine sc_call_off rfl ?_
    simp
    rw [no (.inl h1)]
    exact frz_bare rfl
section
variable {n0 : Nat} {w0 : World} {I0 : Nat→Prop} {Q : Exit→Sta→Prop}
theorem norm_l1 {t : T} (hl : t.kids.length * 56≤140737488355328) (ih : ∀ c,c ∈ t.kids→G.Spec Try.prog 49 [tX c] (tX (norm c))) {v : VOb} : ∀ (m i : Nat) (u : Nat) (H : Hp),i + m = t.kids.length→H [0] = ⟨1,.cells (tL t)⟩→H [1] = v→H [3] = ⟨u,.arr 3 (((t.kids.take i).map norm).map tA)⟩ →
    (∀ i' q (u' : Nat) (H' : Hp),H' [0] = ⟨1,.cells (tL t)⟩→H' [1] = v→H' [3] = ⟨u',.arr 3 ((t.kids.map norm).map tA)⟩→Q (.exit 0) ⟨lk [(1,.pob [0] 1 0),(2,.pob [1] 1 0),(3,.osl [3] u' 3 0 t.kids.length),(4,iv (trimK t.kids).length),(5,iv i'),(16,bv q)],H'⟩) →
    LoopC (cx Try.prog w0 I0 n0) l1_centoref07_Norm Q ⟨lk [(1,.pob [0] 1 0),(2,.pob [1] 1 0),(3,.osl [3] u 3 0 i),(4,iv (trimK (t.kids.take i)).length),(5,iv i)],H⟩ := by
  intro m
  induction m with
  | zero =>
    intro i u H hi hA hR hB hq
    have : i = t.kids.length := by omega
    subst this
    refine loopC_once mixed l1_centoref07_Norm.eq_1 ?_
    simp [hA]
    have := hq t.kids.length false u H hA hR (by rw [hB]; simp)
    simpa using this
  | succ m ihm =>
    intro i u H hi hA hR hB hq
    have hlt : i < t.kids.length := by omega
    refine loopC_once mixed l1_centoref07_Norm.eq_1 ?_
    simp [hA,hlt]
    refine sc_call (ih _ (List.getElem_mem hlt)) rfl ?_
    simp [updF_app,hB]
    have ei : IntKind.i64.wrap ((i : Int) + 1) = ((i + 1 : Nat) : Int) := i64_same (by omega) (by omega)
    have hrow := row_succ (f := tA ∘ norm) hlt (x := A.agg [iv t.kids[i].kind,uws (norm t.kids[i]).words,tKs (norm t.kids[i]).kids]) (by simp)
    rw [hrow]
    refine ⟨⟨by omega,by omega⟩,fun h => ?_,fun h => ?_⟩
    · rw [ei,← trimK_zero hlt h]
      exact ihm (i + 1) (u + 1) _ (by omega) (by simp [updF_app,hA]) (by simp [updF_app,hR]) (by simp [updF_app]) hq
    · have ek : (trimK (t.kids.take (i + 1))).length = i + 1 := by rw [trimK_stop hlt h]; simp; omega
      rw [ei]
      have := fun H h1 h2 h3 => ihm (i + 1) (u + 1) H (by omega) h1 h2 h3 hq
      rw [ek] at this
      exact this _ (by simp [updF_app,hA]) (by simp [updF_app,hR]) (by simp [updF_app])
end
theorem rNorm_spec : ∀ (t : T),wfT t→G.Spec Try.prog 49 [tX t] (tX (norm t)) := by
  refine T.ind fun k w l ih hw => ?_
  have hw' := wfT_iff.1 hw
  have hwl := hw'.wl
  have hkl := hw'.kl
  simp at hwl hkl
  refine spec_of t_centoref07_Norm (by simp) fun w0 I0 => ?_
  unfold c_centoref07_Norm
  rw [norm_mk]
  by_cases h0 : k = 0
  · simp [h0]
    exact frz_T0
  · simp [h0]
    refine LoopC.le (le_blank 3 [3] 3 (by simp)) ?_
    simp
    refine LoopC.le (le_list [(1,.pob [0] 1 0),(2,.pob [1] 1 0),(3,.osl [3] 1 3 0 0),(4,iv 0),(5,iv 0)] (by simp [upd])) ?_
    refine norm_l1 (t := .mk k w l) (by simpa using hkl) (fun c hc => ih c hc (hw'.ks c hc)) l.length 0 1 _ (by simp) (by simp) rfl (by simp) fun i' q u' H' hA hR hB => ?_
    have hle := trimK_le l
    by_cases h1 : k = 1
    · subst h1
      simp at hA hR hB
      simp [hA,hR,hB,hle,updF_app]
      refine sc_call (rTrim_spec w hwl) rfl ?_
      simp [hA,hR,hB,hle,updF_app]
      refine frz_agg ?_
      simp
      rw [trimK_map]
      refine ⟨frz_bare rfl,frz_bare rfl,?_⟩
      have := frz_rowT (H := updF H' [1] ⟨1,.cells [A.v (Value.int IntKind.i64 1),A.sl false (List.map uv (trimW w)),A.osl [3] u' 3 0 (trimK l).length]⟩) (o := [3]) (u := u') (sz := 3) (l := l) (f := tA ∘ norm) (by simp [updF_app,hB]) hle (by simp)
      rw [← List.map_take]
      show Frz _ _ (A.sl false (((l.take (trimK l).length).map norm).map tA))
      rw [List.map_map]
      exact this
    · simp at hA hR hB
      simp [hA,hR,hB,h1,updF_app]
      refine ⟨hwl,frz_agg ?_⟩
      simp
      refine ⟨frz_bare rfl,frz_row (by simp [updF_app]) rfl (by simp),?_⟩
      have := frz_row (H := updF (updF H' [4] { u := (H' [4]).u + 1,ob := Ob.arr 1 (List.map uv w) }) [1] ⟨1,.cells [A.v (Value.int IntKind.i64 k),A.osl [4] ((H' [4]).u + 1) 1 0 w.length,A.osl [3] u' 3 0 l.length]⟩) (o := [3]) (u := u') (sz := 3) (l := l) (f := tA ∘ norm) (by simp [updF_app,hB]) rfl (by simp)
      show Frz _ _ (A.sl false ((l.map norm).map tA))
      rw [List.map_map]
      exact this
end Go.Proofs.Ytmeldaflhkiopaa
