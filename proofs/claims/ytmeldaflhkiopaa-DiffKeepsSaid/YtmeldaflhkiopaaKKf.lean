/-
  Texts, merged, without what is not reached.
-/
import Derived.Test.YtmeldaflhkiopaaKKe
namespace Go.Proofs.Ytmeldaflhkiopaa
set_option linter.unusedVariables false
set_option linter.unusedSimpArgs false
open Go Go.G Go.Proofs Go.PL
theorem unlM_same (a : Int) : ∀ k,unlM a a k = 0
  | 0 => rfl
  | k + 1 => by
    unfold unlM
    rw [unlM_same a k]
    simp
theorem unlM_zero {a b : Int} : ∀ k,unlM a b k = 0→∀ i,i < k→byteZ a i = byteZ b i
  | 0,_,i,h => by omega
  | k + 1,h,i,hi => by
    unfold unlM at h
    have h1 : unlM a b k = 0 := by omega
    have h2 : (if byteZ a k ≠ byteZ b k then 2 ^ k else 0) = 0 := by omega
    by_cases e : i = k
    · subst e
      apply Classical.byContradiction
      intro hne
      rw [if_pos hne] at h2
      have := Nat.pow_pos (n := i) (show 0 < 2 by omega)
      omega
    · exact unlM_zero k h1 i (by omega)
theorem unl_zero {a b : Int} (ha : u64R a) (hb : u64R b) : unlZ a b = 0 ↔ a = b := by
  constructor
  · intro h
    have h' : unlM a b 8 = 0 := by unfold unlZ at h; omega
    have g := unlM_zero 8 h'
    have g0 := g 0 (by omega)
    have g1 := g 1 (by omega)
    have g2 := g 2 (by omega)
    have g3 := g 3 (by omega)
    have g4 := g 4 (by omega)
    have g5 := g 5 (by omega)
    have g6 := g 6 (by omega)
    have g7 := g 7 (by omega)
    clear g h h'
    unfold byteZ at g0 g1 g2 g3 g4 g5 g6 g7
    simp only [show (256 : Int) ^ 0 = 1 from rfl,show (256 : Int) ^ 1 = 256 from rfl,show (256 : Int) ^ 2 = 65536 from rfl,show (256 : Int) ^ 3 = 16777216 from rfl,show (256 : Int) ^ 4 = 4294967296 from rfl,show (256 : Int) ^ 5 = 1099511627776 from rfl,show (256 : Int) ^ 6 = 281474976710656 from rfl,show (256 : Int) ^ 7 = 72057594037927936 from rfl] at g0 g1 g2 g3 g4 g5 g6 g7
    unfold u64R at ha hb
    omega
  · rintro rfl
    unfold unlZ
    rw [unlM_same]
    rfl
end Go.Proofs.Ytmeldaflhkiopaa

namespace Go.Proofs.Ytmeldaflhkiopaa
set_option linter.unusedVariables false
set_option linter.unusedSimpArgs false
open Go Go.G Go.Proofs Go.PL
inductive LdO (R : E→T→T→Prop) : List OP→List T→List T→Prop
  | nil : LdO R [] [] []
  | keep {os : List OP} {a b : List T} (l m : List T) (hne : l ≠ []) (h : l.map norm = m.map norm) (g : LdO R os a b) : LdO R (.mk 0 (l.length : Nat) [] E0 :: os) (l ++ a) (m ++ b)
  | del {os : List OP} {a b : List T} (l m : List T) (hne : l ≠ []) (h : l.map norm = m.map norm) (g : LdO R os a b) : LdO R (.mk 1 0 l E0 :: os) (m ++ a) b
  | ins {os : List OP} {a b : List T} (l m : List T) (hne : l ≠ []) (h : l.map norm = m.map norm) (g : LdO R os a b) : LdO R (.mk 2 0 l E0 :: os) a (m ++ b)
  | desc {os : List OP} {a b : List T} (e : E) (x y : T) (h : R e x y) (g : LdO R os a b) : LdO R (.mk 3 0 [] e :: os) (x :: a) (y :: b)
inductive LdK (R : E→T→T→Prop) (a b : List T) : Nat→List KE→Prop
  | nil (p : Nat) (h : ∀ i,p≤i→norm (a.getD i T0) = norm (b.getD i T0)) : LdK R a b p []
  | cons (p i : Nat) (e : E) (ks : List KE) (hp : p≤i) (h : ∀ j,p≤j→j < i→norm (a.getD j T0) = norm (b.getD j T0)) (hi : i < max a.length b.length) (he : e.kind ≠ 0) (hr : R e (a.getD i T0) (b.getD i T0)) (g : LdK R a b (i + 1) ks) : LdK R a b p (.mk i e :: ks)
inductive LdW (a b : List Int) : Nat→List WE→Prop
  | nil (p : Nat) (h : ∀ i,p≤i→a.getD i 0 = b.getD i 0) : LdW a b p []
  | cons (p i : Nat) (m o n : Int) (ws : List WE) (hp : p≤i) (h : ∀ j,p≤j→j < i→a.getD j 0 = b.getD j 0) (hi : i < max a.length b.length) (hm : 0 < m∧m < 256) (ho : mixZ 0 (a.getD i 0) m = o) (hn : mixZ 0 (b.getD i 0) m = n) (h1 : mixZ (a.getD i 0) n m = b.getD i 0) (h2 : mixZ (b.getD i 0) o m = a.getD i 0) (g : LdW a b (i + 1) ws) : LdW a b p (⟨i,m,o,n⟩ :: ws)
def LdB (e : E) (a b : T) : Prop := (e = E0∧norm a = norm b)∨∃ o n,e = .mk 1 o n [] [] 0 []∧norm o = norm a∧norm n = norm b
def Ld : Nat→E→T→T→Prop
  | 0,e,a,b => LdB e a b
  | f + 1,e,a,b => LdB e a b∨(∃ ws ks,e = .mk 2 T0 T0 ws ks 0 []∧a.kind = 1∧b.kind = 1∧LdW a.words b.words 0 ws∧LdK (Ld f) a.kids b.kids 0 ks)∨(∃ os,e = .mk 3 T0 T0 [] [] a.kind os∧b.kind = a.kind∧(2≤a.kind∧a.kind≤9)∧(a.words = []∧b.words = [])∧LdO (Ld f) os a.kids b.kids)
theorem ld_kind0 {f : Nat} {e : E} {a b : T} (h : Ld f e a b) (hk : e.kind = 0) : e = E0∧norm a = norm b := by
  have base : LdB e a b→e = E0∧norm a = norm b := fun h => by
    rcases h with h | ⟨o,n,rfl,_⟩
    · exact h
    · cases hk
  cases f with
  | zero => exact base h
  | succ f =>
    rcases h with h | ⟨ws,ks,rfl,_⟩ | ⟨os,rfl,_⟩
    · exact base h
    · cases hk
    · cases hk
section
variable {R : E→T→T→Prop}
theorem ldO_app {os ps : List OP} {a b c d : List T} (h : LdO R os a b) (g : LdO R ps c d) : LdO R (os ++ ps) (a ++ c) (b ++ d) := by
  induction h with
  | nil => exact g
  | keep l m hne h _ ih => rw [List.append_assoc,List.append_assoc]; exact .keep l m hne h ih
  | del l m hne h _ ih => rw [List.append_assoc]; exact .del l m hne h ih
  | ins l m hne h _ ih => rw [List.append_assoc]; exact .ins l m hne h ih
  | desc e x y h _ ih => exact .desc e x y h ih
theorem ldO_split : ∀ {os ps : List OP} {a b : List T},LdO R (os ++ ps) a b→∃ a1 a2 b1 b2,a = a1 ++ a2∧b = b1 ++ b2∧LdO R os a1 b1∧LdO R ps a2 b2
  | [],ps,a,b,h => ⟨[],a,[],b,rfl,rfl,.nil,h⟩
  | o :: os,ps,a,b,h => by
    cases h with
    | keep l m hne h g =>
      obtain ⟨a1,a2,b1,b2,rfl,rfl,h1,h2⟩ := ldO_split g
      exact ⟨l ++ a1,a2,m ++ b1,b2,by simp,by simp,.keep l m hne h h1,h2⟩
    | del l m hne h g =>
      obtain ⟨a1,a2,b1,b2,rfl,rfl,h1,h2⟩ := ldO_split g
      exact ⟨m ++ a1,a2,b1,b2,by simp,rfl,.del l m hne h h1,h2⟩
    | ins l m hne h g =>
      obtain ⟨a1,a2,b1,b2,rfl,rfl,h1,h2⟩ := ldO_split g
      exact ⟨a1,a2,m ++ b1,b2,rfl,by simp,.ins l m hne h h1,h2⟩
    | desc e x y h g =>
      obtain ⟨a1,a2,b1,b2,rfl,rfl,h1,h2⟩ := ldO_split g
      exact ⟨x :: a1,a2,y :: b1,b2,rfl,rfl,.desc e x y h h1,h2⟩
theorem ldO_del {l m : List T} (h : l.map norm = m.map norm) : LdO R (delO l) m [] := by
  unfold delO
  split
  · rename_i e
    subst e
    have : m = [] := by simpa using h.symm
    subst this
    exact .nil
  · rename_i e
    have := LdO.del (R := R) l m e h .nil
    rwa [List.append_nil] at this
theorem ldO_ins {l m : List T} (h : l.map norm = m.map norm) : LdO R (insO l) [] m := by
  unfold insO
  split
  · rename_i e
    subst e
    have : m = [] := by simpa using h.symm
    subst this
    exact .nil
  · rename_i e
    have := LdO.ins (R := R) l m e h .nil
    rwa [List.append_nil] at this
end
theorem gapO_out (one : T→T→E) (a b : List T) : ∀ (P : List Sc) (i j : Nat) (out : List OP),gapO one a b P i j out = out ++ gapO one a b P i j []
  | [],i,j,out => by simp [gapO]
  | x :: P,i,j,out => by
    rw [gapO,gapO_out one a b P,gapO,gapO_out one a b P _ _ ([] ++ _ ++ _ ++ _)]
    simp
theorem ldO_gapO {R : E→T→T→Prop} {one : T→T→E} {a b : List T} (hone : ∀ x,x ∈ a→∀ y,y ∈ b→R (one x y) x y) : ∀ (P : List Sc) (i j : Nat),PkOk a.length b.length i j P→LdO R (gapO one a b P i j []) (a.drop i) (b.drop j)
  | [],i,j,_ => by
    rw [gapO,List.nil_append]
    have := ldO_app (ldO_del (R := R) (l := a.drop i) rfl) (ldO_ins (R := R) (l := b.drop j) rfl)
    simpa using this
  | x :: P,i,j,h => by
    obtain ⟨k1,k2,k3,k4,k5⟩ := h
    have ih := ldO_gapO hone P _ _ k5
    rw [gapO,gapO_out]
    have e1 : a.getD x.i T0 = a[x.i] := by simp [k3]
    have e2 : b.getD x.j T0 = b[x.j] := by simp [k4]
    rw [e1,e2]
    have d1 : a.drop i = (a.take x.i).drop i ++ (a[x.i] :: a.drop (x.i + 1)) := by
      rw [List.getElem_cons_drop,← List.drop_append_of_le_length (by simp; omega),List.take_append_drop]
    have d2 : b.drop j = (b.take x.j).drop j ++ (b[x.j] :: b.drop (x.j + 1)) := by
      rw [List.getElem_cons_drop,← List.drop_append_of_le_length (by simp; omega),List.take_append_drop]
    rw [d1,d2]
    have := ldO_app (ldO_del (R := R) (l := (a.take x.i).drop i) rfl) (ldO_app (ldO_ins (R := R) (l := (b.take x.j).drop j) rfl) (.desc _ _ _ (hone _ (List.getElem_mem k3) _ (List.getElem_mem k4)) ih))
    simpa using this
theorem ldO_gap {R : E→T→T→Prop} {one : T→T→E} {a b : List T} (hone : ∀ x,x ∈ a→∀ y,y ∈ b→R (one x y) x y) : LdO R (gapE one a b) a b := by
  have := ldO_gapO hone (pkG (scR a b)) 0 0 (pkG_ok a b)
  simpa [gapE] using this
theorem opsG_out (gap : List T→List T→List OP) : ∀ (S : List Sp) (a b : List T) (out : List OP),opsG gap S a b out = out ++ opsG gap S a b []
  | [],a,b,out => by simp [opsG]
  | [s],a,b,out => by
    rw [opsG,opsG]
    split
    · simp
    · split <;> simp
  | s :: s2 :: ss,a,b,out => by
    rw [opsG,opsG]
    split
    · rw [opsG_out gap (s2 :: ss),opsG_out gap (s2 :: ss) _ _ ([] ++ _)]; simp
    · split
      · rw [opsG_out gap (s2 :: ss),opsG_out gap (s2 :: ss) _ _ ([] ++ _)]; simp
      · split
        · rw [opsG_out gap ss,opsG_out gap ss _ _ ([] ++ _)]; simp
        · rw [opsG_out gap (s2 :: ss),opsG_out gap (s2 :: ss) _ _ ([] ++ _)]; simp
abbrev Nq : T→T→Prop := fun x y => norm x = norm y
theorem wok_keep_inv : ∀ (n : Nat) {a b : List T},WOk Nq (List.replicate n 0) a b→a.length = n∧b.length = n∧a.map norm = b.map norm
  | 0,a,b,h => by cases h; exact ⟨rfl,rfl,rfl⟩
  | n + 1,a,b,h => by
    cases h with
    | keep x y r w =>
      obtain ⟨h1,h2,h3⟩ := wok_keep_inv n w
      exact ⟨by simp [h1],by simp [h2],by simp [h3]; exact r⟩
theorem ldO_ops {R : E→T→T→Prop} {one : T→T→E} {A B : List T} (hone : ∀ x,x ∈ A→∀ y,y ∈ B→R (one x y) x y) : ∀ (S : List Sp) (a b : List T),(∀ s,s ∈ S→s.k≤2∧1≤s.n)→(∀ t,t ∈ a→t ∈ A)→(∀ t,t ∈ b→t ∈ B)→WOk Nq (unitsS S) a b→LdO R (opsG (gapE one) S a b []) a b
  | [],a,b,_,_,_,h => by
    cases h
    rw [opsG]
    exact .nil
  | [s],a,b,hS,hA,hB,h => by
    have hs := hS s (by simp)
    rw [units_cons,units_nil,List.append_nil] at h
    have hk : s.k = 0∨s.k = 1∨s.k = 2 := by omega
    rw [opsG]
    rcases hk with hk | hk | hk
    · rw [if_pos hk]
      rw [hk] at h
      obtain ⟨h1,h2,h3⟩ := wok_keep_inv _ h
      have := LdO.keep (R := R) a b (fun e => by subst e; simp at h1; omega) h3 .nil
      rw [h1] at this
      simpa using this
    · rw [if_neg (by omega),if_neg (by omega)]
      rw [hk] at h
      obtain ⟨rfl,h2⟩ := wok_del_inv _ h
      rw [List.take_of_length_le (by omega)]
      exact ldO_del rfl
    · rw [if_neg (by omega),if_pos hk]
      rw [hk] at h
      obtain ⟨rfl,h2⟩ := wok_ins_inv _ h
      rw [List.take_of_length_le (by omega)]
      exact ldO_ins rfl
  | s :: s2 :: ss,a,b,hS,hA,hB,h => by
    have hs := hS s (by simp)
    have hs2 := hS s2 (by simp)
    have hS1 : ∀ x,x ∈ s2 :: ss→x.k≤2∧1≤x.n := fun x hx => hS x (List.mem_cons_of_mem _ hx)
    have hS2 : ∀ x,x ∈ ss→x.k≤2∧1≤x.n := fun x hx => hS1 x (List.mem_cons_of_mem _ hx)
    rw [units_cons] at h
    obtain ⟨a1,a2,b1,b2,rfl,rfl,h1,h2⟩ := wok_split h
    have hA2 : ∀ t,t ∈ a2→t ∈ A := fun t ht => hA t (List.mem_append_right _ ht)
    have hB2 : ∀ t,t ∈ b2→t ∈ B := fun t ht => hB t (List.mem_append_right _ ht)
    have dr : ∀ {l m : List T} {n : Nat},l.length = n→(l ++ m).drop n = m∧(l ++ m).take n = l := fun h => by subst h; exact ⟨List.drop_left ..,List.take_left ..⟩
    have hk : s.k = 0∨s.k = 1∨s.k = 2 := by omega
    rw [opsG]
    rcases hk with hk | hk | hk
    · rw [if_pos hk,opsG_out]
      rw [hk] at h1
      obtain ⟨g1,g2,g3⟩ := wok_keep_inv _ h1
      rw [(dr g1).1,(dr g2).1]
      have := LdO.keep (R := R) a1 b1 (fun e => by subst e; simp at g1; omega) g3 (ldO_ops hone (s2 :: ss) a2 b2 hS1 hA2 hB2 h2)
      rw [g1] at this
      simpa using this
    · rw [if_neg (by omega),if_neg (by omega)]
      rw [hk] at h1
      obtain ⟨rfl,g2⟩ := wok_del_inv _ h1
      by_cases hk2 : s2.k = 2
      · rw [if_pos hk2]
        rw [units_cons,hk2] at h2
        obtain ⟨a3,a4,b3,b4,rfl,rfl,h3,h4⟩ := wok_split h2
        obtain ⟨rfl,g4⟩ := wok_ins_inv _ h3
        rw [opsG_out,List.nil_append,List.nil_append,List.nil_append,(dr g2).1,(dr g2).2,(dr g4).1,(dr g4).2]
        exact ldO_app (ldO_gap fun x hx y hy => hone x (hA x (by simp [hx])) y (hB y (by simp [hy]))) (ldO_ops hone ss a4 b4 hS2 (fun t ht => hA2 t (by simp [ht])) (fun t ht => hB2 t (by simp [ht])) h4)
      · rw [if_neg hk2,opsG_out,List.nil_append,(dr g2).1,(dr g2).2]
        have := ldO_app (ldO_del (R := R) (l := a1) rfl) (ldO_ops hone (s2 :: ss) a2 b2 hS1 hA2 hB2 h2)
        simpa using this
    · rw [if_neg (by omega),if_pos hk,opsG_out,List.nil_append]
      rw [hk] at h1
      obtain ⟨rfl,g2⟩ := wok_ins_inv _ h1
      rw [(dr g2).1,(dr g2).2]
      have := ldO_app (ldO_ins (R := R) (l := b1) rfl) (ldO_ops hone (s2 :: ss) a2 b2 hS1 hA2 hB2 h2)
      simpa using this
theorem ldO_lst {R : E→T→T→Prop} {one : T→T→E} {most : Int} {a b : T} (hone : ∀ x,x ∈ a.kids→∀ y,y ∈ b.kids→R (one x y) x y) : LdO R (lstO one most a b) a.kids b.kids := by
  unfold lstO
  split
  · exact ldO_ops hone _ _ _ (fun s hs => nrm_k (wayU_in _ _) s hs) (fun t ht => ht) (fun t ht => ht) (wok_kids a b)
  · exact ldO_gap hone
theorem testBit_unl (a b : Int) : ∀ (n i : Nat),i < n→(unlM a b n).testBit i = decide (byteZ a i ≠ byteZ b i)
  | 0,i,h => by omega
  | n + 1,i,h => by
    have hlt := unlM_lt a b n
    unfold unlM
    by_cases e : i = n
    · subst e
      by_cases c : byteZ a i ≠ byteZ b i
      · rw [if_pos c,Nat.add_comm,Nat.testBit_two_pow_add_eq,Nat.testBit_lt_two_pow hlt]
        simp [c]
      · rw [if_neg c,Nat.add_zero,Nat.testBit_lt_two_pow hlt]
        simp at c
        simp [c]
    · have hi : i < n := by omega
      by_cases c : byteZ a n ≠ byteZ b n
      · rw [if_pos c,Nat.add_comm,Nat.testBit_two_pow_add_gt hi]
        exact testBit_unl a b n i hi
      · rw [if_neg c,Nat.add_zero]
        exact testBit_unl a b n i hi
theorem named_unl (a b : Int) {i : Nat} (h : i < 8) : namedZ (unlZ a b) i = decide (byteZ a i ≠ byteZ b i) := by
  rw [← testBit_unl a b 8 i h,Nat.testBit_eq_decide_div_mod_eq]
  unfold namedZ unlZ
  rw [Bool.eq_iff_iff,decide_eq_true_iff,decide_eq_true_iff]
  have : ((unlM a b 8 : Nat) : Int) / 2 ^ i % 2 = ((unlM a b 8 / 2 ^ i % 2 : Nat) : Int) := by
    rw [Int.natCast_emod,Int.natCast_ediv,Int.natCast_pow]
    rfl
  rw [this]
  omega
theorem ofZ_bytes {b : Int} (h : u64R b) : ofZ (bytesZ b) = b := by
  unfold u64R at h
  simp only [bytesZ,bytesN,ofZ]
  omega
theorem bytesN_ofZ : ∀ (l : List Int),(∀ b,b ∈ l→0≤b∧b < 256)→bytesN l.length (ofZ l) = l
  | [],_ => rfl
  | x :: l,h => by
    have hx := h x (by simp)
    have ih := bytesN_ofZ l fun b hb => h b (List.mem_cons_of_mem _ hb)
    simp only [List.length_cons,bytesN,ofZ]
    have e1 : (x + 256 * ofZ l) % 256 = x := by omega
    have e2 : (x + 256 * ofZ l) / 256 = ofZ l := by omega
    rw [e1,e2,ih]
theorem mixL_get {xs ys : List Int} {m : Int} {i : Nat} (hx : xs.length = 8) (h : i < 8) : (mixL xs ys m 8).getD i 0 = if namedZ m i = true then ys.getD i 0 else xs.getD i 0 := by
  unfold mixL
  have e : xs.drop 8 = [] := List.drop_eq_nil_of_le (by omega)
  rw [e,List.append_nil,List.getD_eq_getElem?_getD,List.getElem?_map,List.getElem?_range h]
  rfl
theorem bytes_getD (x : Int) {i : Nat} (h : i < 8) : (bytesZ x).getD i 0 = byteZ x i := by
  rw [List.getD_eq_getElem?_getD]
  unfold bytesZ
  rw [bytN_get26 8 x i h]
  rfl
theorem bytes_mix (a b m : Int) : bytesZ (mixZ a b m) = mixL (bytesZ a) (bytesZ b) m 8 := by
  have hl : (mixL (bytesZ a) (bytesZ b) m 8).length = 8 := by rw [mixL_length (by rw [bytesZ_length]; omega),bytesZ_length]
  have := bytesN_ofZ (mixL (bytesZ a) (bytesZ b) m 8) mixL_range
  rw [hl] at this
  exact this
theorem mix_unl {a b : Int} (hb : u64R b) : mixZ a (mixZ 0 b (unlZ a b)) (unlZ a b) = b := by
  have e : mixL (bytesZ a) (bytesZ (mixZ 0 b (unlZ a b))) (unlZ a b) 8 = bytesZ b := by
    have hl : (mixL (bytesZ a) (bytesZ (mixZ 0 b (unlZ a b))) (unlZ a b) 8).length = 8 := by rw [mixL_length (by rw [bytesZ_length]; omega),bytesZ_length]
    refine List.ext_getElem (by rw [hl,bytesZ_length]) fun i h1 h2 => ?_
    have hi : i < 8 := by rw [hl] at h1; exact h1
    have g1 := mixL_get (xs := bytesZ a) (ys := bytesZ (mixZ 0 b (unlZ a b))) (m := unlZ a b) (bytesZ_length a) hi
    rw [bytes_mix 0 b,mixL_get (bytesZ_length 0) hi,bytes_getD b hi,bytes_getD a hi,named_unl a b hi] at g1
    have g2 := bytes_getD b hi
    have k1 : ∀ (l : List Int) (h : i < l.length),l.getD i 0 = l[i] := fun l h => by simp [h]
    rw [k1 _ (by rw [mixL_length (by rw [bytesZ_length]; omega),bytesZ_length]; exact hi)] at g1
    rw [k1 _ h2] at g2
    rw [g2]
    have g3 : (mixL (bytesZ a) (bytesZ (mixZ 0 b (unlZ a b))) (unlZ a b) 8)[i] = if decide (byteZ a i ≠ byteZ b i) = true then (if decide (byteZ a i ≠ byteZ b i) = true then byteZ b i else byteZ 0 i) else byteZ a i := by
      rw [← bytes_getD 0 hi,← g1]
      congr 1
      rw [bytes_mix 0 b]
    refine g3.trans ?_
    by_cases c : byteZ a i = byteZ b i
    · simp [c]
    · simp [c]
  have : mixZ a (mixZ 0 b (unlZ a b)) (unlZ a b) = ofZ (bytesZ b) := by
    unfold mixZ at e ⊢
    rw [e]
  rw [this,ofZ_bytes hb]
theorem unlM_comm (a b : Int) : ∀ k,unlM a b k = unlM b a k
  | 0 => rfl
  | k + 1 => by
    unfold unlM
    rw [unlM_comm a b k]
    by_cases c : byteZ a k = byteZ b k
    · simp [c]
    · simp [c,Ne.symm c]
theorem unlZ_comm (a b : Int) : unlZ a b = unlZ b a := by unfold unlZ; rw [unlM_comm]
theorem ldW_skip {a b : List Int} {p : Nat} {ws : List WE} (h : LdW a b (p + 1) ws) (e : a.getD p 0 = b.getD p 0) : LdW a b p ws := by
  cases h with
  | nil _ h =>
    refine .nil p fun i hi => ?_
    by_cases hp : i = p
    · subst hp; exact e
    · exact h i (by omega)
  | cons _ i m o n ws hp h hi hm ho hn h1 h2 g =>
    refine .cons p i m o n ws (by omega) (fun j h3 h4 => ?_) hi hm ho hn h1 h2 g
    by_cases hp : j = p
    · subst hp; exact e
    · exact h j (by omega) h4
theorem ldK_skip {R : E→T→T→Prop} {a b : List T} {p : Nat} {ks : List KE} (h : LdK R a b (p + 1) ks) (e : norm (a.getD p T0) = norm (b.getD p T0)) : LdK R a b p ks := by
  cases h with
  | nil _ h =>
    refine .nil p fun i hi => ?_
    by_cases hp : i = p
    · subst hp; exact e
    · exact h i (by omega)
  | cons _ i x ks hp h hi he hr g =>
    refine .cons p i x ks (by omega) (fun j h3 h4 => ?_) hi he hr g
    by_cases hp : j = p
    · subst hp; exact e
    · exact h j (by omega) h4
theorem u64_getD {l : List Int} (h : ∀ x,x ∈ l→u64R x) (i : Nat) : u64R (l.getD i 0) := by
  rw [List.getD_eq_getElem?_getD]
  cases e : l[i]? with
  | none => exact ⟨by simp,by simp⟩
  | some z => exact h z (List.mem_of_getElem? e)
theorem ldW_wrd {a b : T} (ha : ∀ x,x ∈ a.words→u64R x) (hb : ∀ x,x ∈ b.words→u64R x) : ∀ (n p : Nat),p + n = max a.words.length b.words.length→LdW a.words b.words p ((List.range' p n).filterMap fun i => if unlZ (a.words.getD i 0) (b.words.getD i 0) = 0 then none else some (wdE i (a.words.getD i 0) (b.words.getD i 0)))
  | 0,p,h => by
    refine .nil p fun i hi => ?_
    rw [List.getD_eq_getElem?_getD,List.getD_eq_getElem?_getD,List.getElem?_eq_none (by omega),List.getElem?_eq_none (by omega)]
  | n + 1,p,h => by
    have ih := ldW_wrd ha hb n (p + 1) (by omega)
    have ua := u64_getD ha p
    have ub := u64_getD hb p
    have ui := unlZ_in (a.words.getD p 0) (b.words.getD p 0)
    rw [List.range'_succ,List.filterMap_cons]
    by_cases c : unlZ (a.words.getD p 0) (b.words.getD p 0) = 0
    · rw [if_pos c]
      exact ldW_skip ih ((unl_zero ua ub).1 c)
    · rw [if_neg c]
      exact .cons p p _ _ _ _ (Nat.le_refl _) (fun j h1 h2 => by omega) (by omega) ⟨by omega,ui.2⟩ rfl rfl (mix_unl ub) (by rw [unlZ_comm]; exact mix_unl ua) ih
theorem ldK_kid {f : Nat} {one : T→T→E} {a b : T} (hone : ∀ i,Ld f (one (a.kids.getD i T0) (b.kids.getD i T0)) (a.kids.getD i T0) (b.kids.getD i T0)) : ∀ (n p : Nat),p + n = max a.kids.length b.kids.length→LdK (Ld f) a.kids b.kids p ((List.range' p n).filterMap fun i => if (one (a.kids.getD i T0) (b.kids.getD i T0)).kind = 0 then none else some (.mk i (one (a.kids.getD i T0) (b.kids.getD i T0))))
  | 0,p,h => by
    refine .nil p fun i hi => ?_
    rw [List.getD_eq_getElem?_getD,List.getD_eq_getElem?_getD,List.getElem?_eq_none (by omega),List.getElem?_eq_none (by omega)]
  | n + 1,p,h => by
    have ih := ldK_kid hone n (p + 1) (by omega)
    rw [List.range'_succ,List.filterMap_cons]
    by_cases c : (one (a.kids.getD p T0) (b.kids.getD p T0)).kind = 0
    · rw [if_pos c]
      exact ldK_skip ih (ld_kind0 (hone p) c).2
    · rw [if_neg c]
      exact .cons p p _ _ (Nat.le_refl _) (fun j h1 h2 => by omega) (by omega) c (hone p) ih
def NW : Nat→T→Prop
  | 0,_ => True
  | f + 1,t => (2≤t.kind→t.kind≤9→t.words = [])∧∀ k,k ∈ t.kids→NW f k
theorem nW_T0 : ∀ f,NW f T0
  | 0 => trivial
  | f + 1 => ⟨fun _ _ => rfl,fun k hk => by simp at hk⟩
theorem nW_at {f : Nat} {t : T} (h : NW (f + 1) t) (i : Nat) : NW f (t.kids.getD i T0) := by
  rw [List.getD_eq_getElem?_getD]
  cases e : t.kids[i]? with
  | none => exact nW_T0 f
  | some z => exact h.2 z (List.mem_of_getElem? e)
theorem nW_right : ∀ (f d : Nat) (t : T),rightT d t = true→NW f t
  | 0,d,t,_ => trivial
  | f + 1,d,t,h => by
    obtain ⟨k,w,l⟩ := t
    refine ⟨fun h2 h9 => ?_,fun x hx => nW_right f (d - 1) x (rightT_struct h x hx).1⟩
    have h2 : 2≤k := h2
    have h9 : k≤9 := h9
    rw [rightT_mk,if_neg (by omega),if_neg (by omega)] at h
    split at h
    · cases h
    · rename_i hb
      unfold tooBig at hb
      simp at hb
      exact hb.2 (by omega)
theorem ld_one (most : Int) : ∀ (f g : Nat) (a b : T),okT f a→okT g b→NW f a→NW f b→Ld f (oneE most f a b) a b
  | 0,g,a,b,ha,hb,na,nb => by
    rw [oneE]
    split
    · rename_i h; exact .inl ⟨rfl,eqT_iff.1 h⟩
    · exact .inr ⟨a,b,rfl,rfl,rfl⟩
  | f + 1,g,a,b,ha,hb,na,nb => by
    obtain ⟨a1,a2,a3,a4⟩ := okT_facts ha
    obtain ⟨b1,b2,b3,b4⟩ := okT_facts hb
    rw [oneE]
    split
    · rename_i h; exact .inl (.inl ⟨rfl,eqT_iff.1 h⟩)
    · split
      · rename_i h
        refine .inr (.inl ⟨_,_,rfl,h.1,h.2,?_,?_⟩)
        · have := ldW_wrd (a := a) (b := b) (wfT_iff.1 a1).w (wfT_iff.1 b1).w (max a.words.length b.words.length) 0 (by omega)
          rw [← List.range_eq_range'] at this
          exact this
        · have := ldK_kid (a := a) (b := b) (fun i => ld_one most f (g - 1) _ _ (okT_at ha i) (okT_at hb i) (nW_at na i) (nW_at nb i)) (max a.kids.length b.kids.length) 0 (by omega)
          rw [← List.range_eq_range'] at this
          exact this
      · split
        · rename_i h
          rw [listE_eq]
          exact .inr (.inr ⟨_,rfl,h.1.symm,h.2,⟨na.1 h.2.1 h.2.2,nb.1 (by omega) (by omega)⟩,ldO_lst fun x hx y hy => ld_one most f (g - 1) x y (okT_kids ha x hx) (okT_kids hb y hy) (na.2 x hx) (nb.2 y hy)⟩)
        · exact .inl (.inr ⟨a,b,rfl,rfl,rfl⟩)
end Go.Proofs.Ytmeldaflhkiopaa

namespace Go.Proofs.Ytmeldaflhkiopaa
set_option linter.unusedVariables false
set_option linter.unusedSimpArgs false
open Go Go.G Go.Proofs Go.PL
theorem ld_idle {f : Nat} {e : E} {x y : T} {l : Int} (h : Ld f e x y) (hi : idleE l e = true) : norm x = norm y := by
  have base : LdB e x y→norm x = norm y := fun h => by
    rcases h with h | ⟨o,n,rfl,_⟩
    · exact h.2
    · unfold idleE at hi
      simp at hi
  cases f with
  | zero => exact base h
  | succ f =>
    rcases h with h | ⟨ws,ks,rfl,h1,h2,h3,h4⟩ | ⟨os,rfl,_⟩
    · exact base h
    · unfold idleE at hi
      simp at hi
      obtain ⟨⟨_,rfl⟩,rfl⟩ := hi
      cases h3 with
      | nil _ g3 =>
        cases h4 with
        | nil _ g4 =>
          obtain ⟨k,w,c⟩ := x
          obtain ⟨k',w',c'⟩ := y
          simp only [T.kind_mk] at h1 h2
          subst h1
          subst h2
          exact struct_eq.2 ⟨fun i => g3 i (by omega),fun i => g4 i (by omega)⟩
    · unfold idleE at hi
      simp at hi
section
variable {R : E→T→T→Prop}
theorem ldO_fl {out : List OP} {a b a2 b2 g d : List T} (h : LdO R out a b) (hg : g.map norm = a2.map norm) (hd : d.map norm = b2.map norm) : LdO R (flO out g d) (a ++ a2) (b ++ b2) := by
  unfold flO
  have := ldO_app h (ldO_app (ldO_del (R := R) hg) (ldO_ins hd))
  simpa using this
theorem ldO_kp {out : List OP} {a b l m : List T} (h : LdO R out a b) (hne : l ≠ []) (hl : l.map norm = m.map norm) (hb : a.length + l.length≤1000000000) : LdO R (kpO out (l.length : Nat)) (a ++ l) (b ++ m) := by
  rcases List.eq_nil_or_concat out with rfl | ⟨D,x,rfl⟩
  · cases h
    have := LdO.keep (R := R) l m hne hl .nil
    rw [kp_app (by simp)]
    simpa using this
  · rw [List.concat_eq_append] at h ⊢
    have app : (∀ m l e,x ≠ .mk 0 m l e)→LdO R (kpO (D ++ [x]) (l.length : Nat)) (a ++ l) (b ++ m) := fun hx => by
      rw [kp_app (by simpa using hx)]
      have := ldO_app h (LdO.keep (R := R) l m hne hl .nil)
      simpa using this
    obtain ⟨a1,a2,b1,b2,rfl,rfl,h1,h2⟩ := ldO_split h
    cases h2 with
    | keep l1 m1 hne1 hl1 g =>
      cases g
      have e : kpO (D ++ [OP.mk 0 ((l1.length : Nat) : Int) [] E0]) (l.length : Nat) = D ++ [.mk 0 (((l1 ++ l).length : Nat) : Int) [] E0] := by
        unfold kpO
        rw [List.getLast?_concat]
        simp only [List.dropLast_concat]
        have : IntKind.i64.wrap (((l1.length : Nat) : Int) + (l.length : Nat)) = (((l1 ++ l).length : Nat) : Int) := by
          simp only [List.length_append] at hb ⊢
          rw [i64_same (by omega) (by omega)]
          omega
        rw [this]
      rw [e]
      have := ldO_app h1 (LdO.keep (R := R) (l1 ++ l) (m1 ++ m) (by simp [hne1]) (by simp [hl1,hl]) .nil)
      simpa using this
    | del l1 m1 hne1 hl1 g => exact app (by simp)
    | ins l1 m1 hne1 hl1 g => exact app (by simp)
    | desc e x y r g => exact app (by simp)
end
theorem ldO_W {f : Nat} {list : Int} {P : T→Prop} (hR : ∀ e x y,P x→Ld f e x y→Ld f (nEd e) x y) {os : List OP} {a3 b3 : List T} (h : LdO (Ld f) os a3 b3) : (∀ t,t ∈ a3→P t)→∀ (out : List OP) (g d a1 b1 a2 b2 : List T),LdO (Ld f) out a1 b1→g.map norm = a2.map norm→d.map norm = b2.map norm→a1.length + a2.length + a3.length≤1000000000→LdO (Ld f) (opsW list (os.map nOP) out g d) (a1 ++ (a2 ++ a3)) (b1 ++ (b2 ++ b3)) := by
  induction h with
  | nil =>
    intro hP out g d a1 b1 a2 b2 h1 hg hd hb
    rw [List.map_nil,opsW]
    simpa using ldO_fl h1 hg hd
  | keep l m hne hl _ ih =>
    intro hP out g d a1 b1 a2 b2 h1 hg hd hb
    rw [List.length_append] at hb
    rw [List.map_cons,opsW,if_pos (show (nOP (.mk 0 ((l.length : Nat) : Int) [] E0)).kind = 0 from rfl)]
    have := ih (fun t ht => hP t (List.mem_append_right _ ht)) (kpO (flO out g d) ((l.length : Nat) : Int)) [] [] _ _ [] [] (ldO_kp (ldO_fl h1 hg hd) hne hl (by rw [List.length_append]; omega)) rfl rfl (by simp only [List.length_append,List.length_nil]; omega)
    simp at this ⊢
    exact this
  | del l m hne hl _ ih =>
    intro hP out g d a1 b1 a2 b2 h1 hg hd hb
    rw [List.length_append] at hb
    rw [List.map_cons,opsW,if_neg (show ¬ (nOP (.mk 1 0 l E0)).kind = 0 by show ¬ (1 : Int) = 0; decide),if_pos (show (nOP (.mk 1 0 l E0)).kind = 1 from rfl)]
    have := ih (fun t ht => hP t (List.mem_append_right _ ht)) out (g ++ l.map norm) d a1 b1 (a2 ++ m) b2 h1 (by rw [List.map_append,List.map_append,norm_maps,hg,hl]) hd (by rw [List.length_append]; omega)
    simp at this ⊢
    exact this
  | ins l m hne hl _ ih =>
    intro hP out g d a1 b1 a2 b2 h1 hg hd hb
    rw [List.map_cons,opsW,if_neg (show ¬ (nOP (.mk 2 0 l E0)).kind = 0 by show ¬ (2 : Int) = 0; decide),if_neg (show ¬ (nOP (.mk 2 0 l E0)).kind = 1 by show ¬ (2 : Int) = 1; decide),if_pos (show (nOP (.mk 2 0 l E0)).kind = 2 from rfl)]
    have := ih hP out g (d ++ l.map norm) a1 b1 a2 (b2 ++ m) h1 hg (by rw [List.map_append,List.map_append,norm_maps,hd,hl]) (by omega)
    simp at this ⊢
    exact this
  | desc e x y r _ ih =>
    intro hP out g d a1 b1 a2 b2 h1 hg hd hb
    rw [List.length_cons] at hb
    rw [List.map_cons,opsW,if_neg (show ¬ (nOP (.mk 3 0 [] e)).kind = 0 by show ¬ (3 : Int) = 0; decide),if_neg (show ¬ (nOP (.mk 3 0 [] e)).kind = 1 by show ¬ (3 : Int) = 1; decide),if_neg (show ¬ (nOP (.mk 3 0 [] e)).kind = 2 by show ¬ (3 : Int) = 2; decide)]
    have r' := hR e x y (hP x (by simp)) r
    split
    · rename_i hi
      have hn := ld_idle r' (show idleE list (nEd e) = true from hi)
      have := ih (fun t ht => hP t (List.mem_cons_of_mem _ ht)) (kpO (flO out g d) (([x] : List T).length : Nat)) [] [] _ _ [] [] (ldO_kp (l := [x]) (m := [y]) (ldO_fl h1 hg hd) (by simp) (by simp [hn]) (by rw [List.length_append]; simp; omega)) rfl rfl (by simp only [List.length_append,List.length_nil,List.length_cons]; omega)
      simp at this ⊢
      exact this
    · have := ih (fun t ht => hP t (List.mem_cons_of_mem _ ht)) (flO out g d ++ [.mk 3 0 [] (nEd e)]) [] [] _ _ [] [] (ldO_app (ldO_fl h1 hg hd) (.desc (nEd e) x y r' .nil)) rfl rfl (by simp only [List.length_append,List.length_nil,List.length_cons]; omega)
      simp at this ⊢
      exact this
def FewK : Nat→T→Prop
  | 0,_ => True
  | f + 1,t => t.kids.length≤1000000∧∀ k,k ∈ t.kids→FewK f k
theorem fewK_T0 : ∀ f,FewK f T0
  | 0 => trivial
  | f + 1 => ⟨by simp,fun k hk => by simp at hk⟩
theorem fewK_at {f : Nat} {t : T} (h : FewK (f + 1) t) (i : Nat) : FewK f (t.kids.getD i T0) := by
  rw [List.getD_eq_getElem?_getD]
  cases e : t.kids[i]? with
  | none => exact fewK_T0 f
  | some z => exact h.2 z (List.mem_of_getElem? e)
theorem nEd_kind {f : Nat} {e : E} {a b : T} (h : Ld f e a b) : (nEd e).kind = e.kind := by
  have base : LdB e a b→(nEd e).kind = e.kind := fun h => by
    rcases h with ⟨rfl,_⟩ | ⟨o,n,rfl,_⟩
    · rw [nEd_E0]
    · rw [nEd_mk,if_pos rfl]; rfl
  cases f with
  | zero => exact base h
  | succ f =>
    rcases h with h | ⟨ws,ks,rfl,_⟩ | ⟨os,rfl,_⟩
    · exact base h
    · rw [nEd_mk,if_neg (by decide),if_pos rfl]; rfl
    · rw [nEd_mk,if_neg (by decide),if_neg (by decide),if_pos rfl]; rfl
theorem ldK_map {R R' : E→T→T→Prop} {a b : List T} (hR : ∀ e i,R e (a.getD i T0) (b.getD i T0)→R' (nEd e) (a.getD i T0) (b.getD i T0)∧(nEd e).kind = e.kind) : ∀ {ks : List KE} {p : Nat},LdK R a b p ks→LdK R' a b p (ks.map nKE) := by
  intro ks p h
  induction h with
  | nil p h => exact .nil p h
  | cons p i e ks hp h hi he hr _ ih =>
    have := hR e i hr
    exact .cons p i (nEd e) _ hp h hi (by rw [this.2]; exact he) this.1 ih
theorem ld_nEd : ∀ (f : Nat) (e : E) (a b : T),FewK f a→Ld f e a b→Ld f (nEd e) a b := by
  have base : ∀ {e a b},LdB e a b→LdB (nEd e) a b := fun {e a b} h => by
    rcases h with ⟨rfl,h⟩ | ⟨o,n,rfl,h1,h2⟩
    · rw [nEd_E0]; exact .inl ⟨rfl,h⟩
    · rw [nEd_mk,if_pos rfl]
      exact .inr ⟨norm o,norm n,rfl,by rw [norm_norm]; exact h1,by rw [norm_norm]; exact h2⟩
  intro f
  induction f with
  | zero => exact fun e a b _ h => base h
  | succ f ih =>
    intro e a b hF h
    rcases h with h | ⟨ws,ks,rfl,h1,h2,h3,h4⟩ | ⟨os,rfl,h1,h2,hw,h3⟩
    · exact .inl (base h)
    · rw [nEd_mk,if_neg (by decide),if_pos rfl]
      exact .inr (.inl ⟨ws,ks.map nKE,rfl,h1,h2,h3,ldK_map (fun e i r => ⟨ih e _ _ (fewK_at hF i) r,nEd_kind r⟩) h4⟩)
    · rw [nEd_mk,if_neg (by decide),if_neg (by decide),if_pos rfl]
      refine .inr (.inr ⟨_,rfl,h1,h2,hw,?_⟩)
      have := ldO_W (list := a.kind) (P := FewK f) (fun e x y hx r => ih e x y hx r) h3 hF.2 [] [] [] [] [] [] [] .nil rfl rfl (by have := hF.1; simp; omega)
      simpa using this
theorem ld_df {a b : T} (ha : wfT a) (hb : wfT b) (pa : partsT a≤1000) (pb : partsT b≤1000) {da db : Nat} (ra : rightT da a = true) (rb : rightT db b = true) {most : Int} : Ld 1000 (dfE most a b) (norm a) (norm b) := by
  have oa := okT_norm26 a ha pa 1000 pa
  have ob := okT_norm26 b hb pb 1000 pb
  refine ld_nEd 1000 _ _ _ ?_ (ld_one most 1000 1000 _ _ oa ob (nW_right 1000 da _ (right_norm a da ra)) (nW_right 1000 db _ (right_norm b db rb)))
  have key : ∀ (f g : Nat) (t : T),okT g t→FewK f t := fun f => by
    induction f with
    | zero => exact fun g t _ => trivial
    | succ f ih => exact fun g t h => ⟨by have := (okT_facts h).2.2.2; omega,fun k hk => ih (g - 1) k (okT_kids h k hk)⟩
  exact key 1000 1000 _ oa
end Go.Proofs.Ytmeldaflhkiopaa

namespace Go.Proofs.Ytmeldaflhkiopaa
set_option linter.unusedVariables false
set_option linter.unusedSimpArgs false
open Go Go.G Go.Proofs Go.PL
abbrev at26 (x : Int) : T := .mk 10 [x] []
abbrev ls26 (l : List Int) : T := .mk 4 [] (l.map at26)
theorem same_at26 (x y : Int) : sameB (at26 x) (at26 y) = decide (x = y) := by
  rw [Bool.eq_iff_iff,sameB_iff]
  simp
theorem norm_at26 (x : Int) : norm (at26 x) = at26 x := by simp [norm_mk]
theorem norm_ls26 (l : List Int) : norm (ls26 l) = ls26 l := by
  rw [norm_mk]
  simp [Function.comp_def,norm_at26]
theorem eq_ls26 : eqT (ls26 [1,2,3]) (ls26 [1,9,3]) = false := by
  rw [Bool.eq_false_iff]
  intro h
  rw [eqT_iff,norm_ls26,norm_ls26] at h
  simp at h
theorem cls_a26 : clsL [] [at26 1,at26 2,at26 3] = ([at26 1,at26 2,at26 3],[0,1,2]) := by
  simp [clsL,clsI,clsK,norm_at26,same_at26,List.findIdx_cons]
theorem cls_b26 : clsL [at26 1,at26 2,at26 3] [at26 1,at26 9,at26 3] = ([at26 1,at26 2,at26 3,at26 9],[0,3,2]) := by
  simp [clsL,clsI,clsK,norm_at26,same_at26,List.findIdx_cons]
theorem ca_26 : caL (ls26 [1,2,3]) = [0,1,2] := by
  show zsN (clsL [] [at26 1,at26 2,at26 3]).2 = _
  rw [cls_a26]; rfl
theorem cb_26 : cbL (ls26 [1,2,3]) (ls26 [1,9,3]) = [0,3,2] := by
  show zsN (clsL (clsL [] [at26 1,at26 2,at26 3]).1 [at26 1,at26 9,at26 3]).2 = _
  rw [cls_a26]
  show zsN (clsL [at26 1,at26 2,at26 3] [at26 1,at26 9,at26 3]).2 = _
  rw [cls_b26]; rfl
theorem dist_26 : distL [0,1,2] [0,3,2] = 2 := by decide
theorem way_26 : nrmS (wayU [0,1,2] [0,3,2]) = [⟨0,1⟩,⟨1,1⟩,⟨2,1⟩,⟨0,1⟩] := by rfl
theorem gap_26 (one : T→T→E) : gapE one [at26 2] [at26 9] = [.mk 1 0 [at26 2] E0,.mk 2 0 [at26 9] E0] := by
  have hs : scR [at26 2] [at26 9] = [[0]] := by simp [scR,scoreT]
  have hp : pkG (scR [at26 2] [at26 9]) = [] := by
    obtain ⟨h,_⟩ := pkO_ok (scR [at26 2] [at26 9])
    have h2 := (picks_facts h).2
    have : pkO (scR [at26 2] [at26 9]) = [] := by
      apply List.eq_nil_iff_forall_not_mem.2
      intro x hx
      have := h2 x hx
      rw [hs] at this
      simp [candS,candR] at this
    unfold pkG
    rw [this]; rfl
  unfold gapE
  rw [hp]
  simp [gapO,delO,insO]
theorem df_26 : dfE 9 (ls26 [1,2,3]) (ls26 [1,9,3]) = .mk 3 T0 T0 [] [] 4 [.mk 0 1 [] E0,.mk 1 0 [at26 2] E0,.mk 2 0 [at26 9] E0,.mk 0 1 [] E0] := by
  unfold dfE
  rw [norm_ls26,norm_ls26,show (1000 : Nat) = 999 + 1 from rfl,oneE,eq_ls26]
  rw [if_neg (by simp),if_neg (by simp),if_pos (by simp),listE_eq]
  unfold lstO
  rw [ca_26,cb_26,dist_26,way_26,if_pos (by omega)]
  rw [opsG_keep rfl,opsG_gap rfl rfl,opsG_keep rfl]
  have e : gapE (oneE 9 999) (((ls26 [1,2,3]).kids.drop 1).take 1) (((ls26 [1,9,3]).kids.drop 1).take 1) = [.mk 1 0 [at26 2] E0,.mk 2 0 [at26 9] E0] := gap_26 _
  show nEd (E.mk 3 T0 T0 [] [] 4 (opsG (gapE (oneE 9 999)) [] _ _ ([] ++ [OP.mk 0 ((1 : Nat) : Int) [] E0] ++ gapE (oneE 9 999) (((ls26 [1,2,3]).kids.drop 1).take 1) (((ls26 [1,9,3]).kids.drop 1).take 1) ++ [OP.mk 0 ((1 : Nat) : Int) [] E0]))) = _
  rw [e,opsG,nEd_mk]
  simp [nOP,opsW,kpO,flO,delO,insO,norm_at26,nEd_mk]
end Go.Proofs.Ytmeldaflhkiopaa

namespace Go.Proofs.Ytmeldaflhkiopaa
set_option linter.unusedVariables false
set_option linter.unusedSimpArgs false
open Go Go.G Go.Proofs Go.PL
def at26R (x : Int) : A := .agg [iv 10,.sl true [uv x],.sl true []]
@[simp] theorem at26R_cells (x : Int) : (at26R x).cells = [iv 10,.sl true [uv x],.sl true []] := rfl
theorem lens_at26 {l : List Int} : lens 3 (l.map at26R) = true := by rw [lens_all]; simp
section
variable {n0 : Nat} {w0 : World} {I0 : Nat→Prop} {Q : Exit→Sta→Prop}
theorem aw26_l1 {l : List Int} (hl : l.length≤1000) (hq : ∀ (H' : Hp) (v : Nat) (st : List (Nat × A)),H' [0] = ⟨1,.cells [iv 0,.sl true [],.sl true []]⟩→H' [1] = ⟨1,.cells [iv 4,.sl true [],.osl [2] v 3 0 l.length]⟩→H' [2] = ⟨v,.arr 3 (l.map at26R)⟩→Q (.exit 0) ⟨lk ([(0,uws l),(2,.pob [0] 1 0),(3,.pob [1] 1 0)] ++ st),H'⟩) :
    ∀ (m i v : Nat) (H : Hp),i + m = l.length→H [0] = ⟨1,.cells [iv 0,.sl true [],.sl true []]⟩→H [1] = ⟨1,.cells [iv 4,.sl true [],.osl [2] v 3 0 i]⟩→H [2] = ⟨v,.arr 3 ((l.take i).map at26R)⟩ →
    LoopC (cx Try.prog w0 I0 n0) l1_centolaw26_awake_1 Q ⟨lk [(0,uws l),(2,.pob [0] 1 0),(3,.pob [1] 1 0),(4,iv i)],H⟩ := by
  intro m
  induction m with
  | zero =>
    intro i v H hm h0 h1 h2
    have : i = l.length := by omega
    subst this
    rw [List.take_of_length_le (Nat.le_refl _)] at h2
    refine loopC_once mixed l1_centolaw26_awake_1.eq_1 ?_
    simp
    have := hq H v [(4,iv l.length),(9,bv false)] h0 h1 h2
    simpa using this
  | succ m ih =>
    intro i v H hm h0 h1 h2
    have hlt : i < l.length := by omega
    have ew : IntKind.i64.wrap ((i : Int) + 1) = ((i + 1 : Nat) : Int) := by rw [i64_same (by omega) (by omega)]; omega
    have htk : l.take (i + 1) = l.take i ++ [l[i]] := List.take_succ_eq_append_getElem hlt
    have next := ih (i + 1) (v + 1)
    rw [htk,List.map_append] at next
    refine loopC_once mixed l1_centolaw26_awake_1.eq_1 ?_
    simp [hlt,h1,h2,ew,updF_app,lens_at26]
    refine ⟨by omega,?_⟩
    refine next _ (by omega) (by simp [updF_app,h0]) (by simp [updF_app]) ?_
    rw [List.take_of_length_le (by simp; omega)]
    simp [updF_app,at26R]
end
theorem aw26_one {l : List Int} (hl : l.length≤1000) : G.Spec Try.prog 32 [uws l] (tX (ls26 l)) := by
  refine spec_of t_centolaw26_awake_1 (by simp) fun w0 I0 => ?_
  unfold c_centolaw26_awake_1
  simp
  refine LoopC.le (le_blankC (d := [1]) (u := 1) 2 [2] 3 (by simp [updF_app]; rfl) rfl (by simp)) ?_
  refine LoopC.le (le_list [(0,uws l),(2,.pob [0] 1 0),(3,.pob [1] 1 0),(4,iv (0 : Nat))] (by simp [upd])) ?_
  refine aw26_l1 hl (fun H' v st h0 h1 h2 => ?_) l.length 0 1 _ (by omega) (by simp [updF_app]) (by simp [updF_app]) (by simp [updF_app])
  simp [h0,h1]
  refine frz_agg ⟨frz_bare rfl,frz_sl,?_,trivial⟩
  have := frz_rowF (H := updF H' [0] ⟨1,.cells [iv 4,.sl true [],.osl [2] v 3 0 l.length]⟩) (o := [2]) (u := v) (n := l.length) (sz := 3) (l := l) (f := at26R) (g := fun x => tA (at26 x)) (by simp [updF_app,h2]) rfl (fun x _ => by simp [A.soft,A.softL])
  show Frz _ _ (.sl false ((l.map at26).map tA))
  rw [List.map_map]
  exact this
theorem awake26_spec : G.Spec Try.prog 15 [] (bv true) := by
  have wf1 : ∀ x : Int,0≤x→x < 100→wfT (at26 x) := fun x h1 h2 => wfT_iff.2 ⟨by simp [i64R],by simp [u64R]; omega,by simp,by simp,by simp⟩
  have w1 : wfT (ls26 [1,2,3]) := wfT_iff.2 ⟨by simp [i64R],by simp,by simp,by simp,by simp [wf1]⟩
  have w2 : wfT (ls26 [1,9,3]) := wfT_iff.2 ⟨by simp [i64R],by simp,by simp,by simp,by simp [wf1]⟩
  have T := pTrees_spec w1 w2 (by simp) (by simp) (most := 9) (by simp [i64R])
  rw [df_26] at T
  refine spec_of t_centolaw26_awake (by simp) fun w0 I0 => ?_
  unfold c_centolaw26_awake
  simp
  refine sc_callv rfl ((aw26_one (l := [1,2,3]) (by simp)).soft (by simp [A.softL,A.soft])) (by simp) ?_
  simp
  refine sc_callv rfl ((aw26_one (l := [1,9,3]) (by simp)).soft (by simp [A.softL,A.soft])) (by simp) ?_
  simp
  refine sc_call T (by simp) ?_
  simp
  exact frz_is rfl (by simp)
end Go.Proofs.Ytmeldaflhkiopaa

namespace Go.Proofs.Ytmeldaflhkiopaa
set_option linter.unusedVariables false
set_option linter.unusedSimpArgs false
open Go Go.G Go.Proofs Go.PL
def kN : List OP→Int
  | [] => 0
  | o :: os => (if o.kind = 0 then o.n else 0) + kN os
theorem kN_app : ∀ (a b : List OP),kN (a ++ b) = kN a + kN b
  | [],b => by simp [kN]
  | o :: a,b => by
    rw [List.cons_append,kN,kN,kN_app a b]
    omega
def Kp (os : List OP) : Prop := ∀ o,o ∈ os→o.kind = 0→0≤o.n
theorem kp_tail {o : OP} {os : List OP} (h : Kp (o :: os)) : Kp os := fun x hx => h x (List.mem_cons_of_mem _ hx)
theorem kN_pos : ∀ {os : List OP},Kp os→0≤kN os
  | [],_ => by simp [kN]
  | o :: os,h => by
    have := kN_pos (kp_tail h)
    have h0 := h o (by simp)
    rw [kN]
    split
    · rename_i e; have := h0 e; omega
    · omega
theorem kN_take {os : List OP} (h : Kp os) (i : Nat) : kN (os.take i)≤kN os∧0≤kN (os.take i) := by
  have e : kN os = kN (os.take i) + kN (os.drop i) := by rw [← kN_app,List.take_append_drop]
  have h1 := kN_pos (os := os.take i) fun o ho => h o (List.mem_of_mem_take ho)
  have h2 := kN_pos (os := os.drop i) fun o ho => h o (List.mem_of_mem_drop ho)
  omega
theorem kN_del (l : List T) : kN (delO l) = 0 := by unfold delO; split <;> simp [kN]
theorem kN_ins (l : List T) : kN (insO l) = 0 := by unfold insO; split <;> simp [kN]
theorem kN_gapO (one : T→T→E) (a b : List T) : ∀ (P : List Sc) (i j : Nat) (out : List OP),kN (gapO one a b P i j out) = kN out
  | [],i,j,out => by rw [gapO,kN_app,kN_app,kN_del,kN_ins]; omega
  | x :: P,i,j,out => by
    rw [gapO,kN_gapO one a b P,kN_app,kN_app,kN_app,kN_del,kN_ins]
    simp [kN]
theorem kN_gapE (one : T→T→E) (a b : List T) : kN (gapE one a b) = 0 := by
  unfold gapE
  rw [kN_gapO]
  rfl
theorem kN_opsG (one : T→T→E) : ∀ (S : List Sp) (a b : List T),(∀ s,s ∈ S→s.k≤2)→kN (opsG (gapE one) S a b []) = cK (unitsS S)
  | [],a,b,_ => by rw [opsG]; rfl
  | [s],a,b,h => by
    have hs := h s (by simp)
    rw [opsG,units_cons,units_nil,List.append_nil,cK_rep]
    split
    · simp [kN]
    · split <;> rw [List.nil_append]
      · rw [kN_ins]; rfl
      · rw [kN_del]; rfl
  | s :: s2 :: ss,a,b,h => by
    have hs := h s (by simp)
    have h1 : ∀ x,x ∈ s2 :: ss→x.k≤2 := fun x hx => h x (List.mem_cons_of_mem _ hx)
    have h2 : ∀ x,x ∈ ss→x.k≤2 := fun x hx => h1 x (List.mem_cons_of_mem _ hx)
    rw [opsG,units_cons,cK_app,cK_rep]
    split
    · rw [opsG_out,kN_app,kN_opsG one (s2 :: ss) _ _ h1]
      simp [kN]
    · split
      · rw [opsG_out,kN_app,kN_opsG one (s2 :: ss) _ _ h1,List.nil_append,kN_ins]
        simp
      · split
        · rename_i k0 k2 k3
          rw [opsG_out,kN_app,kN_opsG one ss _ _ h2,List.nil_append,kN_gapE,units_cons,cK_app,cK_rep,if_neg (by omega)]
          simp
        · rw [opsG_out,kN_app,kN_opsG one (s2 :: ss) _ _ h1,List.nil_append,kN_del]
          simp
theorem kN_fl (out : List OP) (g b : List T) : kN (flO out g b) = kN out := by
  unfold flO
  rw [kN_app,kN_app,kN_del,kN_ins]
  omega
theorem kp_fl {out : List OP} {g b : List T} (h : Kp out) : Kp (flO out g b) := by
  intro o ho hk
  unfold flO delO insO at ho
  rcases List.mem_append.1 ho with ho | ho
  · exact h o ho hk
  · rcases List.mem_append.1 ho with ho | ho <;> (split at ho <;> simp at ho <;> subst ho <;> cases hk)
theorem kN_kp {out : List OP} {n : Int} (h : Kp out) (hn : 0≤n) (hb : kN out + n≤4000000000) : kN (kpO out n) = kN out + n∧Kp (kpO out n) := by
  unfold kpO
  split
  · rename_i m l e he
    rcases List.eq_nil_or_concat out with rfl | ⟨D,x,rfl⟩
    · simp at he
    · rw [List.concat_eq_append] at he h hb ⊢
      rw [List.getLast?_concat] at he
      cases he
      rw [List.dropLast_concat]
      have hm : 0≤m := h (.mk 0 m l e) (by simp) rfl
      have hD : Kp D := fun o ho => h o (List.mem_append_left _ ho)
      have hp := kN_pos hD
      have e1 : kN [OP.mk 0 m l e] = m := by show (if (0 : Int) = 0 then m else 0) + 0 = m; simp
      rw [kN_app,e1] at hb
      have ew : IntKind.i64.wrap (m + n) = m + n := i64_same (by omega) (by omega)
      rw [ew]
      have e2 : kN [OP.mk 0 (m + n) l e] = m + n := by show (if (0 : Int) = 0 then m + n else 0) + 0 = m + n; simp
      refine ⟨by rw [kN_app,kN_app,e1,e2]; omega,fun o ho hk => ?_⟩
      rcases List.mem_append.1 ho with ho | ho
      · exact hD o ho hk
      · simp at ho
        subst ho
        show 0≤m + n
        omega
  · refine ⟨by rw [kN_app]; simp [kN],fun o ho hk => ?_⟩
    rcases List.mem_append.1 ho with ho | ho
    · exact h o ho hk
    · simp at ho
      subst ho
      exact hn
theorem kN_W (list : Int) : ∀ (os out : List OP) (g b : List T),Kp os→Kp out→kN out + kN os + os.length≤4000000000→kN out + kN os≤kN (opsW list os out g b)
  | [],out,g,b,_,_,_ => by rw [opsW,kN_fl]; simp [kN]
  | o :: os,out,g,b,h1,h2,h3 => by
    have hp := kN_pos (kp_tail h1)
    have h0 := h1 o (by simp)
    rw [kN,List.length_cons] at h3
    have hf := kN_fl out g b
    have kf := kp_fl (g := g) (b := b) h2
    rw [opsW,kN]
    split
    · rename_i e
      rw [if_pos e] at h3
      obtain ⟨k1,k2⟩ := kN_kp (n := o.n) kf (h0 e) (by omega)
      have := kN_W list os (kpO (flO out g b) o.n) [] [] (kp_tail h1) k2 (by omega)
      omega
    · rename_i e
      rw [if_neg e] at h3
      split
      · have := kN_W list os out (g ++ o.l.map norm) b (kp_tail h1) h2 (by omega)
        omega
      · split
        · have := kN_W list os out g (b ++ o.l.map norm) (kp_tail h1) h2 (by omega)
          omega
        · split
          · obtain ⟨k1,k2⟩ := kN_kp (n := 1) kf (by omega) (by omega)
            have := kN_W list os (kpO (flO out g b) 1) [] [] (kp_tail h1) k2 (by omega)
            omega
          · have e3 : kN [OP.mk 3 0 [] o.e] = 0 := by simp [kN]
            have := kN_W list os (flO out g b ++ [.mk 3 0 [] o.e]) [] [] (kp_tail h1) (fun x hx hk => by
              rcases List.mem_append.1 hx with hx | hx
              · exact kf x hx hk
              · simp at hx; subst hx; cases hk) (by rw [kN_app,e3]; omega)
            rw [kN_app,e3] at this
            omega
theorem wok_keeps : ∀ {l m : List T},l.map norm = m.map norm→WOk Nq (List.replicate l.length 0) l m
  | [],m,h => by
    have : m = [] := by simpa using h.symm
    subst this
    exact .nil
  | x :: l,[],h => by simp at h
  | x :: l,y :: m,h => by
    simp at h
    exact .keep x y h.1 (wok_keeps h.2)
theorem ldO_kN {R : E→T→T→Prop} {os : List OP} {a b : List T} (h : LdO R os a b) : Kp os∧∃ us,WOk Nq us a b∧kN os = cK us := by
  induction h with
  | nil => exact ⟨fun o ho => by simp at ho,[],.nil,rfl⟩
  | keep l m hne hl _ ih =>
    obtain ⟨k,us,h1,h2⟩ := ih
    refine ⟨fun o ho hk => ?_,List.replicate l.length 0 ++ us,wok_app (wok_keeps hl) h1,?_⟩
    · rcases List.mem_cons.1 ho with rfl | ho
      · show (0 : Int)≤(l.length : Nat); omega
      · exact k o ho hk
    · rw [cK_app,cK_rep,kN,h2]
      simp
  | del l m hne hl _ ih =>
    obtain ⟨k,us,h1,h2⟩ := ih
    refine ⟨fun o ho hk => ?_,List.replicate m.length 1 ++ us,by simpa using wok_app (wok_dels m) h1,?_⟩
    · rcases List.mem_cons.1 ho with rfl | ho
      · cases hk
      · exact k o ho hk
    · rw [cK_app,cK_rep,kN,h2]
      simp
  | ins l m hne hl _ ih =>
    obtain ⟨k,us,h1,h2⟩ := ih
    refine ⟨fun o ho hk => ?_,List.replicate m.length 2 ++ us,by simpa using wok_app (wok_ins m) h1,?_⟩
    · rcases List.mem_cons.1 ho with rfl | ho
      · cases hk
      · exact k o ho hk
    · rw [cK_app,cK_rep,kN,h2]
      simp
  | desc e x y r _ ih =>
    obtain ⟨k,us,h1,h2⟩ := ih
    refine ⟨fun o ho hk => ?_,1 :: 2 :: us,.del x (.ins y h1),?_⟩
    · rcases List.mem_cons.1 ho with rfl | ho
      · cases hk
      · exact k o ho hk
    · rw [cK_cons,cK_cons,kN,h2]
      simp
theorem wok_to {α β : Type} {f : α→β} {us : List Nat} {a b : List α} (w : WOk (fun x y => f x = f y) us a b) : WOk (fun x y : β => x = y) us (a.map f) (b.map f) := by
  induction w with
  | nil => exact .nil
  | keep x y r _ ih => exact .keep _ _ r ih
  | del x _ ih => exact .del _ ih
  | ins y _ ih => exact .ins _ ih
theorem wok_lcs {a b : T} {us : List Nat} (h : WOk Nq us a.kids b.kids) : cK us≤lcsL (caL a) (cbL a b) := by
  rw [ca_map a b,cb_map a b]
  refine wok_le (wok_to (wok_imp (fun x _ y _ e => ?_) h))
  unfold clZ
  rw [show norm x = norm y from e]
theorem norm_list {t : T} (h0 : t.kind ≠ 0) (h1 : t.kind ≠ 1) : (norm t).kids = t.kids.map norm := by
  obtain ⟨k,w,l⟩ := t
  have h0 : k ≠ 0 := h0
  have h1 : k ≠ 1 := h1
  rw [norm_mk,if_neg h0,if_neg h1]
  rfl
theorem clsL_norm : ∀ (l ks : List T),clsL ks (l.map norm) = clsL ks l
  | [],ks => rfl
  | t :: l,ks => by rw [List.map_cons,clsL,clsL,norm_norm,clsL_norm l]
theorem df_keeps {a b : T} (ha : wfT a) (hb : wfT b) (pa : partsT a≤1000) (pb : partsT b≤1000) {da db : Nat} (ra : rightT da a = true) (rb : rightT db b = true) {most : Int} (hk : a.kind = b.kind) (h2 : 2≤a.kind) (h9 : a.kind≤9) (h0 : (dfE most a b).kind ≠ 0) (hd : (distL (caL a) (cbL a b) : Int)≤most) : Kp (dfE most a b).ops∧kN (dfE most a b).ops = (lcsL (caL a) (cbL a b) : Nat) := by
  have oa := okT_norm26 a ha pa 1000 pa
  have ob := okT_norm26 b hb pb 1000 pb
  have L := ld_df ha hb pa pb ra rb (most := most)
  have fa := okT_facts oa
  have fb := okT_facts ob
  have ka := norm_list (t := a) (by omega) (by omega)
  have kb := norm_list (t := b) (by omega) (by omega)
  have ea : caL (norm a) = caL a := by unfold caL; rw [ka,clsL_norm]
  have eb : cbL (norm a) (norm b) = cbL a b := by unfold cbL; rw [ka,kb,clsL_norm,clsL_norm]
  have hone : oneE most 1000 (norm a) (norm b) = if eqT (norm a) (norm b) = true then E0 else .mk 3 T0 T0 [] [] a.kind (lstO (oneE most 999) most (norm a) (norm b)) := by
    rw [show (1000 : Nat) = 999 + 1 from rfl,oneE,if_neg (show ¬ ((norm a).kind = 1∧(norm b).kind = 1) by rw [norm_kind]; omega),if_pos (show (norm a).kind = (norm b).kind∧2≤(norm a).kind∧(norm a).kind≤9 by rw [norm_kind,norm_kind]; omega),listE_eq,norm_kind]
  by_cases he : eqT (norm a) (norm b) = true
  · exfalso
    apply h0
    unfold dfE
    rw [hone,if_pos he,nEd_E0]
    rfl
  · have hD : dfE most a b = .mk 3 T0 T0 [] [] a.kind (opsW a.kind ((lstO (oneE most 999) most (norm a) (norm b)).map nOP) [] [] []) := by
      unfold dfE
      rw [hone,if_neg he,nEd_mk,if_neg (by decide),if_neg (by decide),if_pos rfl]
    have hops : (dfE most a b).ops = opsW a.kind ((lstO (oneE most 999) most (norm a) (norm b)).map nOP) [] [] [] := by rw [hD]; rfl
    have hl : LdO (Ld 999) (dfE most a b).ops (norm a).kids (norm b).kids := by
      rcases L with (⟨e,_⟩ | ⟨o,n,e,_⟩) | ⟨ws,ks,e,_⟩ | ⟨os,e,_,_,_,h⟩
      · exact absurd (by rw [e]; rfl) h0
      · rw [hD] at e; cases e
      · rw [hD] at e; cases e
      · rw [e]; exact h
    obtain ⟨g1,us,g2,g3⟩ := ldO_kN hl
    have g4 := wok_lcs g2
    rw [ea,eb] at g4
    refine ⟨g1,?_⟩
    have nk : ∀ os : List OP,kN (os.map nOP) = kN os∧(Kp os→Kp (os.map nOP)) := fun os => by
      constructor
      · induction os with
        | nil => rfl
        | cons o os ih => rw [List.map_cons,kN,kN,ih]; rfl
      · intro h o ho hk
        obtain ⟨y,hy,rfl⟩ := List.mem_map.1 ho
        exact h y hy hk
    have hraw : kN (lstO (oneE most 999) most (norm a) (norm b)) = (lcsL (caL a) (cbL a b) : Nat) := by
      unfold lstO
      rw [ea,eb,if_pos hd,kN_opsG _ _ _ _ (fun s hs => (nrm_k (wayU_in _ _) s hs).1),nrm_cK,(wok_way _ _).2]
    have hkp : Kp (lstO (oneE most 999) most (norm a) (norm b)) := fun o ho hk => by
      cases lstO_mem _ _ _ _ o ho with
      | keep n h => show (0 : Int)≤(n : Nat); omega
      | del l h g k => cases hk
      | ins l h g k => cases hk
      | desc x y hx hy => cases hk
    have hlen := lstO_len (oneE most 999) most (norm a) (norm b)
    have hlc := lcs_len (caL a) (cbL a b)
    have cl := caL_len a
    rw [← ea,caL_len] at cl
    have cl2 : (caL a).length = (norm a).kids.length := by rw [← ea,caL_len]
    have := kN_W a.kind ((lstO (oneE most 999) most (norm a) (norm b)).map nOP) [] [] [] ((nk _).2 hkp) (fun o ho => by simp at ho) (by
      rw [(nk _).1,hraw,List.length_map,show kN [] = 0 from rfl]
      omega)
    rw [(nk _).1,hraw,show kN [] = 0 from rfl,← hops] at this
    omega
section
variable {n0 : Nat} {w0 : World} {I0 : Nat→Prop} {Q : Exit→Sta→Prop}
theorem dk_l1 {D : E} {N : Int} (hlen : D.ops.length≤1000000000000) (hkp : Kp D.ops) (hkn : kN D.ops≤1000000) {H : Hp} (hH : H [2] = ⟨1,.cells (eL D)⟩) (hq : ∀ st,Q (.exit 0) ⟨lk ([(11,iv N),(12,.pob [2] 1 0),(13,iv (kN D.ops))] ++ st),H⟩) : ∀ (m i : Nat),i + m = D.ops.length →
    LoopC (cx Try.prog w0 I0 n0) l1_centolaw26_DiffKeeps Q ⟨lk [(11,iv N),(12,.pob [2] 1 0),(13,iv (kN (D.ops.take i))),(14,iv i)],H⟩ := by
  intro m
  induction m with
  | zero =>
    intro i hm
    have : i = D.ops.length := by omega
    subst this
    rw [List.take_of_length_le (Nat.le_refl _)]
    refine loopC_once mixed l1_centolaw26_DiffKeeps.eq_1 ?_
    simp [hH]
    have := hq [(14,iv D.ops.length),(82,bv false)]
    simpa using this
  | succ m ih =>
    intro i hm
    have hlt : i < D.ops.length := by omega
    have ew : IntKind.i64.wrap ((i : Int) + 1) = ((i + 1 : Nat) : Int) := by rw [i64_same (by omega) (by omega)]; omega
    have next := ih (i + 1) (by omega)
    have htk : D.ops.take (i + 1) = D.ops.take i ++ [D.ops[i]] := List.take_succ_eq_append_getElem hlt
    have b1 := kN_take hkp i
    have b2 := kN_take hkp (i + 1)
    rw [htk,kN_app] at next b2
    refine loopC_once mixed l1_centolaw26_DiffKeeps.eq_1 ?_
    by_cases h : D.ops[i].kind = 0
    · have e1 : kN [D.ops[i]] = D.ops[i].n := by simp [kN,h]
      rw [e1] at next b2
      have e2 : IntKind.i64.wrap (kN (D.ops.take i) + D.ops[i].n) = kN (D.ops.take i) + D.ops[i].n := i64_same (by omega) (by omega)
      simp [hH,hlt,h,ew,e2]
      simpa using next
    · have e1 : kN [D.ops[i]] = 0 := by simp [kN,h]
      rw [e1] at next
      simp [hH,hlt,h,ew]
      simpa using next
end
theorem DiffKeeps_spec {a b : T} (ha : wfT a) (hb : wfT b) {most : Int} (hm : i64R most) : G.Spec Try.prog 6 [tX a,tX b,iv most] (bv true) := by
  refine spec_of t_centolaw26_DiffKeeps (by simp) fun w0 I0 => ?_
  unfold c_centolaw26_DiffKeeps
  simp
  refine sc_call (good26_spec ha) (by simp) ?_
  cases h1 : good26 a with
  | false =>
    simp
    refine sc_call_off rfl ?_
    simp
    refine sc_call awake26_spec (by simp) ?_
    simp
    exact frz_bare rfl
  | true =>
    simp
    refine sc_call_gf rfl (fun _ => good26_spec hb) (fun _ => by simp) (by simp) ?_
    cases h2 : good26 b with
    | false =>
      simp
      refine sc_call awake26_spec (by simp) ?_
      simp
      exact frz_bare rfl
    | true =>
      have pa := good26_parts h1
      have pb := good26_parts h2
      by_cases k1 : a.kind = b.kind
      · by_cases k2 : 2≤b.kind
        · by_cases k3 : b.kind≤9
          · have k2' : ¬ b.kind < 2 := by omega
            have k3' : ¬ 9 < b.kind := by omega
            obtain ⟨ka,wa,la⟩ := a
            have k1 : ka = b.kind := k1
            subst k1
            have hka := (wfT_iff.1 ha).ks
            have hkb := (wfT_iff.1 hb).ks
            have pla := partsL_pos la
            have pa1 := pa.1
            rw [partsT_mk] at pa1
            have hla : la.length≤400 := by omega
            have hlb : b.kids.length≤400 := by
              have pb1 := pb.1
              have := partsL_pos b.kids
              rw [T.eta b,partsT_mk] at pb1
              omega
            have C1 := rClasses_spec (ks := []) (ts := la) (by simp) hka (by simp; omega) 1
            have hl1 := clsL_len la []
            simp at hl1
            have C2 := rClasses_spec (ks := (clsL [] la).1) (ts := b.kids) (clsL_wf (l := la) (by simp) hka) hkb (by omega) (clsLU 1 [] la)
            have T1 := pTrees_spec ha hb (by omega) (by omega) hm
            have K := fun h0 hd => df_keeps ha hb (by omega) (by omega) pa.2.1 pb.2.1 (most := most) rfl k2 k3 h0 hd
            have e1 := caL_len (T.mk b.kind wa la)
            have e2 := cbL_len (T.mk b.kind wa la) b
            have z1 : (caL (T.mk b.kind wa la)).map iv = (clsL [] la).2.map nv := zsN_nv _
            have z2 : (cbL (T.mk b.kind wa la) b).map iv = (clsL (clsL [] la).1 b.kids).2.map nv := zsN_nv _
            have l1 := clsL_length la []
            have l2 := clsL_length b.kids (clsL [] la).1
            have hC := common_spec (a := caL (T.mk b.kind wa la)) (b := cbL (T.mk b.kind wa la) b) (by rw [e1]; show la.length≤_; omega) (by omega)
            have hc := lcs_len (caL (T.mk b.kind wa la)) (cbL (T.mk b.kind wa la) b)
            have wf := wf_df ha hb (by omega) (by omega) (most := most)
            simp only [ivs,z1,z2] at hC
            have hdist : (distL (caL (T.mk b.kind wa la)) (cbL (T.mk b.kind wa la) b) : Int) = (la.length : Int) + b.kids.length - 2 * (lcsL (caL (T.mk b.kind wa la)) (cbL (T.mk b.kind wa la) b) : Nat) := by
              unfold distL
              have e1' : (caL (T.mk b.kind wa la)).length = la.length := e1
              omega
            have e1' : (caL (T.mk b.kind wa la)).length = la.length := e1
            rw [hdist] at K
            clear hdist z1 z2 e1
            generalize dfE most (T.mk b.kind wa la) b = D at *
            generalize lcsL (caL (T.mk b.kind wa la)) (cbL (T.mk b.kind wa la) b) = N at *
            rw [e1',e2] at hc
            generalize (clsL [] la).2 = X at *
            generalize (clsL (clsL [] la).1 b.kids).2 = Y at *
            have w1 : IntKind.i64.wrap ((la.length : Int) + b.kids.length) = (la.length : Int) + b.kids.length := i64_same (by omega) (by omega)
            have w2 : IntKind.i64.wrap (2 * (N : Int)) = 2 * (N : Int) := i64_same (by omega) (by omega)
            have w3 : IntKind.i64.wrap ((la.length : Int) + b.kids.length - 2 * (N : Int)) = (la.length : Int) + b.kids.length - 2 * (N : Int) := i64_same (by omega) (by omega)
            simp [k2',k3']
            refine stop_le (le_blank 7 [5] 3 (by simp)) (stop_go ?_)
            simp
            refine sc_famN 5 6 (by decide) C1 (fun p => ?_) (fun p => by simp) (by simp) (by simp) ?_
            · by_cases hp : p = []
              · subst hp; simp
              · simp [hp,Ne.symm hp]
            simp
            refine sc_famN 5 7 (by decide) C2 (fun p => by simp) (fun p => by simp) (by simp) (by simp) ?_
            simp
            refine sc_callb [.sl false (X.map nv),.sl false (Y.map nv)] (hC.toB rfl) (by
              simp
              exact ⟨frz_nv (by simp) l1.symm,frz_nv (by simp) l2.symm⟩) (by simp) ?_
            simp
            refine sc_call T1 (by simp) ?_
            by_cases hd : (la.length : Int) + b.kids.length - 2 * (N : Int)≤most
            · have hd' : ¬ most < (la.length : Int) + b.kids.length - 2 * (N : Int) := by omega
              by_cases h0 : D.kind = 0
              · simp [w1,w2,w3,hd',h0]
                refine sc_call awake26_spec (by simp) ?_
                simp
                exact frz_bare rfl
              · obtain ⟨g1,g2⟩ := K h0 hd
                simp [w1,w2,w3,hd',h0]
                have W := wfE_iff.1 wf
                refine LoopC.le (le_list [(11,iv N),(12,.pob [2] 1 0),(13,iv (kN (D.ops.take 0))),(14,iv (0 : Nat))] (by simp [kN])) ?_
                refine dk_l1 (D := D) (by have := W.ol; omega) g1 (by rw [g2]; omega) (by simp) (fun st => ?_) D.ops.length 0 (by omega)
                simp [g2]
                refine sc_call_gt rfl (fun _ => awake26_spec) (fun _ => rfl) rfl ?_
                simp
                exact frz_bare rfl
            · have hd' : most < (la.length : Int) + b.kids.length - 2 * (N : Int) := by omega
              simp [w1,w2,w3,hd']
              refine sc_call awake26_spec (by simp) ?_
              simp
              exact frz_bare rfl
          · have k3' : 9 < b.kind := by omega
            simp [k1,k2,k3']
            refine sc_call awake26_spec (by simp) ?_
            simp
            exact frz_bare rfl
        · have k2' : b.kind < 2 := by omega
          simp [k1,k2']
          refine sc_call awake26_spec (by simp) ?_
          simp
          exact frz_bare rfl
      · simp [k1]
        refine sc_call awake26_spec (by simp) ?_
        simp
        exact frz_bare rfl
end Go.Proofs.Ytmeldaflhkiopaa

namespace Go.Proofs.Ytmeldaflhkiopaa
set_option linter.unusedVariables false
set_option linter.unusedSimpArgs false
open Go Go.G Go.Proofs Go.PL Go.RowKit
theorem lit_i64 {m : Int} (h : (Lit.int .i64 m).wf = true) : i64R m := by
  simp [Lit.wf,IntKind.min,IntKind.max,IntKind.bits,IntKind.signed] at h
  unfold i64R; omega
theorem lit_u64 {m : Int} (h : (Lit.int .u64 m).wf = true) : u64R m := by
  simp [Lit.wf,IntKind.min,IntKind.max,IntKind.bits,IntKind.signed] at h
  unfold u64R; omega
theorem und_int' : Try.prog.underlying 3 = some (.int .i64) := by kernel_rfl
theorem und_u64' : Try.prog.underlying 68 = some (.int .u64) := by kernel_rfl
theorem hasI {n : Nat} {b : List A} (h : Has Try.prog n 3 b) : ∃ m,i64R m∧b = [iv m] := by
  cases n with
  | zero => exact h.elim
  | succ n =>
    unfold Has at h
    rw [und_int'] at h
    obtain ⟨m,hm,rfl⟩ := h
    exact ⟨m,lit_i64 hm,rfl⟩
theorem hasU {n : Nat} {b : List A} (h : Has Try.prog n 68 b) : ∃ m,u64R m∧b = [uv m] := by
  cases n with
  | zero => exact h.elim
  | succ n =>
    unfold Has at h
    rw [und_u64'] at h
    obtain ⟨m,hm,rfl⟩ := h
    exact ⟨m,lit_u64 hm,rfl⟩
theorem rowOf {α : Type} {xs : List A} {g : α→A} {R : α→Prop} (h : ∀ x,x ∈ xs→∃ y,R y∧x.soft = g y) : ∃ l : List α,A.softL xs = l.map g∧l.length = xs.length∧∀ y,y ∈ l→R y := by
  induction xs with
  | nil => exact ⟨[],rfl,rfl,fun y h => nomatch h⟩
  | cons x xs ih =>
    obtain ⟨y,hy,e⟩ := h x (by simp)
    obtain ⟨l,e2,e3,hl⟩ := ih fun z hz => h z (by simp [hz])
    refine ⟨y :: l,by simp [A.softL,e,e2],by simp [e3],fun z hz => ?_⟩
    rcases List.mem_cons.1 hz with rfl | hz
    · exact hy
    · exact hl z hz
theorem hasSl {P : Program} {t e : TypeId} {m : Nat} (u : P.underlying t = some (.slice e)) (hb : P.bytesOf e = m) {n : Nat} {b : List A} (h : Has P n t b) {α : Type} {g : α→A} {R : α→Prop} (hx : ∀ k b,k < n→Has P k e b→∃ y,R y∧(mk P e b).soft = g y) :
    ∃ (f : Bool) (xs : List A) (l : List α),b = [.sl f xs]∧A.softL xs = l.map g∧l.length * m≤140737488355328∧∀ y,y ∈ l→R y := by
  cases n with
  | zero => exact h.elim
  | succ n =>
    unfold Has at h
    rw [u] at h
    obtain ⟨f,xs,rfl,_,hz,hf,hx'⟩ := h
    rw [hb] at hz
    obtain ⟨l,e1,e2,hl⟩ := rowOf (g := g) (R := R) (xs := xs) fun x hxx => by
      obtain ⟨b,hb',rfl⟩ := hx' x hxx
      exact hx n b (by omega) hb'
    exact ⟨f,xs,l,rfl,e1,by rw [e2]; exact Nat.le_trans hz (by decide),hl⟩
theorem mk_int (b : List A) : mk Try.prog 3 b = b.headD .any := by unfold mk; rw [und_int']
theorem mk_u64 (b : List A) : mk Try.prog 68 b = b.headD .any := by unfold mk; rw [und_u64']
theorem hasWs {n : Nat} {b : List A} (h : Has Try.prog n 33 b) : ∃ (f : Bool) (xs : List A) (l : List Int),b = [.sl f xs]∧A.softL xs = l.map uv∧l.length * 8≤140737488355328∧∀ y,y ∈ l→u64R y :=
  hasSl (e := 68) (by kernel_rfl) (by kernel_rfl) h fun k b _ hb => by
    obtain ⟨m,h1,rfl⟩ := hasU hb
    exact ⟨m,h1,by rw [mk_u64]; rfl⟩
theorem und_tree : Try.prog.underlying 36 = some (.struct (Try.prog.fieldsOf 36)) := by kernel_rfl
theorem fld_tree : (Try.prog.fieldsOf 36).toList.map Field.type = [3,33,34] := by kernel_rfl
theorem mk_tree (b : List A) : mk Try.prog 36 b = .agg b := by unfold mk; rw [und_tree]
theorem hasTree : ∀ (n : Nat) (b : List A),Has Try.prog n 36 b→∃ t,wfT t∧A.softL b = [iv t.kind,uws t.words,tKs t.kids] := by
  intro n
  induction n using Nat.strongRecOn with
  | ind n ih =>
    intro b h
    cases n with
    | zero => exact h.elim
    | succ n =>
      unfold Has at h
      rw [und_tree] at h
      simp only at h
      rw [hasL_types,fld_tree] at h
      obtain ⟨_,_,rfl,h1,_,_,rfl,h2,_,_,rfl,h3,rfl⟩ := h
      obtain ⟨k,hk,rfl⟩ := hasI h1
      obtain ⟨f,xs,w,rfl,e2,l2,r2⟩ := hasWs h2
      obtain ⟨f3,ys,l,rfl,e3,l3,r3⟩ := hasSl (m := 56) (e := 36) (g := tA) (R := wfT) (by kernel_rfl) (by kernel_rfl) h3 fun j b hj hb => by
        obtain ⟨t,ht,e⟩ := ih j (by omega) b hb
        exact ⟨t,ht,by rw [mk_tree]; simp only [A.soft,e]; rw [tA_eq]⟩
      refine ⟨.mk k w l,wfT_iff.2 ⟨hk,r2,l2,l3,r3⟩,?_⟩
      simp only [List.cons_append,List.nil_append,List.append_nil,A.softL,A.soft,e2,e3]
      rfl
end Go.Proofs.Ytmeldaflhkiopaa

namespace Go.Proofs.Ytmeldaflhkiopaa
set_option linter.unusedVariables false
set_option linter.unusedSimpArgs false
open Go Go.G Go.Proofs Go.PL Go.RowKit
set_option maxRecDepth 100000 in
theorem said_diffKeeps (xs : List A) (h : ArgsHas Try.prog Try.f6.params.toList xs) : G.Spec Try.prog 6 xs (.v (.bool true)) := by
  have h : ArgsHas Try.prog [36,36,3] xs := h
  match xs,h with
  | [a,a2,a3],⟨⟨n,b,h1,h2⟩,⟨n2,b2,h12,h22⟩,⟨n3,b3,h13,h23⟩,_⟩ =>
    obtain ⟨t,ht,et⟩ := hasTree _ _ h1
    obtain ⟨t2,ht2,et2⟩ := hasTree _ _ h12
    obtain ⟨m,hm,rfl⟩ := hasI h13
    rw [h2,mk_tree,h22,mk_tree,h23,mk_int]
    exact (DiffKeeps_spec ht ht2 hm).soft (by simp only [A.softL,A.soft,et,et2]; rfl)
end Go.Proofs.Ytmeldaflhkiopaa

namespace Go.G
set_option linter.unusedVariables false
set_option linter.unusedSimpArgs false
open Go.RowKit Go.ChangeShapes Go.WideShapes
section
variable {H : Type} {enc : TypeId × Value→H} {P : Program}
def rowsRead (P : Program) (ts : List TypeId) : Bool := ts.all fun t => P.readableRec t && decide (t < P.types.size)
theorem trodAll_below (hl : laidOutB P = true) {W W' : World} (hb : Below W.heap.size W W') (sp : Nat→Bool) : ∀ {ts : List TypeId} {vs : List Value} {ds : List (DataW H)} {ps : List MemPlace},rowsRead P ts = true →
    DataW.TrodAll enc P W 0 (fun _ => true) true ts vs ds ps→(∀ x ∈ ps,x.block < W.heap.size)→(∀ x ∈ ps,sp x.block = true)→DataW.TrodAll enc P W' 0 sp true ts vs ds ps
  | [],_,_,_,_,h,_,_ => by
    obtain ⟨rfl,rfl,rfl⟩ := trodAll_nil h
    exact trodAll_mk0
  | t :: ts,_,_,_,hr,h,hlt,hsp => by
    obtain ⟨v,vs,d,ds,p,q,rfl,rfl,rfl,h1,h2⟩ := trodAll_cons h
    simp only [rowsRead,List.all_cons,Bool.and_eq_true,decide_eq_true_eq] at hr
    exact ⟨p,q,WideElems.Trod_stays hl hr.1.1 hr.1.2 h1 (fun x hx => hb.same (hlt x (by simp [hx]))) (fun x hx => hsp x (by simp [hx])),
      trodAll_below hl hb sp (by simpa [rowsRead] using hr.2) h2 (fun x hx => hlt x (by simp [hx])) (fun x hx => hsp x (by simp [hx])),rfl⟩
theorem trodAll_length {w : World} {base : Nat} {spare : Nat→Bool} {held : Bool} : ∀ {ts : List TypeId} {vs : List Value} {ds : List (DataW H)} {ps : List MemPlace},DataW.TrodAll enc P w base spare held ts vs ds ps→ds.length = ts.length∧vs.length = ts.length
  | [],_,_,_,h => by
    obtain ⟨rfl,rfl,rfl⟩ := trodAll_nil h
    exact ⟨rfl,rfl⟩
  | t :: ts,_,_,_,h => by
    obtain ⟨v,vs,d,ds,p,q,rfl,rfl,rfl,h1,h2⟩ := trodAll_cons h
    have := trodAll_length h2
    simp [this]
theorem post_law {f : Func} {s : ChangeSpec} {apart fresh handsOn again : Bool} {W W' : World} {args : Array Value} {ds gs : List (DataW H)} {before : List MemPlace} {t : TypeId}
    (hl : laidOutB P = true) (hp : rowsRead P f.params.toList = true) (hsv : s.vars = []) (hW : DataW.Whole enc P f.params.toList s.vars apart W args.toList ds gs before) (hB : Below W.heap.size W W')
    (hrt : f.resultTypes = #[t]) (ht : P.underlying t = some .bool) (hfn : ∀ ds' : List (DataW H),ds'.length = f.params.size→s.fn H ds' = { results := [.lit (.bool true)],args := ds' }) :
    s.post enc P f apart fresh handsOn again W args (.bool true) W' := by
  have hlt := hW.lt
  have hW' := hW
  obtain ⟨p,q,hA,hV,rfl,hz,hn⟩ := hW'
  rw [hsv] at hV
  obtain ⟨rfl,rfl⟩ := trodVars_none hV
  have hfn := hfn ds (by have := (trodAll_length hA).1; simpa using this)
  simp only [List.append_nil] at hlt hz hn
  have hA' := fun sp => trodAll_below hl hB sp hp hA hlt
  have hr : ∀ (b : Nat) (sp : Nat→Bool) (hd : Bool),DataW.TrodAll enc P W' b sp hd f.resultTypes.toList ((Value.bool true).resultList f.resultTypes.size) [.lit (.bool true)] [] := fun b sp hd => by
    rw [hrt]
    exact trodAll_cons_mk (shut_bool ht _) trodAll_mk0
  refine ⟨ds,[],p ++ [],[],p,[],hW,?_,?_,?_,Below.frame hB _,fun _ => ?_⟩
  · simp only [List.append_nil,hfn]; exact hr _ _ _
  · simp only [List.append_nil,hfn]; exact hA' _ (fun x hx => by simpa using hlt x hx)
  · simp only [List.append_nil,hfn,hsv]; exact rfl
  · refine ⟨ok_one hrt rfl (okWide_bool_mk ht _),_,[],([] ++ p) ++ [],⟨[] ++ p,[],trodAll_append (hA' (fun _ => true) (fun _ _ => rfl)) (hr _ _ _),by rw [hsv]; rfl,rfl,?_,?_⟩,?_⟩
    · intro b off hx
      have hx : MemPlace.cell b off ∈ p := by simpa using hx
      rw [Below.frozen hB (hlt _ hx)]
      exact hz b off hx
    · intro ha
      have := hn ha
      simpa using this
    · intro x hx _
      simpa using hx
theorem law_calls {f : Func} {fid : FuncId} {s : ChangeSpec} {apart fresh handsOn again : Bool} {W : World} {base : Nat} {args : Array Value} {ds gs : List (DataW H)} {before : List MemPlace} {t : TypeId} (S : List TypeId)
    (hl : laidOutB P = true) (hp : rowsRead P f.params.toList = true) (hS : plainT P S = true) (hts : f.params.toList.all S.contains = true) (hsv : s.vars = []) (hrt : f.resultTypes = #[t]) (ht : P.underlying t = some .bool)
    (hfn : ∀ ds' : List (DataW H),ds'.length = f.params.size→s.fn H ds' = { results := [.lit (.bool true)],args := ds' })
    (hspec : ∀ as',ArgsHas P f.params.toList as'→Spec P fid as' (.v (.bool true))) (htb : Tabs P W (Old W))
    (hval : ∀ (j : Nat) t v,f.params[j]? = some t→args[j]? = some v→Value.okWide P W .any base t v) (hW : DataW.Whole enc P f.params.toList s.vars apart W args.toList ds gs before)
    (hwt : (DataW.weightsEach P (f.params.toList ++ s.plain.varTypes P) (ds ++ gs)).all (·≤reachBytes) = true) :
    Calls P fid args W fun e W' => ∃ v,e = .returned v∧s.post enc P f apart fresh handsOn again W args v W' := by
  have hW' := hW
  obtain ⟨p,q,hA,hV,rfl,hz,hn⟩ := hW
  have hV' := hV
  rw [hsv] at hV'
  obtain ⟨rfl,_⟩ := trodVars_none hV'
  have hwt' : ∀ m,m ∈ DataW.weightsEach P f.params.toList ds→m≤reachBytes := by
    have e : s.plain.varTypes P = [] := by simp [ChangeSpec.plain,DataSpec.varTypes,hsv]
    rw [e,List.append_nil,List.append_nil,List.all_eq_true] at hwt
    exact fun m hm => by simpa using hwt m hm
  obtain ⟨as',h1,h2,h3⟩ := args_of_trod hS (fun t ht => by rw [List.all_eq_true] at hts; simpa using hts t ht) hwt' hA (fun j u v hj hv => hval j u v (by simpa using hj) (by simpa using hv))
  refine ((hspec as' h2).2 W (Old W) args (fun _ h => h) htb (by simpa using h1.symm) (fun k y hk => ?_)).mono fun e W' ⟨v,he,hB,hr⟩ => ?_
  · have := h3 k y hk
    simpa [List.getD,Array.getD_eq_getD_getElem?] using this
  · cases hr
    exact ⟨_,he,post_law hl hp hsv hW' hB hrt ht hfn⟩
end
end Go.G
