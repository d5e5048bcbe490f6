/-
  Texts, merged, without what is not reached.
-/
import Derived.Test.YthfiijdbnkaabaaGreatKYb
namespace Go.PL
set_option linter.unusedVariables false
set_option linter.unusedSimpArgs false
inductive T where
  | mk (kind : Int) (words : List Int) (kids : List T)
  deriving Inhabited
namespace T
def kind : T→Int | mk k _ _ => k
def words : T→List Int | mk _ w _ => w
def kids : T→List T | mk _ _ l => l
@[simp] theorem kind_mk {k : Int} {w : List Int} {l : List T} : (mk k w l).kind = k := rfl
@[simp] theorem words_mk {k : Int} {w : List Int} {l : List T} : (mk k w l).words = w := rfl
@[simp] theorem kids_mk {k : Int} {w : List Int} {l : List T} : (mk k w l).kids = l := rfl
end T
theorem snocInd {α : Type} {P : List α→Prop} (h0 : P []) (h1 : ∀ l x,P l→P (l ++ [x])) (l : List α) : P l := by
  have : ∀ m : List α,P m.reverse := by
    intro m
    induction m with
    | nil => exact h0
    | cons x m ih => rw [List.reverse_cons]; exact h1 _ _ ih
  have h := this l.reverse
  rwa [List.reverse_reverse] at h
abbrev T0 : T := .mk 0 [] []
theorem T.eta (t : T) : t = .mk t.kind t.words t.kids := by cases t; rfl
mutual
theorem T.ind {P : T→Prop} (h : ∀ k w l,(∀ t,t ∈ l→P t)→P (.mk k w l)) : ∀ t,P t
  | .mk k w l => h k w l (T.indL h l)
theorem T.indL {P : T→Prop} (h : ∀ k w l,(∀ t,t ∈ l→P t)→P (.mk k w l)) : ∀ (l : List T),∀ t,t ∈ l→P t
  | [],t,ht => nomatch ht
  | x :: l,t,ht => by
    rcases List.mem_cons.1 ht with e | ht
    · rw [e]; exact T.ind h x
    · exact T.indL h l t ht
end
def trimW (l : List Int) : List Int := (l.reverse.dropWhile (fun x => x == 0)).reverse
def trimK (l : List T) : List T := (l.reverse.dropWhile (fun x => x.kind == 0)).reverse
mutual
def norm : T→T
  | .mk k w l => if k = 0 then T0 else if k = 1 then .mk 1 (trimW w) (trimK (normL l)) else .mk k w (normL l)
def normL : List T→List T
  | [] => []
  | t :: l => norm t :: normL l
end
@[simp] theorem normL_map : ∀ l,normL l = l.map norm
  | [] => by simp [normL]
  | t :: l => by simp [normL,normL_map l]
theorem norm_mk (k : Int) (w : List Int) (l : List T) : norm (.mk k w l) = if k = 0 then T0 else if k = 1 then .mk 1 (trimW w) (trimK (l.map norm)) else .mk k w (l.map norm) := by simp [norm]
@[simp] theorem norm_kind (t : T) : (norm t).kind = t.kind := by
  cases t; rw [norm_mk]; split
  · rename_i h; rw [h]; rfl
  · split
    · rename_i h; rw [h]; rfl
    · rfl
@[simp] theorem trimW_nil : trimW [] = [] := rfl
@[simp] theorem trimK_nil : trimK [] = [] := rfl
theorem trimW_snoc (l : List Int) (x : Int) : trimW (l ++ [x]) = if x = 0 then trimW l else l ++ [x] := by
  unfold trimW; simp [List.dropWhile_cons]; split <;> simp
theorem trimK_snoc (l : List T) (x : T) : trimK (l ++ [x]) = if x.kind = 0 then trimK l else l ++ [x] := by
  unfold trimK
  by_cases h : x.kind = 0 <;> simp [List.dropWhile_cons,h]
theorem trimW_le (l : List Int) : (trimW l).length≤l.length := by
  unfold trimW; simp; have := (List.dropWhile_sublist (fun x : Int => x == 0) (l := l.reverse)).length_le; simpa using this
theorem trimK_le (l : List T) : (trimK l).length≤l.length := by
  unfold trimK; simp; have := (List.dropWhile_sublist (fun x : T => x.kind == 0) (l := l.reverse)).length_le; simpa using this
theorem trimW_take (l : List Int) : trimW l = l.take (trimW l).length := by
  induction l using snocInd with
  | h0 => rfl
  | h1 l x ih =>
    rw [trimW_snoc]
    split
    · rw [List.take_append_of_le_length (trimW_le l)]; exact ih
    · rw [List.take_of_length_le (Nat.le_refl _)]
theorem trimK_take (l : List T) : trimK l = l.take (trimK l).length := by
  induction l using snocInd with
  | h0 => rfl
  | h1 l x ih =>
    rw [trimK_snoc]
    split
    · rw [List.take_append_of_le_length (trimK_le l)]; exact ih
    · rw [List.take_of_length_le (Nat.le_refl _)]
def bitsZ (c : Int) : Int := if c = 1 then 1 else if c = 2 then 8 else if c = 3 then 16 else if c = 4 then 32 else if c = 5 then 64 else 0
def roomZ (c n : Int) : Int := if n < 0∨n > 1099511627776 then 0 else (n * bitsZ c + 63) / 64
def frameW : List T→Nat
  | [] => 0
  | t :: l => max t.words.length (frameW l)
def frameK : List T→Nat
  | [] => 0
  | t :: l => max t.kids.length (frameK l)
mutual
def sizeT : T→Int
  | .mk k w l => if k = 1 then w.length + l.length + sizeL l else if k = 8 then l.length + sizeL l else if 2≤k∧k≤7 then roomZ (k - 2) l.length
    else if k = 9 then 1 + l.length * (frameW l + frameK l) + sizeLL l else sizeL l
def sizeK : T→Int
  | .mk _ _ l => sizeL l
def sizeL : List T→Int
  | [] => 0
  | t :: l => sizeT t + sizeL l
def sizeLL : List T→Int
  | [] => 0
  | t :: l => sizeK t + sizeLL l
end
theorem sizeT_mk (k : Int) (w : List Int) (l : List T) : sizeT (.mk k w l) = if k = 1 then w.length + l.length + sizeL l else if k = 8 then l.length + sizeL l else if 2≤k∧k≤7 then roomZ (k - 2) l.length
    else if k = 9 then 1 + l.length * (frameW l + frameK l) + sizeLL l else sizeL l := by rw [sizeT]
@[simp] theorem sizeK_eq (t : T) : sizeK t = sizeL t.kids := by cases t; rw [sizeK]; rfl
@[simp] theorem sizeL_nil : sizeL [] = 0 := by rw [sizeL]
@[simp] theorem sizeL_cons (t : T) (l : List T) : sizeL (t :: l) = sizeT t + sizeL l := by rw [sizeL]
@[simp] theorem sizeLL_nil : sizeLL [] = 0 := by rw [sizeLL]
@[simp] theorem sizeLL_cons (t : T) (l : List T) : sizeLL (t :: l) = sizeL t.kids + sizeLL l := by rw [sizeLL,sizeK_eq]
@[simp] theorem sizeL_append (l m : List T) : sizeL (l ++ m) = sizeL l + sizeL m := by
  induction l with
  | nil => simp
  | cons t l ih => simp [ih]; omega
@[simp] theorem sizeT_zero (w : List Int) : sizeT (.mk 0 w []) = 0 := by rw [sizeT_mk]; simp
mutual
def sizeP : T→Int
  | .mk k w l => if k = 1 then w.length + l.length + sizePL l else if k = 8 then l.length + sizePL l else if 2≤k∧k≤7 then roomZ (k - 2) l.length
    else if k = 9 then 1 + l.length * (frameW l + frameK l) + sizePC l else sizePL l
def sizePL : List T→Int
  | [] => 0
  | t :: l => sizeP t + sizePL l
def sizePC : List T→Int
  | [] => 0
  | t :: l => (sizeP t - t.words.length - t.kids.length) + sizePC l
end
theorem sizeP_mk (k : Int) (w : List Int) (l : List T) : sizeP (.mk k w l) = if k = 1 then w.length + l.length + sizePL l else if k = 8 then l.length + sizePL l else if 2≤k∧k≤7 then roomZ (k - 2) l.length
    else if k = 9 then 1 + l.length * (frameW l + frameK l) + sizePC l else sizePL l := by rw [sizeP]
@[simp] theorem sizePL_nil : sizePL [] = 0 := by rw [sizePL]
@[simp] theorem sizePL_cons (t : T) (l : List T) : sizePL (t :: l) = sizeP t + sizePL l := by rw [sizePL]
@[simp] theorem sizePC_nil : sizePC [] = 0 := by rw [sizePC]
@[simp] theorem sizePC_cons (t : T) (l : List T) : sizePC (t :: l) = (sizeP t - t.words.length - t.kids.length) + sizePC l := by rw [sizePC]
def widthZ (c : Int) : Int := if c = 0 then 0 else if c = 1 then 1 else if c = 2 then 8 else if c = 3 then 16 else if c = 4 then 32 else if c = 5 then 64 else -1
def fitsZ (c n : Int) : Bool := decide (0≤widthZ c) && decide (n / 2 ^ (widthZ c).toNat = 0)
def isData (k : Int) : Bool := decide (2≤k) && decide (k≤7)
def kidOk (k : Int) (c : T) : Bool := !(isData k != decide (c.kind = 10) || decide (k = 9) && !decide (c.kind = 1) || isData k && !fitsZ (k - 2) (c.words.headD 0))
def tooBig (k : Int) (d nw nl : Nat) : Bool := decide (k < 0) || decide (k > 10) || decide (d = 0) || decide (nw ≥ 65536) || decide (k = 1) && decide (nl ≥ 65536) || decide (nl ≥ 1048576) || decide (k > 1) && decide (nw > 0)
mutual
def rightT : Nat→T→Bool
  | d,.mk k w l => if k = 0 then w.isEmpty && l.isEmpty else if k = 10 then decide (w.length = 1) && l.isEmpty
    else if tooBig k d w.length l.length = true then false else rightL (d - 1) k l
def rightL : Nat→Int→List T→Bool
  | _,_,[] => true
  | d,k,t :: l => rightT d t && kidOk k t && rightL d k l
end
theorem rightT_mk (d : Nat) (k : Int) (w : List Int) (l : List T) : rightT d (.mk k w l) = if k = 0 then w.isEmpty && l.isEmpty else if k = 10 then decide (w.length = 1) && l.isEmpty
    else if tooBig k d w.length l.length = true then false else rightL (d - 1) k l := by rw [rightT]
@[simp] theorem rightL_nil (d : Nat) (k : Int) : rightL d k [] = true := by rw [rightL]
@[simp] theorem rightL_cons (d : Nat) (k : Int) (t : T) (l : List T) : rightL d k (t :: l) = (rightT d t && kidOk k t && rightL d k l) := by rw [rightL]
theorem rightL_all {d : Nat} {k : Int} : ∀ {l : List T},rightL d k l = true ↔ ∀ t,t ∈ l→rightT d t = true∧kidOk k t = true
  | [] => by simp
  | t :: l => by simp [rightL_all (l := l),and_assoc]
theorem kidOk_9 {c : T} (h : kidOk 9 c = true) : c.kind = 1 := by
  simp [kidOk,isData] at h
  exact h.2
theorem rightT_struct {d : Nat} {k : Int} {w : List Int} {l : List T} (h : rightT d (.mk k w l) = true) : ∀ t,t ∈ l→rightT (d - 1) t = true∧kidOk k t = true := by
  rw [rightT_mk] at h
  split at h
  · simp at h; intro t ht; rw [h.2] at ht; cases ht
  · split at h
    · simp at h; intro t ht; rw [h.2] at ht; cases ht
    · split at h
      · cases h
      · exact rightL_all.1 h
theorem norm_struct {t : T} (h : t.kind = 1) : norm t = .mk 1 (trimW t.words) (trimK (t.kids.map norm)) := by
  cases t; simp at h; subst h; rw [norm_mk]; simp
theorem sizePL_eq {l : List T} (h : ∀ t,t ∈ l→sizeP t = sizeT t) : sizePL l = sizeL l := by
  induction l with
  | nil => simp
  | cons t l ih => simp [h t (by simp),ih fun u hu => h u (by simp [hu])]
theorem size_norm : ∀ (t : T) (d : Nat),rightT d t = true→sizeP (norm t) = sizeT (norm t) := by
  refine T.ind fun k w l ih d h => ?_
  have hk := rightT_struct h
  have ihl : ∀ t,t ∈ l.map norm→sizeP t = sizeT t := fun t ht => by
    obtain ⟨u,hu,rfl⟩ := List.mem_map.1 ht
    exact ih u hu _ (hk u hu).1
  rw [norm_mk]
  split
  · rfl
  · split
    · rw [sizeP_mk,sizeT_mk]; simp
      refine sizePL_eq fun t ht => ihl t ?_
      rw [trimK_take] at ht
      exact List.mem_of_mem_take ht
    · rw [sizeP_mk,sizeT_mk]
      rw [sizePL_eq ihl]
      have e9 : k = 9→sizePC (l.map norm) = sizeLL (l.map norm) := fun e => by
        subst e
        have : ∀ (m : List T),(∀ t,t ∈ m→sizeP t = sizeT t∧t.kind = 1)→sizePC m = sizeLL m := by
          intro m
          induction m with
          | nil => simp
          | cons t m ih =>
            intro hm
            obtain ⟨h1,h2⟩ := hm t (by simp)
            simp [ih fun u hu => hm u (by simp [hu]),h1]
            cases t; simp at h2; subst h2
            rw [sizeT_mk]; simp; omega
        refine this _ fun t ht => ⟨ihl t ht,?_⟩
        obtain ⟨u,hu,rfl⟩ := List.mem_map.1 ht
        rw [norm_kind]
        exact kidOk_9 (hk u hu).2
      by_cases h9 : k = 9
      · simp [e9 h9]
      · simp [h9]
end Go.PL

namespace Go.Proofs.YthfiijdbnkaabaaGreat
set_option linter.unusedVariables false
set_option linter.unusedSimpArgs false
open Go Go.G Go.Proofs Go.PL
structure Rf where
  kind : Int
  s : Int
  at_ : Int
  data : Int
  kids : Int
  count : Int
  n : Int
def Rf.zero : Rf := ⟨0,0,0,0,0,0,0⟩
def nk (r : Rf) : Int := if r.kind = 1 then r.kids else r.count
def compP (l : List (List Int)) (s a m : Int) : Rf × Int :=
  if ((word l s a).getD 0 ≠ 0∧(dec ((word l s a).getD 0)).kind ≠ 1)∨(dec ((word l s a).getD 0)).off < 0∨m < (dec ((word l s a).getD 0)).off * ((dec ((word l s a).getD 0)).data + (dec ((word l s a).getD 0)).ptrs) then (Rf.zero,8)
  else (⟨9,s,a + 1,(dec ((word l s a).getD 0)).data,(dec ((word l s a).getD 0)).ptrs,(dec ((word l s a).getD 0)).off,0⟩,0)
def refP (l : List (List Int)) (x : Lc) : Rf × Int :=
  if x.p.kind = 1 then (⟨1,x.s,x.at_,x.p.data,x.p.ptrs,0,0⟩,0)
  else if x.p.code < 7 then (⟨2 + x.p.code,x.s,x.at_,0,0,x.p.count,0⟩,0)
  else compP l x.s x.at_ x.p.count
def atP (l : List (List Int)) (s a : Int) : Rf × Int :=
  if (followP l s a).2 ≠ 0∨(followP l s a).1.p.kind = 0 then (Rf.zero,(followP l s a).2) else refP l (followP l s a).1
def getZ (g : List Int) (c i : Int) : Int :=
  if widthZ c < 1∨i < 0∨1099511627776 < i then 0 else ((g[(i * widthZ c / 64).toNat]?).getD 0) / 2 ^ (i * widthZ c % 64).toNat % 2 ^ (widthZ c).toNat
def atomZ (l : List (List Int)) (r : Rf) (i : Int) : Int := getZ (((seg l r.s).getD []).drop r.at_.toNat) (r.kind - 2) i
def kidP (l : List (List Int)) (r : Rf) (i : Int) : Rf × Int :=
  if i < 0∨nk r≤i then (Rf.zero,0)
  else if r.kind = 1 then atP l r.s (r.at_ + r.data + i)
  else if r.kind = 8 then atP l r.s (r.at_ + i)
  else if r.kind = 9 then (⟨1,r.s,r.at_ + i * (r.data + r.kids),r.data,r.kids,0,0⟩,0)
  else (⟨10,0,0,0,0,0,atomZ l r i⟩,0)
def wordsR (l : List (List Int)) (r : Rf) : List Int := if r.kind = 10 then [r.n] else if r.kind ≠ 1 then [] else part l r.s r.at_ r.data
inductive RfOk (l : List (List Int)) : Rf→Prop
  | zero : RfOk l Rf.zero
  | str (s a d k : Int) : 0≤d→d < 65536→0≤k→k < 65536→hasW l s a (d + k) = true→RfOk l ⟨1,s,a,d,k,0,0⟩
  | dat (c s a n : Int) : 0≤c→c < 6→0≤n→n < 536870912→hasW l s a ((n * bitsOf c + 63) / 64) = true→RfOk l ⟨2 + c,s,a,0,0,n,0⟩
  | ptrs (s a n : Int) : 0≤n→n < 536870912→hasW l s a n = true→RfOk l ⟨8,s,a,0,0,n,0⟩
  | comp (s a d k n : Int) : 0≤d→d < 65536→0≤k→k < 65536→0≤n→n < 536870912→hasW l s a (n * (d + k)) = true→RfOk l ⟨9,s,a,d,k,n,0⟩
  | atom (n : Int) : 0≤n→n < 18446744073709551616→RfOk l ⟨10,0,0,0,0,0,n⟩
structure Shp (p : Pt) : Prop where
  k1 : p.kind = 1→0≤p.data∧p.data < 65536∧0≤p.ptrs∧p.ptrs < 65536
  k2 : p.kind = 2→0≤p.code∧p.code < 8∧0≤p.count∧p.count < 536870912
  k : p.kind = 0∨p.kind = 1∨p.kind = 2∨p.kind = 3∨p.kind = 4
theorem dec_shp {w : Int} (h0 : 0≤w) (h1 : w < 18446744073709551616) : Shp (dec w) := by
  unfold dec
  repeat' split
  all_goals refine ⟨?_,?_,?_⟩
  all_goals simp
  all_goals omega
def Folw (l : List (List Int)) (x : Lc × Int) : Prop := x.2 = 0→x.1.p.kind = 0∨((x.1.p.kind = 1∨x.1.p.kind = 2)∧Shp x.1.p∧hasW l x.1.s x.1.at_ ((wordsP x.1.p).getD 0) = true)
theorem inside_folw {l : List (List Int)} {x : Lc} (h : x.p.kind = 1∨x.p.kind = 2) (hs : Shp x.p) : Folw l (insideP l x) := by
  unfold insideP
  split
  · rename_i hh
    intro _
    exact .inr ⟨h,⟨hs.k1,hs.k2,hs.k⟩,hh⟩
  · intro h; cases h
theorem near_folw {l : List (List Int)} {p : Pt} {s a : Int} (hs : Shp p) : Folw l (nearP l p s a) := by
  unfold nearP
  split
  · exact inside_folw (by assumption) hs
  · split <;> (intro h; cases h)
theorem double_folw {l : List (List Int)} (hw : Wds l) (s a : Int) : Folw l (doubleP l s a) := by
  unfold doubleP
  split
  · rename_i v w h1 h2
    obtain ⟨a1,a2⟩ := word_in hw h2
    have hs := dec_shp a1 a2
    repeat' split
    all_goals first
      | (intro h; cases h; done)
      | skip
    refine inside_folw ?_ hs
    simp only
    omega
  · intro h; cases h
theorem follow_folw {l : List (List Int)} (hw : Wds l) (s a : Int) : Folw l (followP l s a) := by
  unfold followP
  split
  · intro h; cases h
  · rename_i w h1
    obtain ⟨a1,a2⟩ := word_in hw h1
    split
    · intro _; exact .inl rfl
    · split
      · exact near_folw (dec_shp a1 a2)
      · split
        · exact double_folw hw _ _
        · split
          · intro h; cases h
          · rename_i v h2
            obtain ⟨b1,b2⟩ := word_in hw h2
            exact near_folw (dec_shp b1 b2)
theorem wordsP_str {p : Pt} (h : p.kind = 1) : wordsP p = some (p.data + p.ptrs) := by simp [wordsP,h]
theorem wordsP_dat {p : Pt} (h : p.kind = 2) (hs : Shp p) (h6 : p.code < 7) : wordsP p = some ((p.count * bitsOf p.code + 63) / 64) := by
  obtain ⟨a,b,c,d⟩ := hs.k2 h
  rw [wordsP,if_neg (by omega),if_neg (by omega),if_pos (by omega)]
theorem wordsP_comp {p : Pt} (h : p.kind = 2) (h7 : p.code = 7) : wordsP p = some (p.count + 1) := by simp [wordsP,h,h7]
theorem mul_le_of {a b c : Int} (h : a≤b) (hc : 0≤c) : a * c≤b * c := Int.mul_le_mul_of_nonneg_right h hc
theorem hasW_sub {l : List (List Int)} {s a n b m : Int} (h : hasW l s a n = true) (h1 : a≤b) (h2 : 0≤m) (h3 : b + m≤a + n) : hasW l s b m = true := by
  simp only [hasW,decide_eq_true_eq] at h ⊢
  omega
theorem dec_off' {w : Int} (h0 : 0≤w) (h1 : w < 18446744073709551616) : (dec w).off < 536870912 := by
  have := (offs_in w).2.1
  unfold dec
  repeat' split
  all_goals simp
  all_goals omega
theorem comp_ok {l : List (List Int)} (hw : Wds l) {s a m : Int} (h : hasW l s a (m + 1) = true) : RfOk l (compP l s a m).1 := by
  unfold compP
  have h0 : 0≤(word l s a).getD 0∧(word l s a).getD 0 < 18446744073709551616 := by
    cases e : word l s a with
    | none => simp
    | some x => exact word_in hw e
  generalize (word l s a).getD 0 = w at h0
  have hs := dec_shp h0.1 h0.2
  have ho := dec_off h0.1 h0.2
  have ho' := dec_off' h0.1 h0.2
  split
  · exact .zero
  · rename_i hc
    have hk : (dec w).kind = 1∨dec w = Pt.zero := by
      by_cases hw0 : w = 0
      · subst hw0; exact .inr rfl
      · left; omega
    have hd : 0≤(dec w).data∧(dec w).data < 65536∧0≤(dec w).ptrs∧(dec w).ptrs < 65536 := by
      rcases hk with hk | hk
      · exact hs.k1 hk
      · rw [hk]; decide
    refine .comp _ _ _ _ _ hd.1 hd.2.1 hd.2.2.1 hd.2.2.2 (by omega) (by omega) (hasW_sub h (by omega) ?_ (by omega))
    exact Int.mul_nonneg (by omega) (by omega)
theorem ref_ok {l : List (List Int)} (hw : Wds l) {x : Lc} (hk : x.p.kind = 1∨x.p.kind = 2) (hs : Shp x.p) (h : hasW l x.s x.at_ ((wordsP x.p).getD 0) = true) : RfOk l (refP l x).1 := by
  unfold refP
  split
  · rename_i k1
    obtain ⟨a,b,c,d⟩ := hs.k1 k1
    rw [wordsP_str k1] at h
    exact .str _ _ _ _ a b c d h
  · rename_i k1
    have k2 : x.p.kind = 2 := by omega
    obtain ⟨a,b,c,d⟩ := hs.k2 k2
    split
    · rename_i h7
      rw [wordsP_dat k2 hs h7] at h
      by_cases h6 : x.p.code = 6
      · rw [h6] at h ⊢
        refine .ptrs _ _ _ c d (hasW_sub h (Int.le_refl _) c ?_)
        have e : bitsOf 6 = 64 := by decide
        simp only [Option.getD_some,e]
        omega
      · exact .dat _ _ _ _ a (by omega) c d h
    · rw [wordsP_comp k2 (by omega)] at h
      exact comp_ok hw h
theorem at_ok {l : List (List Int)} (hw : Wds l) (s a : Int) : RfOk l (atP l s a).1 := by
  unfold atP
  split
  · exact .zero
  · rename_i h
    rcases follow_folw hw s a (by omega) with h0 | ⟨h1,h2,h3⟩
    · omega
    · exact ref_ok hw h1 h2 h3
theorem getZ_range {g : List Int} {c i : Int} (hg : ∀ x,x ∈ g→0≤x∧x < 18446744073709551616) : 0≤getZ g c i∧getZ g c i < 18446744073709551616 := by
  unfold getZ
  split
  · omega
  · have h0 : 0≤(g[(i * widthZ c / 64).toNat]?).getD 0∧(g[(i * widthZ c / 64).toNat]?).getD 0 < 18446744073709551616 := by
      cases e : g[(i * widthZ c / 64).toNat]? with
      | none => simp
      | some x => exact hg x (List.mem_of_getElem? e)
    generalize (g[(i * widthZ c / 64).toNat]?).getD 0 = x at h0
    have p1 : (0 : Int) < 2 ^ (i * widthZ c % 64).toNat := Int.pow_pos (by omega)
    have p2 : (0 : Int) < 2 ^ (widthZ c).toNat := Int.pow_pos (by omega)
    have d0 : 0≤x / 2 ^ (i * widthZ c % 64).toNat := Int.ediv_nonneg h0.1 (by omega)
    have d1 : x / 2 ^ (i * widthZ c % 64).toNat≤x := Int.ediv_le_self _ h0.1
    have m0 := Int.emod_nonneg (x / 2 ^ (i * widthZ c % 64).toNat) (by omega : (2 : Int) ^ (widthZ c).toNat ≠ 0)
    have m1 : x / 2 ^ (i * widthZ c % 64).toNat % 2 ^ (widthZ c).toNat≤x / 2 ^ (i * widthZ c % 64).toNat := by
      rw [Int.emod_def]
      have := Int.mul_nonneg (a := 2 ^ (widthZ c).toNat) (b := x / 2 ^ (i * widthZ c % 64).toNat / 2 ^ (widthZ c).toNat) (by omega) (Int.ediv_nonneg d0 (by omega))
      omega
    omega
theorem kid_ok {l : List (List Int)} (hw : Wds l) {r : Rf} (hr : RfOk l r) (i : Int) : RfOk l (kidP l r i).1 := by
  unfold kidP
  split
  · exact .zero
  · rename_i hi
    cases hr with
    | zero => simp [nk,Rf.zero] at hi; omega
    | str s a d k a1 a2 a3 a4 h => simp; exact at_ok hw _ _
    | dat c s a n a1 a2 a3 a4 h =>
      simp
      rw [if_neg (by omega),if_neg (by omega),if_neg (by omega)]
      have := getZ_range (g := ((seg l s).getD []).drop a.toNat) (c := 2 + c - 2) (i := i) (fun x hx => by
        cases e : seg l s with
        | none => rw [e] at hx; simp at hx
        | some g =>
          rw [e] at hx
          obtain ⟨_,_,k1,rfl⟩ := seg_some e
          exact hw _ (List.getElem_mem k1) _ (List.mem_of_mem_drop hx))
      exact .atom _ this.1 this.2
    | ptrs s a n a1 a2 h => simp; exact at_ok hw _ _
    | comp s a d k n a1 a2 a3 a4 a5 a6 h =>
      simp [nk] at hi ⊢
      refine .str _ _ _ _ a1 a2 a3 a4 (hasW_sub h ?_ (by omega) ?_)
      · have := Int.mul_nonneg (by omega : 0≤i) (by omega : 0≤d + k)
        omega
      · have h1 : (i + 1) * (d + k)≤n * (d + k) := mul_le_of (by omega) (by omega)
        rw [Int.add_mul] at h1
        omega
    | atom n a1 a2 => simp [nk] at hi; omega
inductive Means (l : List (List Int)) : Rf→T→Prop
  | mk (r : Rf) (t : T) : RfOk l r→r.kind = t.kind→wordsR l r = t.words→nk r = t.kids.length→(∀ (i : Nat) (h : i < t.kids.length),(kidP l r i).2 = 0)→(∀ (i : Nat) (h : i < t.kids.length),Means l (kidP l r i).1 t.kids[i])→Means l r t
def loopM (f : Nat→Int→T × Int × Int) : Nat→Nat→List T→Int→List T × Int × Int
  | 0,_,acc,left => (acc,left,0)
  | m + 1,i,acc,left => if (f i left).2.2 ≠ 0 then (acc,(f i left).2.1,(f i left).2.2) else loopM f m (i + 1) (acc ++ [(f i left).1]) (f i left).2.1
def costM (r : Rf) : Int := if r.kind = 1 then 1 + r.data + r.kids else if r.kind = 9 then 1 + r.count * (1 + r.data + r.kids) else 1 + nk r
def stepM (l : List (List Int)) (rec : Rf→Int→T × Int × Int) (r : Rf) (i : Nat) (left : Int) : T × Int × Int :=
  if (kidP l r i).2 ≠ 0 then (T0,left,(kidP l r i).2) else rec (kidP l r i).1 left
def kidsM (l : List (List Int)) (rec : Rf→Int→T × Int × Int) (r : Rf) (left : Int) : T × Int × Int :=
  (.mk 1 (wordsR l r) (loopM (stepM l rec r) r.kids.toNat 0 [] left).1,(loopM (stepM l rec r) r.kids.toNat 0 [] left).2.1,(loopM (stepM l rec r) r.kids.toNat 0 [] left).2.2)
def leafM (l : List (List Int)) (r : Rf) (left : Int) : T × Int × Int := (.mk r.kind (wordsR l r) [],left,0)
def restM (l : List (List Int)) (r : Rf) (rec1 rec2 : Rf→Int→T × Int × Int) (left : Int) : T × Int × Int :=
  (.mk r.kind (wordsR l r) (loopM (stepM l (if r.kind = 9 then kidsM l rec2 else if r.kind = 1∨r.kind = 8 then rec1 else leafM l) r) (nk r).toNat 0 [] (left - costM r)).1,
    (loopM (stepM l (if r.kind = 9 then kidsM l rec2 else if r.kind = 1∨r.kind = 8 then rec1 else leafM l) r) (nk r).toNat 0 [] (left - costM r)).2.1,
    (loopM (stepM l (if r.kind = 9 then kidsM l rec2 else if r.kind = 1∨r.kind = 8 then rec1 else leafM l) r) (nk r).toNat 0 [] (left - costM r)).2.2)
def stopM (l : List (List Int)) (r : Rf) (left : Int) : T × Int × Int := (.mk r.kind (wordsR l r) [],left,3)
def meaning (l : List (List Int)) : Nat→Rf→Int→T × Int × Int
  | 0,r,left => if r.kind = 0 then leafM l r left else stopM l r left
  | 1,r,left => if r.kind = 0 then leafM l r left else if r.kind = 9∧0 < r.count then stopM l r left else if left < costM r then stopM l r left
    else restM l r (meaning l 0) (fun r left => stopM l r left) left
  | d + 2,r,left => if r.kind = 0 then leafM l r left else if left < costM r then stopM l r left else restM l r (meaning l (d + 1)) (meaning l d) left
theorem loopM_ok {f : Nat→Int→T × Int × Int} : ∀ {m i : Nat} {acc : List T} {left : Int},(loopM f m i acc left).2.2 = 0→∃ ks : List T,(loopM f m i acc left).1 = acc ++ ks∧ks.length = m∧∀ (j : Nat) (h : j < ks.length),∃ lf,(f (i + j) lf).2.2 = 0∧(f (i + j) lf).1 = ks[j]
  | 0,i,acc,left,h => ⟨[],by simp [loopM],rfl,fun j h => by simp at h⟩
  | m + 1,i,acc,left,h => by
    rw [loopM] at h ⊢
    by_cases h0 : (f i left).2.2 ≠ 0
    · rw [if_pos h0] at h; exact absurd h h0
    · rw [if_neg h0] at h ⊢
      obtain ⟨ks,e1,e2,e3⟩ := loopM_ok h
      refine ⟨(f i left).1 :: ks,by rw [e1]; simp,by simp [e2],fun j hj => ?_⟩
      cases j with
      | zero => exact ⟨left,by simpa using h0,rfl⟩
      | succ j =>
        obtain ⟨lf,g1,g2⟩ := e3 j (by simpa using hj)
        refine ⟨lf,?_,?_⟩
        · rw [show i + (j + 1) = i + 1 + j by omega]; exact g1
        · rw [show i + (j + 1) = i + 1 + j by omega]; simpa using g2
theorem nk_nonneg {l : List (List Int)} {r : Rf} (h : RfOk l r) : 0≤nk r∧nk r < 536870912 := by
  cases h <;> simp [nk,Rf.zero] <;> omega
theorem loop_means {l : List (List Int)} (hw : Wds l) {r : Rf} (hr : RfOk l r) {rec : Rf→Int→T × Int × Int} (hrec : ∀ (i : Nat) left,i < nk r→(rec (kidP l r i).1 left).2.2 = 0→Means l (kidP l r i).1 (rec (kidP l r i).1 left).1) {k : Int} {left : Int} (hk : r.kind = k)
    (h : (loopM (stepM l rec r) (nk r).toNat 0 [] left).2.2 = 0) : Means l r (.mk k (wordsR l r) (loopM (stepM l rec r) (nk r).toNat 0 [] left).1) := by
  obtain ⟨ks,e1,e2,e3⟩ := loopM_ok h
  rw [e1]
  simp only [List.nil_append]
  have hn := nk_nonneg hr
  refine .mk _ _ hr (by simpa using hk) rfl (by simp [e2]; omega) (fun i hi => ?_) (fun i hi => ?_)
  all_goals
    simp only [T.kids_mk] at hi ⊢
    obtain ⟨lf,g1,g2⟩ := e3 i hi
    simp only [Nat.zero_add] at g1 g2
    unfold stepM at g1 g2
    by_cases h0 : (kidP l r i).2 ≠ 0
    · rw [if_pos h0] at g1; exact absurd g1 h0
    · rw [if_neg h0] at g1 g2
      first
        | (simpa using h0)
        | (rw [← g2]; exact hrec i _ (by omega) g1)
theorem leaf_means {l : List (List Int)} {r : Rf} (hr : RfOk l r) (h : r.kind = 0∨r.kind = 10) {left : Int} : Means l r (leafM l r left).1 := by
  refine .mk _ _ hr rfl rfl ?_ (fun i hi => by simp [leafM] at hi) (fun i hi => by simp [leafM] at hi)
  cases hr <;> simp [leafM,nk,Rf.zero] at h ⊢ <;> omega
theorem kid_data {l : List (List Int)} {r : Rf} (hr : RfOk l r) (h0 : r.kind ≠ 0) (h1 : r.kind ≠ 1) (h8 : r.kind ≠ 8) (h9 : r.kind ≠ 9) (i : Int) : (kidP l r i).1.kind = 0∨(kidP l r i).1.kind = 10 := by
  unfold kidP
  split
  · exact .inl rfl
  · exact .inr rfl
theorem rest_means {l : List (List Int)} (hw : Wds l) {r : Rf} (hr : RfOk l r) {rec1 rec2 : Rf→Int→T × Int × Int} (h1 : ∀ x left,RfOk l x→(rec1 x left).2.2 = 0→Means l x (rec1 x left).1)
    (h2 : r.kind = 9→0 < r.count→∀ x left,RfOk l x→(rec2 x left).2.2 = 0→Means l x (rec2 x left).1) {left : Int} (h : (restM l r rec1 rec2 left).2.2 = 0) : Means l r (restM l r rec1 rec2 left).1 := by
  unfold restM at h ⊢
  refine loop_means hw hr (fun i lf hi hq => ?_) rfl h
  have hok := kid_ok hw hr (i : Int)
  by_cases h9 : r.kind = 9
  · simp only [if_pos h9] at hq ⊢
    have hk : nk r = r.count := by simp [nk,h9]
    have hkid : kidP l r i = (⟨1,r.s,r.at_ + i * (r.data + r.kids),r.data,r.kids,0,0⟩,0) := by
      rw [kidP,if_neg (by omega),if_neg (by omega),if_neg (by omega),if_pos h9]
    rw [hkid] at hq hok ⊢
    unfold kidsM at hq ⊢
    exact loop_means hw hok (fun j lf' hj hq' => h2 h9 (by omega) _ _ (kid_ok hw hok _) hq') rfl hq
  · by_cases h18 : r.kind = 1∨r.kind = 8
    · simp only [if_neg h9,if_pos h18] at hq ⊢
      exact h1 _ _ hok hq
    · simp only [if_neg h9,if_neg h18] at hq ⊢
      refine leaf_means hok ?_
      by_cases h0 : r.kind = 0
      · cases hr <;> simp [nk,Rf.zero] at hi h0 <;> omega
      · exact kid_data hr h0 (by omega) (by omega) h9 i
theorem meaning_means {l : List (List Int)} (hw : Wds l) : ∀ (d : Nat) (r : Rf) (left : Int),RfOk l r→(meaning l d r left).2.2 = 0→Means l r (meaning l d r left).1
  | 0,r,left,hr,h => by
    rw [meaning] at h ⊢
    split at h
    · rename_i h0; rw [if_pos h0]; exact leaf_means hr (.inl h0)
    · exact absurd h (by simp [stopM])
  | 1,r,left,hr,h => by
    rw [meaning] at h ⊢
    split at h
    · rename_i h0; rw [if_pos h0]; exact leaf_means hr (.inl h0)
    · rename_i h0
      split at h
      · exact absurd h (by simp [stopM])
      · rename_i h9
        split at h
        · exact absurd h (by simp [stopM])
        · rename_i hc
          rw [if_neg h0,if_neg h9,if_neg hc]
          exact rest_means hw hr (fun x lf hx hq => meaning_means hw 0 x lf hx hq) (fun k9 hk => absurd ⟨k9,hk⟩ h9) h
  | d + 2,r,left,hr,h => by
    rw [meaning] at h ⊢
    split at h
    · rename_i h0; rw [if_pos h0]; exact leaf_means hr (.inl h0)
    · rename_i h0
      split at h
      · exact absurd h (by simp [stopM])
      · rename_i hc
        rw [if_neg h0,if_neg hc]
        exact rest_means hw hr (fun x lf hx hq => meaning_means hw (d + 1) x lf hx hq) (fun k9 hk x lf hx hq => meaning_means hw d x lf hx hq) h
end Go.Proofs.YthfiijdbnkaabaaGreat

namespace Go.PL
set_option linter.unusedVariables false
set_option linter.unusedSimpArgs false
structure WE where
  at_ : Int
  mask : Int
  old : Int
  new : Int
mutual
inductive E where
  | mk (kind : Int) (old new : T) (words : List WE) (kids : List KE) (list : Int) (ops : List OP)
inductive KE where
  | mk (at_ : Int) (e : E)
inductive OP where
  | mk (kind n : Int) (l : List T) (e : E)
end
namespace E
def kind : E→Int | mk k _ _ _ _ _ _ => k
def old : E→T | mk _ o _ _ _ _ _ => o
def new : E→T | mk _ _ n _ _ _ _ => n
def words : E→List WE | mk _ _ _ w _ _ _ => w
def kids : E→List KE | mk _ _ _ _ k _ _ => k
def list : E→Int | mk _ _ _ _ _ l _ => l
def ops : E→List OP | mk _ _ _ _ _ _ o => o
variable {k l : Int} {o n : T} {w : List WE} {ks : List KE} {os : List OP}
@[simp] theorem kind_mk : (mk k o n w ks l os).kind = k := rfl
@[simp] theorem old_mk : (mk k o n w ks l os).old = o := rfl
@[simp] theorem new_mk : (mk k o n w ks l os).new = n := rfl
@[simp] theorem words_mk : (mk k o n w ks l os).words = w := rfl
@[simp] theorem kids_mk : (mk k o n w ks l os).kids = ks := rfl
@[simp] theorem list_mk : (mk k o n w ks l os).list = l := rfl
@[simp] theorem ops_mk : (mk k o n w ks l os).ops = os := rfl
end E
namespace KE
def at_ : KE→Int | mk a _ => a
def e : KE→E | mk _ e => e
@[simp] theorem at_mk {a : Int} {e : E} : (mk a e).at_ = a := rfl
@[simp] theorem e_mk {a : Int} {e : E} : (mk a e).e = e := rfl
end KE
namespace OP
def kind : OP→Int | mk k _ _ _ => k
def n : OP→Int | mk _ n _ _ => n
def l : OP→List T | mk _ _ l _ => l
def e : OP→E | mk _ _ _ e => e
variable {k m : Int} {t : List T} {x : E}
@[simp] theorem kind_mk : (mk k m t x).kind = k := rfl
@[simp] theorem n_mk : (mk k m t x).n = m := rfl
@[simp] theorem l_mk : (mk k m t x).l = t := rfl
@[simp] theorem e_mk : (mk k m t x).e = x := rfl
end OP
abbrev E0 : E := .mk 0 T0 T0 [] [] 0 []
mutual
theorem E.ind {P : E→Prop} (h : ∀ k o n w ks l os,(∀ x,x ∈ ks→P x.e)→(∀ x,x ∈ os→P x.e)→P (.mk k o n w ks l os)) : ∀ e,P e
  | .mk k o n w ks l os => h k o n w ks l os (E.indK h ks) (E.indO h os)
theorem E.indK {P : E→Prop} (h : ∀ k o n w ks l os,(∀ x,x ∈ ks→P x.e)→(∀ x,x ∈ os→P x.e)→P (.mk k o n w ks l os)) : ∀ (ks : List KE),∀ x,x ∈ ks→P x.e
  | [],_,hx => nomatch hx
  | .mk a e :: ks,x,hx => by
    rcases List.mem_cons.1 hx with q | hx
    · rw [q]; exact E.ind h e
    · exact E.indK h ks x hx
theorem E.indO {P : E→Prop} (h : ∀ k o n w ks l os,(∀ x,x ∈ ks→P x.e)→(∀ x,x ∈ os→P x.e)→P (.mk k o n w ks l os)) : ∀ (os : List OP),∀ x,x ∈ os→P x.e
  | [],_,hx => nomatch hx
  | .mk a n l e :: os,x,hx => by
    rcases List.mem_cons.1 hx with q | hx
    · rw [q]; exact E.ind h e
    · exact E.indO h os x hx
end
def noneT (t : T) : Bool := decide (t.kind = 0) && t.words.isEmpty && t.kids.isEmpty
def sameE (e : E) : Bool := decide (e.kind = 0) && noneT e.old && noneT e.new && (e.words.isEmpty && e.kids.isEmpty && e.ops.isEmpty) && decide (e.list = 0)
def withinZ (w mask : Int) : Bool := (List.range 8).all fun i => decide (mask / 2 ^ i % 2 = 1) || decide (w / 256 ^ i % 256 = 0)
def wordOk (last : Int) (w : WE) : Bool := !(decide (w.at_≤last) || decide (w.at_ > 65534) || decide (w.mask = 0) || !withinZ w.old w.mask || !withinZ w.new w.mask)
def wordsOk : Int→List WE→Bool
  | _,[] => true
  | last,w :: l => wordOk last w && wordsOk w.at_ l
def sat (n : Int) : Int := if n > 1048576 then 1048576 else n
def opLen (o : OP) : Int := if o.kind = 3 then 1 else o.n + o.l.length
def lengths : Int→Int→List OP→Int × Int
  | n,m,[] => (n,m)
  | n,m,o :: l => lengths (sat (if o.kind ≠ 2 then n + opLen o else n)) (sat (if o.kind ≠ 1 then m + opLen o else m)) l
def opFlat (list : Int) (o : OP) : Bool :=
  if o.kind = 0 then decide (1≤o.n) && decide (o.n≤1048576) && o.l.isEmpty && sameE o.e
  else if o.n ≠ 0∨o.kind < 0∨o.kind > 3 then false
  else if o.kind < 3 then (o.l.all fun t => rightT 64 (.mk list [] [t])) && !o.l.isEmpty && sameE o.e
  else true
def opDeep (list : Int) (o : OP) : Bool := o.l.isEmpty && !decide (o.e.kind = 0) && !decide (list≤7)
def opFit (list : Int) (o : OP) : Bool := decide (list = 8) || decide (o.e.kind = 2) || decide (o.e.kind = 1) && decide (o.e.old.kind = 1) && decide (o.e.new.kind = 1)
def headOk (d : Nat) (k : Int) (o n : T) (nw nk : Nat) (list : Int) (no : Nat) : Bool :=
  !(decide (d = 0) || decide (k < 0) || decide (k > 3)) && !(!decide (k = 1) && !(noneT o && noneT n) || !decide (k = 2) && decide (nw + nk > 0) || !decide (k = 3) && (!decide (list = 0) || decide (no > 0)))
mutual
def rightE : Nat→E→Bool
  | d,.mk k o n ws ks l os =>
    if headOk d k o n ws.length ks.length l os.length = false then false
    else if k = 1 then rightT 64 o && rightT 64 n && !decide (o.kind = 10) && !decide (n.kind = 10)
    else if wordsOk (-1) ws = false then false
    else if rightKs (d - 1) (-1) ks = false then false
    else if k = 3∧(l < 2∨l > 9) then false
    else if rightOs (d - 1) l os = false then false
    else decide ((lengths 0 0 os).1 < 1048576) && decide ((lengths 0 0 os).2 < 1048576)
def rightKs : Nat→Int→List KE→Bool
  | _,_,[] => true
  | d,last,.mk a e :: l => !(decide (a≤last) || decide (a > 65534) || decide (e.kind = 0)) && rightE d e && rightKs d a l
def rightOs : Nat→Int→List OP→Bool
  | _,_,[] => true
  | d,list,.mk k n t e :: l => rightO d list (.mk k n t e) && rightOs d list l
def rightO : Nat→Int→OP→Bool
  | d,list,.mk k n t e => opFlat list (.mk k n t e) && (if k = 3 then opDeep list (.mk k n t e) && rightE d e && opFit list (.mk k n t e) else true)
end
theorem rightE_mk (d : Nat) (k : Int) (o n : T) (ws : List WE) (ks : List KE) (l : Int) (os : List OP) : rightE d (.mk k o n ws ks l os) =
    if headOk d k o n ws.length ks.length l os.length = false then false
    else if k = 1 then rightT 64 o && rightT 64 n && !decide (o.kind = 10) && !decide (n.kind = 10)
    else if wordsOk (-1) ws = false then false
    else if rightKs (d - 1) (-1) ks = false then false
    else if k = 3∧(l < 2∨l > 9) then false
    else if rightOs (d - 1) l os = false then false
    else decide ((lengths 0 0 os).1 < 1048576) && decide ((lengths 0 0 os).2 < 1048576) := by rw [rightE]
@[simp] theorem rightKs_nil (d : Nat) (last : Int) : rightKs d last [] = true := by rw [rightKs]
@[simp] theorem rightKs_cons (d : Nat) (last : Int) (x : KE) (l : List KE) : rightKs d last (x :: l) = (!(decide (x.at_≤last) || decide (x.at_ > 65534) || decide (x.e.kind = 0)) && rightE d x.e && rightKs d x.at_ l) := by cases x; rw [rightKs]; rfl
@[simp] theorem rightOs_nil (d : Nat) (list : Int) : rightOs d list [] = true := by rw [rightOs]
@[simp] theorem rightOs_cons (d : Nat) (list : Int) (x : OP) (l : List OP) : rightOs d list (x :: l) = (rightO d list x && rightOs d list l) := by cases x; rw [rightOs]
theorem rightO_eq (d : Nat) (list : Int) (x : OP) : rightO d list x = (opFlat list x && (if x.kind = 3 then opDeep list x && rightE d x.e && opFit list x else true)) := by cases x; rw [rightO]; rfl
theorem rightOs_all {d : Nat} {list : Int} : ∀ {l : List OP},rightOs d list l = true ↔ ∀ x,x ∈ l→rightO d list x = true
  | [] => by simp
  | x :: l => by simp [rightOs_all (l := l)]
def u64m (n : Int) : Int := n % 18446744073709551616
def treeW (w : WE) : T := .mk 1 [u64m (w.at_ + 4294967296 * w.mask),w.old,w.new] []
mutual
def treeE : E→T
  | .mk k o n ws ks l os =>
    if k = 0 then T0
    else if k = 1 then .mk 1 [u64m (k + 256 * l)] [o,n]
    else if k = 2 then .mk 1 [u64m (k + 256 * l)] [rowT' (ws.map treeW),rowT' (treeKs ks)]
    else .mk 1 [u64m (k + 256 * l)] [rowT' (treeOs l os)]
def treeKs : List KE→List T
  | [] => []
  | .mk a e :: l => .mk 1 [u64m a] [treeE e] :: treeKs l
def treeOs : Int→List OP→List T
  | _,[] => []
  | list,.mk k n t e :: l => .mk 1 [u64m (k + 256 * n)] (if k = 3 then [treeE e] else if k > 0 then [.mk list [] t] else []) :: treeOs list l
def rowT' : List T→T
  | [] => T0
  | t :: l => .mk 9 [] (t :: l)
end
theorem treeE_mk (k : Int) (o n : T) (ws : List WE) (ks : List KE) (l : Int) (os : List OP) : treeE (.mk k o n ws ks l os) =
    if k = 0 then T0
    else if k = 1 then .mk 1 [u64m (k + 256 * l)] [o,n]
    else if k = 2 then .mk 1 [u64m (k + 256 * l)] [rowT' (ws.map treeW),rowT' (treeKs ks)]
    else .mk 1 [u64m (k + 256 * l)] [rowT' (treeOs l os)] := by rw [treeE]
def treeK (x : KE) : T := .mk 1 [u64m x.at_] [treeE x.e]
def treeO (list : Int) (x : OP) : T := .mk 1 [u64m (x.kind + 256 * x.n)] (if x.kind = 3 then [treeE x.e] else if x.kind > 0 then [.mk list [] x.l] else [])
theorem treeKs_map : ∀ l,treeKs l = l.map treeK
  | [] => by rw [treeKs]; rfl
  | .mk a e :: l => by rw [treeKs,treeKs_map l]; rfl
theorem treeOs_map (list : Int) : ∀ l,treeOs list l = l.map (treeO list)
  | [] => by rw [treeOs]; rfl
  | .mk k n t e :: l => by rw [treeOs,treeOs_map list l]; rfl
@[simp] theorem rowT'_nil : rowT' [] = T0 := by rw [rowT']
@[simp] theorem rowT'_cons (t : T) (l : List T) : rowT' (t :: l) = .mk 9 [] (t :: l) := by rw [rowT']
end Go.PL

namespace Go.G
set_option linter.unusedVariables false
set_option linter.unusedSimpArgs false
open Go.RowKit
mutual
def A.soft : A→A
  | .sl _ xs => .sl false (A.softL xs)
  | .agg cs => .agg (A.softL cs)
  | .tup cs => .tup (A.softL cs)
  | .pim cs => .pim (A.softL cs)
  | .ifc t x => .ifc t (A.soft x)
  | .any => .any
  | .v x => .v x
  | .pob o u off => .pob o u off
  | .osl o u sz off len => .osl o u sz off len
  | .pel o u i j => .pel o u i j
  | .fnc f fs cs => .fnc f fs cs
def A.softL : List A→List A
  | [] => []
  | x :: xs => A.soft x :: A.softL xs
end
theorem softL_map : ∀ l : List A,A.softL l = l.map A.soft
  | [] => by simp [A.softL]
  | x :: l => by simp [A.softL,softL_map l]
theorem soft_cells (a : A) : a.soft.cells = a.cells.map A.soft := by cases a <;> simp [A.soft,A.cells,softL_map]
theorem soft_flat : ∀ l : List A,(l.map A.soft).flatMap A.cells = (l.flatMap A.cells).map A.soft
  | [] => rfl
  | x :: l => by simp [soft_cells,soft_flat l]
theorem soft_one (a : A) : a.soft.one = a.one := by cases a <;> simp [A.soft,A.one]
theorem Rel.soft {w : World} {I : Nat→Prop} {μ : Mu} {a : A} {x : Value} (h : Rel w I μ a x) : Rel w I μ a.soft x := by
  induction h with
  | any => simpa [A.soft] using Rel.any _ _
  | v => simpa [A.soft] using Rel.v _ _
  | slN μ f a cap h =>
    simp only [A.soft,A.softL]
    exact .slN _ _ _ _ (fun h => nomatch h)
  | sl μ f b off n cap sz xs g hb hn hc hf hs h1 hcell hr ih =>
    simp only [A.soft,softL_map]
    refine .sl _ _ b off n cap sz _ g hb (by simpa using hn) (by simpa using hc) (fun h => nomatch h) (fun x hx => ?_) (fun k y hk => ?_) (fun k y hk => ?_) (fun k y hk => ?_)
    · obtain ⟨x',hx',rfl⟩ := List.mem_map.1 hx
      simpa [soft_cells] using hs x' hx'
    all_goals
      rw [soft_flat,List.getElem?_map,Option.map_eq_some_iff] at hk
      obtain ⟨y',hy,rfl⟩ := hk
    · rw [soft_one]; exact h1 k y' hy
    · exact hcell k y' hy
    · exact ih k y' hy
  | agg μ cs vs hl _ ih =>
    simp only [A.soft,softL_map]
    refine .agg _ _ _ (by simpa using hl) fun k y hk => ?_
    rw [List.getElem?_map,Option.map_eq_some_iff] at hk
    obtain ⟨y',hy,rfl⟩ := hk
    exact ih k y' hy
  | tup μ cs vs hl _ ih =>
    simp only [A.soft,softL_map]
    refine .tup _ _ _ (by simpa using hl) fun k y hk => ?_
    rw [List.getElem?_map,Option.map_eq_some_iff] at hk
    obtain ⟨y',hy,rfl⟩ := hk
    exact ih k y' hy
  | pim μ b off cs g hb h1 hcell hr ih =>
    simp only [A.soft,softL_map]
    refine .pim _ b off _ g hb (fun k y hk => ?_) (fun k y hk => ?_) (fun k y hk => ?_)
    all_goals
      rw [List.getElem?_map,Option.map_eq_some_iff] at hk
      obtain ⟨y',hy,rfl⟩ := hk
    · rw [soft_one]; exact h1 k y' hy
    · exact hcell k y' hy
    · exact ih k y' hy
  | pob _ _ _ _ _ _ h1 h2 h3 => simpa [A.soft] using Rel.pob _ _ _ _ _ _ h1 h2 h3
  | osl _ _ _ _ _ _ _ _ h1 h2 h4 h5 h3 => simpa [A.soft] using Rel.osl _ _ _ _ _ _ _ _ h1 h2 h4 h5 h3
  | pel _ _ _ _ _ _ _ h1 h2 h3 => simpa [A.soft] using Rel.pel _ _ _ _ _ _ _ h1 h2 h3
  | fnc _ _ _ _ _ _ hl0 h0 hl h _ _ => simpa [A.soft] using Rel.fnc _ _ _ _ _ _ hl0 h0 hl h
  | ifc _ _ _ _ _ ih => simpa [A.soft] using Rel.ifc _ _ _ _ ih
theorem Spec.soft {P : Program} {f : FuncId} {as' as'' : List A} {r : A} (h : Spec P f as'' r) (e : A.softL as' = as'') : Spec P f as' r := by
  subst e
  refine ⟨h.1,fun w I vs hI hn ha => h.2 w I vs hI (by simpa [softL_map] using hn) fun k y hk => ?_⟩
  rw [softL_map,List.getElem?_map,Option.map_eq_some_iff] at hk
  obtain ⟨y',hy,rfl⟩ := hk
  exact (ha k y' hy).soft
theorem SpecB.soft {P : Program} {f : FuncId} {as' as'' : List A} {r : A} (h : SpecB P f as'' r) (e : A.softL as' = as'') : SpecB P f as' r := by
  subst e
  refine ⟨h.1,fun w I J vs hI hJ hn ha => h.2 w I J vs hI hJ (by simpa [softL_map] using hn) fun k y hk => ?_⟩
  rw [softL_map,List.getElem?_map,Option.map_eq_some_iff] at hk
  obtain ⟨y',hy,rfl⟩ := hk
  exact (ha k y' hy).soft
theorem frz_soft {H : Hp} {a : A} (h : a.bare = true) : Frz H a a.soft := fun c w I μ v hs hr => (frz_bare h c w I μ v hs hr).soft
end Go.G

namespace Go.G
set_option linter.unusedVariables false
set_option linter.unusedSimpArgs false
open Go.RowKit
mutual
def A.ren (g : Nm→Nm) (δ : Nm→Nat) : A→A
  | .pob o u off => .pob (g o) (u + δ o) off
  | .osl o u sz off len => .osl (g o) (u + δ o) sz off len
  | .pel o u i j => .pel (g o) (u + δ o) i j
  | .agg cs => .agg (A.renL g δ cs)
  | .tup cs => .tup (A.renL g δ cs)
  | .fnc f fs cs => .fnc f (A.renL g δ fs) (A.renL g δ cs)
  | .ifc t x => .ifc t (A.ren g δ x)
  | .any => .any
  | .v x => .v x
  | .sl f xs => .sl f xs
  | .pim cs => .pim cs
def A.renL (g : Nm→Nm) (δ : Nm→Nat) : List A→List A
  | [] => []
  | x :: xs => A.ren g δ x :: A.renL g δ xs
end
mutual
def A.refs (S : Nm→Prop) : A→Prop
  | .pob o u off => S o
  | .osl o u sz off len => S o
  | .pel o u i j => S o
  | .agg cs => A.refsL S cs
  | .tup cs => A.refsL S cs
  | .fnc f fs cs => A.refsL S fs∧A.refsL S cs
  | .ifc t x => A.refs S x
  | .any => True
  | .v x => True
  | .sl f xs => True
  | .pim cs => True
def A.refsL (S : Nm→Prop) : List A→Prop
  | [] => True
  | x :: xs => A.refs S x∧A.refsL S xs
end
theorem renL_map {g : Nm→Nm} {δ : Nm→Nat} : ∀ l : List A,A.renL g δ l = l.map (A.ren g δ)
  | [] => by simp [A.renL]
  | x :: l => by simp [A.renL,renL_map l]
theorem refsL_iff {S : Nm→Prop} : ∀ {l : List A},A.refsL S l ↔ ∀ x,x ∈ l→x.refs S
  | [] => by simp [A.refsL]
  | x :: l => by simp [A.refsL,refsL_iff (l := l)]
theorem ren_cells {g : Nm→Nm} {δ : Nm→Nat} (a : A) : (a.ren g δ).cells = a.cells.map (A.ren g δ) := by cases a <;> simp [A.ren,A.cells,renL_map]
theorem ren_flat {g : Nm→Nm} {δ : Nm→Nat} : ∀ l : List A,(l.map (A.ren g δ)).flatMap A.cells = (l.flatMap A.cells).map (A.ren g δ)
  | [] => rfl
  | x :: l => by simp [ren_cells,ren_flat l]
theorem ren_one {g : Nm→Nm} {δ : Nm→Nat} (a : A) : (a.ren g δ).one = a.one := by cases a <;> simp [A.ren,A.one]
theorem refs_cells {S : Nm→Prop} {a y : A} (h : a.refs S) (hy : y ∈ a.cells) : y.refs S := by
  cases a <;> simp [A.cells] at hy <;> first | (subst hy; exact h) | exact refsL_iff.1 (by simpa [A.refs] using h) y hy
theorem Rel.ren {w : World} {I : Nat→Prop} {μ : Mu} {a : A} {v : Value} (h : Rel w I μ a v) : ∀ {μ' : Mu} {S : Nm→Prop} {g : Nm→Nm} {δ : Nm→Nat},a.refs S→(∀ o,S o→1≤(μ o).u→μ' (g o) = { μ o with u := (μ o).u + δ o })→Rel w I μ' (a.ren g δ) v := by
  induction h with
  | any => intro μ' S g δ _ _; simpa [A.ren] using Rel.any _ _
  | v => intro μ' S g δ _ _; simpa [A.ren] using Rel.v _ _
  | slN _ _ _ _ h => intro μ' S g δ _ _; simpa [A.ren] using Rel.slN _ _ _ _ h
  | sl μ f b off n cap sz xs g hb hn hc hf hs h1 hcell hr _ => intro μ' S g' δ _ _; simpa [A.ren] using Rel.sl _ f b off n cap sz xs g hb hn hc hf hs h1 hcell hr
  | pim μ b off cs g hb h1 hcell hr _ => intro μ' S g' δ _ _; simpa [A.ren] using Rel.pim _ b off cs g hb h1 hcell hr
  | agg μ cs vs hl _ ih =>
    intro μ' S g δ hS hμ
    simp only [A.ren,renL_map]
    refine .agg _ _ _ (by simpa using hl) fun k y hk => ?_
    rw [List.getElem?_map,Option.map_eq_some_iff] at hk
    obtain ⟨y',hy,rfl⟩ := hk
    exact ih k y' hy (refsL_iff.1 (by simpa [A.refs] using hS) y' (List.mem_of_getElem? hy)) hμ
  | tup μ cs vs hl _ ih =>
    intro μ' S g δ hS hμ
    simp only [A.ren,renL_map]
    refine .tup _ _ _ (by simpa using hl) fun k y hk => ?_
    rw [List.getElem?_map,Option.map_eq_some_iff] at hk
    obtain ⟨y',hy,rfl⟩ := hk
    exact ih k y' hy (refsL_iff.1 (by simpa [A.refs] using hS) y' (List.mem_of_getElem? hy)) hμ
  | fnc μ f fs caps us vs hl0 _ hl _ ih0 ih =>
    intro μ' S g δ hS hμ
    simp only [A.refs] at hS
    simp only [A.ren,renL_map]
    refine .fnc _ _ _ _ _ _ (by simpa using hl0) (fun k y hk => ?_) (by simpa using hl) fun k y hk => ?_
    · rw [List.getElem?_map,Option.map_eq_some_iff] at hk
      obtain ⟨y',hy,rfl⟩ := hk
      exact ih0 k y' hy (refsL_iff.1 hS.1 y' (List.mem_of_getElem? hy)) hμ
    · rw [List.getElem?_map,Option.map_eq_some_iff] at hk
      obtain ⟨y',hy,rfl⟩ := hk
      exact ih k y' hy (refsL_iff.1 hS.2 y' (List.mem_of_getElem? hy)) hμ
  | ifc _ _ _ _ _ ih =>
    intro μ' S g δ hS hμ
    simp only [A.ren]
    exact .ifc _ _ _ _ (ih (by simpa [A.refs] using hS) hμ)
  | pob μ o u off b k h1 h2 h3 =>
    intro μ' S g δ hS hμ
    have e := hμ o (by simpa [A.refs] using hS) (by omega)
    simp only [A.ren]
    exact .pob _ _ _ _ _ _ (by omega) (by rw [e]; simpa using h2) fun hu => by rw [e] at hu ⊢; exact h3 (by simpa using hu)
  | osl μ o u sz off len a cap h1 h2 h4 h5 h3 =>
    intro μ' S g δ hS hμ
    have e := hμ o (by simpa [A.refs] using hS) (by omega)
    simp only [A.ren]
    exact .osl _ _ _ _ _ _ _ _ (by omega) (by rw [e]; simpa using h2) h4 h5 fun hu => by rw [e] at hu ⊢; exact h3 (by simpa using hu)
  | pel μ o u i j b k h1 h2 h3 =>
    intro μ' S g δ hS hμ
    have e := hμ o (by simpa [A.refs] using hS) (by omega)
    simp only [A.ren]
    exact .pel _ _ _ _ _ _ _ (by omega) (by rw [e]; simpa using h2) fun hu => by rw [e] at hu ⊢; exact h3 (by simpa using hu)
def Ob.ren (g : Nm→Nm) (δ : Nm→Nat) : Ob→Ob
  | .none => .none
  | .cells cs => .cells (A.renL g δ cs)
  | .arr sz xs => .arr sz (A.renL g δ xs)
def Ob.refs (S : Nm→Prop) : Ob→Prop
  | .none => True
  | .cells cs => A.refsL S cs
  | .arr sz xs => A.refsL S xs
theorem hasB_ren {g : Nm→Nm} {δ : Nm→Nat} {L : Loc} {ob : Ob} : hasB L (ob.ren g δ) = hasB L ob := by cases ob <;> rfl
theorem OSim.ren {w : World} {I : Nat→Prop} {μ μ' : Mu} {L L' : Loc} {ob : Ob} {S : Nm→Prop} {g : Nm→Nm} {δ : Nm→Nat} (h : OSim w I μ L ob) (hS : ob.refs S) (hμ : ∀ o,S o→1≤(μ o).u→μ' (g o) = { μ o with u := (μ o).u + δ o }) (hL : L' = { L with u := L'.u }) :
    OSim w I μ' L' (ob.ren g δ) := by
  rw [hL]
  cases ob with
  | none => trivial
  | cells cs =>
    obtain ⟨vs,h1,h2,h3⟩ := h
    simp only [Ob.ren,renL_map]
    refine ⟨vs,h1,by simpa using h2,fun k y hk => ?_⟩
    rw [List.getElem?_map,Option.map_eq_some_iff] at hk
    obtain ⟨y',hy,rfl⟩ := hk
    exact ⟨by rw [ren_one]; exact (h3 k y' hy).1,(h3 k y' hy).2.ren (refsL_iff.1 hS y' (List.mem_of_getElem? hy)) hμ⟩
  | arr sz xs =>
    simp only [Ob.ren,renL_map]
    obtain ⟨h0,⟨h1,h2⟩ | ⟨h1,vs,h3,h4,h5,h6,h7⟩⟩ := h
    · exact ⟨h0,.inl ⟨h1,by rw [h2]; rfl⟩⟩
    · refine ⟨h0,.inr ⟨h1,vs,h3,h4,by simpa using h5,fun x hx => ?_,fun k y hk => ?_⟩⟩
      · obtain ⟨x',hx',rfl⟩ := List.mem_map.1 hx
        simpa [ren_cells] using h6 x' hx'
      · rw [ren_flat,List.getElem?_map,Option.map_eq_some_iff] at hk
        obtain ⟨y',hy,rfl⟩ := hk
        obtain ⟨x,hx,hy'⟩ := List.mem_flatMap.1 (List.mem_of_getElem? hy)
        exact ⟨by rw [ren_one]; exact (h7 k y' hy).1,(h7 k y' hy).2.ren (refs_cells (refsL_iff.1 hS x hx) hy') hμ⟩
def cxh (P : Program) (w0 : World) (I0 : Nat→Prop) (M0 : Nm→Nat→Prop) (n : Nat) (m0 : Mu) : Cx := ⟨P,w0,I0,M0,n,m0⟩
@[simp] theorem cxh_P {P : Program} {w0 : World} {I0 : Nat→Prop} {M0 : Nm→Nat→Prop} {n : Nat} {m0 : Mu} : (cxh P w0 I0 M0 n m0).P = P := rfl
def SpecH (P : Program) (f : FuncId) (k : Nat) (args : List A) (Hc : Hp) (r : A) (Hr : Hp) : Prop :=
  okFn P f = true∧∀ (w : World) (I : Nat→Prop) (M0 : Nm→Nat→Prop) (n : Nat) (μ : Mu) (vs : Array Value),(∀ (o : Nm) (b : Nat),(Hc o).ob = .none→¬ M0 o b)→Sim (cxh P w I M0 n μ) w I μ Hc→vs.size = args.length→(∀ (k : Nat) (y : A),args[k]? = some y→Rel w I μ y (vs.getD k undef)) →
    Calls P f vs w fun e w' => ∃ v,e = .returned v∧∃ H' I' μ',Sim (cxh P w I M0 n μ) w' I' μ' H'∧Rel w' I' μ' r v∧∀ (i : Nat) (p : Nm),i < k→H' (i :: p) = Hr (i :: p)
theorem Sim.of_n {P : Program} {w0 w : World} {I0 I : Nat→Prop} {M0 : Nm→Nat→Prop} {n n' : Nat} {m0 μ : Mu} {H : Hp} (h : Sim (cxh P w0 I0 M0 n m0) w I μ H) : Sim (cxh P w0 I0 M0 n' m0) w I μ H :=
  ⟨h.kept,h.lt,h.old,h.new,h.ver,h.ob,h.apart,h.own,h.mle⟩
def RetH (c : Cx) (rs : List ResultVar) (k : Nat) (r : A) (Hr : Hp) : Exit→Sta→Prop := fun e st => StopK c (RetG c.P rs (fun r0 H => r0 = r∧∀ (i : Nat) (p : Nm),i < k→H (i :: p) = Hr (i :: p)) e) st
theorem reth_ret {c : Cx} {rs : List ResultVar} {k : Nat} {r r0 : A} {Hr : Hp} {st : Sta} (h : resA c.P st rs = some r0) (he : r0 = r) (hh : ∀ (i : Nat) (p : Nm),i < k→st.H (i :: p) = Hr (i :: p)) : RetH c rs k r Hr .ret st := stop_go ⟨r0,h,he,hh⟩
theorem reth_normal {c : Cx} {rs : List ResultVar} {k : Nat} {r r0 : A} {Hr : Hp} {st : Sta} (h : resA c.P st rs = some r0) (he : r0 = r) (hh : ∀ (i : Nat) (p : Nm),i < k→st.H (i :: p) = Hr (i :: p)) : RetH c rs k r Hr .normal st := stop_go ⟨r0,h,he,hh⟩
theorem specH_of' {P : Program} {f : FuncId} {n k : Nat} {rs : List ResultVar} {cc : CC} {args : List A} {Hc : Hp} {r : A} {Hr : Hp} (t : Txt P f n rs cc) (ha : args.length≤n)
    (h : ∀ w0 I0 M0 m0,(∀ (o : Nm) (b : Nat),(Hc o).ob = .none→¬ M0 o b)→WPC (cxh P w0 I0 M0 n m0) cc (RetH (cxh P w0 I0 M0 n m0) rs k r Hr) ⟨argS args,Hc⟩) : SpecH P f k args Hc r Hr := by
  obtain ⟨hm,hk,fn,code,hf,hb,hn,hrs,hc⟩ := t
  refine ⟨hk,fun w I M0 n' μ vs hN hs hl har => ?_⟩
  refine (body_run (Q := fun r0 H => r0 = r∧∀ (i : Nat) (p : Nm),i < k→H (i :: p) = Hr (i :: p)) hf hb (c := cxh P w I M0 n μ) rfl hn.symm hl (by omega) (Sim.of_n hs) har (fun a w1 I1 μ1 hsr => wp_mono (wpc_sound (c := cxh P w I M0 n μ) hm hc (h w I M0 μ hN) a w1 I1 μ1 hsr) fun e a' w' ⟨st',I',μ',g1,st2,g2,g3⟩ => by
      obtain ⟨I2,μ2,g4⟩ := g2 a' w' I' μ' g1
      exact ⟨st2,I2,μ2,g4,by rw [hrs]; exact g3⟩)).mono fun e w' ⟨v,r0,H',I',μ',he,h1,h2,h3,h4⟩ => ?_
  subst h3
  exact ⟨v,he,H',I',μ',h1.of_n,h2,h4⟩
theorem specH_of {P : Program} {f : FuncId} {n k : Nat} {rs : List ResultVar} {cc : CC} {args : List A} {Hc : Hp} {r : A} {Hr : Hp} (t : Txt P f n rs cc) (ha : args.length≤n)
    (h : ∀ w0 I0 M0 m0,WPC (cxh P w0 I0 M0 n m0) cc (RetH (cxh P w0 I0 M0 n m0) rs k r Hr) ⟨argS args,Hc⟩) : SpecH P f k args Hc r Hr := specH_of' t ha fun w0 I0 M0 m0 _ => h w0 I0 M0 m0
def upN (rs : List Nat) : Nm→Nm
  | i :: p => rs.getD i 0 :: p
  | [] => []
def dnN (rs : List Nat) : Nm→Nm
  | j :: p => rs.idxOf j :: p
  | [] => []
def inS (rs : List Nat) (m : Nat) : Nm→Prop
  | j :: p => rs.idxOf j < m
  | [] => False
def outS (k : Nat) : Nm→Prop
  | i :: p => i < k
  | [] => False
def dlt (rs : List Nat) (m : Nat) (H : Hp) : Nm→Nat
  | i :: p => if i < m then 0 else if i < rs.length then (H (rs.getD i 0 :: p)).u else 0
  | [] => 0
def VOb.ren (g : Nm→Nm) (δ : Nm→Nat) (d : Nat) (x : VOb) : VOb := ⟨x.u + d,x.ob.ren g δ⟩
def outH (rs : List Nat) (m : Nat) (H Hr : Hp) : Hp
  | j :: p => (Hr (rs.idxOf j :: p)).ren (upN rs) (dlt rs m H) (dlt rs m H (rs.idxOf j :: p))
  | [] => ⟨0,.none⟩
theorem idx_getD {rs : List Nat} (hnd : rs.Nodup) {i : Nat} (h : i < rs.length) : rs.idxOf (rs.getD i 0) = i := by
  have e : rs.getD i 0 = rs[i] := by simp [List.getD,h]
  rw [e]
  exact hnd.idxOf_getElem i h
theorem getD_idx {rs : List Nat} {j : Nat} (h : j ∈ rs) : rs.getD (rs.idxOf j) 0 = j := by
  have hl := List.idxOf_lt_length_iff.2 h
  simp [List.getD,hl]
theorem idx_mem {rs : List Nat} {j : Nat} : rs.idxOf j < rs.length ↔ j ∈ rs := List.idxOf_lt_length_iff
theorem obren_none {g : Nm→Nm} {δ : Nm→Nat} {d : Nat} {x : VOb} (h : (x.ren g δ d).ob = .none) : x.ob = .none := by
  cases x with
  | mk u ob => cases ob <;> first | rfl | cases h
theorem callOK_of {P : Program} {f : FuncId} {rs : List Nat} {m : Nat} {args : List A} {Hc Hr : Hp} {r : A} {H : Hp} (hnd : rs.Nodup) (hm : m≤rs.length)
    (hS : SpecH P f rs.length (A.renL (dnN rs) (fun _ => 0) args) Hc r Hr)
    (h1 : ∀ (i : Nat) (p : Nm),i < m→Hc (i :: p) = (H (rs.getD i 0 :: p)).ren (dnN rs) (fun _ => 0) 0) (h2 : ∀ (i : Nat) (p : Nm),m≤i→Hc (i :: p) = ⟨0,.none⟩) (h3 : Hc [] = ⟨0,.none⟩)
    (ha : A.refsL (inS rs m) args) (hc : ∀ (i : Nat) (p : Nm),i < m→(H (rs.getD i 0 :: p)).ob.refs (inS rs m))
    (hr : r.refs (outS rs.length)) (ho : ∀ (i : Nat) (p : Nm),i < rs.length→(Hr (i :: p)).ob.refs (outS rs.length))
    (hv : ∀ (i : Nat) (p : Nm),m≤i→i < rs.length→(Hr (i :: p)).ob = .none∨1≤(Hr (i :: p)).u) :
    CallOK P H f args (r.ren (upN rs) (dlt rs m H)) (.fn rs (outH rs m H Hr)) := by
  refine ⟨hS.1,fun c w I μ vs hP hs hl har => ?_⟩
  let nm : Nat→Nm→Nm := fun i p => rs.getD i 0 :: p
  let μc : Mu := fun o => match o with
    | i :: p => if i < m then μ (nm i p) else mu0 (i :: p)
    | [] => mu0 []
  let M1 : Nm→Nat→Prop := fun o b => ∃ i p,o = i :: p∧i < m∧hasB (μ (nm i p)) (H (nm i p)).ob = true∧b = (μ (nm i p)).b
  have hμ : ∀ o,inS rs m o→1≤(μ o).u→μc (dnN rs o) = { μ o with u := (μ o).u + (fun _ => 0) o } := fun o ho _ => by
    cases o with
    | nil => exact ho.elim
    | cons j p =>
      have hj : rs.idxOf j < m := ho
      show (if rs.idxOf j < m then μ (nm (rs.idxOf j) p) else _) = _
      rw [if_pos hj]
      have : nm (rs.idxOf j) p = j :: p := by show rs.getD (rs.idxOf j) 0 :: p = _; rw [getD_idx (idx_mem.1 (by omega))]
      rw [this]
      rfl
  have nm_ne : ∀ {i i' : Nat} {p p' : Nm},i < rs.length→i' < rs.length→i :: p ≠ i' :: p'→nm i p ≠ nm i' p' := fun {i i' p p'} hi hi' hne e => by
    have e1 : rs.getD i 0 = rs.getD i' 0 := by injection e
    have e2 : p = p' := by injection e
    have := idx_getD hnd hi
    rw [e1,idx_getD hnd hi'] at this
    exact hne (by rw [this,e2])
  have own1 : ∀ (i : Nat) (p : Nm),hasB (μc (i :: p)) (Hc (i :: p)).ob = true→i < m∧hasB (μ (nm i p)) (H (nm i p)).ob = true∧μc (i :: p) = μ (nm i p) := fun i p h => by
    by_cases hi : i < m
    · have e : μc (i :: p) = μ (nm i p) := if_pos hi
      rw [e,h1 i p hi] at h
      simp only [VOb.ren,hasB_ren] at h
      exact ⟨hi,h,e⟩
    · rw [h2 i p (by omega)] at h; cases h
  have start : Sim (cxh P w I M1 0 μc) w I μc Hc := by
    refine ⟨⟨rfl,rfl,rfl,Nat.le_refl _,fun _ _ _ => rfl⟩,hs.lt,fun _ h => h,fun b hb => .inl hb,fun o => ?_,fun o => ?_,fun o o' k k' hne => ?_,fun o k => ?_,MuLe.refl _⟩
    · cases o with
      | nil => rw [h3]; rfl
      | cons i p =>
        by_cases hi : i < m
        · have e : μc (i :: p) = μ (nm i p) := if_pos hi
          rw [e,h1 i p hi,hs.ver]; rfl
        · have e : μc (i :: p) = mu0 (i :: p) := if_neg hi
          rw [e,h2 i p (by omega)]; rfl
    · cases o with
      | nil => rw [h3]; trivial
      | cons i p =>
        by_cases hi : i < m
        · have e : μc (i :: p) = μ (nm i p) := if_pos hi
          rw [e,h1 i p hi]
          exact (hs.ob (nm i p)).ren (hc i p hi) hμ rfl
        · rw [h2 i p (by omega)]; trivial
    · cases o with
      | nil => rw [h3] at k; cases k
      | cons i p =>
        cases o' with
        | nil => rw [h3] at k'; cases k'
        | cons i' p' =>
          obtain ⟨q1,q2,q3⟩ := own1 i p k
          obtain ⟨r1,r2,r3⟩ := own1 i' p' k'
          rw [q3,r3]
          exact hs.apart _ _ q2 r2 (nm_ne (by omega) (by omega) hne)
    · cases o with
      | nil => rw [h3] at k; cases k
      | cons i p =>
        obtain ⟨q1,q2,q3⟩ := own1 i p k
        rw [q3]
        obtain ⟨g1,g2,g3⟩ := hs.own _ q2
        exact ⟨g1,.inl ⟨i,p,rfl,q1,q2,rfl⟩,g3⟩
  have harg : ∀ (k : Nat) (y : A),(A.renL (dnN rs) (fun _ => 0) args)[k]? = some y→Rel w I μc y (vs.getD k undef) := fun k y hk => by
    rw [renL_map,List.getElem?_map,Option.map_eq_some_iff] at hk
    obtain ⟨y',hy,rfl⟩ := hk
    exact (har k y' hy).ren (refsL_iff.1 ha y' (List.mem_of_getElem? hy)) hμ
  refine (hS.2 w I M1 0 μc vs (fun o b h ⟨i,p,e,hi,hb,_⟩ => by
    subst e
    rw [h1 i p hi] at h
    rw [show (H (nm i p)).ob = .none from obren_none h] at hb
    cases hb) start (by simpa [renL_map] using hl) harg).mono fun e w' ⟨v,he,H',I',μ',hs',hrel,hH'⟩ => ⟨v,he,I',?_⟩
  let δ := dlt rs m H
  let μ2 : Mu := fun n => match n with
    | j :: p => if j ∈ rs then (if rs.idxOf j < m∨1≤(μ' (rs.idxOf j :: p)).u then { μ' (rs.idxOf j :: p) with u := (μ' (rs.idxOf j :: p)).u + δ (rs.idxOf j :: p) } else μ (j :: p)) else μ (j :: p)
    | [] => μ []
  have δ0 : ∀ {i : Nat} {p : Nm},i < m→δ (i :: p) = 0 := fun {i p} h => if_pos h
  have δ1 : ∀ {i : Nat} {p : Nm},¬ i < m→i < rs.length→δ (i :: p) = (H (nm i p)).u := fun {i p} h h' => by
    show (if i < m then _ else _) = _
    rw [if_neg h,if_pos h']
  have nmj : ∀ {j : Nat} {p : Nm},j ∈ rs→nm (rs.idxOf j) p = j :: p := fun {j p} h => by show rs.getD (rs.idxOf j) 0 :: p = _; rw [getD_idx h]
  have app_in : ∀ {j : Nat} {p : Nm},j ∈ rs→(Eff.fn rs (outH rs m H Hr)).app H (j :: p) = outH rs m H Hr (j :: p) := fun {j p} h => by simp [Eff.app,h]
  have app_out : ∀ {j : Nat} {p : Nm},j ∉ rs→(Eff.fn rs (outH rs m H Hr)).app H (j :: p) = H (j :: p) := fun {j p} h => by simp [Eff.app,h]
  have app_nil' : (Eff.fn rs (outH rs m H Hr)).app H [] = H [] := rfl
  have mu_in : ∀ {j : Nat} {p : Nm},j ∈ rs→(rs.idxOf j < m∨1≤(μ' (rs.idxOf j :: p)).u)→μ2 (j :: p) = { μ' (rs.idxOf j :: p) with u := (μ' (rs.idxOf j :: p)).u + δ (rs.idxOf j :: p) } := fun {j p} h h' => by
    show (if j ∈ rs then _ else _) = _
    rw [if_pos h,if_pos h']
  have mu_old : ∀ {j : Nat} {p : Nm},j ∈ rs→¬ (rs.idxOf j < m∨1≤(μ' (rs.idxOf j :: p)).u)→μ2 (j :: p) = μ (j :: p) := fun {j p} h h' => by
    show (if j ∈ rs then _ else _) = _
    rw [if_pos h,if_neg h']
  have mu_out : ∀ {j : Nat} {p : Nm},j ∉ rs→μ2 (j :: p) = μ (j :: p) := fun {j p} h => by
    show (if j ∈ rs then _ else _) = _
    rw [if_neg h]
  have hle : MuLe μ μ2 := fun o => by
    cases o with
    | nil => exact ⟨Nat.le_refl _,fun _ => rfl⟩
    | cons j p =>
      by_cases hj : j ∈ rs
      · by_cases hi : rs.idxOf j < m
        · rw [mu_in hj (.inl hi),δ0 hi]
          have e : μc (rs.idxOf j :: p) = μ (j :: p) := by
            show (if rs.idxOf j < m then _ else _) = _
            rw [if_pos hi,nmj hj]
          have := hs'.mle (rs.idxOf j :: p)
          change (μc (rs.idxOf j :: p)).u≤_∧(_ = (μc (rs.idxOf j :: p)).u→_ = μc (rs.idxOf j :: p)) at this
          rw [e] at this
          exact ⟨this.1,fun q => by rw [← this.2 q]; rfl⟩
        · by_cases hu : 1≤(μ' (rs.idxOf j :: p)).u
          · rw [mu_in hj (.inr hu),δ1 hi (idx_mem.2 hj),nmj hj,← hs.ver]
            exact ⟨by simp,fun q => by simp at q; omega⟩
          · rw [mu_old hj (by omega)]; exact ⟨Nat.le_refl _,fun _ => rfl⟩
      · rw [mu_out hj]; exact ⟨Nat.le_refl _,fun _ => rfl⟩
  have notM1 : ∀ {n : Nm} {b : Nat},hasB (μ n) (H n).ob = true→b = (μ n).b→(∀ j p,n = j :: p→j ∉ rs)→¬ ∃ o,M1 o b := fun {n b} hb e hn ⟨_,i,p,_,q1,q2,q3⟩ => by
    refine hs.apart n (nm i p) hb q2 (fun e' => ?_) (by rw [← e,q3])
    refine hn _ _ e' ?_
    have : i < rs.length := by omega
    simp [List.getD,this]
  have hx : Ext I μ w I' μ2 w' := ⟨fun b h => hs'.old b h,fun b h => hs'.kept.block b (hs.lt b h) (fun ⟨_,i,p,_,q1,q2,q3⟩ => (hs.own _ q2).1 (by rw [← q3]; exact h)),hle⟩
  have hμ2 : ∀ o,outS rs.length o→1≤(μ' o).u→μ2 (upN rs o) = { μ' o with u := (μ' o).u + δ o } := fun o ho h1 => by
    cases o with
    | nil => exact ho.elim
    | cons i p =>
      have hi : i < rs.length := ho
      have e := idx_getD hnd hi
      have hmem : rs.getD i 0 ∈ rs := idx_mem.1 (by rw [e]; exact hi)
      show μ2 (rs.getD i 0 :: p) = _
      rw [mu_in hmem (.inr (by rw [e]; exact h1)),e]
  have oH : ∀ {j : Nat} {p : Nm},j ∈ rs→(H' (rs.idxOf j :: p)) = Hr (rs.idxOf j :: p) := fun {j p} h => hH' _ _ (idx_mem.2 h)
  have own2 : ∀ {j : Nat} {p : Nm},j ∈ rs→hasB (μ2 (j :: p)) (outH rs m H Hr (j :: p)).ob = true→hasB (μ' (rs.idxOf j :: p)) (H' (rs.idxOf j :: p)).ob = true∧(μ2 (j :: p)).b = (μ' (rs.idxOf j :: p)).b := fun {j p} hj h => by
    simp only [outH,VOb.ren,hasB_ren] at h
    by_cases hi : rs.idxOf j < m∨1≤(μ' (rs.idxOf j :: p)).u
    · rw [mu_in hj hi] at h ⊢
      rw [oH hj]
      exact ⟨by cases hq : (Hr (rs.idxOf j :: p)).ob <;> rw [hq] at h <;> exact h,rfl⟩
    · rcases hv (rs.idxOf j) p (by omega) (idx_mem.2 hj) with e | e
      · rw [e] at h; cases h
      · rw [← oH hj,← hs'.ver] at e; omega
  have blk : ∀ {i : Nat} {p : Nm},hasB (μ' (i :: p)) (H' (i :: p)).ob = true→¬ I' (μ' (i :: p)).b∧(M1 (i :: p) (μ' (i :: p)).b∨w.heap.size≤(μ' (i :: p)).b)∧(μ' (i :: p)).b < w'.heap.size := fun {i p} h => hs'.own _ h
  refine ⟨μ2,hx,⟨?_,hs'.lt,fun b h => hs'.old b (hs.old b h),fun b h => ?_,fun o => ?_,fun o => ?_,fun o o' k k' hne => ?_,fun o k => ?_,hs.mle.trans hle⟩,hrel.ren hr hμ2⟩
  · have k1 := hs.kept
    have k2 := hs'.kept
    refine ⟨k2.os.trans k1.os,k2.tape.trans k1.tape,k2.output.trans k1.output,Nat.le_trans k1.size k2.size,fun b hb hM => ?_⟩
    refine (k2.block b (Nat.lt_of_lt_of_le hb k1.size) (fun ⟨_,i,p,_,q1,q2,q3⟩ => ?_)).trans (k1.block b hb hM)
    rcases (hs.own _ q2).2.1 with g | g
    · rw [← q3] at g; exact hM ⟨_,g⟩
    · rw [← q3] at g; omega
  · rcases hs'.new b h with g | g
    · exact hs.new b g
    · exact .inr (Nat.le_trans hs.kept.size g)
  · cases o with
    | nil => exact hs.ver []
    | cons j p =>
      by_cases hj : j ∈ rs
      · rw [app_in hj]
        show _ = (Hr (rs.idxOf j :: p)).u + δ (rs.idxOf j :: p)
        rw [← oH hj,← hs'.ver]
        by_cases hi : rs.idxOf j < m∨1≤(μ' (rs.idxOf j :: p)).u
        · rw [mu_in hj hi]
        · rw [mu_old hj hi,δ1 (by omega) (idx_mem.2 hj),nmj hj,hs.ver]; omega
      · rw [app_out hj,mu_out hj]; exact hs.ver _
  · cases o with
    | nil => exact OSim.keep hx (fun hb => hs'.kept.block _ (hs.own _ hb).2.2 (notM1 hb rfl (fun j p e => nomatch e))) (hs.ob [])
    | cons j p =>
      by_cases hj : j ∈ rs
      · rw [app_in hj]
        by_cases hi : rs.idxOf j < m∨1≤(μ' (rs.idxOf j :: p)).u
        · rw [mu_in hj hi]
          have := hs'.ob (rs.idxOf j :: p)
          rw [oH hj] at this
          exact this.ren (ho _ _ (idx_mem.2 hj)) hμ2 rfl
        · rcases hv (rs.idxOf j) p (by omega) (idx_mem.2 hj) with e | e
          · simp only [outH,VOb.ren,e]; trivial
          · rw [← oH hj,← hs'.ver] at e; omega
      · rw [app_out hj,mu_out hj]
        exact OSim.keep hx (fun hb => hs'.kept.block _ (hs.own _ hb).2.2 (notM1 hb rfl (fun j' p' e => by cases e; exact hj))) (hs.ob _)
  · have cross : ∀ {j : Nat} {p : Nm} {n : Nm},j ∈ rs→hasB (μ2 (j :: p)) (outH rs m H Hr (j :: p)).ob = true→hasB (μ n) (H n).ob = true→(∀ j p,n = j :: p→j ∉ rs)→(μ2 (j :: p)).b ≠ (μ n).b := fun {j p n} hj h h' hn e => by
      obtain ⟨q1,q2⟩ := own2 hj h
      obtain ⟨_,g,_⟩ := blk q1
      rw [q2] at e
      rcases g with g | g
      · exact notM1 h' e hn ⟨_,g⟩
      · have := (hs.own _ h').2.2; omega
    cases o with
    | nil =>
      cases o' with
      | nil => exact (hne rfl).elim
      | cons j' p' =>
        by_cases hj' : j' ∈ rs
        · rw [app_in hj'] at k'
          exact Ne.symm (cross hj' k' k (fun j p e => nomatch e))
        · rw [app_out hj',mu_out hj'] at k'
          rw [mu_out hj']
          exact hs.apart _ _ k k' hne
    | cons j p =>
      by_cases hj : j ∈ rs
      · rw [app_in hj] at k
        cases o' with
        | nil => exact cross hj k k' (fun j p e => nomatch e)
        | cons j' p' =>
          by_cases hj' : j' ∈ rs
          · rw [app_in hj'] at k'
            obtain ⟨q1,q2⟩ := own2 hj k
            obtain ⟨r1,r2⟩ := own2 hj' k'
            rw [q2,r2]
            refine hs'.apart _ _ q1 r1 (fun e => hne ?_)
            have e1 : rs.idxOf j = rs.idxOf j' := by injection e
            have e2 : p = p' := by injection e
            rw [← getD_idx hj,← getD_idx hj',e1,e2]
          · rw [app_out hj',mu_out hj'] at k'
            rw [mu_out hj']
            exact cross hj k k' (fun j'' p'' e => by cases e; exact hj')
      · rw [app_out hj,mu_out hj] at k
        rw [mu_out hj]
        cases o' with
        | nil => exact hs.apart _ _ k k' hne
        | cons j' p' =>
          by_cases hj' : j' ∈ rs
          · rw [app_in hj'] at k'
            exact Ne.symm (cross hj' k' k (fun j'' p'' e => by cases e; exact hj))
          · rw [app_out hj',mu_out hj'] at k'
            rw [mu_out hj']
            exact hs.apart _ _ k k' hne
  · have far : ∀ {n : Nm},hasB (μ n) (H n).ob = true→¬ I' (μ n).b∧(c.M0 n (μ n).b∨c.w0.heap.size≤(μ n).b)∧(μ n).b < w'.heap.size := fun {n} h => by
      obtain ⟨g1,g2,g3⟩ := hs.own _ h
      refine ⟨fun h' => ?_,g2,Nat.lt_of_lt_of_le g3 hs'.kept.size⟩
      rcases hs'.new _ h' with g | g
      · exact g1 g
      · exact absurd (show w.heap.size≤_ from g) (by omega)
    cases o with
    | nil => exact far k
    | cons j p =>
      by_cases hj : j ∈ rs
      · rw [app_in hj] at k
        obtain ⟨q1,q2⟩ := own2 hj k
        rw [q2]
        obtain ⟨g1,g2,g3⟩ := blk q1
        refine ⟨g1,?_,g3⟩
        rcases g2 with ⟨i,p',r0,r1,r2,r3⟩ | g2
        · have e1 : rs.idxOf j = i := by injection r0
          have e2 : p = p' := by injection r0
          rw [← e1,← e2,nmj hj] at r2 r3
          rw [r3]
          exact (hs.own _ r2).2.1
        · exact .inr (Nat.le_trans hs.kept.size g2)
      · rw [app_out hj,mu_out hj] at k
        rw [mu_out hj]
        exact far k
end Go.G

namespace Go.G
set_option linter.unusedVariables false
set_option linter.unusedSimpArgs false
open Go.RowKit
def mk (P : Program) (t : TypeId) (as' : List A) : A := match P.underlying t with
  | some (.struct _) => .agg as'
  | _ => as'.headD .any
def HasL (R : TypeId→List A→Prop) : List Field→List A→Prop
  | [],as' => as' = []
  | f :: fs,as' => ∃ a b,as' = a ++ b∧R f.type a∧HasL R fs b
def Has (P : Program) : Nat→TypeId→List A→Prop
  | 0,_,_ => False
  | n + 1,t,as' => match P.underlying t with
    | some .bool => ∃ b,as' = [.v (.bool b)]
    | some (.int k) => ∃ m,(Lit.int k m).wf = true∧as' = [.v (.int k m)]
    | some .string => ∃ s,s.size≤maxLen∧s.size≤reachBytes∧as' = [.v (.string s)]
    | some (.slice e) => ∃ f xs,as' = [.sl f xs]∧xs.length≤maxLen∧xs.length * P.bytesOf e≤reachBytes∧(f = true→xs = [])∧∀ x,x ∈ xs→∃ b,Has P n e b∧x = mk P e b
    | some (.struct fs) => HasL (Has P n) fs.toList as'
    | _ => False
def tiles (P : Program) : Nat→List Field→Option Nat
  | off,[] => some off
  | off,f :: fs => if f.offset = off then tiles P (off + P.cellsOf f.type) fs else none
def plainT (P : Program) (S : List TypeId) : Bool := S.all fun t => match P.underlying t with
  | some .bool | some (.int _) | some .string => P.cellsOf t == 1
  | some (.slice e) => P.cellsOf t == 1 && (decide (0 < P.cellsOf e) && S.contains e)
  | some (.struct fs) => tiles P 0 fs.toList == some (P.cellsOf t) && fs.toList.all fun f => S.contains f.type
  | _ => false
theorem list_of {β : Type} {R : Nat→β→Prop} : ∀ {n : Nat},(∀ i,i < n→∃ b,R i b)→∃ l : List β,l.length = n∧∀ (i : Nat) (b : β),l[i]? = some b→R i b
  | 0,_ => ⟨[],rfl,fun i b h => by simp at h⟩
  | n + 1,h => by
    obtain ⟨l,h1,h2⟩ := list_of (n := n) (fun i hi => h i (by omega))
    obtain ⟨b,hb⟩ := h n (by omega)
    refine ⟨l ++ [b],by simp [h1],fun i c hc => ?_⟩
    rw [List.getElem?_append] at hc
    split at hc
    · exact h2 i c hc
    · rename_i hi
      have : i = n := by
        have := (List.getElem?_eq_some_iff.1 hc).1
        simp at this
        omega
      subst this
      simp [h1] at hc
      subst hc
      exact hb
theorem mapM_get {α β : Type} {f : α→Option β} : ∀ {l : List α} {r : List β},l.mapM f = some r→r.length = l.length∧∀ (i : Nat) (a : α),l[i]? = some a→∃ b,f a = some b∧r[i]? = some b
  | [],r,h => by
    simp at h
    subst h
    exact ⟨rfl,fun i a h => by simp at h⟩
  | a :: l,r,h => by
    rw [List.mapM_cons] at h
    simp only [Option.bind_eq_bind,Option.bind_eq_some_iff] at h
    obtain ⟨b,hb,r',hr,h⟩ := h
    cases h
    obtain ⟨h1,h2⟩ := mapM_get hr
    refine ⟨by simp [h1],fun i c hc => ?_⟩
    cases i with
    | zero => simp at hc; subst hc; exact ⟨b,hb,rfl⟩
    | succ i => simpa using h2 i c (by simpa using hc)
theorem cells?_get {w : World} {base : Nat} {a : Addr} {n : Nat} {cs : List Value} (h : w.cells? base a n = some cs) : cs.length = n∧∀ i,i < n→w.cell? (a.add i) = some (cs.getD i undef) := by
  unfold World.cells? at h
  split at h
  · obtain ⟨h1,h2⟩ := mapM_get h
    refine ⟨by simpa using h1,fun i hi => ?_⟩
    obtain ⟨b,hb,hr⟩ := h2 i i (by simp [hi])
    rw [hb]
    simp [List.getD,hr]
  · cases h
theorem mk_cells {P : Program} {n : Nat} {t : TypeId} {as' : List A} (h : Has P n t as') : (mk P t as').cells = as' := by
  cases n with
  | zero => exact h.elim
  | succ n =>
    unfold Has at h
    unfold mk
    split at h
    · rename_i hu; obtain ⟨b,rfl⟩ := h; rw [hu]; rfl
    · rename_i hu; obtain ⟨m,_,rfl⟩ := h; rw [hu]; rfl
    · rename_i hu; obtain ⟨m,_,_,rfl⟩ := h; rw [hu]; rfl
    · rename_i hu; obtain ⟨f,xs,rfl,_⟩ := h; rw [hu]; rfl
    · rename_i hu; rw [hu]; rfl
    · exact h.elim
theorem flat_inv {sz : Nat} (hp : 0 < sz) {xs : List A} {k : Nat} {y : A} (h : ∀ x,x ∈ xs→x.cells.length = sz) (hk : (xs.flatMap A.cells)[k]? = some y) : ∃ x,xs[k / sz]? = some x∧x.cells[k % sz]? = some y := by
  have hl := (List.getElem?_eq_some_iff.1 hk).1
  rw [flat_len h] at hl
  have hi : k / sz < xs.length := by rw [Nat.div_lt_iff_lt_mul hp]; exact hl
  have hj : k % sz < sz := Nat.mod_lt _ hp
  have hx : xs[k / sz]? = some xs[k / sz] := List.getElem?_eq_getElem hi
  have hcl := h _ (List.mem_of_getElem? hx)
  have hz : xs[k / sz].cells[k % sz]? = some (xs[k / sz].cells[k % sz]'(by omega)) := List.getElem?_eq_getElem (by omega)
  have := flat_get h hx hz
  have e : k / sz * sz + k % sz = k := by rw [Nat.mul_comm]; exact Nat.div_add_mod k sz
  rw [e,hk] at this
  exact ⟨_,hx,by rw [hz]; exact this.symm⟩
theorem getD_left {α : Type} {l l' : List α} {k : Nat} {d : α} (h : k < l.length) : (l ++ l').getD k d = l.getD k d := by
  simp [List.getD,List.getElem?_append_left h]
theorem getD_right {α : Type} {l l' : List α} {k : Nat} {d : α} (h : l.length≤k) : (l ++ l').getD k d = l'.getD (k - l.length) d := by
  simp [List.getD,List.getElem?_append_right h]
section
variable {H : Type} {enc : TypeId × Value→H} {P : Program} {w : World} {base : Nat} {sp : Nat→Bool} {held : Bool}
abbrev Old (w : World) (b : Nat) : Prop := b < w.heap.size
def Fits (w : World) (as' : List A) (cs : List Value) : Prop := as'.length = cs.length∧∀ (k : Nat) (y : A),as'[k]? = some y→y.one = true∧Rel w (Old w) mu0 y (cs.getD k undef)
theorem Fits.one {x : A} {v : Value} (h : x.one = true) (hr : Rel w (Old w) mu0 x v) : Fits w [x] [v] := ⟨rfl,fun k y hk => by
  cases k with
  | zero => cases hk; exact ⟨h,hr⟩
  | succ k => simp at hk⟩
theorem Fits.append {as' bs : List A} {cs ds : List Value} (h : Fits w as' cs) (h' : Fits w bs ds) : Fits w (as' ++ bs) (cs ++ ds) := ⟨by simp [h.1,h'.1],fun k y hk => by
  rw [List.getElem?_append] at hk
  split at hk
  · rename_i hl
    have := h.2 k y hk
    rwa [getD_left (by rw [← h.1]; exact hl)]
  · rename_i hl
    have := h'.2 _ y hk
    rw [getD_right (by rw [← h.1]; omega),← h.1]
    exact this⟩
theorem fields_fit {n : Nat} {cs : List Value} (ih : ∀ (t : TypeId) (cs : List Value) x,DataW.trod enc P w base sp held n t cs = some x→P.cellsOf t = cs.length→(∀ m,m ∈ DataW.weights P t x.1→m≤reachBytes)→∀ S,plainT P S = true→t ∈ S→∃ as',Has P n t as'∧Fits w as' cs) {S : List TypeId} (hS : plainT P S = true) :
    ∀ (fs : List Field) (off tot : Nat) xs,(∀ m,m ∈ DataW.weightsEach P (fs.map Field.type) (xs.map (·.1))→m≤reachBytes)→(∀ f,f ∈ fs→f.type ∈ S)→tiles P off fs = some tot→tot = cs.length→(fs.mapM fun f => DataW.trod enc P w base sp held n f.type ((cs.drop f.offset).take (P.cellsOf f.type))) = some xs →
      ∃ as',HasL (Has P n) fs as'∧Fits w as' (cs.drop off)∧off≤tot
  | [],off,tot,xs,_,_,ht,hn,_ => by
    cases ht
    refine ⟨[],rfl,⟨?_,fun k y hk => by simp at hk⟩,Nat.le_refl _⟩
    simp [hn]
  | f :: fs,off,tot,xs,hw,hf,ht,hn,hm => by
    unfold tiles at ht
    split at ht
    · rename_i ho
      rw [List.mapM_cons] at hm
      simp only [Option.bind_eq_bind,Option.bind_eq_some_iff] at hm
      obtain ⟨x,hx,xs',hxs,hq⟩ := hm
      cases hq
      simp only [List.map_cons,DataW.weightsEach,List.mem_append] at hw
      obtain ⟨bs,hb1,hb2,hb3⟩ := fields_fit ih hS fs (off + P.cellsOf f.type) tot xs' (fun m hm => hw m (.inr hm)) (fun g hg => hf g (by simp [hg])) ht hn hxs
      rw [ho] at hx
      obtain ⟨as',ha1,ha2⟩ := ih f.type _ x hx (by simp; omega) (fun m hm => hw m (.inl hm)) S hS (hf f (by simp))
      refine ⟨as' ++ bs,⟨as',bs,rfl,ha1,hb1⟩,?_,by omega⟩
      have e : cs.drop off = (cs.drop off).take (P.cellsOf f.type) ++ cs.drop (off + P.cellsOf f.type) := by
        rw [← List.drop_drop,List.take_append_drop]
      rw [e]
      exact ha2.append hb2
    · cases ht
theorem weightsAll_of {e : TypeId} {d : DataW H} {m : Nat} (h : m ∈ DataW.weights P e d) : ∀ {l : List (DataW H)},d ∈ l→m ∈ DataW.weightsAll P e l
  | x :: l,hd => by
    simp only [DataW.weightsAll,List.mem_append]
    rcases List.mem_cons.1 hd with rfl | hd
    · exact .inl h
    · exact .inr (weightsAll_of h hd)
theorem fits_of_trod : ∀ (n : Nat) (t : TypeId) (cs : List Value) (x : DataW H × List MemPlace),DataW.trod enc P w base sp held n t cs = some x→P.cellsOf t = cs.length→(∀ m,m ∈ DataW.weights P t x.1→m≤reachBytes)→∀ S,plainT P S = true→t ∈ S→∃ as',Has P n t as'∧Fits w as' cs
  | 0,t,cs,x,h,_,_,_,_,_ => by simp [DataW.trod] at h
  | n + 1,t,cs,x,h,hlen,hwt,S,hS,ht => by
    have hT := hS
    unfold plainT at hT
    rw [List.all_eq_true] at hT
    have hT := hT t ht
    have ih := fits_of_trod n
    unfold DataW.trod at h
    split at h
    · rename_i b hu
      exact ⟨[.v (.bool b)],by unfold Has; rw [hu]; exact ⟨b,rfl⟩,Fits.one rfl (.v _ _)⟩
    · rename_i k k' m hu
      split at h
      · rename_i hk
        obtain ⟨rfl,hw⟩ := hk
        exact ⟨[.v (.int k' m)],by unfold Has; rw [hu]; exact ⟨m,hw,rfl⟩,Fits.one rfl (.v _ _)⟩
      · cases h
    · rename_i hu; rw [hu] at hT; cases hT
    · rename_i s hu
      split at h
      · rename_i hs
        cases h
        have hz : s.size≤reachBytes := by
          have := hwt s.data.toList.length (by simp [DataW.weights])
          simpa using this
        exact ⟨[.v (.string s)],by unfold Has; rw [hu]; exact ⟨s,hs,hz,rfl⟩,Fits.one rfl (.v _ _)⟩
      · cases h
    · rename_i hu; rw [hu] at hT; cases hT
    · rename_i hu; rw [hu] at hT; cases hT
    · rename_i e hu
      exact ⟨[.sl true []],by unfold Has; rw [hu]; exact ⟨true,[],rfl,by simp,by simp,fun _ => rfl,fun x hx => by simp at hx⟩,Fits.one rfl (.slN _ _ _ _ (fun _ => rfl))⟩
    · rename_i e a len cap hu
      rw [hu] at hT
      simp only [Bool.and_eq_true,decide_eq_true_eq,beq_iff_eq] at hT
      obtain ⟨_,hpos,heS⟩ := hT
      have heS : e ∈ S := by simpa using heS
      split at h
      · rename_i hb
        obtain ⟨hb0,hb1,hb2⟩ := hb
        simp only [Option.bind_eq_some_iff] at h
        obtain ⟨elems,he,h⟩ := h
        simp only [Option.map_eq_some_iff] at h
        obtain ⟨rest,_,rfl⟩ := h
        simp only [DataW.weights,hu] at hwt
        obtain ⟨he1,he2⟩ := mapM_get he
        have each : ∀ i,i < len→∃ as' : List A,Has P n e as'∧∃ cs,w.cells? base (a.add (i * P.cellsOf e)) (P.cellsOf e) = some cs∧Fits w as' cs := fun i hi => by
          obtain ⟨y,hy,hg⟩ := he2 i i (by simp [hi])
          simp only [Option.bind_eq_some_iff] at hy
          obtain ⟨cs,hc1,hc2⟩ := hy
          obtain ⟨as',h1,h2⟩ := ih e cs y hc2 (cells?_get hc1).1.symm (fun m hm => hwt m (List.mem_cons_of_mem _ (List.mem_append_left _ (weightsAll_of hm (List.mem_map.2 ⟨y,List.mem_of_getElem? hg,rfl⟩))))) S hS heS
          exact ⟨as',h1,cs,hc1,h2⟩
        obtain ⟨l,hl1,hl2⟩ := list_of each
        have hxs : (l.map (mk P e)).length = len := by simpa using hl1
        refine ⟨[.sl false (l.map (mk P e))],by
          unfold Has; rw [hu]
          refine ⟨false,_,rfl,by rw [hxs]; omega,by
            have := hwt _ List.mem_cons_self
            rw [hxs]
            refine Nat.le_trans (Nat.mul_le_mul_right _ ?_) this
            simp at he1 ⊢
            omega,(fun h => nomatch h),fun x hx => ?_⟩
          obtain ⟨b,hb,rfl⟩ := List.mem_map.1 hx
          obtain ⟨i,hi⟩ := List.getElem?_of_mem hb
          exact ⟨b,(hl2 i b hi).1,rfl⟩,Fits.one rfl ?_⟩
        by_cases h0 : len = 0
        · subst h0
          have : l = [] := List.length_eq_zero_iff.1 hl1
          subst this
          exact .slN _ _ _ _ (fun h => by cases h)
        · have hlen2 : ∀ x,x ∈ l.map (mk P e)→x.cells.length = P.cellsOf e := fun x hx => by
            obtain ⟨b,hb,rfl⟩ := List.mem_map.1 hx
            obtain ⟨i,hi⟩ := List.getElem?_of_mem hb
            obtain ⟨k1,cs,k2,k3⟩ := hl2 i b hi
            rw [mk_cells k1,k3.1,(cells?_get k2).1]
          have hspot : a.spot = none∧a.block < w.heap.size := by
            obtain ⟨b,hb⟩ : ∃ b,l[0]? = some b := ⟨_,List.getElem?_eq_getElem (by omega)⟩
            obtain ⟨_,cs,k2,_⟩ := hl2 0 b hb
            have := (cells?_get k2).2 0 hpos
            simp only [Nat.zero_mul,Addr.add,if_true,World.cell?] at this
            split at this
            · rename_i hh
              split at this
              · cases this
              · rename_i hsp
                exact ⟨by simpa using hsp,(Array.getElem?_eq_some_iff.1 hh).1⟩
            · cases this
          obtain ⟨b,off,sp'⟩ := a
          obtain ⟨hsp,hbl⟩ := hspot
          simp only at hsp hbl
          subst hsp
          have main : ∀ (k : Nat) (y : A),((l.map (mk P e)).flatMap A.cells)[k]? = some y→y.one = true∧w.cell? ⟨b,off + k,none⟩ = some ((w.cell? ⟨b,off + k,none⟩).getD undef)∧Rel w (Old w) mu0 y ((w.cell? ⟨b,off + k,none⟩).getD undef) := fun k y hk => by
            obtain ⟨x,hx,hy⟩ := flat_inv hpos hlen2 hk
            rw [List.getElem?_map] at hx
            simp only [Option.map_eq_some_iff] at hx
            obtain ⟨as',ha,rfl⟩ := hx
            obtain ⟨k1,cs,k2,k3⟩ := hl2 _ as' ha
            rw [mk_cells k1] at hy
            have hj : k % P.cellsOf e < P.cellsOf e := Nat.mod_lt _ hpos
            have hc := (cells?_get k2).2 _ hj
            have ea : ((⟨b,off,none⟩ : Addr).add (k / P.cellsOf e * P.cellsOf e)).add (k % P.cellsOf e) = ⟨b,off + k,none⟩ := by
              have := Nat.div_add_mod k (P.cellsOf e)
              rw [Nat.mul_comm] at this
              unfold Addr.add
              split <;> split <;> simp <;> omega
            rw [ea] at hc
            obtain ⟨k4,k5⟩ := k3.2 _ y hy
            exact ⟨k4,by rw [hc]; rfl,by rw [hc]; exact k5⟩
          exact .sl _ false b off len cap (P.cellsOf e) _ (fun k => (w.cell? ⟨b,off + k,none⟩).getD undef) hbl hxs.symm (by omega) (fun h => by cases h) hlen2 (fun k y hk => (main k y hk).1) (fun k y hk => (main k y hk).2.1) (fun k y hk => (main k y hk).2.2)
      · cases h
    · rename_i fs hu
      rw [hu] at hT
      simp only [Bool.and_eq_true,beq_iff_eq,List.all_eq_true] at hT
      split at h
      · simp only [Option.map_eq_some_iff] at h
        obtain ⟨xs,hx,rfl⟩ := h
        simp only [DataW.weights,hu] at hwt
        obtain ⟨as',h1,h2,_⟩ := fields_fit (fun t cs x h hl hw S hS ht => ih t cs x h hl hw S hS ht) hS fs.toList 0 _ xs hwt (fun f hf => by simpa using hT.2 f hf) hT.1 hlen hx
        exact ⟨as',by unfold Has; rw [hu]; exact h1,by simpa using h2⟩
      · cases h
    all_goals first | (rename_i hu; rw [hu] at hT; cases hT; done) | cases h
end
def ArgsHas (P : Program) : List TypeId→List A→Prop
  | [],[] => True
  | t :: ts,a :: as' => (∃ n b,Has P n t b∧a = mk P t b)∧ArgsHas P ts as'
  | _,_ => False
section
open Go.ChangeShapes Go.WideShapes
variable {H : Type} {enc : TypeId × Value→H} {P : Program} {w : World} {base : Nat} {sp : Nat→Bool} {held : Bool}
theorem arg_of_trod {S : List TypeId} (hS : plainT P S = true) {t : TypeId} (ht : t ∈ S) {v : Value} {d : DataW H} {p : List MemPlace} {base' : Nat} (hwt : ∀ m,m ∈ DataW.weights P t d→m≤reachBytes) (h : DataW.Trod enc P w base sp held t v d p) (hv : Value.okWide P w .any base' t v) :
    ∃ n b,Has P n t b∧Rel w (Old w) mu0 (mk P t b) v := by
  obtain ⟨n,hn⟩ := h
  have hT := hS
  unfold plainT at hT
  rw [List.all_eq_true] at hT
  have hT := hT t ht
  have one : ∀ {b : List A},Has P n t b→(mk P t b).cells = [mk P t b]→v.cells.toList = [v]→Fits w b v.cells.toList→Rel w (Old w) mu0 (mk P t b) v := fun {b} hb h1 h2 h3 => by
    have h4 := mk_cells hb
    rw [h1] at h4
    have e : b[0]? = some (mk P t b) := by
      have : [mk P t b][0]? = some (mk P t b) := rfl
      rwa [h4] at this
    have := (h3.2 0 (mk P t b) e).2
    rw [h2] at this
    exact this
  cases hu : P.underlying t with
  | none => rw [hu] at hT; cases hT
  | some ty =>
    rw [hu] at hT
    cases ty with
    | struct fs =>
      simp only [Bool.and_eq_true,beq_iff_eq] at hT
      obtain ⟨cs,rfl,hsz⟩ := okWide_struct hu hv
      obtain ⟨b,hb,hf⟩ := fits_of_trod n t _ _ hn (by show P.cellsOf t = cs.toList.length; simp [hsz]) hwt S hS ht
      refine ⟨n,b,hb,?_⟩
      have : mk P t b = .agg b := by unfold mk; rw [hu]
      rw [this]
      refine .agg _ _ _ ?_ fun k y hk => ?_
      · have := hf.1; simpa [Value.cells] using this.symm
      · have := (hf.2 k y hk).2
        simpa [Value.cells,List.getD,Array.getD_eq_getD_getElem?] using this
    | bool =>
      obtain ⟨q,rfl⟩ := okWide_bool hu hv
      simp only [beq_iff_eq] at hT
      obtain ⟨b,hb,hf⟩ := fits_of_trod n t _ _ hn (by rw [hT]; rfl) hwt S hS ht
      refine ⟨n,b,hb,one hb ?_ rfl hf⟩
      obtain ⟨y,rfl⟩ : ∃ y,b = [y] := List.length_eq_one_iff.1 (by have := hf.1; simpa [Value.cells] using this)
      unfold mk; rw [hu]
      have := mk_cells hb
      unfold mk at this; rw [hu] at this
      exact this
    | int k =>
      obtain ⟨q,rfl⟩ := okWide_int hu hv
      simp only [beq_iff_eq] at hT
      obtain ⟨b,hb,hf⟩ := fits_of_trod n t _ _ hn (by rw [hT]; rfl) hwt S hS ht
      refine ⟨n,b,hb,one hb ?_ rfl hf⟩
      obtain ⟨y,rfl⟩ : ∃ y,b = [y] := List.length_eq_one_iff.1 (by have := hf.1; simpa [Value.cells] using this)
      unfold mk; rw [hu]
      have := mk_cells hb
      unfold mk at this; rw [hu] at this
      exact this
    | string =>
      obtain ⟨q,rfl⟩ := okWide_string hu hv
      simp only [beq_iff_eq] at hT
      obtain ⟨b,hb,hf⟩ := fits_of_trod n t _ _ hn (by rw [hT]; rfl) hwt S hS ht
      refine ⟨n,b,hb,one hb ?_ rfl hf⟩
      obtain ⟨y,rfl⟩ : ∃ y,b = [y] := List.length_eq_one_iff.1 (by have := hf.1; simpa [Value.cells] using this)
      unfold mk; rw [hu]
      have := mk_cells hb
      unfold mk at this; rw [hu] at this
      exact this
    | slice e =>
      obtain ⟨a,l,c,rfl⟩ := okWide_slice hu hv
      simp only [Bool.and_eq_true,beq_iff_eq] at hT
      obtain ⟨b,hb,hf⟩ := fits_of_trod n t _ _ hn (by rw [hT.1]; rfl) hwt S hS ht
      refine ⟨n,b,hb,one hb ?_ rfl hf⟩
      obtain ⟨y,rfl⟩ : ∃ y,b = [y] := List.length_eq_one_iff.1 (by have := hf.1; simpa [Value.cells] using this)
      unfold mk; rw [hu]
      have := mk_cells hb
      unfold mk at this; rw [hu] at this
      exact this
    | _ => simp at hT
theorem args_of_trod {S : List TypeId} (hS : plainT P S = true) {base' : Nat} : ∀ {ts : List TypeId} {vs : List Value} {ds : List (DataW H)} {ps : List MemPlace},(∀ t,t ∈ ts→t ∈ S)→(∀ m,m ∈ DataW.weightsEach P ts ds→m≤reachBytes)→DataW.TrodAll enc P w base sp held ts vs ds ps →
    (∀ (j : Nat) t v,ts[j]? = some t→vs[j]? = some v→Value.okWide P w .any base' t v)→∃ as',as'.length = vs.length∧ArgsHas P ts as'∧∀ (k : Nat) (y : A),as'[k]? = some y→Rel w (Old w) mu0 y (vs.getD k undef)
  | [],_,_,_,_,_,h,_ => by
    obtain ⟨rfl,rfl,rfl⟩ := trodAll_nil h
    exact ⟨[],rfl,trivial,fun k y hk => by simp at hk⟩
  | t :: ts,_,_,_,hts,hwt,h,hv => by
    obtain ⟨v,vs,d,ds,p,q,rfl,rfl,rfl,h1,h2⟩ := trodAll_cons h
    simp only [DataW.weightsEach,List.mem_append] at hwt
    obtain ⟨n,b,hb,hr⟩ := arg_of_trod hS (hts t (by simp)) (fun m hm => hwt m (.inl hm)) h1 (hv 0 t v rfl rfl)
    obtain ⟨as',k1,k2,k3⟩ := args_of_trod hS (fun u hu => hts u (by simp [hu])) (fun m hm => hwt m (.inr hm)) h2 (fun j u x hj hx => hv (j + 1) u x (by simpa using hj) (by simpa using hx))
    refine ⟨mk P t b :: as',by simp [k1],⟨⟨n,b,hb,rfl⟩,k2⟩,fun k y hk => ?_⟩
    cases k with
    | zero => cases hk; exact hr
    | succ k => exact k3 k y (by simpa using hk)
end
end Go.G

namespace Go.G
set_option linter.unusedVariables false
set_option linter.unusedSimpArgs false
open Go.RowKit
@[simp] theorem minmaxA_max {k k' : IntKind} {x y : Int} : minmaxA true [.v (.int k x),.v (.int k' y)] = some (.v (.int k (max x y))) := by
  simp only [minmaxA,if_true]
  congr 3
  split <;> omega
@[simp] theorem minmaxA_min {k k' : IntKind} {x y : Int} : minmaxA false [.v (.int k x),.v (.int k' y)] = some (.v (.int k (min x y))) := by
  simp only [minmaxA,Bool.false_eq_true,if_false]
  congr 3
  split <;> omega
def ov (r : Nat) (F : Nm→VOb) (H : Hp) : Hp
  | j :: p => if j = r then F p else H (j :: p)
  | [] => H []
@[simp] theorem ov_cons {r j : Nat} {p : Nm} {F : Nm→VOb} {H : Hp} : ov r F H (j :: p) = if j = r then F p else H (j :: p) := rfl
@[simp] theorem ov_nil {r : Nat} {F : Nm→VOb} {H : Hp} : ov r F H [] = H [] := rfl
@[simp] theorem updF_ov {r j : Nat} {p : Nm} {F : Nm→VOb} {H : Hp} {x : VOb} : updF (ov r F H) (j :: p) x = if j = r then ov r (updF F p x) H else ov r F (updF H (j :: p) x) := by
  funext o
  cases o with
  | nil =>
    by_cases h : j = r
    · rw [if_pos h]; simp [updF]
    · rw [if_neg h]; simp [updF]
  | cons k q =>
    by_cases h : j = r
    · subst h
      rw [if_pos rfl]
      by_cases hk : k = j
      · subst hk; simp [updF]
      · have : ¬ k :: q = j :: p := fun e => hk (by injection e)
        simp [updF,hk,this]
    · rw [if_neg h]
      by_cases hk : k = r
      · subst hk
        have : ¬ k :: q = j :: p := fun e => h (by injection e with e _; exact e.symm)
        simp [updF,this]
      · simp [updF,hk]
theorem updF_app {α : Type} {F : Nm→α} {d o : Nm} {x : α} : updF F d x o = if o = d then x else F o := rfl
theorem updF_is {α : Type} {F G : Nm→α} {d p : Nm} {x : α} (h : x = G d) (k : p ≠ d→F p = G p) : updF F d x p = G p := by
  rw [updF_app]
  split
  · rename_i e; rw [e]; exact h
  · exact k (by assumption)
def inHp (rs : List Nat) (m : Nat) (H : Hp) : Hp
  | i :: p => if i < m then (H (rs.getD i 0 :: p)).ren (dnN rs) (fun _ => 0) 0 else ⟨0,.none⟩
  | [] => ⟨0,.none⟩
def outG (rs : List Nat) (δ : Nm→Nat) (B Hr : Hp) : Hp
  | j :: p => if rs.contains j = true then (Hr (rs.idxOf j :: p)).ren (upN rs) δ (δ (rs.idxOf j :: p)) else B (j :: p)
  | [] => B []
theorem app_outH {rs : List Nat} {m : Nat} {H Hr : Hp} : (Eff.fn rs (outH rs m H Hr)).app H = outG rs (dlt rs m H) H Hr := by
  funext o
  cases o <;> rfl
def ClosedH (rs : List Nat) (m : Nat) (H : Hp) : Prop := ∀ (j : Nat) (p : Nm),rs.idxOf j < m→(H (j :: p)).ob.refs (inS rs m)
theorem sc_callH {P : Program} {K : Sta→Prop} {rest : List CO} {s : Nat→A} {H : Hp} {dd : Option Nat} {nm : Nm} {ix : Nat} {un : List Nat} {l : Bool} {lg : Lg} {g : FuncId} {as' : Array Operand} {ts : Array TypeId}
    (rs : List Nat) (m : Nat) {args : List A} {Hc Hr H' : Hp} {r x : A} (hS : SpecH P g rs.length args Hc r Hr) (hnd : rs.Nodup) (hm : m≤rs.length)
    (ha : A.renL (dnN rs) (fun _ => 0) (as'.toList.map (evs s)) = args) (har : A.refsL (inS rs m) (as'.toList.map (evs s))) (hH : inHp rs m H = Hc) (hcl : ClosedH rs m H)
    (hr : r.refs (outS rs.length)) (ho : ∀ (i : Nat) (p : Nm),i < rs.length→(Hr (i :: p)).ob.refs (outS rs.length)) (hv : ∀ (i : Nat) (p : Nm),m≤i→i < rs.length→(Hr (i :: p)).ob = .none∨1≤(Hr (i :: p)).u)
    (hx : r.ren (upN rs) (dlt rs m H) = x) (hH' : outG rs (dlt rs m H) H Hr = H') (hck : Ck un lg ⟨[],rs.map fun r => ([r],true)⟩)
    (h : SeqC P K rest (addL l ix ⟨[],rs.map fun r => ([r],true)⟩ lg) (Sta.put ⟨s,H⟩ dd x H')) :
    SeqC P K (⟨dd,.call { callee := .value (.func g),args := as',argTypes := ts },none,nm,ix,un,l⟩ :: rest) lg ⟨s,H⟩ := by
  have hit_in : ∀ {j : Nat} {p : Nm},j ∈ rs→hit (rs.map fun r => ([r],true)) (j :: p) = true := fun {j p} hj => by
    simp only [hit,List.any_map,List.any_eq_true]
    exact ⟨j,hj,by simp [hit1,List.isPrefixOf]⟩
  have hnil : (Eff.fn rs (outH rs m H Hr)).app H = H' := by rw [app_outH]; exact hH'
  subst hx
  rw [← hnil] at h
  refine sc_callh (Eff.fn rs (outH rs m H Hr)) [] (rs.map fun r => ([r],true)) (fun H2 hag => ?_) (fun o H2 ho' => ?_) hck h
  · have ag : ∀ {j : Nat} {p : Nm},j ∈ rs→H2 (j :: p) = H (j :: p) := fun {j p} hj => hag _ (by simpa using hit_in hj)
    have agi : ∀ {i : Nat} {p : Nm},i < rs.length→H2 (rs.getD i 0 :: p) = H (rs.getD i 0 :: p) := fun {i p} hi => ag (by simp [List.getD,hi])
    have hd : dlt rs m H2 = dlt rs m H := by
      funext o
      cases o with
      | nil => rfl
      | cons i p =>
        simp only [dlt]
        by_cases hi : i < rs.length
        · rw [agi hi]
        · rw [if_neg hi,if_neg hi]
    have hoH : outH rs m H2 Hr = outH rs m H Hr := by
      funext o
      cases o with
      | nil => rfl
      | cons j p => simp only [outH,hd]
    subst ha
    have := callOK_of (P := P) (f := g) (rs := rs) (m := m) (args := as'.toList.map (evs s)) (Hc := Hc) (Hr := Hr) (r := r) (H := H2) hnd hm hS
      (fun i p hi => by rw [← hH,agi (by omega)]; simp only [inHp,if_pos hi]) (fun i p hi => by rw [← hH]; simp only [inHp]; rw [if_neg (by omega)]) (by rw [← hH]; rfl) har
      (fun i p hi => by rw [agi (by omega)]; exact hcl _ _ (by rw [idx_getD hnd (by omega)]; exact hi)) hr ho hv
    rwa [hd,hoH] at this
  · cases o with
    | nil => rfl
    | cons j p =>
      have : ¬ j ∈ rs := fun hj => by rw [hit_in hj] at ho'; cases ho'
      simp [Eff.app,this]
end Go.G

namespace Go.PL
set_option linter.unusedVariables false
set_option linter.unusedSimpArgs false
theorem trimW_zero {w : List Int} {n : Nat} (h : n < w.length) (h0 : w[n] = 0) : trimW (w.take (n + 1)) = trimW (w.take n) := by
  rw [List.take_succ_eq_append_getElem h,trimW_snoc,if_pos h0]
theorem trimW_stop {w : List Int} {n : Nat} (h : n < w.length) (h0 : w[n] ≠ 0) : trimW (w.take (n + 1)) = w.take (n + 1) := by
  rw [List.take_succ_eq_append_getElem h,trimW_snoc,if_neg h0]
theorem trimK_zero {w : List T} {n : Nat} (h : n < w.length) (h0 : w[n].kind = 0) : trimK (w.take (n + 1)) = trimK (w.take n) := by
  rw [List.take_succ_eq_append_getElem h,trimK_snoc,if_pos h0]
theorem trimK_stop {w : List T} {n : Nat} (h : n < w.length) (h0 : w[n].kind ≠ 0) : trimK (w.take (n + 1)) = w.take (n + 1) := by
  rw [List.take_succ_eq_append_getElem h,trimK_snoc,if_neg h0]
theorem trimK_map_len (l : List T) : (trimK (l.map norm)).length = (trimK l).length := by
  induction l using snocInd with
  | h0 => rfl
  | h1 l x ih =>
    rw [List.map_append,List.map_cons,List.map_nil,trimK_snoc,trimK_snoc,norm_kind]
    split
    · exact ih
    · simp
theorem trimK_map (l : List T) : trimK (l.map norm) = (l.map norm).take (trimK l).length := by
  rw [← trimK_map_len]; exact trimK_take _
def nW (t : T) : Nat := if t.kind = 1 then (trimW t.words).length else t.words.length
def nK (t : T) : Nat := if t.kind = 1 then (trimK t.kids).length else t.kids.length
theorem nW_le (t : T) : nW t≤t.words.length := by unfold nW; split; exact trimW_le _; exact Nat.le_refl _
theorem nK_le (t : T) : nK t≤t.kids.length := by unfold nK; split; exact trimK_le _; exact Nat.le_refl _
def Bare (t : T) : Prop := t.kind = 0→t.words = []∧t.kids = []
theorem norm_words {t : T} (h : Bare t) : (norm t).words = t.words.take (nW t) := by
  obtain ⟨k,w,l⟩ := t
  rw [norm_mk]
  by_cases h0 : k = 0
  · obtain ⟨a,b⟩ := h h0; simp at a b; subst a b; rw [if_pos h0]; simp
  · rw [if_neg h0]
    by_cases h1 : k = 1
    · subst h1; simp [nW,← trimW_take]
    · simp [h1,nW]
theorem norm_kids {t : T} (h : Bare t) : (norm t).kids = (t.kids.take (nK t)).map norm := by
  obtain ⟨k,w,l⟩ := t
  rw [norm_mk]
  by_cases h0 : k = 0
  · obtain ⟨a,b⟩ := h h0; simp at a b; subst a b; rw [if_pos h0]; simp
  · rw [if_neg h0]
    by_cases h1 : k = 1
    · subst h1; simp [nK,trimK_map,List.map_take]
    · simp [h1,nK]
theorem T.ext' {t u : T} (h1 : t.kind = u.kind) (h2 : t.words = u.words) (h3 : t.kids = u.kids) : t = u := by
  cases t; cases u; simp at h1 h2 h3; rw [h1,h2,h3]
noncomputable def sameB (t u : T) : Bool := by classical exact decide (t = u)
theorem sameB_iff {t u : T} : sameB t u = true ↔ t = u := by simp [sameB]
noncomputable def eqT (t u : T) : Bool := sameB (norm t) (norm u)
theorem eqT_iff {t u : T} : eqT t u = true ↔ norm t = norm u := sameB_iff
end Go.PL

namespace Go.Proofs.YthfiijdbnkaabaaGreat
set_option linter.unusedVariables false
set_option linter.unusedSimpArgs false
open Go Go.G Go.Proofs Go.PL
theorem sc_call_off {P : Program} {K : Sta→Prop} {rest : List CO} {s : Nat→A} {H : Hp} {dd : Option Nat} {k : Nat} {f : Bool} {nm : Nm} {ix : Nat} {un : List Nat} {l : Bool} {lg : Lg} {g : FuncId} {aa : Array Operand} {ts : Array TypeId}
    (hq : wantA (s k) f = some false) (h : SeqC P K rest (addL l ix ⟨[],[]⟩ lg) (Sta.put ⟨s,H⟩ dd (.v undef) H)) :
    SeqC P K (⟨dd,.call { callee := .value (.func g),args := aa,argTypes := ts },some (k,f),nm,ix,un,l⟩ :: rest) lg ⟨s,H⟩ :=
  sc_call_g (q := false) (x := .any) hq (fun e => by cases e) h
abbrev uws (l : List Int) : A := .sl false (l.map uv)
abbrev u8 (n : Int) : A := .v (.int .u8 n)
mutual
def tC : T→List A
  | .mk k w l => [iv k,uws w,.sl false (tCs l)]
def tCs : List T→List A
  | [] => []
  | t :: l => .agg (tC t) :: tCs l
end
def tA (t : T) : A := .agg (tC t)
abbrev tKs (l : List T) : A := .sl false (l.map tA)
abbrev tX (t : T) : A := .agg [iv t.kind,uws t.words,tKs t.kids]
theorem tCs_map : ∀ l,tCs l = l.map tA
  | [] => by rw [tCs]; rfl
  | t :: l => by rw [tCs,tCs_map l]; rfl
theorem tC_eq (t : T) : tC t = [iv t.kind,uws t.words,tKs t.kids] := by cases t; rw [tC,tCs_map]; rfl
@[simp] theorem tA_eq (t : T) : tA t = tX t := by rw [tA,tC_eq]
def wA (w : WE) : A := .agg [iv w.at_,u8 w.mask,uv w.old,uv w.new]
abbrev wX (w : WE) : A := .agg [iv w.at_,u8 w.mask,uv w.old,uv w.new]
@[simp] theorem wA_eq (w : WE) : wA w = wX w := rfl
abbrev wKs (l : List WE) : A := .sl false (l.map wA)
mutual
def eC : E→List A
  | .mk k o n w ks l os => [iv k,iv o.kind,uws o.words,tKs o.kids,iv n.kind,uws n.words,tKs n.kids,wKs w,.sl false (eKs ks),iv l,.sl false (eOs os)]
def eKs : List KE→List A
  | [] => []
  | .mk a e :: l => .agg (iv a :: eC e) :: eKs l
def eOs : List OP→List A
  | [] => []
  | .mk k n t e :: l => .agg (iv k :: iv n :: tKs t :: eC e) :: eOs l
end
def kA (x : KE) : A := .agg (iv x.at_ :: eC x.e)
def oA (x : OP) : A := .agg (iv x.kind :: iv x.n :: tKs x.l :: eC x.e)
abbrev kKs (l : List KE) : A := .sl false (l.map kA)
abbrev oKs (l : List OP) : A := .sl false (l.map oA)
abbrev eL (e : E) : List A := [iv e.kind,iv e.old.kind,uws e.old.words,tKs e.old.kids,iv e.new.kind,uws e.new.words,tKs e.new.kids,wKs e.words,kKs e.kids,iv e.list,oKs e.ops]
abbrev eX (e : E) : A := .agg (eL e)
abbrev kX (x : KE) : A := .agg (iv x.at_ :: eL x.e)
abbrev oX (x : OP) : A := .agg (iv x.kind :: iv x.n :: tKs x.l :: eL x.e)
theorem eKs_map : ∀ l,eKs l = l.map kA
  | [] => by rw [eKs]; rfl
  | .mk a e :: l => by rw [eKs,eKs_map l]; rfl
theorem eOs_map : ∀ l,eOs l = l.map oA
  | [] => by rw [eOs]; rfl
  | .mk k n t e :: l => by rw [eOs,eOs_map l]; rfl
theorem eC_eq (e : E) : eC e = eL e := by cases e; rw [eC,eKs_map,eOs_map]; rfl
@[simp] theorem kA_eq (x : KE) : kA x = kX x := by rw [kA,eC_eq]
@[simp] theorem oA_eq (x : OP) : oA x = oX x := by rw [oA,eC_eq]
@[simp] theorem lens_iv (l : List Int) : lens 1 (l.map iv) = true := by simp [lens]
@[simp] theorem lens_tA (l : List T) : lens 3 (l.map tA) = true := by simp [lens]
@[simp] theorem lens_wA (l : List WE) : lens 4 (l.map wA) = true := by simp [lens]
@[simp] theorem lens_kA (l : List KE) : lens 12 (l.map kA) = true := by simp [lens]
@[simp] theorem lens_oA (l : List OP) : lens 14 (l.map oA) = true := by simp [lens]
theorem lens_all {n : Nat} {l : List A} : lens n l = true ↔ ∀ x,x ∈ l→x.cells.length = n := by simp [lens]
@[simp] theorem lens_take {n k : Nat} {l : List A} (h : lens n l = true) : lens n (l.take k) = true := by
  rw [lens_all] at h ⊢
  exact fun x hx => h x (List.mem_of_mem_take hx)
@[simp] theorem lens_drop {n k : Nat} {l : List A} (h : lens n l = true) : lens n (l.drop k) = true := by
  rw [lens_all] at h ⊢
  exact fun x hx => h x (List.mem_of_mem_drop hx)
theorem frz_row {α : Type} {H : Hp} {o : Nm} {u n sz : Nat} {l : List α} {f : α→A} (h : vr (H o) u = some (sz,l.map f)) (hn : n = l.length) (hf : ∀ x,((f x).cells.length == sz && (f x).cells.all fun y => A.bare1 y && y.one) = true) : Frz H (.osl o u sz 0 n) (.sl false (l.map f)) := by
  subst hn
  have := frz_osl (H := H) (o := o) (u := u) (off := 0) (len := l.length) (sz := sz) (xs := l.map f) (by simpa using h) (by simp) (by
    simp only [List.drop_zero]
    rw [List.take_of_length_le (by simp),List.all_map,List.all_eq_true]
    exact fun x _ => hf x)
  simp [List.take_of_length_le] at this
  exact this
theorem frz_rowT {α : Type} {H : Hp} {o : Nm} {u n sz : Nat} {l : List α} {f : α→A} (h : vr (H o) u = some (sz,l.map f)) (hn : n≤l.length) (hf : ∀ x,((f x).cells.length == sz && (f x).cells.all fun y => A.bare1 y && y.one) = true) : Frz H (.osl o u sz 0 n) (.sl false ((l.take n).map f)) := by
  have := frz_osl (H := H) (o := o) (u := u) (off := 0) (len := n) (sz := sz) (xs := l.map f) (by simpa using h) (by simpa using hn) (by
    simp only [List.drop_zero]
    rw [← List.map_take,List.all_map,List.all_eq_true]
    exact fun x _ => hf x)
  simpa using this
theorem row_succ {α : Type} {f : α→A} {l : List α} {i : Nat} (h : i < l.length) {x : A} (hx : f l[i] = x) : List.take i (List.take i (l.map f)) ++ [x] = (l.take (i + 1)).map f := by
  rw [List.take_take,Nat.min_self,List.take_succ_eq_append_getElem h,List.map_append,List.map_take,← hx]; rfl
theorem frz_T0 {H : Hp} : Frz H (.agg [iv 0,.sl true [],.sl true []]) (tX T0) := frz_agg (by simp; exact ⟨frz_bare rfl,frz_sl,frz_sl⟩)
abbrev i64w (n : Int) : Int := IntKind.i64.wrap n
theorem i64_congr {a b : Int} (h : a % 18446744073709551616 = b % 18446744073709551616) : i64w a = i64w b := by
  unfold i64w; rw [IntKind.wrap_i64,IntKind.wrap_i64]; omega
theorem i64_mod (a : Int) : i64w a % 18446744073709551616 = a % 18446744073709551616 := by
  unfold i64w; rw [IntKind.wrap_i64]; omega
theorem i64_add_l (a b : Int) : IntKind.i64.wrap (IntKind.i64.wrap a + b) = IntKind.i64.wrap (a + b) := i64_congr (by have := i64_mod a; unfold i64w at this; omega)
theorem i64_add_r (a b : Int) : IntKind.i64.wrap (a + IntKind.i64.wrap b) = IntKind.i64.wrap (a + b) := i64_congr (by have := i64_mod b; unfold i64w at this; omega)
theorem i64_sub_l (a b : Int) : IntKind.i64.wrap (IntKind.i64.wrap a - b) = IntKind.i64.wrap (a - b) := i64_congr (by have := i64_mod a; unfold i64w at this; omega)
theorem i64_mul_r (a b : Int) : IntKind.i64.wrap (a * IntKind.i64.wrap b) = IntKind.i64.wrap (a * b) := i64_congr (by rw [Int.mul_emod]; have := i64_mod b; unfold i64w at this; rw [this,← Int.mul_emod])
def i64R (n : Int) : Prop := -9223372036854775808≤n∧n < 9223372036854775808
def u64R (n : Int) : Prop := 0≤n∧n < 18446744073709551616
mutual
def wfT : T→Prop
  | .mk k w l => i64R k∧(∀ x,x ∈ w→u64R x)∧w.length * 8≤140737488355328∧l.length * 56≤140737488355328∧wfTs l
def wfTs : List T→Prop
  | [] => True
  | t :: l => wfT t∧wfTs l
end
theorem wfTs_all : ∀ {l : List T},wfTs l ↔ ∀ t,t ∈ l→wfT t
  | [] => by simp [wfTs]
  | t :: l => by simp [wfTs,wfTs_all (l := l)]
structure WfT (t : T) : Prop where
  k : i64R t.kind
  w : ∀ x,x ∈ t.words→u64R x
  wl : t.words.length * 8≤140737488355328
  kl : t.kids.length * 56≤140737488355328
  ks : ∀ x,x ∈ t.kids→wfT x
theorem wfT_iff {t : T} : wfT t ↔ WfT t := by
  cases t; rw [wfT,wfTs_all]
  exact ⟨fun ⟨a,b,c,d,e⟩ => ⟨a,b,c,d,e⟩,fun ⟨a,b,c,d,e⟩ => ⟨a,b,c,d,e⟩⟩
def WE.wf (w : WE) : Prop := i64R w.at_∧(0≤w.mask∧w.mask < 256)∧u64R w.old∧u64R w.new
mutual
def wfE : E→Prop
  | .mk k o n w ks l os => (i64R k∧i64R l∧wfT o∧wfT n∧(∀ x,x ∈ w→WE.wf x)∧w.length * 32≤140737488355328∧ks.length * 208≤140737488355328∧os.length * 240≤140737488355328)∧wfKs ks∧wfOs os
def wfKs : List KE→Prop
  | [] => True
  | .mk a e :: l => (i64R a∧wfE e)∧wfKs l
def wfOs : List OP→Prop
  | [] => True
  | .mk k n t e :: l => (i64R k∧i64R n∧wfTs t∧t.length * 56≤140737488355328∧wfE e)∧wfOs l
end
structure WfO (x : OP) : Prop where
  k : i64R x.kind
  n : i64R x.n
  l : ∀ t,t ∈ x.l→wfT t
  ll : x.l.length * 56≤140737488355328
  e : wfE x.e
theorem wfKs_all : ∀ {l : List KE},wfKs l ↔ ∀ x,x ∈ l→i64R x.at_∧wfE x.e
  | [] => by simp [wfKs]
  | .mk a e :: l => by simp [wfKs,wfKs_all (l := l)]
theorem wfOs_all : ∀ {l : List OP},wfOs l ↔ ∀ x,x ∈ l→WfO x
  | [] => by simp [wfOs]
  | .mk k n t e :: l => by
    simp only [wfOs,wfOs_all (l := l),wfTs_all,List.forall_mem_cons]
    exact ⟨fun ⟨⟨a,b,c,d,e⟩,h⟩ => ⟨⟨a,b,c,d,e⟩,h⟩,fun ⟨⟨a,b,c,d,e⟩,h⟩ => ⟨⟨a,b,c,d,e⟩,h⟩⟩
structure WfE (e : E) : Prop where
  k : i64R e.kind
  l : i64R e.list
  o : wfT e.old
  n : wfT e.new
  w : ∀ x,x ∈ e.words→WE.wf x
  wl : e.words.length * 32≤140737488355328
  kl : e.kids.length * 208≤140737488355328
  ol : e.ops.length * 240≤140737488355328
  ks : ∀ x,x ∈ e.kids→i64R x.at_∧wfE x.e
  os : ∀ x,x ∈ e.ops→WfO x
theorem wfE_iff {e : E} : wfE e ↔ WfE e := by
  cases e; rw [wfE,wfKs_all,wfOs_all]
  exact ⟨fun ⟨⟨a,b,c,d,e,f,g,h⟩,i,j⟩ => ⟨a,b,c,d,e,f,g,h,i,j⟩,fun ⟨a,b,c,d,e,f,g,h,i,j⟩ => ⟨⟨a,b,c,d,e,f,g,h⟩,i,j⟩⟩
end Go.Proofs.YthfiijdbnkaabaaGreat

namespace Go.Proofs.YthfiijdbnkaabaaGreat
set_option linter.unusedVariables false
set_option linter.unusedSimpArgs false
open Go Go.G Go.Proofs Go.PL
theorem rWidth_spec (c : Int) : G.Spec Tryz.prog 75 [iv c] (iv (widthZ c)) := by
  refine spec_of t_centoref01_Width (by simp) fun w0 I0 => ?_
  unfold c_centoref01_Width
  by_cases h0 : c = 0
  · subst h0; simp; exact frz_is rfl rfl
  by_cases h1 : c = 1
  · subst h1; simp; exact frz_is rfl rfl
  by_cases h2 : c = 2
  · subst h2; simp; exact frz_is rfl rfl
  by_cases h3 : c = 3
  · subst h3; simp; exact frz_is rfl rfl
  by_cases h4 : c = 4
  · subst h4; simp; exact frz_is rfl rfl
  by_cases h5 : c = 5
  · subst h5; simp; exact frz_is rfl rfl
  simp [h0,h1,h2,h3,h4,h5]
  exact frz_is rfl (by simp [widthZ,h0,h1,h2,h3,h4,h5])
theorem widthZ_cases (c : Int) : widthZ c = -1∨widthZ c = 0∨widthZ c = 1∨widthZ c = 8∨widthZ c = 16∨widthZ c = 32∨widthZ c = 64 := by
  unfold widthZ; repeat' split
  all_goals simp
section
variable {n0 : Nat} {w0 : World} {I0 : Nat→Prop} {Q : Exit→Sta→Prop} {H : Hp}
theorem rFits_l1 {w : Int} (hw : w≤64) : ∀ (m : Nat) (x i : Int),0≤x→x < 18446744073709551616→0≤i→i + m = w→(∀ b,Q (.exit 0) ⟨lk [(1,uv (x / 2 ^ m)),(5,iv w),(6,iv w),(13,bv b)],H⟩) →
    LoopC (cx Tryz.prog w0 I0 n0) l1_centoref01_Fits Q ⟨lk [(1,uv x),(5,iv w),(6,iv i)],H⟩ := by
  intro m
  induction m with
  | zero =>
    intro x i h0 h1 h2 h3 hq
    have : i = w := by simpa using h3
    subst this
    refine loopC_once mixed l1_centoref01_Fits.eq_1 ?_
    simp
    simpa using hq _
  | succ m ih =>
    intro x i h0 h1 h2 h3 hq
    refine loopC_once mixed l1_centoref01_Fits.eq_1 ?_
    have hi : i < w := by omega
    simp [hi]
    rw [i64_same (by omega) (by omega),Int.tdiv_eq_ediv_of_nonneg h0,u64_same (by omega) (by omega)]
    exact ih _ _ (by omega) (by omega) (by omega) (by omega) (by rw [pow_half]; exact hq)
end
theorem rFits_spec {c n : Int} (h : u64R n) : G.Spec Tryz.prog 42 [iv c,uv n] (bv (fitsZ c n)) := by
  refine spec_of t_centoref01_Fits (by simp) fun w0 I0 => ?_
  unfold c_centoref01_Fits
  simp
  refine sc_call (rWidth_spec c) rfl ?_
  simp
  have hw := widthZ_cases c
  refine ⟨fun h0 => ?_,fun h0 => ?_⟩
  · refine frz_bool ?_
    simp [fitsZ]; omega
  · refine rFits_l1 (w := widthZ c) (by omega) (widthZ c).toNat n 0 h.1 h.2 (by omega) (by omega) (fun b => ?_)
    simp
    refine frz_bool ?_
    simp [fitsZ,h0]
theorem bitsZ_width (c : Int) : bitsZ c = if widthZ c < 1 then 0 else widthZ c := by
  unfold bitsZ widthZ
  by_cases h0 : c = 0
  · subst h0; rfl
  by_cases h1 : c = 1
  · subst h1; rfl
  by_cases h2 : c = 2
  · subst h2; rfl
  by_cases h3 : c = 3
  · subst h3; rfl
  by_cases h4 : c = 4
  · subst h4; rfl
  by_cases h5 : c = 5
  · subst h5; rfl
  simp [h0,h1,h2,h3,h4,h5]
theorem rRoom_spec (c n : Int) : G.Spec Tryz.prog 111 [iv c,iv n] (iv (roomZ c n)) := by
  refine spec_of t_centoref01_Room (by simp) fun w0 I0 => ?_
  unfold c_centoref01_Room
  simp
  refine sc_call (rWidth_spec c) rfl ?_
  simp
  have hw := widthZ_cases c
  have hb := bitsZ_width c
  refine ⟨fun h0 => ?_,fun a1 a2 a3 => ?_⟩
  · refine frz_int ?_
    unfold roomZ
    split
    · rfl
    · rw [hb,if_pos (by omega)]; simp
  · refine sc_call (rWidth_spec c) rfl ?_
    rw [if_neg (by omega)] at hb
    have hw : widthZ c = 1∨widthZ c = 8∨widthZ c = 16∨widthZ c = 32∨widthZ c = 64 := by omega
    have e : roomZ c n = (n * widthZ c + 63) / 64 := by unfold roomZ; rw [if_neg (by omega),hb]
    rw [e]
    generalize widthZ c = w at *
    simp
    have hq : (64 : Int).tdiv w = 64 / w := Int.tdiv_eq_ediv_of_nonneg (by omega)
    rcases hw with rfl | rfl | rfl | rfl | rfl
    all_goals
      simp [hq,Int.tdiv_eq_ediv_of_nonneg a2,Int.tmod_eq_emod_of_nonneg a2]
      simp (disch := omega) only [i64_same]
      simp
      first
        | exact ⟨fun h => frz_int (by omega),fun h => frz_int (by omega)⟩
        | exact frz_int (by omega)
section
variable {n0 : Nat} {w0 : World} {I0 : Nat→Prop} {Q : Exit→Sta→Prop} {H : Hp}
theorem rSame_l1 {a b : List Int} (hl : a.length = b.length) (hb : a.length * 8≤140737488355328) : ∀ (m i : Nat),i + m = a.length→a.take i = b.take i→(a = b→∀ i q,Q (.exit 0) ⟨lk [(0,uws a),(1,uws b),(5,iv i),(14,bv q)],H⟩)→(a ≠ b→Q .ret ⟨lk [(4,bv false)],H⟩) →
    LoopC (cx Tryz.prog w0 I0 n0) l1_centoref01_Same Q ⟨lk [(0,uws a),(1,uws b),(5,iv i)],H⟩ := by
  intro m
  induction m with
  | zero =>
    intro i hi ht h1 h2
    have : i = a.length := by omega
    subst this
    refine loopC_once mixed l1_centoref01_Same.eq_1 ?_
    simp
    refine h1 ?_ _ _
    rw [List.take_of_length_le (Nat.le_refl _),List.take_of_length_le (by omega)] at ht
    exact ht
  | succ m ih =>
    intro i hi ht h1 h2
    have hlt : i < a.length := by omega
    have hlt' : i < b.length := by omega
    refine loopC_once mixed l1_centoref01_Same.eq_1 ?_
    simp [hlt,hlt']
    refine ⟨fun he => ?_,fun hne => h2 fun e => hne (by subst e; rfl)⟩
    rw [i64_same (by omega) (by omega)]
    refine ih (i + 1) (by omega) ?_ h1 h2
    rw [List.take_succ_eq_append_getElem hlt,List.take_succ_eq_append_getElem hlt',ht,he]
end
theorem rSame_spec (a b : List Int) (hb : a.length * 8≤140737488355328) : G.Spec Tryz.prog 26 [uws a,uws b] (bv (decide (a = b))) := by
  refine spec_of t_centoref01_Same (by simp) fun w0 I0 => ?_
  unfold c_centoref01_Same
  simp
  refine ⟨fun h => ?_,fun h => ?_⟩
  · refine rSame_l1 (by omega) hb a.length 0 (by omega) rfl (fun e i q => ?_) (fun e => ?_)
    · simp
      refine frz_bool ?_
      simp [e]
    · simp
      refine frz_bool ?_
      simp [e]
  · refine frz_bool ?_
    have : ¬ a = b := fun e => h (by rw [e])
    simp [this]
theorem width_spec (c : Int) : G.Spec Tryz.prog 133 [iv c] (.tup [iv (if widthZ c < 0 then 0 else widthZ c),bv (decide (0≤widthZ c))]) := by
  refine spec_of t_word_width (by simp) fun w0 I0 => ?_
  unfold c_word_width
  by_cases h0 : c = 0
  · subst h0; simp; exact frz_is rfl rfl
  by_cases h1 : c = 1
  · subst h1; simp; exact frz_is rfl rfl
  by_cases h2 : c = 2
  · subst h2; simp; exact frz_is rfl rfl
  by_cases h3 : c = 3
  · subst h3; simp; exact frz_is rfl rfl
  by_cases h4 : c = 4
  · subst h4; simp; exact frz_is rfl rfl
  by_cases h5 : c = 5
  · subst h5; simp; exact frz_is rfl rfl
  have hd : (decide (c < 0) || decide (6≤c)) = true := by simp; omega
  simp [hd]
  exact frz_is rfl (by simp [widthZ,h0,h1,h2,h3,h4,h5])
theorem room_spec' (c n : Int) : G.Spec Tryz.prog 130 [iv c,iv n] (iv (roomZ c n)) := by
  refine spec_of t_word_Room (by simp) fun w0 I0 => ?_
  unfold c_word_Room
  simp
  refine sc_call (width_spec c) rfl ?_
  have hw := widthZ_cases c
  have hb := bitsZ_width c
  simp
  refine ⟨fun h0 => ?_,fun a1 a2 a3 => ?_⟩
  · refine frz_int ?_
    unfold roomZ
    split
    · rfl
    · rw [hb,if_pos (by omega)]; simp
  · have e : roomZ c n = (n * widthZ c + 63) / 64 := by
      unfold roomZ; rw [if_neg (by omega),hb]
      split
      · have : widthZ c = 0 := by omega
        simp [this]
      · rfl
    rw [e,if_neg (by omega)]
    generalize widthZ c = w at *
    have hw : w = 0∨w = 1∨w = 8∨w = 16∨w = 32∨w = 64 := by omega
    refine frz_int ?_
    rcases hw with rfl | rfl | rfl | rfl | rfl | rfl
    all_goals
      try simp
      try simp (disch := omega) only [i64_same,Int.tdiv_eq_ediv_of_nonneg]
      try rfl
theorem data_spec (k : Int) : G.Spec Tryz.prog 105 [iv k] (bv (isData k)) := by
  refine spec_of t_tree_Data (by simp) fun w0 I0 => ?_
  unfold c_tree_Data
  simp
  refine frz_bool ?_
  simp [isData]
section
variable {n0 : Nat} {w0 : World} {I0 : Nat→Prop} {Q : Exit→Sta→Prop} {H : Hp}
theorem rTrim_l1 {w : List Int} (hb : w.length * 8≤140737488355328) (hq : ∀ q,Q (.exit 0) ⟨lk [(0,uws w),(3,iv (trimW w).length),(16,bv q)],H⟩) : ∀ (n : Nat),n≤w.length→trimW (w.take n) = trimW w →
    LoopC (cx Tryz.prog w0 I0 n0) l1_centoref07_Trim Q ⟨lk [(0,uws w),(3,iv n)],H⟩ := by
  intro n
  induction n with
  | zero =>
    intro hn ht
    refine loopC_once mixed l1_centoref07_Trim.eq_1 ?_
    simp
    have e : (trimW w).length = 0 := by rw [← ht]; rfl
    have := hq false
    rw [e] at this
    exact this
  | succ n ih =>
    intro hn ht
    have hlt : n < w.length := by omega
    have e : IntKind.i64.wrap (n : Int) = n := i64_same (by omega) (by omega)
    refine loopC_once mixed l1_centoref07_Trim.eq_1 ?_
    by_cases h0 : w[n] = 0
    · simp [e,hlt,h0]
      exact ih (by omega) (by rw [← trimW_zero hlt h0]; exact ht)
    · have e2 : (trimW w).length = n + 1 := by rw [← ht,trimW_stop hlt h0]; simp; omega
      have := hq false
      rw [e2] at this
      simp [e,hlt,h0]
      simpa using this
end
theorem rTrim_spec (w : List Int) (hb : w.length * 8≤140737488355328) : G.Spec Tryz.prog 86 [uws w] (uws (trimW w)) := by
  refine spec_of t_centoref07_Trim (by simp) fun w0 I0 => ?_
  unfold c_centoref07_Trim
  simp
  refine rTrim_l1 hb (fun q => ?_) w.length (Nat.le_refl _) (by rw [List.take_of_length_le (Nat.le_refl _)])
  have hl := trimW_le w
  have hb' : (trimW w).length * 8≤140737488355328 := by omega
  simp [hl]
  refine ⟨hb',?_⟩
  rw [← List.map_take,← trimW_take]
  exact frz_row (by simp) rfl (by simp)
abbrev bys (l : List Int) : List A := l.map u8
def bytesN : Nat→Int→List Int
  | 0,_ => []
  | m + 1,x => x % 256 :: bytesN m (x / 256)
@[simp] theorem bytesN_length : ∀ (m : Nat) (x : Int),(bytesN m x).length = m
  | 0,_ => rfl
  | m + 1,x => by simp [bytesN,bytesN_length m]
theorem splice_set {l : List Int} {i : Nat} {v : Int} (h : i < l.length) : splice (l.map u8) i [u8 v] = (l.set i v).map u8 := by
  apply List.ext_getElem?
  intro j
  simp only [splice,List.length_singleton]
  rw [List.append_assoc,List.map_set]
  by_cases h1 : j < i
  · rw [List.getElem?_append_left (by simp; omega),List.getElem?_take,if_pos h1,List.getElem?_set_ne (by omega)]
  · rw [List.getElem?_append_right (by simp; omega)]
    have e : (List.take i (l.map u8)).length = i := by simp; omega
    rw [e]
    by_cases h2 : j = i
    · subst h2
      rw [List.getElem?_set_self (by simpa using h)]
      simp
    · rw [List.getElem?_set_ne (by omega),List.getElem?_append_right (by simp; omega),List.getElem?_drop]
      congr 1
      simp; omega
theorem splice_at (a : List A) (x v : A) (b : List A) : splice (a ++ x :: b) a.length [v] = a ++ v :: b := by simp [splice]
section
variable {n0 : Nat} {w0 : World} {I0 : Nat→Prop} {Q : Exit→Sta→Prop}
theorem rBytes_l1 : ∀ (m : Nat) (i : Nat) (x : Int) (d : List Int) (H : Hp),0≤x→x < 18446744073709551616→i + m = 8→d.length = i→H [1] = ⟨1,.cells (bys (d ++ List.replicate m 0))⟩→H [0] = ⟨1,.cells (bys (List.replicate 8 0))⟩ →
    (∀ x' q H',H' [1] = ⟨1,.cells (bys (d ++ bytesN m x))⟩→H' [0] = ⟨1,.cells (bys (List.replicate 8 0))⟩→Q (.exit 0) ⟨lk [(0,uv x'),(2,.pob [0] 1 0),(3,.pob [1] 1 0),(4,iv 8),(7,bv q)],H'⟩) →
    LoopC (cx Tryz.prog w0 I0 n0) l1_centoref01_Bytes Q ⟨lk [(0,uv x),(2,.pob [0] 1 0),(3,.pob [1] 1 0),(4,iv i)],H⟩ := by
  intro m
  induction m with
  | zero =>
    intro i x d H h0 h1 hi hd hH hH0 hq
    have : i = 8 := by omega
    subst this
    refine loopC_once mixed l1_centoref01_Bytes.eq_1 ?_
    simp
    exact hq _ _ _ (by simpa [bytesN] using hH) hH0
  | succ m ih =>
    intro i x d H h0 h1 hi hd hH hH0 hq
    refine loopC_once mixed l1_centoref01_Bytes.eq_1 ?_
    have hlt : (i : Int) < 8 := by omega
    simp [hlt,hH]
    refine ⟨by omega,?_⟩
    have ht : x.tmod 256 = x % 256 := Int.tmod_eq_emod_of_nonneg h0
    have e8 : IntKind.u8.wrap (x % 256) = x % 256 := by rw [IntKind.wrap_u8]; omega
    rw [Int.tdiv_eq_ediv_of_nonneg h0,ht,u64_same (by omega) (by omega),e8,i64_same (by omega) (by omega)]
    refine ih (i + 1) (x / 256) (d ++ [x % 256]) _ (by omega) (by omega) (by omega) (by simp [hd]) ?_ (by simp [updF_app,hH0]) (fun x' q H' k1 k0 => hq x' q H' (by rw [k1]; simp [bytesN]) k0)
    simp [updF_app]
    rw [List.replicate_succ,← hd]
    simpa using splice_at (List.map u8 d) (u8 0) (u8 (x % 256)) (List.replicate m (u8 0))
end
def bytesZ (x : Int) : List Int := bytesN 8 x
theorem frz_bytes {H : Hp} {l : List Int} : Frz H (.agg (bys l)) (.agg (bys l)) := frz_bare (by simp)
theorem rBytes_spec {x : Int} (h : u64R x) : G.Spec Tryz.prog 108 [uv x] (.agg (bys (bytesZ x))) := by
  refine spec_of t_centoref01_Bytes (by simp) fun w0 I0 => ?_
  unfold c_centoref01_Bytes
  simp
  refine rBytes_l1 8 0 x [] _ h.1 h.2 rfl rfl (by simp) (by simp) (fun x' q H' h1 h0 => ?_)
  have e : List.take 8 (bys (bytesN 8 x)) = bys (bytesN 8 x) := List.take_of_length_le (by simp)
  simp [h1,h0,updF_app,e]
  exact ⟨by simp [A.ones],frz_bytes⟩
section
variable {n0 : Nat} {w0 : World} {I0 : Nat→Prop} {Q : Exit→Sta→Prop} {H : Hp}
theorem rNamed_l1 {k : Int} (hk : k≤8) : ∀ (m : Nat) (x i : Int),0≤x→x < 256→0≤i→i + m = k→(∀ q,Q (.exit 0) ⟨lk [(0,u8 (x / 2 ^ m)),(1,iv k),(5,iv k),(8,bv q)],H⟩) →
    LoopC (cx Tryz.prog w0 I0 n0) l1_centoref01_Named Q ⟨lk [(0,u8 x),(1,iv k),(5,iv i)],H⟩ := by
  intro m
  induction m with
  | zero =>
    intro x i h0 h1 h2 h3 hq
    have : i = k := by simpa using h3
    subst this
    refine loopC_once mixed l1_centoref01_Named.eq_1 ?_
    simp
    simpa using hq _
  | succ m ih =>
    intro x i h0 h1 h2 h3 hq
    refine loopC_once mixed l1_centoref01_Named.eq_1 ?_
    have hi : i < k := by omega
    simp [hi]
    have e8 : IntKind.u8.wrap (x / 2) = x / 2 := by rw [IntKind.wrap_u8]; omega
    rw [i64_same (by omega) (by omega),Int.tdiv_eq_ediv_of_nonneg h0,e8]
    exact ih _ _ (by omega) (by omega) (by omega) (by omega) (by rw [pow_half]; exact hq)
end
def namedZ (x : Int) (i : Nat) : Bool := decide (x / 2 ^ i % 2 = 1)
theorem rNamed_spec {x : Int} (h0 : 0≤x) (h1 : x < 256) {i : Nat} (hi : i≤8) : G.Spec Tryz.prog 109 [u8 x,iv i] (bv (namedZ x i)) := by
  refine spec_of t_centoref01_Named (by simp) fun w0 I0 => ?_
  unfold c_centoref01_Named
  simp
  refine rNamed_l1 (by omega) i x 0 h0 h1 (by omega) (by omega) (fun q => ?_)
  simp
  refine frz_bool ?_
  have : 0≤x / 2 ^ i := Int.ediv_nonneg h0 (Int.le_of_lt (Int.pow_pos (by decide)))
  rw [Int.tmod_eq_emod_of_nonneg this]
  rfl
def ofZ : List Int→Int
  | [] => 0
  | b :: l => b + 256 * ofZ l
theorem ofZ_range : ∀ (l : List Int),(∀ b,b ∈ l→0≤b∧b < 256)→0≤ofZ l∧ofZ l < 256 ^ l.length
  | [],_ => by simp [ofZ]
  | b :: l,h => by
    have h1 := h b (by simp)
    have h2 := ofZ_range l fun x hx => h x (by simp [hx])
    simp only [ofZ,List.length_cons,Int.pow_succ]
    omega
section
variable {n0 : Nat} {w0 : World} {I0 : Nat→Prop} {Q : Exit→Sta→Prop} {H : Hp}
theorem rOf_l1 {f : Bool} {l : List Int} (hl : l.length = 8) (hr : ∀ b,b ∈ l→0≤b∧b < 256) : ∀ (m : Nat) (x j : Int),m≤8→x = ofZ (l.drop m)→j = (m : Int) - 1→(∀ q,Q (.exit 0) ⟨lk [(0,.sl f (bys l)),(1,iv 0),(5,uv (ofZ l)),(6,iv (-1)),(8,bv q)],H⟩) →
    LoopC (cx Tryz.prog w0 I0 n0) l1_centoref01_Of Q ⟨lk [(0,.sl f (bys l)),(1,iv 0),(5,uv x),(6,iv j)],H⟩ := by
  intro m
  induction m with
  | zero =>
    intro x j hm hx hj hq
    subst hx hj
    refine loopC_once mixed l1_centoref01_Of.eq_1 ?_
    simp
    simpa using hq false
  | succ m ih =>
    intro x j hm hx hj hq
    subst hx hj
    have hlt : m < l.length := by omega
    have hd := ofZ_range (l.drop m) fun b hb => hr b (List.mem_of_mem_drop hb)
    have hp : (256 : Int) ^ (l.drop m).length≤18446744073709551616 := by
      have h2 := Int.ofNat_le.2 (Nat.pow_le_pow_right (n := 256) (by decide) (by simp; omega : (l.drop m).length≤8))
      rw [Int.natCast_pow] at h2
      exact h2
    have e1 : l.drop m = l[m] :: l.drop (m + 1) := List.drop_eq_getElem_cons hlt
    have hb := hr l[m] (List.getElem_mem hlt)
    have ez : ofZ (l.drop m) = l[m] + 256 * ofZ (l.drop (m + 1)) := by rw [e1,ofZ]
    have hd1 := ofZ_range (l.drop (m + 1)) fun b hb => hr b (List.mem_of_mem_drop hb)
    refine loopC_once mixed l1_centoref01_Of.eq_1 ?_
    have em : IntKind.i64.wrap (m : Int) = m := i64_same (by omega) (by omega)
    have hm0 : (0 : Int)≤m := by omega
    have hm8 : (m : Int) < 8 := by omega
    simp [em,hl,hm8,List.getElem?_eq_getElem hlt]
    have e64 : IntKind.u64.wrap l[m] = l[m] := u64_same (by omega) (by omega)
    rw [e64,u64_same (n := ofZ (List.drop (m + 1) l) * 256) (by omega) (by omega),u64_same (by omega) (by omega),i64_same (by omega) (by omega)]
    exact ih _ _ (by omega) (by rw [ez]; omega) rfl hq
end
theorem rOf_spec {f : Bool} {l : List Int} (hl : l.length = 8) (hr : ∀ b,b ∈ l→0≤b∧b < 256) : G.Spec Tryz.prog 110 [.sl f (bys l),iv 0] (uv (ofZ l)) := by
  refine spec_of t_centoref01_Of (by simp) fun w0 I0 => ?_
  unfold c_centoref01_Of
  simp
  refine rOf_l1 hl hr 8 0 7 (Nat.le_refl _) ?_ rfl (fun q => ?_)
  · rw [List.drop_of_length_le (by omega)]; rfl
  · simp
    exact frz_bare rfl
theorem bytesN_range : ∀ (m : Nat) (x : Int),∀ b,b ∈ bytesN m x→0≤b∧b < 256
  | m + 1,x,b,h => by
    rcases List.mem_cons.1 h with rfl | h
    · omega
    · exact bytesN_range m _ b h
def mixL (a b : List Int) (mask : Int) (k : Nat) : List Int := (List.range k).map (fun i => if namedZ mask i = true then b.getD i 0 else a.getD i 0) ++ a.drop k
theorem mixL_length {a b : List Int} {mask : Int} {k : Nat} (h : k≤a.length) : (mixL a b mask k).length = a.length := by simp [mixL]; omega
theorem mixL_succ {a b : List Int} {mask : Int} {k : Nat} (h : k < a.length) : mixL a b mask (k + 1) = if namedZ mask k = true then (mixL a b mask k).set k (b.getD k 0) else mixL a b mask k := by
  unfold mixL
  rw [List.range_succ]
  have e0 : a.drop k = a[k] :: a.drop (k + 1) := List.drop_eq_getElem_cons h
  have e : ((List.range k).map (fun i => if namedZ mask i = true then b.getD i 0 else a.getD i 0)).length = k := by simp
  split
  · rename_i hn
    rw [List.set_append_right _ _ (by omega),e,e0,Nat.sub_self,List.set_cons_zero]
    simp [hn]
  · rename_i hn
    rw [e0]
    simp [hn,List.getElem?_eq_getElem h]
section
variable {n0 : Nat} {w0 : World} {I0 : Nat→Prop} {Q : Exit→Sta→Prop}
theorem rMix_l1 {a b : List Int} {mask : Int} (ha : a.length = 8) (hb : b.length = 8) (h0 : 0≤mask) (h1 : mask < 256) (hq : ∀ q H',H' [0] = ⟨1,.cells (bys (mixL a b mask 8))⟩→Q (.exit 0) ⟨lk [(2,u8 mask),(7,.pob [0] 1 0),(8,.pob [1] 1 0),(9,iv 8),(15,bv q)],H'⟩) : ∀ (m i : Nat) (H : Hp),i + m = 8→H [0] = ⟨1,.cells (bys (mixL a b mask i))⟩→H [1] = ⟨1,.cells (bys b)⟩ →
    LoopC (cx Tryz.prog w0 I0 n0) l1_centoref01_Mix Q ⟨lk [(2,u8 mask),(7,.pob [0] 1 0),(8,.pob [1] 1 0),(9,iv i)],H⟩ := by
  intro m
  induction m with
  | zero =>
    intro i H hi hA hB
    have : i = 8 := by omega
    subst this
    refine loopC_once mixed l1_centoref01_Mix.eq_1 ?_
    simp
    exact hq _ _ hA
  | succ m ih =>
    intro i H hi hA hB
    have hlt : (i : Int) < 8 := by omega
    have hml := mixL_length (a := a) (b := b) (mask := mask) (k := i) (by omega)
    have hia : i < (mixL a b mask i).length := by omega
    have hib : i < b.length := by omega
    refine loopC_once mixed l1_centoref01_Mix.eq_1 ?_
    simp [hlt]
    refine sc_call (rNamed_spec h0 h1 (by omega)) rfl ?_
    have hs := mixL_succ (a := a) (b := b) (mask := mask) (k := i) (by omega)
    cases hn : namedZ mask i with
    | false =>
      simp [hn] at hs
      simp
      rw [i64_same (by omega) (by omega)]
      exact ih (i + 1) H (by omega) (by rw [hs]; exact hA) hB
    | true =>
      simp [hn] at hs
      simp [hlt,hA,hB,List.getElem?_eq_getElem hib]
      refine ⟨by omega,?_⟩
      rw [i64_same (by omega) (by omega)]
      refine ih (i + 1) _ (by omega) ?_ (by simp [updF_app,hB])
      rw [hs]
      simp only [updF_app,if_true]
      rw [splice_set hia]
      simp [List.getElem?_eq_getElem hib]
end
def mixZ (a b mask : Int) : Int := ofZ (mixL (bytesZ a) (bytesZ b) mask 8)
theorem mixL_range {a b mask : Int} {k : Nat} : ∀ x,x ∈ mixL (bytesZ a) (bytesZ b) mask k→0≤x∧x < 256 := by
  have hg : ∀ (y : Int) (i : Nat),0≤(bytesZ y).getD i 0∧(bytesZ y).getD i 0 < 256 := fun y i => by
    rw [List.getD_eq_getElem?_getD]
    cases e : (bytesZ y)[i]? with
    | none => simp
    | some z => exact bytesN_range 8 y z (List.mem_of_getElem? e)
  intro x hx
  rcases List.mem_append.1 hx with hx | hx
  · obtain ⟨i,_,rfl⟩ := List.mem_map.1 hx
    split
    · exact hg b i
    · exact hg a i
  · exact bytesN_range 8 a x (List.mem_of_mem_drop hx)
theorem bytesZ_length (x : Int) : (bytesZ x).length = 8 := bytesN_length 8 x
theorem rMix_spec {a b mask : Int} (ha : u64R a) (hb : u64R b) (h0 : 0≤mask) (h1 : mask < 256) : G.Spec Tryz.prog 78 [uv a,uv b,u8 mask] (uv (mixZ a b mask)) := by
  refine spec_of t_centoref01_Mix (by simp) fun w0 I0 => ?_
  unfold c_centoref01_Mix
  simp
  refine sc_call (rBytes_spec ha) rfl ?_
  simp
  refine sc_call (rBytes_spec hb) rfl ?_
  have l8 := bytesZ_length a
  have m8 := bytesZ_length b
  have o1 : ∀ l : List Int,A.ones (bys l) = true := fun l => by simp [A.ones]
  simp [l8,m8,o1]
  refine rMix_l1 l8 m8 h0 h1 (fun q H' hH => ?_) 8 0 _ (by omega) (by simp [mixL]) (by simp)
  simp
  have lm : (mixL (bytesZ a) (bytesZ b) mask 8).length = 8 := by rw [mixL_length (by omega),l8]
  refine stop_le (le_freezeD (d := [0]) (fun _ h => h) 7 (.pim (bys (mixL (bytesZ a) (bytesZ b) mask 8))) (fun H1 h1 => ?_)) (stop_go ?_)
  · rw [hH] at h1
    exact frz_pob (by simp [getC,h1]) (frzL_bare (by simp)) (o1 _)
  have e : List.take 8 (bys (mixL (bytesZ a) (bytesZ b) mask 8)) = bys (mixL (bytesZ a) (bytesZ b) mask 8) := List.take_of_length_le (by simp [lm])
  simp [lm,e]
  refine sc_call (rOf_spec lm mixL_range) rfl ?_
  simp
  exact frz_bare rfl
end Go.Proofs.YthfiijdbnkaabaaGreat

namespace Go.Proofs.YthfiijdbnkaabaaGreat
set_option linter.unusedVariables false
set_option linter.unusedSimpArgs false
open Go Go.G Go.Proofs Go.PL
@[simp] theorem GtG_shift {q : Bool} {n : Nat} {y : A} {K : A→Prop} : GtG q (A.shift n (gd q y)) K = GtG q (A.shift n y) K := GtG_same fun h => by rw [h]; rfl
theorem soft_uv (l : List Int) : A.softL (l.map uv) = l.map uv := by
  rw [softL_map,List.map_map]; rfl
theorem soft_tA : ∀ t : T,(tA t).soft = tA t := by
  refine T.ind fun k w l ih => ?_
  rw [tA_eq]
  simp only [A.soft,A.softL,T.kind_mk,T.words_mk,T.kids_mk,soft_uv]
  have e : l.map (A.soft ∘ tA) = l.map tA := List.map_congr_left fun t ht => ih t ht
  rw [softL_map,List.map_map,e]
  rfl
theorem soft_tKs (l : List T) : A.softL (l.map tA) = l.map tA := by
  rw [softL_map,List.map_map]
  exact List.map_congr_left fun t _ => soft_tA t
theorem soft_wKs (l : List WE) : A.softL (l.map wA) = l.map wA := by
  rw [softL_map,List.map_map]; rfl
theorem soft_eL : ∀ e : E,A.softL (eL e) = eL e := by
  refine E.ind fun k o n w ks l os ihk iho => ?_
  have h1 : A.softL (ks.map kA) = ks.map kA := by
    rw [softL_map,List.map_map]
    refine List.map_congr_left fun x hx => ?_
    have := ihk x hx
    simp only [Function.comp,kA_eq]
    simp only [A.soft,A.softL] at this ⊢
    simp_all
  have h2 : A.softL (os.map oA) = os.map oA := by
    rw [softL_map,List.map_map]
    refine List.map_congr_left fun x hx => ?_
    have := iho x hx
    simp only [Function.comp,oA_eq]
    simp only [A.soft,A.softL,soft_tKs] at this ⊢
    simp_all
  simp only [A.soft,A.softL,E.kind_mk,E.old_mk,E.new_mk,E.words_mk,E.kids_mk,E.list_mk,E.ops_mk,soft_uv,soft_tKs,soft_wKs,h1,h2]
  rfl
theorem soft_kKs (l : List KE) : A.softL (l.map kA) = l.map kA := by
  rw [softL_map,List.map_map]
  refine List.map_congr_left fun x _ => ?_
  have := soft_eL x.e
  simp only [Function.comp,kA_eq]
  simp only [A.soft,A.softL] at this ⊢
  simp_all
theorem soft_oKs (l : List OP) : A.softL (l.map oA) = l.map oA := by
  rw [softL_map,List.map_map]
  refine List.map_congr_left fun x _ => ?_
  have := soft_eL x.e
  simp only [Function.comp,oA_eq]
  simp only [A.soft,A.softL,soft_tKs] at this ⊢
  simp_all
end Go.Proofs.YthfiijdbnkaabaaGreat

namespace Go.Proofs.YthfiijdbnkaabaaGreat
set_option linter.unusedVariables false
set_option linter.unusedSimpArgs false
set_option maxRecDepth 20000
open Go Go.G Go.Proofs
@[simp] theorem und_4 : Tryz.prog.underlying 4 = some .bool := by kernel_rfl
@[simp] theorem und_23 : Tryz.prog.underlying 23 = some (.slice 25) := by kernel_rfl
@[simp] theorem szT_23 : szT Tryz.prog 23 = some 1 := by kernel_rfl
@[simp] theorem szT_25 : szT Tryz.prog 25 = some 3 := by kernel_rfl
@[simp] theorem aggT_23 : aggT Tryz.prog 23 = some false := by kernel_rfl
@[simp] theorem aggT_25 : aggT Tryz.prog 25 = some true := by kernel_rfl
@[simp] theorem zeroT_25 : zeroT Tryz.prog 25 = some (Value.agg #[Value.int IntKind.i64 0,Value.slice none 0 0,Value.slice none 0 0]) := by kernel_rfl
@[simp] theorem bytesT_25 : bytesT Tryz.prog 25 = some 56 := by kernel_rfl
@[simp] theorem fieldOffT_25_0 : fieldOffT Tryz.prog 25 0 = some 0 := by kernel_rfl
@[simp] theorem fieldOffT_25_1 : fieldOffT Tryz.prog 25 1 = some 1 := by kernel_rfl
@[simp] theorem fieldOffT_25_2 : fieldOffT Tryz.prog 25 2 = some 2 := by kernel_rfl
@[simp] theorem buildA_25 (ps : List (Nat × A)) : buildA Tryz.prog 25 ps = (fillA (fun i => ([(0,1),(1,1),(2,1)] : List (Nat × Nat))[i]?) [A.v (Value.int IntKind.i64 0),A.sl true [],A.sl true []] ps).map A.agg := by kernel_rfl
def l1_centoref07_Right : CC := .seq (sR [mO 78 5,fO 79 25 2 2,lO 80 23 79,oO 81 (bL 80 23),oO 82 (bO .lss 3 78 81 3)] [1,2,5,82] (cD 82 (.skip) (.exit 0))) (.keep [1,2,5] (.seq (.block 1 (sR [fO 85 25 2 2,lO 86 23 85,mO 87 5,oO 88 (iA 23 86 87),lO 89 25 88,oN 6 (.alloc 25) [1],oS (.store 25 (xT 6) (xT 89))] [1,2,5,6] (.seq (sR [lO 90 25 6,mO 91 1,oO 92 (.binOp .sub 3 (xT 91) (nI 1) 3),oO 93 (cL 17 #[(xT 90),(xT 92)] #[25,3]),oO 94 (.unOp .not 4 (xT 93))] [1,2,5,6,94] (cD 94 (sR [oO 4 (.assign (nB false))] [4] (.ret)) (.skip))) (.keep [1,2,5,6] (sR [fO 95 25 2 0,lO 96 3 95,oO 97 (.binOp .geq 3 (xT 96) (nI 2) 3),mO 98 97,oG 99 (fA 25 2 0) 98 true,oG 100 (lD 3 99) 98 true,oG 101 (.binOp .leq 3 (xT 100) (nI 7) 3) 98 true,oO 102 (.pick (xT 98) (xT 101) (nB false)),aO 7 102] [1,2,5,6,7] (sR [mO 103 7,fO 104 25 6 0,lO 105 3 104,oO 106 (.binOp .eql 3 (xT 105) (nI 10) 3),oO 107 (bO .neq 4 103 106 4),mO 108 107,oG 109 (fA 25 2 0) 108 false,oG 110 (lD 3 109) 108 false,oG 111 (.binOp .eql 3 (xT 110) (nI 9) 3) 108 false,oG 112 (mV 111) 108 false,oG 113 (fA 25 6 0) 112 true,oG 114 (lD 3 113) 112 true,oG 115 (.binOp .neq 3 (xT 114) (nI 1) 3) 112 true,oG 116 (.pick (xT 112) (xT 115) (nB false)) 108 false,oO 117 (.pick (xT 108) (nB true) (xT 116)),mO 118 117,oG 119 (mV 7) 118 false,oG 120 (mV 119) 118 false,oG 121 (fA 25 2 0) 120 true,oG 122 (lD 3 121) 120 true,oG 123 (.binOp .sub 3 (xT 122) (nI 2) 3) 120 true,oG 124 (fA 25 6 1) 120 true,oG 125 (lD 22 124) 120 true,oG 126 (.indexAddr 22 (xT 125) (nI 0)) 120 true,oG 127 (lD 60 126) 120 true,oG 128 (cL 42 #[(xT 123),(xT 127)] #[3,60]) 120 true,oG 129 (.unOp .not 4 (xT 128)) 120 true,oG 130 (.pick (xT 120) (xT 129) (nB false)) 118 false,oO 131 (.pick (xT 118) (nB true) (xT 130))] [1,2,5,131] (cD 131 (sR [oO 4 (.assign (nB false))] [4] (.ret)) (.skip)))))))) (.keep [1,2,5] (.reg [mO 83 5,oO 84 (.binOp .add 3 (xT 83) (nI 1) 3),aO 5 84] [1,2,5])))) 
def c_centoref07_Right : CC := sR [oN 2 (.box 25 (xT 0)) [0],oO 4 (.assign (nB false))] [1,2] (.seq (sR [fO 8 25 2 0,lO 9 3 8,oO 10 (.binOp .eql 3 (xT 9) (nI 0) 3)] [1,2,10] (cD 10 (sR [fO 11 25 2 1,lO 12 22 11,oO 13 (bL 12 22),oO 14 (.binOp .eql 3 (xT 13) (nI 0) 3),mO 15 14,oG 16 (fA 25 2 2) 15 true,oG 17 (lD 23 16) 15 true,oG 18 (bL 17 23) 15 true,oG 19 (.binOp .eql 3 (xT 18) (nI 0) 3) 15 true,oO 20 (.pick (xT 15) (xT 19) (nB false)),aO 4 20] [4] (.ret)) (.skip))) (.keep [1,2] (.seq (sR [fO 21 25 2 0,lO 22 3 21,oO 23 (.binOp .eql 3 (xT 22) (nI 10) 3)] [1,2,23] (cD 23 (sR [fO 24 25 2 1,lO 25 22 24,oO 26 (bL 25 22),oO 27 (.binOp .eql 3 (xT 26) (nI 1) 3),mO 28 27,oG 29 (fA 25 2 2) 28 true,oG 30 (lD 23 29) 28 true,oG 31 (bL 30 23) 28 true,oG 32 (.binOp .eql 3 (xT 31) (nI 0) 3) 28 true,oO 33 (.pick (xT 28) (xT 32) (nB false)),aO 4 33] [4] (.ret)) (.skip))) (.keep [1,2] (.seq (sR [fO 34 25 2 0,lO 35 3 34,oO 36 (.binOp .lss 3 (xT 35) (nI 0) 3),mO 37 36,oG 38 (fA 25 2 0) 37 false,oG 39 (lD 3 38) 37 false,oG 40 (.binOp .gtr 3 (xT 39) (nI 10) 3) 37 false,oO 41 (.pick (xT 37) (nB true) (xT 40)),mO 42 41,oG 43 (mV 1) 42 false,oG 44 (.binOp .eql 3 (xT 43) (nI 0) 3) 42 false,oO 45 (.pick (xT 42) (nB true) (xT 44)),mO 46 45,oG 47 (fA 25 2 1) 46 false,oG 48 (lD 22 47) 46 false,oG 49 (bL 48 22) 46 false,oG 50 (.binOp .geq 3 (xT 49) (nI 65536) 3) 46 false,oO 51 (.pick (xT 46) (nB true) (xT 50)),mO 52 51,oG 53 (fA 25 2 0) 52 false,oG 54 (lD 3 53) 52 false,oG 55 (.binOp .eql 3 (xT 54) (nI 1) 3) 52 false,oG 56 (mV 55) 52 false,oG 57 (fA 25 2 2) 56 true,oG 58 (lD 23 57) 56 true,oG 59 (bL 58 23) 56 true,oG 60 (.binOp .geq 3 (xT 59) (nI 65536) 3) 56 true,oG 61 (.pick (xT 56) (xT 60) (nB false)) 52 false,oO 62 (.pick (xT 52) (nB true) (xT 61)),mO 63 62,oG 64 (fA 25 2 2) 63 false,oG 65 (lD 23 64) 63 false,oG 66 (bL 65 23) 63 false,oG 67 (.binOp .geq 3 (xT 66) (nI 1048576) 3) 63 false,oO 68 (.pick (xT 63) (nB true) (xT 67))] [1,2,68] (cD 68 (sR [oO 4 (.assign (nB false))] [4] (.ret)) (.skip))) (.keep [1,2] (.seq (sR [fO 69 25 2 0,lO 70 3 69,oO 71 (.binOp .gtr 3 (xT 70) (nI 1) 3),mO 72 71,oG 73 (fA 25 2 1) 72 true,oG 74 (lD 22 73) 72 true,oG 75 (bL 74 22) 72 true,oG 76 (.binOp .gtr 3 (xT 75) (nI 0) 3) 72 true,oO 77 (.pick (xT 72) (xT 76) (nB false))] [1,2,77] (cD 77 (sR [oO 4 (.assign (nB false))] [4] (.ret)) (.skip))) (.keep [1,2] (.seq (sR [oO 5 (.assign (nI 0))] [1,2,5] (.block 0 (.loop l1_centoref07_Right))) (.keep [] (sR [oO 4 (.assign (nB true))] [4] (.ret))))))))))))
theorem t_centoref07_Right : Txt Tryz.prog 17 132 [(.tmp 4)] c_centoref07_Right := txt_of (code := Tryz.f17.body.getD .ret) mixed (by kernel_rfl) Tryz.func17 (by kernel_rfl) Tryz.ntmps17 (by kernel_rfl) (ls := lsOf c_centoref07_Right) (by kernel_rfl)
def l1_centoref07_Norm : CC := .seq (sR [mO 12 5,fO 13 25 1 2,lO 14 23 13,oO 15 (bL 14 23),oO 16 (bO .lss 3 12 15 3)] [1,2,3,4,5,16] (cD 16 (.skip) (.exit 0))) (.keep [1,2,3,4,5] (.seq (.block 1 (sR [fO 19 25 1 2,lO 20 23 19,mO 21 5,oO 22 (iA 23 20 21),lO 23 25 22,oO 24 (cL 56 #[(xT 23)] #[25]),oN 6 (.alloc 25) [2],oS (.store 25 (xT 6) (xT 24))] [1,2,3,4,5,6] (sR [mO 25 3,lO 26 25 6,oO 27 (.buildSlice 23 1 #[(0,(xT 26))]),oN 28 (bC .append #[(xT 25),(xT 27)] #[23,23]) [3],aO 3 28] [1,2,3,4,5,6] (sR [fO 29 25 6 0,lO 30 3 29,oO 31 (.binOp .neq 3 (xT 30) (nI 0) 3)] [1,2,3,4,5,31] (cD 31 (.reg [mO 32 5,oO 33 (.binOp .add 3 (xT 32) (nI 1) 3),aO 4 33] [1,2,3,4,5]) (.skip)))))) (.keep [1,2,3,4,5] (.reg [mO 17 5,oO 18 (.binOp .add 3 (xT 17) (nI 1) 3),aO 5 18] [1,2,3,4,5])))) 
def c_centoref07_Norm : CC := sR [oN 1 (.box 25 (xT 0)) [0],oN 2 (.alloc 25) [1]] [1,2] (.seq (sR [fO 8 25 1 0,lO 9 3 8,oO 10 (.binOp .eql 3 (xT 9) (nI 0) 3)] [1,2,10] (cD 10 (sR [oO 11 (.build 25 #[]),oS (.store 25 (xT 2) (xT 11))] [2] (.ret)) (.skip))) (.keep [1,2] (sR [oO 3 (.assign nS)] [1,2,3] (sR [oO 4 (.assign (nI 0))] [1,2,3,4] (.seq (sR [oO 5 (.assign (nI 0))] [1,2,3,4,5] (.block 0 (.loop l1_centoref07_Norm))) (.keep [1,2,3,4] (.seq (sR [fO 34 25 1 0,lO 35 3 34,oO 36 (.binOp .eql 3 (xT 35) (nI 1) 3)] [1,2,3,4,36] (cD 36 (sR [fO 37 25 1 1,lO 38 22 37,oO 39 (cL 86 #[(xT 38)] #[22]),mO 40 3,mO 41 4,oO 42 (.slice 23 (xT 40) none (some (xT 41)) none),oO 43 (.build 25 #[(0,(nI 1)),(1,(xT 39)),(2,(xT 42))]),oS (.store 25 (xT 2) (xT 43))] [2] (.ret)) (.skip))) (.keep [1,2,3] (sR [oO 7 (.assign nS)] [1,2,3,7] (sR [mO 44 7,fO 45 25 1 1,lO 46 22 45,oN 47 (bC .append #[(xT 44),(xT 46)] #[22,22]) [4],aO 7 47] [1,2,3,7] (sR [fO 48 25 1 0,lO 49 3 48,mO 50 7,mO 51 3,oO 52 (.build 25 #[(0,(xT 49)),(1,(xT 50)),(2,(xT 51))]),oS (.store 25 (xT 2) (xT 52))] [2] (.ret))))))))))))
theorem t_centoref07_Norm : Txt Tryz.prog 56 53 [(.cell 2 25)] c_centoref07_Norm := txt_of (code := Tryz.f56.body.getD .ret) mixed (by kernel_rfl) Tryz.func56 (by kernel_rfl) Tryz.ntmps56 (by kernel_rfl) (ls := lsOf c_centoref07_Norm) (by kernel_rfl)
def k1_centoref07_Frame : CC := sR [fO 30 25 1 2,lO 31 23 30,mO 32 6,oO 33 (iA 23 31 32),fO 34 25 33 2,lO 35 23 34,oO 36 (bL 35 23),mO 37 5,oO 38 (bO .gtr 3 36 37 3)] [1,4,5,6,38] (cD 38 (.reg [fO 39 25 1 2,lO 40 23 39,mO 41 6,oO 42 (iA 23 40 41),fO 43 25 42 2,lO 44 23 43,oO 45 (bL 44 23),aO 5 45] [1,4,5,6]) (.skip))
def l1_centoref07_Frame : CC := .seq (sR [mO 7 6,fO 8 25 1 2,lO 9 23 8,oO 10 (bL 9 23),oO 11 (bO .lss 3 7 10 3)] [1,4,5,6,11] (cD 11 (.skip) (.exit 0))) (.keep [1,4,5,6] (.seq (.block 1 (.seq (sR [fO 14 25 1 2,lO 15 23 14,mO 16 6,oO 17 (iA 23 15 16),fO 18 25 17 1,lO 19 22 18,oO 20 (bL 19 22),mO 21 4,oO 22 (bO .gtr 3 20 21 3)] [1,4,5,6,22] (cD 22 (.reg [fO 23 25 1 2,lO 24 23 23,mO 25 6,oO 26 (iA 23 24 25),fO 27 25 26 1,lO 28 22 27,oO 29 (bL 28 22),aO 4 29] [1,4,5,6]) (.skip))) (.keep [1,4,5,6] k1_centoref07_Frame))) (.keep [1,4,5,6] (.reg [mO 12 6,oO 13 (.binOp .add 3 (xT 12) (nI 1) 3),aO 6 13] [1,4,5,6])))) 
def c_centoref07_Frame : CC := sR [oN 1 (.box 25 (xT 0)) [0],oO 2 (.assign (nI 0)),oO 3 (.assign (nI 0))] [1] (sR [oO 4 (.assign (nI 0)),oO 5 (.assign (nI 0))] [1,4,5] (.seq (sR [oO 6 (.assign (nI 0))] [1,4,5,6] (.block 0 (.loop l1_centoref07_Frame))) (.keep [4,5] (sR [mO 46 4,mO 47 5,aO 2 46,aO 3 47] [2,3] (.ret)))))
theorem t_centoref07_Frame : Txt Tryz.prog 112 48 [(.tmp 2),(.tmp 3)] c_centoref07_Frame := txt_of (code := Tryz.f112.body.getD .ret) mixed (by kernel_rfl) Tryz.func112 (by kernel_rfl) Tryz.ntmps112 (by kernel_rfl) (ls := lsOf c_centoref07_Frame) (by kernel_rfl)
def l1_centoref07_Size : CC := .seq (sR [mO 61 7,fO 62 25 1 2,lO 63 23 62,mO 64 6,oO 65 (iA 23 63 64),fO 66 25 65 2,lO 67 23 66,oO 68 (bL 67 23),oO 69 (bO .lss 3 61 68 3)] [1,3,6,7,69] (cD 69 (.skip) (.exit 3))) (.keep [1,3,6,7] (.seq (.block 4 (.reg [mO 72 3,fO 73 25 1 2,lO 74 23 73,mO 75 6,oO 76 (iA 23 74 75),fO 77 25 76 2,lO 78 23 77,mO 79 7,oO 80 (iA 23 78 79),lO 81 25 80,oO 82 (cL 80 #[(xT 81)] #[25]),oO 83 (bO .add 3 72 82 3),aO 3 83] [1,3,6,7])) (.reg [mO 70 7,oO 71 (.binOp .add 3 (xT 70) (nI 1) 3),aO 7 71] [1,3,6,7])))
def l2_centoref07_Size : CC := .seq (sR [mO 54 6,fO 55 25 1 2,lO 56 23 55,oO 57 (bL 56 23),oO 58 (bO .lss 3 54 57 3)] [1,3,6,58] (cD 58 (.skip) (.exit 1))) (.keep [1,3,6] (.seq (.block 2 (sR [oO 7 (.assign (nI 0))] [1,3,6,7] (.block 3 (.loop l1_centoref07_Size)))) (.keep [1,3,6] (.reg [mO 59 6,oO 60 (.binOp .add 3 (xT 59) (nI 1) 3),aO 6 60] [1,3,6]))))
def k1_centoref07_Size : CC := cD 25 (sR [fO 32 25 1 0,lO 33 3 32,oO 34 (.binOp .sub 3 (xT 33) (nI 2) 3),fO 35 25 1 2,lO 36 23 35,oO 37 (bL 36 23),oO 38 (cL 111 #[(xT 34),(xT 37)] #[3,3]),aO 2 38] [2] (.ret)) (sR [oO 40 (.binOp .eql 3 (xT 10) (nI 9) 3),aO 39 40] [1,3,39] (cD 39 (sR [lO 42 25 1,oO 43 (cL 112 #[(xT 42)] #[25]),mO 41 43,xO 44 41 0,xO 45 41 1,aO 4 44,aO 5 45] [1,4,5] (sR [fO 46 25 1 2,lO 47 23 46,oO 48 (bL 47 23),mO 49 4,mO 50 5,oO 51 (bO .add 3 49 50 3),oO 52 (bO .mul 3 48 51 3),oO 53 (.binOp .add 3 (nI 1) (xT 52) 3),aO 3 53] [1,3] (.seq (sR [oO 6 (.assign (nI 0))] [1,3,6] (.block 1 (.loop l2_centoref07_Size))) (.keep [3] (sR [mO 84 3,aO 2 84] [2] (.ret)))))) (.skip)))
def l3_centoref07_Size : CC := .seq (sR [mO 85 8,fO 86 25 1 2,lO 87 23 86,oO 88 (bL 87 23),oO 89 (bO .lss 3 85 88 3)] [1,3,8,89] (cD 89 (.skip) (.exit 5))) (.keep [1,3,8] (.seq (.block 6 (.reg [mO 92 3,fO 93 25 1 2,lO 94 23 93,mO 95 8,oO 96 (iA 23 94 95),lO 97 25 96,oO 98 (cL 80 #[(xT 97)] #[25]),oO 99 (bO .add 3 92 98 3),aO 3 99] [1,3,8])) (.reg [mO 90 8,oO 91 (.binOp .add 3 (xT 90) (nI 1) 3),aO 8 91] [1,3,8])))
def k2_centoref07_Size : CC := .seq (sR [oO 8 (.assign (nI 0))] [1,3,8] (.block 5 (.loop l3_centoref07_Size))) (.keep [3] (sR [mO 100 3,aO 2 100] [2] (.ret))) 
def c_centoref07_Size : CC := sR [oN 1 (.box 25 (xT 0)) [0],oO 2 (.assign (nI 0))] [1] (sR [oO 3 (.assign (nI 0))] [1,3] (.seq (sR [fO 9 25 1 0,lO 10 3 9] [1,3,10] (.block 0 (sR [oO 12 (.binOp .eql 3 (xT 10) (nI 1) 3),aO 11 12] [1,3,10,11] (cD 11 (.reg [fO 13 25 1 1,lO 14 22 13,oO 15 (bL 14 22),fO 16 25 1 2,lO 17 23 16,oO 18 (bL 17 23),oO 19 (bO .add 3 15 18 3),aO 3 19] [1,3]) (sR [oO 21 (.binOp .eql 3 (xT 10) (nI 8) 3),aO 20 21] [1,3,10,20] (cD 20 (.reg [fO 22 25 1 2,lO 23 23 22,oO 24 (bL 23 23),aO 3 24] [1,3]) (.seq (sR [oO 26 (.binOp .eql 3 (xT 10) (nI 2) 3),aO 25 26] [1,3,10,25] (cD 25 (.skip) (sR [oO 27 (.binOp .eql 3 (xT 10) (nI 3) 3),aO 25 27] [1,3,10,25] (cD 25 (.skip) (sR [oO 28 (.binOp .eql 3 (xT 10) (nI 4) 3),aO 25 28] [1,3,10,25] (cD 25 (.skip) (sR [oO 29 (.binOp .eql 3 (xT 10) (nI 5) 3),aO 25 29] [1,3,10,25] (cD 25 (.skip) (sR [oO 30 (.binOp .eql 3 (xT 10) (nI 6) 3),aO 25 30] [1,3,10,25] (cD 25 (.skip) (.reg [oO 31 (.binOp .eql 3 (xT 10) (nI 7) 3),aO 25 31] [1,3,10,25]))))))))))) (.keep [1,3,10,25] k1_centoref07_Size)))))))) (.keep [1,3] k2_centoref07_Size)))
theorem t_centoref07_Size : Txt Tryz.prog 80 101 [(.tmp 2)] c_centoref07_Size := txt_of (code := Tryz.f80.body.getD .ret) mixed (by kernel_rfl) Tryz.func80 (by kernel_rfl) Tryz.ntmps80 (by kernel_rfl) (ls := lsOf c_centoref07_Size) (by kernel_rfl)
def l1_centoref07_Same : CC := .seq (sR [mO 28 5,fO 29 25 2 2,lO 30 23 29,oO 31 (bL 30 23),oO 32 (bO .lss 3 28 31 3)] [2,3,5,32] (cD 32 (.skip) (.exit 0))) (.keep [2,3,5] (.seq (.block 1 (sR [fO 35 25 2 2,lO 36 23 35,mO 37 5,oO 38 (iA 23 36 37),lO 39 25 38,fO 40 25 3 2,lO 41 23 40,mO 42 5,oO 43 (iA 23 41 42),lO 44 25 43,oO 45 (cL 14 #[(xT 39),(xT 44)] #[25,25]),oO 46 (.unOp .not 4 (xT 45))] [2,3,5,46] (cD 46 (sR [oO 4 (.assign (nB false))] [4] (.ret)) (.skip)))) (.keep [2,3,5] (.reg [mO 33 5,oO 34 (.binOp .add 3 (xT 33) (nI 1) 3),aO 5 34] [2,3,5])))) 
def c_centoref07_Same : CC := sR [oN 2 (.box 25 (xT 0)) [0],oN 3 (.box 25 (xT 1)) [1],oO 4 (.assign (nB false))] [2,3] (.seq (sR [fO 6 25 2 0,lO 7 3 6,fO 8 25 3 0,lO 9 3 8,oO 10 (bO .neq 3 7 9 3),mO 11 10,oG 12 (fA 25 2 1) 11 false,oG 13 (lD 22 12) 11 false,oG 14 (fA 25 3 1) 11 false,oG 15 (lD 22 14) 11 false,oG 16 (cL 26 #[(xT 13),(xT 15)] #[22,22]) 11 false,oG 17 (.unOp .not 4 (xT 16)) 11 false,oO 18 (.pick (xT 11) (nB true) (xT 17)),mO 19 18,oG 20 (fA 25 2 2) 19 false,oG 21 (lD 23 20) 19 false,oG 22 (bL 21 23) 19 false,oG 23 (fA 25 3 2) 19 false,oG 24 (lD 23 23) 19 false,oG 25 (bL 24 23) 19 false,oG 26 (bO .neq 3 22 25 3) 19 false,oO 27 (.pick (xT 19) (nB true) (xT 26))] [2,3,27] (cD 27 (sR [oO 4 (.assign (nB false))] [4] (.ret)) (.skip))) (.keep [2,3] (.seq (sR [oO 5 (.assign (nI 0))] [2,3,5] (.block 0 (.loop l1_centoref07_Same))) (.keep [] (sR [oO 4 (.assign (nB true))] [4] (.ret))))))
theorem t_centoref07_Same : Txt Tryz.prog 14 47 [(.tmp 4)] c_centoref07_Same := txt_of (code := Tryz.f14.body.getD .ret) mixed (by kernel_rfl) Tryz.func14 (by kernel_rfl) Tryz.ntmps14 (by kernel_rfl) (ls := lsOf c_centoref07_Same) (by kernel_rfl)
def c_centoref07_Equal : CC := sR [oN 2 (.box 25 (xT 0)) [0],oN 3 (.box 25 (xT 1)) [1],oO 4 (.assign (nB false))] [2,3] (sR [lO 5 25 2,⟨some 6,(cL 56 #[(xT 5)] #[25]),none,[],1,[],true⟩,⟨some 7,(lD 25 3),none,[],2,[1],false⟩,oO 8 (cL 56 #[(xT 7)] #[25]),oO 9 (cL 14 #[(xT 6),(xT 8)] #[25,25]),aO 4 9] [4] (.ret))
theorem t_centoref07_Equal : Txt Tryz.prog 43 10 [(.tmp 4)] c_centoref07_Equal := txt_of (code := Tryz.f43.body.getD .ret) mixed (by kernel_rfl) Tryz.func43 (by kernel_rfl) Tryz.ntmps43 (by kernel_rfl) (ls := lsOf c_centoref07_Equal) (by kernel_rfl)
def l1_tree_Frame : CC := sR [oO 12 (bO .lss 3 11 10 3)] [4,5,9,10,11,12] (.seq (cD 12 (.skip) (.exit 0)) (.keep [4,5,9,10,11] (.seq (.block 1 (sR [oO 13 (iA 23 9 11),lO 14 25 13,oN 7 (.alloc 25) [1],oS (.store 25 (xT 7) (xT 14))] [4,5,7,9,10,11] (.reg [mO 15 4,fO 16 25 7 1,lO 17 22 16,oO 18 (bL 17 22),oO 19 (bC .max #[(xT 15),(xT 18)] #[3,3]),mO 20 5,fO 21 25 7 2,lO 22 23 21,oO 23 (bL 22 23),oO 24 (bC .max #[(xT 20),(xT 23)] #[3,3]),aO 4 19,aO 5 24] [4,5,9,10,11]))) (.reg [oO 25 (.binOp .add 3 (xT 11) (nI 1) 3),mO 11 25] [4,5,9,10,11])))) 
def c_tree_Frame : CC := sR [oN 1 (.box 25 (xT 0)) [0],oO 2 (.assign (nI 0)),oO 3 (.assign (nI 0))] [1] (sR [oO 4 (.assign (nI 0)),oO 5 (.assign (nI 0))] [1,4,5] (.seq (sR [fO 8 25 1 2,lO 9 23 8,oO 10 (bL 9 23),oO 11 (.move (nI 0))] [4,5,9,10,11] (.block 0 (.loop l1_tree_Frame))) (.keep [4,5] (sR [mO 26 4,mO 27 5,aO 2 26,aO 3 27] [2,3] (.ret)))))
theorem t_tree_Frame : Txt Tryz.prog 131 28 [(.tmp 2),(.tmp 3)] c_tree_Frame := txt_of (code := Tryz.f131.body.getD .ret) mixed (by kernel_rfl) Tryz.func131 (by kernel_rfl) Tryz.ntmps131 (by kernel_rfl) (ls := lsOf c_tree_Frame) (by kernel_rfl)
def l1_tree_Norm : CC := sR [oO 20 (bO .lss 3 19 18 3)] [1,2,3,17,18,19,20] (.seq (cD 20 (.skip) (.exit 0)) (.keep [1,2,3,17,18,19] (.seq (.block 1 (sR [oO 21 (iA 23 17 19),lO 22 25 21,oN 5 (.alloc 25) [3],oS (.store 25 (xT 5) (xT 22))] [1,2,3,5,17,18,19] (.reg [fO 23 25 3 2,⟨some 24,(lD 23 23),none,[],1,[],true⟩,lO 25 25 5,⟨some 26,(cL 59 #[(xT 25)] #[25]),none,[],3,[1],false⟩,⟨some 27,(.buildSlice 23 1 #[(0,(xT 26))]),none,[],4,[1],false⟩,oN 28 (bC .append #[(xT 24),(xT 27)] #[23,23]) [4],fO 29 25 3 2,oS (.store 23 (xT 29) (xT 28))] [1,2,3,17,18,19]))) (.reg [oO 30 (.binOp .add 3 (xT 19) (nI 1) 3),mO 19 30] [1,2,3,17,18,19]))))
def l2_tree_Norm : CC := .seq (sR [fO 34 25 3 1,lO 35 22 34,oO 36 (bL 35 22),oO 37 (.binOp .gtr 3 (xT 36) (nI 0) 3),mO 38 37,oG 39 (fA 25 3 1) 38 true,oG 40 (lD 22 39) 38 true,oG 41 (fA 25 3 1) 38 true,oG 42 (lD 22 41) 38 true,oG 43 (bL 42 22) 38 true,oG 44 (.binOp .sub 3 (xT 43) (nI 1) 3) 38 true,oG 45 (iA 22 40 44) 38 true,oG 46 (lD 60 45) 38 true,oG 47 (.binOp .eql 60 (xT 46) (.const (.int .u64 0)) 60) 38 true,oO 48 (.pick (xT 38) (xT 47) (nB false))] [2,3,48] (cD 48 (.skip) (.exit 2))) (.keep [2,3] (.block 3 (.reg [fO 49 25 3 1,lO 50 22 49,fO 51 25 3 1,lO 52 22 51,oO 53 (bL 52 22),oO 54 (.binOp .sub 3 (xT 53) (nI 1) 3),oO 55 (.slice 22 (xT 50) none (some (xT 54)) none),fO 56 25 3 1,oS (.store 22 (xT 56) (xT 55))] [2,3])))
def l3_tree_Norm : CC := .seq (sR [fO 57 25 3 2,lO 58 23 57,oO 59 (bL 58 23),oO 60 (.binOp .gtr 3 (xT 59) (nI 0) 3),mO 61 60,oG 62 (fA 25 3 2) 61 true,oG 63 (lD 23 62) 61 true,oG 64 (fA 25 3 2) 61 true,oG 65 (lD 23 64) 61 true,oG 66 (bL 65 23) 61 true,oG 67 (.binOp .sub 3 (xT 66) (nI 1) 3) 61 true,oG 68 (iA 23 63 67) 61 true,oG 69 (fA 25 68 0) 61 true,oG 70 (lD 3 69) 61 true,oG 71 (.binOp .eql 3 (xT 70) (nI 0) 3) 61 true,oO 72 (.pick (xT 61) (xT 71) (nB false))] [2,3,72] (cD 72 (.skip) (.exit 4))) (.keep [2,3] (.block 5 (.reg [fO 73 25 3 2,lO 74 23 73,fO 75 25 3 2,lO 76 23 75,oO 77 (bL 76 23),oO 78 (.binOp .sub 3 (xT 77) (nI 1) 3),oO 79 (.slice 23 (xT 74) none (some (xT 78)) none),fO 80 25 3 2,oS (.store 23 (xT 80) (xT 79))] [2,3]))) 
def c_tree_Norm : CC := sR [oN 1 (.box 25 (xT 0)) [0],oN 2 (.alloc 25) [1]] [1,2] (.seq (sR [fO 6 25 1 0,lO 7 3 6,oO 8 (.binOp .eql 3 (xT 7) (nI 0) 3)] [1,2,8] (cD 8 (sR [oO 9 (.build 25 #[]),oS (.store 25 (xT 2) (xT 9))] [2] (.ret)) (.skip))) (.keep [1,2] (sR [fO 10 25 1 0,⟨some 11,(lD 3 10),none,[],1,[],true⟩,fO 12 25 1 1,⟨some 13,(lD 22 12),none,[],3,[],true⟩,⟨some 14,(cL 66 #[(xT 13)] #[22]),none,[],4,[1],true⟩,oO 15 (.build 25 #[(0,(xT 11)),(1,(xT 14))]),⟨some 3,(.alloc 25),none,[2],6,[1,3,4],false⟩,oS (.store 25 (xT 3) (xT 15))] [1,2,3] (.seq (sR [fO 16 25 1 2,lO 17 23 16,oO 18 (bL 17 23),oO 19 (.move (nI 0))] [1,2,3,17,18,19] (.block 0 (.loop l1_tree_Norm))) (.keep [1,2,3] (.seq (sR [fO 31 25 1 0,lO 32 3 31,oO 33 (.binOp .eql 3 (xT 32) (nI 1) 3)] [2,3,33] (cD 33 (.seq (.block 2 (.loop l2_tree_Norm)) (.keep [2,3] (.block 4 (.loop l3_tree_Norm)))) (.skip))) (.keep [2,3] (sR [lO 81 25 3,oS (.store 25 (xT 2) (xT 81))] [2] (.ret)))))))))
theorem t_tree_Norm : Txt Tryz.prog 59 82 [(.cell 2 25)] c_tree_Norm := txt_of (code := Tryz.f59.body.getD .ret) mixed (by kernel_rfl) Tryz.func59 (by kernel_rfl) Tryz.ntmps59 (by kernel_rfl) (ls := lsOf c_tree_Norm) (by kernel_rfl)
def l1_tree_size : CC := sR [oO 60 (bO .lss 3 59 58 3)] [3,57,58,59,60] (.seq (cD 60 (.skip) (.exit 1)) (.keep [3,57,58,59] (.seq (.block 2 (sR [oO 61 (iA 23 57 59),lO 62 25 61,oN 7 (.alloc 25) [1],oS (.store 25 (xT 7) (xT 62))] [3,7,57,58,59] (.reg [mO 63 3,lO 64 25 7,⟨some 65,(cL 94 #[(xT 64)] #[25]),none,[],2,[],true⟩,fO 66 25 7 1,⟨some 67,(lD 22 66),none,[],4,[2],false⟩,oO 68 (bL 67 22),oO 69 (bO .sub 3 65 68 3),fO 70 25 7 2,⟨some 71,(lD 23 70),none,[],8,[2],false⟩,oO 72 (bL 71 23),oO 73 (bO .sub 3 69 72 3),oO 74 (bO .add 3 63 73 3),aO 3 74] [3,57,58,59]))) (.reg [oO 75 (.binOp .add 3 (xT 59) (nI 1) 3),mO 59 75] [3,57,58,59]))))
def l2_tree_size : CC := sR [oO 81 (bO .lss 3 80 79 3)] [3,78,79,80,81] (.seq (cD 81 (.skip) (.exit 3)) (.keep [3,78,79,80] (.seq (.block 4 (sR [oO 82 (iA 23 78 80),lO 83 25 82,oN 9 (.alloc 25) [2],oS (.store 25 (xT 9) (xT 83))] [3,9,78,79,80] (.reg [mO 84 3,lO 85 25 9,oO 86 (cL 94 #[(xT 85)] #[25]),oO 87 (bO .add 3 84 86 3),aO 3 87] [3,78,79,80]))) (.reg [oO 88 (.binOp .add 3 (xT 80) (nI 1) 3),mO 80 88] [3,78,79,80]))))
def k1_tree_size : CC := .seq (sR [fO 77 25 1 2,lO 78 23 77,oO 79 (bL 78 23),oO 80 (.move (nI 0))] [3,78,79,80] (.block 3 (.loop l2_tree_size))) (.keep [3] (sR [mO 89 3,aO 2 89] [2] (.ret))) 
def c_tree_size : CC := sR [oN 1 (.box 25 (xT 0)) [0],oO 2 (.assign (nI 0))] [1] (sR [oO 3 (.assign (nI 0))] [1,3] (.seq (.block 0 (sR [fO 11 25 1 0,lO 12 3 11,oO 13 (.binOp .eql 3 (xT 12) (nI 1) 3),aO 10 13] [1,3,10] (cD 10 (.reg [fO 14 25 1 1,lO 15 22 14,oO 16 (bL 15 22),fO 17 25 1 2,lO 18 23 17,oO 19 (bL 18 23),oO 20 (bO .add 3 16 19 3),aO 3 20] [1,3]) (sR [fO 22 25 1 0,lO 23 3 22,oO 24 (.binOp .eql 3 (xT 23) (nI 8) 3),aO 21 24] [1,3,21] (cD 21 (.reg [fO 25 25 1 2,lO 26 23 25,oO 27 (bL 26 23),aO 3 27] [1,3]) (sR [fO 29 25 1 0,lO 30 3 29,oO 31 (cL 105 #[(xT 30)] #[3]),aO 28 31] [1,3,28] (cD 28 (sR [fO 32 25 1 0,lO 33 3 32,oO 34 (.binOp .sub 3 (xT 33) (nI 2) 3),fO 35 25 1 2,lO 36 23 35,oO 37 (bL 36 23),oO 38 (cL 130 #[(xT 34),(xT 37)] #[3,3]),aO 2 38] [2] (.ret)) (sR [fO 40 25 1 0,lO 41 3 40,oO 42 (.binOp .eql 3 (xT 41) (nI 9) 3),aO 39 42] [1,3,39] (cD 39 (sR [lO 44 25 1,oO 45 (cL 131 #[(xT 44)] #[25]),mO 43 45,xO 46 43 0,xO 47 43 1,aO 4 46,aO 5 47] [1,4,5] (sR [fO 48 25 1 2,lO 49 23 48,oO 50 (bL 49 23),mO 51 4,mO 52 5,oO 53 (bO .add 3 51 52 3),oO 54 (bO .mul 3 50 53 3),oO 55 (.binOp .add 3 (nI 1) (xT 54) 3),aO 3 55] [1,3] (.seq (sR [fO 56 25 1 2,lO 57 23 56,oO 58 (bL 57 23),oO 59 (.move (nI 0))] [3,57,58,59] (.block 1 (.loop l1_tree_size))) (.keep [3] (sR [mO 76 3,aO 2 76] [2] (.ret)))))) (.skip)))))))))) (.keep [1,3] k1_tree_size)))
theorem t_tree_size : Txt Tryz.prog 94 90 [(.tmp 2)] c_tree_size := txt_of (code := Tryz.f94.body.getD .ret) mixed (by kernel_rfl) Tryz.func94 (by kernel_rfl) Tryz.ntmps94 (by kernel_rfl) (ls := lsOf c_tree_size) (by kernel_rfl)
def c_tree_Size : CC := sR [oN 1 (.box 25 (xT 0)) [0],oO 2 (.assign (nI 0))] [1] (sR [lO 3 25 1,oO 4 (cL 59 #[(xT 3)] #[25]),oO 5 (cL 94 #[(xT 4)] #[25]),aO 2 5] [2] (.ret))
theorem t_tree_Size : Txt Tryz.prog 60 6 [(.tmp 2)] c_tree_Size := txt_of (code := Tryz.f60.body.getD .ret) mixed (by kernel_rfl) Tryz.func60 (by kernel_rfl) Tryz.ntmps60 (by kernel_rfl) (ls := lsOf c_tree_Size) (by kernel_rfl)
end Go.Proofs.YthfiijdbnkaabaaGreat

namespace Go.Proofs.YthfiijdbnkaabaaGreat
set_option linter.unusedVariables false
set_option linter.unusedSimpArgs false
set_option maxRecDepth 20000
open Go Go.G Go.Proofs
@[simp] theorem und_45 : Tryz.prog.underlying 45 = some (.int .i64) := by kernel_rfl
@[simp] theorem szT_54 : szT Tryz.prog 54 = some 1 := by kernel_rfl
@[simp] theorem szT_58 : szT Tryz.prog 58 = some 4 := by kernel_rfl
@[simp] theorem szT_93 : szT Tryz.prog 93 = some 8 := by kernel_rfl
@[simp] theorem szT_111 : szT Tryz.prog 111 = some 7 := by kernel_rfl
@[simp] theorem aggT_54 : aggT Tryz.prog 54 = some false := by kernel_rfl
@[simp] theorem aggT_58 : aggT Tryz.prog 58 = some true := by kernel_rfl
@[simp] theorem aggT_93 : aggT Tryz.prog 93 = some true := by kernel_rfl
@[simp] theorem aggT_111 : aggT Tryz.prog 111 = some true := by kernel_rfl
@[simp] theorem zeroT_58 : zeroT Tryz.prog 58 = some (Value.agg #[Value.int IntKind.i64 0,Value.int IntKind.i64 0,Value.int IntKind.i64 0,Value.int IntKind.i64 0]) := by kernel_rfl
@[simp] theorem zeroT_93 : zeroT Tryz.prog 93 = some (Value.agg #[Value.pointer none,Value.int IntKind.i64 0,Value.int IntKind.i64 0,Value.int IntKind.i64 0,Value.int IntKind.i64 0,Value.int IntKind.i64 0,Value.int IntKind.i64 0,Value.int IntKind.u64 0]) := by kernel_rfl
@[simp] theorem zeroT_111 : zeroT Tryz.prog 111 = some (Value.agg #[Value.int IntKind.i64 0,Value.int IntKind.i64 0,Value.int IntKind.i64 0,Value.int IntKind.i64 0,Value.int IntKind.i64 0,Value.int IntKind.i64 0,Value.int IntKind.u64 0]) := by kernel_rfl
@[simp] theorem fieldOffT_58_0 : fieldOffT Tryz.prog 58 0 = some 0 := by kernel_rfl
@[simp] theorem fieldOffT_58_1 : fieldOffT Tryz.prog 58 1 = some 1 := by kernel_rfl
@[simp] theorem fieldOffT_58_2 : fieldOffT Tryz.prog 58 2 = some 2 := by kernel_rfl
@[simp] theorem fieldOffT_58_3 : fieldOffT Tryz.prog 58 3 = some 3 := by kernel_rfl
@[simp] theorem fieldOffT_93_0 : fieldOffT Tryz.prog 93 0 = some 0 := by kernel_rfl
@[simp] theorem fieldOffT_93_1 : fieldOffT Tryz.prog 93 1 = some 1 := by kernel_rfl
@[simp] theorem fieldOffT_93_2 : fieldOffT Tryz.prog 93 2 = some 2 := by kernel_rfl
@[simp] theorem fieldOffT_93_3 : fieldOffT Tryz.prog 93 3 = some 3 := by kernel_rfl
@[simp] theorem fieldOffT_93_4 : fieldOffT Tryz.prog 93 4 = some 4 := by kernel_rfl
@[simp] theorem fieldOffT_93_5 : fieldOffT Tryz.prog 93 5 = some 5 := by kernel_rfl
@[simp] theorem fieldOffT_93_6 : fieldOffT Tryz.prog 93 6 = some 6 := by kernel_rfl
@[simp] theorem fieldOffT_93_7 : fieldOffT Tryz.prog 93 7 = some 7 := by kernel_rfl
@[simp] theorem fieldOffT_111_0 : fieldOffT Tryz.prog 111 0 = some 0 := by kernel_rfl
@[simp] theorem fieldOffT_111_1 : fieldOffT Tryz.prog 111 1 = some 1 := by kernel_rfl
@[simp] theorem fieldOffT_111_2 : fieldOffT Tryz.prog 111 2 = some 2 := by kernel_rfl
@[simp] theorem fieldOffT_111_3 : fieldOffT Tryz.prog 111 3 = some 3 := by kernel_rfl
@[simp] theorem fieldOffT_111_4 : fieldOffT Tryz.prog 111 4 = some 4 := by kernel_rfl
@[simp] theorem fieldOffT_111_5 : fieldOffT Tryz.prog 111 5 = some 5 := by kernel_rfl
@[simp] theorem fieldOffT_111_6 : fieldOffT Tryz.prog 111 6 = some 6 := by kernel_rfl
@[simp] theorem buildA_58 (ps : List (Nat × A)) : buildA Tryz.prog 58 ps = (fillA (fun i => ([(0,1),(1,1),(2,1),(3,1)] : List (Nat × Nat))[i]?) [A.v (Value.int IntKind.i64 0),A.v (Value.int IntKind.i64 0),A.v (Value.int IntKind.i64 0),A.v (Value.int IntKind.i64 0)] ps).map A.agg := by kernel_rfl
@[simp] theorem buildA_93 (ps : List (Nat × A)) : buildA Tryz.prog 93 ps = (fillA (fun i => ([(0,1),(1,1),(2,1),(3,1),(4,1),(5,1),(6,1),(7,1)] : List (Nat × Nat))[i]?) [A.v (Value.pointer none),A.v (Value.int IntKind.i64 0),A.v (Value.int IntKind.i64 0),A.v (Value.int IntKind.i64 0),A.v (Value.int IntKind.i64 0),A.v (Value.int IntKind.i64 0),A.v (Value.int IntKind.i64 0),A.v (Value.int IntKind.u64 0)] ps).map A.agg := by kernel_rfl
@[simp] theorem buildA_111 (ps : List (Nat × A)) : buildA Tryz.prog 111 ps = (fillA (fun i => ([(0,1),(1,1),(2,1),(3,1),(4,1),(5,1),(6,1)] : List (Nat × Nat))[i]?) [A.v (Value.int IntKind.i64 0),A.v (Value.int IntKind.i64 0),A.v (Value.int IntKind.i64 0),A.v (Value.int IntKind.i64 0),A.v (Value.int IntKind.i64 0),A.v (Value.int IntKind.i64 0),A.v (Value.int IntKind.u64 0)] ps).map A.agg := by kernel_rfl
def c_reader_Ref_Kind : CC := sR [oN 1 (.box 93 (xT 0)) [0],oO 2 (.assign (nI 0))] [1] (sR [fO 3 93 1 1,lO 4 3 3,aO 2 4] [2] (.ret))
theorem t_reader_Ref_Kind : Txt Tryz.prog 101 5 [(.tmp 2)] c_reader_Ref_Kind := txt_of (code := Tryz.f101.body.getD .ret) mixed (by kernel_rfl) Tryz.func101 (by kernel_rfl) Tryz.ntmps101 (by kernel_rfl) (ls := lsOf c_reader_Ref_Kind) (by kernel_rfl)
def c_reader_Ref_Words : CC := sR [oN 1 (.box 93 (xT 0)) [0],oO 2 (.assign (nI 0))] [1] (.seq (sR [fO 3 93 1 1,lO 4 3 3] [1,4] (.block 0 (sR [oO 6 (.binOp .eql 3 (xT 4) (nI 1) 3),aO 5 6] [1,4,5] (cD 5 (sR [fO 7 93 1 4,lO 8 3 7,aO 2 8] [2] (.ret)) (sR [oO 10 (.binOp .eql 3 (xT 4) (nI 10) 3),aO 9 10] [9] (cD 9 (sR [oO 2 (.assign (nI 1))] [2] (.ret)) (.skip))))))) (.keep [] (sR [oO 2 (.assign (nI 0))] [2] (.ret))))
theorem t_reader_Ref_Words : Txt Tryz.prog 137 11 [(.tmp 2)] c_reader_Ref_Words := txt_of (code := Tryz.f137.body.getD .ret) mixed (by kernel_rfl) Tryz.func137 (by kernel_rfl) Tryz.ntmps137 (by kernel_rfl) (ls := lsOf c_reader_Ref_Words) (by kernel_rfl)
def c_reader_Ref_Kids : CC := sR [oN 1 (.box 93 (xT 0)) [0],oO 2 (.assign (nI 0))] [1] (.seq (sR [fO 3 93 1 1,lO 4 3 3,oO 5 (.binOp .eql 3 (xT 4) (nI 1) 3)] [1,5] (cD 5 (sR [fO 6 93 1 5,lO 7 3 6,aO 2 7] [2] (.ret)) (.skip))) (.keep [1] (sR [fO 8 93 1 6,lO 9 3 8,aO 2 9] [2] (.ret))))
theorem t_reader_Ref_Kids : Txt Tryz.prog 102 10 [(.tmp 2)] c_reader_Ref_Kids := txt_of (code := Tryz.f102.body.getD .ret) mixed (by kernel_rfl) Tryz.func102 (by kernel_rfl) Tryz.ntmps102 (by kernel_rfl) (ls := lsOf c_reader_Ref_Kids) (by kernel_rfl)
def c_reader_Ref_Word : CC := sR [oN 2 (.box 93 (xT 0)) [0],oO 4 (.assign (.const (.int .u64 0)))] [1,2] (.seq (sR [mO 7 1,oO 8 (.binOp .lss 3 (xT 7) (nI 0) 3),mO 9 8,oG 10 (mV 1) 9 false,oG 11 (lD 93 2) 9 false,oG 12 (cL 137 #[(xT 11)] #[93]) 9 false,oG 13 (bO .geq 3 10 12 3) 9 false,oO 14 (.pick (xT 9) (nB true) (xT 13))] [1,2,14] (cD 14 (sR [oO 4 (.assign (.const (.int .u64 0)))] [4] (.ret)) (.skip))) (.keep [1,2] (.seq (sR [fO 15 93 2 1,lO 16 3 15,oO 17 (.binOp .eql 3 (xT 16) (nI 10) 3)] [1,2,17] (cD 17 (sR [fO 18 93 2 7,lO 19 60 18,aO 4 19] [4] (.ret)) (.skip))) (.keep [1,2] (sR [fO 21 93 2 0,lO 22 54 21,fO 23 93 2 2,lO 24 3 23,fO 25 93 2 3,lO 26 3 25,mO 27 1,oO 28 (bO .add 3 26 27 3),oO 29 (cL 155 #[(xT 22),(xT 24),(xT 28)] #[54,3,3]),mO 20 29,xO 30 20 0,xO 31 20 1,aO 5 30,aO 6 31] [5] (sR [mO 32 5,aO 4 32] [4] (.ret)))))))
theorem t_reader_Ref_Word : Txt Tryz.prog 145 33 [(.tmp 4)] c_reader_Ref_Word := txt_of (code := Tryz.f145.body.getD .ret) mixed (by kernel_rfl) Tryz.func145 (by kernel_rfl) Tryz.ntmps145 (by kernel_rfl) (ls := lsOf c_reader_Ref_Word) (by kernel_rfl)
def c_reader_Ref_atom : CC := sR [oN 2 (.box 93 (xT 0)) [0],oO 4 (.assign (.const (.int .u64 0)))] [1,2] (sR [fO 11 93 2 1,lO 12 3 11,oO 13 (.binOp .sub 3 (xT 12) (nI 2) 3),aO 5 13] [1,2,5] (sR [mO 15 5,oO 16 (cL 165 #[(xT 15)] #[3]),mO 14 16,xO 17 14 0,xO 18 14 1,aO 6 17,aO 7 18] [1,2,5,6] (.seq (sR [mO 19 6,oO 20 (.binOp .eql 3 (xT 19) (nI 0) 3)] [1,2,5,6,20] (cD 20 (sR [oO 4 (.assign (.const (.int .u64 0)))] [4] (.ret)) (.skip))) (.keep [1,2,5,6] (sR [mO 21 6,oO 22 (.binOp .quo 3 (nI 64) (xT 21) 3),aO 8 22] [1,2,5,8] (sR [fO 24 93 2 0,lO 25 54 24,fO 26 93 2 2,lO 27 3 26,fO 28 93 2 3,lO 29 3 28,mO 30 1,mO 31 8,oO 32 (bO .quo 3 30 31 3),oO 33 (bO .add 3 29 32 3),oO 34 (cL 155 #[(xT 25),(xT 27),(xT 33)] #[54,3,3]),mO 23 34,xO 35 23 0,xO 36 23 1,aO 9 35,aO 10 36] [1,5,8,9] (sR [mO 37 9,oO 38 (.buildSlice 22 1 #[(0,(xT 37))]),mO 39 5,mO 40 1,mO 41 8,oO 42 (bO .rem 3 40 41 3),oO 43 (cL 166 #[(xT 38),(xT 39),(xT 42)] #[22,3,3]),aO 4 43] [4] (.ret))))))))
theorem t_reader_Ref_atom : Txt Tryz.prog 158 44 [(.tmp 4)] c_reader_Ref_atom := txt_of (code := Tryz.f158.body.getD .ret) mixed (by kernel_rfl) Tryz.func158 (by kernel_rfl) Tryz.ntmps158 (by kernel_rfl) (ls := lsOf c_reader_Ref_atom) (by kernel_rfl)
def c_reader_At : CC := sR [oN 6 (.alloc 93) [0],oO 7 (.assign (nI 0))] [0,1,2,6] (sR [mO 12 0,mO 13 1,mO 14 2,oO 15 (cL 135 #[(xT 12),(xT 13),(xT 14)] #[54,3,3]),mO 11 15,xO 16 11 0,xO 17 11 1,oN 8 (.alloc 153) [1],oS (.store 153 (xT 8) (xT 16)),aO 9 17] [0,6,8,9] (.seq (sR [mO 18 9,oO 19 (.binOp .neq 45 (xT 18) (nI 0) 45),mO 20 19,oG 21 (fA 153 8 0) 20 false,oG 22 (fA 121 21 0) 20 false,oG 23 (lD 3 22) 20 false,oG 24 (.binOp .eql 3 (xT 23) (nI 0) 3) 20 false,oO 25 (.pick (xT 20) (nB true) (xT 24))] [0,6,8,9,25] (cD 25 (sR [oO 26 (.build 93 #[]),mO 27 9,oS (.store 93 (xT 6) (xT 26)),aO 7 27] [6,7] (.ret)) (.skip))) (.keep [0,6,8] (sR [mO 28 0,fO 29 153 8 1,lO 30 3 29,fO 31 153 8 2,lO 32 3 31,oO 33 (.build 93 #[(0,(xT 28)),(2,(xT 30)),(3,(xT 32))]),oN 10 (.alloc 93) [2],oS (.store 93 (xT 10) (xT 33))] [6,8,10] (.seq (.block 0 (sR [fO 42 153 8 0,fO 43 121 42 0,lO 44 3 43,oO 45 (.binOp .eql 3 (xT 44) (nI 1) 3),aO 41 45] [6,8,10,41] (cD 41 (.reg [fO 46 153 8 0,fO 47 121 46 2,⟨some 48,(lD 3 47),none,[],2,[],true⟩,fO 49 153 8 0,fO 50 121 49 3,⟨some 51,(lD 3 50),none,[],5,[],true⟩,fO 52 93 10 1,⟨none,(.store 3 (xT 52) (nI 1)),none,[],7,[2,5],false⟩,fO 53 93 10 4,⟨none,(.store 3 (xT 53) (xT 48)),none,[],9,[5],false⟩,fO 54 93 10 5,oS (.store 3 (xT 54) (xT 51))] [6,10]) (sR [fO 56 153 8 0,fO 57 121 56 4,lO 58 3 57,oO 59 (.binOp .lss 3 (xT 58) (nI 6) 3),aO 55 59] [6,8,10,55] (cD 55 (.reg [fO 60 153 8 0,fO 61 121 60 4,lO 62 3 61,oO 63 (.binOp .add 3 (nI 2) (xT 62) 3),fO 64 153 8 0,fO 65 121 64 5,⟨some 66,(lD 3 65),none,[],6,[],true⟩,fO 67 93 10 1,⟨none,(.store 3 (xT 67) (xT 63)),none,[],8,[6],false⟩,fO 68 93 10 6,oS (.store 3 (xT 68) (xT 66))] [6,10]) (sR [fO 70 153 8 0,fO 71 121 70 4,lO 72 3 71,oO 73 (.binOp .eql 3 (xT 72) (nI 6) 3),aO 69 73] [6,8,10,69] (cD 69 (.reg [fO 74 153 8 0,fO 75 121 74 5,⟨some 76,(lD 3 75),none,[],2,[],true⟩,fO 77 93 10 1,⟨none,(.store 3 (xT 77) (nI 8)),none,[],4,[2],false⟩,fO 78 93 10 6,oS (.store 3 (xT 78) (xT 76))] [6,10]) (sR [lO 34 93 10,fO 35 153 8 0,fO 36 121 35 5,lO 37 3 36,oO 38 (cL 136 #[(xT 34),(xT 37)] #[93,3]),xO 39 38 0,xO 40 38 1,oS (.store 93 (xT 6) (xT 39)),aO 7 40] [6,7] (.ret))))))))) (.keep [6,10] (sR [lO 79 93 10,oS (.store 93 (xT 6) (xT 79)),oO 7 (.assign (nI 0))] [6,7] (.ret))))))))
theorem t_reader_At : Txt Tryz.prog 100 80 [(.cell 6 93),(.tmp 7)] c_reader_At := txt_of (code := Tryz.f100.body.getD .ret) mixed (by kernel_rfl) Tryz.func100 (by kernel_rfl) Tryz.ntmps100 (by kernel_rfl) (ls := lsOf c_reader_At) (by kernel_rfl)
def c_reader_Root : CC := sR [oN 2 (.alloc 93) [0],oO 3 (.assign (nI 0))] [0,2] (sR [mO 4 0,oO 5 (cL 100 #[(xT 4),(nI 0),(nI 0)] #[54,3,3]),xO 6 5 0,xO 7 5 1,oS (.store 93 (xT 2) (xT 6)),aO 3 7] [2,3] (.ret))
theorem t_reader_Root : Txt Tryz.prog 64 8 [(.cell 2 93),(.tmp 3)] c_reader_Root := txt_of (code := Tryz.f64.body.getD .ret) mixed (by kernel_rfl) Tryz.func64 (by kernel_rfl) Tryz.ntmps64 (by kernel_rfl) (ls := lsOf c_reader_Root) (by kernel_rfl)
def c_reader_Ref_composite : CC := sR [oN 2 (.box 93 (xT 0)) [0],oN 4 (.alloc 93) [1],oO 5 (.assign (nI 0))] [1,2,4] (sR [fO 10 93 2 0,lO 11 54 10,fO 12 93 2 2,lO 13 3 12,fO 14 93 2 3,lO 15 3 14,oO 16 (cL 155 #[(xT 11),(xT 13),(xT 15)] #[54,3,3]),mO 9 16,xO 17 9 0,xO 18 9 1,aO 6 17,aO 7 18] [1,2,4,6] (sR [mO 19 6,oO 20 (cL 154 #[(xT 19)] #[60]),oN 8 (.alloc 121) [2],oS (.store 121 (xT 8) (xT 20))] [1,2,4,6,8] (.seq (sR [mO 21 6,oO 22 (.binOp .neq 60 (xT 21) (.const (.int .u64 0)) 60),mO 23 22,oG 24 (fA 121 8 0) 23 true,oG 25 (lD 3 24) 23 true,oG 26 (.binOp .neq 3 (xT 25) (nI 1) 3) 23 true,oO 27 (.pick (xT 23) (xT 26) (nB false)),mO 28 27,oG 29 (fA 121 8 1) 28 false,oG 30 (lD 3 29) 28 false,oG 31 (.binOp .lss 3 (xT 30) (nI 0) 3) 28 false,oO 32 (.pick (xT 28) (nB true) (xT 31)),mO 33 32,oG 34 (fA 121 8 1) 33 false,oG 35 (lD 3 34) 33 false,oG 36 (fA 121 8 2) 33 false,oG 37 (lD 3 36) 33 false,oG 38 (fA 121 8 3) 33 false,oG 39 (lD 3 38) 33 false,oG 40 (bO .add 3 37 39 3) 33 false,oG 41 (bO .mul 3 35 40 3) 33 false,oG 42 (mV 1) 33 false,oG 43 (bO .gtr 3 41 42 3) 33 false,oO 44 (.pick (xT 33) (nB true) (xT 43))] [2,4,8,44] (cD 44 (sR [oO 45 (.build 93 #[]),oS (.store 93 (xT 4) (xT 45)),oO 5 (.assign (nI 8))] [4,5] (.ret)) (.skip))) (.keep [2,4,8] (sR [fO 46 93 2 3,lO 47 3 46,oO 48 (.binOp .add 3 (xT 47) (nI 1) 3),fO 49 93 2 1,oS (.store 3 (xT 49) (nI 9)),fO 50 93 2 3,oS (.store 3 (xT 50) (xT 48))] [2,4,8] (sR [fO 51 121 8 1,lO 52 3 51,fO 53 121 8 2,⟨some 54,(lD 3 53),none,[],3,[],true⟩,fO 55 121 8 3,⟨some 56,(lD 3 55),none,[],5,[],true⟩,fO 57 93 2 6,⟨none,(.store 3 (xT 57) (xT 52)),none,[],7,[3,5],false⟩,fO 58 93 2 4,⟨none,(.store 3 (xT 58) (xT 54)),none,[],9,[5],false⟩,fO 59 93 2 5,oS (.store 3 (xT 59) (xT 56))] [2,4] (sR [lO 60 93 2,oS (.store 93 (xT 4) (xT 60)),oO 5 (.assign (nI 0))] [4,5] (.ret))))))))
theorem t_reader_Ref_composite : Txt Tryz.prog 136 61 [(.cell 4 93),(.tmp 5)] c_reader_Ref_composite := txt_of (code := Tryz.f136.body.getD .ret) mixed (by kernel_rfl) Tryz.func136 (by kernel_rfl) Tryz.ntmps136 (by kernel_rfl) (ls := lsOf c_reader_Ref_composite) (by kernel_rfl)
def c_reader_Ref_Kid : CC := sR [oN 2 (.box 93 (xT 0)) [0],oN 4 (.alloc 93) [1],oO 5 (.assign (nI 0))] [1,2,4] (.seq (sR [mO 6 1,oO 7 (.binOp .lss 3 (xT 6) (nI 0) 3),mO 8 7,oG 9 (mV 1) 8 false,oG 10 (lD 93 2) 8 false,oG 11 (cL 102 #[(xT 10)] #[93]) 8 false,oG 12 (bO .geq 3 9 11 3) 8 false,oO 13 (.pick (xT 8) (nB true) (xT 12))] [1,2,4,13] (cD 13 (sR [oO 14 (.build 93 #[]),oS (.store 93 (xT 4) (xT 14)),oO 5 (.assign (nI 0))] [4,5] (.ret)) (.skip))) (.keep [1,2,4] (.seq (sR [fO 15 93 2 1,lO 16 3 15] [1,2,4,16] (.block 0 (sR [oO 18 (.binOp .eql 3 (xT 16) (nI 1) 3),aO 17 18] [1,2,4,16,17] (cD 17 (sR [fO 19 93 2 0,lO 20 54 19,fO 21 93 2 2,lO 22 3 21,fO 23 93 2 3,lO 24 3 23,fO 25 93 2 4,lO 26 3 25,oO 27 (bO .add 3 24 26 3),mO 28 1,oO 29 (bO .add 3 27 28 3),oO 30 (cL 100 #[(xT 20),(xT 22),(xT 29)] #[54,3,3]),xO 31 30 0,xO 32 30 1,oS (.store 93 (xT 4) (xT 31)),aO 5 32] [4,5] (.ret)) (sR [oO 34 (.binOp .eql 3 (xT 16) (nI 8) 3),aO 33 34] [1,2,4,16,33] (cD 33 (sR [fO 35 93 2 0,lO 36 54 35,fO 37 93 2 2,lO 38 3 37,fO 39 93 2 3,lO 40 3 39,mO 41 1,oO 42 (bO .add 3 40 41 3),oO 43 (cL 100 #[(xT 36),(xT 38),(xT 42)] #[54,3,3]),xO 44 43 0,xO 45 43 1,oS (.store 93 (xT 4) (xT 44)),aO 5 45] [4,5] (.ret)) (sR [oO 47 (.binOp .eql 3 (xT 16) (nI 9) 3),aO 46 47] [1,2,4,46] (cD 46 (sR [fO 48 93 2 0,lO 49 54 48,fO 50 93 2 2,lO 51 3 50,fO 52 93 2 3,lO 53 3 52,mO 54 1,fO 55 93 2 4,lO 56 3 55,fO 57 93 2 5,lO 58 3 57,oO 59 (bO .add 3 56 58 3),oO 60 (bO .mul 3 54 59 3),oO 61 (bO .add 3 53 60 3),fO 62 93 2 4,lO 63 3 62,fO 64 93 2 5,lO 65 3 64,oO 66 (.build 93 #[(0,(xT 49)),(1,(nI 1)),(2,(xT 51)),(3,(xT 61)),(4,(xT 63)),(5,(xT 65))]),oS (.store 93 (xT 4) (xT 66)),oO 5 (.assign (nI 0))] [4,5] (.ret)) (.skip))))))))) (.keep [1,2,4] (sR [fO 67 93 2 0,⟨some 68,(lD 54 67),none,[],1,[],true⟩,lO 69 93 2,mO 70 1,⟨some 71,(cL 158 #[(xT 69),(xT 70)] #[93,3]),none,[],4,[1],false⟩,oO 72 (.build 93 #[(0,(xT 68)),(1,(nI 10)),(7,(xT 71))]),oS (.store 93 (xT 4) (xT 72)),oO 5 (.assign (nI 0))] [4,5] (.ret))))))
theorem t_reader_Ref_Kid : Txt Tryz.prog 139 73 [(.cell 4 93),(.tmp 5)] c_reader_Ref_Kid := txt_of (code := Tryz.f139.body.getD .ret) mixed (by kernel_rfl) Tryz.func139 (by kernel_rfl) Tryz.ntmps139 (by kernel_rfl) (ls := lsOf c_reader_Ref_Kid) (by kernel_rfl)
def c_centoref09_At : CC := sR [oN 6 (.alloc 111) [0],oO 7 (.assign (nI 0))] [0,1,2,6] (sR [mO 13 0,mO 14 1,mO 15 2,oO 16 (cL 118 #[(xT 13),(xT 14),(xT 15)] #[56,3,3]),mO 12 16,xO 17 12 0,xO 18 12 1,oN 8 (.alloc 141) [1],oS (.store 141 (xT 8) (xT 17)),aO 9 18] [0,6,8,9] (.seq (sR [mO 19 9,oO 20 (.binOp .neq 3 (xT 19) (nI 0) 3),mO 21 20,oG 22 (fA 141 8 0) 21 false,oG 23 (fA 139 22 0) 21 false,oG 24 (lD 3 23) 21 false,oG 25 (.binOp .eql 3 (xT 24) (nI 0) 3) 21 false,oO 26 (.pick (xT 21) (nB true) (xT 25))] [0,6,8,9,26] (cD 26 (sR [oO 27 (.build 111 #[]),mO 28 9,oS (.store 111 (xT 6) (xT 27)),aO 7 28] [6,7] (.ret)) (.skip))) (.keep [0,6,8] (.seq (sR [fO 29 141 8 0,fO 30 139 29 0,lO 31 3 30,oO 32 (.binOp .eql 3 (xT 31) (nI 1) 3)] [0,6,8,32] (cD 32 (sR [fO 33 141 8 1,lO 34 3 33,fO 35 141 8 2,lO 36 3 35,fO 37 141 8 0,fO 38 139 37 2,lO 39 3 38,fO 40 141 8 0,fO 41 139 40 3,lO 42 3 41,oO 43 (.build 111 #[(0,(nI 1)),(1,(xT 34)),(2,(xT 36)),(3,(xT 39)),(4,(xT 42))]),oS (.store 111 (xT 6) (xT 43)),oO 7 (.assign (nI 0))] [6,7] (.ret)) (.skip))) (.keep [0,6,8] (.seq (sR [fO 44 141 8 0,fO 45 139 44 4,lO 46 3 45,oO 47 (.binOp .lss 3 (xT 46) (nI 7) 3)] [0,6,8,47] (cD 47 (sR [fO 48 141 8 0,fO 49 139 48 4,lO 50 3 49,oO 51 (.binOp .add 3 (nI 2) (xT 50) 3),fO 52 141 8 1,lO 53 3 52,fO 54 141 8 2,lO 55 3 54,fO 56 141 8 0,fO 57 139 56 5,lO 58 3 57,oO 59 (.build 111 #[(0,(xT 51)),(1,(xT 53)),(2,(xT 55)),(5,(xT 58))]),oS (.store 111 (xT 6) (xT 59)),oO 7 (.assign (nI 0))] [6,7] (.ret)) (.skip))) (.keep [0,6,8] (sR [mO 60 0,fO 61 141 8 1,lO 62 3 61,oO 63 (iA 56 60 62),lO 64 22 63,fO 65 141 8 2,lO 66 3 65,oO 67 (iA 22 64 66),lO 68 60 67,aO 10 68] [6,8,10] (sR [mO 69 10,oO 70 (cL 119 #[(xT 69)] #[60]),oN 11 (.alloc 139) [2],oS (.store 139 (xT 11) (xT 70))] [6,8,10,11] (.seq (sR [mO 71 10,oO 72 (.binOp .neq 60 (xT 71) (.const (.int .u64 0)) 60),mO 73 72,oG 74 (fA 139 11 0) 73 true,oG 75 (lD 3 74) 73 true,oG 76 (.binOp .neq 3 (xT 75) (nI 1) 3) 73 true,oO 77 (.pick (xT 73) (xT 76) (nB false)),mO 78 77,oG 79 (fA 139 11 1) 78 false,oG 80 (lD 3 79) 78 false,oG 81 (.binOp .lss 3 (xT 80) (nI 0) 3) 78 false,oO 82 (.pick (xT 78) (nB true) (xT 81)),mO 83 82,oG 84 (fA 139 11 1) 83 false,oG 85 (lD 3 84) 83 false,oG 86 (fA 139 11 2) 83 false,oG 87 (lD 3 86) 83 false,oG 88 (fA 139 11 3) 83 false,oG 89 (lD 3 88) 83 false,oG 90 (bO .add 3 87 89 3) 83 false,oG 91 (bO .mul 3 85 90 3) 83 false,oG 92 (fA 141 8 0) 83 false,oG 93 (fA 139 92 5) 83 false,oG 94 (lD 3 93) 83 false,oG 95 (bO .gtr 3 91 94 3) 83 false,oO 96 (.pick (xT 83) (nB true) (xT 95))] [6,8,11,96] (cD 96 (sR [oO 97 (.build 111 #[]),oS (.store 111 (xT 6) (xT 97)),oO 7 (.assign (nI 8))] [6,7] (.ret)) (.skip))) (.keep [6,8,11] (sR [fO 98 141 8 1,lO 99 3 98,fO 100 141 8 2,lO 101 3 100,oO 102 (.binOp .add 3 (xT 101) (nI 1) 3),fO 103 139 11 2,lO 104 3 103,fO 105 139 11 3,lO 106 3 105,fO 107 139 11 1,lO 108 3 107,oO 109 (.build 111 #[(0,(nI 9)),(1,(xT 99)),(2,(xT 102)),(3,(xT 104)),(4,(xT 106)),(5,(xT 108))]),oS (.store 111 (xT 6) (xT 109)),oO 7 (.assign (nI 0))] [6,7] (.ret)))))))))))))
theorem t_centoref09_At : Txt Tryz.prog 83 110 [(.cell 6 111),(.tmp 7)] c_centoref09_At := txt_of (code := Tryz.f83.body.getD .ret) mixed (by kernel_rfl) Tryz.func83 (by kernel_rfl) Tryz.ntmps83 (by kernel_rfl) (ls := lsOf c_centoref09_At) (by kernel_rfl)
def c_centoref09_Ref_Kids : CC := sR [oN 1 (.box 111 (xT 0)) [0],oO 2 (.assign (nI 0))] [1] (.seq (sR [fO 3 111 1 0,lO 4 3 3,oO 5 (.binOp .eql 3 (xT 4) (nI 1) 3)] [1,5] (cD 5 (sR [fO 6 111 1 4,lO 7 3 6,aO 2 7] [2] (.ret)) (.skip))) (.keep [1] (sR [fO 8 111 1 5,lO 9 3 8,aO 2 9] [2] (.ret))))
theorem t_centoref09_Ref_Kids : Txt Tryz.prog 121 10 [(.tmp 2)] c_centoref09_Ref_Kids := txt_of (code := Tryz.f121.body.getD .ret) mixed (by kernel_rfl) Tryz.func121 (by kernel_rfl) Tryz.ntmps121 (by kernel_rfl) (ls := lsOf c_centoref09_Ref_Kids) (by kernel_rfl)
def c_centoref09_Ref_Words : CC := sR [oN 2 (.box 111 (xT 0)) [0],oO 4 (.assign nS)] [1,2] (.seq (sR [fO 6 111 2 0,lO 7 3 6,oO 8 (.binOp .eql 3 (xT 7) (nI 10) 3)] [1,2,8] (cD 8 (sR [fO 9 111 2 6,lO 10 60 9,oO 11 (.buildSlice 22 1 #[(0,(xT 10))]),aO 4 11] [4] (.ret)) (.skip))) (.keep [1,2] (.seq (sR [fO 12 111 2 0,lO 13 3 12,oO 14 (.binOp .neq 3 (xT 13) (nI 1) 3)] [1,2,14] (cD 14 (sR [oO 4 (.assign nS)] [4] (.ret)) (.skip))) (.keep [1,2] (sR [oO 5 (.assign nS)] [1,2,5] (sR [mO 15 5,mO 16 1,fO 17 111 2 1,lO 18 3 17,oO 19 (iA 56 16 18),lO 20 22 19,fO 21 111 2 2,lO 22 3 21,fO 23 111 2 2,lO 24 3 23,fO 25 111 2 3,lO 26 3 25,oO 27 (bO .add 3 24 26 3),oO 28 (.slice 22 (xT 20) (some (xT 22)) (some (xT 27)) none),oN 29 (bC .append #[(xT 15),(xT 28)] #[22,22]) [1],aO 4 29] [4] (.ret)))))))
theorem t_centoref09_Ref_Words : Txt Tryz.prog 120 30 [(.tmp 4)] c_centoref09_Ref_Words := txt_of (code := Tryz.f120.body.getD .ret) mixed (by kernel_rfl) Tryz.func120 (by kernel_rfl) Tryz.ntmps120 (by kernel_rfl) (ls := lsOf c_centoref09_Ref_Words) (by kernel_rfl)
def c_centoref09_Ref_Kid : CC := sR [oN 3 (.box 111 (xT 0)) [0],oN 6 (.alloc 111) [1],oO 7 (.assign (nI 0))] [1,2,3,6] (.seq (sR [mO 8 2,oO 9 (.binOp .lss 3 (xT 8) (nI 0) 3),mO 10 9,oG 11 (mV 2) 10 false,oG 12 (lD 111 3) 10 false,oG 13 (cL 121 #[(xT 12)] #[111]) 10 false,oG 14 (bO .geq 3 11 13 3) 10 false,oO 15 (.pick (xT 10) (nB true) (xT 14))] [1,2,3,6,15] (cD 15 (sR [oO 16 (.build 111 #[]),oS (.store 111 (xT 6) (xT 16)),oO 7 (.assign (nI 0))] [6,7] (.ret)) (.skip))) (.keep [1,2,3,6] (.seq (sR [fO 17 111 3 0,lO 18 3 17,oO 19 (.binOp .eql 3 (xT 18) (nI 1) 3)] [1,2,3,6,19] (cD 19 (sR [mO 20 1,fO 21 111 3 1,lO 22 3 21,fO 23 111 3 2,lO 24 3 23,fO 25 111 3 3,lO 26 3 25,oO 27 (bO .add 3 24 26 3),mO 28 2,oO 29 (bO .add 3 27 28 3),oO 30 (cL 83 #[(xT 20),(xT 22),(xT 29)] #[56,3,3]),xO 31 30 0,xO 32 30 1,oS (.store 111 (xT 6) (xT 31)),aO 7 32] [6,7] (.ret)) (.skip))) (.keep [1,2,3,6] (.seq (sR [fO 33 111 3 0,lO 34 3 33,oO 35 (.binOp .eql 3 (xT 34) (nI 8) 3)] [1,2,3,6,35] (cD 35 (sR [mO 36 1,fO 37 111 3 1,lO 38 3 37,fO 39 111 3 2,lO 40 3 39,mO 41 2,oO 42 (bO .add 3 40 41 3),oO 43 (cL 83 #[(xT 36),(xT 38),(xT 42)] #[56,3,3]),xO 44 43 0,xO 45 43 1,oS (.store 111 (xT 6) (xT 44)),aO 7 45] [6,7] (.ret)) (.skip))) (.keep [1,2,3,6] (.seq (sR [fO 46 111 3 0,lO 47 3 46,oO 48 (.binOp .eql 3 (xT 47) (nI 9) 3)] [1,2,3,6,48] (cD 48 (sR [fO 49 111 3 1,lO 50 3 49,fO 51 111 3 2,lO 52 3 51,mO 53 2,fO 54 111 3 3,lO 55 3 54,fO 56 111 3 4,lO 57 3 56,oO 58 (bO .add 3 55 57 3),oO 59 (bO .mul 3 53 58 3),oO 60 (bO .add 3 52 59 3),fO 61 111 3 3,lO 62 3 61,fO 63 111 3 4,lO 64 3 63,oO 65 (.build 111 #[(0,(nI 1)),(1,(xT 50)),(2,(xT 60)),(3,(xT 62)),(4,(xT 64))]),oS (.store 111 (xT 6) (xT 65)),oO 7 (.assign (nI 0))] [6,7] (.ret)) (.skip))) (.keep [1,2,3,6] (sR [mO 66 1,fO 67 111 3 1,lO 68 3 67,oO 69 (iA 56 66 68),lO 70 22 69,fO 71 111 3 2,lO 72 3 71,oO 73 (.slice 22 (xT 70) (some (xT 72)) none none),fO 74 111 3 0,lO 75 3 74,oO 76 (.binOp .sub 3 (xT 75) (nI 2) 3),mO 77 2,oO 78 (cL 144 #[(xT 73),(xT 76),(xT 77)] #[22,3,3]),oO 79 (.build 111 #[(0,(nI 10)),(6,(xT 78))]),oS (.store 111 (xT 6) (xT 79)),oO 7 (.assign (nI 0))] [6,7] (.ret))))))))))
theorem t_centoref09_Ref_Kid : Txt Tryz.prog 122 80 [(.cell 6 111),(.tmp 7)] c_centoref09_Ref_Kid := txt_of (code := Tryz.f122.body.getD .ret) mixed (by kernel_rfl) Tryz.func122 (by kernel_rfl) Tryz.ntmps122 (by kernel_rfl) (ls := lsOf c_centoref09_Ref_Kid) (by kernel_rfl)
def c_centoref10_within : CC := sR [oO 4 (.assign (nI 0))] [0,1] (.seq (sR [mO 5 0,oO 6 (.binOp .lss 3 (xT 5) (nI 0) 3)] [0,1,6] (cD 6 (sR [oO 4 (.assign (nI 0))] [4] (.ret)) (.skip))) (.keep [0,1] (.seq (sR [mO 7 0,mO 8 1,oO 9 (bO .gtr 3 7 8 3)] [0,1,9] (cD 9 (sR [mO 10 1,aO 4 10] [4] (.ret)) (.skip))) (.keep [0] (sR [mO 11 0,aO 4 11] [4] (.ret))))))
theorem t_centoref10_within : Txt Tryz.prog 117 12 [(.tmp 4)] c_centoref10_within := txt_of (code := Tryz.f117.body.getD .ret) mixed (by kernel_rfl) Tryz.func117 (by kernel_rfl) Tryz.ntmps117 (by kernel_rfl) (ls := lsOf c_centoref10_within) (by kernel_rfl)
def c_centoref10_Limits : CC := sR [oN 1 (.box 58 (xT 0)) [0],oN 2 (.alloc 58) [1]] [1,2] (sR [fO 3 58 1 0,lO 4 3 3,⟨some 5,(cL 117 #[(xT 4),(nI 64)] #[3,3]),none,[],2,[],true⟩,fO 6 58 1 1,⟨some 7,(lD 3 6),none,[],4,[2],false⟩,⟨some 8,(cL 117 #[(xT 7),(nI 65536)] #[3,3]),none,[],5,[],true⟩,fO 9 58 1 2,⟨some 10,(lD 3 9),none,[],7,[2,5],false⟩,⟨some 11,(cL 117 #[(xT 10),(nI 4096)] #[3,3]),none,[],8,[],true⟩,fO 12 58 1 3,⟨some 13,(lD 3 12),none,[],10,[2,5,8],false⟩,oO 14 (cL 117 #[(xT 13),(nI 131072)] #[3,3]),oO 15 (.build 58 #[(0,(xT 5)),(1,(xT 8)),(2,(xT 11)),(3,(xT 14))]),oS (.store 58 (xT 2) (xT 15))] [2] (.ret))
theorem t_centoref10_Limits : Txt Tryz.prog 82 16 [(.cell 2 58)] c_centoref10_Limits := txt_of (code := Tryz.f82.body.getD .ret) mixed (by kernel_rfl) Tryz.func82 (by kernel_rfl) Tryz.ntmps82 (by kernel_rfl) (ls := lsOf c_centoref10_Limits) (by kernel_rfl)
def l1_centoref10_kids : CC := .seq (sR [mO 22 12,fO 23 111 5 4,lO 24 3 23,oO 25 (bO .lss 3 22 24 3)] [0,2,3,5,8,11,12,25] (cD 25 (.skip) (.exit 0))) (.keep [0,2,3,5,8,11,12] (.seq (.block 1 (sR [lO 29 111 5,mO 30 0,mO 31 12,oO 32 (cL 122 #[(xT 29),(xT 30),(xT 31)] #[111,56,3]),mO 28 32,xO 33 28 0,xO 34 28 1,oN 13 (.alloc 111) [3],oS (.store 111 (xT 13) (xT 33)),aO 14 34] [0,2,3,5,8,11,12,13,14] (.seq (sR [mO 35 14,oO 36 (.binOp .neq 3 (xT 35) (nI 0) 3)] [0,2,3,5,8,11,12,13,14,36] (cD 36 (sR [lO 37 25 11,mO 38 3,mO 39 14,oS (.store 25 (xT 8) (xT 37)),aO 9 38,aO 10 39] [8,9,10] (.ret)) (.skip))) (.keep [0,2,3,5,8,11,12,13] (sR [mO 41 0,lO 42 111 13,mO 43 2,mO 44 3,oO 45 (cL 84 #[(xT 41),(xT 42),(xT 43),(xT 44)] #[56,111,3,3]),mO 40 45,xO 46 40 0,xO 47 40 1,xO 48 40 2,oN 15 (.alloc 25) [4],oS (.store 25 (xT 15) (xT 46)),aO 16 47,aO 17 48] [0,2,5,8,11,12,15,16,17] (.seq (sR [mO 49 17,oO 50 (.binOp .neq 3 (xT 49) (nI 0) 3)] [0,2,5,8,11,12,15,16,17,50] (cD 50 (sR [lO 51 25 11,mO 52 16,mO 53 17,oS (.store 25 (xT 8) (xT 51)),aO 9 52,aO 10 53] [8,9,10] (.ret)) (.skip))) (.keep [0,2,5,8,11,12,15,16] (sR [mO 54 16,aO 3 54] [0,2,3,5,8,11,12,15] (.reg [fO 55 25 11 2,lO 56 23 55,lO 57 25 15,oO 58 (.buildSlice 23 1 #[(0,(xT 57))]),oN 59 (bC .append #[(xT 56),(xT 58)] #[23,23]) [5],fO 60 25 11 2,oS (.store 23 (xT 60) (xT 59))] [0,2,3,5,8,11,12]))))))))) (.keep [0,2,3,5,8,11,12] (.reg [mO 26 12,oO 27 (.binOp .add 3 (xT 26) (nI 1) 3),aO 12 27] [0,2,3,5,8,11,12])))) 
def c_centoref10_kids : CC := sR [oN 5 (.box 111 (xT 1)) [0],oN 8 (.alloc 25) [1],oO 9 (.assign (nI 0)),oO 10 (.assign (nI 0))] [0,2,3,5,8] (sR [lO 18 111 5,mO 19 0,oO 20 (cL 120 #[(xT 18),(xT 19)] #[111,56]),oO 21 (.build 25 #[(0,(nI 1)),(1,(xT 20))]),oN 11 (.alloc 25) [2],oS (.store 25 (xT 11) (xT 21))] [0,2,3,5,8,11] (.seq (sR [oO 12 (.assign (nI 0))] [0,2,3,5,8,11,12] (.block 0 (.loop l1_centoref10_kids))) (.keep [3,8,11] (sR [lO 61 25 11,mO 62 3,oS (.store 25 (xT 8) (xT 61)),aO 9 62,oO 10 (.assign (nI 0))] [8,9,10] (.ret)))))
theorem t_centoref10_kids : Txt Tryz.prog 123 63 [(.cell 8 25),(.tmp 9),(.tmp 10)] c_centoref10_kids := txt_of (code := Tryz.f123.body.getD .ret) mixed (by kernel_rfl) Tryz.func123 (by kernel_rfl) Tryz.ntmps123 (by kernel_rfl) (ls := lsOf c_centoref10_kids) (by kernel_rfl)
def k1_centoref10_Meaning : CC := .seq (sR [mO 136 15,oO 137 (.binOp .neq 3 (xT 136) (nI 0) 3)] [0,2,3,5,8,11,13,15,16,137] (cD 137 (sR [lO 138 25 11,mO 139 3,mO 140 15,oS (.store 25 (xT 8) (xT 138)),aO 9 139,aO 10 140] [8,9,10] (.ret)) (.skip))) (.keep [0,2,3,5,8,11,13,16] (.reg [fO 141 25 11 2,lO 142 23 141,lO 143 25 16,oO 144 (.buildSlice 23 1 #[(0,(xT 143))]),oN 145 (bC .append #[(xT 142),(xT 144)] #[23,23]) [5],fO 146 25 11 2,oS (.store 23 (xT 146) (xT 145))] [0,2,3,5,8,11,13]))
def l1_centoref10_Meaning : CC := .seq (sR [mO 79 13,lO 80 111 5,oO 81 (cL 121 #[(xT 80)] #[111]),oO 82 (bO .lss 3 79 81 3)] [0,2,3,5,8,11,13,82] (cD 82 (.skip) (.exit 0))) (.keep [0,2,3,5,8,11,13] (.seq (.block 1 (sR [lO 86 111 5,mO 87 0,mO 88 13,oO 89 (cL 122 #[(xT 86),(xT 87),(xT 88)] #[111,56,3]),mO 85 89,xO 90 85 0,xO 91 85 1,oN 14 (.alloc 111) [3],oS (.store 111 (xT 14) (xT 90)),aO 15 91] [0,2,3,5,8,11,13,14,15] (.seq (sR [mO 92 15,oO 93 (.binOp .neq 3 (xT 92) (nI 0) 3)] [0,2,3,5,8,11,13,14,15,93] (cD 93 (sR [lO 94 25 11,mO 95 3,mO 96 15,oS (.store 25 (xT 8) (xT 94)),aO 9 95,aO 10 96] [8,9,10] (.ret)) (.skip))) (.keep [0,2,3,5,8,11,13,14,15] (sR [fO 97 111 14 0,⟨some 98,(lD 3 97),none,[],1,[],true⟩,⟨some 99,(lD 111 14),none,[],2,[],true⟩,mO 100 0,⟨some 101,(cL 120 #[(xT 99),(xT 100)] #[111,56]),none,[],4,[1],true⟩,oO 102 (.build 25 #[(0,(xT 98)),(1,(xT 101))]),⟨some 16,(.alloc 25),none,[4],6,[1,2,4],false⟩,oS (.store 25 (xT 16) (xT 102))] [0,2,3,5,8,11,13,14,15,16] (.seq (.block 2 (sR [fO 104 111 5 0,lO 105 3 104,oO 106 (.binOp .eql 3 (xT 105) (nI 9) 3),aO 103 106] [0,2,3,5,8,11,13,14,15,16,103] (cD 103 (.reg [mO 108 0,lO 109 111 14,mO 110 2,oO 111 (.binOp .sub 3 (xT 110) (nI 2) 3),mO 112 3,oO 113 (cL 123 #[(xT 108),(xT 109),(xT 111),(xT 112)] #[56,111,3,3]),mO 107 113,xO 114 107 0,xO 115 107 1,xO 116 107 2,oS (.store 25 (xT 16) (xT 114)),aO 3 115,aO 15 116] [0,2,3,5,8,11,13,15,16]) (sR [fO 118 111 5 0,lO 119 3 118,oO 120 (.binOp .eql 3 (xT 119) (nI 1) 3),mO 121 120,oG 122 (fA 111 5 0) 121 false,oG 123 (lD 3 122) 121 false,oG 124 (.binOp .eql 3 (xT 123) (nI 8) 3) 121 false,oO 125 (.pick (xT 121) (nB true) (xT 124)),aO 117 125] [0,2,3,5,8,11,13,14,15,16,117] (cD 117 (.reg [mO 127 0,lO 128 111 14,mO 129 2,oO 130 (.binOp .sub 3 (xT 129) (nI 1) 3),mO 131 3,oO 132 (cL 84 #[(xT 127),(xT 128),(xT 130),(xT 131)] #[56,111,3,3]),mO 126 132,xO 133 126 0,xO 134 126 1,xO 135 126 2,oS (.store 25 (xT 16) (xT 133)),aO 3 134,aO 15 135] [0,2,3,5,8,11,13,15,16]) (.skip)))))) (.keep [0,2,3,5,8,11,13,15,16] k1_centoref10_Meaning))))))) (.keep [0,2,3,5,8,11,13] (.reg [mO 83 13,oO 84 (.binOp .add 3 (xT 83) (nI 1) 3),aO 13 84] [0,2,3,5,8,11,13]))))
def k2_centoref10_Meaning : CC := .seq (sR [mO 71 12,mO 72 3,oO 73 (bO .gtr 3 71 72 3)] [0,2,3,5,8,11,12,73] (cD 73 (sR [lO 74 25 11,mO 75 3,oS (.store 25 (xT 8) (xT 74)),aO 9 75,oO 10 (.assign (nI 3))] [8,9,10] (.ret)) (.skip))) (.keep [0,2,3,5,8,11,12] (sR [mO 76 3,mO 77 12,oO 78 (bO .sub 3 76 77 3),aO 3 78] [0,2,3,5,8,11] (.seq (sR [oO 13 (.assign (nI 0))] [0,2,3,5,8,11,13] (.block 0 (.loop l1_centoref10_Meaning))) (.keep [3,8,11] (sR [lO 147 25 11,mO 148 3,oS (.store 25 (xT 8) (xT 147)),aO 9 148,oO 10 (.assign (nI 0))] [8,9,10] (.ret))))))
def k3_centoref10_Meaning : CC := .seq (sR [fO 58 111 5 0,lO 59 3 58,oO 60 (.binOp .eql 3 (xT 59) (nI 9) 3)] [0,2,3,5,8,11,12,60] (cD 60 (.reg [fO 61 111 5 5,lO 62 3 61,fO 63 111 5 3,lO 64 3 63,oO 65 (.binOp .add 3 (nI 1) (xT 64) 3),fO 66 111 5 4,lO 67 3 66,oO 68 (bO .add 3 65 67 3),oO 69 (bO .mul 3 62 68 3),oO 70 (.binOp .add 3 (nI 1) (xT 69) 3),aO 12 70] [0,2,3,5,8,11,12]) (.skip))) (.keep [0,2,3,5,8,11,12] k2_centoref10_Meaning) 
def c_centoref10_Meaning : CC := sR [oN 5 (.box 111 (xT 1)) [0],oN 8 (.alloc 25) [1],oO 9 (.assign (nI 0)),oO 10 (.assign (nI 0))] [0,2,3,5,8] (sR [fO 17 111 5 0,⟨some 18,(lD 3 17),none,[],1,[],true⟩,⟨some 19,(lD 111 5),none,[],2,[],true⟩,mO 20 0,⟨some 21,(cL 120 #[(xT 19),(xT 20)] #[111,56]),none,[],4,[1],true⟩,oO 22 (.build 25 #[(0,(xT 18)),(1,(xT 21))]),⟨some 11,(.alloc 25),none,[2],6,[1,2,4],false⟩,oS (.store 25 (xT 11) (xT 22))] [0,2,3,5,8,11] (.seq (sR [fO 23 111 5 0,lO 24 3 23,oO 25 (.binOp .eql 3 (xT 24) (nI 0) 3)] [0,2,3,5,8,11,25] (cD 25 (sR [lO 26 25 11,mO 27 3,oS (.store 25 (xT 8) (xT 26)),aO 9 27,oO 10 (.assign (nI 0))] [8,9,10] (.ret)) (.skip))) (.keep [0,2,3,5,8,11] (.seq (sR [mO 28 2,oO 29 (.binOp .lss 3 (xT 28) (nI 1) 3),mO 30 29,oG 31 (fA 111 5 0) 30 false,oG 32 (lD 3 31) 30 false,oG 33 (.binOp .eql 3 (xT 32) (nI 9) 3) 30 false,oG 34 (mV 33) 30 false,oG 35 (fA 111 5 5) 34 true,oG 36 (lD 3 35) 34 true,oG 37 (.binOp .gtr 3 (xT 36) (nI 0) 3) 34 true,oG 38 (.pick (xT 34) (xT 37) (nB false)) 30 false,oG 39 (mV 38) 30 false,oG 40 (mV 2) 39 true,oG 41 (.binOp .lss 3 (xT 40) (nI 2) 3) 39 true,oG 42 (.pick (xT 39) (xT 41) (nB false)) 30 false,oO 43 (.pick (xT 30) (nB true) (xT 42))] [0,2,3,5,8,11,43] (cD 43 (sR [lO 44 25 11,mO 45 3,oS (.store 25 (xT 8) (xT 44)),aO 9 45,oO 10 (.assign (nI 3))] [8,9,10] (.ret)) (.skip))) (.keep [0,2,3,5,8,11] (sR [lO 46 111 5,oO 47 (cL 121 #[(xT 46)] #[111]),oO 48 (.binOp .add 3 (nI 1) (xT 47) 3),aO 12 48] [0,2,3,5,8,11,12] (.seq (sR [fO 49 111 5 0,lO 50 3 49,oO 51 (.binOp .eql 3 (xT 50) (nI 1) 3)] [0,2,3,5,8,11,12,51] (cD 51 (.reg [fO 52 111 5 3,lO 53 3 52,oO 54 (.binOp .add 3 (nI 1) (xT 53) 3),fO 55 111 5 4,lO 56 3 55,oO 57 (bO .add 3 54 56 3),aO 12 57] [0,2,3,5,8,11,12]) (.skip))) (.keep [0,2,3,5,8,11,12] k3_centoref10_Meaning))))))))
theorem t_centoref10_Meaning : Txt Tryz.prog 84 149 [(.cell 8 25),(.tmp 9),(.tmp 10)] c_centoref10_Meaning := txt_of (code := Tryz.f84.body.getD .ret) mixed (by kernel_rfl) Tryz.func84 (by kernel_rfl) Tryz.ntmps84 (by kernel_rfl) (ls := lsOf c_centoref10_Meaning) (by kernel_rfl)
def c_centoref10_Unfold : CC := sR [oN 3 (.box 58 (xT 1)) [0],oN 4 (.alloc 25) [1],oO 5 (.assign (nI 0)),oO 6 (.assign (nI 0))] [0,3,4] (sR [lO 12 58 3,oO 13 (cL 82 #[(xT 12)] #[58]),oS (.store 58 (xT 3) (xT 13))] [0,3,4] (sR [mO 15 0,oO 16 (cL 83 #[(xT 15),(nI 0),(nI 0)] #[56,3,3]),mO 14 16,xO 17 14 0,xO 18 14 1,oN 7 (.alloc 111) [2],oS (.store 111 (xT 7) (xT 17)),aO 8 18] [0,3,4,7,8] (.seq (sR [mO 19 8,oO 20 (.binOp .neq 3 (xT 19) (nI 0) 3)] [0,3,4,7,8,20] (cD 20 (sR [oO 21 (.build 25 #[]),mO 22 8,oS (.store 25 (xT 4) (xT 21)),oO 5 (.assign (nI 0)),aO 6 22] [4,5,6] (.ret)) (.skip))) (.keep [0,3,4,7] (sR [mO 24 0,lO 25 111 7,fO 26 58 3 0,lO 27 3 26,fO 28 58 3 1,lO 29 3 28,oO 30 (cL 84 #[(xT 24),(xT 25),(xT 27),(xT 29)] #[56,111,3,3]),mO 23 30,xO 31 23 0,xO 32 23 1,xO 33 23 2,oN 9 (.alloc 25) [3],oS (.store 25 (xT 9) (xT 31)),aO 10 32,aO 11 33] [3,4,9,10,11] (.seq (sR [mO 34 11,oO 35 (.binOp .neq 3 (xT 34) (nI 0) 3)] [3,4,9,10,11,35] (cD 35 (sR [oO 36 (.build 25 #[]),mO 37 11,oS (.store 25 (xT 4) (xT 36)),oO 5 (.assign (nI 0)),aO 6 37] [4,5,6] (.ret)) (.skip))) (.keep [3,4,9,10] (sR [lO 38 25 9,fO 39 58 3 1,⟨some 40,(lD 3 39),none,[],2,[],true⟩,mO 41 10,oO 42 (bO .sub 3 40 41 3),⟨none,(.store 25 (xT 4) (xT 38)),none,[],5,[2],false⟩,aO 5 42,oO 6 (.assign (nI 0))] [4,5,6] (.ret)))))))))
theorem t_centoref10_Unfold : Txt Tryz.prog 54 43 [(.cell 4 25),(.tmp 5),(.tmp 6)] c_centoref10_Unfold := txt_of (code := Tryz.f54.body.getD .ret) mixed (by kernel_rfl) Tryz.func54 (by kernel_rfl) Tryz.ntmps54 (by kernel_rfl) (ls := lsOf c_centoref10_Unfold) (by kernel_rfl)
end Go.Proofs.YthfiijdbnkaabaaGreat

namespace Go.Proofs.YthfiijdbnkaabaaGreat
set_option linter.unusedVariables false
set_option linter.unusedSimpArgs false
open Go Go.G Go.Proofs Go.PL
structure Sg (l : List (List Int)) : Prop where
  b : ∀ x,x ∈ l→x.length * 8≤140737488355328
  w : Wds l
def arO (l : List (List Int)) (r : Rf) : A := if r.kind = 0 then .v (.pointer none) else arn l
@[simp] theorem arO_cells (l : List (List Int)) (r : Rf) : (arO l r).cells = [arO l r] := by unfold arO; split <;> rfl
@[simp] theorem arO_one (l : List (List Int)) (r : Rf) : (arO l r).one = true := by unfold arO; split <;> rfl
@[simp] theorem arO_bare (l : List (List Int)) (r : Rf) : (arO l r).bare = true := by unfold arO; split <;> rfl
@[simp] theorem arO_bare1 (l : List (List Int)) (r : Rf) : (arO l r).bare1 = true := by unfold arO; split <;> rfl
@[simp] theorem arO_bare2 (l : List (List Int)) (r : Rf) : (arO l r).bare2 = true := by unfold arO; split <;> rfl
theorem arO_nz {l : List (List Int)} {r : Rf} (h : r.kind ≠ 0) : arO l r = arn l := if_neg h
abbrev paL (l : List (List Int)) (r : Rf) : List A := [arO l r,iv r.kind,iv r.s,iv r.at_,iv r.data,iv r.kids,iv r.count,uv r.n]
abbrev paX (l : List (List Int)) (r : Rf) : A := .agg (paL l r)
def nwR (r : Rf) : Int := if r.kind = 1 then r.data else if r.kind = 10 then 1 else 0
def wordAt (l : List (List Int)) (r : Rf) (i : Int) : Int := if i < 0∨nwR r≤i then 0 else if r.kind = 10 then r.n else (word l r.s (r.at_ + i)).getD 0
theorem u64_shr (x : Int) (k : Int) (h0 : 0≤k) (h1 : k < 64) : x / 2 ^ (min k.toNat IntKind.u64.bits) = x / 2 ^ k.toNat := by
  have : min k.toNat IntKind.u64.bits = k.toNat := by
    have : IntKind.u64.bits = 64 := rfl
    omega
  rw [this]
set_option maxRecDepth 8000 in
theorem wGet_spec {g : List Int} (hg : ∀ x,x ∈ g→0≤x∧x < 18446744073709551616) (hl : g.length * 8≤140737488355328) (c i : Int) : G.Spec Tryz.prog 166 [uws g,iv c,iv i] (uv (getZ g c i)) := by
  refine spec_of t_word_Get (by simp) fun w0 I0 => ?_
  unfold c_word_Get
  simp
  refine sc_call (width_spec c) rfl ?_
  have hw := widthZ_cases c
  by_cases h0 : widthZ c < 1∨i < 0∨1099511627776 < i
  · have e : getZ g c i = 0 := by unfold getZ; rw [if_pos h0]
    rw [e]
    rcases hw with h | h | h | h | h | h | h
    · simp [h]; exact frz_bare rfl
    · simp [h]; exact frz_bare rfl
    all_goals
      by_cases hi : i < 0
      · simp [h,hi]; exact frz_bare rfl
      · have hb : 1099511627776 < i := by omega
        simp [h,hi,hb]; exact frz_bare rfl
  · have hw1 : widthZ c = 1∨widthZ c = 8∨widthZ c = 16∨widthZ c = 32∨widthZ c = 64 := by omega
    have hi0 : 0≤i := by omega
    have hi1 : i≤1099511627776 := by omega
    have e : getZ g c i = ((g[(i * widthZ c / 64).toNat]?).getD 0) / 2 ^ (i * widthZ c % 64).toNat % 2 ^ (widthZ c).toNat := by unfold getZ; rw [if_neg h0]
    rw [e]
    clear e hw
    generalize widthZ c = w at hw1 h0
    have hn : ¬ w < 0 := by omega
    have hn0 : ¬ w = 0 := by omega
    have hp : 0≤w := by omega
    have hneg : ¬ i < 0 := by omega
    have hbig : ¬ 1099511627776 < i := by omega
    have hb : 0≤i * w∧i * w≤70368744177664 := by rcases hw1 with rfl | rfl | rfl | rfl | rfl <;> omega
    have e1 : IntKind.i64.wrap (i * w) = i * w := i64_same (by omega) (by omega)
    have e2 : IntKind.i64.wrap ((i * w).tdiv 64) = i * w / 64 := by rw [Int.tdiv_eq_ediv_of_nonneg hb.1,i64_same (by omega) (by omega)]
    have e3 : (i * w).tmod 64 = i * w % 64 := Int.tmod_eq_emod_of_nonneg hb.1
    have hm : 0≤i * w % 64 := by omega
    have hm1 : i * w % 64 < 64 := by omega
    have hd0 : 0≤i * w / 64 := by omega
    by_cases hr : (g.length : Int)≤i * w / 64
    · have en : g[(i * w / 64).toNat]? = none := List.getElem?_eq_none (by omega)
      simp [hn,hn0,hp,hneg,hbig,e1,e2,hr,en]
      exact frz_bare rfl
    · have hlt : (i * w / 64).toNat < g.length := by omega
      have hlt' : i * w / 64 < g.length := by omega
      have hx := hg _ (List.getElem_mem hlt)
      simp [hn,hn0,hp,hneg,hbig,e1,e2,e3,hr,hd0,hlt,hlt',hm,u64_shr _ _ hm hm1]
      have hx0 : 0≤g[(i * w / 64).toNat] / 2 ^ (i * w % 64).toNat := Int.ediv_nonneg hx.1 (Int.le_of_lt (Int.pow_pos (by decide)))
      have hx1 : g[(i * w / 64).toNat] / 2 ^ (i * w % 64).toNat < 18446744073709551616 := Int.lt_of_le_of_lt (Int.ediv_le_self _ hx.1) hx.2
      generalize g[(i * w / 64).toNat] / 2 ^ (i * w % 64).toNat = y at hx0 hx1
      refine ⟨fun h => ?_,fun h => ?_⟩
      · refine frz_int ?_
        rw [h]
        exact (Int.emod_eq_of_lt hx0 (by simpa using hx1)).symm
      · refine frz_int ?_
        have em : ∀ k : Nat,k < 64→IntKind.u64.wrap (IntKind.u64.wrap (2 ^ min k IntKind.u64.bits) - 1) = 2 ^ k - 1 := fun k hk => by
          have h64 : min k IntKind.u64.bits = k := by
            have : IntKind.u64.bits = 64 := rfl
            omega
          have hp : (2 : Int) ^ k≤9223372036854775808 := by
            have h2 := Int.ofNat_le.2 (Nat.pow_le_pow_right (n := 2) (by decide) (by omega : k≤63))
            rw [Int.natCast_pow] at h2
            exact h2
          have hp0 : (0 : Int) < 2 ^ k := Int.pow_pos (by decide)
          rw [h64,u64_same (n := 2 ^ k) (by omega) (by omega),u64_same (by omega) (by omega)]
        rw [em w.toNat (by omega)]
        exact u64_mask w.toNat (by omega) hx0 hx1
theorem wWidth_spec (c : Int) : G.Spec Tryz.prog 165 [iv c] (.tup [iv (if widthZ c < 0 then 0 else widthZ c),bv (decide (0≤widthZ c))]) := by
  refine spec_of t_word_Width (by simp) fun w0 I0 => ?_
  unfold c_word_Width
  simp
  refine sc_call (width_spec c) rfl ?_
  simp
  exact frz_bare rfl
theorem tup_bare {cs : List A} {x : Value} (h : cs.all A.bare2 = true) : (A.tup [.agg cs,.v x]).bare = true := by
  simp only [A.bare,List.all_cons,List.all_nil,Bool.and_true]
  rw [h]; rfl
theorem refKind_spec (l : List (List Int)) (r : Rf) : G.Spec Tryz.prog 101 [paX l r] (iv r.kind) := by
  refine spec_of t_reader_Ref_Kind (by simp) fun w0 I0 => ?_
  unfold c_reader_Ref_Kind
  simp
  exact frz_bare rfl
theorem refWords_spec' (l : List (List Int)) (r : Rf) : G.Spec Tryz.prog 137 [paX l r] (iv (nwR r)) := by
  refine spec_of t_reader_Ref_Words (by simp) fun w0 I0 => ?_
  unfold c_reader_Ref_Words
  by_cases h1 : r.kind = 1
  · simp [h1]; exact frz_is rfl (by simp [nwR,h1])
  · by_cases h10 : r.kind = 10
    · simp [h10]; exact frz_is rfl (by simp [nwR,h10])
    · simp [h1,h10]; exact frz_is rfl (by simp [nwR,h1,h10])
theorem refKids_spec' (l : List (List Int)) (r : Rf) : G.Spec Tryz.prog 102 [paX l r] (iv (nk r)) := by
  refine spec_of t_reader_Ref_Kids (by simp) fun w0 I0 => ?_
  unfold c_reader_Ref_Kids
  by_cases h1 : r.kind = 1
  · simp [h1]; exact frz_is rfl (by simp [nk,h1])
  · simp [h1]; exact frz_is rfl (by simp [nk,h1])
theorem hasW_bound {l : List (List Int)} (hs : Sg l) {s a n : Int} (h : hasW l s a n = true) : 0≤a∧0≤n∧a + n≤17592186044416 := by
  obtain ⟨h1,h2,h3,h4,h5,_,h6⟩ := hasW_in h
  have := hs.b _ (List.getElem_mem h5)
  omega
theorem word_spec' {l : List (List Int)} (hs : Sg l) {r : Rf} (hr : RfOk l r) (i : Int) : G.Spec Tryz.prog 145 [paX l r,iv i] (uv (wordAt l r i)) := by
  refine spec_of t_reader_Ref_Word (by simp) fun w0 I0 => ?_
  unfold c_reader_Ref_Word
  simp
  refine sc_call_gf rfl (fun _ => refWords_spec' l r) (fun e => by simp [e]) (by simp) ?_
  by_cases hi : i < 0∨nwR r≤i
  · have hd : (decide (i < 0) || decide (nwR r≤i)) = true := by simpa using hi
    simp [hd]
    exact frz_is rfl (by simp [wordAt,hi])
  · have hd : (decide (i < 0) || decide (nwR r≤i)) = false := by simpa using hi
    simp [hd]
    have e : wordAt l r i = if r.kind = 10 then r.n else (word l r.s (r.at_ + i)).getD 0 := by rw [wordAt,if_neg hi]
    by_cases h10 : r.kind = 10
    · simp [h10]
      exact frz_is rfl (by rw [e,if_pos h10])
    · have h1 : r.kind = 1 := by
        cases hr <;> simp [nwR,Rf.zero] at hi h10 ⊢ <;> omega
      simp [h10]
      rw [e,if_neg h10,arO_nz (by omega)]
      have hb : IntKind.i64.wrap (r.at_ + i) = r.at_ + i := by
        cases hr with
        | str s a d k a1 a2 a3 a4 h =>
          have := hasW_bound hs h
          simp [nwR] at hi ⊢
          exact i64_same (by omega) (by omega)
        | _ => simp [Rf.zero] at h1 <;> omega
      rw [hb]
      refine sc_call (get_spec l hs.b r.s (r.at_ + i)) rfl ?_
      simp
      exact frz_bare rfl
theorem comp_spec {l : List (List Int)} (hs : Sg l) (s a n : Int) (ha : 0≤a) (ha1 : a≤17592186044416) : G.Spec Tryz.prog 136 [.agg [arn l,iv 0,iv s,iv a,iv 0,iv 0,iv 0,uv 0],iv n] (.tup [paX l (compP l s a n).1,iv (compP l s a n).2]) := by
  have h0 : 0≤(word l s a).getD 0∧(word l s a).getD 0 < 18446744073709551616 := by
    cases e : word l s a with
    | none => simp
    | some x => exact word_in hs.w e
  refine spec_of t_reader_Ref_composite (by simp) fun w0 I0 => ?_
  unfold c_reader_Ref_composite
  simp
  refine sc_call (get_spec l hs.b s a) rfl ?_
  simp
  unfold compP
  generalize (word l s a).getD 0 = w at h0
  refine sc_call (Decode_spec h0.1 h0.2) rfl ?_
  have hsh := dec_shp h0.1 h0.2
  have ho := dec_off h0.1 h0.2
  have hdp : 0≤(dec w).data∧(dec w).data < 65536∧0≤(dec w).ptrs∧(dec w).ptrs < 65536 := by
    unfold dec
    repeat' split
    all_goals simp
    all_goals omega
  generalize dec w = p at hsh ho hdp
  have hb : -70368744177664≤p.off * (p.data + p.ptrs)∧p.off * (p.data + p.ptrs)≤70368744177664 := by
    have b1 : p.off * (p.data + p.ptrs)≤536870912 * (p.data + p.ptrs) := Int.mul_le_mul_of_nonneg_right (by omega) (by omega)
    have b2 : -536870912 * (p.data + p.ptrs)≤p.off * (p.data + p.ptrs) := Int.mul_le_mul_of_nonneg_right (by omega) (by omega)
    omega
  have e1 : IntKind.i64.wrap (p.data + p.ptrs) = p.data + p.ptrs := i64_same (by omega) (by omega)
  have e2 : IntKind.i64.wrap (p.off * (p.data + p.ptrs)) = p.off * (p.data + p.ptrs) := i64_same (by omega) (by omega)
  have e3 : IntKind.i64.wrap (a + 1) = a + 1 := i64_same (by omega) (by omega)
  by_cases hc : (w ≠ 0∧p.kind ≠ 1)∨p.off < 0∨n < p.off * (p.data + p.ptrs)
  · have hd : (((!decide (w = 0) && !decide (p.kind = 1)) || decide (p.off < 0)) || decide (n < p.off * (p.data + p.ptrs))) = true := by simp; omega
    rw [if_pos hc]
    simp [e1,e2,hd]
    exact frz_is (tup_bare (by simp)) (by simp [Rf.zero,arO])
  · have hd : (((!decide (w = 0) && !decide (p.kind = 1)) || decide (p.off < 0)) || decide (n < p.off * (p.data + p.ptrs))) = false := by simp; omega
    rw [if_neg hc]
    simp [e1,e2,e3,hd]
    exact frz_is (tup_bare (by simp)) (by simp [arO])
theorem at_spec {l : List (List Int)} (hs : Sg l) (s a : Int) : G.Spec Tryz.prog 100 [arn l,iv s,iv a] (.tup [paX l (atP l s a).1,iv (atP l s a).2]) := by
  have hf := follow_folw hs.w s a
  refine spec_of t_reader_At (by simp) fun w0 I0 => ?_
  unfold c_reader_At
  simp
  refine sc_call (follow_spec l hs.b hs.w s a) rfl ?_
  unfold atP
  generalize followP l s a = x at hf
  obtain ⟨x,e⟩ := x
  unfold Folw at hf
  simp only at hf ⊢
  by_cases hc : e ≠ 0∨x.p.kind = 0
  · have hd : (!decide (e = 0) || decide (x.p.kind = 0)) = true := by simp; omega
    simp [hd,hc]
    exact frz_is (tup_bare (by simp)) (by simp [Rf.zero,arO])
  · have hd : (!decide (e = 0) || decide (x.p.kind = 0)) = false := by simp; omega
    have he : e = 0 := by omega
    obtain h0 | ⟨hk,hsh,hw⟩ := hf he
    · omega
    have hbd := hasW_bound hs hw
    rw [if_neg hc]
    simp [hd]
    unfold refP
    by_cases k1 : x.p.kind = 1
    · simp [k1]
      exact frz_is (tup_bare (by simp)) (by simp [arO])
    · have k2 : x.p.kind = 2 := by omega
      obtain ⟨c0,c1,_,_⟩ := hsh.k2 k2
      by_cases c6 : x.p.code < 6
      · have e2 : IntKind.i64.wrap (2 + x.p.code) = 2 + x.p.code := i64_same (by omega) (by omega)
        have c7 : x.p.code < 7 := by omega
        have nz : ¬ (2 + x.p.code = 0) := by omega
        simp [k1,c6,c7,e2]
        exact ⟨frz_is (tup_bare (by simp)) (by simp [arO,nz]),fun h => absurd h (by omega)⟩
      · by_cases c6' : x.p.code = 6
        · simp [k1,c6']
          exact frz_is (tup_bare (by simp)) (by simp [arO])
        · have c7 : ¬ x.p.code < 7 := by omega
          simp [k1,c6,c6',c7]
          intro _
          refine sc_call (comp_spec hs x.s x.at_ x.p.count hbd.1 (by omega)) rfl ?_
          simp
          exact frz_bare (tup_bare (by simp))
theorem root_spec {l : List (List Int)} (hs : Sg l) : G.Spec Tryz.prog 64 [arn l] (.tup [paX l (atP l 0 0).1,iv (atP l 0 0).2]) := by
  refine spec_of t_reader_Root (by simp) fun w0 I0 => ?_
  unfold c_reader_Root
  simp
  refine sc_call (at_spec hs 0 0) rfl ?_
  simp
  exact frz_bare (tup_bare (by simp))
end Go.Proofs.YthfiijdbnkaabaaGreat

namespace Go.Proofs.YthfiijdbnkaabaaGreat
set_option linter.unusedVariables false
set_option linter.unusedSimpArgs false
open Go Go.G Go.Proofs Go.PL
theorem word_drop {l : List (List Int)} {s a : Int} (ha : 0≤a) (k : Nat) : ((((seg l s).getD []).drop a.toNat)[k]?).getD 0 = (word l s (a + k)).getD 0 := by
  unfold word
  rw [if_pos (by omega)]
  cases seg l s with
  | none => simp
  | some g =>
    simp only [Option.getD_some,Option.bind_some,List.getElem?_drop]
    have : a.toNat + k = (a + k).toNat := by omega
    rw [this]
theorem atom_spec {l : List (List Int)} (hs : Sg l) {c s a n : Int} (c0 : 0≤c) (c6 : c < 6) (n0 : 0≤n) (n1 : n < 536870912) (h : hasW l s a ((n * bitsOf c + 63) / 64) = true) {i : Int} (i0 : 0≤i) (i1 : i < n) :
    G.Spec Tryz.prog 158 [paX l ⟨2 + c,s,a,0,0,n,0⟩,iv i] (uv (atomZ l ⟨2 + c,s,a,0,0,n,0⟩ i)) := by
  have hb := hasW_bound hs h
  have e2 : IntKind.i64.wrap c = c := i64_same (by omega) (by omega)
  have nz : ¬ (2 + c = 0) := by omega
  have key : ∀ w per : Int,widthZ c = w→w * per = 64→(w = 1∨w = 8∨w = 16∨w = 32∨w = 64)→getZ [(word l s (a + i / per)).getD 0] c (i % per) = atomZ l ⟨2 + c,s,a,0,0,n,0⟩ i := fun w per hw hp hw' => by
    unfold atomZ getZ
    simp only [show 2 + c - 2 = c by omega,hw]
    have hk : (i % per * w / 64).toNat = 0∧i % per * w % 64 = i * w % 64∧i * w / 64 = i / per∧¬ (i % per < 0)∧¬ 1099511627776 < i % per := by
      rcases hw' with rfl | rfl | rfl | rfl | rfl
      · have : per = 64 := by omega
        subst this; omega
      · have : per = 8 := by omega
        subst this; omega
      · have : per = 4 := by omega
        subst this; omega
      · have : per = 2 := by omega
        subst this; omega
      · have : per = 1 := by omega
        subst this; omega
    obtain ⟨k1,k2,k3,k4,k5⟩ := hk
    rw [if_neg (by omega),if_neg (by omega),k1,k2,k3]
    have hd0 : 0≤i / per := by rw [← k3]; rcases hw' with rfl | rfl | rfl | rfl | rfl <;> omega
    have := word_drop (l := l) (s := s) (a := a) hb.1 (i / per).toNat
    rw [show ((i / per).toNat : Int) = i / per by omega] at this
    rw [this]
    simp
  have e2' : IntKind.i64.wrap (2 + c - 2) = c := by rw [i64_same (by omega) (by omega)]; omega
  have hw64 : ∀ x : Int,0≤(word l s x).getD 0∧(word l s x).getD 0 < 18446744073709551616 := fun x => by
    cases e : word l s x with
    | none => simp
    | some y => exact word_in hs.w e
  refine spec_of t_reader_Ref_atom (by simp) fun w0 I0 => ?_
  unfold c_reader_Ref_atom
  simp [e2']
  refine sc_call (wWidth_spec c) rfl ?_
  by_cases hc0 : c = 0
  · subst hc0
    simp [widthZ]
    exact frz_is rfl (by simp [atomZ,getZ,widthZ])
  have hx : ∃ w per : Int,widthZ c = w∧w * per = 64∧(w = 1∨w = 8∨w = 16∨w = 32∨w = 64)∧(per = 64∨per = 8∨per = 4∨per = 2∨per = 1)∧IntKind.i64.wrap ((64 : Int).tdiv w) = per := by
    have hc : c = 1∨c = 2∨c = 3∨c = 4∨c = 5 := by omega
    rcases hc with rfl | rfl | rfl | rfl | rfl
    · exact ⟨1,64,rfl,rfl,by omega,by omega,by decide⟩
    · exact ⟨8,8,rfl,rfl,by omega,by omega,by decide⟩
    · exact ⟨16,4,rfl,rfl,by omega,by omega,by decide⟩
    · exact ⟨32,2,rfl,rfl,by omega,by omega,by decide⟩
    · exact ⟨64,1,rfl,rfl,by omega,by omega,by decide⟩
  obtain ⟨w,per,hw,hp,hw',hper,ep⟩ := hx
  have hk := key w per hw hp hw'
  have wn : ¬ w < 0 := by omega
  have wz : ¬ w = 0 := by omega
  have pz : ¬ per = 0 := by omega
  have hq : 0≤i / per∧i / per≤i := by rcases hper with rfl | rfl | rfl | rfl | rfl <;> omega
  have hm : 0≤i % per := Int.emod_nonneg _ pz
  have e3 : IntKind.i64.wrap (i.tdiv per) = i / per := by rw [Int.tdiv_eq_ediv_of_nonneg i0,i64_same (by omega) (by omega)]
  have e4 : IntKind.i64.wrap (a + i / per) = a + i / per := i64_same (by omega) (by omega)
  have e5 : i.tmod per = i % per := Int.tmod_eq_emod_of_nonneg i0
  simp [hw,wn,wz,ep,pz,e3,e4,arO,nz]
  refine sc_call (get_spec l hs.b s (a + i / per)) rfl ?_
  simp [pz,e5]
  have hx := hw64 (a + i / per)
  refine sc_call ((wGet_spec (g := [(word l s (a + i / per)).getD 0]) (fun x hx' => by simp at hx'; rw [hx']; exact hx) (by simp) c (i % per)).soft (by simp [A.softL,A.soft])) rfl ?_
  simp
  rw [hk]
  exact frz_bare rfl
theorem kid_spec {l : List (List Int)} (hs : Sg l) {r : Rf} (hr : RfOk l r) (i : Int) : G.Spec Tryz.prog 139 [paX l r,iv i] (.tup [paX l (kidP l r i).1,iv (kidP l r i).2]) := by
  refine spec_of t_reader_Ref_Kid (by simp) fun w0 I0 => ?_
  unfold c_reader_Ref_Kid
  simp
  refine sc_call_gf rfl (fun _ => refKids_spec' l r) (fun e => by simp [e]) (by simp) ?_
  by_cases hi : i < 0∨nk r≤i
  · have hd : (decide (i < 0) || decide (nk r≤i)) = true := by simpa using hi
    simp [hd]
    exact frz_is (tup_bare (by simp)) (by simp [kidP,hi,Rf.zero,arO])
  · have hd : (decide (i < 0) || decide (nk r≤i)) = false := by simpa using hi
    have hi0 : 0≤i := by omega
    have hi1 : i < nk r := by omega
    have hk := nk_nonneg hr
    rw [kidP,if_neg hi]
    cases hr with
    | zero => simp [nk,Rf.zero] at hi1; omega
    | str s a d k a1 a2 a3 a4 h =>
      have hb := hasW_bound hs h
      have e1 : IntKind.i64.wrap (IntKind.i64.wrap (a + d) + i) = a + d + i := by
        rw [i64_same (n := a + d) (by omega) (by omega),i64_same (by omega) (by omega)]
      simp [hd,arO,e1]
      refine sc_call (at_spec hs s (a + d + i)) rfl ?_
      simp
      exact frz_bare (tup_bare (by simp))
    | dat c s a n a1 a2 a3 a4 h =>
      have n0 : ¬ (2 + c = 0) := by omega
      have n1 : ¬ (2 + c = 1) := by omega
      have n8 : ¬ (2 + c = 8) := by omega
      have n9 : ¬ (2 + c = 9) := by omega
      have hn : i < n := by simpa [nk,n1] using hi1
      have := atom_spec hs a1 a2 a3 a4 h hi0 hn
      simp [hd,n1,n8,n9]
      refine sc_call this (by simp) ?_
      simp
      exact frz_is (tup_bare (by simp)) (by simp [arO,n0])
    | ptrs s a n a1 a2 h =>
      have hb := hasW_bound hs h
      have e1 : IntKind.i64.wrap (a + i) = a + i := i64_same (by omega) (by omega)
      simp [hd,arO,e1]
      refine sc_call (at_spec hs s (a + i)) rfl ?_
      simp
      exact frz_bare (tup_bare (by simp))
    | comp s a d k n a1 a2 a3 a4 a5 a6 h =>
      have hb := hasW_bound hs h
      have hn : i < n := by simpa [nk] using hi1
      have m1 : 0≤i * (d + k) := Int.mul_nonneg hi0 (by omega)
      have m2 : i * (d + k)≤n * (d + k) := mul_le_of (by omega) (by omega)
      have e1 : IntKind.i64.wrap (d + k) = d + k := i64_same (by omega) (by omega)
      have e2 : IntKind.i64.wrap (i * (d + k)) = i * (d + k) := i64_same (by omega) (by omega)
      have e3 : IntKind.i64.wrap (a + i * (d + k)) = a + i * (d + k) := i64_same (by omega) (by omega)
      simp [hd,arO,e1,e2,e3]
      exact frz_is (tup_bare (by simp)) (by simp [arO])
    | atom n a1 a2 => simp [nk] at hi1; omega
theorem means_word {l : List (List Int)} {r : Rf} {t : T} (h : Means l r t) : nwR r = t.words.length∧∀ (i : Nat) (hi : i < t.words.length),wordAt l r i = t.words[i] := by
  cases h with
  | mk _ _ hr hk hw hn he hm =>
    have hl : nwR r = (wordsR l r).length := by
      cases hr with
      | str s a d k a1 a2 a3 a4 h =>
        obtain ⟨h1,h2,h3,h4,h5,e,h6⟩ := hasW_in h
        simp [nwR,wordsR,part,e]
        omega
      | dat c s a n a1 a2 a3 a4 h =>
        have : ¬ (2 + c = 10) := by omega
        have h1 : ¬ (2 + c = 1) := by omega
        simp [nwR,wordsR,this,h1]
      | _ => simp [nwR,wordsR,Rf.zero]
    rw [← hw]
    refine ⟨hl,fun i hi => ?_⟩
    have hi' : (i : Int) < nwR r := by rw [hl]; omega
    rw [wordAt,if_neg (by omega)]
    cases hr with
    | str s a d k a1 a2 a3 a4 h =>
      obtain ⟨h1,h2,h3,h4,h5,e,h6⟩ := hasW_in h
      simp [wordsR,part,e]
      have := word_drop (l := l) (s := s) (a := a) h3 i
      rw [e] at this
      simp at this
      rw [← this,List.getElem?_eq_getElem (by simp [nwR] at hi'; omega)]
      simp
    | atom n a1 a2 =>
      simp [wordsR] at hi ⊢
    | dat c s a n a1 a2 a3 a4 h =>
      have : ¬ (2 + c = 10) := by omega
      have h1 : ¬ (2 + c = 1) := by omega
      simp [nwR,this,h1] at hi'
      omega
    | _ => simp [nwR,Rf.zero] at hi' <;> omega
theorem means_ok {l : List (List Int)} {r : Rf} {t : T} (h : Means l r t) : RfOk l r := by cases h; assumption
theorem means_kind {l : List (List Int)} {r : Rf} {t : T} (h : Means l r t) : r.kind = t.kind := by cases h; assumption
theorem means_nk {l : List (List Int)} {r : Rf} {t : T} (h : Means l r t) : nk r = t.kids.length := by cases h; assumption
theorem means_kid {l : List (List Int)} {r : Rf} {t : T} (h : Means l r t) {i : Nat} (hi : i < t.kids.length) : (kidP l r i).2 = 0∧Means l (kidP l r i).1 t.kids[i] := by
  cases h with
  | mk _ _ hr hk hw hn he hm => exact ⟨he i hi,hm i hi⟩
end Go.Proofs.YthfiijdbnkaabaaGreat

namespace Go.Proofs.YthfiijdbnkaabaaGreat
set_option linter.unusedVariables false
set_option linter.unusedSimpArgs false
open Go Go.G Go.Proofs Go.PL
theorem means_bare {l : List (List Int)} {r : Rf} {t : T} (h : Means l r t) : Bare t := fun h0 => by
  have hk := means_kind h
  have hw := (means_word h).1
  have hn := means_nk h
  have hr := means_ok h
  rw [h0] at hk
  have : nwR r = 0∧nk r = 0 := by
    cases hr <;> simp [nwR,nk,Rf.zero] at hk ⊢ <;> omega
  exact ⟨List.eq_nil_of_length_eq_zero (by omega),List.eq_nil_of_length_eq_zero (by omega)⟩
theorem means_len {l : List (List Int)} {r : Rf} {t : T} (h : Means l r t) : t.words.length≤65536∧t.kids.length < 536870912 := by
  have hw := (means_word h).1
  have hn := means_nk h
  have hr := means_ok h
  have := nk_nonneg hr
  have : nwR r≤65536 := by
    cases hr <;> simp [nwR,Rf.zero] <;> (try split) <;> omega
  omega
section
variable {n0 : Nat} {w0 : World} {I0 : Nat→Prop} {Q : Exit→Sta→Prop} {H : Hp}
end
section
variable {n0 : Nat} {w0 : World} {I0 : Nat→Prop} {Q : Exit→Sta→Prop} {H : Hp}
end
section
variable {n0 : Nat} {w0 : World} {I0 : Nat→Prop} {Q : Exit→Sta→Prop}
end
end Go.Proofs.YthfiijdbnkaabaaGreat

namespace Go.Proofs.YthfiijdbnkaabaaGreat
set_option linter.unusedVariables false
set_option linter.unusedSimpArgs false
set_option maxRecDepth 20000
open Go Go.G Go.Proofs
def k1_centoref12_pointer : CC := sR [mO 18 9,oO 19 (.binOp .mul 3 (nI 4) (xT 18) 3),mO 20 2,oO 21 (bO .add 3 19 20 3),oO 22 (.convert 3 60 (xT 21)),mO 23 3,oO 24 (.binOp .mul 60 (xT 23) (.const (.int .u64 4294967296)) 60),oO 25 (bO .add 60 22 24 60),aO 8 25] [8] (.ret) 
def c_centoref12_pointer : CC := sR [oO 8 (.assign (.const (.int .u64 0)))] [0,1,2,3] (sR [mO 10 1,mO 11 0,oO 12 (bO .sub 3 10 11 3),oO 13 (.binOp .sub 3 (xT 12) (nI 1) 3),aO 9 13] [2,3,9] (.seq (sR [mO 14 9,oO 15 (.binOp .lss 3 (xT 14) (nI 0) 3)] [2,3,9,15] (cD 15 (.reg [mO 16 9,oO 17 (.binOp .add 3 (xT 16) (nI 1073741824) 3),aO 9 17] [2,3,9]) (.skip))) (.keep [2,3,9] k1_centoref12_pointer)))
theorem t_centoref12_pointer : Txt Tryz.prog 113 26 [(.tmp 8)] c_centoref12_pointer := txt_of (code := Tryz.f113.body.getD .ret) mixed (by kernel_rfl) Tryz.func113 (by kernel_rfl) Tryz.ntmps113 (by kernel_rfl) (ls := lsOf c_centoref12_pointer) (by kernel_rfl)
def l1_centoref12_atoms : CC := .seq (sR [mO 5 4,fO 6 25 1 2,lO 7 23 6,oO 8 (bL 7 23),oO 9 (bO .lss 3 5 8 3)] [1,3,4,9] (cD 9 (.skip) (.exit 0))) (.keep [1,3,4] (.seq (.block 1 (.reg [mO 12 3,fO 13 25 1 2,lO 14 23 13,mO 15 4,oO 16 (iA 23 14 15),fO 17 25 16 1,lO 18 22 17,oO 19 (.indexAddr 22 (xT 18) (nI 0)),lO 20 60 19,oO 21 (.buildSlice 22 1 #[(0,(xT 20))]),oN 22 (bC .append #[(xT 12),(xT 21)] #[22,22]) [1],aO 3 22] [1,3,4])) (.reg [mO 10 4,oO 11 (.binOp .add 3 (xT 10) (nI 1) 3),aO 4 11] [1,3,4]))) 
def c_centoref12_atoms : CC := sR [oN 1 (.box 25 (xT 0)) [0],oO 2 (.assign nS)] [1] (sR [oO 3 (.assign nS)] [1,3] (.seq (sR [oO 4 (.assign (nI 0))] [1,3,4] (.block 0 (.loop l1_centoref12_atoms))) (.keep [3] (sR [mO 23 3,aO 2 23] [2] (.ret)))))
theorem t_centoref12_atoms : Txt Tryz.prog 116 24 [(.tmp 2)] c_centoref12_atoms := txt_of (code := Tryz.f116.body.getD .ret) mixed (by kernel_rfl) Tryz.func116 (by kernel_rfl) Tryz.ntmps116 (by kernel_rfl) (ls := lsOf c_centoref12_atoms) (by kernel_rfl)
def l1_centoref12_add : CC := .seq (sR [mO 6 5,mO 7 1,oO 8 (bO .lss 3 6 7 3)] [0,1,5,8] (cD 8 (.skip) (.exit 0))) (.keep [0,1,5] (.seq (.block 1 (.reg [mO 11 0,oO 12 (.buildSlice 22 1 #[(0,(.const (.int .u64 0)))]),oN 13 (bC .append #[(xT 11),(xT 12)] #[22,22]) [1],aO 0 13] [0,1,5])) (.reg [mO 9 5,oO 10 (.binOp .add 3 (xT 9) (nI 1) 3),aO 5 10] [0,1,5]))) 
def c_centoref12_add : CC := sR [oO 4 (.assign nS)] [0,1] (.seq (sR [oO 5 (.assign (nI 0))] [0,1,5] (.block 0 (.loop l1_centoref12_add))) (.keep [0] (sR [mO 14 0,aO 4 14] [4] (.ret))))
theorem t_centoref12_add : Txt Tryz.prog 114 15 [(.tmp 4)] c_centoref12_add := txt_of (code := Tryz.f114.body.getD .ret) mixed (by kernel_rfl) Tryz.func114 (by kernel_rfl) Tryz.ntmps114 (by kernel_rfl) (ls := lsOf c_centoref12_add) (by kernel_rfl)
def l1_centoref12_Lay : CC := .seq (sR [mO 61 8,fO 62 25 5 2,lO 63 23 62,oO 64 (bL 63 23),oO 65 (bO .lss 3 61 64 3)] [0,5,7,8,65] (cD 65 (.skip) (.exit 1))) (.keep [0,5,7,8] (.seq (.block 2 (.reg [mO 68 0,mO 69 7,fO 70 25 5 1,lO 71 22 70,oO 72 (bL 71 22),oO 73 (bO .add 3 69 72 3),mO 74 8,oO 75 (bO .add 3 73 74 3),fO 76 25 5 2,lO 77 23 76,mO 78 8,oO 79 (iA 23 77 78),lO 80 25 79,oO 81 (cL 81 #[(xT 68),(xT 75),(xT 80)] #[22,3,25]),aO 0 81] [0,5,7,8])) (.reg [mO 66 8,oO 67 (.binOp .add 3 (xT 66) (nI 1) 3),aO 8 67] [0,5,7,8])))
def k1_centoref12_Lay : CC := sR [mO 36 0,mO 37 1,mO 38 1,mO 39 7,fO 40 25 5 1,lO 41 22 40,oO 42 (bL 41 22),oO 43 (.convert 3 60 (xT 42)),fO 44 25 5 2,lO 45 23 44,oO 46 (bL 45 23),oO 47 (.convert 3 60 (xT 46)),oO 48 (.binOp .mul 60 (.const (.int .u64 65536)) (xT 47) 60),oO 49 (bO .add 60 43 48 60),oO 50 (cL 113 #[(xT 38),(xT 39),(nI 0),(xT 49)] #[3,3,3,60]),oO 51 (iA 22 36 37),oS (.store 60 (xT 51) (xT 50))] [0,5,7] (sR [mO 52 0,fO 53 25 5 1,lO 54 22 53,oN 55 (bC .append #[(xT 52),(xT 54)] #[22,22]) [2],aO 0 55] [0,5,7] (sR [mO 56 0,fO 57 25 5 2,lO 58 23 57,oO 59 (bL 58 23),oO 60 (cL 114 #[(xT 56),(xT 59)] #[22,3]),aO 0 60] [0,5,7] (.seq (sR [oO 8 (.assign (nI 0))] [0,5,7,8] (.block 1 (.loop l1_centoref12_Lay))) (.keep [0] (sR [mO 82 0,aO 6 82] [6] (.ret))))))
def l2_centoref12_Lay : CC := .seq (sR [mO 102 9,fO 103 25 5 2,lO 104 23 103,oO 105 (bL 104 23),oO 106 (bO .lss 3 102 105 3)] [0,5,7,9,106] (cD 106 (.skip) (.exit 3))) (.keep [0,5,7,9] (.seq (.block 4 (.reg [mO 109 0,mO 110 7,mO 111 9,oO 112 (bO .add 3 110 111 3),fO 113 25 5 2,lO 114 23 113,mO 115 9,oO 116 (iA 23 114 115),lO 117 25 116,oO 118 (cL 81 #[(xT 109),(xT 112),(xT 117)] #[22,3,25]),aO 0 118] [0,5,7,9])) (.reg [mO 107 9,oO 108 (.binOp .add 3 (xT 107) (nI 1) 3),aO 9 108] [0,5,7,9])))
def l3_centoref12_Lay : CC := .seq (sR [mO 158 13,mO 159 12,oO 160 (bO .lss 3 158 159 3)] [0,5,7,10,11,12,13,160] (cD 160 (.skip) (.exit 5))) (.keep [0,5,7,10,11,12,13] (.seq (.block 6 (sR [mO 163 0,fO 164 25 5 2,lO 165 23 164,mO 166 13,oO 167 (iA 23 165 166),fO 168 25 167 1,lO 169 22 168,oN 170 (bC .append #[(xT 163),(xT 169)] #[22,22]) [4],aO 0 170] [0,5,7,10,11,12,13] (.reg [mO 171 0,mO 172 10,mO 173 11,oO 174 (bO .add 3 172 173 3),fO 175 25 5 2,lO 176 23 175,mO 177 13,oO 178 (iA 23 176 177),fO 179 25 178 1,lO 180 22 179,oO 181 (bL 180 22),oO 182 (bO .sub 3 174 181 3),oO 183 (cL 114 #[(xT 171),(xT 182)] #[22,3]),aO 0 183] [0,5,7,10,11,12,13]))) (.reg [mO 161 13,oO 162 (.binOp .add 3 (xT 161) (nI 1) 3),aO 13 162] [0,5,7,10,11,12,13])))
def l4_centoref12_Lay : CC := .seq (sR [mO 189 15,fO 190 25 5 2,lO 191 23 190,mO 192 14,oO 193 (iA 23 191 192),fO 194 25 193 2,lO 195 23 194,oO 196 (bL 195 23),oO 197 (bO .lss 3 189 196 3)] [0,5,7,10,11,12,14,15,197] (cD 197 (.skip) (.exit 9))) (.keep [0,5,7,10,11,12,14,15] (.seq (.block 10 (.reg [mO 200 0,mO 201 7,oO 202 (.binOp .add 3 (xT 201) (nI 1) 3),mO 203 14,mO 204 10,mO 205 11,oO 206 (bO .add 3 204 205 3),oO 207 (bO .mul 3 203 206 3),oO 208 (bO .add 3 202 207 3),mO 209 10,oO 210 (bO .add 3 208 209 3),mO 211 15,oO 212 (bO .add 3 210 211 3),fO 213 25 5 2,lO 214 23 213,mO 215 14,oO 216 (iA 23 214 215),fO 217 25 216 2,lO 218 23 217,mO 219 15,oO 220 (iA 23 218 219),lO 221 25 220,oO 222 (cL 81 #[(xT 200),(xT 212),(xT 221)] #[22,3,25]),aO 0 222] [0,5,7,10,11,12,14,15])) (.reg [mO 198 15,oO 199 (.binOp .add 3 (xT 198) (nI 1) 3),aO 15 199] [0,5,7,10,11,12,14,15])))
def l5_centoref12_Lay : CC := .seq (sR [mO 184 14,mO 185 12,oO 186 (bO .lss 3 184 185 3)] [0,5,7,10,11,12,14,186] (cD 186 (.skip) (.exit 7))) (.keep [0,5,7,10,11,12,14] (.seq (.block 8 (sR [oO 15 (.assign (nI 0))] [0,5,7,10,11,12,14,15] (.block 9 (.loop l4_centoref12_Lay)))) (.keep [0,5,7,10,11,12,14] (.reg [mO 187 14,oO 188 (.binOp .add 3 (xT 187) (nI 1) 3),aO 14 188] [0,5,7,10,11,12,14])))) 
def c_centoref12_Lay : CC := sR [oN 5 (.box 25 (xT 2)) [1],oO 6 (.assign nS)] [0,1,5] (sR [mO 18 0,oO 19 (bL 18 22),aO 7 19] [0,1,5,7] (.seq (sR [fO 20 25 5 0,lO 21 3 20] [0,1,5,7,21] (.block 0 (sR [oO 23 (.binOp .eql 3 (xT 21) (nI 0) 3),aO 22 23] [0,1,5,7,21,22] (cD 22 (sR [mO 24 0,aO 6 24] [6] (.ret)) (sR [oO 26 (.binOp .eql 3 (xT 21) (nI 1) 3),aO 25 26] [0,1,5,7,21,25] (cD 25 (.seq (sR [fO 27 25 5 1,lO 28 22 27,oO 29 (bL 28 22),fO 30 25 5 2,lO 31 23 30,oO 32 (bL 31 23),oO 33 (bO .add 3 29 32 3),oO 34 (.binOp .eql 3 (xT 33) (nI 0) 3)] [0,1,5,7,34] (cD 34 (.reg [mO 35 1,aO 7 35] [0,1,5,7]) (.skip))) (.keep [0,1,5,7] k1_centoref12_Lay)) (sR [oO 84 (.binOp .eql 3 (xT 21) (nI 8) 3),aO 83 84] [0,1,5,7,21,83] (cD 83 (sR [mO 85 0,mO 86 1,mO 87 1,mO 88 7,fO 89 25 5 2,lO 90 23 89,oO 91 (bL 90 23),oO 92 (.convert 3 60 (xT 91)),oO 93 (.binOp .mul 60 (.const (.int .u64 8)) (xT 92) 60),oO 94 (.binOp .add 60 (.const (.int .u64 6)) (xT 93) 60),oO 95 (cL 113 #[(xT 87),(xT 88),(nI 1),(xT 94)] #[3,3,3,60]),oO 96 (iA 22 85 86),oS (.store 60 (xT 96) (xT 95))] [0,5,7] (sR [mO 97 0,fO 98 25 5 2,lO 99 23 98,oO 100 (bL 99 23),oO 101 (cL 114 #[(xT 97),(xT 100)] #[22,3]),aO 0 101] [0,5,7] (.seq (sR [oO 9 (.assign (nI 0))] [0,5,7,9] (.block 3 (.loop l2_centoref12_Lay))) (.keep [0] (sR [mO 119 0,aO 6 119] [6] (.ret)))))) (sR [oO 121 (.binOp .eql 3 (xT 21) (nI 9) 3),aO 120 121] [0,1,5,7,120] (cD 120 (sR [lO 123 25 5,oO 124 (cL 112 #[(xT 123)] #[25]),mO 122 124,xO 125 122 0,xO 126 122 1,aO 10 125,aO 11 126] [0,1,5,7,10,11] (sR [fO 127 25 5 2,lO 128 23 127,oO 129 (bL 128 23),aO 12 129] [0,1,5,7,10,11,12] (sR [mO 130 0,mO 131 1,mO 132 1,mO 133 7,mO 134 12,mO 135 10,mO 136 11,oO 137 (bO .add 3 135 136 3),oO 138 (bO .mul 3 134 137 3),oO 139 (.convert 3 60 (xT 138)),oO 140 (.binOp .mul 60 (.const (.int .u64 8)) (xT 139) 60),oO 141 (.binOp .add 60 (.const (.int .u64 7)) (xT 140) 60),oO 142 (cL 113 #[(xT 132),(xT 133),(nI 1),(xT 141)] #[3,3,3,60]),oO 143 (iA 22 130 131),oS (.store 60 (xT 143) (xT 142))] [0,5,7,10,11,12] (sR [mO 144 0,mO 145 12,oO 146 (.binOp .mul 3 (nI 4) (xT 145) 3),oO 147 (.convert 3 60 (xT 146)),mO 148 10,oO 149 (.convert 3 60 (xT 148)),mO 150 11,oO 151 (.convert 3 60 (xT 150)),oO 152 (.binOp .mul 60 (.const (.int .u64 65536)) (xT 151) 60),oO 153 (bO .add 60 149 152 60),oO 154 (.binOp .mul 60 (.const (.int .u64 4294967296)) (xT 153) 60),oO 155 (bO .add 60 147 154 60),oO 156 (.buildSlice 22 1 #[(0,(xT 155))]),oN 157 (bC .append #[(xT 144),(xT 156)] #[22,22]) [3],aO 0 157] [0,5,7,10,11,12] (.seq (sR [oO 13 (.assign (nI 0))] [0,5,7,10,11,12,13] (.block 5 (.loop l3_centoref12_Lay))) (.keep [0,5,7,10,11,12] (.seq (sR [oO 14 (.assign (nI 0))] [0,5,7,10,11,12,14] (.block 7 (.loop l5_centoref12_Lay))) (.keep [0] (sR [mO 223 0,aO 6 223] [6] (.ret)))))))))) (.skip))))))))))) (.keep [0,1,5,7] (sR [fO 225 25 5 0,⟨some 226,(lD 3 225),none,[],1,[],true⟩,oO 227 (.binOp .sub 3 (xT 226) (nI 2) 3),lO 228 25 5,⟨some 229,(cL 116 #[(xT 228)] #[25]),none,[],4,[1],false⟩,oO 230 (cL 115 #[(xT 227),(xT 229)] #[3,22]),mO 224 230,xO 231 224 0,xO 232 224 1,aO 16 231,aO 17 232] [0,1,5,7,16] (sR [mO 233 0,mO 234 1,mO 235 1,mO 236 7,fO 237 25 5 0,lO 238 3 237,oO 239 (.binOp .sub 3 (xT 238) (nI 2) 3),oO 240 (.convert 3 60 (xT 239)),fO 241 25 5 2,lO 242 23 241,oO 243 (bL 242 23),oO 244 (.convert 3 60 (xT 243)),oO 245 (.binOp .mul 60 (.const (.int .u64 8)) (xT 244) 60),oO 246 (bO .add 60 240 245 60),oO 247 (cL 113 #[(xT 235),(xT 236),(nI 1),(xT 246)] #[3,3,3,60]),oO 248 (iA 22 233 234),oS (.store 60 (xT 248) (xT 247))] [0,16] (sR [mO 249 0,mO 250 16,oN 251 (bC .append #[(xT 249),(xT 250)] #[22,22]) [5],aO 6 251] [6] (.ret)))))))
theorem t_centoref12_Lay : Txt Tryz.prog 81 252 [(.tmp 6)] c_centoref12_Lay := txt_of (code := Tryz.f81.body.getD .ret) mixed (by kernel_rfl) Tryz.func81 (by kernel_rfl) Tryz.ntmps81 (by kernel_rfl) (ls := lsOf c_centoref12_Lay) (by kernel_rfl)
def c_centoref12_Encode : CC := sR [oN 2 (.box 25 (xT 0)) [0],oO 4 (.assign nS),oO 5 (.assign (nB false))] [1,2] (.seq (sR [lO 6 25 2,oO 7 (cL 17 #[(xT 6),(nI 64)] #[25,3]),oO 8 (.unOp .not 4 (xT 7)),mO 9 8,oG 10 (fA 25 2 0) 9 false,oG 11 (lD 3 10) 9 false,oG 12 (.binOp .eql 3 (xT 11) (nI 10) 3) 9 false,oO 13 (.pick (xT 9) (nB true) (xT 12))] [1,2,13] (cD 13 (sR [oO 4 (.assign nS),oO 5 (.assign (nB false))] [4,5] (.ret)) (.skip))) (.keep [1,2] (sR [lO 14 25 2,oO 15 (cL 56 #[(xT 14)] #[25]),oS (.store 25 (xT 2) (xT 15))] [1,2] (.seq (sR [lO 16 25 2,oO 17 (cL 80 #[(xT 16)] #[25]),mO 18 1,oO 19 (bO .geq 3 17 18 3),mO 20 19,oG 21 (lD 25 2) 20 false,oG 22 (cL 80 #[(xT 21)] #[25]) 20 false,oG 23 (.binOp .geq 3 (xT 22) (nI 131072) 3) 20 false,oO 24 (.pick (xT 20) (nB true) (xT 23))] [2,24] (cD 24 (sR [oO 4 (.assign nS),oO 5 (.assign (nB false))] [4,5] (.ret)) (.skip))) (.keep [2] (sR [oN 25 (.buildSlice 22 1 #[(0,(.const (.int .u64 0)))]) [5],lO 26 25 2,oO 27 (cL 81 #[(xT 25),(nI 0),(xT 26)] #[22,3,25]),aO 4 27,oO 5 (.assign (nB true))] [4,5] (.ret)))))))
theorem t_centoref12_Encode : Txt Tryz.prog 53 28 [(.tmp 4),(.tmp 5)] c_centoref12_Encode := txt_of (code := Tryz.f53.body.getD .ret) mixed (by kernel_rfl) Tryz.func53 (by kernel_rfl) Tryz.ntmps53 (by kernel_rfl) (ls := lsOf c_centoref12_Encode) (by kernel_rfl)
def l1_centoref01_Put : CC := .seq (sR [mO 34 10,mO 35 8,mO 36 6,oO 37 (bO .mul 3 35 36 3),oO 38 (.binOp .rem 3 (xT 37) (nI 64) 3),oO 39 (bO .lss 3 34 38 3)] [0,1,6,7,8,9,10,39] (cD 39 (.skip) (.exit 2))) (.keep [0,1,6,7,8,9,10] (.seq (.block 3 (.reg [mO 42 9,oO 43 (.binOp .mul 60 (xT 42) (.const (.int .u64 2)) 60),aO 9 43] [0,1,6,7,8,9,10])) (.reg [mO 40 10,oO 41 (.binOp .add 3 (xT 40) (nI 1) 3),aO 10 41] [0,1,6,7,8,9,10])))
def l2_centoref01_Put : CC := .seq (sR [mO 20 8,mO 21 1,oO 22 (bL 21 22),oO 23 (bO .lss 3 20 22 3)] [0,1,6,7,8,23] (cD 23 (.skip) (.exit 0))) (.keep [0,1,6,7,8] (.seq (.block 1 (sR [mO 26 1,mO 27 8,oO 28 (iA 22 26 27),lO 29 60 28,aO 9 29] [0,1,6,7,8,9] (.seq (sR [mO 30 0,mO 31 9,oO 32 (cL 42 #[(xT 30),(xT 31)] #[3,60]),oO 33 (.unOp .not 4 (xT 32))] [0,1,6,7,8,9,33] (cD 33 (sR [oO 4 (.assign nS),oO 5 (.assign (nB false))] [4,5] (.ret)) (.skip))) (.keep [0,1,6,7,8,9] (.seq (sR [oO 10 (.assign (nI 0))] [0,1,6,7,8,9,10] (.block 2 (.loop l1_centoref01_Put))) (.keep [0,1,6,7,8,9] (sR [mO 44 6,oO 45 (.binOp .gtr 3 (xT 44) (nI 0) 3)] [0,1,6,7,8,9,45] (cD 45 (.reg [mO 46 7,mO 47 8,mO 48 6,oO 49 (bO .mul 3 47 48 3),oO 50 (.binOp .quo 3 (xT 49) (nI 64) 3),mO 51 7,mO 52 8,mO 53 6,oO 54 (bO .mul 3 52 53 3),oO 55 (.binOp .quo 3 (xT 54) (nI 64) 3),oO 56 (iA 22 51 55),lO 57 60 56,mO 58 9,oO 59 (bO .add 60 57 58 60),oO 60 (iA 22 46 50),oS (.store 60 (xT 60) (xT 59))] [0,1,6,7,8]) (.skip))))))))) (.keep [0,1,6,7,8] (.reg [mO 24 8,oO 25 (.binOp .add 3 (xT 24) (nI 1) 3),aO 8 25] [0,1,6,7,8])))) 
def c_centoref01_Put : CC := sR [oO 4 (.assign nS),oO 5 (.assign (nB false))] [0,1] (sR [mO 11 0,oO 12 (cL 75 #[(xT 11)] #[3]),aO 6 12] [0,1,6] (.seq (sR [mO 13 6,oO 14 (.binOp .lss 3 (xT 13) (nI 0) 3)] [0,1,6,14] (cD 14 (sR [oO 4 (.assign nS),oO 5 (.assign (nB false))] [4,5] (.ret)) (.skip))) (.keep [0,1,6] (sR [mO 15 0,mO 16 1,oO 17 (bL 16 22),oO 18 (cL 111 #[(xT 15),(xT 17)] #[3,3]),oN 19 (.makeSlice 22 (xT 18) (xT 18)) [0],aO 7 19] [0,1,6,7] (.seq (sR [oO 8 (.assign (nI 0))] [0,1,6,7,8] (.block 0 (.loop l2_centoref01_Put))) (.keep [7] (sR [mO 61 7,aO 4 61,oO 5 (.assign (nB true))] [4,5] (.ret))))))))
theorem t_centoref01_Put : Txt Tryz.prog 115 62 [(.tmp 4),(.tmp 5)] c_centoref01_Put := txt_of (code := Tryz.f115.body.getD .ret) mixed (by kernel_rfl) Tryz.func115 (by kernel_rfl) Tryz.ntmps115 (by kernel_rfl) (ls := lsOf c_centoref01_Put) (by kernel_rfl)
end Go.Proofs.YthfiijdbnkaabaaGreat
