/-
  Texts, merged, without what is not reached.
-/
import Derived.Test.YtmeldaflhkiopaaGreatKLd
namespace Go.Proofs.YtmeldaflhkiopaaGreat
set_option linter.unusedVariables false
set_option linter.unusedSimpArgs false
open Go Go.G Go.Proofs
abbrev ws (l : List Int) : A := .sl false (l.map uv)
abbrev sgs (l : List (List Int)) : A := .sl false (l.map ws)
@[simp] theorem lens_ws (l : List (List Int)) : lens 1 (l.map ws) = true := by simp [lens]
theorem clone_spec (f : Bool) (l : List Int) (h : l.length * 8≤140737488355328) : SpecB Tryz.prog 46 [.sl f (l.map uv)] (ws l) := by
  cases l with
  | nil =>
    refine specB_nil (fun cap => ?_) (fun a cap => ?_)
    · refine specB_of t_slices_Clone_uint64_uint64 (by simp) fun w0 I0 => ?_
      unfold c_slices_Clone_uint64_uint64
      simp
      exact frzN_nil
    · refine specB_of t_slices_Clone_uint64_uint64 (by simp) fun w0 I0 => ?_
      unfold c_slices_Clone_uint64_uint64
      simp
      exact frzN_osl (sz := 1) (xs := []) (by simp) (by simp) (by simp)
  | cons x l =>
    refine specB_of t_slices_Clone_uint64_uint64 (by simp) fun w0 I0 => ?_
    unfold c_slices_Clone_uint64_uint64
    simp at h ⊢
    refine ⟨h,?_⟩
    have := frzN_osl (H := lkH [([0],{ u := 1,ob := Ob.arr 1 (uv x :: l.map uv) })]) (o := [0]) (u := 1) (off := 0) (len := l.length + 1) (sz := 1) (xs := uv x :: l.map uv) (by simp) (by simp) (by simp [A.flat1,List.take_of_length_le])
    simp [List.take_of_length_le] at this
    exact this
abbrev arX (l : List (List Int)) (z m u : Int) : A := .pim [sgs l,iv z,iv m,iv u]
abbrev arn (l : List (List Int)) : A := arX l 0 0 0
def seg (l : List (List Int)) (s : Int) : Option (List Int) := if 0≤s then l[s.toNat]? else none
def szAt (l : List (List Int)) (s : Int) : Nat := ((seg l s).map List.length).getD 0
def hasW (l : List (List Int)) (s a n : Int) : Bool := decide (0≤s∧s < l.length∧0≤a∧0≤n∧a + n≤szAt l s)
def word (l : List (List Int)) (s a : Int) : Option Int := if 0≤a then (seg l s).bind fun g => g[a.toNat]? else none
def part (l : List (List Int)) (s a n : Int) : List Int := (((seg l s).getD []).drop a.toNat).take n.toNat
def bitsOf (c : Int) : Int := if c = 0 then 0 else if c = 1 then 1 else if c = 2 then 8 else if c = 3 then 16 else if c = 4 then 32 else 64
def wordsP (p : Pt) : Option Int :=
  if p.kind = 1 then some (p.data + p.ptrs)
  else if p.kind = 2∧p.code = 7 then some (p.count + 1)
  else if p.kind = 2∧0≤p.code∧p.code≤6∧0≤p.count∧p.count≤536870911 then some ((p.count * bitsOf p.code + 63) / 64)
  else none
structure Lc where
  p : Pt
  s : Int
  at_ : Int
deriving DecidableEq
def Pt.l (p : Pt) : List A := [iv p.kind,iv p.off,iv p.data,iv p.ptrs,iv p.code,iv p.count,iv p.seg,bv p.dbl]
@[simp] theorem Pt.l_eq (p : Pt) : p.l = [iv p.kind,iv p.off,iv p.data,iv p.ptrs,iv p.code,iv p.count,iv p.seg,bv p.dbl] := rfl
def Pt.zero : Pt := ⟨0,0,0,0,0,0,0,false⟩
def Lc.zero : Lc := ⟨Pt.zero,0,0⟩
abbrev Lc.a (x : Lc) : A := .agg [iv x.p.kind,iv x.p.off,iv x.p.data,iv x.p.ptrs,iv x.p.code,iv x.p.count,iv x.p.seg,bv x.p.dbl,iv x.s,iv x.at_]
def insideP (l : List (List Int)) (x : Lc) : Lc × Int := if hasW l x.s x.at_ ((wordsP x.p).getD 0) = true then (⟨{ x.p with off := 0 },x.s,x.at_⟩,0) else (Lc.zero,7)
def nearP (l : List (List Int)) (p : Pt) (s a : Int) : Lc × Int :=
  if p.kind = 1∨p.kind = 2 then insideP l ⟨p,s,a + 1 + p.off⟩ else if p.kind = 4 then (Lc.zero,9) else (Lc.zero,8)
def Wds (l : List (List Int)) : Prop := ∀ x,x ∈ l→∀ y,y ∈ x→0≤y∧y < 18446744073709551616
def doubleP (l : List (List Int)) (s a : Int) : Lc × Int :=
  match word l s a,word l s (a + 1) with
  | some v,some w =>
    if (dec v).kind ≠ 3∨(dec v).dbl = true then (Lc.zero,8)
    else if (dec w).kind = 4 then (Lc.zero,9)
    else if ((dec w).kind ≠ 1∧(dec w).kind ≠ 2)∨(dec w).off ≠ 0 then (Lc.zero,8)
    else insideP l ⟨dec w,(dec v).seg,(dec v).off⟩
  | _,_ => (Lc.zero,7)
def followP (l : List (List Int)) (s a : Int) : Lc × Int :=
  match word l s a with
  | none => (Lc.zero,7)
  | some w =>
    if (dec w).kind = 0 then (Lc.zero,0)
    else if (dec w).kind ≠ 3 then nearP l (dec w) s a
    else if (dec w).dbl = true then doubleP l (dec w).seg (dec w).off
    else match word l (dec w).seg (dec w).off with
      | none => (Lc.zero,7)
      | some v => nearP l (dec v) (dec w).seg (dec w).off
abbrev zs : List A := [iv 0,iv 0,iv 0,iv 0,iv 0,iv 0,iv 0,bv false,iv 0,iv 0]
end Go.Proofs.YtmeldaflhkiopaaGreat
namespace Go.Proofs.YtmeldaflhkiopaaGreat
set_option linter.unusedVariables false
set_option linter.unusedSimpArgs false
open Go Go.G Go.Proofs Go.PL
structure Rf where
  kind : Int
  s : Int
  at_ : Int
  data : Int
  kids : Int
  count : Int
  n : Int
def Rf.zero : Rf := ⟨0,0,0,0,0,0,0⟩
def nk (r : Rf) : Int := if r.kind = 1 then r.kids else r.count
def compP (l : List (List Int)) (s a m : Int) : Rf × Int :=
  if ((word l s a).getD 0 ≠ 0∧(dec ((word l s a).getD 0)).kind ≠ 1)∨(dec ((word l s a).getD 0)).off < 0∨m < (dec ((word l s a).getD 0)).off * ((dec ((word l s a).getD 0)).data + (dec ((word l s a).getD 0)).ptrs) then (Rf.zero,8)
  else (⟨9,s,a + 1,(dec ((word l s a).getD 0)).data,(dec ((word l s a).getD 0)).ptrs,(dec ((word l s a).getD 0)).off,0⟩,0)
def refP (l : List (List Int)) (x : Lc) : Rf × Int :=
  if x.p.kind = 1 then (⟨1,x.s,x.at_,x.p.data,x.p.ptrs,0,0⟩,0)
  else if x.p.code < 7 then (⟨2 + x.p.code,x.s,x.at_,0,0,x.p.count,0⟩,0)
  else compP l x.s x.at_ x.p.count
def atP (l : List (List Int)) (s a : Int) : Rf × Int :=
  if (followP l s a).2 ≠ 0∨(followP l s a).1.p.kind = 0 then (Rf.zero,(followP l s a).2) else refP l (followP l s a).1
def getZ (g : List Int) (c i : Int) : Int :=
  if widthZ c < 1∨i < 0∨1099511627776 < i then 0 else ((g[(i * widthZ c / 64).toNat]?).getD 0) / 2 ^ (i * widthZ c % 64).toNat % 2 ^ (widthZ c).toNat
def atomZ (l : List (List Int)) (r : Rf) (i : Int) : Int := getZ (((seg l r.s).getD []).drop r.at_.toNat) (r.kind - 2) i
def kidP (l : List (List Int)) (r : Rf) (i : Int) : Rf × Int :=
  if i < 0∨nk r≤i then (Rf.zero,0)
  else if r.kind = 1 then atP l r.s (r.at_ + r.data + i)
  else if r.kind = 8 then atP l r.s (r.at_ + i)
  else if r.kind = 9 then (⟨1,r.s,r.at_ + i * (r.data + r.kids),r.data,r.kids,0,0⟩,0)
  else (⟨10,0,0,0,0,0,atomZ l r i⟩,0)
def wordsR (l : List (List Int)) (r : Rf) : List Int := if r.kind = 10 then [r.n] else if r.kind ≠ 1 then [] else part l r.s r.at_ r.data
inductive RfOk (l : List (List Int)) : Rf→Prop
  | zero : RfOk l Rf.zero
  | str (s a d k : Int) : 0≤d→d < 65536→0≤k→k < 65536→hasW l s a (d + k) = true→RfOk l ⟨1,s,a,d,k,0,0⟩
  | dat (c s a n : Int) : 0≤c→c < 6→0≤n→n < 536870912→hasW l s a ((n * bitsOf c + 63) / 64) = true→RfOk l ⟨2 + c,s,a,0,0,n,0⟩
  | ptrs (s a n : Int) : 0≤n→n < 536870912→hasW l s a n = true→RfOk l ⟨8,s,a,0,0,n,0⟩
  | comp (s a d k n : Int) : 0≤d→d < 65536→0≤k→k < 65536→0≤n→n < 536870912→hasW l s a (n * (d + k)) = true→RfOk l ⟨9,s,a,d,k,n,0⟩
  | atom (n : Int) : 0≤n→n < 18446744073709551616→RfOk l ⟨10,0,0,0,0,0,n⟩
inductive Means (l : List (List Int)) : Rf→T→Prop
  | mk (r : Rf) (t : T) : RfOk l r→r.kind = t.kind→wordsR l r = t.words→nk r = t.kids.length→(∀ (i : Nat) (h : i < t.kids.length),(kidP l r i).2 = 0)→(∀ (i : Nat) (h : i < t.kids.length),Means l (kidP l r i).1 t.kids[i])→Means l r t
@[simp] theorem GtG_shift {q : Bool} {n : Nat} {y : A} {K : A→Prop} : GtG q (A.shift n (gd q y)) K = GtG q (A.shift n y) K := GtG_same fun h => by rw [h]; rfl
theorem soft_uv (l : List Int) : A.softL (l.map uv) = l.map uv := by
  rw [softL_map,List.map_map]; rfl
theorem soft_tA : ∀ t : T,(tA t).soft = tA t := by
  refine T.ind fun k w l ih => ?_
  rw [tA_eq]
  simp only [A.soft,A.softL,T.kind_mk,T.words_mk,T.kids_mk,soft_uv]
  have e : l.map (A.soft ∘ tA) = l.map tA := List.map_congr_left fun t ht => ih t ht
  rw [softL_map,List.map_map,e]
  rfl
theorem soft_tKs (l : List T) : A.softL (l.map tA) = l.map tA := by
  rw [softL_map,List.map_map]
  exact List.map_congr_left fun t _ => soft_tA t
structure Sg (l : List (List Int)) : Prop where
  b : ∀ x,x ∈ l→x.length * 8≤140737488355328
  w : Wds l
def arO (l : List (List Int)) (r : Rf) : A := if r.kind = 0 then .v (.pointer none) else arn l
@[simp] theorem arO_cells (l : List (List Int)) (r : Rf) : (arO l r).cells = [arO l r] := by unfold arO; split <;> rfl
@[simp] theorem arO_one (l : List (List Int)) (r : Rf) : (arO l r).one = true := by unfold arO; split <;> rfl
@[simp] theorem arO_bare (l : List (List Int)) (r : Rf) : (arO l r).bare = true := by unfold arO; split <;> rfl
@[simp] theorem arO_bare1 (l : List (List Int)) (r : Rf) : (arO l r).bare1 = true := by unfold arO; split <;> rfl
@[simp] theorem arO_bare2 (l : List (List Int)) (r : Rf) : (arO l r).bare2 = true := by unfold arO; split <;> rfl
abbrev paL (l : List (List Int)) (r : Rf) : List A := [arO l r,iv r.kind,iv r.s,iv r.at_,iv r.data,iv r.kids,iv r.count,uv r.n]
abbrev s1 : List (List Int) := [[4294967296,7]]
abbrev s2 : List (List Int) := [[8589934592,7,0]]
abbrev s3 : List (List Int) := [[4294967296,8]]
def mixG (h x : Int) : Int := IntKind.u64.wrap (bits .xor .u64 h x * 1099511628211)
def mixH (h x : Int) : Int := bits .xor .u64 (mixG h x) (mixG h x / 2 ^ min 29 IntKind.u64.bits)
mutual
def hashN : T→Int
  | .mk k w l => hashL (w.foldl mixH (mixH (mixH 14695981039346656037 (IntKind.u64.wrap k)) (IntKind.u64.wrap w.length))) l
def hashL : Int→List T→Int
  | h,[] => h
  | h,t :: l => hashL (mixH h (hashN t)) l
end
mutual
theorem shallow_range : ∀ (t : T) (d : Nat) (n : Int),-1≤shallow d n t∧(-1≤n→shallow d n t≤n)
  | .mk k w l,d,n => by
    rw [shallow_mk]
    split
    · omega
    · have := shallowL_range l (d - 1) (n - 1 - w.length) (by omega)
      omega
theorem shallowL_range : ∀ (l : List T) (d : Nat) (n : Int),-1≤n→-1≤shallowL d n l∧shallowL d n l≤n
  | [],d,n,h => by simp; omega
  | t :: l,d,n,h => by
    rw [shallowL_cons]
    split
    · omega
    · have h1 := shallow_range t d n
      have h2 := shallowL_range l d (shallow d n t) h1.1
      omega
end
theorem shallowL_neg (l : List T) (d : Nat) {n : Int} (h : n < 0) : shallowL d n l = n := by
  cases l with
  | nil => simp
  | cons t l => simp [h]
section
variable {n0 : Nat} {w0 : World} {I0 : Nat→Prop} {Q : Exit→Sta→Prop}
theorem shallow_l1 {t : T} {d : Nat} (hd : 1≤d) (hd1 : d≤1000) (hl : t.kids.length * 56≤140737488355328) (ih : ∀ c,c ∈ t.kids→∀ (d : Nat) (n : Int),d≤1000→0≤n→n≤1000000→G.Spec Tryz.prog 21 [tX c,iv d,iv n] (iv (shallow d n c)))
    {H : Hp} (hH : H [0] = ⟨1,.cells [iv t.kind,uws t.words,tKs t.kids]⟩) : ∀ (m i : Nat) (n : Int),i + m = t.kids.length→-1≤n→n≤1000000 →
    (∀ i' q,Q (.exit 0) ⟨lk [(1,iv d),(2,iv (shallowL (d - 1) n (t.kids.drop i))),(3,.pob [0] 1 0),(7,iv i'),(28,bv q)],H⟩) →
    LoopC (cx Tryz.prog w0 I0 n0) l1_centoref07_Shallow Q ⟨lk [(1,iv d),(2,iv n),(3,.pob [0] 1 0),(7,iv i)],H⟩ := by
  intro m
  induction m with
  | zero =>
    intro i n hi h1 h2 hq
    have : i = t.kids.length := by omega
    subst this
    refine loopC_once mixed l1_centoref07_Shallow.eq_1 ?_
    simp [hH]
    simpa using hq _ false
  | succ m ihm =>
    intro i n hi h1 h2 hq
    have hlt : i < t.kids.length := by omega
    refine loopC_once mixed l1_centoref07_Shallow.eq_1 ?_
    have e : t.kids.drop i = t.kids[i] :: t.kids.drop (i + 1) := List.drop_eq_getElem_cons hlt
    by_cases hn : n < 0
    · simp [hH,hlt,show ¬ (0 : Int)≤n by omega]
      have := hq i false
      rwa [shallowL_neg _ _ hn] at this
    · have hn' : 0≤n := by omega
      simp [hH,hlt,hn']
      have ed : IntKind.i64.wrap ((d : Int) - 1) = ((d - 1 : Nat) : Int) := by rw [i64_same (by omega) (by omega)]; omega
      rw [ed]
      refine sc_call (ih _ (List.getElem_mem hlt) (d - 1) n (by omega) hn' h2) rfl ?_
      simp
      have hr := shallow_range t.kids[i] (d - 1) n
      rw [i64_same (by omega) (by omega)]
      refine ihm (i + 1) _ (by omega) hr.1 (by omega) fun i' q => ?_
      have := hq i' q
      rw [e,shallowL_cons,if_neg (by omega)] at this
      exact this
end
theorem shallow_spec : ∀ (t : T),wfT t→∀ (d : Nat) (n : Int),d≤1000→0≤n→n≤1000000→G.Spec Tryz.prog 21 [tX t,iv d,iv n] (iv (shallow d n t)) := by
  refine T.ind fun k w l ih hw d n hd hn hn1 => ?_
  have hw' := wfT_iff.1 hw
  have hwl := hw'.wl
  have hkl := hw'.kl
  simp at hwl hkl
  have ihc : ∀ c,c ∈ (T.mk k w l).kids→∀ (d : Nat) (n : Int),d≤1000→0≤n→n≤1000000→G.Spec Tryz.prog 21 [tX c,iv d,iv n] (iv (shallow d n c)) := fun c hc => ih c hc (hw'.ks c hc)
  refine spec_of t_centoref07_Shallow (by simp) fun w0 I0 => ?_
  unfold c_centoref07_Shallow
  have e1 : IntKind.i64.wrap (IntKind.i64.wrap (n - 1) - (w.length : Int)) = n - 1 - w.length := by rw [i64_same (n := n - 1) (by omega) (by omega),i64_same (by omega) (by omega)]
  rw [shallow_mk]
  by_cases hc : d = 0∨n - 1 - (w.length : Int) < 0
  · have hd : (decide (d = 0) || decide (n - 1 - (w.length : Int) < 0)) = true := by simp; omega
    simp [e1,hd,hc]
    exact frz_bare rfl
  · have hd : (decide (d = 0) || decide (n - 1 - (w.length : Int) < 0)) = false := by simp; omega
    simp [e1,hd,hc]
    refine shallow_l1 (t := .mk k w l) (by omega) (by omega) hkl ihc (by simp) l.length 0 _ (by simp) (by omega) (by omega) fun i' q => ?_
    simp
    exact frz_bare rfl
abbrev tL (t : T) : List A := [iv t.kind,uws t.words,tKs t.kids]
section
variable {n0 : Nat} {w0 : World} {I0 : Nat→Prop} {Q : Exit→Sta→Prop}
end
section
variable {n0 : Nat} {w0 : World} {I0 : Nat→Prop} {Q : Exit→Sta→Prop}
theorem same_l1 {a b : T} (hl : a.kids.length * 56≤140737488355328) (hn : a.kids.length = b.kids.length) (ih : ∀ c,c ∈ a.kids→∀ u,G.Spec Tryz.prog 19 [tX c,tX u] (bv (sameB c u)))
    {H : Hp} (hA : H [0] = ⟨1,.cells (tL a)⟩) (hB : H [1] = ⟨1,.cells (tL b)⟩) : ∀ (m i : Nat),i + m = a.kids.length→a.kids.take i = b.kids.take i→(a.kids = b.kids→∀ i' q,Q (.exit 0) ⟨lk [(2,.pob [0] 1 0),(3,.pob [1] 1 0),(5,iv i'),(32,bv q)],H⟩)→(a.kids ≠ b.kids→Q .ret ⟨lk [(4,bv false)],H⟩) →
    LoopC (cx Tryz.prog w0 I0 n0) l1_centoref07_Same Q ⟨lk [(2,.pob [0] 1 0),(3,.pob [1] 1 0),(5,iv i)],H⟩ := by
  intro m
  induction m with
  | zero =>
    intro i hi ht h1 h2
    have : i = a.kids.length := by omega
    subst this
    refine loopC_once mixed l1_centoref07_Same.eq_1 ?_
    simp [hA,hB]
    refine h1 ?_ _ _
    rw [List.take_of_length_le (Nat.le_refl _),List.take_of_length_le (by omega)] at ht
    exact ht
  | succ m ihm =>
    intro i hi ht h1 h2
    have hlt : i < a.kids.length := by omega
    have hlt' : i < b.kids.length := by omega
    refine loopC_once mixed l1_centoref07_Same.eq_1 ?_
    simp [hA,hB,hlt,hlt']
    refine sc_call (ih _ (List.getElem_mem hlt) b.kids[i]) rfl ?_
    simp
    cases hs : sameB a.kids[i] b.kids[i] with
    | false =>
      simp
      refine h2 fun e => ?_
      have : a.kids[i] = b.kids[i] := by simp [e]
      rw [← sameB_iff,hs] at this
      cases this
    | true =>
      simp
      rw [i64_same (by omega) (by omega)]
      refine ihm (i + 1) (by omega) ?_ h1 h2
      rw [List.take_succ_eq_append_getElem hlt,List.take_succ_eq_append_getElem hlt',ht,sameB_iff.1 hs]
end
set_option maxRecDepth 8000 in
theorem rTSame_spec : ∀ (a : T),wfT a→∀ b : T,G.Spec Tryz.prog 19 [tX a,tX b] (bv (sameB a b)) := by
  refine T.ind fun k w l ih hw b => ?_
  have hw' := wfT_iff.1 hw
  have hwl := hw'.wl
  have hkl := hw'.kl
  simp at hwl hkl
  refine spec_of t_centoref07_Same (by simp) fun w0 I0 => ?_
  unfold c_centoref07_Same
  have no : (k ≠ b.kind∨w ≠ b.words∨l ≠ b.kids)→sameB (.mk k w l) b = false := fun h => by
    rw [Bool.eq_false_iff]
    intro e
    have := sameB_iff.1 e
    subst this
    simp at h
  by_cases h1 : k = b.kind
  · by_cases h2 : w = b.words
    · by_cases h3 : l.length = b.kids.length
      · simp [h1]
        refine sc_call_gf rfl (fun _ => rSame_spec w b.words hwl) (fun _ => rfl) rfl ?_
        simp [h2,h3]
        refine same_l1 (a := .mk k w l) (b := b) hkl h3 (fun c hc u => ih c hc (hw'.ks c hc) u) (by simp [h1,h2]) (by simp) l.length 0 (by simp) rfl (fun e i' q => ?_) (fun e => ?_)
        · simp
          have : sameB (.mk k w l) b = true := sameB_iff.2 (T.ext' h1 h2 e)
          rw [← h1,← h2,this]
          exact frz_bare rfl
        · simp
          rw [← h1,← h2,no (.inr (.inr e))]
          exact frz_bare rfl
      · simp [h1]
        refine sc_call_gf rfl (fun _ => rSame_spec w b.words hwl) (fun _ => rfl) rfl ?_
        simp [h2,h3]
        refine ⟨fun h => absurd (by omega) h3,fun _ => ?_⟩
        rw [← h1,← h2,no (.inr (.inr fun e => h3 (by rw [e])))]
        exact frz_bare rfl
    · simp [h1]
      refine sc_call_gf rfl (fun _ => rSame_spec w b.words hwl) (fun _ => rfl) rfl ?_
      simp [h2]
      rw [← h1,no (.inr (.inl h2))]
      exact frz_bare rfl
  · simp [h1]
    refine sc_call_off rfl ?_
    simp
    rw [no (.inl h1)]
    exact frz_bare rfl
section
variable {n0 : Nat} {w0 : World} {I0 : Nat→Prop} {Q : Exit→Sta→Prop}
theorem norm_l1 {t : T} (hl : t.kids.length * 56≤140737488355328) (ih : ∀ c,c ∈ t.kids→G.Spec Tryz.prog 17 [tX c] (tX (norm c))) {v : VOb} : ∀ (m i : Nat) (u : Nat) (H : Hp),i + m = t.kids.length→H [0] = ⟨1,.cells (tL t)⟩→H [1] = v→H [3] = ⟨u,.arr 3 (((t.kids.take i).map norm).map tA)⟩ →
    (∀ i' q (u' : Nat) (H' : Hp),H' [0] = ⟨1,.cells (tL t)⟩→H' [1] = v→H' [3] = ⟨u',.arr 3 ((t.kids.map norm).map tA)⟩→Q (.exit 0) ⟨lk [(1,.pob [0] 1 0),(2,.pob [1] 1 0),(3,.osl [3] u' 3 0 t.kids.length),(4,iv (trimK t.kids).length),(5,iv i'),(16,bv q)],H'⟩) →
    LoopC (cx Tryz.prog w0 I0 n0) l1_centoref07_Norm Q ⟨lk [(1,.pob [0] 1 0),(2,.pob [1] 1 0),(3,.osl [3] u 3 0 i),(4,iv (trimK (t.kids.take i)).length),(5,iv i)],H⟩ := by
  intro m
  induction m with
  | zero =>
    intro i u H hi hA hR hB hq
    have : i = t.kids.length := by omega
    subst this
    refine loopC_once mixed l1_centoref07_Norm.eq_1 ?_
    simp [hA]
    have := hq t.kids.length false u H hA hR (by rw [hB]; simp)
    simpa using this
  | succ m ihm =>
    intro i u H hi hA hR hB hq
    have hlt : i < t.kids.length := by omega
    refine loopC_once mixed l1_centoref07_Norm.eq_1 ?_
    simp [hA,hlt]
    refine sc_call (ih _ (List.getElem_mem hlt)) rfl ?_
    simp [updF_app,hB]
    have ei : IntKind.i64.wrap ((i : Int) + 1) = ((i + 1 : Nat) : Int) := i64_same (by omega) (by omega)
    have hrow := row_succ (f := tA ∘ norm) hlt (x := A.agg [iv t.kids[i].kind,uws (norm t.kids[i]).words,tKs (norm t.kids[i]).kids]) (by simp)
    rw [hrow]
    refine ⟨⟨by omega,by omega⟩,fun h => ?_,fun h => ?_⟩
    · rw [ei,← trimK_zero hlt h]
      exact ihm (i + 1) (u + 1) _ (by omega) (by simp [updF_app,hA]) (by simp [updF_app,hR]) (by simp [updF_app]) hq
    · have ek : (trimK (t.kids.take (i + 1))).length = i + 1 := by rw [trimK_stop hlt h]; simp; omega
      rw [ei]
      have := fun H h1 h2 h3 => ihm (i + 1) (u + 1) H (by omega) h1 h2 h3 hq
      rw [ek] at this
      exact this _ (by simp [updF_app,hA]) (by simp [updF_app,hR]) (by simp [updF_app])
end
theorem rNorm_spec : ∀ (t : T),wfT t→G.Spec Tryz.prog 17 [tX t] (tX (norm t)) := by
  refine T.ind fun k w l ih hw => ?_
  have hw' := wfT_iff.1 hw
  have hwl := hw'.wl
  have hkl := hw'.kl
  simp at hwl hkl
  refine spec_of t_centoref07_Norm (by simp) fun w0 I0 => ?_
  unfold c_centoref07_Norm
  rw [norm_mk]
  by_cases h0 : k = 0
  · simp [h0]
    exact frz_T0
  · simp [h0]
    refine LoopC.le (le_blank 3 [3] 3 (by simp)) ?_
    simp
    refine LoopC.le (le_list [(1,.pob [0] 1 0),(2,.pob [1] 1 0),(3,.osl [3] 1 3 0 0),(4,iv 0),(5,iv 0)] (by simp [upd])) ?_
    refine norm_l1 (t := .mk k w l) (by simpa using hkl) (fun c hc => ih c hc (hw'.ks c hc)) l.length 0 1 _ (by simp) (by simp) rfl (by simp) fun i' q u' H' hA hR hB => ?_
    have hle := trimK_le l
    by_cases h1 : k = 1
    · subst h1
      simp at hA hR hB
      simp [hA,hR,hB,hle,updF_app]
      refine sc_call (rTrim_spec w hwl) rfl ?_
      simp [hA,hR,hB,hle,updF_app]
      refine frz_agg ?_
      simp
      rw [trimK_map]
      refine ⟨frz_bare rfl,frz_bare rfl,?_⟩
      have := frz_rowT (H := updF H' [1] ⟨1,.cells [A.v (Value.int IntKind.i64 1),A.sl false (List.map uv (trimW w)),A.osl [3] u' 3 0 (trimK l).length]⟩) (o := [3]) (u := u') (sz := 3) (l := l) (f := tA ∘ norm) (by simp [updF_app,hB]) hle (by simp)
      rw [← List.map_take]
      show Frz _ _ (A.sl false (((l.take (trimK l).length).map norm).map tA))
      rw [List.map_map]
      exact this
    · simp at hA hR hB
      simp [hA,hR,hB,h1,updF_app]
      refine ⟨hwl,frz_agg ?_⟩
      simp
      refine ⟨frz_bare rfl,frz_row (by simp [updF_app]) rfl (by simp),?_⟩
      have := frz_row (H := updF (updF H' [4] { u := (H' [4]).u + 1,ob := Ob.arr 1 (List.map uv w) }) [1] ⟨1,.cells [A.v (Value.int IntKind.i64 k),A.osl [4] ((H' [4]).u + 1) 1 0 w.length,A.osl [3] u' 3 0 l.length]⟩) (o := [3]) (u := u') (sz := 3) (l := l) (f := tA ∘ norm) (by simp [updF_app,hB]) rfl (by simp)
      show Frz _ _ (A.sl false ((l.map norm).map tA))
      rw [List.map_map]
      exact this
theorem rEqual_spec {a b : T} (ha : wfT a) (hb : wfT b) (hn : wfT (norm a)) : G.Spec Tryz.prog 20 [tX a,tX b] (bv (eqT a b)) := by
  refine spec_of t_centoref07_Equal (by simp) fun w0 I0 => ?_
  unfold c_centoref07_Equal
  simp
  refine sc_call (rNorm_spec a ha) rfl ?_
  simp
  refine sc_call (rNorm_spec b hb) rfl ?_
  simp
  refine sc_call (rTSame_spec (norm a) hn (norm b)) rfl ?_
  simp
  exact frz_bare rfl
theorem wf_norm : ∀ (t : T),wfT t→wfT (norm t) := by
  refine T.ind fun k w l ih hw => ?_
  have hw' := wfT_iff.1 hw
  rw [norm_mk]
  have h2 : ∀ (l : List T),(∀ t,t ∈ l→∃ u,u ∈ l∧t = u)→True := fun _ _ => trivial
  have hm : ∀ t,t ∈ l.map norm→wfT t := fun t ht => by
    obtain ⟨u,hu,rfl⟩ := List.mem_map.1 ht
    exact ih u hu (hw'.ks u hu)
  split
  · exact wfT_iff.2 ⟨by simp [i64R],by simp,by simp,by simp,by simp⟩
  · split
    · refine wfT_iff.2 ⟨by simp [i64R],fun x hx => ?_,?_,?_,fun t ht => ?_⟩
      · simp only [T.words_mk] at hx
        rw [trimW_take] at hx
        exact hw'.w x (List.mem_of_mem_take hx)
      · have := trimW_le w
        have := hw'.wl
        simp at this ⊢
        omega
      · have := trimK_le (l.map norm)
        have := hw'.kl
        simp at this ⊢
        simp at *
        omega
      · simp only [T.kids_mk] at ht
        rw [trimK_take] at ht
        exact hm t (List.mem_of_mem_take ht)
    · exact wfT_iff.2 ⟨hw'.k,hw'.w,hw'.wl,by simpa using hw'.kl,by simpa using hm⟩
section
variable {n0 : Nat} {w0 : World} {I0 : Nat→Prop} {Q : Exit→Sta→Prop}
end
theorem fits_word {c : T} (h : wfT c) (hl : c.words.length = 1) : ∃ x,c.words = [x]∧u64R x := by
  have := (wfT_iff.1 h).w
  match hc : c.words,hl with
  | [x],_ => exact ⟨x,rfl,this x (by simp [hc])⟩
theorem right_kind10 {d : Nat} {c : T} (h : rightT d c = true) (h10 : c.kind = 10) : c.words.length = 1 := by
  obtain ⟨k,w,l⟩ := c
  simp at h10
  subst h10
  rw [rightT_mk] at h
  simp at h
  exact h.1
section
variable {n0 : Nat} {w0 : World} {I0 : Nat→Prop} {Q : Exit→Sta→Prop}
theorem right_l1 {t : T} (hl : t.kids.length * 56≤140737488355328) (hk0 : 0≤t.kind) (hk1 : t.kind≤10) {d : Nat} (hd : 1≤d) (hd1 : d≤1000) (hw : ∀ c,c ∈ t.kids→wfT c) (ih : ∀ c,c ∈ t.kids→∀ d : Nat,d≤1000→G.Spec Tryz.prog 22 [tX c,iv d] (bv (rightT d c))) : ∀ (m i : Nat) (H : Hp),i + m = t.kids.length→H [0] = ⟨1,.cells (tL t)⟩ →
    (rightL (d - 1) t.kind (t.kids.drop i) = true→∀ i' q H',Q (.exit 0) ⟨lk [(1,iv d),(2,.pob [0] 1 0),(5,iv i'),(82,bv q)],H'⟩)→(rightL (d - 1) t.kind (t.kids.drop i) = false→∀ H',Q .ret ⟨lk [(4,bv false)],H'⟩) →
    LoopC (cx Tryz.prog w0 I0 n0) l1_centoref07_Right Q ⟨lk [(1,iv d),(2,.pob [0] 1 0),(5,iv i)],H⟩ := by
  intro m
  induction m with
  | zero =>
    intro i H hi hA h1 h2
    have : i = t.kids.length := by omega
    subst this
    refine loopC_once mixed l1_centoref07_Right.eq_1 ?_
    simp [hA]
    exact h1 (by simp) _ _ _
  | succ m ihm =>
    intro i H hi hA h1 h2
    have hlt : i < t.kids.length := by omega
    have e : t.kids.drop i = t.kids[i] :: t.kids.drop (i + 1) := List.drop_eq_getElem_cons hlt
    have ei : IntKind.i64.wrap ((i : Int) + 1) = ((i + 1 : Nat) : Int) := i64_same (by omega) (by omega)
    have ed : IntKind.i64.wrap ((d : Int) - 1) = ((d - 1 : Nat) : Int) := by rw [i64_same (by omega) (by omega)]; omega
    rw [e,rightL_cons] at h1 h2
    have hwc := hw _ (List.getElem_mem hlt)
    have ihc := ih _ (List.getElem_mem hlt) (d - 1) (by omega)
    generalize hc : t.kids[i] = c at *
    refine loopC_once mixed l1_centoref07_Right.eq_1 ?_
    simp [hA,hlt,hc,updF_app,ed]
    refine sc_call ihc rfl ?_
    cases hr : rightT (d - 1) c with
    | false =>
      simp
      exact h2 (by simp [hr]) _
    | true =>
      rw [hr] at h1 h2
      have good : kidOk t.kind c = true→∀ H',H' [0] = ⟨1,.cells (tL t)⟩→LoopC (cx Tryz.prog w0 I0 n0) l1_centoref07_Right Q ⟨lk [(1,iv d),(2,.pob [0] 1 0),(5,iv ((i : Int) + 1))],H'⟩ := fun hg H' hA' =>
        ihm (i + 1) H' (by omega) hA' (fun hh => h1 (by simp [hg,hh])) (fun hh => h2 (by simp [hh]))
      have bad : kidOk t.kind c = false→∀ H',Q .ret ⟨lk [(4,bv false)],H'⟩ := fun hg => h2 (by simp [hg])
      rw [show ((i + 1 : Nat) : Int) = (i : Int) + 1 from rfl] at ei
      by_cases hD : 2≤t.kind∧t.kind≤7
      · obtain ⟨d2,d7⟩ := hD
        have d9 : ¬ t.kind = 9 := by omega
        by_cases h10 : c.kind = 10
        · obtain ⟨x,hx,hx64⟩ := fits_word hwc (right_kind10 hr h10)
          have hk : kidOk t.kind c = fitsZ (t.kind - 2) x := by simp [kidOk,isData,d2,d7,d9,h10,hx]
          have e2 : IntKind.i64.wrap (t.kind - 2) = t.kind - 2 := i64_same (by omega) (by omega)
          simp [updF_app,hA,d2,d7,d9,h10,hx,e2]
          refine sc_call_gt rfl (fun _ => rFits_spec hx64) (fun _ => rfl) rfl ?_
          cases hf : fitsZ (t.kind - 2) x with
          | false => simp; exact bad (by rw [hk,hf]) _
          | true => simp [ei]; exact good (by rw [hk,hf]) _ (by simp [updF_app,hA])
        · have hk : kidOk t.kind c = false := by simp [kidOk,isData,d2,d7,d9,h10]
          simp [updF_app,hA,d2,d7,d9,h10]
          refine sc_call_off rfl ?_
          simp
          exact bad hk _
      · have hD' : (decide (2≤t.kind) && decide (t.kind≤7)) = false := by simp; omega
        by_cases h10 : c.kind = 10
        · have hk : kidOk t.kind c = false := by simp [kidOk,isData,hD',h10]
          simp [updF_app,hA,hD',h10]
          refine sc_call_off rfl ?_
          simp
          exact bad hk _
        · by_cases h9 : t.kind = 9
          · by_cases h1' : c.kind = 1
            · have hk : kidOk t.kind c = true := by simp [kidOk,isData,hD',h9,h1']
              rw [h9] at hD'
              simp [updF_app,hA,hD',h10,h9,h1']
              refine sc_call_off rfl ?_
              simp [ei]
              exact good hk _ (by simp [updF_app,hA])
            · have hk : kidOk t.kind c = false := by simp [kidOk,isData,hD',h9,h1',h10]
              rw [h9] at hD'
              simp [updF_app,hA,hD',h10,h9,h1']
              refine sc_call_off rfl ?_
              simp
              exact bad hk _
          · have hk : kidOk t.kind c = true := by simp [kidOk,isData,hD',h9,h10]
            simp [updF_app,hA,hD',h10,h9]
            refine sc_call_off rfl ?_
            simp [ei]
            exact good hk _ (by simp [updF_app,hA])
end
theorem rRight_spec : ∀ (t : T),wfT t→∀ d : Nat,d≤1000→G.Spec Tryz.prog 22 [tX t,iv d] (bv (rightT d t)) := by
  refine T.ind fun k w l ih hw d hd => ?_
  have hw' := wfT_iff.1 hw
  have hwl := hw'.wl
  have hkl := hw'.kl
  simp at hwl hkl
  refine spec_of t_centoref07_Right (by simp) fun w0 I0 => ?_
  unfold c_centoref07_Right
  rw [rightT_mk]
  by_cases h0 : k = 0
  · simp [h0]
    exact frz_bool (by cases w <;> cases l <;> simp <;> (rw [← List.length_eq_zero_iff]; omega))
  by_cases h10 : k = 10
  · simp [h10]
    exact frz_bool (by cases w <;> cases l <;> simp <;> (rw [← List.length_eq_zero_iff]; omega))
  rw [if_neg h0,if_neg h10]
  have bad : tooBig k d w.length l.length = true→∀ H,Frz H (bv false) (bv (if tooBig k d w.length l.length = true then false else rightL (d - 1) k l)) := fun hb H => frz_bool (by simp [hb])
  by_cases ha : k < 0∨10 < k∨d = 0∨65536≤w.length
  · have ha' : (decide (k < 0) || decide (10 < k) || decide (d = 0) || decide (65536≤(w.length : Int))) = true := by simp; omega
    simp [h0,h10,ha']
    have := bad (by simp [tooBig]; omega) (lkH [([0],{ u := 1,ob := Ob.cells [iv k,uws w,tKs l] })])
    simpa using this
  have ha' : (decide (k < 0) || decide (10 < k) || decide (d = 0) || decide (65536≤(w.length : Int))) = false := by simp; omega
  by_cases h1 : k = 1∧65536≤l.length
  · have hl : (65536 : Int)≤l.length := by omega
    simp [h0,h10,ha',h1.1,hl]
    have := bad (by simp [tooBig]; omega) (lkH [([0],{ u := 1,ob := Ob.cells [iv k,uws w,tKs l] })])
    simpa [h1.1] using this
  by_cases h2 : 1048576≤l.length
  · have hl : (1048576 : Int)≤l.length := by omega
    have hk1 : ¬ k = 1 := by omega
    simp [h0,h10,ha',hk1,hl]
    have := bad (by simp [tooBig]; omega) (lkH [([0],{ u := 1,ob := Ob.cells [iv k,uws w,tKs l] })])
    simpa using this
  have hl2 : ¬ (1048576 : Int)≤l.length := by omega
  by_cases h3 : 1 < k∧0 < w.length
  · have hk1 : ¬ k = 1 := by omega
    have hw0 : w ≠ [] := fun e => by simp [e] at h3
    simp [h0,h10,ha',hk1,hl2,h3.1,h3.2,hw0]
    have := bad (by simp [tooBig]; omega) (lkH [([0],{ u := 1,ob := Ob.cells [iv k,uws w,tKs l] })])
    simpa using this
  have hb : tooBig k d w.length l.length = false := by
    rw [Bool.eq_false_iff]
    unfold tooBig
    simp only [Bool.or_eq_true,Bool.and_eq_true,decide_eq_true_eq,ne_eq]
    omega
  have hw0 : (1 < k→w = []) := fun h => List.eq_nil_of_length_eq_zero (by omega)
  have fin : LoopC (cx Tryz.prog w0 I0 132) l1_centoref07_Right (InBlock 0 (ThenC (WPC (cx Tryz.prog w0 I0 132) (.keep [] (.seq (.reg [co (some 4) (.assign (.const (.bool true))) none] [4]) .ret)) (RetC Tryz.prog [.tmp 4] (bv (rightL (d - 1) k l)))) (RetC Tryz.prog [.tmp 4] (bv (rightL (d - 1) k l))))) ⟨lk [(1,iv d),(2,.pob [0] 1 0),(5,iv 0)],lkH [([0],⟨1,.cells [iv k,uws w,tKs l]⟩)]⟩ := by
    refine right_l1 (t := .mk k w l) (by simpa using hkl) (by simp; omega) (by simp; omega) (by omega) hd (fun c hc => hw'.ks c hc) (fun c hc => ih c hc (hw'.ks c hc)) l.length 0 _ (by simp) (by simp) (fun hr i' q H' => ?_) (fun hr H' => ?_)
    · simp
      exact frz_bool (by simpa using hr.symm)
    · simp
      exact frz_bool (by simpa using hr.symm)
  rw [if_neg (by simp [hb])]
  by_cases k1 : k = 1
  · have hl3 : ¬ (65536 : Int)≤l.length := by omega
    have ha1 : (decide (d = 0) || decide (65536≤(w.length : Int))) = false := by simp; omega
    simp [ha1,k1,hl2,hl3]
    simpa [k1] using fin
  · simp [h0,h10,ha',k1,hl2]
    refine ⟨fun a b => absurd ⟨a,by omega⟩ h3,fun _ => ?_⟩
    exact fin
end Go.Proofs.YtmeldaflhkiopaaGreat
namespace Go.PL
set_option linter.unusedVariables false
set_option linter.unusedSimpArgs false
def fndP (stop : Nat→Bool) (pl : List Nat) : Nat→Nat→Nat
  | 0,a => a
  | f + 1,a => if pl.getD a 0 = 0 then a else if stop (pl.getD a 0) = true then a else fndP stop pl f ((a + 1) % pl.length)
theorem mod_succ (a d m : Nat) : ((a + 1) % m + d) % m = (a + (d + 1)) % m := by
  rw [Nat.mod_add_mod]
  congr 1
  omega
theorem fndP_spec {stop : Nat→Bool} {pl : List Nat} : ∀ (f a d : Nat),a < pl.length→d < f→pl.getD ((a + d) % pl.length) 0 = 0 →
    fndP stop pl f a < pl.length∧(pl.getD (fndP stop pl f a) 0 = 0∨stop (pl.getD (fndP stop pl f a) 0) = true) ∧
      ∃ k,fndP stop pl f a = (a + k) % pl.length∧∀ e,e < k→pl.getD ((a + e) % pl.length) 0 ≠ 0∧stop (pl.getD ((a + e) % pl.length) 0) = false := by
  intro f
  induction f with
  | zero => intro a d _ h; omega
  | succ f ih =>
    intro a d ha hd hz
    unfold fndP
    have hself : ∃ k,a = (a + k) % pl.length∧∀ e,e < k→pl.getD ((a + e) % pl.length) 0 ≠ 0∧stop (pl.getD ((a + e) % pl.length) 0) = false := ⟨0,by rw [Nat.add_zero,Nat.mod_eq_of_lt ha],fun e he => by omega⟩
    split
    · rename_i h0
      exact ⟨ha,.inl h0,hself⟩
    · rename_i h0
      split
      · rename_i h1
        exact ⟨ha,.inr h1,hself⟩
      · rename_i h1
        cases d with
        | zero => rw [Nat.add_zero,Nat.mod_eq_of_lt ha] at hz; exact absurd hz h0
        | succ d =>
          obtain ⟨p1,p2,k,p3,p4⟩ := ih ((a + 1) % pl.length) d (Nat.mod_lt _ (by omega)) (by omega) (by rw [mod_succ]; exact hz)
          refine ⟨p1,p2,k + 1,by rw [p3,mod_succ],fun e he => ?_⟩
          cases e with
          | zero => rw [Nat.add_zero,Nat.mod_eq_of_lt ha]; exact ⟨h0,by simpa using h1⟩
          | succ e =>
            have := p4 e (by omega)
            rwa [mod_succ] at this
structure Pl (hs : List Nat) (pl : List Nat) : Prop where
  cnt : pl.countP (fun v => v != 0) = hs.length
  vals : ∀ v,v ∈ pl→v≤hs.length
  reach : ∀ (c : Nat) (hc : c < hs.length),∃ d,pl[(hs[c] + d) % pl.length]? = some (c + 1)∧∀ e,e < d→pl.getD ((hs[c] + e) % pl.length) 0 ≠ 0
theorem Pl.free {hs pl : List Nat} (h : Pl hs pl) (hl : hs.length < pl.length) (a : Nat) : ∃ d,d < pl.length∧pl.getD ((a + d) % pl.length) 0 = 0 := by
  have hm : ∃ v,v ∈ pl∧v = 0 := by
    apply Classical.byContradiction
    intro hn
    have : pl.countP (fun v => v != 0) = pl.length := List.countP_eq_length.2 fun v hv => by
      simp only [bne_iff_ne,ne_eq]
      exact fun e => hn ⟨v,hv,e⟩
    have := h.cnt
    omega
  obtain ⟨v,hv,rfl⟩ := hm
  obtain ⟨i,hi,e⟩ := List.mem_iff_getElem.1 hv
  refine ⟨(i + (pl.length - a % pl.length)) % pl.length,Nat.mod_lt _ (by omega),?_⟩
  have : (a + (i + (pl.length - a % pl.length)) % pl.length) % pl.length = i := by
    rw [Nat.add_mod_mod]
    have h1 := Nat.mod_lt a (show 0 < pl.length by omega)
    have h2 := Nat.div_add_mod a pl.length
    have h3 : a + (i + (pl.length - a % pl.length)) = i + pl.length * (a / pl.length + 1) := by
      rw [Nat.mul_add,Nat.mul_one]
      omega
    rw [h3,Nat.add_mul_mod_self_left,Nat.mod_eq_of_lt hi]
  rw [this]
  simp [hi,e]
theorem countP_set {pl : List Nat} {a v : Nat} (ha : a < pl.length) (h0 : pl.getD a 0 = 0) (hv : v ≠ 0) : (pl.set a v).countP (fun v => v != 0) = pl.countP (fun v => v != 0) + 1 := by
  induction pl generalizing a with
  | nil => simp at ha
  | cons x l ih =>
    cases a with
    | zero =>
      simp at h0
      subst h0
      simp [hv]
    | succ a =>
      simp only [List.set_cons_succ,List.countP_cons]
      rw [ih (by simpa using ha) (by simpa using h0)]
      omega
theorem Pl.ins {hs pl : List Nat} (h : Pl hs pl) {x a k : Nat} (ha : a < pl.length) (h0 : pl.getD a 0 = 0) (he : a = (x + k) % pl.length) (hk : ∀ e,e < k→pl.getD ((x + e) % pl.length) 0 ≠ 0) : Pl (hs ++ [x]) (pl.set a (hs.length + 1)) := by
  have hmod : ∀ y,y % pl.length < pl.length := fun y => Nat.mod_lt _ (by omega)
  have nz : ∀ y,pl.getD (y % pl.length) 0 ≠ 0→(pl.set a (hs.length + 1)).getD (y % pl.length) 0 ≠ 0 := fun y hy => by
    have hne : a ≠ y % pl.length := fun e => hy (by rw [← e]; exact h0)
    simpa [List.getD_eq_getElem?_getD,List.getElem?_set_ne hne] using hy
  refine ⟨?_,fun v hv => ?_,fun c hc => ?_⟩
  · rw [countP_set ha h0 (by omega),h.cnt]; simp
  · rw [List.length_append,List.length_singleton]
    rcases List.mem_or_eq_of_mem_set hv with hv | rfl
    · have := h.vals v hv; omega
    · omega
  · simp only [List.length_set]
    by_cases hcl : c < hs.length
    · obtain ⟨d,h1,h2⟩ := h.reach c hcl
      rw [List.getElem_append_left hcl]
      refine ⟨d,?_,fun e he => nz _ (h2 e he)⟩
      have hne : a ≠ (hs[c] + d) % pl.length := fun e => by
        rw [← e] at h1
        rw [List.getD_eq_getElem?_getD,h1] at h0
        simp at h0
      rw [List.getElem?_set_ne hne,h1]
    · have : c = hs.length := by simp at hc; omega
      subst this
      rw [List.getElem_append_right (Nat.le_refl _)]
      simp only [Nat.sub_self,List.getElem_cons_zero]
      refine ⟨k,?_,fun e he => nz _ (hk e he)⟩
      rw [← he,List.getElem?_set_self ha]
def insP (pl : List Nat) (x v : Nat) : List Nat := pl.set (fndP (fun _ => false) pl pl.length (x % pl.length)) v
def growP : List Nat→Nat→List Nat→List Nat
  | pl,_,[] => pl
  | pl,i,x :: hs => growP (insP pl x (i + 1)) (i + 1) hs
@[simp] theorem insP_length {pl : List Nat} {x v : Nat} : (insP pl x v).length = pl.length := by simp [insP]
theorem Pl.nil (m : Nat) : Pl [] (List.replicate m 0) := by
  refine ⟨?_,fun v hv => ?_,fun c hc => ?_⟩
  · simp [List.countP_replicate]
  · simp at hv; omega
  · simp at hc
theorem fndP_mod {stop : Nat→Bool} {pl : List Nat} {x : Nat} {hs : List Nat} (h : Pl hs pl) (hl : hs.length < pl.length) :
    fndP stop pl pl.length (x % pl.length) < pl.length∧(pl.getD (fndP stop pl pl.length (x % pl.length)) 0 = 0∨stop (pl.getD (fndP stop pl pl.length (x % pl.length)) 0) = true) ∧
      ∃ k,fndP stop pl pl.length (x % pl.length) = (x + k) % pl.length∧∀ e,e < k→pl.getD ((x + e) % pl.length) 0 ≠ 0∧stop (pl.getD ((x + e) % pl.length) 0) = false := by
  obtain ⟨d,h1,h2⟩ := h.free hl (x % pl.length)
  have := fndP_spec (stop := stop) pl.length (x % pl.length) d (Nat.mod_lt _ (by omega)) h1 h2
  simpa using this
theorem Pl.insP {hs pl : List Nat} (h : Pl hs pl) (hl : hs.length < pl.length) (x : Nat) : Pl (hs ++ [x]) (insP pl x (hs.length + 1)) := by
  obtain ⟨h1,h2,k,h3,h4⟩ := fndP_mod (stop := fun _ => false) (x := x) h hl
  refine h.ins h1 (h2.resolve_right (by simp)) h3 fun e he => (h4 e he).1
theorem Pl.grow : ∀ {hs2 hs pl : List Nat},Pl hs pl→hs.length + hs2.length≤pl.length→Pl (hs ++ hs2) (growP pl hs.length hs2)
  | [],hs,pl,h,_ => by simpa [growP] using h
  | x :: hs2,hs,pl,h,hl => by
    simp only [List.length_cons] at hl
    have h1 := h.insP (by omega) x
    have := Pl.grow (hs2 := hs2) h1 (by simp; omega)
    rw [List.append_assoc] at this
    simpa [growP] using this
noncomputable def clsI (ks : List T) (n : T) : Nat := ks.findIdx (fun k => sameB k n)
noncomputable def clsK (ks : List T) (n : T) : List T := if clsI ks n < ks.length then ks else ks ++ [n]
theorem clsI_at {ks : List T} {n : T} {i : Nat} (h : i < ks.length) (e : ks[i] = n) (hd : ks.Nodup) : clsI ks n = i := by
  have h1 : clsI ks n≤i := by
    apply Classical.byContradiction
    intro hn
    have := List.not_of_lt_findIdx (p := fun k => sameB k n) (xs := ks) (i := i) (by unfold clsI at hn; omega)
    simp [sameB_iff.2 e] at this
  have h2 : clsI ks n < ks.length := by omega
  have h3 : ks[clsI ks n] = n := sameB_iff.1 (List.findIdx_getElem (p := fun k => sameB k n) (w := h2))
  apply Classical.byContradiction
  intro hn
  have h4 : clsI ks n < i := by omega
  have := List.pairwise_iff_getElem.1 hd _ _ h2 h h4
  exact this (by rw [h3,e])
theorem clsI_none {ks : List T} {n : T} (h : n ∉ ks) : clsI ks n = ks.length := by
  unfold clsI
  rw [List.findIdx_eq_length]
  intro x hx
  rw [Bool.eq_false_iff]
  intro e
  rw [sameB_iff] at e
  subst e
  exact h hx
theorem clsI_le (ks : List T) (n : T) : clsI ks n≤ks.length := List.findIdx_le_length
theorem clsI_lt {ks : List T} {n : T} : clsI ks n < ks.length ↔ n ∈ ks := by
  constructor
  · intro h
    have h3 : ks[clsI ks n] = n := sameB_iff.1 (List.findIdx_getElem (p := fun k => sameB k n) (w := h))
    rw [← h3]
    exact List.getElem_mem _
  · intro h
    have := clsI_le ks n
    apply Classical.byContradiction
    intro hn
    have e : clsI ks n = ks.length := by omega
    have := (List.findIdx_eq_length (p := fun k => sameB k n) (xs := ks)).1 e n h
    rw [Bool.eq_false_iff] at this
    exact this (sameB_iff.2 rfl)
theorem clsK_nodup {ks : List T} {n : T} (h : ks.Nodup) : (clsK ks n).Nodup := by
  unfold clsK
  split
  · exact h
  · rename_i hn
    rw [clsI_lt] at hn
    rw [List.nodup_append]
    exact ⟨h,by simp,fun a ha b hb => by simp at hb; subst hb; exact fun e => hn (e ▸ ha)⟩
noncomputable def clsL : List T→List T→List T × List Nat
  | ks,[] => (ks,[])
  | ks,t :: l => ((clsL (clsK ks (norm t)) l).1,clsI ks (norm t) :: (clsL (clsK ks (norm t)) l).2)
end Go.PL
namespace Go.Proofs.YtmeldaflhkiopaaGreat
set_option linter.unusedVariables false
set_option linter.unusedSimpArgs false
open Go Go.G Go.Proofs Go.PL
structure Cl where
  l : List (List Int)
  r : Rf
  t : T
noncomputable def Cl.h (c : Cl) : Int := hashN (norm c.t)
noncomputable def Cl.hn (c : Cl) : Nat := c.h.toNat
abbrev clL (h : Int) (l : List (List Int)) (r : Rf) : List A := uv h :: paL l r
noncomputable def Cl.a (c : Cl) : A := .agg (clL c.h c.l c.r)
abbrev nv (n : Nat) : A := iv (n : Int)
structure Tb where
  u : Nat
  uc : Nat
  up : Nat
  cl : List Cl
  pl : List Nat
structure Tb.Ok (S : Tb) : Prop where
  p8 : 8≤S.pl.length
  half : 2 * S.cl.length≤S.pl.length
  most : S.pl.length≤8 + 4 * S.cl.length
  pl : Pl (S.cl.map Cl.hn) S.pl
  means : ∀ c,c ∈ S.cl→Sg c.l∧Means c.l c.r c.t
  nd : (S.cl.map fun c => norm c.t).Nodup
noncomputable def Tb.ks (S : Tb) : List T := S.cl.map fun c => norm c.t
@[simp] theorem Tb.ks_length (S : Tb) : S.ks.length = S.cl.length := by simp [Tb.ks]
theorem Tb.Ok.lt {S : Tb} (h : S.Ok) : S.cl.length < S.pl.length := by have := h.p8; have := h.half; omega
structure Tb.Ok1 (S : Tb) : Prop where
  p8 : 8≤S.pl.length
  half : 2 * S.cl.length≤S.pl.length + 2
  most : S.pl.length≤8 + 4 * S.cl.length
  pl : Pl (S.cl.map Cl.hn) S.pl
  means : ∀ c,c ∈ S.cl→Sg c.l∧Means c.l c.r c.t
  nd : (S.cl.map fun c => norm c.t).Nodup
theorem Tb.Ok1.ok {S : Tb} (h : S.Ok1) (hf : ¬ S.pl.length < 2 * S.cl.length) : S.Ok := ⟨h.p8,by omega,h.most,h.pl,h.means,h.nd⟩
section
variable {n0 : Nat} {w0 : World} {I0 : Nat→Prop} {Q : Exit→Sta→Prop}
end
theorem clsL_append : ∀ (l : List T) (ks : List T) (t : T),clsL ks (l ++ [t]) = (clsK (clsL ks l).1 (norm t),(clsL ks l).2 ++ [clsI (clsL ks l).1 (norm t)])
  | [],ks,t => by simp [clsL]
  | a :: l,ks,t => by simp [clsL,clsL_append l]
theorem clsL_length : ∀ (l : List T) (ks : List T),(clsL ks l).2.length = l.length
  | [],ks => rfl
  | a :: l,ks => by simp [clsL,clsL_length l]
section
variable {n0 : Nat} {w0 : World} {I0 : Nat→Prop} {M0 : Nm→Nat→Prop} {m0 : Mu} {Q : Exit→Sta→Prop}
end
theorem trs_fam {l : List T} : ∀ x,x ∈ l.map tA→FamA (fun _ => x) := fun x hx => by
  obtain ⟨t,_,rfl⟩ := List.mem_map.1 hx
  exact famA_bare (tA_eq t) fun y hy => by
    simp at hy
    rcases hy with rfl | rfl | rfl <;> rfl
abbrev trM (u : Nat) (l : List T) : Fam := rowM u 3 (l.map tA) trs_fam
theorem clsI_first {ks : List T} {n : T} {i : Nat} (h : i < ks.length) (e : ks[i] = n) (hb : ∀ (x : Nat) (hx : x < i),ks[x]'(by omega) ≠ n) : clsI ks n = i := by
  unfold clsI
  rw [List.findIdx_eq h]
  refine ⟨sameB_iff.2 e,fun j hj => ?_⟩
  rw [Bool.eq_false_iff]
  exact fun h2 => hb j hj (sameB_iff.1 h2)
section
variable {n0 : Nat} {w0 : World} {I0 : Nat→Prop} {M0 : Nm→Nat→Prop} {m0 : Mu} {Q : Exit→Sta→Prop}
end
theorem clsK_len (ks : List T) (n : T) : (clsK ks n).length≤ks.length + 1 := by
  unfold clsK
  split <;> simp
theorem clsL_len : ∀ (l ks : List T),(clsL ks l).1.length≤ks.length + l.length
  | [],ks => by simp [clsL]
  | t :: l,ks => by
    have := clsL_len l (clsK ks (norm t))
    have := clsK_len ks (norm t)
    simp only [clsL,List.length_cons]
    omega
theorem clsK_wf {ks : List T} {n : T} (h : ∀ k,k ∈ ks→wfT k) (hn : wfT n) : ∀ k,k ∈ clsK ks n→wfT k := by
  unfold clsK
  split
  · exact h
  · intro k hk
    rcases List.mem_append.1 hk with hk | hk
    · exact h k hk
    · simp at hk; subst hk; exact hn
theorem clsL_wf : ∀ {l ks : List T},(∀ k,k ∈ ks→wfT k)→(∀ k,k ∈ l→wfT k)→∀ k,k ∈ (clsL ks l).1→wfT k
  | [],ks,h,_ => h
  | t :: l,ks,h,hl => clsL_wf (l := l) (clsK_wf h (wf_norm _ (hl t (by simp)))) fun k hk => hl k (by simp [hk])
section
variable {n0 : Nat} {w0 : World} {I0 : Nat→Prop} {M0 : Nm→Nat→Prop} {m0 : Mu} {Q : Exit→Sta→Prop}
end
section
variable {n0 : Nat} {w0 : World} {I0 : Nat→Prop} {Q : Exit→Sta→Prop} {H : Hp}
end
theorem treeWord_spec (t : T) (i : Nat) : G.Spec Tryz.prog 67 [tX t,iv i] (uv (t.words.getD i 0)) := by
  refine spec_of t_tree_Word (by simp) fun w0 I0 => ?_
  unfold c_tree_Word
  have hn : ¬ (i : Int) < 0 := by omega
  by_cases h : i < t.words.length
  · have h2 : ¬ t.words.length≤i := by omega
    simp [h,hn,h2]
    exact frz_is rfl (by simp [h])
  · have h2 : t.words.length≤i := by omega
    simp [h,hn,h2]
    exact frz_is rfl (by simp [List.getElem?_eq_none (Nat.le_of_not_lt h)])
theorem treeKid_spec (t : T) (i : Nat) : G.Spec Tryz.prog 68 [tX t,iv i] (tX (t.kids.getD i T0)) := by
  refine spec_of t_tree_Kid (by simp) fun w0 I0 => ?_
  unfold c_tree_Kid
  have hn : ¬ (i : Int) < 0 := by omega
  by_cases h : i < t.kids.length
  · have h2 : ¬ t.kids.length≤i := by omega
    simp [h,hn,h2]
    exact frz_bare (by simp)
  · have h2 : t.kids.length≤i := by omega
    simp [h,hn,h2]
    exact frz_agg (by simp; exact ⟨frz_bare rfl,frz_sl,frz_sl⟩)
section
variable {n0 : Nat} {w0 : World} {I0 : Nat→Prop} {Q : Exit→Sta→Prop}
end
end Go.Proofs.YtmeldaflhkiopaaGreat
namespace Go.PL
set_option linter.unusedVariables false
set_option linter.unusedSimpArgs false
def hd (t : T) : Int := t.words.headD 0
structure PutI (w i : Nat) (out : List Int) : Prop where
  rng : ∀ (j : Nat) (h : j < out.length),0≤out[j]∧out[j] < 18446744073709551616
  here : ∀ (h : i * w / 64 < out.length),out[i * w / 64] < 2 ^ (i * w % 64)
  zero : ∀ (j : Nat) (h : j < out.length),i * w / 64 < j→out[j] = 0
theorem PutI.start (w m : Nat) : PutI w 0 (List.replicate m 0) := ⟨fun j h => by simp,fun h => by simp,fun j h _ => by simp⟩
theorem rightT_mono : ∀ (t : T) (d d' : Nat),d≤d'→rightT d t = true→rightT d' t = true := by
  refine T.ind fun k w ks ih d d' hd h => ?_
  rw [rightT_mk] at h ⊢
  by_cases h0 : k = 0
  · rw [if_pos h0] at h ⊢; exact h
  · rw [if_neg h0] at h ⊢
    by_cases h10 : k = 10
    · rw [if_pos h10] at h ⊢; exact h
    · rw [if_neg h10] at h ⊢
      split at h
      · cases h
      · rename_i hb
        have hb' : ¬ tooBig k d' w.length ks.length = true := by
          intro e
          apply hb
          unfold tooBig at e ⊢
          simp only [Bool.or_eq_true,decide_eq_true_eq] at e ⊢
          have : d' = 0→d = 0 := by omega
          rcases e with (((((e | e) | e) | e) | e) | e) | e
          · exact .inl (.inl (.inl (.inl (.inl (.inl e)))))
          · exact .inl (.inl (.inl (.inl (.inl (.inr e)))))
          · exact .inl (.inl (.inl (.inl (.inr (this e)))))
          · exact .inl (.inl (.inl (.inr e)))
          · exact .inl (.inl (.inr e))
          · exact .inl (.inr e)
          · exact .inr e
        rw [if_neg hb']
        refine rightL_all.2 fun t ht => ?_
        obtain ⟨h1,h2⟩ := rightL_all.1 h t ht
        exact ⟨ih t ht _ _ (by omega) h1,h2⟩
def trimG {α : Type} (p : α→Bool) (l : List α) : List α := (l.reverse.dropWhile p).reverse
theorem trimG_snoc {α : Type} {p : α→Bool} (l : List α) (x : α) : trimG p (l ++ [x]) = if p x = true then trimG p l else l ++ [x] := by
  unfold trimG
  rw [List.reverse_append,List.reverse_singleton,List.singleton_append,List.dropWhile_cons]
  split <;> simp
theorem snocRec {α : Type} {P : List α→Prop} (h0 : P []) (h1 : ∀ l x,P l→P (l ++ [x])) (l : List α) : P l := by
  have : ∀ m : List α,P m.reverse := by
    intro m
    induction m with
    | nil => exact h0
    | cons x m ih => rw [List.reverse_cons]; exact h1 _ _ ih
  have := this l.reverse
  rwa [List.reverse_reverse] at this
theorem trimG_getD {α : Type} {p : α→Bool} {z : α} (l : List α) : (∀ x,x ∈ l→p x = true→x = z)→∀ i,(trimG p l).getD i z = l.getD i z := by
  refine snocRec (P := fun l => (∀ x,x ∈ l→p x = true→x = z)→∀ i,(trimG p l).getD i z = l.getD i z) (fun _ i => rfl) (fun l x ih h i => ?_) l
  rw [trimG_snoc]
  split
  · rename_i hx
    rw [ih (fun y hy => h y (by simp [hy])) i]
    have := h x (by simp) hx
    subst this
    simp only [List.getD_eq_getElem?_getD,List.getElem?_append]
    split
    · rfl
    · rw [List.getElem?_eq_none (by omega)]
      by_cases e : i - l.length = 0
      · simp [e]
      · rw [List.getElem?_eq_none (by simp; omega)]
  · rfl
theorem trimG_last {α : Type} {p : α→Bool} {z : α} (l : List α) : trimG p l ≠ []→p ((trimG p l).getD ((trimG p l).length - 1) z) = false := by
  refine snocRec (P := fun l => trimG p l ≠ []→p ((trimG p l).getD ((trimG p l).length - 1) z) = false) (fun h => absurd rfl h) (fun l x ih h => ?_) l
  rw [trimG_snoc] at h ⊢
  split
  · rename_i hx
    rw [if_pos hx] at h
    exact ih h
  · rename_i hx
    simp at hx ⊢
    exact hx
theorem trimG_eq {α : Type} {p : α→Bool} {z : α} (hz : p z = true) {a b : List α} (ha : ∀ x,x ∈ a→p x = true→x = z) (hb : ∀ x,x ∈ b→p x = true→x = z) : trimG p a = trimG p b ↔ ∀ i,a.getD i z = b.getD i z := by
  constructor
  · intro h i
    rw [← trimG_getD a ha,h,trimG_getD b hb]
  · intro h
    have h' : ∀ i,(trimG p a).getD i z = (trimG p b).getD i z := fun i => by rw [trimG_getD a ha,trimG_getD b hb,h]
    have one : ∀ c d : List α,(∀ i,(trimG p c).getD i z = (trimG p d).getD i z)→(trimG p c).length≤(trimG p d).length := fun c d hcd => by
      by_cases e : trimG p c = []
      · simp [e]
      · have hl := trimG_last (z := z) c e
        have hpos : 0 < (trimG p c).length := List.length_pos_iff.2 e
        rw [hcd] at hl
        refine Nat.le_of_not_lt fun hlt => ?_
        rw [List.getD_eq_getElem?_getD,List.getElem?_eq_none (by omega)] at hl
        simp [hz] at hl
    have hlen : (trimG p a).length = (trimG p b).length := Nat.le_antisymm (one a b h') (one b a fun i => (h' i).symm)
    apply List.ext_getElem hlen
    intro i h1 h2
    have := h' i
    simpa [List.getD_eq_getElem?_getD,h1,h2] using this
theorem trimW_G (l : List Int) : trimW l = trimG (fun x => x == 0) l := rfl
theorem trimK_G (l : List T) : trimK l = trimG (fun x => x.kind == 0) l := rfl
theorem trimW_eq {a b : List Int} : trimW a = trimW b ↔ ∀ i,a.getD i 0 = b.getD i 0 := by
  rw [trimW_G,trimW_G]
  exact trimG_eq rfl (fun x _ h => by simpa using h) (fun x _ h => by simpa using h)
theorem norm_kind0 {t : T} (h : t.kind = 0) : norm t = T0 := by cases t; simp at h; rw [norm_mk,if_pos h]
theorem norm_T0 : norm T0 = T0 := norm_kind0 rfl
theorem getD_norm (l : List T) (i : Nat) : (l.map norm).getD i T0 = norm (l.getD i T0) := by
  simp only [List.getD_eq_getElem?_getD,List.getElem?_map]
  cases l[i]? with
  | none => simp [norm_T0]
  | some x => rfl
theorem trimK_eq {a b : List T} : trimK (a.map norm) = trimK (b.map norm) ↔ ∀ i,norm (a.getD i T0) = norm (b.getD i T0) := by
  have hz : ∀ c : List T,∀ x,x ∈ c.map norm→(x.kind == 0) = true→x = T0 := fun c x hx h0 => by
    obtain ⟨y,_,rfl⟩ := List.mem_map.1 hx
    simp at h0
    exact norm_kind0 h0
  rw [trimK_G,trimK_G,trimG_eq (z := T0) rfl (hz a) (hz b)]
  constructor
  · intro h i; rw [← getD_norm,← getD_norm]; exact h i
  · intro h i; rw [getD_norm,getD_norm]; exact h i
theorem struct_eq {w w' : List Int} {a b : List T} : norm (.mk 1 w a) = norm (.mk 1 w' b) ↔ (∀ i,w.getD i 0 = w'.getD i 0)∧∀ i,norm (a.getD i T0) = norm (b.getD i T0) := by
  rw [norm_mk,norm_mk]
  simp only [if_neg (show ¬ (1 : Int) = 0 by decide),if_true,T.mk.injEq,true_and]
  rw [trimW_eq,trimK_eq]
theorem other_eq {k : Int} {w w' : List Int} {a b : List T} (h0 : k ≠ 0) (h1 : k ≠ 1) : norm (.mk k w a) = norm (.mk k w' b) ↔ w = w'∧a.map norm = b.map norm := by
  rw [norm_mk,norm_mk]
  simp [h0,h1]
theorem norm_norm : ∀ t,norm (norm t) = norm t := by
  refine T.ind fun k w ks ih => ?_
  have hm : (ks.map norm).map norm = ks.map norm := by
    rw [List.map_map]
    exact List.map_congr_left fun x hx => ih x hx
  rw [norm_mk]
  split
  · exact norm_T0
  · rename_i h0
    split
    · rename_i h1
      subst h1
      rw [struct_eq (w' := w) (b := ks) |>.2 ⟨fun i => ?_,fun i => ?_⟩,norm_mk]
      · simp
      · rw [trimW_G]
        exact trimG_getD w (fun x _ h => by simpa using h) i
      · have hz : ∀ x,x ∈ ks.map norm→(x.kind == 0) = true→x = T0 := fun x hx h0 => by
          obtain ⟨y,_,rfl⟩ := List.mem_map.1 hx
          simp at h0
          exact norm_kind0 h0
        rw [trimK_G,trimG_getD _ hz i,← getD_norm,hm,getD_norm]
    · rename_i h1
      rw [norm_mk,if_neg h0,if_neg h1,hm]
def wdT (t : T) (i : Nat) : Int := t.words.getD i 0
def kdT (t : T) (i : Nat) : T := t.kids.getD i T0
theorem noneT_T0 {t : T} (h : noneT t = true) : t = T0 := by
  obtain ⟨k,w,l⟩ := t
  simp only [noneT,Bool.and_eq_true,decide_eq_true_eq,List.isEmpty_iff,T.kind_mk,T.words_mk,T.kids_mk] at h
  obtain ⟨⟨h0,rfl⟩,rfl⟩ := h
  obtain rfl := of_decide_eq_true h0
  rfl
theorem sameE_eq {e : E} (h : sameE e = true) : e = E0 := by
  obtain ⟨k,o,n,ws,ks,l,os⟩ := e
  simp only [sameE,Bool.and_eq_true,decide_eq_true_eq,List.isEmpty_iff,E.kind_mk,E.old_mk,E.new_mk,E.words_mk,E.kids_mk,E.list_mk,E.ops_mk] at h
  obtain ⟨⟨⟨⟨h0,h1⟩,h2⟩,⟨rfl,rfl⟩,rfl⟩,h3⟩ := h
  obtain rfl := of_decide_eq_true h0
  obtain rfl := of_decide_eq_true h3
  rw [noneT_T0 h1,noneT_T0 h2]
theorem headOk_iff {d : Nat} {k : Int} {o n : T} {nw nk : Nat} {l : Int} {no : Nat} : headOk d k o n nw nk l no = true ↔ d ≠ 0∧0≤k∧k≤3∧(k ≠ 1→noneT o = true∧noneT n = true)∧(k ≠ 2→nw = 0∧nk = 0)∧(k ≠ 3→l = 0∧no = 0) := by
  unfold headOk
  simp only [Bool.and_eq_true,Bool.not_eq_true',Bool.or_eq_false_iff,Bool.and_eq_false_iff,decide_eq_false_iff_not,Bool.not_eq_false',decide_eq_true_eq]
  constructor
  · rintro ⟨⟨⟨h1,h2⟩,h3⟩,⟨h4,h5⟩,h6⟩
    refine ⟨h1,by omega,by omega,fun hk => ?_,fun hk => ?_,fun hk => ?_⟩
    · rcases h4 with h4 | h4
      · exact absurd h4 hk
      · exact h4
    · rcases h5 with h5 | h5
      · exact absurd h5 hk
      · omega
    · rcases h6 with h6 | h6
      · exact absurd h6 hk
      · exact ⟨h6.1,by omega⟩
  · rintro ⟨h1,h2,h3,h4,h5,h6⟩
    refine ⟨⟨⟨h1,by omega⟩,by omega⟩,⟨?_,?_⟩,?_⟩
    · by_cases hk : k = 1
      · exact .inl hk
      · exact .inr (h4 hk)
    · by_cases hk : k = 2
      · exact .inl hk
      · exact .inr (by have := h5 hk; omega)
    · by_cases hk : k = 3
      · exact .inl hk
      · exact .inr ⟨(h6 hk).1,by have := h6 hk; omega⟩
structure RightE (d : Nat) (k : Int) (o n : T) (ws : List WE) (ks : List KE) (l : Int) (os : List OP) : Prop where
  d0 : d ≠ 0
  k0 : 0≤k
  k3 : k≤3
  one : k ≠ 1→o = T0∧n = T0
  two : k ≠ 2→ws = []∧ks = []
  three : k ≠ 3→l = 0∧os = []
  rep : k = 1→rightT 64 o = true∧rightT 64 n = true∧o.kind ≠ 10∧n.kind ≠ 10
  wok : wordsOk (-1) ws = true
  kok : rightKs (d - 1) (-1) ks = true
  lst : k = 3→2≤l∧l≤9
  ook : rightOs (d - 1) l os = true
  len : (lengths 0 0 os).1 < 1048576∧(lengths 0 0 os).2 < 1048576
theorem rightE_iff {d : Nat} {k : Int} {o n : T} {ws : List WE} {ks : List KE} {l : Int} {os : List OP} : rightE d (.mk k o n ws ks l os) = true ↔ RightE d k o n ws ks l os := by
  rw [rightE_mk]
  constructor
  · intro h
    by_cases hh : headOk d k o n ws.length ks.length l os.length = true
    · rw [if_neg (by rw [hh]; simp)] at h
      obtain ⟨h1,h2,h3,h4,h5,h6⟩ := headOk_iff.1 hh
      have g1 : k ≠ 1→o = T0∧n = T0 := fun hk => ⟨noneT_T0 (h4 hk).1,noneT_T0 (h4 hk).2⟩
      have g2 : k ≠ 2→ws = []∧ks = [] := fun hk => ⟨List.length_eq_zero_iff.1 (h5 hk).1,List.length_eq_zero_iff.1 (h5 hk).2⟩
      have g3 : k ≠ 3→l = 0∧os = [] := fun hk => ⟨(h6 hk).1,List.length_eq_zero_iff.1 (h6 hk).2⟩
      by_cases hk : k = 1
      · rw [if_pos hk] at h
        simp at h
        obtain ⟨rfl,rfl⟩ := g2 (by omega)
        obtain ⟨rfl,rfl⟩ := g3 (by omega)
        exact ⟨h1,h2,h3,g1,g2,g3,fun _ => ⟨h.1.1.1,h.1.1.2,h.1.2,h.2⟩,by simp [wordsOk],by simp,fun e => by omega,by simp,by simp [lengths]⟩
      · rw [if_neg hk] at h
        split at h
        · cases h
        · rename_i hw
          split at h
          · cases h
          · rename_i hks
            split at h
            · cases h
            · rename_i hl
              split at h
              · cases h
              · rename_i ho
                simp at h hw hks ho
                exact ⟨h1,h2,h3,g1,g2,g3,fun e => absurd e hk,hw,hks,fun e => by omega,ho,h⟩
    · rw [if_pos (by simpa using hh)] at h
      cases h
  · intro h
    have hh : headOk d k o n ws.length ks.length l os.length = true := headOk_iff.2 ⟨h.d0,h.k0,h.k3,fun hk => by rw [(h.one hk).1,(h.one hk).2]; exact ⟨rfl,rfl⟩,fun hk => by rw [(h.two hk).1,(h.two hk).2]; exact ⟨rfl,rfl⟩,fun hk => by rw [(h.three hk).1,(h.three hk).2]; exact ⟨rfl,rfl⟩⟩
    rw [if_neg (by rw [hh]; simp)]
    by_cases hk : k = 1
    · rw [if_pos hk]
      obtain ⟨a,b,c,e⟩ := h.rep hk
      simp [a,b,c,e]
    · rw [if_neg hk,if_neg (by rw [h.wok]; simp),if_neg (by rw [h.kok]; simp),if_neg (by have := h.lst; omega),if_neg (by rw [h.ook]; simp)]
      simp [h.len]
structure RightO (d : Nat) (list : Int) (x : OP) : Prop where
  k0 : 0≤x.kind
  k3 : x.kind≤3
  keep : x.kind = 0→1≤x.n∧x.n≤1048576∧x.l = []
  nn : x.kind ≠ 0→x.n = 0
  same : x.kind ≠ 3→x.e = E0
  some : x.kind = 1∨x.kind = 2→x.l ≠ []∧∀ t,t ∈ x.l→rightT 64 (.mk list [] [t]) = true
  down : x.kind = 3→x.l = []∧x.e.kind ≠ 0∧8≤list∧rightE d x.e = true∧opFit list x = true
theorem sameE_E0 : sameE E0 = true := rfl
theorem rightO_to {d : Nat} {list : Int} {x : OP} (O : RightO d list x) : rightO d list x = true := by
  rw [rightO_eq,Bool.and_eq_true]
  unfold opFlat
  by_cases k0 : x.kind = 0
  · obtain ⟨a,b,c⟩ := O.keep k0
    rw [if_pos k0,if_neg (by omega),O.same (by omega),c]
    exact ⟨by simp [a,b,sameE_E0],rfl⟩
  · have hn := O.nn k0
    have h0 := O.k0
    have h3 := O.k3
    rw [if_neg k0,if_neg (by omega)]
    by_cases k3 : x.kind = 3
    · obtain ⟨a,b,c,e,f⟩ := O.down k3
      rw [if_neg (by omega),if_pos k3]
      refine ⟨rfl,?_⟩
      rw [e,f]
      simp [opDeep,a,b]
      omega
    · obtain ⟨a,b⟩ := O.some (by omega)
      rw [if_pos (by omega),if_neg k3,O.same k3]
      refine ⟨?_,rfl⟩
      simp [sameE_E0,a]
      exact b
theorem right_norm : ∀ (t : T) (d : Nat),rightT d t = true→rightT d (norm t) = true := by
  refine T.ind fun k w l ih d h => ?_
  have hk := rightT_struct h
  rw [rightT_mk] at h
  rw [norm_mk]
  by_cases h0 : k = 0
  · rw [if_pos h0,rightT_mk]; rfl
  rw [if_neg h0] at h ⊢
  by_cases h10 : k = 10
  · subst h10
    rw [if_pos rfl] at h
    simp at h
    obtain ⟨hw,rfl⟩ := h
    rw [if_neg (by decide),rightT_mk]
    simp [hw]
  rw [if_neg h10] at h
  by_cases hb : tooBig k d w.length l.length = true
  · rw [if_pos hb] at h; cases h
  have hm : ∀ (m : List T),(∀ t,t ∈ m→∃ u,u ∈ l∧t = norm u)→rightL (d - 1) k m = true := fun m hm => rightL_all.2 fun t ht => by
    obtain ⟨u,hu,rfl⟩ := hm t ht
    obtain ⟨g1,g2⟩ := hk u hu
    refine ⟨ih u hu _ g1,?_⟩
    unfold kidOk at g2 ⊢
    rw [norm_kind]
    cases hd : isData k with
    | false => rw [hd] at g2; simpa using g2
    | true =>
      rw [hd] at g2
      simp at g2
      obtain ⟨⟨g3,g4⟩,g5⟩ := g2
      obtain ⟨uk,uw,ul⟩ := u
      simp at g3
      subst g3
      rw [norm_mk]
      simp at g4 g5 ⊢
      exact ⟨g4,g5⟩
  by_cases h1 : k = 1
  · subst h1
    have hw := trimW_le w
    have hl := trimK_le (l.map norm)
    rw [List.length_map] at hl
    have hb' : ¬ tooBig 1 d (trimW w).length (trimK (l.map norm)).length = true := by
      simp [tooBig] at hb ⊢
      omega
    rw [if_pos rfl,rightT_mk,if_neg (by decide),if_neg (by decide),if_neg hb']
    refine hm _ fun t ht => ?_
    rw [trimK_take] at ht
    obtain ⟨u,hu,rfl⟩ := List.mem_map.1 (List.mem_of_mem_take ht)
    exact ⟨u,hu,rfl⟩
  · rw [if_neg h1,rightT_mk,if_neg h0,if_neg h10,if_neg (by rw [List.length_map]; exact hb)]
    refine hm _ fun t ht => ?_
    obtain ⟨u,hu,rfl⟩ := List.mem_map.1 ht
    exact ⟨u,hu,rfl⟩
inductive SmT : T→Prop
  | mk (k : Int) (w : List Int) (l : List T) : l.length≤1048576→(∀ t,t ∈ l→SmT t)→SmT (.mk k w l)
theorem SmT.len {t : T} (h : SmT t) : t.kids.length≤1048576 := by cases h; assumption
theorem SmT.kid {t : T} (h : SmT t) : ∀ c,c ∈ t.kids→SmT c := by cases h; assumption
theorem sm_T0 : SmT T0 := .mk _ _ _ (Nat.zero_le _) (fun t h => by cases h)
theorem SmT.kd {t : T} (h : SmT t) (i : Nat) : SmT (kdT t i) := by
  unfold kdT
  rw [List.getD_eq_getElem?_getD]
  cases e : t.kids[i]? with
  | none => exact sm_T0
  | some x => exact h.kid x (List.mem_of_getElem? e)
end Go.PL
namespace Go.Proofs.YtmeldaflhkiopaaGreat
set_option linter.unusedVariables false
set_option linter.unusedSimpArgs false
open Go Go.G Go.Proofs Go.PL
theorem pFits_spec {c n : Int} (h : u64R n) : G.Spec Tryz.prog 130 [iv c,uv n] (bv (fitsZ c n)) := by
  refine spec_of t_word_Fits (by simp) fun w0 I0 => ?_
  unfold c_word_Fits
  simp
  refine sc_call (width_spec c) rfl ?_
  have hw := widthZ_cases c
  unfold fitsZ
  rcases hw with h1 | h1 | h1 | h1 | h1 | h1 | h1
  all_goals
    rw [h1]
    simp
    refine frz_bool ?_
  all_goals try rfl
  all_goals
    obtain ⟨n0,n1⟩ := h
    have hb : IntKind.u64.bits = 64 := rfl
    simp [hb]
  all_goals omega
theorem tList_spec (k : Int) : G.Spec Tryz.prog 44 [iv k] (bv (decide (2≤k) && decide (k≤9))) := by
  refine spec_of t_tree_List (by simp) fun w0 I0 => ?_
  unfold c_tree_List
  simp
  exact frz_bare rfl
def pkid (list : Int) (t : T) : Bool := if isData list = true then decide (t.kind = 10) && t.kids.isEmpty && decide (t.words.length = 1) && fitsZ (list - 2) (t.words.headD 0) else if list = 9 then decide (t.kind = 1) else !decide (t.kind = 10)
theorem pkid_eq {list : Int} {t : T} {d : Nat} (h1 : list ≠ 1) : (pkid list t && rightT d t) = (rightT d t && kidOk list t) := by
  unfold pkid kidOk
  cases hd : isData list with
  | true =>
    simp only [if_true]
    by_cases h10 : t.kind = 10
    · have e : rightT d t = (decide (t.words.length = 1) && t.kids.isEmpty) := by
        obtain ⟨k,w,l⟩ := t
        simp at h10
        subst h10
        rw [rightT_mk]
        rfl
      have n9 : list ≠ 9 := fun e => by subst e; simp [isData] at hd
      rw [e]
      simp [h10,n9]
      cases decide (t.words.length = 1) <;> cases t.kids.isEmpty <;> simp
    · simp [h10]
  | false =>
    simp
    by_cases h9 : list = 9
    · subst h9
      simp
      cases h : rightT d t <;> simp
      by_cases h1 : t.kind = 1 <;> simp [h1]
    · simp [h9]
      cases h : rightT d t <;> simp
theorem pKid_spec (list : Int) (hl : i64R list) {t : T} (h : wfT t) : G.Spec Tryz.prog 116 [iv list,tX t] (bv (pkid list t)) := by
  have hw := wfT_iff.1 h
  refine spec_of t_tree_kid (by simp) fun w0 I0 => ?_
  unfold c_tree_kid
  simp
  refine sc_call (data_spec list) rfl ?_
  cases hd : isData list with
  | false =>
    simp
    by_cases h9 : list = 9
    · simp [h9]
      refine frz_bool ?_
      simp [pkid,isData]
    · simp [h9]
      refine frz_bool ?_
      simp [pkid,hd,h9]
  | true =>
    have hd' := hd
    simp [isData] at hd'
    by_cases hc : t.kind = 10∧t.kids = []∧t.words.length = 1
    · obtain ⟨c1,c2,c3⟩ := hc
      obtain ⟨x,hx⟩ : ∃ x,t.words = [x] := List.length_eq_one_iff.1 c3
      have hxr : u64R x := hw.w x (by rw [hx]; simp)
      have e2 : IntKind.i64.wrap (list - 2) = list - 2 := i64_same (by omega) (by omega)
      simp [c1,c2,hx,e2]
      refine sc_call_gt rfl (fun _ => pFits_spec hxr) (fun _ => rfl) rfl ?_
      simp
      refine frz_bool ?_
      simp [pkid,hd,c1,c2,hx]
    · have hp : pkid list t = false := by
        unfold pkid
        rw [if_pos hd]
        rw [Bool.eq_false_iff]
        intro e
        simp at e
        exact hc ⟨e.1.1.1,e.1.1.2,e.1.2⟩
      by_cases c1 : t.kind = 10
      · by_cases c2 : t.kids = []
        · have c3 : ¬ t.words.length = 1 := fun e => hc ⟨c1,c2,e⟩
          have c3' : ¬ (t.words.length : Int) = 1 := by omega
          simp [c1,c2,c3,c3']
          refine sc_call_off rfl ?_
          simp
          rw [hp]
          exact frz_bare rfl
        · have c2' : ¬ (t.kids.length : Int) = 0 := fun e => c2 (List.length_eq_zero_iff.1 (by omega))
          simp [c1,c2,c2']
          refine sc_call_off rfl ?_
          simp
          rw [hp]
          exact frz_bare rfl
      · simp [c1]
        refine sc_call_off rfl ?_
        simp
        rw [hp]
        exact frz_bare rfl
section
variable {n0 : Nat} {w0 : World} {I0 : Nat→Prop} {Q : Exit→Sta→Prop}
theorem pright_k1 {Q' : Exit→Sta→Prop} {c : T} {d : Nat} {b : Bool} {u : Nat} {p x y z : A} {H : Hp} (hd : 1≤d) (hd1 : d≤1000) (ihc : G.Spec Tryz.prog 99 [tX c,iv (d - 1 : Nat)] (bv (rightT (d - 1) c))) (hB : H [1] = ⟨u,.cells (tL c)⟩)
    (h1 : (b && rightT (d - 1) c) = true→Q' .normal ⟨lk [(1,iv d),(2,p),(71,x),(72,y),(73,z),(95,bv false)],H⟩) (h2 : (b && rightT (d - 1) c) = false→Q' .ret ⟨lk [(4,bv false)],H⟩) :
    WPC (cx Tryz.prog w0 I0 n0) k1_tree_right Q' ⟨lk [(1,iv d),(2,p),(6,.pob [1] u 0),(7,bv b),(71,x),(72,y),(73,z)],H⟩ := by
  rw [k1_tree_right.eq_1]
  have ed : IntKind.i64.wrap ((d : Int) - 1) = ((d - 1 : Nat) : Int) := by rw [i64_same (by omega) (by omega)]; omega
  cases b with
  | false =>
    simp
    refine sc_call_off rfl ?_
    simp
    exact h2 rfl
  | true =>
    simp [hB,ed]
    refine sc_call_gf rfl (fun _ => ihc) (fun _ => rfl) rfl ?_
    cases hr : rightT (d - 1) c with
    | false => simp; exact h2 (by simp [hr])
    | true => simp; exact h1 (by simp [hr])
theorem pright_l1 {t : T} (hk : i64R t.kind) (hl : t.kids.length * 56≤140737488355328) {d : Nat} (hd : 1≤d) (hd1 : d≤1000) (hw : ∀ c,c ∈ t.kids→wfT c) (ih : ∀ c,c ∈ t.kids→∀ d : Nat,d≤1000→G.Spec Tryz.prog 99 [tX c,iv d] (bv (rightT d c))) : ∀ (m i : Nat) (H : Hp),i + m = t.kids.length→H [0] = ⟨1,.cells (tL t)⟩ →
    (rightL (d - 1) t.kind (t.kids.drop i) = true→∀ i' q H',Q (.exit 1) ⟨lk [(1,iv d),(2,.pob [0] 1 0),(71,tKs t.kids),(72,iv t.kids.length),(73,iv i'),(74,bv q)],H'⟩)→(rightL (d - 1) t.kind (t.kids.drop i) = false→∀ H',Q .ret ⟨lk [(4,bv false)],H'⟩) →
    LoopC (cx Tryz.prog w0 I0 n0) l1_tree_right Q ⟨lk [(1,iv d),(2,.pob [0] 1 0),(71,tKs t.kids),(72,iv t.kids.length),(73,iv i)],H⟩ := by
  intro m
  induction m with
  | zero =>
    intro i H hi hA h1 h2
    have : i = t.kids.length := by omega
    subst this
    refine loopC_once mixed l1_tree_right.eq_1 ?_
    simp
    exact h1 (by simp) _ _ _
  | succ m ihm =>
    intro i H hi hA h1 h2
    have hlt : i < t.kids.length := by omega
    have e : t.kids.drop i = t.kids[i] :: t.kids.drop (i + 1) := List.drop_eq_getElem_cons hlt
    have ei : IntKind.i64.wrap ((i : Int) + 1) = ((i + 1 : Nat) : Int) := i64_same (by omega) (by omega)
    rw [e,rightL_cons] at h1 h2
    have hwc := hw _ (List.getElem_mem hlt)
    have ihc := ih _ (List.getElem_mem hlt) (d - 1) (by omega)
    generalize hc : t.kids[i] = c at *
    refine loopC_once mixed l1_tree_right.eq_1 ?_
    simp [hA,hlt,hc,updF_app]
    refine ⟨fun h10 => ?_,fun h10 => ?_⟩
    · have ek : kidOk t.kind c = !decide (c.kind = 10) := by
        unfold kidOk
        rw [h10]
        by_cases e : c.kind = 10 <;> simp [isData,e]
      try simp [hA,updF_app,h10]
      refine pright_k1 (c := c) hd hd1 ihc (by simp [updF_app]) (fun hr => ?_) (fun hr => ?_)
      · simp [ei]
        refine ihm (i + 1) _ (by omega) (by simp [updF_app,hA]) (fun hh => h1 ?_) (fun hh => h2 ?_)
        · rw [ek,hh]; simpa using And.comm.1 (by simpa using hr)
        · rw [hh]; simp
      · simp
        refine h2 ?_ _
        rw [ek]
        have : (rightT (d - 1) c && !decide (c.kind = 10)) = false := by rw [Bool.and_comm]; simpa using hr
        rw [this]; rfl
    · have ek := pkid_eq (t := c) (d := d - 1) h10
      simp [hA,updF_app,h10]
      refine sc_call (pKid_spec t.kind hk hwc) rfl ?_
      simp
      refine pright_k1 (c := c) hd hd1 ihc (by simp [updF_app]) (fun hr => ?_) (fun hr => ?_)
      · simp [ei]
        rw [ek] at hr
        refine ihm (i + 1) _ (by omega) (by simp [updF_app,hA]) (fun hh => h1 ?_) (fun hh => h2 ?_)
        · rw [hr,hh]; rfl
        · rw [hh]; simp
      · simp
        refine h2 ?_ _
        rw [ek] at hr
        rw [hr]; rfl
end
theorem pRight_spec : ∀ (t : T),wfT t→∀ d : Nat,d≤1000→G.Spec Tryz.prog 99 [tX t,iv d] (bv (rightT d t)) := by
  refine T.ind fun k w l ih hw d hd => ?_
  have hw' := wfT_iff.1 hw
  have hwl := hw'.wl
  have hkl := hw'.kl
  have hk := hw'.k
  simp at hwl hkl hk
  refine spec_of t_tree_right (by simp) fun w0 I0 => ?_
  unfold c_tree_right
  rw [rightT_mk]
  by_cases h0 : k = 0
  · simp [h0]
    exact frz_bool (by cases w <;> cases l <;> simp <;> (rw [← List.length_eq_zero_iff]; omega))
  by_cases h10 : k = 10
  · simp [h10]
    exact frz_bool (by cases w <;> cases l <;> simp <;> (rw [← List.length_eq_zero_iff]; omega))
  rw [if_neg h0,if_neg h10]
  obtain ⟨R,hR⟩ : ∃ R,R = (if tooBig k d w.length l.length = true then false else rightL (d - 1) k l) := ⟨_,rfl⟩
  rw [← hR]
  have bad : tooBig k d w.length l.length = true→R = false := fun h => by rw [hR,if_pos h]
  by_cases hd0 : d = 0
  · subst hd0
    simp [h0,h10]
    exact frz_bool (bad (by simp [tooBig])).symm
  have fin : tooBig k d w.length l.length = false→WPC (cx Tryz.prog w0 I0 97) k2_tree_right (RetC Tryz.prog [.tmp 4] (bv R)) ⟨lk [(1,iv d),(2,.pob [0] 1 0)],lkH [([0],⟨1,.cells [iv k,uws w,tKs l]⟩)]⟩ := fun hb => by
    rw [if_neg (by rw [hb]; simp)] at hR
    subst hR
    rw [k2_tree_right.eq_1]
    simp
    refine pright_l1 (t := .mk k w l) (by simpa using hk) (by simpa using hkl) (by omega) hd (fun c hc => hw'.ks c hc) (fun c hc => ih c hc (hw'.ks c hc)) l.length 0 _ (by simp) (by simp) (fun hr i' q H' => ?_) (fun hr H' => ?_)
    · simp
      exact frz_bool (by simpa using hr.symm)
    · simp
      exact frz_bool (by simpa using hr.symm)
  by_cases h1 : k = 1
  · subst h1
    by_cases hb : 65536≤w.length∨65536≤l.length
    · have hb' : (decide (65536≤(w.length : Int)) || decide (65536≤(l.length : Int))) = true := by simp; omega
      simp [hd0,hb']
      exact frz_bool (bad (by simp [tooBig]; omega)).symm
    · have hb' : (decide (65536≤(w.length : Int)) || decide (65536≤(l.length : Int))) = false := by simp; omega
      simp [hd0,hb']
      exact fin (by simp [tooBig]; omega)
  · simp [h0,h10,h1,hd0]
    refine sc_call (tList_spec k) rfl ?_
    simp
    refine ⟨fun hc => ?_,fun a b c e => ?_⟩
    · exact frz_bool (bad (by simp [tooBig]; omega)).symm
    · refine fin ?_
      rw [Bool.eq_false_iff]
      unfold tooBig
      simp only [Bool.or_eq_true,Bool.and_eq_true,decide_eq_true_eq,ne_eq]
      have hl0 : w.length = 0 := by first | omega | simp [c]
      omega
theorem ptRight_spec {t : T} (h : wfT t) : G.Spec Tryz.prog 83 [tX t] (bv (rightT 64 t)) := by
  refine spec_of t_tree_Right (by simp) fun w0 I0 => ?_
  unfold c_tree_Right
  simp
  refine sc_call (pRight_spec t h 64 (by omega)) (by simp) ?_
  simp
  exact frz_bare rfl
abbrev z0 : List A := [iv 0,.sl true [],.sl true []]
theorem kids_same {a b : List T} (hl : a.length = b.length) : a.map norm = b.map norm ↔ ∀ i,norm (a.getD i T0) = norm (b.getD i T0) := by
  constructor
  · intro h i; rw [← getD_norm,h,getD_norm]
  · intro h
    apply List.ext_getElem (by simpa using hl)
    intro i h1 h2
    have := h i
    simp at h1 h2
    simpa [List.getD_eq_getElem?_getD,h1,h2] using this
section
variable {n0 : Nat} {w0 : World} {I0 : Nat→Prop} {Q : Exit→Sta→Prop}
end
section
variable {n0 : Nat} {w0 : World} {I0 : Nat→Prop} {Q : Exit→Sta→Prop}
theorem seq_l1 {a b : List Int} (hl : a.length = b.length) (hb : a.length * 8≤140737488355328) {H : Hp} : ∀ (m i : Nat),i + m = a.length→a.take i = b.take i→(a = b→∀ q,Q (.exit 0) ⟨lk [(0,uws a),(1,uws b),(12,iv a.length),(13,iv a.length),(14,bv q)],H⟩)→(a ≠ b→Q .ret ⟨lk [(4,bv false)],H⟩) →
    LoopC (cx Tryz.prog w0 I0 n0) l1_slices_Equal_uint64_uint64 Q ⟨lk [(0,uws a),(1,uws b),(12,iv a.length),(13,iv i)],H⟩ := by
  intro m
  induction m with
  | zero =>
    intro i hi ht h1 h2
    have : i = a.length := by omega
    subst this
    rw [List.take_of_length_le (Nat.le_refl _),List.take_of_length_le (by omega)] at ht
    refine loopC_once mixed l1_slices_Equal_uint64_uint64.eq_1 ?_
    simp
    exact h1 ht _
  | succ m ih =>
    intro i hi ht h1 h2
    have hlt : i < a.length := by omega
    have hlt' : i < b.length := by omega
    have ei : IntKind.i64.wrap ((i : Int) + 1) = ((i + 1 : Nat) : Int) := i64_same (by omega) (by omega)
    refine loopC_once mixed l1_slices_Equal_uint64_uint64.eq_1 ?_
    by_cases e : a[i] = b[i]
    · simp [hlt,hlt',e,ei]
      refine ih (i + 1) (by omega) ?_ h1 h2
      rw [List.take_succ_eq_append_getElem hlt,List.take_succ_eq_append_getElem hlt',ht,e]
    · simp [hlt,hlt',e]
      exact h2 fun q => e (by simp [q])
end
theorem sEqual_spec (a b : List Int) (hb : a.length * 8≤140737488355328) : G.Spec Tryz.prog 66 [uws a,uws b] (bv (decide (a = b))) := by
  refine spec_of t_slices_Equal_uint64_uint64 (by simp) fun w0 I0 => ?_
  unfold c_slices_Equal_uint64_uint64
  by_cases hl : a.length = b.length
  · simp [hl]
    have := seq_l1 (n0 := 26) (w0 := w0) (I0 := I0) (a := a) (b := b) (H := lkH []) (Q := InBlock 0 (ThenC (WPC (cx Tryz.prog w0 I0 26) (.keep [] (.seq (.reg [co (some 4) (.assign (.const (.bool true))) none] [4]) .ret)) (RetC Tryz.prog [.tmp 4] (bv (decide (a = b))))) (RetC Tryz.prog [.tmp 4] (bv (decide (a = b)))))) hl hb a.length 0 (by simp) rfl (fun e q => ?_) (fun e => ?_)
    · rw [hl] at this
      simpa using this
    · simp
      exact frz_bool (by simp [e])
    · simp
      exact frz_bool (by simp [e])
  · have hl' : ¬ (a.length : Int) = b.length := by omega
    simp [hl,hl']
    exact frz_bool (by simp; intro e; exact absurd (by rw [e]) hl)
theorem eqS_kind {t u : T} (h : t.kind ≠ u.kind∨t.kind = 0) : eqT t u = decide (t.kind = u.kind) := by
  rw [Bool.eq_iff_iff,eqT_iff,decide_eq_true_eq]
  constructor
  · intro e; rw [← norm_kind t,e,norm_kind]
  · intro e
    rcases h with h | h
    · exact absurd e h
    · rw [norm_kind0 h,norm_kind0 (by omega)]
theorem pEqual_null {t u : T} (h : t.kind ≠ u.kind∨t.kind = 0) : G.Spec Tryz.prog 42 [tX t,tX u] (bv (eqT t u)) := by
  refine spec_of t_tree_Equal (by simp) fun w0 I0 => ?_
  unfold c_tree_Equal
  rw [eqS_kind h]
  by_cases e : t.kind = u.kind
  · have h0 : u.kind = 0 := by omega
    simp [e,h0]
    exact frz_bare rfl
  · simp [e]
    exact frz_bool (by simp [e])
section
variable {n0 : Nat} {w0 : World} {I0 : Nat→Prop} {Q : Exit→Sta→Prop}
theorem pequal_l1 {t u : T} {n : Nat} (hN : n≤100000000000000) {H : Hp} (h0 : H [0] = ⟨1,.cells (tL t)⟩) (h1 : H [1] = ⟨1,.cells (tL u)⟩)
    (hq : (∀ i,i < n→t.words.getD i 0 = u.words.getD i 0)→∀ (q : Bool),Q (.exit 0) ⟨lk [(2,.pob [0] 1 0),(3,.pob [1] 1 0),(48,iv n),(49,iv n),(50,bv q)],H⟩)
    (hf : (∃ i,t.words.getD i 0 ≠ u.words.getD i 0)→Q .ret ⟨lk [(4,bv false)],H⟩) :
    ∀ (j i : Nat),i + j = n→(∀ i',i' < i→t.words.getD i' 0 = u.words.getD i' 0) →
    LoopC (cx Tryz.prog w0 I0 n0) l1_tree_Equal Q ⟨lk [(2,.pob [0] 1 0),(3,.pob [1] 1 0),(48,iv n),(49,iv i)],H⟩ := by
  intro j
  induction j with
  | zero =>
    intro i hi he
    have : i = n := by omega
    subst this
    refine loopC_once mixed l1_tree_Equal.eq_1 ?_
    simp
    exact hq he _
  | succ j ih =>
    intro i hi he
    have hlt : i < n := by omega
    have ei : IntKind.i64.wrap ((i : Int) + 1) = ((i + 1 : Nat) : Int) := i64_same (by omega) (by omega)
    refine loopC_once mixed l1_tree_Equal.eq_1 ?_
    simp [hlt,h0,h1]
    refine sc_call (treeWord_spec t i) (by simp) ?_
    simp [h0,h1]
    refine sc_call (treeWord_spec u i) (by simp) ?_
    by_cases hw : t.words.getD i 0 = u.words.getD i 0
    · have hw' := hw
      simp only [List.getD_eq_getElem?_getD] at hw'
      simp [hw',ei]
      refine ih (i + 1) (by omega) (fun i' hi' => ?_)
      by_cases e : i' = i
      · rw [e]; exact hw
      · exact he i' (by omega)
    · have hw' := hw
      simp only [List.getD_eq_getElem?_getD] at hw'
      simp [hw']
      exact hf ⟨i,hw⟩
end
theorem getD_none {α : Type} {l : List α} {i : Nat} {z : α} (h : l.length≤i) : l.getD i z = z := by rw [List.getD_eq_getElem?_getD,List.getElem?_eq_none h]; rfl
theorem wfG_getD {u : T} (hw : wfT u) (i : Nat) : wfT (u.kids.getD i T0) := by
  by_cases hi' : i < u.kids.length
  · have e : u.kids.getD i T0 = u.kids[i] := by simp [List.getD_eq_getElem?_getD,hi']
    rw [e]
    exact (wfT_iff.1 hw).ks _ (List.getElem_mem hi')
  · have e : u.kids.getD i T0 = T0 := by rw [List.getD_eq_getElem?_getD,List.getElem?_eq_none (by simpa using hi')]; rfl
    rw [e]
    exact wfT_iff.2 ⟨by simp [i64R],by simp,by simp,by simp,by simp⟩
def EqG (t : T) : Prop := ∀ u : T,wfT t→wfT u→G.Spec Tryz.prog 42 [tX t,tX u] (bv (eqT t u))
theorem eqT_any {k : Int} {w : List Int} {a : List T} {u : T} (h0 : k ≠ 0) : eqT (.mk k w a) u = true ↔ k = u.kind∧(k = 1∨(a.length = u.kids.length∧w = u.words))∧(∀ i,w.getD i 0 = u.words.getD i 0)∧∀ i,norm (a.getD i T0) = norm (u.kids.getD i T0) := by
  rw [eqT_iff]
  obtain ⟨k',w',b⟩ := u
  by_cases hk : k = k'
  rotate_left
  · constructor
    · intro h
      have := congrArg T.kind h
      simp at this
      exact absurd this hk
    · intro h; exact absurd h.1 hk
  subst hk
  by_cases h1 : k = 1
  · subst h1
    rw [struct_eq]
    simp
  rw [other_eq h0 h1]
  constructor
  · rintro ⟨rfl,h⟩
    have hl : a.length = b.length := by simpa using congrArg List.length h
    exact ⟨rfl,.inr ⟨hl,rfl⟩,fun i => rfl,(kids_same hl).1 h⟩
  · rintro ⟨_,h,_,h3⟩
    rcases h with h | ⟨hl,rfl⟩
    · exact absurd h h1
    · exact ⟨rfl,(kids_same hl).2 h3⟩
section
variable {n0 : Nat} {w0 : World} {I0 : Nat→Prop} {Q : Exit→Sta→Prop}
theorem eqg_l2 {t u : T} {n : Nat} (hn : n≤100000000000000) (hw : wfT t) (hwu : wfT u) (hk : ∀ i,i < n→EqG (t.kids.getD i T0)) {H : Hp} (h0 : H [0] = ⟨1,.cells (tL t)⟩) (h1 : H [1] = ⟨1,.cells (tL u)⟩)
    (hq : (∀ i,i < n→norm (t.kids.getD i T0) = norm (u.kids.getD i T0))→∀ (q : Bool),Q (.exit 2) ⟨lk [(2,.pob [0] 1 0),(3,.pob [1] 1 0),(66,iv n),(67,iv n),(68,bv q)],H⟩)
    (hf : (∃ i,norm (t.kids.getD i T0) ≠ norm (u.kids.getD i T0))→Q .ret ⟨lk [(4,bv false)],H⟩) :
    ∀ (j i : Nat),i + j = n→(∀ i',i' < i→norm (t.kids.getD i' T0) = norm (u.kids.getD i' T0)) →
    LoopC (cx Tryz.prog w0 I0 n0) l2_tree_Equal Q ⟨lk [(2,.pob [0] 1 0),(3,.pob [1] 1 0),(66,iv n),(67,iv i)],H⟩ := by
  intro j
  induction j with
  | zero =>
    intro i hi he
    have : i = n := by omega
    subst this
    refine loopC_once mixed l2_tree_Equal.eq_1 ?_
    simp
    exact hq he _
  | succ j ih =>
    intro i hi he
    have hlt : i < n := by omega
    have ei : IntKind.i64.wrap ((i : Int) + 1) = ((i + 1 : Nat) : Int) := i64_same (by omega) (by omega)
    have hrec := hk i hlt (u.kids.getD i T0) (wfG_getD hw i) (wfG_getD hwu i)
    refine loopC_once mixed l2_tree_Equal.eq_1 ?_
    simp [hlt,h0,h1]
    refine sc_call (treeKid_spec t i) (by simp) ?_
    simp [h0,h1]
    refine sc_call (treeKid_spec u i) (by simp) ?_
    simp [h0,h1]
    refine sc_call hrec (by simp) ?_
    cases hb : eqT (t.kids.getD i T0) (u.kids.getD i T0) with
    | true =>
      simp [ei]
      refine ih (i + 1) (by omega) (fun i' hi' => ?_)
      by_cases e : i' = i
      · rw [e]; exact eqT_iff.1 hb
      · exact he i' (by omega)
    | false =>
      simp
      exact hf ⟨i,fun e => by rw [eqT_iff.2 e] at hb; cases hb⟩
end
set_option maxRecDepth 8000 in
theorem eqG_all : ∀ t : T,EqG t := by
  refine T.ind fun k w ks ih u hw hwu => ?_
  have hw' := wfT_iff.1 hw
  have hu' := wfT_iff.1 hwu
  have hwl := hw'.wl
  have hkl := hw'.kl
  have hul := hu'.wl
  have huk := hu'.kl
  simp only [T.words_mk,T.kids_mk] at hwl hkl
  have hk0 : ∀ i,EqG ((T.mk k w ks).kids.getD i T0) := fun i => by
    by_cases hi : i < ks.length
    · have e : (T.mk k w ks).kids.getD i T0 = ks[i] := by simp [List.getD_eq_getElem?_getD,hi]
      rw [e]; exact ih _ (List.getElem_mem hi)
    · have e : (T.mk k w ks).kids.getD i T0 = T0 := getD_none (by simpa using hi)
      rw [e]
      intro u _ _
      exact pEqual_null (.inr rfl)
  by_cases hkk : k ≠ u.kind∨k = 0
  · exact pEqual_null hkk
  have h1 : k = u.kind := by omega
  have h0 : ¬ u.kind = 0 := by omega
  simp only [T.kids_mk] at hk0
  have yes : (k = 1∨(ks.length = u.kids.length∧w = u.words))→(∀ i,w.getD i 0 = u.words.getD i 0)→(∀ i,norm (ks.getD i T0) = norm (u.kids.getD i T0))→eqT (.mk k w ks) u = true := fun a b c => (eqT_any (by omega)).2 ⟨h1,a,b,c⟩
  have no : ¬ ((k = 1∨(ks.length = u.kids.length∧w = u.words))∧(∀ i,w.getD i 0 = u.words.getD i 0)∧(∀ i,norm (ks.getD i T0) = norm (u.kids.getD i T0)))→eqT (.mk k w ks) u = false := fun h => by
    rw [Bool.eq_false_iff]
    intro e
    exact h ((eqT_any (by omega)).1 e).2
  obtain ⟨N,hN⟩ : ∃ N : Nat,N = max w.length u.words.length := ⟨_,rfl⟩
  obtain ⟨M,hM⟩ : ∃ M : Nat,M = max ks.length u.kids.length := ⟨_,rfl⟩
  have eN : max (w.length : Int) (u.words.length : Int) = (N : Int) := by omega
  have eM : max (ks.length : Int) (u.kids.length : Int) = (M : Int) := by omega
  refine spec_of t_tree_Equal (by simp) fun w0 I0 => ?_
  have main : (k = 1∨(ks.length = u.kids.length∧w = u.words))→WPC (cx Tryz.prog w0 I0 79) k1_tree_Equal (RetC Tryz.prog [.tmp 4] (bv (eqT (.mk k w ks) u))) ⟨lk [(2,.pob [0] 1 0),(3,.pob [1] 1 0)],lkH [([0],⟨1,.cells [iv k,uws w,tKs ks]⟩),([1],⟨1,.cells [iv u.kind,uws u.words,tKs u.kids]⟩)]⟩ := fun hc => by
    rw [k1_tree_Equal.eq_1]
    simp [eN]
    refine pequal_l1 (t := .mk k w ks) (u := u) (by omega) (by simp) (by simp) (fun he q => ?_) (fun hf => ?_) N 0 (by omega) (fun i hi => by omega)
    · have heq : ∀ i,w.getD i 0 = u.words.getD i 0 := fun i => by
        by_cases hi : i < N
        · exact he i hi
        · rw [getD_none (by omega),getD_none (by omega)]
      simp [eM]
      refine eqg_l2 (t := .mk k w ks) (u := u) (by omega) hw hwu (fun i _ => hk0 i) (by simp) (by simp) (fun he2 q => ?_) (fun hf => ?_) M 0 (by omega) (fun i hi => by omega)
      · simp
        refine frz_bool (yes hc heq fun i => ?_).symm
        by_cases hi : i < M
        · exact he2 i hi
        · rw [getD_none (by omega),getD_none (by omega)]
      · simp
        refine frz_bool (no fun h => ?_).symm
        obtain ⟨i,hi⟩ := hf
        exact hi (h.2.2 i)
    · simp
      refine frz_bool (no fun h => ?_).symm
      obtain ⟨i,hi⟩ := hf
      exact hi (h.2.1 i)
  unfold c_tree_Equal
  by_cases k1 : k = 1
  · have u1 : u.kind = 1 := by omega
    have hm := main (.inl k1)
    rw [u1] at hm
    subst k1
    simp [u1]
    refine sc_call_off rfl ?_
    simp
    exact stop_go hm
  · have u1 : ¬ u.kind = 1 := by omega
    by_cases hl : ks.length = u.kids.length
    · have hl' : (ks.length : Int) = u.kids.length := by omega
      simp [h1,h0,u1,hl']
      refine sc_call_gf rfl (fun _ => sEqual_spec w u.words (by omega)) (fun _ => rfl) rfl ?_
      by_cases hww : w = u.words
      · simp [hww]
        have := main (.inr ⟨hl,hww⟩)
        rw [h1,hww] at this
        exact stop_go this
      · simp [hww]
        refine frz_bool ?_
        rw [← h1]
        refine (no fun h => ?_).symm
        rcases h.1 with h | h
        · exact k1 h
        · exact hww h.2
    · have hl' : ¬ (ks.length : Int) = u.kids.length := by omega
      simp [h1,h0,u1,hl,hl']
      refine sc_call_off rfl ?_
      simp
      refine frz_bool ?_
      rw [← h1]
      exact (no fun h => by
        rcases h.1 with h | h
        · exact k1 h
        · exact hl h.1).symm
theorem eqG_spec {t u : T} (hw : wfT t) (hwu : wfT u) : G.Spec Tryz.prog 42 [tX t,tX u] (bv (eqT t u)) := eqG_all t u hw hwu
def kmF (v : Nat) (l : List T) : Fam := ⟨fun r p => if p = [] then ⟨1,.cells [.osl (r :: [0]) v 3 0 l.length]⟩ else if p = [0] then ⟨v,.arr 3 (l.map tA)⟩ else ⟨0,.none⟩,fun {γ δ r r'} hg hd p => by
    by_cases h1 : p = []
    · rw [if_pos h1,if_pos h1]
      refine Fam.cells_ren ?_
      simp [A.renL,A.ren,hg,hd]
    · rw [if_neg h1,if_neg h1]
      by_cases h2 : p = [0]
      · rw [if_pos h2]
        exact Fam.arr_ren ((FamL.all trs_fam).ren hg hd)
      · rw [if_neg h2]; rfl,fun {D r} hD p => by
    by_cases h1 : p = []
    · rw [if_pos h1]
      simp [Ob.refs,A.refsL,A.refs,hD]
    · rw [if_neg h1]
      by_cases h2 : p = [0]
      · rw [if_pos h2]
        exact (FamL.all trs_fam).refs hD
      · rw [if_neg h2]; trivial⟩
@[simp] theorem kmF_F {v : Nat} {l : List T} {r : Nat} {p : Nm} : (kmF v l).F r p = if p = [] then ⟨1,.cells [.osl (r :: [0]) v 3 0 l.length]⟩ else if p = [0] then ⟨v,.arr 3 (l.map tA)⟩ else ⟨0,.none⟩ := rfl
noncomputable def ofU (v : Nat) (ks : List T) (t : T) : Nat := if clsI ks t < ks.length then v else v + 1
noncomputable def ofVs : Nat→List T→List T→Nat
  | v,_,[] => v
  | v,ks,t :: l => ofVs (ofU v ks (norm t)) (clsK ks (norm t)) l
theorem ofVs_append : ∀ (l : List T) (u : Nat) (ks : List T) (t : T),ofVs u ks (l ++ [t]) = ofU (ofVs u ks l) (clsL ks l).1 (norm t)
  | [],u,ks,t => by simp [ofVs,clsL]
  | a :: l,u,ks,t => by simp [ofVs,clsL,ofVs_append l]
theorem clsK_nrm {ks : List T} {n : T} (h : ∀ k,k ∈ ks→norm k = k) (hn : norm n = n) : ∀ k,k ∈ clsK ks n→norm k = k := by
  unfold clsK
  split
  · exact h
  · intro k hk
    rcases List.mem_append.1 hk with hk | hk
    · exact h k hk
    · simp at hk; subst hk; exact hn
theorem clsL_nrm : ∀ {l ks : List T},(∀ k,k ∈ ks→norm k = k)→∀ k,k ∈ (clsL ks l).1→norm k = k
  | [],ks,h => h
  | t :: l,ks,h => clsL_nrm (l := l) (clsK_nrm h (norm_norm t))
section
variable {n0 : Nat} {w0 : World} {I0 : Nat→Prop} {M0 : Nm→Nat→Prop} {m0 : Mu} {Q : Exit→Sta→Prop}
theorem of_l1 {ks : List T} (hw : ∀ k,k ∈ ks→wfT k) (hn : ∀ k,k ∈ ks→norm k = k) (hl : ks.length≤1000000) {t : T} (wt : wfT t) (nt : norm t = t) {v w i N y : Nat} {na : Nat} {acc : List Nat} (hna : na = acc.length) (hacc : acc.length≤1000000) {X : A}
    (hq : clsI ks t = ks.length→∀ (st : List (Nat × A)) (H' : Hp),(∀ p,H' (0 :: p) = (kmF v ks).F 0 p)→H' [1] = ⟨y,.cells (tL t)⟩→H' [3] = ⟨w,.arr 1 (acc.map nv)⟩→Q (.exit 2) ⟨lk ([(0,.pob [0] 1 0),(5,.osl [3] w 1 0 na),(7,.pob [1] y 0),(10,X),(11,iv N),(12,iv i)] ++ st),H'⟩)
    (hq2 : clsI ks t < ks.length→∀ (H' : Hp),(∀ p,H' (0 :: p) = (kmF v ks).F 0 p)→H' [3] = ⟨w + 1,.arr 1 ((acc ++ [clsI ks t]).map nv)⟩→Q (.exit 1) ⟨lk [(0,.pob [0] 1 0),(5,.osl [3] (w + 1) 1 0 (na + 1)),(10,X),(11,iv N),(12,iv i)],H'⟩) :
    ∀ (m j : Nat) (H : Hp),j + m = ks.length→(∀ (x : Nat) (hx : x < j) (h : x < ks.length),ks[x] ≠ t)→(∀ p,H (0 :: p) = (kmF v ks).F 0 p)→H [1] = ⟨y,.cells (tL t)⟩→H [3] = ⟨w,.arr 1 (acc.map nv)⟩ →
    LoopC (cxh Tryz.prog w0 I0 M0 n0 m0) l1_diff_classes_of Q ⟨lk [(0,.pob [0] 1 0),(5,.osl [3] w 1 0 na),(7,.pob [1] y 0),(10,X),(11,iv N),(12,iv i),(19,.osl [0,0] v 3 0 ks.length),(20,iv ks.length),(21,iv j)],H⟩ := by
  subst hna
  intro m
  induction m with
  | zero =>
    intro j H hj hb hF h1 h3
    have : j = ks.length := by omega
    subst this
    refine loopC_once mixed l1_diff_classes_of.eq_1 ?_
    simp
    exact hq (clsI_none fun hm => by
      obtain ⟨x,hx,e⟩ := List.mem_iff_getElem.1 hm
      exact hb x hx hx e) [(19,.osl [0,0] v 3 0 ks.length),(20,iv ks.length),(21,iv ks.length),(22,bv false)] H hF h1 h3
  | succ m ih =>
    intro j H hj hb hF h1 h3
    have hlt : j < ks.length := by omega
    have ew : IntKind.i64.wrap ((j : Int) + 1) = ((j + 1 : Nat) : Int) := by rw [i64_same (by omega) (by omega)]; omega
    have hF1 := hF [0]
    simp at hF1
    have hk := List.getElem_mem hlt
    refine loopC_once mixed l1_diff_classes_of.eq_1 ?_
    simp [hlt,hF1,h1,updF_app]
    refine sc_call (eqG_spec (hw _ hk) wt) (by simp) ?_
    have hE : eqT ks[j] t = sameB ks[j] t := by unfold eqT; rw [hn _ hk,nt]
    rw [hE]
    by_cases he : ks[j] = t
    · have hc := clsI_first hlt he fun x hx => hb x hx (by omega)
      have hs : sameB ks[j] t = true := sameB_iff.2 he
      rw [hc] at hq2
      simp [hs,updF_app,h3]
      refine ⟨by omega,?_⟩
      simp [InBlock]
      exact hq2 hlt _ (fun p => by simp [updF_app,hF]) (by simp [updF_app,List.take_of_length_le])
    · have hs : sameB ks[j] t = false := by rw [Bool.eq_false_iff]; exact fun h => he (sameB_iff.1 h)
      simp [hs,ew]
      refine ih (j + 1) _ (by omega) (fun x hx h => ?_) (fun p => by simp [updF_app,hF]) (by simp [updF_app,h1]) (by simp [updF_app,h3])
      by_cases e : x = j
      · subst e; exact he
      · exact hb x (by omega) h
theorem of_l2 {ks0 ts : List T} (hw : ∀ k,k ∈ ks0→wfT k) (hn : ∀ k,k ∈ ks0→norm k = k) (ht : ∀ k,k ∈ ts→wfT k) (htn : ∀ k,k ∈ ts→norm k = k) (hl : ks0.length + ts.length≤1000000) {v0 : Nat}
    (hq : ∀ (st : List (Nat × A)) (H' : Hp),(∀ p,H' (0 :: p) = (kmF (ofVs v0 ks0 ts) (clsL ks0 ts).1).F 0 p)→H' [3] = ⟨ts.length + 1,.arr 1 ((clsL ks0 ts).2.map nv)⟩→Q (.exit 0) ⟨lk ([(0,.pob [0] 1 0),(5,.osl [3] (ts.length + 1) 1 0 ts.length)] ++ st),H'⟩) :
    ∀ (m i : Nat) (H : Hp),i + m = ts.length→(∀ p,H (0 :: p) = (kmF (ofVs v0 ks0 (ts.take i)) (clsL ks0 (ts.take i)).1).F 0 p)→H [3] = ⟨i + 1,.arr 1 ((clsL ks0 (ts.take i)).2.map nv)⟩ →
    LoopC (cxh Tryz.prog w0 I0 M0 n0 m0) l2_diff_classes_of Q ⟨lk [(0,.pob [0] 1 0),(5,.osl [3] (i + 1) 1 0 i),(10,tKs ts),(11,iv ts.length),(12,iv i)],H⟩ := by
  intro m
  induction m with
  | zero =>
    intro i H hi hF h3
    have : i = ts.length := by omega
    subst this
    rw [List.take_of_length_le (Nat.le_refl _)] at hF h3
    refine loopC_once mixed l2_diff_classes_of.eq_1 ?_
    simp
    exact hq [(10,tKs ts),(11,iv ts.length),(12,iv ts.length),(13,bv false)] H hF h3
  | succ m ih =>
    intro i H hi hF h3
    have hlt : i < ts.length := by omega
    have ew : IntKind.i64.wrap ((i : Int) + 1) = ((i + 1 : Nat) : Int) := by rw [i64_same (by omega) (by omega)]; omega
    have htk : ts.take (i + 1) = ts.take i ++ [ts[i]] := List.take_succ_eq_append_getElem hlt
    have hti := List.getElem_mem hlt
    have nt := htn _ hti
    have hlen := clsL_len (ts.take i) ks0
    rw [List.length_take,Nat.min_eq_left (by omega)] at hlen
    have hkw := clsL_wf hw (l := ts.take i) fun k hk => ht k (List.mem_of_mem_take hk)
    have hkn := clsL_nrm hn (l := ts.take i) 
    have hlL : (clsL ks0 (ts.take i)).2.length = i := by rw [clsL_length,List.length_take,Nat.min_eq_left (by omega)]
    have ihn := ih (i + 1)
    rw [htk,ofVs_append,clsL_append,nt] at ihn
    simp only at ihn
    have hF0 := hF []
    have hF1 := hF [0]
    simp at hF0 hF1
    generalize hv : ofVs v0 ks0 (ts.take i) = v at *
    generalize hL : (clsL ks0 (ts.take i)).2 = L at *
    generalize hK : (clsL ks0 (ts.take i)).1 = K at *
    refine loopC_once mixed l2_diff_classes_of.eq_1 ?_
    simp [hlt,hF0,updF_app]
    refine LoopC.le (le_list [(0,.pob [0] 1 0),(5,.osl [3] (i + 1) 1 0 i),(7,.pob [1] ((H [1]).u + 1) 0),(10,tKs ts),(11,iv ts.length),(12,iv i),(19,.osl [0,0] v 3 0 K.length),(20,iv K.length),(21,iv (0 : Nat))] (by simp)) ?_
    refine of_l1 hkw hkn (by omega) (ht _ hti) nt (v := v) (w := i + 1) (i := i) (N := ts.length) (acc := L) hlL.symm (by omega) (X := tKs ts) (y := (H [1]).u + 1) (fun hc st H' g0 g1 g3 => ?_) (fun hc H' g0 g3 => ?_) K.length 0 _ (by omega) (fun x hx => by omega) (fun p => by simp [hF,updF_app]) (by simp [updF_app]) (by simp [updF_app,h3])
    · have g00 := g0 []
      have g01 := g0 [0]
      simp at g00 g01
      rw [hc] at ihn
      have hcK : clsK K ts[i] = K ++ [ts[i]] := by unfold clsK; rw [if_neg (by omega)]
      have hcU : ofU v K ts[i] = v + 1 := by unfold ofU; rw [if_neg (by omega)]
      rw [hcK,hcU] at ihn
      simp [InBlock,g00,g01,g1,g3,hlL,updF_app]
      refine ⟨by omega,by omega,by omega,?_⟩
      rw [ew]
      refine ihn _ (by omega) (fun p => ?_) (by simp [updF_app,hlL,List.take_of_length_le])
      by_cases h1 : p = []
      · subst h1; simp [updF_app]
      · by_cases h2 : p = [0]
        · subst h2; simp [updF_app,List.take_of_length_le]
        · simp [h1,h2,updF_app,g0]
    · have hcK : clsK K ts[i] = K := by unfold clsK; rw [if_pos hc]
      have hcU : ofU v K ts[i] = v := by unfold ofU; rw [if_pos hc]
      rw [hcK,hcU] at ihn
      simp [InBlock,ew]
      exact ihn _ (by omega) g0 g3
end
theorem clsOf_spec {ks ts : List T} (hw : ∀ k,k ∈ ks→wfT k) (hn : ∀ k,k ∈ ks→norm k = k) (ht : ∀ k,k ∈ ts→wfT k) (htn : ∀ k,k ∈ ts→norm k = k) (hl : ks.length + ts.length≤1000000) (v : Nat) :
    SpecF Tryz.prog 69 (fun r => [.pob [r] 1 0,tKs ts]) (kmF v ks) (fun r => .sl false ((clsL ks ts).2.map nv)) (kmF (ofVs v ks ts) (clsL ks ts).1) := by
  refine specF_of' t_diff_classes_of (by simp) (famL_cons famA_pob (famL_cons famA_sl famL_nil)) famA_sl fun w0 I0 M0 m0 hM => ?_
  unfold c_diff_classes_of
  simp
  refine LoopC.le (le_blank 5 [3] 1 (by simp)) ?_
  refine LoopC.le (le_list [(0,.pob [0] 1 0),(5,.osl [3] (0 + 1) 1 0 0),(10,tKs ts),(11,iv ts.length),(12,iv (0 : Nat))] (by simp [upd])) ?_
  refine of_l2 hw hn ht htn hl (v0 := v) (fun st H' g0 g3 => ?_) ts.length 0 _ (by omega) (fun p => ?_) ?_
  · simp
    obtain ⟨H2,k1,k2⟩ := le_freezeR (c := cxh Tryz.prog w0 I0 M0 55 m0) (s := lk [(5,.osl [3] (ts.length + 1) 1 0 ts.length)]) (H := H') (fun r => 1≤r) (fun r p b hr => hM r p b hr) 5 (.sl false ((clsL ks ts).2.map nv)) (fun H1 e1 => by
      have e2 : H1 [3] = H' [3] := e1 3 [] (by omega)
      simp
      exact frz_row (o := [3]) (u := ts.length + 1) (n := ts.length) (sz := 1) (l := (clsL ks ts).2) (f := nv) (by rw [e2,g3]; simp) (clsL_length ts ks).symm (fun x => rfl))
    refine stop_le k1 (stop_go ?_)
    simp [upd]
    exact reth_fam rfl rfl fun p => (k2 0 p (by omega)).trans (g0 p)
  · simp [clsL,ofVs]
  · simp [clsL]
end Go.Proofs.YtmeldaflhkiopaaGreat
namespace Go.PL
set_option linter.unusedVariables false
set_option linter.unusedSimpArgs false
def cntW : List Int→List Int→Nat
  | a :: l,b :: m => (if a = b then 1 else 0) + cntW l m
  | _,_ => 0
noncomputable def cntK : List T→List T→Nat
  | a :: l,b :: m => (if eqT a b = true then 1 else 0) + cntK l m
  | _,_ => 0
noncomputable def scoreT (a b : T) : Nat := if a.kind ≠ b.kind∨a.kind = 0∨a.kind = 10 then 0 else 1 + cntW a.words b.words + cntK a.kids b.kids
theorem cntW_at {l m : List Int} {i : Nat} (h1 : i < l.length) (h2 : i < m.length) : cntW (l.drop i) (m.drop i) = (if l[i] = m[i] then 1 else 0) + cntW (l.drop (i + 1)) (m.drop (i + 1)) := by
  rw [(List.getElem_cons_drop h1).symm,(List.getElem_cons_drop h2).symm,cntW]
theorem cntK_at {l m : List T} {i : Nat} (h1 : i < l.length) (h2 : i < m.length) : cntK (l.drop i) (m.drop i) = (if eqT l[i] m[i] = true then 1 else 0) + cntK (l.drop (i + 1)) (m.drop (i + 1)) := by
  rw [(List.getElem_cons_drop h1).symm,(List.getElem_cons_drop h2).symm,cntK]
theorem cntW_end {l m : List Int} {i : Nat} (h : i = min l.length m.length) : cntW (l.drop i) (m.drop i) = 0 := by
  by_cases h1 : i = l.length
  · rw [List.drop_eq_nil_of_le (by omega : l.length≤i)]; cases m.drop i <;> rfl
  · rw [List.drop_eq_nil_of_le (by omega : m.length≤i)]; cases l.drop i <;> rfl
theorem cntK_end {l m : List T} {i : Nat} (h : i = min l.length m.length) : cntK (l.drop i) (m.drop i) = 0 := by
  by_cases h1 : i = l.length
  · rw [List.drop_eq_nil_of_le (by omega : l.length≤i)]; cases m.drop i <;> rfl
  · rw [List.drop_eq_nil_of_le (by omega : m.length≤i)]; cases l.drop i <;> rfl
theorem cntW_len : ∀ l m,cntW l m≤l.length
  | [],_ => by simp [cntW]
  | _ :: _,[] => by simp [cntW]
  | a :: l,b :: m => by
    have := cntW_len l m
    unfold cntW
    simp
    split <;> omega
end Go.PL
namespace Go.PL
set_option linter.unusedVariables false
set_option linter.unusedSimpArgs false
open List
theorem candS_mem : ∀ {rs : List (List Int)} {i : Nat} {x : Sc},x ∈ candS i rs→i≤x.i∧x.i < 16∧x.j < 16∧0 < x.n∧∃ r,rs[x.i - i]? = some r∧r[x.j]? = some x.n
  | [],i,x,h => by simp [candS] at h
  | r :: rs,i,x,h => by
    unfold candS at h
    rcases List.mem_append.1 h with h | h
    · obtain ⟨h1,h2,h3,h4,h5,h6,h7⟩ := candR_lt h
      exact ⟨by omega,by omega,h3,h7,r,by rw [h1]; simp,by simpa using h6⟩
    · obtain ⟨h1,h2,h3,h4,r',h5,h6⟩ := candS_mem h
      refine ⟨by omega,h2,h3,h4,r',?_,h6⟩
      rw [show x.i - i = (x.i - (i + 1)) + 1 by omega]
      simpa using h5
end Go.PL
namespace Go.Proofs.YtmeldaflhkiopaaGreat
set_option linter.unusedVariables false
set_option linter.unusedSimpArgs false
open Go Go.G Go.Proofs Go.PL
theorem picks_all26 (rs : List (List Int)) : ∃ o',Picks (candS 0 rs) [] o'∧o'.length≤16 := by
  obtain ⟨o',h⟩ := picks_any (all := candS 0 rs) (by have := candS_len (rs := rs) (i := 0); omega)
  obtain ⟨h1,h2⟩ := picks_facts h
  refine ⟨o',h,?_⟩
  have hs := srt_ok h1
  rw [← hs.2.length_eq]
  have := rises_len (srtI o') 0 16 hs.1 fun x hx => ⟨by omega,(candS_mem (h2 x (hs.2.subset hx))).2.1⟩
  omega
noncomputable def scR (a b : List T) : List (List Int) := a.map fun x => b.map fun y => (scoreT x y : Int)
noncomputable def pkO (rs : List (List Int)) : List Sc := (picks_all26 rs).choose
noncomputable def pkG (rs : List (List Int)) : List Sc := srtI (pkO rs)
theorem pkO_ok (rs : List (List Int)) : Picks (candS 0 rs) [] (pkO rs)∧(pkO rs).length≤16 := (picks_all26 rs).choose_spec
def gapO (one : T→T→E) (a b : List T) : List Sc→Nat→Nat→List OP→List OP
  | [],i,j,out => out ++ delO (a.drop i) ++ insO (b.drop j)
  | x :: xs,i,j,out => gapO one a b xs (x.i + 1) (x.j + 1) (out ++ delO ((a.take x.i).drop i) ++ insO ((b.take x.j).drop j) ++ [.mk 3 0 [] (one (a.getD x.i T0) (b.getD x.j T0))])
noncomputable def gapE (one : T→T→E) (a b : List T) : List OP := gapO one a b (pkG (scR a b)) 0 0 []
def opsG (gap : List T→List T→List OP) : List Sp→List T→List T→List OP→List OP
  | [],_,_,out => out
  | [s],a,b,out => if s.k = 0 then out ++ [.mk 0 s.n [] E0] else if s.k = 2 then out ++ insO (b.take s.n) else out ++ delO (a.take s.n)
  | s :: s2 :: ss,a,b,out =>
    if s.k = 0 then opsG gap (s2 :: ss) (a.drop s.n) (b.drop s.n) (out ++ [.mk 0 s.n [] E0])
    else if s.k = 2 then opsG gap (s2 :: ss) a (b.drop s.n) (out ++ insO (b.take s.n))
    else if s2.k = 2 then opsG gap ss (a.drop s.n) (b.drop s2.n) (out ++ gap (a.take s.n) (b.take s2.n))
    else opsG gap (s2 :: ss) (a.drop s.n) b (out ++ delO (a.take s.n))
abbrev zsN (l : List Nat) : List Int := l.map fun n : Nat => (n : Int)
noncomputable def caL (a : T) : List Int := zsN (clsL [] a.kids).2
noncomputable def cbL (a b : T) : List Int := zsN (clsL (clsL [] a.kids).1 b.kids).2
noncomputable def listE (one : T→T→E) (most : Int) (a b : T) : E :=
  .mk 3 T0 T0 [] [] a.kind (if (distL (caL a) (cbL a b) : Int)≤most then opsG (gapE one) (nrmS (wayU (caL a) (cbL a b))) a.kids b.kids [] else gapE one a.kids b.kids)
def wrdL (a b : T) (m : Nat) : List WE := (List.range m).filterMap fun i => if unlZ (a.words.getD i 0) (b.words.getD i 0) = 0 then none else some (wdE i (a.words.getD i 0) (b.words.getD i 0))
def kidL26 (one : T→T→E) (a b : T) (m : Nat) : List KE := (List.range m).filterMap fun i => if (one (a.kids.getD i T0) (b.kids.getD i T0)).kind = 0 then none else some (.mk i (one (a.kids.getD i T0) (b.kids.getD i T0)))
def strE (one : T→T→E) (a b : T) : E := .mk 2 T0 T0 (wrdL a b (max a.words.length b.words.length)) (kidL26 one a b (max a.kids.length b.kids.length)) 0 []
noncomputable def oneE (most : Int) : Nat→T→T→E
  | 0,a,b => if eqT a b = true then E0 else .mk 1 a b [] [] 0 []
  | f + 1,a,b => if eqT a b = true then E0 else if a.kind = 1∧b.kind = 1 then strE (oneE most f) a b else if a.kind = b.kind∧2≤a.kind∧a.kind≤9 then listE (oneE most f) most a b else .mk 1 a b [] [] 0 []
def dA (us : List Nat) : Nat := us.countP fun x => x != 2
def dB (us : List Nat) : Nat := us.countP fun x => x != 1
theorem dA_rep (n k : Nat) : dA (List.replicate n k) = if k = 2 then 0 else n := by unfold dA; rw [List.countP_replicate]; by_cases h : k = 2 <;> simp [h]
theorem dB_rep (n k : Nat) : dB (List.replicate n k) = if k = 1 then 0 else n := by unfold dB; rw [List.countP_replicate]; by_cases h : k = 1 <;> simp [h]
theorem dA_app (a b : List Nat) : dA (a ++ b) = dA a + dA b := List.countP_append
theorem dB_app (a b : List Nat) : dB (a ++ b) = dB a + dB b := List.countP_append
theorem goU_dA : ∀ (us : List Nat) (k d i : Nat),(∀ x,x ∈ us→x≤2)→dA (unitsS (goU us k d i)) = k + d + dA us∧dB (unitsS (goU us k d i)) = k + i + dB us
  | [],k,d,i,_ => by
    simp only [goU,units_app,units_fl,dA_app,dB_app,dA_rep,dB_rep]
    simp [dA,dB]
  | x :: us,k,d,i,h => by
    have hx := h x (by simp)
    have hu : ∀ y,y ∈ us→y≤2 := fun y hy => h y (by simp [hy])
    have e1 : dA (x :: us) = (if x = 2 then 0 else 1) + dA us := by
      have := dA_app [x] us
      rw [show [x] = List.replicate 1 x from rfl,dA_rep] at this
      simpa using this
    have e2 : dB (x :: us) = (if x = 1 then 0 else 1) + dB us := by
      have := dB_app [x] us
      rw [show [x] = List.replicate 1 x from rfl,dB_rep] at this
      simpa using this
    rw [e1,e2,goU]
    have hx3 : x = 0∨x = 1∨x = 2 := by omega
    rcases hx3 with rfl | rfl | rfl
    · obtain ⟨h1,h2⟩ := goU_dA us (k + 1) 0 0 hu
      simp only [if_true,units_app,units_fl,dA_app,dB_app,dA_rep,dB_rep,h1,h2]
      simp
      omega
    · obtain ⟨h1,h2⟩ := goU_dA us 0 (d + 1) i hu
      simp [dA_app,dB_app,dA_rep,dB_rep,h1,h2]
      omega
    · obtain ⟨h1,h2⟩ := goU_dA us 0 d (i + 1) hu
      simp [dA_app,dB_app,dA_rep,dB_rep,h1,h2]
      omega
theorem nrmS_d (us : List Nat) (h : ∀ x,x ∈ us→x≤2) : dA (unitsS (nrmS us)) = dA us∧dB (unitsS (nrmS us)) = dB us := by
  have := goU_dA us 0 0 0 h
  unfold nrmS
  omega
theorem goU_ok : ∀ (us : List Nat) (k d i : Nat),(∀ x,x ∈ us→x≤2)→∀ s,s ∈ goU us k d i→s.k≤2∧1≤s.n
  | [],k,d,i,_,s,hs => by
    simp only [goU,List.mem_append] at hs
    rcases hs with hs | hs | hs <;> (unfold fl at hs; split at hs <;> simp at hs; subst hs; simp; omega)
  | x :: us,k,d,i,h,s,hs => by
    have hu : ∀ y,y ∈ us→y≤2 := fun y hy => h y (by simp [hy])
    rw [goU] at hs
    have fin : ∀ q n,q≤2→s ∈ fl q n→s.k≤2∧1≤s.n := fun q n hq hs => by
      unfold fl at hs; split at hs <;> simp at hs; subst hs; simp; omega
    split at hs
    · simp only [List.mem_append] at hs
      rcases hs with hs | hs | hs
      · exact fin 1 _ (by omega) hs
      · exact fin 2 _ (by omega) hs
      · exact goU_ok us _ _ _ hu s hs
    · rw [List.mem_append] at hs
      rcases hs with hs | hs
      · exact fin 0 _ (by omega) hs
      · split at hs
        · exact goU_ok us _ _ _ hu s hs
        · exact goU_ok us _ _ _ hu s hs
theorem stpU_in (p q : Nat) : ∀ x,x ∈ stpU p q→x≤2 := by
  intro x hx
  unfold stpU at hx
  split at hx
  · rcases List.mem_append.1 hx with h | h
    · have := List.eq_of_mem_replicate h; omega
    · simp at h; omega
  · simp at hx; omega
theorem stpU_d {p q : Nat} (h : p≤q) : dA (stpU p q) = 1∧dB (stpU p q) = q - p := by
  unfold stpU
  split
  · rw [dA_app,dB_app,dA_rep,dB_rep]
    simp [dA,dB]
    omega
  · simp [dA,dB]
    omega
theorem wayU_in (a b : List Int) : ∀ x,x ∈ wayU a b→x≤2 := by
  intro x hx
  unfold wayU at hx
  rcases List.mem_append.1 hx with h | h
  · obtain ⟨i,_,hi⟩ := List.mem_flatMap.1 h
    exact stpU_in _ _ x hi
  · have := List.eq_of_mem_replicate h; omega
theorem wayU_dp (a b : List Int) : ∀ n,n≤a.length→dA ((List.range n).flatMap (fun i => stpU (wayN a b i) (wayN a b (i + 1)))) = n∧dB ((List.range n).flatMap (fun i => stpU (wayN a b i) (wayN a b (i + 1)))) = wayN a b n
  | 0,_ => by simp [dA,dB,way_zero]
  | n + 1,h => by
    obtain ⟨h1,h2⟩ := wayU_dp a b n (by omega)
    have hm := way_mono (a := a) (b := b) (i := n) (h := n + 1) (by omega) h
    obtain ⟨g1,g2⟩ := stpU_d hm
    rw [List.range_succ,List.flatMap_append,dA_app,dB_app,h1,h2]
    simp [g1,g2]
    omega
theorem wayU_d (a b : List Int) : dA (wayU a b) = a.length∧dB (wayU a b) = b.length := by
  obtain ⟨h1,h2⟩ := wayU_dp a b a.length (Nat.le_refl _)
  have hl := (way_on (a := a) (b := b) (i := a.length) (Nat.le_refl _)).2.1
  unfold wayU
  rw [dA_app,dB_app,h1,h2,dA_rep,dB_rep]
  simp
  omega
abbrev prs (l : List Sc) : A := .sl false (l.map prA)
section
variable {n0 : Nat} {w0 : World} {I0 : Nat→Prop} {Q : Exit→Sta→Prop}
end
section
variable {n0 : Nat} {w0 : World} {I0 : Nat→Prop} {Q : Exit→Sta→Prop}
theorem psc_l1 {a b : T} {H : Hp} (ha : wfT a) (hb : wfT b) (h0 : H [0] = ⟨1,.cells (tL a)⟩) (h1 : H [1] = ⟨1,.cells (tL b)⟩) : ∀ (m i n : Nat),i + m = min a.words.length b.words.length→n≤1 + i →
    (∀ st,Q (.exit 0) ⟨lk ([(2,.pob [0] 1 0),(3,.pob [1] 1 0),(5,nv (n + cntW (a.words.drop i) (b.words.drop i)))] ++ st),H⟩) →
    LoopC (cx Tryz.prog w0 I0 n0) l1_pair_Score Q ⟨lk [(2,.pob [0] 1 0),(3,.pob [1] 1 0),(5,nv n),(29,iv (min a.words.length b.words.length : Nat)),(30,iv i)],H⟩ := by
  have hal := (wfT_iff.1 ha).wl
  intro m
  induction m with
  | zero =>
    intro i n hm hn hq
    refine loopC_once mixed l1_pair_Score.eq_1 ?_
    rw [cntW_end (by omega)] at hq
    generalize min a.words.length b.words.length = N at *
    simp [show ¬ i < N by omega]
    exact hq [(29,iv N),(30,iv i),(31,bv false)]
  | succ m ih =>
    intro i n hm hn hq
    have hi : i < a.words.length := by omega
    have hj : i < b.words.length := by omega
    have e1 : IntKind.i64.wrap ((i : Int) + 1) = ((i + 1 : Nat) : Int) := by rw [i64_same (by omega) (by omega)]; omega
    have e2 : IntKind.i64.wrap ((n : Int) + 1) = ((n + 1 : Nat) : Int) := by rw [i64_same (by omega) (by omega)]; omega
    rw [cntW_at hi hj] at hq
    generalize min a.words.length b.words.length = N at *
    have hN : i < N := by omega
    refine loopC_once mixed l1_pair_Score.eq_1 ?_
    by_cases h : a.words[i] = b.words[i]
    · simp [h0,h1,hi,hj,hN,h,e1,e2]
      refine ih (i + 1) (n + 1) (by omega) (by omega) fun st => ?_
      have := hq st
      rw [if_pos h] at this
      rw [show n + 1 + cntW (a.words.drop (i + 1)) (b.words.drop (i + 1)) = n + (1 + cntW (a.words.drop (i + 1)) (b.words.drop (i + 1))) by omega]
      exact this
    · simp [h0,h1,hi,hj,hN,h,e1]
      refine ih (i + 1) n (by omega) (by omega) fun st => ?_
      have := hq st
      rw [if_neg h,Nat.zero_add] at this
      exact this
theorem psc_l2 {a b : T} {H : Hp} (ha : wfT a) (hb : wfT b) (h0 : H [0] = ⟨1,.cells (tL a)⟩) (h1 : H [1] = ⟨1,.cells (tL b)⟩) : ∀ (m i n : Nat),i + m = min a.kids.length b.kids.length→n≤100000000000000 + i →
    (∀ st,Q (.exit 2) ⟨lk ([(2,.pob [0] 1 0),(3,.pob [1] 1 0),(5,nv (n + cntK (a.kids.drop i) (b.kids.drop i)))] ++ st),H⟩) →
    LoopC (cx Tryz.prog w0 I0 n0) l2_pair_Score Q ⟨lk [(2,.pob [0] 1 0),(3,.pob [1] 1 0),(5,nv n),(53,iv (min a.kids.length b.kids.length : Nat)),(54,iv i)],H⟩ := by
  have hal := (wfT_iff.1 ha).kl
  intro m
  induction m with
  | zero =>
    intro i n hm hn hq
    refine loopC_once mixed l2_pair_Score.eq_1 ?_
    rw [cntK_end (by omega)] at hq
    generalize min a.kids.length b.kids.length = N at *
    simp [show ¬ i < N by omega]
    exact hq [(53,iv N),(54,iv i),(55,bv false)]
  | succ m ih =>
    intro i n hm hn hq
    have hi : i < a.kids.length := by omega
    have hj : i < b.kids.length := by omega
    have e1 : IntKind.i64.wrap ((i : Int) + 1) = ((i + 1 : Nat) : Int) := by rw [i64_same (by omega) (by omega)]; omega
    have e2 : IntKind.i64.wrap ((n : Int) + 1) = ((n + 1 : Nat) : Int) := by rw [i64_same (by omega) (by omega)]; omega
    have hE := eqG_spec ((wfT_iff.1 ha).ks _ (List.getElem_mem hi)) ((wfT_iff.1 hb).ks _ (List.getElem_mem hj))
    rw [cntK_at hi hj] at hq
    generalize min a.kids.length b.kids.length = N at *
    have hN : i < N := by omega
    refine loopC_once mixed l2_pair_Score.eq_1 ?_
    simp [h0,h1,hi,hj,hN]
    refine sc_call hE (by simp) ?_
    cases h : eqT a.kids[i] b.kids[i] with
    | true =>
      simp [e1,e2]
      refine ih (i + 1) (n + 1) (by omega) (by omega) fun st => ?_
      have := hq st
      rw [if_pos h] at this
      rw [show n + 1 + cntK (a.kids.drop (i + 1)) (b.kids.drop (i + 1)) = n + (1 + cntK (a.kids.drop (i + 1)) (b.kids.drop (i + 1))) by omega]
      exact this
    | false =>
      simp [e1]
      refine ih (i + 1) n (by omega) (by omega) fun st => ?_
      have := hq st
      rw [if_neg (by rw [h]; decide),Nat.zero_add] at this
      exact this
end
theorem pScore_spec {a b : T} (ha : wfT a) (hb : wfT b) : G.Spec Tryz.prog 109 [tX a,tX b] (nv (scoreT a b)) := by
  have hal := (wfT_iff.1 ha).wl
  refine spec_of t_pair_Score (by simp) fun w0 I0 => ?_
  unfold c_pair_Score
  by_cases hk : a.kind = b.kind
  · by_cases h0 : b.kind = 0
    · simp [hk,h0]
      exact frz_int (by simp [scoreT,hk,h0])
    · by_cases h10 : b.kind = 10
      · simp [hk,h0,h10]
        exact frz_int (by simp [scoreT,hk,h10])
      · simp [hk,h0,h10]
        refine LoopC.le (le_list [(2,.pob [0] 1 0),(3,.pob [1] 1 0),(5,nv 1),(29,iv (min a.words.length b.words.length : Nat)),(30,iv (0 : Nat))] (by simp; omega)) ?_
        refine psc_l1 ha hb (by simp [updF_app,hk]) (by simp [updF_app]) _ 0 1 (Nat.zero_add _) (by omega) fun st => ?_
        simp
        refine LoopC.le (le_list [(2,.pob [0] 1 0),(3,.pob [1] 1 0),(5,nv (1 + cntW a.words b.words)),(53,iv (min a.kids.length b.kids.length : Nat)),(54,iv (0 : Nat))] (by simp; omega)) ?_
        have := cntW_len a.words b.words
        refine psc_l2 ha hb (by simp [updF_app,hk]) (by simp [updF_app]) _ 0 _ (Nat.zero_add _) (by omega) fun st => ?_
        simp
        refine frz_int ?_
        simp [scoreT,hk,h0,h10]
  · simp [hk]
    exact frz_int (by simp [scoreT,hk])
section
variable {n0 : Nat} {w0 : World} {I0 : Nat→Prop} {Q : Exit→Sta→Prop}
end
section
variable {n0 : Nat} {w0 : World} {I0 : Nat→Prop} {Q : Exit→Sta→Prop}
theorem tnorm_l1 {t : T} (hl : t.kids.length * 56≤140737488355328) (ih : ∀ c,c ∈ t.kids→G.Spec Tryz.prog 27 [tX c] (tX (norm c))) {v v0 : VOb} {k w : A} : ∀ (m i : Nat) (u : Nat) (H : Hp),i + m = t.kids.length→H [0] = v0→H [1] = v→H [2] = ⟨1,.cells [k,w,.osl [4] u 3 0 i]⟩→H [4] = ⟨u,.arr 3 ((t.kids.take i).map (tA ∘ norm))⟩ →
    (∀ i' q (u' : Nat) (H' : Hp),H' [0] = v0→H' [1] = v→H' [2] = ⟨1,.cells [k,w,.osl [4] u' 3 0 t.kids.length]⟩→H' [4] = ⟨u',.arr 3 (t.kids.map (tA ∘ norm))⟩→Q (.exit 0) ⟨lk [(1,.pob [0] 1 0),(2,.pob [1] 1 0),(3,.pob [2] 1 0),(17,tKs t.kids),(18,iv t.kids.length),(19,iv i'),(20,bv q)],H'⟩) →
    LoopC (cx Tryz.prog w0 I0 n0) l1_tree_Norm Q ⟨lk [(1,.pob [0] 1 0),(2,.pob [1] 1 0),(3,.pob [2] 1 0),(17,tKs t.kids),(18,iv t.kids.length),(19,iv i)],H⟩ := by
  intro m
  induction m with
  | zero =>
    intro i u H hi hA hR hO hB hq
    have : i = t.kids.length := by omega
    subst this
    refine loopC_once mixed l1_tree_Norm.eq_1 ?_
    simp
    exact hq _ _ u H hA hR hO (by rw [hB]; simp)
  | succ m ihm =>
    intro i u H hi hA hR hO hB hq
    have hlt : i < t.kids.length := by omega
    have ei : IntKind.i64.wrap ((i : Int) + 1) = ((i + 1 : Nat) : Int) := i64_same (by omega) (by omega)
    refine loopC_once mixed l1_tree_Norm.eq_1 ?_
    simp [hlt,updF_app,hO]
    refine sc_call (ih _ (List.getElem_mem hlt)) rfl ?_
    simp [updF_app,hO,hB]
    have hrow := row_succ (f := tA ∘ norm) hlt (x := tX (norm t.kids[i])) (by simp)
    rw [hrow,ei]
    refine ⟨⟨by omega,by omega⟩,?_⟩
    exact ihm (i + 1) (u + 1) _ (by omega) (by simp [updF_app,hA]) (by simp [updF_app,hR]) (by simp [updF_app]) (by simp [updF_app]) hq
theorem tnorm_l2 {w : List Int} (hl : w.length * 8≤140737488355328) {v v4 : VOb} {K : A} : ∀ (n : Nat) (H : Hp),n≤w.length→trimW (w.take n) = trimW w→H [1] = v→H [2] = ⟨1,.cells [iv 1,uws (w.take n),K]⟩→H [4] = v4 →
    (∀ q (H' : Hp),H' [1] = v→H' [2] = ⟨1,.cells [iv 1,uws (trimW w),K]⟩→H' [4] = v4→Q (.exit 2) ⟨lk [(2,.pob [1] 1 0),(3,.pob [2] 1 0),(48,bv q)],H'⟩) →
    LoopC (cx Tryz.prog w0 I0 n0) l2_tree_Norm Q ⟨lk [(2,.pob [1] 1 0),(3,.pob [2] 1 0)],H⟩ := by
  intro n
  induction n with
  | zero =>
    intro H hn ht hR hO hB hq
    refine loopC_once mixed l2_tree_Norm.eq_1 ?_
    simp [hO]
    refine hq _ H hR ?_ hB
    rw [← ht]
    simpa using hO
  | succ n ihn =>
    intro H hn ht hR hO hB hq
    have hlt : n < w.length := by omega
    have en : IntKind.i64.wrap (n : Int) = n := i64_same (by omega) (by omega)
    have emin : min (n + 1) w.length = n + 1 := by omega
    refine loopC_once mixed l2_tree_Norm.eq_1 ?_
    by_cases h0 : w[n] = 0
    · have hnn : (n : Int) < n + 1 := by omega
      have hnn' : (n : Int)≤n + 1 := by omega
      have hs : List.take n (List.take (n + 1) (List.map uv w)) = (w.take n).map uv := by rw [List.take_take,Nat.min_eq_left (by omega),List.map_take]
      simp [hO,emin,en,hlt,h0,hnn,hnn',hs]
      exact ihn _ (by omega) (by rw [← trimW_zero hlt h0]; exact ht) (by simp [updF_app,hR]) (by simp [updF_app]) (by simp [updF_app,hB]) hq
    · have hnn : (n : Int) < n + 1 := by omega
      simp [hO,emin,en,hlt,h0,hnn]
      refine hq _ H hR ?_ hB
      rw [hO,← ht,trimW_stop hlt h0]
theorem tnorm_l3 {l : List T} (hl : l.length * 56≤140737488355328) {v : VOb} {W : A} {u : Nat} : ∀ (n : Nat) (H : Hp),n≤l.length→trimK (l.take n) = trimK l→H [1] = v→H [2] = ⟨1,.cells [iv 1,W,.osl [4] u 3 0 n]⟩→H [4] = ⟨u,.arr 3 (l.map (tA ∘ norm))⟩ →
    (∀ q (H' : Hp),H' [1] = v→H' [2] = ⟨1,.cells [iv 1,W,.osl [4] u 3 0 (trimK l).length]⟩→H' [4] = ⟨u,.arr 3 (l.map (tA ∘ norm))⟩→Q (.exit 4) ⟨lk [(2,.pob [1] 1 0),(3,.pob [2] 1 0),(72,bv q)],H'⟩) →
    LoopC (cx Tryz.prog w0 I0 n0) l3_tree_Norm Q ⟨lk [(2,.pob [1] 1 0),(3,.pob [2] 1 0)],H⟩ := by
  intro n
  induction n with
  | zero =>
    intro H hn ht hR hO hB hq
    refine loopC_once mixed l3_tree_Norm.eq_1 ?_
    simp [hO]
    refine hq _ H hR ?_ hB
    rw [← ht]
    simpa using hO
  | succ n ihn =>
    intro H hn ht hR hO hB hq
    have hlt : n < l.length := by omega
    have en : IntKind.i64.wrap (n : Int) = n := i64_same (by omega) (by omega)
    have hnn : (n : Int) < n + 1 := by omega
    have hnn' : (n : Int)≤n + 1 := by omega
    refine loopC_once mixed l3_tree_Norm.eq_1 ?_
    by_cases h0 : l[n].kind = 0
    · simp [hO,hB,en,hlt,h0,hnn,hnn']
      exact ihn _ (by omega) (by rw [← trimK_zero hlt h0]; exact ht) (by simp [updF_app,hR]) (by simp [updF_app]) (by simp [updF_app,hB]) hq
    · simp [hO,hB,en,hlt,h0,hnn]
      refine hq _ H hR ?_ hB
      rw [hO,← ht,trimK_stop hlt h0]
      simp; omega
end
theorem tNorm_spec : ∀ (t : T),wfT t→G.Spec Tryz.prog 27 [tX t] (tX (norm t)) := by
  refine T.ind fun k w l ih hw => ?_
  have hw' := wfT_iff.1 hw
  have hwl := hw'.wl
  have hkl := hw'.kl
  simp at hwl hkl
  refine spec_of t_tree_Norm (by simp) fun w0 I0 => ?_
  unfold c_tree_Norm
  rw [norm_mk]
  by_cases h0 : k = 0
  · simp [h0]
    exact frz_T0
  · simp [h0]
    refine sc_call (clone_spec false w hwl).spec rfl ?_
    simp
    refine LoopC.le (le_blankC (d := [2]) 2 [4] 3 rfl rfl (by simp)) ?_
    simp
    refine tnorm_l1 (t := .mk k w l) (k := iv k) (w := uws w) (by simpa using hkl) (fun c hc => ih c hc (hw'.ks c hc)) l.length 0 1 _ (by simp) rfl rfl (by simp) (by simp) fun i' q u' H' hA hR hO hB => ?_
    by_cases h1 : k = 1
    · subst h1
      simp at hA hR hO hB
      simp [hA,hR,hO,hB]
      refine LoopC.le (le_list [(2,.pob [1] 1 0),(3,.pob [2] 1 0)] (by simp)) ?_
      refine tnorm_l2 hwl w.length _ (Nat.le_refl _) (by rw [List.take_of_length_le (Nat.le_refl _)]) hR (by rw [hO,List.take_of_length_le (Nat.le_refl _)]) hB fun q H2 hR2 hO2 hB2 => ?_
      simp
      refine tnorm_l3 hkl l.length _ (Nat.le_refl _) (by rw [List.take_of_length_le (Nat.le_refl _)]) hR2 hO2 hB2 fun q H3 hR3 hO3 hB3 => ?_
      simp [hO3,hR3,updF_app]
      refine frz_agg ?_
      simp
      rw [trimK_map]
      refine ⟨frz_bare rfl,frz_bare rfl,?_⟩
      have := frz_rowT (H := updF H3 [1] ⟨1,.cells [iv 1,uws (trimW w),A.osl [4] u' 3 0 (trimK l).length]⟩) (o := [4]) (u := u') (sz := 3) (l := l) (f := tA ∘ norm) (by simp [updF_app,hB3]) (trimK_le l) (by simp)
      rw [← List.map_take]
      show Frz _ _ (A.sl false (((l.take (trimK l).length).map norm).map tA))
      rw [List.map_map]
      exact this
    · simp at hA hR hO hB
      simp [hA,hR,hO,hB,h1,updF_app]
      refine frz_agg ?_
      simp
      refine ⟨frz_bare rfl,frz_bare rfl,?_⟩
      have := frz_row (H := updF H' [1] ⟨1,.cells [iv k,uws w,A.osl [4] u' 3 0 l.length]⟩) (o := [4]) (u := u') (sz := 3) (l := l) (f := tA ∘ norm) (by simp [updF_app,hB]) rfl (by simp)
      show Frz _ _ (A.sl false ((l.map norm).map tA))
      rw [List.map_map]
      exact this
section
variable {n0 : Nat} {w0 : World} {I0 : Nat→Prop} {Q : Exit→Sta→Prop}
end
theorem bytesN_get : ∀ (m : Nat) (x : Int) (i : Nat),i < m→(bytesN m x).getD i 0 = x / 256 ^ i % 256
  | m + 1,x,0,_ => by simp [bytesN]
  | m + 1,x,i + 1,h => by
    have := bytesN_get m (x / 256) i (by omega)
    simp only [bytesN,List.getD_cons_succ,this]
    rw [Int.ediv_ediv_of_nonneg (by decide),← Int.pow_succ']
theorem ofZ_zero : ∀ (l : List Int),(∀ b,b ∈ l→0≤b∧b < 256)→(ofZ l = 0 ↔ ∀ b,b ∈ l→b = 0)
  | [],_ => by simp [ofZ]
  | b :: l,h => by
    have h1 := h b (by simp)
    have h2 := ofZ_range l fun x hx => h x (by simp [hx])
    have ih := ofZ_zero l fun x hx => h x (by simp [hx])
    simp only [ofZ,List.mem_cons,forall_eq_or_imp,← ih]
    omega
theorem mix_zero (w mask : Int) : decide (mixZ w 0 mask = 0) = withinZ w mask := by
  rw [Bool.eq_iff_iff]
  unfold mixZ
  rw [decide_eq_true_eq,ofZ_zero _ mixL_range]
  have e : mixL (bytesZ w) (bytesZ 0) mask 8 = (List.range 8).map fun i => if namedZ mask i = true then (bytesZ 0).getD i 0 else (bytesZ w).getD i 0 := by
    unfold mixL
    rw [List.drop_of_length_le (by rw [bytesZ_length]; omega),List.append_nil]
  rw [e]
  simp only [withinZ,List.all_eq_true,List.mem_map,List.mem_range,Bool.or_eq_true,decide_eq_true_eq]
  have hz : ∀ i,i < 8→(bytesZ 0).getD i 0 = 0 := fun i hi => by
    unfold bytesZ
    rw [bytesN_get 8 0 i hi]; simp
  constructor
  · intro h i hi
    by_cases hn : namedZ mask i = true
    · left; simpa [namedZ] using hn
    · right
      have := h _ ⟨i,hi,rfl⟩
      rw [if_neg hn] at this
      unfold bytesZ at this
      rwa [bytesN_get 8 w i hi] at this
  · rintro h b ⟨i,hi,rfl⟩
    by_cases hn : namedZ mask i = true
    · rw [if_pos hn]; exact hz i hi
    · rw [if_neg hn]
      rcases h i hi with h | h
      · exact absurd (by simpa [namedZ] using h) hn
      · unfold bytesZ
        rw [bytesN_get 8 w i hi]; exact h
theorem sat_range {n : Int} (h : 0≤n) : 0≤sat n∧sat n≤1048576 := by unfold sat; split <;> omega
section
variable {n0 : Nat} {w0 : World} {I0 : Nat→Prop} {Q : Exit→Sta→Prop}
end
section
variable {n0 : Nat} {w0 : World} {I0 : Nat→Prop} {Q : Exit→Sta→Prop}
end
end Go.Proofs.YtmeldaflhkiopaaGreat
namespace Go.PL
set_option linter.unusedVariables false
set_option linter.unusedSimpArgs false
def masks (ws : List WE) : Prop := ∀ w,w ∈ ws→0≤w.mask∧w.mask < 256
end Go.PL
namespace Go.Proofs.YtmeldaflhkiopaaGreat
set_option linter.unusedVariables false
set_option linter.unusedSimpArgs false
open Go Go.G Go.Proofs Go.PL
section
variable {n0 : Nat} {w0 : World} {I0 : Nat→Prop} {Q : Exit→Sta→Prop}
end
section
variable {n0 : Nat} {w0 : World} {I0 : Nat→Prop} {Q : Exit→Sta→Prop}
end
theorem op_n {d : Nat} {list : Int} {o : OP} (h : rightO d list o = true) : 0≤o.n∧o.n≤1048576 := by
  rw [rightO_eq,Bool.and_eq_true] at h
  have h1 := h.1
  unfold opFlat at h1
  split at h1
  · simp at h1; omega
  · split at h1
    · cases h1
    · omega
theorem pNone_spec {t : T} (h : wfT t) : G.Spec Tryz.prog 82 [tX t] (bv (noneT t)) := by
  have hw := (wfT_iff.1 h).wl
  have hk := (wfT_iff.1 h).kl
  refine spec_of t_edit_bare_1 (by simp) fun w0 I0 => ?_
  unfold c_edit_bare_1
  simp
  have e : IntKind.i64.wrap ((t.words.length : Int) + t.kids.length) = (t.words.length : Int) + t.kids.length := i64_same (by omega) (by omega)
  simp [e]
  refine frz_bool ?_
  rw [Bool.eq_iff_iff]
  simp [noneT,List.isEmpty_iff,← List.length_eq_zero_iff]
  omega
def bareB (k : Int) (o n : T) (nw nk : Nat) (l : Int) (no : Nat) : Bool := !(!decide (k = 1) && !(noneT o && noneT n)) && !(!decide (k = 2) && decide (0 < nw + nk)) && (decide (k = 3) || decide (l = 0) && decide (no = 0))
def bareE (e : E) : Bool := bareB e.kind e.old e.new e.words.length e.kids.length e.list e.ops.length
theorem headOk_bare {d : Nat} {k : Int} {o n : T} {nw nk : Nat} {l : Int} {no : Nat} : headOk d k o n nw nk l no = (!(decide (d = 0) || decide (k < 0) || decide (k > 3)) && bareB k o n nw nk l no) := by
  rw [Bool.eq_iff_iff,headOk_iff]
  unfold bareB
  simp only [Bool.and_eq_true,Bool.not_eq_true',Bool.or_eq_false_iff,Bool.or_eq_true,Bool.and_eq_false_iff,decide_eq_false_iff_not,Bool.not_eq_false',decide_eq_true_eq]
  constructor
  · rintro ⟨h1,h2,h3,h4,h5,h6⟩
    refine ⟨⟨⟨h1,by omega⟩,by omega⟩,⟨?_,?_⟩,?_⟩
    · by_cases hk : k = 1
      · exact .inl hk
      · exact .inr (h4 hk)
    · by_cases hk : k = 2
      · exact .inl hk
      · exact .inr (by have := h5 hk; omega)
    · by_cases hk : k = 3
      · exact .inl hk
      · exact .inr (h6 hk)
  · rintro ⟨⟨⟨h1,h2⟩,h3⟩,⟨h4,h5⟩,h6⟩
    refine ⟨h1,by omega,by omega,fun hk => ?_,fun hk => ?_,fun hk => ?_⟩
    · rcases h4 with h4 | h4
      · exact absurd h4 hk
      · exact h4
    · rcases h5 with h5 | h5
      · exact absurd h5 hk
      · omega
    · rcases h6 with h6 | h6
      · exact absurd h6 hk
      · exact h6
set_option maxRecDepth 8000 in
theorem pBare_spec {e : E} (h : WfE e) : G.Spec Tryz.prog 56 [eX e] (bv (bareE e)) := by
  have hwl := h.wl
  have hkl := h.kl
  have hol := h.ol
  have e1 : IntKind.i64.wrap ((e.words.length : Int) + e.kids.length) = (e.words.length : Int) + e.kids.length := i64_same (by omega) (by omega)
  obtain ⟨R,hR⟩ : ∃ R,R = bareE e := ⟨_,rfl⟩
  rw [← hR]
  have c2 : (decide (0 < (e.words.length : Int) + e.kids.length)) = decide (0 < e.words.length + e.kids.length) := by rw [Bool.eq_iff_iff]; simp; omega
  refine spec_of t_edit_bare (by simp) fun w0 I0 => ?_
  unfold c_edit_bare
  unfold bareE at hR
  have cl : decide (e.ops.length = 0) = decide (e.ops = []) := by rw [Bool.eq_iff_iff]; simp
  by_cases k1 : e.kind = 1
  · have k2 : ¬ e.kind = 2 := by omega
    have k3 : ¬ e.kind = 3 := by omega
    have hR' : R = (!decide (0 < e.words.length + e.kids.length) && (decide (e.list = 0) && decide (e.ops = []))) := by
      rw [hR,← cl]; simp [bareB,k1]
    simp [k1]
    rw [sc_guard]; simp
    rw [sc_guard]; simp
    simp [e1,k2,k3]
    refine ⟨fun hc => ?_,fun hc => ?_⟩
    · have a1 : 0 < e.words.length + e.kids.length := by omega
      exact frz_bool (by rw [hR']; simp [a1])
    · have a1 : ¬ 0 < e.words.length + e.kids.length := by omega
      exact frz_bool (by rw [hR']; simp [a1])
  · simp [k1]
    rw [sc_guard]; simp
    refine sc_callv rfl (pNone_spec h.o) rfl ?_
    cases n1 : noneT e.old with
    | false =>
      simp
      rw [sc_guard]; simp
      exact frz_bool (by rw [hR]; simp [bareB,k1,n1])
    | true =>
      simp
      rw [sc_guard]; simp
      refine sc_callv rfl (pNone_spec h.n) rfl ?_
      cases n2 : noneT e.new with
      | false =>
        simp
        exact frz_bool (by rw [hR]; simp [bareB,k1,n1,n2])
      | true =>
        simp
        have hR' : R = (!(!decide (e.kind = 2) && decide (0 < e.words.length + e.kids.length)) && (decide (e.kind = 3) || decide (e.list = 0) && decide (e.ops = []))) := by
          rw [hR,← cl]; simp [bareB,k1,n1,n2]
        by_cases k2 : e.kind = 2
        · have k3 : ¬ e.kind = 3 := by omega
          simp [e1,k2]
          exact frz_bool (by rw [hR']; simp [k2])
        · by_cases k3 : e.kind = 3
          · simp [e1,k3]
            refine ⟨fun hc => ?_,fun hc => ?_⟩
            · have a1 : 0 < e.words.length + e.kids.length := by omega
              exact frz_bool (by rw [hR']; simp [a1,k2])
            · have a1 : ¬ 0 < e.words.length + e.kids.length := by omega
              exact frz_bool (by rw [hR']; simp [a1,k3])
          · simp [e1,k2,k3]
            refine ⟨fun hc => ?_,fun hc => ?_⟩
            · have a1 : 0 < e.words.length + e.kids.length := by omega
              exact frz_bool (by rw [hR']; simp [a1,k2])
            · have a1 : ¬ 0 < e.words.length + e.kids.length := by omega
              exact frz_bool (by rw [hR']; simp [a1,k3,k2])
theorem pValue_spec {t : T} (h : wfT t) : G.Spec Tryz.prog 57 [tX t] (bv (!decide (t.kind = 10) && rightT 64 t)) := by
  refine spec_of t_edit_value (by simp) fun w0 I0 => ?_
  unfold c_edit_value
  by_cases k1 : t.kind = 10
  · simp [k1]
    refine sc_call_off rfl ?_
    simp
    exact frz_bare rfl
  · simp [k1]
    refine sc_call_gt rfl (fun _ => ptRight_spec h) (fun _ => rfl) rfl ?_
    simp
    exact frz_bare rfl
section
variable {n0 : Nat} {w0 : World} {I0 : Nat→Prop} {Q : Exit→Sta→Prop}
theorem pwords_k1 {Q' : Exit→Sta→Prop} {x : WE} (hw : WE.wf x) {a b c d : A} {u : Nat} {H : Hp} (hH : H [0] = ⟨u,.cells [iv x.at_,u8 x.mask,uv x.old,uv x.new]⟩)
    (h1 : (withinZ x.old x.mask && withinZ x.new x.mask) = true→Q' .normal ⟨lk [(0,a),(5,b),(6,c),(7,d),(53,bv false)],H⟩) (h2 : (withinZ x.old x.mask && withinZ x.new x.mask) = false→Q' .ret ⟨lk [(2,bv false)],H⟩) :
    WPC (cx Tryz.prog w0 I0 n0) k1_edit_words Q' ⟨lk [(0,a),(4,.pob [0] u 0),(5,b),(6,c),(7,d)],H⟩ := by
  obtain ⟨w1,w2,w3,w4⟩ := hw
  have z := mix_zero x.old x.mask
  have z2 := mix_zero x.new x.mask
  have u0 : u64R 0 := ⟨by omega,by omega⟩
  rw [k1_edit_words.eq_1]
  simp [hH]
  refine sc_call (pMix_spec w3 u0 w2.1 w2.2) rfl ?_
  by_cases m1 : mixZ x.old 0 x.mask = 0
  · rw [m1] at z ⊢
    simp [hH]
    refine sc_call_gf rfl (fun _ => pMix_spec w4 u0 w2.1 w2.2) (fun _ => rfl) rfl ?_
    by_cases m2 : mixZ x.new 0 x.mask = 0
    · rw [m2] at z2 ⊢
      simp
      exact h1 (by rw [← z,← z2]; simp)
    · simp [m2]
      exact h2 (by rw [← z,← z2]; simp [m2])
  · simp [m1]
    refine sc_call_off rfl ?_
    simp
    exact h2 (by rw [← z]; simp [m1])
theorem pwords_l1 {ws : List WE} (hl : ws.length * 32≤140737488355328) (hw : ∀ x,x ∈ ws→WE.wf x) : ∀ (m i : Nat) (last : Int) (H : Hp),i + m = ws.length→-1≤last→(i = 0→last = -1)→(∀ h : 0 < i∧i≤ws.length,ws[i - 1].at_ = last) →
    (wordsOk last (ws.drop i) = true→∀ q H',Q (.exit 0) ⟨lk [(0,wKs ws),(5,wKs ws),(6,iv ws.length),(7,iv ws.length),(8,bv q)],H'⟩)→(wordsOk last (ws.drop i) = false→∀ H',Q .ret ⟨lk [(2,bv false)],H'⟩) →
    LoopC (cx Tryz.prog w0 I0 n0) l1_edit_words Q ⟨lk [(0,wKs ws),(5,wKs ws),(6,iv ws.length),(7,iv i)],H⟩ := by
  intro m
  induction m with
  | zero =>
    intro i last H hi hm h0 hp h1 h2
    have : i = ws.length := by omega
    subst this
    refine loopC_once mixed l1_edit_words.eq_1 ?_
    simp
    exact h1 (by simp [wordsOk]) _ _
  | succ m ihm =>
    intro i last H hi hm h0 hp h1 h2
    have hlt : i < ws.length := by omega
    have ed : ws.drop i = ws[i] :: ws.drop (i + 1) := List.drop_eq_getElem_cons hlt
    have ei : IntKind.i64.wrap ((i : Int) + 1) = ((i + 1 : Nat) : Int) := i64_same (by omega) (by omega)
    obtain ⟨w1,w2,w3,w4⟩ := hw _ (List.getElem_mem hlt)
    have next := fun H' (hr : wordOk last ws[i] = true) => ihm (i + 1) ws[i].at_ H' (by omega) (by
      simp [wordOk] at hr
      omega) (fun h => by omega) (fun h => rfl) (fun hh => h1 (by rw [ed,wordsOk,hr,hh]; rfl)) (fun hh => h2 (by rw [ed,wordsOk,hr,hh]; rfl))
    have bad : wordOk last ws[i] = false→∀ H',Q .ret ⟨lk [(2,bv false)],H'⟩ := fun hr => h2 (by rw [ed,wordsOk,hr]; rfl)
    clear h1 h2 ed ihm
    generalize hx : ws[i] = x at *
    have hok : wordOk last x = !(decide (x.at_≤last) || decide (65534 < x.at_) || decide (x.mask = 0) || !withinZ x.old x.mask || !withinZ x.new x.mask) := rfl
    refine loopC_once mixed l1_edit_words.eq_1 ?_
    by_cases hA : x.at_ < 0∨65535≤x.at_∨x.at_≤last∨x.mask = 0
    · have hb : wordOk last x = false := by
        rw [hok]
        rcases hA with h | h | h | h
        · have : x.at_≤last := by omega
          simp [this]
        · have : 65534 < x.at_ := by omega
          simp [this]
        · simp [h]
        · simp [h]
      by_cases i0 : i = 0
      · have hl1 := h0 i0
        subst i0
        have : (decide (x.at_ < 0) || decide (65535≤x.at_) || decide (x.mask = 0)) = true := by simp; omega
        simp [hx,hlt,updF_app,this]
        exact bad hb _
      · have i1 : 0 < i := by omega
        have hpi := hp ⟨i1,by omega⟩
        have em : IntKind.i64.wrap ((i : Int) - 1) = ((i - 1 : Nat) : Int) := by rw [i64_same (by omega) (by omega)]; omega
        have : (decide (x.at_ < 0) || decide (65535≤x.at_) || decide (x.at_≤last) || decide (x.mask = 0)) = true := by simp; omega
        have hlt1 : i - 1 < ws.length := by omega
        simp [hx,hlt,i1,em,hlt1,hpi,updF_app,this]
        exact bad hb _
    · have c1 : ¬ x.at_ < 0 := by omega
      have c2 : ¬ 65535≤x.at_ := by omega
      have c3 : ¬ x.at_≤last := by omega
      have c4 : ¬ x.mask = 0 := by omega
      have c2' : ¬ 65534 < x.at_ := by omega
      have hok' : wordOk last x = (withinZ x.old x.mask && withinZ x.new x.mask) := by rw [hok]; simp [c2',c3,c4]
      have wfx : WE.wf x := ⟨w1,w2,w3,w4⟩
      by_cases i0 : i = 0
      · subst i0
        simp [hx,hlt,updF_app,c1,c2,c4]
        refine stop_go (pwords_k1 wfx (by simp [updF_app]) (fun hr => ?_) (fun hr => ?_))
        · simp at ei
          simp [ei]
          exact next _ (by rw [hok',hr])
        · simp
          exact bad (by rw [hok',hr]) _
      · have i1 : 0 < i := by omega
        have hpi := hp ⟨i1,by omega⟩
        have em : IntKind.i64.wrap ((i : Int) - 1) = ((i - 1 : Nat) : Int) := by rw [i64_same (by omega) (by omega)]; omega
        have hlt1 : i - 1 < ws.length := by omega
        simp [hx,hlt,i1,em,hlt1,hpi,updF_app,c1,c2,c3,c4]
        refine stop_go (pwords_k1 wfx (by simp [updF_app]) (fun hr => ?_) (fun hr => ?_))
        · simp [ei]
          exact next _ (by rw [hok',hr])
        · simp
          exact bad (by rw [hok',hr]) _
end
theorem pWords_spec {ws : List WE} (hl : ws.length * 32≤140737488355328) (hw : ∀ x,x ∈ ws→WE.wf x) : G.Spec Tryz.prog 58 [wKs ws] (bv (wordsOk (-1) ws)) := by
  refine spec_of t_edit_words (by simp) fun w0 I0 => ?_
  unfold c_edit_words
  simp
  refine pwords_l1 hl hw ws.length 0 (-1) _ (by simp) (by omega) (fun _ => rfl) (fun h => by omega) (fun hr q H' => ?_) (fun hr H' => ?_)
  · simp
    exact frz_bool (by simpa using hr.symm)
  · simp
    exact frz_bool (by simpa using hr.symm)
abbrev PRightS (e : E) : Prop := ∀ d : Nat,d≤1000→G.Spec Tryz.prog 38 [eX e,iv d] (bv (rightE d e))
section
variable {n0 : Nat} {w0 : World} {I0 : Nat→Prop} {Q : Exit→Sta→Prop}
theorem pkids_l1 {ks : List KE} {d : Nat} (hd : d≤1000) (hl : ks.length * 208≤140737488355328) (ih : ∀ x,x ∈ ks→PRightS x.e) : ∀ (m i : Nat) (last : Int) (H : Hp),i + m = ks.length→-1≤last→(i = 0→last = -1)→(∀ h : 0 < i∧i≤ks.length,ks[i - 1].at_ = last) →
    (rightKs d last (ks.drop i) = true→∀ q H',Q (.exit 0) ⟨lk [(0,kKs ks),(1,iv d),(7,kKs ks),(8,iv ks.length),(9,iv ks.length),(10,bv q)],H'⟩)→(rightKs d last (ks.drop i) = false→∀ H',Q .ret ⟨lk [(4,bv false)],H'⟩) →
    LoopC (cx Tryz.prog w0 I0 n0) l1_edit_kids Q ⟨lk [(0,kKs ks),(1,iv d),(7,kKs ks),(8,iv ks.length),(9,iv i)],H⟩ := by
  intro m
  induction m with
  | zero =>
    intro i last H hi hm h0 hp h1 h2
    have : i = ks.length := by omega
    subst this
    refine loopC_once mixed l1_edit_kids.eq_1 ?_
    simp
    exact h1 (by simp) _ _
  | succ m ihm =>
    intro i last H hi hm h0 hp h1 h2
    have hlt : i < ks.length := by omega
    have ed : ks.drop i = ks[i] :: ks.drop (i + 1) := List.drop_eq_getElem_cons hlt
    have ei : IntKind.i64.wrap ((i : Int) + 1) = ((i + 1 : Nat) : Int) := i64_same (by omega) (by omega)
    have ihx := ih _ (List.getElem_mem hlt) d hd
    have next := fun H' (ha : last < ks[i].at_∧ks[i].at_≤65534) (hk : ¬ ks[i].e.kind = 0) (hr : rightE d ks[i].e = true) => ihm (i + 1) ks[i].at_ H' (by omega) (by omega) (fun h => by omega) (fun h => rfl)
      (fun hh => h1 (by rw [ed,rightKs_cons,hr,hh]; simp [hk]; omega)) (fun hh => h2 (by rw [ed,rightKs_cons,hr,hh]; simp))
    have bad : (ks[i].at_≤last∨65534 < ks[i].at_∨ks[i].e.kind = 0∨rightE d ks[i].e = false)→∀ H',Q .ret ⟨lk [(4,bv false)],H'⟩ := fun hr => h2 (by
      rw [ed,rightKs_cons]
      rcases hr with h | h | h | h <;> simp [h])
    clear h1 h2 ed ihm
    generalize hx : ks[i] = x at *
    refine loopC_once mixed l1_edit_kids.eq_1 ?_
    by_cases hA : x.at_ < 0∨65535≤x.at_∨x.at_≤last∨x.e.kind = 0
    · have hb := bad (by omega)
      by_cases i0 : i = 0
      · have hl1 := h0 i0
        subst i0
        have : (decide (x.at_ < 0) || decide (65535≤x.at_) || decide (x.e.kind = 0)) = true := by simp; omega
        simp [hx,hlt,updF_app,this]
        refine sc_call_off rfl ?_
        simp [this]
        exact hb _
      · have i1 : 0 < i := by omega
        have hpi := hp ⟨i1,by omega⟩
        have em : IntKind.i64.wrap ((i : Int) - 1) = ((i - 1 : Nat) : Int) := by rw [i64_same (by omega) (by omega)]; omega
        have : (decide (x.at_ < 0) || decide (65535≤x.at_) || decide (x.at_≤last) || decide (x.e.kind = 0)) = true := by simp; omega
        have hlt1 : i - 1 < ks.length := by omega
        simp [hx,hlt,i1,em,hlt1,hpi,updF_app,this]
        refine sc_call_off rfl ?_
        simp [this]
        exact hb _
    · have c1 : ¬ x.at_ < 0 := by omega
      have c2 : ¬ 65535≤x.at_ := by omega
      have c3 : ¬ x.at_≤last := by omega
      have c4 : ¬ x.e.kind = 0 := by omega
      by_cases i0 : i = 0
      · subst i0
        simp [hx,hlt,updF_app,c1,c2,c4]
        refine sc_call_gf rfl (fun _ => ihx) (fun _ => rfl) rfl ?_
        cases hr : rightE d x.e with
        | false => simp; exact bad (.inr (.inr (.inr hr))) _
        | true =>
          simp at ei
          simp [ei]
          exact next _ (by omega) c4 hr
      · have i1 : 0 < i := by omega
        have hpi := hp ⟨i1,by omega⟩
        have em : IntKind.i64.wrap ((i : Int) - 1) = ((i - 1 : Nat) : Int) := by rw [i64_same (by omega) (by omega)]; omega
        have hlt1 : i - 1 < ks.length := by omega
        simp [hx,hlt,i1,em,hlt1,hpi,updF_app,c1,c2,c3,c4]
        refine sc_call_gf rfl (fun _ => ihx) (fun _ => rfl) rfl ?_
        cases hr : rightE d x.e with
        | false => simp; exact bad (.inr (.inr (.inr hr))) _
        | true => simp [ei]; exact next _ (by omega) c4 hr
end
theorem pKids_spec {ks : List KE} {d : Nat} (hd : d≤1000) (hl : ks.length * 208≤140737488355328) (ih : ∀ x,x ∈ ks→PRightS x.e) : G.Spec Tryz.prog 59 [kKs ks,iv d] (bv (rightKs d (-1) ks)) := by
  refine spec_of t_edit_kids (by simp) fun w0 I0 => ?_
  unfold c_edit_kids
  simp
  refine pkids_l1 hd hl ih ks.length 0 (-1) _ (by simp) (by omega) (fun _ => rfl) (fun h => by omega) (fun hr q H' => ?_) (fun hr H' => ?_)
  · simp
    exact frz_bool (by simpa using hr.symm)
  · simp
    exact frz_bool (by simpa using hr.symm)
theorem wf_one {list : Int} (hk : i64R list) {t : T} (h : wfT t) : wfT (.mk list [] [t]) := wfT_iff.2 ⟨hk,by simp,by simp,by simp,fun x hx => by simp at hx; rw [hx]; exact h⟩
theorem peKid_spec {list : Int} (hk : i64R list) {t : T} (h : wfT t) : G.Spec Tryz.prog 102 [iv list,tX t] (bv (rightT 64 (.mk list [] [t]))) := by
  refine spec_of t_edit_kid (by simp) fun w0 I0 => ?_
  unfold c_edit_kid
  simp
  refine sc_calle rfl ((ptRight_spec (wf_one hk h)).soft (by simp [A.softL,A.soft,soft_uv,soft_tKs])) rfl ?_
  simp
  exact frz_bare rfl
def withinB (list : Int) (e : E) : Bool := !(isData list || decide (e.kind = 0)) && ((decide (list = 8) || decide (e.kind = 2)) || (decide (e.kind = 1) && decide (e.old.kind = 1) && decide (e.new.kind = 1)))
set_option maxRecDepth 8000 in
theorem pWithin_spec (list : Int) (e : E) : G.Spec Tryz.prog 103 [iv list,eX e] (bv (withinB list e)) := by
  obtain ⟨R,hR⟩ : ∃ R,R = withinB list e := ⟨_,rfl⟩
  rw [← hR]
  unfold withinB at hR
  refine spec_of t_edit_within (by simp) fun w0 I0 => ?_
  unfold c_edit_within
  simp
  refine sc_call (data_spec list) rfl ?_
  cases hd : isData list with
  | true => simp; exact frz_bool (by rw [hR]; simp [hd])
  | false =>
    by_cases k0 : e.kind = 0
    · simp [k0]; exact frz_bool (by rw [hR]; simp [k0])
    · by_cases l8 : list = 8
      · simp [k0,l8]; exact frz_bool (by rw [hR]; simp [hd,k0,l8,isData])
      · by_cases k2 : e.kind = 2
        · simp [l8,k2]; exact frz_bool (by rw [hR]; simp [hd,k2])
        · by_cases k1 : e.kind = 1
          · simp [l8,k1]; exact frz_bool (by rw [hR]; simp [hd,k1,l8])
          · simp [k0,l8,k2,k1]; exact frz_bool (by rw [hR]; simp [hd,k0,k1,k2,l8])
abbrev boxI (list : Int) : A := .pim [iv list]
theorem opKid_spec {list : Int} (hk : i64R list) {t : T} (h : wfT t) : G.Spec Tryz.prog 101 [tX t,boxI list] (bv (!rightT 64 (.mk list [] [t]))) := by
  refine spec_of t_edit_op_1 (by simp) fun w0 I0 => ?_
  unfold c_edit_op_1
  simp
  refine sc_call (peKid_spec hk h) rfl ?_
  simp
  exact frz_bare rfl
def idxZ (p : T→Bool) : Nat→List T→Int
  | _,[] => -1
  | i,t :: l => if p t = true then i else idxZ p (i + 1) l
theorem idxZ_any (p : T→Bool) : ∀ (l : List T) (i : Nat),decide (0≤idxZ p i l) = l.any p
  | [],i => rfl
  | t :: l,i => by
    rw [idxZ,List.any_cons]
    cases h : p t with
    | true => simp
    | false => simp only [Bool.false_eq_true,if_false,Bool.false_or]; exact idxZ_any p l (i + 1)
abbrev clo (list : Int) : A := .fnc 101 [] [boxI list]
section
variable {n0 : Nat} {w0 : World} {I0 : Nat→Prop} {Q : Exit→Sta→Prop}
theorem index_l1 {list : Int} (hk : i64R list) {l : List T} (hl : l.length * 56≤140737488355328) (hw : ∀ t,t ∈ l→wfT t) {R : Int} {H : Hp} : ∀ (m i : Nat),i + m = l.length→R = idxZ (fun t => !rightT 64 (.mk list [] [t])) i (l.drop i) →
    (R = -1→∀ q,Q (.exit 0) ⟨lk [(0,tKs l),(1,clo list),(7,iv l.length),(8,iv l.length),(9,bv q)],H⟩)→(Q .ret ⟨lk [(4,iv R)],H⟩) →
    LoopC (cx Tryz.prog w0 I0 n0) l1_slices_IndexFunc_api_Tree_api_Tree Q ⟨lk [(0,tKs l),(1,clo list),(7,iv l.length),(8,iv i)],H⟩ := by
  intro m
  induction m with
  | zero =>
    intro i hi hR h1 h2
    have : i = l.length := by omega
    subst this
    refine loopC_once mixed l1_slices_IndexFunc_api_Tree_api_Tree.eq_1 ?_
    simp
    exact h1 (by rw [hR]; simp [idxZ]) _
  | succ m ih =>
    intro i hi hR h1 h2
    have hlt : i < l.length := by omega
    have ed : l.drop i = l[i] :: l.drop (i + 1) := List.drop_eq_getElem_cons hlt
    have ei : IntKind.i64.wrap ((i : Int) + 1) = ((i + 1 : Nat) : Int) := i64_same (by omega) (by omega)
    rw [ed,idxZ] at hR
    refine loopC_once mixed l1_slices_IndexFunc_api_Tree_api_Tree.eq_1 ?_
    simp [hlt]
    refine sc_callv rfl (opKid_spec hk (hw _ (List.getElem_mem hlt))) rfl ?_
    cases hr : rightT 64 (.mk list [] [l[i]]) with
    | false =>
      rw [if_pos (by rw [hr]; rfl)] at hR
      simp
      rw [← hR]
      exact h2
    | true =>
      rw [if_neg (by rw [hr]; simp)] at hR
      simp [ei]
      exact ih (i + 1) (by omega) hR h1 h2
end
theorem pIndex_spec {list : Int} (hk : i64R list) {l : List T} (hl : l.length * 56≤140737488355328) (hw : ∀ t,t ∈ l→wfT t) : G.Spec Tryz.prog 117 [tKs l,clo list] (iv (idxZ (fun t => !rightT 64 (.mk list [] [t])) 0 l)) := by
  refine spec_of t_slices_IndexFunc_api_Tree_api_Tree (by simp) fun w0 I0 => ?_
  unfold c_slices_IndexFunc_api_Tree_api_Tree
  simp
  refine index_l1 hk hl hw l.length 0 (by simp) rfl (fun hR q => ?_) ?_
  · simp
    exact frz_int (by simpa using hR.symm)
  · simp
    exact frz_int (by simp)
theorem pContains_spec {list : Int} (hk : i64R list) {l : List T} (hl : l.length * 56≤140737488355328) (hw : ∀ t,t ∈ l→wfT t) : G.Spec Tryz.prog 100 [tKs l,clo list] (bv (l.any fun t => !rightT 64 (.mk list [] [t]))) := by
  refine spec_of t_slices_ContainsFunc_api_Tree_api_Tree (by simp) fun w0 I0 => ?_
  unfold c_slices_ContainsFunc_api_Tree_api_Tree
  simp
  refine sc_call (pIndex_spec hk hl hw) rfl ?_
  simp
  exact frz_bool (idxZ_any _ l 0)
theorem same_right {e : E} : (rightE 1 e && decide (e.kind = 0)) = sameE e := by
  rw [Bool.eq_iff_iff,Bool.and_eq_true,decide_eq_true_eq]
  constructor
  · rintro ⟨h,h0⟩
    obtain ⟨k,o,n,ws,ks,l,os⟩ := e
    have R := rightE_iff.1 h
    have h0 : k = 0 := h0
    subst h0
    obtain ⟨rfl,rfl⟩ := R.one (by omega)
    obtain ⟨rfl,rfl⟩ := R.two (by omega)
    obtain ⟨rfl,rfl⟩ := R.three (by omega)
    rfl
  · intro h
    rw [sameE_eq h]
    refine ⟨rightE_iff.2 ⟨by omega,by omega,by omega,fun _ => ⟨rfl,rfl⟩,fun _ => ⟨rfl,rfl⟩,fun _ => ⟨rfl,rfl⟩,fun h => by omega,rfl,by simp,fun h => by omega,by simp,by simp [lengths]⟩,rfl⟩
abbrev oL (o : OP) : List A := iv o.kind :: iv o.n :: tKs o.l :: eL o.e
section
variable {n0 : Nat} {w0 : World} {I0 : Nat→Prop} {Q : Exit→Sta→Prop}
theorem pop_k1 {list : Int} (hk : i64R list) {o : OP} (h : WfO o) (ih : PRightS o.e) {H : Hp} (hH : H [1] = ⟨1,.cells (oL o)⟩) {R : Bool} (hR : R = (decide (o.n = 0) && !o.l.isEmpty && sameE o.e && (o.l.all fun t => rightT 64 (.mk list [] [t])))) :
    WPC (cx Tryz.prog w0 I0 n0) k1_edit_op (RetC Tryz.prog [.tmp 6] (bv R)) ⟨lk [(3,boxI list),(4,.pob [1] 1 0)],H⟩ := by
  have hll := h.ll
  rw [k1_edit_op.eq_1]
  have ih1 := ih 1 (by omega)
  rw [← same_right] at hR
  by_cases c1 : o.n = 0
  rotate_left
  · simp [hH,c1]
    refine sc_call_off rfl ?_
    simp [hH]
    refine sc_call_off rfl ?_
    simp
    exact frz_bool (by rw [hR]; simp [c1])
  by_cases c2 : o.l = []
  · simp [hH,c1,c2]
    refine sc_call_off rfl ?_
    simp [hH,c2]
    refine sc_call_off rfl ?_
    simp
    exact frz_bool (by rw [hR]; simp [c2])
  have c2' : 0 < o.l.length := List.length_pos_iff.2 c2
  have c2e : o.l.isEmpty = false := by cases hh : o.l <;> simp_all
  simp [hH,c1,c2']
  refine sc_call_gt rfl (fun _ => ih1) (fun _ => rfl) rfl ?_
  cases hr : rightE 1 o.e with
  | false =>
    simp [hH,c1,c2']
    refine sc_call_off rfl ?_
    simp
    exact frz_bool (by rw [hR,hr]; simp)
  | true =>
    by_cases c4 : o.e.kind = 0
    · simp [hH,c4]
      refine sc_call_gt rfl (fun _ => pContains_spec hk hll h.l) (fun _ => rfl) rfl ?_
      simp
      refine frz_bool ?_
      rw [hR,hr,c1,c4,c2e]
      simp [List.all_eq_not_any_not]
    · simp [hH,c4]
      refine sc_call_off rfl ?_
      simp
      exact frz_bool (by rw [hR]; simp [c4])
end
set_option maxRecDepth 8000 in
theorem pOp_spec {list : Int} (hk : 2≤list∧list≤9) {o : OP} (h : WfO o) (ih : PRightS o.e) {d : Nat} (hd : d≤1000) : G.Spec Tryz.prog 84 [iv list,oX o,iv d] (bv (rightO d list o)) := by
  have he := wfE_iff.1 h.e
  have hll := h.ll
  have hk64 : i64R list := ⟨by omega,by omega⟩
  obtain ⟨R,hR⟩ : ∃ R,R = rightO d list o := ⟨_,rfl⟩
  rw [← hR]
  rw [rightO_eq] at hR
  unfold opFlat at hR
  refine spec_of t_edit_op (by simp) fun w0 I0 => ?_
  unfold c_edit_op
  have stopper : (o.kind = 1∨o.kind = 2)→StopK (cx Tryz.prog w0 I0 90) (WPC (cx Tryz.prog w0 I0 90) k1_edit_op (RetC Tryz.prog [.tmp 6] (bv R))) ⟨lk [(3,.pob [0] 1 0),(4,.pob [1] 1 0)],lkH [([0],⟨1,.cells [iv list]⟩),([1],⟨1,.cells (oL o)⟩)]⟩ := fun hkk => by
    refine stop_le (le_freezeL (c := cx Tryz.prog w0 I0 90) [[0]] 3 (boxI list) (fun _ _ h => h) ?_) (stop_le (le_list [(3,boxI list),(4,.pob [1] 1 0)] (by simp [upd])) (stop_go ?_))
    · exact frz_pob (cs := [iv list]) (by simp [onlyH]) ⟨frz_bare rfl,trivial⟩ rfl
    · simp [lessH]
      refine pop_k1 hk64 h ih ?_ ?_
      · first | rfl | simp
      rw [hR,if_neg (by omega)]
      by_cases c1 : o.n = 0
      · rw [if_neg (by omega),if_pos (by omega),if_neg (by omega)]
        simp [c1]
        cases o.l.isEmpty <;> simp [Bool.and_comm]
      · rw [if_pos (by omega)]
        simp [c1]
  by_cases k0 : o.kind = 0
  · rw [if_pos k0,if_neg (by omega),Bool.and_true,← same_right] at hR
    simp [k0]
    by_cases c : 1≤o.n∧o.n≤1048576∧o.l = []
    · obtain ⟨a,b,c⟩ := c
      simp [a,b,c]
      refine sc_call_gt rfl (fun _ => ih 1 (by omega)) (fun _ => rfl) rfl ?_
      simp
      refine frz_bool ?_
      rw [hR]
      simp [a,b,c]
    · have hc : (decide (1≤o.n) && decide (o.n≤1048576) && decide (o.l = [])) = false := by
        rw [Bool.eq_false_iff]; intro e; simp at e; exact c ⟨e.1.1,e.1.2,e.2⟩
      simp [hc]
      refine sc_call_off rfl ?_
      simp [hc]
      refine frz_bool ?_
      rw [hR]
      have : (decide (1≤o.n) && decide (o.n≤1048576) && o.l.isEmpty) = false := by
        rw [← hc]; cases o.l <;> simp
      rw [this]
      rfl
  by_cases k1 : o.kind = 1
  · simp [k1]
    repeat rw [InBlock_other (by decide)]
    try simp
    repeat rw [InBlock_other (by decide)]
    try simp
    repeat rw [InBlock_other (by decide)]
    try simp
    have := stopper (.inl k1)
    unfold oL at this
    rw [k1] at this
    exact this
  by_cases k2 : o.kind = 2
  · simp [k2]
    repeat rw [InBlock_other (by decide)]
    try simp
    repeat rw [InBlock_other (by decide)]
    try simp
    repeat rw [InBlock_other (by decide)]
    try simp
    have := stopper (.inr k2)
    unfold oL at this
    rw [k2] at this
    exact this
  by_cases k3 : o.kind = 3
  · rw [if_neg k0,if_pos k3] at hR
    simp [k3]
    repeat rw [InBlock_other (by decide)]
    try simp
    repeat rw [InBlock_other (by decide)]
    try simp
    repeat rw [InBlock_other (by decide)]
    try simp
    have hfit : withinB list o.e = (!decide (o.e.kind = 0) && !decide (list≤7) && opFit list o) := by
      have hd7 : isData list = decide (list≤7) := by rw [Bool.eq_iff_iff]; simp [isData]; omega
      unfold withinB opFit
      rw [hd7]
      cases decide (list≤7) <;> cases decide (o.e.kind = 0) <;> simp [Bool.or_assoc]
    by_cases c : o.n = 0∧o.l = []
    · obtain ⟨c1,c2⟩ := c
      have hR' : R = (withinB list o.e && rightE d o.e) := by
        rw [hR,if_neg (by omega),if_neg (by omega),hfit]
        unfold opDeep
        rw [c2]
        cases rightE d o.e <;> simp
      simp [c1,c2]
      refine sc_call_gt rfl (fun _ => pWithin_spec list o.e) (fun _ => rfl) rfl ?_
      cases hw : withinB list o.e with
      | false =>
        simp
        refine sc_call_off rfl ?_
        simp
        exact frz_bool (by rw [hR',hw]; rfl)
      | true =>
        simp
        refine sc_call_gt rfl (fun _ => ih d hd) (fun _ => rfl) rfl ?_
        simp
        exact frz_bool (by rw [hR',hw]; simp)
    · have hc : (decide (o.n = 0) && decide (o.l = [])) = false := by
        rw [Bool.eq_false_iff]; intro e; simp at e; exact c e
      simp [hc]
      refine sc_call_off rfl ?_
      simp [hc]
      refine sc_call_off rfl ?_
      simp [hc]
      refine frz_bool ?_
      rw [hR]
      by_cases c1 : o.n = 0
      · have c2 : o.l.isEmpty = false := by
          cases hh : o.l with
          | nil => exact absurd ⟨c1,hh⟩ c
          | cons x l => rfl
        unfold opDeep
        rw [c2]
        simp
      · rw [if_pos (by omega)]
        rfl
  · simp [k0,k1,k2,k3]
    repeat rw [InBlock_other (by decide)]
    try simp
    repeat rw [InBlock_other (by decide)]
    try simp
    repeat rw [InBlock_other (by decide)]
    try simp
    refine frz_bool ?_
    rw [hR,if_neg k0,if_pos (by omega)]
    rfl
theorem sat_min (n : Int) : min n 1048576 = sat n := by unfold sat; split <;> omega
section
variable {n0 : Nat} {w0 : World} {I0 : Nat→Prop} {Q : Exit→Sta→Prop}
theorem plen_k2 {Q' : Exit→Sta→Prop} {o : OP} {a b z : Int} {x y i : A} {u : Nat} {H : Hp} (hH : H [1] = ⟨u,.cells (oL o)⟩) (a0 : 0≤a) (a1 : a≤1048576) (b0 : 0≤b) (b1 : b≤1048576) (z0 : 0≤z) (z1 : z < 100000000000000)
    (h : Q' .normal ⟨lk [(4,iv (sat (if o.kind = 2 then a else a + z))),(5,iv (sat (if o.kind = 1 then b else b + z))),(10,x),(11,y),(12,i)],H⟩)
    (h' : Q' .normal ⟨lk [(4,iv (sat (if o.kind = 2 then a else a + z))),(5,iv (sat (if o.kind = 1 then b else b + z))),(8,iv z),(10,x),(11,y),(12,i),(34,bv false)],H⟩) :
    WPC (cx Tryz.prog w0 I0 n0) k2_edit_Lengths Q' ⟨lk [(4,iv a),(5,iv b),(7,.pob [1] u 0),(8,iv z),(10,x),(11,y),(12,i)],H⟩ := by
  have ea : IntKind.i64.wrap (a + z) = a + z := i64_same (by omega) (by omega)
  have eb : IntKind.i64.wrap (b + z) = b + z := i64_same (by omega) (by omega)
  have sa : sat a = a := by unfold sat; rw [if_neg (by omega)]
  have sb : sat b = b := by unfold sat; rw [if_neg (by omega)]
  rw [k2_edit_Lengths.eq_1]
  by_cases h2 : o.kind = 2
  · have h1 : ¬ o.kind = 1 := by omega
    simp [hH,h2]
    rw [k1_edit_Lengths.eq_1]
    simp [hH,h2,eb,sat_min]
    simpa [h2,sa] using h
  · by_cases h1 : o.kind = 1
    · simp [hH,h1,ea,sat_min]
      rw [k1_edit_Lengths.eq_1]
      simp [hH,h1]
      simpa [h1,sb] using h'
    · simp [hH,h2,ea,sat_min]
      rw [k1_edit_Lengths.eq_1]
      simp [hH,h1,eb,sat_min]
      simpa [h1,h2] using h
theorem plen_l1 {os : List OP} (hl : os.length * 240≤140737488355328) (ho : ∀ x,x ∈ os→0≤x.n∧x.n≤1048576∧x.l.length * 56≤140737488355328) : ∀ (m i : Nat) (a b : Int) (H : Hp),i + m = os.length→0≤a→a≤1048576→0≤b→b≤1048576 →
    (∀ q H',Q (.exit 0) ⟨lk [(4,iv (lengths a b (os.drop i)).1),(5,iv (lengths a b (os.drop i)).2),(10,oKs os),(11,iv os.length),(12,iv os.length),(13,bv q)],H'⟩) →
    LoopC (cx Tryz.prog w0 I0 n0) l1_edit_Lengths Q ⟨lk [(4,iv a),(5,iv b),(10,oKs os),(11,iv os.length),(12,iv i)],H⟩ := by
  intro m
  induction m with
  | zero =>
    intro i a b H hi a0 a1 b0 b1 hq
    have : i = os.length := by omega
    subst this
    refine loopC_once mixed l1_edit_Lengths.eq_1 ?_
    simp
    simpa [lengths] using hq false H
  | succ m ih =>
    intro i a b H hi a0 a1 b0 b1 hq
    have hlt : i < os.length := by omega
    have ed : os.drop i = os[i] :: os.drop (i + 1) := List.drop_eq_getElem_cons hlt
    have ei : IntKind.i64.wrap ((i : Int) + 1) = ((i + 1 : Nat) : Int) := i64_same (by omega) (by omega)
    obtain ⟨n1,n2,n3⟩ := ho _ (List.getElem_mem hlt)
    rw [ed] at hq
    generalize ho' : os[i] = o at *
    have next : ∀ (a' b' : Int) H',a' = sat (if o.kind = 2 then a else a + opLen o)→b' = sat (if o.kind = 1 then b else b + opLen o)→LoopC (cx Tryz.prog w0 I0 n0) l1_edit_Lengths Q ⟨lk [(4,iv a'),(5,iv b'),(10,oKs os),(11,iv os.length),(12,iv ((i + 1 : Nat) : Int))],H'⟩ := fun a' b' H' ha hb => by
      have h0 : 0≤opLen o∧opLen o < 100000000000000 := by unfold opLen; split <;> omega
      have s1 := sat_range (n := if o.kind = 2 then a else a + opLen o) (by split <;> omega)
      have s2 := sat_range (n := if o.kind = 1 then b else b + opLen o) (by split <;> omega)
      refine ih (i + 1) a' b' H' (by omega) (by omega) (by omega) (by omega) (by omega) fun q H2 => ?_
      have := hq q H2
      have f1 : (if o.kind ≠ 2 then a + opLen o else a) = if o.kind = 2 then a else a + opLen o := by by_cases e : o.kind = 2 <;> simp [e]
      have f2 : (if o.kind ≠ 1 then b + opLen o else b) = if o.kind = 1 then b else b + opLen o := by by_cases e : o.kind = 1 <;> simp [e]
      rw [lengths,f1,f2,← ha,← hb] at this
      exact this
    have h0 : 0≤opLen o∧opLen o < 100000000000000 := by unfold opLen; split <;> omega
    refine loopC_once mixed l1_edit_Lengths.eq_1 ?_
    have e1 : IntKind.i64.wrap (o.n + (o.l.length : Int)) = o.n + o.l.length := i64_same (by omega) (by omega)
    simp [hlt,ho',updF_app,e1]
    refine ⟨fun h3 => ?_,fun h3 => ?_⟩
    · have ez : opLen o = 1 := by simp [opLen,h3]
      refine plen_k2 (o := o) (u := (H [1]).u + 1) (z := 1) (by simp [updF_app]) (by omega) (by omega) (by omega) (by omega) (by omega) (by omega) ?_ ?_
      all_goals
        simp [ei]
        rw [ez] at next
        exact next _ _ _ rfl rfl
    · have ez : opLen o = o.n + o.l.length := by simp [opLen,h3]
      rw [← ez]
      refine plen_k2 (o := o) (u := (H [1]).u + 1) (z := opLen o) (by simp [updF_app]) (by omega) (by omega) (by omega) (by omega) (by omega) (by omega) ?_ ?_
      all_goals
        simp [ei]
        exact next _ _ _ rfl rfl
end
theorem pLengths_spec {e : E} (hl : e.ops.length * 240≤140737488355328) (ho : ∀ x,x ∈ e.ops→0≤x.n∧x.n≤1048576∧x.l.length * 56≤140737488355328) : G.Spec Tryz.prog 85 [eX e] (.tup [iv (lengths 0 0 e.ops).1,iv (lengths 0 0 e.ops).2]) := by
  refine spec_of t_edit_Lengths (by simp) fun w0 I0 => ?_
  unfold c_edit_Lengths
  simp
  refine plen_l1 (os := e.ops) hl ho e.ops.length 0 0 0 _ (by omega) (by omega) (by omega) (by omega) (by omega) fun q H' => ?_
  simp
  exact frz_bare rfl
section
variable {n0 : Nat} {w0 : World} {I0 : Nat→Prop} {Q : Exit→Sta→Prop}
theorem pops_l1 {e : E} {d : Nat} (hd : d≤1000) (hk : 2≤e.list∧e.list≤9) (hl : e.ops.length * 240≤140737488355328) (hw : ∀ x,x ∈ e.ops→WfO x) (ih : ∀ x,x ∈ e.ops→PRightS x.e) : ∀ (m i : Nat) (H : Hp),i + m = e.ops.length→H [0] = ⟨1,.cells (eL e)⟩ →
    (rightOs d e.list (e.ops.drop i) = true→∀ q H',H' [0] = ⟨1,.cells (eL e)⟩→Q (.exit 0) ⟨lk [(1,iv d),(2,.pob [0] 1 0),(10,oKs e.ops),(11,iv e.ops.length),(12,iv e.ops.length),(13,bv q)],H'⟩)→(rightOs d e.list (e.ops.drop i) = false→∀ H',Q .ret ⟨lk [(4,bv false)],H'⟩) →
    LoopC (cx Tryz.prog w0 I0 n0) l1_edit_ops Q ⟨lk [(1,iv d),(2,.pob [0] 1 0),(10,oKs e.ops),(11,iv e.ops.length),(12,iv i)],H⟩ := by
  intro m
  induction m with
  | zero =>
    intro i H hi hA h1 h2
    have : i = e.ops.length := by omega
    subst this
    refine loopC_once mixed l1_edit_ops.eq_1 ?_
    simp
    exact h1 (by simp) _ _ hA
  | succ m ihm =>
    intro i H hi hA h1 h2
    have hlt : i < e.ops.length := by omega
    have ed : e.ops.drop i = e.ops[i] :: e.ops.drop (i + 1) := List.drop_eq_getElem_cons hlt
    have ei : IntKind.i64.wrap ((i : Int) + 1) = ((i + 1 : Nat) : Int) := i64_same (by omega) (by omega)
    have hop := pOp_spec hk (hw _ (List.getElem_mem hlt)) (ih _ (List.getElem_mem hlt)) hd
    rw [ed,rightOs_cons] at h1 h2
    refine loopC_once mixed l1_edit_ops.eq_1 ?_
    simp [hA,hlt,updF_app]
    refine sc_call hop rfl ?_
    cases hr : rightO d e.list e.ops[i] with
    | false =>
      simp
      exact h2 (by simp [hr]) _
    | true =>
      simp [ei]
      exact ihm (i + 1) _ (by omega) (by simp [updF_app,hA]) (fun hh => h1 (by simp [hr,hh])) (fun hh => h2 (by simp [hh]))
end
theorem pOps_spec {e : E} (hw : WfE e) {d : Nat} (hd : d≤1000) (hk : 2≤e.list∧e.list≤9) (ih : ∀ x,x ∈ e.ops→PRightS x.e) : G.Spec Tryz.prog 60 [eX e,iv d] (bv (rightOs d e.list e.ops && (decide ((lengths 0 0 e.ops).1 < 1048576) && decide ((lengths 0 0 e.ops).2 < 1048576)))) := by
  refine spec_of t_edit_ops (by simp) fun w0 I0 => ?_
  unfold c_edit_ops
  simp
  refine pops_l1 hd hk hw.ol hw.os ih e.ops.length 0 _ (by omega) (by simp) (fun hr q H' hA => ?_) (fun hr H' => ?_)
  · simp only [List.drop_zero] at hr
    simp [hA]
    refine sc_call (pLengths_spec hw.ol (fun x hx => ⟨(op_n (rightOs_all.1 hr x hx)).1,(op_n (rightOs_all.1 hr x hx)).2,(hw.os x hx).ll⟩)) rfl ?_
    simp
    refine frz_bool ?_
    rw [hr]
    simp
  · simp only [List.drop_zero] at hr
    simp
    exact frz_bool (by rw [hr]; rfl)
set_option maxRecDepth 10000 in
theorem pright_all : ∀ (e : E),wfE e→PRightS e := by
  refine E.ind fun k o nn ws ks l os ihk iho hw d hd => ?_
  have h := wfE_iff.1 hw
  have hb := pBare_spec h
  obtain ⟨R,hR⟩ : ∃ R,R = rightE d (.mk k o nn ws ks l os) := ⟨_,rfl⟩
  rw [← hR]
  rw [rightE_mk,headOk_bare] at hR
  have eb : bareE (.mk k o nn ws ks l os) = bareB k o nn ws.length ks.length l os.length := rfl
  rw [eb] at hb
  have ed : 1≤d→IntKind.i64.wrap ((d : Int) - 1) = ((d - 1 : Nat) : Int) := fun h => by rw [i64_same (by omega) (by omega)]; omega
  refine spec_of t_edit_right (by simp) fun w0 I0 => ?_
  unfold c_edit_right
  simp
  refine sc_call hb rfl ?_
  generalize hB : bareB k o nn ws.length ks.length l os.length = B at hR
  cases B with
  | false =>
    simp
    refine frz_bool ?_
    rw [hR]
    simp
  | true =>
    by_cases hd0 : d = 0
    · subst hd0
      simp
      refine frz_bool ?_
      rw [hR]
      simp
    have ed' := ed (by omega)
    have hh := headOk_bare (d := d) (k := k) (o := o) (n := nn) (nw := ws.length) (nk := ks.length) (l := l) (no := os.length)
    rw [hB] at hh
    simp only [Bool.and_true] at hR hh
    by_cases kr : k < 0∨3 < k
    · have k0 : ¬ k = 0 := by omega
      have k1 : ¬ k = 1 := by omega
      have k2 : ¬ k = 2 := by omega
      have k3 : ¬ k = 3 := by omega
      simp [hd0,k0,k1,k2,k3]
      refine frz_bool ?_
      rw [hR,if_pos]
      simp
      omega
    have hh1 : headOk d k o nn ws.length ks.length l os.length = true := by
      rw [hh]
      simp
      omega
    obtain ⟨_,k0,k3,c1,c2,c3⟩ := headOk_iff.1 hh1
    rw [← hh,if_neg (by rw [hh1]; simp)] at hR
    have hk : k = 0∨k = 1∨k = 2∨k = 3 := by omega
    rcases hk with rfl | rfl | rfl | rfl
    · obtain ⟨w0',s0⟩ := c2 (by omega)
      obtain ⟨l0,o0⟩ := c3 (by omega)
      obtain rfl := List.eq_nil_of_length_eq_zero w0'
      obtain rfl := List.eq_nil_of_length_eq_zero s0
      obtain rfl := List.eq_nil_of_length_eq_zero o0
      simp [hd0]
      refine frz_bool ?_
      rw [hR]
      simp [wordsOk,lengths]
    · simp [hd0]
      refine sc_call (pValue_spec h.o) rfl ?_
      simp
      refine sc_call_gt rfl (fun _ => pValue_spec h.n) (fun e => by simp [e]) rfl ?_
      simp
      refine frz_bool ?_
      rw [hR]
      simp
      cases rightT 64 o <;> cases rightT 64 nn <;> simp <;> rfl
    · obtain ⟨l0,o0⟩ := c3 (by omega)
      obtain rfl := List.eq_nil_of_length_eq_zero o0
      simp [hd0]
      refine sc_call (pWords_spec h.wl h.w) rfl ?_
      simp [ed']
      refine sc_call_gt rfl (fun _ => pKids_spec (d := d - 1) (by omega) h.kl (fun x hx => ihk x hx (h.ks x hx).2)) (fun e => by simp [e]) rfl ?_
      simp
      refine frz_bool ?_
      rw [hR]
      cases wordsOk (-1) ws <;> cases rightKs (d - 1) (-1) ks <;> simp [lengths]
    · obtain ⟨w0',s0⟩ := c2 (by omega)
      obtain rfl := List.eq_nil_of_length_eq_zero w0'
      obtain rfl := List.eq_nil_of_length_eq_zero s0
      simp [hd0]
      refine sc_call (tList_spec l) rfl ?_
      by_cases hl : 2≤l∧l≤9
      · have hl' : ¬ (l < 2∨l > 9) := by omega
        simp [hl.1,hl.2,ed']
        refine sc_call_gt rfl (fun _ => pOps_spec (e := .mk 3 o nn [] [] l os) (d := d - 1) h (by omega) hl (fun x hx => iho x hx (h.os x hx).e)) (fun e => rfl) rfl ?_
        simp
        refine frz_bool ?_
        rw [hR]
        simp [wordsOk,hl']
        cases rightOs (d - 1) l os <;> simp <;> rfl
      · have hl' : l < 2∨l > 9 := by omega
        have hf : (decide (2≤l) && decide (l≤9)) = false := by rw [Bool.eq_false_iff]; intro e; simp at e; omega
        simp [hf]
        refine sc_call_off rfl ?_
        simp
        refine frz_bool ?_
        rw [hR]
        simp [wordsOk,hl']
theorem peRight_spec {e : E} (h : wfE e) : G.Spec Tryz.prog 18 [eX e] (bv (rightE 64 e)) := by
  refine spec_of t_edit_Right (by simp) fun w0 I0 => ?_
  unfold c_edit_Right
  simp
  refine sc_call (pright_all e h 64 (by omega)) rfl ?_
  simp
  exact frz_bare rfl
theorem frz_rowF {α : Type} {H : Hp} {o : Nm} {u n sz : Nat} {l : List α} {f g : α→A} (h : vr (H o) u = some (sz,l.map f)) (hn : n = l.length)
    (hf : ∀ x,x ∈ l→(f x).cells.all A.bare = true∧(f x).cells.map A.soft = (g x).cells∧(g x).cells.length = sz∧A.ones (g x).cells = true) : Frz H (.osl o u sz 0 n) (.sl false (l.map g)) := by
  subst hn
  refine frz_osl' (xs := l.map f) (by simpa using h) (by simp) (by simp) (fun y hy => ?_) ?_ ?_
  · obtain ⟨x,hx,rfl⟩ := List.mem_map.1 hy
    exact (hf x hx).2.2.1
  · simp only [A.ones,List.all_eq_true,List.mem_flatMap]
    rintro y ⟨z,hz,hy⟩
    obtain ⟨x,hx,rfl⟩ := List.mem_map.1 hz
    have := (hf x hx).2.2.2
    simp only [A.ones,List.all_eq_true] at this
    exact this y hy
  · rw [List.drop_zero,List.take_of_length_le (by simp)]
    have : ∀ (m : List α),(∀ x,x ∈ m→x ∈ l)→FrzL H ((m.map f).flatMap A.cells) ((m.map g).flatMap A.cells) := by
      intro m
      induction m with
      | nil => intro _; simp
      | cons x m ih =>
        intro hm
        obtain ⟨h1,h2,_,_⟩ := hf x (hm x (by simp))
        simp only [List.map_cons,List.flatMap_cons]
        rw [← h2]
        have hr := ih fun y hy => hm y (by simp [hy])
        have : ∀ (c : List A) (p q : List A),c.all A.bare = true→FrzL H p q→FrzL H (c ++ p) (c.map A.soft ++ q) := by
          intro c
          induction c with
          | nil => intro p q _ hpq; exact hpq
          | cons y c ihc =>
            intro p q hc hpq
            simp only [List.all_cons,Bool.and_eq_true] at hc
            exact ⟨frz_soft hc.1,ihc p q hc.2 hpq⟩
        exact this _ _ _ h1 hr
    exact this l fun x h => h
section
variable {n0 : Nat} {w0 : World} {I0 : Nat→Prop} {Q : Exit→Sta→Prop}
end
theorem wd_in {t : T} (h : wfT t) (i : Nat) : u64R (wdT t i) := by
  unfold wdT
  rw [List.getD_eq_getElem?_getD]
  cases e : t.words[i]? with
  | none => exact ⟨by simp,by simp⟩
  | some x => exact (wfT_iff.1 h).w x (List.mem_of_getElem? e)
section
variable {n0 : Nat} {w0 : World} {I0 : Nat→Prop} {Q : Exit→Sta→Prop}
end
inductive WI where
  | keep (n : Int)
  | del (k v : Nat) (l : List T)
  | ins (k v : Nat) (l : List T)
  | desc (e : E)
def WI.op : WI→OP
  | .keep n => .mk 0 n [] E0
  | .del _ _ l => .mk 1 0 l E0
  | .ins _ _ l => .mk 2 0 l E0
  | .desc e => .mk 3 0 [] e
def rawE : List A := [iv 0,iv 0,.sl true [],.sl true [],iv 0,.sl true [],.sl true [],.sl true [],.sl true [],iv 0,.sl true []]
def wiC (r : Nat) : WI→List A
  | .keep n => iv 0 :: iv n :: .sl true [] :: rawE
  | .del k v l => iv 1 :: iv 0 :: .osl (r :: [k]) v 3 0 l.length :: rawE
  | .ins k v l => iv 2 :: iv 0 :: .osl (r :: [k]) v 3 0 l.length :: rawE
  | .desc e => iv 3 :: iv 0 :: .sl true [] :: eL e
def wiA (r : Nat) (x : WI) : A := .agg (wiC r x)
@[simp] theorem wiA_cells {r : Nat} {x : WI} : (wiA r x).cells = wiC r x := rfl
@[simp] theorem wiC_len {r : Nat} {x : WI} : (wiC r x).length = 14 := by cases x <;> rfl
theorem wiC_ren {g : Nm→Nm} {δ : Nm→Nat} {r r' : Nat} (hg : ∀ p,g (r :: p) = r' :: p) (hd : ∀ p,δ (r :: p) = 0) (x : WI) : A.renL g δ (wiC r x) = wiC r' x := by
  cases x <;> simp [wiC,rawE,A.renL,A.ren,hg,hd]
theorem wiC_refs {D : Nm→Prop} {r : Nat} (hD : ∀ p,D (r :: p)) (x : WI) : A.refsL D (wiC r x) := by
  cases x <;> simp [wiC,rawE,A.refsL,A.refs,hD]
def wtV (r : Nat) : Option (Nat × Nat × List T)→A
  | some (k,v,l) => .osl (r :: [k]) v 3 0 l.length
  | none => .sl true []
abbrev Rws := Nat→Option (Nat × List T)
def rwB : Option (Nat × List T)→VOb
  | some (v,l) => ⟨v,.arr 3 (l.map tA)⟩
  | none => ⟨0,.none⟩
theorem wtV_ren {g : Nm→Nm} {δ : Nm→Nat} {r r' : Nat} (hg : ∀ p,g (r :: p) = r' :: p) (hd : ∀ p,δ (r :: p) = 0) (o : Option (Nat × Nat × List T)) : (wtV r o).ren g δ = wtV r' o := by
  rcases o with _ | ⟨k,v,l⟩
  · simp [wtV,A.ren]
  · simp [wtV,A.ren,hg,hd]
def rowAt (R : Rws) : Nm→VOb
  | [k] => rwB (R k)
  | _ => ⟨0,.none⟩
@[simp] theorem rowAt_one {R : Rws} {k : Nat} : rowAt R [k] = rwB (R k) := rfl
theorem rwB_ren {g : Nm→Nm} {δ : Nm→Nat} (o : Option (Nat × List T)) : VOb.ren g δ 0 (rwB o) = rwB o := by
  rcases o with _ | ⟨v,l⟩
  · rfl
  · refine Fam.arr_ren ?_
    simp only [renL_map,List.map_map]
    refine List.map_congr_left fun x _ => ?_
    simp [A.ren,A.renL]
theorem rowAt_ren {g : Nm→Nm} {δ : Nm→Nat} (R : Rws) : ∀ p,VOb.ren g δ 0 (rowAt R p) = rowAt R p
  | [] => rfl
  | [k] => rwB_ren _
  | _ :: _ :: _ => rfl
theorem rwB_refs {D : Nm→Prop} (o : Option (Nat × List T)) : (rwB o).ob.refs D := by
  rcases o with _ | ⟨v,l⟩
  · trivial
  · simp only [rwB,Ob.refs,refsL_iff]
    intro y hy
    obtain ⟨x,_,rfl⟩ := List.mem_map.1 hy
    simp [A.refs,A.refsL]
theorem rowAt_refs {D : Nm→Prop} (R : Rws) : ∀ p,(rowAt R p).ob.refs D
  | [] => trivial
  | [k] => rwB_refs _
  | _ :: _ :: _ => trivial
def wlF (its : List WI) (vo : Nat) (g b : Option (Nat × Nat × List T)) (R : Rws) : Fam := ⟨fun r p => if p = [] then ⟨1,.cells [.osl (r :: [0]) vo 14 0 its.length,wtV r g,wtV r b]⟩ else if p = [0] then ⟨vo,.arr 14 (its.map (wiA r))⟩ else rowAt R p,fun {γ δ r r'} hg hd p => by
    by_cases h1 : p = []
    · rw [if_pos h1,if_pos h1]
      refine Fam.cells_ren ?_
      simp [A.renL,A.ren,hg,hd,wtV_ren hg hd]
    · rw [if_neg h1,if_neg h1]
      by_cases h2 : p = [0]
      · rw [if_pos h2,if_pos h2]
        refine Fam.arr_ren ?_
        simp only [renL_map,List.map_map]
        refine List.map_congr_left fun x _ => ?_
        simp [wiA,A.ren,wiC_ren hg hd]
      · rw [if_neg h2,if_neg h2]
        exact rowAt_ren R p,fun {D r} hD p => by
    by_cases h1 : p = []
    · rw [if_pos h1]
      rcases g with _ | ⟨k,v,l⟩ <;> rcases b with _ | ⟨k',v',l'⟩ <;> simp [Ob.refs,A.refsL,A.refs,hD,wtV]
    · rw [if_neg h1]
      by_cases h2 : p = [0]
      · rw [if_pos h2]
        simp only [Ob.refs,refsL_iff]
        intro y hy
        obtain ⟨x,_,rfl⟩ := List.mem_map.1 hy
        simp only [A.refs,wiA]
        exact wiC_refs hD x
      · rw [if_neg h2]
        exact rowAt_refs R p⟩
@[simp] theorem wlF_F {its : List WI} {vo : Nat} {g b : Option (Nat × Nat × List T)} {R : Rws} {r : Nat} {p : Nm} : (wlF its vo g b R).F r p = if p = [] then ⟨1,.cells [.osl (r :: [0]) vo 14 0 its.length,wtV r g,wtV r b]⟩ else if p = [0] then ⟨vo,.arr 14 (its.map (wiA r))⟩ else rowAt R p := rfl
abbrev wrP (r : Nat) : A := .pob [r] 1 0
theorem lens_wi {r : Nat} {l : List WI} : lens 14 (l.map (wiA r)) = true := by rw [lens_all]; simp
def delI : Nat × Nat × List T→List WI
  | (k,v,l) => if l = [] then [] else [.del k v l]
def insI22 : Nat × Nat × List T→List WI
  | (k,v,l) => if l = [] then [] else [.ins k v l]
theorem flush_spec22 (its : List WI) (vo : Nat) (g b : Nat × Nat × List T) (R : Rws) (hl : its.length≤1000000) (hg : R g.1 = some (g.2.1,g.2.2)) (hb : R b.1 = some (b.2.1,b.2.2)) (hg0 : 1≤g.1) (hb0 : 1≤b.1) : SpecF Tryz.prog 65 (fun r => [wrP r]) (wlF its vo (some g) (some b) R) (fun _ => .tup []) (wlF (its ++ (delI g ++ insI22 b)) (vo + (delI g ++ insI22 b).length) none none R) := by
  obtain ⟨gk,gv,gl⟩ := g
  obtain ⟨bk,bv',bl⟩ := b
  refine specF_of t_normal_writer_flush (by simp) (famL_cons famA_pob famL_nil) (famA_tup famL_nil) fun w0 I0 M0 m0 => ?_
  unfold c_normal_writer_flush
  by_cases h1 : gl = []
  · by_cases h2 : bl = []
    · simp [h1,h2,wtV]
      rw [k1_normal_writer_flush.eq_1]
      simp [h1,h2,wtV,updF_app]
      refine reth_famN rfl rfl (fun p => ?_)
      by_cases p1 : p = []
      · subst p1; simp [updF_app,delI,insI22,wtV]
      · by_cases p2 : p = [0]
        · subst p2; simp [updF_app,delI,insI22]
        · simp [p1,p2,updF_app]
    · have h2' : (0 : Int) < bl.length := by have := List.length_pos_iff.2 h2; omega
      have h2n := List.length_pos_iff.2 h2
      simp [h1,h2,wtV]
      rw [k1_normal_writer_flush.eq_1]
      simp [h1,h2,h2',h2n,wtV,updF_app,lens_wi]
      refine ⟨by omega,by omega,?_⟩
      refine reth_famN rfl rfl (fun p => ?_)
      by_cases p1 : p = []
      · subst p1; simp [updF_app,delI,insI22,wtV,h1,h2]
      · by_cases p2 : p = [0]
        · subst p2; simp [updF_app,delI,insI22,h1,h2,wiA,wiC,rawE,List.take_of_length_le]
        · simp [p1,p2,updF_app]
  · have h1' : (0 : Int) < gl.length := by have := List.length_pos_iff.2 h1; omega
    have h1n := List.length_pos_iff.2 h1
    by_cases h2 : bl = []
    · simp [h1,h1',h1n,h2,wtV,updF_app,lens_wi]
      refine ⟨by omega,by omega,?_⟩
      rw [k1_normal_writer_flush.eq_1]
      simp [h1,h2,wtV,updF_app]
      refine reth_famN rfl rfl (fun p => ?_)
      by_cases p1 : p = []
      · subst p1; simp [updF_app,delI,insI22,wtV,h1,h2]
      · by_cases p2 : p = [0]
        · subst p2; simp [updF_app,delI,insI22,h1,h2,wiA,wiC,rawE,List.take_of_length_le]
        · simp [p1,p2,updF_app]
    · have h2' : (0 : Int) < bl.length := by have := List.length_pos_iff.2 h2; omega
      have h2n := List.length_pos_iff.2 h2
      simp [h1,h1',h1n,h2,wtV,updF_app,lens_wi]
      refine ⟨by omega,by omega,?_⟩
      rw [k1_normal_writer_flush.eq_1]
      simp [h1,h2,h2',h2n,wtV,updF_app]
      refine ⟨by omega,⟨by omega,by omega⟩,?_⟩
      refine reth_famN rfl rfl (fun p => ?_)
      by_cases p1 : p = []
      · subst p1; simp [updF_app,delI,insI22,wtV,h1,h2]
      · by_cases p2 : p = [0]
        · subst p2; simp [updF_app,delI,insI22,h1,h2,wiA,wiC,rawE,List.take_of_length_le]
        · simp [p1,p2,updF_app]
theorem tk_at (l : List T) (x : A) : (l.map tA ++ [x])[l.length]? = some x := by rw [List.getElem?_append_right (by simp)]; simp
theorem tk_take (l : List T) : List.take l.length (l.map tA) = l.map tA := List.take_of_length_le (by simp)
theorem wait_l1 {n0 : Nat} {w0 : World} {I0 : Nat→Prop} {M0 : Nm→Nat→Prop} {m0 : Mu} {Q : Exit→Sta→Prop} {its : List WI} {vo off k : Nat} {g b : Option (Nat × Nat × List T)} {R : Rws} {ts l0 : List T} {v0 : Nat} (hts : ∀ t,t ∈ ts→wfT t) (hl : l0.length + ts.length≤1000000) (hk : 1≤k)
    (F : Nat→List T→Fam) (hF0 : ∀ v l,(F v l).F 0 [] = ⟨1,.cells [.osl [0,0] vo 14 0 its.length,if off = 1 then .osl [0,k] v 3 0 l.length else wtV 0 g,if off = 1 then wtV 0 b else .osl [0,k] v 3 0 l.length]⟩) (hoff : off = 1∨off = 2) (hFk : ∀ v l,(F v l).F 0 [k] = ⟨v,.arr 3 (l.map tA)⟩) (hFo : ∀ v l v' l' p,p ≠ []→p ≠ [k]→(F v l).F 0 p = (F v' l').F 0 p)
    (hq : ∀ H st,(∀ p,H (0 :: p) = (F (v0 + ts.length) (l0 ++ ts.map norm)).F 0 p)→Q (.exit 0) ⟨lk st,H⟩) : ∀ (m i : Nat) (H : Hp),i + m = ts.length→(∀ p,H (0 :: p) = (F (v0 + i) (l0 ++ (ts.take i).map norm)).F 0 p) →
    LoopC (cxh Tryz.prog w0 I0 M0 n0 m0) l1_normal_wait Q ⟨lk [(0,.pob [0] 1 off),(6,tKs ts),(7,iv ts.length),(8,iv i)],H⟩ := by
  intro m
  induction m with
  | zero =>
    intro i H hm hH
    refine loopC_once mixed l1_normal_wait.eq_1 ?_
    have : i = ts.length := by omega
    subst this
    rw [List.take_of_length_le (Nat.le_refl _)] at hH
    simp
    exact hq H _ hH
  | succ m ih =>
    intro i H hm hH
    have hi : i < ts.length := by omega
    have ew : IntKind.i64.wrap ((i : Int) + 1) = ((i + 1 : Nat) : Int) := by rw [i64_same (by omega) (by omega)]; omega
    have h0 := hH []
    rw [hF0] at h0
    have h1 := hH [k]
    rw [hFk] at h1
    have hN := tNorm_spec ts[i] (hts _ (List.getElem_mem hi))
    have hLs : l0 ++ (ts.take (i + 1)).map norm = l0 ++ (ts.take i).map norm ++ [norm ts[i]] := by rw [List.take_succ_eq_append_getElem hi,List.map_append,← List.append_assoc]; rfl
    have hLl : (l0 ++ (ts.take i).map norm).length≤1000000 := by simp; omega
    have next := ih (i + 1)
    rw [hLs,← Nat.add_assoc] at next
    generalize l0 ++ (ts.take i).map norm = L at *
    generalize v0 + i = v at *
    have hH' : ∀ (p : Nm) (H2 : Hp),p ≠ []→p ≠ [k]→H2 (0 :: p) = H (0 :: p)→H2 (0 :: p) = (F (v + 1) (L ++ [norm ts[i]])).F 0 p := fun p H2 p1 p2 he => by rw [he,hH,hFo _ _ _ _ p p1 p2]
    refine loopC_once mixed l1_normal_wait.eq_1 ?_
    rcases hoff with rfl | rfl
    all_goals
      simp at h0 h1
      simp [hi,updF_app,h0]
      refine sc_call hN (by simp [updF_app]) ?_
      simp [updF_app,h0,h1,show ¬ k = 0 by omega,show ¬ 0 = k by omega,tk_at,tk_take,ew]
      refine ⟨by omega,by omega,?_⟩
      refine next _ (by omega) (fun p => ?_)
      by_cases p1 : p = []
      · subst p1; rw [hF0]; simp [updF_app,show ¬ k = 0 by omega,show ¬ 0 = k by omega]
      · by_cases p2 : p = [k]
        · subst p2; rw [hFk]; simp [updF_app,show ¬ k = 0 by omega,show ¬ 0 = k by omega]
        · exact hH' p _ p1 p2 (by simp [updF_app,p1,p2,Ne.symm p1,Ne.symm p2])
def setR (R : Rws) (k : Nat) (v : Nat) (l : List T) : Rws := fun q => if q = k then some (v,l) else R q
theorem setR_same {R : Rws} {k v : Nat} {l : List T} (h : R k = some (v,l)) : setR R k v l = R := by
  funext q
  unfold setR
  split
  · rename_i e; rw [e,h]
  · rfl
theorem waitG_spec (its : List WI) (vo k v : Nat) (l : List T) (b : Option (Nat × Nat × List T)) (R : Rws) (hR : R k = some (v,l)) (hk : 1≤k) (hb : ∀ x,b = some x→x.1 ≠ k) {ts : List T} (hts : ∀ t,t ∈ ts→wfT t) (hl : l.length + ts.length≤1000000) :
    SpecF Tryz.prog 63 (fun r => [.pob [r] 1 1,tKs ts]) (wlF its vo (some (k,v,l)) b R) (fun _ => .tup []) (wlF its vo (some (k,v + ts.length,l ++ ts.map norm)) b (setR R k (v + ts.length) (l ++ ts.map norm))) := by
  refine specF_of t_normal_wait (by simp) (famL_cons famA_pob (famL_cons famA_sl famL_nil)) (famA_tup famL_nil) fun w0 I0 M0 m0 => ?_
  unfold c_normal_wait
  simp
  refine LoopC.le (le_list [(0,.pob [0] 1 1),(6,tKs ts),(7,iv ts.length),(8,iv (0 : Nat))] (by simp)) ?_
  refine wait_l1 (its := its) (vo := vo) (off := 1) (k := k) (g := none) (b := b) (R := R) (ts := ts) (l0 := l) (v0 := v) hts hl hk (fun v l => wlF its vo (some (k,v,l)) b (setR R k v l)) (fun v l => by simp [wtV]) (.inl rfl) (fun v l => by simp [rwB,setR,show ¬ k = 0 by omega]) (fun v l v' l' p p1 p2 => ?_) (fun H st hH => ?_) ts.length 0 _ (by omega) (fun p => ?_)
  · rw [wlF_F,wlF_F,if_neg p1,if_neg p1]
    split
    · rfl
    · match p with
      | [] => rfl
      | [q] => simp [setR,show ¬ q = k from fun e => p2 (by rw [e])]
      | _ :: _ :: _ => rfl
  · simp
    exact reth_famN rfl rfl hH
  · simp only [List.take_zero,List.map_nil,List.append_nil,Nat.add_zero]
    rw [setR_same hR]
    simp
theorem waitB_spec (its : List WI) (vo k v : Nat) (l : List T) (g : Option (Nat × Nat × List T)) (R : Rws) (hR : R k = some (v,l)) (hk : 1≤k) {ts : List T} (hts : ∀ t,t ∈ ts→wfT t) (hl : l.length + ts.length≤1000000) :
    SpecF Tryz.prog 63 (fun r => [.pob [r] 1 2,tKs ts]) (wlF its vo g (some (k,v,l)) R) (fun _ => .tup []) (wlF its vo g (some (k,v + ts.length,l ++ ts.map norm)) (setR R k (v + ts.length) (l ++ ts.map norm))) := by
  refine specF_of t_normal_wait (by simp) (famL_cons famA_pob (famL_cons famA_sl famL_nil)) (famA_tup famL_nil) fun w0 I0 M0 m0 => ?_
  unfold c_normal_wait
  simp
  refine LoopC.le (le_list [(0,.pob [0] 1 2),(6,tKs ts),(7,iv ts.length),(8,iv (0 : Nat))] (by simp)) ?_
  refine wait_l1 (its := its) (vo := vo) (off := 2) (k := k) (g := g) (b := none) (R := R) (ts := ts) (l0 := l) (v0 := v) hts hl hk (fun v l => wlF its vo g (some (k,v,l)) (setR R k v l)) (fun v l => by simp [wtV]) (.inr rfl) (fun v l => by simp [rwB,setR,show ¬ k = 0 by omega]) (fun v l v' l' p p1 p2 => ?_) (fun H st hH => ?_) ts.length 0 _ (by omega) (fun p => ?_)
  · rw [wlF_F,wlF_F,if_neg p1,if_neg p1]
    split
    · rfl
    · match p with
      | [] => rfl
      | [q] => simp [setR,show ¬ q = k from fun e => p2 (by rw [e])]
      | _ :: _ :: _ => rfl
  · simp
    exact reth_famN rfl rfl hH
  · simp only [List.take_zero,List.map_nil,List.append_nil,Nat.add_zero]
    rw [setR_same hR]
    simp
theorem wi_at (l : List WI) (r : Nat) (x : A) : (l.map (wiA r) ++ [x])[l.length]? = some x := by rw [List.getElem?_append_right (by simp)]; simp
theorem wi_take (l : List WI) (r : Nat) : List.take l.length (l.map (wiA r)) = l.map (wiA r) := List.take_of_length_le (by simp)
theorem wi_take1 (l : List WI) (r : Nat) (x : A) : List.take (l.length + 1) (l.map (wiA r) ++ [x]) = l.map (wiA r) ++ [x] := List.take_of_length_le (by simp)
theorem delI_len : ∀ g,(delI g).length≤1
  | (a,b,c) => by
    by_cases h : c = [] <;> simp [delI,h]
theorem insI22_len : ∀ g,(insI22 g).length≤1
  | (a,b,c) => by
    by_cases h : c = [] <;> simp [insI22,h]
theorem keepM_spec (its i0 : List WI) (vo : Nat) (m n : Int) (g b : Nat × Nat × List T) (R : Rws) (hl : its.length≤1000000) (hg : R g.1 = some (g.2.1,g.2.2)) (hb : R b.1 = some (b.2.1,b.2.2)) (hg0 : 1≤g.1) (hb0 : 1≤b.1) (hi : its ++ (delI g ++ insI22 b) = i0 ++ [.keep m]) : SpecF Tryz.prog 62 (fun r => [wrP r,iv n]) (wlF its vo (some g) (some b) R) (fun _ => .tup []) (wlF (i0 ++ [.keep (IntKind.i64.wrap (m + n))]) (vo + (delI g ++ insI22 b).length) none none R) := by
  have F1 := flush_spec22 its vo g b R hl hg hb hg0 hb0
  rw [hi] at F1
  have hlen : i0.length≤1000002 := by
    have e := congrArg List.length hi
    have := delI_len g
    have := insI22_len b
    simp at e
    omega
  generalize vo + (delI g ++ insI22 b).length = v at *
  have e1 : IntKind.i64.wrap (i0.length : Int) = i0.length := i64_same (by omega) (by omega)
  refine specF_of t_normal_writer_keep (by simp) (famL_cons famA_pob (famL_cons famA_v famL_nil)) (famA_tup famL_nil) fun w0 I0 M0 m0 => ?_
  unfold c_normal_writer_keep
  simp
  refine sc_fam 0 F1 (fun p => by simp) (by simp) (by simp) ?_
  simp [e1,wi_at,wiA,wiC]
  refine ⟨by omega,rfl,?_⟩
  refine reth_fam rfl rfl (fun p => ?_)
  by_cases p1 : p = []
  · subst p1; simp [updF_app,wtV]
  · by_cases p2 : p = [0]
    · subst p2; simp [updF_app,wiA,wiC,rawE,A.remake,wi_take1]
    · simp [p1,p2,updF_app]
theorem keepA_spec (its : List WI) (vo : Nat) (n : Int) (g b : Nat × Nat × List T) (R : Rws) (hl : its.length≤1000000) (hg : R g.1 = some (g.2.1,g.2.2)) (hb : R b.1 = some (b.2.1,b.2.2)) (hg0 : 1≤g.1) (hb0 : 1≤b.1) (hi : its ++ (delI g ++ insI22 b) = []∨∃ i0 x,its ++ (delI g ++ insI22 b) = i0 ++ [x]∧x.op.kind ≠ 0) : SpecF Tryz.prog 62 (fun r => [wrP r,iv n]) (wlF its vo (some g) (some b) R) (fun _ => .tup []) (wlF (its ++ (delI g ++ insI22 b) ++ [.keep n]) (vo + (delI g ++ insI22 b).length + 1) none none R) := by
  have F1 := flush_spec22 its vo g b R hl hg hb hg0 hb0
  have hlen : (its ++ (delI g ++ insI22 b)).length≤1000002 := by
    have := delI_len g
    have := insI22_len b
    simp
    omega
  generalize vo + (delI g ++ insI22 b).length = v at *
  generalize its ++ (delI g ++ insI22 b) = J at *
  refine specF_of t_normal_writer_keep (by simp) (famL_cons famA_pob (famL_cons famA_v famL_nil)) (famA_tup famL_nil) fun w0 I0 M0 m0 => ?_
  unfold c_normal_writer_keep
  simp
  refine sc_fam 0 F1 (fun p => by simp) (by simp) (by simp) ?_
  rcases hi with rfl | ⟨i0,x,rfl,hx⟩
  · simp [updF_app,show IntKind.i64.wrap (-1) = -1 from rfl]
    refine reth_famN rfl rfl (fun p => ?_)
    by_cases p1 : p = []
    · subst p1; simp [updF_app,wtV]
    · by_cases p2 : p = [0]
      · subst p2; simp [updF_app,wiA,wiC,rawE,A.remake,wi_take1]
      · simp [p1,p2,updF_app]
  · simp at hlen
    have e1 : IntKind.i64.wrap (i0.length : Int) = i0.length := i64_same (by omega) (by omega)
    cases x with
    | keep m => exact absurd rfl hx
    | del a b c =>
      simp [e1,wi_at,wiA,wiC,updF_app]
      refine ⟨by omega,by omega,⟨by omega,by omega⟩,?_⟩
      refine reth_famN rfl rfl (fun p => ?_)
      by_cases p1 : p = []
      · subst p1; simp [updF_app,wtV]
      · by_cases p2 : p = [0]
        · subst p2; simp [updF_app,wiA,wiC,rawE,A.remake,wi_take1]
        · simp [p1,p2,updF_app]
    | ins a b c =>
      simp [e1,wi_at,wiA,wiC,updF_app]
      refine ⟨by omega,by omega,⟨by omega,by omega⟩,?_⟩
      refine reth_famN rfl rfl (fun p => ?_)
      by_cases p1 : p = []
      · subst p1; simp [updF_app,wtV]
      · by_cases p2 : p = [0]
        · subst p2; simp [updF_app,wiA,wiC,rawE,A.remake,wi_take1]
        · simp [p1,p2,updF_app]
    | desc e =>
      simp [e1,wi_at,wiA,wiC,updF_app]
      refine ⟨by omega,by omega,⟨by omega,by omega⟩,?_⟩
      refine reth_famN rfl rfl (fun p => ?_)
      by_cases p1 : p = []
      · subst p1; simp [updF_app,wtV]
      · by_cases p2 : p = [0]
        · subst p2; simp [updF_app,wiA,wiC,rawE,A.remake,wi_take1]
        · simp [p1,p2,updF_app]
def WI.row : WI→Option (Nat × Nat × List T)
  | .del k v l => some (k,v,l)
  | .ins k v l => some (k,v,l)
  | _ => none
def ItR (R : Rws) (its : List WI) : Prop := ∀ x,x ∈ its→∀ k v l,x.row = some (k,v,l)→R k = some (v,l)∧1≤k
theorem le_wr {c : Cx} {s : Nat→A} {H : Hp} {its : List WI} {v K : Nat} {R : Rws} (hH : ∀ p,H (0 :: p) = (wlF its v none none R).F 0 p) (hK : ∀ q,K≤q→R q = none) (hK1 : 1≤K) : ∃ H',Le c ⟨s,H⟩ ⟨s,H'⟩∧(∀ p,H' (0 :: p) = (wlF its v (some (K,1,[])) (some (K + 1,1,[])) (setR (setR R K 1 []) (K + 1) 1 [])).F 0 p) := by
  have h0 := hH []
  simp [wtV] at h0
  have hK0 : H [0,K] = ⟨0,.none⟩ := by rw [hH]; simp [show ¬ K = 0 by omega,hK K (Nat.le_refl _),rwB]
  have hK2 : H [0,K + 1] = ⟨0,.none⟩ := by rw [hH]; simp [hK (K + 1) (by omega),rwB]
  have l1 := le_blankC (c := c) (s := s) (H := H) (d := [0]) (u := 1) (cs := [.osl [0,0] v 14 0 its.length,.sl true [],.sl true []]) 1 [0,K] 3 h0 rfl (by simp)
  refine ⟨_,l1.trans (le_blankC (d := [0]) (u := 1) (cs := [.osl [0,0] v 14 0 its.length,.osl [0,K] 1 3 0 0,.sl true []]) 2 [0,K + 1] 3 (by simp [updF_app,hK0]) rfl (by simp)),fun p => ?_⟩
  by_cases p1 : p = []
  · subst p1; simp [updF_app,wtV,hK0,hK2]
  · by_cases p2 : p = [0]
    · subst p2; simp [updF_app,hH,show ¬ 0 = K by omega]
    · match p,p1,p2 with
      | [q],p1,p2 =>
        have hq0 : ¬ q = 0 := fun e => p2 (by rw [e])
        by_cases e1 : q = K
        · subst e1; simp [updF_app,setR,rwB,hK0,hq0]
        · by_cases e2 : q = K + 1
          · subst e2; simp [updF_app,setR,rwB,hK2]
          · simp [updF_app,setR,hH,e1,e2,hq0]
      | _ :: _ :: _,p1,p2 => simp [updF_app,hH,rowAt]
theorem frz_wi {H : Hp} {R : Rws} {its : List WI} {v : Nat} {g b : Option (Nat × Nat × List T)} (hH : ∀ p,H (0 :: p) = (wlF its v g b R).F 0 p) (x : WI) (hx : ∀ k v l,x.row = some (k,v,l)→R k = some (v,l)∧1≤k) : FrzL H (wiC 0 x) (oA x.op).cells := by
  have key : ∀ k v' l,x.row = some (k,v',l)→Frz H (.osl [0,k] v' 3 0 l.length) (tKs l) := fun k v' l h => by
    obtain ⟨h1,h2⟩ := hx k v' l h
    have := hH [k]
    simp [show ¬ k = 0 by omega,h1,rwB] at this
    exact frz_row (f := tA) (by rw [this]; simp) rfl (by simp)
  have hraw : FrzL H rawE (eL E0) := ⟨frz_bare rfl,frz_bare rfl,frz_sl,frz_sl,frz_bare rfl,frz_sl,frz_sl,frz_sl,frz_sl,frz_bare rfl,frz_sl,trivial⟩
  rw [oA_eq]
  cases x with
  | keep n => exact ⟨frz_bare rfl,frz_bare rfl,frz_sl,hraw⟩
  | del k v' l => exact ⟨frz_bare rfl,frz_bare rfl,key k v' l rfl,hraw⟩
  | ins k v' l => exact ⟨frz_bare rfl,frz_bare rfl,key k v' l rfl,hraw⟩
  | desc e => exact ⟨frz_bare rfl,frz_bare rfl,frz_sl,frz_bare rfl,frz_bare rfl,frz_bare rfl,frz_bare rfl,frz_bare rfl,frz_bare rfl,frz_bare rfl,frz_bare rfl,frz_bare rfl,frz_bare rfl,frz_bare rfl,trivial⟩
theorem frzL_app {H : Hp} : ∀ {a b a' b' : List A},FrzL H a a'→FrzL H b b'→a.length = a'.length→FrzL H (a ++ b) (a' ++ b')
  | [],b,[],b',_,h,_ => h
  | x :: a,b,y :: a',b',h1,h,hl => ⟨h1.1,frzL_app h1.2 h (by simpa using hl)⟩
  | [],b,y :: a',b',_,_,hl => by simp at hl
  | x :: a,b,[],b',_,_,hl => by simp at hl
theorem frz_wis {H : Hp} {R : Rws} {its : List WI} {v : Nat} {g b : Option (Nat × Nat × List T)} (hH : ∀ p,H (0 :: p) = (wlF its v g b R).F 0 p) (hx : ItR R its) : Frz H (.osl [0,0] v 14 0 its.length) (oKs (its.map WI.op)) := by
  have h1 := hH [0]
  simp at h1
  refine frz_osl' (o := [0,0]) (u := v) (off := 0) (len := its.length) (sz := 14) (xs := its.map (wiA 0)) (ys := (its.map WI.op).map oA) (by rw [getR_at,h1]; simp) (by simp) (by simp) (fun y hy => by
    obtain ⟨x,_,rfl⟩ := List.mem_map.1 hy
    simp) ?_ ?_
  · have : ∀ l : List OP,A.ones ((l.map oA).flatMap A.cells) = true := fun l => by
      induction l with
      | nil => rfl
      | cons x l ih => simp [A.ones] at ih ⊢
    exact this _
  · rw [List.drop_zero,List.take_of_length_le (by simp),List.map_map]
    have : ∀ l : List WI,(∀ x,x ∈ l→x ∈ its)→FrzL H ((l.map (wiA 0)).flatMap A.cells) ((l.map (oA ∘ WI.op)).flatMap A.cells) := fun l hl => by
      induction l with
      | nil => trivial
      | cons x l ih =>
        simp only [List.map_cons,List.flatMap_cons]
        exact frzL_app (frz_wi hH x fun k v l h => hx x (hl x (by simp)) k v l h) (ih fun y hy => hl y (by simp [hy])) (by simp)
    exact this its fun x h => h
theorem idle_spec (list : Int) (e : E) (h1 : e.words.length≤100000000000000) (h2 : e.kids.length≤100000000000000) : G.Spec Tryz.prog 64 [iv list,eX e] (bv (idleE list e)) := by
  have e1 : IntKind.i64.wrap ((e.words.length : Int) + e.kids.length) = ((e.words.length + e.kids.length : Nat) : Int) := by rw [i64_same (by omega) (by omega)]; omega
  refine spec_of t_normal_Idle (by simp) fun w0 I0 => ?_
  unfold c_normal_Idle
  by_cases k0 : e.kind = 0
  · simp [k0,idleE]
    exact frz_bare rfl
  · by_cases k9 : list = 9
    · by_cases k2 : e.kind = 2
      · simp [k0,k9,k2,idleE,e1]
        refine frz_bool ?_
        rw [Bool.eq_iff_iff]
        simp only [decide_eq_true_eq,Bool.and_eq_true,List.isEmpty_iff]
        constructor
        · intro h
          exact ⟨List.eq_nil_of_length_eq_zero (by omega),List.eq_nil_of_length_eq_zero (by omega)⟩
        · rintro ⟨h1,h2⟩
          rw [h1,h2]; rfl
      · simp [k0,k9,k2,idleE]
        exact frz_bare rfl
    · simp [k0,k9,idleE]
      exact frz_bare rfl
theorem flO_map (its : List WI) (g b : Nat × Nat × List T) : (its ++ (delI g ++ insI22 b)).map WI.op = flO (its.map WI.op) g.2.2 b.2.2 := by
  obtain ⟨a,c,l⟩ := g
  obtain ⟨a',c',l'⟩ := b
  by_cases h1 : l = [] <;> by_cases h2 : l' = [] <;> simp [delI,insI22,flO,delO,insO,h1,h2,WI.op]
theorem last_wi (J : List WI) : (∃ i0 m,J = i0 ++ [.keep m])∨(J = []∨∃ i0 x,J = i0 ++ [x]∧x.op.kind ≠ 0) := by
  rcases List.eq_nil_or_concat J with h | ⟨i0,x,h⟩
  · exact .inr (.inl h)
  · rw [List.concat_eq_append] at h
    cases x with
    | keep m => exact .inl ⟨i0,m,h⟩
    | del a b c => exact .inr (.inr ⟨i0,.del a b c,h,by simp [WI.op]⟩)
    | ins a b c => exact .inr (.inr ⟨i0,.ins a b c,h,by simp [WI.op]⟩)
    | desc e => exact .inr (.inr ⟨i0,.desc e,h,by simp [WI.op]⟩)
theorem kpO_keep (l : List OP) (m n : Int) (t : List T) (e : E) : kpO (l ++ [.mk 0 m t e]) n = l ++ [.mk 0 (IntKind.i64.wrap (m + n)) t e] := by simp [kpO]
theorem kpO_nil (n : Int) : kpO [] n = [.mk 0 n [] E0] := rfl
theorem kpO_else (l : List OP) (x : OP) (n : Int) (h : x.kind ≠ 0) : kpO (l ++ [x]) n = l ++ [x] ++ [.mk 0 n [] E0] := by
  obtain ⟨k,m,t,e⟩ := x
  unfold kpO
  rw [List.getLast?_append]
  simp only [List.getLast?_singleton,Option.some_or]
  split
  · rename_i h2; injection h2 with h2; injection h2 with h2; exact absurd h2 h
  · rfl
structure WrI (its : List WI) (g b : Nat × Nat × List T) (R : Rws) (K : Nat) : Prop where
  g1 : 1≤g.1
  b1 : 1≤b.1
  gb : g.1 ≠ b.1
  gK : g.1 < K
  bK : b.1 < K
  Rg : R g.1 = some (g.2.1,g.2.2)
  Rb : R b.1 = some (b.2.1,b.2.2)
  rK : ∀ q,K≤q→R q = none
  it : ItR R its
  ng : ∀ x,x ∈ its→∀ k v l,x.row = some (k,v,l)→k ≠ g.1∧k ≠ b.1
theorem WrI.flushed {its : List WI} {g b : Nat × Nat × List T} {R : Rws} {K : Nat} (h : WrI its g b R K) : ItR R (its ++ (delI g ++ insI22 b)) := by
  intro x hx k v l hr
  rcases List.mem_append.1 hx with hx | hx
  · exact h.it x hx k v l hr
  · rcases List.mem_append.1 hx with hx | hx
    · obtain ⟨a,c,d⟩ := g
      by_cases e : d = [] <;> simp [delI,e] at hx
      subst hx
      simp [WI.row] at hr
      obtain ⟨rfl,rfl,rfl⟩ := hr
      exact ⟨h.Rg,h.g1⟩
    · obtain ⟨a,c,d⟩ := b
      by_cases e : d = [] <;> simp [insI22,e] at hx
      subst hx
      simp [WI.row] at hr
      obtain ⟨rfl,rfl,rfl⟩ := hr
      exact ⟨h.Rb,h.b1⟩
theorem keep_all {its : List WI} {g b : Nat × Nat × List T} {R : Rws} {K : Nat} (h : WrI its g b R K) (hl : its.length≤1000000) (vo : Nat) (n : Int) : ∃ its2 v2,SpecF Tryz.prog 62 (fun r => [wrP r,iv n]) (wlF its vo (some g) (some b) R) (fun _ => .tup []) (wlF its2 v2 none none R)∧its2.map WI.op = kpO (flO (its.map WI.op) g.2.2 b.2.2) n∧its2.length≤its.length + 3∧ItR R its2 := by
  have hF := h.flushed
  have d1 := delI_len g
  have d2 := insI22_len b
  rcases last_wi (its ++ (delI g ++ insI22 b)) with ⟨i0,m,hi⟩ | hi
  · have hlen := congrArg List.length hi
    simp at hlen
    refine ⟨_,_,keepM_spec its i0 vo m n g b R hl h.Rg h.Rb h.g1 h.b1 hi,?_,?_,?_⟩
    · rw [← flO_map,hi]
      simp [WI.op,kpO_keep]
    · simp; omega
    · rw [hi] at hF
      intro x hx k v l hr
      rcases List.mem_append.1 hx with hx | hx
      · exact hF x (by simp [hx]) k v l hr
      · simp at hx; subst hx; simp [WI.row] at hr
  · refine ⟨_,_,keepA_spec its vo n g b R hl h.Rg h.Rb h.g1 h.b1 hi,?_,?_,?_⟩
    · rw [← flO_map]
      rcases hi with hi | ⟨i0,x,hi,hx⟩
      · rw [hi]; simp [kpO_nil,WI.op]
      · rw [hi]
        simp only [List.map_append,List.map_cons,List.map_nil]
        rw [kpO_else _ _ _ hx]
        simp [WI.op]
    · simp; omega
    · intro x hx k v l hr
      rcases List.mem_append.1 hx with hx | hx
      · exact hF x hx k v l hr
      · simp at hx; subst hx; simp [WI.row] at hr
structure OpG (o : OP) : Prop where
  k : o.kind = 0∨o.kind = 1∨o.kind = 2∨o.kind = 3
  l : ∀ t,t ∈ o.l→wfT t
  e : o.kind = 3→G.Spec Tryz.prog 25 [eX o.e] (eX (nEd o.e))∧(nEd o.e).words.length≤100000000000000∧(nEd o.e).kids.length≤100000000000000
def sumO (os : List OP) : Nat := (os.map fun o => o.l.length).sum
theorem sumO_cons (o : OP) (os : List OP) : sumO (o :: os) = o.l.length + sumO os := by simp [sumO]
section
variable {n0 : Nat} {w0 : World} {I0 : Nat→Prop} {Q : Exit→Sta→Prop}
theorem ops_l1 {list : Int} {os : List OP} (hos : ∀ o,o ∈ os→OpG o) (hol : os.length≤300000) {res : List OP}
    (hq : ∀ (H : Hp) (its : List WI) (v : Nat) (g b : Nat × Nat × List T) (R : Rws) (K : Nat) st,(∀ p,H (0 :: p) = (wlF its v (some g) (some b) R).F 0 p)→WrI its g b R K→flO (its.map WI.op) g.2.2 b.2.2 = res→its.length≤1000000→Q (.exit 0) ⟨lk ([(0,iv list),(5,wrP 0)] ++ st),H⟩) : ∀ (m i : Nat) (its : List WI) (v : Nat) (g b : Nat × Nat × List T) (R : Rws) (K : Nat) (H : Hp),i + m = os.length→its.length≤3 * i→g.2.2.length + b.2.2.length + sumO (os.drop i)≤1000000→WrI its g b R K→(∀ p,H (0 :: p) = (wlF its v (some g) (some b) R).F 0 p)→opsW list ((os.drop i).map nOP) (its.map WI.op) g.2.2 b.2.2 = res →
    LoopC (cx Tryz.prog w0 I0 n0) l1_normal_Ops Q ⟨lk [(0,iv list),(5,wrP 0),(11,oKs os),(12,iv os.length),(13,iv i)],H⟩ := by
  intro m
  induction m with
  | zero =>
    intro i its v g b R K H hm hil hsum hW hH hres
    refine loopC_once mixed l1_normal_Ops.eq_1 ?_
    have : i = os.length := by omega
    subst this
    rw [List.drop_length,List.map_nil,opsW] at hres
    simp
    exact hq H its v g b R K [(11,oKs os),(12,iv os.length),(13,iv os.length),(14,bv false)] hH hW hres (by omega)
  | succ m ih =>
    intro i its v g b R K H hm hil hsum hW hH hres
    have hi : i < os.length := by omega
    have ew : IntKind.i64.wrap ((i : Int) + 1) = ((i + 1 : Nat) : Int) := by rw [i64_same (by omega) (by omega)]; omega
    have hd : os.drop i = os[i] :: os.drop (i + 1) := (List.getElem_cons_drop hi).symm
    have hO := hos _ (List.getElem_mem hi)
    rw [hd,List.map_cons,opsW] at hres
    rw [hd,sumO_cons] at hsum
    have hoi : (os.map oA)[i]? = some (oX os[i]) := by simp [hi]
    generalize ho : os[i] = o at *
    have hnk : (nOP o).kind = o.kind := rfl
    have hnn : (nOP o).n = o.n := rfl
    have hnl : (nOP o).l = o.l := rfl
    have hne : (nOP o).e = nEd o.e := rfl
    rw [hnk,hnn,hnl,hne] at hres
    -- what goes on when all is laid
    have next : ∀ (its2 : List WI) (v2 : Nat) (H2 : Hp),its2.length≤its.length + 3→(∀ p,H2 (0 :: p) = (wlF its2 v2 none none R).F 0 p)→ItR R its2→opsW list ((os.drop (i + 1)).map nOP) (its2.map WI.op) [] [] = res→LoopC (cx Tryz.prog w0 I0 n0) l1_normal_Ops Q ⟨lk [(0,iv list),(5,wrP 0),(11,oKs os),(12,iv os.length),(13,iv (i + 1 : Nat))],H2⟩ := fun its2 v2 H2 h1 h2 h3 h4 => by
      obtain ⟨H3,hle,hF⟩ := le_wr (c := cx Tryz.prog w0 I0 n0) (s := lk [(0,iv list),(5,wrP 0),(11,oKs os),(12,iv os.length),(13,iv (i + 1 : Nat))]) h2 hW.rK (by have := hW.gK; omega)
      refine LoopC.le hle ?_
      refine ih (i + 1) its2 v2 (K,1,[]) (K + 1,1,[]) _ (K + 2) H3 (by omega) (by omega) (by simp; omega) ?_ hF h4
      have hg := hW.g1
      have hgK := hW.gK
      refine ⟨by simp; omega,by simp,by simp,by simp,by simp,by simp [setR],by simp [setR],fun q hq => ?_,fun x hx k v' l hr => ?_,fun x hx k v' l hr => ?_⟩
      · simp [setR,show ¬ q = K + 1 by omega,show ¬ q = K by omega]
        exact hW.rK q (by omega)
      · obtain ⟨a1,a2⟩ := h3 x hx k v' l hr
        have hkK : k < K := by
          by_cases e : K≤k
          · rw [hW.rK k e] at a1; cases a1
          · omega
        exact ⟨by simp [setR,show ¬ k = K + 1 by omega,show ¬ k = K by omega,a1],a2⟩
      · obtain ⟨a1,a2⟩ := h3 x hx k v' l hr
        have hkK : k < K := by
          by_cases e : K≤k
          · rw [hW.rK k e] at a1; cases a1
          · omega
        exact ⟨by simp; omega,by simp; omega⟩
    refine loopC_once mixed l1_normal_Ops.eq_1 ?_
    rcases hO.k with h0 | h0 | h0 | h0
    · rw [if_pos h0] at hres
      obtain ⟨its2,v2,S1,S2,S3,S4⟩ := keep_all hW (by omega) v o.n
      rw [← S2] at hres
      simp [hi,ho,h0,updF_app]
      refine sc_fam 0 S1 (fun p => by simp [updF_app,hH]) (by simp) (by simp) ?_
      simp [ew]
      exact next its2 v2 _ S3 (fun p => by simp) S4 hres
    · rw [if_neg (by omega),if_pos h0] at hres
      have hF := waitG_spec its v g.1 g.2.1 g.2.2 (some b) R hW.Rg hW.g1 (fun x hx => by cases hx; exact Ne.symm hW.gb) hO.l (by omega)
      simp [hi,ho,h0,updF_app]
      refine sc_fam 0 hF (fun p => by simp [updF_app,hH]) (by simp) (by simp) ?_
      simp [ew]
      refine ih (i + 1) its v (g.1,g.2.1 + o.l.length,g.2.2 ++ o.l.map norm) b (setR R g.1 (g.2.1 + o.l.length) (g.2.2 ++ o.l.map norm)) K _ (by omega) (by omega) (by simp; omega) ?_ (fun p => by simp) hres
      have w1 := hW.g1
      have w2 := hW.gK
      refine ⟨hW.g1,hW.b1,hW.gb,hW.gK,hW.bK,by simp [setR],?_,fun q hq => ?_,fun x hx k v' l hr => ?_,fun x hx k v' l hr => hW.ng x hx k v' l hr⟩
      · simp only [setR,if_neg (Ne.symm hW.gb)]; exact hW.Rb
      · simp only [setR,if_neg (show ¬ q = g.1 by omega)]; exact hW.rK q hq
      · obtain ⟨a1,a2⟩ := hW.it x hx k v' l hr
        exact ⟨by simp only [setR,if_neg (hW.ng x hx k v' l hr).1]; exact a1,a2⟩
    · rw [if_neg (by omega),if_neg (by omega),if_pos h0] at hres
      have hF := waitB_spec its v b.1 b.2.1 b.2.2 (some g) R hW.Rb hW.b1 hO.l (by omega)
      simp [hi,ho,h0,updF_app]
      refine sc_fam 0 hF (fun p => by simp [updF_app,hH]) (by simp) (by simp) ?_
      simp [ew]
      refine ih (i + 1) its v g (b.1,b.2.1 + o.l.length,b.2.2 ++ o.l.map norm) (setR R b.1 (b.2.1 + o.l.length) (b.2.2 ++ o.l.map norm)) K _ (by omega) (by omega) (by simp; omega) ?_ (fun p => by simp) hres
      have w2 := hW.bK
      refine ⟨hW.g1,hW.b1,hW.gb,hW.gK,hW.bK,?_,by simp [setR],fun q hq => ?_,fun x hx k v' l hr => ?_,fun x hx k v' l hr => hW.ng x hx k v' l hr⟩
      · simp only [setR,if_neg hW.gb]; exact hW.Rg
      · simp only [setR,if_neg (show ¬ q = b.1 by omega)]; exact hW.rK q hq
      · obtain ⟨a1,a2⟩ := hW.it x hx k v' l hr
        exact ⟨by simp only [setR,if_neg (hW.ng x hx k v' l hr).2]; exact a1,a2⟩
    · rw [if_neg (by omega),if_neg (by omega),if_neg (by omega)] at hres
      obtain ⟨E1,E2,E3⟩ := hO.e h0
      have hI := idle_spec list (nEd o.e) E2 E3
      simp [hi,ho,h0,updF_app]
      refine sc_call E1 (by simp) ?_
      simp [updF_app]
      refine sc_call hI (by simp) ?_
      cases hid : idleE list (nEd o.e) with
      | true =>
        rw [if_pos hid] at hres
        obtain ⟨its2,v2,S1,S2,S3,S4⟩ := keep_all hW (by omega) v 1
        rw [← S2] at hres
        simp
        refine sc_fam 0 S1 (fun p => by simp [updF_app,hH]) (by simp) (by simp) ?_
        simp [ew]
        exact next its2 v2 _ S3 (fun p => by simp) S4 hres
      | false =>
        rw [if_neg (by rw [hid]; decide),← flO_map] at hres
        have F1 := flush_spec22 its v g b R (by omega) hW.Rg hW.Rb hW.g1 hW.b1
        have d1 := delI_len g
        have d2 := insI22_len b
        simp
        refine sc_fam 0 F1 (fun p => by simp [updF_app,hH]) (by simp) (by simp) ?_
        have hJl : (its ++ (delI g ++ insI22 b)).length≤its.length + 2 := by simp; omega
        have hJr := hW.flushed
        have next' := next (its ++ (delI g ++ insI22 b) ++ [.desc (nEd o.e)]) (v + (delI g ++ insI22 b).length + 1)
        generalize its ++ (delI g ++ insI22 b) = J at *
        generalize v + (delI g ++ insI22 b).length = v1 at *
        simp [updF_app,lens_wi,wi_take,wi_at,ew]
        refine ⟨by omega,by omega,?_⟩
        refine next' _ (by simp; omega) (fun p => ?_) (fun x hx k v' l hr => ?_) ?_
        · by_cases p1 : p = []
          · subst p1; simp [updF_app,wtV]
          · by_cases p2 : p = [0]
            · subst p2; simp [updF_app,wiA,wiC]
            · simp [p1,p2,updF_app]
        · rcases List.mem_append.1 hx with hx | hx
          · exact hJr x hx k v' l hr
          · simp at hx; subst hx; simp [WI.row] at hr
        · simpa [WI.op] using hres
end
theorem pOps22_spec {list : Int} {os : List OP} (hos : ∀ o,o ∈ os→OpG o) (hol : os.length≤300000) (hsum : sumO os≤1000000) : G.Spec Tryz.prog 41 [iv list,oKs os] (oKs (opsW list (os.map nOP) [] [] [])) := by
  refine spec_of t_normal_Ops (by simp) fun w0 I0 => ?_
  unfold c_normal_Ops
  simp
  refine LoopC.le (le_blankC (d := [0]) (u := 1) (cs := [.sl true [],.sl true [],.sl true []]) 0 [0,0] 14 rfl rfl (by simp)) ?_
  obtain ⟨H3,hle,hF⟩ := le_wr (c := cx Tryz.prog w0 I0 72) (s := lk [(0,iv list),(5,wrP 0),(11,oKs os),(12,iv os.length),(13,iv (0 : Nat))]) (H := updF (updF (lkH [([0],⟨1,.cells [.sl true [],.sl true [],.sl true []]⟩)]) [0,0] ⟨1,.arr 14 []⟩) [0] ⟨1,.cells [.osl [0,0] 1 14 0 0,.sl true [],.sl true []]⟩) (its := []) (v := 1) (K := 1) (R := fun _ => none) (fun p => by
    by_cases p1 : p = []
    · subst p1; simp [updF_app,wtV]
    · by_cases p2 : p = [0]
      · subst p2; simp [updF_app]
      · match p,p1,p2 with
        | [q],p1,p2 =>
          have hq0 : ¬ q = 0 := fun e => p2 (by rw [e])
          simp [updF_app,rwB,hq0,Ne.symm hq0]
        | _ :: _ :: _,p1,p2 => simp [updF_app,rowAt]) (fun q _ => rfl) (by omega)
  refine LoopC.le hle ?_
  refine ops_l1 hos hol (res := opsW list (os.map nOP) [] [] []) (fun H its v g b R K st hH hW hres hil => ?_) os.length 0 [] 1 (1,1,[]) (1 + 1,1,[]) _ 3 H3 (by omega) (by simp) (by simpa using hsum) ?_ hF (by simp)
  · have F1 := flush_spec22 its v g b R hil hW.Rg hW.Rb hW.g1 hW.b1
    have hJr := hW.flushed
    have hm := flO_map its g b
    rw [hres] at hm
    simp
    refine sc_fam 0 F1 hH (by simp) (by simp) ?_
    simp
    rw [← hm]
    have := frz_wis (H := ov 0 ((wlF (its ++ (delI g ++ insI22 b)) (v + (delI g ++ insI22 b).length) none none R).F 0) H) (its := its ++ (delI g ++ insI22 b)) (v := v + (delI g ++ insI22 b).length) (g := none) (b := none) (R := R) (fun p => by simp) hJr
    simpa using this
  · refine ⟨by simp,by simp,by simp,by simp,by simp,by simp [setR],by simp [setR],fun q hq => ?_,fun x hx => by simp at hx,fun x hx => by simp at hx⟩
    simp [setR,show ¬ q = 1 by omega,show ¬ q = 2 by omega]
mutual
def nOk : E→Prop
  | .mk k o n ws ks l os => (k = 0∨k = 1∨k = 2∨k = 3)∧(k ≠ 3→l = 0)∧(k = 1→wfT o∧wfT n)∧ws.length≤1000000∧ks.length≤1000000∧os.length≤300000∧sumO os≤1000000∧(k = 2→nOkK ks)∧(k = 3→nOkO os)
def nOkK : List KE→Prop
  | [] => True
  | .mk a e :: l => nOk e∧nOkK l
def nOkO : List OP→Prop
  | [] => True
  | .mk k n t e :: l => ((k = 0∨k = 1∨k = 2∨k = 3)∧(∀ x,x ∈ t→wfT x)∧(k = 3→nOk e))∧nOkO l
end
theorem nOkK_all : ∀ {l : List KE},nOkK l→∀ x,x ∈ l→nOk x.e
  | [],_,x,hx => by simp at hx
  | .mk a e :: l,h,x,hx => by
    rw [nOkK] at h
    rcases List.mem_cons.1 hx with rfl | hx
    · exact h.1
    · exact nOkK_all h.2 x hx
theorem nOkO_all : ∀ {l : List OP},nOkO l→∀ x,x ∈ l→(x.kind = 0∨x.kind = 1∨x.kind = 2∨x.kind = 3)∧(∀ t,t ∈ x.l→wfT t)∧(x.kind = 3→nOk x.e)
  | [],_,x,hx => by simp at hx
  | .mk k n t e :: l,h,x,hx => by
    rw [nOkO] at h
    rcases List.mem_cons.1 hx with rfl | hx
    · exact h.1
    · exact nOkO_all h.2 x hx
theorem nEd_size (e : E) (h : nOk e) : (nEd e).words.length≤100000000000000∧(nEd e).kids.length≤100000000000000 := by
  obtain ⟨k,o,n,ws,ks,l,os⟩ := e
  rw [nOk] at h
  rw [nEd_mk]
  split
  · simp
  · split
    · simp; omega
    · split <;> simp
section
variable {n0 : Nat} {w0 : World} {I0 : Nat→Prop} {Q : Exit→Sta→Prop}
theorem nedit_l1 {ks : List KE} (hl : ks.length≤1000000) (hk : ∀ x,x ∈ ks→G.Spec Tryz.prog 25 [eX x.e] (eX (nEd x.e))) {v1 v3 : VOb} {W : A}
    (hq : ∀ H u st,H [1] = v1→H [3] = v3→H [2] = ⟨1,.cells [iv 2,iv 0,.sl true [],.sl true [],iv 0,.sl true [],.sl true [],W,.osl [5] u 12 0 ks.length,iv 0,.sl true []]⟩→H [5] = ⟨u,.arr 12 (ks.map (kA ∘ nKE))⟩→Q (.exit 1) ⟨lk ([(2,.pob [1] 1 0),(3,.pob [2] 1 0)] ++ st),H⟩) : ∀ (m i u : Nat) (H : Hp),i + m = ks.length→H [1] = v1→H [3] = v3→H [2] = ⟨1,.cells [iv 2,iv 0,.sl true [],.sl true [],iv 0,.sl true [],.sl true [],W,.osl [5] u 12 0 i,iv 0,.sl true []]⟩→H [5] = ⟨u,.arr 12 ((ks.take i).map (kA ∘ nKE))⟩ →
    LoopC (cx Tryz.prog w0 I0 n0) l1_normal_Edit Q ⟨lk [(2,.pob [1] 1 0),(3,.pob [2] 1 0),(32,kKs ks),(33,iv ks.length),(34,iv i)],H⟩ := by
  intro m
  induction m with
  | zero =>
    intro i u H hm h1 h3 h2 h5
    refine loopC_once mixed l1_normal_Edit.eq_1 ?_
    have : i = ks.length := by omega
    subst this
    rw [List.take_of_length_le (Nat.le_refl _)] at h5
    simp
    exact hq H u [(32,kKs ks),(33,iv ks.length),(34,iv ks.length),(35,bv false)] h1 h3 h2 h5
  | succ m ih =>
    intro i u H hm h1 h3 h2 h5
    have hi : i < ks.length := by omega
    have ew : IntKind.i64.wrap ((i : Int) + 1) = ((i + 1 : Nat) : Int) := by rw [i64_same (by omega) (by omega)]; omega
    have hE := hk _ (List.getElem_mem hi)
    have htk : (ks.take (i + 1)).map (kA ∘ nKE) = (ks.take i).map (kA ∘ nKE) ++ [kA (nKE ks[i])] := by rw [List.take_succ_eq_append_getElem hi,List.map_append]; rfl
    have next := ih (i + 1) (u + 1)
    rw [htk] at next
    generalize hx : ks[i] = x at *
    refine loopC_once mixed l1_normal_Edit.eq_1 ?_
    simp [hi,hx,updF_app,h2]
    refine sc_call hE (by simp [updF_app]) ?_
    simp [updF_app,h2,h5,ew]
    refine ⟨⟨by omega,by omega⟩,?_⟩
    refine next _ (by omega) (by simp [updF_app,h1]) (by simp [updF_app,h3]) (by simp [updF_app]) ?_
    simp [updF_app,List.take_take,nKE]
end
theorem pEdit_spec : ∀ e : E,nOk e→G.Spec Tryz.prog 25 [eX e] (eX (nEd e)) := by
  refine E.ind fun k o n ws ks l os ihk iho h => ?_
  rw [nOk] at h
  obtain ⟨hk,hl,hon,hwl,hkl,hol,hsum,hks,hos⟩ := h
  refine spec_of t_normal_Edit (by simp) fun w0 I0 => ?_
  unfold c_normal_Edit
  rw [nEd_mk]
  rcases hk with rfl | rfl | rfl | rfl
  · simp [hl (by decide)]
    exact frz_agg ⟨frz_bare rfl,frz_bare rfl,frz_sl,frz_sl,frz_bare rfl,frz_sl,frz_sl,frz_sl,frz_sl,frz_bare rfl,frz_sl,trivial⟩
  · obtain ⟨ho,hn⟩ := hon rfl
    simp [hl (by decide)]
    refine sc_call (tNorm_spec o ho) (by simp) ?_
    simp [updF_app]
    refine sc_call (tNorm_spec n hn) (by simp) ?_
    simp [updF_app]
    exact frz_agg ⟨frz_bare rfl,frz_int (norm_kind o).symm,frz_bare rfl,frz_bare rfl,frz_int (norm_kind n).symm,frz_bare rfl,frz_bare rfl,frz_sl,frz_sl,frz_bare rfl,frz_sl,trivial⟩
  · simp [hl (by decide)]
    refine ⟨by omega,?_⟩
    refine LoopC.le (le_blankC (d := [2]) (u := 1) (cs := [iv 2,iv 0,.sl true [],.sl true [],iv 0,.sl true [],.sl true [],.osl [3] 1 4 0 ws.length,.sl true [],iv 0,.sl true []]) 8 [5] 12 rfl rfl (by simp)) ?_
    refine LoopC.le (le_list [(2,.pob [1] 1 0),(3,.pob [2] 1 0),(32,kKs ks),(33,iv ks.length),(34,iv (0 : Nat))] (by simp)) ?_
    refine nedit_l1 hkl (fun x hx => ihk x hx (nOkK_all (hks rfl) x hx)) (W := .osl [3] 1 4 0 ws.length) (fun H u st h1 h3 h2 h5 => ?_) ks.length 0 1 _ (by omega) rfl rfl (by simp [updF_app]) (by simp [updF_app])
    have h3' : H [3] = ⟨1,.arr 4 (ws.map wA)⟩ := by rw [h3]; simp [updF_app]
    simp [h2,h1,updF_app]
    have fw := frz_row (H := updF H [1] ⟨1,.cells [iv 2,iv 0,.sl true [],.sl true [],iv 0,.sl true [],.sl true [],.osl [3] 1 4 0 ws.length,.osl [5] u 12 0 ks.length,iv 0,.sl true []]⟩) (o := [3]) (u := 1) (sz := 4) (l := ws) (f := wA) (n := ws.length) (by simp [updF_app,h3']) rfl (fun x => rfl)
    have fk := frz_row (H := updF H [1] ⟨1,.cells [iv 2,iv 0,.sl true [],.sl true [],iv 0,.sl true [],.sl true [],.osl [3] 1 4 0 ws.length,.osl [5] u 12 0 ks.length,iv 0,.sl true []]⟩) (o := [5]) (u := u) (sz := 12) (l := ks) (f := kA ∘ nKE) (n := ks.length) (by simp [updF_app,h5]) rfl (fun x => by simp)
    rw [← List.map_map] at fk
    exact frz_agg ⟨frz_bare rfl,frz_bare rfl,frz_sl,frz_sl,frz_bare rfl,frz_sl,frz_sl,fw,fk,frz_bare rfl,frz_sl,trivial⟩
  · have hO := pOps22_spec (list := l) (os := os) (fun x hx => by
      obtain ⟨a,b,c⟩ := nOkO_all (hos rfl) x hx
      exact ⟨a,b,fun h => ⟨iho x hx (c h),nEd_size _ (c h)⟩⟩) hol hsum
    simp
    refine sc_call hO (by simp [updF_app]) ?_
    simp [updF_app]
    exact frz_agg ⟨frz_bare rfl,frz_bare rfl,frz_sl,frz_sl,frz_bare rfl,frz_sl,frz_sl,frz_sl,frz_sl,frz_bare rfl,frz_sl,trivial⟩
section
variable {n0 : Nat} {w0 : World} {I0 : Nat→Prop} {Q : Exit→Sta→Prop}
end
section
variable {n0 : Nat} {w0 : World} {I0 : Nat→Prop} {Q : Exit→Sta→Prop}
end
inductive RI where
  | keep (n : Int)
  | del (l : List T)
  | ins (l : List T)
  | desc (e : E)
def RI.op : RI→OP
  | .keep n => .mk 0 n [] E0
  | .del l => .mk 1 0 l E0
  | .ins l => .mk 2 0 l E0
  | .desc e => .mk 3 0 [] e
def riC : RI→List A
  | .keep n => iv 0 :: iv n :: .sl true [] :: rawE
  | .del l => iv 1 :: iv 0 :: tKs l :: rawE
  | .ins l => iv 2 :: iv 0 :: tKs l :: rawE
  | .desc e => iv 3 :: iv 0 :: .sl true [] :: eL e
@[simp] theorem riC_len {x : RI} : (riC x).length = 14 := by cases x <;> rfl
theorem frz_ri {H : Hp} (x : RI) : FrzL H (riC x) (oA x.op).cells := by
  have hraw : FrzL H rawE (eL E0) := ⟨frz_bare rfl,frz_bare rfl,frz_sl,frz_sl,frz_bare rfl,frz_sl,frz_sl,frz_sl,frz_sl,frz_bare rfl,frz_sl,trivial⟩
  rw [oA_eq]
  cases x with
  | keep n => exact ⟨frz_bare rfl,frz_bare rfl,frz_sl,hraw⟩
  | del l => exact ⟨frz_bare rfl,frz_bare rfl,frz_bare rfl,hraw⟩
  | ins l => exact ⟨frz_bare rfl,frz_bare rfl,frz_bare rfl,hraw⟩
  | desc e => exact ⟨frz_bare rfl,frz_bare rfl,frz_sl,frz_bare rfl,frz_bare rfl,frz_bare rfl,frz_bare rfl,frz_bare rfl,frz_bare rfl,frz_bare rfl,frz_bare rfl,frz_bare rfl,frz_bare rfl,frz_bare rfl,trivial⟩
inductive IT where
  | r (x : RI)
  | got (o : OP)
def IT.op : IT→OP
  | .r x => x.op
  | .got o => o
def itC : IT→List A
  | .r x => riC x
  | .got o => (oA o).cells
def itA (x : IT) : A := .agg (itC x)
@[simp] theorem itA_cells {x : IT} : (itA x).cells = itC x := rfl
@[simp] theorem itC_len {x : IT} : (itC x).length = 14 := by
  cases x with
  | r x => simp [itC]
  | got o => simp [itC]
theorem lens_it {l : List IT} : lens 14 (l.map itA) = true := by rw [lens_all]; simp
theorem frz_it {H : Hp} (x : IT) : FrzL H (itC x) (oA x.op).cells := by
  cases x with
  | r x => exact frz_ri x
  | got o => exact frzL_bare (by simp [itC])
theorem frz_its {H : Hp} {o : Nm} {u n : Nat} {its : List IT} (h1 : H o = ⟨u,.arr 14 (its.map itA)⟩) (hn : n = its.length) : Frz H (.osl o u 14 0 n) (oKs (its.map IT.op)) := by
  subst hn
  refine frz_osl' (o := o) (u := u) (off := 0) (len := its.length) (sz := 14) (xs := its.map itA) (ys := (its.map IT.op).map oA) (by rw [getR_at,h1]; simp) (by simp) (by simp) (fun y hy => by
    obtain ⟨x,_,rfl⟩ := List.mem_map.1 hy
    simp) ?_ ?_
  · have : ∀ l : List OP,A.ones ((l.map oA).flatMap A.cells) = true := fun l => by
      induction l with
      | nil => rfl
      | cons x l ih => simp [A.ones] at ih ⊢
    exact this _
  · rw [List.drop_zero,List.take_of_length_le (by simp),List.map_map]
    have : ∀ l : List IT,FrzL H ((l.map itA).flatMap A.cells) ((l.map (oA ∘ IT.op)).flatMap A.cells) := fun l => by
      induction l with
      | nil => trivial
      | cons x l ih =>
        simp only [List.map_cons,List.flatMap_cons]
        exact frzL_app (frz_it x) ih (by simp)
    exact this its
theorem frz_oneO {H : Hp} (k : Int) (l : List T) : Frz H (.sl true [.agg (iv k :: iv 0 :: tKs l :: rawE)]) (oKs [OP.mk k 0 l E0]) := by
  have h := frz_soft (H := H) (a := .sl true [.agg (iv k :: iv 0 :: tKs l :: rawE)]) (by simp [rawE])
  have e : (A.sl true [.agg (iv k :: iv 0 :: tKs l :: rawE)]).soft = oKs [OP.mk k 0 l E0] := by simp [A.soft,A.softL,rawE,soft_tKs]
  rw [e] at h
  exact h
theorem pSome_spec (k : Int) (l : List T) : G.Spec Tryz.prog 108 [iv k,tKs l] (oKs (if l = [] then [] else [.mk k 0 l E0])) := by
  refine spec_of t_diff_some (by simp) fun w0 I0 => ?_
  unfold c_diff_some
  by_cases h : l = []
  · simp [h]
    exact frz_sl
  · have : ¬ l.length = 0 := by simpa using h
    simp [h,this]
    exact frz_oneO k l
theorem pRemove_spec (l : List T) : G.Spec Tryz.prog 92 [tKs l] (oKs (delO l)) := by
  refine spec_of t_diff_remove (by simp) fun w0 I0 => ?_
  unfold c_diff_remove
  simp
  refine sc_call (pSome_spec 1 l) (by simp) ?_
  simp
  exact frz_bare (by simp)
theorem pInsert_spec (l : List T) : G.Spec Tryz.prog 90 [tKs l] (oKs (insO l)) := by
  refine spec_of t_diff_insert (by simp) fun w0 I0 => ?_
  unfold c_diff_insert
  simp
  refine sc_call (pSome_spec 2 l) (by simp) ?_
  simp
  exact frz_bare (by simp)
section
variable {n0 : Nat} {w0 : World} {I0 : Nat→Prop} {Q : Exit→Sta→Prop}
theorem gp_l1 {a b : List T} (hb : ∀ t,t ∈ b→wfT t) (hbl : b.length≤1000000) {most : Int} {x : T} (hx : wfT x) {R : A} {N i w : Nat} {H0 : Hp}
    (hq : ∀ (H' : Hp) (v : Nat),H' [2] = ⟨v,.arr 1 ((b.map fun y => (scoreT x y : Int)).map iv)⟩→(∀ o,o ≠ [1]→o ≠ [2]→H' o = H0 o)→Q (.exit 2) ⟨lk [(1,tKs a),(2,tKs b),(3,iv most),(9,R),(11,.pob [0] w 0),(12,.osl [2] v 1 0 b.length),(20,tKs a),(21,iv N),(22,iv i),(26,tKs b),(27,iv b.length),(28,iv b.length),(29,bv false)],H'⟩) :
    ∀ (m j : Nat) (v : Nat) (H : Hp),j + m = b.length→H [0] = ⟨w,.cells (tL x)⟩→H [2] = ⟨v,.arr 1 (((b.take j).map fun y => (scoreT x y : Int)).map iv)⟩→(∀ o,o ≠ [1]→o ≠ [2]→H o = H0 o) →
    LoopC (cx Tryz.prog w0 I0 n0) l1_diff_Gap Q ⟨lk [(1,tKs a),(2,tKs b),(3,iv most),(9,R),(11,.pob [0] w 0),(12,.osl [2] v 1 0 j),(20,tKs a),(21,iv N),(22,iv i),(26,tKs b),(27,iv b.length),(28,iv j)],H⟩ := by
  intro m
  induction m with
  | zero =>
    intro j v H hm h0 h2 hH
    have : j = b.length := by omega
    subst this
    rw [List.take_of_length_le (Nat.le_refl _)] at h2
    refine loopC_once mixed l1_diff_Gap.eq_1 ?_
    simp
    exact hq H v h2 hH
  | succ m ih =>
    intro j v H hm h0 h2 hH
    have hlt : j < b.length := by omega
    have ew : IntKind.i64.wrap ((j : Int) + 1) = ((j + 1 : Nat) : Int) := by rw [i64_same (by omega) (by omega)]; omega
    have htk : b.take (j + 1) = b.take j ++ [b[j]] := List.take_succ_eq_append_getElem hlt
    have next := ih (j + 1)
    rw [htk] at next
    refine loopC_once mixed l1_diff_Gap.eq_1 ?_
    simp [hlt,h0,updF_app]
    refine sc_call (pScore_spec hx (hb _ (List.getElem_mem hlt))) (by simp) ?_
    simp [h2,updF_app,Nat.min_eq_left (Nat.le_of_lt hlt)]
    refine ⟨by omega,?_⟩
    rw [ew]
    refine next (v + 1) _ (by omega) (by simp [updF_app,h0]) ?_ (fun o h1 h2' => by simp [updF_app,h1,h2',hH])
    simp [updF_app]
    rw [List.take_succ_eq_append_getElem (by simpa using hlt)]
    simp [List.take_take]
abbrev ivsA (r : List Int) : A := .sl false (r.map iv)
theorem gp_l2 {a b : List T} (ha : ∀ t,t ∈ a→wfT t) (hb : ∀ t,t ∈ b→wfT t) (hal : a.length≤1000000) (hbl : b.length≤1000000) {most : Int}
    (hq : ∀ (H' : Hp),H' [3] = ⟨a.length + 1,.arr 1 ((scR a b).map ivsA)⟩→H' [5] = ⟨0,.none⟩→Q (.exit 0) ⟨lk [(1,tKs a),(2,tKs b),(3,iv most),(9,.osl [3] (a.length + 1) 1 0 a.length),(20,tKs a),(21,iv a.length),(22,iv a.length),(23,bv false)],H'⟩) :
    ∀ (m i : Nat) (H : Hp),i + m = a.length→H [3] = ⟨i + 1,.arr 1 ((scR (a.take i) b).map ivsA)⟩→H [5] = ⟨0,.none⟩ →
    LoopC (cx Tryz.prog w0 I0 n0) l2_diff_Gap Q ⟨lk [(1,tKs a),(2,tKs b),(3,iv most),(9,.osl [3] (i + 1) 1 0 i),(20,tKs a),(21,iv a.length),(22,iv i)],H⟩ := by
  intro m
  induction m with
  | zero =>
    intro i H hm h3 h5
    have : i = a.length := by omega
    subst this
    rw [List.take_of_length_le (Nat.le_refl _)] at h3
    refine loopC_once mixed l2_diff_Gap.eq_1 ?_
    simp
    exact hq H h3 h5
  | succ m ih =>
    intro i H hm h3 h5
    have hlt : i < a.length := by omega
    have ew : IntKind.i64.wrap ((i : Int) + 1) = ((i + 1 : Nat) : Int) := by rw [i64_same (by omega) (by omega)]; omega
    have htk : a.take (i + 1) = a.take i ++ [a[i]] := List.take_succ_eq_append_getElem hlt
    have next := ih (i + 1)
    rw [htk] at next
    have hrl : (scR (a.take i) b).length = i := by simp [scR]; omega
    refine loopC_once mixed l2_diff_Gap.eq_1 ?_
    simp [hlt]
    refine LoopC.le (le_blank 12 [2] 1 (by simp)) ?_
    refine LoopC.le (le_list [(1,tKs a),(2,tKs b),(3,iv most),(9,.osl [3] (i + 1) 1 0 i),(11,.pob [0] ((H [0]).u + 1) 0),(12,.osl [2] ((H [2]).u + 1) 1 0 0),(20,tKs a),(21,iv a.length),(22,iv i),(26,tKs b),(27,iv b.length),(28,iv (0 : Nat))] (by simp [upd,updF_app])) ?_
    refine gp_l1 (a := a) hb hbl (ha _ (List.getElem_mem hlt)) (H0 := updF H [0] ⟨(H [0]).u + 1,.cells (tL a[i])⟩) (fun H' v g2 gH => ?_) b.length 0 ((H [2]).u + 1) _ (by omega) (by simp [updF_app]) (by simp [updF_app]) (fun o h1 h2 => by simp [updF_app,h1,h2])
    simp
    refine stop_le (le_freezeD (d := [2]) (fun _ h => h) 12 (ivsA (b.map fun y => (scoreT a[i] y : Int))) fun H1 e1 => ?_) ?_
    · simp
      exact frz_row (f := iv) (l := b.map fun y => (scoreT a[i] y : Int)) (by rw [e1,g2]; simp) (by simp) (fun x => by simp)
    · refine stop_le (le_list [(1,tKs a),(2,tKs b),(3,iv most),(9,.osl [3] (i + 1) 1 0 i),(12,ivsA (b.map fun y => (scoreT a[i] y : Int))),(20,tKs a),(21,iv a.length),(22,iv i)] (by simp [upd])) (stop_go ?_)
      have g3 : H' [3] = H [3] := by rw [gH _ (by simp) (by simp)]; simp [updF_app]
      have g5 : H' [5] = H [5] := by rw [gH _ (by simp) (by simp)]; simp [updF_app]
      simp [updF_app,g3,h3,hrl]
      refine ⟨by omega,?_⟩
      rw [ew]
      refine next _ (by omega) ?_ (by simp [updF_app,g5,h5])
      have e1 : List.take i (List.map ivsA (scR (List.take i a) b)) = List.map ivsA (scR (List.take i a) b) := List.take_of_length_le (by simp [scR]; omega)
      simp [updF_app,e1,scR]
      rw [List.take_succ_eq_append_getElem (by simpa using hlt)]
      simp [List.take_take]
end
def PkOk (la lb : Nat) : Nat→Nat→List Sc→Prop
  | i,j,[] => i≤la∧j≤lb
  | i,j,x :: P => i≤x.i∧j≤x.j∧x.i < la∧x.j < lb∧PkOk la lb (x.i + 1) (x.j + 1) P
theorem pkOk_any {la lb : Nat} : ∀ (P : List Sc) (i j : Nat),i≤la→j≤lb→(∀ x,x ∈ P→i≤x.i∧j≤x.j∧x.i < la∧x.j < lb)→(P.Pairwise fun p q => p.i < q.i∧p.j < q.j)→PkOk la lb i j P
  | [],i,j,h1,h2,_,_ => ⟨h1,h2⟩
  | x :: P,i,j,h1,h2,h3,h4 => by
    obtain ⟨g1,g2,g3,g4⟩ := h3 x (by simp)
    rw [List.pairwise_cons] at h4
    refine ⟨g1,g2,g3,g4,pkOk_any P _ _ (by omega) (by omega) (fun y hy => ?_) h4.2⟩
    have := h4.1 y hy
    obtain ⟨k1,k2,k3,k4⟩ := h3 y (by simp [hy])
    omega
theorem pkG_ok (a b : List T) : PkOk a.length b.length 0 0 (pkG (scR a b)) := by
  obtain ⟨h,_⟩ := pkO_ok (scR a b)
  obtain ⟨h1,h2⟩ := picks_facts h
  obtain ⟨g1,g2⟩ := srt_ok h1
  refine pkOk_any _ 0 0 (by omega) (by omega) (fun x hx => ?_) ?_
  · obtain ⟨_,_,_,_,r,k1,k2⟩ := candS_mem (h2 x (g2.subset hx))
    have l1 := (List.getElem?_eq_some_iff.1 k1).1
    have e1 := (List.getElem?_eq_some_iff.1 k1).2
    have l2 := (List.getElem?_eq_some_iff.1 k2).1
    rw [← e1] at l2
    simp [scR] at l1 l2
    omega
  · have hp : (pkG (scR a b)).Pairwise fun p q => par p q = true := by
      refine (List.Perm.pairwise_iff (fun {p q} h => ?_) g2).2 h1
      unfold par at h ⊢
      simp at h ⊢
      omega
    have hr : (pkG (scR a b)).Pairwise fun p q => p.i < q.i := g1
    refine (hp.and hr).imp fun {p q} h => ?_
    obtain ⟨h1,h2⟩ := h
    unfold par at h1
    simp at h1
    omega
section
variable {n0 : Nat} {w0 : World} {I0 : Nat→Prop} {Q : Exit→Sta→Prop}
theorem gp_l3 {one : T→T→E} {a b : List T} (hal : a.length≤1000000) (hbl : b.length≤1000000) {most : Int} (hone : ∀ x,x ∈ a→∀ y,y ∈ b→G.Spec Tryz.prog 26 [tX x,tX y,iv most] (eX (one x y))) {P : List Sc} (hP : P.length≤1000) {R : List OP}
    (hq : ∀ (H' : Hp) (its : List IT) (v i j : Nat),i≤a.length→j≤b.length→its.length≤3 * P.length→R = gapO one a b [] i j (its.map IT.op)→H' [5] = ⟨v,.arr 14 (its.map itA)⟩→Q (.exit 4) ⟨lk [(1,tKs a),(2,tKs b),(3,iv most),(15,.osl [5] v 14 0 its.length),(16,iv i),(17,iv j),(45,prs P),(46,iv P.length),(47,iv P.length),(48,bv false)],H'⟩) :
    ∀ (m k i j v : Nat) (its : List IT) (H : Hp),k + m = P.length→PkOk a.length b.length i j (P.drop k)→its.length≤3 * k→R = gapO one a b (P.drop k) i j (its.map IT.op)→H [5] = ⟨v,.arr 14 (its.map itA)⟩ →
    LoopC (cx Tryz.prog w0 I0 n0) l3_diff_Gap Q ⟨lk [(1,tKs a),(2,tKs b),(3,iv most),(15,.osl [5] v 14 0 its.length),(16,iv i),(17,iv j),(45,prs P),(46,iv P.length),(47,iv k)],H⟩ := by
  intro m
  induction m with
  | zero =>
    intro k i j v its H hm hk hl hR h5
    have : k = P.length := by omega
    subst this
    rw [List.drop_length] at hk hR
    refine loopC_once mixed l3_diff_Gap.eq_1 ?_
    simp
    exact hq H its v i j hk.1 hk.2 hl hR h5
  | succ m ih =>
    intro k i j v its H hm hk hl hR h5
    have hlt : k < P.length := by omega
    have ew : IntKind.i64.wrap ((k : Int) + 1) = ((k + 1 : Nat) : Int) := by rw [i64_same (by omega) (by omega)]; omega
    have hd : P.drop k = P[k] :: P.drop (k + 1) := (List.getElem_cons_drop hlt).symm
    rw [hd] at hk hR
    have next := ih (k + 1)
    generalize hx : P[k] = x at *
    obtain ⟨k1,k2,k3,k4,k5⟩ := hk
    rw [gapO] at hR
    have ei : IntKind.i64.wrap ((x.i : Int) + 1) = ((x.i + 1 : Nat) : Int) := by rw [i64_same (by omega) (by omega)]; omega
    have ej : IntKind.i64.wrap ((x.j : Int) + 1) = ((x.j + 1 : Nat) : Int) := by rw [i64_same (by omega) (by omega)]; omega
    have hO := hone _ (List.getElem_mem k3) _ (List.getElem_mem k4)
    have D1 := pRemove_spec ((a.take x.i).drop i)
    have D2 := pInsert_spec ((b.take x.j).drop j)
    refine loopC_once mixed l3_diff_Gap.eq_1 ?_
    have f1 : x.i≤a.length := by omega
    have f2 : x.j≤b.length := by omega
    have dl : ∀ l,(delO l).length≤1 := fun l => by unfold delO; split <;> simp
    have il : ∀ l,(insO l).length≤1 := fun l => by unfold insO; split <;> simp
    have d1 := dl ((a.take x.i).drop i)
    have d2 := il ((b.take x.j).drop j)
    simp [hlt,hx,prA,prC,updF_app,k1,k2,f1,f2,h5]
    simp only [← List.map_drop,← List.map_take]
    simp only [List.drop_take] at D1 D2 hR d1 d2
    refine sc_call D1 (by simp) ?_
    generalize delO ((a.drop i).take (x.i - i)) = D at *
    generalize hI : insO ((b.drop j).take (x.j - j)) = I at *
    simp [k1,k2,f1,f2,h5,updF_app,lens_it]
    have hgot : ∀ D : List OP,D.map oA = (D.map IT.got).map itA := fun D => by
      rw [List.map_map]
      refine List.map_congr_left fun o _ => ?_
      simp [itA,itC]
    refine ⟨by omega,?_⟩
    simp only [← List.map_drop,← List.map_take]
    refine sc_call D2 (by simp) ?_
    simp [k3,k4,updF_app,lens_it]
    refine ⟨by omega,?_⟩
    refine sc_call hO (by simp) ?_
    simp [ei,ej,ew,updF_app,lens_it]
    refine ⟨by omega,?_⟩
    have e1 : a.getD x.i T0 = a[x.i] := by simp [k3]
    have e2 : b.getD x.j T0 = b[x.j] := by simp [k4]
    rw [e1,e2] at hR
    have hop : ∀ D : List OP,(D.map IT.got).map IT.op = D := fun D => by
      rw [List.map_map]
      exact List.map_id' _
    have hrow : List.take (its.length + D.length + I.length) (List.take (its.length + D.length) (List.map itA its ++ List.map oA D) ++ List.map oA I) ++ [A.agg (A.v (Value.int IntKind.i64 3) :: A.v (Value.int IntKind.i64 0) :: A.sl true [] :: eL (one a[x.i] b[x.j]))] = (its ++ D.map IT.got ++ I.map IT.got ++ [IT.r (.desc (one a[x.i] b[x.j]))]).map itA := by
      rw [List.take_of_length_le (by simp),List.take_of_length_le (by simp),hgot D,hgot I]
      simp [itA,itC,riC]
    rw [hrow]
    have nx := next (x.i + 1) (x.j + 1) (v + 1 + 1 + 1) (its ++ D.map IT.got ++ I.map IT.got ++ [IT.r (.desc (one a[x.i] b[x.j]))]) (updF (updF H [4] ⟨(H [4]).u + 1,.cells [iv x.i,iv x.j]⟩) [5] ⟨v + 1 + 1 + 1,.arr 14 ((its ++ D.map IT.got ++ I.map IT.got ++ [IT.r (.desc (one a[x.i] b[x.j]))]).map itA)⟩) (by omega) k5 (by simp; omega) (by rw [hR]; congr 1; simp [hop,IT.op,RI.op]) (by simp [updF_app])
    have hlen : (its ++ D.map IT.got ++ I.map IT.got ++ [IT.r (.desc (one a[x.i] b[x.j]))]).length = its.length + D.length + I.length + 1 := by simp; omega
    rw [hlen] at nx
    simpa using nx
end
theorem pGap_spec {one : T→T→E} {a b : List T} (ha : ∀ t,t ∈ a→wfT t) (hb : ∀ t,t ∈ b→wfT t) (hal : a.length≤1000000) (hbl : b.length≤1000000) {most q : Int} (hone : ∀ x,x ∈ a→∀ y,y ∈ b→G.Spec Tryz.prog 26 [tX x,tX y,iv most] (eX (one x y))) :
    G.Spec Tryz.prog 91 [iv q,tKs a,tKs b,iv most] (oKs (gapE one a b)) := by
  obtain ⟨hpk,hp16⟩ := pkO_ok (scR a b)
  have hPl : (pkG (scR a b)).length≤16 := by
    have := (srt_ok (picks_facts hpk).1).2.length_eq
    unfold pkG
    omega
  have hPick := pick_spec (scR a b) (by simp [scR]; omega) (fun r hr => by
    obtain ⟨x,_,rfl⟩ := List.mem_map.1 hr
    simp; omega) hpk hp16
  refine spec_of t_diff_Gap (by simp) fun w0 I0 => ?_
  unfold c_diff_Gap
  simp
  refine LoopC.le (le_blank 9 [3] 1 (by simp)) ?_
  refine LoopC.le (le_list [(1,tKs a),(2,tKs b),(3,iv most),(9,.osl [3] (0 + 1) 1 0 0),(20,tKs a),(21,iv a.length),(22,iv (0 : Nat))] (by simp [upd])) ?_
  refine gp_l2 ha hb hal hbl (fun H' h3 h5 => ?_) a.length 0 _ (by omega) (by simp [scR]) (by simp [updF_app])
  simp
  refine stop_le (le_freezeD (d := [3]) (fun _ h => h) 9 (ivss (scR a b)) fun H1 e1 => ?_) ?_
  · simp
    exact frz_row (f := ivsA) (l := scR a b) (by rw [e1,h3]; simp) (by simp [scR]) (fun x => by simp)
  · refine stop_le (le_list [(1,tKs a),(2,tKs b),(3,iv most),(9,ivss (scR a b)),(15,.sl true []),(16,iv 0),(17,iv 0)] (by simp [upd])) (stop_go ?_)
    simp
    refine sc_call hPick (by simp) ?_
    simp
    refine LoopC.le (le_blank 15 [5] 14 (by simp)) ?_
    refine LoopC.le (le_list [(1,tKs a),(2,tKs b),(3,iv most),(15,.osl [5] 1 14 0 ([] : List IT).length),(16,iv (0 : Nat)),(17,iv (0 : Nat)),(45,prs (pkG (scR a b))),(46,iv (pkG (scR a b)).length),(47,iv (0 : Nat))] (by simp [upd,updF_app,h5,pkG])) ?_
    refine gp_l3 (one := one) (a := a) (b := b) hal hbl hone (P := pkG (scR a b)) (by omega) (R := gapE one a b) (fun H2 its v i j hi hj hl hR k5 => ?_) _ 0 0 0 1 [] _ (Nat.zero_add _) (pkG_ok a b) (by simp) rfl (by simp [updF_app,h5])
    have D1 := pRemove_spec ((a.drop i).take (a.length - i))
    have D2 := pInsert_spec ((b.drop j).take (b.length - j))
    have dl : ∀ l,(delO l).length≤1 := fun l => by unfold delO; split <;> simp
    have il : ∀ l,(insO l).length≤1 := fun l => by unfold insO; split <;> simp
    have d1 := dl ((a.drop i).take (a.length - i))
    have d2 := il ((b.drop j).take (b.length - j))
    have ea : (a.drop i).take (a.length - i) = a.drop i := List.take_of_length_le (by simp)
    have eb : (b.drop j).take (b.length - j) = b.drop j := List.take_of_length_le (by simp)
    have hR2 : gapE one a b = its.map IT.op ++ delO ((a.drop i).take (a.length - i)) ++ insO ((b.drop j).take (b.length - j)) := by rw [ea,eb,hR,gapO]
    clear ea eb
    rw [hR2]
    have hgot : ∀ D : List OP,D.map oA = (D.map IT.got).map itA := fun D => by
      rw [List.map_map]
      refine List.map_congr_left fun o _ => ?_
      simp [itA,itC]
    have hop : ∀ D : List OP,(D.map IT.got).map IT.op = D := fun D => by
      rw [List.map_map]
      exact List.map_id' _
    clear hR2
    generalize delO ((a.drop i).take (a.length - i)) = D at *
    generalize insO ((b.drop j).take (b.length - j)) = I at *
    simp [hi,hj]
    simp only [← List.map_drop,← List.map_take]
    refine sc_call D1 (by simp) ?_
    simp [hj,k5,updF_app,lens_it]
    refine ⟨by omega,?_⟩
    simp only [← List.map_drop,← List.map_take]
    refine sc_call D2 (by simp) ?_
    simp [updF_app,lens_it]
    refine ⟨by omega,?_⟩
    have hf : ∀ H : Hp,H [5] = ⟨v + 1 + 1,.arr 14 ((its ++ D.map IT.got ++ I.map IT.got).map itA)⟩→Frz H (.osl [5] (v + 1 + 1) 14 0 (its.length + D.length + I.length)) (oKs (its.map IT.op ++ (D ++ I))) := fun H hH => by
      have := frz_its hH (n := its.length + D.length + I.length) (by simp; omega)
      simpa [hop] using this
    refine hf _ ?_
    rw [hgot D,hgot I,List.take_of_length_le (by simp)]
    simp [updF_app]
theorem opsG_keep {gap : List T→List T→List OP} {s : Sp} (h : s.k = 0) (ss : List Sp) (a b : List T) (out : List OP) : opsG gap (s :: ss) a b out = opsG gap ss (a.drop s.n) (b.drop s.n) (out ++ [.mk 0 s.n [] E0]) := by
  cases ss with
  | nil => simp [opsG,h]
  | cons s2 ss => simp [opsG,h]
theorem opsG_ins {gap : List T→List T→List OP} {s : Sp} (h : s.k = 2) (ss : List Sp) (a b : List T) (out : List OP) : opsG gap (s :: ss) a b out = opsG gap ss a (b.drop s.n) (out ++ insO (b.take s.n)) := by
  cases ss with
  | nil => simp [opsG,h]
  | cons s2 ss => simp [opsG,h]
theorem opsG_gap {gap : List T→List T→List OP} {s s2 : Sp} (h : s.k = 1) (h2 : s2.k = 2) (ss : List Sp) (a b : List T) (out : List OP) : opsG gap (s :: s2 :: ss) a b out = opsG gap ss (a.drop s.n) (b.drop s2.n) (out ++ gap (a.take s.n) (b.take s2.n)) := by
  simp [opsG,h,h2]
theorem opsG_del {gap : List T→List T→List OP} {s : Sp} (h : s.k = 1) {ss : List Sp} (h2 : ∀ s2 r,ss = s2 :: r→s2.k ≠ 2) (a b : List T) (out : List OP) : opsG gap (s :: ss) a b out = opsG gap ss (a.drop s.n) b (out ++ delO (a.take s.n)) := by
  cases ss with
  | nil => simp [opsG,h]
  | cons s2 ss => simp [opsG,h,h2 s2 ss rfl]
theorem gapO_len (one : T→T→E) (a b : List T) : ∀ (P : List Sc) (i j : Nat) (out : List OP),(gapO one a b P i j out).length≤out.length + 3 * P.length + 2
  | [],i,j,out => by
    have d1 : (delO (a.drop i)).length≤1 := by unfold delO; split <;> simp
    have d2 : (insO (b.drop j)).length≤1 := by unfold insO; split <;> simp
    simp [gapO]
    omega
  | x :: P,i,j,out => by
    have d1 : (delO ((a.take x.i).drop i)).length≤1 := by unfold delO; split <;> simp
    have d2 : (insO ((b.take x.j).drop j)).length≤1 := by unfold insO; split <;> simp
    have := gapO_len one a b P (x.i + 1) (x.j + 1) (out ++ delO ((a.take x.i).drop i) ++ insO ((b.take x.j).drop j) ++ [.mk 3 0 [] (one (a.getD x.i T0) (b.getD x.j T0))])
    rw [gapO]
    simp only [List.length_append,List.length_singleton] at this
    simp only [List.length_cons]
    omega
theorem gapE_len (one : T→T→E) (a b : List T) : (gapE one a b).length≤50 := by
  obtain ⟨hpk,hp16⟩ := pkO_ok (scR a b)
  have hPl : (pkG (scR a b)).length≤16 := by
    have := (srt_ok (picks_facts hpk).1).2.length_eq
    unfold pkG
    omega
  have := gapO_len one a b (pkG (scR a b)) 0 0 []
  simp at this
  unfold gapE
  omega
theorem hgot26 (D : List OP) : D.map oA = (D.map IT.got).map itA := by
  rw [List.map_map]
  refine List.map_congr_left fun o _ => ?_
  simp [itA,itC]
theorem hop26 (D : List OP) : (D.map IT.got).map IT.op = D := by
  rw [List.map_map]
  exact List.map_id' _
section
variable {n0 : Nat} {w0 : World} {I0 : Nat→Prop} {Q : Exit→Sta→Prop}
theorem dops_l1 {one : T→T→E} {a b : T} (ha : ∀ t,t ∈ a.kids→wfT t) (hb : ∀ t,t ∈ b.kids→wfT t) (hal : a.kids.length≤1000000) (hbl : b.kids.length≤1000000) {most : Int} (hone : ∀ x,x ∈ a.kids→∀ y,y ∈ b.kids→G.Spec Tryz.prog 26 [tX x,tX y,iv most] (eX (one x y))) {S : List Sp} (hS : S.length≤10000000) (hS2 : ∀ s,s ∈ S→s.k≤2) {R : List OP}
    (hq : ∀ (H' : Hp) (its : List IT) (v : Nat) (st : List (Nat × A)),its.map IT.op = R→H' [2] = ⟨v,.arr 14 (its.map itA)⟩→Q (.exit 0) ⟨lk ([(0,sps S),(3,iv most),(5,.pob [0] 1 0),(9,.osl [2] v 14 0 its.length)] ++ st),H'⟩) :
    ∀ (m k v : Nat) (x y : List T) (its : List IT) (H : Hp),k + m = S.length→(∀ t,t ∈ x→t ∈ a.kids)→(∀ t,t ∈ y→t ∈ b.kids)→x.length≤1000000→y.length≤1000000→dA (unitsS (S.drop k))≤x.length→dB (unitsS (S.drop k))≤y.length→its.length≤50 * k→R = opsG (gapE one) (S.drop k) x y (its.map IT.op)→H [0] = ⟨1,.cells (tL a)⟩→H [2] = ⟨v,.arr 14 (its.map itA)⟩ →
    LoopC (cx Tryz.prog w0 I0 n0) l1_diff_ops Q ⟨lk [(0,sps S),(3,iv most),(5,.pob [0] 1 0),(9,.osl [2] v 14 0 its.length),(10,tKs x),(11,tKs y),(12,iv k)],H⟩ := by
  have tk : ∀ (l : List T) (n : Nat),(l.drop n).take (l.length - n) = l.drop n := fun l n => List.take_of_length_le (by simp)
  intro m
  induction m using Nat.strongRecOn with
  | _ m ih =>
  intro k v x y its H hm hx hy hxl hyl hA hB hl hR h0 h2
  cases m with
  | zero =>
    have : k = S.length := by omega
    subst this
    rw [List.drop_length] at hR
    refine loopC_once mixed l1_diff_ops.eq_1 ?_
    simp
    exact hq H its v [(10,tKs x),(11,tKs y),(12,iv S.length),(22,bv false)] hR.symm h2
  | succ m =>
    have hlt : k < S.length := by omega
    have ew : IntKind.i64.wrap ((k : Int) + 1) = ((k + 1 : Nat) : Int) := by rw [i64_same (by omega) (by omega)]; omega
    have hd : S.drop k = S[k] :: S.drop (k + 1) := (List.getElem_cons_drop hlt).symm
    have hk := hS2 _ (List.getElem_mem hlt)
    rw [hd] at hR hA hB
    rw [units_cons,dA_app,dA_rep] at hA
    rw [units_cons,dB_app,dB_rep] at hB
    have hg : (S.map spA)[k]? = some (spA S[k]) := by simp [hlt]
    generalize hs : S[k] = s at *
    have hk3 : s.k = 0∨s.k = 1∨s.k = 2 := by omega
    rcases hk3 with h | h | h
    · rw [opsG_keep h] at hR
      rw [if_neg (by omega)] at hA hB
      have f1 : s.n≤x.length := by omega
      have f2 : s.n≤y.length := by omega
      refine loopC_once mixed l1_diff_ops.eq_1 ?_
      simp [hlt,hs,spA,spC,h,f1,f2,h2,lens_it,ew]
      refine ⟨by omega,?_⟩
      simp only [← List.map_drop,← List.map_take,tk]
      have nx := ih m (by omega) (k + 1) (v + 1) (x.drop s.n) (y.drop s.n) (its ++ [IT.r (RI.keep (s.n : Int))]) (updF H [2] ⟨v + 1,.arr 14 ((its ++ [IT.r (RI.keep (s.n : Int))]).map itA)⟩) (by omega) (fun t ht => hx t (List.mem_of_mem_drop ht)) (fun t ht => hy t (List.mem_of_mem_drop ht)) (by simp; omega) (by simp; omega) (by simp; omega) (by simp; omega) (by simp; omega) (by rw [hR]; simp [IT.op,RI.op]) (by simp [updF_app,h0]) (by simp [updF_app])
      rw [List.take_of_length_le (by simp)]
      rw [Int.natCast_add] at nx
      simp only [List.length_append,List.length_map,List.length_singleton,List.length_cons,List.length_nil,List.map_append,List.map_cons,List.map_nil] at nx ⊢
      exact nx
    · rw [h] at hA hB
      simp at hA hB
      have f1 : s.n≤x.length := by omega
      by_cases hg2 : ∃ h3 : k + 1 < S.length,S[k + 1].k = 2
      · obtain ⟨h3,h4⟩ := hg2
        have hd2 : S.drop (k + 1) = S[k + 1] :: S.drop (k + 1 + 1) := (List.getElem_cons_drop h3).symm
        rw [hd2] at hR hA hB
        rw [units_cons,dA_app,dA_rep] at hA
        rw [units_cons,dB_app,dB_rep] at hB
        generalize hs2 : S[k + 1] = s2 at *
        rw [opsG_gap h h4] at hR
        rw [h4] at hA hB
        simp at hA hB
        have f2 : s2.n≤y.length := by omega
        have ew2 : IntKind.i64.wrap ((k : Int) + 1 + 1) = ((k + 1 + 1 : Nat) : Int) := by rw [i64_same (by omega) (by omega)]; omega
        have G := pGap_spec (one := one) (a := x.take s.n) (b := y.take s2.n) (q := a.kind) (fun t ht => ha t (hx t (List.mem_of_mem_take ht))) (fun t ht => hb t (hy t (List.mem_of_mem_take ht))) (by simp; omega) (by simp; omega) (most := most) (fun p hp q hq => hone p (hx p (List.mem_of_mem_take hp)) q (hy q (List.mem_of_mem_take hq)))
        have gl := gapE_len one (x.take s.n) (y.take s2.n)
        have i1 : (k : Int) + 1 < S.length := by omega
        have i2 : (0 : Int)≤(k : Int) + 1 := by omega
        have i3 : ((k : Int) + 1).toNat = k + 1 := by omega
        have i4 : IntKind.i64.wrap ((k : Int) + 1) = (k : Int) + 1 := by rw [ew]; omega
        refine loopC_once mixed l1_diff_ops.eq_1 ?_
        generalize gapE one (x.take s.n) (y.take s2.n) = I at *
        simp [hlt,hs,spA,spC,h,f1,f2,h2,lens_it,i4,h3,hs2,h4,h0,i1,i2,i3]
        simp only [← List.map_drop,← List.map_take,tk]
        refine sc_call G (by simp) ?_
        simp [f1,f2,h2,lens_it,i4,h0,ew2]
        refine ⟨by omega,?_⟩
        simp only [← List.map_drop,← List.map_take,tk]
        cases m with
        | zero => omega
        | succ m =>
          have nx := ih m (by omega) (k + 1 + 1) (v + 1) (x.drop s.n) (y.drop s2.n) (its ++ I.map IT.got) (updF H [2] ⟨v + 1,.arr 14 ((its ++ I.map IT.got).map itA)⟩) (by omega) (fun t ht => hx t (List.mem_of_mem_drop ht)) (fun t ht => hy t (List.mem_of_mem_drop ht)) (by simp; omega) (by simp; omega) (by simp; omega) (by simp; omega) (by simp; omega) (by rw [hR,List.map_append,hop26]) (by simp [updF_app,h0]) (by simp [updF_app])
          rw [List.take_of_length_le (by simp),hgot26,← List.map_append]
          rw [Int.natCast_add,Int.natCast_add] at nx
          simp only [List.length_append,List.length_map,List.length_singleton,List.length_cons,List.length_nil,List.map_append,List.map_cons,List.map_nil] at nx ⊢
          exact nx
      · have hnd : ∀ s2 r,S.drop (k + 1) = s2 :: r→s2.k ≠ 2 := fun s2 r e h4 => by
          have h3 : k + 1 < S.length := by
            have := congrArg List.length e
            simp at this
            omega
          have hd2 : S.drop (k + 1) = S[k + 1] :: S.drop (k + 1 + 1) := (List.getElem_cons_drop h3).symm
          rw [hd2] at e
          injection e with e1 _
          exact hg2 ⟨h3,by rw [e1]; exact h4⟩
        rw [opsG_del h hnd] at hR
        have D := pRemove_spec (x.take s.n)
        have dl : (delO (x.take s.n)).length≤1 := by unfold delO; split <;> simp
        generalize delO (x.take s.n) = I at *
        refine loopC_once mixed l1_diff_ops.eq_1 ?_
        by_cases h3 : k + 1 < S.length
        · have h4 : ¬ (S[k + 1].k : Int) = 2 := fun e => hg2 ⟨h3,by omega⟩
          have h4' : ¬ S[k + 1].k = 2 := fun e => hg2 ⟨h3,e⟩
          have i1 : (k : Int) + 1 < S.length := by omega
          have i2 : (0 : Int)≤(k : Int) + 1 := by omega
          have i3 : ((k : Int) + 1).toNat = k + 1 := by omega
          have i4 : IntKind.i64.wrap ((k : Int) + 1) = (k : Int) + 1 := by rw [ew]; omega
          simp [hlt,hs,spA,spC,h,f1,h2,lens_it,i4,h3,h4,h4',i1,i2,i3]
          simp only [← List.map_drop,← List.map_take,tk]
          refine sc_call D (by simp) ?_
          simp [f1,h2,lens_it,i4]
          refine ⟨by omega,?_⟩
          simp only [← List.map_drop,← List.map_take,tk]
          have nx := ih m (by omega) (k + 1) (v + 1) (x.drop s.n) y (its ++ I.map IT.got) (updF H [2] ⟨v + 1,.arr 14 ((its ++ I.map IT.got).map itA)⟩) (by omega) (fun t ht => hx t (List.mem_of_mem_drop ht)) hy (by simp; omega) (by omega) (by simp; omega) (by omega) (by simp; omega) (by rw [hR,List.map_append,hop26]) (by simp [updF_app,h0]) (by simp [updF_app])
          rw [List.take_of_length_le (by simp),hgot26,← List.map_append]
          rw [Int.natCast_add] at nx
          simp only [List.length_append,List.length_map,List.length_singleton,List.length_cons,List.length_nil,List.map_append,List.map_cons,List.map_nil] at nx ⊢
          exact nx
        · have i1 : ¬ (k : Int) + 1 < S.length := by omega
          have i4 : IntKind.i64.wrap ((k : Int) + 1) = (k : Int) + 1 := by rw [ew]; omega
          simp [hlt,hs,spA,spC,h,f1,h2,lens_it,i4,i1]
          simp only [← List.map_drop,← List.map_take,tk]
          refine sc_call D (by simp) ?_
          simp [f1,h2,lens_it,i4]
          refine ⟨by omega,?_⟩
          simp only [← List.map_drop,← List.map_take,tk]
          have nx := ih m (by omega) (k + 1) (v + 1) (x.drop s.n) y (its ++ I.map IT.got) (updF H [2] ⟨v + 1,.arr 14 ((its ++ I.map IT.got).map itA)⟩) (by omega) (fun t ht => hx t (List.mem_of_mem_drop ht)) hy (by simp; omega) (by omega) (by simp; omega) (by omega) (by simp; omega) (by rw [hR,List.map_append,hop26]) (by simp [updF_app,h0]) (by simp [updF_app])
          rw [List.take_of_length_le (by simp),hgot26,← List.map_append]
          rw [Int.natCast_add] at nx
          simp only [List.length_append,List.length_map,List.length_singleton,List.length_cons,List.length_nil,List.map_append,List.map_cons,List.map_nil] at nx ⊢
          exact nx
    · rw [opsG_ins h] at hR
      rw [h] at hA hB
      simp at hA hB
      have f2 : s.n≤y.length := by omega
      have D := pInsert_spec (y.take s.n)
      have dl : (insO (y.take s.n)).length≤1 := by unfold insO; split <;> simp
      generalize insO (y.take s.n) = I at *
      refine loopC_once mixed l1_diff_ops.eq_1 ?_
      simp [hlt,hs,spA,spC,h,f2,h2,lens_it,ew]
      simp only [← List.map_drop,← List.map_take,tk]
      refine sc_call D (by simp) ?_
      simp [f2,h2,lens_it,ew]
      refine ⟨by omega,?_⟩
      simp only [← List.map_drop,← List.map_take,tk]
      have nx := ih m (by omega) (k + 1) (v + 1) x (y.drop s.n) (its ++ I.map IT.got) (updF H [2] ⟨v + 1,.arr 14 ((its ++ I.map IT.got).map itA)⟩) (by omega) hx (fun t ht => hy t (List.mem_of_mem_drop ht)) (by omega) (by simp; omega) (by omega) (by simp; omega) (by simp; omega) (by rw [hR,List.map_append,hop26]) (by simp [updF_app,h0]) (by simp [updF_app])
      rw [List.take_of_length_le (by simp),hgot26,← List.map_append]
      rw [Int.natCast_add] at nx
      simp only [List.length_append,List.length_map,List.length_singleton,List.length_cons,List.length_nil,List.map_append,List.map_cons,List.map_nil] at nx ⊢
      exact nx
end
theorem dOps26_spec {one : T→T→E} {a b : T} (ha : ∀ t,t ∈ a.kids→wfT t) (hb : ∀ t,t ∈ b.kids→wfT t) (hal : a.kids.length≤1000000) (hbl : b.kids.length≤1000000) {most : Int} (hone : ∀ x,x ∈ a.kids→∀ y,y ∈ b.kids→G.Spec Tryz.prog 26 [tX x,tX y,iv most] (eX (one x y))) {S : List Sp} (hS : S.length≤10000000) (hS2 : ∀ s,s ∈ S→s.k≤2) (hA : dA (unitsS S)≤a.kids.length) (hB : dB (unitsS S)≤b.kids.length) :
    G.Spec Tryz.prog 72 [sps S,tX a,tX b,iv most] (oKs (opsG (gapE one) S a.kids b.kids [])) := by
  refine spec_of t_diff_ops (by simp) fun w0 I0 => ?_
  unfold c_diff_ops
  simp
  refine LoopC.le (le_blank 9 [2] 14 (by simp)) ?_
  refine LoopC.le (le_list [(0,sps S),(3,iv most),(5,.pob [0] 1 0),(9,.osl [2] 1 14 0 ([] : List IT).length),(10,tKs a.kids),(11,tKs b.kids),(12,iv (0 : Nat))] (by simp [upd])) ?_
  refine dops_l1 (a := a) (b := b) ha hb hal hbl hone hS hS2 (R := opsG (gapE one) S a.kids b.kids []) (fun H' its v st hR k2 => ?_) S.length 0 1 a.kids b.kids [] _ (Nat.zero_add _) (fun t h => h) (fun t h => h) hal hbl (by simpa using hA) (by simpa using hB) (by simp) (by simp) (by simp [updF_app]) (by simp [updF_app])
  simp
  rw [← hR]
  exact frz_its k2 rfl
end Go.Proofs.YtmeldaflhkiopaaGreat
