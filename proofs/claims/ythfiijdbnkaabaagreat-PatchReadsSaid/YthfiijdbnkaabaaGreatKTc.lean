/-
  Texts, merged, without what is not reached.
-/
import Derived.Test.YthfiijdbnkaabaaGreatKTb
namespace Go.G
set_option linter.unusedVariables false
set_option linter.unusedSimpArgs false
open Go.RowKit
mutual
def A.soft : A→A
  | .sl _ xs => .sl false (A.softL xs)
  | .agg cs => .agg (A.softL cs)
  | .tup cs => .tup (A.softL cs)
  | .pim cs => .pim (A.softL cs)
  | .ifc t x => .ifc t (A.soft x)
  | .any => .any
  | .v x => .v x
  | .pob o u off => .pob o u off
  | .osl o u sz off len => .osl o u sz off len
  | .pel o u i j => .pel o u i j
  | .fnc f fs cs => .fnc f fs cs
def A.softL : List A→List A
  | [] => []
  | x :: xs => A.soft x :: A.softL xs
end
theorem softL_map : ∀ l : List A,A.softL l = l.map A.soft
  | [] => by simp [A.softL]
  | x :: l => by simp [A.softL,softL_map l]
theorem soft_cells (a : A) : a.soft.cells = a.cells.map A.soft := by cases a <;> simp [A.soft,A.cells,softL_map]
theorem soft_flat : ∀ l : List A,(l.map A.soft).flatMap A.cells = (l.flatMap A.cells).map A.soft
  | [] => rfl
  | x :: l => by simp [soft_cells,soft_flat l]
theorem soft_one (a : A) : a.soft.one = a.one := by cases a <;> simp [A.soft,A.one]
theorem Rel.soft {w : World} {I : Nat→Prop} {μ : Mu} {a : A} {x : Value} (h : Rel w I μ a x) : Rel w I μ a.soft x := by
  induction h with
  | any => simpa [A.soft] using Rel.any _ _
  | v => simpa [A.soft] using Rel.v _ _
  | slN μ f a cap h =>
    simp only [A.soft,A.softL]
    exact .slN _ _ _ _ (fun h => nomatch h)
  | sl μ f b off n cap sz xs g hb hn hc hf hs h1 hcell hr ih =>
    simp only [A.soft,softL_map]
    refine .sl _ _ b off n cap sz _ g hb (by simpa using hn) (by simpa using hc) (fun h => nomatch h) (fun x hx => ?_) (fun k y hk => ?_) (fun k y hk => ?_) (fun k y hk => ?_)
    · obtain ⟨x',hx',rfl⟩ := List.mem_map.1 hx
      simpa [soft_cells] using hs x' hx'
    all_goals
      rw [soft_flat,List.getElem?_map,Option.map_eq_some_iff] at hk
      obtain ⟨y',hy,rfl⟩ := hk
    · rw [soft_one]; exact h1 k y' hy
    · exact hcell k y' hy
    · exact ih k y' hy
  | agg μ cs vs hl _ ih =>
    simp only [A.soft,softL_map]
    refine .agg _ _ _ (by simpa using hl) fun k y hk => ?_
    rw [List.getElem?_map,Option.map_eq_some_iff] at hk
    obtain ⟨y',hy,rfl⟩ := hk
    exact ih k y' hy
  | tup μ cs vs hl _ ih =>
    simp only [A.soft,softL_map]
    refine .tup _ _ _ (by simpa using hl) fun k y hk => ?_
    rw [List.getElem?_map,Option.map_eq_some_iff] at hk
    obtain ⟨y',hy,rfl⟩ := hk
    exact ih k y' hy
  | pim μ b off cs g hb h1 hcell hr ih =>
    simp only [A.soft,softL_map]
    refine .pim _ b off _ g hb (fun k y hk => ?_) (fun k y hk => ?_) (fun k y hk => ?_)
    all_goals
      rw [List.getElem?_map,Option.map_eq_some_iff] at hk
      obtain ⟨y',hy,rfl⟩ := hk
    · rw [soft_one]; exact h1 k y' hy
    · exact hcell k y' hy
    · exact ih k y' hy
  | pob _ _ _ _ _ _ h1 h2 h3 => simpa [A.soft] using Rel.pob _ _ _ _ _ _ h1 h2 h3
  | osl _ _ _ _ _ _ _ _ h1 h2 h4 h5 h3 => simpa [A.soft] using Rel.osl _ _ _ _ _ _ _ _ h1 h2 h4 h5 h3
  | pel _ _ _ _ _ _ _ h1 h2 h3 => simpa [A.soft] using Rel.pel _ _ _ _ _ _ _ h1 h2 h3
  | fnc _ _ _ _ _ _ hl0 h0 hl h _ _ => simpa [A.soft] using Rel.fnc _ _ _ _ _ _ hl0 h0 hl h
  | ifc _ _ _ _ _ ih => simpa [A.soft] using Rel.ifc _ _ _ _ ih
theorem Spec.soft {P : Program} {f : FuncId} {as' as'' : List A} {r : A} (h : Spec P f as'' r) (e : A.softL as' = as'') : Spec P f as' r := by
  subst e
  refine ⟨h.1,fun w I vs hI hn ha => h.2 w I vs hI (by simpa [softL_map] using hn) fun k y hk => ?_⟩
  rw [softL_map,List.getElem?_map,Option.map_eq_some_iff] at hk
  obtain ⟨y',hy,rfl⟩ := hk
  exact (ha k y' hy).soft
theorem SpecB.soft {P : Program} {f : FuncId} {as' as'' : List A} {r : A} (h : SpecB P f as'' r) (e : A.softL as' = as'') : SpecB P f as' r := by
  subst e
  refine ⟨h.1,fun w I J vs hI hJ hn ha => h.2 w I J vs hI hJ (by simpa [softL_map] using hn) fun k y hk => ?_⟩
  rw [softL_map,List.getElem?_map,Option.map_eq_some_iff] at hk
  obtain ⟨y',hy,rfl⟩ := hk
  exact (ha k y' hy).soft
theorem frz_soft {H : Hp} {a : A} (h : a.bare = true) : Frz H a a.soft := fun c w I μ v hs hr => (frz_bare h c w I μ v hs hr).soft
end Go.G

namespace Go.G
set_option linter.unusedVariables false
set_option linter.unusedSimpArgs false
open Go.RowKit
mutual
def A.ren (g : Nm→Nm) (δ : Nm→Nat) : A→A
  | .pob o u off => .pob (g o) (u + δ o) off
  | .osl o u sz off len => .osl (g o) (u + δ o) sz off len
  | .pel o u i j => .pel (g o) (u + δ o) i j
  | .agg cs => .agg (A.renL g δ cs)
  | .tup cs => .tup (A.renL g δ cs)
  | .fnc f fs cs => .fnc f (A.renL g δ fs) (A.renL g δ cs)
  | .ifc t x => .ifc t (A.ren g δ x)
  | .any => .any
  | .v x => .v x
  | .sl f xs => .sl f xs
  | .pim cs => .pim cs
def A.renL (g : Nm→Nm) (δ : Nm→Nat) : List A→List A
  | [] => []
  | x :: xs => A.ren g δ x :: A.renL g δ xs
end
mutual
def A.refs (S : Nm→Prop) : A→Prop
  | .pob o u off => S o
  | .osl o u sz off len => S o
  | .pel o u i j => S o
  | .agg cs => A.refsL S cs
  | .tup cs => A.refsL S cs
  | .fnc f fs cs => A.refsL S fs∧A.refsL S cs
  | .ifc t x => A.refs S x
  | .any => True
  | .v x => True
  | .sl f xs => True
  | .pim cs => True
def A.refsL (S : Nm→Prop) : List A→Prop
  | [] => True
  | x :: xs => A.refs S x∧A.refsL S xs
end
theorem renL_map {g : Nm→Nm} {δ : Nm→Nat} : ∀ l : List A,A.renL g δ l = l.map (A.ren g δ)
  | [] => by simp [A.renL]
  | x :: l => by simp [A.renL,renL_map l]
theorem refsL_iff {S : Nm→Prop} : ∀ {l : List A},A.refsL S l ↔ ∀ x,x ∈ l→x.refs S
  | [] => by simp [A.refsL]
  | x :: l => by simp [A.refsL,refsL_iff (l := l)]
theorem ren_cells {g : Nm→Nm} {δ : Nm→Nat} (a : A) : (a.ren g δ).cells = a.cells.map (A.ren g δ) := by cases a <;> simp [A.ren,A.cells,renL_map]
theorem ren_flat {g : Nm→Nm} {δ : Nm→Nat} : ∀ l : List A,(l.map (A.ren g δ)).flatMap A.cells = (l.flatMap A.cells).map (A.ren g δ)
  | [] => rfl
  | x :: l => by simp [ren_cells,ren_flat l]
theorem ren_one {g : Nm→Nm} {δ : Nm→Nat} (a : A) : (a.ren g δ).one = a.one := by cases a <;> simp [A.ren,A.one]
theorem refs_cells {S : Nm→Prop} {a y : A} (h : a.refs S) (hy : y ∈ a.cells) : y.refs S := by
  cases a <;> simp [A.cells] at hy <;> first | (subst hy; exact h) | exact refsL_iff.1 (by simpa [A.refs] using h) y hy
theorem Rel.ren {w : World} {I : Nat→Prop} {μ : Mu} {a : A} {v : Value} (h : Rel w I μ a v) : ∀ {μ' : Mu} {S : Nm→Prop} {g : Nm→Nm} {δ : Nm→Nat},a.refs S→(∀ o,S o→1≤(μ o).u→μ' (g o) = { μ o with u := (μ o).u + δ o })→Rel w I μ' (a.ren g δ) v := by
  induction h with
  | any => intro μ' S g δ _ _; simpa [A.ren] using Rel.any _ _
  | v => intro μ' S g δ _ _; simpa [A.ren] using Rel.v _ _
  | slN _ _ _ _ h => intro μ' S g δ _ _; simpa [A.ren] using Rel.slN _ _ _ _ h
  | sl μ f b off n cap sz xs g hb hn hc hf hs h1 hcell hr _ => intro μ' S g' δ _ _; simpa [A.ren] using Rel.sl _ f b off n cap sz xs g hb hn hc hf hs h1 hcell hr
  | pim μ b off cs g hb h1 hcell hr _ => intro μ' S g' δ _ _; simpa [A.ren] using Rel.pim _ b off cs g hb h1 hcell hr
  | agg μ cs vs hl _ ih =>
    intro μ' S g δ hS hμ
    simp only [A.ren,renL_map]
    refine .agg _ _ _ (by simpa using hl) fun k y hk => ?_
    rw [List.getElem?_map,Option.map_eq_some_iff] at hk
    obtain ⟨y',hy,rfl⟩ := hk
    exact ih k y' hy (refsL_iff.1 (by simpa [A.refs] using hS) y' (List.mem_of_getElem? hy)) hμ
  | tup μ cs vs hl _ ih =>
    intro μ' S g δ hS hμ
    simp only [A.ren,renL_map]
    refine .tup _ _ _ (by simpa using hl) fun k y hk => ?_
    rw [List.getElem?_map,Option.map_eq_some_iff] at hk
    obtain ⟨y',hy,rfl⟩ := hk
    exact ih k y' hy (refsL_iff.1 (by simpa [A.refs] using hS) y' (List.mem_of_getElem? hy)) hμ
  | fnc μ f fs caps us vs hl0 _ hl _ ih0 ih =>
    intro μ' S g δ hS hμ
    simp only [A.refs] at hS
    simp only [A.ren,renL_map]
    refine .fnc _ _ _ _ _ _ (by simpa using hl0) (fun k y hk => ?_) (by simpa using hl) fun k y hk => ?_
    · rw [List.getElem?_map,Option.map_eq_some_iff] at hk
      obtain ⟨y',hy,rfl⟩ := hk
      exact ih0 k y' hy (refsL_iff.1 hS.1 y' (List.mem_of_getElem? hy)) hμ
    · rw [List.getElem?_map,Option.map_eq_some_iff] at hk
      obtain ⟨y',hy,rfl⟩ := hk
      exact ih k y' hy (refsL_iff.1 hS.2 y' (List.mem_of_getElem? hy)) hμ
  | ifc _ _ _ _ _ ih =>
    intro μ' S g δ hS hμ
    simp only [A.ren]
    exact .ifc _ _ _ _ (ih (by simpa [A.refs] using hS) hμ)
  | pob μ o u off b k h1 h2 h3 =>
    intro μ' S g δ hS hμ
    have e := hμ o (by simpa [A.refs] using hS) (by omega)
    simp only [A.ren]
    exact .pob _ _ _ _ _ _ (by omega) (by rw [e]; simpa using h2) fun hu => by rw [e] at hu ⊢; exact h3 (by simpa using hu)
  | osl μ o u sz off len a cap h1 h2 h4 h5 h3 =>
    intro μ' S g δ hS hμ
    have e := hμ o (by simpa [A.refs] using hS) (by omega)
    simp only [A.ren]
    exact .osl _ _ _ _ _ _ _ _ (by omega) (by rw [e]; simpa using h2) h4 h5 fun hu => by rw [e] at hu ⊢; exact h3 (by simpa using hu)
  | pel μ o u i j b k h1 h2 h3 =>
    intro μ' S g δ hS hμ
    have e := hμ o (by simpa [A.refs] using hS) (by omega)
    simp only [A.ren]
    exact .pel _ _ _ _ _ _ _ (by omega) (by rw [e]; simpa using h2) fun hu => by rw [e] at hu ⊢; exact h3 (by simpa using hu)
def Ob.ren (g : Nm→Nm) (δ : Nm→Nat) : Ob→Ob
  | .none => .none
  | .cells cs => .cells (A.renL g δ cs)
  | .arr sz xs => .arr sz (A.renL g δ xs)
def Ob.refs (S : Nm→Prop) : Ob→Prop
  | .none => True
  | .cells cs => A.refsL S cs
  | .arr sz xs => A.refsL S xs
theorem hasB_ren {g : Nm→Nm} {δ : Nm→Nat} {L : Loc} {ob : Ob} : hasB L (ob.ren g δ) = hasB L ob := by cases ob <;> rfl
theorem OSim.ren {w : World} {I : Nat→Prop} {μ μ' : Mu} {L L' : Loc} {ob : Ob} {S : Nm→Prop} {g : Nm→Nm} {δ : Nm→Nat} (h : OSim w I μ L ob) (hS : ob.refs S) (hμ : ∀ o,S o→1≤(μ o).u→μ' (g o) = { μ o with u := (μ o).u + δ o }) (hL : L' = { L with u := L'.u }) :
    OSim w I μ' L' (ob.ren g δ) := by
  rw [hL]
  cases ob with
  | none => trivial
  | cells cs =>
    obtain ⟨vs,h1,h2,h3⟩ := h
    simp only [Ob.ren,renL_map]
    refine ⟨vs,h1,by simpa using h2,fun k y hk => ?_⟩
    rw [List.getElem?_map,Option.map_eq_some_iff] at hk
    obtain ⟨y',hy,rfl⟩ := hk
    exact ⟨by rw [ren_one]; exact (h3 k y' hy).1,(h3 k y' hy).2.ren (refsL_iff.1 hS y' (List.mem_of_getElem? hy)) hμ⟩
  | arr sz xs =>
    simp only [Ob.ren,renL_map]
    obtain ⟨h0,⟨h1,h2⟩ | ⟨h1,vs,h3,h4,h5,h6,h7⟩⟩ := h
    · exact ⟨h0,.inl ⟨h1,by rw [h2]; rfl⟩⟩
    · refine ⟨h0,.inr ⟨h1,vs,h3,h4,by simpa using h5,fun x hx => ?_,fun k y hk => ?_⟩⟩
      · obtain ⟨x',hx',rfl⟩ := List.mem_map.1 hx
        simpa [ren_cells] using h6 x' hx'
      · rw [ren_flat,List.getElem?_map,Option.map_eq_some_iff] at hk
        obtain ⟨y',hy,rfl⟩ := hk
        obtain ⟨x,hx,hy'⟩ := List.mem_flatMap.1 (List.mem_of_getElem? hy)
        exact ⟨by rw [ren_one]; exact (h7 k y' hy).1,(h7 k y' hy).2.ren (refs_cells (refsL_iff.1 hS x hx) hy') hμ⟩
def cxh (P : Program) (w0 : World) (I0 : Nat→Prop) (M0 : Nm→Nat→Prop) (n : Nat) (m0 : Mu) : Cx := ⟨P,w0,I0,M0,n,m0⟩
@[simp] theorem cxh_P {P : Program} {w0 : World} {I0 : Nat→Prop} {M0 : Nm→Nat→Prop} {n : Nat} {m0 : Mu} : (cxh P w0 I0 M0 n m0).P = P := rfl
def SpecH (P : Program) (f : FuncId) (k : Nat) (args : List A) (Hc : Hp) (r : A) (Hr : Hp) : Prop :=
  okFn P f = true∧∀ (w : World) (I : Nat→Prop) (M0 : Nm→Nat→Prop) (n : Nat) (μ : Mu) (vs : Array Value),(∀ (o : Nm) (b : Nat),(Hc o).ob = .none→¬ M0 o b)→Sim (cxh P w I M0 n μ) w I μ Hc→vs.size = args.length→(∀ (k : Nat) (y : A),args[k]? = some y→Rel w I μ y (vs.getD k undef)) →
    Calls P f vs w fun e w' => ∃ v,e = .returned v∧∃ H' I' μ',Sim (cxh P w I M0 n μ) w' I' μ' H'∧Rel w' I' μ' r v∧∀ (i : Nat) (p : Nm),i < k→H' (i :: p) = Hr (i :: p)
theorem Sim.of_n {P : Program} {w0 w : World} {I0 I : Nat→Prop} {M0 : Nm→Nat→Prop} {n n' : Nat} {m0 μ : Mu} {H : Hp} (h : Sim (cxh P w0 I0 M0 n m0) w I μ H) : Sim (cxh P w0 I0 M0 n' m0) w I μ H :=
  ⟨h.kept,h.lt,h.old,h.new,h.ver,h.ob,h.apart,h.own,h.mle⟩
def RetH (c : Cx) (rs : List ResultVar) (k : Nat) (r : A) (Hr : Hp) : Exit→Sta→Prop := fun e st => StopK c (RetG c.P rs (fun r0 H => r0 = r∧∀ (i : Nat) (p : Nm),i < k→H (i :: p) = Hr (i :: p)) e) st
theorem reth_ret {c : Cx} {rs : List ResultVar} {k : Nat} {r r0 : A} {Hr : Hp} {st : Sta} (h : resA c.P st rs = some r0) (he : r0 = r) (hh : ∀ (i : Nat) (p : Nm),i < k→st.H (i :: p) = Hr (i :: p)) : RetH c rs k r Hr .ret st := stop_go ⟨r0,h,he,hh⟩
theorem reth_normal {c : Cx} {rs : List ResultVar} {k : Nat} {r r0 : A} {Hr : Hp} {st : Sta} (h : resA c.P st rs = some r0) (he : r0 = r) (hh : ∀ (i : Nat) (p : Nm),i < k→st.H (i :: p) = Hr (i :: p)) : RetH c rs k r Hr .normal st := stop_go ⟨r0,h,he,hh⟩
theorem specH_of' {P : Program} {f : FuncId} {n k : Nat} {rs : List ResultVar} {cc : CC} {args : List A} {Hc : Hp} {r : A} {Hr : Hp} (t : Txt P f n rs cc) (ha : args.length≤n)
    (h : ∀ w0 I0 M0 m0,(∀ (o : Nm) (b : Nat),(Hc o).ob = .none→¬ M0 o b)→WPC (cxh P w0 I0 M0 n m0) cc (RetH (cxh P w0 I0 M0 n m0) rs k r Hr) ⟨argS args,Hc⟩) : SpecH P f k args Hc r Hr := by
  obtain ⟨hm,hk,fn,code,hf,hb,hn,hrs,hc⟩ := t
  refine ⟨hk,fun w I M0 n' μ vs hN hs hl har => ?_⟩
  refine (body_run (Q := fun r0 H => r0 = r∧∀ (i : Nat) (p : Nm),i < k→H (i :: p) = Hr (i :: p)) hf hb (c := cxh P w I M0 n μ) rfl hn.symm hl (by omega) (Sim.of_n hs) har (fun a w1 I1 μ1 hsr => wp_mono (wpc_sound (c := cxh P w I M0 n μ) hm hc (h w I M0 μ hN) a w1 I1 μ1 hsr) fun e a' w' ⟨st',I',μ',g1,st2,g2,g3⟩ => by
      obtain ⟨I2,μ2,g4⟩ := g2 a' w' I' μ' g1
      exact ⟨st2,I2,μ2,g4,by rw [hrs]; exact g3⟩)).mono fun e w' ⟨v,r0,H',I',μ',he,h1,h2,h3,h4⟩ => ?_
  subst h3
  exact ⟨v,he,H',I',μ',h1.of_n,h2,h4⟩
theorem specH_of {P : Program} {f : FuncId} {n k : Nat} {rs : List ResultVar} {cc : CC} {args : List A} {Hc : Hp} {r : A} {Hr : Hp} (t : Txt P f n rs cc) (ha : args.length≤n)
    (h : ∀ w0 I0 M0 m0,WPC (cxh P w0 I0 M0 n m0) cc (RetH (cxh P w0 I0 M0 n m0) rs k r Hr) ⟨argS args,Hc⟩) : SpecH P f k args Hc r Hr := specH_of' t ha fun w0 I0 M0 m0 _ => h w0 I0 M0 m0
def upN (rs : List Nat) : Nm→Nm
  | i :: p => rs.getD i 0 :: p
  | [] => []
def dnN (rs : List Nat) : Nm→Nm
  | j :: p => rs.idxOf j :: p
  | [] => []
def inS (rs : List Nat) (m : Nat) : Nm→Prop
  | j :: p => rs.idxOf j < m
  | [] => False
def outS (k : Nat) : Nm→Prop
  | i :: p => i < k
  | [] => False
def dlt (rs : List Nat) (m : Nat) (H : Hp) : Nm→Nat
  | i :: p => if i < m then 0 else if i < rs.length then (H (rs.getD i 0 :: p)).u else 0
  | [] => 0
def VOb.ren (g : Nm→Nm) (δ : Nm→Nat) (d : Nat) (x : VOb) : VOb := ⟨x.u + d,x.ob.ren g δ⟩
def outH (rs : List Nat) (m : Nat) (H Hr : Hp) : Hp
  | j :: p => (Hr (rs.idxOf j :: p)).ren (upN rs) (dlt rs m H) (dlt rs m H (rs.idxOf j :: p))
  | [] => ⟨0,.none⟩
theorem idx_getD {rs : List Nat} (hnd : rs.Nodup) {i : Nat} (h : i < rs.length) : rs.idxOf (rs.getD i 0) = i := by
  have e : rs.getD i 0 = rs[i] := by simp [List.getD,h]
  rw [e]
  exact hnd.idxOf_getElem i h
theorem getD_idx {rs : List Nat} {j : Nat} (h : j ∈ rs) : rs.getD (rs.idxOf j) 0 = j := by
  have hl := List.idxOf_lt_length_iff.2 h
  simp [List.getD,hl]
theorem idx_mem {rs : List Nat} {j : Nat} : rs.idxOf j < rs.length ↔ j ∈ rs := List.idxOf_lt_length_iff
theorem obren_none {g : Nm→Nm} {δ : Nm→Nat} {d : Nat} {x : VOb} (h : (x.ren g δ d).ob = .none) : x.ob = .none := by
  cases x with
  | mk u ob => cases ob <;> first | rfl | cases h
theorem callOK_of {P : Program} {f : FuncId} {rs : List Nat} {m : Nat} {args : List A} {Hc Hr : Hp} {r : A} {H : Hp} (hnd : rs.Nodup) (hm : m≤rs.length)
    (hS : SpecH P f rs.length (A.renL (dnN rs) (fun _ => 0) args) Hc r Hr)
    (h1 : ∀ (i : Nat) (p : Nm),i < m→Hc (i :: p) = (H (rs.getD i 0 :: p)).ren (dnN rs) (fun _ => 0) 0) (h2 : ∀ (i : Nat) (p : Nm),m≤i→Hc (i :: p) = ⟨0,.none⟩) (h3 : Hc [] = ⟨0,.none⟩)
    (ha : A.refsL (inS rs m) args) (hc : ∀ (i : Nat) (p : Nm),i < m→(H (rs.getD i 0 :: p)).ob.refs (inS rs m))
    (hr : r.refs (outS rs.length)) (ho : ∀ (i : Nat) (p : Nm),i < rs.length→(Hr (i :: p)).ob.refs (outS rs.length))
    (hv : ∀ (i : Nat) (p : Nm),m≤i→i < rs.length→(Hr (i :: p)).ob = .none∨1≤(Hr (i :: p)).u) :
    CallOK P H f args (r.ren (upN rs) (dlt rs m H)) (.fn rs (outH rs m H Hr)) := by
  refine ⟨hS.1,fun c w I μ vs hP hs hl har => ?_⟩
  let nm : Nat→Nm→Nm := fun i p => rs.getD i 0 :: p
  let μc : Mu := fun o => match o with
    | i :: p => if i < m then μ (nm i p) else mu0 (i :: p)
    | [] => mu0 []
  let M1 : Nm→Nat→Prop := fun o b => ∃ i p,o = i :: p∧i < m∧hasB (μ (nm i p)) (H (nm i p)).ob = true∧b = (μ (nm i p)).b
  have hμ : ∀ o,inS rs m o→1≤(μ o).u→μc (dnN rs o) = { μ o with u := (μ o).u + (fun _ => 0) o } := fun o ho _ => by
    cases o with
    | nil => exact ho.elim
    | cons j p =>
      have hj : rs.idxOf j < m := ho
      show (if rs.idxOf j < m then μ (nm (rs.idxOf j) p) else _) = _
      rw [if_pos hj]
      have : nm (rs.idxOf j) p = j :: p := by show rs.getD (rs.idxOf j) 0 :: p = _; rw [getD_idx (idx_mem.1 (by omega))]
      rw [this]
      rfl
  have nm_ne : ∀ {i i' : Nat} {p p' : Nm},i < rs.length→i' < rs.length→i :: p ≠ i' :: p'→nm i p ≠ nm i' p' := fun {i i' p p'} hi hi' hne e => by
    have e1 : rs.getD i 0 = rs.getD i' 0 := by injection e
    have e2 : p = p' := by injection e
    have := idx_getD hnd hi
    rw [e1,idx_getD hnd hi'] at this
    exact hne (by rw [this,e2])
  have own1 : ∀ (i : Nat) (p : Nm),hasB (μc (i :: p)) (Hc (i :: p)).ob = true→i < m∧hasB (μ (nm i p)) (H (nm i p)).ob = true∧μc (i :: p) = μ (nm i p) := fun i p h => by
    by_cases hi : i < m
    · have e : μc (i :: p) = μ (nm i p) := if_pos hi
      rw [e,h1 i p hi] at h
      simp only [VOb.ren,hasB_ren] at h
      exact ⟨hi,h,e⟩
    · rw [h2 i p (by omega)] at h; cases h
  have start : Sim (cxh P w I M1 0 μc) w I μc Hc := by
    refine ⟨⟨rfl,rfl,rfl,Nat.le_refl _,fun _ _ _ => rfl⟩,hs.lt,fun _ h => h,fun b hb => .inl hb,fun o => ?_,fun o => ?_,fun o o' k k' hne => ?_,fun o k => ?_,MuLe.refl _⟩
    · cases o with
      | nil => rw [h3]; rfl
      | cons i p =>
        by_cases hi : i < m
        · have e : μc (i :: p) = μ (nm i p) := if_pos hi
          rw [e,h1 i p hi,hs.ver]; rfl
        · have e : μc (i :: p) = mu0 (i :: p) := if_neg hi
          rw [e,h2 i p (by omega)]; rfl
    · cases o with
      | nil => rw [h3]; trivial
      | cons i p =>
        by_cases hi : i < m
        · have e : μc (i :: p) = μ (nm i p) := if_pos hi
          rw [e,h1 i p hi]
          exact (hs.ob (nm i p)).ren (hc i p hi) hμ rfl
        · rw [h2 i p (by omega)]; trivial
    · cases o with
      | nil => rw [h3] at k; cases k
      | cons i p =>
        cases o' with
        | nil => rw [h3] at k'; cases k'
        | cons i' p' =>
          obtain ⟨q1,q2,q3⟩ := own1 i p k
          obtain ⟨r1,r2,r3⟩ := own1 i' p' k'
          rw [q3,r3]
          exact hs.apart _ _ q2 r2 (nm_ne (by omega) (by omega) hne)
    · cases o with
      | nil => rw [h3] at k; cases k
      | cons i p =>
        obtain ⟨q1,q2,q3⟩ := own1 i p k
        rw [q3]
        obtain ⟨g1,g2,g3⟩ := hs.own _ q2
        exact ⟨g1,.inl ⟨i,p,rfl,q1,q2,rfl⟩,g3⟩
  have harg : ∀ (k : Nat) (y : A),(A.renL (dnN rs) (fun _ => 0) args)[k]? = some y→Rel w I μc y (vs.getD k undef) := fun k y hk => by
    rw [renL_map,List.getElem?_map,Option.map_eq_some_iff] at hk
    obtain ⟨y',hy,rfl⟩ := hk
    exact (har k y' hy).ren (refsL_iff.1 ha y' (List.mem_of_getElem? hy)) hμ
  refine (hS.2 w I M1 0 μc vs (fun o b h ⟨i,p,e,hi,hb,_⟩ => by
    subst e
    rw [h1 i p hi] at h
    rw [show (H (nm i p)).ob = .none from obren_none h] at hb
    cases hb) start (by simpa [renL_map] using hl) harg).mono fun e w' ⟨v,he,H',I',μ',hs',hrel,hH'⟩ => ⟨v,he,I',?_⟩
  let δ := dlt rs m H
  let μ2 : Mu := fun n => match n with
    | j :: p => if j ∈ rs then (if rs.idxOf j < m∨1≤(μ' (rs.idxOf j :: p)).u then { μ' (rs.idxOf j :: p) with u := (μ' (rs.idxOf j :: p)).u + δ (rs.idxOf j :: p) } else μ (j :: p)) else μ (j :: p)
    | [] => μ []
  have δ0 : ∀ {i : Nat} {p : Nm},i < m→δ (i :: p) = 0 := fun {i p} h => if_pos h
  have δ1 : ∀ {i : Nat} {p : Nm},¬ i < m→i < rs.length→δ (i :: p) = (H (nm i p)).u := fun {i p} h h' => by
    show (if i < m then _ else _) = _
    rw [if_neg h,if_pos h']
  have nmj : ∀ {j : Nat} {p : Nm},j ∈ rs→nm (rs.idxOf j) p = j :: p := fun {j p} h => by show rs.getD (rs.idxOf j) 0 :: p = _; rw [getD_idx h]
  have app_in : ∀ {j : Nat} {p : Nm},j ∈ rs→(Eff.fn rs (outH rs m H Hr)).app H (j :: p) = outH rs m H Hr (j :: p) := fun {j p} h => by simp [Eff.app,h]
  have app_out : ∀ {j : Nat} {p : Nm},j ∉ rs→(Eff.fn rs (outH rs m H Hr)).app H (j :: p) = H (j :: p) := fun {j p} h => by simp [Eff.app,h]
  have app_nil' : (Eff.fn rs (outH rs m H Hr)).app H [] = H [] := rfl
  have mu_in : ∀ {j : Nat} {p : Nm},j ∈ rs→(rs.idxOf j < m∨1≤(μ' (rs.idxOf j :: p)).u)→μ2 (j :: p) = { μ' (rs.idxOf j :: p) with u := (μ' (rs.idxOf j :: p)).u + δ (rs.idxOf j :: p) } := fun {j p} h h' => by
    show (if j ∈ rs then _ else _) = _
    rw [if_pos h,if_pos h']
  have mu_old : ∀ {j : Nat} {p : Nm},j ∈ rs→¬ (rs.idxOf j < m∨1≤(μ' (rs.idxOf j :: p)).u)→μ2 (j :: p) = μ (j :: p) := fun {j p} h h' => by
    show (if j ∈ rs then _ else _) = _
    rw [if_pos h,if_neg h']
  have mu_out : ∀ {j : Nat} {p : Nm},j ∉ rs→μ2 (j :: p) = μ (j :: p) := fun {j p} h => by
    show (if j ∈ rs then _ else _) = _
    rw [if_neg h]
  have hle : MuLe μ μ2 := fun o => by
    cases o with
    | nil => exact ⟨Nat.le_refl _,fun _ => rfl⟩
    | cons j p =>
      by_cases hj : j ∈ rs
      · by_cases hi : rs.idxOf j < m
        · rw [mu_in hj (.inl hi),δ0 hi]
          have e : μc (rs.idxOf j :: p) = μ (j :: p) := by
            show (if rs.idxOf j < m then _ else _) = _
            rw [if_pos hi,nmj hj]
          have := hs'.mle (rs.idxOf j :: p)
          change (μc (rs.idxOf j :: p)).u≤_∧(_ = (μc (rs.idxOf j :: p)).u→_ = μc (rs.idxOf j :: p)) at this
          rw [e] at this
          exact ⟨this.1,fun q => by rw [← this.2 q]; rfl⟩
        · by_cases hu : 1≤(μ' (rs.idxOf j :: p)).u
          · rw [mu_in hj (.inr hu),δ1 hi (idx_mem.2 hj),nmj hj,← hs.ver]
            exact ⟨by simp,fun q => by simp at q; omega⟩
          · rw [mu_old hj (by omega)]; exact ⟨Nat.le_refl _,fun _ => rfl⟩
      · rw [mu_out hj]; exact ⟨Nat.le_refl _,fun _ => rfl⟩
  have notM1 : ∀ {n : Nm} {b : Nat},hasB (μ n) (H n).ob = true→b = (μ n).b→(∀ j p,n = j :: p→j ∉ rs)→¬ ∃ o,M1 o b := fun {n b} hb e hn ⟨_,i,p,_,q1,q2,q3⟩ => by
    refine hs.apart n (nm i p) hb q2 (fun e' => ?_) (by rw [← e,q3])
    refine hn _ _ e' ?_
    have : i < rs.length := by omega
    simp [List.getD,this]
  have hx : Ext I μ w I' μ2 w' := ⟨fun b h => hs'.old b h,fun b h => hs'.kept.block b (hs.lt b h) (fun ⟨_,i,p,_,q1,q2,q3⟩ => (hs.own _ q2).1 (by rw [← q3]; exact h)),hle⟩
  have hμ2 : ∀ o,outS rs.length o→1≤(μ' o).u→μ2 (upN rs o) = { μ' o with u := (μ' o).u + δ o } := fun o ho h1 => by
    cases o with
    | nil => exact ho.elim
    | cons i p =>
      have hi : i < rs.length := ho
      have e := idx_getD hnd hi
      have hmem : rs.getD i 0 ∈ rs := idx_mem.1 (by rw [e]; exact hi)
      show μ2 (rs.getD i 0 :: p) = _
      rw [mu_in hmem (.inr (by rw [e]; exact h1)),e]
  have oH : ∀ {j : Nat} {p : Nm},j ∈ rs→(H' (rs.idxOf j :: p)) = Hr (rs.idxOf j :: p) := fun {j p} h => hH' _ _ (idx_mem.2 h)
  have own2 : ∀ {j : Nat} {p : Nm},j ∈ rs→hasB (μ2 (j :: p)) (outH rs m H Hr (j :: p)).ob = true→hasB (μ' (rs.idxOf j :: p)) (H' (rs.idxOf j :: p)).ob = true∧(μ2 (j :: p)).b = (μ' (rs.idxOf j :: p)).b := fun {j p} hj h => by
    simp only [outH,VOb.ren,hasB_ren] at h
    by_cases hi : rs.idxOf j < m∨1≤(μ' (rs.idxOf j :: p)).u
    · rw [mu_in hj hi] at h ⊢
      rw [oH hj]
      exact ⟨by cases hq : (Hr (rs.idxOf j :: p)).ob <;> rw [hq] at h <;> exact h,rfl⟩
    · rcases hv (rs.idxOf j) p (by omega) (idx_mem.2 hj) with e | e
      · rw [e] at h; cases h
      · rw [← oH hj,← hs'.ver] at e; omega
  have blk : ∀ {i : Nat} {p : Nm},hasB (μ' (i :: p)) (H' (i :: p)).ob = true→¬ I' (μ' (i :: p)).b∧(M1 (i :: p) (μ' (i :: p)).b∨w.heap.size≤(μ' (i :: p)).b)∧(μ' (i :: p)).b < w'.heap.size := fun {i p} h => hs'.own _ h
  refine ⟨μ2,hx,⟨?_,hs'.lt,fun b h => hs'.old b (hs.old b h),fun b h => ?_,fun o => ?_,fun o => ?_,fun o o' k k' hne => ?_,fun o k => ?_,hs.mle.trans hle⟩,hrel.ren hr hμ2⟩
  · have k1 := hs.kept
    have k2 := hs'.kept
    refine ⟨k2.os.trans k1.os,k2.tape.trans k1.tape,k2.output.trans k1.output,Nat.le_trans k1.size k2.size,fun b hb hM => ?_⟩
    refine (k2.block b (Nat.lt_of_lt_of_le hb k1.size) (fun ⟨_,i,p,_,q1,q2,q3⟩ => ?_)).trans (k1.block b hb hM)
    rcases (hs.own _ q2).2.1 with g | g
    · rw [← q3] at g; exact hM ⟨_,g⟩
    · rw [← q3] at g; omega
  · rcases hs'.new b h with g | g
    · exact hs.new b g
    · exact .inr (Nat.le_trans hs.kept.size g)
  · cases o with
    | nil => exact hs.ver []
    | cons j p =>
      by_cases hj : j ∈ rs
      · rw [app_in hj]
        show _ = (Hr (rs.idxOf j :: p)).u + δ (rs.idxOf j :: p)
        rw [← oH hj,← hs'.ver]
        by_cases hi : rs.idxOf j < m∨1≤(μ' (rs.idxOf j :: p)).u
        · rw [mu_in hj hi]
        · rw [mu_old hj hi,δ1 (by omega) (idx_mem.2 hj),nmj hj,hs.ver]; omega
      · rw [app_out hj,mu_out hj]; exact hs.ver _
  · cases o with
    | nil => exact OSim.keep hx (fun hb => hs'.kept.block _ (hs.own _ hb).2.2 (notM1 hb rfl (fun j p e => nomatch e))) (hs.ob [])
    | cons j p =>
      by_cases hj : j ∈ rs
      · rw [app_in hj]
        by_cases hi : rs.idxOf j < m∨1≤(μ' (rs.idxOf j :: p)).u
        · rw [mu_in hj hi]
          have := hs'.ob (rs.idxOf j :: p)
          rw [oH hj] at this
          exact this.ren (ho _ _ (idx_mem.2 hj)) hμ2 rfl
        · rcases hv (rs.idxOf j) p (by omega) (idx_mem.2 hj) with e | e
          · simp only [outH,VOb.ren,e]; trivial
          · rw [← oH hj,← hs'.ver] at e; omega
      · rw [app_out hj,mu_out hj]
        exact OSim.keep hx (fun hb => hs'.kept.block _ (hs.own _ hb).2.2 (notM1 hb rfl (fun j' p' e => by cases e; exact hj))) (hs.ob _)
  · have cross : ∀ {j : Nat} {p : Nm} {n : Nm},j ∈ rs→hasB (μ2 (j :: p)) (outH rs m H Hr (j :: p)).ob = true→hasB (μ n) (H n).ob = true→(∀ j p,n = j :: p→j ∉ rs)→(μ2 (j :: p)).b ≠ (μ n).b := fun {j p n} hj h h' hn e => by
      obtain ⟨q1,q2⟩ := own2 hj h
      obtain ⟨_,g,_⟩ := blk q1
      rw [q2] at e
      rcases g with g | g
      · exact notM1 h' e hn ⟨_,g⟩
      · have := (hs.own _ h').2.2; omega
    cases o with
    | nil =>
      cases o' with
      | nil => exact (hne rfl).elim
      | cons j' p' =>
        by_cases hj' : j' ∈ rs
        · rw [app_in hj'] at k'
          exact Ne.symm (cross hj' k' k (fun j p e => nomatch e))
        · rw [app_out hj',mu_out hj'] at k'
          rw [mu_out hj']
          exact hs.apart _ _ k k' hne
    | cons j p =>
      by_cases hj : j ∈ rs
      · rw [app_in hj] at k
        cases o' with
        | nil => exact cross hj k k' (fun j p e => nomatch e)
        | cons j' p' =>
          by_cases hj' : j' ∈ rs
          · rw [app_in hj'] at k'
            obtain ⟨q1,q2⟩ := own2 hj k
            obtain ⟨r1,r2⟩ := own2 hj' k'
            rw [q2,r2]
            refine hs'.apart _ _ q1 r1 (fun e => hne ?_)
            have e1 : rs.idxOf j = rs.idxOf j' := by injection e
            have e2 : p = p' := by injection e
            rw [← getD_idx hj,← getD_idx hj',e1,e2]
          · rw [app_out hj',mu_out hj'] at k'
            rw [mu_out hj']
            exact cross hj k k' (fun j'' p'' e => by cases e; exact hj')
      · rw [app_out hj,mu_out hj] at k
        rw [mu_out hj]
        cases o' with
        | nil => exact hs.apart _ _ k k' hne
        | cons j' p' =>
          by_cases hj' : j' ∈ rs
          · rw [app_in hj'] at k'
            exact Ne.symm (cross hj' k' k (fun j'' p'' e => by cases e; exact hj))
          · rw [app_out hj',mu_out hj'] at k'
            rw [mu_out hj']
            exact hs.apart _ _ k k' hne
  · have far : ∀ {n : Nm},hasB (μ n) (H n).ob = true→¬ I' (μ n).b∧(c.M0 n (μ n).b∨c.w0.heap.size≤(μ n).b)∧(μ n).b < w'.heap.size := fun {n} h => by
      obtain ⟨g1,g2,g3⟩ := hs.own _ h
      refine ⟨fun h' => ?_,g2,Nat.lt_of_lt_of_le g3 hs'.kept.size⟩
      rcases hs'.new _ h' with g | g
      · exact g1 g
      · exact absurd (show w.heap.size≤_ from g) (by omega)
    cases o with
    | nil => exact far k
    | cons j p =>
      by_cases hj : j ∈ rs
      · rw [app_in hj] at k
        obtain ⟨q1,q2⟩ := own2 hj k
        rw [q2]
        obtain ⟨g1,g2,g3⟩ := blk q1
        refine ⟨g1,?_,g3⟩
        rcases g2 with ⟨i,p',r0,r1,r2,r3⟩ | g2
        · have e1 : rs.idxOf j = i := by injection r0
          have e2 : p = p' := by injection r0
          rw [← e1,← e2,nmj hj] at r2 r3
          rw [r3]
          exact (hs.own _ r2).2.1
        · exact .inr (Nat.le_trans hs.kept.size g2)
      · rw [app_out hj,mu_out hj] at k
        rw [mu_out hj]
        exact far k
end Go.G

namespace Go.G
set_option linter.unusedVariables false
set_option linter.unusedSimpArgs false
open Go.RowKit
def mk (P : Program) (t : TypeId) (as' : List A) : A := match P.underlying t with
  | some (.struct _) => .agg as'
  | _ => as'.headD .any
def HasL (R : TypeId→List A→Prop) : List Field→List A→Prop
  | [],as' => as' = []
  | f :: fs,as' => ∃ a b,as' = a ++ b∧R f.type a∧HasL R fs b
def Has (P : Program) : Nat→TypeId→List A→Prop
  | 0,_,_ => False
  | n + 1,t,as' => match P.underlying t with
    | some .bool => ∃ b,as' = [.v (.bool b)]
    | some (.int k) => ∃ m,(Lit.int k m).wf = true∧as' = [.v (.int k m)]
    | some .string => ∃ s,s.size≤maxLen∧s.size≤reachBytes∧as' = [.v (.string s)]
    | some (.slice e) => ∃ f xs,as' = [.sl f xs]∧xs.length≤maxLen∧xs.length * P.bytesOf e≤reachBytes∧(f = true→xs = [])∧∀ x,x ∈ xs→∃ b,Has P n e b∧x = mk P e b
    | some (.struct fs) => HasL (Has P n) fs.toList as'
    | _ => False
def HasT (R : TypeId→List A→Prop) : List TypeId→List A→Prop
  | [],as' => as' = []
  | t :: ts,as' => ∃ a b,as' = a ++ b∧R t a∧HasT R ts b
theorem hasL_types {R : TypeId→List A→Prop} : ∀ {fs : List Field} {as' : List A},HasL R fs as' ↔ HasT R (fs.map Field.type) as'
  | [],as' => Iff.rfl
  | f :: fs,as' => by simp only [HasL,HasT,List.map_cons,hasL_types (fs := fs)]
def tiles (P : Program) : Nat→List Field→Option Nat
  | off,[] => some off
  | off,f :: fs => if f.offset = off then tiles P (off + P.cellsOf f.type) fs else none
def plainT (P : Program) (S : List TypeId) : Bool := S.all fun t => match P.underlying t with
  | some .bool | some (.int _) | some .string => P.cellsOf t == 1
  | some (.slice e) => P.cellsOf t == 1 && (decide (0 < P.cellsOf e) && S.contains e)
  | some (.struct fs) => tiles P 0 fs.toList == some (P.cellsOf t) && fs.toList.all fun f => S.contains f.type
  | _ => false
theorem list_of {β : Type} {R : Nat→β→Prop} : ∀ {n : Nat},(∀ i,i < n→∃ b,R i b)→∃ l : List β,l.length = n∧∀ (i : Nat) (b : β),l[i]? = some b→R i b
  | 0,_ => ⟨[],rfl,fun i b h => by simp at h⟩
  | n + 1,h => by
    obtain ⟨l,h1,h2⟩ := list_of (n := n) (fun i hi => h i (by omega))
    obtain ⟨b,hb⟩ := h n (by omega)
    refine ⟨l ++ [b],by simp [h1],fun i c hc => ?_⟩
    rw [List.getElem?_append] at hc
    split at hc
    · exact h2 i c hc
    · rename_i hi
      have : i = n := by
        have := (List.getElem?_eq_some_iff.1 hc).1
        simp at this
        omega
      subst this
      simp [h1] at hc
      subst hc
      exact hb
theorem mapM_get {α β : Type} {f : α→Option β} : ∀ {l : List α} {r : List β},l.mapM f = some r→r.length = l.length∧∀ (i : Nat) (a : α),l[i]? = some a→∃ b,f a = some b∧r[i]? = some b
  | [],r,h => by
    simp at h
    subst h
    exact ⟨rfl,fun i a h => by simp at h⟩
  | a :: l,r,h => by
    rw [List.mapM_cons] at h
    simp only [Option.bind_eq_bind,Option.bind_eq_some_iff] at h
    obtain ⟨b,hb,r',hr,h⟩ := h
    cases h
    obtain ⟨h1,h2⟩ := mapM_get hr
    refine ⟨by simp [h1],fun i c hc => ?_⟩
    cases i with
    | zero => simp at hc; subst hc; exact ⟨b,hb,rfl⟩
    | succ i => simpa using h2 i c (by simpa using hc)
theorem cells?_get {w : World} {base : Nat} {a : Addr} {n : Nat} {cs : List Value} (h : w.cells? base a n = some cs) : cs.length = n∧∀ i,i < n→w.cell? (a.add i) = some (cs.getD i undef) := by
  unfold World.cells? at h
  split at h
  · obtain ⟨h1,h2⟩ := mapM_get h
    refine ⟨by simpa using h1,fun i hi => ?_⟩
    obtain ⟨b,hb,hr⟩ := h2 i i (by simp [hi])
    rw [hb]
    simp [List.getD,hr]
  · cases h
theorem mk_cells {P : Program} {n : Nat} {t : TypeId} {as' : List A} (h : Has P n t as') : (mk P t as').cells = as' := by
  cases n with
  | zero => exact h.elim
  | succ n =>
    unfold Has at h
    unfold mk
    split at h
    · rename_i hu; obtain ⟨b,rfl⟩ := h; rw [hu]; rfl
    · rename_i hu; obtain ⟨m,_,rfl⟩ := h; rw [hu]; rfl
    · rename_i hu; obtain ⟨m,_,_,rfl⟩ := h; rw [hu]; rfl
    · rename_i hu; obtain ⟨f,xs,rfl,_⟩ := h; rw [hu]; rfl
    · rename_i hu; rw [hu]; rfl
    · exact h.elim
theorem flat_inv {sz : Nat} (hp : 0 < sz) {xs : List A} {k : Nat} {y : A} (h : ∀ x,x ∈ xs→x.cells.length = sz) (hk : (xs.flatMap A.cells)[k]? = some y) : ∃ x,xs[k / sz]? = some x∧x.cells[k % sz]? = some y := by
  have hl := (List.getElem?_eq_some_iff.1 hk).1
  rw [flat_len h] at hl
  have hi : k / sz < xs.length := by rw [Nat.div_lt_iff_lt_mul hp]; exact hl
  have hj : k % sz < sz := Nat.mod_lt _ hp
  have hx : xs[k / sz]? = some xs[k / sz] := List.getElem?_eq_getElem hi
  have hcl := h _ (List.mem_of_getElem? hx)
  have hz : xs[k / sz].cells[k % sz]? = some (xs[k / sz].cells[k % sz]'(by omega)) := List.getElem?_eq_getElem (by omega)
  have := flat_get h hx hz
  have e : k / sz * sz + k % sz = k := by rw [Nat.mul_comm]; exact Nat.div_add_mod k sz
  rw [e,hk] at this
  exact ⟨_,hx,by rw [hz]; exact this.symm⟩
theorem getD_left {α : Type} {l l' : List α} {k : Nat} {d : α} (h : k < l.length) : (l ++ l').getD k d = l.getD k d := by
  simp [List.getD,List.getElem?_append_left h]
theorem getD_right {α : Type} {l l' : List α} {k : Nat} {d : α} (h : l.length≤k) : (l ++ l').getD k d = l'.getD (k - l.length) d := by
  simp [List.getD,List.getElem?_append_right h]
section
variable {H : Type} {enc : TypeId × Value→H} {P : Program} {w : World} {base : Nat} {sp : Nat→Bool} {held : Bool}
abbrev Old (w : World) (b : Nat) : Prop := b < w.heap.size
def Fits (w : World) (as' : List A) (cs : List Value) : Prop := as'.length = cs.length∧∀ (k : Nat) (y : A),as'[k]? = some y→y.one = true∧Rel w (Old w) mu0 y (cs.getD k undef)
theorem Fits.one {x : A} {v : Value} (h : x.one = true) (hr : Rel w (Old w) mu0 x v) : Fits w [x] [v] := ⟨rfl,fun k y hk => by
  cases k with
  | zero => cases hk; exact ⟨h,hr⟩
  | succ k => simp at hk⟩
theorem Fits.append {as' bs : List A} {cs ds : List Value} (h : Fits w as' cs) (h' : Fits w bs ds) : Fits w (as' ++ bs) (cs ++ ds) := ⟨by simp [h.1,h'.1],fun k y hk => by
  rw [List.getElem?_append] at hk
  split at hk
  · rename_i hl
    have := h.2 k y hk
    rwa [getD_left (by rw [← h.1]; exact hl)]
  · rename_i hl
    have := h'.2 _ y hk
    rw [getD_right (by rw [← h.1]; omega),← h.1]
    exact this⟩
theorem fields_fit {n : Nat} {cs : List Value} (ih : ∀ (t : TypeId) (cs : List Value) x,DataW.trod enc P w base sp held n t cs = some x→P.cellsOf t = cs.length→(∀ m,m ∈ DataW.weights P t x.1→m≤reachBytes)→∀ S,plainT P S = true→t ∈ S→∃ as',Has P n t as'∧Fits w as' cs) {S : List TypeId} (hS : plainT P S = true) :
    ∀ (fs : List Field) (off tot : Nat) xs,(∀ m,m ∈ DataW.weightsEach P (fs.map Field.type) (xs.map (·.1))→m≤reachBytes)→(∀ f,f ∈ fs→f.type ∈ S)→tiles P off fs = some tot→tot = cs.length→(fs.mapM fun f => DataW.trod enc P w base sp held n f.type ((cs.drop f.offset).take (P.cellsOf f.type))) = some xs →
      ∃ as',HasL (Has P n) fs as'∧Fits w as' (cs.drop off)∧off≤tot
  | [],off,tot,xs,_,_,ht,hn,_ => by
    cases ht
    refine ⟨[],rfl,⟨?_,fun k y hk => by simp at hk⟩,Nat.le_refl _⟩
    simp [hn]
  | f :: fs,off,tot,xs,hw,hf,ht,hn,hm => by
    unfold tiles at ht
    split at ht
    · rename_i ho
      rw [List.mapM_cons] at hm
      simp only [Option.bind_eq_bind,Option.bind_eq_some_iff] at hm
      obtain ⟨x,hx,xs',hxs,hq⟩ := hm
      cases hq
      simp only [List.map_cons,DataW.weightsEach,List.mem_append] at hw
      obtain ⟨bs,hb1,hb2,hb3⟩ := fields_fit ih hS fs (off + P.cellsOf f.type) tot xs' (fun m hm => hw m (.inr hm)) (fun g hg => hf g (by simp [hg])) ht hn hxs
      rw [ho] at hx
      obtain ⟨as',ha1,ha2⟩ := ih f.type _ x hx (by simp; omega) (fun m hm => hw m (.inl hm)) S hS (hf f (by simp))
      refine ⟨as' ++ bs,⟨as',bs,rfl,ha1,hb1⟩,?_,by omega⟩
      have e : cs.drop off = (cs.drop off).take (P.cellsOf f.type) ++ cs.drop (off + P.cellsOf f.type) := by
        rw [← List.drop_drop,List.take_append_drop]
      rw [e]
      exact ha2.append hb2
    · cases ht
theorem weightsAll_of {e : TypeId} {d : DataW H} {m : Nat} (h : m ∈ DataW.weights P e d) : ∀ {l : List (DataW H)},d ∈ l→m ∈ DataW.weightsAll P e l
  | x :: l,hd => by
    simp only [DataW.weightsAll,List.mem_append]
    rcases List.mem_cons.1 hd with rfl | hd
    · exact .inl h
    · exact .inr (weightsAll_of h hd)
theorem fits_of_trod : ∀ (n : Nat) (t : TypeId) (cs : List Value) (x : DataW H × List MemPlace),DataW.trod enc P w base sp held n t cs = some x→P.cellsOf t = cs.length→(∀ m,m ∈ DataW.weights P t x.1→m≤reachBytes)→∀ S,plainT P S = true→t ∈ S→∃ as',Has P n t as'∧Fits w as' cs
  | 0,t,cs,x,h,_,_,_,_,_ => by simp [DataW.trod] at h
  | n + 1,t,cs,x,h,hlen,hwt,S,hS,ht => by
    have hT := hS
    unfold plainT at hT
    rw [List.all_eq_true] at hT
    have hT := hT t ht
    have ih := fits_of_trod n
    unfold DataW.trod at h
    split at h
    · rename_i b hu
      exact ⟨[.v (.bool b)],by unfold Has; rw [hu]; exact ⟨b,rfl⟩,Fits.one rfl (.v _ _)⟩
    · rename_i k k' m hu
      split at h
      · rename_i hk
        obtain ⟨rfl,hw⟩ := hk
        exact ⟨[.v (.int k' m)],by unfold Has; rw [hu]; exact ⟨m,hw,rfl⟩,Fits.one rfl (.v _ _)⟩
      · cases h
    · rename_i hu; rw [hu] at hT; cases hT
    · rename_i s hu
      split at h
      · rename_i hs
        cases h
        have hz : s.size≤reachBytes := by
          have := hwt s.data.toList.length (by simp [DataW.weights])
          simpa using this
        exact ⟨[.v (.string s)],by unfold Has; rw [hu]; exact ⟨s,hs,hz,rfl⟩,Fits.one rfl (.v _ _)⟩
      · cases h
    · rename_i hu; rw [hu] at hT; cases hT
    · rename_i hu; rw [hu] at hT; cases hT
    · rename_i e hu
      exact ⟨[.sl true []],by unfold Has; rw [hu]; exact ⟨true,[],rfl,by simp,by simp,fun _ => rfl,fun x hx => by simp at hx⟩,Fits.one rfl (.slN _ _ _ _ (fun _ => rfl))⟩
    · rename_i e a len cap hu
      rw [hu] at hT
      simp only [Bool.and_eq_true,decide_eq_true_eq,beq_iff_eq] at hT
      obtain ⟨_,hpos,heS⟩ := hT
      have heS : e ∈ S := by simpa using heS
      split at h
      · rename_i hb
        obtain ⟨hb0,hb1,hb2⟩ := hb
        simp only [Option.bind_eq_some_iff] at h
        obtain ⟨elems,he,h⟩ := h
        simp only [Option.map_eq_some_iff] at h
        obtain ⟨rest,_,rfl⟩ := h
        simp only [DataW.weights,hu] at hwt
        obtain ⟨he1,he2⟩ := mapM_get he
        have each : ∀ i,i < len→∃ as' : List A,Has P n e as'∧∃ cs,w.cells? base (a.add (i * P.cellsOf e)) (P.cellsOf e) = some cs∧Fits w as' cs := fun i hi => by
          obtain ⟨y,hy,hg⟩ := he2 i i (by simp [hi])
          simp only [Option.bind_eq_some_iff] at hy
          obtain ⟨cs,hc1,hc2⟩ := hy
          obtain ⟨as',h1,h2⟩ := ih e cs y hc2 (cells?_get hc1).1.symm (fun m hm => hwt m (List.mem_cons_of_mem _ (List.mem_append_left _ (weightsAll_of hm (List.mem_map.2 ⟨y,List.mem_of_getElem? hg,rfl⟩))))) S hS heS
          exact ⟨as',h1,cs,hc1,h2⟩
        obtain ⟨l,hl1,hl2⟩ := list_of each
        have hxs : (l.map (mk P e)).length = len := by simpa using hl1
        refine ⟨[.sl false (l.map (mk P e))],by
          unfold Has; rw [hu]
          refine ⟨false,_,rfl,by rw [hxs]; omega,by
            have := hwt _ List.mem_cons_self
            rw [hxs]
            refine Nat.le_trans (Nat.mul_le_mul_right _ ?_) this
            simp at he1 ⊢
            omega,(fun h => nomatch h),fun x hx => ?_⟩
          obtain ⟨b,hb,rfl⟩ := List.mem_map.1 hx
          obtain ⟨i,hi⟩ := List.getElem?_of_mem hb
          exact ⟨b,(hl2 i b hi).1,rfl⟩,Fits.one rfl ?_⟩
        by_cases h0 : len = 0
        · subst h0
          have : l = [] := List.length_eq_zero_iff.1 hl1
          subst this
          exact .slN _ _ _ _ (fun h => by cases h)
        · have hlen2 : ∀ x,x ∈ l.map (mk P e)→x.cells.length = P.cellsOf e := fun x hx => by
            obtain ⟨b,hb,rfl⟩ := List.mem_map.1 hx
            obtain ⟨i,hi⟩ := List.getElem?_of_mem hb
            obtain ⟨k1,cs,k2,k3⟩ := hl2 i b hi
            rw [mk_cells k1,k3.1,(cells?_get k2).1]
          have hspot : a.spot = none∧a.block < w.heap.size := by
            obtain ⟨b,hb⟩ : ∃ b,l[0]? = some b := ⟨_,List.getElem?_eq_getElem (by omega)⟩
            obtain ⟨_,cs,k2,_⟩ := hl2 0 b hb
            have := (cells?_get k2).2 0 hpos
            simp only [Nat.zero_mul,Addr.add,if_true,World.cell?] at this
            split at this
            · rename_i hh
              split at this
              · cases this
              · rename_i hsp
                exact ⟨by simpa using hsp,(Array.getElem?_eq_some_iff.1 hh).1⟩
            · cases this
          obtain ⟨b,off,sp'⟩ := a
          obtain ⟨hsp,hbl⟩ := hspot
          simp only at hsp hbl
          subst hsp
          have main : ∀ (k : Nat) (y : A),((l.map (mk P e)).flatMap A.cells)[k]? = some y→y.one = true∧w.cell? ⟨b,off + k,none⟩ = some ((w.cell? ⟨b,off + k,none⟩).getD undef)∧Rel w (Old w) mu0 y ((w.cell? ⟨b,off + k,none⟩).getD undef) := fun k y hk => by
            obtain ⟨x,hx,hy⟩ := flat_inv hpos hlen2 hk
            rw [List.getElem?_map] at hx
            simp only [Option.map_eq_some_iff] at hx
            obtain ⟨as',ha,rfl⟩ := hx
            obtain ⟨k1,cs,k2,k3⟩ := hl2 _ as' ha
            rw [mk_cells k1] at hy
            have hj : k % P.cellsOf e < P.cellsOf e := Nat.mod_lt _ hpos
            have hc := (cells?_get k2).2 _ hj
            have ea : ((⟨b,off,none⟩ : Addr).add (k / P.cellsOf e * P.cellsOf e)).add (k % P.cellsOf e) = ⟨b,off + k,none⟩ := by
              have := Nat.div_add_mod k (P.cellsOf e)
              rw [Nat.mul_comm] at this
              unfold Addr.add
              split <;> split <;> simp <;> omega
            rw [ea] at hc
            obtain ⟨k4,k5⟩ := k3.2 _ y hy
            exact ⟨k4,by rw [hc]; rfl,by rw [hc]; exact k5⟩
          exact .sl _ false b off len cap (P.cellsOf e) _ (fun k => (w.cell? ⟨b,off + k,none⟩).getD undef) hbl hxs.symm (by omega) (fun h => by cases h) hlen2 (fun k y hk => (main k y hk).1) (fun k y hk => (main k y hk).2.1) (fun k y hk => (main k y hk).2.2)
      · cases h
    · rename_i fs hu
      rw [hu] at hT
      simp only [Bool.and_eq_true,beq_iff_eq,List.all_eq_true] at hT
      split at h
      · simp only [Option.map_eq_some_iff] at h
        obtain ⟨xs,hx,rfl⟩ := h
        simp only [DataW.weights,hu] at hwt
        obtain ⟨as',h1,h2,_⟩ := fields_fit (fun t cs x h hl hw S hS ht => ih t cs x h hl hw S hS ht) hS fs.toList 0 _ xs hwt (fun f hf => by simpa using hT.2 f hf) hT.1 hlen hx
        exact ⟨as',by unfold Has; rw [hu]; exact h1,by simpa using h2⟩
      · cases h
    all_goals first | (rename_i hu; rw [hu] at hT; cases hT; done) | cases h
end
def ArgsHas (P : Program) : List TypeId→List A→Prop
  | [],[] => True
  | t :: ts,a :: as' => (∃ n b,Has P n t b∧a = mk P t b)∧ArgsHas P ts as'
  | _,_ => False
section
open Go.ChangeShapes Go.WideShapes
variable {H : Type} {enc : TypeId × Value→H} {P : Program} {w : World} {base : Nat} {sp : Nat→Bool} {held : Bool}
theorem arg_of_trod {S : List TypeId} (hS : plainT P S = true) {t : TypeId} (ht : t ∈ S) {v : Value} {d : DataW H} {p : List MemPlace} {base' : Nat} (hwt : ∀ m,m ∈ DataW.weights P t d→m≤reachBytes) (h : DataW.Trod enc P w base sp held t v d p) (hv : Value.okWide P w .any base' t v) :
    ∃ n b,Has P n t b∧Rel w (Old w) mu0 (mk P t b) v := by
  obtain ⟨n,hn⟩ := h
  have hT := hS
  unfold plainT at hT
  rw [List.all_eq_true] at hT
  have hT := hT t ht
  have one : ∀ {b : List A},Has P n t b→(mk P t b).cells = [mk P t b]→v.cells.toList = [v]→Fits w b v.cells.toList→Rel w (Old w) mu0 (mk P t b) v := fun {b} hb h1 h2 h3 => by
    have h4 := mk_cells hb
    rw [h1] at h4
    have e : b[0]? = some (mk P t b) := by
      have : [mk P t b][0]? = some (mk P t b) := rfl
      rwa [h4] at this
    have := (h3.2 0 (mk P t b) e).2
    rw [h2] at this
    exact this
  cases hu : P.underlying t with
  | none => rw [hu] at hT; cases hT
  | some ty =>
    rw [hu] at hT
    cases ty with
    | struct fs =>
      simp only [Bool.and_eq_true,beq_iff_eq] at hT
      obtain ⟨cs,rfl,hsz⟩ := okWide_struct hu hv
      obtain ⟨b,hb,hf⟩ := fits_of_trod n t _ _ hn (by show P.cellsOf t = cs.toList.length; simp [hsz]) hwt S hS ht
      refine ⟨n,b,hb,?_⟩
      have : mk P t b = .agg b := by unfold mk; rw [hu]
      rw [this]
      refine .agg _ _ _ ?_ fun k y hk => ?_
      · have := hf.1; simpa [Value.cells] using this.symm
      · have := (hf.2 k y hk).2
        simpa [Value.cells,List.getD,Array.getD_eq_getD_getElem?] using this
    | bool =>
      obtain ⟨q,rfl⟩ := okWide_bool hu hv
      simp only [beq_iff_eq] at hT
      obtain ⟨b,hb,hf⟩ := fits_of_trod n t _ _ hn (by rw [hT]; rfl) hwt S hS ht
      refine ⟨n,b,hb,one hb ?_ rfl hf⟩
      obtain ⟨y,rfl⟩ : ∃ y,b = [y] := List.length_eq_one_iff.1 (by have := hf.1; simpa [Value.cells] using this)
      unfold mk; rw [hu]
      have := mk_cells hb
      unfold mk at this; rw [hu] at this
      exact this
    | int k =>
      obtain ⟨q,rfl⟩ := okWide_int hu hv
      simp only [beq_iff_eq] at hT
      obtain ⟨b,hb,hf⟩ := fits_of_trod n t _ _ hn (by rw [hT]; rfl) hwt S hS ht
      refine ⟨n,b,hb,one hb ?_ rfl hf⟩
      obtain ⟨y,rfl⟩ : ∃ y,b = [y] := List.length_eq_one_iff.1 (by have := hf.1; simpa [Value.cells] using this)
      unfold mk; rw [hu]
      have := mk_cells hb
      unfold mk at this; rw [hu] at this
      exact this
    | string =>
      obtain ⟨q,rfl⟩ := okWide_string hu hv
      simp only [beq_iff_eq] at hT
      obtain ⟨b,hb,hf⟩ := fits_of_trod n t _ _ hn (by rw [hT]; rfl) hwt S hS ht
      refine ⟨n,b,hb,one hb ?_ rfl hf⟩
      obtain ⟨y,rfl⟩ : ∃ y,b = [y] := List.length_eq_one_iff.1 (by have := hf.1; simpa [Value.cells] using this)
      unfold mk; rw [hu]
      have := mk_cells hb
      unfold mk at this; rw [hu] at this
      exact this
    | slice e =>
      obtain ⟨a,l,c,rfl⟩ := okWide_slice hu hv
      simp only [Bool.and_eq_true,beq_iff_eq] at hT
      obtain ⟨b,hb,hf⟩ := fits_of_trod n t _ _ hn (by rw [hT.1]; rfl) hwt S hS ht
      refine ⟨n,b,hb,one hb ?_ rfl hf⟩
      obtain ⟨y,rfl⟩ : ∃ y,b = [y] := List.length_eq_one_iff.1 (by have := hf.1; simpa [Value.cells] using this)
      unfold mk; rw [hu]
      have := mk_cells hb
      unfold mk at this; rw [hu] at this
      exact this
    | _ => simp at hT
theorem args_of_trod {S : List TypeId} (hS : plainT P S = true) {base' : Nat} : ∀ {ts : List TypeId} {vs : List Value} {ds : List (DataW H)} {ps : List MemPlace},(∀ t,t ∈ ts→t ∈ S)→(∀ m,m ∈ DataW.weightsEach P ts ds→m≤reachBytes)→DataW.TrodAll enc P w base sp held ts vs ds ps →
    (∀ (j : Nat) t v,ts[j]? = some t→vs[j]? = some v→Value.okWide P w .any base' t v)→∃ as',as'.length = vs.length∧ArgsHas P ts as'∧∀ (k : Nat) (y : A),as'[k]? = some y→Rel w (Old w) mu0 y (vs.getD k undef)
  | [],_,_,_,_,_,h,_ => by
    obtain ⟨rfl,rfl,rfl⟩ := trodAll_nil h
    exact ⟨[],rfl,trivial,fun k y hk => by simp at hk⟩
  | t :: ts,_,_,_,hts,hwt,h,hv => by
    obtain ⟨v,vs,d,ds,p,q,rfl,rfl,rfl,h1,h2⟩ := trodAll_cons h
    simp only [DataW.weightsEach,List.mem_append] at hwt
    obtain ⟨n,b,hb,hr⟩ := arg_of_trod hS (hts t (by simp)) (fun m hm => hwt m (.inl hm)) h1 (hv 0 t v rfl rfl)
    obtain ⟨as',k1,k2,k3⟩ := args_of_trod hS (fun u hu => hts u (by simp [hu])) (fun m hm => hwt m (.inr hm)) h2 (fun j u x hj hx => hv (j + 1) u x (by simpa using hj) (by simpa using hx))
    refine ⟨mk P t b :: as',by simp [k1],⟨⟨n,b,hb,rfl⟩,k2⟩,fun k y hk => ?_⟩
    cases k with
    | zero => cases hk; exact hr
    | succ k => exact k3 k y (by simpa using hk)
end
end Go.G

namespace Go.G
set_option linter.unusedVariables false
set_option linter.unusedSimpArgs false
open Go.RowKit
@[simp] theorem minmaxA_max {k k' : IntKind} {x y : Int} : minmaxA true [.v (.int k x),.v (.int k' y)] = some (.v (.int k (max x y))) := by
  simp only [minmaxA,if_true]
  congr 3
  split <;> omega
@[simp] theorem minmaxA_min {k k' : IntKind} {x y : Int} : minmaxA false [.v (.int k x),.v (.int k' y)] = some (.v (.int k (min x y))) := by
  simp only [minmaxA,Bool.false_eq_true,if_false]
  congr 3
  split <;> omega
def ov (r : Nat) (F : Nm→VOb) (H : Hp) : Hp
  | j :: p => if j = r then F p else H (j :: p)
  | [] => H []
@[simp] theorem ov_cons {r j : Nat} {p : Nm} {F : Nm→VOb} {H : Hp} : ov r F H (j :: p) = if j = r then F p else H (j :: p) := rfl
@[simp] theorem ov_nil {r : Nat} {F : Nm→VOb} {H : Hp} : ov r F H [] = H [] := rfl
@[simp] theorem updF_ov {r j : Nat} {p : Nm} {F : Nm→VOb} {H : Hp} {x : VOb} : updF (ov r F H) (j :: p) x = if j = r then ov r (updF F p x) H else ov r F (updF H (j :: p) x) := by
  funext o
  cases o with
  | nil =>
    by_cases h : j = r
    · rw [if_pos h]; simp [updF]
    · rw [if_neg h]; simp [updF]
  | cons k q =>
    by_cases h : j = r
    · subst h
      rw [if_pos rfl]
      by_cases hk : k = j
      · subst hk; simp [updF]
      · have : ¬ k :: q = j :: p := fun e => hk (by injection e)
        simp [updF,hk,this]
    · rw [if_neg h]
      by_cases hk : k = r
      · subst hk
        have : ¬ k :: q = j :: p := fun e => h (by injection e with e _; exact e.symm)
        simp [updF,this]
      · simp [updF,hk]
theorem updF_app {α : Type} {F : Nm→α} {d o : Nm} {x : α} : updF F d x o = if o = d then x else F o := rfl
theorem updF_is {α : Type} {F G : Nm→α} {d p : Nm} {x : α} (h : x = G d) (k : p ≠ d→F p = G p) : updF F d x p = G p := by
  rw [updF_app]
  split
  · rename_i e; rw [e]; exact h
  · exact k (by assumption)
def inHp (rs : List Nat) (m : Nat) (H : Hp) : Hp
  | i :: p => if i < m then (H (rs.getD i 0 :: p)).ren (dnN rs) (fun _ => 0) 0 else ⟨0,.none⟩
  | [] => ⟨0,.none⟩
def outG (rs : List Nat) (δ : Nm→Nat) (B Hr : Hp) : Hp
  | j :: p => if rs.contains j = true then (Hr (rs.idxOf j :: p)).ren (upN rs) δ (δ (rs.idxOf j :: p)) else B (j :: p)
  | [] => B []
theorem app_outH {rs : List Nat} {m : Nat} {H Hr : Hp} : (Eff.fn rs (outH rs m H Hr)).app H = outG rs (dlt rs m H) H Hr := by
  funext o
  cases o <;> rfl
def ClosedH (rs : List Nat) (m : Nat) (H : Hp) : Prop := ∀ (j : Nat) (p : Nm),rs.idxOf j < m→(H (j :: p)).ob.refs (inS rs m)
theorem sc_callH {P : Program} {K : Sta→Prop} {rest : List CO} {s : Nat→A} {H : Hp} {dd : Option Nat} {nm : Nm} {ix : Nat} {un : List Nat} {l : Bool} {lg : Lg} {g : FuncId} {as' : Array Operand} {ts : Array TypeId}
    (rs : List Nat) (m : Nat) {args : List A} {Hc Hr H' : Hp} {r x : A} (hS : SpecH P g rs.length args Hc r Hr) (hnd : rs.Nodup) (hm : m≤rs.length)
    (ha : A.renL (dnN rs) (fun _ => 0) (as'.toList.map (evs s)) = args) (har : A.refsL (inS rs m) (as'.toList.map (evs s))) (hH : inHp rs m H = Hc) (hcl : ClosedH rs m H)
    (hr : r.refs (outS rs.length)) (ho : ∀ (i : Nat) (p : Nm),i < rs.length→(Hr (i :: p)).ob.refs (outS rs.length)) (hv : ∀ (i : Nat) (p : Nm),m≤i→i < rs.length→(Hr (i :: p)).ob = .none∨1≤(Hr (i :: p)).u)
    (hx : r.ren (upN rs) (dlt rs m H) = x) (hH' : outG rs (dlt rs m H) H Hr = H') (hck : Ck un lg ⟨[],rs.map fun r => ([r],true)⟩)
    (h : SeqC P K rest (addL l ix ⟨[],rs.map fun r => ([r],true)⟩ lg) (Sta.put ⟨s,H⟩ dd x H')) :
    SeqC P K (⟨dd,.call { callee := .value (.func g),args := as',argTypes := ts },none,nm,ix,un,l⟩ :: rest) lg ⟨s,H⟩ := by
  have hit_in : ∀ {j : Nat} {p : Nm},j ∈ rs→hit (rs.map fun r => ([r],true)) (j :: p) = true := fun {j p} hj => by
    simp only [hit,List.any_map,List.any_eq_true]
    exact ⟨j,hj,by simp [hit1,List.isPrefixOf]⟩
  have hnil : (Eff.fn rs (outH rs m H Hr)).app H = H' := by rw [app_outH]; exact hH'
  subst hx
  rw [← hnil] at h
  refine sc_callh (Eff.fn rs (outH rs m H Hr)) [] (rs.map fun r => ([r],true)) (fun H2 hag => ?_) (fun o H2 ho' => ?_) hck h
  · have ag : ∀ {j : Nat} {p : Nm},j ∈ rs→H2 (j :: p) = H (j :: p) := fun {j p} hj => hag _ (by simpa using hit_in hj)
    have agi : ∀ {i : Nat} {p : Nm},i < rs.length→H2 (rs.getD i 0 :: p) = H (rs.getD i 0 :: p) := fun {i p} hi => ag (by simp [List.getD,hi])
    have hd : dlt rs m H2 = dlt rs m H := by
      funext o
      cases o with
      | nil => rfl
      | cons i p =>
        simp only [dlt]
        by_cases hi : i < rs.length
        · rw [agi hi]
        · rw [if_neg hi,if_neg hi]
    have hoH : outH rs m H2 Hr = outH rs m H Hr := by
      funext o
      cases o with
      | nil => rfl
      | cons j p => simp only [outH,hd]
    subst ha
    have := callOK_of (P := P) (f := g) (rs := rs) (m := m) (args := as'.toList.map (evs s)) (Hc := Hc) (Hr := Hr) (r := r) (H := H2) hnd hm hS
      (fun i p hi => by rw [← hH,agi (by omega)]; simp only [inHp,if_pos hi]) (fun i p hi => by rw [← hH]; simp only [inHp]; rw [if_neg (by omega)]) (by rw [← hH]; rfl) har
      (fun i p hi => by rw [agi (by omega)]; exact hcl _ _ (by rw [idx_getD hnd (by omega)]; exact hi)) hr ho hv
    rwa [hd,hoH] at this
  · cases o with
    | nil => rfl
    | cons j p =>
      have : ¬ j ∈ rs := fun hj => by rw [hit_in hj] at ho'; cases ho'
      simp [Eff.app,this]
end Go.G

namespace Go.PL
set_option linter.unusedVariables false
set_option linter.unusedSimpArgs false
theorem trimW_zero {w : List Int} {n : Nat} (h : n < w.length) (h0 : w[n] = 0) : trimW (w.take (n + 1)) = trimW (w.take n) := by
  rw [List.take_succ_eq_append_getElem h,trimW_snoc,if_pos h0]
theorem trimW_stop {w : List Int} {n : Nat} (h : n < w.length) (h0 : w[n] ≠ 0) : trimW (w.take (n + 1)) = w.take (n + 1) := by
  rw [List.take_succ_eq_append_getElem h,trimW_snoc,if_neg h0]
theorem trimK_zero {w : List T} {n : Nat} (h : n < w.length) (h0 : w[n].kind = 0) : trimK (w.take (n + 1)) = trimK (w.take n) := by
  rw [List.take_succ_eq_append_getElem h,trimK_snoc,if_pos h0]
theorem trimK_stop {w : List T} {n : Nat} (h : n < w.length) (h0 : w[n].kind ≠ 0) : trimK (w.take (n + 1)) = w.take (n + 1) := by
  rw [List.take_succ_eq_append_getElem h,trimK_snoc,if_neg h0]
theorem trimK_map_len (l : List T) : (trimK (l.map norm)).length = (trimK l).length := by
  induction l using snocInd with
  | h0 => rfl
  | h1 l x ih =>
    rw [List.map_append,List.map_cons,List.map_nil,trimK_snoc,trimK_snoc,norm_kind]
    split
    · exact ih
    · simp
theorem trimK_map (l : List T) : trimK (l.map norm) = (l.map norm).take (trimK l).length := by
  rw [← trimK_map_len]; exact trimK_take _
def nW (t : T) : Nat := if t.kind = 1 then (trimW t.words).length else t.words.length
def nK (t : T) : Nat := if t.kind = 1 then (trimK t.kids).length else t.kids.length
theorem nW_le (t : T) : nW t≤t.words.length := by unfold nW; split; exact trimW_le _; exact Nat.le_refl _
theorem nK_le (t : T) : nK t≤t.kids.length := by unfold nK; split; exact trimK_le _; exact Nat.le_refl _
def Bare (t : T) : Prop := t.kind = 0→t.words = []∧t.kids = []
theorem norm_words {t : T} (h : Bare t) : (norm t).words = t.words.take (nW t) := by
  obtain ⟨k,w,l⟩ := t
  rw [norm_mk]
  by_cases h0 : k = 0
  · obtain ⟨a,b⟩ := h h0; simp at a b; subst a b; rw [if_pos h0]; simp
  · rw [if_neg h0]
    by_cases h1 : k = 1
    · subst h1; simp [nW,← trimW_take]
    · simp [h1,nW]
theorem norm_kids {t : T} (h : Bare t) : (norm t).kids = (t.kids.take (nK t)).map norm := by
  obtain ⟨k,w,l⟩ := t
  rw [norm_mk]
  by_cases h0 : k = 0
  · obtain ⟨a,b⟩ := h h0; simp at a b; subst a b; rw [if_pos h0]; simp
  · rw [if_neg h0]
    by_cases h1 : k = 1
    · subst h1; simp [nK,trimK_map,List.map_take]
    · simp [h1,nK]
theorem T.ext' {t u : T} (h1 : t.kind = u.kind) (h2 : t.words = u.words) (h3 : t.kids = u.kids) : t = u := by
  cases t; cases u; simp at h1 h2 h3; rw [h1,h2,h3]
noncomputable def sameB (t u : T) : Bool := by classical exact decide (t = u)
theorem sameB_iff {t u : T} : sameB t u = true ↔ t = u := by simp [sameB]
noncomputable def eqT (t u : T) : Bool := sameB (norm t) (norm u)
theorem eqT_iff {t u : T} : eqT t u = true ↔ norm t = norm u := sameB_iff
end Go.PL

namespace Go.Proofs.YthfiijdbnkaabaaGreat
set_option linter.unusedVariables false
set_option linter.unusedSimpArgs false
open Go Go.G Go.Proofs Go.PL
theorem sc_call_off {P : Program} {K : Sta→Prop} {rest : List CO} {s : Nat→A} {H : Hp} {dd : Option Nat} {k : Nat} {f : Bool} {nm : Nm} {ix : Nat} {un : List Nat} {l : Bool} {lg : Lg} {g : FuncId} {aa : Array Operand} {ts : Array TypeId}
    (hq : wantA (s k) f = some false) (h : SeqC P K rest (addL l ix ⟨[],[]⟩ lg) (Sta.put ⟨s,H⟩ dd (.v undef) H)) :
    SeqC P K (⟨dd,.call { callee := .value (.func g),args := aa,argTypes := ts },some (k,f),nm,ix,un,l⟩ :: rest) lg ⟨s,H⟩ :=
  sc_call_g (q := false) (x := .any) hq (fun e => by cases e) h
abbrev uws (l : List Int) : A := .sl false (l.map uv)
abbrev u8 (n : Int) : A := .v (.int .u8 n)
mutual
def tC : T→List A
  | .mk k w l => [iv k,uws w,.sl false (tCs l)]
def tCs : List T→List A
  | [] => []
  | t :: l => .agg (tC t) :: tCs l
end
def tA (t : T) : A := .agg (tC t)
abbrev tKs (l : List T) : A := .sl false (l.map tA)
abbrev tX (t : T) : A := .agg [iv t.kind,uws t.words,tKs t.kids]
theorem tCs_map : ∀ l,tCs l = l.map tA
  | [] => by rw [tCs]; rfl
  | t :: l => by rw [tCs,tCs_map l]; rfl
theorem tC_eq (t : T) : tC t = [iv t.kind,uws t.words,tKs t.kids] := by cases t; rw [tC,tCs_map]; rfl
@[simp] theorem tA_eq (t : T) : tA t = tX t := by rw [tA,tC_eq]
def wA (w : WE) : A := .agg [iv w.at_,u8 w.mask,uv w.old,uv w.new]
abbrev wX (w : WE) : A := .agg [iv w.at_,u8 w.mask,uv w.old,uv w.new]
@[simp] theorem wA_eq (w : WE) : wA w = wX w := rfl
abbrev wKs (l : List WE) : A := .sl false (l.map wA)
mutual
def eC : E→List A
  | .mk k o n w ks l os => [iv k,iv o.kind,uws o.words,tKs o.kids,iv n.kind,uws n.words,tKs n.kids,wKs w,.sl false (eKs ks),iv l,.sl false (eOs os)]
def eKs : List KE→List A
  | [] => []
  | .mk a e :: l => .agg (iv a :: eC e) :: eKs l
def eOs : List OP→List A
  | [] => []
  | .mk k n t e :: l => .agg (iv k :: iv n :: tKs t :: eC e) :: eOs l
end
def kA (x : KE) : A := .agg (iv x.at_ :: eC x.e)
def oA (x : OP) : A := .agg (iv x.kind :: iv x.n :: tKs x.l :: eC x.e)
abbrev kKs (l : List KE) : A := .sl false (l.map kA)
abbrev oKs (l : List OP) : A := .sl false (l.map oA)
abbrev eL (e : E) : List A := [iv e.kind,iv e.old.kind,uws e.old.words,tKs e.old.kids,iv e.new.kind,uws e.new.words,tKs e.new.kids,wKs e.words,kKs e.kids,iv e.list,oKs e.ops]
abbrev eX (e : E) : A := .agg (eL e)
abbrev kX (x : KE) : A := .agg (iv x.at_ :: eL x.e)
abbrev oX (x : OP) : A := .agg (iv x.kind :: iv x.n :: tKs x.l :: eL x.e)
theorem eKs_map : ∀ l,eKs l = l.map kA
  | [] => by rw [eKs]; rfl
  | .mk a e :: l => by rw [eKs,eKs_map l]; rfl
theorem eOs_map : ∀ l,eOs l = l.map oA
  | [] => by rw [eOs]; rfl
  | .mk k n t e :: l => by rw [eOs,eOs_map l]; rfl
theorem eC_eq (e : E) : eC e = eL e := by cases e; rw [eC,eKs_map,eOs_map]; rfl
@[simp] theorem kA_eq (x : KE) : kA x = kX x := by rw [kA,eC_eq]
@[simp] theorem oA_eq (x : OP) : oA x = oX x := by rw [oA,eC_eq]
@[simp] theorem lens_iv (l : List Int) : lens 1 (l.map iv) = true := by simp [lens]
@[simp] theorem lens_tA (l : List T) : lens 3 (l.map tA) = true := by simp [lens]
@[simp] theorem lens_wA (l : List WE) : lens 4 (l.map wA) = true := by simp [lens]
@[simp] theorem lens_kA (l : List KE) : lens 12 (l.map kA) = true := by simp [lens]
@[simp] theorem lens_oA (l : List OP) : lens 14 (l.map oA) = true := by simp [lens]
theorem lens_all {n : Nat} {l : List A} : lens n l = true ↔ ∀ x,x ∈ l→x.cells.length = n := by simp [lens]
@[simp] theorem lens_take {n k : Nat} {l : List A} (h : lens n l = true) : lens n (l.take k) = true := by
  rw [lens_all] at h ⊢
  exact fun x hx => h x (List.mem_of_mem_take hx)
@[simp] theorem lens_drop {n k : Nat} {l : List A} (h : lens n l = true) : lens n (l.drop k) = true := by
  rw [lens_all] at h ⊢
  exact fun x hx => h x (List.mem_of_mem_drop hx)
theorem frz_row {α : Type} {H : Hp} {o : Nm} {u n sz : Nat} {l : List α} {f : α→A} (h : vr (H o) u = some (sz,l.map f)) (hn : n = l.length) (hf : ∀ x,((f x).cells.length == sz && (f x).cells.all fun y => A.bare1 y && y.one) = true) : Frz H (.osl o u sz 0 n) (.sl false (l.map f)) := by
  subst hn
  have := frz_osl (H := H) (o := o) (u := u) (off := 0) (len := l.length) (sz := sz) (xs := l.map f) (by simpa using h) (by simp) (by
    simp only [List.drop_zero]
    rw [List.take_of_length_le (by simp),List.all_map,List.all_eq_true]
    exact fun x _ => hf x)
  simp [List.take_of_length_le] at this
  exact this
theorem frz_rowT {α : Type} {H : Hp} {o : Nm} {u n sz : Nat} {l : List α} {f : α→A} (h : vr (H o) u = some (sz,l.map f)) (hn : n≤l.length) (hf : ∀ x,((f x).cells.length == sz && (f x).cells.all fun y => A.bare1 y && y.one) = true) : Frz H (.osl o u sz 0 n) (.sl false ((l.take n).map f)) := by
  have := frz_osl (H := H) (o := o) (u := u) (off := 0) (len := n) (sz := sz) (xs := l.map f) (by simpa using h) (by simpa using hn) (by
    simp only [List.drop_zero]
    rw [← List.map_take,List.all_map,List.all_eq_true]
    exact fun x _ => hf x)
  simpa using this
theorem row_succ {α : Type} {f : α→A} {l : List α} {i : Nat} (h : i < l.length) {x : A} (hx : f l[i] = x) : List.take i (List.take i (l.map f)) ++ [x] = (l.take (i + 1)).map f := by
  rw [List.take_take,Nat.min_self,List.take_succ_eq_append_getElem h,List.map_append,List.map_take,← hx]; rfl
theorem frz_T0 {H : Hp} : Frz H (.agg [iv 0,.sl true [],.sl true []]) (tX T0) := frz_agg (by simp; exact ⟨frz_bare rfl,frz_sl,frz_sl⟩)
abbrev i64w (n : Int) : Int := IntKind.i64.wrap n
theorem i64_congr {a b : Int} (h : a % 18446744073709551616 = b % 18446744073709551616) : i64w a = i64w b := by
  unfold i64w; rw [IntKind.wrap_i64,IntKind.wrap_i64]; omega
theorem i64_mod (a : Int) : i64w a % 18446744073709551616 = a % 18446744073709551616 := by
  unfold i64w; rw [IntKind.wrap_i64]; omega
theorem i64_add_l (a b : Int) : IntKind.i64.wrap (IntKind.i64.wrap a + b) = IntKind.i64.wrap (a + b) := i64_congr (by have := i64_mod a; unfold i64w at this; omega)
theorem i64_add_r (a b : Int) : IntKind.i64.wrap (a + IntKind.i64.wrap b) = IntKind.i64.wrap (a + b) := i64_congr (by have := i64_mod b; unfold i64w at this; omega)
theorem i64_sub_l (a b : Int) : IntKind.i64.wrap (IntKind.i64.wrap a - b) = IntKind.i64.wrap (a - b) := i64_congr (by have := i64_mod a; unfold i64w at this; omega)
theorem i64_mul_r (a b : Int) : IntKind.i64.wrap (a * IntKind.i64.wrap b) = IntKind.i64.wrap (a * b) := i64_congr (by rw [Int.mul_emod]; have := i64_mod b; unfold i64w at this; rw [this,← Int.mul_emod])
def i64R (n : Int) : Prop := -9223372036854775808≤n∧n < 9223372036854775808
def u64R (n : Int) : Prop := 0≤n∧n < 18446744073709551616
mutual
def wfT : T→Prop
  | .mk k w l => i64R k∧(∀ x,x ∈ w→u64R x)∧w.length * 8≤140737488355328∧l.length * 56≤140737488355328∧wfTs l
def wfTs : List T→Prop
  | [] => True
  | t :: l => wfT t∧wfTs l
end
theorem wfTs_all : ∀ {l : List T},wfTs l ↔ ∀ t,t ∈ l→wfT t
  | [] => by simp [wfTs]
  | t :: l => by simp [wfTs,wfTs_all (l := l)]
structure WfT (t : T) : Prop where
  k : i64R t.kind
  w : ∀ x,x ∈ t.words→u64R x
  wl : t.words.length * 8≤140737488355328
  kl : t.kids.length * 56≤140737488355328
  ks : ∀ x,x ∈ t.kids→wfT x
theorem wfT_iff {t : T} : wfT t ↔ WfT t := by
  cases t; rw [wfT,wfTs_all]
  exact ⟨fun ⟨a,b,c,d,e⟩ => ⟨a,b,c,d,e⟩,fun ⟨a,b,c,d,e⟩ => ⟨a,b,c,d,e⟩⟩
def WE.wf (w : WE) : Prop := i64R w.at_∧(0≤w.mask∧w.mask < 256)∧u64R w.old∧u64R w.new
mutual
def wfE : E→Prop
  | .mk k o n w ks l os => (i64R k∧i64R l∧wfT o∧wfT n∧(∀ x,x ∈ w→WE.wf x)∧w.length * 32≤140737488355328∧ks.length * 208≤140737488355328∧os.length * 240≤140737488355328)∧wfKs ks∧wfOs os
def wfKs : List KE→Prop
  | [] => True
  | .mk a e :: l => (i64R a∧wfE e)∧wfKs l
def wfOs : List OP→Prop
  | [] => True
  | .mk k n t e :: l => (i64R k∧i64R n∧wfTs t∧t.length * 56≤140737488355328∧wfE e)∧wfOs l
end
structure WfO (x : OP) : Prop where
  k : i64R x.kind
  n : i64R x.n
  l : ∀ t,t ∈ x.l→wfT t
  ll : x.l.length * 56≤140737488355328
  e : wfE x.e
theorem wfKs_all : ∀ {l : List KE},wfKs l ↔ ∀ x,x ∈ l→i64R x.at_∧wfE x.e
  | [] => by simp [wfKs]
  | .mk a e :: l => by simp [wfKs,wfKs_all (l := l)]
theorem wfOs_all : ∀ {l : List OP},wfOs l ↔ ∀ x,x ∈ l→WfO x
  | [] => by simp [wfOs]
  | .mk k n t e :: l => by
    simp only [wfOs,wfOs_all (l := l),wfTs_all,List.forall_mem_cons]
    exact ⟨fun ⟨⟨a,b,c,d,e⟩,h⟩ => ⟨⟨a,b,c,d,e⟩,h⟩,fun ⟨⟨a,b,c,d,e⟩,h⟩ => ⟨⟨a,b,c,d,e⟩,h⟩⟩
structure WfE (e : E) : Prop where
  k : i64R e.kind
  l : i64R e.list
  o : wfT e.old
  n : wfT e.new
  w : ∀ x,x ∈ e.words→WE.wf x
  wl : e.words.length * 32≤140737488355328
  kl : e.kids.length * 208≤140737488355328
  ol : e.ops.length * 240≤140737488355328
  ks : ∀ x,x ∈ e.kids→i64R x.at_∧wfE x.e
  os : ∀ x,x ∈ e.ops→WfO x
theorem wfE_iff {e : E} : wfE e ↔ WfE e := by
  cases e; rw [wfE,wfKs_all,wfOs_all]
  exact ⟨fun ⟨⟨a,b,c,d,e,f,g,h⟩,i,j⟩ => ⟨a,b,c,d,e,f,g,h,i,j⟩,fun ⟨a,b,c,d,e,f,g,h,i,j⟩ => ⟨⟨a,b,c,d,e,f,g,h⟩,i,j⟩⟩
end Go.Proofs.YthfiijdbnkaabaaGreat

namespace Go.Proofs.YthfiijdbnkaabaaGreat
set_option linter.unusedVariables false
set_option linter.unusedSimpArgs false
open Go Go.G Go.Proofs Go.PL
theorem rWidth_spec (c : Int) : G.Spec Tryz.prog 75 [iv c] (iv (widthZ c)) := by
  refine spec_of t_centoref01_Width (by simp) fun w0 I0 => ?_
  unfold c_centoref01_Width
  by_cases h0 : c = 0
  · subst h0; simp; exact frz_is rfl rfl
  by_cases h1 : c = 1
  · subst h1; simp; exact frz_is rfl rfl
  by_cases h2 : c = 2
  · subst h2; simp; exact frz_is rfl rfl
  by_cases h3 : c = 3
  · subst h3; simp; exact frz_is rfl rfl
  by_cases h4 : c = 4
  · subst h4; simp; exact frz_is rfl rfl
  by_cases h5 : c = 5
  · subst h5; simp; exact frz_is rfl rfl
  simp [h0,h1,h2,h3,h4,h5]
  exact frz_is rfl (by simp [widthZ,h0,h1,h2,h3,h4,h5])
theorem widthZ_cases (c : Int) : widthZ c = -1∨widthZ c = 0∨widthZ c = 1∨widthZ c = 8∨widthZ c = 16∨widthZ c = 32∨widthZ c = 64 := by
  unfold widthZ; repeat' split
  all_goals simp
section
variable {n0 : Nat} {w0 : World} {I0 : Nat→Prop} {Q : Exit→Sta→Prop} {H : Hp}
theorem rFits_l1 {w : Int} (hw : w≤64) : ∀ (m : Nat) (x i : Int),0≤x→x < 18446744073709551616→0≤i→i + m = w→(∀ b,Q (.exit 0) ⟨lk [(1,uv (x / 2 ^ m)),(5,iv w),(6,iv w),(13,bv b)],H⟩) →
    LoopC (cx Tryz.prog w0 I0 n0) l1_centoref01_Fits Q ⟨lk [(1,uv x),(5,iv w),(6,iv i)],H⟩ := by
  intro m
  induction m with
  | zero =>
    intro x i h0 h1 h2 h3 hq
    have : i = w := by simpa using h3
    subst this
    refine loopC_once mixed l1_centoref01_Fits.eq_1 ?_
    simp
    simpa using hq _
  | succ m ih =>
    intro x i h0 h1 h2 h3 hq
    refine loopC_once mixed l1_centoref01_Fits.eq_1 ?_
    have hi : i < w := by omega
    simp [hi]
    rw [i64_same (by omega) (by omega),Int.tdiv_eq_ediv_of_nonneg h0,u64_same (by omega) (by omega)]
    exact ih _ _ (by omega) (by omega) (by omega) (by omega) (by rw [pow_half]; exact hq)
end
theorem rFits_spec {c n : Int} (h : u64R n) : G.Spec Tryz.prog 42 [iv c,uv n] (bv (fitsZ c n)) := by
  refine spec_of t_centoref01_Fits (by simp) fun w0 I0 => ?_
  unfold c_centoref01_Fits
  simp
  refine sc_call (rWidth_spec c) rfl ?_
  simp
  have hw := widthZ_cases c
  refine ⟨fun h0 => ?_,fun h0 => ?_⟩
  · refine frz_bool ?_
    simp [fitsZ]; omega
  · refine rFits_l1 (w := widthZ c) (by omega) (widthZ c).toNat n 0 h.1 h.2 (by omega) (by omega) (fun b => ?_)
    simp
    refine frz_bool ?_
    simp [fitsZ,h0]
theorem bitsZ_width (c : Int) : bitsZ c = if widthZ c < 1 then 0 else widthZ c := by
  unfold bitsZ widthZ
  by_cases h0 : c = 0
  · subst h0; rfl
  by_cases h1 : c = 1
  · subst h1; rfl
  by_cases h2 : c = 2
  · subst h2; rfl
  by_cases h3 : c = 3
  · subst h3; rfl
  by_cases h4 : c = 4
  · subst h4; rfl
  by_cases h5 : c = 5
  · subst h5; rfl
  simp [h0,h1,h2,h3,h4,h5]
section
variable {n0 : Nat} {w0 : World} {I0 : Nat→Prop} {Q : Exit→Sta→Prop} {H : Hp}
theorem rSame_l1 {a b : List Int} (hl : a.length = b.length) (hb : a.length * 8≤140737488355328) : ∀ (m i : Nat),i + m = a.length→a.take i = b.take i→(a = b→∀ i q,Q (.exit 0) ⟨lk [(0,uws a),(1,uws b),(5,iv i),(14,bv q)],H⟩)→(a ≠ b→Q .ret ⟨lk [(4,bv false)],H⟩) →
    LoopC (cx Tryz.prog w0 I0 n0) l1_centoref01_Same Q ⟨lk [(0,uws a),(1,uws b),(5,iv i)],H⟩ := by
  intro m
  induction m with
  | zero =>
    intro i hi ht h1 h2
    have : i = a.length := by omega
    subst this
    refine loopC_once mixed l1_centoref01_Same.eq_1 ?_
    simp
    refine h1 ?_ _ _
    rw [List.take_of_length_le (Nat.le_refl _),List.take_of_length_le (by omega)] at ht
    exact ht
  | succ m ih =>
    intro i hi ht h1 h2
    have hlt : i < a.length := by omega
    have hlt' : i < b.length := by omega
    refine loopC_once mixed l1_centoref01_Same.eq_1 ?_
    simp [hlt,hlt']
    refine ⟨fun he => ?_,fun hne => h2 fun e => hne (by subst e; rfl)⟩
    rw [i64_same (by omega) (by omega)]
    refine ih (i + 1) (by omega) ?_ h1 h2
    rw [List.take_succ_eq_append_getElem hlt,List.take_succ_eq_append_getElem hlt',ht,he]
end
theorem rSame_spec (a b : List Int) (hb : a.length * 8≤140737488355328) : G.Spec Tryz.prog 26 [uws a,uws b] (bv (decide (a = b))) := by
  refine spec_of t_centoref01_Same (by simp) fun w0 I0 => ?_
  unfold c_centoref01_Same
  simp
  refine ⟨fun h => ?_,fun h => ?_⟩
  · refine rSame_l1 (by omega) hb a.length 0 (by omega) rfl (fun e i q => ?_) (fun e => ?_)
    · simp
      refine frz_bool ?_
      simp [e]
    · simp
      refine frz_bool ?_
      simp [e]
  · refine frz_bool ?_
    have : ¬ a = b := fun e => h (by rw [e])
    simp [this]
theorem width_spec (c : Int) : G.Spec Tryz.prog 133 [iv c] (.tup [iv (if widthZ c < 0 then 0 else widthZ c),bv (decide (0≤widthZ c))]) := by
  refine spec_of t_word_width (by simp) fun w0 I0 => ?_
  unfold c_word_width
  by_cases h0 : c = 0
  · subst h0; simp; exact frz_is rfl rfl
  by_cases h1 : c = 1
  · subst h1; simp; exact frz_is rfl rfl
  by_cases h2 : c = 2
  · subst h2; simp; exact frz_is rfl rfl
  by_cases h3 : c = 3
  · subst h3; simp; exact frz_is rfl rfl
  by_cases h4 : c = 4
  · subst h4; simp; exact frz_is rfl rfl
  by_cases h5 : c = 5
  · subst h5; simp; exact frz_is rfl rfl
  have hd : (decide (c < 0) || decide (6≤c)) = true := by simp; omega
  simp [hd]
  exact frz_is rfl (by simp [widthZ,h0,h1,h2,h3,h4,h5])
theorem room_spec' (c n : Int) : G.Spec Tryz.prog 130 [iv c,iv n] (iv (roomZ c n)) := by
  refine spec_of t_word_Room (by simp) fun w0 I0 => ?_
  unfold c_word_Room
  simp
  refine sc_call (width_spec c) rfl ?_
  have hw := widthZ_cases c
  have hb := bitsZ_width c
  simp
  refine ⟨fun h0 => ?_,fun a1 a2 a3 => ?_⟩
  · refine frz_int ?_
    unfold roomZ
    split
    · rfl
    · rw [hb,if_pos (by omega)]; simp
  · have e : roomZ c n = (n * widthZ c + 63) / 64 := by
      unfold roomZ; rw [if_neg (by omega),hb]
      split
      · have : widthZ c = 0 := by omega
        simp [this]
      · rfl
    rw [e,if_neg (by omega)]
    generalize widthZ c = w at *
    have hw : w = 0∨w = 1∨w = 8∨w = 16∨w = 32∨w = 64 := by omega
    refine frz_int ?_
    rcases hw with rfl | rfl | rfl | rfl | rfl | rfl
    all_goals
      try simp
      try simp (disch := omega) only [i64_same,Int.tdiv_eq_ediv_of_nonneg]
      try rfl
theorem data_spec (k : Int) : G.Spec Tryz.prog 105 [iv k] (bv (isData k)) := by
  refine spec_of t_tree_Data (by simp) fun w0 I0 => ?_
  unfold c_tree_Data
  simp
  refine frz_bool ?_
  simp [isData]
section
variable {n0 : Nat} {w0 : World} {I0 : Nat→Prop} {Q : Exit→Sta→Prop} {H : Hp}
theorem rTrim_l1 {w : List Int} (hb : w.length * 8≤140737488355328) (hq : ∀ q,Q (.exit 0) ⟨lk [(0,uws w),(3,iv (trimW w).length),(16,bv q)],H⟩) : ∀ (n : Nat),n≤w.length→trimW (w.take n) = trimW w →
    LoopC (cx Tryz.prog w0 I0 n0) l1_centoref07_Trim Q ⟨lk [(0,uws w),(3,iv n)],H⟩ := by
  intro n
  induction n with
  | zero =>
    intro hn ht
    refine loopC_once mixed l1_centoref07_Trim.eq_1 ?_
    simp
    have e : (trimW w).length = 0 := by rw [← ht]; rfl
    have := hq false
    rw [e] at this
    exact this
  | succ n ih =>
    intro hn ht
    have hlt : n < w.length := by omega
    have e : IntKind.i64.wrap (n : Int) = n := i64_same (by omega) (by omega)
    refine loopC_once mixed l1_centoref07_Trim.eq_1 ?_
    by_cases h0 : w[n] = 0
    · simp [e,hlt,h0]
      exact ih (by omega) (by rw [← trimW_zero hlt h0]; exact ht)
    · have e2 : (trimW w).length = n + 1 := by rw [← ht,trimW_stop hlt h0]; simp; omega
      have := hq false
      rw [e2] at this
      simp [e,hlt,h0]
      simpa using this
end
theorem rTrim_spec (w : List Int) (hb : w.length * 8≤140737488355328) : G.Spec Tryz.prog 86 [uws w] (uws (trimW w)) := by
  refine spec_of t_centoref07_Trim (by simp) fun w0 I0 => ?_
  unfold c_centoref07_Trim
  simp
  refine rTrim_l1 hb (fun q => ?_) w.length (Nat.le_refl _) (by rw [List.take_of_length_le (Nat.le_refl _)])
  have hl := trimW_le w
  have hb' : (trimW w).length * 8≤140737488355328 := by omega
  simp [hl]
  refine ⟨hb',?_⟩
  rw [← List.map_take,← trimW_take]
  exact frz_row (by simp) rfl (by simp)
abbrev bys (l : List Int) : List A := l.map u8
def bytesN : Nat→Int→List Int
  | 0,_ => []
  | m + 1,x => x % 256 :: bytesN m (x / 256)
@[simp] theorem bytesN_length : ∀ (m : Nat) (x : Int),(bytesN m x).length = m
  | 0,_ => rfl
  | m + 1,x => by simp [bytesN,bytesN_length m]
theorem splice_set {l : List Int} {i : Nat} {v : Int} (h : i < l.length) : splice (l.map u8) i [u8 v] = (l.set i v).map u8 := by
  apply List.ext_getElem?
  intro j
  simp only [splice,List.length_singleton]
  rw [List.append_assoc,List.map_set]
  by_cases h1 : j < i
  · rw [List.getElem?_append_left (by simp; omega),List.getElem?_take,if_pos h1,List.getElem?_set_ne (by omega)]
  · rw [List.getElem?_append_right (by simp; omega)]
    have e : (List.take i (l.map u8)).length = i := by simp; omega
    rw [e]
    by_cases h2 : j = i
    · subst h2
      rw [List.getElem?_set_self (by simpa using h)]
      simp
    · rw [List.getElem?_set_ne (by omega),List.getElem?_append_right (by simp; omega),List.getElem?_drop]
      congr 1
      simp; omega
theorem splice_at (a : List A) (x v : A) (b : List A) : splice (a ++ x :: b) a.length [v] = a ++ v :: b := by simp [splice]
section
variable {n0 : Nat} {w0 : World} {I0 : Nat→Prop} {Q : Exit→Sta→Prop}
theorem rBytes_l1 : ∀ (m : Nat) (i : Nat) (x : Int) (d : List Int) (H : Hp),0≤x→x < 18446744073709551616→i + m = 8→d.length = i→H [1] = ⟨1,.cells (bys (d ++ List.replicate m 0))⟩→H [0] = ⟨1,.cells (bys (List.replicate 8 0))⟩ →
    (∀ x' q H',H' [1] = ⟨1,.cells (bys (d ++ bytesN m x))⟩→H' [0] = ⟨1,.cells (bys (List.replicate 8 0))⟩→Q (.exit 0) ⟨lk [(0,uv x'),(2,.pob [0] 1 0),(3,.pob [1] 1 0),(4,iv 8),(7,bv q)],H'⟩) →
    LoopC (cx Tryz.prog w0 I0 n0) l1_centoref01_Bytes Q ⟨lk [(0,uv x),(2,.pob [0] 1 0),(3,.pob [1] 1 0),(4,iv i)],H⟩ := by
  intro m
  induction m with
  | zero =>
    intro i x d H h0 h1 hi hd hH hH0 hq
    have : i = 8 := by omega
    subst this
    refine loopC_once mixed l1_centoref01_Bytes.eq_1 ?_
    simp
    exact hq _ _ _ (by simpa [bytesN] using hH) hH0
  | succ m ih =>
    intro i x d H h0 h1 hi hd hH hH0 hq
    refine loopC_once mixed l1_centoref01_Bytes.eq_1 ?_
    have hlt : (i : Int) < 8 := by omega
    simp [hlt,hH]
    refine ⟨by omega,?_⟩
    have ht : x.tmod 256 = x % 256 := Int.tmod_eq_emod_of_nonneg h0
    have e8 : IntKind.u8.wrap (x % 256) = x % 256 := by rw [IntKind.wrap_u8]; omega
    rw [Int.tdiv_eq_ediv_of_nonneg h0,ht,u64_same (by omega) (by omega),e8,i64_same (by omega) (by omega)]
    refine ih (i + 1) (x / 256) (d ++ [x % 256]) _ (by omega) (by omega) (by omega) (by simp [hd]) ?_ (by simp [updF_app,hH0]) (fun x' q H' k1 k0 => hq x' q H' (by rw [k1]; simp [bytesN]) k0)
    simp [updF_app]
    rw [List.replicate_succ,← hd]
    simpa using splice_at (List.map u8 d) (u8 0) (u8 (x % 256)) (List.replicate m (u8 0))
end
def bytesZ (x : Int) : List Int := bytesN 8 x
theorem frz_bytes {H : Hp} {l : List Int} : Frz H (.agg (bys l)) (.agg (bys l)) := frz_bare (by simp)
theorem rBytes_spec {x : Int} (h : u64R x) : G.Spec Tryz.prog 108 [uv x] (.agg (bys (bytesZ x))) := by
  refine spec_of t_centoref01_Bytes (by simp) fun w0 I0 => ?_
  unfold c_centoref01_Bytes
  simp
  refine rBytes_l1 8 0 x [] _ h.1 h.2 rfl rfl (by simp) (by simp) (fun x' q H' h1 h0 => ?_)
  have e : List.take 8 (bys (bytesN 8 x)) = bys (bytesN 8 x) := List.take_of_length_le (by simp)
  simp [h1,h0,updF_app,e]
  exact ⟨by simp [A.ones],frz_bytes⟩
section
variable {n0 : Nat} {w0 : World} {I0 : Nat→Prop} {Q : Exit→Sta→Prop} {H : Hp}
theorem rNamed_l1 {k : Int} (hk : k≤8) : ∀ (m : Nat) (x i : Int),0≤x→x < 256→0≤i→i + m = k→(∀ q,Q (.exit 0) ⟨lk [(0,u8 (x / 2 ^ m)),(1,iv k),(5,iv k),(8,bv q)],H⟩) →
    LoopC (cx Tryz.prog w0 I0 n0) l1_centoref01_Named Q ⟨lk [(0,u8 x),(1,iv k),(5,iv i)],H⟩ := by
  intro m
  induction m with
  | zero =>
    intro x i h0 h1 h2 h3 hq
    have : i = k := by simpa using h3
    subst this
    refine loopC_once mixed l1_centoref01_Named.eq_1 ?_
    simp
    simpa using hq _
  | succ m ih =>
    intro x i h0 h1 h2 h3 hq
    refine loopC_once mixed l1_centoref01_Named.eq_1 ?_
    have hi : i < k := by omega
    simp [hi]
    have e8 : IntKind.u8.wrap (x / 2) = x / 2 := by rw [IntKind.wrap_u8]; omega
    rw [i64_same (by omega) (by omega),Int.tdiv_eq_ediv_of_nonneg h0,e8]
    exact ih _ _ (by omega) (by omega) (by omega) (by omega) (by rw [pow_half]; exact hq)
end
def namedZ (x : Int) (i : Nat) : Bool := decide (x / 2 ^ i % 2 = 1)
theorem rNamed_spec {x : Int} (h0 : 0≤x) (h1 : x < 256) {i : Nat} (hi : i≤8) : G.Spec Tryz.prog 109 [u8 x,iv i] (bv (namedZ x i)) := by
  refine spec_of t_centoref01_Named (by simp) fun w0 I0 => ?_
  unfold c_centoref01_Named
  simp
  refine rNamed_l1 (by omega) i x 0 h0 h1 (by omega) (by omega) (fun q => ?_)
  simp
  refine frz_bool ?_
  have : 0≤x / 2 ^ i := Int.ediv_nonneg h0 (Int.le_of_lt (Int.pow_pos (by decide)))
  rw [Int.tmod_eq_emod_of_nonneg this]
  rfl
def ofZ : List Int→Int
  | [] => 0
  | b :: l => b + 256 * ofZ l
theorem ofZ_range : ∀ (l : List Int),(∀ b,b ∈ l→0≤b∧b < 256)→0≤ofZ l∧ofZ l < 256 ^ l.length
  | [],_ => by simp [ofZ]
  | b :: l,h => by
    have h1 := h b (by simp)
    have h2 := ofZ_range l fun x hx => h x (by simp [hx])
    simp only [ofZ,List.length_cons,Int.pow_succ]
    omega
section
variable {n0 : Nat} {w0 : World} {I0 : Nat→Prop} {Q : Exit→Sta→Prop} {H : Hp}
theorem rOf_l1 {f : Bool} {l : List Int} (hl : l.length = 8) (hr : ∀ b,b ∈ l→0≤b∧b < 256) : ∀ (m : Nat) (x j : Int),m≤8→x = ofZ (l.drop m)→j = (m : Int) - 1→(∀ q,Q (.exit 0) ⟨lk [(0,.sl f (bys l)),(1,iv 0),(5,uv (ofZ l)),(6,iv (-1)),(8,bv q)],H⟩) →
    LoopC (cx Tryz.prog w0 I0 n0) l1_centoref01_Of Q ⟨lk [(0,.sl f (bys l)),(1,iv 0),(5,uv x),(6,iv j)],H⟩ := by
  intro m
  induction m with
  | zero =>
    intro x j hm hx hj hq
    subst hx hj
    refine loopC_once mixed l1_centoref01_Of.eq_1 ?_
    simp
    simpa using hq false
  | succ m ih =>
    intro x j hm hx hj hq
    subst hx hj
    have hlt : m < l.length := by omega
    have hd := ofZ_range (l.drop m) fun b hb => hr b (List.mem_of_mem_drop hb)
    have hp : (256 : Int) ^ (l.drop m).length≤18446744073709551616 := by
      have h2 := Int.ofNat_le.2 (Nat.pow_le_pow_right (n := 256) (by decide) (by simp; omega : (l.drop m).length≤8))
      rw [Int.natCast_pow] at h2
      exact h2
    have e1 : l.drop m = l[m] :: l.drop (m + 1) := List.drop_eq_getElem_cons hlt
    have hb := hr l[m] (List.getElem_mem hlt)
    have ez : ofZ (l.drop m) = l[m] + 256 * ofZ (l.drop (m + 1)) := by rw [e1,ofZ]
    have hd1 := ofZ_range (l.drop (m + 1)) fun b hb => hr b (List.mem_of_mem_drop hb)
    refine loopC_once mixed l1_centoref01_Of.eq_1 ?_
    have em : IntKind.i64.wrap (m : Int) = m := i64_same (by omega) (by omega)
    have hm0 : (0 : Int)≤m := by omega
    have hm8 : (m : Int) < 8 := by omega
    simp [em,hl,hm8,List.getElem?_eq_getElem hlt]
    have e64 : IntKind.u64.wrap l[m] = l[m] := u64_same (by omega) (by omega)
    rw [e64,u64_same (n := ofZ (List.drop (m + 1) l) * 256) (by omega) (by omega),u64_same (by omega) (by omega),i64_same (by omega) (by omega)]
    exact ih _ _ (by omega) (by rw [ez]; omega) rfl hq
end
theorem rOf_spec {f : Bool} {l : List Int} (hl : l.length = 8) (hr : ∀ b,b ∈ l→0≤b∧b < 256) : G.Spec Tryz.prog 110 [.sl f (bys l),iv 0] (uv (ofZ l)) := by
  refine spec_of t_centoref01_Of (by simp) fun w0 I0 => ?_
  unfold c_centoref01_Of
  simp
  refine rOf_l1 hl hr 8 0 7 (Nat.le_refl _) ?_ rfl (fun q => ?_)
  · rw [List.drop_of_length_le (by omega)]; rfl
  · simp
    exact frz_bare rfl
theorem bytesN_range : ∀ (m : Nat) (x : Int),∀ b,b ∈ bytesN m x→0≤b∧b < 256
  | m + 1,x,b,h => by
    rcases List.mem_cons.1 h with rfl | h
    · omega
    · exact bytesN_range m _ b h
def mixL (a b : List Int) (mask : Int) (k : Nat) : List Int := (List.range k).map (fun i => if namedZ mask i = true then b.getD i 0 else a.getD i 0) ++ a.drop k
theorem mixL_length {a b : List Int} {mask : Int} {k : Nat} (h : k≤a.length) : (mixL a b mask k).length = a.length := by simp [mixL]; omega
theorem mixL_succ {a b : List Int} {mask : Int} {k : Nat} (h : k < a.length) : mixL a b mask (k + 1) = if namedZ mask k = true then (mixL a b mask k).set k (b.getD k 0) else mixL a b mask k := by
  unfold mixL
  rw [List.range_succ]
  have e0 : a.drop k = a[k] :: a.drop (k + 1) := List.drop_eq_getElem_cons h
  have e : ((List.range k).map (fun i => if namedZ mask i = true then b.getD i 0 else a.getD i 0)).length = k := by simp
  split
  · rename_i hn
    rw [List.set_append_right _ _ (by omega),e,e0,Nat.sub_self,List.set_cons_zero]
    simp [hn]
  · rename_i hn
    rw [e0]
    simp [hn,List.getElem?_eq_getElem h]
section
variable {n0 : Nat} {w0 : World} {I0 : Nat→Prop} {Q : Exit→Sta→Prop}
theorem rMix_l1 {a b : List Int} {mask : Int} (ha : a.length = 8) (hb : b.length = 8) (h0 : 0≤mask) (h1 : mask < 256) (hq : ∀ q H',H' [0] = ⟨1,.cells (bys (mixL a b mask 8))⟩→Q (.exit 0) ⟨lk [(2,u8 mask),(7,.pob [0] 1 0),(8,.pob [1] 1 0),(9,iv 8),(15,bv q)],H'⟩) : ∀ (m i : Nat) (H : Hp),i + m = 8→H [0] = ⟨1,.cells (bys (mixL a b mask i))⟩→H [1] = ⟨1,.cells (bys b)⟩ →
    LoopC (cx Tryz.prog w0 I0 n0) l1_centoref01_Mix Q ⟨lk [(2,u8 mask),(7,.pob [0] 1 0),(8,.pob [1] 1 0),(9,iv i)],H⟩ := by
  intro m
  induction m with
  | zero =>
    intro i H hi hA hB
    have : i = 8 := by omega
    subst this
    refine loopC_once mixed l1_centoref01_Mix.eq_1 ?_
    simp
    exact hq _ _ hA
  | succ m ih =>
    intro i H hi hA hB
    have hlt : (i : Int) < 8 := by omega
    have hml := mixL_length (a := a) (b := b) (mask := mask) (k := i) (by omega)
    have hia : i < (mixL a b mask i).length := by omega
    have hib : i < b.length := by omega
    refine loopC_once mixed l1_centoref01_Mix.eq_1 ?_
    simp [hlt]
    refine sc_call (rNamed_spec h0 h1 (by omega)) rfl ?_
    have hs := mixL_succ (a := a) (b := b) (mask := mask) (k := i) (by omega)
    cases hn : namedZ mask i with
    | false =>
      simp [hn] at hs
      simp
      rw [i64_same (by omega) (by omega)]
      exact ih (i + 1) H (by omega) (by rw [hs]; exact hA) hB
    | true =>
      simp [hn] at hs
      simp [hlt,hA,hB,List.getElem?_eq_getElem hib]
      refine ⟨by omega,?_⟩
      rw [i64_same (by omega) (by omega)]
      refine ih (i + 1) _ (by omega) ?_ (by simp [updF_app,hB])
      rw [hs]
      simp only [updF_app,if_true]
      rw [splice_set hia]
      simp [List.getElem?_eq_getElem hib]
end
def mixZ (a b mask : Int) : Int := ofZ (mixL (bytesZ a) (bytesZ b) mask 8)
theorem mixL_range {a b mask : Int} {k : Nat} : ∀ x,x ∈ mixL (bytesZ a) (bytesZ b) mask k→0≤x∧x < 256 := by
  have hg : ∀ (y : Int) (i : Nat),0≤(bytesZ y).getD i 0∧(bytesZ y).getD i 0 < 256 := fun y i => by
    rw [List.getD_eq_getElem?_getD]
    cases e : (bytesZ y)[i]? with
    | none => simp
    | some z => exact bytesN_range 8 y z (List.mem_of_getElem? e)
  intro x hx
  rcases List.mem_append.1 hx with hx | hx
  · obtain ⟨i,_,rfl⟩ := List.mem_map.1 hx
    split
    · exact hg b i
    · exact hg a i
  · exact bytesN_range 8 a x (List.mem_of_mem_drop hx)
theorem bytesZ_length (x : Int) : (bytesZ x).length = 8 := bytesN_length 8 x
theorem rMix_spec {a b mask : Int} (ha : u64R a) (hb : u64R b) (h0 : 0≤mask) (h1 : mask < 256) : G.Spec Tryz.prog 78 [uv a,uv b,u8 mask] (uv (mixZ a b mask)) := by
  refine spec_of t_centoref01_Mix (by simp) fun w0 I0 => ?_
  unfold c_centoref01_Mix
  simp
  refine sc_call (rBytes_spec ha) rfl ?_
  simp
  refine sc_call (rBytes_spec hb) rfl ?_
  have l8 := bytesZ_length a
  have m8 := bytesZ_length b
  have o1 : ∀ l : List Int,A.ones (bys l) = true := fun l => by simp [A.ones]
  simp [l8,m8,o1]
  refine rMix_l1 l8 m8 h0 h1 (fun q H' hH => ?_) 8 0 _ (by omega) (by simp [mixL]) (by simp)
  simp
  have lm : (mixL (bytesZ a) (bytesZ b) mask 8).length = 8 := by rw [mixL_length (by omega),l8]
  refine stop_le (le_freezeD (d := [0]) (fun _ h => h) 7 (.pim (bys (mixL (bytesZ a) (bytesZ b) mask 8))) (fun H1 h1 => ?_)) (stop_go ?_)
  · rw [hH] at h1
    exact frz_pob (by simp [getC,h1]) (frzL_bare (by simp)) (o1 _)
  have e : List.take 8 (bys (mixL (bytesZ a) (bytesZ b) mask 8)) = bys (mixL (bytesZ a) (bytesZ b) mask 8) := List.take_of_length_le (by simp [lm])
  simp [lm,e]
  refine sc_call (rOf_spec lm mixL_range) rfl ?_
  simp
  exact frz_bare rfl
end Go.Proofs.YthfiijdbnkaabaaGreat

namespace Go.Proofs.YthfiijdbnkaabaaGreat
set_option linter.unusedVariables false
set_option linter.unusedSimpArgs false
open Go Go.G Go.Proofs Go.PL
@[simp] theorem GtG_shift {q : Bool} {n : Nat} {y : A} {K : A→Prop} : GtG q (A.shift n (gd q y)) K = GtG q (A.shift n y) K := GtG_same fun h => by rw [h]; rfl
theorem soft_uv (l : List Int) : A.softL (l.map uv) = l.map uv := by
  rw [softL_map,List.map_map]; rfl
theorem soft_tA : ∀ t : T,(tA t).soft = tA t := by
  refine T.ind fun k w l ih => ?_
  rw [tA_eq]
  simp only [A.soft,A.softL,T.kind_mk,T.words_mk,T.kids_mk,soft_uv]
  have e : l.map (A.soft ∘ tA) = l.map tA := List.map_congr_left fun t ht => ih t ht
  rw [softL_map,List.map_map,e]
  rfl
theorem soft_tKs (l : List T) : A.softL (l.map tA) = l.map tA := by
  rw [softL_map,List.map_map]
  exact List.map_congr_left fun t _ => soft_tA t
theorem soft_wKs (l : List WE) : A.softL (l.map wA) = l.map wA := by
  rw [softL_map,List.map_map]; rfl
theorem soft_eL : ∀ e : E,A.softL (eL e) = eL e := by
  refine E.ind fun k o n w ks l os ihk iho => ?_
  have h1 : A.softL (ks.map kA) = ks.map kA := by
    rw [softL_map,List.map_map]
    refine List.map_congr_left fun x hx => ?_
    have := ihk x hx
    simp only [Function.comp,kA_eq]
    simp only [A.soft,A.softL] at this ⊢
    simp_all
  have h2 : A.softL (os.map oA) = os.map oA := by
    rw [softL_map,List.map_map]
    refine List.map_congr_left fun x hx => ?_
    have := iho x hx
    simp only [Function.comp,oA_eq]
    simp only [A.soft,A.softL,soft_tKs] at this ⊢
    simp_all
  simp only [A.soft,A.softL,E.kind_mk,E.old_mk,E.new_mk,E.words_mk,E.kids_mk,E.list_mk,E.ops_mk,soft_uv,soft_tKs,soft_wKs,h1,h2]
  rfl
theorem soft_kKs (l : List KE) : A.softL (l.map kA) = l.map kA := by
  rw [softL_map,List.map_map]
  refine List.map_congr_left fun x _ => ?_
  have := soft_eL x.e
  simp only [Function.comp,kA_eq]
  simp only [A.soft,A.softL] at this ⊢
  simp_all
theorem soft_oKs (l : List OP) : A.softL (l.map oA) = l.map oA := by
  rw [softL_map,List.map_map]
  refine List.map_congr_left fun x _ => ?_
  have := soft_eL x.e
  simp only [Function.comp,oA_eq]
  simp only [A.soft,A.softL,soft_tKs] at this ⊢
  simp_all
end Go.Proofs.YthfiijdbnkaabaaGreat

namespace Go.Proofs.YthfiijdbnkaabaaGreat
set_option linter.unusedVariables false
set_option linter.unusedSimpArgs false
set_option maxRecDepth 20000
open Go Go.G Go.Proofs
@[simp] theorem und_4 : Tryz.prog.underlying 4 = some .bool := by kernel_rfl
@[simp] theorem und_23 : Tryz.prog.underlying 23 = some (.slice 25) := by kernel_rfl
@[simp] theorem szT_23 : szT Tryz.prog 23 = some 1 := by kernel_rfl
@[simp] theorem szT_25 : szT Tryz.prog 25 = some 3 := by kernel_rfl
@[simp] theorem aggT_23 : aggT Tryz.prog 23 = some false := by kernel_rfl
@[simp] theorem aggT_25 : aggT Tryz.prog 25 = some true := by kernel_rfl
@[simp] theorem zeroT_25 : zeroT Tryz.prog 25 = some (Value.agg #[Value.int IntKind.i64 0,Value.slice none 0 0,Value.slice none 0 0]) := by kernel_rfl
@[simp] theorem bytesT_25 : bytesT Tryz.prog 25 = some 56 := by kernel_rfl
@[simp] theorem fieldOffT_25_0 : fieldOffT Tryz.prog 25 0 = some 0 := by kernel_rfl
@[simp] theorem fieldOffT_25_1 : fieldOffT Tryz.prog 25 1 = some 1 := by kernel_rfl
@[simp] theorem fieldOffT_25_2 : fieldOffT Tryz.prog 25 2 = some 2 := by kernel_rfl
@[simp] theorem buildA_25 (ps : List (Nat × A)) : buildA Tryz.prog 25 ps = (fillA (fun i => ([(0,1),(1,1),(2,1)] : List (Nat × Nat))[i]?) [A.v (Value.int IntKind.i64 0),A.sl true [],A.sl true []] ps).map A.agg := by kernel_rfl
def l1_centoref07_Right : CC := .seq (sR [mO 78 5,fO 79 25 2 2,lO 80 23 79,oO 81 (bL 80 23),oO 82 (bO .lss 3 78 81 3)] [1,2,5,82] (cD 82 (.skip) (.exit 0))) (.keep [1,2,5] (.seq (.block 1 (sR [fO 85 25 2 2,lO 86 23 85,mO 87 5,oO 88 (iA 23 86 87),lO 89 25 88,oN 6 (.alloc 25) [1],oS (.store 25 (xT 6) (xT 89))] [1,2,5,6] (.seq (sR [lO 90 25 6,mO 91 1,oO 92 (.binOp .sub 3 (xT 91) (nI 1) 3),oO 93 (cL 17 #[(xT 90),(xT 92)] #[25,3]),oO 94 (.unOp .not 4 (xT 93))] [1,2,5,6,94] (cD 94 (sR [oO 4 (.assign (nB false))] [4] (.ret)) (.skip))) (.keep [1,2,5,6] (sR [fO 95 25 2 0,lO 96 3 95,oO 97 (.binOp .geq 3 (xT 96) (nI 2) 3),mO 98 97,oG 99 (fA 25 2 0) 98 true,oG 100 (lD 3 99) 98 true,oG 101 (.binOp .leq 3 (xT 100) (nI 7) 3) 98 true,oO 102 (.pick (xT 98) (xT 101) (nB false)),aO 7 102] [1,2,5,6,7] (sR [mO 103 7,fO 104 25 6 0,lO 105 3 104,oO 106 (.binOp .eql 3 (xT 105) (nI 10) 3),oO 107 (bO .neq 4 103 106 4),mO 108 107,oG 109 (fA 25 2 0) 108 false,oG 110 (lD 3 109) 108 false,oG 111 (.binOp .eql 3 (xT 110) (nI 9) 3) 108 false,oG 112 (mV 111) 108 false,oG 113 (fA 25 6 0) 112 true,oG 114 (lD 3 113) 112 true,oG 115 (.binOp .neq 3 (xT 114) (nI 1) 3) 112 true,oG 116 (.pick (xT 112) (xT 115) (nB false)) 108 false,oO 117 (.pick (xT 108) (nB true) (xT 116)),mO 118 117,oG 119 (mV 7) 118 false,oG 120 (mV 119) 118 false,oG 121 (fA 25 2 0) 120 true,oG 122 (lD 3 121) 120 true,oG 123 (.binOp .sub 3 (xT 122) (nI 2) 3) 120 true,oG 124 (fA 25 6 1) 120 true,oG 125 (lD 22 124) 120 true,oG 126 (.indexAddr 22 (xT 125) (nI 0)) 120 true,oG 127 (lD 60 126) 120 true,oG 128 (cL 42 #[(xT 123),(xT 127)] #[3,60]) 120 true,oG 129 (.unOp .not 4 (xT 128)) 120 true,oG 130 (.pick (xT 120) (xT 129) (nB false)) 118 false,oO 131 (.pick (xT 118) (nB true) (xT 130))] [1,2,5,131] (cD 131 (sR [oO 4 (.assign (nB false))] [4] (.ret)) (.skip)))))))) (.keep [1,2,5] (.reg [mO 83 5,oO 84 (.binOp .add 3 (xT 83) (nI 1) 3),aO 5 84] [1,2,5])))) 
def c_centoref07_Right : CC := sR [oN 2 (.box 25 (xT 0)) [0],oO 4 (.assign (nB false))] [1,2] (.seq (sR [fO 8 25 2 0,lO 9 3 8,oO 10 (.binOp .eql 3 (xT 9) (nI 0) 3)] [1,2,10] (cD 10 (sR [fO 11 25 2 1,lO 12 22 11,oO 13 (bL 12 22),oO 14 (.binOp .eql 3 (xT 13) (nI 0) 3),mO 15 14,oG 16 (fA 25 2 2) 15 true,oG 17 (lD 23 16) 15 true,oG 18 (bL 17 23) 15 true,oG 19 (.binOp .eql 3 (xT 18) (nI 0) 3) 15 true,oO 20 (.pick (xT 15) (xT 19) (nB false)),aO 4 20] [4] (.ret)) (.skip))) (.keep [1,2] (.seq (sR [fO 21 25 2 0,lO 22 3 21,oO 23 (.binOp .eql 3 (xT 22) (nI 10) 3)] [1,2,23] (cD 23 (sR [fO 24 25 2 1,lO 25 22 24,oO 26 (bL 25 22),oO 27 (.binOp .eql 3 (xT 26) (nI 1) 3),mO 28 27,oG 29 (fA 25 2 2) 28 true,oG 30 (lD 23 29) 28 true,oG 31 (bL 30 23) 28 true,oG 32 (.binOp .eql 3 (xT 31) (nI 0) 3) 28 true,oO 33 (.pick (xT 28) (xT 32) (nB false)),aO 4 33] [4] (.ret)) (.skip))) (.keep [1,2] (.seq (sR [fO 34 25 2 0,lO 35 3 34,oO 36 (.binOp .lss 3 (xT 35) (nI 0) 3),mO 37 36,oG 38 (fA 25 2 0) 37 false,oG 39 (lD 3 38) 37 false,oG 40 (.binOp .gtr 3 (xT 39) (nI 10) 3) 37 false,oO 41 (.pick (xT 37) (nB true) (xT 40)),mO 42 41,oG 43 (mV 1) 42 false,oG 44 (.binOp .eql 3 (xT 43) (nI 0) 3) 42 false,oO 45 (.pick (xT 42) (nB true) (xT 44)),mO 46 45,oG 47 (fA 25 2 1) 46 false,oG 48 (lD 22 47) 46 false,oG 49 (bL 48 22) 46 false,oG 50 (.binOp .geq 3 (xT 49) (nI 65536) 3) 46 false,oO 51 (.pick (xT 46) (nB true) (xT 50)),mO 52 51,oG 53 (fA 25 2 0) 52 false,oG 54 (lD 3 53) 52 false,oG 55 (.binOp .eql 3 (xT 54) (nI 1) 3) 52 false,oG 56 (mV 55) 52 false,oG 57 (fA 25 2 2) 56 true,oG 58 (lD 23 57) 56 true,oG 59 (bL 58 23) 56 true,oG 60 (.binOp .geq 3 (xT 59) (nI 65536) 3) 56 true,oG 61 (.pick (xT 56) (xT 60) (nB false)) 52 false,oO 62 (.pick (xT 52) (nB true) (xT 61)),mO 63 62,oG 64 (fA 25 2 2) 63 false,oG 65 (lD 23 64) 63 false,oG 66 (bL 65 23) 63 false,oG 67 (.binOp .geq 3 (xT 66) (nI 1048576) 3) 63 false,oO 68 (.pick (xT 63) (nB true) (xT 67))] [1,2,68] (cD 68 (sR [oO 4 (.assign (nB false))] [4] (.ret)) (.skip))) (.keep [1,2] (.seq (sR [fO 69 25 2 0,lO 70 3 69,oO 71 (.binOp .gtr 3 (xT 70) (nI 1) 3),mO 72 71,oG 73 (fA 25 2 1) 72 true,oG 74 (lD 22 73) 72 true,oG 75 (bL 74 22) 72 true,oG 76 (.binOp .gtr 3 (xT 75) (nI 0) 3) 72 true,oO 77 (.pick (xT 72) (xT 76) (nB false))] [1,2,77] (cD 77 (sR [oO 4 (.assign (nB false))] [4] (.ret)) (.skip))) (.keep [1,2] (.seq (sR [oO 5 (.assign (nI 0))] [1,2,5] (.block 0 (.loop l1_centoref07_Right))) (.keep [] (sR [oO 4 (.assign (nB true))] [4] (.ret))))))))))))
theorem t_centoref07_Right : Txt Tryz.prog 17 132 [(.tmp 4)] c_centoref07_Right := txt_of (code := Tryz.f17.body.getD .ret) mixed (by kernel_rfl) Tryz.func17 (by kernel_rfl) Tryz.ntmps17 (by kernel_rfl) (ls := lsOf c_centoref07_Right) (by kernel_rfl)
def l1_centoref07_Norm : CC := .seq (sR [mO 12 5,fO 13 25 1 2,lO 14 23 13,oO 15 (bL 14 23),oO 16 (bO .lss 3 12 15 3)] [1,2,3,4,5,16] (cD 16 (.skip) (.exit 0))) (.keep [1,2,3,4,5] (.seq (.block 1 (sR [fO 19 25 1 2,lO 20 23 19,mO 21 5,oO 22 (iA 23 20 21),lO 23 25 22,oO 24 (cL 56 #[(xT 23)] #[25]),oN 6 (.alloc 25) [2],oS (.store 25 (xT 6) (xT 24))] [1,2,3,4,5,6] (sR [mO 25 3,lO 26 25 6,oO 27 (.buildSlice 23 1 #[(0,(xT 26))]),oN 28 (bC .append #[(xT 25),(xT 27)] #[23,23]) [3],aO 3 28] [1,2,3,4,5,6] (sR [fO 29 25 6 0,lO 30 3 29,oO 31 (.binOp .neq 3 (xT 30) (nI 0) 3)] [1,2,3,4,5,31] (cD 31 (.reg [mO 32 5,oO 33 (.binOp .add 3 (xT 32) (nI 1) 3),aO 4 33] [1,2,3,4,5]) (.skip)))))) (.keep [1,2,3,4,5] (.reg [mO 17 5,oO 18 (.binOp .add 3 (xT 17) (nI 1) 3),aO 5 18] [1,2,3,4,5])))) 
def c_centoref07_Norm : CC := sR [oN 1 (.box 25 (xT 0)) [0],oN 2 (.alloc 25) [1]] [1,2] (.seq (sR [fO 8 25 1 0,lO 9 3 8,oO 10 (.binOp .eql 3 (xT 9) (nI 0) 3)] [1,2,10] (cD 10 (sR [oO 11 (.build 25 #[]),oS (.store 25 (xT 2) (xT 11))] [2] (.ret)) (.skip))) (.keep [1,2] (sR [oO 3 (.assign nS)] [1,2,3] (sR [oO 4 (.assign (nI 0))] [1,2,3,4] (.seq (sR [oO 5 (.assign (nI 0))] [1,2,3,4,5] (.block 0 (.loop l1_centoref07_Norm))) (.keep [1,2,3,4] (.seq (sR [fO 34 25 1 0,lO 35 3 34,oO 36 (.binOp .eql 3 (xT 35) (nI 1) 3)] [1,2,3,4,36] (cD 36 (sR [fO 37 25 1 1,lO 38 22 37,oO 39 (cL 86 #[(xT 38)] #[22]),mO 40 3,mO 41 4,oO 42 (.slice 23 (xT 40) none (some (xT 41)) none),oO 43 (.build 25 #[(0,(nI 1)),(1,(xT 39)),(2,(xT 42))]),oS (.store 25 (xT 2) (xT 43))] [2] (.ret)) (.skip))) (.keep [1,2,3] (sR [oO 7 (.assign nS)] [1,2,3,7] (sR [mO 44 7,fO 45 25 1 1,lO 46 22 45,oN 47 (bC .append #[(xT 44),(xT 46)] #[22,22]) [4],aO 7 47] [1,2,3,7] (sR [fO 48 25 1 0,lO 49 3 48,mO 50 7,mO 51 3,oO 52 (.build 25 #[(0,(xT 49)),(1,(xT 50)),(2,(xT 51))]),oS (.store 25 (xT 2) (xT 52))] [2] (.ret))))))))))))
theorem t_centoref07_Norm : Txt Tryz.prog 56 53 [(.cell 2 25)] c_centoref07_Norm := txt_of (code := Tryz.f56.body.getD .ret) mixed (by kernel_rfl) Tryz.func56 (by kernel_rfl) Tryz.ntmps56 (by kernel_rfl) (ls := lsOf c_centoref07_Norm) (by kernel_rfl)
def l1_centoref07_Shallow : CC := .seq (sR [mO 20 7,fO 21 25 3 2,lO 22 23 21,oO 23 (bL 22 23),oO 24 (bO .lss 3 20 23 3),mO 25 24,oG 26 (mV 2) 25 true,oG 27 (.binOp .geq 3 (xT 26) (nI 0) 3) 25 true,oO 28 (.pick (xT 25) (xT 27) (nB false))] [1,2,3,7,28] (cD 28 (.skip) (.exit 0))) (.keep [1,2,3,7] (.seq (.block 1 (.reg [fO 31 25 3 2,lO 32 23 31,mO 33 7,oO 34 (iA 23 32 33),lO 35 25 34,mO 36 1,oO 37 (.binOp .sub 3 (xT 36) (nI 1) 3),mO 38 2,oO 39 (cL 45 #[(xT 35),(xT 37),(xT 38)] #[25,3,3]),aO 2 39] [1,2,3,7])) (.reg [mO 29 7,oO 30 (.binOp .add 3 (xT 29) (nI 1) 3),aO 7 30] [1,2,3,7]))) 
def c_centoref07_Shallow : CC := sR [oN 3 (.box 25 (xT 0)) [0],oO 6 (.assign (nI 0))] [1,2,3] (sR [mO 8 2,oO 9 (.binOp .sub 3 (xT 8) (nI 1) 3),fO 10 25 3 1,lO 11 22 10,oO 12 (bL 11 22),oO 13 (bO .sub 3 9 12 3),aO 2 13] [1,2,3] (.seq (sR [mO 14 1,oO 15 (.binOp .eql 3 (xT 14) (nI 0) 3),mO 16 15,oG 17 (mV 2) 16 false,oG 18 (.binOp .lss 3 (xT 17) (nI 0) 3) 16 false,oO 19 (.pick (xT 16) (nB true) (xT 18))] [1,2,3,19] (cD 19 (sR [oO 6 (.assign (.const (.int .i64 (-1))))] [6] (.ret)) (.skip))) (.keep [1,2,3] (.seq (sR [oO 7 (.assign (nI 0))] [1,2,3,7] (.block 0 (.loop l1_centoref07_Shallow))) (.keep [2] (sR [mO 40 2,aO 6 40] [6] (.ret)))))))
theorem t_centoref07_Shallow : Txt Tryz.prog 45 41 [(.tmp 6)] c_centoref07_Shallow := txt_of (code := Tryz.f45.body.getD .ret) mixed (by kernel_rfl) Tryz.func45 (by kernel_rfl) Tryz.ntmps45 (by kernel_rfl) (ls := lsOf c_centoref07_Shallow) (by kernel_rfl)
def c_centoref07_Few : CC := sR [oN 1 (.box 25 (xT 0)) [0],oO 2 (.assign (nB false))] [1] (sR [lO 3 25 1,oO 4 (cL 45 #[(xT 3),(nI 80),(nI 3000)] #[25,3,3]),oO 5 (.binOp .geq 3 (xT 4) (nI 0) 3),aO 2 5] [2] (.ret))
theorem t_centoref07_Few : Txt Tryz.prog 19 6 [(.tmp 2)] c_centoref07_Few := txt_of (code := Tryz.f19.body.getD .ret) mixed (by kernel_rfl) Tryz.func19 (by kernel_rfl) Tryz.ntmps19 (by kernel_rfl) (ls := lsOf c_centoref07_Few) (by kernel_rfl)
def l1_centoref07_Same : CC := .seq (sR [mO 28 5,fO 29 25 2 2,lO 30 23 29,oO 31 (bL 30 23),oO 32 (bO .lss 3 28 31 3)] [2,3,5,32] (cD 32 (.skip) (.exit 0))) (.keep [2,3,5] (.seq (.block 1 (sR [fO 35 25 2 2,lO 36 23 35,mO 37 5,oO 38 (iA 23 36 37),lO 39 25 38,fO 40 25 3 2,lO 41 23 40,mO 42 5,oO 43 (iA 23 41 42),lO 44 25 43,oO 45 (cL 14 #[(xT 39),(xT 44)] #[25,25]),oO 46 (.unOp .not 4 (xT 45))] [2,3,5,46] (cD 46 (sR [oO 4 (.assign (nB false))] [4] (.ret)) (.skip)))) (.keep [2,3,5] (.reg [mO 33 5,oO 34 (.binOp .add 3 (xT 33) (nI 1) 3),aO 5 34] [2,3,5])))) 
def c_centoref07_Same : CC := sR [oN 2 (.box 25 (xT 0)) [0],oN 3 (.box 25 (xT 1)) [1],oO 4 (.assign (nB false))] [2,3] (.seq (sR [fO 6 25 2 0,lO 7 3 6,fO 8 25 3 0,lO 9 3 8,oO 10 (bO .neq 3 7 9 3),mO 11 10,oG 12 (fA 25 2 1) 11 false,oG 13 (lD 22 12) 11 false,oG 14 (fA 25 3 1) 11 false,oG 15 (lD 22 14) 11 false,oG 16 (cL 26 #[(xT 13),(xT 15)] #[22,22]) 11 false,oG 17 (.unOp .not 4 (xT 16)) 11 false,oO 18 (.pick (xT 11) (nB true) (xT 17)),mO 19 18,oG 20 (fA 25 2 2) 19 false,oG 21 (lD 23 20) 19 false,oG 22 (bL 21 23) 19 false,oG 23 (fA 25 3 2) 19 false,oG 24 (lD 23 23) 19 false,oG 25 (bL 24 23) 19 false,oG 26 (bO .neq 3 22 25 3) 19 false,oO 27 (.pick (xT 19) (nB true) (xT 26))] [2,3,27] (cD 27 (sR [oO 4 (.assign (nB false))] [4] (.ret)) (.skip))) (.keep [2,3] (.seq (sR [oO 5 (.assign (nI 0))] [2,3,5] (.block 0 (.loop l1_centoref07_Same))) (.keep [] (sR [oO 4 (.assign (nB true))] [4] (.ret))))))
theorem t_centoref07_Same : Txt Tryz.prog 14 47 [(.tmp 4)] c_centoref07_Same := txt_of (code := Tryz.f14.body.getD .ret) mixed (by kernel_rfl) Tryz.func14 (by kernel_rfl) Tryz.ntmps14 (by kernel_rfl) (ls := lsOf c_centoref07_Same) (by kernel_rfl)
def c_centoref07_Equal : CC := sR [oN 2 (.box 25 (xT 0)) [0],oN 3 (.box 25 (xT 1)) [1],oO 4 (.assign (nB false))] [2,3] (sR [lO 5 25 2,⟨some 6,(cL 56 #[(xT 5)] #[25]),none,[],1,[],true⟩,⟨some 7,(lD 25 3),none,[],2,[1],false⟩,oO 8 (cL 56 #[(xT 7)] #[25]),oO 9 (cL 14 #[(xT 6),(xT 8)] #[25,25]),aO 4 9] [4] (.ret))
theorem t_centoref07_Equal : Txt Tryz.prog 43 10 [(.tmp 4)] c_centoref07_Equal := txt_of (code := Tryz.f43.body.getD .ret) mixed (by kernel_rfl) Tryz.func43 (by kernel_rfl) Tryz.ntmps43 (by kernel_rfl) (ls := lsOf c_centoref07_Equal) (by kernel_rfl)
def l1_tree_Frame : CC := sR [oO 12 (bO .lss 3 11 10 3)] [4,5,9,10,11,12] (.seq (cD 12 (.skip) (.exit 0)) (.keep [4,5,9,10,11] (.seq (.block 1 (sR [oO 13 (iA 23 9 11),lO 14 25 13,oN 7 (.alloc 25) [1],oS (.store 25 (xT 7) (xT 14))] [4,5,7,9,10,11] (.reg [mO 15 4,fO 16 25 7 1,lO 17 22 16,oO 18 (bL 17 22),oO 19 (bC .max #[(xT 15),(xT 18)] #[3,3]),mO 20 5,fO 21 25 7 2,lO 22 23 21,oO 23 (bL 22 23),oO 24 (bC .max #[(xT 20),(xT 23)] #[3,3]),aO 4 19,aO 5 24] [4,5,9,10,11]))) (.reg [oO 25 (.binOp .add 3 (xT 11) (nI 1) 3),mO 11 25] [4,5,9,10,11])))) 
def c_tree_Frame : CC := sR [oN 1 (.box 25 (xT 0)) [0],oO 2 (.assign (nI 0)),oO 3 (.assign (nI 0))] [1] (sR [oO 4 (.assign (nI 0)),oO 5 (.assign (nI 0))] [1,4,5] (.seq (sR [fO 8 25 1 2,lO 9 23 8,oO 10 (bL 9 23),oO 11 (.move (nI 0))] [4,5,9,10,11] (.block 0 (.loop l1_tree_Frame))) (.keep [4,5] (sR [mO 26 4,mO 27 5,aO 2 26,aO 3 27] [2,3] (.ret)))))
theorem t_tree_Frame : Txt Tryz.prog 131 28 [(.tmp 2),(.tmp 3)] c_tree_Frame := txt_of (code := Tryz.f131.body.getD .ret) mixed (by kernel_rfl) Tryz.func131 (by kernel_rfl) Tryz.ntmps131 (by kernel_rfl) (ls := lsOf c_tree_Frame) (by kernel_rfl)
def l1_tree_Norm : CC := sR [oO 20 (bO .lss 3 19 18 3)] [1,2,3,17,18,19,20] (.seq (cD 20 (.skip) (.exit 0)) (.keep [1,2,3,17,18,19] (.seq (.block 1 (sR [oO 21 (iA 23 17 19),lO 22 25 21,oN 5 (.alloc 25) [3],oS (.store 25 (xT 5) (xT 22))] [1,2,3,5,17,18,19] (.reg [fO 23 25 3 2,⟨some 24,(lD 23 23),none,[],1,[],true⟩,lO 25 25 5,⟨some 26,(cL 59 #[(xT 25)] #[25]),none,[],3,[1],false⟩,⟨some 27,(.buildSlice 23 1 #[(0,(xT 26))]),none,[],4,[1],false⟩,oN 28 (bC .append #[(xT 24),(xT 27)] #[23,23]) [4],fO 29 25 3 2,oS (.store 23 (xT 29) (xT 28))] [1,2,3,17,18,19]))) (.reg [oO 30 (.binOp .add 3 (xT 19) (nI 1) 3),mO 19 30] [1,2,3,17,18,19]))))
def l2_tree_Norm : CC := .seq (sR [fO 34 25 3 1,lO 35 22 34,oO 36 (bL 35 22),oO 37 (.binOp .gtr 3 (xT 36) (nI 0) 3),mO 38 37,oG 39 (fA 25 3 1) 38 true,oG 40 (lD 22 39) 38 true,oG 41 (fA 25 3 1) 38 true,oG 42 (lD 22 41) 38 true,oG 43 (bL 42 22) 38 true,oG 44 (.binOp .sub 3 (xT 43) (nI 1) 3) 38 true,oG 45 (iA 22 40 44) 38 true,oG 46 (lD 60 45) 38 true,oG 47 (.binOp .eql 60 (xT 46) (.const (.int .u64 0)) 60) 38 true,oO 48 (.pick (xT 38) (xT 47) (nB false))] [2,3,48] (cD 48 (.skip) (.exit 2))) (.keep [2,3] (.block 3 (.reg [fO 49 25 3 1,lO 50 22 49,fO 51 25 3 1,lO 52 22 51,oO 53 (bL 52 22),oO 54 (.binOp .sub 3 (xT 53) (nI 1) 3),oO 55 (.slice 22 (xT 50) none (some (xT 54)) none),fO 56 25 3 1,oS (.store 22 (xT 56) (xT 55))] [2,3])))
def l3_tree_Norm : CC := .seq (sR [fO 57 25 3 2,lO 58 23 57,oO 59 (bL 58 23),oO 60 (.binOp .gtr 3 (xT 59) (nI 0) 3),mO 61 60,oG 62 (fA 25 3 2) 61 true,oG 63 (lD 23 62) 61 true,oG 64 (fA 25 3 2) 61 true,oG 65 (lD 23 64) 61 true,oG 66 (bL 65 23) 61 true,oG 67 (.binOp .sub 3 (xT 66) (nI 1) 3) 61 true,oG 68 (iA 23 63 67) 61 true,oG 69 (fA 25 68 0) 61 true,oG 70 (lD 3 69) 61 true,oG 71 (.binOp .eql 3 (xT 70) (nI 0) 3) 61 true,oO 72 (.pick (xT 61) (xT 71) (nB false))] [2,3,72] (cD 72 (.skip) (.exit 4))) (.keep [2,3] (.block 5 (.reg [fO 73 25 3 2,lO 74 23 73,fO 75 25 3 2,lO 76 23 75,oO 77 (bL 76 23),oO 78 (.binOp .sub 3 (xT 77) (nI 1) 3),oO 79 (.slice 23 (xT 74) none (some (xT 78)) none),fO 80 25 3 2,oS (.store 23 (xT 80) (xT 79))] [2,3]))) 
def c_tree_Norm : CC := sR [oN 1 (.box 25 (xT 0)) [0],oN 2 (.alloc 25) [1]] [1,2] (.seq (sR [fO 6 25 1 0,lO 7 3 6,oO 8 (.binOp .eql 3 (xT 7) (nI 0) 3)] [1,2,8] (cD 8 (sR [oO 9 (.build 25 #[]),oS (.store 25 (xT 2) (xT 9))] [2] (.ret)) (.skip))) (.keep [1,2] (sR [fO 10 25 1 0,⟨some 11,(lD 3 10),none,[],1,[],true⟩,fO 12 25 1 1,⟨some 13,(lD 22 12),none,[],3,[],true⟩,⟨some 14,(cL 66 #[(xT 13)] #[22]),none,[],4,[1],true⟩,oO 15 (.build 25 #[(0,(xT 11)),(1,(xT 14))]),⟨some 3,(.alloc 25),none,[2],6,[1,3,4],false⟩,oS (.store 25 (xT 3) (xT 15))] [1,2,3] (.seq (sR [fO 16 25 1 2,lO 17 23 16,oO 18 (bL 17 23),oO 19 (.move (nI 0))] [1,2,3,17,18,19] (.block 0 (.loop l1_tree_Norm))) (.keep [1,2,3] (.seq (sR [fO 31 25 1 0,lO 32 3 31,oO 33 (.binOp .eql 3 (xT 32) (nI 1) 3)] [2,3,33] (cD 33 (.seq (.block 2 (.loop l2_tree_Norm)) (.keep [2,3] (.block 4 (.loop l3_tree_Norm)))) (.skip))) (.keep [2,3] (sR [lO 81 25 3,oS (.store 25 (xT 2) (xT 81))] [2] (.ret)))))))))
theorem t_tree_Norm : Txt Tryz.prog 59 82 [(.cell 2 25)] c_tree_Norm := txt_of (code := Tryz.f59.body.getD .ret) mixed (by kernel_rfl) Tryz.func59 (by kernel_rfl) Tryz.ntmps59 (by kernel_rfl) (ls := lsOf c_tree_Norm) (by kernel_rfl)
def l1_tree_size : CC := sR [oO 60 (bO .lss 3 59 58 3)] [3,57,58,59,60] (.seq (cD 60 (.skip) (.exit 1)) (.keep [3,57,58,59] (.seq (.block 2 (sR [oO 61 (iA 23 57 59),lO 62 25 61,oN 7 (.alloc 25) [1],oS (.store 25 (xT 7) (xT 62))] [3,7,57,58,59] (.reg [mO 63 3,lO 64 25 7,⟨some 65,(cL 94 #[(xT 64)] #[25]),none,[],2,[],true⟩,fO 66 25 7 1,⟨some 67,(lD 22 66),none,[],4,[2],false⟩,oO 68 (bL 67 22),oO 69 (bO .sub 3 65 68 3),fO 70 25 7 2,⟨some 71,(lD 23 70),none,[],8,[2],false⟩,oO 72 (bL 71 23),oO 73 (bO .sub 3 69 72 3),oO 74 (bO .add 3 63 73 3),aO 3 74] [3,57,58,59]))) (.reg [oO 75 (.binOp .add 3 (xT 59) (nI 1) 3),mO 59 75] [3,57,58,59]))))
def l2_tree_size : CC := sR [oO 81 (bO .lss 3 80 79 3)] [3,78,79,80,81] (.seq (cD 81 (.skip) (.exit 3)) (.keep [3,78,79,80] (.seq (.block 4 (sR [oO 82 (iA 23 78 80),lO 83 25 82,oN 9 (.alloc 25) [2],oS (.store 25 (xT 9) (xT 83))] [3,9,78,79,80] (.reg [mO 84 3,lO 85 25 9,oO 86 (cL 94 #[(xT 85)] #[25]),oO 87 (bO .add 3 84 86 3),aO 3 87] [3,78,79,80]))) (.reg [oO 88 (.binOp .add 3 (xT 80) (nI 1) 3),mO 80 88] [3,78,79,80]))))
def k1_tree_size : CC := .seq (sR [fO 77 25 1 2,lO 78 23 77,oO 79 (bL 78 23),oO 80 (.move (nI 0))] [3,78,79,80] (.block 3 (.loop l2_tree_size))) (.keep [3] (sR [mO 89 3,aO 2 89] [2] (.ret))) 
def c_tree_size : CC := sR [oN 1 (.box 25 (xT 0)) [0],oO 2 (.assign (nI 0))] [1] (sR [oO 3 (.assign (nI 0))] [1,3] (.seq (.block 0 (sR [fO 11 25 1 0,lO 12 3 11,oO 13 (.binOp .eql 3 (xT 12) (nI 1) 3),aO 10 13] [1,3,10] (cD 10 (.reg [fO 14 25 1 1,lO 15 22 14,oO 16 (bL 15 22),fO 17 25 1 2,lO 18 23 17,oO 19 (bL 18 23),oO 20 (bO .add 3 16 19 3),aO 3 20] [1,3]) (sR [fO 22 25 1 0,lO 23 3 22,oO 24 (.binOp .eql 3 (xT 23) (nI 8) 3),aO 21 24] [1,3,21] (cD 21 (.reg [fO 25 25 1 2,lO 26 23 25,oO 27 (bL 26 23),aO 3 27] [1,3]) (sR [fO 29 25 1 0,lO 30 3 29,oO 31 (cL 105 #[(xT 30)] #[3]),aO 28 31] [1,3,28] (cD 28 (sR [fO 32 25 1 0,lO 33 3 32,oO 34 (.binOp .sub 3 (xT 33) (nI 2) 3),fO 35 25 1 2,lO 36 23 35,oO 37 (bL 36 23),oO 38 (cL 130 #[(xT 34),(xT 37)] #[3,3]),aO 2 38] [2] (.ret)) (sR [fO 40 25 1 0,lO 41 3 40,oO 42 (.binOp .eql 3 (xT 41) (nI 9) 3),aO 39 42] [1,3,39] (cD 39 (sR [lO 44 25 1,oO 45 (cL 131 #[(xT 44)] #[25]),mO 43 45,xO 46 43 0,xO 47 43 1,aO 4 46,aO 5 47] [1,4,5] (sR [fO 48 25 1 2,lO 49 23 48,oO 50 (bL 49 23),mO 51 4,mO 52 5,oO 53 (bO .add 3 51 52 3),oO 54 (bO .mul 3 50 53 3),oO 55 (.binOp .add 3 (nI 1) (xT 54) 3),aO 3 55] [1,3] (.seq (sR [fO 56 25 1 2,lO 57 23 56,oO 58 (bL 57 23),oO 59 (.move (nI 0))] [3,57,58,59] (.block 1 (.loop l1_tree_size))) (.keep [3] (sR [mO 76 3,aO 2 76] [2] (.ret)))))) (.skip)))))))))) (.keep [1,3] k1_tree_size)))
theorem t_tree_size : Txt Tryz.prog 94 90 [(.tmp 2)] c_tree_size := txt_of (code := Tryz.f94.body.getD .ret) mixed (by kernel_rfl) Tryz.func94 (by kernel_rfl) Tryz.ntmps94 (by kernel_rfl) (ls := lsOf c_tree_size) (by kernel_rfl)
def c_tree_Size : CC := sR [oN 1 (.box 25 (xT 0)) [0],oO 2 (.assign (nI 0))] [1] (sR [lO 3 25 1,oO 4 (cL 59 #[(xT 3)] #[25]),oO 5 (cL 94 #[(xT 4)] #[25]),aO 2 5] [2] (.ret))
theorem t_tree_Size : Txt Tryz.prog 60 6 [(.tmp 2)] c_tree_Size := txt_of (code := Tryz.f60.body.getD .ret) mixed (by kernel_rfl) Tryz.func60 (by kernel_rfl) Tryz.ntmps60 (by kernel_rfl) (ls := lsOf c_tree_Size) (by kernel_rfl)
end Go.Proofs.YthfiijdbnkaabaaGreat

namespace Go.Proofs.YthfiijdbnkaabaaGreat
set_option linter.unusedVariables false
set_option linter.unusedSimpArgs false
set_option maxRecDepth 20000
open Go Go.G Go.Proofs
@[simp] theorem und_45 : Tryz.prog.underlying 45 = some (.int .i64) := by kernel_rfl
@[simp] theorem szT_54 : szT Tryz.prog 54 = some 1 := by kernel_rfl
@[simp] theorem szT_58 : szT Tryz.prog 58 = some 4 := by kernel_rfl
@[simp] theorem szT_93 : szT Tryz.prog 93 = some 8 := by kernel_rfl
@[simp] theorem szT_111 : szT Tryz.prog 111 = some 7 := by kernel_rfl
@[simp] theorem aggT_54 : aggT Tryz.prog 54 = some false := by kernel_rfl
@[simp] theorem aggT_58 : aggT Tryz.prog 58 = some true := by kernel_rfl
@[simp] theorem aggT_93 : aggT Tryz.prog 93 = some true := by kernel_rfl
@[simp] theorem aggT_111 : aggT Tryz.prog 111 = some true := by kernel_rfl
@[simp] theorem zeroT_58 : zeroT Tryz.prog 58 = some (Value.agg #[Value.int IntKind.i64 0,Value.int IntKind.i64 0,Value.int IntKind.i64 0,Value.int IntKind.i64 0]) := by kernel_rfl
@[simp] theorem zeroT_93 : zeroT Tryz.prog 93 = some (Value.agg #[Value.pointer none,Value.int IntKind.i64 0,Value.int IntKind.i64 0,Value.int IntKind.i64 0,Value.int IntKind.i64 0,Value.int IntKind.i64 0,Value.int IntKind.i64 0,Value.int IntKind.u64 0]) := by kernel_rfl
@[simp] theorem zeroT_111 : zeroT Tryz.prog 111 = some (Value.agg #[Value.int IntKind.i64 0,Value.int IntKind.i64 0,Value.int IntKind.i64 0,Value.int IntKind.i64 0,Value.int IntKind.i64 0,Value.int IntKind.i64 0,Value.int IntKind.u64 0]) := by kernel_rfl
@[simp] theorem fieldOffT_58_0 : fieldOffT Tryz.prog 58 0 = some 0 := by kernel_rfl
@[simp] theorem fieldOffT_58_1 : fieldOffT Tryz.prog 58 1 = some 1 := by kernel_rfl
@[simp] theorem fieldOffT_58_2 : fieldOffT Tryz.prog 58 2 = some 2 := by kernel_rfl
@[simp] theorem fieldOffT_58_3 : fieldOffT Tryz.prog 58 3 = some 3 := by kernel_rfl
@[simp] theorem fieldOffT_93_0 : fieldOffT Tryz.prog 93 0 = some 0 := by kernel_rfl
@[simp] theorem fieldOffT_93_1 : fieldOffT Tryz.prog 93 1 = some 1 := by kernel_rfl
@[simp] theorem fieldOffT_93_2 : fieldOffT Tryz.prog 93 2 = some 2 := by kernel_rfl
@[simp] theorem fieldOffT_93_3 : fieldOffT Tryz.prog 93 3 = some 3 := by kernel_rfl
@[simp] theorem fieldOffT_93_4 : fieldOffT Tryz.prog 93 4 = some 4 := by kernel_rfl
@[simp] theorem fieldOffT_93_5 : fieldOffT Tryz.prog 93 5 = some 5 := by kernel_rfl
@[simp] theorem fieldOffT_93_6 : fieldOffT Tryz.prog 93 6 = some 6 := by kernel_rfl
@[simp] theorem fieldOffT_93_7 : fieldOffT Tryz.prog 93 7 = some 7 := by kernel_rfl
@[simp] theorem fieldOffT_111_0 : fieldOffT Tryz.prog 111 0 = some 0 := by kernel_rfl
@[simp] theorem fieldOffT_111_1 : fieldOffT Tryz.prog 111 1 = some 1 := by kernel_rfl
@[simp] theorem fieldOffT_111_2 : fieldOffT Tryz.prog 111 2 = some 2 := by kernel_rfl
@[simp] theorem fieldOffT_111_3 : fieldOffT Tryz.prog 111 3 = some 3 := by kernel_rfl
@[simp] theorem fieldOffT_111_4 : fieldOffT Tryz.prog 111 4 = some 4 := by kernel_rfl
@[simp] theorem fieldOffT_111_5 : fieldOffT Tryz.prog 111 5 = some 5 := by kernel_rfl
@[simp] theorem fieldOffT_111_6 : fieldOffT Tryz.prog 111 6 = some 6 := by kernel_rfl
@[simp] theorem buildA_58 (ps : List (Nat × A)) : buildA Tryz.prog 58 ps = (fillA (fun i => ([(0,1),(1,1),(2,1),(3,1)] : List (Nat × Nat))[i]?) [A.v (Value.int IntKind.i64 0),A.v (Value.int IntKind.i64 0),A.v (Value.int IntKind.i64 0),A.v (Value.int IntKind.i64 0)] ps).map A.agg := by kernel_rfl
@[simp] theorem buildA_93 (ps : List (Nat × A)) : buildA Tryz.prog 93 ps = (fillA (fun i => ([(0,1),(1,1),(2,1),(3,1),(4,1),(5,1),(6,1),(7,1)] : List (Nat × Nat))[i]?) [A.v (Value.pointer none),A.v (Value.int IntKind.i64 0),A.v (Value.int IntKind.i64 0),A.v (Value.int IntKind.i64 0),A.v (Value.int IntKind.i64 0),A.v (Value.int IntKind.i64 0),A.v (Value.int IntKind.i64 0),A.v (Value.int IntKind.u64 0)] ps).map A.agg := by kernel_rfl
@[simp] theorem buildA_111 (ps : List (Nat × A)) : buildA Tryz.prog 111 ps = (fillA (fun i => ([(0,1),(1,1),(2,1),(3,1),(4,1),(5,1),(6,1)] : List (Nat × Nat))[i]?) [A.v (Value.int IntKind.i64 0),A.v (Value.int IntKind.i64 0),A.v (Value.int IntKind.i64 0),A.v (Value.int IntKind.i64 0),A.v (Value.int IntKind.i64 0),A.v (Value.int IntKind.i64 0),A.v (Value.int IntKind.u64 0)] ps).map A.agg := by kernel_rfl
def c_reader_Ref_Kind : CC := sR [oN 1 (.box 93 (xT 0)) [0],oO 2 (.assign (nI 0))] [1] (sR [fO 3 93 1 1,lO 4 3 3,aO 2 4] [2] (.ret))
theorem t_reader_Ref_Kind : Txt Tryz.prog 101 5 [(.tmp 2)] c_reader_Ref_Kind := txt_of (code := Tryz.f101.body.getD .ret) mixed (by kernel_rfl) Tryz.func101 (by kernel_rfl) Tryz.ntmps101 (by kernel_rfl) (ls := lsOf c_reader_Ref_Kind) (by kernel_rfl)
def c_reader_Ref_Words : CC := sR [oN 1 (.box 93 (xT 0)) [0],oO 2 (.assign (nI 0))] [1] (.seq (sR [fO 3 93 1 1,lO 4 3 3] [1,4] (.block 0 (sR [oO 6 (.binOp .eql 3 (xT 4) (nI 1) 3),aO 5 6] [1,4,5] (cD 5 (sR [fO 7 93 1 4,lO 8 3 7,aO 2 8] [2] (.ret)) (sR [oO 10 (.binOp .eql 3 (xT 4) (nI 10) 3),aO 9 10] [9] (cD 9 (sR [oO 2 (.assign (nI 1))] [2] (.ret)) (.skip))))))) (.keep [] (sR [oO 2 (.assign (nI 0))] [2] (.ret))))
theorem t_reader_Ref_Words : Txt Tryz.prog 137 11 [(.tmp 2)] c_reader_Ref_Words := txt_of (code := Tryz.f137.body.getD .ret) mixed (by kernel_rfl) Tryz.func137 (by kernel_rfl) Tryz.ntmps137 (by kernel_rfl) (ls := lsOf c_reader_Ref_Words) (by kernel_rfl)
def c_reader_Ref_Kids : CC := sR [oN 1 (.box 93 (xT 0)) [0],oO 2 (.assign (nI 0))] [1] (.seq (sR [fO 3 93 1 1,lO 4 3 3,oO 5 (.binOp .eql 3 (xT 4) (nI 1) 3)] [1,5] (cD 5 (sR [fO 6 93 1 5,lO 7 3 6,aO 2 7] [2] (.ret)) (.skip))) (.keep [1] (sR [fO 8 93 1 6,lO 9 3 8,aO 2 9] [2] (.ret))))
theorem t_reader_Ref_Kids : Txt Tryz.prog 102 10 [(.tmp 2)] c_reader_Ref_Kids := txt_of (code := Tryz.f102.body.getD .ret) mixed (by kernel_rfl) Tryz.func102 (by kernel_rfl) Tryz.ntmps102 (by kernel_rfl) (ls := lsOf c_reader_Ref_Kids) (by kernel_rfl)
def c_reader_Ref_Word : CC := sR [oN 2 (.box 93 (xT 0)) [0],oO 4 (.assign (.const (.int .u64 0)))] [1,2] (.seq (sR [mO 7 1,oO 8 (.binOp .lss 3 (xT 7) (nI 0) 3),mO 9 8,oG 10 (mV 1) 9 false,oG 11 (lD 93 2) 9 false,oG 12 (cL 137 #[(xT 11)] #[93]) 9 false,oG 13 (bO .geq 3 10 12 3) 9 false,oO 14 (.pick (xT 9) (nB true) (xT 13))] [1,2,14] (cD 14 (sR [oO 4 (.assign (.const (.int .u64 0)))] [4] (.ret)) (.skip))) (.keep [1,2] (.seq (sR [fO 15 93 2 1,lO 16 3 15,oO 17 (.binOp .eql 3 (xT 16) (nI 10) 3)] [1,2,17] (cD 17 (sR [fO 18 93 2 7,lO 19 60 18,aO 4 19] [4] (.ret)) (.skip))) (.keep [1,2] (sR [fO 21 93 2 0,lO 22 54 21,fO 23 93 2 2,lO 24 3 23,fO 25 93 2 3,lO 26 3 25,mO 27 1,oO 28 (bO .add 3 26 27 3),oO 29 (cL 155 #[(xT 22),(xT 24),(xT 28)] #[54,3,3]),mO 20 29,xO 30 20 0,xO 31 20 1,aO 5 30,aO 6 31] [5] (sR [mO 32 5,aO 4 32] [4] (.ret)))))))
theorem t_reader_Ref_Word : Txt Tryz.prog 145 33 [(.tmp 4)] c_reader_Ref_Word := txt_of (code := Tryz.f145.body.getD .ret) mixed (by kernel_rfl) Tryz.func145 (by kernel_rfl) Tryz.ntmps145 (by kernel_rfl) (ls := lsOf c_reader_Ref_Word) (by kernel_rfl)
def c_reader_Ref_atom : CC := sR [oN 2 (.box 93 (xT 0)) [0],oO 4 (.assign (.const (.int .u64 0)))] [1,2] (sR [fO 11 93 2 1,lO 12 3 11,oO 13 (.binOp .sub 3 (xT 12) (nI 2) 3),aO 5 13] [1,2,5] (sR [mO 15 5,oO 16 (cL 165 #[(xT 15)] #[3]),mO 14 16,xO 17 14 0,xO 18 14 1,aO 6 17,aO 7 18] [1,2,5,6] (.seq (sR [mO 19 6,oO 20 (.binOp .eql 3 (xT 19) (nI 0) 3)] [1,2,5,6,20] (cD 20 (sR [oO 4 (.assign (.const (.int .u64 0)))] [4] (.ret)) (.skip))) (.keep [1,2,5,6] (sR [mO 21 6,oO 22 (.binOp .quo 3 (nI 64) (xT 21) 3),aO 8 22] [1,2,5,8] (sR [fO 24 93 2 0,lO 25 54 24,fO 26 93 2 2,lO 27 3 26,fO 28 93 2 3,lO 29 3 28,mO 30 1,mO 31 8,oO 32 (bO .quo 3 30 31 3),oO 33 (bO .add 3 29 32 3),oO 34 (cL 155 #[(xT 25),(xT 27),(xT 33)] #[54,3,3]),mO 23 34,xO 35 23 0,xO 36 23 1,aO 9 35,aO 10 36] [1,5,8,9] (sR [mO 37 9,oO 38 (.buildSlice 22 1 #[(0,(xT 37))]),mO 39 5,mO 40 1,mO 41 8,oO 42 (bO .rem 3 40 41 3),oO 43 (cL 166 #[(xT 38),(xT 39),(xT 42)] #[22,3,3]),aO 4 43] [4] (.ret))))))))
theorem t_reader_Ref_atom : Txt Tryz.prog 158 44 [(.tmp 4)] c_reader_Ref_atom := txt_of (code := Tryz.f158.body.getD .ret) mixed (by kernel_rfl) Tryz.func158 (by kernel_rfl) Tryz.ntmps158 (by kernel_rfl) (ls := lsOf c_reader_Ref_atom) (by kernel_rfl)
def c_reader_At : CC := sR [oN 6 (.alloc 93) [0],oO 7 (.assign (nI 0))] [0,1,2,6] (sR [mO 12 0,mO 13 1,mO 14 2,oO 15 (cL 135 #[(xT 12),(xT 13),(xT 14)] #[54,3,3]),mO 11 15,xO 16 11 0,xO 17 11 1,oN 8 (.alloc 153) [1],oS (.store 153 (xT 8) (xT 16)),aO 9 17] [0,6,8,9] (.seq (sR [mO 18 9,oO 19 (.binOp .neq 45 (xT 18) (nI 0) 45),mO 20 19,oG 21 (fA 153 8 0) 20 false,oG 22 (fA 121 21 0) 20 false,oG 23 (lD 3 22) 20 false,oG 24 (.binOp .eql 3 (xT 23) (nI 0) 3) 20 false,oO 25 (.pick (xT 20) (nB true) (xT 24))] [0,6,8,9,25] (cD 25 (sR [oO 26 (.build 93 #[]),mO 27 9,oS (.store 93 (xT 6) (xT 26)),aO 7 27] [6,7] (.ret)) (.skip))) (.keep [0,6,8] (sR [mO 28 0,fO 29 153 8 1,lO 30 3 29,fO 31 153 8 2,lO 32 3 31,oO 33 (.build 93 #[(0,(xT 28)),(2,(xT 30)),(3,(xT 32))]),oN 10 (.alloc 93) [2],oS (.store 93 (xT 10) (xT 33))] [6,8,10] (.seq (.block 0 (sR [fO 42 153 8 0,fO 43 121 42 0,lO 44 3 43,oO 45 (.binOp .eql 3 (xT 44) (nI 1) 3),aO 41 45] [6,8,10,41] (cD 41 (.reg [fO 46 153 8 0,fO 47 121 46 2,⟨some 48,(lD 3 47),none,[],2,[],true⟩,fO 49 153 8 0,fO 50 121 49 3,⟨some 51,(lD 3 50),none,[],5,[],true⟩,fO 52 93 10 1,⟨none,(.store 3 (xT 52) (nI 1)),none,[],7,[2,5],false⟩,fO 53 93 10 4,⟨none,(.store 3 (xT 53) (xT 48)),none,[],9,[5],false⟩,fO 54 93 10 5,oS (.store 3 (xT 54) (xT 51))] [6,10]) (sR [fO 56 153 8 0,fO 57 121 56 4,lO 58 3 57,oO 59 (.binOp .lss 3 (xT 58) (nI 6) 3),aO 55 59] [6,8,10,55] (cD 55 (.reg [fO 60 153 8 0,fO 61 121 60 4,lO 62 3 61,oO 63 (.binOp .add 3 (nI 2) (xT 62) 3),fO 64 153 8 0,fO 65 121 64 5,⟨some 66,(lD 3 65),none,[],6,[],true⟩,fO 67 93 10 1,⟨none,(.store 3 (xT 67) (xT 63)),none,[],8,[6],false⟩,fO 68 93 10 6,oS (.store 3 (xT 68) (xT 66))] [6,10]) (sR [fO 70 153 8 0,fO 71 121 70 4,lO 72 3 71,oO 73 (.binOp .eql 3 (xT 72) (nI 6) 3),aO 69 73] [6,8,10,69] (cD 69 (.reg [fO 74 153 8 0,fO 75 121 74 5,⟨some 76,(lD 3 75),none,[],2,[],true⟩,fO 77 93 10 1,⟨none,(.store 3 (xT 77) (nI 8)),none,[],4,[2],false⟩,fO 78 93 10 6,oS (.store 3 (xT 78) (xT 76))] [6,10]) (sR [lO 34 93 10,fO 35 153 8 0,fO 36 121 35 5,lO 37 3 36,oO 38 (cL 136 #[(xT 34),(xT 37)] #[93,3]),xO 39 38 0,xO 40 38 1,oS (.store 93 (xT 6) (xT 39)),aO 7 40] [6,7] (.ret))))))))) (.keep [6,10] (sR [lO 79 93 10,oS (.store 93 (xT 6) (xT 79)),oO 7 (.assign (nI 0))] [6,7] (.ret))))))))
theorem t_reader_At : Txt Tryz.prog 100 80 [(.cell 6 93),(.tmp 7)] c_reader_At := txt_of (code := Tryz.f100.body.getD .ret) mixed (by kernel_rfl) Tryz.func100 (by kernel_rfl) Tryz.ntmps100 (by kernel_rfl) (ls := lsOf c_reader_At) (by kernel_rfl)
def c_reader_Root : CC := sR [oN 2 (.alloc 93) [0],oO 3 (.assign (nI 0))] [0,2] (sR [mO 4 0,oO 5 (cL 100 #[(xT 4),(nI 0),(nI 0)] #[54,3,3]),xO 6 5 0,xO 7 5 1,oS (.store 93 (xT 2) (xT 6)),aO 3 7] [2,3] (.ret))
theorem t_reader_Root : Txt Tryz.prog 64 8 [(.cell 2 93),(.tmp 3)] c_reader_Root := txt_of (code := Tryz.f64.body.getD .ret) mixed (by kernel_rfl) Tryz.func64 (by kernel_rfl) Tryz.ntmps64 (by kernel_rfl) (ls := lsOf c_reader_Root) (by kernel_rfl)
def c_reader_Ref_composite : CC := sR [oN 2 (.box 93 (xT 0)) [0],oN 4 (.alloc 93) [1],oO 5 (.assign (nI 0))] [1,2,4] (sR [fO 10 93 2 0,lO 11 54 10,fO 12 93 2 2,lO 13 3 12,fO 14 93 2 3,lO 15 3 14,oO 16 (cL 155 #[(xT 11),(xT 13),(xT 15)] #[54,3,3]),mO 9 16,xO 17 9 0,xO 18 9 1,aO 6 17,aO 7 18] [1,2,4,6] (sR [mO 19 6,oO 20 (cL 154 #[(xT 19)] #[60]),oN 8 (.alloc 121) [2],oS (.store 121 (xT 8) (xT 20))] [1,2,4,6,8] (.seq (sR [mO 21 6,oO 22 (.binOp .neq 60 (xT 21) (.const (.int .u64 0)) 60),mO 23 22,oG 24 (fA 121 8 0) 23 true,oG 25 (lD 3 24) 23 true,oG 26 (.binOp .neq 3 (xT 25) (nI 1) 3) 23 true,oO 27 (.pick (xT 23) (xT 26) (nB false)),mO 28 27,oG 29 (fA 121 8 1) 28 false,oG 30 (lD 3 29) 28 false,oG 31 (.binOp .lss 3 (xT 30) (nI 0) 3) 28 false,oO 32 (.pick (xT 28) (nB true) (xT 31)),mO 33 32,oG 34 (fA 121 8 1) 33 false,oG 35 (lD 3 34) 33 false,oG 36 (fA 121 8 2) 33 false,oG 37 (lD 3 36) 33 false,oG 38 (fA 121 8 3) 33 false,oG 39 (lD 3 38) 33 false,oG 40 (bO .add 3 37 39 3) 33 false,oG 41 (bO .mul 3 35 40 3) 33 false,oG 42 (mV 1) 33 false,oG 43 (bO .gtr 3 41 42 3) 33 false,oO 44 (.pick (xT 33) (nB true) (xT 43))] [2,4,8,44] (cD 44 (sR [oO 45 (.build 93 #[]),oS (.store 93 (xT 4) (xT 45)),oO 5 (.assign (nI 8))] [4,5] (.ret)) (.skip))) (.keep [2,4,8] (sR [fO 46 93 2 3,lO 47 3 46,oO 48 (.binOp .add 3 (xT 47) (nI 1) 3),fO 49 93 2 1,oS (.store 3 (xT 49) (nI 9)),fO 50 93 2 3,oS (.store 3 (xT 50) (xT 48))] [2,4,8] (sR [fO 51 121 8 1,lO 52 3 51,fO 53 121 8 2,⟨some 54,(lD 3 53),none,[],3,[],true⟩,fO 55 121 8 3,⟨some 56,(lD 3 55),none,[],5,[],true⟩,fO 57 93 2 6,⟨none,(.store 3 (xT 57) (xT 52)),none,[],7,[3,5],false⟩,fO 58 93 2 4,⟨none,(.store 3 (xT 58) (xT 54)),none,[],9,[5],false⟩,fO 59 93 2 5,oS (.store 3 (xT 59) (xT 56))] [2,4] (sR [lO 60 93 2,oS (.store 93 (xT 4) (xT 60)),oO 5 (.assign (nI 0))] [4,5] (.ret))))))))
theorem t_reader_Ref_composite : Txt Tryz.prog 136 61 [(.cell 4 93),(.tmp 5)] c_reader_Ref_composite := txt_of (code := Tryz.f136.body.getD .ret) mixed (by kernel_rfl) Tryz.func136 (by kernel_rfl) Tryz.ntmps136 (by kernel_rfl) (ls := lsOf c_reader_Ref_composite) (by kernel_rfl)
def c_reader_Ref_Kid : CC := sR [oN 2 (.box 93 (xT 0)) [0],oN 4 (.alloc 93) [1],oO 5 (.assign (nI 0))] [1,2,4] (.seq (sR [mO 6 1,oO 7 (.binOp .lss 3 (xT 6) (nI 0) 3),mO 8 7,oG 9 (mV 1) 8 false,oG 10 (lD 93 2) 8 false,oG 11 (cL 102 #[(xT 10)] #[93]) 8 false,oG 12 (bO .geq 3 9 11 3) 8 false,oO 13 (.pick (xT 8) (nB true) (xT 12))] [1,2,4,13] (cD 13 (sR [oO 14 (.build 93 #[]),oS (.store 93 (xT 4) (xT 14)),oO 5 (.assign (nI 0))] [4,5] (.ret)) (.skip))) (.keep [1,2,4] (.seq (sR [fO 15 93 2 1,lO 16 3 15] [1,2,4,16] (.block 0 (sR [oO 18 (.binOp .eql 3 (xT 16) (nI 1) 3),aO 17 18] [1,2,4,16,17] (cD 17 (sR [fO 19 93 2 0,lO 20 54 19,fO 21 93 2 2,lO 22 3 21,fO 23 93 2 3,lO 24 3 23,fO 25 93 2 4,lO 26 3 25,oO 27 (bO .add 3 24 26 3),mO 28 1,oO 29 (bO .add 3 27 28 3),oO 30 (cL 100 #[(xT 20),(xT 22),(xT 29)] #[54,3,3]),xO 31 30 0,xO 32 30 1,oS (.store 93 (xT 4) (xT 31)),aO 5 32] [4,5] (.ret)) (sR [oO 34 (.binOp .eql 3 (xT 16) (nI 8) 3),aO 33 34] [1,2,4,16,33] (cD 33 (sR [fO 35 93 2 0,lO 36 54 35,fO 37 93 2 2,lO 38 3 37,fO 39 93 2 3,lO 40 3 39,mO 41 1,oO 42 (bO .add 3 40 41 3),oO 43 (cL 100 #[(xT 36),(xT 38),(xT 42)] #[54,3,3]),xO 44 43 0,xO 45 43 1,oS (.store 93 (xT 4) (xT 44)),aO 5 45] [4,5] (.ret)) (sR [oO 47 (.binOp .eql 3 (xT 16) (nI 9) 3),aO 46 47] [1,2,4,46] (cD 46 (sR [fO 48 93 2 0,lO 49 54 48,fO 50 93 2 2,lO 51 3 50,fO 52 93 2 3,lO 53 3 52,mO 54 1,fO 55 93 2 4,lO 56 3 55,fO 57 93 2 5,lO 58 3 57,oO 59 (bO .add 3 56 58 3),oO 60 (bO .mul 3 54 59 3),oO 61 (bO .add 3 53 60 3),fO 62 93 2 4,lO 63 3 62,fO 64 93 2 5,lO 65 3 64,oO 66 (.build 93 #[(0,(xT 49)),(1,(nI 1)),(2,(xT 51)),(3,(xT 61)),(4,(xT 63)),(5,(xT 65))]),oS (.store 93 (xT 4) (xT 66)),oO 5 (.assign (nI 0))] [4,5] (.ret)) (.skip))))))))) (.keep [1,2,4] (sR [fO 67 93 2 0,⟨some 68,(lD 54 67),none,[],1,[],true⟩,lO 69 93 2,mO 70 1,⟨some 71,(cL 158 #[(xT 69),(xT 70)] #[93,3]),none,[],4,[1],false⟩,oO 72 (.build 93 #[(0,(xT 68)),(1,(nI 10)),(7,(xT 71))]),oS (.store 93 (xT 4) (xT 72)),oO 5 (.assign (nI 0))] [4,5] (.ret))))))
theorem t_reader_Ref_Kid : Txt Tryz.prog 139 73 [(.cell 4 93),(.tmp 5)] c_reader_Ref_Kid := txt_of (code := Tryz.f139.body.getD .ret) mixed (by kernel_rfl) Tryz.func139 (by kernel_rfl) Tryz.ntmps139 (by kernel_rfl) (ls := lsOf c_reader_Ref_Kid) (by kernel_rfl)
end Go.Proofs.YthfiijdbnkaabaaGreat

namespace Go.Proofs.YthfiijdbnkaabaaGreat
set_option linter.unusedVariables false
set_option linter.unusedSimpArgs false
open Go Go.G Go.Proofs Go.PL
structure Sg (l : List (List Int)) : Prop where
  b : ∀ x,x ∈ l→x.length * 8≤140737488355328
  w : Wds l
def arO (l : List (List Int)) (r : Rf) : A := if r.kind = 0 then .v (.pointer none) else arn l
@[simp] theorem arO_cells (l : List (List Int)) (r : Rf) : (arO l r).cells = [arO l r] := by unfold arO; split <;> rfl
@[simp] theorem arO_one (l : List (List Int)) (r : Rf) : (arO l r).one = true := by unfold arO; split <;> rfl
@[simp] theorem arO_bare (l : List (List Int)) (r : Rf) : (arO l r).bare = true := by unfold arO; split <;> rfl
@[simp] theorem arO_bare1 (l : List (List Int)) (r : Rf) : (arO l r).bare1 = true := by unfold arO; split <;> rfl
@[simp] theorem arO_bare2 (l : List (List Int)) (r : Rf) : (arO l r).bare2 = true := by unfold arO; split <;> rfl
theorem arO_nz {l : List (List Int)} {r : Rf} (h : r.kind ≠ 0) : arO l r = arn l := if_neg h
abbrev paL (l : List (List Int)) (r : Rf) : List A := [arO l r,iv r.kind,iv r.s,iv r.at_,iv r.data,iv r.kids,iv r.count,uv r.n]
abbrev paX (l : List (List Int)) (r : Rf) : A := .agg (paL l r)
def nwR (r : Rf) : Int := if r.kind = 1 then r.data else if r.kind = 10 then 1 else 0
def wordAt (l : List (List Int)) (r : Rf) (i : Int) : Int := if i < 0∨nwR r≤i then 0 else if r.kind = 10 then r.n else (word l r.s (r.at_ + i)).getD 0
theorem u64_shr (x : Int) (k : Int) (h0 : 0≤k) (h1 : k < 64) : x / 2 ^ (min k.toNat IntKind.u64.bits) = x / 2 ^ k.toNat := by
  have : min k.toNat IntKind.u64.bits = k.toNat := by
    have : IntKind.u64.bits = 64 := rfl
    omega
  rw [this]
set_option maxRecDepth 8000 in
theorem wGet_spec {g : List Int} (hg : ∀ x,x ∈ g→0≤x∧x < 18446744073709551616) (hl : g.length * 8≤140737488355328) (c i : Int) : G.Spec Tryz.prog 166 [uws g,iv c,iv i] (uv (getZ g c i)) := by
  refine spec_of t_word_Get (by simp) fun w0 I0 => ?_
  unfold c_word_Get
  simp
  refine sc_call (width_spec c) rfl ?_
  have hw := widthZ_cases c
  by_cases h0 : widthZ c < 1∨i < 0∨1099511627776 < i
  · have e : getZ g c i = 0 := by unfold getZ; rw [if_pos h0]
    rw [e]
    rcases hw with h | h | h | h | h | h | h
    · simp [h]; exact frz_bare rfl
    · simp [h]; exact frz_bare rfl
    all_goals
      by_cases hi : i < 0
      · simp [h,hi]; exact frz_bare rfl
      · have hb : 1099511627776 < i := by omega
        simp [h,hi,hb]; exact frz_bare rfl
  · have hw1 : widthZ c = 1∨widthZ c = 8∨widthZ c = 16∨widthZ c = 32∨widthZ c = 64 := by omega
    have hi0 : 0≤i := by omega
    have hi1 : i≤1099511627776 := by omega
    have e : getZ g c i = ((g[(i * widthZ c / 64).toNat]?).getD 0) / 2 ^ (i * widthZ c % 64).toNat % 2 ^ (widthZ c).toNat := by unfold getZ; rw [if_neg h0]
    rw [e]
    clear e hw
    generalize widthZ c = w at hw1 h0
    have hn : ¬ w < 0 := by omega
    have hn0 : ¬ w = 0 := by omega
    have hp : 0≤w := by omega
    have hneg : ¬ i < 0 := by omega
    have hbig : ¬ 1099511627776 < i := by omega
    have hb : 0≤i * w∧i * w≤70368744177664 := by rcases hw1 with rfl | rfl | rfl | rfl | rfl <;> omega
    have e1 : IntKind.i64.wrap (i * w) = i * w := i64_same (by omega) (by omega)
    have e2 : IntKind.i64.wrap ((i * w).tdiv 64) = i * w / 64 := by rw [Int.tdiv_eq_ediv_of_nonneg hb.1,i64_same (by omega) (by omega)]
    have e3 : (i * w).tmod 64 = i * w % 64 := Int.tmod_eq_emod_of_nonneg hb.1
    have hm : 0≤i * w % 64 := by omega
    have hm1 : i * w % 64 < 64 := by omega
    have hd0 : 0≤i * w / 64 := by omega
    by_cases hr : (g.length : Int)≤i * w / 64
    · have en : g[(i * w / 64).toNat]? = none := List.getElem?_eq_none (by omega)
      simp [hn,hn0,hp,hneg,hbig,e1,e2,hr,en]
      exact frz_bare rfl
    · have hlt : (i * w / 64).toNat < g.length := by omega
      have hlt' : i * w / 64 < g.length := by omega
      have hx := hg _ (List.getElem_mem hlt)
      simp [hn,hn0,hp,hneg,hbig,e1,e2,e3,hr,hd0,hlt,hlt',hm,u64_shr _ _ hm hm1]
      have hx0 : 0≤g[(i * w / 64).toNat] / 2 ^ (i * w % 64).toNat := Int.ediv_nonneg hx.1 (Int.le_of_lt (Int.pow_pos (by decide)))
      have hx1 : g[(i * w / 64).toNat] / 2 ^ (i * w % 64).toNat < 18446744073709551616 := Int.lt_of_le_of_lt (Int.ediv_le_self _ hx.1) hx.2
      generalize g[(i * w / 64).toNat] / 2 ^ (i * w % 64).toNat = y at hx0 hx1
      refine ⟨fun h => ?_,fun h => ?_⟩
      · refine frz_int ?_
        rw [h]
        exact (Int.emod_eq_of_lt hx0 (by simpa using hx1)).symm
      · refine frz_int ?_
        have em : ∀ k : Nat,k < 64→IntKind.u64.wrap (IntKind.u64.wrap (2 ^ min k IntKind.u64.bits) - 1) = 2 ^ k - 1 := fun k hk => by
          have h64 : min k IntKind.u64.bits = k := by
            have : IntKind.u64.bits = 64 := rfl
            omega
          have hp : (2 : Int) ^ k≤9223372036854775808 := by
            have h2 := Int.ofNat_le.2 (Nat.pow_le_pow_right (n := 2) (by decide) (by omega : k≤63))
            rw [Int.natCast_pow] at h2
            exact h2
          have hp0 : (0 : Int) < 2 ^ k := Int.pow_pos (by decide)
          rw [h64,u64_same (n := 2 ^ k) (by omega) (by omega),u64_same (by omega) (by omega)]
        rw [em w.toNat (by omega)]
        exact u64_mask w.toNat (by omega) hx0 hx1
theorem wWidth_spec (c : Int) : G.Spec Tryz.prog 165 [iv c] (.tup [iv (if widthZ c < 0 then 0 else widthZ c),bv (decide (0≤widthZ c))]) := by
  refine spec_of t_word_Width (by simp) fun w0 I0 => ?_
  unfold c_word_Width
  simp
  refine sc_call (width_spec c) rfl ?_
  simp
  exact frz_bare rfl
theorem tup_bare {cs : List A} {x : Value} (h : cs.all A.bare2 = true) : (A.tup [.agg cs,.v x]).bare = true := by
  simp only [A.bare,List.all_cons,List.all_nil,Bool.and_true]
  rw [h]; rfl
theorem refKind_spec (l : List (List Int)) (r : Rf) : G.Spec Tryz.prog 101 [paX l r] (iv r.kind) := by
  refine spec_of t_reader_Ref_Kind (by simp) fun w0 I0 => ?_
  unfold c_reader_Ref_Kind
  simp
  exact frz_bare rfl
theorem refWords_spec' (l : List (List Int)) (r : Rf) : G.Spec Tryz.prog 137 [paX l r] (iv (nwR r)) := by
  refine spec_of t_reader_Ref_Words (by simp) fun w0 I0 => ?_
  unfold c_reader_Ref_Words
  by_cases h1 : r.kind = 1
  · simp [h1]; exact frz_is rfl (by simp [nwR,h1])
  · by_cases h10 : r.kind = 10
    · simp [h10]; exact frz_is rfl (by simp [nwR,h10])
    · simp [h1,h10]; exact frz_is rfl (by simp [nwR,h1,h10])
theorem refKids_spec' (l : List (List Int)) (r : Rf) : G.Spec Tryz.prog 102 [paX l r] (iv (nk r)) := by
  refine spec_of t_reader_Ref_Kids (by simp) fun w0 I0 => ?_
  unfold c_reader_Ref_Kids
  by_cases h1 : r.kind = 1
  · simp [h1]; exact frz_is rfl (by simp [nk,h1])
  · simp [h1]; exact frz_is rfl (by simp [nk,h1])
theorem hasW_bound {l : List (List Int)} (hs : Sg l) {s a n : Int} (h : hasW l s a n = true) : 0≤a∧0≤n∧a + n≤17592186044416 := by
  obtain ⟨h1,h2,h3,h4,h5,_,h6⟩ := hasW_in h
  have := hs.b _ (List.getElem_mem h5)
  omega
theorem word_spec' {l : List (List Int)} (hs : Sg l) {r : Rf} (hr : RfOk l r) (i : Int) : G.Spec Tryz.prog 145 [paX l r,iv i] (uv (wordAt l r i)) := by
  refine spec_of t_reader_Ref_Word (by simp) fun w0 I0 => ?_
  unfold c_reader_Ref_Word
  simp
  refine sc_call_gf rfl (fun _ => refWords_spec' l r) (fun e => by simp [e]) (by simp) ?_
  by_cases hi : i < 0∨nwR r≤i
  · have hd : (decide (i < 0) || decide (nwR r≤i)) = true := by simpa using hi
    simp [hd]
    exact frz_is rfl (by simp [wordAt,hi])
  · have hd : (decide (i < 0) || decide (nwR r≤i)) = false := by simpa using hi
    simp [hd]
    have e : wordAt l r i = if r.kind = 10 then r.n else (word l r.s (r.at_ + i)).getD 0 := by rw [wordAt,if_neg hi]
    by_cases h10 : r.kind = 10
    · simp [h10]
      exact frz_is rfl (by rw [e,if_pos h10])
    · have h1 : r.kind = 1 := by
        cases hr <;> simp [nwR,Rf.zero] at hi h10 ⊢ <;> omega
      simp [h10]
      rw [e,if_neg h10,arO_nz (by omega)]
      have hb : IntKind.i64.wrap (r.at_ + i) = r.at_ + i := by
        cases hr with
        | str s a d k a1 a2 a3 a4 h =>
          have := hasW_bound hs h
          simp [nwR] at hi ⊢
          exact i64_same (by omega) (by omega)
        | _ => simp [Rf.zero] at h1 <;> omega
      rw [hb]
      refine sc_call (get_spec l hs.b r.s (r.at_ + i)) rfl ?_
      simp
      exact frz_bare rfl
theorem comp_spec {l : List (List Int)} (hs : Sg l) (s a n : Int) (ha : 0≤a) (ha1 : a≤17592186044416) : G.Spec Tryz.prog 136 [.agg [arn l,iv 0,iv s,iv a,iv 0,iv 0,iv 0,uv 0],iv n] (.tup [paX l (compP l s a n).1,iv (compP l s a n).2]) := by
  have h0 : 0≤(word l s a).getD 0∧(word l s a).getD 0 < 18446744073709551616 := by
    cases e : word l s a with
    | none => simp
    | some x => exact word_in hs.w e
  refine spec_of t_reader_Ref_composite (by simp) fun w0 I0 => ?_
  unfold c_reader_Ref_composite
  simp
  refine sc_call (get_spec l hs.b s a) rfl ?_
  simp
  unfold compP
  generalize (word l s a).getD 0 = w at h0
  refine sc_call (Decode_spec h0.1 h0.2) rfl ?_
  have hsh := dec_shp h0.1 h0.2
  have ho := dec_off h0.1 h0.2
  have hdp : 0≤(dec w).data∧(dec w).data < 65536∧0≤(dec w).ptrs∧(dec w).ptrs < 65536 := by
    unfold dec
    repeat' split
    all_goals simp
    all_goals omega
  generalize dec w = p at hsh ho hdp
  have hb : -70368744177664≤p.off * (p.data + p.ptrs)∧p.off * (p.data + p.ptrs)≤70368744177664 := by
    have b1 : p.off * (p.data + p.ptrs)≤536870912 * (p.data + p.ptrs) := Int.mul_le_mul_of_nonneg_right (by omega) (by omega)
    have b2 : -536870912 * (p.data + p.ptrs)≤p.off * (p.data + p.ptrs) := Int.mul_le_mul_of_nonneg_right (by omega) (by omega)
    omega
  have e1 : IntKind.i64.wrap (p.data + p.ptrs) = p.data + p.ptrs := i64_same (by omega) (by omega)
  have e2 : IntKind.i64.wrap (p.off * (p.data + p.ptrs)) = p.off * (p.data + p.ptrs) := i64_same (by omega) (by omega)
  have e3 : IntKind.i64.wrap (a + 1) = a + 1 := i64_same (by omega) (by omega)
  by_cases hc : (w ≠ 0∧p.kind ≠ 1)∨p.off < 0∨n < p.off * (p.data + p.ptrs)
  · have hd : (((!decide (w = 0) && !decide (p.kind = 1)) || decide (p.off < 0)) || decide (n < p.off * (p.data + p.ptrs))) = true := by simp; omega
    rw [if_pos hc]
    simp [e1,e2,hd]
    exact frz_is (tup_bare (by simp)) (by simp [Rf.zero,arO])
  · have hd : (((!decide (w = 0) && !decide (p.kind = 1)) || decide (p.off < 0)) || decide (n < p.off * (p.data + p.ptrs))) = false := by simp; omega
    rw [if_neg hc]
    simp [e1,e2,e3,hd]
    exact frz_is (tup_bare (by simp)) (by simp [arO])
theorem at_spec {l : List (List Int)} (hs : Sg l) (s a : Int) : G.Spec Tryz.prog 100 [arn l,iv s,iv a] (.tup [paX l (atP l s a).1,iv (atP l s a).2]) := by
  have hf := follow_folw hs.w s a
  refine spec_of t_reader_At (by simp) fun w0 I0 => ?_
  unfold c_reader_At
  simp
  refine sc_call (follow_spec l hs.b hs.w s a) rfl ?_
  unfold atP
  generalize followP l s a = x at hf
  obtain ⟨x,e⟩ := x
  unfold Folw at hf
  simp only at hf ⊢
  by_cases hc : e ≠ 0∨x.p.kind = 0
  · have hd : (!decide (e = 0) || decide (x.p.kind = 0)) = true := by simp; omega
    simp [hd,hc]
    exact frz_is (tup_bare (by simp)) (by simp [Rf.zero,arO])
  · have hd : (!decide (e = 0) || decide (x.p.kind = 0)) = false := by simp; omega
    have he : e = 0 := by omega
    obtain h0 | ⟨hk,hsh,hw⟩ := hf he
    · omega
    have hbd := hasW_bound hs hw
    rw [if_neg hc]
    simp [hd]
    unfold refP
    by_cases k1 : x.p.kind = 1
    · simp [k1]
      exact frz_is (tup_bare (by simp)) (by simp [arO])
    · have k2 : x.p.kind = 2 := by omega
      obtain ⟨c0,c1,_,_⟩ := hsh.k2 k2
      by_cases c6 : x.p.code < 6
      · have e2 : IntKind.i64.wrap (2 + x.p.code) = 2 + x.p.code := i64_same (by omega) (by omega)
        have c7 : x.p.code < 7 := by omega
        have nz : ¬ (2 + x.p.code = 0) := by omega
        simp [k1,c6,c7,e2]
        exact ⟨frz_is (tup_bare (by simp)) (by simp [arO,nz]),fun h => absurd h (by omega)⟩
      · by_cases c6' : x.p.code = 6
        · simp [k1,c6']
          exact frz_is (tup_bare (by simp)) (by simp [arO])
        · have c7 : ¬ x.p.code < 7 := by omega
          simp [k1,c6,c6',c7]
          intro _
          refine sc_call (comp_spec hs x.s x.at_ x.p.count hbd.1 (by omega)) rfl ?_
          simp
          exact frz_bare (tup_bare (by simp))
theorem root_spec {l : List (List Int)} (hs : Sg l) : G.Spec Tryz.prog 64 [arn l] (.tup [paX l (atP l 0 0).1,iv (atP l 0 0).2]) := by
  refine spec_of t_reader_Root (by simp) fun w0 I0 => ?_
  unfold c_reader_Root
  simp
  refine sc_call (at_spec hs 0 0) rfl ?_
  simp
  exact frz_bare (tup_bare (by simp))
end Go.Proofs.YthfiijdbnkaabaaGreat

namespace Go.Proofs.YthfiijdbnkaabaaGreat
set_option linter.unusedVariables false
set_option linter.unusedSimpArgs false
open Go Go.G Go.Proofs Go.PL
theorem word_drop {l : List (List Int)} {s a : Int} (ha : 0≤a) (k : Nat) : ((((seg l s).getD []).drop a.toNat)[k]?).getD 0 = (word l s (a + k)).getD 0 := by
  unfold word
  rw [if_pos (by omega)]
  cases seg l s with
  | none => simp
  | some g =>
    simp only [Option.getD_some,Option.bind_some,List.getElem?_drop]
    have : a.toNat + k = (a + k).toNat := by omega
    rw [this]
theorem atom_spec {l : List (List Int)} (hs : Sg l) {c s a n : Int} (c0 : 0≤c) (c6 : c < 6) (n0 : 0≤n) (n1 : n < 536870912) (h : hasW l s a ((n * bitsOf c + 63) / 64) = true) {i : Int} (i0 : 0≤i) (i1 : i < n) :
    G.Spec Tryz.prog 158 [paX l ⟨2 + c,s,a,0,0,n,0⟩,iv i] (uv (atomZ l ⟨2 + c,s,a,0,0,n,0⟩ i)) := by
  have hb := hasW_bound hs h
  have e2 : IntKind.i64.wrap c = c := i64_same (by omega) (by omega)
  have nz : ¬ (2 + c = 0) := by omega
  have key : ∀ w per : Int,widthZ c = w→w * per = 64→(w = 1∨w = 8∨w = 16∨w = 32∨w = 64)→getZ [(word l s (a + i / per)).getD 0] c (i % per) = atomZ l ⟨2 + c,s,a,0,0,n,0⟩ i := fun w per hw hp hw' => by
    unfold atomZ getZ
    simp only [show 2 + c - 2 = c by omega,hw]
    have hk : (i % per * w / 64).toNat = 0∧i % per * w % 64 = i * w % 64∧i * w / 64 = i / per∧¬ (i % per < 0)∧¬ 1099511627776 < i % per := by
      rcases hw' with rfl | rfl | rfl | rfl | rfl
      · have : per = 64 := by omega
        subst this; omega
      · have : per = 8 := by omega
        subst this; omega
      · have : per = 4 := by omega
        subst this; omega
      · have : per = 2 := by omega
        subst this; omega
      · have : per = 1 := by omega
        subst this; omega
    obtain ⟨k1,k2,k3,k4,k5⟩ := hk
    rw [if_neg (by omega),if_neg (by omega),k1,k2,k3]
    have hd0 : 0≤i / per := by rw [← k3]; rcases hw' with rfl | rfl | rfl | rfl | rfl <;> omega
    have := word_drop (l := l) (s := s) (a := a) hb.1 (i / per).toNat
    rw [show ((i / per).toNat : Int) = i / per by omega] at this
    rw [this]
    simp
  have e2' : IntKind.i64.wrap (2 + c - 2) = c := by rw [i64_same (by omega) (by omega)]; omega
  have hw64 : ∀ x : Int,0≤(word l s x).getD 0∧(word l s x).getD 0 < 18446744073709551616 := fun x => by
    cases e : word l s x with
    | none => simp
    | some y => exact word_in hs.w e
  refine spec_of t_reader_Ref_atom (by simp) fun w0 I0 => ?_
  unfold c_reader_Ref_atom
  simp [e2']
  refine sc_call (wWidth_spec c) rfl ?_
  by_cases hc0 : c = 0
  · subst hc0
    simp [widthZ]
    exact frz_is rfl (by simp [atomZ,getZ,widthZ])
  have hx : ∃ w per : Int,widthZ c = w∧w * per = 64∧(w = 1∨w = 8∨w = 16∨w = 32∨w = 64)∧(per = 64∨per = 8∨per = 4∨per = 2∨per = 1)∧IntKind.i64.wrap ((64 : Int).tdiv w) = per := by
    have hc : c = 1∨c = 2∨c = 3∨c = 4∨c = 5 := by omega
    rcases hc with rfl | rfl | rfl | rfl | rfl
    · exact ⟨1,64,rfl,rfl,by omega,by omega,by decide⟩
    · exact ⟨8,8,rfl,rfl,by omega,by omega,by decide⟩
    · exact ⟨16,4,rfl,rfl,by omega,by omega,by decide⟩
    · exact ⟨32,2,rfl,rfl,by omega,by omega,by decide⟩
    · exact ⟨64,1,rfl,rfl,by omega,by omega,by decide⟩
  obtain ⟨w,per,hw,hp,hw',hper,ep⟩ := hx
  have hk := key w per hw hp hw'
  have wn : ¬ w < 0 := by omega
  have wz : ¬ w = 0 := by omega
  have pz : ¬ per = 0 := by omega
  have hq : 0≤i / per∧i / per≤i := by rcases hper with rfl | rfl | rfl | rfl | rfl <;> omega
  have hm : 0≤i % per := Int.emod_nonneg _ pz
  have e3 : IntKind.i64.wrap (i.tdiv per) = i / per := by rw [Int.tdiv_eq_ediv_of_nonneg i0,i64_same (by omega) (by omega)]
  have e4 : IntKind.i64.wrap (a + i / per) = a + i / per := i64_same (by omega) (by omega)
  have e5 : i.tmod per = i % per := Int.tmod_eq_emod_of_nonneg i0
  simp [hw,wn,wz,ep,pz,e3,e4,arO,nz]
  refine sc_call (get_spec l hs.b s (a + i / per)) rfl ?_
  simp [pz,e5]
  have hx := hw64 (a + i / per)
  refine sc_call ((wGet_spec (g := [(word l s (a + i / per)).getD 0]) (fun x hx' => by simp at hx'; rw [hx']; exact hx) (by simp) c (i % per)).soft (by simp [A.softL,A.soft])) rfl ?_
  simp
  rw [hk]
  exact frz_bare rfl
theorem kid_spec {l : List (List Int)} (hs : Sg l) {r : Rf} (hr : RfOk l r) (i : Int) : G.Spec Tryz.prog 139 [paX l r,iv i] (.tup [paX l (kidP l r i).1,iv (kidP l r i).2]) := by
  refine spec_of t_reader_Ref_Kid (by simp) fun w0 I0 => ?_
  unfold c_reader_Ref_Kid
  simp
  refine sc_call_gf rfl (fun _ => refKids_spec' l r) (fun e => by simp [e]) (by simp) ?_
  by_cases hi : i < 0∨nk r≤i
  · have hd : (decide (i < 0) || decide (nk r≤i)) = true := by simpa using hi
    simp [hd]
    exact frz_is (tup_bare (by simp)) (by simp [kidP,hi,Rf.zero,arO])
  · have hd : (decide (i < 0) || decide (nk r≤i)) = false := by simpa using hi
    have hi0 : 0≤i := by omega
    have hi1 : i < nk r := by omega
    have hk := nk_nonneg hr
    rw [kidP,if_neg hi]
    cases hr with
    | zero => simp [nk,Rf.zero] at hi1; omega
    | str s a d k a1 a2 a3 a4 h =>
      have hb := hasW_bound hs h
      have e1 : IntKind.i64.wrap (IntKind.i64.wrap (a + d) + i) = a + d + i := by
        rw [i64_same (n := a + d) (by omega) (by omega),i64_same (by omega) (by omega)]
      simp [hd,arO,e1]
      refine sc_call (at_spec hs s (a + d + i)) rfl ?_
      simp
      exact frz_bare (tup_bare (by simp))
    | dat c s a n a1 a2 a3 a4 h =>
      have n0 : ¬ (2 + c = 0) := by omega
      have n1 : ¬ (2 + c = 1) := by omega
      have n8 : ¬ (2 + c = 8) := by omega
      have n9 : ¬ (2 + c = 9) := by omega
      have hn : i < n := by simpa [nk,n1] using hi1
      have := atom_spec hs a1 a2 a3 a4 h hi0 hn
      simp [hd,n1,n8,n9]
      refine sc_call this (by simp) ?_
      simp
      exact frz_is (tup_bare (by simp)) (by simp [arO,n0])
    | ptrs s a n a1 a2 h =>
      have hb := hasW_bound hs h
      have e1 : IntKind.i64.wrap (a + i) = a + i := i64_same (by omega) (by omega)
      simp [hd,arO,e1]
      refine sc_call (at_spec hs s (a + i)) rfl ?_
      simp
      exact frz_bare (tup_bare (by simp))
    | comp s a d k n a1 a2 a3 a4 a5 a6 h =>
      have hb := hasW_bound hs h
      have hn : i < n := by simpa [nk] using hi1
      have m1 : 0≤i * (d + k) := Int.mul_nonneg hi0 (by omega)
      have m2 : i * (d + k)≤n * (d + k) := mul_le_of (by omega) (by omega)
      have e1 : IntKind.i64.wrap (d + k) = d + k := i64_same (by omega) (by omega)
      have e2 : IntKind.i64.wrap (i * (d + k)) = i * (d + k) := i64_same (by omega) (by omega)
      have e3 : IntKind.i64.wrap (a + i * (d + k)) = a + i * (d + k) := i64_same (by omega) (by omega)
      simp [hd,arO,e1,e2,e3]
      exact frz_is (tup_bare (by simp)) (by simp [arO])
    | atom n a1 a2 => simp [nk] at hi1; omega
theorem means_word {l : List (List Int)} {r : Rf} {t : T} (h : Means l r t) : nwR r = t.words.length∧∀ (i : Nat) (hi : i < t.words.length),wordAt l r i = t.words[i] := by
  cases h with
  | mk _ _ hr hk hw hn he hm =>
    have hl : nwR r = (wordsR l r).length := by
      cases hr with
      | str s a d k a1 a2 a3 a4 h =>
        obtain ⟨h1,h2,h3,h4,h5,e,h6⟩ := hasW_in h
        simp [nwR,wordsR,part,e]
        omega
      | dat c s a n a1 a2 a3 a4 h =>
        have : ¬ (2 + c = 10) := by omega
        have h1 : ¬ (2 + c = 1) := by omega
        simp [nwR,wordsR,this,h1]
      | _ => simp [nwR,wordsR,Rf.zero]
    rw [← hw]
    refine ⟨hl,fun i hi => ?_⟩
    have hi' : (i : Int) < nwR r := by rw [hl]; omega
    rw [wordAt,if_neg (by omega)]
    cases hr with
    | str s a d k a1 a2 a3 a4 h =>
      obtain ⟨h1,h2,h3,h4,h5,e,h6⟩ := hasW_in h
      simp [wordsR,part,e]
      have := word_drop (l := l) (s := s) (a := a) h3 i
      rw [e] at this
      simp at this
      rw [← this,List.getElem?_eq_getElem (by simp [nwR] at hi'; omega)]
      simp
    | atom n a1 a2 =>
      simp [wordsR] at hi ⊢
    | dat c s a n a1 a2 a3 a4 h =>
      have : ¬ (2 + c = 10) := by omega
      have h1 : ¬ (2 + c = 1) := by omega
      simp [nwR,this,h1] at hi'
      omega
    | _ => simp [nwR,Rf.zero] at hi' <;> omega
theorem means_ok {l : List (List Int)} {r : Rf} {t : T} (h : Means l r t) : RfOk l r := by cases h; assumption
theorem means_kind {l : List (List Int)} {r : Rf} {t : T} (h : Means l r t) : r.kind = t.kind := by cases h; assumption
theorem means_nk {l : List (List Int)} {r : Rf} {t : T} (h : Means l r t) : nk r = t.kids.length := by cases h; assumption
theorem means_kid {l : List (List Int)} {r : Rf} {t : T} (h : Means l r t) {i : Nat} (hi : i < t.kids.length) : (kidP l r i).2 = 0∧Means l (kidP l r i).1 t.kids[i] := by
  cases h with
  | mk _ _ hr hk hw hn he hm => exact ⟨he i hi,hm i hi⟩
end Go.Proofs.YthfiijdbnkaabaaGreat

namespace Go.Proofs.YthfiijdbnkaabaaGreat
set_option linter.unusedVariables false
set_option linter.unusedSimpArgs false
open Go Go.G Go.Proofs Go.PL
theorem means_bare {l : List (List Int)} {r : Rf} {t : T} (h : Means l r t) : Bare t := fun h0 => by
  have hk := means_kind h
  have hw := (means_word h).1
  have hn := means_nk h
  have hr := means_ok h
  rw [h0] at hk
  have : nwR r = 0∧nk r = 0 := by
    cases hr <;> simp [nwR,nk,Rf.zero] at hk ⊢ <;> omega
  exact ⟨List.eq_nil_of_length_eq_zero (by omega),List.eq_nil_of_length_eq_zero (by omega)⟩
theorem means_len {l : List (List Int)} {r : Rf} {t : T} (h : Means l r t) : t.words.length≤65536∧t.kids.length < 536870912 := by
  have hw := (means_word h).1
  have hn := means_nk h
  have hr := means_ok h
  have := nk_nonneg hr
  have : nwR r≤65536 := by
    cases hr <;> simp [nwR,Rf.zero] <;> (try split) <;> omega
  omega
section
variable {n0 : Nat} {w0 : World} {I0 : Nat→Prop} {Q : Exit→Sta→Prop} {H : Hp}
end
section
variable {n0 : Nat} {w0 : World} {I0 : Nat→Prop} {Q : Exit→Sta→Prop} {H : Hp}
end
section
variable {n0 : Nat} {w0 : World} {I0 : Nat→Prop} {Q : Exit→Sta→Prop}
end
end Go.Proofs.YthfiijdbnkaabaaGreat

namespace Go.Proofs.YthfiijdbnkaabaaGreat
set_option linter.unusedVariables false
set_option linter.unusedSimpArgs false
set_option maxRecDepth 20000
open Go Go.G Go.Proofs
@[simp] theorem und_26 : Tryz.prog.underlying 26 = some (.slice 63) := by kernel_rfl
@[simp] theorem und_27 : Tryz.prog.underlying 27 = some (.slice 66) := by kernel_rfl
@[simp] theorem und_28 : Tryz.prog.underlying 28 = some (.slice 69) := by kernel_rfl
@[simp] theorem szT_26 : szT Tryz.prog 26 = some 1 := by kernel_rfl
@[simp] theorem szT_27 : szT Tryz.prog 27 = some 1 := by kernel_rfl
@[simp] theorem szT_28 : szT Tryz.prog 28 = some 1 := by kernel_rfl
@[simp] theorem szT_30 : szT Tryz.prog 30 = some 11 := by kernel_rfl
@[simp] theorem szT_63 : szT Tryz.prog 63 = some 4 := by kernel_rfl
@[simp] theorem szT_66 : szT Tryz.prog 66 = some 12 := by kernel_rfl
@[simp] theorem szT_69 : szT Tryz.prog 69 = some 14 := by kernel_rfl
@[simp] theorem aggT_26 : aggT Tryz.prog 26 = some false := by kernel_rfl
@[simp] theorem aggT_27 : aggT Tryz.prog 27 = some false := by kernel_rfl
@[simp] theorem aggT_28 : aggT Tryz.prog 28 = some false := by kernel_rfl
@[simp] theorem aggT_30 : aggT Tryz.prog 30 = some true := by kernel_rfl
@[simp] theorem aggT_63 : aggT Tryz.prog 63 = some true := by kernel_rfl
@[simp] theorem aggT_66 : aggT Tryz.prog 66 = some true := by kernel_rfl
@[simp] theorem aggT_69 : aggT Tryz.prog 69 = some true := by kernel_rfl
@[simp] theorem zeroT_63 : zeroT Tryz.prog 63 = some (Value.agg #[Value.int IntKind.i64 0,Value.int IntKind.u8 0,Value.int IntKind.u64 0,Value.int IntKind.u64 0]) := by kernel_rfl
@[simp] theorem zeroT_66 : zeroT Tryz.prog 66 = some (Value.agg #[Value.int IntKind.i64 0,Value.int IntKind.i64 0,Value.int IntKind.i64 0,Value.slice none 0 0,Value.slice none 0 0,Value.int IntKind.i64 0,Value.slice none 0 0,Value.slice none 0 0,Value.slice none 0 0,Value.slice none 0 0,Value.int IntKind.i64 0,Value.slice none 0 0]) := by kernel_rfl
@[simp] theorem zeroT_69 : zeroT Tryz.prog 69 = some (Value.agg #[Value.int IntKind.i64 0,Value.int IntKind.i64 0,Value.slice none 0 0,Value.int IntKind.i64 0,Value.int IntKind.i64 0,Value.slice none 0 0,Value.slice none 0 0,Value.int IntKind.i64 0,Value.slice none 0 0,Value.slice none 0 0,Value.slice none 0 0,Value.slice none 0 0,Value.int IntKind.i64 0,Value.slice none 0 0]) := by kernel_rfl
@[simp] theorem bytesT_63 : bytesT Tryz.prog 63 = some 32 := by kernel_rfl
@[simp] theorem bytesT_66 : bytesT Tryz.prog 66 = some 208 := by kernel_rfl
@[simp] theorem bytesT_69 : bytesT Tryz.prog 69 = some 240 := by kernel_rfl
@[simp] theorem fieldOffT_30_0 : fieldOffT Tryz.prog 30 0 = some 0 := by kernel_rfl
@[simp] theorem fieldOffT_30_1 : fieldOffT Tryz.prog 30 1 = some 1 := by kernel_rfl
@[simp] theorem fieldOffT_30_2 : fieldOffT Tryz.prog 30 2 = some 4 := by kernel_rfl
@[simp] theorem fieldOffT_30_3 : fieldOffT Tryz.prog 30 3 = some 7 := by kernel_rfl
@[simp] theorem fieldOffT_30_4 : fieldOffT Tryz.prog 30 4 = some 8 := by kernel_rfl
@[simp] theorem fieldOffT_30_5 : fieldOffT Tryz.prog 30 5 = some 9 := by kernel_rfl
@[simp] theorem fieldOffT_30_6 : fieldOffT Tryz.prog 30 6 = some 10 := by kernel_rfl
@[simp] theorem fieldOffT_63_0 : fieldOffT Tryz.prog 63 0 = some 0 := by kernel_rfl
@[simp] theorem fieldOffT_63_1 : fieldOffT Tryz.prog 63 1 = some 1 := by kernel_rfl
@[simp] theorem fieldOffT_63_2 : fieldOffT Tryz.prog 63 2 = some 2 := by kernel_rfl
@[simp] theorem fieldOffT_63_3 : fieldOffT Tryz.prog 63 3 = some 3 := by kernel_rfl
@[simp] theorem fieldOffT_66_0 : fieldOffT Tryz.prog 66 0 = some 0 := by kernel_rfl
@[simp] theorem fieldOffT_66_1 : fieldOffT Tryz.prog 66 1 = some 1 := by kernel_rfl
@[simp] theorem fieldOffT_69_0 : fieldOffT Tryz.prog 69 0 = some 0 := by kernel_rfl
@[simp] theorem fieldOffT_69_1 : fieldOffT Tryz.prog 69 1 = some 1 := by kernel_rfl
@[simp] theorem fieldOffT_69_2 : fieldOffT Tryz.prog 69 2 = some 2 := by kernel_rfl
@[simp] theorem fieldOffT_69_3 : fieldOffT Tryz.prog 69 3 = some 3 := by kernel_rfl
@[simp] theorem buildA_30 (ps : List (Nat × A)) : buildA Tryz.prog 30 ps = (fillA (fun i => ([(0,1),(1,3),(4,3),(7,1),(8,1),(9,1),(10,1)] : List (Nat × Nat))[i]?) [A.v (Value.int IntKind.i64 0),A.v (Value.int IntKind.i64 0),A.sl true [],A.sl true [],A.v (Value.int IntKind.i64 0),A.sl true [],A.sl true [],A.sl true [],A.sl true [],A.v (Value.int IntKind.i64 0),A.sl true []] ps).map A.agg := by kernel_rfl
def c_centoref20_none : CC := sR [oN 1 (.box 25 (xT 0)) [0],oO 2 (.assign (nB false))] [1] (sR [fO 3 25 1 0,lO 4 3 3,oO 5 (.binOp .eql 3 (xT 4) (nI 0) 3),mO 6 5,oG 7 (fA 25 1 1) 6 true,oG 8 (lD 22 7) 6 true,oG 9 (bL 8 22) 6 true,oG 10 (fA 25 1 2) 6 true,oG 11 (lD 23 10) 6 true,oG 12 (bL 11 23) 6 true,oG 13 (bO .add 3 9 12 3) 6 true,oG 14 (.binOp .eql 3 (xT 13) (nI 0) 3) 6 true,oO 15 (.pick (xT 6) (xT 14) (nB false)),aO 2 15] [2] (.ret))
theorem t_centoref20_none : Txt Tryz.prog 49 16 [(.tmp 2)] c_centoref20_none := txt_of (code := Tryz.f49.body.getD .ret) mixed (by kernel_rfl) Tryz.func49 (by kernel_rfl) Tryz.ntmps49 (by kernel_rfl) (ls := lsOf c_centoref20_none) (by kernel_rfl)
def c_centoref20_within : CC := sR [oO 4 (.assign (nB false))] [0,1] (sR [mO 5 0,mO 6 1,oO 7 (cL 78 #[(xT 5),(.const (.int .u64 0)),(xT 6)] #[60,60,5]),oO 8 (.binOp .eql 60 (xT 7) (.const (.int .u64 0)) 60),aO 4 8] [4] (.ret))
theorem t_centoref20_within : Txt Tryz.prog 50 9 [(.tmp 4)] c_centoref20_within := txt_of (code := Tryz.f50.body.getD .ret) mixed (by kernel_rfl) Tryz.func50 (by kernel_rfl) Tryz.ntmps50 (by kernel_rfl) (ls := lsOf c_centoref20_within) (by kernel_rfl)
def c_centoref20_same : CC := sR [oN 1 (.box 30 (xT 0)) [0],oO 2 (.assign (nB false))] [1] (sR [fO 3 30 1 0,lO 4 3 3,oO 5 (.binOp .eql 3 (xT 4) (nI 0) 3),mO 6 5,oG 7 (fA 30 1 1) 6 true,oG 8 (lD 25 7) 6 true,oG 9 (cL 49 #[(xT 8)] #[25]) 6 true,oO 10 (.pick (xT 6) (xT 9) (nB false)),mO 11 10,oG 12 (fA 30 1 2) 11 true,oG 13 (lD 25 12) 11 true,oG 14 (cL 49 #[(xT 13)] #[25]) 11 true,oO 15 (.pick (xT 11) (xT 14) (nB false)),mO 16 15,oG 17 (fA 30 1 3) 16 true,oG 18 (lD 26 17) 16 true,oG 19 (bL 18 26) 16 true,oG 20 (fA 30 1 4) 16 true,oG 21 (lD 27 20) 16 true,oG 22 (bL 21 27) 16 true,oG 23 (bO .add 3 19 22 3) 16 true,oG 24 (fA 30 1 6) 16 true,oG 25 (lD 28 24) 16 true,oG 26 (bL 25 28) 16 true,oG 27 (bO .add 3 23 26 3) 16 true,oG 28 (.binOp .eql 3 (xT 27) (nI 0) 3) 16 true,oO 29 (.pick (xT 16) (xT 28) (nB false)),mO 30 29,oG 31 (fA 30 1 5) 30 true,oG 32 (lD 3 31) 30 true,oG 33 (.binOp .eql 3 (xT 32) (nI 0) 3) 30 true,oO 34 (.pick (xT 30) (xT 33) (nB false)),aO 2 34] [2] (.ret))
theorem t_centoref20_same : Txt Tryz.prog 79 35 [(.tmp 2)] c_centoref20_same := txt_of (code := Tryz.f79.body.getD .ret) mixed (by kernel_rfl) Tryz.func79 (by kernel_rfl) Tryz.ntmps79 (by kernel_rfl) (ls := lsOf c_centoref20_same) (by kernel_rfl)
def l1_centoref20_op : CC := .seq (sR [mO 46 7,fO 47 69 4 2,lO 48 23 47,oO 49 (bL 48 23),oO 50 (bO .lss 3 46 49 3)] [0,4,7,50] (cD 50 (.skip) (.exit 0))) (.keep [0,4,7] (.seq (.block 1 (sR [mO 53 0,fO 54 69 4 2,lO 55 23 54,mO 56 7,mO 57 7,oO 58 (.binOp .add 3 (xT 57) (nI 1) 3),oO 59 (.slice 23 (xT 55) (some (xT 56)) (some (xT 58)) none),oO 60 (.build 25 #[(0,(xT 53)),(2,(xT 59))]),oO 61 (cL 17 #[(xT 60),(nI 64)] #[25,3]),oO 62 (.unOp .not 4 (xT 61))] [0,4,7,62] (cD 62 (sR [oO 6 (.assign (nB false))] [6] (.ret)) (.skip)))) (.keep [0,4,7] (.reg [mO 51 7,oO 52 (.binOp .add 3 (xT 51) (nI 1) 3),aO 7 52] [0,4,7])))) 
def c_centoref20_op : CC := sR [oN 4 (.box 69 (xT 1)) [0],oO 6 (.assign (nB false))] [0,2,4] (.seq (sR [fO 8 69 4 0,lO 9 3 8,oO 10 (.binOp .eql 3 (xT 9) (nI 0) 3)] [0,2,4,10] (cD 10 (sR [fO 11 69 4 1,lO 12 3 11,oO 13 (.binOp .geq 3 (xT 12) (nI 1) 3),mO 14 13,oG 15 (fA 69 4 1) 14 true,oG 16 (lD 3 15) 14 true,oG 17 (.binOp .leq 3 (xT 16) (nI 1048576) 3) 14 true,oO 18 (.pick (xT 14) (xT 17) (nB false)),mO 19 18,oG 20 (fA 69 4 2) 19 true,oG 21 (lD 23 20) 19 true,oG 22 (bL 21 23) 19 true,oG 23 (.binOp .eql 3 (xT 22) (nI 0) 3) 19 true,oO 24 (.pick (xT 19) (xT 23) (nB false)),mO 25 24,oG 26 (fA 69 4 3) 25 true,oG 27 (lD 30 26) 25 true,oG 28 (cL 79 #[(xT 27)] #[30]) 25 true,oO 29 (.pick (xT 25) (xT 28) (nB false)),aO 6 29] [6] (.ret)) (.skip))) (.keep [0,2,4] (.seq (sR [fO 30 69 4 1,lO 31 3 30,oO 32 (.binOp .neq 3 (xT 31) (nI 0) 3),mO 33 32,oG 34 (fA 69 4 0) 33 false,oG 35 (lD 3 34) 33 false,oG 36 (.binOp .lss 3 (xT 35) (nI 0) 3) 33 false,oO 37 (.pick (xT 33) (nB true) (xT 36)),mO 38 37,oG 39 (fA 69 4 0) 38 false,oG 40 (lD 3 39) 38 false,oG 41 (.binOp .gtr 3 (xT 40) (nI 3) 3) 38 false,oO 42 (.pick (xT 38) (nB true) (xT 41))] [0,2,4,42] (cD 42 (sR [oO 6 (.assign (nB false))] [6] (.ret)) (.skip))) (.keep [0,2,4] (.seq (sR [fO 43 69 4 0,lO 44 3 43,oO 45 (.binOp .lss 3 (xT 44) (nI 3) 3)] [0,2,4,45] (cD 45 (.seq (sR [oO 7 (.assign (nI 0))] [0,4,7] (.block 0 (.loop l1_centoref20_op))) (.keep [4] (sR [fO 63 69 4 2,lO 64 23 63,oO 65 (bL 64 23),oO 66 (.binOp .gtr 3 (xT 65) (nI 0) 3),mO 67 66,oG 68 (fA 69 4 3) 67 true,oG 69 (lD 30 68) 67 true,oG 70 (cL 79 #[(xT 69)] #[30]) 67 true,oO 71 (.pick (xT 67) (xT 70) (nB false)),aO 6 71] [6] (.ret)))) (.skip))) (.keep [0,2,4] (.seq (sR [fO 72 69 4 2,lO 73 23 72,oO 74 (bL 73 23),oO 75 (.binOp .gtr 3 (xT 74) (nI 0) 3),mO 76 75,oG 77 (fA 69 4 3) 76 false,oG 78 (fA 30 77 0) 76 false,oG 79 (lD 3 78) 76 false,oG 80 (.binOp .eql 3 (xT 79) (nI 0) 3) 76 false,oO 81 (.pick (xT 76) (nB true) (xT 80)),mO 82 81,oG 83 (mV 0) 82 false,oG 84 (.binOp .leq 3 (xT 83) (nI 7) 3) 82 false,oO 85 (.pick (xT 82) (nB true) (xT 84)),mO 86 85,oG 87 (fA 69 4 3) 86 false,oG 88 (lD 30 87) 86 false,oG 89 (mV 2) 86 false,oG 90 (cL 23 #[(xT 88),(xT 89)] #[30,3]) 86 false,oG 91 (.unOp .not 4 (xT 90)) 86 false,oO 92 (.pick (xT 86) (nB true) (xT 91))] [0,4,92] (cD 92 (sR [oO 6 (.assign (nB false))] [6] (.ret)) (.skip))) (.keep [0,4] (sR [mO 93 0,oO 94 (.binOp .eql 3 (xT 93) (nI 8) 3),mO 95 94,oG 96 (fA 69 4 3) 95 false,oG 97 (fA 30 96 0) 95 false,oG 98 (lD 3 97) 95 false,oG 99 (.binOp .eql 3 (xT 98) (nI 2) 3) 95 false,oO 100 (.pick (xT 95) (nB true) (xT 99)),mO 101 100,oG 102 (fA 69 4 3) 101 false,oG 103 (fA 30 102 0) 101 false,oG 104 (lD 3 103) 101 false,oG 105 (.binOp .eql 3 (xT 104) (nI 1) 3) 101 false,oG 106 (mV 105) 101 false,oG 107 (fA 69 4 3) 106 true,oG 108 (fA 30 107 1) 106 true,oG 109 (fA 25 108 0) 106 true,oG 110 (lD 3 109) 106 true,oG 111 (.binOp .eql 3 (xT 110) (nI 1) 3) 106 true,oG 112 (.pick (xT 106) (xT 111) (nB false)) 101 false,oG 113 (mV 112) 101 false,oG 114 (fA 69 4 3) 113 true,oG 115 (fA 30 114 2) 113 true,oG 116 (fA 25 115 0) 113 true,oG 117 (lD 3 116) 113 true,oG 118 (.binOp .eql 3 (xT 117) (nI 1) 3) 113 true,oG 119 (.pick (xT 113) (xT 118) (nB false)) 101 false,oO 120 (.pick (xT 101) (nB true) (xT 119)),aO 6 120] [6] (.ret))))))))))
theorem t_centoref20_op : Txt Tryz.prog 51 121 [(.tmp 6)] c_centoref20_op := txt_of (code := Tryz.f51.body.getD .ret) mixed (by kernel_rfl) Tryz.func51 (by kernel_rfl) Tryz.ntmps51 (by kernel_rfl) (ls := lsOf c_centoref20_op) (by kernel_rfl)
def l1_centoref20_Right : CC := .seq (sR [mO 93 6,fO 94 30 2 3,lO 95 26 94,oO 96 (bL 95 26),oO 97 (bO .lss 3 93 96 3)] [1,2,5,6,97] (cD 97 (.skip) (.exit 0))) (.keep [1,2,5,6] (.seq (.block 1 (sR [fO 100 30 2 3,lO 101 26 100,mO 102 6,oO 103 (iA 26 101 102),lO 104 63 103,oN 7 (.alloc 63) [1],oS (.store 63 (xT 7) (xT 104))] [1,2,5,6,7] (.seq (sR [fO 105 63 7 0,lO 106 3 105,mO 107 5,oO 108 (bO .leq 3 106 107 3),mO 109 108,oG 110 (fA 63 7 0) 109 false,oG 111 (lD 3 110) 109 false,oG 112 (.binOp .gtr 3 (xT 111) (nI 65534) 3) 109 false,oO 113 (.pick (xT 109) (nB true) (xT 112)),mO 114 113,oG 115 (fA 63 7 1) 114 false,oG 116 (lD 5 115) 114 false,oG 117 (.binOp .eql 5 (xT 116) (.const (.int .u8 0)) 5) 114 false,oO 118 (.pick (xT 114) (nB true) (xT 117)),mO 119 118,oG 120 (fA 63 7 2) 119 false,oG 121 (lD 60 120) 119 false,oG 122 (fA 63 7 1) 119 false,oG 123 (lD 5 122) 119 false,oG 124 (cL 50 #[(xT 121),(xT 123)] #[60,5]) 119 false,oG 125 (.unOp .not 4 (xT 124)) 119 false,oO 126 (.pick (xT 119) (nB true) (xT 125)),mO 127 126,oG 128 (fA 63 7 3) 127 false,oG 129 (lD 60 128) 127 false,oG 130 (fA 63 7 1) 127 false,oG 131 (lD 5 130) 127 false,oG 132 (cL 50 #[(xT 129),(xT 131)] #[60,5]) 127 false,oG 133 (.unOp .not 4 (xT 132)) 127 false,oO 134 (.pick (xT 127) (nB true) (xT 133))] [1,2,6,7,134] (cD 134 (sR [oO 4 (.assign (nB false))] [4] (.ret)) (.skip))) (.keep [1,2,6,7] (.reg [fO 135 63 7 0,lO 136 3 135,aO 5 136] [1,2,5,6]))))) (.keep [1,2,5,6] (.reg [mO 98 6,oO 99 (.binOp .add 3 (xT 98) (nI 1) 3),aO 6 99] [1,2,5,6]))))
def l2_centoref20_Right : CC := .seq (sR [mO 137 8,fO 138 30 2 4,lO 139 27 138,oO 140 (bL 139 27),oO 141 (bO .lss 3 137 140 3)] [1,2,5,8,141] (cD 141 (.skip) (.exit 2))) (.keep [1,2,5,8] (.seq (.block 3 (sR [fO 144 30 2 4,lO 145 27 144,mO 146 8,oO 147 (iA 27 145 146),lO 148 66 147,oN 9 (.alloc 66) [2],oS (.store 66 (xT 9) (xT 148))] [1,2,5,8,9] (.seq (sR [fO 149 66 9 0,lO 150 3 149,mO 151 5,oO 152 (bO .leq 3 150 151 3),mO 153 152,oG 154 (fA 66 9 0) 153 false,oG 155 (lD 3 154) 153 false,oG 156 (.binOp .gtr 3 (xT 155) (nI 65534) 3) 153 false,oO 157 (.pick (xT 153) (nB true) (xT 156)),mO 158 157,oG 159 (fA 66 9 1) 158 false,oG 160 (fA 30 159 0) 158 false,oG 161 (lD 3 160) 158 false,oG 162 (.binOp .eql 3 (xT 161) (nI 0) 3) 158 false,oO 163 (.pick (xT 158) (nB true) (xT 162)),mO 164 163,oG 165 (fA 66 9 1) 164 false,oG 166 (lD 30 165) 164 false,oG 167 (mV 1) 164 false,oG 168 (.binOp .sub 3 (xT 167) (nI 1) 3) 164 false,oG 169 (cL 23 #[(xT 166),(xT 168)] #[30,3]) 164 false,oG 170 (.unOp .not 4 (xT 169)) 164 false,oO 171 (.pick (xT 164) (nB true) (xT 170))] [1,2,8,9,171] (cD 171 (sR [oO 4 (.assign (nB false))] [4] (.ret)) (.skip))) (.keep [1,2,8,9] (.reg [fO 172 66 9 0,lO 173 3 172,aO 5 173] [1,2,5,8]))))) (.keep [1,2,5,8] (.reg [mO 142 8,oO 143 (.binOp .add 3 (xT 142) (nI 1) 3),aO 8 143] [1,2,5,8]))))
def l3_centoref20_Right : CC := .seq (sR [mO 187 10,fO 188 30 2 6,lO 189 28 188,oO 190 (bL 189 28),oO 191 (bO .lss 3 187 190 3)] [1,2,10,191] (cD 191 (.skip) (.exit 4))) (.keep [1,2,10] (.seq (.block 5 (sR [fO 194 30 2 5,lO 195 3 194,fO 196 30 2 6,lO 197 28 196,mO 198 10,oO 199 (iA 28 197 198),lO 200 69 199,mO 201 1,oO 202 (.binOp .sub 3 (xT 201) (nI 1) 3),oO 203 (cL 51 #[(xT 195),(xT 200),(xT 202)] #[3,69,3]),oO 204 (.unOp .not 4 (xT 203))] [1,2,10,204] (cD 204 (sR [oO 4 (.assign (nB false))] [4] (.ret)) (.skip)))) (.keep [1,2,10] (.reg [mO 192 10,oO 193 (.binOp .add 3 (xT 192) (nI 1) 3),aO 10 193] [1,2,10])))) 
def c_centoref20_Right : CC := sR [oN 2 (.box 30 (xT 0)) [0],oO 4 (.assign (nB false))] [1,2] (.seq (sR [mO 13 1,oO 14 (.binOp .eql 3 (xT 13) (nI 0) 3),mO 15 14,oG 16 (fA 30 2 0) 15 false,oG 17 (lD 3 16) 15 false,oG 18 (.binOp .lss 3 (xT 17) (nI 0) 3) 15 false,oO 19 (.pick (xT 15) (nB true) (xT 18)),mO 20 19,oG 21 (fA 30 2 0) 20 false,oG 22 (lD 3 21) 20 false,oG 23 (.binOp .gtr 3 (xT 22) (nI 3) 3) 20 false,oO 24 (.pick (xT 20) (nB true) (xT 23))] [1,2,24] (cD 24 (sR [oO 4 (.assign (nB false))] [4] (.ret)) (.skip))) (.keep [1,2] (.seq (sR [fO 25 30 2 0,lO 26 3 25,oO 27 (.binOp .neq 3 (xT 26) (nI 1) 3),mO 28 27,oG 29 (fA 30 2 1) 28 true,oG 30 (lD 25 29) 28 true,oG 31 (cL 49 #[(xT 30)] #[25]) 28 true,oG 32 (mV 31) 28 true,oG 33 (fA 30 2 2) 32 true,oG 34 (lD 25 33) 32 true,oG 35 (cL 49 #[(xT 34)] #[25]) 32 true,oG 36 (.pick (xT 32) (xT 35) (nB false)) 28 true,oG 37 (.unOp .not 4 (xT 36)) 28 true,oO 38 (.pick (xT 28) (xT 37) (nB false)),mO 39 38,oG 40 (fA 30 2 0) 39 false,oG 41 (lD 3 40) 39 false,oG 42 (.binOp .neq 3 (xT 41) (nI 2) 3) 39 false,oG 43 (mV 42) 39 false,oG 44 (fA 30 2 3) 43 true,oG 45 (lD 26 44) 43 true,oG 46 (bL 45 26) 43 true,oG 47 (fA 30 2 4) 43 true,oG 48 (lD 27 47) 43 true,oG 49 (bL 48 27) 43 true,oG 50 (bO .add 3 46 49 3) 43 true,oG 51 (.binOp .gtr 3 (xT 50) (nI 0) 3) 43 true,oG 52 (.pick (xT 43) (xT 51) (nB false)) 39 false,oO 53 (.pick (xT 39) (nB true) (xT 52)),mO 54 53,oG 55 (fA 30 2 0) 54 false,oG 56 (lD 3 55) 54 false,oG 57 (.binOp .neq 3 (xT 56) (nI 3) 3) 54 false,oG 58 (mV 57) 54 false,oG 59 (fA 30 2 5) 58 true,oG 60 (lD 3 59) 58 true,oG 61 (.binOp .neq 3 (xT 60) (nI 0) 3) 58 true,oG 62 (mV 61) 58 true,oG 63 (fA 30 2 6) 62 false,oG 64 (lD 28 63) 62 false,oG 65 (bL 64 28) 62 false,oG 66 (.binOp .gtr 3 (xT 65) (nI 0) 3) 62 false,oG 67 (.pick (xT 62) (nB true) (xT 66)) 58 true,oG 68 (.pick (xT 58) (xT 67) (nB false)) 54 false,oO 69 (.pick (xT 54) (nB true) (xT 68))] [1,2,69] (cD 69 (sR [oO 4 (.assign (nB false))] [4] (.ret)) (.skip))) (.keep [1,2] (.seq (sR [fO 70 30 2 0,lO 71 3 70,oO 72 (.binOp .eql 3 (xT 71) (nI 1) 3)] [1,2,72] (cD 72 (sR [fO 73 30 2 1,lO 74 25 73,oO 75 (cL 17 #[(xT 74),(nI 64)] #[25,3]),mO 76 75,oG 77 (fA 30 2 2) 76 true,oG 78 (lD 25 77) 76 true,oG 79 (cL 17 #[(xT 78),(nI 64)] #[25,3]) 76 true,oO 80 (.pick (xT 76) (xT 79) (nB false)),mO 81 80,oG 82 (fA 30 2 1) 81 true,oG 83 (fA 25 82 0) 81 true,oG 84 (lD 3 83) 81 true,oG 85 (.binOp .neq 3 (xT 84) (nI 10) 3) 81 true,oO 86 (.pick (xT 81) (xT 85) (nB false)),mO 87 86,oG 88 (fA 30 2 2) 87 true,oG 89 (fA 25 88 0) 87 true,oG 90 (lD 3 89) 87 true,oG 91 (.binOp .neq 3 (xT 90) (nI 10) 3) 87 true,oO 92 (.pick (xT 87) (xT 91) (nB false)),aO 4 92] [4] (.ret)) (.skip))) (.keep [1,2] (sR [oO 5 (.assign (.const (.int .i64 (-1))))] [1,2,5] (.seq (sR [oO 6 (.assign (nI 0))] [1,2,5,6] (.block 0 (.loop l1_centoref20_Right))) (.keep [1,2] (sR [oO 5 (.assign (.const (.int .i64 (-1))))] [1,2,5] (.seq (sR [oO 8 (.assign (nI 0))] [1,2,5,8] (.block 2 (.loop l2_centoref20_Right))) (.keep [1,2] (.seq (sR [fO 174 30 2 0,lO 175 3 174,oO 176 (.binOp .eql 3 (xT 175) (nI 3) 3),mO 177 176,oG 178 (fA 30 2 5) 177 true,oG 179 (lD 3 178) 177 true,oG 180 (.binOp .lss 3 (xT 179) (nI 2) 3) 177 true,oG 181 (mV 180) 177 true,oG 182 (fA 30 2 5) 181 false,oG 183 (lD 3 182) 181 false,oG 184 (.binOp .gtr 3 (xT 183) (nI 9) 3) 181 false,oG 185 (.pick (xT 181) (nB true) (xT 184)) 177 true,oO 186 (.pick (xT 177) (xT 185) (nB false))] [1,2,186] (cD 186 (sR [oO 4 (.assign (nB false))] [4] (.ret)) (.skip))) (.keep [1,2] (.seq (sR [oO 10 (.assign (nI 0))] [1,2,10] (.block 4 (.loop l3_centoref20_Right))) (.keep [2] (sR [lO 206 30 2,oO 207 (cL 52 #[(xT 206)] #[30]),mO 205 207,xO 208 205 0,xO 209 205 1,aO 11 208,aO 12 209] [11,12] (sR [mO 210 11,oO 211 (.binOp .lss 3 (xT 210) (nI 1048576) 3),mO 212 211,oG 213 (mV 12) 212 true,oG 214 (.binOp .lss 3 (xT 213) (nI 1048576) 3) 212 true,oO 215 (.pick (xT 212) (xT 214) (nB false)),aO 4 215] [4] (.ret)))))))))))))))))))
theorem t_centoref20_Right : Txt Tryz.prog 23 216 [(.tmp 4)] c_centoref20_Right := txt_of (code := Tryz.f23.body.getD .ret) mixed (by kernel_rfl) Tryz.func23 (by kernel_rfl) Tryz.ntmps23 (by kernel_rfl) (ls := lsOf c_centoref20_Right) (by kernel_rfl)
def k1_centoref20_Lengths : CC := .seq (sR [mO 42 4,oO 43 (.binOp .gtr 3 (xT 42) (nI 1048576) 3)] [1,4,5,6,43] (cD 43 (.reg [oO 4 (.assign (nI 1048576))] [1,4,5,6]) (.skip))) (.keep [1,4,5,6] (sR [mO 44 5,oO 45 (.binOp .gtr 3 (xT 44) (nI 1048576) 3)] [1,4,5,6,45] (cD 45 (.reg [oO 5 (.assign (nI 1048576))] [1,4,5,6]) (.skip))))
def k2_centoref20_Lengths : CC := .seq (sR [fO 36 69 7 0,lO 37 3 36,oO 38 (.binOp .neq 3 (xT 37) (nI 1) 3)] [1,4,5,6,8,38] (cD 38 (.reg [mO 39 5,mO 40 8,oO 41 (bO .add 3 39 40 3),aO 5 41] [1,4,5,6]) (.skip))) (.keep [1,4,5,6] k1_centoref20_Lengths)
def k3_centoref20_Lengths : CC := .seq (sR [fO 30 69 7 0,lO 31 3 30,oO 32 (.binOp .neq 3 (xT 31) (nI 2) 3)] [1,4,5,6,7,8,32] (cD 32 (.reg [mO 33 4,mO 34 8,oO 35 (bO .add 3 33 34 3),aO 4 35] [1,4,5,6,7,8]) (.skip))) (.keep [1,4,5,6,7,8] k2_centoref20_Lengths)
def l1_centoref20_Lengths : CC := .seq (sR [mO 9 6,fO 10 30 1 6,lO 11 28 10,oO 12 (bL 11 28),oO 13 (bO .lss 3 9 12 3)] [1,4,5,6,13] (cD 13 (.skip) (.exit 0))) (.keep [1,4,5,6] (.seq (.block 1 (sR [fO 16 30 1 6,lO 17 28 16,mO 18 6,oO 19 (iA 28 17 18),lO 20 69 19,oN 7 (.alloc 69) [1],oS (.store 69 (xT 7) (xT 20))] [1,4,5,6,7] (sR [fO 21 69 7 1,lO 22 3 21,fO 23 69 7 2,lO 24 23 23,oO 25 (bL 24 23),oO 26 (bO .add 3 22 25 3),aO 8 26] [1,4,5,6,7,8] (.seq (sR [fO 27 69 7 0,lO 28 3 27,oO 29 (.binOp .eql 3 (xT 28) (nI 3) 3)] [1,4,5,6,7,8,29] (cD 29 (.reg [oO 8 (.assign (nI 1))] [1,4,5,6,7,8]) (.skip))) (.keep [1,4,5,6,7,8] k3_centoref20_Lengths))))) (.keep [1,4,5,6] (.reg [mO 14 6,oO 15 (.binOp .add 3 (xT 14) (nI 1) 3),aO 6 15] [1,4,5,6])))) 
def c_centoref20_Lengths : CC := sR [oN 1 (.box 30 (xT 0)) [0],oO 2 (.assign (nI 0)),oO 3 (.assign (nI 0))] [1] (sR [oO 4 (.assign (nI 0)),oO 5 (.assign (nI 0))] [1,4,5] (.seq (sR [oO 6 (.assign (nI 0))] [1,4,5,6] (.block 0 (.loop l1_centoref20_Lengths))) (.keep [4,5] (sR [mO 46 4,mO 47 5,aO 2 46,aO 3 47] [2,3] (.ret)))))
theorem t_centoref20_Lengths : Txt Tryz.prog 52 48 [(.tmp 2),(.tmp 3)] c_centoref20_Lengths := txt_of (code := Tryz.f52.body.getD .ret) mixed (by kernel_rfl) Tryz.func52 (by kernel_rfl) Tryz.ntmps52 (by kernel_rfl) (ls := lsOf c_centoref20_Lengths) (by kernel_rfl)
def l1_centoref20_left : CC := .seq (sR [mO 36 7,fO 37 30 3 4,lO 38 27 37,oO 39 (bL 38 27),oO 40 (bO .lss 3 36 39 3),mO 41 40,oG 42 (mV 2) 41 true,oG 43 (.binOp .geq 3 (xT 42) (nI 0) 3) 41 true,oO 44 (.pick (xT 41) (xT 43) (nB false))] [1,2,3,7,44] (cD 44 (.skip) (.exit 0))) (.keep [1,2,3,7] (.seq (.block 1 (.reg [fO 47 30 3 4,lO 48 27 47,mO 49 7,oO 50 (iA 27 48 49),fO 51 66 50 1,lO 52 30 51,mO 53 1,oO 54 (.binOp .sub 3 (xT 53) (nI 1) 3),mO 55 2,oO 56 (cL 48 #[(xT 52),(xT 54),(xT 55)] #[30,3,3]),aO 2 56] [1,2,3,7])) (.reg [mO 45 7,oO 46 (.binOp .add 3 (xT 45) (nI 1) 3),aO 7 46] [1,2,3,7])))
def l2_centoref20_left : CC := .seq (sR [mO 68 9,fO 69 30 3 6,lO 70 28 69,mO 71 8,oO 72 (iA 28 70 71),fO 73 69 72 2,lO 74 23 73,oO 75 (bL 74 23),oO 76 (bO .lss 3 68 75 3),mO 77 76,oG 78 (mV 2) 77 true,oG 79 (.binOp .geq 3 (xT 78) (nI 0) 3) 77 true,oO 80 (.pick (xT 77) (xT 79) (nB false))] [1,2,3,8,9,80] (cD 80 (.skip) (.exit 4))) (.keep [1,2,3,8,9] (.seq (.block 5 (.reg [fO 83 30 3 6,lO 84 28 83,mO 85 8,oO 86 (iA 28 84 85),fO 87 69 86 2,lO 88 23 87,mO 89 9,oO 90 (iA 23 88 89),lO 91 25 90,mO 92 2,oO 93 (cL 45 #[(xT 91),(nI 80),(xT 92)] #[25,3,3]),aO 2 93] [1,2,3,8,9])) (.reg [mO 81 9,oO 82 (.binOp .add 3 (xT 81) (nI 1) 3),aO 9 82] [1,2,3,8,9])))
def l3_centoref20_left : CC := .seq (sR [mO 57 8,fO 58 30 3 6,lO 59 28 58,oO 60 (bL 59 28),oO 61 (bO .lss 3 57 60 3),mO 62 61,oG 63 (mV 2) 62 true,oG 64 (.binOp .geq 3 (xT 63) (nI 0) 3) 62 true,oO 65 (.pick (xT 62) (xT 64) (nB false))] [1,2,3,8,65] (cD 65 (.skip) (.exit 2))) (.keep [1,2,3,8] (.seq (.block 3 (.seq (sR [oO 9 (.assign (nI 0))] [1,2,3,8,9] (.block 4 (.loop l2_centoref20_left))) (.keep [1,2,3,8] (sR [mO 94 2,oO 95 (.binOp .geq 3 (xT 94) (nI 0) 3)] [1,2,3,8,95] (cD 95 (.reg [fO 96 30 3 6,lO 97 28 96,mO 98 8,oO 99 (iA 28 97 98),fO 100 69 99 3,lO 101 30 100,mO 102 1,oO 103 (.binOp .sub 3 (xT 102) (nI 1) 3),mO 104 2,oO 105 (cL 48 #[(xT 101),(xT 103),(xT 104)] #[30,3,3]),aO 2 105] [1,2,3,8]) (.skip)))))) (.keep [1,2,3,8] (.reg [mO 66 8,oO 67 (.binOp .add 3 (xT 66) (nI 1) 3),aO 8 67] [1,2,3,8]))))
def k1_centoref20_left : CC := .seq (sR [oO 7 (.assign (nI 0))] [1,2,3,7] (.block 0 (.loop l1_centoref20_left))) (.keep [1,2,3] (.seq (sR [oO 8 (.assign (nI 0))] [1,2,3,8] (.block 2 (.loop l3_centoref20_left))) (.keep [2] (sR [mO 106 2,aO 6 106] [6] (.ret))))) 
def c_centoref20_left : CC := sR [oN 3 (.box 30 (xT 0)) [0],oO 6 (.assign (nI 0))] [1,2,3] (sR [mO 10 2,oO 11 (.binOp .sub 3 (xT 10) (nI 1) 3),fO 12 30 3 3,lO 13 26 12,oO 14 (bL 13 26),oO 15 (bO .sub 3 11 14 3),fO 16 30 3 6,lO 17 28 16,oO 18 (bL 17 28),oO 19 (bO .sub 3 15 18 3),aO 2 19] [1,2,3] (.seq (sR [mO 20 1,oO 21 (.binOp .eql 3 (xT 20) (nI 0) 3),mO 22 21,oG 23 (mV 2) 22 false,oG 24 (.binOp .lss 3 (xT 23) (nI 0) 3) 22 false,oO 25 (.pick (xT 22) (nB true) (xT 24))] [1,2,3,25] (cD 25 (sR [oO 6 (.assign (.const (.int .i64 (-1))))] [6] (.ret)) (.skip))) (.keep [1,2,3] (sR [fO 26 30 3 1,lO 27 25 26,mO 28 2,oO 29 (cL 45 #[(xT 27),(nI 80),(xT 28)] #[25,3,3]),aO 2 29] [1,2,3] (.seq (sR [mO 30 2,oO 31 (.binOp .geq 3 (xT 30) (nI 0) 3)] [1,2,3,31] (cD 31 (.reg [fO 32 30 3 2,lO 33 25 32,mO 34 2,oO 35 (cL 45 #[(xT 33),(nI 80),(xT 34)] #[25,3,3]),aO 2 35] [1,2,3]) (.skip))) (.keep [1,2,3] k1_centoref20_left))))))
theorem t_centoref20_left : Txt Tryz.prog 48 107 [(.tmp 6)] c_centoref20_left := txt_of (code := Tryz.f48.body.getD .ret) mixed (by kernel_rfl) Tryz.func48 (by kernel_rfl) Tryz.ntmps48 (by kernel_rfl) (ls := lsOf c_centoref20_left) (by kernel_rfl)
def c_centoref20_Few : CC := sR [oN 1 (.box 30 (xT 0)) [0],oO 2 (.assign (nB false))] [1] (sR [lO 3 30 1,oO 4 (cL 48 #[(xT 3),(nI 80),(nI 3000)] #[30,3,3]),oO 5 (.binOp .geq 3 (xT 4) (nI 0) 3),aO 2 5] [2] (.ret))
theorem t_centoref20_Few : Txt Tryz.prog 22 6 [(.tmp 2)] c_centoref20_Few := txt_of (code := Tryz.f22.body.getD .ret) mixed (by kernel_rfl) Tryz.func22 (by kernel_rfl) Tryz.ntmps22 (by kernel_rfl) (ls := lsOf c_centoref20_Few) (by kernel_rfl)
def l1_centoref20_Light : CC := .seq (sR [mO 18 5,fO 19 30 1 4,lO 20 27 19,oO 21 (bL 20 27),oO 22 (bO .lss 3 18 21 3)] [1,5,22] (cD 22 (.skip) (.exit 0))) (.keep [1,5] (.seq (.block 1 (sR [fO 25 30 1 4,lO 26 27 25,mO 27 5,oO 28 (iA 27 26 27),fO 29 66 28 1,lO 30 30 29,oO 31 (cL 24 #[(xT 30)] #[30]),oO 32 (.unOp .not 4 (xT 31))] [1,5,32] (cD 32 (sR [oO 2 (.assign (nB false))] [2] (.ret)) (.skip)))) (.keep [1,5] (.reg [mO 23 5,oO 24 (.binOp .add 3 (xT 23) (nI 1) 3),aO 5 24] [1,5]))))
def l2_centoref20_Light : CC := .seq (sR [mO 33 6,fO 34 30 1 6,lO 35 28 34,oO 36 (bL 35 28),oO 37 (bO .lss 3 33 36 3)] [1,6,37] (cD 37 (.skip) (.exit 2))) (.keep [1,6] (.seq (.block 3 (sR [fO 40 30 1 6,lO 41 28 40,mO 42 6,oO 43 (iA 28 41 42),fO 44 69 43 3,lO 45 30 44,oO 46 (cL 24 #[(xT 45)] #[30]),oO 47 (.unOp .not 4 (xT 46))] [1,6,47] (cD 47 (sR [oO 2 (.assign (nB false))] [2] (.ret)) (.skip)))) (.keep [1,6] (.reg [mO 38 6,oO 39 (.binOp .add 3 (xT 38) (nI 1) 3),aO 6 39] [1,6])))) 
def c_centoref20_Light : CC := sR [oN 1 (.box 30 (xT 0)) [0],oO 2 (.assign (nB false))] [1] (sR [lO 8 30 1,oO 9 (cL 52 #[(xT 8)] #[30]),mO 7 9,xO 10 7 0,xO 11 7 1,aO 3 10,aO 4 11] [1,3,4] (.seq (sR [mO 12 3,oO 13 (.binOp .gtr 3 (xT 12) (nI 2000) 3),mO 14 13,oG 15 (mV 4) 14 false,oG 16 (.binOp .gtr 3 (xT 15) (nI 2000) 3) 14 false,oO 17 (.pick (xT 14) (nB true) (xT 16))] [1,17] (cD 17 (sR [oO 2 (.assign (nB false))] [2] (.ret)) (.skip))) (.keep [1] (.seq (sR [oO 5 (.assign (nI 0))] [1,5] (.block 0 (.loop l1_centoref20_Light))) (.keep [1] (.seq (sR [oO 6 (.assign (nI 0))] [1,6] (.block 2 (.loop l2_centoref20_Light))) (.keep [] (sR [oO 2 (.assign (nB true))] [2] (.ret)))))))))
theorem t_centoref20_Light : Txt Tryz.prog 24 48 [(.tmp 2)] c_centoref20_Light := txt_of (code := Tryz.f24.body.getD .ret) mixed (by kernel_rfl) Tryz.func24 (by kernel_rfl) Tryz.ntmps24 (by kernel_rfl) (ls := lsOf c_centoref20_Light) (by kernel_rfl)
def c_centoref20_Good : CC := sR [oN 1 (.box 30 (xT 0)) [0],oO 2 (.assign (nB false))] [1] (sR [lO 3 30 1,oO 4 (cL 22 #[(xT 3)] #[30]),mO 5 4,oG 6 (lD 30 1) 5 true,oG 7 (cL 23 #[(xT 6),(nI 64)] #[30,3]) 5 true,oO 8 (.pick (xT 5) (xT 7) (nB false)),mO 9 8,oG 10 (lD 30 1) 9 true,oG 11 (cL 24 #[(xT 10)] #[30]) 9 true,oO 12 (.pick (xT 9) (xT 11) (nB false)),aO 2 12] [2] (.ret))
theorem t_centoref20_Good : Txt Tryz.prog 8 13 [(.tmp 2)] c_centoref20_Good := txt_of (code := Tryz.f8.body.getD .ret) mixed (by kernel_rfl) Tryz.func8 (by kernel_rfl) Tryz.ntmps8 (by kernel_rfl) (ls := lsOf c_centoref20_Good) (by kernel_rfl)
def c_centoref27_row : CC := sR [oN 2 (.alloc 25) [0]] [0,2] (.seq (sR [mO 3 0,oO 4 (bL 3 23),oO 5 (.binOp .eql 3 (xT 4) (nI 0) 3)] [0,2,5] (cD 5 (sR [oO 6 (.build 25 #[]),oS (.store 25 (xT 2) (xT 6))] [2] (.ret)) (.skip))) (.keep [0,2] (sR [mO 7 0,oO 8 (.build 25 #[(0,(nI 9)),(2,(xT 7))]),oS (.store 25 (xT 2) (xT 8))] [2] (.ret))))
theorem t_centoref27_row : Txt Tryz.prog 39 9 [(.cell 2 25)] c_centoref27_row := txt_of (code := Tryz.f39.body.getD .ret) mixed (by kernel_rfl) Tryz.func39 (by kernel_rfl) Tryz.ntmps39 (by kernel_rfl) (ls := lsOf c_centoref27_row) (by kernel_rfl)
def l1_centoref27_Tree : CC := .seq (sR [mO 83 6,fO 84 30 1 3,lO 85 26 84,oO 86 (bL 85 26),oO 87 (bO .lss 3 83 86 3)] [1,2,3,4,5,6,87] (cD 87 (.skip) (.exit 3))) (.keep [1,2,3,4,5,6] (.seq (.block 4 (sR [fO 90 30 1 3,lO 91 26 90,mO 92 6,oO 93 (iA 26 91 92),lO 94 63 93,oN 7 (.alloc 63) [3],oS (.store 63 (xT 7) (xT 94))] [1,2,3,4,5,6,7] (.reg [mO 95 4,fO 96 63 7 0,lO 97 3 96,oO 98 (.convert 3 60 (xT 97)),fO 99 63 7 1,lO 100 5 99,oO 101 (.convert 5 60 (xT 100)),oO 102 (.binOp .mul 60 (.const (.int .u64 4294967296)) (xT 101) 60),oO 103 (bO .add 60 98 102 60),fO 104 63 7 2,lO 105 60 104,fO 106 63 7 3,lO 107 60 106,oO 108 (.buildSlice 22 3 #[(0,(xT 103)),(1,(xT 105)),(2,(xT 107))]),oO 109 (.build 25 #[(0,(nI 1)),(1,(xT 108))]),oO 110 (.buildSlice 23 1 #[(0,(xT 109))]),oN 111 (bC .append #[(xT 95),(xT 110)] #[23,23]) [4],aO 4 111] [1,2,3,4,5,6]))) (.reg [mO 88 6,oO 89 (.binOp .add 3 (xT 88) (nI 1) 3),aO 6 89] [1,2,3,4,5,6])))
def l2_centoref27_Tree : CC := .seq (sR [mO 112 8,fO 113 30 1 4,lO 114 27 113,oO 115 (bL 114 27),oO 116 (bO .lss 3 112 115 3)] [1,2,3,4,5,8,116] (cD 116 (.skip) (.exit 5))) (.keep [1,2,3,4,5,8] (.seq (.block 6 (.reg [mO 119 5,fO 120 30 1 4,⟨some 121,(lD 27 120),none,[],2,[],true⟩,mO 122 8,oO 123 (iA 27 121 122),fO 124 66 123 0,⟨some 125,(lD 3 124),none,[],6,[],true⟩,oO 126 (.convert 3 60 (xT 125)),⟨some 127,(.buildSlice 22 1 #[(0,(xT 126))]),none,[],8,[],true⟩,fO 128 30 1 4,⟨some 129,(lD 27 128),none,[],10,[8],false⟩,mO 130 8,oO 131 (iA 27 129 130),fO 132 66 131 1,⟨some 133,(lD 30 132),none,[],14,[8],false⟩,⟨some 134,(cL 15 #[(xT 133)] #[30]),none,[],15,[2,6,8],false⟩,⟨some 135,(.buildSlice 23 1 #[(0,(xT 134))]),none,[],16,[2,6,8],false⟩,oO 136 (.build 25 #[(0,(nI 1)),(1,(xT 127)),(2,(xT 135))]),oO 137 (.buildSlice 23 1 #[(0,(xT 136))]),oN 138 (bC .append #[(xT 119),(xT 137)] #[23,23]) [5],aO 5 138] [1,2,3,4,5,8])) (.reg [mO 117 8,oO 118 (.binOp .add 3 (xT 117) (nI 1) 3),aO 8 118] [1,2,3,4,5,8])))
def l3_centoref27_Tree : CC := .seq (sR [mO 23 9,fO 24 30 1 6,lO 25 28 24,oO 26 (bL 25 28),oO 27 (bO .lss 3 23 26 3)] [1,2,3,4,9,27] (cD 27 (.skip) (.exit 1))) (.keep [1,2,3,4,9] (.seq (.block 2 (sR [fO 30 30 1 6,lO 31 28 30,mO 32 9,oO 33 (iA 28 31 32),lO 34 69 33,oN 10 (.alloc 69) [6],oS (.store 69 (xT 10) (xT 34))] [1,2,3,4,9,10] (sR [fO 35 69 10 0,lO 36 3 35,fO 37 69 10 1,lO 38 3 37,oO 39 (.binOp .mul 3 (nI 256) (xT 38) 3),oO 40 (bO .add 3 36 39 3),oO 41 (.convert 3 60 (xT 40)),oO 42 (.buildSlice 22 1 #[(0,(xT 41))]),oO 43 (.build 25 #[(0,(nI 1)),(1,(xT 42))]),oN 11 (.alloc 25) [7],oS (.store 25 (xT 11) (xT 43))] [1,2,3,4,9,10,11] (.seq (sR [fO 44 69 10 0,lO 45 3 44,oO 46 (.binOp .eql 3 (xT 45) (nI 3) 3)] [1,2,3,4,9,10,11,46] (cD 46 (.reg [fO 47 69 10 3,lO 48 30 47,oO 49 (cL 15 #[(xT 48)] #[30]),oO 50 (.buildSlice 23 1 #[(0,(xT 49))]),fO 51 25 11 2,oS (.store 23 (xT 51) (xT 50))] [1,2,3,4,9,11]) (sR [fO 52 69 10 0,lO 53 3 52,oO 54 (.binOp .gtr 3 (xT 53) (nI 0) 3)] [1,2,3,4,9,10,11,54] (cD 54 (.reg [fO 55 30 1 5,lO 56 3 55,fO 57 69 10 2,lO 58 23 57,oO 59 (.build 25 #[(0,(xT 56)),(2,(xT 58))]),oO 60 (.buildSlice 23 1 #[(0,(xT 59))]),fO 61 25 11 2,oS (.store 23 (xT 61) (xT 60))] [1,2,3,4,9,11]) (.skip))))) (.keep [1,2,3,4,9,11] (.reg [mO 62 4,lO 63 25 11,oO 64 (.buildSlice 23 1 #[(0,(xT 63))]),oN 65 (bC .append #[(xT 62),(xT 64)] #[23,23]) [8],aO 4 65] [1,2,3,4,9])))))) (.keep [1,2,3,4,9] (.reg [mO 28 9,oO 29 (.binOp .add 3 (xT 28) (nI 1) 3),aO 9 29] [1,2,3,4,9])))) 
def c_centoref27_Tree : CC := sR [oN 1 (.box 30 (xT 0)) [0],oN 2 (.alloc 25) [1]] [1,2] (sR [fO 12 30 1 0,lO 13 3 12,fO 14 30 1 5,lO 15 3 14,oO 16 (.binOp .mul 3 (nI 256) (xT 15) 3),oO 17 (bO .add 3 13 16 3),oO 18 (.convert 3 60 (xT 17)),oO 19 (.buildSlice 22 1 #[(0,(xT 18))]),oO 20 (.build 25 #[(0,(nI 1)),(1,(xT 19))]),oN 3 (.alloc 25) [2],oS (.store 25 (xT 3) (xT 20))] [1,2,3] (sR [oO 4 (.assign nS),oO 5 (.assign nS)] [1,2,3,4,5] (.seq (sR [fO 21 30 1 0,lO 22 3 21] [1,2,3,4,5,22] (.block 0 (sR [oO 71 (.binOp .eql 3 (xT 22) (nI 0) 3),aO 70 71] [1,2,3,4,5,22,70] (cD 70 (sR [oO 72 (.build 25 #[]),oS (.store 25 (xT 2) (xT 72))] [2] (.ret)) (sR [oO 74 (.binOp .eql 3 (xT 22) (nI 1) 3),aO 73 74] [1,2,3,4,5,22,73] (cD 73 (.reg [fO 75 30 1 1,lO 76 25 75,fO 77 30 1 2,lO 78 25 77,oO 79 (.buildSlice 23 2 #[(0,(xT 76)),(1,(xT 78))]),fO 80 25 3 2,oS (.store 23 (xT 80) (xT 79))] [2,3]) (sR [oO 82 (.binOp .eql 3 (xT 22) (nI 2) 3),aO 81 82] [1,2,3,4,5,81] (cD 81 (.seq (sR [oO 6 (.assign (nI 0))] [1,2,3,4,5,6] (.block 3 (.loop l1_centoref27_Tree))) (.keep [1,2,3,4,5] (.seq (sR [oO 8 (.assign (nI 0))] [1,2,3,4,5,8] (.block 5 (.loop l2_centoref27_Tree))) (.keep [2,3,4,5] (.stop (.reg [mO 139 4,oO 140 (cL 39 #[(xT 139)] #[23]),mO 141 5,oO 142 (cL 39 #[(xT 141)] #[23]),oO 143 (.buildSlice 23 2 #[(0,(xT 140)),(1,(xT 142))]),fO 144 25 3 2,oS (.store 23 (xT 144) (xT 143))] [2,3])))))) (.seq (sR [oO 9 (.assign (nI 0))] [1,2,3,4,9] (.block 1 (.loop l3_centoref27_Tree))) (.keep [2,3,4] (.stop (.reg [mO 66 4,oO 67 (cL 39 #[(xT 66)] #[23]),oO 68 (.buildSlice 23 1 #[(0,(xT 67))]),fO 69 25 3 2,oS (.store 23 (xT 69) (xT 68))] [2,3])))))))))))) (.keep [2,3] (sR [lO 145 25 3,oS (.store 25 (xT 2) (xT 145))] [2] (.ret))))))
theorem t_centoref27_Tree : Txt Tryz.prog 15 146 [(.cell 2 25)] c_centoref27_Tree := txt_of (code := Tryz.f15.body.getD .ret) mixed (by kernel_rfl) Tryz.func15 (by kernel_rfl) Tryz.ntmps15 (by kernel_rfl) (ls := lsOf c_centoref27_Tree) (by kernel_rfl)
end Go.Proofs.YthfiijdbnkaabaaGreat

namespace Go.Proofs.YthfiijdbnkaabaaGreat
set_option linter.unusedVariables false
set_option linter.unusedSimpArgs false
set_option maxRecDepth 20000
open Go Go.G Go.Proofs
def c_tree_Word : CC := sR [oN 2 (.box 25 (xT 0)) [0],oO 4 (.assign (.const (.int .u64 0)))] [1,2] (.seq (sR [mO 5 1,oO 6 (.binOp .lss 3 (xT 5) (nI 0) 3),mO 7 6,oG 8 (mV 1) 7 false,oG 9 (fA 25 2 1) 7 false,oG 10 (lD 22 9) 7 false,oG 11 (bL 10 22) 7 false,oG 12 (bO .geq 3 8 11 3) 7 false,oO 13 (.pick (xT 7) (nB true) (xT 12))] [1,2,13] (cD 13 (sR [oO 4 (.assign (.const (.int .u64 0)))] [4] (.ret)) (.skip))) (.keep [1,2] (sR [fO 14 25 2 1,lO 15 22 14,mO 16 1,oO 17 (iA 22 15 16),lO 18 60 17,aO 4 18] [4] (.ret))))
theorem t_tree_Word : Txt Tryz.prog 70 19 [(.tmp 4)] c_tree_Word := txt_of (code := Tryz.f70.body.getD .ret) mixed (by kernel_rfl) Tryz.func70 (by kernel_rfl) Tryz.ntmps70 (by kernel_rfl) (ls := lsOf c_tree_Word) (by kernel_rfl)
def c_tree_Kid : CC := sR [oN 2 (.box 25 (xT 0)) [0],oN 4 (.alloc 25) [1]] [1,2,4] (.seq (sR [mO 5 1,oO 6 (.binOp .lss 3 (xT 5) (nI 0) 3),mO 7 6,oG 8 (mV 1) 7 false,oG 9 (fA 25 2 2) 7 false,oG 10 (lD 23 9) 7 false,oG 11 (bL 10 23) 7 false,oG 12 (bO .geq 3 8 11 3) 7 false,oO 13 (.pick (xT 7) (nB true) (xT 12))] [1,2,4,13] (cD 13 (sR [oO 14 (.build 25 #[]),oS (.store 25 (xT 4) (xT 14))] [4] (.ret)) (.skip))) (.keep [1,2,4] (sR [fO 15 25 2 2,lO 16 23 15,mO 17 1,oO 18 (iA 23 16 17),lO 19 25 18,oS (.store 25 (xT 4) (xT 19))] [4] (.ret))))
theorem t_tree_Kid : Txt Tryz.prog 72 20 [(.cell 4 25)] c_tree_Kid := txt_of (code := Tryz.f72.body.getD .ret) mixed (by kernel_rfl) Tryz.func72 (by kernel_rfl) Tryz.ntmps72 (by kernel_rfl) (ls := lsOf c_tree_Kid) (by kernel_rfl)
def l1_word_Wide : CC := sR [oO 6 (.binOp .lss 3 (xT 5) (nI 8) 3)] [0,3,5,6] (.seq (cD 6 (.skip) (.exit 0)) (.keep [0,3,5] (.seq (.block 1 (sR [mO 7 5,aO 4 7] [0,3,4,5] (sR [mO 8 0,mO 9 4,oO 10 (bO .shr 5 8 9 3),oO 11 (.binOp .and 5 (xT 10) (.const (.int .u8 1)) 5),oO 12 (.binOp .eql 5 (xT 11) (.const (.int .u8 1)) 5)] [0,3,4,5,12] (cD 12 (.reg [mO 13 3,mO 14 4,oO 15 (.binOp .mul 3 (nI 8) (xT 14) 3),oO 16 (.binOp .shl 60 (.const (.int .u64 255)) (xT 15) 3),oO 17 (bO .or 60 13 16 60),aO 3 17] [0,3,5]) (.skip))))) (.keep [0,3,5] (.reg [oO 18 (.binOp .add 3 (xT 5) (nI 1) 3),mO 5 18] [0,3,5]))))) 
def c_word_Wide : CC := sR [oO 2 (.assign (.const (.int .u64 0)))] [0] (sR [oO 3 (.assign (.const (.int .u64 0)))] [0,3] (.seq (sR [oO 5 (.move (nI 0))] [0,3,5] (.block 0 (.loop l1_word_Wide))) (.keep [3] (sR [mO 19 3,aO 2 19] [2] (.ret)))))
theorem t_word_Wide : Txt Tryz.prog 146 20 [(.tmp 2)] c_word_Wide := txt_of (code := Tryz.f146.body.getD .ret) mixed (by kernel_rfl) Tryz.func146 (by kernel_rfl) Tryz.ntmps146 (by kernel_rfl) (ls := lsOf c_word_Wide) (by kernel_rfl)
def c_word_Mix : CC := sR [oO 6 (.assign (.const (.int .u64 0)))] [0,1,2] (sR [mO 7 0,mO 8 2,oO 9 (cL 146 #[(xT 8)] #[5]),oO 10 (bO .andNot 60 7 9 60),mO 11 1,mO 12 2,oO 13 (cL 146 #[(xT 12)] #[5]),oO 14 (bO .and 60 11 13 60),oO 15 (bO .or 60 10 14 60),aO 6 15] [6] (.ret))
theorem t_word_Mix : Txt Tryz.prog 126 16 [(.tmp 6)] c_word_Mix := txt_of (code := Tryz.f126.body.getD .ret) mixed (by kernel_rfl) Tryz.func126 (by kernel_rfl) Tryz.ntmps126 (by kernel_rfl) (ls := lsOf c_word_Mix) (by kernel_rfl)
def l1_unfold_Value : CC := sR [oO 16 (bO .lss 3 15 14 3)] [1,2,4,14,15,16] (.seq (cD 16 (.skip) (.exit 0)) (.keep [1,2,4,14,15] (.seq (.block 1 (sR [mO 17 15,aO 5 17] [1,2,4,5,14,15] (.reg [fO 18 25 4 1,⟨some 19,(lD 22 18),none,[],1,[],true⟩,lO 20 93 1,mO 21 5,⟨some 22,(cL 145 #[(xT 20),(xT 21)] #[93,3]),none,[],4,[1],false⟩,⟨some 23,(.buildSlice 22 1 #[(0,(xT 22))]),none,[],5,[1],false⟩,oN 24 (bC .append #[(xT 19),(xT 23)] #[22,22]) [3],fO 25 25 4 1,oS (.store 22 (xT 25) (xT 24))] [1,2,4,14,15]))) (.reg [oO 26 (.binOp .add 3 (xT 15) (nI 1) 3),mO 15 26] [1,2,4,14,15]))))
def l2_unfold_Value : CC := sR [oO 30 (bO .lss 3 29 28 3)] [1,2,4,28,29,30] (.seq (cD 30 (.skip) (.exit 2)) (.keep [1,2,4,28,29] (.seq (.block 3 (sR [mO 31 29,aO 6 31] [1,2,4,6,28,29] (sR [lO 33 93 1,mO 34 6,oO 35 (cL 139 #[(xT 33),(xT 34)] #[93,3]),mO 32 35,xO 36 32 0,xO 37 32 1,oN 7 (.alloc 93) [4],oS (.store 93 (xT 7) (xT 36)),aO 8 37] [1,2,4,7,8,28,29] (.seq (sR [mO 38 8,oO 39 (.binOp .neq 45 (xT 38) (nI 0) 45)] [1,2,4,7,8,28,29,39] (cD 39 (sR [oO 40 (.build 25 #[]),mO 41 8,oS (.store 25 (xT 2) (xT 40)),aO 3 41] [2,3] (.ret)) (.skip))) (.keep [1,2,4,7,28,29] (sR [lO 43 93 7,oO 44 (cL 124 #[(xT 43)] #[93]),mO 42 44,xO 45 42 0,xO 46 42 1,oN 9 (.alloc 25) [5],oS (.store 25 (xT 9) (xT 45)),aO 8 46] [1,2,4,8,9,28,29] (.seq (sR [mO 47 8,oO 48 (.binOp .neq 45 (xT 47) (nI 0) 45)] [1,2,4,8,9,28,29,48] (cD 48 (sR [oO 49 (.build 25 #[]),mO 50 8,oS (.store 25 (xT 2) (xT 49)),aO 3 50] [2,3] (.ret)) (.skip))) (.keep [1,2,4,9,28,29] (.reg [fO 51 25 4 2,lO 52 23 51,lO 53 25 9,oO 54 (.buildSlice 23 1 #[(0,(xT 53))]),oN 55 (bC .append #[(xT 52),(xT 54)] #[23,23]) [6],fO 56 25 4 2,oS (.store 23 (xT 56) (xT 55))] [1,2,4,28,29]))))))))) (.keep [1,2,4,28,29] (.reg [oO 57 (.binOp .add 3 (xT 29) (nI 1) 3),mO 29 57] [1,2,4,28,29]))))) 
def c_unfold_Value : CC := sR [oN 1 (.box 93 (xT 0)) [0],oN 2 (.alloc 25) [1],oO 3 (.assign (nI 0))] [1,2] (sR [lO 10 93 1,oO 11 (cL 101 #[(xT 10)] #[93]),oO 12 (.build 25 #[(0,(xT 11))]),oN 4 (.alloc 25) [2],oS (.store 25 (xT 4) (xT 12))] [1,2,4] (.stop (.seq (sR [lO 13 93 1,oO 14 (cL 137 #[(xT 13)] #[93]),oO 15 (.move (nI 0))] [1,2,4,14,15] (.block 0 (.loop l1_unfold_Value))) (.keep [1,2,4] (.seq (sR [lO 27 93 1,oO 28 (cL 102 #[(xT 27)] #[93]),oO 29 (.move (nI 0))] [1,2,4,28,29] (.block 2 (.loop l2_unfold_Value))) (.keep [2,4] (sR [lO 58 25 4,oS (.store 25 (xT 2) (xT 58)),oO 3 (.assign (nI 0))] [2,3] (.ret))))))))
theorem t_unfold_Value : Txt Tryz.prog 124 59 [(.cell 2 25),(.tmp 3)] c_unfold_Value := txt_of (code := Tryz.f124.body.getD .ret) mixed (by kernel_rfl) Tryz.func124 (by kernel_rfl) Tryz.ntmps124 (by kernel_rfl) (ls := lsOf c_unfold_Value) (by kernel_rfl)
end Go.Proofs.YthfiijdbnkaabaaGreat

namespace Go.Proofs.YthfiijdbnkaabaaGreat
set_option linter.unusedVariables false
set_option linter.unusedSimpArgs false
open Go Go.G Go.Proofs Go.PL
theorem treeWord_spec (t : T) (i : Nat) : G.Spec Tryz.prog 70 [tX t,iv i] (uv (t.words.getD i 0)) := by
  refine spec_of t_tree_Word (by simp) fun w0 I0 => ?_
  unfold c_tree_Word
  have hn : ¬ (i : Int) < 0 := by omega
  by_cases h : i < t.words.length
  · have h2 : ¬ t.words.length≤i := by omega
    simp [h,hn,h2]
    exact frz_is rfl (by simp [h])
  · have h2 : t.words.length≤i := by omega
    simp [h,hn,h2]
    exact frz_is rfl (by simp [List.getElem?_eq_none (Nat.le_of_not_lt h)])
theorem treeKid_spec (t : T) (i : Nat) : G.Spec Tryz.prog 72 [tX t,iv i] (tX (t.kids.getD i T0)) := by
  refine spec_of t_tree_Kid (by simp) fun w0 I0 => ?_
  unfold c_tree_Kid
  have hn : ¬ (i : Int) < 0 := by omega
  by_cases h : i < t.kids.length
  · have h2 : ¬ t.kids.length≤i := by omega
    simp [h,hn,h2]
    exact frz_bare (by simp)
  · have h2 : t.kids.length≤i := by omega
    simp [h,hn,h2]
    exact frz_agg (by simp; exact ⟨frz_bare rfl,frz_sl,frz_sl⟩)
section
variable {n0 : Nat} {w0 : World} {I0 : Nat→Prop} {Q : Exit→Sta→Prop}
theorem value_l1 {l : List (List Int)} (hs : Sg l) {r : Rf} {t : T} (hm : Means l r t) {k : Int}
    (hq : ∀ (q : Bool) (H : Hp),H [0] = ⟨1,.cells (paL l r)⟩→H [2] = ⟨1,.cells [iv k,.osl [3] (t.words.length + 1) 1 0 t.words.length,.osl [6] 1 3 0 0]⟩→H [3] = ⟨t.words.length + 1,.arr 1 (t.words.map uv)⟩→H [6] = ⟨1,.arr 3 []⟩→H [1] = ⟨1,.cells [iv 0,.sl true [],.sl true []]⟩ →
      Q (.exit 0) ⟨lk [(1,.pob [0] 1 0),(2,.pob [1] 1 0),(4,.pob [2] 1 0),(14,iv t.words.length),(15,iv t.words.length),(16,bv q)],H⟩) :
    ∀ (j i : Nat) (H : Hp),i + j = t.words.length→H [0] = ⟨1,.cells (paL l r)⟩→H [2] = ⟨1,.cells [iv k,.osl [3] (i + 1) 1 0 i,.osl [6] 1 3 0 0]⟩→H [3] = ⟨i + 1,.arr 1 ((t.words.take i).map uv)⟩→H [6] = ⟨1,.arr 3 []⟩→H [1] = ⟨1,.cells [iv 0,.sl true [],.sl true []]⟩ →
    LoopC (cx Tryz.prog w0 I0 n0) l1_unfold_Value Q ⟨lk [(1,.pob [0] 1 0),(2,.pob [1] 1 0),(4,.pob [2] 1 0),(14,iv t.words.length),(15,iv i)],H⟩ := by
  obtain ⟨hw1,hw2⟩ := means_word hm
  have hln := means_len hm
  intro j
  induction j with
  | zero =>
    intro i H hi h0 h2 h3 h6 h1
    have : i = t.words.length := by omega
    subst this
    rw [List.take_of_length_le (Nat.le_refl _)] at h3
    refine loopC_once mixed l1_unfold_Value.eq_1 ?_
    simp
    exact hq _ H h0 h2 h3 h6 h1
  | succ j ih =>
    intro i H hi h0 h2 h3 h6 h1
    have hlt : i < t.words.length := by omega
    have ei : IntKind.i64.wrap ((i : Int) + 1) = ((i + 1 : Nat) : Int) := i64_same (by omega) (by omega)
    have htk : (t.words.take (i + 1)).map uv = (t.words.take i).map uv ++ [uv t.words[i]] := by rw [List.take_succ_eq_append_getElem hlt,List.map_append]; rfl
    refine loopC_once mixed l1_unfold_Value.eq_1 ?_
    simp [hlt,h0,h2]
    refine sc_call (word_spec' hs (means_ok hm) i) (by simp) ?_
    rw [hw2 i hlt]
    simp [h2,h3,ei,updF_app]
    refine ⟨⟨by omega,by omega⟩,?_⟩
    refine ih (i + 1) _ (by omega) (by simp [updF_app,h0]) (by simp [updF_app]) ?_ (by simp [updF_app,h6]) (by simp [updF_app,h1])
    rw [htk]
    simp [updF_app,List.take_take]
theorem value_l2 {l : List (List Int)} (hs : Sg l) {r : Rf} {t : T} (hm : Means l r t) {k : Int} {c1 : A} {X : VOb} (ih0 : ∀ c,c ∈ t.kids→∀ x,Means l x c→G.Spec Tryz.prog 124 [paX l x] (.tup [tX c,iv 0]))
    (hq : ∀ (q : Bool) (H : Hp),H [2] = ⟨1,.cells [iv k,c1,.osl [6] (t.kids.length + 1) 3 0 t.kids.length]⟩→H [6] = ⟨t.kids.length + 1,.arr 3 (t.kids.map tA)⟩→H [3] = X→H [1] = ⟨1,.cells [iv 0,.sl true [],.sl true []]⟩ →
      Q (.exit 2) ⟨lk [(1,.pob [0] 1 0),(2,.pob [1] 1 0),(4,.pob [2] 1 0),(28,iv t.kids.length),(29,iv t.kids.length),(30,bv q)],H⟩) :
    ∀ (j i : Nat) (H : Hp),i + j = t.kids.length→H [0] = ⟨1,.cells (paL l r)⟩→H [2] = ⟨1,.cells [iv k,c1,.osl [6] (i + 1) 3 0 i]⟩→H [6] = ⟨i + 1,.arr 3 ((t.kids.take i).map tA)⟩→H [3] = X→H [1] = ⟨1,.cells [iv 0,.sl true [],.sl true []]⟩ →
    LoopC (cx Tryz.prog w0 I0 n0) l2_unfold_Value Q ⟨lk [(1,.pob [0] 1 0),(2,.pob [1] 1 0),(4,.pob [2] 1 0),(28,iv t.kids.length),(29,iv i)],H⟩ := by
  have hln := means_len hm
  intro j
  induction j with
  | zero =>
    intro i H hi h0 h2 h6 h3 h1
    have : i = t.kids.length := by omega
    subst this
    rw [List.take_of_length_le (Nat.le_refl _)] at h6
    refine loopC_once mixed l2_unfold_Value.eq_1 ?_
    simp
    exact hq _ H h2 h6 h3 h1
  | succ j ih =>
    intro i H hi h0 h2 h6 h3 h1
    have hlt : i < t.kids.length := by omega
    obtain ⟨k1,k2⟩ := means_kid hm hlt
    have ei : IntKind.i64.wrap ((i : Int) + 1) = ((i + 1 : Nat) : Int) := i64_same (by omega) (by omega)
    have htk : (t.kids.take (i + 1)).map tA = (t.kids.take i).map tA ++ [tA t.kids[i]] := by rw [List.take_succ_eq_append_getElem hlt,List.map_append]; rfl
    refine loopC_once mixed l2_unfold_Value.eq_1 ?_
    simp [hlt,h0]
    refine sc_call (kid_spec hs (means_ok hm) i) (by simp) ?_
    rw [k1]
    simp [updF_app,h0]
    refine sc_call (ih0 _ (List.getElem_mem hlt) _ k2) (by simp) ?_
    simp [updF_app,h2,h6,ei]
    refine ⟨⟨by omega,by omega⟩,?_⟩
    refine ih (i + 1) _ (by omega) (by simp [updF_app,h0]) (by simp [updF_app]) ?_ (by simp [updF_app,h3]) (by simp [updF_app,h1])
    rw [htk]
    simp [updF_app,List.take_take]
end
theorem value_spec {l : List (List Int)} (hs : Sg l) : ∀ (t : T) (r : Rf),Means l r t→G.Spec Tryz.prog 124 [paX l r] (.tup [tX t,iv 0]) := by
  refine T.ind fun k w ks ih r hm => ?_
  refine spec_of t_unfold_Value (by simp) fun w0 I0 => ?_
  unfold c_unfold_Value
  simp
  refine sc_call (refKind_spec l r) (by simp) ?_
  simp
  refine stop_le (le_blankC (d := [2]) (u := 1) (cs := [iv r.kind,.sl true [],.sl true []]) 1 [3] 1 (by simp) rfl (by simp)) ?_
  refine stop_le (le_blankC (d := [2]) (u := 1) (cs := [iv r.kind,.osl [3] 1 1 0 0,.sl true []]) 2 [6] 3 (by simp [updF_app]) rfl (by simp)) (stop_go ?_)
  simp [updF_app]
  refine sc_call (refWords_spec' l r) (by simp) ?_
  rw [(means_word hm).1]
  simp [updF_app]
  refine value_l1 hs hm (k := r.kind) (fun q H h0 h2 h3 h6 h1 => ?_) w.length 0 _ (by simp) (by simp [updF_app]) (by simp [updF_app]) (by simp [updF_app]) (by simp [updF_app]) (by simp [updF_app])
  simp [h0]
  refine sc_call (refKids_spec' l r) (by simp) ?_
  rw [means_nk hm]
  simp
  refine value_l2 hs hm (k := r.kind) (c1 := .osl [3] (w.length + 1) 1 0 w.length) (X := ⟨w.length + 1,.arr 1 (w.map uv)⟩) ih (fun q H' h2' h6' h3' h1' => ?_) ks.length 0 H (by simp) h0 h2 (by simpa using h6) h3 h1
  simp [h2',h1',updF_app]
  rw [means_kind hm]
  exact frz_tup ⟨frz_agg ⟨frz_bare rfl,frz_row (f := uv) (l := w) (by simp [updF_app,h3']) rfl (fun x => by simp),frz_row (f := tA) (l := ks) (by simp [updF_app,h6']) rfl (fun x => by simp),trivial⟩,frz_bare rfl,trivial⟩
end Go.Proofs.YthfiijdbnkaabaaGreat

namespace Go.Proofs.YthfiijdbnkaabaaGreat
set_option linter.unusedVariables false
set_option linter.unusedSimpArgs false
open Go Go.G Go.Proofs Go.PL
mutual
theorem shallow_range : ∀ (t : T) (d : Nat) (n : Int),-1≤shallow d n t∧(-1≤n→shallow d n t≤n)
  | .mk k w l,d,n => by
    rw [shallow_mk]
    split
    · omega
    · have := shallowL_range l (d - 1) (n - 1 - w.length) (by omega)
      omega
theorem shallowL_range : ∀ (l : List T) (d : Nat) (n : Int),-1≤n→-1≤shallowL d n l∧shallowL d n l≤n
  | [],d,n,h => by simp; omega
  | t :: l,d,n,h => by
    rw [shallowL_cons]
    split
    · omega
    · have h1 := shallow_range t d n
      have h2 := shallowL_range l d (shallow d n t) h1.1
      omega
end
theorem shallowL_neg (l : List T) (d : Nat) {n : Int} (h : n < 0) : shallowL d n l = n := by
  cases l with
  | nil => simp
  | cons t l => simp [h]
section
variable {n0 : Nat} {w0 : World} {I0 : Nat→Prop} {Q : Exit→Sta→Prop}
theorem shallow_l1 {t : T} {d : Nat} (hd : 1≤d) (hd1 : d≤1000) (hl : t.kids.length * 56≤140737488355328) (ih : ∀ c,c ∈ t.kids→∀ (d : Nat) (n : Int),d≤1000→0≤n→n≤1000000→G.Spec Tryz.prog 45 [tX c,iv d,iv n] (iv (shallow d n c)))
    {H : Hp} (hH : H [0] = ⟨1,.cells [iv t.kind,uws t.words,tKs t.kids]⟩) : ∀ (m i : Nat) (n : Int),i + m = t.kids.length→-1≤n→n≤1000000 →
    (∀ i' q,Q (.exit 0) ⟨lk [(1,iv d),(2,iv (shallowL (d - 1) n (t.kids.drop i))),(3,.pob [0] 1 0),(7,iv i'),(28,bv q)],H⟩) →
    LoopC (cx Tryz.prog w0 I0 n0) l1_centoref07_Shallow Q ⟨lk [(1,iv d),(2,iv n),(3,.pob [0] 1 0),(7,iv i)],H⟩ := by
  intro m
  induction m with
  | zero =>
    intro i n hi h1 h2 hq
    have : i = t.kids.length := by omega
    subst this
    refine loopC_once mixed l1_centoref07_Shallow.eq_1 ?_
    simp [hH]
    simpa using hq _ false
  | succ m ihm =>
    intro i n hi h1 h2 hq
    have hlt : i < t.kids.length := by omega
    refine loopC_once mixed l1_centoref07_Shallow.eq_1 ?_
    have e : t.kids.drop i = t.kids[i] :: t.kids.drop (i + 1) := List.drop_eq_getElem_cons hlt
    by_cases hn : n < 0
    · simp [hH,hlt,show ¬ (0 : Int)≤n by omega]
      have := hq i false
      rwa [shallowL_neg _ _ hn] at this
    · have hn' : 0≤n := by omega
      simp [hH,hlt,hn']
      have ed : IntKind.i64.wrap ((d : Int) - 1) = ((d - 1 : Nat) : Int) := by rw [i64_same (by omega) (by omega)]; omega
      rw [ed]
      refine sc_call (ih _ (List.getElem_mem hlt) (d - 1) n (by omega) hn' h2) rfl ?_
      simp
      have hr := shallow_range t.kids[i] (d - 1) n
      rw [i64_same (by omega) (by omega)]
      refine ihm (i + 1) _ (by omega) hr.1 (by omega) fun i' q => ?_
      have := hq i' q
      rw [e,shallowL_cons,if_neg (by omega)] at this
      exact this
end
theorem shallow_spec : ∀ (t : T),wfT t→∀ (d : Nat) (n : Int),d≤1000→0≤n→n≤1000000→G.Spec Tryz.prog 45 [tX t,iv d,iv n] (iv (shallow d n t)) := by
  refine T.ind fun k w l ih hw d n hd hn hn1 => ?_
  have hw' := wfT_iff.1 hw
  have hwl := hw'.wl
  have hkl := hw'.kl
  simp at hwl hkl
  have ihc : ∀ c,c ∈ (T.mk k w l).kids→∀ (d : Nat) (n : Int),d≤1000→0≤n→n≤1000000→G.Spec Tryz.prog 45 [tX c,iv d,iv n] (iv (shallow d n c)) := fun c hc => ih c hc (hw'.ks c hc)
  refine spec_of t_centoref07_Shallow (by simp) fun w0 I0 => ?_
  unfold c_centoref07_Shallow
  have e1 : IntKind.i64.wrap (IntKind.i64.wrap (n - 1) - (w.length : Int)) = n - 1 - w.length := by rw [i64_same (n := n - 1) (by omega) (by omega),i64_same (by omega) (by omega)]
  rw [shallow_mk]
  by_cases hc : d = 0∨n - 1 - (w.length : Int) < 0
  · have hd : (decide (d = 0) || decide (n - 1 - (w.length : Int) < 0)) = true := by simp; omega
    simp [e1,hd,hc]
    exact frz_bare rfl
  · have hd : (decide (d = 0) || decide (n - 1 - (w.length : Int) < 0)) = false := by simp; omega
    simp [e1,hd,hc]
    refine shallow_l1 (t := .mk k w l) (by omega) (by omega) hkl ihc (by simp) l.length 0 _ (by simp) (by omega) (by omega) fun i' q => ?_
    simp
    exact frz_bare rfl
def fewT (t : T) : Bool := decide (0≤shallow 80 3000 t)
theorem few_spec {t : T} (h : wfT t) : G.Spec Tryz.prog 19 [tX t] (bv (fewT t)) := by
  refine spec_of t_centoref07_Few (by simp) fun w0 I0 => ?_
  unfold c_centoref07_Few
  simp
  refine sc_call (shallow_spec t h 80 3000 (by omega) (by omega) (by omega)) rfl ?_
  simp
  exact frz_bare rfl
end Go.Proofs.YthfiijdbnkaabaaGreat

namespace Go.Proofs.YthfiijdbnkaabaaGreat
set_option linter.unusedVariables false
set_option linter.unusedSimpArgs false
open Go Go.G Go.Proofs Go.PL
abbrev tL (t : T) : List A := [iv t.kind,uws t.words,tKs t.kids]
section
variable {n0 : Nat} {w0 : World} {I0 : Nat→Prop} {Q : Exit→Sta→Prop}
end
section
variable {n0 : Nat} {w0 : World} {I0 : Nat→Prop} {Q : Exit→Sta→Prop}
theorem same_l1 {a b : T} (hl : a.kids.length * 56≤140737488355328) (hn : a.kids.length = b.kids.length) (ih : ∀ c,c ∈ a.kids→∀ u,G.Spec Tryz.prog 14 [tX c,tX u] (bv (sameB c u)))
    {H : Hp} (hA : H [0] = ⟨1,.cells (tL a)⟩) (hB : H [1] = ⟨1,.cells (tL b)⟩) : ∀ (m i : Nat),i + m = a.kids.length→a.kids.take i = b.kids.take i→(a.kids = b.kids→∀ i' q,Q (.exit 0) ⟨lk [(2,.pob [0] 1 0),(3,.pob [1] 1 0),(5,iv i'),(32,bv q)],H⟩)→(a.kids ≠ b.kids→Q .ret ⟨lk [(4,bv false)],H⟩) →
    LoopC (cx Tryz.prog w0 I0 n0) l1_centoref07_Same Q ⟨lk [(2,.pob [0] 1 0),(3,.pob [1] 1 0),(5,iv i)],H⟩ := by
  intro m
  induction m with
  | zero =>
    intro i hi ht h1 h2
    have : i = a.kids.length := by omega
    subst this
    refine loopC_once mixed l1_centoref07_Same.eq_1 ?_
    simp [hA,hB]
    refine h1 ?_ _ _
    rw [List.take_of_length_le (Nat.le_refl _),List.take_of_length_le (by omega)] at ht
    exact ht
  | succ m ihm =>
    intro i hi ht h1 h2
    have hlt : i < a.kids.length := by omega
    have hlt' : i < b.kids.length := by omega
    refine loopC_once mixed l1_centoref07_Same.eq_1 ?_
    simp [hA,hB,hlt,hlt']
    refine sc_call (ih _ (List.getElem_mem hlt) b.kids[i]) rfl ?_
    simp
    cases hs : sameB a.kids[i] b.kids[i] with
    | false =>
      simp
      refine h2 fun e => ?_
      have : a.kids[i] = b.kids[i] := by simp [e]
      rw [← sameB_iff,hs] at this
      cases this
    | true =>
      simp
      rw [i64_same (by omega) (by omega)]
      refine ihm (i + 1) (by omega) ?_ h1 h2
      rw [List.take_succ_eq_append_getElem hlt,List.take_succ_eq_append_getElem hlt',ht,sameB_iff.1 hs]
end
set_option maxRecDepth 8000 in
theorem rTSame_spec : ∀ (a : T),wfT a→∀ b : T,G.Spec Tryz.prog 14 [tX a,tX b] (bv (sameB a b)) := by
  refine T.ind fun k w l ih hw b => ?_
  have hw' := wfT_iff.1 hw
  have hwl := hw'.wl
  have hkl := hw'.kl
  simp at hwl hkl
  refine spec_of t_centoref07_Same (by simp) fun w0 I0 => ?_
  unfold c_centoref07_Same
  have no : (k ≠ b.kind∨w ≠ b.words∨l ≠ b.kids)→sameB (.mk k w l) b = false := fun h => by
    rw [Bool.eq_false_iff]
    intro e
    have := sameB_iff.1 e
    subst this
    simp at h
  by_cases h1 : k = b.kind
  · by_cases h2 : w = b.words
    · by_cases h3 : l.length = b.kids.length
      · simp [h1]
        refine sc_call_gf rfl (fun _ => rSame_spec w b.words hwl) (fun _ => rfl) rfl ?_
        simp [h2,h3]
        refine same_l1 (a := .mk k w l) (b := b) hkl h3 (fun c hc u => ih c hc (hw'.ks c hc) u) (by simp [h1,h2]) (by simp) l.length 0 (by simp) rfl (fun e i' q => ?_) (fun e => ?_)
        · simp
          have : sameB (.mk k w l) b = true := sameB_iff.2 (T.ext' h1 h2 e)
          rw [← h1,← h2,this]
          exact frz_bare rfl
        · simp
          rw [← h1,← h2,no (.inr (.inr e))]
          exact frz_bare rfl
      · simp [h1]
        refine sc_call_gf rfl (fun _ => rSame_spec w b.words hwl) (fun _ => rfl) rfl ?_
        simp [h2,h3]
        refine ⟨fun h => absurd (by omega) h3,fun _ => ?_⟩
        rw [← h1,← h2,no (.inr (.inr fun e => h3 (by rw [e])))]
        exact frz_bare rfl
    · simp [h1]
      refine sc_call_gf rfl (fun _ => rSame_spec w b.words hwl) (fun _ => rfl) rfl ?_
      simp [h2]
      rw [← h1,no (.inr (.inl h2))]
      exact frz_bare rfl
  · simp [h1]
    refine sc_call_off rfl ?_
    simp
    rw [no (.inl h1)]
    exact frz_bare rfl
section
variable {n0 : Nat} {w0 : World} {I0 : Nat→Prop} {Q : Exit→Sta→Prop}
theorem norm_l1 {t : T} (hl : t.kids.length * 56≤140737488355328) (ih : ∀ c,c ∈ t.kids→G.Spec Tryz.prog 56 [tX c] (tX (norm c))) {v : VOb} : ∀ (m i : Nat) (u : Nat) (H : Hp),i + m = t.kids.length→H [0] = ⟨1,.cells (tL t)⟩→H [1] = v→H [3] = ⟨u,.arr 3 (((t.kids.take i).map norm).map tA)⟩ →
    (∀ i' q (u' : Nat) (H' : Hp),H' [0] = ⟨1,.cells (tL t)⟩→H' [1] = v→H' [3] = ⟨u',.arr 3 ((t.kids.map norm).map tA)⟩→Q (.exit 0) ⟨lk [(1,.pob [0] 1 0),(2,.pob [1] 1 0),(3,.osl [3] u' 3 0 t.kids.length),(4,iv (trimK t.kids).length),(5,iv i'),(16,bv q)],H'⟩) →
    LoopC (cx Tryz.prog w0 I0 n0) l1_centoref07_Norm Q ⟨lk [(1,.pob [0] 1 0),(2,.pob [1] 1 0),(3,.osl [3] u 3 0 i),(4,iv (trimK (t.kids.take i)).length),(5,iv i)],H⟩ := by
  intro m
  induction m with
  | zero =>
    intro i u H hi hA hR hB hq
    have : i = t.kids.length := by omega
    subst this
    refine loopC_once mixed l1_centoref07_Norm.eq_1 ?_
    simp [hA]
    have := hq t.kids.length false u H hA hR (by rw [hB]; simp)
    simpa using this
  | succ m ihm =>
    intro i u H hi hA hR hB hq
    have hlt : i < t.kids.length := by omega
    refine loopC_once mixed l1_centoref07_Norm.eq_1 ?_
    simp [hA,hlt]
    refine sc_call (ih _ (List.getElem_mem hlt)) rfl ?_
    simp [updF_app,hB]
    have ei : IntKind.i64.wrap ((i : Int) + 1) = ((i + 1 : Nat) : Int) := i64_same (by omega) (by omega)
    have hrow := row_succ (f := tA ∘ norm) hlt (x := A.agg [iv t.kids[i].kind,uws (norm t.kids[i]).words,tKs (norm t.kids[i]).kids]) (by simp)
    rw [hrow]
    refine ⟨⟨by omega,by omega⟩,fun h => ?_,fun h => ?_⟩
    · rw [ei,← trimK_zero hlt h]
      exact ihm (i + 1) (u + 1) _ (by omega) (by simp [updF_app,hA]) (by simp [updF_app,hR]) (by simp [updF_app]) hq
    · have ek : (trimK (t.kids.take (i + 1))).length = i + 1 := by rw [trimK_stop hlt h]; simp; omega
      rw [ei]
      have := fun H h1 h2 h3 => ihm (i + 1) (u + 1) H (by omega) h1 h2 h3 hq
      rw [ek] at this
      exact this _ (by simp [updF_app,hA]) (by simp [updF_app,hR]) (by simp [updF_app])
end
theorem rNorm_spec : ∀ (t : T),wfT t→G.Spec Tryz.prog 56 [tX t] (tX (norm t)) := by
  refine T.ind fun k w l ih hw => ?_
  have hw' := wfT_iff.1 hw
  have hwl := hw'.wl
  have hkl := hw'.kl
  simp at hwl hkl
  refine spec_of t_centoref07_Norm (by simp) fun w0 I0 => ?_
  unfold c_centoref07_Norm
  rw [norm_mk]
  by_cases h0 : k = 0
  · simp [h0]
    exact frz_T0
  · simp [h0]
    refine LoopC.le (le_blank 3 [3] 3 (by simp)) ?_
    simp
    refine LoopC.le (le_list [(1,.pob [0] 1 0),(2,.pob [1] 1 0),(3,.osl [3] 1 3 0 0),(4,iv 0),(5,iv 0)] (by simp [upd])) ?_
    refine norm_l1 (t := .mk k w l) (by simpa using hkl) (fun c hc => ih c hc (hw'.ks c hc)) l.length 0 1 _ (by simp) (by simp) rfl (by simp) fun i' q u' H' hA hR hB => ?_
    have hle := trimK_le l
    by_cases h1 : k = 1
    · subst h1
      simp at hA hR hB
      simp [hA,hR,hB,hle,updF_app]
      refine sc_call (rTrim_spec w hwl) rfl ?_
      simp [hA,hR,hB,hle,updF_app]
      refine frz_agg ?_
      simp
      rw [trimK_map]
      refine ⟨frz_bare rfl,frz_bare rfl,?_⟩
      have := frz_rowT (H := updF H' [1] ⟨1,.cells [A.v (Value.int IntKind.i64 1),A.sl false (List.map uv (trimW w)),A.osl [3] u' 3 0 (trimK l).length]⟩) (o := [3]) (u := u') (sz := 3) (l := l) (f := tA ∘ norm) (by simp [updF_app,hB]) hle (by simp)
      rw [← List.map_take]
      show Frz _ _ (A.sl false (((l.take (trimK l).length).map norm).map tA))
      rw [List.map_map]
      exact this
    · simp at hA hR hB
      simp [hA,hR,hB,h1,updF_app]
      refine ⟨hwl,frz_agg ?_⟩
      simp
      refine ⟨frz_bare rfl,frz_row (by simp [updF_app]) rfl (by simp),?_⟩
      have := frz_row (H := updF (updF H' [4] { u := (H' [4]).u + 1,ob := Ob.arr 1 (List.map uv w) }) [1] ⟨1,.cells [A.v (Value.int IntKind.i64 k),A.osl [4] ((H' [4]).u + 1) 1 0 w.length,A.osl [3] u' 3 0 l.length]⟩) (o := [3]) (u := u') (sz := 3) (l := l) (f := tA ∘ norm) (by simp [updF_app,hB]) rfl (by simp)
      show Frz _ _ (A.sl false ((l.map norm).map tA))
      rw [List.map_map]
      exact this
theorem rEqual_spec {a b : T} (ha : wfT a) (hb : wfT b) (hn : wfT (norm a)) : G.Spec Tryz.prog 43 [tX a,tX b] (bv (eqT a b)) := by
  refine spec_of t_centoref07_Equal (by simp) fun w0 I0 => ?_
  unfold c_centoref07_Equal
  simp
  refine sc_call (rNorm_spec a ha) rfl ?_
  simp
  refine sc_call (rNorm_spec b hb) rfl ?_
  simp
  refine sc_call (rTSame_spec (norm a) hn (norm b)) rfl ?_
  simp
  exact frz_bare rfl
end Go.Proofs.YthfiijdbnkaabaaGreat

namespace Go.Proofs.YthfiijdbnkaabaaGreat
set_option linter.unusedVariables false
set_option linter.unusedSimpArgs false
open Go Go.G Go.Proofs Go.PL
abbrev LB (l : List (List Int)) (B : Int) (rec : Rf→Int→T × Int × Int) : Prop := ∀ r,RfOk l r→∀ left : Int,0≤left→left≤B→0≤(rec r left).2.1∧(rec r left).2.1≤B
theorem loopM_lb {B : Int} {f : Nat→Int→T × Int × Int} (hf : ∀ i left,0≤left→left≤B→0≤(f i left).2.1∧(f i left).2.1≤B) : ∀ (m i : Nat) (acc : List T) (left : Int),0≤left→left≤B→0≤(loopM f m i acc left).2.1∧(loopM f m i acc left).2.1≤B
  | 0,i,acc,left,h0,h1 => ⟨h0,h1⟩
  | m + 1,i,acc,left,h0,h1 => by
    rw [loopM]
    have := hf i left h0 h1
    split
    · exact this
    · exact loopM_lb hf m _ _ _ this.1 this.2
theorem stepM_lb {l : List (List Int)} (hw : Wds l) {B : Int} {rec : Rf→Int→T × Int × Int} (h : LB l B rec) {r : Rf} (hr : RfOk l r) (i : Nat) (left : Int) (h0 : 0≤left) (h1 : left≤B) : 0≤(stepM l rec r i left).2.1∧(stepM l rec r i left).2.1≤B := by
  unfold stepM
  split
  · exact ⟨h0,h1⟩
  · exact h _ (kid_ok hw hr i) _ h0 h1
theorem kidsM_lb {l : List (List Int)} (hw : Wds l) {B : Int} {rec : Rf→Int→T × Int × Int} (h : LB l B rec) : LB l B (kidsM l rec) := fun r hr left h0 h1 =>
  loopM_lb (stepM_lb hw h hr) _ _ _ _ h0 h1
theorem leafM_lb {l : List (List Int)} {B : Int} : LB l B (leafM l) := fun r hr left h0 h1 => ⟨h0,h1⟩
theorem costM_pos {l : List (List Int)} {r : Rf} (hr : RfOk l r) : 1≤costM r∧costM r≤100000000000000 := by
  cases hr with
  | zero => simp [costM,nk,Rf.zero]
  | str s a d k a1 a2 a3 a4 h => simp [costM]; omega
  | dat c s a n a1 a2 a3 a4 h => simp [costM,nk]; rw [if_neg (by omega),if_neg (by omega),if_neg (by omega)]; omega
  | ptrs s a n a1 a2 h => simp [costM,nk]; omega
  | comp s a d k n a1 a2 a3 a4 a5 a6 h =>
    simp [costM]
    have m1 : 0≤n * (1 + d + k) := Int.mul_nonneg (by omega) (by omega)
    have m2 : n * (1 + d + k)≤536870912 * (1 + d + k) := mul_le_of (by omega) (by omega)
    omega
  | atom n a1 a2 => simp [costM,nk]
theorem restM_lb {l : List (List Int)} (hw : Wds l) {B : Int} {r : Rf} (hr : RfOk l r) {rec1 rec2 : Rf→Int→T × Int × Int} (h1 : LB l B rec1) (h2 : LB l B rec2) {left : Int} (h3 : ¬ left < costM r) (h4 : left≤B) : 0≤(restM l r rec1 rec2 left).2.1∧(restM l r rec1 rec2 left).2.1≤B := by
  have := costM_pos hr
  unfold restM
  refine loopM_lb (stepM_lb hw ?_ hr) _ _ _ _ (by omega) (by omega)
  split
  · exact kidsM_lb hw h2
  · split
    · exact h1
    · exact leafM_lb
theorem meaning_lb {l : List (List Int)} (hw : Wds l) {B : Int} : ∀ d : Nat,LB l B (meaning l d)
  | 0,r,hr,left,h0,h1 => by
    rw [meaning]; split <;> exact ⟨h0,h1⟩
  | 1,r,hr,left,h0,h1 => by
    rw [meaning]
    split
    · exact ⟨h0,h1⟩
    · split
      · exact ⟨h0,h1⟩
      · split
        · exact ⟨h0,h1⟩
        · rename_i hc
          exact restM_lb hw hr (meaning_lb hw 0) (fun r hr left h0 h1 => ⟨h0,h1⟩) hc h1
  | d + 2,r,hr,left,h0,h1 => by
    rw [meaning]
    split
    · exact ⟨h0,h1⟩
    · split
      · exact ⟨h0,h1⟩
      · rename_i hc
        exact restM_lb hw hr (meaning_lb hw (d + 1)) (meaning_lb hw d) hc h1
theorem kids_in {l : List (List Int)} {r : Rf} (hr : RfOk l r) : 0≤r.kids∧r.kids < 65536 := by
  cases hr <;> simp [Rf.zero] <;> omega
section
variable {n0 : Nat} {w0 : World} {I0 : Nat→Prop} {Q : Exit→Sta→Prop}
end
end Go.Proofs.YthfiijdbnkaabaaGreat

namespace Go.Proofs.YthfiijdbnkaabaaGreat
set_option linter.unusedVariables false
set_option linter.unusedSimpArgs false
open Go Go.G Go.Proofs Go.PL
def recM (l : List (List Int)) (r : Rf) (rec1 rec2 : Rf→Int→T × Int × Int) : Rf→Int→T × Int × Int := if r.kind = 9 then kidsM l rec2 else if r.kind = 1∨r.kind = 8 then rec1 else leafM l
section
variable {n0 : Nat} {w0 : World} {I0 : Nat→Prop} {Q : Exit→Sta→Prop}
end
end Go.Proofs.YthfiijdbnkaabaaGreat

namespace Go.Proofs.YthfiijdbnkaabaaGreat
set_option linter.unusedVariables false
set_option linter.unusedSimpArgs false
open Go Go.G Go.Proofs Go.PL
def clampZ (x m : Int) : Int := if x < 0 then 0 else if m < x then m else x
abbrev liX (a b c d : Int) : A := .agg [iv a,iv b,iv c,iv d]
def unfP (l : List (List Int)) (a b : Int) : T × Int × Int :=
  if (atP l 0 0).2 ≠ 0 then (T0,0,(atP l 0 0).2)
  else if (meaning l (clampZ a 64).toNat (atP l 0 0).1 (clampZ b 65536)).2.2 ≠ 0 then (T0,0,(meaning l (clampZ a 64).toNat (atP l 0 0).1 (clampZ b 65536)).2.2)
  else ((meaning l (clampZ a 64).toNat (atP l 0 0).1 (clampZ b 65536)).1,clampZ b 65536 - (meaning l (clampZ a 64).toNat (atP l 0 0).1 (clampZ b 65536)).2.1,0)
theorem clamp_in (x m : Int) (h : 0≤m) : 0≤clampZ x m∧clampZ x m≤m := by
  unfold clampZ; split
  · omega
  · split <;> omega
theorem unfold_means {l : List (List Int)} (hs : Sg l) {a b : Int} (h : (unfP l a b).2.2 = 0) : Means l (atP l 0 0).1 (unfP l a b).1 := by
  unfold unfP at h ⊢
  split at h
  · rename_i h0; exact absurd h h0
  · rename_i h0
    rw [if_neg h0]
    split at h
    · rename_i h1; exact absurd h h1
    · rename_i h1
      rw [if_neg h1]
      exact meaning_means hs.w _ _ _ (at_ok hs.w 0 0) (by omega)
end Go.Proofs.YthfiijdbnkaabaaGreat

namespace Go.PL
set_option linter.unusedVariables false
set_option linter.unusedSimpArgs false
def ptrZ (at_ to kind upper : Int) : Int := 4 * (if to - at_ - 1 < 0 then to - at_ - 1 + 1073741824 else to - at_ - 1) + kind + upper * 4294967296
def putL (w : Nat) : List Int→Nat→List Int→List Int
  | [],_,out => out
  | n :: ns,i,out => putL w ns (i + 1) (if w = 0 then out else out.set (i * w / 64) (out.getD (i * w / 64) 0 + n * 2 ^ (i * w % 64)))
def putZ (c : Int) (ns : List Int) : List Int := putL (widthZ c).toNat ns 0 (List.replicate (roomZ c ns.length).toNat 0)
def hd (t : T) : Int := t.words.headD 0
def setW : Nat→List Int→List Int→List Int
  | _,[],l => l
  | b,x :: ws,l => setW (b + 1) ws (l.set b x)
def rowsC (w k : Nat) : List T→List Int
  | [] => []
  | t :: ts => t.words ++ List.replicate (w + k - t.words.length) 0 ++ rowsC w k ts
mutual
def layT : T→Nat→List Int→List Int
  | .mk k w ks,at_,l =>
    if k = 0 then l
    else if k = 1 then layL ks (l.length + w.length) (l.set at_ (ptrZ at_ (if w.length + ks.length = 0 then at_ else l.length) 0 ((w.length : Int) + 65536 * ks.length)) ++ w ++ List.replicate ks.length 0)
    else if k = 8 then layL ks l.length (l.set at_ (ptrZ at_ l.length 1 (6 + 8 * ks.length)) ++ List.replicate ks.length 0)
    else if k = 9 then layC (frameW ks) (frameK ks) ks (l.length + 1) (l.set at_ (ptrZ at_ l.length 1 (7 + 8 * (ks.length * (frameW ks + frameK ks) : Nat))) ++ [4 * (ks.length : Int) + 4294967296 * ((frameW ks : Int) + 65536 * frameK ks)] ++ rowsC (frameW ks) (frameK ks) ks)
    else l.set at_ (ptrZ at_ l.length 1 (k - 2 + 8 * ks.length)) ++ putZ (k - 2) (ks.map hd)
def layL : List T→Nat→List Int→List Int
  | [],_,l => l
  | t :: ts,at_,l => layL ts (at_ + 1) (layT t at_ l)
def layC (w k : Nat) : List T→Nat→List Int→List Int
  | [],_,l => l
  | .mk _ _ ks :: ts,at_,l => layC w k ts (at_ + (w + k)) (layL ks (at_ + w) l)
end
theorem layT_mk (k : Int) (w : List Int) (ks : List T) (at_ : Nat) (l : List Int) : layT (.mk k w ks) at_ l = if k = 0 then l
    else if k = 1 then layL ks (l.length + w.length) (l.set at_ (ptrZ at_ (if w.length + ks.length = 0 then at_ else l.length) 0 ((w.length : Int) + 65536 * ks.length)) ++ w ++ List.replicate ks.length 0)
    else if k = 8 then layL ks l.length (l.set at_ (ptrZ at_ l.length 1 (6 + 8 * ks.length)) ++ List.replicate ks.length 0)
    else if k = 9 then layC (frameW ks) (frameK ks) ks (l.length + 1) (l.set at_ (ptrZ at_ l.length 1 (7 + 8 * (ks.length * (frameW ks + frameK ks) : Nat))) ++ [4 * (ks.length : Int) + 4294967296 * ((frameW ks : Int) + 65536 * frameK ks)] ++ rowsC (frameW ks) (frameK ks) ks)
    else l.set at_ (ptrZ at_ l.length 1 (k - 2 + 8 * ks.length)) ++ putZ (k - 2) (ks.map hd) := by rw [layT]
@[simp] theorem layL_nil (at_ : Nat) (l : List Int) : layL [] at_ l = l := by rw [layL]
@[simp] theorem layL_cons (t : T) (ts : List T) (at_ : Nat) (l : List Int) : layL (t :: ts) at_ l = layL ts (at_ + 1) (layT t at_ l) := by rw [layL]
@[simp] theorem layC_nil (w k at_ : Nat) (l : List Int) : layC w k [] at_ l = l := by rw [layC]
@[simp] theorem layC_cons (w k : Nat) (t : T) (ts : List T) (at_ : Nat) (l : List Int) : layC w k (t :: ts) at_ l = layC w k ts (at_ + (w + k)) (layL t.kids (at_ + w) l) := by cases t; rw [layC]; rfl
theorem putL_length : ∀ (w : Nat) (ns : List Int) (i : Nat) (out : List Int),(putL w ns i out).length = out.length
  | w,[],i,out => rfl
  | w,n :: ns,i,out => by
    rw [putL,putL_length]
    split <;> simp
@[simp] theorem putZ_length (c : Int) (ns : List Int) : (putZ c ns).length = (roomZ c ns.length).toNat := by simp [putZ,putL_length]
@[simp] theorem setW_length : ∀ (b : Nat) (ws l : List Int),(setW b ws l).length = l.length
  | _,[],_ => rfl
  | b,x :: ws,l => by rw [setW,setW_length,List.length_set]
structure PutI (w i : Nat) (out : List Int) : Prop where
  rng : ∀ (j : Nat) (h : j < out.length),0≤out[j]∧out[j] < 18446744073709551616
  here : ∀ (h : i * w / 64 < out.length),out[i * w / 64] < 2 ^ (i * w % 64)
  zero : ∀ (j : Nat) (h : j < out.length),i * w / 64 < j→out[j] = 0
theorem PutI.start (w m : Nat) : PutI w 0 (List.replicate m 0) := ⟨fun j h => by simp,fun h => by simp,fun j h _ => by simp⟩
theorem putI_step {w i : Nat} {out : List Int} (h : PutI w i out) (hw : w = 1∨w = 8∨w = 16∨w = 32∨w = 64) {n : Int} (h0 : 0≤n) (h1 : n < 2 ^ w) (hl : i * w / 64 < out.length) : PutI w (i + 1) (out.set (i * w / 64) (out.getD (i * w / 64) 0 + n * 2 ^ (i * w % 64))) ∧
    0≤out.getD (i * w / 64) 0∧out.getD (i * w / 64) 0 < 2 ^ (i * w % 64)∧n * 2 ^ (i * w % 64) < 18446744073709551616∧out.getD (i * w / 64) 0 + n * 2 ^ (i * w % 64) < 18446744073709551616 := by
  have hg : out.getD (i * w / 64) 0 = out[i * w / 64] := by simp [hl]
  rw [hg]
  obtain ⟨r0,r1⟩ := h.rng _ hl
  have hh := h.here hl
  have hs : i * w % 64 + w≤64 := by
    rcases hw with rfl | rfl | rfl | rfl | rfl <;> omega
  have hp : (0 : Int) < 2 ^ (i * w % 64) := Int.pow_pos (by decide)
  have hsum : out[i * w / 64] + n * 2 ^ (i * w % 64) < 2 ^ (i * w % 64 + w) := by
    have e1 : n * 2 ^ (i * w % 64)≤(2 ^ w - 1) * 2 ^ (i * w % 64) := Int.mul_le_mul_of_nonneg_right (by omega) (by omega)
    have e2 : (2 ^ w - 1) * 2 ^ (i * w % 64) = (2 : Int) ^ (i * w % 64 + w) - 2 ^ (i * w % 64) := by
      rw [Int.sub_mul,Int.one_mul,Int.pow_add,Int.mul_comm]
    omega
  have hle : (2 : Int) ^ (i * w % 64 + w)≤2 ^ 64 := by
    have e : ∀ k : Nat,(2 : Int) ^ k = ((2 ^ k : Nat) : Int) := fun k => by simp
    rw [e,e]
    exact Int.ofNat_le.2 (Nat.pow_le_pow_right (by decide) hs)
  have hnn : 0≤n * 2 ^ (i * w % 64) := Int.mul_nonneg h0 (by omega)
  have h64 : (2 : Int) ^ 64 = 18446744073709551616 := by decide
  refine ⟨⟨fun j hj => ?_,fun hj => ?_,fun j hj hlt => ?_⟩,r0,hh,by omega,by omega⟩
  · rw [List.getElem_set]
    split
    · omega
    · exact h.rng j (by simpa using hj)
  · rw [List.getElem_set]
    split
    · rename_i e
      have e3 : (i + 1) * w % 64 = i * w % 64 + w := by
        rw [Nat.add_mul,Nat.one_mul] at e ⊢
        rcases hw with rfl | rfl | rfl | rfl | rfl <;> omega
      rw [e3]
      exact hsum
    · rename_i e
      have e4 : i * w / 64 < (i + 1) * w / 64 := by
        have : i * w / 64≤(i + 1) * w / 64 := Nat.div_le_div_right (by rw [Nat.add_mul]; omega)
        omega
      rw [h.zero _ (by simpa using hj) e4]
      exact Int.pow_pos (by decide)
  · have e5 : i * w / 64≤(i + 1) * w / 64 := Nat.div_le_div_right (by rw [Nat.add_mul]; omega)
    rw [List.getElem_set]
    split
    · omega
    · exact h.zero j (by simpa using hj) (by omega)
theorem put_at {w n i : Nat} (hw : w = 1∨w = 8∨w = 16∨w = 32∨w = 64) (h : i < n) : i * w / 64 < (n * w + 63) / 64 := by
  have : (i + 1) * w≤n * w := Nat.mul_le_mul_right _ h
  rw [Nat.add_mul] at this
  rcases hw with rfl | rfl | rfl | rfl | rfl <;> omega
def LS (f : Nat→List Int→List Int) (n : Nat) : Prop := ∀ (at_ p : Nat) (x : Int) (l : List Int),p < l.length→(p < at_∨at_ + n≤p)→f at_ (l.set p x) = (f at_ l).set p x
def LM (f : Nat→List Int→List Int) : Prop := ∀ (at_ : Nat) (l : List Int),l.length≤(f at_ l).length
theorem set_app {l m : List Int} {p : Nat} {x : Int} (h : p < l.length) : l.set p x ++ m = (l ++ m).set p x := by rw [List.set_append_left _ _ h]
theorem layL_ls : ∀ {ts : List T},(∀ t,t ∈ ts→LS (layT t) 1∧LM (layT t))→LS (layL ts) ts.length∧LM (layL ts)
  | [],_ => ⟨fun at_ p x l _ _ => by simp,fun at_ l => by simp⟩
  | t :: ts,h => by
    obtain ⟨h1,h2⟩ := h t (by simp)
    obtain ⟨h3,h4⟩ := layL_ls (ts := ts) fun u hu => h u (by simp [hu])
    refine ⟨fun at_ p x l hp hr => ?_,fun at_ l => ?_⟩
    · simp only [List.length_cons] at hr
      have := h2 at_ l
      rw [layL_cons,layL_cons,h1 at_ p x l hp (by omega),h3 (at_ + 1) p x _ (by omega) (by omega)]
    · rw [layL_cons]
      exact Nat.le_trans (h2 at_ l) (h4 _ _)
theorem layC_ls {w k : Nat} : ∀ {ts : List T},(∀ t,t ∈ ts→LS (layL t.kids) t.kids.length∧LM (layL t.kids))→(∀ (at_ p : Nat) (x : Int) (l : List Int),p < l.length→p < at_→layC w k ts at_ (l.set p x) = (layC w k ts at_ l).set p x)∧LM (layC w k ts)
  | [],_ => ⟨fun at_ p x l _ _ => by simp,fun at_ l => by simp⟩
  | t :: ts,h => by
    obtain ⟨h1,h2⟩ := h t (by simp)
    obtain ⟨h3,h4⟩ := layC_ls (w := w) (k := k) (ts := ts) fun u hu => h u (by simp [hu])
    refine ⟨fun at_ p x l hp hr => ?_,fun at_ l => ?_⟩
    · have := h2 (at_ + w) l
      rw [layC_cons,layC_cons,h1 (at_ + w) p x l hp (by omega),h3 _ p x _ (by omega) (by omega)]
    · rw [layC_cons]
      exact Nat.le_trans (h2 _ l) (h4 _ _)
theorem lay_ls : ∀ t : T,(LS (layT t) 1∧LM (layT t))∧(LS (layL t.kids) t.kids.length∧LM (layL t.kids)) := by
  refine T.ind fun k w ks ih => ?_
  have hK := layL_ls fun t ht => (ih t ht).1
  have hC := fun (w k : Nat) => layC_ls (w := w) (k := k) fun t ht => (ih t ht).2
  refine ⟨⟨fun at_ p x l hp hr => ?_,fun at_ l => ?_⟩,hK⟩
  · have hne : at_ ≠ p := by omega
    rw [layT_mk,layT_mk]
    simp only [List.length_set]
    split
    · rfl
    · split
      · rw [List.set_comm _ _ (Ne.symm hne),set_app (by simpa using hp),set_app (by simp; omega),hK.1 _ _ _ _ (by simp; omega) (by omega)]
      · split
        · rw [List.set_comm _ _ (Ne.symm hne),set_app (by simpa using hp),hK.1 _ _ _ _ (by simp; omega) (by omega)]
        · split
          · rw [List.set_comm _ _ (Ne.symm hne),set_app (by simpa using hp),set_app (by simp; omega),(hC _ _).1 _ _ _ _ (by simp; omega) (by omega)]
          · rw [List.set_comm _ _ (Ne.symm hne),set_app (by simpa using hp)]
  · rw [layT_mk]
    split
    · exact Nat.le_refl _
    · split
      · exact Nat.le_trans (by simp) (hK.2 _ _)
      · split
        · exact Nat.le_trans (by simp) (hK.2 _ _)
        · split
          · exact Nat.le_trans (by simp) ((hC _ _).2 _ _)
          · simp
theorem layL_set (ts : List T) : LS (layL ts) ts.length := (layL_ls fun t _ => (lay_ls t).1).1
theorem layL_setW {ts : List T} : ∀ (ws : List Int) (b at_ : Nat) (l : List Int),b + ws.length≤l.length→at_ + ts.length≤b→layL ts at_ (setW b ws l) = setW b ws (layL ts at_ l)
  | [],b,at_,l,_,_ => rfl
  | x :: ws,b,at_,l,h,h2 => by
    simp only [List.length_cons] at h
    rw [setW,setW,layL_setW ws (b + 1) at_ _ (by simp; omega) (by omega),layL_set ts at_ b x l (by omega) (by omega)]
def cpC (w long : Nat) : List T→Nat→List Int→List Int
  | [],_,l => l
  | t :: ts,b,l => cpC w long ts (b + long) (layL t.kids (b + w) (setW b t.words l))
def fillC (long : Nat) : List T→Nat→List Int→List Int
  | [],_,l => l
  | t :: ts,b,l => fillC long ts (b + long) (setW b t.words l)
theorem fillC_lay {long : Nat} {ks : List T} : ∀ (ts : List T) (b at_ : Nat) (l : List Int),(∀ t,t ∈ ts→t.words.length≤long)→b + ts.length * long≤l.length→at_ + ks.length≤b→fillC long ts b (layL ks at_ l) = layL ks at_ (fillC long ts b l)
  | [],b,at_,l,_,_,_ => rfl
  | t :: ts,b,at_,l,hw,h,h2 => by
    have h3 := hw t (by simp)
    simp only [List.length_cons,Nat.add_mul,Nat.one_mul] at h
    rw [fillC,fillC,← layL_setW _ _ _ _ (by omega) h2,fillC_lay ts _ _ _ (fun u hu => hw u (by simp [hu])) (by simp; omega) (by omega)]
theorem rightT_mono : ∀ (t : T) (d d' : Nat),d≤d'→rightT d t = true→rightT d' t = true := by
  refine T.ind fun k w ks ih d d' hd h => ?_
  rw [rightT_mk] at h ⊢
  by_cases h0 : k = 0
  · rw [if_pos h0] at h ⊢; exact h
  · rw [if_neg h0] at h ⊢
    by_cases h10 : k = 10
    · rw [if_pos h10] at h ⊢; exact h
    · rw [if_neg h10] at h ⊢
      split at h
      · cases h
      · rename_i hb
        have hb' : ¬ tooBig k d' w.length ks.length = true := by
          intro e
          apply hb
          unfold tooBig at e ⊢
          simp only [Bool.or_eq_true,decide_eq_true_eq] at e ⊢
          have : d' = 0→d = 0 := by omega
          rcases e with (((((e | e) | e) | e) | e) | e) | e
          · exact .inl (.inl (.inl (.inl (.inl (.inl e)))))
          · exact .inl (.inl (.inl (.inl (.inl (.inr e)))))
          · exact .inl (.inl (.inl (.inl (.inr (this e)))))
          · exact .inl (.inl (.inl (.inr e)))
          · exact .inl (.inl (.inr e))
          · exact .inl (.inr e)
          · exact .inr e
        rw [if_neg hb']
        refine rightL_all.2 fun t ht => ?_
        obtain ⟨h1,h2⟩ := rightL_all.1 h t ht
        exact ⟨ih t ht _ _ (by omega) h1,h2⟩
inductive LayOk : T→Prop
  | null (w : List Int) : LayOk (.mk 0 w [])
  | str (w : List Int) (ks : List T) : w.length < 65536→ks.length < 65536→(∀ t,t ∈ ks→LayOk t)→LayOk (.mk 1 w ks)
  | ptrs (w : List Int) (ks : List T) : ks.length < 536870912→(∀ t,t ∈ ks→LayOk t)→LayOk (.mk 8 w ks)
  | comp (w : List Int) (ks : List T) : ks.length < 536870912→(∀ t,t ∈ ks→t.words.length < 65536∧t.kids.length < 65536)→(∀ t,t ∈ ks→∀ u,u ∈ t.kids→LayOk u)→LayOk (.mk 9 w ks)
  | data (k : Int) (w : List Int) (ks : List T) : 2≤k→k≤7→ks.length < 536870912→(∀ c,c ∈ ks→∃ x,c.words = [x]∧0≤x∧x < 18446744073709551616∧fitsZ (k - 2) x = true)→LayOk (.mk k w ks)
def LN (f : Nat→List Int→List Int) (n : Int) : Prop := ∀ (at_ : Nat) (l : List Int),((f at_ l).length : Int) = l.length + n
theorem layL_ln : ∀ {ts : List T},(∀ t,t ∈ ts→LN (layT t) (sizeT t))→LN (layL ts) (sizeL ts)
  | [],_ => fun at_ l => by simp
  | t :: ts,h => fun at_ l => by
    rw [layL_cons,layL_ln (ts := ts) (fun u hu => h u (by simp [hu])),h t (by simp),sizeL_cons]
    omega
theorem layC_ln {w k : Nat} : ∀ {ts : List T},(∀ t,t ∈ ts→LN (layL t.kids) (sizeL t.kids))→LN (layC w k ts) (sizeLL ts)
  | [],_ => fun at_ l => by simp
  | t :: ts,h => fun at_ l => by
    rw [layC_cons,layC_ln (ts := ts) (fun u hu => h u (by simp [hu])),h t (by simp),sizeLL_cons]
    omega
theorem frameW_le : ∀ {ts : List T} {t : T},t ∈ ts→t.words.length≤frameW ts
  | u :: ts,t,h => by
    rcases List.mem_cons.1 h with rfl | h
    · simp only [frameW]; omega
    · have := frameW_le h
      simp only [frameW]; omega
theorem frameK_le : ∀ {ts : List T} {t : T},t ∈ ts→t.kids.length≤frameK ts
  | u :: ts,t,h => by
    rcases List.mem_cons.1 h with rfl | h
    · simp only [frameK]; omega
    · have := frameK_le h
      simp only [frameK]; omega
theorem rowsC_length {w k : Nat} : ∀ (ts : List T),(∀ t,t ∈ ts→t.words.length≤w + k)→(rowsC w k ts).length = ts.length * (w + k)
  | [],_ => by simp [rowsC]
  | t :: ts,h => by
    have h1 := h t (by simp)
    rw [rowsC,List.length_append,List.length_append,List.length_replicate,rowsC_length ts fun u hu => h u (by simp [hu])]
    simp only [List.length_cons,Nat.add_mul,Nat.one_mul]
    omega
theorem roomZ_nonneg (c n : Int) : 0≤roomZ c n := by
  unfold roomZ bitsZ
  repeat' split
  all_goals omega
theorem lay_len : ∀ t : T,(LayOk t→LN (layT t) (sizeT t))∧((∀ u,u ∈ t.kids→LayOk u)→LN (layL t.kids) (sizeL t.kids)) := by
  refine T.ind fun k w ks ih => ?_
  have hK : (∀ u,u ∈ ks→LayOk u)→LN (layL ks) (sizeL ks) := fun h => layL_ln fun t ht => (ih t ht).1 (h t ht)
  refine ⟨fun h at_ l => ?_,hK⟩
  rw [layT_mk,sizeT_mk]
  cases h with
  | null => simp
  | str w ks b1 b2 h =>
    rw [if_neg (by decide),if_pos rfl,if_pos rfl,hK h]
    simp
    omega
  | ptrs w ks b1 h =>
    rw [if_neg (by decide),if_neg (by decide),if_pos rfl,if_neg (by decide),if_pos rfl,hK h]
    simp
    omega
  | comp w ks b1 b2 h =>
    have hr := rowsC_length (w := frameW ks) (k := frameK ks) ks fun t ht => by have := frameW_le ht; omega
    rw [if_neg (by decide),if_neg (by decide),if_neg (by decide),if_pos rfl,if_neg (by decide),if_neg (by decide),if_neg (by decide),if_pos rfl,layC_ln fun t ht => (ih t ht).2 (h t ht)]
    simp only [List.length_append,List.length_set,List.length_singleton,hr]
    have e : ((ks.length * (frameW ks + frameK ks) : Nat) : Int) = (ks.length : Int) * ((frameW ks : Int) + frameK ks) := by rw [Int.natCast_mul,Int.natCast_add]
    rw [← e]
    omega
  | data k w ks h1 h2 b1 b2 =>
    rw [if_neg (by omega),if_neg (by omega),if_neg (by omega),if_neg (by omega),if_neg (by omega),if_neg (by omega),if_pos ⟨h1,h2⟩]
    simp only [List.length_append,List.length_set,putZ_length,List.length_map]
    have := roomZ_nonneg (k - 2) ks.length
    omega
theorem layL_len {ts : List T} (h : ∀ t,t ∈ ts→LayOk t) : LN (layL ts) (sizeL ts) := layL_ln fun t ht => (lay_len t).1 (h t ht)
theorem size_nonneg : ∀ t : T,(LayOk t→0≤sizeT t)∧((∀ u,u ∈ t.kids→LayOk u)→0≤sizeL t.kids) := fun t => by
  refine ⟨fun h => ?_,fun h => ?_⟩
  · have h1 := (lay_len t).1 h 0 []
    simp at h1
    omega
  · have h1 := (lay_len t).2 h 0 []
    simp at h1
    omega
theorem cpC_eq {w k : Nat} : ∀ (ts : List T) (b : Nat) (l : List Int),(∀ t,t ∈ ts→t.words.length≤w∧t.kids.length≤k)→b + ts.length * (w + k)≤l.length→cpC w (w + k) ts b l = layC w k ts b (fillC (w + k) ts b l)
  | [],b,l,_,_ => by simp [cpC,fillC]
  | t :: ts,b,l,hw,h => by
    obtain ⟨h3,h4⟩ := hw t (by simp)
    simp only [List.length_cons,Nat.add_mul,Nat.one_mul] at h
    have hm := ((layL_ls fun t _ => (lay_ls t).1).2 : LM (layL t.kids)) (b + w) (setW b t.words l)
    rw [setW_length] at hm
    rw [cpC,layC_cons,fillC,cpC_eq ts _ _ (fun u hu => hw u (by simp [hu])) (by omega),fillC_lay ts _ _ _ (fun u hu => by have := (hw u (by simp [hu])).1; omega) (by simp; omega) (by omega)]
theorem setW_app : ∀ (ws : List Int) (a z : List Int),ws.length≤z.length→setW a.length ws (a ++ z) = a ++ ws ++ z.drop ws.length
  | [],a,z,_ => by simp [setW]
  | x :: ws,a,[],h => by simp at h
  | x :: ws,a,y :: z,h => by
    simp only [List.length_cons] at h
    have : (a ++ y :: z).set a.length x = (a ++ [x]) ++ z := by simp
    rw [setW,this,show a.length + 1 = (a ++ [x]).length from by simp,setW_app ws (a ++ [x]) z (by omega)]
    simp
theorem fillC_app {w k : Nat} : ∀ (ts : List T) (a : List Int),(∀ t,t ∈ ts→t.words.length≤w + k)→fillC (w + k) ts a.length (a ++ List.replicate (ts.length * (w + k)) 0) = a ++ rowsC w k ts
  | [],a,_ => by simp [fillC,rowsC]
  | t :: ts,a,h => by
    have h1 := h t (by simp)
    have e : List.replicate ((t :: ts).length * (w + k)) (0 : Int) = List.replicate (w + k) 0 ++ List.replicate (ts.length * (w + k)) 0 := by
      rw [List.replicate_append_replicate]
      congr 1
      simp only [List.length_cons,Nat.add_mul,Nat.one_mul]
      omega
    rw [fillC,e,setW_app _ _ _ (by simp; omega),rowsC]
    have e2 : a ++ t.words ++ List.drop t.words.length (List.replicate (w + k) (0 : Int) ++ List.replicate (ts.length * (w + k)) 0) = (a ++ t.words ++ List.replicate (w + k - t.words.length) 0) ++ List.replicate (ts.length * (w + k)) 0 := by
      rw [List.drop_append_of_le_length (by simp; omega),List.drop_replicate]
      simp
    have e3 : a.length + (w + k) = (a ++ t.words ++ List.replicate (w + k - t.words.length) (0 : Int)).length := by simp; omega
    rw [e2,e3,fillC_app ts _ fun u hu => h u (by simp [hu])]
    simp
end Go.PL

namespace Go.Proofs.YthfiijdbnkaabaaGreat
set_option linter.unusedVariables false
set_option linter.unusedSimpArgs false
open Go Go.G Go.Proofs Go.PL
theorem at_kind (l : List (List Int)) (s a : Int) : (atP l s a).1.kind ≠ 10 := by
  unfold atP
  split
  · simp [Rf.zero]
  · unfold refP
    split
    · simp
    · split
      · simp; omega
      · unfold compP
        split <;> simp [Rf.zero]
theorem rf_kind {l : List (List Int)} {r : Rf} (h : RfOk l r) : 0≤r.kind∧r.kind≤10 := by cases h <;> simp [Rf.zero] <;> omega
theorem kid_kind {l : List (List Int)} {r : Rf} (h : r.kind = 1∨r.kind = 8) (i : Int) : (kidP l r i).1.kind ≠ 10 := by
  unfold kidP
  split
  · simp [Rf.zero]
  · rcases h with h | h
    · rw [if_pos h]; exact at_kind _ _ _
    · rw [if_neg (by omega),if_pos h]; exact at_kind _ _ _
theorem kid_comp {l : List (List Int)} {r : Rf} (h : r.kind = 9) {i : Int} (h0 : 0≤i) (h1 : i < nk r) : (kidP l r i).1.kind = 1 := by
  rw [kidP,if_neg (by omega),if_neg (by omega),if_neg (by omega),if_pos h]
theorem getZ_fits {g : List Int} {c i : Int} (hg : ∀ x,x ∈ g→0≤x∧x < 18446744073709551616) (hc : 0≤c) (hc6 : c < 6) : fitsZ c (getZ g c i) = true := by
  have hw : 0≤widthZ c := by unfold widthZ; repeat' split <;> omega
  have hp : (0 : Int) < 2 ^ (widthZ c).toNat := Int.pow_pos (by decide)
  simp only [fitsZ,Bool.and_eq_true,decide_eq_true_eq]
  refine ⟨hw,?_⟩
  unfold getZ
  split
  · simp
  · rw [Int.ediv_eq_zero_of_lt]
    · exact Int.emod_nonneg _ (by omega)
    · exact Int.emod_lt_of_pos _ hp
theorem atom_words {l : List (List Int)} {r : Rf} {t : T} (hm : Means l r t) (hk : 2≤t.kind) (hk7 : t.kind≤7) {i : Nat} (hi : i < t.kids.length) : t.kids[i].kind = 10∧t.kids[i].words = [hd t.kids[i]] := by
  obtain ⟨h1,h2⟩ := means_kid hm hi
  have hkr := means_kind hm
  have hnk := means_nk hm
  have hkk := means_kind h2
  have hw := (means_word h2).1
  have hkid : (kidP l r i).1.kind = 10 := by
    rw [kidP,if_neg (by omega),if_neg (by omega),if_neg (by omega),if_neg (by omega)]
  have hlen : t.kids[i].words.length = 1 := by
    have : nwR (kidP l r i).1 = 1 := by simp [nwR,hkid]
    omega
  refine ⟨by omega,?_⟩
  match hq : t.kids[i].words,hlen with
  | [x],_ => simp [hd,hq]
theorem data_fits {l : List (List Int)} (hs : Sg l) {r : Rf} {t : T} (hm : Means l r t) (k2 : 2≤t.kind) (k7 : t.kind≤7) : ∀ x,x ∈ t.kids.map hd→u64R x∧fitsZ (t.kind - 2) x = true := fun x hx => by
  obtain ⟨c,hc,rfl⟩ := List.mem_map.1 hx
  obtain ⟨i,hi,rfl⟩ := List.mem_iff_getElem.1 hc
  obtain ⟨h1,kk⟩ := means_kid hm hi
  obtain ⟨a1,a2⟩ := atom_words hm k2 k7 hi
  have hkr := means_kind hm
  have hnk := means_nk hm
  have hwd := (means_word kk).2 0 (by rw [a2]; simp)
  simp only [a2,List.getElem_cons_zero] at hwd
  have hkid : kidP l r i = (⟨10,0,0,0,0,0,atomZ l r i⟩,0) := by
    rw [kidP,if_neg (by omega),if_neg (by omega),if_neg (by omega),if_neg (by omega)]
  rw [hkid] at hwd
  have e : hd t.kids[i] = atomZ l r i := by
    rw [← hwd]
    simp [wordAt,nwR]
  have hgx : ∀ x,x ∈ ((seg l r.s).getD []).drop r.at_.toNat→0≤x∧x < 18446744073709551616 := fun x hx => by
    have hx := List.mem_of_mem_drop hx
    cases e : seg l r.s with
    | none => rw [e] at hx; simp at hx
    | some g =>
      rw [e] at hx
      simp at hx
      obtain ⟨_,_,_,rfl⟩ := seg_some e
      exact hs.w _ (List.getElem_mem _) x hx
  rw [e,← hkr]
  exact ⟨getZ_range hgx,getZ_fits hgx (by omega) (by omega)⟩
theorem laid_of {l : List (List Int)} (hs : Sg l) : ∀ (t : T) (r : Rf),Means l r t→t.kind ≠ 10→LayOk (norm t) := by
  refine T.ind fun k w ks ih r hm h10 => ?_
  have hk := means_kind hm
  have hok := means_ok hm
  have hb := rf_kind hok
  simp at hk h10
  rw [norm_mk]
  have kid : ∀ (i : Nat) (hi : i < ks.length),Means l (kidP l r i).1 ks[i] := fun i hi => (means_kid hm (by simpa using hi)).2
  by_cases h0 : k = 0
  · rw [if_pos h0]; exact .null _
  · rw [if_neg h0]
    by_cases h1 : k = 1
    · rw [if_pos h1]
      have hb1 : w.length < 65536∧ks.length < 65536 := by
        have hn := means_nk hm
        have hw := (means_word hm).1
        simp at hn hw
        have : nk r < 65536∧nwR r < 65536 := by
          cases hok <;> simp [Rf.zero,nk,nwR] at hk ⊢ <;> omega
        omega
      have hb2 := trimW_le w
      have hb3 := trimK_le (ks.map norm)
      rw [List.length_map] at hb3
      refine .str _ _ (by omega) (by omega) fun t ht => ?_
      rw [trimK_map] at ht
      obtain ⟨u,hu,rfl⟩ := List.mem_map.1 (List.mem_of_mem_take ht)
      obtain ⟨i,hi,rfl⟩ := List.mem_iff_getElem.1 hu
      refine ih _ hu _ (kid i hi) ?_
      rw [← means_kind (kid i hi)]
      exact kid_kind (.inl (by omega)) i
    · rw [if_neg h1]
      by_cases h8 : k = 8
      · subst h8
        have hln := means_len hm
        refine .ptrs _ _ (by simpa using hln.2) fun t ht => ?_
        obtain ⟨u,hu,rfl⟩ := List.mem_map.1 ht
        obtain ⟨i,hi,rfl⟩ := List.mem_iff_getElem.1 hu
        refine ih _ hu _ (kid i hi) ?_
        rw [← means_kind (kid i hi)]
        exact kid_kind (.inr (by omega)) i
      · by_cases h9 : k = 9
        · subst h9
          have hln := means_len hm
          have hkn := means_nk hm
          simp at hkn
          refine .comp _ _ (by simpa using hln.2) (fun t ht => ?_) fun t ht u hu' => ?_
          · obtain ⟨v,hv,rfl⟩ := List.mem_map.1 ht
            obtain ⟨i,hi,rfl⟩ := List.mem_iff_getElem.1 hv
            have kk := kid i hi
            have hkk := means_kind kk
            rw [kid_comp (by omega) (by omega) (by omega)] at hkk
            have hL := ih _ hv _ kk (by omega)
            have hkn2 : (norm ks[i]).kind = 1 := by rw [norm_kind]; omega
            generalize norm ks[i] = x at hL hkn2
            cases hL with
            | str w ks b1 b2 h => exact ⟨b1,b2⟩
            | _ => simp at hkn2 <;> omega
          obtain ⟨v,hv,rfl⟩ := List.mem_map.1 ht
          obtain ⟨i,hi,rfl⟩ := List.mem_iff_getElem.1 hv
          have hkn := means_nk hm
          simp at hkn
          have hkk := means_kind (kid i hi)
          rw [kid_comp (by omega) (by omega) (by omega)] at hkk
          have := ih _ hv _ (kid i hi) (by omega)
          have hkn2 : (norm ks[i]).kind = 1 := by rw [norm_kind]; omega
          generalize norm ks[i] = x at this hkn2 hu'
          cases this with
          | str w ks b1 b2 h => exact h u hu'
          | _ => simp at hkn2 <;> omega
        · have hln := means_len hm
          refine .data _ _ _ (by omega) (by omega) (by simpa using hln.2) fun c hc => ?_
          obtain ⟨v,hv,rfl⟩ := List.mem_map.1 hc
          obtain ⟨i,hi,rfl⟩ := List.mem_iff_getElem.1 hv
          obtain ⟨a1,a2⟩ := atom_words hm (by simp; omega) (by simp; omega) (i := i) (by simpa using hi)
          obtain ⟨f1,f2⟩ := data_fits hs hm (by simp; omega) (by simp; omega) _ (List.mem_map.2 ⟨ks[i],by simp,rfl⟩)
          simp only [T.kids_mk,T.kind_mk] at a1 a2 f1 f2
          refine ⟨hd ks[i],?_,f1.1,f1.2,f2⟩
          have := norm_words (means_bare (kid i hi))
          rw [this,a2]
          simp [nW,a1,a2]
theorem wordsR_len {l : List (List Int)} {r : Rf} (h : RfOk l r) (h10 : r.kind ≠ 10) : (wordsR l r).length = (if r.kind = 1 then r.data else 0).toNat := by
  unfold wordsR
  rw [if_neg h10]
  by_cases h1 : r.kind = 1
  · rw [if_neg (by omega),if_pos h1]
    cases h with
    | str s a d k a1 a2 a3 a4 h =>
      simp only
      simp only [hasW,decide_eq_true_eq] at h
      obtain ⟨b1,b2,b3,b4,b5⟩ := h
      obtain ⟨g1,g2⟩ := seg_in b1 b2
      simp [part,g2,szAt] at b5 ⊢
      omega
    | _ => simp [Rf.zero] at h1 <;> omega
  · rw [if_pos h1,if_neg h1]; rfl
theorem costM_nonneg {l : List (List Int)} {r : Rf} (h : RfOk l r) : 0≤costM r := by
  cases h with
  | zero => simp [costM,Rf.zero,nk]
  | str s a d k a1 a2 a3 a4 h => simp [costM]; omega
  | dat c s a n a1 a2 a3 a4 h => rw [costM,if_neg (by simp; omega),if_neg (by simp; omega)]; simp [nk]; split <;> omega
  | ptrs s a n a1 a2 h => simp [costM,nk]; omega
  | comp s a d k n a1 a2 a3 a4 a5 a6 h =>
    simp [costM]
    have := Int.mul_nonneg a5 (show 0≤1 + d + k by omega)
    omega
  | atom n a1 a2 => simp [costM,nk]
theorem stop_lb (l : List (List Int)) (B : Int) : LB l B (fun r left => stopM l r left) := fun r hr left h0 h1 => ⟨h0,h1⟩
end Go.Proofs.YthfiijdbnkaabaaGreat

namespace Go.Proofs.YthfiijdbnkaabaaGreat
set_option linter.unusedVariables false
set_option linter.unusedSimpArgs false
open Go Go.G Go.Proofs Go.PL
abbrev s1 : List (List Int) := [[4294967296,7]]
abbrev s2 : List (List Int) := [[8589934592,7,0]]
abbrev s3 : List (List Int) := [[4294967296,8]]
end Go.Proofs.YthfiijdbnkaabaaGreat

namespace Go.Proofs.YthfiijdbnkaabaaGreat
set_option linter.unusedVariables false
set_option linter.unusedSimpArgs false
open Go Go.G Go.Proofs Go.PL
def mixG (h x : Int) : Int := IntKind.u64.wrap (bits .xor .u64 h x * 1099511628211)
def mixH (h x : Int) : Int := bits .xor .u64 (mixG h x) (mixG h x / 2 ^ min 29 IntKind.u64.bits)
mutual
def hashN : T→Int
  | .mk k w l => hashL (w.foldl mixH (mixH (mixH 14695981039346656037 (IntKind.u64.wrap k)) (IntKind.u64.wrap w.length))) l
def hashL : Int→List T→Int
  | h,[] => h
  | h,t :: l => hashL (mixH h (hashN t)) l
end
end Go.Proofs.YthfiijdbnkaabaaGreat
