/-
 Texts,merged,without what is not reached.
-/
import Derived.Lib.ConvBytes
import Derived.WalkKit
import Derived.Laws.StructEq
import Derived.Laws.IdiomStrings
import Derived.Laws.CopyRow
import Derived.MapKept
import Derived.Carry
import Derived.Deep.Quiet
import Derived.Scope
import Derived.ProofKit
import Derived.SizedLaws
import Derived.RangeFuncNested
import Derived.RangeFuncBound
import Derived.RangeFuncCalls
import Derived.RangeFuncLeaves
import Derived.Laws.Concat
import Derived.Laws.Closers25b
import Derived.Test.YtgkdikddjfgajaaGreatDoorProg
import Derived.KernelRfl
import Derived.Laws.Externs
import Derived.Lib.Bytealg
import Derived.Lib.Builder
import Derived.Lib.UnsafeStr
import Derived.Lib.Walk
import Derived.Laws.BitsLemmas
import Derived.Laws.Bits64
import Derived.Laws.Bits64b
import Derived.Shelf.Strings.OnBuilder
import Derived.Shelf.Strconv.Itoa3
import Derived.Shelf.Strconv.AtoiAll
import Derived.Shelf.Strings.Split
import Derived.Shelf.Strings.Fields
import Derived.Shelf.Strconv.ToErrorRange
import Derived.Shelf.Strconv.ToError
import Derived.OpenShut
import Derived.Lib.LaidTab
import Derived.Stop.LaidErr
import Derived.MakeChecks
import Derived.Lib.ItoaNum
import Derived.Lib.AtoiAll
import Derived.Lib.Join
import Derived.Lib.AppendIntMem
import Derived.BigCall
import Derived.Sort.AssemblyPlain
import Derived.Recover
set_option linter.unusedSimpArgs false
set_option linter.unusedVariables false
open Go.IntKind (i64 u64)
theorem DE {α:Type _} {i:Nat} {l:List α} (h:l.length ≤ i):l.take i=l:=List.take_of_length_le h
theorem LW {α:Type _} {i:Nat} {l:List α} (h:i<l.length):l.take (i+1)=l.take i++[l[i]]:=List.take_succ_eq_append_getElem h
theorem EI {α:Type _} {l:List α} {n:Nat} (h:n<l.length):l[n] ∈ l:=List.getElem_mem h
theorem CE (n:Nat):n ≤ n:=Nat.le_refl n
theorem Zy {α:Type _} {l:List α} {i:Nat} {a:α} (h:a ∈ l.take i):a ∈ l:=List.mem_of_mem_take h
theorem mN {α:Type _} {l:List α} {i:Nat} {a:α} (h:a ∈ l.drop i):a ∈ l:=List.mem_of_mem_drop h
namespace Go.G
open Go.RowKit
abbrev Nm:=List Nat
inductive A where
 |any
 |v (x:Value)
 |sl (full:Bool) (xs:List A)
 |agg (cs:List A)
 |tup (xs:List A)
 |pim (cs:List A)
 |pob (o:Nm) (u off:Nat)
 |osl (o:Nm) (u sz off len:Nat)
 |pel (o:Nm) (u i j:Nat)
 |mo (o:Nm) (u:Nat)
 |fnc (f:FuncId) (first caps:List A)
 |ifc (t:TypeId) (x:A)
 deriving Inhabited
def A.cells:A→List A
 |.agg cs=>cs
 |x=>[x]
def A.one:A→Bool
 |.any | .agg _ | .tup _=>false
 |.v x=>x.oneCell'
 |_=>true
def A.ones (l:List A):Bool:=l.all A.one
structure nj where
 u:Nat
 bk:Bool
 b:Nat
 cap:Nat
 sz:Nat
 e:TypeId
abbrev Mu:=Nm→nj
def Jq:Mu:=fun _=>⟨0,false,0,0,0,0⟩
inductive Rel (w:World) (I:Nat→Prop):Mu→A→Value→Prop
 |any (μ x):Rel w I μ .any x
 |v (μ x):Rel w I μ (.v x) x
 |slN (μ f a cap):(f=true→cap=0)→Rel w I μ (.sl f []) (.slice a 0 cap)
 |sl (μ f b off n cap sz xs) (g:Nat→Value):I b→n=xs.length→xs.length≤cap→(f=true→cap=xs.length)→(∀ x,x ∈ xs→x.cells.length=sz) →
   (∀ (k:Nat) (y:A),(xs.flatMap A.cells)[k]? = some y→y.one=true) →
   (∀ (k:Nat) (y:A),(xs.flatMap A.cells)[k]? = some y→w.cell? ⟨b,off+k,none⟩=some (g k)) →
   (∀ (k:Nat) (y:A),(xs.flatMap A.cells)[k]? = some y→Rel w I Jq y (g k))→Rel w I μ (.sl f xs) (.slice (some ⟨b,off,none⟩) n cap)
 |agg (μ cs vs):vs.size=cs.length→(∀ (k:Nat) (y:A),cs[k]? = some y→Rel w I μ y (vs.getD k undef))→Rel w I μ (.agg cs) (.agg vs)
 |tup (μ xs vs):vs.size=xs.length→(∀ (k:Nat) (y:A),xs[k]? = some y→Rel w I μ y (vs.getD k undef))→Rel w I μ (.tup xs) (.tuple vs)
 |pim (μ b off cs) (g:Nat→Value):I b→(∀ (k:Nat) (y:A),cs[k]? = some y→y.one=true)→(∀ (k:Nat) (y:A),cs[k]? = some y→w.cell? ⟨b,off+k,none⟩=some (g k)) →
   (∀ (k:Nat) (y:A),cs[k]? = some y→Rel w I Jq y (g k))→Rel w I μ (.pim cs) (.pointer (some ⟨b,off,none⟩))
 |pob (μ:Mu) (o u off b k):1≤u→u≤(μ o).u→(u=(μ o).u→b=(μ o).b∧off=k)→Rel w I μ (.pob o u off) (.pointer (some ⟨b,k,none⟩))
 |osl (μ:Mu) (o u sz off len a cap):1≤u→u≤(μ o).u→len≤cap→(0<cap→∃ b k,a=some ⟨b,k,none⟩)→(u=(μ o).u→(μ o).sz=sz∧((len=0∧cap=0)∨((μ o).bk=true∧a=some ⟨(μ o).b,off*sz,none⟩∧off+cap≤(μ o).cap))) →
   Rel w I μ (.osl o u sz off len) (.slice a len cap)
 |pel (μ:Mu) (o u i j b k):1≤u→u≤(μ o).u→(u=(μ o).u→b=(μ o).b∧i*(μ o).sz+j=k)→Rel w I μ (.pel o u i j) (.pointer (some ⟨b,k,none⟩))
 |mo (μ:Mu) (o u b):1≤u→u≤(μ o).u→(u=(μ o).u→b=(μ o).b)→Rel w I μ (.mo o u) (.map (some b))
 |fnc (μ f fs caps us vs):us.size=fs.length→(∀ (k:Nat) (y:A),fs[k]? = some y→Rel w I μ y (us.getD k undef))→vs.size=caps.length→(∀ (k:Nat) (y:A),caps[k]? = some y→Rel w I μ y (vs.getD k undef)) →
   Rel w I μ (.fnc f fs caps) (.func (.func f) us vs)
 |ifc (μ t x y):Rel w I μ x y→Rel w I μ (.ifc t x) (.iface t y)
def MuLe (μ μ':Mu):Prop:=∀ o,(μ o).u≤(μ' o).u∧((μ' o).u=(μ o).u→μ' o=μ o)
theorem MuLe.refl (μ:Mu):MuLe μ μ:=fun _=>⟨CE _,fun _=>rfl⟩
theorem MuLe.trans {μ μ' μ'':Mu} (h:MuLe μ μ') (k:MuLe μ' μ''):MuLe μ μ'':=fun o=>by
 have h1:=h o;have h2:=k o;exact⟨Nat.le_trans h1.1 h2.1,fun e=>by
  have e1:(μ' o).u=(μ o).u:=by omega
  rw[h2.2 (by omega),h1.2 e1]⟩
section
variable {w w':World} {I I':Nat→Prop} {μ μ':Mu} {a:A} {x:Value}
theorem SN (hw:∀ b,I b→w'.heap[b]? = w.heap[b]?) {b k:Nat} {u:Value} (hb:I b) (h:w.cell? ⟨b,k,none⟩=some u):w'.cell? ⟨b,k,none⟩=some u:=by
 rw[← h];simp[World.cell?,hw b hb]
theorem Rel.mono0 (hI:∀ b,I b→I' b) (hw:∀ b,I b→w'.heap[b]? = w.heap[b]?) (h:Rel w I μ a x):Rel w' I' μ a x:=by
 induction h with
 |any=>exact .any _ _
 |v=>exact .v _ _
 |slN _ _ _ _ h=>exact .slN _ _ _ _ h
 |sl μ f b off n cap sz xs g hb hn hc hf hs h1 hcell _ ih=>exact .sl _ f b off n cap sz xs g (hI _ hb) hn hc hf hs h1 (fun k y hk=>SN hw hb (hcell k y hk)) ih
 |agg _ _ _ hl _ ih=>exact .agg _ _ _ hl ih
 |tup _ _ _ hl _ ih=>exact .tup _ _ _ hl ih
 |pim μ b off cs g hb h1 hcell _ ih=>exact .pim _ b off cs g (hI _ hb) h1 (fun k y hk=>SN hw hb (hcell k y hk)) ih
 |pob _ _ _ _ _ _ h1 h2 h3=>exact .pob _ _ _ _ _ _ h1 h2 h3
 |osl _ _ _ _ _ _ _ _ h1 h2 h4 h5 h3=>exact .osl _ _ _ _ _ _ _ _ h1 h2 h4 h5 h3
 |pel _ _ _ _ _ _ _ h1 h2 h3=>exact .pel _ _ _ _ _ _ _ h1 h2 h3
 |mo _ _ _ _ h1 h2 h3=>exact .mo _ _ _ _ h1 h2 h3
 |fnc _ _ _ _ _ _ hl0 _ hl _ ih0 ih=>exact .fnc _ _ _ _ _ _ hl0 ih0 hl ih
 |ifc _ _ _ _ _ ih=>exact .ifc _ _ _ _ ih
theorem Rel.mu (h:Rel w I μ a x):∀ {μ':Mu},MuLe μ μ'→Rel w I μ' a x:=by
 induction h with
 |any=>exact fun _=>.any _ _
 |v=>exact fun _=>.v _ _
 |slN _ _ _ _ h=>exact fun _=>.slN _ _ _ _ h
 |sl μ f b off n cap sz xs g hb hn hc hf hs h1 hcell hr _=>exact fun _=>.sl _ f b off n cap sz xs g hb hn hc hf hs h1 hcell hr
 |agg _ _ _ hl _ ih=>exact fun hm=>.agg _ _ _ hl fun k y hk=>ih k y hk hm
 |tup _ _ _ hl _ ih=>exact fun hm=>.tup _ _ _ hl fun k y hk=>ih k y hk hm
 |pim μ b off cs g hb h1 hcell hr _=>exact fun _=>.pim _ b off cs g hb h1 hcell hr
 |pob μ o u off b k h1 h2 h3=>
  intro μ' hm;obtain⟨k1,k2⟩:=hm o;exact .pob _ _ _ _ _ _ h1 (by omega) fun e=>by rw[k2 (by omega)];exact h3 (by omega)
 |osl μ o u sz off len a cap h1 h2 h4 h5 h3=>
  intro μ' hm;obtain⟨k1,k2⟩:=hm o;exact .osl _ _ _ _ _ _ _ _ h1 (by omega) h4 h5 fun e=>by rw[k2 (by omega)];exact h3 (by omega)
 |pel μ o u i j b k h1 h2 h3=>
  intro μ' hm;obtain⟨k1,k2⟩:=hm o;exact .pel _ _ _ _ _ _ _ h1 (by omega) fun e=>by rw[k2 (by omega)];exact h3 (by omega)
 |mo μ o u b h1 h2 h3=>
  intro μ' hm;obtain⟨k1,k2⟩:=hm o;exact .mo _ _ _ _ h1 (by omega) fun e=>by rw[k2 (by omega)];exact h3 (by omega)
 |fnc _ _ _ _ _ _ hl0 _ hl _ ih0 ih=>exact fun hm=>.fnc _ _ _ _ _ _ hl0 (fun k y hk=>ih0 k y hk hm) hl fun k y hk=>ih k y hk hm
 |ifc _ _ _ _ _ ih=>exact fun hm=>.ifc _ _ _ _ (ih hm)
theorem Rel.mono (hI:∀ b,I b→I' b) (hw:∀ b,I b→w'.heap[b]? = w.heap[b]?) (hμ:MuLe μ μ') (h:Rel w I μ a x):Rel w' I' μ' a x:=
 (h.mono0 hI hw).mu hμ
theorem Rel.one (h:Rel w I μ a x) (h1:a.one=true):x.oneCell'=true:=by
 cases h<;>simp_all [A.one,Value.oneCell']
theorem Rel.cells_one (h:Rel w I μ a x) (h1:a.one=true):a.cells=[a]∧x.cells = #[x]:=by
 cases h<;>simp_all [A.one,A.cells,Value.cells,Value.oneCell']<;>split at h1<;>simp_all
end
def A.bare1:A→Bool
 |.any | .v _ | .sl _ _ | .pim _=>true
 |_=>false
def A.bare2:A→Bool
 |.fnc _ fs caps=>fs.all A.bare1&&caps.all A.bare1
 |x=>x.bare1
def A.bare:A→Bool
 |.agg cs=>cs.all A.bare2
 |.tup xs=>xs.all fun x=>match x with
  |.agg cs=>cs.all A.bare2
  |x=>x.bare2
 |x=>x.bare2
section
variable {w:World} {I:Nat→Prop} {μ μ':Mu} {a:A} {x:Value}
theorem Rel.of_bare1 (h:Rel w I μ a x) (hb:a.bare1=true):Rel w I μ' a x:=by
 cases h with
 |any=>exact .any _ _
 |v=>exact .v _ _
 |slN _ _ _ _ h=>exact .slN _ _ _ _ h
 |sl _ f b off n cap sz xs g hI hn hc hf hs h1 hcell hr=>exact .sl _ f b off n cap sz xs g hI hn hc hf hs h1 hcell hr
 |pim _ b off cs g hI h1 hcell hr=>exact .pim _ b off cs g hI h1 hcell hr
 |_=>simp[A.bare1] at hb
theorem Rel.of_bare2 (h:Rel w I μ a x) (hb:a.bare2=true):Rel w I μ' a x:=by
 cases a with
 |fnc f fs caps=>
  simp only[A.bare2,Bool.and_eq_true,List.all_eq_true] at hb;cases h with
  |fnc _ _ _ _ us vs hl0 hr0 hl hr=>
   exact .fnc _ _ _ _ _ _ hl0 (fun k y hk=>(hr0 k y hk).of_bare1 (hb.1 _ (List.mem_of_getElem? hk))) hl fun k y hk=>(hr k y hk).of_bare1 (hb.2 _ (List.mem_of_getElem? hk))
 |_=>exact h.of_bare1 (by simpa[A.bare2] using hb)
theorem Rel.of_bare (h:Rel w I μ a x) (hb:a.bare=true):Rel w I μ' a x:=by
 cases a with
 |agg cs=>
  cases h with
  |agg _ _ vs hl hr=>
   refine .agg _ _ _ hl fun k y hk=>(hr k y hk).of_bare2 ?_;simp only[A.bare,List.all_eq_true] at hb;exact hb _ (List.mem_of_getElem? hk)
 |tup xs=>
  cases h with
  |tup _ _ vs hl hr=>
   refine .tup _ _ _ hl fun k y hk=>?_;simp only[A.bare,List.all_eq_true] at hb;have h1:=hb _ (List.mem_of_getElem? hk);have h2:=hr k y hk;generalize vs.getD k undef=u at h2 ⊢;cases y with
   |agg cs=>
    cases h2 with
    |agg _ _ vs' hl' hr'=>
     refine .agg _ _ _ hl' fun k' y' hk'=>(hr' k' y' hk').of_bare2 ?_;simp only[List.all_eq_true] at h1;exact h1 _ (List.mem_of_getElem? hk')
   |_=>exact h2.of_bare2 (by simpa using h1)
 |_=>exact h.of_bare2 (by simpa[A.bare] using hb)
end
theorem Rel.of0 {w:World} {I:Nat→Prop} {μ:Mu} {a:A} {x:Value} (h:Rel w I μ a x):(∀ o,(μ o).u=0)→∀ (μ':Mu),Rel w I μ' a x:=by
 induction h with
 |any=>exact fun _ _=>.any _ _
 |v=>exact fun _ _=>.v _ _
 |slN _ _ _ _ h=>exact fun _ _=>.slN _ _ _ _ h
 |sl μ f b off n cap sz xs g hb hn hc hf hs h1 hcell hr _=>exact fun _ _=>.sl _ f b off n cap sz xs g hb hn hc hf hs h1 hcell hr
 |agg _ _ _ hl _ ih=>exact fun h0 μ'=>.agg _ _ _ hl fun k y hk=>ih k y hk h0 μ'
 |tup _ _ _ hl _ ih=>exact fun h0 μ'=>.tup _ _ _ hl fun k y hk=>ih k y hk h0 μ'
 |pim μ b off cs g hb h1 hcell hr _=>exact fun _ _=>.pim _ b off cs g hb h1 hcell hr
 |pob μ o u off b k h1 h2 h3=>exact fun h0=>by have:=h0 o;omega
 |osl μ o u sz off len a cap h1 h2 h4 h5 h3=>exact fun h0=>by have:=h0 o;omega
 |pel μ o u i j b k h1 h2 h3=>exact fun h0=>by have:=h0 o;omega
 |mo μ o u b h1 h2 h3=>exact fun h0=>by have:=h0 o;omega
 |fnc _ _ _ _ _ _ hl0 _ hl _ ih0 ih=>exact fun h0 μ'=>.fnc _ _ _ _ _ _ hl0 (fun k y hk=>ih0 k y hk h0 μ') hl fun k y hk=>ih k y hk h0 μ'
 |ifc _ _ _ _ _ ih=>exact fun h0 μ'=>.ifc _ _ _ _ (ih h0 μ')
theorem Rel.ofI {w:World} {I:Nat→Prop} {μ:Mu} {a:A} {x:Value} (h:Rel w I Jq a x):Rel w I μ a x:=h.of0 (fun _=>rfl) μ
structure Cx where
 P:Program
 w0:World
 I0:Nat→Prop
 M0:Nm→Nat→Prop
 n:Nat
 m0:Mu
 die:TypeId→Prop
 ds:List Deferred
def Cx.Mb (c:Cx) (b:Nat):Prop:=∃ o,c.M0 o b
inductive Ob where
 |none
 |cells (cs:List A)
 |arr (sz:Nat) (xs:List A)
 |mp (es:List (Value × Value))
 deriving Inhabited
structure VOb where
 u:Nat
 ob:Ob
 deriving Inhabited
abbrev Hp:=Nm→VOb
def Ar {α:Type} (f:Nm→α) (d:Nm) (x:α):Nm→α:=fun o=>if o=d then x else f o
@[simp] theorem A5 {α:Type} {f:Nm→α} {d:Nm} {x:α}:Ar f d x d=x:=by simp[Ar]
theorem Ao {α:Type} {f:Nm→α} {d o:Nm} {x:α} (h:o ≠ d):Ar f d x o=f o:=by simp[Ar,h]
theorem Nk {α:Type} {f:Nm→α} {d e:Nm} {x y:α} (h:d ≠ e):Ar (Ar f d x) e y=Ar (Ar f e y) d x:=by
 funext o;unfold Ar;by_cases h1:o=e<;>by_cases h2:o=d<;>simp_all
@[simp] theorem tF {α:Type} {f:Nm→α} {d:Nm} {x y:α}:Ar (Ar f d x) d y=Ar f d y:=by
 funext o;unfold Ar;split<;>rfl
structure Kept (M0:Nat→Prop) (w w':World):Prop where
 os:w'.os=w.os
 tape:w'.tape=w.tape
 output:w'.output=w.output
 size:w.heap.size≤w'.heap.size
 block:∀ b,b<w.heap.size→¬ M0 b→w'.heap[b]? = w.heap[b]?
def BJ (L:nj):Ob→Bool
 |.none=>false
 |.cells _=>true
 |.arr _ _=>L.bk
 |.mp _=>true
def OSim (w:World) (I:Nat→Prop) (μ:Mu) (L:nj):Ob→Prop
 |.none=>True
 |.mp es=>∃ (l:Array MapEntry) (clock:Nat),w.heap[L.b]? = some (.map l clock)∧l.toList.map (fun e=>(e.key,e.val))=es
 |.cells cs=>∃ vs:Array Value,w.heap[L.b]? = some (.cells vs L.e (0,0))∧vs.size=cs.length∧∀ (k:Nat) (y:A),cs[k]? = some y→y.one=true∧Rel w I μ y (vs.getD k undef)
 |.arr sz xs=>L.sz=sz∧((L.bk=false∧xs=[])∨(L.bk=true∧∃ vs:Array Value,w.heap[L.b]? = some (.cells vs L.e (0,0))∧vs.size=L.cap*sz ∧
   xs.length≤L.cap∧(∀ x,x ∈ xs→x.cells.length=sz)∧∀ (k:Nat) (y:A),(xs.flatMap A.cells)[k]? = some y→y.one=true∧Rel w I μ y (vs.getD k undef)))
def V9:List Nat→Option Nat
 |[]=>none
 |[_]=>none
 |[a,b]=>if a=777777 then some b else none
 |_::b::c::l=>V9 (b::c::l)
def dH:Nm→Option Nat
 |[]=>none
 |_::p=>V9 p
def B3 (o:Nm) (e:Nat):Bool:=match dH o with
 |none=>true
 |some k=>k == e
@[simp] theorem wk:V9 []=none:=rfl
@[simp] theorem vq {a:Nat}:V9 [a]=none:=rfl
@[simp] theorem vn {a b:Nat}:V9 [a,b]=if a=777777 then some b else none:=rfl
@[simp] theorem tV {a b c:Nat} {l:List Nat}:V9 (a::b::c::l)=V9 (b::c::l):=rfl
@[simp] theorem tx:dH []=none:=rfl
@[simp] theorem nN {r:Nat} {p:Nm}:dH (r::p)=V9 p:=rfl
@[simp] theorem sm {e:Nat}:B3 [] e=true:=rfl
@[simp] theorem od {r e:Nat}:B3 [r] e=true:=rfl
@[simp] theorem rZ {r i e:Nat}:B3 [r,i] e=true:=rfl
@[simp] theorem ZG {r k e:Nat}:B3 [r,777777,k] e=(k == e):=rfl
@[simp] theorem XH {r k k' e:Nat}:B3 [r,777777,k,777777,k'] e=(k' == e):=rfl
theorem NX {r a b e:Nat} (h:a ≠ 777777):B3 [r,a,b] e=true:=by simp[B3,h]
@[simp] theorem AaJ {r b e:Nat}:B3 [r,0,b] e=true:=NX (by omega)
@[simp] theorem ze {r b e:Nat}:B3 [r,1,b] e=true:=NX (by omega)
@[simp] theorem AaW {r b e:Nat}:B3 [r,2,b] e=true:=NX (by omega)
def tab32:List Int:=[0,1,28,2,29,14,24,3,30,22,20,15,25,17,4,8,31,27,13,23,21,19,16,7,26,12,18,6,11,5,10,9]
def tab64:List Int:=[0,1,56,2,57,49,28,3,61,58,42,50,38,29,17,4,62,47,59,36,45,43,51,22,53,39,33,30,24,18,12,5,63,55,48,27,60,41,37,16,46,35,44,21,52,32,23,11,54,26,40,15,34,20,31,10,25,14,19,9,13,8,7,6]
def tab10:List Int:=[1,10,100,1000,10000,100000,1000000,10000000,100000000,1000000000,10000000000,100000000000,1000000000000,10000000000000,100000000000000,1000000000000000,10000000000000000,100000000000000000,1000000000000000000,10000000000000000000]
def vW:List Int:=List.replicate 9 0++List.replicate 5 1++List.replicate 18 0++1::List.replicate 223 0
def knownTab (n:String):Option (IntKind × List Int):=
 if n = "math/bits.deBruijn32tab" then some (.u8,tab32) else if n = "math/bits.deBruijn64tab" then some (.u8,tab64) else if n = "internal/strconv.uint64pow10" then some (.u64,tab10) else if n = "strings.asciiSpace" then some (.u8,vW) else none
def gtab (P:Program) (g:Nat):Option (IntKind × List Int):=(P.globals[g]?).bind fun x=>knownTab x.name
def fR (n:String):Bool:=n == "strconv.ErrSyntax" || n == "strconv.ErrRange"
def nW (P:Program) (g:Nat):Bool:=(P.globals[g]?).any fun x=>fR x.name
structure Tabs (P:Program) (w:World) (I:Nat→Prop):Prop where
 row:∀ g q,gtab P g=some q→I g∧∃ e z,w.heap[g]? = some (.cells (q.2.map fun n=>Value.int q.1 n).toArray e z)
 err:∀ g,nW P g=true→I g∧∃ te pe,w.cell? ⟨g,0,none⟩=some (.iface te pe)
theorem Tabs.tab {P:Program} {w:World} {I:Nat→Prop} (h:Tabs P w I):∀ g q,gtab P g=some q→I g∧∀ (k:Nat) (n:Int),q.2[k]? = some n→w.cell? ⟨g,k,none⟩=some (.int q.1 n):=fun g q hq=>by
 obtain⟨h1,e,z,h2⟩:=h.row g q hq;refine⟨h1,fun k n hk=>?_⟩;simp[World.cell?,h2,hk]
theorem Tabs.mono {P:Program} {w w':World} {I I':Nat→Prop} (h:Tabs P w I) (hI:∀ b,I b→I' b) (hw:∀ b,I b→w'.heap[b]? = w.heap[b]?):Tabs P w' I' where
 row g q hq:=by
  obtain⟨h1,h2⟩:=h.row g q hq;exact⟨hI g h1,by rw[hw g h1];exact h2⟩
 err g hg:=by
  obtain⟨h1,te,pe,h2⟩:=h.err g hg;exact⟨hI g h1,te,pe,by rw[← h2];simp[World.cell?,hw g h1]⟩
structure Sim (c:Cx) (w:World) (I:Nat→Prop) (μ:Mu) (H:Hp):Prop where
 kept:Kept c.Mb c.w0 w
 lt:∀ b,I b→b<w.heap.size
 old:∀ b,c.I0 b→I b
 new:∀ b,I b→c.I0 b∨c.w0.heap.size≤b
 ver:∀ o,(μ o).u=(H o).u
 ob:∀ o,OSim w I μ (μ o) (H o).ob
 apart:∀ o o',BJ (μ o) (H o).ob=true→BJ (μ o') (H o').ob=true→o ≠ o'→(μ o).b ≠ (μ o').b
 own:∀ o,BJ (μ o) (H o).ob=true→¬ I (μ o).b∧(c.M0 o (μ o).b∨c.w0.heap.size≤(μ o).b)∧(μ o).b<w.heap.size
 mle:MuLe c.m0 μ
 tag:∀ o,BJ (μ o) (H o).ob=true→B3 o (μ o).e=true
 tab:Tabs c.P w I
structure Ext (I:Nat→Prop) (μ:Mu) (w:World) (I':Nat→Prop) (μ':Mu) (w':World):Prop where
 sub:∀ b,I b→I' b
 heap:∀ b,I b→w'.heap[b]? = w.heap[b]?
 mu:MuLe μ μ'
theorem Ext.refl (I:Nat→Prop) (μ:Mu) (w:World):Ext I μ w I μ w:=⟨fun _ h=>h,fun _ _=>rfl,MuLe.refl _⟩
theorem Ext.trans {I I' I'':Nat→Prop} {μ μ' μ'':Mu} {w w' w'':World} (h:Ext I μ w I' μ' w') (k:Ext I' μ' w' I'' μ'' w''):Ext I μ w I'' μ'' w'':=
 ⟨fun b hb=>k.sub b (h.sub b hb),fun b hb=>(k.heap b (h.sub b hb)).trans (h.heap b hb),h.mu.trans k.mu⟩
theorem Ext.rel {I I':Nat→Prop} {μ μ':Mu} {w w':World} (h:Ext I μ w I' μ' w') {a:A} {x:Value} (hr:Rel w I μ a x):Rel w' I' μ' a x:=hr.mono h.sub h.heap h.mu
section
variable {c:Cx} {w w':World} {I I':Nat→Prop} {μ μ':Mu} {H:Hp} {B:Option Nat}
theorem OSim.keep (h:Ext I μ w I' μ' w') {L:nj} {ob:Ob} (hk:BJ L ob=true→w'.heap[L.b]? = w.heap[L.b]?) (hs:OSim w I μ L ob):OSim w' I' μ' L ob:=by
 cases ob with
 |none=>trivial
 |mp es=>
  obtain⟨l,k,h1,h2⟩:=hs;exact⟨l,k,(hk rfl).trans h1,h2⟩
 |cells cs=>
  obtain⟨vs,h2,h3,h4⟩:=hs;exact⟨vs,(hk rfl).trans h2,h3,fun k y hy=>⟨(h4 k y hy).1,h.rel (h4 k y hy).2⟩⟩
 |arr sz xs=>
  obtain⟨h0,⟨h1,h2⟩ | ⟨h1,vs,h3,h4,h5,h6,h7⟩⟩:=hs
  ·exact⟨h0,.inl ⟨h1,h2⟩⟩
  ·exact⟨h0,.inr ⟨h1,vs,(hk h1).trans h3,h4,h5,h6,fun k y hy=>⟨(h7 k y hy).1,h.rel (h7 k y hy).2⟩⟩⟩
theorem Kept.trans' {M0:Nat→Prop} {w0:World} (h:Kept M0 w0 w) (hg:w.grownBy w' B) (hB:∀ b,B=some b→M0 b∨w0.heap.size≤b):Kept M0 w0 w':=
 ⟨hg.os.trans h.os,hg.tape.trans h.tape,hg.output.trans h.output,Nat.le_trans h.size hg.size,fun b hb hm=>by
  have:=h.size;refine(hg.block b (by omega) (fun e=>?_)).trans (h.block b hb hm);rcases hB b e.symm with h | h
  ·exact hm h
  ·omega⟩
theorem Sim.upd (hs:Sim c w I μ H) (hg:w.grownBy w' B) (d:Nm) (L:nj) (ob:Ob) (hB:B=none∨(B=some (μ d).b∧BJ (μ d) (H d).ob=true)) (hL:(μ d).u<L.u∨L=μ d)
  (hb:BJ L ob=true→(w.heap.size≤L.b∧L.b<w'.heap.size)∨(BJ (μ d) (H d).ob=true∧L.b=(μ d).b)) (ht:BJ L ob=true→B3 d L.e=true)
  (hob:Ext I μ w I (Ar μ d L) w'→OSim w' I (Ar μ d L) L ob):Ext I μ w I (Ar μ d L) w'∧Sim c w' I (Ar μ d L) (Ar H d ⟨L.u,ob⟩):=by
 have hsz:=hg.size;have h0:=hs.kept.size;have hx:Ext I μ w I (Ar μ d L) w':=⟨fun b h=>h,fun b h=>hg.block b (hs.lt b h) (fun e=>by
  rcases hB with hB | ⟨hB,hh⟩
  ·rw[hB] at e;cases e
  ·rw[hB] at e;cases e;exact(hs.own d hh).1 h),fun o=>by
  by_cases e:o=d
  ·subst e;rw[A5];rcases hL with h | rfl
   ·exact⟨by omega,fun e=>by omega⟩
   ·exact⟨CE _,fun _=>rfl⟩
  ·rw[Ao e];exact⟨CE _,fun _=>rfl⟩⟩
 have other:∀ o,o ≠ d→BJ (μ o) (H o).ob=true→w'.heap[(μ o).b]? = w.heap[(μ o).b]?:=fun o ho hh=>hg.block _ (hs.own o hh).2.2 (fun e=>by
  rcases hB with hB | ⟨hB,hd⟩
  ·rw[hB] at e;cases e
  ·rw[hB] at e;exact hs.apart o d hh hd ho (Option.some.inj e))
 have fresh:∀ o,o ≠ d→BJ (μ o) (H o).ob=true→BJ L ob=true→(μ o).b ≠ L.b:=fun o ho hh hl e=>by
  have h1:=(hs.own o hh).2.2;rcases hb hl with ⟨h2,_⟩ | ⟨h2,h3⟩
  ·omega
  ·exact hs.apart o d hh h2 ho (by rw[e,h3])
 refine⟨hx,hs.kept.trans' hg (fun b e=>?_),fun b hb=>by have:=hs.lt b hb;omega,hs.old,hs.new,fun o=>?_,fun o=>?_,fun o o' h1 h2 hne=>?_,fun o h1=>?_,hs.mle.trans hx.mu,fun o h1=>?_,hs.tab.mono (fun _ h=>h) hx.heap⟩
 ·rcases hB with hB | ⟨hB,hd⟩
  ·rw[hB] at e;cases e
  ·rw[hB] at e;cases e;exact(hs.own d hd).2.1.imp (fun h=>⟨d,h⟩) id
 ·by_cases e:o=d
  ·subst e;simp
  ·rw[Ao e,Ao e];exact hs.ver o
 ·by_cases e:o=d
  ·subst e;simp only[A5];exact hob hx
  ·rw[Ao e,Ao e];exact OSim.keep hx (other o e) (hs.ob o)
 ·by_cases e:o=d
  ·subst e;have e':o' ≠ o:=Ne.symm hne;rw[Ao e',Ao e'] at h2;simp only[A5] at h1;rw[A5,Ao e'];exact Ne.symm (fresh o' e' h2 h1)
  ·rw[Ao e,Ao e] at h1;rw[Ao e];by_cases e':o'=d
   ·subst e';simp only[A5] at h2 ⊢;exact fresh o e h1 h2
   ·rw[Ao e',Ao e'] at h2;rw[Ao e'];exact hs.apart o o' h1 h2 hne
 ·by_cases e:o=d
  ·subst e;simp only[A5] at h1 ⊢;rcases hb h1 with ⟨h2,h3⟩ | ⟨h2,h3⟩
   ·exact⟨fun hb=>by have:=hs.lt _ hb;omega,.inr (by omega),h3⟩
   ·obtain⟨k1,k2,k3⟩:=hs.own o h2;rw[h3];exact⟨k1,k2,by omega⟩
  ·rw[Ao e,Ao e] at h1;rw[Ao e];obtain⟨k1,k2,k3⟩:=hs.own o h1;exact⟨k1,k2,by omega⟩
 ·by_cases e:o=d
  ·subst e;simp only[A5] at h1 ⊢;exact ht h1
  ·rw[Ao e,Ao e] at h1;rw[Ao e];exact hs.tag o h1
theorem Sim.same (hs:Sim c w I μ H) (hg:w.grownBy w' none) (hI:∀ b,I b→I' b) (hI':∀ b,I' b→I b∨(w.heap.size≤b∧b<w'.heap.size)):Ext I μ w I' μ w'∧Sim c w' I' μ H:=by
 have hsz:=hg.size;have h0:=hs.kept.size;have hx:Ext I μ w I' μ w':=⟨hI,fun b h=>hg.block b (hs.lt b h) (by simp),MuLe.refl _⟩;refine⟨hx,hs.kept.trans' hg (fun b e=>nomatch e),fun b hb=>?_,fun b hb=>hI b (hs.old b hb),fun b hb=>?_,hs.ver,fun o=>?_,hs.apart,fun o h1=>?_,hs.mle,hs.tag,hs.tab.mono hI hx.heap⟩
 ·rcases hI' b hb with h | h
  ·have:=hs.lt b h;omega
  ·exact h.2
 ·rcases hI' b hb with h | h
  ·exact hs.new b h
  ·right;omega
 ·exact OSim.keep hx (fun hl=>hg.block _ (hs.own o hl).2.2 (by simp)) (hs.ob o)
 ·obtain⟨k1,k2,k3⟩:=hs.own o h1;refine⟨fun hb=>?_,k2,by omega⟩;rcases hI' _ hb with h | h
  ·exact k1 h
  ·omega
theorem Sim.drop (hs:Sim c w I μ H) (d:Nm):Sim c w I μ (Ar H d ⟨(H d).u,.none⟩):=by
 obtain⟨_,h⟩:=hs.upd (w':=w) (B:=none) ⟨rfl,rfl,rfl,CE _,fun _ _ _=>rfl⟩ d (μ d) .none (.inl rfl) (.inr rfl) (fun h=>nomatch h) (fun h=>nomatch h) (fun _=>trivial);have e:Ar μ d (μ d)=μ:=by funext o;unfold Ar;split<;>simp_all
 rw[e,hs.ver d] at h;exact h
theorem Sim.freeze (hs:Sim c w I μ H) (d:Nm) (hb:BJ (μ d) (H d).ob=true) (hM:∀ b,¬ c.M0 d b):Ext I μ w (fun b=>I b∨b=(μ d).b) μ w∧Sim c w (fun b=>I b∨b=(μ d).b) μ (Ar H d ⟨(H d).u,.none⟩):=by
 have hx:Ext I μ w (fun b=>I b∨b=(μ d).b) μ w:=⟨fun b h=>.inl h,fun b h=>rfl,MuLe.refl _⟩;obtain⟨d1,d2,d3⟩:=hs.own d hb;have hne:∀ o,BJ (μ o) ((Ar H d ⟨(H d).u,.none⟩:Hp) o).ob=true→o ≠ d∧BJ (μ o) (H o).ob=true:=fun o h=>by
  by_cases e:o=d
  ·subst e;simp[BJ] at h
  ·rw[Ao e] at h;exact⟨e,h⟩
 refine⟨hx,hs.kept,fun b h=>?_,fun b h=>.inl (hs.old b h),fun b h=>?_,fun o=>?_,fun o=>?_,fun o o' h1 h2 hn=>?_,fun o h=>?_,hs.mle,fun o h=>hs.tag o (hne o h).2,hs.tab.mono (fun _ h=>.inl h) hx.heap⟩
 ·rcases h with h | rfl
  ·exact hs.lt b h
  ·exact d3
 ·rcases h with h | rfl
  ·exact hs.new b h
  ·rcases d2 with h | h
   ·exact(hM _ h).elim
   ·exact .inr h
 ·by_cases e:o=d
  ·subst e;simp[hs.ver]
  ·rw[Ao e];exact hs.ver o
 ·by_cases e:o=d
  ·subst e;simp only[A5];trivial
  ·rw[Ao e];exact OSim.keep hx (fun _=>rfl) (hs.ob o)
 ·exact hs.apart o o' (hne o h1).2 (hne o' h2).2 hn
 ·obtain⟨e,h⟩:=hne o h;obtain⟨k1,k2,k3⟩:=hs.own o h;refine⟨fun hh=>?_,k2,k3⟩;rcases hh with hh | hh
  ·exact k1 hh
  ·exact hs.apart o d h hb e hh
end
inductive Eff where
 |nil
 |one (o:Nm) (x:VOb)
 |fn (rs:List Nat) (F:Hp)
def Eff.app:Eff→Hp→Hp
 |.nil,H=>H
 |.one o x,H=>Ar H o x
 |.fn rs F,H=>fun o=>match o with
  |r::p=>if rs.contains r=true then F (r::p) else H (r::p)
  |[]=>H []
@[simp] theorem AaL {H:Hp}:Eff.nil.app H=H:=rfl
@[simp] theorem Hn {H:Hp} {o:Nm} {x:VOb}:(Eff.one o x).app H=Ar H o x:=rfl
def RE (H:Hp) (o:Nm) (u:Nat):Option (List A):=
 match H o with
 |⟨u',.cells cs⟩=>if u'=u then some cs else none
 |_=>none
def KH (H:Hp) (o:Nm) (u:Nat):Option (Nat × List A):=
 match H o with
 |⟨u',.arr s xs⟩=>if u'=u then some (s,xs) else none
 |_=>none
theorem NV {H:Hp} {o:Nm} {u:Nat} {cs:List A} (h:RE H o u=some cs):(H o).u=u∧(H o).ob = .cells cs:=by
 unfold RE at h;split at h
 ·rename_i hq;split at h
  ·cases h;rw[hq];exact⟨‹_›,rfl⟩
  ·cases h
 ·cases h
theorem DG {H:Hp} {o:Nm} {u s:Nat} {xs:List A} (h:KH H o u=some (s,xs)):(H o).u=u∧(H o).ob = .arr s xs:=by
 unfold KH at h;split at h
 ·rename_i hq;split at h
  ·cases h;rw[hq];exact⟨‹_›,rfl⟩
  ·cases h
 ·cases h
theorem Sim.cells {c:Cx} {w:World} {I:Nat→Prop} {μ:Mu} {H:Hp} (hs:Sim c w I μ H) {o:Nm} {u:Nat} {cs:List A} (h:RE H o u=some cs):(μ o).u=u∧∃ vs:Array Value,w.heap[(μ o).b]? = some (.cells vs (μ o).e (0,0))∧vs.size=cs.length∧∀ (k:Nat) (y:A),cs[k]? = some y→y.one=true∧Rel w I μ y (vs.getD k undef):=by
 obtain⟨h1,h2⟩:=NV h;have:=hs.ob o;rw[h2] at this;exact⟨by rw[hs.ver,h1],this⟩
theorem Sim.row {c:Cx} {w:World} {I:Nat→Prop} {μ:Mu} {H:Hp} (hs:Sim c w I μ H) {o:Nm} {u sz:Nat} {xs:List A} (h:KH H o u=some (sz,xs)):(μ o).u=u∧(μ o).sz=sz∧(((μ o).bk=false∧xs=[])∨((μ o).bk=true∧∃ vs:Array Value,w.heap[(μ o).b]? = some (.cells vs (μ o).e (0,0))∧vs.size=(μ o).cap*sz ∧
   xs.length≤(μ o).cap∧(∀ x,x ∈ xs→x.cells.length=sz)∧∀ (k:Nat) (y:A),(xs.flatMap A.cells)[k]? = some y→y.one=true∧Rel w I μ y (vs.getD k undef))):=by
 obtain⟨h1,h2⟩:=DG h;have:=hs.ob o;rw[h2] at this;exact⟨by rw[hs.ver,h1],this⟩
def lk:List (Nat × A)→Nat→A
 |[],_=>.any
 |(k,x)::r,t=>if k=t then x else lk r t
def RP:Value→A
 |.slice none 0 0=>.sl true []
 |x=>.v x
def CU:Value→A
 |.agg cs=>.agg (cs.toList.map RP)
 |x=>RP x
def ev (s:List (Nat × A)):Operand→A
 |.tmp t=>lk s t
 |.const x=>CU x
 |.global g=>.v (.pointer (some ⟨g,0,none⟩))
 |.func f=>.fnc f [] []
section
variable {w:World} {I:Nat→Prop} {μ:Mu}
theorem V2 (x:Value):Rel w I μ (RP x) x:=by
 unfold RP;split
 ·exact .slN _ _ _ _ (fun _=>rfl)
 ·exact .v _ _
theorem Gu (x:Value):Rel w I μ (CU x) x:=by
 unfold CU;split
 ·rename_i cs;refine .agg _ _ _ (by simp) fun k y hk=>?_;simp only[List.getElem?_map,Option.map_eq_some_iff] at hk;obtain⟨u,hu,rfl⟩:=hk;have:cs.getD k undef=u:=by
   have h1:cs[k]? = some u:=by simpa using hu
   simp[h1]
  rw[this];exact V2 u
 ·exact V2 _
end
def Cu (P:Program) (t:TypeId):Option Bool:=
 match P.underlying t with
 |some (.struct _) | some (.array _ _)=>some true
 |some _=>some false
 |none=>none
def B2 (P:Program) (t:TypeId):Option Nat:=(P.info? t).map (·.size)
def A1 (P:Program) (t:TypeId):Option Value:=(P.info? t).bind (·.zero)
section
variable {P:Program} {w:World} {t:TypeId}
theorem MR {b:Bool} (h:Cu P t=some b):(isAgg t).run P w = .ok b w:=by
 unfold Cu at h;cases hu:P.underlying t with
 |none=>simp[hu] at h
 |some d=>cases d<;>simp_all [isAgg,run_underlying hu]
theorem A4 {n:Nat} (h:B2 P t=some n):(sizeOf t).run P w = .ok n w:=by
 unfold B2 at h;cases hi:P.info? t with
 |none=>simp[hi] at h
 |some i=>simp[hi] at h;simp[sizeOf,typeInfo,hi,h]
theorem CX {z:Value} (h:A1 P t=some z):(zeroValue t).run P w = .ok z w:=by
 unfold A1 at h;cases hi:P.info? t with
 |none=>simp[hi] at h
 |some i=>simp[hi] at h;simp[zeroValue,typeInfo,hi,h]
end
def Ia (g:Bool) (sz:Nat) (cs:List A):Option A:=
 if g=true then (if sz≤cs.length then some (.agg (cs.take sz)) else none) else cs[0]?
theorem NH {P:Program} {w:World} {I:Nat→Prop} {μ:Mu} {t:TypeId} {g:Bool} {sz:Nat} (hg:Cu P t=some g) (hsz:B2 P t=some sz) (b off:Nat) (cs:List A) (f:Nat→Value)
  (hc:∀ (k:Nat) (y:A),cs[k]? = some y→w.cell? ⟨b,off+k,none⟩=some (f k)) (hr:∀ (k:Nat) (y:A),cs[k]? = some y→Rel w I μ y (f k)) {r:A} (h:Ia g sz cs=some r) :
  ∃ x,(loadVar t ⟨b,off,none⟩).run P w = .ok x w∧Rel w I μ r x:=by
 unfold Ia at h;cases g with
 |true=>
  simp only[if_true] at h;split at h
  ·cases h;rename_i hle;have hl:=run_loadCells (P:=P) w ⟨b,off,none⟩ sz f (fun j hj=>by
    rw[Addr.add_lit];exact hc j _ (List.getElem?_eq_getElem (by omega)))
   refine⟨_,by simp[loadVar,MR hg,A4 hsz,hl];rfl,.agg _ _ _ (by simp;omega) fun k y hk=>?_⟩;rw[List.getElem?_take] at hk;split at hk
   ·rename_i hlt;simp[hlt];exact hr k y hk
   ·cases hk
  ·cases h
 |false=>
  simp only[Bool.false_eq_true,if_false] at h;refine⟨f 0,?_,hr 0 r h⟩;have:=hc 0 r h;simp only[Nat.add_zero] at this;simp[loadVar,MR hg,this]
def Em (P:Program) (H:Hp) (t:TypeId) (a:A):Option A:=
 match Cu P t,B2 P t with
 |some g,some sz=>
  match a with
  |.pim cs=>Ia g sz cs
  |.pob o u off=>match RE H o u with
   |some cs=>Ia g sz (cs.drop off)
   |none=>none
  |.pel o u i j=>match KH H o u with
   |some (_,xs)=>match xs[i]? with
    |some x=>Ia g sz (x.cells.drop j)
    |none=>none
   |none=>none
  |_=>none
 |_,_=>none
theorem Kg {sz:Nat}:∀ {xs:List A} {i j:Nat} {x y:A},(∀ x,x ∈ xs→x.cells.length=sz)→xs[i]? = some x→x.cells[j]? = some y→(xs.flatMap A.cells)[i*sz+j]? = some y
 |[],i,j,x,y,_,hi,_=>by simp at hi
 |z::xs,0,j,x,y,h,hi,hj=>by
  simp only[List.getElem?_cons_zero,Option.some.injEq] at hi;subst hi;simp only[List.flatMap_cons,Nat.zero_mul,Nat.zero_add];rw[List.getElem?_append_left (List.getElem?_eq_some_iff.1 hj).1];exact hj
 |z::xs,i+1,j,x,y,h,hi,hj=>by
  simp only[List.getElem?_cons_succ] at hi;have hz:=h z (by simp);simp only[List.flatMap_cons];rw[List.getElem?_append_right (by rw[hz,Nat.add_mul];omega)];have e:(i+1)*sz+j-z.cells.length=i*sz+j:=by rw[hz,Nat.add_mul];omega
  rw[e];exact Kg (fun x hx=>h x (by simp[hx])) hi hj
theorem Bb {sz:Nat}:∀ {xs:List A},(∀ x,x ∈ xs→x.cells.length=sz)→(xs.flatMap A.cells).length=xs.length*sz
 |[],_=>by simp
 |z::zs,h=>by
  simp only[List.flatMap_cons,List.length_append,List.length_cons,Nat.add_mul,Nat.one_mul];rw[Bb (xs:=zs) (fun x hx=>h x (by simp[hx])),h z (by simp)];omega
theorem JY {c:Cx} {w:World} {I:Nat→Prop} {μ:Mu} {H:Hp} (hs:Sim c w I μ H) {t:TypeId} {a:A} {x:Value} {r:A} (ha:Rel w I μ a x) (h:Em c.P H t a=some r) :
  ∃ v,(Instr.loadAt t x).run c.P w = .ok v w∧Rel w I μ r v:=by
 unfold Em at h;split at h
 ·rename_i g sz hg hsz;split at h
  ·rename_i cs;cases ha with
   |pim _ b off _ f hI h1 hc hr=>
    obtain⟨v,h2,h3⟩:=NH hg hsz b off cs f hc hr h;refine⟨v,by simpa[Instr.loadAt,Instr.sureAddr] using h2,h3.ofI⟩
  ·rename_i o u off;split at h
   ·rename_i cs ho;cases ha with
    |pob _ _ _ _ b' k' g1 g2 g3=>
     obtain⟨hu,vs,k2,k3,k4⟩:=hs.cells ho;obtain⟨rfl,rfl⟩:=g3 hu.symm;obtain⟨v,h2,h3⟩:=NH (w:=w) (I:=I) (μ:=μ) hg hsz (μ o).b off (cs.drop off) (fun k=>vs.getD (off+k) undef) (fun k y hk=>by
      rw[cell_of_row w (μ o).b (off+k) vs (μ o).e (0,0) k2];rw[List.getElem?_drop] at hk;have:off+k<vs.size:=by rw[k3];exact(List.getElem?_eq_some_iff.1 hk).1
      simp[this]) (fun k y hk=>by rw[List.getElem?_drop] at hk;exact(k4 _ y hk).2) h
     exact⟨v,by simpa[Instr.loadAt,Instr.sureAddr] using h2,h3⟩
   ·cases h
  ·rename_i o u i j;split at h
   ·rename_i s xs ho;split at h
    ·rename_i x hx;cases ha with
     |pel _ _ _ _ _ b' k' g1 g2 g3=>
      obtain⟨hu,k2,⟨k1,rfl⟩ | ⟨k1,vs,k3,k4,k5,k6,k7⟩⟩:=hs.row ho
      ·simp at hx
      ·obtain⟨rfl,rfl⟩:=g3 hu.symm;subst k2;obtain⟨v,h2,h3⟩:=NH (w:=w) (I:=I) (μ:=μ) hg hsz (μ o).b (i*(μ o).sz+j) (x.cells.drop j) (fun k=>vs.getD (i*(μ o).sz+j+k) undef) (fun k y hk=>by
        rw[cell_of_row w (μ o).b _ vs (μ o).e (0,0) k3];rw[List.getElem?_drop] at hk;have h1:=Kg k6 hx hk;have h2:=(List.getElem?_eq_some_iff.1 h1).1;have h3:=Bb k6;have h4:xs.length*(μ o).sz≤(μ o).cap*(μ o).sz:=Nat.mul_le_mul_right _ k5;have:i*(μ o).sz+j+k<vs.size:=by rw[k4];omega
        simp[this]) (fun k y hk=>by
         rw[List.getElem?_drop] at hk;have:=(k7 _ y (Kg k6 hx hk)).2
         rwa [← Nat.add_assoc] at this) h
       exact⟨v,by simpa[Instr.loadAt,Instr.sureAddr] using h2,h3⟩
    ·cases h
   ·cases h
  ·cases h
 ·cases h
theorem Rel.cellsRel {w:World} {I:Nat→Prop} {μ:Mu} {a:A} {x:Value} (h:Rel w I μ a x) (h1:A.ones a.cells=true) :
  x.cells.size=a.cells.length∧∀ (k:Nat) (y:A),a.cells[k]? = some y→y.one=true∧Rel w I μ y (x.cells.getD k undef):=by
 have hone:a.one=true→x.cells.size=a.cells.length∧∀ (k:Nat) (y:A),a.cells[k]? = some y→y.one=true∧Rel w I μ y (x.cells.getD k undef):=fun ho=>by
  obtain⟨e1,e2⟩:=h.cells_one ho;rw[e1,e2];refine⟨rfl,fun k y hk=>?_⟩;cases k with
  |zero=>simp at hk;subst hk;exact⟨ho,by simpa using h⟩
  |succ k=>simp at hk
 cases a with
 |agg cs=>
  cases h with
  |agg _ _ vs hl hr=>
   refine⟨hl,fun k y hk=>⟨?_,hr k y hk⟩⟩;simp only[A.ones,A.cells,List.all_eq_true] at h1;exact h1 y (List.mem_of_getElem? hk)
 |_=>exact hone (by simpa[A.ones,A.cells] using h1)
theorem T8 {w:World} {I:Nat→Prop} {μ:Mu} {cs:List A} {vs:Array Value} (hl:vs.size=cs.length) (h:∀ (k:Nat) (y:A),cs[k]? = some y→y.one=true∧Rel w I μ y (vs.getD k undef)) :
  ∀ v,v ∈ vs.toList→v.oneCell'=true:=fun v hv=>by
 obtain⟨k,hk⟩:=List.mem_iff_getElem?.1 hv;have hlt:k<cs.length:=by have:=(List.getElem?_eq_some_iff.1 hk).1;simp at this;omega
 obtain⟨h1,h2⟩:=h k _ (List.getElem?_eq_getElem hlt);have e:vs.getD k undef=v:=by
  have:vs[k]? = some v:=by simpa using hk
  simp[this]
 rw[e] at h2;exact h2.one h1
theorem Fi (w:World) (B:Option Nat):w.grownBy w B:=⟨rfl,rfl,rfl,CE _,fun _ _ _=>rfl⟩
theorem Sd {c:Cx} {w:World} {I:Nat→Prop} {μ:Mu} {H:Hp} (hs:Sim c w I μ H) (d:Nm) (e:TypeId) (a:A) (x:Value) (ha:Rel w I μ a x) (h1:A.ones a.cells=true) (ht:B3 d e=true) :
  ∃ I' μ',Ext I μ w I' μ' (w.alloc (.cells x.cells e))∧Sim c (w.alloc (.cells x.cells e)) I' μ' (Ar H d ⟨(H d).u+1,.cells a.cells⟩) ∧
   Rel (w.alloc (.cells x.cells e)) I' μ' (.pob d ((H d).u+1) 0) (.pointer (some ⟨w.heap.size,0,none⟩)):=by
 obtain⟨k1,k2⟩:=ha.cellsRel h1;obtain⟨hx,hs'⟩:=hs.upd (World.grownBy_alloc w (.cells x.cells e) none) d ⟨(H d).u+1,true,w.heap.size,0,0,e⟩ (.cells a.cells) (.inl rfl) (.inl (by rw[hs.ver];exact Nat.lt_succ_self _)) (fun _=>.inl (by simp)) (fun _=>ht) (fun hx=>
  ⟨x.cells,heap_alloc_new w _,k1,fun k y hk=>⟨(k2 k y hk).1,hx.rel (k2 k y hk).2⟩⟩)
 exact⟨_,_,hx,hs',.pob _ _ _ _ _ _ (by omega) (by simp) (fun _=>by simp)⟩
def LD (P:Program) (H:Hp) (d:Nm) (e:TypeId):Option (A × Eff):=
 match A1 P e with
 |some z=>if A.ones (CU z).cells=true∧B3 d e=true then some (.pob d ((H d).u+1) 0,.one d ⟨(H d).u+1,.cells (CU z).cells⟩) else none
 |none=>none
theorem TN {c:Cx} {w:World} {I:Nat→Prop} {μ:Mu} {H:Hp} (hs:Sim c w I μ H) {d:Nm} {e:TypeId} {r:A} {E:Eff} (h:LD c.P H d e=some (r,E)) :
  ∃ v w',(Instr.alloc e true (.tuple #[])).run c.P w = .ok v w'∧∃ I' μ',Ext I μ w I' μ' w'∧Sim c w' I' μ' (E.app H)∧Rel w' I' μ' r v:=by
 unfold LD at h;split at h
 ·rename_i z hz;split at h
  ·rename_i h1;cases h;obtain⟨I',μ',k⟩:=Sd hs d e (CU z) z (Gu z) h1.1 h1.2;exact⟨_,_,by simp[Instr.alloc,CX hz,newVar,newRow],I',μ',k⟩
  ·cases h
 ·cases h
def Xh (H:Hp) (d:Nm) (e:TypeId) (a:A):Option (A × Eff):=if A.ones a.cells=true∧B3 d e=true then some (.pob d ((H d).u+1) 0,.one d ⟨(H d).u+1,.cells a.cells⟩) else none
theorem Xu {c:Cx} {w:World} {I:Nat→Prop} {μ:Mu} {H:Hp} (hs:Sim c w I μ H) {d:Nm} {e:TypeId} {a r:A} {x:Value} {E:Eff} (ha:Rel w I μ a x) (h:Xh H d e a=some (r,E)) :
  ∃ v w',(Instr.box e x).run c.P w = .ok v w'∧∃ I' μ',Ext I μ w I' μ' w'∧Sim c w' I' μ' (E.app H)∧Rel w' I' μ' r v:=by
 unfold Xh at h;split at h
 ·rename_i h1;cases h;obtain⟨I',μ',k⟩:=Sd hs d e a x ha h1.1 h1.2;exact⟨_,_,by simp[Instr.box,newVar,newRow],I',μ',k⟩
 ·cases h
def splice (cs:List A) (off:Nat) (news:List A):List A:=cs.take off++news++cs.drop (off+news.length)
theorem HE {cs news:List A} {p:Nat} (h:p+news.length≤cs.length):(splice cs p news).length=cs.length:=by
 simp[splice];omega
theorem G6 {Q:A→Value→Prop} {cs news:List A} {vs nv:Array Value} {p:Nat} (hc:∀ (k:Nat) (y:A),cs[k]? = some y→Q y (vs.getD k undef)) (hl:cs.length≤vs.size)
  (hn:∀ (k:Nat) (y:A),news[k]? = some y→Q y (nv.getD k undef)) (hnl:nv.size=news.length) (hp:p+news.length≤cs.length) :
  ∀ (k:Nat) (y:A),(splice cs p news)[k]? = some y→Q y ((vs.toList.take p++nv.toList++vs.toList.drop (p+nv.toList.length)).toArray.getD k undef):=by
 intro k y hk;unfold splice at hk;have hget:∀ (l:List Value),l.toArray.getD k undef=(l[k]?).getD undef:=fun l=>by simp[Array.getD_eq_getD_getElem?]
 rw[hget];have hvs:∀ (j:Nat),vs.getD j undef=(vs.toList[j]?).getD undef:=fun j=>by simp[Array.getD_eq_getD_getElem?]
 have hnv:∀ (j:Nat),nv.getD j undef=(nv.toList[j]?).getD undef:=fun j=>by simp[Array.getD_eq_getD_getElem?]
 have hnl':nv.toList.length=news.length:=by simpa using hnl
 have hvl:vs.toList.length=vs.size:=by simp
 by_cases h1:k<p
 ·rw[List.append_assoc,List.getElem?_append_left (by simp;omega),List.getElem?_take,if_pos h1] at hk;rw[List.append_assoc,List.getElem?_append_left (by simp;omega),List.getElem?_take,if_pos h1,← hvs];exact hc k y hk
 ·by_cases h2:k<p+news.length
  ·rw[List.append_assoc,List.getElem?_append_right (by simp;omega),List.getElem?_append_left (by simp;omega)] at hk;rw[List.append_assoc,List.getElem?_append_right (by simp;omega),List.getElem?_append_left (by simp;omega)];have e1:(cs.take p).length=p:=by simp;omega
   have e2:(vs.toList.take p).length=p:=by simp;omega
   rw[e1] at hk;rw[e2,← hnv];exact hn _ y hk
  ·rw[List.getElem?_append_right (by simp;omega)] at hk;rw[List.getElem?_append_right (by simp;omega)];have e1:(cs.take p++news).length=p+news.length:=by simp;omega
   have e2:(vs.toList.take p++nv.toList).length=p+news.length:=by simp;omega
   rw[e1,List.getElem?_drop] at hk;rw[e2,List.getElem?_drop,hnl',← hvs];have e3:p+news.length+(k-(p+news.length))=k:=by omega
   rw[e3] at hk ⊢;exact hc k y hk
def A.remake (x:A) (cs:List A):A:=
 match x with
 |.agg _=>.agg cs
 |_=>cs.headD .any
theorem UC {s:Nat}:∀ {xs:List A} {i:Nat} {x x':A},(∀ x,x ∈ xs→x.cells.length=s)→xs[i]? = some x→∀ (j:Nat) (news:List A),j+news.length≤s→x'.cells=splice x.cells j news →
  (xs.set i x').flatMap A.cells=splice (xs.flatMap A.cells) (i*s+j) news
 |[],i,x,x',_,hi,_,_,_,_=>by simp at hi
 |z::xs,0,x,x',h,hi,j,news,hj,hx=>by
  simp only[List.getElem?_cons_zero,Option.some.injEq] at hi;subst hi;have hz:=h z (by simp);simp only[List.set_cons_zero,List.flatMap_cons,hx,splice,Nat.zero_mul,Nat.zero_add];rw[List.take_append_of_le_length (by omega),List.drop_append_of_le_length (by omega)];simp[List.append_assoc]
 |z::xs,i+1,x,x',h,hi,j,news,hj,hx=>by
  simp only[List.getElem?_cons_succ] at hi;have hz:=h z (by simp);have ih:=UC (xs:=xs) (fun x hx=>h x (by simp[hx])) hi j news hj hx;simp only[List.set_cons_succ,List.flatMap_cons,ih,splice];have e:(i+1)*s+j=z.cells.length+(i*s+j):=by rw[hz,Nat.add_mul];omega
  have e':(i+1)*s+j+news.length=z.cells.length+(i*s+j+news.length):=by omega
  rw[e',e,List.take_length_add_append,List.drop_length_add_append];simp[List.append_assoc]
def A.isAgg:A→Bool
 |.agg _=>true
 |_=>false
theorem TW {x:A} (h:x.isAgg=true) (cs:List A):(x.remake cs).cells=cs:=by
 cases x<;>simp_all [A.isAgg,A.remake,A.cells]
def FE (P:Program) (H:Hp) (t:TypeId) (a val:A):Option Eff:=
 match B2 P t with
 |some sz=>
  if val.cells.length=sz∧A.ones val.cells=true then
   match a with
   |.pob o u off=>match RE H o u with
    |some cs=>if off+sz≤cs.length then some (.one o ⟨u,.cells (splice cs off val.cells)⟩) else none
    |none=>none
   |.pel o u i j=>match KH H o u with
    |some (s,xs)=>match xs[i]? with
     |some x=>
      if j=0∧sz=s then some (.one o ⟨u,.arr s (xs.set i val)⟩)
      else if j+sz≤s∧x.isAgg=true then some (.one o ⟨u,.arr s (xs.set i (x.remake (splice x.cells j val.cells)))⟩) else none
     |none=>none
    |none=>none
   |_=>none
  else none
 |none=>none
theorem C3 (w:World) (b:Nat) (cs:Array Value):w.grownBy (w.setRow b cs) (some b):=
 ⟨rfl,rfl,rfl,by simp,fun k _ hk=>setRow_other w b k cs (fun e=>hk (by rw[e]))⟩
theorem Ol {P:Program} {w:World} {t:TypeId} {sz:Nat} (hsz:B2 P t=some sz) {b off:Nat} {x:Value} {vs:Array Value} {e:TypeId} (hc:x.cells.size=sz) (hb:w.heap[b]? = some (.cells vs e (0,0)))
  (hfit:off+sz≤vs.size) (h1:∀ v,v ∈ x.cells.toList→v.oneCell'=true) :
  (Instr.storeAt t (.pointer (some ⟨b,off,none⟩)) x).run P w = .ok () (w.setRow b (vs.toList.take off++x.cells.toList++vs.toList.drop (off+x.cells.toList.length)).toArray):=by
 have h:=run_storeCells_at P b off e x.cells.toList 0 vs w hb (by simp[hc];omega) h1;simp only[Nat.add_zero] at h;simp[Instr.storeAt,Instr.sureAddr,storeVar,A4 hsz,hc,h]
theorem Ce (μ:Mu) (d:Nm):Ar μ d (μ d)=μ:=by funext o;unfold Ar;split<;>simp_all
theorem Th {c:Cx} {w:World} {I:Nat→Prop} {μ:Mu} {H:Hp} (hs:Sim c w I μ H) {t:TypeId} {a val:A} {x y:Value} {E:Eff} (ha:Rel w I μ a x) (hv:Rel w I μ val y) (h:FE c.P H t a val=some E) :
  ∃ w',(Instr.storeAt t x y).run c.P w = .ok () w'∧Ext I μ w I μ w'∧Sim c w' I μ (E.app H):=by
 unfold FE at h;split at h
 ·rename_i sz hsz;split at h
  ·rename_i hval;obtain⟨hvl,hv1⟩:=hval;obtain⟨c1,c2⟩:=hv.cellsRel hv1;have hone:=T8 c1 c2;split at h
   ·rename_i o u off;split at h
    ·rename_i cs ho;split at h
     ·rename_i hfit;cases h;cases ha with
      |pob _ _ _ _ b' k' g1 g2 g3=>
       obtain⟨hu,vs,k2,k3,k4⟩:=hs.cells ho;obtain⟨rfl,rfl⟩:=g3 hu.symm;have hB:BJ (μ o) (H o).ob=true:=by rw[(NV ho).2];rfl
       have hrun:=Ol (P:=c.P) hsz (by omega:y.cells.size=sz) k2 (by omega:off+sz≤vs.size) hone;obtain⟨hx,hs'⟩:=hs.upd (C3 w (μ o).b (vs.toList.take off++y.cells.toList++vs.toList.drop (off+y.cells.toList.length)).toArray) o (μ o) (.cells (splice cs off val.cells)) (.inr ⟨rfl,hB⟩) (.inr rfl) (fun _=>.inr ⟨hB,rfl⟩) (fun _=>hs.tag _ hB) (fun hx=>by
        refine⟨_,setRow_heap w (μ o).b vs _ (μ o).e (0,0) k2,?_,?_⟩
        ·rw[HE (by omega)];simp;omega
        ·have:=G6 (Q:=fun y v=>y.one=true∧Rel w I μ y v) k4 (by omega) c2 c1 (p:=off) (by omega);exact fun k y hk=>⟨(this k y hk).1,hx.rel (this k y hk).2⟩)
       rw[Ce,hu] at hs';rw[Ce] at hx;exact⟨_,hrun,hx,hs'⟩
     ·cases h
    ·cases h
   ·rename_i o u i j;split at h
    ·rename_i s xs ho;split at h
     ·rename_i x hx;cases ha with
      |pel _ _ _ _ _ b' k' g1 g2 g3=>
       obtain⟨hu,k2,⟨k1,rfl⟩ | ⟨k1,vs,k3,k4,k5,k6,k7⟩⟩:=hs.row ho
       ·simp at hx
       ·obtain⟨rfl,rfl⟩:=g3 hu.symm;subst k2;have hB:BJ (μ o) (H o).ob=true:=by rw[(DG ho).2];exact k1
        have hi:=(List.getElem?_eq_some_iff.1 hx).1;have hflat:=Bb k6;have hcap:xs.length*(μ o).sz≤(μ o).cap*(μ o).sz:=Nat.mul_le_mul_right _ k5;have hin:i*(μ o).sz+(μ o).sz≤xs.length*(μ o).sz:=by rw[← Nat.succ_mul];exact Nat.mul_le_mul_right _ hi
        have main:∀ (x':A),j+sz≤(μ o).sz→x'.cells=splice x.cells j val.cells→∃ w',(Instr.storeAt t (.pointer (some ⟨(μ o).b,i*(μ o).sz+j,none⟩)) y).run c.P w = .ok () w'∧Ext I μ w I μ w' ∧
          Sim c w' I μ (Ar H o ⟨u,.arr (μ o).sz (xs.set i x')⟩):=fun x' hj hx'=>by
         have hrun:=Ol (P:=c.P) hsz (by omega:y.cells.size=sz) k3 (by omega:(i*(μ o).sz+j)+sz≤vs.size) hone;obtain⟨hx0,hs'⟩:=hs.upd (C3 w (μ o).b (vs.toList.take (i*(μ o).sz+j)++y.cells.toList++vs.toList.drop (i*(μ o).sz+j+y.cells.toList.length)).toArray) o (μ o) (.arr (μ o).sz (xs.set i x')) (.inr ⟨rfl,hB⟩) (.inr rfl) (fun _=>.inr ⟨hB,rfl⟩) (fun _=>hs.tag _ hB) (fun hx0=>by
          refine⟨rfl,.inr ⟨k1,_,setRow_heap w (μ o).b vs _ (μ o).e (0,0) k3,?_,by simpa using k5,?_,?_⟩⟩
          ·simp;omega
          ·intro z hz;rcases List.mem_or_eq_of_mem_set hz with hz | rfl
           ·exact k6 z hz
           ·rw[hx',HE (by rw[k6 x (List.mem_of_getElem? hx)];omega)];exact k6 x (List.mem_of_getElem? hx)
          ·rw[UC k6 hx j val.cells (by omega) hx'];have:=G6 (Q:=fun y v=>y.one=true∧Rel w I μ y v) k7 (by omega) c2 c1 (p:=i*(μ o).sz+j) (by omega);exact fun k y hk=>⟨(this k y hk).1,hx0.rel (this k y hk).2⟩)
         rw[Ce,hu] at hs';rw[Ce] at hx0;exact⟨_,hrun,hx0,hs'⟩
        split at h
        ·rename_i hj;obtain⟨rfl,rfl⟩:=hj;cases h;refine main val (by omega) ?_;simp[splice];rw[hvl,k6 x (List.mem_of_getElem? hx)];exact CE _
        ·split at h
         ·rename_i hj;obtain⟨hj,hag⟩:=hj;cases h;exact main _ hj (TW hag _)
         ·cases h
     ·cases h
    ·cases h
   ·cases h
  ·cases h
 ·cases h
def Ah (P:Program) (s:TypeId) (f:Nat):Option Nat:=
 match P.underlying s with
 |some (.struct fs)=>match fs[f]? with
  |some fd=>match B2 P fd.type with
   |some n=>if n=0 then none else some fd.offset
   |none=>none
  |none=>none
 |_=>none
def A.shift (n:Nat):A→Option A
 |.pim cs=>some (.pim (cs.drop n))
 |.pob o u off=>some (.pob o u (off+n))
 |.pel o u i j=>some (.pel o u i (j+n))
 |_=>none
theorem Ov {w:World} {I:Nat→Prop} {μ:Mu} {a r:A} {x:Value} {n:Nat} (ha:Rel w I μ a x) (h:a.shift n=some r):∃ b off,x = .pointer (some ⟨b,off,none⟩)∧Rel w I μ r (.pointer (some ⟨b,off+n,none⟩)):=by
 cases a with
 |pim cs=>
  cases h;cases ha with
  |pim _ b off _ g hI h1 hc hr=>
   refine⟨b,off,rfl,.pim _ _ _ _ (fun k=>g (n+k)) hI (fun k y hk=>?_) (fun k y hk=>?_) (fun k y hk=>?_)⟩
   ·rw[List.getElem?_drop] at hk;exact h1 _ y hk
   ·rw[List.getElem?_drop] at hk;have:=hc _ y hk;rwa [← Nat.add_assoc] at this
   ·rw[List.getElem?_drop] at hk;exact hr _ y hk
 |pob o u off=>
  cases h;cases ha with
  |pob _ _ _ _ b' k' g1 g2 g3=>exact⟨_,_,rfl,.pob _ _ _ _ _ _ g1 g2 fun e=>by obtain⟨h1,h2⟩:=g3 e;exact⟨h1,by omega⟩⟩
 |pel o u i j=>
  cases h;cases ha with
  |pel _ _ _ _ _ b' k' g1 g2 g3=>exact⟨_,_,rfl,.pel _ _ _ _ _ _ _ g1 g2 fun e=>by obtain⟨h1,h2⟩:=g3 e;exact⟨h1,by omega⟩⟩
 |_=>cases h
def Eb (P:Program) (s:TypeId) (a:A) (f:Nat):Option A:=(Ah P s f).bind a.shift
theorem NU {P:Program} {w:World} {I:Nat→Prop} {μ:Mu} {s:TypeId} {a r:A} {x:Value} {f:Nat} (ha:Rel w I μ a x) (h:Eb P s a f=some r) :
  ∃ v,(Instr.fieldAt s x f).run P w = .ok v w∧Rel w I μ r v:=by
 unfold Eb at h;rw[Option.bind_eq_some_iff] at h;obtain⟨n,hn,h⟩:=h;unfold Ah at hn;split at hn
 ·rename_i fs hu;split at hn
  ·rename_i fd hf;split at hn
   ·rename_i m hm;split at hn
    ·cases hn
    ·rename_i h0;cases hn;obtain⟨b,off,rfl,hr⟩:=Ov ha h;refine⟨_,?_,hr⟩;simp[Instr.fieldAt,run_underlying hu,hf,Instr.sureAddr,fieldPlace,A4 hm,h0,Addr.add_lit]
   ·cases hn
  ·cases hn
 ·cases hn
def KS (P:Program) (t:TypeId) (cs:List A) (off:Nat):Option A:=
 match Cu P t,B2 P t with
 |some g,some sz=>Ia g sz (cs.drop off)
 |_,_=>none
theorem Hv {P:Program} {w:World} {I:Nat→Prop} {μ:Mu} {t:TypeId} {cs:List A} {vs:Array Value} {off:Nat} {r:A} (hl:vs.size=cs.length) (hr:∀ (k:Nat) (y:A),cs[k]? = some y→Rel w I μ y (vs.getD k undef))
  (h:KS P t cs off=some r):∃ v,(part t vs off).run P w = .ok v w∧Rel w I μ r v:=by
 unfold KS at h;split at h
 ·rename_i g sz hg hsz;unfold Ia at h;cases g with
  |true=>
   simp only[if_true] at h;split at h
   ·rename_i hle;cases h;rw[List.length_drop] at hle;refine⟨_,by simp[part,MR hg,A4 hsz];rfl,.agg _ _ _ ?_ fun k y hk=>?_⟩
    ·simp;omega
    ·rw[List.getElem?_take] at hk;split at hk
     ·rename_i hlt;rw[List.getElem?_drop] at hk;have h1:=hr _ y hk;have h2:(vs.extract off (off+sz)).getD k undef=vs.getD (off+k) undef:=by
       have:off+k<vs.size:=by rw[hl];exact(List.getElem?_eq_some_iff.1 hk).1
       simp[Array.getD_eq_getD_getElem?,Array.getElem?_extract];rw[if_pos (by omega)]
      rw[h2];exact h1
     ·cases hk
   ·cases h
  |false=>
   simp only[Bool.false_eq_true,if_false,List.getElem?_drop,Nat.add_zero] at h;have h1:=hr _ r h;have:off<vs.size:=by rw[hl];exact(List.getElem?_eq_some_iff.1 h).1
   refine⟨vs.getD off undef,?_,h1⟩;simp[part,MR hg,this]
 ·cases h
def LQ (P:Program) (s:TypeId) (a:A) (f:Nat):Option A:=
 match P.underlying s,a with
 |some (.struct fs),.agg cs=>match fs[f]? with
  |some fd=>KS P fd.type cs fd.offset
  |none=>none
 |_,_=>none
theorem TF {P:Program} {w:World} {I:Nat→Prop} {μ:Mu} {s:TypeId} {a r:A} {x:Value} {f:Nat} (ha:Rel w I μ a x) (h:LQ P s a f=some r) :
  ∃ v,(Instr.field s x f).run P w = .ok v w∧Rel w I μ r v:=by
 unfold LQ at h;split at h
 ·rename_i fs cs hu;split at h
  ·rename_i fd hf;cases ha with
   |agg _ _ vs hl hr=>
    obtain⟨v,h1,h2⟩:=Hv (P:=P) hl hr h;exact⟨v,by simp[Instr.field,run_underlying hu,hf,asAgg,h1],h2⟩
  ·cases h
 ·cases h
def F3 (a:A) (i:Nat):Option A:=
 match a with
 |.tup xs=>xs[i]?
 |_=>none
theorem Pr {P:Program} {w:World} {I:Nat→Prop} {μ:Mu} {a r:A} {x:Value} {i:Nat} (ha:Rel w I μ a x) (h:F3 a i=some r) :
  ∃ v,(Instr.extract x i).run P w = .ok v w∧Rel w I μ r v:=by
 unfold F3 at h;split at h
 ·cases ha with
  |tup _ _ vs hl hr=>
   have:i<vs.size:=by rw[hl];exact(List.getElem?_eq_some_iff.1 h).1
   refine⟨vs.getD i undef,?_,hr i r h⟩;simp[Instr.extract,this]
 ·cases h
def Ds (s:Nat) (xs:List A):Bool:=xs.all fun x=>x.cells.length == s
theorem Vw {s:Nat} {xs:List A} (h:Ds s xs=true):∀ x,x ∈ xs→x.cells.length=s:=by
 simpa[Ds] using h
def Fb (H:Hp) (s:Nat) (a:A):Option (List A):=
 match a with
 |.sl _ xs=>if Ds s xs=true then some xs else none
 |.osl o u sz off len=>match KH H o u with
  |some (s',ys)=>if s'=s∧sz=s∧off+len≤ys.length then some ((ys.drop off).take len) else none
  |none=>none
 |.v (.slice _ 0 _)=>some []
 |_=>none
def Reads (w:World) (I:Nat→Prop) (μ:Mu) (x:Value) (s:Nat) (xs:List A):Prop:=
 ∃ (a:Option Addr) (cap:Nat) (g:Nat→Value),x = .slice a xs.length cap∧(∀ z,z ∈ xs→z.cells.length=s) ∧
  (xs ≠ []→∃ b off,a=some ⟨b,off,none⟩∧∀ (k:Nat) (y:A),(xs.flatMap A.cells)[k]? = some y→y.one=true∧w.cell? ⟨b,off+k,none⟩=some (g k)∧Rel w I μ y (g k))
theorem CW {s:Nat}:∀ {xs:List A} {l n k:Nat} {y:A},(∀ x,x ∈ xs→x.cells.length=s)→(((xs.drop l).take n).flatMap A.cells)[k]? = some y→(xs.flatMap A.cells)[l*s+k]? = some y:=by
 intro xs l n k y h hk;have h1:xs.flatMap A.cells=(xs.take l).flatMap A.cells++(xs.drop l).flatMap A.cells:=by rw[← List.flatMap_append,List.take_append_drop]
 have h2:(xs.drop l).flatMap A.cells=((xs.drop l).take n).flatMap A.cells++((xs.drop l).drop n).flatMap A.cells:=by rw[← List.flatMap_append,List.take_append_drop]
 rcases Nat.lt_or_ge xs.length l with hl | hl
 ·rw[List.drop_eq_nil_of_le (by omega)] at hk;simp at hk
 ·have h3:((xs.take l).flatMap A.cells).length=l*s:=by
   rw[Bb (sz:=s) (fun x hx=>h x (Zy hx)),List.length_take,Nat.min_eq_left hl]
  rw[h1,List.getElem?_append_right (by omega),h3,h2,Nat.add_sub_cancel_left,List.getElem?_append_left (List.getElem?_eq_some_iff.1 hk).1];exact hk
theorem GG {c:Cx} {w:World} {I:Nat→Prop} {μ:Mu} {H:Hp} (hs:Sim c w I μ H) {s:Nat} {a:A} {x:Value} {xs:List A} (ha:Rel w I μ a x) (h:Fb H s a=some xs):Reads w I μ x s xs:=by
 unfold Fb at h;split at h
 ·rename_i f ys;split at h
  ·rename_i hl;cases h;cases ha with
   |slN _ _ a cap hf=>exact⟨a,cap,fun _=>undef,rfl,by simp,fun h=>(h rfl).elim⟩
   |sl _ _ b off n cap sz _ g hI hn hc hf hsz h1 hcell hr=>
    exact⟨_,cap,g,by rw[hn],Vw hl,fun _=>⟨b,off,rfl,fun k y hk=>⟨h1 k y hk,hcell k y hk,(hr k y hk).ofI⟩⟩⟩
  ·cases h
 ·rename_i o u sz off len;split at h
  ·rename_i s' ys ho;split at h
   ·rename_i hc;obtain⟨rfl,rfl,hle⟩:=hc;cases h;have hlen:((ys.drop off).take len).length=len:=by simp;omega
    cases ha with
    |osl _ _ _ _ _ _ a cap g1 g2 g4 g5 g3=>
     obtain⟨hu,k2,⟨k1,rfl⟩ | ⟨k1,vs,k3,k4,k5,k6,k7⟩⟩:=hs.row ho
     ·simp at hle;obtain⟨rfl,rfl⟩:=hle;exact⟨a,cap,fun _=>undef,by simp,by simp,fun h=>(h (by simp)).elim⟩
     ·subst k2;have hmem:∀ z,z ∈ (ys.drop off).take len→z.cells.length=(μ o).sz:=fun z hz=>k6 z (mN (Zy hz));by_cases h0:len=0
      ·subst h0;exact⟨a,cap,fun _=>undef,by simp,by simp,fun h=>(h (by simp)).elim⟩
      ·obtain⟨_,⟨e1,e2⟩ | ⟨e1,e2,e3⟩⟩:=g3 hu.symm
       ·exact(h0 e1).elim
       ·refine⟨a,cap,fun k=>vs.getD (off*(μ o).sz+k) undef,by rw[hlen],hmem,fun _=>⟨(μ o).b,off*(μ o).sz,e2,fun k y hk=>?_⟩⟩;have h3:=CW k6 hk;have h4:=Bb k6;have h5:ys.length*(μ o).sz≤(μ o).cap*(μ o).sz:=Nat.mul_le_mul_right _ k5;have h6:=(List.getElem?_eq_some_iff.1 h3).1;refine⟨(k7 _ y h3).1,?_,(k7 _ y h3).2⟩;rw[cell_of_row w (μ o).b _ vs (μ o).e (0,0) k3];have:off*(μ o).sz+k<vs.size:=by rw[k4];omega
        simp[this]
   ·cases h
  ·cases h
 ·cases h;cases ha;exact⟨_,_,fun _=>undef,rfl,by simp,fun h=>(h rfl).elim⟩
 ·cases h
def A7 (P:Program) (t:TypeId) (a ix:A):Option A:=
 match P.underlying t,ix with
 |some (.slice e),.v (.int _ i)=>
  match B2 P e with
  |some m=>
   match a with
   |.sl _ xs=>if 0≤i∧i<xs.length then (match xs[i.toNat]? with
     |some x=>if x.cells.length=m then some (.pim x.cells) else none
     |none=>none) else none
   |.osl o u sz off len=>if 0≤i∧i<len∧sz=m then some (.pel o u (off+i.toNat) 0) else none
   |_=>none
  |none=>none
 |some (.array n e),.v (.int _ i)=>
  match B2 P e with
  |some m=>if 0≤i∧i<n then a.shift (i.toNat*m) else none
  |none=>none
 |_,_=>none
theorem NR {P:Program} {w:World} {I:Nat→Prop} {μ:Mu} {t:TypeId} {a ix r:A} {x y:Value} (ha:Rel w I μ a x) (hi:Rel w I μ ix y) (h:A7 P t a ix=some r) :
  ∃ v,(Instr.indexAt t x y).run P w = .ok v w∧Rel w I μ r v:=by
 unfold A7 at h;split at h
 ·rename_i e k i hu;cases hi;split at h
  ·rename_i m hm;split at h
   ·rename_i f xs;split at h
    ·rename_i hb;split at h
     ·rename_i z hz;split at h
      ·rename_i hzl;cases h;cases ha with
       |slN=>simp at hz
       |sl _ _ b off n cap sz _ g hI hn hc hf hsz h1 hcell hr=>
        have e1:sz=m:=by rw[← hzl,hsz z (List.mem_of_getElem? hz)]
        subst e1 hn;have hg:∀ (j:Nat) (q:A),z.cells[j]? = some q→(xs.flatMap A.cells)[i.toNat*sz+j]? = some q:=fun j q hq=>Kg hsz hz hq;refine⟨.pointer (some ⟨b,off+i.toNat*sz,none⟩),?_,.pim _ _ _ _ (fun j=>g (i.toNat*sz+j)) hI (fun j q hq=>h1 _ _ (hg j q hq)) (fun j q hq=>?_) (fun j q hq=>hr _ _ (hg j q hq))⟩
        ·simp[Instr.indexAt,asIntOf,run_underlying hu,hb.1,hb.2,A4 hm,Addr.add_lit]
        ·rw[Nat.add_assoc];exact hcell _ _ (hg j q hq)
      ·cases h
     ·cases h
    ·cases h
   ·rename_i o u sz off len;split at h
    ·rename_i hb;obtain⟨h0,h1,rfl⟩:=hb;cases h;cases ha with
     |osl _ _ _ _ _ _ a cap g1 g2 g4 g5 g3=>
      obtain⟨b',k',rfl⟩:=g5 (by omega);refine⟨.pointer (some ⟨b',k'+i.toNat*sz,none⟩),by simp[Instr.indexAt,asIntOf,run_underlying hu,h0,h1,A4 hm,Addr.add_lit],.pel _ _ _ _ _ _ _ g1 g2 fun e=>?_⟩;obtain⟨k2,⟨e1,e2⟩ | ⟨e1,e2,e3⟩⟩:=g3 e
      ·omega
      ·cases e2;exact⟨rfl,by rw[k2,Nat.add_mul];omega⟩
    ·cases h
   ·cases h
  ·cases h
 ·rename_i n e k i hu;cases hi;split at h
  ·rename_i m hm;split at h
   ·rename_i hb;obtain⟨b,off,rfl,hr⟩:=Ov ha h;refine⟨_,?_,hr⟩;simp[Instr.indexAt,asIntOf,run_underlying hu,hb.1,hb.2,A4 hm,Addr.add_lit,Instr.sureAddr]
   ·cases h
  ·cases h
 ·cases h
def II (P:Program) (t:TypeId) (a ix:A):Option A:=
 match P.underlying t,a,ix with
 |some (.array n e),.agg cs,.v (.int _ i)=>
  match B2 P e with
  |some m=>if 0≤i∧i<n then KS P e cs (i.toNat*m) else none
  |none=>none
 |some .string,.v (.string s),.v (.int _ i)=>if 0≤i then (s[i.toNat]?).map (fun b=>.v (.int .u8 b.toNat)) else none
 |_,_,_=>none
theorem TI {P:Program} {w:World} {I:Nat→Prop} {μ:Mu} {t:TypeId} {a ix r:A} {x y:Value} (ha:Rel w I μ a x) (hi:Rel w I μ ix y) (h:II P t a ix=some r) :
  ∃ v,(Instr.index t x y).run P w = .ok v w∧Rel w I μ r v:=by
 unfold II at h;split at h
 ·rename_i n e cs k i hu;cases hi;split at h
  ·rename_i m hm;split at h
   ·rename_i hb;cases ha with
    |agg _ _ vs hl hr=>
     obtain⟨v,h1,h2⟩:=Hv (P:=P) hl hr h;exact⟨v,by simp[Instr.index,asIntOf,run_underlying hu,hb.1,hb.2,A4 hm,h1],h2⟩
   ·cases h
  ·cases h
 ·rename_i s k i hu;cases hi;cases ha;split at h
  ·rename_i h0;simp only[Option.map_eq_some_iff] at h;obtain⟨b,hb,rfl⟩:=h;exact⟨_,by simp[Instr.index,asIntOf,run_underlying hu,h0,hb],.v _ _⟩
  ·cases h
 ·cases h
def JV (P:Program) (t:TypeId) (a:A):Option A:=
 match P.underlying t,a with
 |some (.slice _),.sl _ xs=>some (.v (.int .i64 xs.length))
 |some (.slice _),.osl _ _ _ _ n=>some (.v (.int .i64 n))
 |some .string,.v (.string s)=>some (.v (.int .i64 s.size))
 |some (.array n _),_=>some (.v (.int .i64 n))
 |_,_=>none
theorem XE {P:Program} {w:World} {I:Nat→Prop} {μ:Mu} {t ty:TypeId} {a r:A} {x:Value} (ha:Rel w I μ a x) (h:JV P t a=some r) :
  ∃ v,(Builtin.len_ #[t] ty #[x]).run P w = .ok v w∧Rel w I μ r v:=by
 unfold JV at h;split at h
 ·rename_i e f xs hu;cases h;cases ha with
  |slN=>exact⟨_,by simp[Builtin.len_,run_underlying hu,goInt];rfl,by simpa using .v _ _⟩
  |sl _ _ b off n cap sz _ g hI hn=>subst hn;exact⟨_,by simp[Builtin.len_,run_underlying hu,goInt],.v _ _⟩
 ·rename_i e o u sz off n hu;cases h;cases ha with
  |osl=>exact⟨_,by simp[Builtin.len_,run_underlying hu,goInt],.v _ _⟩
 ·rename_i s hu;cases h;cases ha;exact⟨_,by simp[Builtin.len_,run_underlying hu,goInt],.v _ _⟩
 ·rename_i n e hu;cases h;refine⟨.int .i64 n,?_,.v _ _⟩;simp[Builtin.len_,run_underlying hu,goInt]
 ·cases h
def EW (x:Option A) (d lim:Nat):Option Nat:=
 match x with
 |none=>some d
 |some (.v (.int _ i))=>if 0≤i∧i≤lim then some i.toNat else none
 |_=>none
def DP (len:Nat) (low high max:Option A):Option (Nat × Nat × Option Nat):=
 match max with
 |none=>match EW high len len with
  |some h=>match EW low 0 h with
   |some l=>some (l,h,none)
   |none=>none
  |none=>none
 |some m=>match EW (some m) 0 len,high with
  |some m,some hi=>match EW (some hi) 0 m with
   |some h=>match EW low 0 h with
    |some l=>some (l,h,some m)
    |none=>none
   |none=>none
  |_,_=>none
def Gl (m:Option Nat) (f:Bool) (h len:Nat):Bool:=
 match m with
 |some m=>m == h
 |none=>f&&h == len
def FC (P:Program) (t:TypeId) (a:A) (low high max:Option A):Option A:=
 match P.underlying t,a with
 |some (.slice e),.sl f xs=>match DP xs.length low high max,B2 P e with
  |some (l,h,m),some s=>if Ds s xs=true then some (.sl (Gl m f h xs.length) ((xs.drop l).take (h-l))) else none
  |_,_=>none
 |some (.slice e),.osl o u sz off len=>match DP len low high max,B2 P e with
  |some (l,h,_),some s=>if s=sz then some (.osl o u sz (off+l) (h-l)) else none
  |_,_=>none
 |some .string,.v (.string s)=>match DP s.size low high max with
  |some (l,h,none)=>some (.v (.string (s.extract l h)))
  |_=>none
 |some (.array n e),.pim cs=>match DP n low high max,B2 P e with
  |some (l,h,m),some s=>if s=1∧n≤cs.length then some (.sl (Gl m true h n) ((cs.drop l).take (h-l))) else none
  |_,_=>none
 |_,_=>none
theorem Hu {P:Program} {w:World} {I:Nat→Prop} {μ:Mu} {a:A} {x:Value} {lim lim' d n:Nat} {code:BoundsCode} (ha:Rel w I μ a x) (h:EW (some a) d lim=some n) (hl:lim≤lim') :
  (Instr.sliceBound x lim' code).run P w = .ok n w∧n≤lim:=by
 unfold EW at h;split at h
 ·rename_i h0;cases h0
 ·rename_i h0;cases h0;cases ha;split at h
  ·rename_i hb;cases h;have:(_:Int)≤(lim':Int):=Int.le_trans hb.2 (by omega);exact⟨by simp[Instr.sliceBound,asIntOf,hb.1,this],by omega⟩
  ·cases h
 ·cases h
def WZ (w:World) (I:Nat→Prop) (μ:Mu):Option A→Option Value→Prop
 |none,none=>True
 |some a,some x=>Rel w I μ a x
 |_,_=>False
theorem E4 {P:Program} {w:World} {I:Nat→Prop} {μ:Mu} {len cap l h:Nat} {m:Option Nat} {low high max:Option A} {lv hv mv:Option Value} (isS:Bool) (h1:WZ w I μ low lv) (h2:WZ w I μ high hv) (h3:WZ w I μ max mv)
  (hc:len≤cap) (hb:DP len low high max=some (l,h,m)) :
  (Instr.sliceBounds isS len cap lv hv mv).run P w = .ok (l,h,m.getD cap) w∧l≤h∧h≤len∧h≤m.getD cap∧m.getD cap≤cap∧(max.isSome=m.isSome):=by
 have lowCase:∀ {n:Nat} {code:BoundsCode} {q:Nat},EW low 0 n=some q→((match lv with | some v=>Instr.sliceBound v n code | none=>pure 0:Sem Nat)).run P w = .ok q w∧q≤n:=by
  intro n code q hq;cases low with
  |none=>cases lv with
   |none=>simp[EW] at hq;subst hq;simp
   |some v=>exact h1.elim
  |some a=>cases lv with
   |none=>exact h1.elim
   |some v=>exact Hu h1 hq (CE _)
 unfold DP at hb;cases max with
 |none=>
  cases mv with
  |some v=>exact h3.elim
  |none=>
   simp only at hb;split at hb
   ·rename_i hh hhq;split at hb
    ·rename_i ll hlq;cases hb;obtain⟨e1,e2⟩:=lowCase (code:=.sliceB) hlq;cases high with
     |none=>cases hv with
      |none=>
       simp[EW] at hhq;subst hhq;refine⟨?_,e2,CE _,hc,CE _,rfl⟩;simp[Instr.sliceBounds];cases lv<;>simp_all
      |some v=>exact h2.elim
     |some a=>cases hv with
      |none=>exact h2.elim
      |some v=>
       obtain⟨e3,e4⟩:=Hu (P:=P) (code:=if isS then .sliceAcap else .sliceAlen) h2 hhq hc;refine⟨?_,e2,e4,by simp;omega,CE _,rfl⟩;simp[Instr.sliceBounds,e3];cases lv<;>simp_all
    ·cases hb
   ·cases hb
 |some mA=>
  cases mv with
  |none=>exact h3.elim
  |some mV=>
   simp only at hb;split at hb
   ·rename_i mm hi hmq;split at hb
    ·rename_i hh hhq;split at hb
     ·rename_i ll hlq;cases hb;obtain⟨e1,e2⟩:=lowCase (code:=.slice3C) hlq;cases hv with
      |none=>exact h2.elim
      |some v=>
       obtain⟨e5,e6⟩:=Hu (P:=P) (code:=if isS then .slice3Acap else .slice3Alen) h3 hmq hc;obtain⟨e3,e4⟩:=Hu (P:=P) (code:=.slice3B) h2 hhq (CE _);refine⟨?_,e2,by omega,by simpa using e4,by simp;omega,rfl⟩;simp[Instr.sliceBounds,e3,e5];cases lv<;>simp_all
     ·cases hb
    ·cases hb
   ·cases hb
theorem Sq:∀ {l:List A},(∀ x,x ∈ l→x.one=true)→l.flatMap A.cells=l
 |[],_=>rfl
 |x::l,h=>by
  have h1:=h x (by simp);have h2:x.cells=[x]:=by cases x<;>simp_all [A.one,A.cells]
  rw[List.flatMap_cons,h2,Sq fun y hy=>h y (by simp[hy])];rfl
theorem Sl {x:A} (h:x.one=true):x.cells=[x]:=by cases x<;>simp_all [A.one,A.cells]
theorem T6 {c:Cx} {w:World} {I:Nat→Prop} {μ:Mu} {t:TypeId} {a r:A} {x:Value} {low high max:Option A} {lv hv mv:Option Value} (ha:Rel w I μ a x)
  (h1:WZ w I μ low lv) (h2:WZ w I μ high hv) (h3:WZ w I μ max mv) (h:FC c.P t a low high max=some r):∃ v,(Instr.sliceAt t x lv hv mv).run c.P w = .ok v w∧Rel w I μ r v:=by
 unfold FC at h;split at h
 ·rename_i e f xs hu;split at h
  ·rename_i l hh m s hb hsz;split at h
   ·rename_i hl;cases h;have hl':=Vw hl;have hlen:∀ (hle:hh≤xs.length),((xs.drop l).take (hh-l)).length=hh-l:=fun hle=>by simp;omega
    cases ha with
    |slN _ _ a cap hf=>
     obtain⟨e1,e2,e3,e4,e5,e6⟩:=E4 (P:=c.P) (len:=0) (cap:=cap) true h1 h2 h3 (Nat.zero_le _) hb;have:hh=0:=by simpa using e3
     subst this;have:l=0:=by omega
     subst this;refine⟨_,by simp[Instr.sliceAt,Instr.slice,run_underlying hu,e1,A4 hsz];rfl,?_⟩;simp only[List.drop_nil,List.take_nil];refine .slN _ _ _ _ fun hq=>?_;cases m with
     |some m=>simp[Gl] at hq ⊢; omega
     |none=>simp[Gl] at hq ⊢; exact hf hq
    |sl _ _ b off n cap sz _ g hI hn hc hf hsz' g1 hcell hr=>
     subst hn;obtain⟨e1,e2,e3,e4,e5,e6⟩:=E4 (P:=c.P) (len:=xs.length) (cap:=cap) true h1 h2 h3 hc hb;refine⟨_,by simp[Instr.sliceAt,Instr.slice,run_underlying hu,e1,A4 hsz,Addr.add_lit];rfl,?_⟩;have hfull:Gl m f hh xs.length=true→m.getD cap-l=hh-l:=fun hq=>by
      cases m with
      |some m=>simp[Gl] at hq ⊢; omega
      |none=>simp[Gl] at hq ⊢; have:=hf hq.1;omega
     by_cases hz:hh=l
     ·subst hz;simp only[Nat.sub_self,List.take_zero];have:=fun hq=>hfull hq;simp only[Nat.sub_self] at this;split<;>exact .slN _ _ _ _ this
     ·have hne:¬ m.getD cap=l:=by omega
      rw[if_neg hne];have hxs:xs ≠ []:=fun e=>by subst e;simp at e3;omega
      have hsame:sz=s:=by
       obtain⟨z,zs,rfl⟩:=List.exists_cons_of_ne_nil hxs;rw[← hsz' z (by simp),hl' z (by simp)]
      subst hsame;have hg:∀ (k:Nat) (y:A),(((xs.drop l).take (hh-l)).flatMap A.cells)[k]? = some y→(xs.flatMap A.cells)[l*sz+k]? = some y:=fun k y hk=>CW hl' hk;exact .sl _ _ b (off+l*sz) _ _ sz _ (fun k=>g (l*sz+k)) hI (hlen e3).symm (by rw[hlen e3];omega) (fun hq=>by rw[hlen e3];exact hfull hq) (fun z hz=>hl' z (mN (Zy hz)))
       (fun k y hk=>g1 _ _ (hg k y hk)) (fun k y hk=>by rw[Nat.add_assoc];exact hcell _ _ (hg k y hk)) (fun k y hk=>hr _ _ (hg k y hk))
   ·cases h
  ·cases h
 ·rename_i e o u sz off len hu;split at h
  ·rename_i l hh m s hb hsz;split at h
   ·rename_i hss;subst hss;cases h;cases ha with
    |osl _ _ _ _ _ _ a cap g1 g2 g4 g5 g3=>
     obtain⟨e1,e2,e3,e4,e5,e6⟩:=E4 (P:=c.P) (len:=len) (cap:=cap) true h1 h2 h3 g4 hb;cases a with
     |none=>
      have hc:cap=0:=by
       apply Nat.eq_zero_of_not_pos;intro hp;obtain⟨_,_,e⟩:=g5 hp;cases e
      subst hc;have hm0:m.getD 0=0:=by omega
      have hl0:l=0:=by omega
      have hh0:hh=0:=by omega
      refine⟨_,by simp[Instr.sliceAt,Instr.slice,run_underlying hu,e1,A4 hsz,hm0,hl0];rfl,?_⟩;subst hl0 hh0;exact .osl _ _ _ _ _ _ _ _ g1 g2 (CE _) (fun h=>by omega) fun e=>⟨(g3 e).1,.inl ⟨rfl,rfl⟩⟩
     |some q=>
      by_cases hq:m.getD cap=l
      ·have hh0:hh=l:=by omega
       refine⟨.slice (some q) (hh-l) (m.getD cap-l),by simp[Instr.sliceAt,Instr.slice,run_underlying hu,e1,A4 hsz,hq],?_⟩;rw[hq,hh0,Nat.sub_self];exact .osl _ _ _ _ _ _ _ _ g1 g2 (CE _) (fun h=>by omega) fun e=>⟨(g3 e).1,.inl ⟨rfl,rfl⟩⟩
      ·obtain⟨b',k',hqe⟩:=g5 (by omega);cases hqe;refine⟨.slice (some ⟨b',k'+l*s,none⟩) (hh-l) (m.getD cap-l),by simp[Instr.sliceAt,Instr.slice,run_underlying hu,e1,A4 hsz,Addr.add_lit,hq],?_⟩;refine .osl _ _ _ _ _ _ _ _ g1 g2 (by omega) (fun _=>⟨_,_,rfl⟩) fun e=>?_;obtain⟨k2,⟨p1,p2⟩ | ⟨p1,p2,p3⟩⟩:=g3 e
       ·exact⟨k2,.inl ⟨by omega,by omega⟩⟩
       ·cases p2;exact⟨k2,.inr ⟨p1,by rw[Nat.add_mul],by omega⟩⟩
   ·cases h
  ·cases h
 ·rename_i s hu;split at h
  ·rename_i l hh hb;cases h;cases ha;obtain⟨e1,e2,e3,e4,e5,e6⟩:=E4 (P:=c.P) (len:=s.size) (cap:=s.size) false h1 h2 h3 (CE _) hb;have hm:mv=none:=by
    cases max with
    |none=>cases mv with
     |none=>rfl
     |some v=>exact h3.elim
    |some q=>cases e6
   subst hm;exact⟨_,by simp[Instr.sliceAt,Instr.slice,run_underlying hu,e1],.v _ _⟩
  ·cases h
 ·rename_i n e cs hu;split at h
  ·rename_i l hh m s hb hsz;split at h
   ·rename_i hc;obtain⟨rfl,hn⟩:=hc;cases h;cases ha with
    |pim _ b off _ g hI g1 hcell hr=>
     obtain⟨e1,e2,e3,e4,e5,e6⟩:=E4 (P:=c.P) (len:=n) (cap:=n) false h1 h2 h3 (CE _) hb;refine⟨_,by simp[Instr.sliceAt,Instr.sureAddr,run_underlying hu,e1,A4 hsz,Addr.add_lit];rfl,?_⟩;have hlen:((cs.drop l).take (hh-l)).length=hh-l:=by simp;omega
     have hfull:Gl m true hh n=true→m.getD n-l=hh-l:=fun hq=>by
      cases m with
      |some m=>simp[Gl] at hq ⊢; omega
      |none=>simp[Gl] at hq ⊢; omega
     by_cases hz:hh=l
     ·subst hz;simp only[Nat.sub_self,List.take_zero];have:=fun hq=>hfull hq;simp only[Nat.sub_self] at this;split<;>exact .slN _ _ _ _ this
     ·have hne:¬ m.getD n=l:=by omega
      rw[if_neg hne];have hone:∀ x,x ∈ (cs.drop l).take (hh-l)→x.one=true:=fun x hx=>by
       obtain⟨k,hk⟩:=List.mem_iff_getElem?.1 (mN (Zy hx));exact g1 k x hk
      have hfl:=Sq hone;have hg:∀ (k:Nat) (y:A),((cs.drop l).take (hh-l))[k]? = some y→cs[l+k]? = some y:=fun k y hk=>by
       rw[List.getElem?_take] at hk;split at hk
       ·rwa [List.getElem?_drop] at hk
       ·cases hk
      refine .sl _ _ b (off+l) _ _ 1 _ (fun k=>g (l+k)) hI hlen.symm (by rw[hlen];omega) (fun hq=>by rw[hlen];exact hfull hq) (fun z hz=>by rw[Sl (hone z hz)];rfl)
       (fun k y hk=>?_) (fun k y hk=>?_) (fun k y hk=>?_)
      all_goals rw[hfl] at hk
      ·exact g1 _ _ (hg k y hk)
      ·rw[Nat.add_assoc];exact hcell _ _ (hg k y hk)
      ·exact hr _ _ (hg k y hk)
   ·cases h
  ·cases h
 ·cases h
def BU (place:Nat→Option (Nat × Nat)) (cells:List A):List (Nat × A)→Option (List A)
 |[]=>some cells
 |(i,x)::rest=>match place i with
  |none=>none
  |some (off,size)=>if x.cells.length=size∧off+size≤cells.length∧A.ones x.cells=true then BU place (splice cells off x.cells) rest else none
theorem Vt:∀ (l:List Value) (n off:Nat) (cs:Array Value),off+n+l.length≤cs.size →
  ((l.zipIdx n).foldl (fun cs (q:Value × Nat)=>cs.setIfInBounds (off+q.2) q.1) cs).toList=cs.toList.take (off+n)++l++cs.toList.drop (off+n+l.length)
 |[],n,off,cs,_=>by simp
 |v::l,n,off,cs,h=>by
  simp only[List.zipIdx_cons,List.foldl_cons];rw[Vt l (n+1) off _ (by simp at h ⊢; omega)];have e:=list_seg_step cs.toList (off+n) v l (by simp at h ⊢; omega);simpa[Array.toList_setIfInBounds,Nat.add_assoc] using e
def RelC (w:World) (I:Nat→Prop) (μ:Mu) (cs:List A) (vs:Array Value):Prop:=
 vs.size=cs.length∧∀ (k:Nat) (y:A),cs[k]? = some y→y.one=true∧Rel w I μ y (vs.getD k undef)
theorem RelC.splice {w:World} {I:Nat→Prop} {μ:Mu} {cs news:List A} {vs nv:Array Value} {off:Nat} (h:RelC w I μ cs vs) (hn:RelC w I μ news nv) (hfit:off+news.length≤cs.length) :
  RelC w I μ (splice cs off news) (vs.toList.take off++nv.toList++vs.toList.drop (off+nv.toList.length)).toArray:=by
 refine⟨?_,G6 (Q:=fun y v=>y.one=true∧Rel w I μ y v) h.2 (by rw[h.1];exact CE _) hn.2 hn.1 hfit⟩;rw[HE hfit];have:=h.1;have:=hn.1;simp;omega
theorem FU {w:World} {I:Nat→Prop} {μ:Mu} {place:Nat→Option (Nat × Nat)}:∀ {ps:List (Nat × A)} {qs:List (Nat × Value)} {cs r:List A} {vs:Array Value},RelC w I μ cs vs →
  ps.map (·.1)=qs.map (·.1)→(∀ (k:Nat) (p:Nat × A) (q:Nat × Value),ps[k]? = some p→qs[k]? = some q→Rel w I μ p.2 q.2)→BU place cs ps=some r →
  ∃ vs',Instr.fill place vs qs=some vs'∧RelC w I μ r vs'
 |[],qs,cs,r,vs,hc,he,_,h=>by
  cases qs with
  |nil=>cases h;exact⟨vs,rfl,hc⟩
  |cons=>cases he
 |(i,x)::ps,qs,cs,r,vs,hc,he,hr,h=>by
  cases qs with
  |nil=>cases he
  |cons q qs=>
   obtain⟨j,y⟩:=q;simp only[List.map_cons,List.cons.injEq] at he;obtain⟨hij,he⟩:=he;subst hij;unfold BU at h;split at h
   ·cases h
   ·rename_i off size hp;split at h
    ·rename_i hcond;obtain⟨h1,h2,h3⟩:=hcond;have hxy:Rel w I μ x y:=hr 0 _ _ rfl rfl;have hn:=hxy.cellsRel h3;have hfit:off+y.cells.size≤vs.size:=by rw[hc.1,hn.1];omega
     have hfold:=Vt y.cells.toList 0 off vs (by simpa using hfit);have hc':=hc.splice (off:=off) hn (by omega);simp only[Nat.add_zero] at hfold;have hz:(y.cells.zipIdx.foldl (fun cs (q:Value × Nat)=>cs.setIfInBounds (off+q.2) q.1) vs)=(vs.toList.take off++y.cells.toList++vs.toList.drop (off+y.cells.toList.length)).toArray:=by
      apply Array.ext';rw[← hfold];rw[← Array.toList_zipIdx,Array.foldl_toList]
     obtain⟨vs',e1,e2⟩:=FU (ps:=ps) (qs:=qs) hc' he (fun k p q hp hq=>hr (k+1) p q (by simpa using hp) (by simpa using hq)) h;refine⟨vs',?_,e2⟩;unfold Instr.fill;simp only[hp];rw[if_neg (by simp only[Bool.or_eq_true,decide_eq_true_eq,not_or];have:=hn.1;exact⟨by simp;omega,by omega⟩)];have:(Array.foldl (fun cs (x:Value × Nat)=>match x with | (c,j)=>cs.setIfInBounds (off+j) c) vs y.cells.zipIdx)=(vs.toList.take off++y.cells.toList++vs.toList.drop (off+y.cells.toList.length)).toArray:=hz;rw[this];exact e1
    ·cases h
def Po (P:Program):List Field→Option (List (Nat × Nat))
 |[]=>some []
 |f::fs=>match B2 P f.type,Po P fs with
  |some n,some r=>some ((f.offset,n)::r)
  |_,_=>none
theorem OE {P:Program} {w:World}:∀ {fs:List Field} {r:List (Nat × Nat)},Po P fs=some r→(fs.mapM (m:=Sem) fun f=>do pure (f.offset,← sizeOf f.type)).run P w = .ok r w
 |[],r,h=>by cases h;rfl
 |f::fs,r,h=>by
  unfold Po at h;split at h
  ·rename_i n q hn hq;cases h;have ih:=OE (P:=P) (w:=w) hq;rw[List.mapM_cons];simp only[Sem.run_bind,A4 hn,Result.andThen_ok,Sem.run_pure,ih]
  ·cases h
def Bw (P:Program) (t:TypeId) (parts:List (Nat × A)):Option A:=
 match A1 P t with
 |some z=>if A.ones (CU z).cells=true then
   match P.underlying t with
   |some (.struct fs)=>match Po P fs.toList with
    |some pl=>(BU (fun i=>pl[i]?) (CU z).cells parts).map .agg
    |none=>none
   |some (.array _ e)=>match B2 P e with
    |some size=>(BU (fun i=>some (i*size,size)) (CU z).cells parts).map .agg
    |none=>none
   |_=>none
  else none
 |none=>none
theorem Tf {P:Program} {w:World} {I:Nat→Prop} {μ:Mu} {t:TypeId} {ps:List (Nat × A)} {qs:Array (Nat × Value)} {r:A} (he:ps.map (·.1)=qs.toList.map (·.1))
  (hr:∀ (k:Nat) (p:Nat × A) (q:Nat × Value),ps[k]? = some p→qs.toList[k]? = some q→Rel w I μ p.2 q.2) (h:Bw P t ps=some r):∃ v,(Instr.build t qs).run P w = .ok v w∧Rel w I μ r v:=by
 unfold Bw at h;split at h
 ·rename_i z hz;split at h
  ·rename_i h1;have hzc:=(Gu (w:=w) (I:=I) (μ:=μ) z).cellsRel h1;split at h
   ·rename_i fs hu;split at h
    ·rename_i pl hpl;simp only[Option.map_eq_some_iff] at h;obtain⟨cs,hcs,rfl⟩:=h;obtain⟨vs',e1,e2⟩:=FU (ps:=ps) (qs:=qs.toList) hzc he hr hcs;have hm:(Array.mapM (m:=Sem) (fun f=>do pure (f.offset,← sizeOf f.type)) fs).run P w = .ok pl.toArray w:=by
      have:=OE (P:=P) (w:=w) hpl;rw[Array.mapM_eq_mapM_toList];simp only[Sem.run_map,this,Result.andThen_ok]
     refine⟨.agg vs',?_,.agg _ _ _ e2.1 fun k y hk=>(e2.2 k y hk).2⟩;have e1':Instr.fill (fun x=>pl.toArray[x]?) z.cells qs.toList=some vs':=by
      rw[← e1];congr 1;funext i;simp
     simp only[Instr.build,Sem.run_bind,CX hz,Result.andThen_ok,run_underlying hu,hm,e1',Sem.run_pure]
    ·cases h
   ·rename_i n e hu;split at h
    ·rename_i size hsz;simp only[Option.map_eq_some_iff] at h;obtain⟨cs,hcs,rfl⟩:=h;obtain⟨vs',e1,e2⟩:=FU (ps:=ps) (qs:=qs.toList) hzc he hr hcs;refine⟨.agg vs',?_,.agg _ _ _ e2.1 fun k y hk=>(e2.2 k y hk).2⟩;simp only[Instr.build,Sem.run_bind,CX hz,Result.andThen_ok,run_underlying hu,A4 hsz,e1,Sem.run_pure]
    ·cases h
   ·cases h
  ·cases h
 ·cases h
def BF (P:Program) (t:TypeId):Option Nat:=(P.info? t).map (·.bytes)
theorem JA {s:Nat} {x:A} (hx:x.cells.length=s):∀ {n k:Nat} {y:A},((List.replicate n x).flatMap A.cells)[k]? = some y→k<n*s∧x.cells[k % s]? = some y
 |0,k,y,h=>by simp at h
 |n+1,k,y,h=>by
  simp only[List.replicate_succ,List.flatMap_cons] at h;by_cases hk:k<s
  ·rw[List.getElem?_append_left (by omega)] at h;exact⟨by rw[Nat.add_mul];omega,by rw[Nat.mod_eq_of_lt hk];exact h⟩
  ·rw[List.getElem?_append_right (by omega),hx] at h;obtain⟨h1,h2⟩:=JA hx h;have hs:0<s:=by
    rcases Nat.eq_zero_or_pos s with h0 | h0
    ·subst h0;simp at h1
    ·exact h0
   refine⟨by rw[Nat.add_mul];omega,?_⟩;rw[Nat.mod_eq_sub_mod (by omega)];exact h2
theorem Fg {w:World} {I:Nat→Prop} {μ:Mu} {z:Value} {s n N:Nat} (h1:A.ones (CU z).cells=true) (hz:(CU z).cells.length=s) (hn:n*s≤N) {f:Nat→Value}
  (hf:∀ k,k<N→f k=z.cells[k % z.cells.size]!):∀ (k:Nat) (y:A),((List.replicate n (CU z)).flatMap A.cells)[k]? = some y→y.one=true∧Rel w I μ y (f k):=by
 intro k y hk;obtain⟨hlt,hy⟩:=JA hz hk;obtain⟨e1,e2⟩:=(Gu (w:=w) (I:=I) (μ:=μ) z).cellsRel h1;obtain⟨h3,h4⟩:=e2 _ y hy;refine⟨h3,?_⟩;rw[hf k (by omega),e1,hz];have hs:0<s:=by
  rcases Nat.eq_zero_or_pos s with h0 | h0
  ·subst h0;simp at hlt
  ·exact h0
 have:k % s<z.cells.size:=by rw[e1,hz];exact Nat.mod_lt _ hs
 have e:z.cells[k % s]! = z.cells.getD (k % s) undef:=by simp[this]
 rw[e];exact h4
def D0 (P:Program) (H:Hp) (d:Nm) (t:TypeId) (len cap:A):Option (A × Eff):=
 match P.underlying t,len,cap with
 |some (.slice e),.v (.int _ n),.v (.int _ c)=>
  match B2 P e,A1 P e,BF P e with
  |some s,some z,some b=>
   if 0≤n∧n≤c∧b*c≤140737488355328∧0<b∧(CU z).cells.length=s∧A.ones (CU z).cells=true∧B3 d e=true then some (.osl d ((H d).u+1) s 0 n.toNat,.one d ⟨(H d).u+1,.arr s (List.replicate n.toNat (CU z))⟩) else none
  |_,_,_=>none
 |_,_,_=>none
theorem ED {α:Type} (f:Nat→α):(Array.range 0).map f = #[]:=by apply Array.ext';simp
theorem RM {P:Program} {w:World} {t e:TypeId} {s b:Nat} {z:Value} {k k':IntKind} {n c:Int} (hu:P.underlying t=some (.slice e)) (hsz:B2 P e=some s) (hz:A1 P e=some z) (hb:BF P e=some b)
  (h0:0≤n) (h1:n≤c) (h2:b*c≤140737488355328) (h3:0<b) :
  ∃ row:Array Value,(Instr.makeSlice t (.int k n) (.int k' c)).run P w = .ok (.slice (some ⟨w.heap.size,0,none⟩) n.toNat c.toNat) (w.alloc (.cells row e))∧row.size=c.toNat*s∧∀ j,j<c.toNat*s→row.getD j undef=z.cells[j % z.cells.size]!:=by
 have hc:c≤b*c:=by
  have:(1:Int)*c≤b*c:=Int.mul_le_mul_of_nonneg_right (by omega) (by omega);omega
 have e1:i64.wrap n=n:=by rw[IntKind.wrap_i64];omega
 have e2:i64.wrap c=c:=by rw[IntKind.wrap_i64];omega
 unfold BF at hb;cases hi:P.info? e with
 |none=>simp[hi] at hb
 |some i=>
  simp[hi] at hb;subst hb;by_cases hN:c.toNat*s=0
  ·refine⟨#[],?_,by simp[hN],fun j hj=>by omega⟩;have:¬ (i.bytes:Int)*c > 281474976710656:=by omega
   simp[Instr.makeSlice,run_underlying hu,asInt,asIntOf,typeInfo,hi,e1,e2,A4 hsz,hN,newRow];have h4:¬ c<0:=by omega
   have h5:¬ n<0:=by omega
   have h6:¬ c<n:=by omega
   simp[h4,h5,h6];rw[if_neg (by omega),ED]
  ·refine⟨(Array.range (c.toNat*s)).map (z.cells[· % z.cells.size]!),?_,by simp,fun j hj=>by simp[hj]⟩;simp[Instr.makeSlice,run_underlying hu,asInt,asIntOf,typeInfo,hi,e1,e2,A4 hsz,hN,newRow,CX hz];have h4:¬ c<0:=by omega
   have h5:¬ n<0:=by omega
   have h6:¬ c<n:=by omega
   simp[h4,h5,h6];omega
theorem TP {c:Cx} {w w':World} {I:Nat→Prop} {μ:Mu} {H:Hp} (hs:Sim c w I μ H) (d:Nm) (e:TypeId) (cap s:Nat) (row:Array Value) (xs:List A) (hg:w.grownBy w' none) (hh:w'.heap[w.heap.size]? = some (.cells row e)) (hsz:w'.heap.size=w.heap.size+1) (hrs:row.size=cap*s) (hc:xs.length≤cap)
  (hl:∀ x,x ∈ xs→x.cells.length=s) (hr:∀ {I' μ'},Ext I μ w I' μ' w'→∀ (k:Nat) (y:A),(xs.flatMap A.cells)[k]? = some y→y.one=true∧Rel w' I' μ' y (row.getD k undef)) {n:Nat} (hn:n≤cap) (ht:B3 d e=true) :
  ∃ I' μ',Ext I μ w I' μ' w'∧Sim c w' I' μ' (Ar H d ⟨(H d).u+1,.arr s xs⟩)∧Rel w' I' μ' (.osl d ((H d).u+1) s 0 n) (.slice (some ⟨w.heap.size,0,none⟩) n cap):=by
 obtain⟨hx,hs'⟩:=hs.upd hg d ⟨(H d).u+1,true,w.heap.size,cap,s,e⟩ (.arr s xs) (.inl rfl) (.inl (by rw[hs.ver];exact Nat.lt_succ_self _)) (fun _=>.inl ⟨CE _,by rw[hsz];exact Nat.lt_succ_self _⟩) (fun _=>ht) (fun hx=>
  ⟨rfl,.inr ⟨rfl,row,hh,hrs,hc,hl,hr hx⟩⟩)
 exact⟨_,_,hx,hs',.osl _ _ _ _ _ _ _ _ (by omega) (by simp) hn (fun _=>⟨_,_,rfl⟩) (fun _=>by simp)⟩
theorem NK {c:Cx} {w:World} {I:Nat→Prop} {μ:Mu} {H:Hp} (hs:Sim c w I μ H) {d:Nm} {t:TypeId} {a b r:A} {x y:Value} {E:Eff} (ha:Rel w I μ a x) (hb:Rel w I μ b y) (h:D0 c.P H d t a b=some (r,E)) :
  ∃ v w',(Instr.makeSlice t x y).run c.P w = .ok v w'∧∃ I' μ',Ext I μ w I' μ' w'∧Sim c w' I' μ' (E.app H)∧Rel w' I' μ' r v:=by
 unfold D0 at h;split at h
 ·rename_i e k n k' m hu;cases ha;cases hb;split at h
  ·rename_i s z by' hsz hz hby;split at h
   ·rename_i hcond;obtain⟨h0,h1,h2,h3,h4,h5,htg⟩:=hcond;cases h;obtain⟨row,hrun,hrs,hrow⟩:=RM (P:=c.P) (w:=w) (k:=k) (k':=k') hu hsz hz hby h0 h1 h2 h3;have hnm:n.toNat≤m.toNat:=by omega
    obtain⟨I',μ',q1,q2,q3⟩:=TP hs d e m.toNat s row (List.replicate n.toNat (CU z)) (World.grownBy_alloc w (.cells row e) none) (heap_alloc_new w _) (by simp) hrs (by simpa using hnm) (fun q hq=>by rw[List.eq_of_mem_replicate hq];exact h4)
     (fun _=>Fg h5 h4 (Nat.mul_le_mul_right _ hnm) hrow) hnm htg
    exact⟨_,_,hrun,_,_,q1,q2,q3⟩
   ·cases h
  ·cases h
 ·cases h
def D1 (P:Program) (t:TypeId) (len:Nat) (parts:List (Nat × A)):Option A:=
 match P.underlying t with
 |some (.slice e)=>match B2 P e,A1 P e with
  |some s,some z=>
   if parts.map (·.1)=List.range len∧len*s≤16777216∧(CU z).cells.length=s∧A.ones (CU z).cells=true∧(parts.all fun p=>p.2.cells.length == s&&A.ones p.2.cells&&p.2.cells.all A.bare1)=true then
    some (.sl true (parts.map (·.2))) else none
  |_,_=>none
 |_=>none
theorem XT {p q r n:List A} (h:q.length=n.length):splice (p++(q++r)) p.length n=p++(n++r):=by
 unfold splice;rw[List.take_append_of_le_length (CE _),List.take_length,List.drop_length_add_append,← h,List.drop_left,List.append_assoc]
theorem Ll {s:Nat} {z:A} (hz:z.cells.length=s):∀ (ps:List (Nat × A)) (done:List A) (n:Nat),done.length=n*s→ps.map (·.1)=List.range' n ps.length→(∀ p,p ∈ ps→p.2.cells.length=s∧A.ones p.2.cells=true) →
  BU (fun i=>some (i*s,s)) (done++(List.replicate ps.length z).flatMap A.cells) ps=some (done++(ps.map (·.2)).flatMap A.cells)
 |[],done,n,hd,_,_=>by simp[BU]
 |(i,x)::ps,done,n,hd,hi,hp=>by
  simp only[List.map_cons,List.length_cons,List.range'_succ,List.cons.injEq] at hi;obtain⟨rfl,hi⟩:=hi;obtain⟨hx1,hx2⟩:=hp (i,x) (by simp);simp only at hx1 hx2;unfold BU;simp only;rw[if_pos ⟨hx1,by simp only[List.length_cons,List.replicate_succ,List.flatMap_cons,List.length_append];omega,hx2⟩];simp only[List.length_cons,List.replicate_succ,List.flatMap_cons];rw[← hd,XT (by omega)];have:=Ll hz ps (done++x.cells) (i+1) (by simp[hd,hx1,Nat.add_mul]) hi (fun p hp'=>hp p (by simp[hp']));rw[List.append_assoc] at this;rw[this];simp[List.append_assoc]
theorem MY {c:Cx} {w:World} {I:Nat→Prop} {μ:Mu} {H:Hp} (hs:Sim c w I μ H) {t:TypeId} {len:Nat} {ps:List (Nat × A)} {qs:Array (Nat × Value)} {r:A} (he:ps.map (·.1)=qs.toList.map (·.1))
  (hr:∀ (k:Nat) (p:Nat × A) (q:Nat × Value),ps[k]? = some p→qs.toList[k]? = some q→Rel w I μ p.2 q.2) (h:D1 c.P t len ps=some r) :
  ∃ v w',(Instr.buildSlice t len qs).run c.P w = .ok v w'∧∃ I' μ',Ext I μ w I' μ' w'∧Sim c w' I' μ' H∧Rel w' I' μ' r v:=by
 unfold D1 at h;split at h
 ·rename_i e hu;split at h
  ·rename_i s z hsz hz;split at h
   ·rename_i hcond;obtain⟨h1,h2,h3,h4,h5⟩:=hcond;cases h;have hpl:ps.length=len:=by have:=congrArg List.length h1;simpa using this
    have hp:∀ p,p ∈ ps→p.2.cells.length=s∧A.ones p.2.cells=true∧p.2.cells.all A.bare1=true:=by simpa[and_assoc] using h5
    have hfill:=Ll h3 ps [] 0 (by simp) (by rw[h1,hpl,List.range_eq_range']) (fun p h=>⟨(hp p h).1,(hp p h).2.1⟩);simp only[List.nil_append,hpl] at hfill;have hz0:(z.cells).size=s:=by rw[← h3];exact((Gu (w:=w) (I:=I) (μ:=μ) z).cellsRel h4).1
    have hrow0:RelC w I μ ((List.replicate len (CU z)).flatMap A.cells) ((Array.range (len*s)).map (z.cells[· % z.cells.size]!)):=by
     refine⟨?_,Fg h4 h3 (CE _) (N:=len*s) (fun k hk=>by simp[hk])⟩;rw[Bb (sz:=s) (fun q hq=>by rw[List.eq_of_mem_replicate hq];exact h3)];simp
    obtain⟨vs',e1,e2⟩:=FU (ps:=ps) (qs:=qs.toList) hrow0 he hr hfill;have hlen:((ps.map (·.2)).flatMap A.cells).length=len*s:=by
     rw[Bb (sz:=s) (fun q hq=>by
      obtain⟨p,hp',rfl⟩:=List.mem_map.1 hq;exact(hp p hp').1)]
     simp[hpl]
    obtain⟨hx,hs'⟩:=hs.same (I':=fun b=>I b∨b=w.heap.size) (World.grownBy_alloc w (.cells vs' e) none) (fun b hb=>.inl hb) (fun b hb=>hb.imp id fun e=>⟨by omega,by simp;omega⟩);refine⟨.slice (some ⟨w.heap.size,0,none⟩) len len,w.alloc (.cells vs' e),?_,(fun b=>I b∨b=w.heap.size),μ,hx,hs',?_⟩
    ·have h2':¬ len*s > 2 ^ 24:=by omega
     by_cases h0:len*s=0
     ·have e1':Instr.fill (fun i=>some (i*s,s)) #[] qs.toList=some vs':=by
       rw[← e1];congr 1;rw[h0,ED]
      simp only[Instr.buildSlice,Sem.run_bind,run_underlying hu,Result.andThen_ok,A4 hsz];simp[h0,Sem.run_bind,e1',newRow,ED]
     ·simp only[Instr.buildSlice,Sem.run_bind,run_underlying hu,Result.andThen_ok,A4 hsz];rw[if_neg h2',if_neg h0];simp[CX hz,e1,newRow]
    ·by_cases hnil:ps=[]
     ·subst hnil;simp at hpl;subst hpl;exact .slN _ _ _ _ (fun _=>rfl)
     ·refine Rel.sl (I:=fun b=>I b∨b=w.heap.size) _ _ w.heap.size 0 len len s (ps.map (·.2)) (fun k=>vs'.getD k undef) (Or.inr rfl) (by simp[hpl]) (by simp[hpl]) (fun _=>by simp[hpl]) (fun q hq=>by
       obtain⟨p,hp',rfl⟩:=List.mem_map.1 hq;exact(hp p hp').1) (fun k y hk=>(e2.2 k y hk).1) (fun k y hk=>?_) (fun k y hk=>?_)
      ·rw[Nat.zero_add,cell_of_row (w.alloc (.cells vs' e)) w.heap.size k vs' e (0,0) (heap_alloc_new w _)];have:k<vs'.size:=by rw[e2.1];exact(List.getElem?_eq_some_iff.1 hk).1
       simp[this]
      ·have hb1:y.bare1=true:=by
        obtain⟨q,hq,hy⟩:=List.mem_flatMap.1 (List.mem_of_getElem? hk);obtain⟨p,hp',rfl⟩:=List.mem_map.1 hq;exact List.all_eq_true.1 (hp p hp').2.2 y hy
       exact(hx.rel (e2.2 k y hk).2).of_bare1 hb1
   ·cases h
  ·cases h
 ·cases h
def Da (P:Program) (H:Hp) (d:Nm) (t:TypeId) (len:Nat) (parts:List (Nat × A)):Option (A × Eff):=
 match P.underlying t with
 |some (.slice e)=>match B2 P e,A1 P e with
  |some s,some z=>
   if parts.map (·.1)=List.range len∧len*s≤16777216∧(CU z).cells.length=s∧A.ones (CU z).cells=true∧(parts.all fun p=>p.2.cells.length == s&&A.ones p.2.cells)=true∧B3 d e=true then
    some (.osl d ((H d).u+1) s 0 len,.one d ⟨(H d).u+1,.arr s (parts.map (·.2))⟩) else none
  |_,_=>none
 |_=>none
theorem Ma {c:Cx} {w:World} {I:Nat→Prop} {μ:Mu} {H:Hp} (hs:Sim c w I μ H) {d:Nm} {t:TypeId} {len:Nat} {ps:List (Nat × A)} {qs:Array (Nat × Value)} {r:A} {E:Eff} (he:ps.map (·.1)=qs.toList.map (·.1))
  (hr:∀ (k:Nat) (p:Nat × A) (q:Nat × Value),ps[k]? = some p→qs.toList[k]? = some q→Rel w I μ p.2 q.2) (h:Da c.P H d t len ps=some (r,E)) :
  ∃ v w',(Instr.buildSlice t len qs).run c.P w = .ok v w'∧∃ I' μ',Ext I μ w I' μ' w'∧Sim c w' I' μ' (E.app H)∧Rel w' I' μ' r v:=by
 unfold Da at h;split at h
 ·rename_i e hu;split at h
  ·rename_i s z hsz hz;split at h
   ·rename_i hcond;obtain⟨h1,h2,h3,h4,h5,htg⟩:=hcond;cases h;have hpl:ps.length=len:=by have:=congrArg List.length h1;simpa using this
    have hp:∀ p,p ∈ ps→p.2.cells.length=s∧A.ones p.2.cells=true:=by simpa[and_assoc] using h5
    have hfill:=Ll h3 ps [] 0 (by simp) (by rw[h1,hpl,List.range_eq_range']) hp;simp only[List.nil_append,hpl] at hfill;have hz0:(z.cells).size=s:=by rw[← h3];exact((Gu (w:=w) (I:=I) (μ:=μ) z).cellsRel h4).1
    have hrow0:RelC w I μ ((List.replicate len (CU z)).flatMap A.cells) ((Array.range (len*s)).map (z.cells[· % z.cells.size]!)):=by
     refine⟨?_,Fg h4 h3 (CE _) (N:=len*s) (fun k hk=>by simp[hk])⟩;rw[Bb (sz:=s) (fun q hq=>by rw[List.eq_of_mem_replicate hq];exact h3)];simp
    obtain⟨vs',e1,e2⟩:=FU (ps:=ps) (qs:=qs.toList) hrow0 he hr hfill;have hlen:((ps.map (·.2)).flatMap A.cells).length=len*s:=by
     rw[Bb (sz:=s) (fun q hq=>by
      obtain⟨p,hp',rfl⟩:=List.mem_map.1 hq;exact(hp p hp').1)]
     simp[hpl]
    obtain⟨I',μ',q1,q2,q3⟩:=TP hs d e len s vs' (ps.map (·.2)) (World.grownBy_alloc w (.cells vs' e) none) (heap_alloc_new w _) (by simp) (by rw[e2.1,hlen]) (by simp[hpl]) (fun q hq=>by
      obtain⟨p,hp',rfl⟩:=List.mem_map.1 hq;exact(hp p hp').1) (fun hx k y hk=>⟨(e2.2 k y hk).1,hx.rel (e2.2 k y hk).2⟩) (CE len) htg
    refine⟨.slice (some ⟨w.heap.size,0,none⟩) len len,w.alloc (.cells vs' e),?_,I',μ',q1,q2,q3⟩;have h2':¬ len*s > 2 ^ 24:=by omega
    by_cases h0:len*s=0
    ·have e1':Instr.fill (fun i=>some (i*s,s)) #[] qs.toList=some vs':=by
      rw[← e1];congr 1;rw[h0,ED]
     simp only[Instr.buildSlice,Sem.run_bind,run_underlying hu,Result.andThen_ok,A4 hsz];simp[h0,Sem.run_bind,e1',newRow,ED]
    ·simp only[Instr.buildSlice,Sem.run_bind,run_underlying hu,Result.andThen_ok,A4 hsz];rw[if_neg h2',if_neg h0];simp[CX hz,e1,newRow]
   ·cases h
  ·cases h
 ·cases h
theorem Reads.first {P:Program} {w:World} {I:Nat→Prop} {μ:Mu} {x:Value} {s:Nat} {xs:List A} (h:Reads w I μ x s xs) (n:Nat) (hn:n≤xs.length) :
  (Builtin.lenOf x).run P w = .ok xs.length w∧∃ news:Array Value,(∀ w':World,w'.heap=w.heap→(Builtin.firstCells s n x).run P w' = .ok news w')∧news.size=n*s ∧
   ∀ (k:Nat) (y:A),((xs.take n).flatMap A.cells)[k]? = some y→y.one=true∧Rel w I μ y (news.getD k undef):=by
 obtain⟨a,cap,g,rfl,hl,hr⟩:=h;refine⟨by simp[Builtin.lenOf],?_⟩;by_cases h0:n=0
 ·subst h0;refine⟨#[],fun w' _=>?_,by simp,fun k y hk=>by simp at hk⟩;cases a<;>simp[Builtin.firstCells,loadCells,loadCellsFrom]
 ·have hx:xs ≠ []:=fun e=>by subst e;simp at hn;omega
  obtain⟨b,off,rfl,hk⟩:=hr hx;have hflat:=Bb hl;have hns:n*s≤xs.length*s:=Nat.mul_le_mul_right _ hn;have hcell:∀ (w':World),w'.heap=w.heap→∀ j,j<n*s→w'.cell? ((⟨b,off,none⟩:Addr).add j)=some (g j):=fun w' hw j hj=>by
   rw[Addr.add_lit];have:=(hk j _ (List.getElem?_eq_getElem (by omega:j<(xs.flatMap A.cells).length))).2.1;rw[← this];simp[World.cell?,hw]
  refine⟨((List.range (n*s)).map g).toArray,fun w' hw=>?_,by simp,fun k y hy=>?_⟩
  ·have:=run_loadCells (P:=P) w' ⟨b,off,none⟩ (n*s) g (hcell w' hw);simp[Builtin.firstCells,this]
  ·have h1:(xs.flatMap A.cells)[0*s+k]? = some y:=CW (l:=0) (n:=n) hl (by simpa using hy);simp only[Nat.zero_mul,Nat.zero_add] at h1;have h2:k<n*s:=by
    have:=(List.getElem?_eq_some_iff.1 hy).1;rw[Bb (sz:=s) (fun q hq=>hl q (Zy hq))] at this;simp at this
    rwa [Nat.min_eq_left hn] at this
   refine⟨(hk k y h1).1,?_⟩;have:=(hk k y h1).2.2;simpa[h2] using this
def EO (P:Program) (H:Hp) (s:Nat) (e t:TypeId) (x:A):Option (List A):=
 match P.underlying t with
 |some (.int _)=>match x,A1 P e,BF P e with
  |.v (.int _ n),some z,some b=>if 0≤n∧n*b≤140737488355328∧0<b∧(CU z).cells.length=s∧A.ones (CU z).cells=true then some (List.replicate n.toNat (CU z)) else none
  |_,_,_=>none
 |some (.slice _)=>Fb H s x
 |some .string=>match x with
  |.v (.string str)=>if s=1 then some (str.data.toList.map fun b=>.v (.int .u8 b.toNat)) else none
  |_=>none
 |_=>none
def Src (P:Program) (w:World) (e:TypeId) (s:Nat) (t:TypeId) (x:Value) (m:Nat) (news:Array Value):Prop:=
 (∃ (k k':IntKind) (n:Int) (z:Value) (b:Nat),P.underlying t=some (.int k')∧x = .int k n∧A1 P e=some z∧BF P e=some b∧0≤n∧n*b≤140737488355328∧0<b∧m=n.toNat∧z.cells.size=s∧news=Builtin.zeroCells z.cells m) ∨
 (∃ d,P.underlying t=some d∧(d = .string∨∃ e',d = .slice e')∧(Builtin.lenOf x).run P w = .ok m w∧∀ w':World,w'.heap=w.heap→(Builtin.firstCells s m x).run P w' = .ok news w')
theorem WY {c:Cx} {w:World} {I:Nat→Prop} {μ:Mu} {H:Hp} (hs:Sim c w I μ H) {s:Nat} {e t:TypeId} {a:A} {x:Value} {zs:List A} (ha:Rel w I μ a x) (h:EO c.P H s e t a=some zs) :
  ∃ news,Src c.P w e s t x zs.length news∧news.size=zs.length*s∧(∀ z,z ∈ zs→z.cells.length=s)∧∀ (k:Nat) (y:A),(zs.flatMap A.cells)[k]? = some y→y.one=true∧Rel w I μ y (news.getD k undef):=by
 unfold EO at h;split at h
 ·rename_i k' hu;split at h
  ·rename_i k n z b hz hb;split at h
   ·rename_i hcond;obtain⟨h0,h1,h2,h3,h4⟩:=hcond;cases h;cases ha;have hz0:z.cells.size=s:=by rw[← h3];exact((Gu (w:=w) (I:=I) (μ:=μ) z).cellsRel h4).1
    refine⟨Builtin.zeroCells z.cells n.toNat,.inl ⟨_,k',n,z,b,hu,rfl,hz,hb,h0,h1,h2,by simp,hz0,by simp⟩,by simp[Builtin.zeroCells,hz0],fun q hq=>by rw[List.eq_of_mem_replicate hq];exact h3,?_⟩;exact Fg h4 h3 (CE _) (N:=n.toNat*s) (fun k hk=>by simp[Builtin.zeroCells,hz0,hk])
   ·cases h
  ·cases h
 ·rename_i e' hu;have hr:=GG hs ha h;obtain⟨h1,news,h2,h3,h4⟩:=hr.first (P:=c.P) zs.length (CE _);rw[List.take_length] at h4;obtain⟨_,_,_,_,hl,_⟩:=hr;exact⟨news,.inr ⟨_,hu,.inr ⟨_,rfl⟩,h1,h2⟩,h3,hl,h4⟩
 ·rename_i hu;split at h
  ·rename_i str;split at h
   ·rename_i hs1;cases h;subst hs1;cases ha;refine⟨str.data.map fun b=>.int .u8 b.toNat,.inr ⟨_,hu,.inl rfl,by simp[Builtin.lenOf],fun w' _=>?_⟩,by simp,fun z hz=>?_,fun k y hk=>?_⟩
    ·simp[Builtin.firstCells]
    ·obtain⟨b,hb,rfl⟩:=List.mem_map.1 hz;rfl
    ·have h1:(List.flatMap A.cells (str.data.toList.map fun b=>A.v (.int .u8 b.toNat)))=str.data.toList.map fun b=>A.v (.int .u8 b.toNat):=by
      rw[List.flatMap_map];generalize str.data.toList=l;induction l with
      |nil=>rfl
      |cons b l ih=>simp only[List.flatMap_cons,List.map_cons,ih];rfl
     rw[h1,List.getElem?_map,Option.map_eq_some_iff] at hk;obtain⟨b,hb,rfl⟩:=hk;refine⟨rfl,?_⟩;have:(str.data.map fun b=>Value.int .u8 b.toNat).getD k undef = .int .u8 b.toNat:=by
      have hb':str.data[k]? = some b:=by simpa using hb
      simp[Array.getD_eq_getD_getElem?,hb']
     rw[this];exact .v _ _
   ·cases h
  ·cases h
 ·cases h
section
variable {P:Program} {w:World} {t u ty e:TypeId} {s b m:Nat} {z x:Value} {news:Array Value} {base:Option Addr} {sLen sCap:Nat}
theorem Ee (ht:P.underlying t=some (.slice e)) (hsz:B2 P e=some s) (hsrc:Src P w e s u x m news) (hroom:sLen+m≤sCap) {w1:World}
  (hst:∀ a,base=some a→(storeCells (a.add (sLen*s)) news.toList).run P w = .ok () w1) (hnone:base=none→w1=w) :
  (Builtin.append_ #[t,u] ty #[.slice base sLen sCap,x]).run P w = .ok (.slice base (sLen+m) sCap) w1:=by
 rcases hsrc with ⟨k,k',n,z,b,hu,rfl,hz,hb,h0,h1,h2,rfl,hzs,rfl⟩ | ⟨d,hu,hd,hlen,hfirst⟩
 ·have hn:n≤n*b:=by
   have:n*1≤n*(b:Int):=Int.mul_le_mul_of_nonneg_left (by omega) h0;omega
  have e1:i64.wrap n=n:=by rw[IntKind.wrap_i64];omega
  unfold BF at hb;cases hi:P.info? e with
  |none=>simp[hi] at hb
  |some i=>
   simp[hi] at hb;subst hb;have h3:¬ n<0:=by omega
   have h4:¬ n*(i.bytes:Int) > 281474976710656:=by omega
   by_cases hN:n.toNat*s=0
   ·have hnews:Builtin.zeroCells z.cells n.toNat = #[]:=by simp[Builtin.zeroCells,hzs,hN,ED]
    rw[hnews] at hst;cases base with
    |none=>rw[hnone rfl];simp[Builtin.append_,run_underlying ht,run_underlying hu,A4 hsz,asInt,asIntOf,e1,h3,h4,typeInfo,hi,hroom,hN]
    |some a=>
     have hst':=hst a rfl;simp only[List.toList_toArray] at hst';simp[Builtin.append_,run_underlying ht,run_underlying hu,A4 hsz,asInt,asIntOf,e1,h3,h4,typeInfo,hi,hroom,hN,hst']
   ·cases base with
    |none=>rw[hnone rfl];simp[Builtin.append_,run_underlying ht,run_underlying hu,A4 hsz,asInt,asIntOf,e1,h3,h4,typeInfo,hi,hroom,hN,CX hz]
    |some a=>simp[Builtin.append_,run_underlying ht,run_underlying hu,A4 hsz,asInt,asIntOf,e1,h3,h4,typeInfo,hi,hroom,hN,CX hz,hst a rfl]
 ·have hf:=hfirst w rfl;cases base with
  |none=>rw[hnone rfl];rcases hd with rfl | ⟨e',rfl⟩<;>simp[Builtin.append_,run_underlying ht,run_underlying hu,A4 hsz,hlen,hroom,hf]
  |some a=>rcases hd with rfl | ⟨e',rfl⟩<;>simp[Builtin.append_,run_underlying ht,run_underlying hu,A4 hsz,hlen,hroom,hf,hst a rfl]
theorem Nv (ht:P.underlying t=some (.slice e)) (hsz:B2 P e=some s) (hz:A1 P e=some z) (hb:BF P e=some b) (h0:0<b) (hsrc:Src P w e s u x m news) (hg:sCap<sLen+m) (h47:(sLen+m)*b≤140737488355328)
  {old:Array Value} (hold:∀ w':World,w'.heap=w.heap→(Builtin.firstCells s sLen (.slice base sLen sCap)).run P w' = .ok old w') :
  (Builtin.append_ #[t,u] ty #[.slice base sLen sCap,x]).run P w =
   .ok (.slice (some ⟨w.heap.size,0,none⟩) (sLen+m) (grownCap w (sLen+m) sCap e)) (w.drew.alloc (.cells (old++news++Builtin.zeroCells z.cells (grownCap w (sLen+m) sCap e-(sLen+m))) e)):=by
 have hnm:sLen+m≤140737488355328:=by
  have:(sLen+m)*1≤(sLen+m)*b:=Nat.mul_le_mul_left _ h0;omega
 have hroom:¬ sLen+m≤sCap:=by omega
 have h63:¬ (9223372036854775807<((sLen:Int)+(m:Int))):=by omega
 unfold BF at hb;cases hi:P.info? e with
 |none=>simp[hi] at hb
 |some i=>
  simp[hi] at hb;subst hb;have hfit:¬ (281474976710656<Builtin.nextslicecap (sLen+m) sCap*i.bytes):=by have:=growslice_fits hg h47;omega
  have hzr:∀ w',(zeroValue e).run P w' = .ok z w':=fun w'=>CX hz;have hold':=hold w.drew rfl;rcases hsrc with ⟨k,k',n,z',b,hu,rfl,hz',hb,h0',h1,h2,rfl,hzs,rfl⟩ | ⟨d,hu,hd,hlen,hfirst⟩
  ·have hn:n≤n*b:=by
    have:n*1≤n*(b:Int):=Int.mul_le_mul_of_nonneg_left (by omega) h0';omega
   have e1:i64.wrap n=n:=by rw[IntKind.wrap_i64];omega
   simp[BF,hi] at hb;subst hb;have h3:¬ n<0:=by omega
   have h4:¬ n*(i.bytes:Int) > 281474976710656:=by omega
   have h63':¬ (9223372036854775807<((sLen:Int)+(n.toNat:Int))):=h63;rw[hz] at hz';cases hz';by_cases hN:n.toNat*s=0
   ·have hnews:Builtin.zeroCells z.cells n.toNat = #[]:=by simp[Builtin.zeroCells,hzs,hN,ED]
    rw[hnews];simp only[Int.ofNat_toNat,Int.max_eq_left h0'] at h63';simp[Builtin.append_,run_underlying ht,run_underlying hu,A4 hsz,asInt,asIntOf,e1,h3,h4,typeInfo,hi,hroom,hN,hfit,Int.max_eq_left h0',h63',Question.forced,hold',hzr,newRow,grownCap]
   ·simp only[Int.ofNat_toNat,Int.max_eq_left h0'] at h63';simp[Builtin.append_,run_underlying ht,run_underlying hu,A4 hsz,asInt,asIntOf,e1,h3,h4,typeInfo,hi,hroom,hN,hfit,Int.max_eq_left h0',h63',Question.forced,hold',hzr,newRow,grownCap]
  ·have hf:=hfirst w.drew rfl;have hb0:¬ i.bytes=0:=by omega
   rcases hd with rfl | ⟨e',rfl⟩<;>simp[Builtin.append_,run_underlying ht,run_underlying hu,A4 hsz,hlen,hroom,typeInfo,hi,hfit,hb0,Question.forced,hold',hzr,newRow,grownCap,hf]
end
def Dt (P:Program) (H:Hp) (d:Nm) (t u:TypeId) (base x:A):Option (A × Eff):=
 match P.underlying t with
 |some (.slice e)=>match B2 P e,A1 P e,BF P e with
  |some s,some z,some b=>match EO P H s e u x with
   |some zs=>
    if 0<b∧(CU z).cells.length=s∧A.ones (CU z).cells=true then
     match base with
     |.sl true xs=>if Ds s xs=true∧(xs.length=0∨0<zs.length)∧(xs.length+zs.length)*b≤140737488355328∧B3 d e=true then some (.osl d ((H d).u+1) s 0 (xs.length+zs.length),.one d ⟨(H d).u+1,.arr s (xs++zs)⟩) else none
     |.osl o u' sz off len=>match KH H o u' with
      |some (s',ys)=>if off=0∧s'=s∧sz=s∧len≤ys.length∧(len+zs.length)*b≤140737488355328∧B3 o e=true then some (.osl o (u'+1) s 0 (len+zs.length),.one o ⟨u'+1,.arr s (ys.take len++zs)⟩) else none
      |none=>none
     |.sl false xs=>if zs.length=0 then some (.sl false xs,.nil) else none
     |_=>none
    else none
   |none=>none
  |_,_,_=>none
 |_=>none
theorem je {w w':World} {I I':Nat→Prop} {μ μ':Mu} {s cap:Nat} {xs zs:List A} {old news:Array Value} {z:Value} (hx:Ext I μ w I' μ' w') (hz:z.cells.size=s) (ho:old.size=xs.length*s) (hn:news.size=zs.length*s) (hcap:xs.length+zs.length≤cap)
  (hxl:∀ x,x ∈ xs→x.cells.length=s) (h1:∀ (k:Nat) (y:A),(xs.flatMap A.cells)[k]? = some y→y.one=true∧Rel w I μ y (old.getD k undef))
  (h2:∀ (k:Nat) (y:A),(zs.flatMap A.cells)[k]? = some y→y.one=true∧Rel w I μ y (news.getD k undef)) :
  (old++news++Builtin.zeroCells z.cells (cap-(xs.length+zs.length))).size=cap*s ∧
  ∀ (k:Nat) (y:A),((xs++zs).flatMap A.cells)[k]? = some y→y.one=true∧Rel w' I' μ' y ((old++news++Builtin.zeroCells z.cells (cap-(xs.length+zs.length))).getD k undef):=by
 constructor
 ·simp only[Array.size_append,size_zeroCells,hz,ho,hn,← Nat.add_mul];congr 1;omega
 ·intro k y hk;rw[List.flatMap_append] at hk;have hfl:=Bb hxl;by_cases hlt:k<xs.length*s
  ·rw[List.getElem?_append_left (by omega)] at hk;refine⟨(h1 k y hk).1,hx.rel ?_⟩;have:=(h1 k y hk).2;have e:(old++news++Builtin.zeroCells z.cells (cap-(xs.length+zs.length))).getD k undef=old.getD k undef:=by
    have h3:k<old.size:=by omega
    rw[Array.append_assoc];simp[Array.getD_eq_getD_getElem?,Array.getElem?_append_left h3]
   rw[e];exact this
  ·rw[List.getElem?_append_right (by omega),hfl] at hk;refine⟨(h2 _ y hk).1,hx.rel ?_⟩;have:=(h2 _ y hk).2;have hk2:=(List.getElem?_eq_some_iff.1 hk).1;by_cases hin:k<(old++news).size
   ·have e:(old++news++Builtin.zeroCells z.cells (cap-(xs.length+zs.length))).getD k undef=news.getD (k-xs.length*s) undef:=by
     simp only[Array.getD_eq_getD_getElem?];rw[Array.getElem?_append_left hin,Array.getElem?_append_right (by omega),ho]
    rw[e];exact this
   ·have h5:news.getD (k-xs.length*s) undef=undef:=by
     simp only[Array.size_append] at hin;rw[Array.getD_eq_getD_getElem?,Array.getElem?_eq_none (by omega)];rfl
    -- the source's cells are as' many as' its row has
    exfalso;exact absurd hk2 (by
     simp only[Array.size_append] at hin;have:(zs.flatMap A.cells).length≤news.size:=by
      apply Nat.le_of_not_lt;intro hgt;have hb:=h2 news.size _ (List.getElem?_eq_getElem hgt);have:(zs.flatMap A.cells)[news.size].one=true:=hb.1;have h6:=hb.2;rw[Array.getD_eq_getD_getElem?,Array.getElem?_eq_none (CE _)] at h6;have h7:=h6.one this;simp[undef,Value.oneCell'] at h7
     omega)
theorem RA {c:Cx} {w:World} {I:Nat→Prop} {μ:Mu} {H:Hp} (hs:Sim c w I μ H) {d:Nm} {t u ty:TypeId} {a b r:A} {x y:Value} {E:Eff} (ha:Rel w I μ a x) (hb:Rel w I μ b y) (h:Dt c.P H d t u a b=some (r,E)) :
  ∃ v w',(Builtin.append_ #[t,u] ty #[x,y]).run c.P w = .ok v w'∧∃ I' μ',Ext I μ w I' μ' w'∧Sim c w' I' μ' (E.app H)∧Rel w' I' μ' r v:=by
 unfold Dt at h;split at h
 ·rename_i e hu;split at h
  ·rename_i s z by' hsz hz hby;split at h
   ·rename_i zs hzs;obtain⟨news,hsrc,hnl,hzl,hnr⟩:=WY hs hb hzs;split at h
    ·rename_i hcond;obtain⟨hb0,h3,h4⟩:=hcond;have hz0:z.cells.size=s:=by rw[← h3];exact((Gu (w:=w) (I:=I) (μ:=μ) z).cellsRel h4).1
     -- the row made anew
     have grow:∀ (d:Nm) (xs:List A) (base:Option Addr) (sCap:Nat),Reads w I μ (.slice base xs.length sCap) s xs→sCap<xs.length+zs.length→(xs.length+zs.length)*by'≤140737488355328→B3 d e=true →
       ∃ v w',(Builtin.append_ #[t,u] ty #[.slice base xs.length sCap,y]).run c.P w = .ok v w'∧∃ I' μ',Ext I μ w I' μ' w'∧Sim c w' I' μ' (Ar H d ⟨(H d).u+1,.arr s (xs++zs)⟩)∧Rel w' I' μ' (.osl d ((H d).u+1) s 0 (xs.length+zs.length)) v:=by
      intro d xs base sCap hR hg h47 htg;obtain⟨_,old,hold,hol,hor⟩:=hR.first (P:=c.P) xs.length (CE _);rw[List.take_length] at hor;obtain⟨_,_,_,hxe,hxl,_⟩:=hR;have hrun:=Nv (P:=c.P) (ty:=ty) (base:=base) hu hsz hz hby hb0 hsrc hg h47 hold;have hge:=grownCap_ge w (xs.length+zs.length) sCap e;generalize hcap:grownCap w (xs.length+zs.length) sCap e=cap at hrun hge;generalize hrow:(old++news++Builtin.zeroCells z.cells (cap-(xs.length+zs.length)))=row at hrun;have hgr:w.grownBy (w.drew.alloc (.cells row e)) none:=⟨rfl,rfl,rfl,by simp,fun k hk _=>by rw[_root_.Go.heap_alloc_old w.drew _ hk];rfl⟩;have hrs:row.size=cap*s:=by
       rw[← hrow];simp only[Array.size_append,size_zeroCells,hz0,hol,hnl,← Nat.add_mul];congr 1;omega
      obtain⟨I',μ',q1,q2,q3⟩:=TP hs d e cap s row (xs++zs) hgr (_root_.Go.heap_alloc_new w.drew _) (by simp) hrs (by simpa using hge) (fun q hq=>by
       rcases List.mem_append.1 hq with hq | hq
       ·exact hxl q hq
       ·exact hzl q hq) (fun hx=>by
       have hrr:=je (z:=z) (cap:=cap) hx hz0 hol hnl hge hxl hor hnr;rw[hrow] at hrr;exact hrr.2) hge htg
      exact⟨_,_,hrun,I',μ',q1,q2,q3⟩
     -- nothing to nothing
     have nothing:∀ (d:Nm) (base:Option Addr),zs.length=0→∃ v w',(Builtin.append_ #[t,u] ty #[.slice base 0 0,y]).run c.P w = .ok v w'∧∃ I' μ',Ext I μ w I' μ' w'∧Sim c w' I' μ' (Ar H d ⟨(H d).u+1,.arr s zs⟩)∧Rel w' I' μ' (.osl d ((H d).u+1) s 0 (0+zs.length)) v:=by
      intro d base h0;have hz':zs=[]:=List.eq_nil_of_length_eq_zero h0;have hn0:news = #[]:=Array.eq_empty_of_size_eq_zero (by rw[hnl,h0];simp);subst hz' hn0;have hrun:=Ee (P:=c.P) (ty:=ty) (base:=base) (sLen:=0) (sCap:=0) hu hsz hsrc (by simp) (w1:=w) (fun a _=>rfl) (fun _=>rfl);obtain⟨hx,hs'⟩:=hs.upd (Fi w none) d ⟨(H d).u+1,false,0,0,s,e⟩ (.arr s []) (.inl rfl) (.inl (by rw[hs.ver];exact Nat.lt_succ_self _)) (fun h=>nomatch h) (fun h=>nomatch h) (fun hx=>⟨rfl,.inl ⟨rfl,rfl⟩⟩);exact⟨_,_,hrun,_,_,hx,hs',.osl _ _ _ _ _ _ _ _ (by omega) (by simp) (CE _) (fun h=>by omega) (fun _=>by simp)⟩
     split at h
     ·rename_i xs;split at h
      ·rename_i hc;obtain⟨hl,hne,h47,htg⟩:=hc;cases h;have hR:=GG hs (s:=s) (xs:=xs) ha (by simp[Fb,hl]);cases ha with
       |slN _ _ base cap hf=>
        have hc0:=hf rfl;subst hc0;simp only[List.length_nil,List.nil_append,Hn];by_cases h0:zs.length=0
        ·exact nothing d base h0
        ·exact grow d [] base 0 hR (by simp;omega) h47 htg
       |sl _ _ b off n cap sz _ g hI hn hc hf hsz' h1 hcell hr=>
        subst hn;have hcap:=hf rfl;by_cases h0:xs.length=0
        ·have hx0:xs=[]:=List.eq_nil_of_length_eq_zero h0;subst hx0;simp only[List.length_nil] at hcap;subst hcap;simp only[List.length_nil,List.nil_append,Hn];by_cases h0:zs.length=0
         ·exact nothing d _ h0
         ·exact grow d [] _ 0 hR (by simp;omega) h47 htg
        ·exact grow d xs _ cap hR (by omega) h47 htg
      ·cases h
     ·rename_i o u' sz off len;split at h
      ·rename_i s' ys ho;split at h
       ·rename_i hc;obtain⟨rfl,rfl,rfl,hle,h47,htg⟩:=hc;cases h;have hR:=GG hs (s:=sz) (xs:=ys.take len) ha (by simp[Fb,ho,hle]);have htl:(ys.take len).length=len:=by simp;omega
        obtain⟨hu',k2,hrow⟩:=hs.row ho;have hver:=(DG ho).1;cases ha with
        |osl _ _ _ _ _ _ base cap g1 g2 g4 g5 g3=>
         obtain⟨_,hcur⟩:=g3 hu'.symm;by_cases hg:cap<len+zs.length
         ·have:=grow o (ys.take len) base cap (by rw[htl];exact hR) (by rw[htl];exact hg) (by rw[htl];exact h47) htg;rw[htl,hver] at this;exact this
         ·rcases hcur with ⟨rfl,rfl⟩ | ⟨p1,rfl,p3⟩
          ·have:=nothing o base (by omega);rw[hver] at this;simpa using this
          ·rcases hrow with ⟨q1,q2⟩ | ⟨q1,vs,q3,q4,q5,q6,q7⟩
           ·rw[p1] at q1;cases q1
           ·subst k2;have hB:BJ (μ o) (H o).ob=true:=by rw[(DG ho).2];exact q1
            have hcapL:(len+zs.length)*(μ o).sz≤(μ o).cap*(μ o).sz:=Nat.mul_le_mul_right _ (by omega);rw[Nat.add_mul] at hcapL;have hone:∀ v,v ∈ news.toList→v.oneCell'=true:=fun v hv=>by
             obtain⟨k,hk⟩:=List.mem_iff_getElem?.1 hv;have hlt:=(List.getElem?_eq_some_iff.1 hk).1;have hfz:=Bb hzl;have hlt':k<(zs.flatMap A.cells).length:=by simp at hlt;omega
             obtain⟨p1,p2⟩:=hnr k _ (List.getElem?_eq_getElem hlt');have e:news.getD k undef=v:=by
              have:news[k]? = some v:=by simpa using hk
              simp[this]
             rw[e] at p2;exact p2.one p1
            have hst:=run_storeCells_at c.P (μ o).b (len*(μ o).sz) (μ o).e news.toList 0 vs w q3 (by simp;omega) hone;simp only[Nat.add_zero] at hst;have hrun:=Ee (P:=c.P) (ty:=ty) (base:=some ⟨(μ o).b,0*(μ o).sz,none⟩) (sLen:=len) (sCap:=cap) hu hsz hsrc (by omega) (fun a ha'=>by
             cases ha';rw[Addr.add_lit,Nat.zero_mul,Nat.zero_add];exact hst) (fun hn=>by cases hn)
            obtain⟨hx,hs'⟩:=hs.upd (C3 w (μ o).b (vs.toList.take (len*(μ o).sz)++news.toList++vs.toList.drop (len*(μ o).sz+news.toList.length)).toArray) o { μ o with u:=u'+1 } (.arr (μ o).sz (ys.take len++zs)) (.inr ⟨rfl,hB⟩) (.inl (by rw[hu'];exact Nat.lt_succ_self _)) (fun _=>.inr ⟨hB,rfl⟩) (fun _=>hs.tag _ hB) (fun hx=>by
             refine⟨rfl,.inr ⟨p1,_,setRow_heap w (μ o).b vs _ (μ o).e (0,0) q3,?_,by simp;omega,fun q hq=>?_,fun k yy hk=>?_⟩⟩
             ·simp;omega
             ·rcases List.mem_append.1 hq with hq | hq
              ·exact q6 q (Zy hq)
              ·exact hzl q hq
             ·rw[List.flatMap_append] at hk;have hft:((ys.take len).flatMap A.cells).length=len*(μ o).sz:=by rw[Bb (sz:=(μ o).sz) (fun q hq=>q6 q (Zy hq)),htl]
              have hget:∀ (l:List Value),l.toArray.getD k undef=(l[k]?).getD undef:=fun l=>by simp[Array.getD_eq_getD_getElem?]
              rw[hget];by_cases hlt:k<len*(μ o).sz
              ·rw[List.getElem?_append_left (by omega)] at hk;have h1:=CW (l:=0) (n:=len) q6 (by simpa using hk);simp only[Nat.zero_mul,Nat.zero_add] at h1;refine⟨(q7 k yy h1).1,?_⟩;rw[List.append_assoc,List.getElem?_append_left (by simp;omega),List.getElem?_take,if_pos hlt];have:=hx.rel (q7 k yy h1).2;simpa[Array.getD_eq_getD_getElem?] using this
              ·rw[List.getElem?_append_right (by omega),hft] at hk;refine⟨(hnr _ yy hk).1,?_⟩;have hk2:=(List.getElem?_eq_some_iff.1 hk).1;have hfz:=Bb hzl;rw[List.append_assoc,List.getElem?_append_right (by simp;omega),List.getElem?_append_left (by simp;omega)];have e2:(vs.toList.take (len*(μ o).sz)).length=len*(μ o).sz:=by simp;omega
               rw[e2];have:=hx.rel (hnr _ yy hk).2;simpa[Array.getD_eq_getD_getElem?] using this)
            exact⟨_,_,hrun,_,_,hx,hs',.osl _ _ _ _ _ _ _ _ (by omega) (by simp) (by omega) g5 (fun _=>by simp;exact .inr ⟨p1,by omega⟩)⟩
       ·cases h
      ·cases h
     ·rename_i xs;split at h
      ·rename_i h0;cases h;have hz':zs=[]:=List.eq_nil_of_length_eq_zero h0;have hn0:news = #[]:=Array.eq_empty_of_size_eq_zero (by rw[hnl,h0];simp);subst hz' hn0;cases ha with
       |slN _ _ base cap hf=>
        have hrun:=Ee (P:=c.P) (ty:=ty) (base:=base) (sLen:=0) (sCap:=cap) hu hsz hsrc (by simp) (w1:=w) (fun a _=>rfl) (fun _=>rfl);exact⟨_,_,hrun,I,μ,Ext.refl I μ w,hs,.slN _ _ base cap hf⟩
       |sl _ _ b off n cap sz _ g hI hn hc hf hsz' h1 hcell hr=>
        have hrun:=Ee (P:=c.P) (ty:=ty) (base:=some ⟨b,off,none⟩) (sLen:=xs.length) (sCap:=cap) hu hsz hsrc (by simp;omega) (w1:=w) (fun a _=>rfl) (fun _=>rfl);subst hn;exact⟨_,_,hrun,I,μ,Ext.refl I μ w,hs,.sl _ _ b off _ cap sz _ g hI rfl hc hf hsz' h1 hcell hr⟩
      ·cases h
     ·cases h
    ·cases h
   ·cases h
  ·cases h
 ·cases h
def A.isPtr:A→Bool
 |.pim _ | .pob _ _ _ | .pel _ _ _ _=>true
 |_=>false
def gg (P:Program) (eq:TypeId→A→A→Option Bool):List Field→List A→List A→Option Bool
 |[],_,_=>some true
 |f::fs,xs,ys=>
  if f.name ≠ "_" then match KS P f.type xs f.offset,KS P f.type ys f.offset with
   |some a,some b=>match eq f.type a b,gg P eq fs xs ys with
    |some r,some s=>some (r&&s)
    |_,_=>none
   |_,_=>none
  else gg P eq fs xs ys
def IZ (P:Program):Nat→TypeId→A→A→Option Bool
 |0,_,_,_=>none
 |d+1,t,x,y=>
  match P.underlying t,x,y with
  |some (.int _),.v (.int k a),.v (.int k' b)=>if k=k' then some (a == b) else none
  |some .bool,.v (.bool a),.v (.bool b)=>some (a == b)
  |some .string,.v (.string a),.v (.string b)=>some (a.toList == b.toList)
  |some (.pointer _),.v (.pointer none),.v (.pointer none)=>some true
  |some (.pointer _),x,.v (.pointer none)=>if x.isPtr=true then some false else none
  |some (.pointer _),.v (.pointer none),y=>if y.isPtr=true then some false else none
  |some (.struct fs),.agg xs,.agg ys=>if P.stoodInHeld t=false then gg P (IZ P d) fs.toList xs ys else none
  |_,_,_=>none
theorem EA {w:World} {I:Nat→Prop} {μ:Mu} {a:A} {x:Value} (h:Rel w I μ a x) (hp:a.isPtr=true):∃ q,x = .pointer (some q):=by
 cases h<;>simp[A.isPtr] at hp<;>exact⟨_,rfl⟩
theorem Oo {P:Program} {t:TypeId} {fs:Array Field} (h:P.underlying t=some (.struct fs)):P.fieldsOf t=fs:=by simp[Program.fieldsOf,h]
theorem Kp {P:Program} {w:World} {I:Nat→Prop} {μ:Mu}:∀ (d:Nat) {t:TypeId} {a b:A} {x y:Value} {r:Bool},Rel w I μ a x→Rel w I μ b y→IZ P d t a b=some r→∀ D,d≤D→(Op.equalIn D t x y).run P w = .ok r w
 |0,t,a,b,x,y,r,_,_,h,D,_=>by simp[IZ] at h
 |d+1,t,a,b,x,y,r,ha,hb,h,D,hD=>by
  obtain⟨D,rfl⟩:∃ D',D=D'+1:=⟨D-1,by omega⟩;unfold IZ at h;split at h
  ·rename_i hu;split at h
   ·rename_i hk;cases h;cases ha;cases hb;subst hk;exact run_equalIn_int w D t _ _ _ _ hu
   ·cases h
  ·rename_i hu;cases h;cases ha;cases hb;exact run_equalIn_bool' w D t _ _ hu
  ·rename_i hu;cases h;cases ha;cases hb;exact run_equalIn_string w D t _ _ hu
  ·rename_i hu;cases h;cases ha;cases hb;simp[Op.equalIn,run_underlying hu]
  ·have hu:=‹P.underlying t=some (TypeDesc.pointer _)›;split at h
   ·rename_i hp;cases h;cases hb;obtain⟨q,rfl⟩:=EA ha hp;simp[Op.equalIn,run_underlying hu]
   ·cases h
  ·have hu:=‹P.underlying t=some (TypeDesc.pointer _)›;split at h
   ·rename_i hp;cases h;cases ha;obtain⟨q,rfl⟩:=EA hb hp;simp[Op.equalIn,run_underlying hu]
   ·cases h
  ·rename_i fs xs ys hu;split at h
   ·rename_i hst;cases ha with
    |agg _ _ vs hl hr=>
     cases hb with
     |agg _ _ us hl' hr'=>
      rw[run_equalIn_struct w D t vs us (by rw[Oo hu];exact hu) hst,Oo hu];generalize fs.toList=l at h;clear hu;induction l generalizing r with
      |nil=>simp[gg] at h;subst h;simp[Op.eqFields]
      |cons f l ih=>
       unfold gg at h;split at h
       ·rename_i hn;split at h
        ·rename_i p q hp hq;split at h
         ·rename_i r1 r2 e1 e2;cases h;obtain⟨v1,g1,g2⟩:=Hv (P:=P) hl hr hp;obtain⟨v2,g3,g4⟩:=Hv (P:=P) hl' hr' hq;have g5:=Kp d g2 g4 e1 D (by omega);have g6:=ih _ e2;simp only[Op.eqFields];rw[if_pos hn];simp only[Sem.run_bind,g1,g3,g5,Result.andThen_ok];cases r1
          ·simp
          ·simpa using g6
         ·cases h
        ·cases h
       ·rename_i hn;simp only[Op.eqFields];rw[if_neg hn];exact ih _ h
   ·cases h
  ·cases h
def C7 (op:BinOp) (k k':IntKind) (a b:Int):Option A:=
 match op with
 |.shl=>if 0≤b then some (.v (.int k (k.wrap (a*2 ^ (min b.toNat k.bits))))) else none
 |.shr=>if 0≤b then some (.v (.int k (a / 2 ^ (min b.toNat k.bits)))) else none
 |op=>if k=k' then match op with
  |.add=>some (.v (.int k (k.wrap (a+b))))
  |.sub=>some (.v (.int k (k.wrap (a-b))))
  |.mul=>some (.v (.int k (k.wrap (a*b))))
  |.quo=>if b=0 then none else some (.v (.int k (k.wrap (a.tdiv b))))
  |.rem=>if b=0 then none else some (.v (.int k (a.tmod b)))
  |.and=>some (.v (.int k (bits .and k a b)))
  |.or=>some (.v (.int k (bits .or k a b)))
  |.xor=>some (.v (.int k (bits .xor k a b)))
  |.andNot=>some (.v (.int k (bits .andNot k a b)))
  |.eql=>some (.v (.bool (a == b)))
  |.neq=>some (.v (.bool (a != b)))
  |.lss=>some (.v (.bool (decide (a<b))))
  |.leq=>some (.v (.bool (decide (a≤b))))
  |.gtr=>some (.v (.bool (decide (b<a))))
  |.geq=>some (.v (.bool (decide (b≤a))))
  |_=>none else none
theorem XP {P:Program} {w:World} {op:BinOp} {t:TypeId} {k k':IntKind} {a b:Int} {r:A} (h:C7 op k k' a b=some r):∃ v,(binOp op t (.int k a) (.int k' b)).run P w = .ok v w∧r = .v v:=by
 cases op
 case shl=>
  simp only[C7] at h;split at h
  ·rename_i h0;have h1:¬ b<0:=by omega
   cases h;exact⟨_,by simp only[binOp,Op.shift];rw[if_neg h1];rfl,rfl⟩
  ·cases h
 case shr=>
  simp only[C7] at h;split at h
  ·rename_i h0;have h1:¬ b<0:=by omega
   have hp:(0:Int)≤2 ^ (min b.toNat k.bits):=Int.pow_nonneg (by decide);cases h;exact⟨_,by simp only[binOp,Op.shift];rw[if_neg h1,Int.fdiv_eq_ediv_of_nonneg _ hp];rfl,rfl⟩
  ·cases h
 case quo=>
  simp only[C7] at h;split at h
  ·rename_i hk;subst hk;split at h
   ·cases h
   ·rename_i h0;cases h;exact⟨_,by simp[binOp,Op.intDiv,h0],rfl⟩
  ·cases h
 case rem=>
  simp only[C7] at h;split at h
  ·rename_i hk;subst hk;split at h
   ·cases h
   ·rename_i h0;cases h;exact⟨_,by simp[binOp,Op.intDiv,h0],rfl⟩
  ·cases h
 all_goals
  simp only[C7] at h;split at h
  ·rename_i hk;subst hk;cases h;exact⟨_,by simp[binOp,Op.intArith,Op.intCmp,intBits_and,intBits_or,intBits_xor,intBits_andNot],rfl⟩
  ·cases h
def O8 (op:BinOp) (x y:ByteArray):Option A:=
 match op with
 |.add=>if x.size+y.size≤9223372036854775807 then some (.v (.string (x++y))) else none
 |.eql=>some (.v (.bool (x.toList == y.toList)))
 |.neq=>some (.v (.bool (!(x.toList == y.toList))))
 |.lss=>some (.v (.bool (Op.bytesLess x.toList y.toList)))
 |.leq=>some (.v (.bool (Op.bytesLess x.toList y.toList || x.toList == y.toList)))
 |.gtr=>some (.v (.bool (!(Op.bytesLess x.toList y.toList || x.toList == y.toList))))
 |.geq=>some (.v (.bool (!Op.bytesLess x.toList y.toList)))
 |_=>none
def G3 (P:Program) (op:BinOp) (t:TypeId) (x y:A):Option A:=
 match x,y with
 |.v (.int k a),.v (.int k' b)=>C7 op k k' a b
 |.v (.string a),.v (.string b)=>O8 op a b
 |.agg xs,.agg ys=>if P.eqGuardType P.depth t=false then match op with
  |.eql=>(IZ P 100 t (.agg xs) (.agg ys)).map fun b=>.v (.bool b)
  |.neq=>(IZ P 100 t (.agg xs) (.agg ys)).map fun b=>.v (.bool (!b))
  |_=>none else none
 |x,y=>match op with
  |.eql=>(IZ P 100 t x y).map fun b=>.v (.bool b)
  |.neq=>(IZ P 100 t x y).map fun b=>.v (.bool (!b))
  |_=>none
theorem Ep {P:Program} {w:World} {op:BinOp} {t:TypeId} {ox oy:Operand} {x y:Value} (h1:x ≠ .nilIface) (h2:∀ cs,x ≠ .agg cs):(eqGuard op t ox oy x y).run P w = .ok () w:=by
 unfold eqGuard;cases op<;>simp only[Bool.not_true,Bool.not_false,Bool.false_eq_true,if_false,if_true,Sem.run_pure]<;>(cases x<;>first | rfl | exact(h1 rfl).elim | exact(h2 _ rfl).elim)
theorem ba {P:Program} {w:World} {I:Nat→Prop} {μ:Mu} {d:Nat} {t:TypeId} {a b:A} {x y:Value} {r:Bool} (ha:Rel w I μ a x) (hb:Rel w I μ b y) (h:IZ P d t a b=some r) (hag:∀ xs ys,a = .agg xs→b = .agg ys→False) :
  (∃ n m k k',x = .int k n∧y = .int k' m)∨(∃ n m,x = .string n∧y = .string m)∨(∃ n m,x = .bool n∧y = .bool m)∨(∃ p q,x = .pointer p∧y = .pointer q):=by
 cases d with
 |zero=>simp[IZ] at h
 |succ d=>
  unfold IZ at h;split at h
  ·cases ha;cases hb;exact .inl ⟨_,_,_,_,rfl,rfl⟩
  ·cases ha;cases hb;exact .inr (.inr (.inl ⟨_,_,rfl,rfl⟩))
  ·cases ha;cases hb;exact .inr (.inl ⟨_,_,rfl,rfl⟩)
  ·cases ha;cases hb;exact .inr (.inr (.inr ⟨_,_,rfl,rfl⟩))
  ·split at h
   ·rename_i hp;cases hb;obtain⟨q,rfl⟩:=EA ha hp;exact .inr (.inr (.inr ⟨_,_,rfl,rfl⟩))
   ·cases h
  ·split at h
   ·rename_i hp;cases ha;obtain⟨q,rfl⟩:=EA hb hp;exact .inr (.inr (.inr ⟨_,_,rfl,rfl⟩))
   ·cases h
  ·exact(hag _ _ rfl rfl).elim
  ·cases h
theorem Sf {P:Program} {d:Nat} {t:TypeId} {b:A}:IZ P d t .any b=none:=by
 cases d with
 |zero=>rfl
 |succ d=>unfold IZ;split<;>first | rfl | (simp_all [A.isPtr];done)
theorem SS {P:Program} {d:Nat} {t:TypeId} {a:A}:IZ P d t a .any=none:=by
 cases d with
 |zero=>rfl
 |succ d=>unfold IZ;split<;>first | rfl | (simp_all [A.isPtr];done)
theorem Xj {P:Program} {w:World} {I:Nat→Prop} {μ:Mu} {op:BinOp} {t:TypeId} {ox oy:Operand} {a b r:A} {x y:Value} (ha:Rel w I μ a x) (hb:Rel w I μ b y) (h:G3 P op t a b=some r) :
  ∃ v,(do eqGuard op t ox oy x y;binOp op t x y:Sem Value).run P w = .ok v w∧Rel w I μ r v:=by
 unfold G3 at h;split at h
 ·cases ha;cases hb;rename_i k a k' b;have hg:(eqGuard op t ox oy (.int k a) (.int k' b)).run P w = .ok () w:=Ep (by simp) (by simp);obtain⟨v,h1,rfl⟩:=XP (P:=P) (w:=w) (t:=t) h;exact⟨v,by simp only[Sem.run_bind,hg,Result.andThen_ok,h1],.v _ _⟩
 ·cases ha;cases hb;rename_i a b;have hg:(eqGuard op t ox oy (.string a) (.string b)).run P w = .ok () w:=Ep (by simp) (by simp);have:∃ v,(binOp op t (.string a) (.string b)).run P w = .ok v w∧r = .v v:=by
   cases op<;>simp only[O8] at h<;>first | cases h;done | skip
   case add=>
    split at h
    ·rename_i hle;cases h;have:¬ ((a.size:Int)+(b.size:Int)) > 9223372036854775807:=by omega
     refine⟨_,?_,rfl⟩;simp[binOp,Op.stringOp,IntKind.max,IntKind.signed,IntKind.bits];omega
    ·cases h
   all_goals (cases h;exact⟨_,by simp[binOp,Op.stringOp],rfl⟩)
  obtain⟨v,h1,rfl⟩:=this;exact⟨v,by simp only[Sem.run_bind,hg,Result.andThen_ok,h1],.v _ _⟩
 ·rename_i xs ys;split at h
  ·rename_i hgt;cases ha with
   |agg _ _ vs hl hr=>
    cases hb with
    |agg _ _ us hl' hr'=>
     have hg:=run_eqGuard_agg (P:=P) w op t ox oy vs us hgt;split at h
     ·simp only[Option.map_eq_some_iff] at h;obtain⟨q,hq,rfl⟩:=h;have:=Kp 100 (Rel.agg (I:=I) μ xs vs hl hr) (Rel.agg μ ys us hl' hr') hq 10000 (by omega);exact⟨.bool q,by simp only[Sem.run_bind,hg,Result.andThen_ok,run_eql_struct,this],.v _ _⟩
     ·simp only[Option.map_eq_some_iff] at h;obtain⟨q,hq,rfl⟩:=h;have:=Kp 100 (Rel.agg (I:=I) μ xs vs hl hr) (Rel.agg μ ys us hl' hr') hq 10000 (by omega);exact⟨.bool (!q),by simp only[Sem.run_bind,hg,Result.andThen_ok,run_neq_struct,this],.v _ _⟩
     ·cases h
  ·cases h
 ·rename_i h1 h2 h3;have main:∀ {q:Bool},IZ P 100 t a b=some q→(eqGuard op t ox oy x y).run P w = .ok () w∧(binOp .eql t x y).run P w = .ok (.bool q) w∧(binOp .neq t x y).run P w = .ok (.bool (!q)) w:=fun {q} hq=>by
   have hs:=Kp 100 ha hb hq 10000 (by omega);rcases ba ha hb hq h3 with ⟨n,m,k,k',rfl,rfl⟩ | ⟨n,m,rfl,rfl⟩ | ⟨n,m,rfl,rfl⟩ | ⟨p,q',rfl,rfl⟩
   ·exfalso;cases ha with
    |v=>cases hb with
     |v=>exact h1 _ _ _ _ rfl rfl
     |any=>rw[SS] at hq;cases hq
    |any=>rw[Sf] at hq;cases hq
   ·exfalso;cases ha with
    |v=>cases hb with
     |v=>exact h2 _ _ rfl rfl
     |any=>rw[SS] at hq;cases hq
    |any=>rw[Sf] at hq;cases hq
   ·exact⟨Ep (by simp) (by simp),by simp only[binOp,Op.equal,Op.maxDepth,Sem.run_bind,hs,Result.andThen_ok,Sem.run_pure],by simp only[binOp,Op.equal,Op.maxDepth,Sem.run_bind,hs,Result.andThen_ok,Sem.run_pure]⟩
   ·exact⟨Ep (by simp) (by simp),by simp only[binOp,Op.equal,Op.maxDepth,Sem.run_bind,hs,Result.andThen_ok,Sem.run_pure],by simp only[binOp,Op.equal,Op.maxDepth,Sem.run_bind,hs,Result.andThen_ok,Sem.run_pure]⟩
  split at h
  ·simp only[Option.map_eq_some_iff] at h;obtain⟨q,hq,rfl⟩:=h;obtain⟨e1,e2,e3⟩:=main hq;exact⟨_,by rw[Sem.run_bind,e1];exact e2,.v _ _⟩
  ·simp only[Option.map_eq_some_iff] at h;obtain⟨q,hq,rfl⟩:=h;obtain⟨e1,e2,e3⟩:=main hq;exact⟨_,by rw[Sem.run_bind,e1];exact e3,.v _ _⟩
  ·cases h
def lx (op:UnOp) (a:A):Option A:=
 match op,a with
 |.not,.v (.bool b)=>some (.v (.bool (!b)))
 |.neg,.v (.int k n)=>some (.v (.int k (k.wrap (0-n))))
 |.xor,.v (.int k n)=>some (.v (.int k (bits .xor k (if k.signed=true then -1 else k.max) n)))
 |_,_=>none
theorem aw {P:Program} {w:World} {I:Nat→Prop} {μ:Mu} {op:UnOp} {a r:A} {x:Value} (ha:Rel w I μ a x) (h:lx op a=some r):∃ v,(Op.unary op x).run P w = .ok v w∧Rel w I μ r v:=by
 unfold lx at h;split at h
 ·cases h;cases ha;exact⟨_,by simp[Op.unary],.v _ _⟩
 ·cases h;cases ha;exact⟨_,by simp[Op.unary,Op.intArith],.v _ _⟩
 ·cases h;cases ha;exact⟨_,by simp[Op.unary,intBits_xor],.v _ _⟩
 ·cases h
def VC:A→Option UInt8
 |.v (.int .u8 n)=>if 0≤n∧n<256 then some (UInt8.ofNat n.toNat) else none
 |_=>none
def Lz:List A→Option (List UInt8)
 |[]=>some []
 |x::xs=>match VC x,Lz xs with
  |some b,some l=>some (b::l)
  |_,_=>none
theorem WS {x:A} {b:UInt8} (h:VC x=some b):x = .v (.int .u8 b.toNat):=by
 unfold VC at h;split at h
 ·rename_i n;split at h
  ·rename_i hn;cases h;have e:(UInt8.ofNat n.toNat).toNat=n.toNat:=by
    rw[UInt8.toNat_ofNat'];exact Nat.mod_eq_of_lt (by omega)
   rw[e];congr 2;omega
  ·cases h
 ·cases h
theorem OJ:∀ {xs:List A} {l:List UInt8},Lz xs=some l→xs=l.map fun b=>A.v (.int .u8 b.toNat)
 |[],l,h=>by cases h;rfl
 |x::xs,l,h=>by
  unfold Lz at h;split at h
  ·rename_i b l' h1 h2;cases h;rw[WS h1,OJ h2];rfl
  ·cases h
theorem PN (l:List UInt8):(l.map fun b=>A.v (.int .u8 b.toNat)).flatMap A.cells=l.map fun b=>A.v (.int .u8 b.toNat):=by
 induction l with
 |nil=>rfl
 |cons b l ih=>simp only[List.map_cons,List.flatMap_cons,ih];rfl
def Gk (P:Program) (src dst:TypeId) (a:A):Option A:=
 match P.underlying src,P.underlying dst,a with
 |some _,some (.int k),.v (.int _ n)=>some (.v (.int k (k.wrap n)))
 |some _,some .string,.v (.string s)=>some (.v (.string s))
 |some (.slice e),some .string,.sl _ xs=>match P.underlying e,Lz xs with
  |some (.int .u8),some l=>some (.v (.string ⟨l.toArray⟩))
  |_,_=>none
 |_,_,_=>none
theorem Oe {P:Program} {w:World} {I:Nat→Prop} {μ:Mu} {src dst:TypeId} {a r:A} {x:Value} (ha:Rel w I μ a x) (h:Gk P src dst a=some r):∃ v,(convert src dst x).run P w = .ok v w∧Rel w I μ r v:=by
 unfold Gk at h;split at h
 ·rename_i d k k' n hs hd;cases h;cases ha;refine⟨.int k (k.wrap n),?_,.v _ _⟩;cases d<;>simp[convert,run_underlying hs,run_underlying hd,Conv.intToInt]
 ·rename_i d s hs hd;cases h;cases ha;refine⟨.string s,?_,.v _ _⟩;cases d<;>simp[convert,run_underlying hs,run_underlying hd]
 ·rename_i e f xs hs hd;split at h
  ·rename_i l he hl;cases h;have hx:=OJ hl;have fin:∀ (a:Option Addr) (n cap:Nat),n=l.length→(∀ p,a=some p→∀ j (hj:j<l.length),w.cell? (p.add j)=some (.int .u8 (l[j].toNat:Int)))→(a=none→l=[]) →
     ∃ v,(convert src dst (.slice a n cap)).run P w = .ok v w∧Rel w I μ (.v (.string ⟨l.toArray⟩)) v:=fun a n cap hn hc h0=>by
    subst hn;cases a with
    |none=>
     rw[h0 rfl,run_convert_bytes_string w src dst e none _ cap hs he hd];exact⟨_,rfl,.v _ _⟩
    |some p=>exact⟨_,run_convert_bytes_back w src dst e p cap l hs he hd (hc p rfl),.v _ _⟩
   cases ha with
   |slN _ _ a cap hf=>
    have:l=[]:=by cases l with
     |nil=>rfl
     |cons b l=>cases hx
    subst this;exact fin a 0 cap rfl (fun p _ j hj=>by simp at hj) (fun _=>rfl)
   |sl _ _ b off n cap sz _ g hI hn hc hf hsz h1 hcell hr=>
    refine fin _ n cap (by rw[hn,hx];simp) (fun p hp j hj=>?_) (fun hp=>by cases hp);cases hp;have hk:(xs.flatMap A.cells)[j]? = some (A.v (.int .u8 l[j].toNat)):=by
     rw[hx,PN];simp[hj]
    rw[Addr.add_lit,hcell j _ hk];have:=hr j _ hk;generalize g j=q at this ⊢;cases this;rfl
  ·cases h
 ·cases h
def DS (mx:Bool):List A→Option A
 |[.v (.int k x)]=>some (.v (.int k x))
 |[.v (.int k x),.v (.int _ y)]=>some (.v (.int k (if (if mx=true then y > x else y<x) then y else x)))
 |_=>none
theorem ZU {P:Program} {w:World} {I:Nat→Prop} {μ:Mu} {as':List A} {xs:List Value} {r:A} {ts:Array TypeId} {ty:TypeId} (hl:xs.length=as'.length) (hr:∀ (k:Nat) (a:A) (x:Value),as'[k]? = some a→xs[k]? = some x→Rel w I μ a x)
  (h:DS false as'=some r):∃ v,(Builtin.min_ ts ty xs.toArray).run P w = .ok v w∧Rel w I μ r v:=by
 unfold DS at h;split at h
 ·cases h
  match xs,hl with
  |[x0],_=>
   have:=hr 0 _ _ rfl rfl;cases this;exact⟨_,by simp[Builtin.min_],.v _ _⟩
 ·cases h
  match xs,hl with
  |[x0,x1],_=>
   have h0:=hr 0 _ _ rfl rfl;have h1:=hr 1 _ _ rfl rfl;cases h0;cases h1;exact⟨_,by simp[Builtin.min_,Builtin.min2],.v _ _⟩
 ·cases h
theorem ZX {P:Program} {w:World} {I:Nat→Prop} {μ:Mu} {as':List A} {xs:List Value} {r:A} {ts:Array TypeId} {ty:TypeId} (hl:xs.length=as'.length) (hr:∀ (k:Nat) (a:A) (x:Value),as'[k]? = some a→xs[k]? = some x→Rel w I μ a x)
  (h:DS true as'=some r):∃ v,(Builtin.max_ ts ty xs.toArray).run P w = .ok v w∧Rel w I μ r v:=by
 unfold DS at h;split at h
 ·cases h
  match xs,hl with
  |[x0],_=>
   have:=hr 0 _ _ rfl rfl;cases this;exact⟨_,by simp[Builtin.max_],.v _ _⟩
 ·cases h
  match xs,hl with
  |[x0,x1],_=>
   have h0:=hr 0 _ _ rfl rfl;have h1:=hr 1 _ _ rfl rfl;cases h0;cases h1;exact⟨_,by simp[Builtin.max_,Builtin.max2],.v _ _⟩
 ·cases h
def JX (P:Program) (H:Hp) (t:TypeId) (a b:A):Option (A × Eff):=
 match P.underlying t with
 |some (.slice e)=>match B2 P e with
  |some s=>match Fb H s b with
   |some zs=>match a with
    |.osl o v sz off len=>match KH H o v with
     |some (s',ys)=>if s'=s∧sz=s∧off+len≤ys.length then
       some (.v (.int .i64 (min zs.length len:Nat)),.one o ⟨v,.arr s (ys.take off++zs.take (min zs.length len)++ys.drop (off+min zs.length len))⟩) else none
     |none=>none
    |_=>none
   |none=>none
  |none=>none
 |_=>none
theorem R5 {s off n:Nat} {ys zs:List A} (hy:∀ x,x ∈ ys→x.cells.length=s) (hz:∀ x,x ∈ zs→x.cells.length=s) (hzl:zs.length=n) (hle:off+n≤ys.length) :
  (ys.take off++zs++ys.drop (off+n)).flatMap A.cells=splice (ys.flatMap A.cells) (off*s) (zs.flatMap A.cells):=by
 have e1:((ys.take off).flatMap A.cells).length=off*s:=by
  rw[Bb (sz:=s) (fun x hx=>hy x (Zy hx)),List.length_take,Nat.min_eq_left (by omega)]
 have e2:((ys.take (off+n)).flatMap A.cells).length=off*s+n*s:=by
  rw[Bb (sz:=s) (fun x hx=>hy x (Zy hx)),List.length_take,Nat.min_eq_left (by omega),Nat.add_mul]
 have e3:(zs.flatMap A.cells).length=n*s:=by rw[Bb (sz:=s) hz,hzl]
 have h1:ys.flatMap A.cells=(ys.take off).flatMap A.cells++(ys.drop off).flatMap A.cells:=by rw[← List.flatMap_append,List.take_append_drop]
 have h2:ys.flatMap A.cells=(ys.take (off+n)).flatMap A.cells++(ys.drop (off+n)).flatMap A.cells:=by rw[← List.flatMap_append,List.take_append_drop]
 unfold splice;rw[e3,List.flatMap_append,List.flatMap_append];congr 1
 ·congr 1
  conv=>rhs;rw[h1]
  rw[List.take_append_of_le_length (by omega),← e1,List.take_length]
 ·conv=>rhs;rw[h2]
  rw[List.drop_append_of_le_length (by omega),← e2,List.drop_length,List.nil_append]
theorem UT {c:Cx} {w:World} {I:Nat→Prop} {μ:Mu} {H:Hp} (hs:Sim c w I μ H) {t u ty:TypeId} {a b r:A} {x y:Value} {E:Eff} (ha:Rel w I μ a x) (hb:Rel w I μ b y) (h:JX c.P H t a b=some (r,E)) :
  ∃ v w',(Builtin.copy_ #[t,u] ty #[x,y]).run c.P w = .ok v w'∧∃ I' μ',Ext I μ w I' μ' w'∧Sim c w' I' μ' (E.app H)∧Rel w' I' μ' r v:=by
 unfold JX at h;split at h
 ·rename_i e hu;split at h
  ·rename_i s hsz;split at h
   ·rename_i zs hzs;have hR:=GG hs (s:=s) (xs:=zs) hb hzs;split at h
    ·rename_i o v sz off len;split at h
     ·rename_i s' ys ho;split at h
      ·rename_i hc;obtain⟨rfl,rfl,hle⟩:=hc;generalize hn:min zs.length len=n at h;have hn1:n≤zs.length:=by omega
       have hn2:n≤len:=by omega
       cases h;obtain⟨hlen,news,hfirst,hnl,hnr⟩:=hR.first (P:=c.P) n hn1;have hzl:∀ z,z ∈ zs.take n→z.cells.length=sz:=fun z hz=>by
        obtain⟨_,_,_,_,hl,_⟩:=hR;exact hl z (Zy hz)
       obtain⟨hu',k2,hrow⟩:=hs.row ho;have hoo:H o=⟨v,.arr sz ys⟩:=by
        obtain⟨q1,q2⟩:=DG ho;revert q1 q2;generalize H o=z;intro q1 q2;cases z;cases q1;cases q2;rfl
       have hpre:∀ (base:Option Addr) (cap:Nat) (w1:World),(∀ a,base=some a→(storeCells a news.toList).run c.P w = .ok () w1)→(base=none→w1=w)→(Builtin.copy_ #[t,u] ty #[.slice base len cap,y]).run c.P w = .ok (.int .i64 (n:Nat)) w1:=fun base cap w1 hst hno=>by
        have hf:=hfirst w rfl;cases base with
        |none=>
         have:=hno rfl;subst this;have hm:Nat.min zs.length len=n:=hn;simp[Builtin.copy_,run_underlying hu,hlen,A4 hsz,hm,hf,goInt]
        |some a=>
         have hm:Nat.min zs.length len=n:=hn;simp[Builtin.copy_,run_underlying hu,hlen,A4 hsz,hm,hf,hst a rfl,goInt]
       cases ha with
       |osl _ _ _ _ _ _ base cap g1 g2 g4 g5 g3=>
        by_cases h0:n=0
        ·subst h0;have hn0:news = #[]:=Array.eq_empty_of_size_eq_zero (by rw[hnl];simp);subst hn0;have e:(Eff.one o ⟨v,.arr sz (ys.take off++zs.take 0++ys.drop (off+0))⟩).app H=H:=by
          rw[Hn];simp only[List.take_zero,List.append_nil,Nat.add_zero,List.take_append_drop];rw[← hoo];funext o';unfold Ar;split<;>simp_all
         rw[e];exact⟨_,w,hpre base cap w (fun a _=>rfl) (fun _=>rfl),I,μ,Ext.refl I μ w,hs,.v _ _⟩
        ·obtain⟨hszo,⟨hl0,_⟩ | ⟨p1,rfl,p3⟩⟩:=g3 hu'.symm
         ·omega
         ·subst hszo;rcases hrow with ⟨q1,q2⟩ | ⟨q1,vs,q3,q4,q5,q6,q7⟩
          ·rw[p1] at q1;cases q1
          ·have hB:BJ (μ o) (H o).ob=true:=by rw[(DG ho).2];exact q1
           have hcapL:(off+n)*(μ o).sz≤(μ o).cap*(μ o).sz:=Nat.mul_le_mul_right _ (by omega);rw[Nat.add_mul] at hcapL;have hfz:=Bb hzl;have htl:(zs.take n).length=n:=by simp;omega
           rw[htl] at hfz;have hfy:=Bb q6;have hyc:ys.length*(μ o).sz≤(μ o).cap*(μ o).sz:=Nat.mul_le_mul_right _ q5;have hoy:(off+n)*(μ o).sz≤ys.length*(μ o).sz:=Nat.mul_le_mul_right _ (by omega);rw[Nat.add_mul] at hoy;have hone:∀ v,v ∈ news.toList→v.oneCell'=true:=fun v hv=>by
            obtain⟨k,hk⟩:=List.mem_iff_getElem?.1 hv;have hlt:=(List.getElem?_eq_some_iff.1 hk).1;have hlt':k<((zs.take n).flatMap A.cells).length:=by simp at hlt;omega
            obtain⟨p1,p2⟩:=hnr k _ (List.getElem?_eq_getElem hlt');have e:news.getD k undef=v:=by
             have:news[k]? = some v:=by simpa using hk
             simp[this]
            rw[e] at p2;exact p2.one p1
           have hst:=run_storeCells_at c.P (μ o).b (off*(μ o).sz) (μ o).e news.toList 0 vs w q3 (by simp;omega) hone;simp only[Nat.add_zero] at hst;obtain⟨hx,hs'⟩:=hs.upd (C3 w (μ o).b (vs.toList.take (off*(μ o).sz)++news.toList++vs.toList.drop (off*(μ o).sz+news.toList.length)).toArray) o (μ o) (.arr (μ o).sz (ys.take off++zs.take n++ys.drop (off+n))) (.inr ⟨rfl,hB⟩) (.inr rfl) (fun _=>.inr ⟨hB,rfl⟩) (fun _=>hs.tag _ hB) (fun hx=>by
            refine⟨rfl,.inr ⟨q1,_,setRow_heap w (μ o).b vs _ (μ o).e (0,0) q3,?_,?_,?_,?_⟩⟩
            ·simp;omega
            ·simp;omega
            ·intro z hz;rcases List.mem_append.1 hz with hz | hz
             ·rcases List.mem_append.1 hz with hz | hz
              ·exact q6 z (Zy hz)
              ·exact hzl z hz
             ·exact q6 z (mN hz)
            ·rw[R5 q6 hzl htl (by omega)];have:=G6 (Q:=fun y v=>y.one=true∧Rel w I μ y v) q7 (by omega) hnr (by omega) (p:=off*(μ o).sz) (by omega);exact fun k y hk=>⟨(this k y hk).1,hx.rel (this k y hk).2⟩)
           rw[Ce,hu'] at hs';rw[Ce] at hx;exact⟨_,_,hpre _ cap _ (fun a ha'=>by cases ha';exact hst) (fun hn=>by cases hn),_,_,hx,by rw[Hn];exact hs',.v _ _⟩
      ·cases h
     ·cases h
    ·cases h
   ·cases h
  ·cases h
 ·cases h
def GW (P:Program) (H:Hp) (t:TypeId) (a:A):Option (A × Eff):=
 match P.underlying t with
 |some (.slice e)=>match B2 P e,A1 P e with
  |some s,some z=>match a with
   |.osl o v sz off len=>match KH H o v with
    |some (s',ys)=>if s'=s∧sz=s∧off+len≤ys.length∧(CU z).cells.length=s∧A.ones (CU z).cells=true then
      some (.any,.one o ⟨v,.arr s (ys.take off++List.replicate len (CU z)++ys.drop (off+len))⟩) else none
    |none=>none
   |_=>none
  |_,_=>none
 |_=>none
theorem Tg {c:Cx} {w:World} {I:Nat→Prop} {μ:Mu} {H:Hp} (hs:Sim c w I μ H) {t ty:TypeId} {a r:A} {x:Value} {E:Eff} (ha:Rel w I μ a x) (h:GW c.P H t a=some (r,E)) :
  ∃ v w',(Builtin.clear_ #[t] ty #[x]).run c.P w = .ok v w'∧∃ I' μ',Ext I μ w I' μ' w'∧Sim c w' I' μ' (E.app H)∧Rel w' I' μ' r v:=by
 unfold GW at h;split at h
 ·rename_i e hu;split at h
  ·rename_i s z hsz hz;split at h
   ·rename_i o v sz off len;split at h
    ·rename_i s' ys ho;split at h
     ·rename_i hc;obtain⟨rfl,rfl,hle,hzc,hz1⟩:=hc;cases h;generalize hnews:Builtin.zeroCells z.cells len=news;have hzz:z.cells.size=sz:=((Gu (w:=w) (I:=I) (μ:=μ) z).cellsRel hz1).1.trans hzc;have hnl:news.size=len*sz:=by rw[← hnews];simp[Builtin.zeroCells,hzz]
      have hnr:=Fg (w:=w) (I:=I) (μ:=μ) hz1 hzc (CE _) (N:=len*sz) (f:=fun k=>news.getD k undef) (fun k hk=>by rw[← hnews];simp[Builtin.zeroCells,hzz,hk]);have hzl:∀ q,q ∈ List.replicate len (CU z)→q.cells.length=sz:=fun q hq=>by rw[List.eq_of_mem_replicate hq];exact hzc
      obtain⟨hu',k2,hrow⟩:=hs.row ho;have hoo:H o=⟨v,.arr sz ys⟩:=by
       obtain⟨q1,q2⟩:=DG ho;revert q1 q2;generalize H o=z;intro q1 q2;cases z;cases q1;cases q2;rfl
      cases ha with
      |osl _ _ _ _ _ _ base cap g1 g2 g4 g5 g3=>
       by_cases h0:len=0
       ·subst h0;have e:(Eff.one o ⟨v,.arr sz (ys.take off++List.replicate 0 (CU z)++ys.drop (off+0))⟩).app H=H:=by
         rw[Hn];simp only[List.replicate_zero,List.append_nil,Nat.add_zero,List.take_append_drop];rw[← hoo];funext o';unfold Ar;split<;>simp_all
        rw[e];refine⟨.tuple #[],w,?_,I,μ,Ext.refl I μ w,hs,.any _ _⟩;cases base<;>simp[Builtin.clear_,run_underlying hu]
       ·obtain⟨hszo,⟨hl0,_⟩ | ⟨p1,rfl,p3⟩⟩:=g3 hu'.symm
        ·omega
        ·subst hszo;rcases hrow with ⟨q1,q2⟩ | ⟨q1,vs,q3,q4,q5,q6,q7⟩
         ·rw[p1] at q1;cases q1
         ·have hB:BJ (μ o) (H o).ob=true:=by rw[(DG ho).2];exact q1
          have hcapL:(off+len)*(μ o).sz≤(μ o).cap*(μ o).sz:=Nat.mul_le_mul_right _ (by omega);rw[Nat.add_mul] at hcapL;have hfz:=Bb hzl;have htl:(List.replicate len (CU z)).length=len:=by simp
          rw[htl] at hfz;have hfy:=Bb q6;have hyc:ys.length*(μ o).sz≤(μ o).cap*(μ o).sz:=Nat.mul_le_mul_right _ q5;have hoy:(off+len)*(μ o).sz≤ys.length*(μ o).sz:=Nat.mul_le_mul_right _ (by omega);rw[Nat.add_mul] at hoy;have hone:∀ v,v ∈ news.toList→v.oneCell'=true:=fun v hv=>by
           obtain⟨k,hk⟩:=List.mem_iff_getElem?.1 hv;have hlt:=(List.getElem?_eq_some_iff.1 hk).1;have hlt':k<((List.replicate len (CU z)).flatMap A.cells).length:=by simp at hlt;omega
           obtain⟨p1,p2⟩:=hnr k _ (List.getElem?_eq_getElem hlt');have e:news.getD k undef=v:=by
            have:news[k]? = some v:=by simpa using hk
            simp[this]
           rw[e] at p2;exact p2.one p1
          have hst:=run_storeCells_at c.P (μ o).b (off*(μ o).sz) (μ o).e news.toList 0 vs w q3 (by simp;omega) hone;simp only[Nat.add_zero] at hst;obtain⟨hx,hs'⟩:=hs.upd (C3 w (μ o).b (vs.toList.take (off*(μ o).sz)++news.toList++vs.toList.drop (off*(μ o).sz+news.toList.length)).toArray) o (μ o) (.arr (μ o).sz (ys.take off++List.replicate len (CU z)++ys.drop (off+len))) (.inr ⟨rfl,hB⟩) (.inr rfl) (fun _=>.inr ⟨hB,rfl⟩) (fun _=>hs.tag _ hB) (fun hx=>by
           refine⟨rfl,.inr ⟨q1,_,setRow_heap w (μ o).b vs _ (μ o).e (0,0) q3,?_,?_,?_,?_⟩⟩
           ·simp;omega
           ·simp;omega
           ·intro z hz;rcases List.mem_append.1 hz with hz | hz
            ·rcases List.mem_append.1 hz with hz | hz
             ·exact q6 z (Zy hz)
             ·exact hzl z hz
            ·exact q6 z (mN hz)
           ·rw[R5 q6 hzl htl (by omega)];have:=G6 (Q:=fun y v=>y.one=true∧Rel w I μ y v) q7 (by omega) hnr (by omega) (p:=off*(μ o).sz) (by omega);exact fun k y hk=>⟨(this k y hk).1,hx.rel (this k y hk).2⟩)
          rw[Ce,hu'] at hs';rw[Ce] at hx;refine⟨.tuple #[],_,?_,_,_,hx,by rw[Hn];exact hs',.any _ _⟩;simp[Builtin.clear_,run_underlying hu,h0,CX hz,hnews,hst]
     ·cases h
    ·cases h
   ·cases h
  ·cases h
 ·cases h
def Yj (H:Hp) (o:Nm) (u:Nat):Option (List (Value × Value)):=
 match H o with
 |⟨u',.mp es⟩=>if u'=u then some es else none
 |_=>none
theorem Sn {H:Hp} {o:Nm} {u:Nat} {es:List (Value × Value)} (h:Yj H o u=some es):(H o).u=u∧(H o).ob = .mp es:=by
 unfold Yj at h;split at h
 ·rename_i hq;split at h
  ·cases h;rw[hq];exact⟨‹_›,rfl⟩
  ·cases h
 ·cases h
def Gb:Value→Option ByteArray
 |.string s=>some s
 |_=>none
def JZ (es:List (Value × Value)):Bool:=es.all fun e=>(Gb e.1).isSome
def NM:List (Value × Value)→ByteArray→Value→List (Value × Value)
 |[],k,v=>[(.string k,v)]
 |(k',v')::es,k,v=>if Gb k'=some k then (k',v)::es else (k',v')::NM es k v
def HA:List (Value × Value)→ByteArray→Option Value
 |[],_=>none
 |(k',v')::es,k=>if Gb k'=some k then some v' else HA es k
theorem Z4 {v:Value} (h:(Gb v).isSome=true):Go.MapKept.IsKey .string v:=by
 cases v<;>simp[Gb] at h
 trivial
theorem strKey_iff {v:Value} {s:ByteArray}:Gb v=some s ↔ v = .string s:=by
 cases v<;>simp[Gb]
theorem SL {es:List (Value × Value)} {k:ByteArray} (h:∀ e,e ∈ es→e.1 ≠ .string k) (v:Value):HA es k=none∧NM es k v=es++[(.string k,v)]:=by
 induction es with
 |nil=>exact⟨rfl,rfl⟩
 |cons e es ih=>
  obtain⟨k',v'⟩:=e;have h0:=h (k',v') (by simp);have hn:¬ Gb k'=some k:=fun e=>h0 (strKey_iff.1 e);obtain⟨i1,i2⟩:=ih fun e he=>h e (by simp[he]);rw[HA,NM,if_neg hn,if_neg hn,i1,i2];exact⟨rfl,rfl⟩
theorem Pw {k:ByteArray}:∀ {l:List MapEntry} {j:Nat} {e:MapEntry},(∀ (i:Nat) (x:MapEntry),i<j→l[i]? = some x→x.key ≠ .string k)→l[j]? = some e→e.key = .string k→∀ (v:Value) (f:MapEntry→MapEntry),(∀ x,(f x).val=v)→(∀ x,x.key = .string k→(f x).key = .string k) →
  HA (l.map fun e=>(e.key,e.val)) k=some e.val∧(l.modify j f).map (fun e=>(e.key,e.val))=NM (l.map fun e=>(e.key,e.val)) k v
 |[],j,e,_,h,_,_,_,_,_=>by simp at h
 |x::l,0,e,_,h,hk,v,f,hf,hg=>by
  simp at h;subst h;simp only[List.map_cons,HA,NM];rw[if_pos (strKey_iff.2 hk),if_pos (strKey_iff.2 hk)];refine⟨rfl,?_⟩;simp[hf,hg x hk,hk]
 |x::l,j+1,e,h0,h,hk,v,f,hf,hg=>by
  have hn:¬ Gb x.key=some k:=fun e=>h0 0 x (by omega) rfl (strKey_iff.1 e);obtain⟨i1,i2⟩:=Pw (l:=l) (j:=j) (e:=e) (fun i y hi hy=>h0 (i+1) y (by omega) (by simpa using hy)) (by simpa using h) hk v f hf hg;simp only[List.map_cons,HA,NM];rw[if_neg hn,if_neg hn];refine⟨i1,?_⟩;rw[List.modify_succ_cons,List.map_cons,i2]
theorem JB {k:ByteArray}:∀ (l:List MapEntry) (i:Nat),JZ (l.map fun e=>(e.key,e.val))=true→(Instr.findNow .string (.string k) l i=some none∧∀ x ∈ l,x.key ≠ .string k) ∨
  ∃ j e,Instr.findNow .string (.string k) l i=some (some (i+j,e.val))∧l[j]? = some e∧e.key = .string k∧∀ (i:Nat) (x:MapEntry),i<j→l[i]? = some x→x.key ≠ .string k
 |[],_,_=>.inl ⟨rfl,by simp⟩
 |x::l,i,h=>by
  simp only[List.map_cons,JZ,List.all_cons,Bool.and_eq_true] at h;obtain⟨h1,h2⟩:=h;obtain⟨r,hr,hiff⟩:=Go.MapKept.sameNow_of_keys (d:=.string) (a:=.string k) (b:=x.key) trivial (Z4 h1);cases r with
  |true=>exact .inr ⟨0,x,by simp[Instr.findNow,hr],rfl,(hiff.1 rfl).symm,fun i x hi _=>by omega⟩
  |false=>
   have hn:x.key ≠ .string k:=fun e=>by simpa using hiff.2 e.symm
   rcases JB (k:=k) l (i+1) h2 with ⟨q1,q2⟩ | ⟨j,e,q1,q2,q3,q4⟩
   ·refine .inl ⟨by simp[Instr.findNow,hr,q1],fun y hy=>?_⟩;rcases List.mem_cons.1 hy with rfl | hy
    ·exact hn
    ·exact q2 y hy
   ·refine .inr ⟨j+1,e,?_,by simpa using q2,q3,fun a y ha hy=>?_⟩
    ·simp[Instr.findNow,hr,q1];omega
    ·cases a with
     |zero=>simp at hy;subst hy;exact hn
     |succ a=>exact q4 a y (by omega) (by simpa using hy)
def aZ (P:Program) (t:TypeId):Option TypeId:=match P.underlying t with
 |some (.map k e)=>(match P.underlying k with
  |some .string=>some e
  |_=>none)
 |_=>none
theorem SB {P:Program} {t e:TypeId} (h:aZ P t=some e):∃ k,P.underlying t=some (.map k e)∧P.underlying k=some .string:=by
 unfold aZ at h;split at h
 ·split at h
  ·cases h;exact⟨_,by assumption,by assumption⟩
  ·cases h
 ·cases h
def Hh (H:Hp) (d:Nm):Option (A × Eff):=if B3 d 0=true then some (.mo d ((H d).u+1),.one d ⟨(H d).u+1,.mp []⟩) else none
def FG (P:Program) (H:Hp) (t:TypeId) (m k v:A):Option Eff:=match m,k,v with
 |.mo o u,.v (.string s),.v x=>match aZ P t,Yj H o u with
  |some _,some es=>if JZ es=true then some (.one o ⟨u,.mp (NM es s x)⟩) else none
  |_,_=>none
 |_,_,_=>none
def Ht (P:Program) (H:Hp) (t:TypeId) (m k:A) (ok:Bool):Option A:=match m,k with
 |.mo o u,.v (.string s)=>match aZ P t,Yj H o u with
  |some e,some es=>match A1 P e with
   |some z=>if JZ es=true then some (if ok=true then .tup [.v ((HA es s).getD z),.v (.bool (HA es s).isSome)] else .v ((HA es s).getD z)) else none
   |none=>none
  |_,_=>none
 |_,_=>none
section
variable {c:Cx} {w:World} {I:Nat→Prop} {μ:Mu} {H:Hp}
theorem Q3 (hs:Sim c w I μ H) {d:Nm} {t:TypeId} {r:A} {E:Eff} (h:Hh H d=some (r,E)) :
  ∃ v w',(Instr.makeMap t none).run c.P w = .ok v w'∧∃ I' μ',Ext I μ w I' μ' w'∧Sim c w' I' μ' (E.app H)∧Rel w' I' μ' r v:=by
 unfold Hh at h;split at h
 ·rename_i ht;cases h;obtain⟨hx,hs'⟩:=hs.upd (World.grownBy_alloc w (.map #[] 0) none) d ⟨(H d).u+1,true,w.heap.size,0,0,0⟩ (.mp []) (.inl rfl) (.inl (by rw[hs.ver];exact Nat.lt_succ_self _)) (fun _=>.inl (by simp)) (fun _=>ht) (fun hx=>
   ⟨#[],0,heap_alloc_new w _,rfl⟩)
  exact⟨_,_,run_makeMap t w,_,_,hx,hs',.mo _ _ _ _ (by omega) (by simp) (fun _=>by simp)⟩
 ·cases h
theorem Rr (hs:Sim c w I μ H) {t:TypeId} {m k r:A} {x y:Value} {ok:Bool} (hm:Rel w I μ m x) (hk:Rel w I μ k y) (h:Ht c.P H t m k ok=some r) :
  ∃ v,(Instr.lookup t x y ok).run c.P w = .ok v w∧Rel w I μ r v:=by
 unfold Ht at h;split at h
 ·rename_i o u s;split at h
  ·rename_i e es ht hg;split at h
   ·rename_i z hz;split at h
    ·rename_i ha;cases h;obtain⟨g1,g2⟩:=Sn hg;obtain⟨kt,t1,t2⟩:=SB ht;cases hm with
     |mo _ _ _ b m1 m2 m3=>
     cases hk;have hv:=hs.ver o;have hb:=m3 (by omega);have hob:=hs.ob o;rw[g2] at hob;obtain⟨l,clock,q1,q2⟩:=hob;rw[← hb] at q1;have hkey:Go.MapKept.IsKey .string (.string s):=trivial;rcases JB (k:=s) l.toList 0 (by rw[q2];exact ha) with ⟨f1,f2⟩ | ⟨j,e0,f1,f2,f3,f4⟩
     ·obtain⟨p1,p2⟩:=SL (es:=es) (k:=s) (fun e he=>by
       rw[← q2] at he;obtain⟨y,hy,rfl⟩:=List.mem_map.1 he;exact f2 y hy) z
      rw[p1];refine⟨_,by simp[Instr.lookup,run_underlying t1,Go.MapKept.run_getObj_map q1,Go.MapKept.run_checkKey t2 hkey,Go.MapKept.run_findKey t2 f1,CX hz,Result.andThen];rfl,?_⟩;cases ok
      ·exact .v _ _
      ·exact .tup _ _ _ rfl fun k y hk=>by
        match k with
        |0=>simp at hk;subst hk;exact .v _ _
        |1=>simp at hk;subst hk;exact .v _ _
        |k+2=>simp at hk
     ·obtain⟨p1,_⟩:=Pw f4 f2 f3 z (fun x=>{ x with val:=z }) (fun _=>rfl) (fun _ h=>h);rw[q2] at p1;rw[p1];refine⟨_,by simp[Instr.lookup,run_underlying t1,Go.MapKept.run_getObj_map q1,Go.MapKept.run_checkKey t2 hkey,Go.MapKept.run_findKey t2 f1,Result.andThen];rfl,?_⟩;cases ok
      ·exact .v _ _
      ·exact .tup _ _ _ rfl fun k y hk=>by
        match k with
        |0=>simp at hk;subst hk;exact .v _ _
        |1=>simp at hk;subst hk;exact .v _ _
        |k+2=>simp at hk
    ·cases h
   ·cases h
  ·cases h
 ·cases h
theorem RN (hs:Sim c w I μ H) {t:TypeId} {m k v:A} {x y z:Value} {E:Eff} (hm:Rel w I μ m x) (hk:Rel w I μ k y) (hv:Rel w I μ v z) (h:FG c.P H t m k v=some E) :
  ∃ w',(Instr.mapUpdate t x y z).run c.P w = .ok () w'∧Ext I μ w I μ w'∧Sim c w' I μ (E.app H):=by
 unfold FG at h;split at h
 ·rename_i o u s z0;split at h
  ·rename_i e es ht hg;split at h
   ·rename_i ha;cases h;obtain⟨g1,g2⟩:=Sn hg;obtain⟨kt,t1,t2⟩:=SB ht;cases hm with
    |mo _ _ _ b m1 m2 m3=>
    cases hk;cases hv;have hver:=hs.ver o;have hb:=m3 (by omega);have hob:=hs.ob o;have hB:BJ (μ o) (H o).ob=true:=by rw[g2];rfl
    rw[g2] at hob;obtain⟨l,clock,q1,q2⟩:=hob;rw[← hb] at q1;have hlt:b<w.heap.size:=(Array.getElem?_eq_some_iff.1 q1).1;have hkey:Go.MapKept.IsKey .string (.string s):=trivial;have fin:∀ (l':Array MapEntry) (clock':Nat),l'.toList.map (fun e=>(e.key,e.val))=NM es s z→Ext I μ w I μ { w with heap:=w.heap.setIfInBounds b (.map l' clock') }∧Sim c { w with heap:=w.heap.setIfInBounds b (.map l' clock') } I μ (Ar H o ⟨u,.mp (NM es s z)⟩):=fun l' clock' hl'=>by
     have hg:w.grownBy { w with heap:=w.heap.setIfInBounds b (.map l' clock') } (some b):=⟨rfl,rfl,rfl,by simp,fun k _ hk=>by
      have:k ≠ b:=fun e=>hk (by rw[e]);simp[Ne.symm this]⟩
     have hμ:Ar μ o (μ o)=μ:=by
      funext p;unfold Ar;split
      ·rename_i e;rw[e]
      ·rfl
     have:=hs.upd hg o (μ o) (.mp (NM es s z)) (.inr ⟨by rw[hb],hB⟩) (.inr rfl) (fun _=>.inr ⟨hB,rfl⟩) (fun _=>hs.tag _ hB) (fun hx=>⟨l',clock',by rw[← hb];simp[hlt],hl'⟩);rw[hμ] at this;have hu:(μ o).u=u:=by omega
     rw[hu] at this;exact this
    rcases JB (k:=s) l.toList 0 (by rw[q2];exact ha) with ⟨f1,f2⟩ | ⟨j,e0,f1,f2,f3,f4⟩
    ·obtain⟨p1,p2⟩:=SL (es:=es) (k:=s) (fun e he=>by
      rw[← q2] at he;obtain⟨y,hy,rfl⟩:=List.mem_map.1 he;exact f2 y hy) z
     refine⟨_,by simp[Instr.mapUpdate,run_underlying t1,Go.MapKept.run_getObj_map q1,Go.MapKept.run_checkKey t2 hkey,Go.MapKept.run_findKey t2 f1,Go.MapKept.run_setObj_map _ q1,Result.andThen];rfl,fin _ _ ?_⟩;rw[p2];simp[q2]
    ·obtain⟨_,p2⟩:=Pw f4 f2 f3 z (fun x=>{ x with key:=.string s,val:=z }) (fun _=>rfl) (fun _ _=>rfl);have hj:l[j]? = some e0:=by simpa using f2
     refine⟨_,by simp[Instr.mapUpdate,run_underlying t1,Go.MapKept.run_getObj_map q1,Go.MapKept.run_checkKey t2 hkey,Go.MapKept.run_findKey t2 f1,hj,f3,Go.MapKept.run_keyThatStays hkey,Go.MapKept.run_setObj_map _ q1,Result.andThen];rfl,fin _ _ ?_⟩;rw[Array.toList_modify,p2,q2]
   ·cases h
  ·cases h
 ·cases h
end
section
variable {P:Program} {H:Hp} {o:Nm} {u:Nat} {t:TypeId}
def vm (x:VOb) (u:Nat):Option (List (Value × Value)):=match x with | ⟨u',.mp es⟩=>if u'=u then some es else none | _=>none
@[simp] theorem Ad5 {u' u:Nat} {es:List (Value × Value)}:vm ⟨u',.mp es⟩ u=if u'=u then some es else none:=rfl
@[simp] theorem qd {d:Nm}:Hh H d=if B3 d 0=true then some (.mo d ((H d).u+1),.one d ⟨(H d).u+1,.mp []⟩) else none:=rfl
@[simp] theorem td {s:ByteArray} {x:Value}:FG P H t (.mo o u) (.v (.string s)) (.v x)=match aZ P t,vm (H o) u with
  |some _,some es=>if JZ es=true then some (.one o ⟨u,.mp (NM es s x)⟩) else none
  |_,_=>none:=rfl
@[simp] theorem rp {s:ByteArray} {ok:Bool}:Ht P H t (.mo o u) (.v (.string s)) ok=match aZ P t,vm (H o) u with
  |some e,some es=>match A1 P e with
   |some z=>if JZ es=true then some (if ok=true then .tup [.v ((HA es s).getD z),.v (.bool (HA es s).isSome)] else .v ((HA es s).getD z)) else none
   |none=>none
  |_,_=>none:=rfl
def qG (l:List (List UInt8 × Value)):List (Value × Value):=l.map fun p=>(.string ⟨p.1.toArray⟩,p.2)
def p9:List (List UInt8 × Value)→List UInt8→Value→List (List UInt8 × Value)
 |[],k,v=>[(k,v)]
 |(k',v')::es,k,v=>if k'=k then (k',v)::es else (k',v')::p9 es k v
def iU:List (List UInt8 × Value)→List UInt8→Option Value
 |[],_=>none
 |(k',v')::es,k=>if k'=k then some v' else iU es k
theorem bytes_inj {l m:List UInt8}:(⟨l.toArray⟩:ByteArray)=⟨m.toArray⟩ ↔ l=m:=by simp
@[simp] theorem nX (l:List (List UInt8 × Value)):JZ (qG l)=true:=by
 simp[JZ,qG,Gb]
@[simp] theorem kT:∀ (l:List (List UInt8 × Value)) (k:List UInt8) (v:Value),NM (qG l) ⟨k.toArray⟩ v=qG (p9 l k v)
 |[],k,v=>rfl
 |(k',v')::l,k,v=>by
  have ih:=kT l k v;simp only[qG,List.map_cons,NM,p9,Gb,Option.some.injEq] at ih ⊢;by_cases h:k'=k
  ·rw[if_pos (bytes_inj.2 h),if_pos h];rfl
  ·rw[if_neg (fun e=>h (bytes_inj.1 e)),if_neg h,ih];rfl
@[simp] theorem gV:∀ (l:List (List UInt8 × Value)) (k:List UInt8),HA (qG l) ⟨k.toArray⟩=iU l k
 |[],k=>rfl
 |(k',v')::l,k=>by
  have ih:=gV l k;simp only[qG,List.map_cons,HA,iU,Gb,Option.some.injEq] at ih ⊢;by_cases h:k'=k
  ·rw[if_pos (bytes_inj.2 h),if_pos h]
  ·rw[if_neg (fun e=>h (bytes_inj.1 e)),if_neg h,ih]
end
structure Sta where
 s:Nat→A
 H:Hp
def upd (s:Nat→A) (d:Nat) (x:A):Nat→A:=fun t=>if t=d then x else s t
def Sta.put (st:Sta) (dst:Option Tmp) (x:A) (H:Hp):Sta:=
 match dst with
 |some d=>⟨upd st.s d x,H⟩
 |none=>⟨st.s,H⟩
def evs (s:Nat→A):Operand→A
 |.tmp t=>s t
 |.const x=>CU x
 |.global g=>.v (.pointer (some ⟨g,0,none⟩))
 |.func f=>.fnc f [] []
abbrev Fp:=List (Nm × Bool)
def Rn (p:Nm × Bool) (o:Nm):Bool:=if p.2=true then p.1.isPrefixOf o else p.1 == o
def Ug (l:Fp) (o:Nm):Bool:=l.any fun p=>Rn p o
def gx (p q:Nm × Bool):Bool:=
 match p.2,q.2 with
 |false,false=>p.1 != q.1
 |true,false=>!p.1.isPrefixOf q.1
 |false,true=>!q.1.isPrefixOf p.1
 |true,true=>!p.1.isPrefixOf q.1&&!q.1.isPrefixOf p.1
def Wx (l m:Fp):Bool:=l.all fun p=>m.all fun q=>gx p q
def Agree (l:Fp) (H H':Hp):Prop:=∀ o,Ug l o=true→H' o=H o
theorem XO {a b o:Nm} (h1:a <+: o) (h2:b <+: o):a <+: b∨b <+: a:=by
 rcases Nat.le_total a.length b.length with h | h
 ·exact .inl (List.prefix_of_prefix_length_le h1 h2 h)
 ·exact .inr (List.prefix_of_prefix_length_le h2 h1 h)
theorem Pg {a b:Nm} (h:a.isPrefixOf b=false) (k:a <+: b):False:=by
 have:=List.isPrefixOf_iff_prefix.2 k;rw[h] at this;cases this
theorem ZE {p q:Nm × Bool} {o:Nm} (h:gx p q=true) (h1:Rn p o=true) (h2:Rn q o=true):False:=by
 obtain⟨p,bp⟩:=p;obtain⟨q,bq⟩:=q;cases bp<;>cases bq<;>simp[gx,Rn] at h h1 h2
 ·exact h (h1.trans h2.symm)
 ·subst h1;exact Pg h h2
 ·subst h2;exact Pg h h1
 ·rcases XO h1 h2 with k | k
  ·exact Pg h.1 k
  ·exact Pg h.2 k
theorem UD {l m:Fp} {o:Nm} (h:Wx l m=true) (h1:Ug l o=true) (h2:Ug m o=true):False:=by
 simp only[Ug,List.any_eq_true] at h1 h2;obtain⟨p,hp,h1⟩:=h1;obtain⟨q,hq,h2⟩:=h2;simp only[Wx,List.all_eq_true] at h;exact ZE (h p hp q hq) h1 h2
theorem Nw {l m n:Fp}:Wx l (m++n)=(Wx l m&&Wx l n):=by
 rw[Bool.eq_iff_iff];simp only[Wx,List.all_eq_true,List.all_append,Bool.and_eq_true];exact⟨fun h=>⟨fun p hp=>(h p hp).1,fun p hp=>(h p hp).2⟩,fun h p hp=>⟨h.1 p hp,h.2 p hp⟩⟩
theorem Agree.all {H H':Hp} {l:Fp} (h:Agree (([],true)::l) H H'):H'=H:=by
 funext o;exact h o (by simp[Ug,Rn])
def refs:A→Fp
 |.pob o _ _ | .osl o _ _ _ _ | .pel o _ _ _ | .mo o _=>[(o,false)]
 |_=>[]
def kL (nm:Nm):A→Fp
 |.osl o _ _ _ _=>[(o,false)]
 |_=>[(nm,false)]
theorem Qe {H H':Hp} {o:Nm} {u:Nat} (h:H' o=H o):RE H' o u=RE H o u:=by simp[RE,h]
theorem Fu {H H':Hp} {o:Nm} {u:Nat} (h:H' o=H o):KH H' o u=KH H o u:=by simp[KH,h]
theorem Cp {H H':Hp} {o:Nm} {l:Fp} (h:Agree l H H') (ho:(o,false) ∈ l):H' o=H o:=h o (by
 simp only[Ug,List.any_eq_true];exact⟨_,ho,by simp[Rn]⟩)
theorem GZ {H H':Hp} {a:A} {l:Fp} (h:Agree l H H') (hs:∀ p,p ∈ refs a→p ∈ l) :
  (∀ o u off,a = .pob o u off→H' o=H o)∧(∀ o u i j,a = .pel o u i j→H' o=H o)∧(∀ o u s off n,a = .osl o u s off n→H' o=H o):=
 ⟨fun o u off e=>by subst e;exact Cp h (hs _ (by simp[refs])),fun o u i j e=>by subst e;exact Cp h (hs _ (by simp[refs])),fun o u s off n e=>by subst e;exact Cp h (hs _ (by simp[refs]))⟩
theorem Oi {P:Program} {H H':Hp} {t:TypeId} {a:A} (h:Agree (refs a) H H'):Em P H' t a=Em P H t a:=by
 obtain⟨h1,h2,h3⟩:=GZ h (fun _ hp=>hp);unfold Em;cases a<;>try rfl
 ·rename_i o u off;simp only[Qe (h1 o u off rfl)]
 ·rename_i o u i j;simp only[Fu (h2 o u i j rfl)]
theorem Tk {P:Program} {H H':Hp} {t:TypeId} {a v:A} (h:Agree (refs a) H H'):FE P H' t a v=FE P H t a v:=by
 obtain⟨h1,h2,h3⟩:=GZ h (fun _ hp=>hp);unfold FE;cases a<;>try rfl
 ·rename_i o u off;simp only[Qe (h1 o u off rfl)]
 ·rename_i o u i j;simp only[Fu (h2 o u i j rfl)]
theorem QU {H H':Hp} {o:Nm} {u:Nat} (h:H' o=H o):Yj H' o u=Yj H o u:=by simp[Yj,h]
theorem RO {P:Program} {H H':Hp} {t:TypeId} {m k:A} {ok:Bool} (h:Agree (refs m) H H'):Ht P H' t m k ok=Ht P H t m k ok:=by
 unfold Ht;cases m<;>try rfl
 ·rename_i o u;have e:=QU (u:=u) (Cp (o:=o) h (by simp[refs]));cases k<;>try rfl
  rename_i x;cases x<;>try rfl
  simp only[e]
theorem Rh {P:Program} {H H':Hp} {t:TypeId} {m k v:A} (h:Agree (refs m) H H'):FG P H' t m k v=FG P H t m k v:=by
 unfold FG;cases m<;>try rfl
 ·rename_i o u;have e:=QU (u:=u) (Cp (o:=o) h (by simp[refs]));cases k<;>try rfl
  rename_i x;cases x<;>try rfl
  cases v<;>try rfl
  simp only[e]
theorem MH {H H':Hp} {s:Nat} {a:A} {l:Fp} (h:Agree l H H') (hs:∀ p,p ∈ refs a→p ∈ l):Fb H' s a=Fb H s a:=by
 obtain⟨h1,h2,h3⟩:=GZ h hs;unfold Fb;cases a<;>try rfl
 ·rename_i x;cases x<;>try rfl
  rename_i a n c;cases n<;>rfl
 ·rename_i o u z off n;simp only[Fu (h3 o u z off n rfl)]
theorem XG {P:Program} {H H':Hp} {s:Nat} {e t:TypeId} {a:A} {l:Fp} (h:Agree l H H') (hs:∀ p,p ∈ refs a→p ∈ l):EO P H' s e t a=EO P H s e t a:=by
 unfold EO;rw[MH h hs]
theorem RG {P:Program} {H H':Hp} {nm:Nm} {t u:TypeId} {a b:A} (h:Agree (refs b++kL nm a) H H'):Dt P H' nm t u a b=Dt P H nm t u a b:=by
 have hn:(∀ o u s off n,a ≠ .osl o u s off n)→H' nm=H nm:=fun hne=>Cp h (by
  refine List.mem_append_right _ ?_;cases a<;>simp[kL]
  rename_i o u s off n;exact(hne o u s off n rfl).elim)
 have hsrc:∀ s e,EO P H' s e u b=EO P H s e u b:=fun s e=>XG h (fun p hp=>List.mem_append_left _ hp);unfold Dt;simp only[hsrc];cases a with
 |osl o u' s off n=>
  have:=Cp (o:=o) h (List.mem_append_right _ (by simp[kL]));simp only[Fu this]
 |sl f xs=>cases f<;>simp only[hn (by intros;simp)]
 |_=>rfl
theorem Vv {P:Program} {H H':Hp} {t:TypeId} {a b:A} (h:Agree (refs b++refs a) H H'):JX P H' t a b=JX P H t a b:=by
 have hel:∀ s,Fb H' s b=Fb H s b:=fun s=>MH h (fun p hp=>List.mem_append_left _ hp);obtain⟨_,_,h3⟩:=GZ (a:=a) h (fun p hp=>List.mem_append_right _ hp);unfold JX;simp only[hel];cases a with
 |osl o u s off n=>simp only[Fu (h3 o u s off n rfl)]
 |_=>rfl
theorem Ty {P:Program} {H H':Hp} {t:TypeId} {a:A} (h:Agree (refs a) H H'):GW P H' t a=GW P H t a:=by
 obtain⟨_,_,h3⟩:=GZ (a:=a) h (fun p hp=>hp);unfold GW;cases a with
 |osl o u s off n=>simp only[Fu (h3 o u s off n rfl)]
 |_=>rfl
def Ji (P:Program) (f:FuncId):Bool:=
 match P.funcs[f]? with
 |some fn=>fn.body.isSome&&!(fn.name == "runtime.NumGoroutine")
 |none=>false
def MA (w:World) (I:Nat→Prop) (w':World):Nat→Prop:=fun b=>I b∨(w.heap.size≤b∧b<w'.heap.size)
def Spec (P:Program) (f:FuncId) (args:List A) (r:A):Prop:=
 Ji P f=true∧∀ (w:World) (I:Nat→Prop) (vs:Array Value),(∀ b,I b→b<w.heap.size)→Tabs P w I→vs.size=args.length→(∀ (k:Nat) (y:A),args[k]? = some y→Rel w I Jq y (vs.getD k undef)) →
  Calls P f vs w fun e w'=>∃ v,e = .returned v∧Below w.heap.size w w'∧Rel w' (MA w I w') Jq r v
def SpecB (P:Program) (f:FuncId) (args:List A) (r:A):Prop:=
 Ji P f=true∧∀ (w:World) (I J:Nat→Prop) (vs:Array Value),(∀ b,I b→b<w.heap.size)→(∀ b,J b→b<w.heap.size)→Tabs P w I→vs.size=args.length→(∀ (k:Nat) (y:A),args[k]? = some y→Rel w (fun b=>I b∨J b) Jq y (vs.getD k undef)) →
  Calls P f vs w fun e w'=>∃ v,e = .returned v∧Below w.heap.size w w'∧Rel w' (MA w I w') Jq r v
def Vz (H:Hp) (μ:Mu) (b:Nat):Prop:=∃ o,BJ (μ o) (H o).ob=true∧(μ o).b=b
def Jw (H:Hp) (a a':A):Prop:=∀ (c:Cx) (w:World) (I:Nat→Prop) (μ:Mu) (v:Value),Sim c w I μ H→Rel w I μ a v→Rel w (fun b=>I b∨Vz H μ b) Jq a' v
def FF (H:Hp):List A→List A→Prop
 |[],[]=>True
 |a::l,a'::l'=>Jw H a a'∧FF H l l'
 |_,_=>False
def A.flat1:A→Bool
 |.v _ | .any=>true
 |_=>false
def A.flat:A→Bool
 |.agg cs=>cs.all A.flat1
 |.tup xs=>xs.all fun x=>match x with
  |.agg cs=>cs.all A.flat1
  |x=>x.flat1
 |x=>x.flat1
theorem Rel.of_flat1 {w w':World} {I I':Nat→Prop} {μ μ':Mu} {a:A} {x:Value} (h:Rel w I μ a x) (hb:a.flat1=true):Rel w' I' μ' a x:=by
 cases a<;>simp[A.flat1] at hb
 ·exact .any _ _
 ·cases h;exact .v _ _
theorem Rel.of_flat {w w':World} {I I':Nat→Prop} {μ μ':Mu} {a:A} {x:Value} (h:Rel w I μ a x) (hb:a.flat=true):Rel w' I' μ' a x:=by
 cases a with
 |agg cs=>
  cases h with
  |agg _ _ vs hl hr=>
   refine .agg _ _ _ hl fun k y hk=>(hr k y hk).of_flat1 ?_;simp only[A.flat,List.all_eq_true] at hb;exact hb _ (List.mem_of_getElem? hk)
 |tup xs=>
  cases h with
  |tup _ _ vs hl hr=>
   refine .tup _ _ _ hl fun k y hk=>?_;simp only[A.flat,List.all_eq_true] at hb;have h1:=hb _ (List.mem_of_getElem? hk);have h2:=hr k y hk;generalize vs.getD k undef=u at h2 ⊢;cases y with
   |agg cs=>
    cases h2 with
    |agg _ _ vs' hl' hr'=>
     refine .agg _ _ _ hl' fun k' y' hk'=>(hr' k' y' hk').of_flat1 ?_;simp only[List.all_eq_true] at h1;exact h1 _ (List.mem_of_getElem? hk')
   |_=>exact h2.of_flat1 (by simpa using h1)
 |_=>exact h.of_flat1 (by simpa[A.flat] using hb)
theorem SpecB.of_flat {P:Program} {f:FuncId} {args:List A} {r:A} (h:Spec P f args r) (hr:r.flat=true):SpecB P f args r:=
 ⟨h.1,fun w I J vs hI hJ ht hl ha=>(h.2 w (fun b=>I b∨J b) vs (fun b hb=>hb.elim (hI b) (hJ b)) (ht.mono (fun _ h=>.inl h) (fun _ _=>rfl)) hl ha).mono fun e w' ⟨v,h1,h2,h3⟩=>⟨v,h1,h2,h3.of_flat hr⟩⟩
theorem SpecB.spec {P:Program} {f:FuncId} {args:List A} {r:A} (h:SpecB P f args r):Spec P f args r:=
 ⟨h.1,fun w I vs hI ht hl ha=>h.2 w I (fun _=>False) vs hI (fun _ h=>h.elim) ht hl (fun k y hk=>(ha k y hk).mono0 (fun b hb=>.inl hb) (fun _ _=>rfl))⟩
def Ye (P:Program) (H:Hp) (g:FuncId) (args:List A) (x:A) (E:Eff):Prop:=
 Ji P g=true∧∀ (c:Cx) (w:World) (I:Nat→Prop) (μ:Mu) (vs:Array Value),c.P=P→Sim c w I μ H→vs.size=args.length→(∀ (k:Nat) (y:A),args[k]? = some y→Rel w I μ y (vs.getD k undef)) →
  Calls P g vs w fun e w'=>∃ v,e = .returned v∧∃ I' μ',Ext I μ w I' μ' w'∧Sim c w' I' μ' (E.app H)∧Rel w' I' μ' x v
def LH (t:TypeId):PanicEntry:={ v:=.iface t (.agg #[]),recovered:=false }
def Zr (D:TypeId→Prop) (P:Program) (H:Hp) (g:FuncId) (args:List A) (x:A) (E:Eff):Prop:=
 Ji P g=true∧∀ (c:Cx) (w:World) (I:Nat→Prop) (μ:Mu) (vs:Array Value),c.P=P→Sim c w I μ H→vs.size=args.length→(∀ (k:Nat) (y:A),args[k]? = some y→Rel w I μ y (vs.getD k undef)) →
  Calls P g vs w fun e w'=>(∃ v,e = .returned v∧∃ I' μ',Ext I μ w I' μ' w'∧Sim c w' I' μ' (E.app H)∧Rel w' I' μ' x v)∨∃ t,D t∧e = .panicked [LH t]∧Kept c.Mb c.w0 w'
def LU (E:Eff) (W:Fp):Prop:=∀ (o:Nm) (H:Hp),Ug W o=false→E.app H o=H o
def Mt (P:Program) (u:TypeId) (ok:Bool):A→Option A
 |.ifc t a=>if t=u then (match P.underlying u with
  |none=>none
  |some (.interface _)=>none
  |some _=>some (if ok=true then .tup [a,.v (.bool true)] else a)) else none
 |_=>none
def eU (P:Program) (t:TypeId) (name:String):Option (FuncId × Option TypeId):=
 match P.info? t with
 |some i=>(match i.methods.find? (·.name == name) with
  |some m=>if m.path.toList.isEmpty=true then (match m.func,P.underlying t with
   |some (f,true),some (.pointer _)=>some (f,none)
   |some (f,false),some (.pointer e)=>some (f,some e)
   |_,_=>none) else none
  |none=>none)
 |none=>none
def ma (P:Program) (H:Hp) (d:Option TypeId) (a:A):Option A:=
 match d with
 |none=>some a
 |some e=>Em P H e a
def fc (P:Program) (H:Hp) (g:FuncId) (args:List A) (x:A) (E:Eff) (R W:Fp):Prop:=
 (args.all A.bare=true∧Spec P g args x∧E = .nil∧R=[]∧W=[]) ∨
 ((∃ args',FF H args args'∧SpecB P g args' x)∧E = .nil∧R=[([],true)]∧W=[]) ∨
 ((∀ H2,Agree (R++W) H H2→Ye P H2 g args x E)∧LU E W)
def l7 (D:TypeId→Prop) (P:Program) (H:Hp) (g:FuncId) (args:List A) (x:A) (E:Eff) (R W:Fp):Prop:=
 (∀ H2,Agree (R++W) H H2→Zr D P H2 g args x E)∧LU E W
def U6:A→Option Bool
 |.v (.bool b)=>some b
 |_=>none
theorem Ra {a:A} {b:Bool} (h:U6 a=some b):a = .v (.bool b):=by
 unfold U6 at h;split at h
 ·cases h;rfl
 ·cases h
def UI (c x y:A):Option A:=(U6 c).map fun q=>bif q then x else y
def ey (a:A):Option A:=if a.isPtr=true then some a else none
def fT (P:Program) (t:TypeId) (a:A):Option A:=match P.underlying t with
 |some (.interface _)=>none
 |some _=>some (.ifc t a)
 |none=>none
def Fv:Operand→Bool
 |.const (.slice none 0 0)=>true
 |_=>false
def US:A→Option Bool
 |.sl _ (_::_)=>some false
 |.v (.slice a _ _)=>some a.isNone
 |_=>none
def IW (P:Program) (op:BinOp) (t:TypeId) (x:A):Option A:=match P.underlying t,op with
 |some (.slice _),.eql=>(US x).map fun b=>.v (.bool b)
 |some (.slice _),.neq=>(US x).map fun b=>.v (.bool (!b))
 |_,_=>none
def Gc:Operand→Bool
 |.const .nilIface=>true
 |_=>false
def OG:A→Option Bool
 |.v .nilIface=>some true
 |.ifc _ _=>some false
 |_=>none
def GA (P:Program) (op:BinOp) (t:TypeId) (x:A):Option A:=match P.underlying t,op with
 |some (.interface _),.eql=>(OG x).map fun b=>.v (.bool b)
 |some (.interface _),.neq=>(OG x).map fun b=>.v (.bool (!b))
 |_,_=>none
theorem Ws {b:Operand} (h:Gc b=true):b = .const .nilIface:=by
 unfold Gc at h;split at h
 ·rfl
 ·cases h
theorem Rs {P:Program} {w:World} {I:Nat→Prop} {μ:Mu} {op:BinOp} {t:TypeId} {ox:Operand} {a r:A} {x:Value} (ha:Rel w I μ a x) (h:GA P op t a=some r) :
  ∃ v,(do eqGuard op t ox (.const .nilIface) x .nilIface;binOp op t x .nilIface:Sem Value).run P w = .ok v w∧Rel w I μ r v:=by
 have main:∀ {q:Bool},OG a=some q→(∃ ms,P.underlying t=some (.interface ms))→(eqGuard op t ox (.const .nilIface) x .nilIface).run P w = .ok () w∧∀ D,(Op.equalIn (D+1) t x .nilIface).run P w = .ok q w:=fun {q} hq ⟨ms,hu⟩=>by
  unfold OG at hq;split at hq
  ·cases hq;cases ha;refine⟨?_,fun D=>by simp[Op.equalIn,run_underlying hu]⟩;unfold eqGuard;cases op<;>cases ox<;>rfl
  ·cases hq;cases ha;refine⟨?_,fun D=>by simp[Op.equalIn,run_underlying hu]⟩;unfold eqGuard;cases op<;>rfl
  ·cases hq
 unfold GA at h;split at h
 ·rename_i ms hu;simp only[Option.map_eq_some_iff] at h;obtain⟨q,hq,rfl⟩:=h;obtain⟨hg,he'⟩:=main hq ⟨ms,hu⟩;have he:=he' 9999;have hb:(binOp .eql t x .nilIface).run P w = .ok (.bool q) w:=by
   have:binOp .eql t x .nilIface=(do pure (.bool (← Op.equal t x .nilIface))):=by cases x<;>rfl
   rw[this];simp only[Op.equal,Op.maxDepth,Sem.run_bind,he,Result.andThen_ok,Sem.run_pure]
  exact⟨_,by rw[Sem.run_bind,hg];exact hb,.v _ _⟩
 ·rename_i ms hu;simp only[Option.map_eq_some_iff] at h;obtain⟨q,hq,rfl⟩:=h;obtain⟨hg,he'⟩:=main hq ⟨ms,hu⟩;have he:=he' 9999;have hb:(binOp .neq t x .nilIface).run P w = .ok (.bool (!q)) w:=by
   have:binOp .neq t x .nilIface=(do pure (.bool (!(← Op.equal t x .nilIface)))):=by cases x<;>rfl
   rw[this];simp only[Op.equal,Op.maxDepth,Sem.run_bind,he,Result.andThen_ok,Sem.run_pure]
  exact⟨_,by rw[Sem.run_bind,hg];exact hb,.v _ _⟩
 ·cases h
theorem UO {b:Operand} (h:Fv b=true):b = .const (.slice none 0 0):=by
 unfold Fv at h;split at h
 ·rfl
 ·cases h
theorem Uj {P:Program} {w:World} {I:Nat→Prop} {μ:Mu} {op:BinOp} {t:TypeId} {ox oy:Operand} {a r:A} {x:Value} (ha:Rel w I μ a x) (h:IW P op t a=some r) :
  ∃ v,(do eqGuard op t ox oy x (.slice none 0 0);binOp op t x (.slice none 0 0):Sem Value).run P w = .ok v w∧Rel w I μ r v:=by
 have main:∀ {q:Bool},US a=some q→∃ p n k,x = .slice p n k∧q=p.isNone:=fun {q} hq=>by
  unfold US at hq;split at hq
  ·cases hq;cases ha with
   |sl=>exact⟨_,_,_,rfl,rfl⟩
  ·cases hq;cases ha;exact⟨_,_,_,rfl,rfl⟩
  ·cases hq
 unfold IW at h;cases hu:P.underlying t with
 |none=>rw[hu] at h;cases op<;>cases h
 |some d=>
  rw[hu] at h;cases d<;>cases op<;>simp only[reduceCtorEq,Option.map_eq_some_iff] at h
  all_goals
   obtain⟨q,hq,rfl⟩:=h;obtain⟨p,n,k,rfl,rfl⟩:=main hq;have hg:∀ op,(eqGuard op t ox oy (.slice p n k) (.slice none 0 0)).run P w = .ok () w:=fun op=>Ep (by simp) (by simp);have he':∀ D,(Op.equalIn (D+1) t (.slice p n k) (.slice none 0 0)).run P w = .ok p.isNone w:=fun D=>by cases p<;>simp[Op.equalIn,run_underlying hu]
   have he:=he' 9999;refine⟨_,?_,.v _ _⟩;rw[Sem.run_bind,hg];simp only[binOp,Op.equal,Op.maxDepth,Sem.run_bind,he,Result.andThen_ok,Sem.run_pure]
def HU (P:Program) (t u:TypeId):A→Option A
 |.v (.string s)=>match P.underlying t,P.underlying u with
  |some .string,some (.slice e)=>match P.underlying e with
   |some (.int .u8)=>some (.sl false (s.data.toList.map fun b=>.v (.int .u8 b.toNat)))
   |_=>none
  |_,_=>Gk P t u (.v (.string s))
 |a=>Gk P t u a
theorem V5 (w:World) (e:TypeId) (s:ByteArray):w.grownBy (Lib.bytesWorld w e s) none where
 os:=by simp[Lib.bytesWorld,World.freeze,World.alloc,World.drew,-World.alloc_eq,-World.drew_eq]
 tape:=by simp[Lib.bytesWorld,World.freeze,World.alloc,World.drew,-World.alloc_eq,-World.drew_eq]
 output:=by simp[Lib.bytesWorld,World.freeze,World.alloc,World.drew,-World.alloc_eq,-World.drew_eq]
 size:=by rw[Lib.bytesWorld_size];omega
 block:=fun k hk _=>Lib.bytesWorld_at_old w e s k hk
theorem L8:∀ (l:List UInt8),(l.map fun b=>A.v (.int .u8 b.toNat)).flatMap A.cells=l.map fun b=>A.v (.int .u8 b.toNat)
 |[]=>rfl
 |a::l=>by rw[List.map_cons,List.flatMap_cons,L8 l];rfl
theorem UZ {c:Cx} {w:World} {I:Nat→Prop} {μ:Mu} {H:Hp} (hs:Sim c w I μ H) {t u:TypeId} {a r:A} {x:Value} (ha:Rel w I μ a x) (h:HU c.P t u a=some r) :
  ∃ v w',(convert t u x).run c.P w = .ok v w'∧∃ I' μ',Ext I μ w I' μ' w'∧Sim c w' I' μ' H∧Rel w' I' μ' r v:=by
 unfold HU at h;split at h
 ·rename_i s;split at h
  ·rename_i e hu hd;split at h
   ·rename_i he;cases h;cases ha;obtain⟨hx,hs'⟩:=hs.same (I':=fun b=>I b∨b=w.heap.size) (V5 w e s) (fun b hb=>.inl hb) (fun b hb=>hb.imp id fun e'=>⟨by omega,by rw[Lib.bytesWorld_size];omega⟩);refine⟨_,_,Lib.run_convert_string_bytes w t u e s hu hd he,_,μ,hx,hs',?_⟩;have hsz:s.size=s.data.toList.length:=by show s.data.size=_;exact Array.length_toList.symm
    by_cases hn:s.data.toList=[]
    ·rw[hn,show s.size=0 by rw[hsz,hn];rfl];exact .slN _ _ _ _ (fun h=>by cases h)
    ·refine Rel.sl (I:=fun b=>I b∨b=w.heap.size) _ _ w.heap.size 0 _ _ 1 _ (fun k=>.int .u8 (s.data.toList.getD k 0).toNat) (Or.inr rfl) (by rw[List.length_map];exact hsz) (by rw[List.length_map,← hsz];exact grownCap_ge _ _ _ _) (fun h=>by cases h) (fun q hq=>by
       obtain⟨p,_,rfl⟩:=List.mem_map.1 hq;rfl) (fun k y hk=>?_) (fun k y hk=>?_) (fun k y hk=>?_)
     ·rw[L8,List.getElem?_map] at hk;obtain⟨b,_,rfl⟩:=Option.map_eq_some_iff.1 hk;rfl
     ·rw[L8,List.getElem?_map] at hk;obtain⟨b,hb,rfl⟩:=Option.map_eq_some_iff.1 hk;rw[Nat.zero_add];exact Lib.bytesWorld_cell w e s k (by rw[hsz];exact(List.getElem?_eq_some_iff.1 hb).1)
     ·rw[L8,List.getElem?_map] at hk;obtain⟨b,hb,rfl⟩:=Option.map_eq_some_iff.1 hk;rw[List.getD_eq_getElem?_getD,hb];exact .v _ _
   ·cases h
  ·obtain⟨v,h1,h2⟩:=Oe (P:=c.P) ha h;exact⟨v,w,h1,I,μ,Ext.refl _ _ _,hs,h2⟩
 ·obtain⟨v,h1,h2⟩:=Oe (P:=c.P) ha h;exact⟨v,w,h1,I,μ,Ext.refl _ _ _,hs,h2⟩
def Rd (F:Option A) (x:A) (E:Eff) (R W:Fp):Prop:=F=some x∧E = .nil∧R=[]∧W=[]
def uN (F:Option (A × Eff)) (nm:Nm) (x:A) (E:Eff) (R W:Fp):Prop:=F=some (x,E)∧R=[]∧W=[(nm,false)]
def Sh (P:Program) (D:TypeId→Prop) (nm:Nm) (op:Op) (ρ:Operand→A) (H:Hp) (x:A) (E:Eff) (R W:Fp):Prop:=
 match op with
 |.move a | .assign a=>Rd (some (ρ a)) x E R W
 |.pick c a b=>Rd (UI (ρ c) (ρ a) (ρ b)) x E R W
 |.alloc e=>uN (LD P H nm e) nm x E R W
 |.box e a=>uN (Xh H nm e (ρ a)) nm x E R W
 |.build t ps=>Rd (Bw P t (ps.toList.map fun p=>(p.1,ρ p.2))) x E R W
 |.buildSlice t n ps=>match nm with
  |[]=>Rd (D1 P t n (ps.toList.map fun p=>(p.1,ρ p.2))) x E R W
  |a::d=>uN (Da P H (a::d) t n (ps.toList.map fun p=>(p.1,ρ p.2))) (a::d) x E R W
 |.load t a=>Em P H t (ρ a)=some x∧E = .nil∧R=refs (ρ a)∧W=[]
 |.store t a v=>FE P H t (ρ a) (ρ v)=some E∧x = .any∧R=[]∧W=refs (ρ a)
 |.nilCheck a=>Rd (ey (ρ a)) x E R W
 |.binOp op t a b _=>Rd (if Fv b=true then IW P op t (ρ a) else if Gc b=true then GA P op t (ρ a) else G3 P op t (ρ a) (ρ b)) x E R W
 |.unOp op _ a=>Rd (lx op (ρ a)) x E R W
 |.convert s d a=>Rd (HU P s d (ρ a)) x E R W
 |.makeSlice t l c=>uN (D0 P H nm t (ρ l) (ρ c)) nm x E R W
 |.slice t a lo hi mx=>Rd (FC P t (ρ a) (lo.map ρ) (hi.map ρ) (mx.map ρ)) x E R W
 |.fieldAddr s a f=>Rd (Eb P s (ρ a) f) x E R W
 |.field s a f=>Rd (LQ P s (ρ a) f) x E R W
 |.indexAddr t a i=>Rd (A7 P t (ρ a) (ρ i)) x E R W
 |.index t a i=>Rd (II P t (ρ a) (ρ i)) x E R W
 |.extract a i=>Rd (F3 (ρ a) i) x E R W
 |.makeFunc (.func f) fs caps=>Rd (some (.fnc f (fs.toList.map ρ) (caps.toList.map ρ))) x E R W
 |.makeInterface t a=>Rd (fT P t (ρ a)) x E R W
 |.typeAssert a _ u ok=>Rd (Mt P u ok (ρ a)) x E R W
 |.makeMap _ none=>uN (Hh H nm) nm x E R W
 |.mapUpdate t m k v=>FG P H t (ρ m) (ρ k) (ρ v)=some E∧x = .any∧R=[]∧W=refs (ρ m)
 |.lookup t m k ok=>Ht P H t (ρ m) (ρ k) ok=some x∧E = .nil∧R=refs (ρ m)∧W=[]
 |.call c=>match c.callee with
  |.builtin .len=>∃ a t,c.args = #[a]∧c.argTypes = #[t]∧Rd (JV P t (ρ a)) x E R W
  |.builtin .append=>∃ a b t u,c.args = #[a,b]∧c.argTypes = #[t,u]∧Dt P H nm t u (ρ a) (ρ b)=some (x,E)∧R=refs (ρ b)∧W=kL nm (ρ a)
  |.builtin .copy=>∃ a b t u,c.args = #[a,b]∧c.argTypes = #[t,u]∧JX P H t (ρ a) (ρ b)=some (x,E)∧R=refs (ρ b)∧W=refs (ρ a)
  |.builtin .clear=>∃ a t,c.args = #[a]∧c.argTypes = #[t]∧GW P H t (ρ a)=some (x,E)∧R=[]∧W=refs (ρ a)
  |.builtin .min=>Rd (DS false (c.args.toList.map ρ)) x E R W
  |.builtin .max=>Rd (DS true (c.args.toList.map ρ)) x E R W
  |.value f=>∃ g fs caps,ρ f = .fnc g fs caps∧(fc P H g (fs++(c.args.toList.map ρ++caps)) x E R W∨l7 D P H g (fs++(c.args.toList.map ρ++caps)) x E R W)
  |.invoke r name=>∃ t a g d a' R0,ρ r = .ifc t a∧eU P t name=some (g,d)∧ma P H d a=some a'∧fc P H g (a'::c.args.toList.map ρ) x E R0 W∧R=refs a++R0
  |_=>False
 |_=>False
def ROK (c:Cx) (w:World) (I:Nat→Prop) (μ:Mu) (x:A) (H':Hp):Result Next→Prop
 |.ok (.value v) w'=>∃ I' μ',Ext I μ w I' μ' w'∧Sim c w' I' μ' H'∧Rel w' I' μ' x v
 |.ok .skip w'=>∃ I' μ',Ext I μ w I' μ' w'∧Sim c w' I' μ' H'∧x = .any
 |.ok (.enter f args) w'=>w'=w∧Calls c.P f args w fun e w''=>(∃ v,e = .returned v∧∃ I' μ',Ext I μ w I' μ' w''∧Sim c w'' I' μ' H'∧Rel w'' I' μ' x v)∨∃ t,c.die t∧e = .panicked [LH t]∧Kept c.Mb c.w0 w''
 |_=>False
theorem ROK.value {c:Cx} {w:World} {I:Nat→Prop} {μ:Mu} {x:A} {H:Hp} {E:Eff} (hs:Sim c w I μ H) {m:Sem Value} (hE:E = .nil) (h:∃ v,m.run c.P w = .ok v w∧Rel w I μ x v) :
  ROK c w I μ x (E.app H) ((do pure (.value (← m)):Sem Next).run c.P w):=by
 obtain⟨v,h1,h2⟩:=h;subst hE;simp only[Sem.run_bind,h1,Result.andThen_ok,Sem.run_pure];exact⟨I,μ,Ext.refl _ _ _,hs,h2⟩
theorem ROK.value' {c:Cx} {w:World} {I:Nat→Prop} {μ:Mu} {x:A} {H':Hp} {m:Sem Value} (h:∃ v w',m.run c.P w = .ok v w'∧∃ I' μ',Ext I μ w I' μ' w'∧Sim c w' I' μ' H'∧Rel w' I' μ' x v) :
  ROK c w I μ x H' ((do pure (.value (← m)):Sem Next).run c.P w):=by
 obtain⟨v,w',h1,I',μ',h2,h3,h4⟩:=h;simp only[Sem.run_bind,h1,Result.andThen_ok,Sem.run_pure];exact⟨I',μ',h2,h3,h4⟩
theorem ROK.run {c:Cx} {w:World} {I:Nat→Prop} {μ:Mu} {x:A} {H:Hp} {E:Eff} (hs:Sim c w I μ H) {r:Result Value} (hE:E = .nil) (h:∃ v,r = .ok v w∧Rel w I μ x v) :
  ROK c w I μ x (E.app H) (r.andThen fun a w'=>.ok (.value a) w'):=by
 obtain⟨v,rfl,h2⟩:=h;subst hE;exact⟨I,μ,Ext.refl _ _ _,hs,h2⟩
theorem ROK.run' {c:Cx} {w:World} {I:Nat→Prop} {μ:Mu} {x:A} {H':Hp} {r:Result Value} (h:∃ v w',r = .ok v w'∧∃ I' μ',Ext I μ w I' μ' w'∧Sim c w' I' μ' H'∧Rel w' I' μ' x v) :
  ROK c w I μ x H' (r.andThen fun a w'=>.ok (.value a) w'):=by
 obtain⟨v,w',rfl,h⟩:=h;exact h
theorem qF {w:World} {I:Nat→Prop} {μ:Mu} {ρ:Operand→A} {σ:Operand→Value} (h:∀ x,Rel w I μ (ρ x) (σ x)) (o:Option Operand):WZ w I μ (o.map ρ) (o.map σ):=by
 cases o with
 |none=>trivial
 |some x=>exact h x
theorem PF {c:Cx} {w w':World} {I:Nat→Prop} {μ:Mu} {H:Hp} (hs:Sim c w I μ H) (hb:Below w.heap.size w w'):Ext I μ w (MA w I w') μ w'∧Sim c w' (MA w I w') μ H:=
 hs.same (I':=MA w I w') ⟨hb.os,hb.tape,hb.output,hb.size,fun k hk _=>hb.block k hk⟩ (fun b hb=>.inl hb) (fun b hb=>hb)
theorem Ha {H:Hp}:∀ {l l':List A},FF H l l'→l'.length=l.length∧∀ (k:Nat) (a':A),l'[k]? = some a'→∃ a,l[k]? = some a∧Jw H a a'
 |[],[],_=>⟨rfl,fun k a' h=>by simp at h⟩
 |a::l,a'::l',h=>by
  obtain⟨h1,h2⟩:=Ha h.2;refine⟨by simp[h1],fun k x hk=>?_⟩;cases k with
  |zero=>simp at hk;subst hk;exact⟨a,rfl,h.1⟩
  |succ k=>exact h2 k x (by simpa using hk)
 |[],_::_,h=>h.elim
 |_::_,[],h=>h.elim
theorem Qn {c:Cx} {w:World} {I:Nat→Prop} {μ:Mu} {H:Hp} (hs:Sim c w I μ H) {g:FuncId} {args:List A} {vs:Array Value} {x:A} {E:Eff} {R W:Fp} (hl:vs.size=args.length)
  (hr:∀ (k:Nat) (y:A),args[k]? = some y→Rel w I μ y (vs.getD k undef)) (h:fc c.P H g args x E R W):ROK c w I μ x (E.app H) ((callFunc g vs).run c.P w):=by
 have enter:Ji c.P g=true→(callFunc g vs).run c.P w = .ok (.enter g vs) w:=fun hk=>by
  unfold Ji at hk;cases hf:c.P.funcs[g]? with
  |none=>simp[hf] at hk
  |some fn=>
   simp only[hf,Bool.and_eq_true,Bool.not_eq_true'] at hk;have hb:fn.body.isNone=false:=by cases hq:fn.body<;>simp_all
   simp only[callFunc,Sem.run_bind,run_program,Result.andThen_ok,hf,hk.2,hb,Bool.false_eq_true,if_false,Sem.run_pure]
 rcases h with ⟨hb,⟨hk,h⟩,rfl,_,_⟩ | ⟨⟨args',hf,hk,h⟩,rfl,_,_⟩ | ⟨h,_⟩
 ·rw[enter hk];refine⟨rfl,(h w I vs hs.lt hs.tab hl (fun k y hy=>(hr k y hy).of_bare (by simp only[List.all_eq_true] at hb;exact hb _ (List.mem_of_getElem? hy)))).mono fun e w' ⟨v,he,hbl,hv⟩=>.inl ⟨v,he,?_⟩⟩;obtain⟨h1,h2⟩:=PF hs hbl;exact⟨_,μ,h1,h2,hv.ofI⟩
 ·rw[enter hk];obtain⟨hl',hg⟩:=Ha hf;refine⟨rfl,(h w I (Vz H μ) vs hs.lt (fun b hb=>by
   obtain⟨o,h1,rfl⟩:=hb;exact(hs.own o h1).2.2) hs.tab (by omega) (fun k y hy=>?_)).mono fun e w' ⟨v,he,hbl,hv⟩=>.inl ⟨v,he,?_⟩⟩
  ·obtain⟨a,ha,hfa⟩:=hg k y hy;exact hfa c w I μ _ hs (hr k a ha)
  ·obtain⟨h1,h2⟩:=PF hs hbl;exact⟨_,μ,h1,h2,hv.ofI⟩
 ·obtain⟨hk,h⟩:=h H (fun _ _=>rfl);rw[enter hk];exact⟨rfl,(h c w I μ vs rfl hs hl hr).mono fun e w' h=>.inl h⟩
theorem WL {c:Cx} {w:World} {I:Nat→Prop} {μ:Mu} {H:Hp} (hs:Sim c w I μ H) {g:FuncId} {args:List A} {vs:Array Value} {x:A} {E:Eff} {R W:Fp} (hl:vs.size=args.length)
  (hr:∀ (k:Nat) (y:A),args[k]? = some y→Rel w I μ y (vs.getD k undef)) (h:l7 c.die c.P H g args x E R W):ROK c w I μ x (E.app H) ((callFunc g vs).run c.P w):=by
 obtain⟨h,_⟩:=h;obtain⟨hk,h⟩:=h H (fun _ _=>rfl);have e:(callFunc g vs).run c.P w = .ok (.enter g vs) w:=by
  unfold Ji at hk;cases hf:c.P.funcs[g]? with
  |none=>simp[hf] at hk
  |some fn=>
   simp only[hf,Bool.and_eq_true,Bool.not_eq_true'] at hk;have hb:fn.body.isNone=false:=by cases hq:fn.body<;>simp_all
   simp only[callFunc,Sem.run_bind,run_program,Result.andThen_ok,hf,hk.2,hb,Bool.false_eq_true,if_false,Sem.run_pure]
 rw[e];exact⟨rfl,(h c w I μ vs rfl hs hl hr).mono fun e w' h=>h⟩
theorem selA_iff {c x y z:A}:UI c x y=some z ↔ ∃ q,c = .v (.bool q)∧z=bif q then x else y:=by
 constructor
 ·intro h;unfold UI at h;simp only[Option.map_eq_some_iff] at h;obtain⟨q,h1,h2⟩:=h;exact⟨q,Ra h1,h2.symm⟩
 ·rintro⟨q,rfl,rfl⟩;rfl
theorem Nd {w:World} {I:Nat→Prop} {μ:Mu} {ρ:Operand→A} {σ:Operand→Value} (hρ:∀ y,Rel w I μ (ρ y) (σ y)) (l:Array Operand) (k:Nat) (y:A) (hk:(l.toList.map ρ)[k]? = some y):Rel w I μ y ((l.map σ).getD k undef):=by
 simp only[List.getElem?_map,Option.map_eq_some_iff] at hk;obtain⟨z,hz,rfl⟩:=hk;have hz':l[k]? = some z:=by simpa using hz
 have e:(l.map σ).getD k undef=σ z:=by simp[Array.getD_eq_getD_getElem?,hz']
 rw[e];exact hρ z
theorem Pb {w:World} {I:Nat→Prop} {μ:Mu} {xs ys:List A} {us vs:Array Value} (h1:us.size=xs.length) (h2:∀ (k:Nat) (y:A),xs[k]? = some y→Rel w I μ y (us.getD k undef)) (h3:∀ (k:Nat) (y:A),ys[k]? = some y→Rel w I μ y (vs.getD k undef)) :
  ∀ (k:Nat) (y:A),(xs++ys)[k]? = some y→Rel w I μ y ((us++vs).getD k undef):=by
 intro k y hk;rcases Nat.lt_or_ge k xs.length with hlt | hge
 ·rw[List.getElem?_append_left hlt] at hk;have e:(us++vs).getD k undef=us.getD k undef:=by
   simp only[Array.getD_eq_getD_getElem?];rw[Array.getElem?_append_left (by omega)]
  rw[e];exact h2 k y hk
 ·rw[List.getElem?_append_right hge] at hk;have e:(us++vs).getD k undef=vs.getD (k-xs.length) undef:=by
   simp only[Array.getD_eq_getD_getElem?];rw[Array.getElem?_append_right (by omega),h1]
  rw[e];exact h3 _ y hk
theorem Rm {P:Program} {w:World} {I:Nat→Prop} {μ:Mu} {t u:TypeId} {ok:Bool} {a r:A} {x:Value} (ha:Rel w I μ a x) (h:Mt P u ok a=some r) :
  ∃ v,(Instr.typeAssert x t u ok).run P w = .ok v w∧Rel w I μ r v:=by
 unfold Mt at h;split at h
 ·rename_i t' a';cases ha with
  |ifc _ _ _ y hy=>
   split at h
   ·rename_i he;subst he;have fin:∀ (D:TypeDesc),P.underlying t'=some D→(∀ m,D ≠ .interface m)→r=(if ok=true then .tup [a',.v (.bool true)] else a')→∃ v,(Instr.typeAssert (.iface t' y) t t' ok).run P w = .ok v w∧Rel w I μ r v:=fun D hD hn hr=>by
     subst hr;refine⟨if ok=true then .tuple #[y,.bool true] else y,?_,?_⟩
     ·unfold Instr.typeAssert;simp only[Sem.run_bind,run_underlying hD,Result.andThen_ok];cases D<;>first
       |exact absurd rfl (hn _)
       |simp[Sem.run_pure]
     ·cases ok
      ·exact hy
      ·refine .tup _ _ _ rfl fun k z hk=>?_
       match k with
       |0=>simp at hk;subst hk;exact hy
       |1=>simp at hk;subst hk;exact .v _ _
       |k+2=>simp at hk
    cases hu:P.underlying t' with
    |none=>rw[hu] at h;cases h
    |some D=>
     rw[hu] at h;cases D<;>first
      |(cases h;done)
      |(cases h;exact fin _ hu (fun m e=>by cases e) rfl)
   ·cases h
 ·cases h
theorem RT {P:Program} {H:Hp} {t:TypeId} {a r:A} (h:Em P H t a=some r):a.isPtr=true:=by
 unfold Em at h;split at h
 ·cases a<;>first | rfl | cases h
 ·cases h
theorem WG {P:Program} {w:World} {t:TypeId} {q:Addr} {x y:String}:(Builtin.ssaWrapNilChk_ #[t] t #[.pointer (some q),strVal x,strVal y]).run P w = .ok (.pointer (some q)) w:=rfl
theorem bJ {c:Cx} {w:World} {I:Nat→Prop} {μ:Mu} {H:Hp} (hs:Sim c w I μ H) {t:TypeId} {name:String} {g:FuncId} {d:Option TypeId} {a a':A} {v:Value} (hv:Rel w I μ a v) (hm:eU c.P t name=some (g,d)) (hr:ma c.P H d a=some a') (n:Nat) :
  ∃ v',(method (n+1) t v name).run c.P w = .ok (g,v') w∧Rel w I μ a' v':=by
 unfold eU at hm;cases hi:c.P.info? t with
 |none=>rw[hi] at hm;cases hm
 |some i=>
  rw[hi] at hm;simp only at hm;cases hf:i.methods.find? (·.name == name) with
  |none=>rw[hf] at hm;cases hm
  |some m=>
   rw[hf] at hm;simp only at hm;by_cases hp:m.path.toList.isEmpty=true
   ·rw[if_pos hp] at hm;have hp':m.path.toList=[]:=by simpa using hp
    have hpe:m.path.isEmpty=true:=by
     have:m.path = #[]:=by apply Array.ext';simpa using hp'
     rw[this];rfl
    have hti:(typeInfo t).run c.P w = .ok i w:=by
     unfold typeInfo;simp only[Sem.run_bind,run_program,Result.andThen_ok,hi,Sem.run_pure]
    cases hF:m.func with
    |none=>rw[hF] at hm;cases hm
    |some fb=>
     obtain⟨f,b⟩:=fb;rw[hF] at hm;cases hu:c.P.underlying t with
     |none=>rw[hu] at hm;cases b<;>cases hm
     |some D=>
      rw[hu] at hm;cases D<;>cases b<;>simp only[reduceCtorEq,Option.some.injEq,Prod.mk.injEq] at hm
      ·obtain⟨rfl,rfl⟩:=hm;rename_i e;have hr:Em c.P H e a=some a':=hr;obtain⟨v',h1,h2⟩:=JY hs hv hr;obtain⟨q,hq⟩:=EA hv (RT hr);refine⟨v',?_,h2⟩;subst hq;have hl:(loadVar e q).run c.P w = .ok v' w:=by
        simpa[Instr.loadAt,Instr.sureAddr,Sem.run_bind,Sem.run_pure] using h1
       unfold method;simp only[Sem.run_bind,hti,Result.andThen_ok,hf,hp',follow,Sem.run_pure,hF,hpe,if_true,receiverAt,run_underlying hu,Place.get,WG,asAddr,hl]
      ·obtain⟨rfl,rfl⟩:=hm;have hr:a=a':=Option.some.inj hr;subst hr;refine⟨v,?_,hv⟩;unfold method;simp only[Sem.run_bind,hti,Result.andThen_ok,hf,hp',follow,Sem.run_pure,hF,hpe,if_true,receiverAt,run_underlying hu,Place.get]
   ·rw[if_neg hp] at hm;cases hm
theorem Sb {c:Cx} {w:World} {I:Nat→Prop} {μ:Mu} {H:Hp} (hs:Sim c w I μ H) {o:Oper} {nm:Nm} {ρ:Operand→A} {σ:Operand→Value} {x:A} {E:Eff} {R W:Fp} (hρ:∀ y,Rel w I μ (ρ y) (σ y)) (hσ:∀ z,σ (.const z)=z) (h:Sh c.P c.die nm o.op ρ H x E R W) :
  ROK c w I μ x (E.app H) ((execOp σ o).run c.P w):=by
 unfold Sh at h;unfold execOp;split at h
 ·rename_i a ho;obtain⟨h,rfl,_,_⟩:=h;cases h;simp only[ho];exact⟨I,μ,Ext.refl _ _ _,hs,hρ a⟩
 ·rename_i a ho;obtain⟨h,rfl,_,_⟩:=h;cases h;simp only[ho];exact⟨I,μ,Ext.refl _ _ _,hs,hρ a⟩
 ·rename_i d a b ho;obtain⟨h,rfl,_,_⟩:=h;obtain⟨q,h1,rfl⟩:=selA_iff.1 h;have h2:=hρ d;rw[h1] at h2;generalize hd:σ d=u at h2;cases h2;simp only[ho,hd,asBool,Sem.run_bind,Sem.run_pure,Result.andThen_ok];refine⟨I,μ,Ext.refl _ _ _,hs,?_⟩;cases q
  ·exact hρ b
  ·exact hρ a
 ·rename_i e ho;simp only[ho];exact ROK.value' (TN hs h.1)
 ·rename_i e a ho;simp only[ho];exact ROK.value' (Xu hs (hρ a) h.1)
 ·rename_i t ps ho;obtain⟨h,hE,_,_⟩:=h;simp only[ho];exact ROK.value hs hE (Tf (P:=c.P) (by simp[Function.comp_def]) (fun k p q hp hq=>by
   simp only[Array.toList_map,List.getElem?_map,Option.map_eq_some_iff] at hp hq;obtain⟨u,hu,rfl⟩:=hp;obtain⟨u',hu',rfl⟩:=hq;rw[hu] at hu';cases hu';exact hρ _) h)
 ·rename_i t n ps ho;simp only[ho];split at h
  ·obtain⟨h,rfl,_,_⟩:=h;exact ROK.value' (MY hs (by simp[Function.comp_def]) (fun k p q hp hq=>by
    simp only[Array.toList_map,List.getElem?_map,Option.map_eq_some_iff] at hp hq;obtain⟨u,hu,rfl⟩:=hp;obtain⟨u',hu',rfl⟩:=hq;rw[hu] at hu';cases hu';exact hρ _) h)
  ·exact ROK.value' (Ma hs (by simp[Function.comp_def]) (fun k p q hp hq=>by
    simp only[Array.toList_map,List.getElem?_map,Option.map_eq_some_iff] at hp hq;obtain⟨u,hu,rfl⟩:=hp;obtain⟨u',hu',rfl⟩:=hq;rw[hu] at hu';cases hu';exact hρ _) h.1)
 ·rename_i t a ho;obtain⟨h,hE,_,_⟩:=h;simp only[ho];exact ROK.value hs hE (JY hs (hρ a) h)
 ·rename_i t a v ho;obtain⟨h,rfl,_,_⟩:=h;simp only[ho];obtain⟨w',h1,h2,h3⟩:=Th hs (hρ a) (hρ v) h;simp only[Sem.run_bind,h1,Result.andThen_ok,Sem.run_pure];exact⟨I,μ,h2,h3,rfl⟩
 ·rename_i a ho;obtain⟨h,rfl,_,_⟩:=h;unfold ey at h;split at h
  ·rename_i h1;cases h;obtain⟨q,hq⟩:=EA (hρ a) h1;have h2:=hρ a;rw[hq] at h2;simp only[ho,hq,Sem.run_pure];exact⟨I,μ,Ext.refl _ _ _,hs,h2⟩
  ·cases h
 ·rename_i op t a b yt ho;obtain⟨h,hE,_,_⟩:=h;simp only[ho];split at h
  ·rename_i hn;rw[UO hn,hσ];exact ROK.value hs hE (Uj (P:=c.P) (hρ a) h)
  ·split at h
   ·rename_i hn;rw[Ws hn,hσ];exact ROK.value hs hE (Rs (P:=c.P) (hρ a) h)
   ·exact ROK.value hs hE (Xj (P:=c.P) (hρ a) (hρ b) h)
 ·rename_i op t a ho;obtain⟨h,hE,_,_⟩:=h;simp only[ho];exact ROK.value hs hE (aw (P:=c.P) (hρ a) h)
 ·rename_i s d a ho;obtain⟨h,rfl,_,_⟩:=h;simp only[ho];exact ROK.value' (UZ hs (hρ a) h)
 ·rename_i t l k ho;simp only[ho];exact ROK.value' (NK hs (hρ l) (hρ k) h.1)
 ·rename_i t a lo hi mx ho;obtain⟨h,hE,_,_⟩:=h;simp only[ho];exact ROK.value hs hE (T6 (hρ a) (qF hρ lo) (qF hρ hi) (qF hρ mx) h)
 ·rename_i s a f ho;obtain⟨h,hE,_,_⟩:=h;simp only[ho];exact ROK.value hs hE (NU (P:=c.P) (hρ a) h)
 ·rename_i s a f ho;obtain⟨h,hE,_,_⟩:=h;simp only[ho];exact ROK.value hs hE (TF (P:=c.P) (hρ a) h)
 ·rename_i t a i ho;obtain⟨h,hE,_,_⟩:=h;simp only[ho];exact ROK.value hs hE (NR (hρ a) (hρ i) h)
 ·rename_i t a i ho;obtain⟨h,hE,_,_⟩:=h;simp only[ho];exact ROK.value hs hE (TI (P:=c.P) (hρ a) (hρ i) h)
 ·rename_i a i ho;obtain⟨h,hE,_,_⟩:=h;simp only[ho];exact ROK.value hs hE (Pr (P:=c.P) (hρ a) h)
 ·rename_i f fs caps ho;obtain⟨h,hE,_,_⟩:=h;cases h;simp only[ho];exact ROK.value hs hE ⟨_,rfl,.fnc _ _ _ _ _ _ (by simp) (Nd hρ fs) (by simp) (Nd hρ caps)⟩
 ·rename_i t a ho;obtain⟨h,hE,_,_⟩:=h;simp only[ho];refine ROK.value hs hE ?_;unfold fT at h;cases hu:c.P.underlying t with
  |none=>rw[hu] at h;cases h
  |some d=>rw[hu] at h;cases d<;>first | (cases h;done) | (cases h;exact⟨_,by simp[Instr.makeInterface,run_underlying hu],.ifc _ _ _ _ (hρ a)⟩)
 ·rename_i a t u ok ho;obtain⟨h,hE,_,_⟩:=h;simp only[ho];exact ROK.value hs hE (Rm (P:=c.P) (hρ a) h)
 ·rename_i t ho;simp only[ho];exact ROK.value' (Q3 hs h.1)
 ·rename_i t m k v ho;obtain⟨h,rfl,_,_⟩:=h;simp only[ho];obtain⟨w',h1,h2,h3⟩:=RN hs (hρ m) (hρ k) (hρ v) h;simp only[Sem.run_bind,h1,Result.andThen_ok,Sem.run_pure];exact⟨I,μ,h2,h3,rfl⟩
 ·rename_i t m k ok ho;obtain⟨h,hE,_,_⟩:=h;simp only[ho];exact ROK.value hs hE (Rr hs (hρ m) (hρ k) h)
 ·rename_i q ho;split at h
  ·rename_i hc;obtain⟨a,t,ha,ht,h,hE,_,_⟩:=h;simp only[ho,resolve,hc,ha,ht,Sem.run_bind,Sem.run_pure,Result.andThen_ok,invoke,builtin];exact ROK.run hs hE (by simpa using XE (P:=c.P) (ty:=o.type) (hρ a) h)
  ·rename_i hc;obtain⟨a,b,t,u,ha,ht,h,_,_⟩:=h;simp only[ho,resolve,hc,ha,ht,Sem.run_bind,Sem.run_pure,Result.andThen_ok,invoke,builtin];exact ROK.run' (by simpa using RA (ty:=o.type) hs (hρ a) (hρ b) h)
  ·rename_i hc;obtain⟨a,b,t,u,ha,ht,h,_,_⟩:=h;simp only[ho,resolve,hc,ha,ht,Sem.run_bind,Sem.run_pure,Result.andThen_ok,invoke,builtin];exact ROK.run' (by simpa using UT (u:=u) (ty:=o.type) hs (hρ a) (hρ b) h)
  ·rename_i hc;obtain⟨a,t,ha,ht,h,_,_⟩:=h;simp only[ho,resolve,hc,ha,ht,Sem.run_bind,Sem.run_pure,Result.andThen_ok,invoke,builtin];exact ROK.run' (by simpa using Tg (ty:=o.type) hs (hρ a) h)
  ·rename_i hc;obtain⟨h,hE,_,_⟩:=h;simp only[ho,resolve,hc,Sem.run_bind,Sem.run_pure,Result.andThen_ok,invoke,builtin];exact ROK.run hs hE (by
    have:=ZU (P:=c.P) (w:=w) (I:=I) (μ:=μ) (as':=q.args.toList.map ρ) (xs:=q.args.toList.map σ) (ts:=q.argTypes) (ty:=o.type) (by simp) (fun k a x ha hx=>by
     simp only[List.getElem?_map,Option.map_eq_some_iff] at ha hx;obtain⟨u,hu,rfl⟩:=ha;obtain⟨u',hu',rfl⟩:=hx;rw[hu] at hu';cases hu';exact hρ _) h
    have e:(q.args.toList.map σ).toArray=q.args.map σ:=by apply Array.ext';simp
    rwa [e] at this)
  ·rename_i hc;obtain⟨h,hE,_,_⟩:=h;simp only[ho,resolve,hc,Sem.run_bind,Sem.run_pure,Result.andThen_ok,invoke,builtin];exact ROK.run hs hE (by
    have:=ZX (P:=c.P) (w:=w) (I:=I) (μ:=μ) (as':=q.args.toList.map ρ) (xs:=q.args.toList.map σ) (ts:=q.argTypes) (ty:=o.type) (by simp) (fun k a x ha hx=>by
     simp only[List.getElem?_map,Option.map_eq_some_iff] at ha hx;obtain⟨u,hu,rfl⟩:=ha;obtain⟨u',hu',rfl⟩:=hx;rw[hu] at hu';cases hu';exact hρ _) h
    have e:(q.args.toList.map σ).toArray=q.args.map σ:=by apply Array.ext';simp
    rwa [e] at this)
  ·rename_i f hc;obtain⟨g,fs,caps,hf,h⟩:=h;have h2:=hρ f;rw[hf] at h2;generalize hdf:σ f=u at h2;cases h2 with
   |fnc _ _ _ _ fv cv hfl hfr hcl hcr=>
    simp only[ho,resolve,hc,hdf,Deferred.ofValue,Sem.run_bind,Sem.run_pure,Result.andThen_ok,invoke];rcases h with h | h
    ·have:=Qn (vs:=fv++(q.args.map σ++cv)) hs (by simp[hcl,hfl]) (Pb hfl hfr (Pb (by simp) (Nd hρ q.args) hcr)) h
     rwa [← Array.append_assoc] at this
    ·have:=WL (vs:=fv++(q.args.map σ++cv)) hs (by simp[hcl,hfl]) (Pb hfl hfr (Pb (by simp) (Nd hρ q.args) hcr)) h
     rwa [← Array.append_assoc] at this
  ·rename_i r name hc;obtain⟨t,a,g,d,a',R0,hr,hm,ha,h,_⟩:=h;have h2:=hρ r;rw[hr] at h2;generalize hd:σ r=u at h2;cases h2 with
   |ifc _ _ _ y hy=>
    obtain⟨v',hm1,hm2⟩:=bJ hs hy hm ha (c.P.types.size+Made.depth-1);have en:c.P.types.size+Made.depth-1+1=c.P.types.size+Made.depth:=by
     have:1≤Made.depth:=by decide
     omega
    rw[en] at hm1;have:=Qn (vs:=#[v']++q.args.map σ) hs (args:=a'::q.args.toList.map ρ) (by simp;omega) (fun k z hk=>by
     cases k with
     |zero=>
      simp at hk;subst hk;rw[Array.getD_eq_getD_getElem?,Array.getElem?_append_left (by simp)];exact hm2
     |succ k=>
      have:=Nd hρ q.args k z (by simpa using hk);rw[Array.getD_eq_getD_getElem?] at this ⊢;rw[Array.getElem?_append_right (by simp)];simpa using this) h
    have e0:(#[Value.iface t y]++q.args.map σ)[0]? = some (.iface t y):=by rw[Array.getElem?_append_left (by simp)];rfl
    have e1:(#[Value.iface t y]++q.args.map σ).extract 1 (#[Value.iface t y]++q.args.map σ).size=q.args.map σ:=by
     apply Array.ext';simp only[Array.toList_extract,Array.toList_append,Array.toList_map,List.size_toArray];simp[DE]
    simp only[ho,resolve,hc,hd,Sem.run_bind,Sem.run_pure,Result.andThen_ok,invoke,e0,callMethod,run_program,hm1,e1];exact this
  ·exact h.elim
 ·exact h.elim
theorem Er (W:Fp):LU .nil W:=fun _ _ _=>rfl
theorem C5 {o:Nm} {x:VOb}:LU (.one o x) [(o,false)]:=fun o' H h=>by
 have:o' ≠ o:=fun e=>by subst e;simp[Ug,Rn] at h
 rw[Hn,Ao this]
theorem UF {P:Program} {H:Hp} {t:TypeId} {a v:A} {E:Eff} (h:FE P H t a v=some E):LU E (refs a):=by
 unfold FE at h;split at h
 ·split at h
  ·split at h
   ·split at h
    ·split at h
     ·cases h;exact C5
     ·cases h
    ·cases h
   ·split at h
    ·split at h
     ·split at h
      ·cases h;exact C5
      ·split at h
       ·cases h;exact C5
       ·cases h
     ·cases h
    ·cases h
   ·cases h
  ·cases h
 ·cases h
theorem Ub {P:Program} {H:Hp} {nm:Nm} {t u:TypeId} {a b x:A} {E:Eff} (h:Dt P H nm t u a b=some (x,E)):LU E (kL nm a):=by
 unfold Dt at h;split at h
 ·split at h
  ·split at h
   ·split at h
    ·split at h
     ·split at h
      ·cases h;exact C5
      ·cases h
     ·split at h
      ·split at h
       ·cases h;exact C5
       ·cases h
      ·cases h
     ·split at h
      ·cases h;exact Er _
      ·cases h
     ·cases h
    ·cases h
   ·cases h
  ·cases h
 ·cases h
theorem Yg {P:Program} {H:Hp} {t:TypeId} {a b x:A} {E:Eff} (h:JX P H t a b=some (x,E)):LU E (refs a):=by
 unfold JX at h;split at h
 ·split at h
  ·split at h
   ·split at h
    ·split at h
     ·split at h
      ·cases h;exact C5
      ·cases h
     ·cases h
    ·cases h
   ·cases h
  ·cases h
 ·cases h
theorem VW {P:Program} {H:Hp} {t:TypeId} {a x:A} {E:Eff} (h:GW P H t a=some (x,E)):LU E (refs a):=by
 unfold GW at h;split at h
 ·split at h
  ·split at h
   ·split at h
    ·split at h
     ·cases h;exact C5
     ·cases h
    ·cases h
   ·cases h
  ·cases h
 ·cases h
theorem TM {P:Program} {H:Hp} {t:TypeId} {m k v:A} {E:Eff} (h:FG P H t m k v=some E):LU E (refs m):=by
 unfold FG at h;split at h
 ·split at h
  ·split at h
   ·cases h;exact C5
   ·cases h
  ·cases h
 ·cases h
theorem dD {P:Program} {D:TypeId→Prop} {nm:Nm} {op:Op} {ρ:Operand→A} {H:Hp} {x:A} {E:Eff} {R W:Fp} (h:Sh P D nm op ρ H x E R W):LU E W:=by
 unfold Sh at h;split at h<;>first
  |(obtain⟨_,rfl,_,_⟩:=h;exact Er _)
  |skip
 ·obtain⟨h,_,rfl⟩:=h;unfold LD at h;split at h
  ·split at h
   ·cases h;exact C5
   ·cases h
  ·cases h
 ·obtain⟨h,_,rfl⟩:=h;unfold Xh at h;split at h
  ·cases h;exact C5
  ·cases h
 ·split at h
  ·obtain⟨_,rfl,_,_⟩:=h;exact Er _
  ·obtain⟨h,_,rfl⟩:=h;unfold Da at h;split at h
   ·split at h
    ·split at h
     ·cases h;exact C5
     ·cases h
    ·cases h
   ·cases h
 ·obtain⟨h,_,_,rfl⟩:=h;exact UF h
 ·obtain⟨h,_,rfl⟩:=h;unfold D0 at h;split at h
  ·split at h
   ·split at h
    ·cases h;exact C5
    ·cases h
   ·cases h
  ·cases h
 ·obtain⟨h,_,rfl⟩:=h;unfold Hh at h;split at h
  ·cases h;exact C5
  ·cases h
 ·obtain⟨h,_,_,rfl⟩:=h;exact TM h
 ·split at h<;>first
   |(obtain⟨_,rfl,_,_⟩:=h;exact Er _)
   |(obtain⟨_,_,_,_,_,rfl,_,_⟩:=h;exact Er _)
   |(obtain⟨_,_,_,_,_,_,h,_,rfl⟩:=h;exact Ub h)
   |(obtain⟨_,_,_,_,_,_,h,_,rfl⟩:=h;exact Yg h)
   |(obtain⟨_,_,_,_,h,_,rfl⟩:=h;exact VW h)
   |skip
  ·obtain⟨g,fs,caps,_,h⟩:=h;rcases h with (⟨_,_,rfl,_⟩ | ⟨_,rfl,_⟩ | ⟨_,h⟩) | ⟨_,h⟩
   ·exact Er _
   ·exact Er _
   ·exact h
   ·exact h
  ·obtain⟨_,_,_,_,_,_,_,_,_,h,_⟩:=h;rcases h with ⟨_,_,rfl,_⟩ | ⟨_,rfl,_⟩ | ⟨_,h⟩
   ·exact Er _
   ·exact Er _
   ·exact h
  ·exact h.elim
 ·exact h.elim
theorem SW {l l':Fp} {H H':Hp} (h:Agree l' H H') (hs:∀ p,p ∈ l→p ∈ l'):Agree l H H':=fun o ho=>h o (by
 unfold Ug at ho ⊢;rw[List.any_eq_true] at ho ⊢;obtain⟨p,h1,h2⟩:=ho;exact⟨p,hs p h1,h2⟩)
theorem ZT {P:Program} {D:TypeId→Prop} {nm:Nm} {op:Op} {ρ:Operand→A} {H H2:Hp} {x:A} {E:Eff} {R W:Fp} (h:Sh P D nm op ρ H x E R W) (ha:Agree (R++W) H H2):Sh P D nm op ρ H2 x E R W:=by
 unfold Sh at h ⊢;split at h<;>try exact h
 ·obtain⟨h1,rfl,rfl⟩:=h;have:=Cp (o:=nm) ha (by simp);refine⟨?_,rfl,rfl⟩;rw[← h1];simp[LD,this]
 ·obtain⟨h1,rfl,rfl⟩:=h;have:=Cp (o:=nm) ha (by simp);refine⟨?_,rfl,rfl⟩;rw[← h1];simp[Xh,this]
 ·split at h
  ·exact h
  ·rename_i a d;obtain⟨h1,rfl,rfl⟩:=h;have:=Cp (o:=a::d) ha (by simp);refine⟨?_,rfl,rfl⟩;rw[← h1];simp[Da,this]
 ·obtain⟨h1,rfl,rfl,rfl⟩:=h;exact⟨by rw[Oi (by simpa using ha)];exact h1,rfl,rfl,rfl⟩
 ·obtain⟨h1,rfl,rfl,rfl⟩:=h;exact⟨by rw[Tk (by simpa using ha)];exact h1,rfl,rfl,rfl⟩
 ·obtain⟨h1,rfl,rfl⟩:=h;have:=Cp (o:=nm) ha (by simp);refine⟨?_,rfl,rfl⟩;rw[← h1];simp[D0,this]
 ·obtain⟨h1,rfl,rfl⟩:=h;have:=Cp (o:=nm) ha (by simp);refine⟨?_,rfl,rfl⟩;rw[← h1];simp[Hh,this]
 ·obtain⟨h1,rfl,rfl,rfl⟩:=h;exact⟨by rw[Rh (by simpa using ha)];exact h1,rfl,rfl,rfl⟩
 ·obtain⟨h1,rfl,rfl,rfl⟩:=h;exact⟨by rw[RO (by simpa using ha)];exact h1,rfl,rfl,rfl⟩
 ·split at h<;>try exact h
  ·obtain⟨a,b,t,u,h1,h2,h3,rfl,rfl⟩:=h;exact⟨a,b,t,u,h1,h2,by rw[RG ha];exact h3,rfl,rfl⟩
  ·obtain⟨a,b,t,u,h1,h2,h3,rfl,rfl⟩:=h;exact⟨a,b,t,u,h1,h2,by rw[Vv ha];exact h3,rfl,rfl⟩
  ·obtain⟨a,t,h1,h2,h3,rfl,rfl⟩:=h;exact⟨a,t,h1,h2,by rw[Ty (by simpa using ha)];exact h3,rfl,rfl⟩
  ·obtain⟨g,fs,caps,h1,h⟩:=h;refine⟨g,fs,caps,h1,?_⟩;rcases h with (⟨k1,k2,rfl,rfl,rfl⟩ | ⟨k1,rfl,rfl,rfl⟩ | ⟨k1,k2⟩) | ⟨k1,k2⟩
   ·exact .inl (.inl ⟨k1,k2,rfl,rfl,rfl⟩)
   ·have:=Agree.all ha;subst this;exact .inl (.inr (.inl ⟨k1,rfl,rfl,rfl⟩))
   ·exact .inl (.inr (.inr ⟨fun H3 h3=>k1 H3 fun o ho=>(h3 o ho).trans (ha o ho),k2⟩))
   ·exact .inr ⟨fun H3 h3=>k1 H3 fun o ho=>(h3 o ho).trans (ha o ho),k2⟩
  ·obtain⟨t,a,g,d,a',R0,h1,h2,h3,h,rfl⟩:=h;refine⟨t,a,g,d,a',R0,h1,h2,?_,?_,rfl⟩
   ·cases d with
    |none=>exact h3
    |some e=>exact(Oi (SW ha fun p hp=>by simp[hp])).trans h3
   ·have ha:Agree (R0++W) H H2:=SW ha fun p hp=>by
     simp only[List.mem_append] at hp ⊢;rcases hp with hp | hp
     ·exact .inl (.inr hp)
     ·exact .inr hp
    rcases h with ⟨k1,k2,rfl,rfl,rfl⟩ | ⟨k1,rfl,rfl,rfl⟩ | ⟨k1,k2⟩
    ·exact .inl ⟨k1,k2,rfl,rfl,rfl⟩
    ·have:=Agree.all ha;subst this;exact .inr (.inl ⟨k1,rfl,rfl,rfl⟩)
    ·exact .inr (.inr ⟨fun H3 h3=>k1 H3 fun o ho=>(h3 o ho).trans (ha o ho),k2⟩)
def KW:Op→Nat
 |.move _ | .assign _ | .pick .. | .build .. | .nilCheck _ | .binOp .. | .unOp .. | .convert .. | .fieldAddr .. | .field .. | .index .. | .extract .. | .slice .. | .indexAddr .. | .makeFunc .. | .makeInterface .. | .typeAssert ..=>0
 |.call c=>match c.callee with
  |.builtin .len | .builtin .min | .builtin .max=>0
  |_=>2
 |.load ..=>1
 |_=>2
theorem VN {P:Program} {D:TypeId→Prop} {nm:Nm} {op:Op} {ρ:Operand→A} {H:Hp} {x:A} {E:Eff} {R W:Fp} (hc:KW op=0) (h:Sh P D nm op ρ H x E R W):R=[]∧W=[]:=by
 cases op with
 |call c=>
  obtain⟨callee,args,ats⟩:=c;cases callee with
  |builtin b=>
   cases b<;>first
    |(exact h.elim)
    |(cases hc;done)
    |(obtain⟨_,_,_,_,_,_,h1,h2⟩:=h;exact⟨h1,h2⟩)
    |(obtain⟨_,_,h1,h2⟩:=h;exact⟨h1,h2⟩)
  |_=>cases hc
 |makeFunc fn fs caps=>
  cases fn<;>first
   |(exact h.elim)
   |(obtain⟨_,_,h1,h2⟩:=h;exact⟨h1,h2⟩)
 |_=>first
  |(exact h.elim)
  |(cases hc;done)
  |(obtain⟨_,_,h1,h2⟩:=h;exact⟨h1,h2⟩)
theorem ep {P:Program} {D:TypeId→Prop} {nm:Nm} {op:Op} {ρ:Operand→A} {H:Hp} {x:A} {E:Eff} {R W:Fp} (hc:KW op≤1) (h:Sh P D nm op ρ H x E R W):W=[]:=by
 by_cases h0:KW op=0
 ·exact(VN h0 h).2
 ·have h1:KW op=1:=by omega
  cases op with
  |load t a=>exact h.2.2.2
  |call c=>
   obtain⟨callee,args,ats⟩:=c;cases callee with
   |builtin b=>cases b<;>cases h1
   |_=>cases h1
  |_=>cases h1
theorem aH {P:Program} {D:TypeId→Prop} {nm:Nm} {o:Oper} {ρ ρ':Operand→A} {H:Hp} {x:A} {E:Eff} {R W:Fp} (he:∀ y ∈ o.op.operands,ρ y=ρ' y) (h:Sh P D nm o.op ρ H x E R W):Sh P D nm o.op ρ' H x E R W:=by
 unfold Sh at h ⊢;have emap:∀ l:Array Operand,(∀ y,y ∈ l→y ∈ o.op.operands)→l.toList.map ρ'=l.toList.map ρ:=fun l hl=>by
  apply List.map_congr_left;intro y hy;exact(he y (hl y (by simpa using hy))).symm
 split at h<;>rename_i ho<;>simp only[ho,Op.operands] at he emap ⊢
 case h_6 _ t ps=>
  have e:(ps.toList.map fun p=>(p.1,ρ' p.2))=ps.toList.map fun p=>(p.1,ρ p.2):=by
   apply List.map_congr_left;intro p hp;rw[he p.2 (by simp;exact⟨p.1,by simpa using hp⟩)]
  rw[e];exact h
 case h_7 _ t n ps=>
  have e:(ps.toList.map fun p=>(p.1,ρ' p.2))=ps.toList.map fun p=>(p.1,ρ p.2):=by
   apply List.map_congr_left;intro p hp;rw[he p.2 (by simp;exact⟨p.1,by simpa using hp⟩)]
  rw[e];exact h
 case h_15 _ t a lo hi mx=>
  have ea:ρ' a=ρ a:=(he a (by simp)).symm;have e1:lo.map ρ'=lo.map ρ:=by cases lo with
   |none=>rfl
   |some y=>simp[he y (by simp)]
  have e2:hi.map ρ'=hi.map ρ:=by cases hi with
   |none=>rfl
   |some y=>simp[he y (by simp)]
  have e3:mx.map ρ'=mx.map ρ:=by cases mx with
   |none=>rfl
   |some y=>simp[he y (by simp)]
  rw[ea,e1,e2,e3];exact h
 case h_21 _ f fs caps=>
  rw[emap fs (fun y hy=>Array.mem_append_left _ hy),emap caps (fun y hy=>Array.mem_append_right _ hy)];exact h
 case h_27 _ q=>
  have emap:=emap q.args (fun y hy=>by simp only[Call.operands];exact Array.mem_append_right _ hy);split at h<;>rename_i hq<;>try simp only[hq]
  ·obtain⟨a,t,h1,h2,h3⟩:=h;have ea:ρ a=ρ' a:=he a (by simp[Call.operands,hq,h1]);exact⟨a,t,h1,h2,by rw[← ea];exact h3⟩
  ·obtain⟨a,b,t,u,h1,h2,h3⟩:=h;have ea:ρ a=ρ' a:=he a (by simp[Call.operands,hq,h1]);have eb:ρ b=ρ' b:=he b (by simp[Call.operands,hq,h1]);exact⟨a,b,t,u,h1,h2,by rw[← ea,← eb];exact h3⟩
  ·obtain⟨a,b,t,u,h1,h2,h3⟩:=h;have ea:ρ a=ρ' a:=he a (by simp[Call.operands,hq,h1]);have eb:ρ b=ρ' b:=he b (by simp[Call.operands,hq,h1]);exact⟨a,b,t,u,h1,h2,by rw[← ea,← eb];exact h3⟩
  ·obtain⟨a,t,h1,h2,h3⟩:=h;have ea:ρ a=ρ' a:=he a (by simp[Call.operands,hq,h1]);exact⟨a,t,h1,h2,by rw[← ea];exact h3⟩
  ·rw[emap];exact h
  ·rw[emap];exact h
  ·rename_i f;have ef:ρ f=ρ' f:=he f (by simp[Call.operands,hq]);rw[emap,← ef];exact h
  ·rename_i r name;have er:ρ r=ρ' r:=he r (by simp[Call.operands,hq]);rw[emap,← er];exact h
  ·exact h.elim
 case h_28=>exact h.elim
 all_goals first
  |exact h
  |(simp only[List.mem_toArray,Array.mem_def,List.mem_cons,List.not_mem_nil,or_false,forall_eq_or_imp,forall_eq] at he
    first
    |(rw[← he];exact h)
    |(obtain⟨e1,e2⟩:=he;rw[← e1,← e2];exact h)
    |(obtain⟨e1,e2,e3⟩:=he;rw[← e1,← e2,← e3];exact h))
end Go.G
